/- Lines at the same distances, on both sides: one value; the contracts. -/
import Derived.Test.YtdojgffcahimjaaSpI
import Derived.Test.YtdojgffcahimjaaSpC
namespace Go.Am
open Go.Proofs
set_option maxRecDepth 100000
set_option linter.unusedVariables false
set_option linter.unusedSimpArgs false

def gridC (f s : Int) : Nat → Int := fun i => f + (i : Int) * s
def gridBad (f s : Int) (i : Nat) : Bool := bif decide (gridC f s i < -1000000) then true else decide (gridC f s i > 1000000)
def gridE (f s m : Int) : Int := bif decide (s < 1) then 2 else bif decide (s > 1000000) then 2 else bif decide (m < 0) then 2 else bif decide (m > 100) then 2 else bif anyF (gridBad f s) m.toNat 0 then 16 else 0
def gridN (f s m : Int) : Nat := bif gridE f s m != 0 then 0 else m.toNat

theorem gridC_succ (f s : Int) (i : Nat) : gridC f s (i + 1) = gridC f s i + s := by
  unfold gridC
  rw [show ((i + 1 : Nat) : Int) = (i : Int) + 1 by omega, Int.add_mul]
  omega
theorem room1 {i : Nat} (h : i ≤ 100) : (Nat.beq 1 1 && (decide (0 + i = i) && decide ((i + 1 + 1) * (8 + 1) ≤ room))) = true := by
  have : decide (0 + i = i) = true := decide_eq_true (Nat.zero_add i)
  rw [this, decide_eq_true (show (i + 1 + 1) * (8 + 1) ≤ room by unfold room; omega)]
  rfl

theorem pgrid_go (f s : Int) (M : Nat) (hs : 1 ≤ s) (hs2 : s ≤ 1000000) (hM : M ≤ 100) : ∀ (k i : Nat) (cc : Nat → Int), i + k = M → (∀ j, j < i → cc j = gridC f s j) →
    ∃ cc', goOn (pgridstep f s (M : Int)) (k + 1) (.to (.h0 (gridC f s i) i cc (i : Int))) = (bif anyF (gridBad f s) k i then .ret [.nils, .int .i64 16] else .ret [frzS 1 1 0 M M (iget cc'), .int .i64 0]) ∧ ∀ j, j < M → cc' j = gridC f s j
  | 0, i, cc, h, hc => by
    obtain rfl : i = M := by omega
    refine ⟨cc, ?_, hc⟩
    rw [goOn_to]
    have k0 : decide ((i : Int) < (i : Int)) = false := decide_eq_false (by omega)
    simp only [pgridstep, k0, cond_false, anyF, goOn_ret]
  | k + 1, i, cc, h, hc => by
    rw [goOn_to]
    simp only [pgridstep, lt_t h, cond_true, room1 (i := i) (by omega)]
    rcases bool_cases (decide (gridC f s i < -1000000)) with e1 | e1
    · refine ⟨gridC f s, ?_, fun _ _ => rfl⟩
      simp only [anyF, gridBad, e1, cond_true, goOn_ret]
    rcases bool_cases (decide (gridC f s i > 1000000)) with e2 | e2
    · refine ⟨gridC f s, ?_, fun _ _ => rfl⟩
      simp only [anyF, gridBad, e1, e2, cond_true, cond_false, goOn_ret]
    have g1 := of_decide_eq_false e1
    have g2 := of_decide_eq_false e2
    obtain ⟨cc', a, b⟩ := pgrid_go f s M hs hs2 hM k (i + 1) (appC cc i (gridC f s i)) (by omega) fun j hj => by
      unfold appC
      rcases bool_cases (Nat.ble i j) with q | q
      · have := Nat.le_of_ble_eq_true q
        obtain rfl : i = j := by omega
        rw [q]; rfl
      · rw [q]
        have : ¬ i ≤ j := fun q' => by rw [Nat.ble_eq_true_of_le q'] at q; cases q
        exact hc j (by omega)
    refine ⟨cc', ?_, b⟩
    simp only [anyF, gridBad, e1, e2, cond_false]
    rw [w_nat (i := i) (by omega), w_in (n := gridC f s i + s) (by omega) (by omega), ← gridC_succ]
    exact a

theorem vrel_tup2 {a a' b : AVal} (h : ∀ (ρ : Rho) (u : Value), VRel ρ a u → VRel ρ a' u) (ρ : Rho) (u : Value) (hv : VRel ρ (.tup [a, b]) u) : VRel ρ (.tup [a', b]) u := by
  cases hv with
  | tup _ vs hl hh =>
    refine .tup _ vs hl fun i h1 h2 => ?_
    cases i with
    | zero => exact h ρ _ (hh 0 h1 h2)
    | succ i => cases i with
      | zero => exact hh 1 h1 h2
      | succ i => exact absurd h1 (by simp)
theorem grid_err {f s m e : Int} (he : gridE f s m = e) (h0 : (e != 0) = true) : ∀ (ρ : Rho) (u : Value), VRel ρ (packed [.nils, .int .i64 e]) u → VRel ρ (.tup [.dat (gridN f s m) (iget (gridC f s)), .int .i64 (gridE f s m)]) u := by
  rw [he]
  unfold gridN
  rw [he, h0, cond_true]
  exact vrel_tup2 fun ρ u h => vrel_nils_dat h
theorem pgrid_run (f s m : Int) : ∃ N vs, goOn (pgridstep f s m) N (pgridstart f s m) = .ret vs ∧ (∀ (ρ : Rho) (u : Value), VRel ρ (packed vs) u → VRel ρ (.tup [.dat (gridN f s m) (iget (gridC f s)), .int .i64 (gridE f s m)]) u) ∧ pf 4 (packed vs) = true := by
  unfold pgridstart
  rcases bool_cases (decide (s < 1)) with e1 | e1
  · exact ⟨0, [.nils, .int .i64 2], by simp only [e1, cond_true, goOn_ret], grid_err (by simp only [gridE, e1, cond_true]) rfl, rfl⟩
  rcases bool_cases (decide (s > 1000000)) with e2 | e2
  · exact ⟨0, [.nils, .int .i64 2], by simp only [e1, e2, cond_true, cond_false, goOn_ret], grid_err (by simp only [gridE, e1, e2, cond_true, cond_false]) rfl, rfl⟩
  rcases bool_cases (decide (m < 0)) with e3 | e3
  · exact ⟨0, [.nils, .int .i64 2], by simp only [e1, e2, e3, cond_true, cond_false, goOn_ret], grid_err (by simp only [gridE, e1, e2, e3, cond_true, cond_false]) rfl, rfl⟩
  rcases bool_cases (decide (m > 100)) with e4 | e4
  · exact ⟨0, [.nils, .int .i64 2], by simp only [e1, e2, e3, e4, cond_true, cond_false, goOn_ret], grid_err (by simp only [gridE, e1, e2, e3, e4, cond_true, cond_false]) rfl, rfl⟩
  have g1 := of_decide_eq_false e1
  have g2 := of_decide_eq_false e2
  have g3 := of_decide_eq_false e3
  have g4 := of_decide_eq_false e4
  obtain ⟨M, rfl⟩ : ∃ M : Nat, m = (M : Int) := ⟨m.toNat, by omega⟩
  obtain ⟨cc', a, b⟩ := pgrid_go f s M (by omega) (by omega) (by omega) M 0 (listC []) (Nat.zero_add _) fun j hj => absurd hj (Nat.not_lt_zero _)
  have hz : gridC f s 0 = f := by unfold gridC; simp
  rw [hz] at a
  simp only [e1, e2, e3, e4, cond_false]
  rcases bool_cases (anyF (gridBad f s) M 0) with e5 | e5
  · rw [e5, cond_true] at a
    exact ⟨M + 1, _, a, grid_err (by simp only [gridE, e1, e2, e3, e4, cond_false, Int.toNat_natCast, e5, cond_true]) rfl, rfl⟩
  · rw [e5, cond_false] at a
    have he : gridE f s (M : Int) = 0 := by simp only [gridE, e1, e2, e3, e4, cond_false, Int.toNat_natCast, e5]
    refine ⟨M + 1, _, a, ?_, ?_⟩
    · have hn : gridN f s (M : Int) = M := by unfold gridN; rw [he]; simp
      rw [he, hn]
      refine vrel_tup2 fun ρ u h => ?_
      rw [frzS_eq] at h
      exact vrel_dat_congr (fun i hi => by unfold iget; rw [b i hi]) h
    · show pf 4 (.tup [frzS 1 1 0 M M (iget cc'), .int .i64 0]) = true
      rw [frzS_eq]; rfl
end Go.Am
/- Lines at the same distances, by the reference; the contracts of both. -/
namespace Go.Am
open Go.Proofs
set_option maxRecDepth 100000
set_option linter.unusedVariables false
set_option linter.unusedSimpArgs false

theorem mul_bound {i : Nat} {s : Int} (hs : 1 ≤ s) (hs2 : s ≤ 1000000) (hi : i ≤ 100) : 0 ≤ (i : Int) * s ∧ (i : Int) * s ≤ 100000000 := by
  refine ⟨Int.mul_nonneg (by omega) (by omega), ?_⟩
  have h1 : (i : Int) * s ≤ 100 * s := Int.mul_le_mul_of_nonneg_right (by omega) (by omega)
  omega

theorem rgrid_go (f s : Int) (M : Nat) (hs : 1 ≤ s) (hs2 : s ≤ 1000000) (hM : M ≤ 100) (hf : 0 < M → -1000000 ≤ f ∧ f ≤ 1000000) : ∀ (k i : Nat) (cc : Nat → Int), i + k = M → (∀ j, j < i → cc j = gridC f s j) →
    ∃ cc', goOn (rgridstep f s (M : Int)) (k + 1) (.to (.h0 i cc (i : Int))) = (bif anyF (gridBad f s) k i then .ret [.nils, .int .i64 16] else .ret [frzS 1 1 0 M M (iget cc'), .int .i64 0]) ∧ ∀ j, j < M → cc' j = gridC f s j
  | 0, i, cc, h, hc => by
    obtain rfl : i = M := by omega
    refine ⟨cc, ?_, hc⟩
    rw [goOn_to]
    have k0 : decide ((i : Int) < (i : Int)) = false := decide_eq_false (by omega)
    simp only [rgridstep, k0, cond_false, anyF, goOn_ret]
  | k + 1, i, cc, h, hc => by
    obtain ⟨hf1, hf2⟩ := hf (by omega)
    obtain ⟨m1, m2⟩ := mul_bound (i := i) hs hs2 (by omega)
    have hg : IntKind.i64.wrap (f + IntKind.i64.wrap ((i : Int) * s)) = gridC f s i := by
      rw [w_in (n := (i : Int) * s) (by omega) (by omega), w_in (by omega) (by omega)]; rfl
    have e1 : decide (gridC f s i < -1000000) = false := decide_eq_false (by unfold gridC; omega)
    rw [goOn_to]
    simp only [rgridstep, lt_t h, cond_true, hg, room1 (i := i) (by omega)]
    rcases bool_cases (decide (gridC f s i > 1000000)) with e2 | e2
    · refine ⟨gridC f s, ?_, fun _ _ => rfl⟩
      simp only [anyF, gridBad, e1, e2, cond_true, cond_false, goOn_ret]
    obtain ⟨cc', a, b⟩ := rgrid_go f s M hs hs2 hM hf k (i + 1) (appC cc i (gridC f s i)) (by omega) fun j hj => by
      unfold appC
      rcases bool_cases (Nat.ble i j) with q | q
      · have := Nat.le_of_ble_eq_true q
        obtain rfl : i = j := by omega
        rw [q]; rfl
      · rw [q]
        have : ¬ i ≤ j := fun q' => by rw [Nat.ble_eq_true_of_le q'] at q; cases q
        exact hc j (by omega)
    refine ⟨cc', ?_, b⟩
    simp only [anyF, gridBad, e1, e2, cond_false]
    rw [w_nat (i := i) (by omega)]
    exact a

theorem rgrid_run (f s m : Int) : ∃ N vs, goOn (rgridstep f s m) N (rgridstart f s m) = .ret vs ∧ (∀ (ρ : Rho) (u : Value), VRel ρ (packed vs) u → VRel ρ (.tup [.dat (gridN f s m) (iget (gridC f s)), .int .i64 (gridE f s m)]) u) ∧ pf 4 (packed vs) = true := by
  unfold rgridstart
  rcases bool_cases (decide (s < 1)) with e1 | e1
  · exact ⟨0, [.nils, .int .i64 2], by simp only [e1, cond_true, goOn_ret], grid_err (by simp only [gridE, e1, cond_true]) rfl, rfl⟩
  rcases bool_cases (decide (s > 1000000)) with e2 | e2
  · exact ⟨0, [.nils, .int .i64 2], by simp only [e1, e2, cond_true, cond_false, goOn_ret], grid_err (by simp only [gridE, e1, e2, cond_true, cond_false]) rfl, rfl⟩
  rcases bool_cases (decide (m < 0)) with e3 | e3
  · exact ⟨0, [.nils, .int .i64 2], by simp only [e1, e2, e3, cond_true, cond_false, goOn_ret], grid_err (by simp only [gridE, e1, e2, e3, cond_true, cond_false]) rfl, rfl⟩
  rcases bool_cases (decide (m > 100)) with e4 | e4
  · exact ⟨0, [.nils, .int .i64 2], by simp only [e1, e2, e3, e4, cond_true, cond_false, goOn_ret], grid_err (by simp only [gridE, e1, e2, e3, e4, cond_true, cond_false]) rfl, rfl⟩
  have g1 := of_decide_eq_false e1
  have g2 := of_decide_eq_false e2
  have g3 := of_decide_eq_false e3
  have g4 := of_decide_eq_false e4
  obtain ⟨M, rfl⟩ : ∃ M : Nat, m = (M : Int) := ⟨m.toNat, by omega⟩
  have hz : gridC f s 0 = f := by unfold gridC; simp
  have fin : (0 < M → -1000000 ≤ f ∧ f ≤ 1000000) → ∃ N vs, goOn (rgridstep f s (M : Int)) N (.to (.h0 0 (listC []) 0)) = .ret vs ∧ (∀ (ρ : Rho) (u : Value), VRel ρ (packed vs) u → VRel ρ (.tup [.dat (gridN f s M) (iget (gridC f s)), .int .i64 (gridE f s M)]) u) ∧ pf 4 (packed vs) = true := fun hf => by
    obtain ⟨cc', a, b⟩ := rgrid_go f s M (by omega) (by omega) (by omega) hf M 0 (listC []) (Nat.zero_add _) fun j hj => absurd hj (Nat.not_lt_zero _)
    rcases bool_cases (anyF (gridBad f s) M 0) with e5 | e5
    · rw [e5, cond_true] at a
      exact ⟨M + 1, _, a, grid_err (by simp only [gridE, e1, e2, e3, e4, cond_false, Int.toNat_natCast, e5, cond_true]) rfl, rfl⟩
    · rw [e5, cond_false] at a
      have he : gridE f s (M : Int) = 0 := by simp only [gridE, e1, e2, e3, e4, cond_false, Int.toNat_natCast, e5]
      refine ⟨M + 1, _, a, ?_, ?_⟩
      · have hn : gridN f s (M : Int) = M := by unfold gridN; rw [he]; simp
        rw [he, hn]
        refine vrel_tup2 fun ρ u h => ?_
        rw [frzS_eq] at h
        exact vrel_dat_congr (fun i hi => by unfold iget; rw [b i hi]) h
      · show pf 4 (.tup [frzS 1 1 0 M M (iget cc'), .int .i64 0]) = true
        rw [frzS_eq]; rfl
  have first : ∀ q : Nat, M = q + 1 → (f < -1000000 ∨ f > 1000000) → gridE f s (M : Int) = 16 := fun q hq hfar => by
    have : anyF (gridBad f s) M 0 = true := by
      rw [hq]
      unfold anyF gridBad
      rw [hz]
      rcases hfar with h | h
      · rw [decide_eq_true h]; rfl
      · rcases bool_cases (decide (f < -1000000)) with e | e
        · rw [e]; rfl
        · rw [e, decide_eq_true h]; rfl
    simp only [gridE, e1, e2, e3, e4, cond_false, Int.toNat_natCast, this, cond_true]
  simp only [e1, e2, e3, e4, cond_false]
  cases M with
  | zero => exact fin fun h => absurd h (Nat.lt_irrefl 0)
  | succ q =>
    have k0 : decide (((q + 1 : Nat) : Int) > 0) = true := decide_eq_true (by omega)
    rw [k0, cond_true]
    rcases bool_cases (decide (f < -1000000)) with e5 | e5
    · rw [e5, cond_true]
      exact ⟨0, _, rfl, grid_err (first q rfl (.inl (of_decide_eq_true e5))) rfl, rfl⟩
    rcases bool_cases (decide (f > 1000000)) with e6 | e6
    · rw [e5, cond_false, e6, cond_true]
      exact ⟨0, _, rfl, grid_err (first q rfl (.inr (of_decide_eq_true e6))) rfl, rfl⟩
    rw [e5, cond_false, e6, cond_false]
    have g5 := of_decide_eq_false e5
    have g6 := of_decide_eq_false e6
    exact fin fun _ => ⟨by omega, by omega⟩

noncomputable def fGrid : List AVal → Option (AVal × Bool)
  | [.int .i64 f, .int .i64 s, .int .i64 m] => some (.tup [.dat (gridN f s m) (iget (gridC f s)), .int .i64 (gridE f s m)], true)
  | _ => none
noncomputable def S5 : Specs := (S4.with 23 fGrid).with 24 fGrid
theorem S5_ok : SpecsOk Try.prog S5 := by
  refine with_ends' (with_ends' S4_ok (by kernel_rfl) ?_) (by kernel_rfl) ?_
  · intro args v h
    unfold fGrid at h
    split at h
    · rename_i f s m
      simp only [Option.some.injEq, Prod.mk.injEq] at h
      obtain ⟨rfl, _⟩ := h
      obtain ⟨N, vs, a, b, d⟩ := pgrid_run f s m
      exact ⟨vs, b, pgrid_ends f s m N vs a, 4, d⟩
    · cases h
  · intro args v h
    unfold fGrid at h
    split at h
    · rename_i f s m
      simp only [Option.some.injEq, Prod.mk.injEq] at h
      obtain ⟨rfl, _⟩ := h
      obtain ⟨N, vs, a, b, d⟩ := rgrid_run f s m
      exact ⟨vs, b, rgrid_ends f s m N vs a, 4, d⟩
    · cases h
end Go.Am
