/- Cuts of the program: its steps build the table of options. -/
import Derived.Test.YtdojgffcahimjaaSpY
namespace Go.Am
open Go.Proofs
set_option maxRecDepth 100000
set_option maxHeartbeats 4000000
set_option linter.unusedVariables false
set_option linter.unusedSimpArgs false

section
variable (n0 : Nat) (c0 : Nat → Int) (n1 : Nat) (c1 : Nat → Int) (w : Int)

/-- On a line? The distance of a place. -/
def onP (p : Int) : Int := bif bsV_1 n0 c0 p then 1 else 0
def dP (i : Nat) (p : Int) : Int := absV (IntKind.wrap .i64 (p - c1 i))

theorem pc_h4 {i : Nat} (hi : i + 1 < n1) (hn1 : n1 ≤ 100) {np t : Nat} {q : Nat → Int} (ht : t < np) (hnp : np ≤ 1000) {D : Nat → Bool} {M : Nat → Nat} {F : Nat → Nat → Nat → Int} (hD : D (i + 1) = true) {L : List Opt} (hL : RowA 1 2 3 (M (i + 1)) (F (i + 1)) L) (hll : L.length ≤ 1000)
    {hn : Nat} {h : Nat → Nat → Int} (hhn : hn ≤ 3000) (v99 on : Int) : ∀ (k j : Nat) (nx : Int), j + k = L.length → (nx < 0 ∨ nx < L.length) →
    Reach (pcutsstep n0 c0 n1 c1 w) (.to (.h4 (i : Int) np q v99 (t : Int) (j : Int) D M F hn h nx on))
      (bif decide (scanI L (q t) k j nx < 0) then .to (.h3 (i : Int) np q v99 ((t + 1 : Nat) : Int) D M F hn h)
        else .to (.h3 (i : Int) np q v99 ((t + 1 : Nat) : Int) D M F (hn + 1) (app4 h hn (q t) (scanI L (q t) k j nx) (wadd on (oAt L (scanI L (q t) k j nx).toNat).on) (wadd (dP c1 i (q t)) (oAt L (scanI L (q t) k j nx).toNat).sm)))) := by
  obtain ⟨hm, hL⟩ := hL
  intro k
  have wi : IntKind.wrap .i64 ((i : Int) + 1) = ((i + 1 : Nat) : Int) := w_nat (i := i) (by omega)
  have wt : IntKind.wrap .i64 ((t : Int) + 1) = ((t + 1 : Nat) : Int) := w_nat (i := t) (by omega)
  have a1 := in_range (i := i + 1) (n := n1) hi
  have a2 := in_range (i := i) (n := n1) (by omega)
  have a3 : decide (i + 1 < n1) = true := decide_eq_true hi
  have a4 : decide (i < n1) = true := decide_eq_true (by omega)
  have a5 := next_row i
  have a6 := eq_true_b hD
  have a7 : decide ((hn + 1 + 1) * (32 + 1) ≤ room) = true := decide_eq_true (by unfold room; omega)
  induction k with
  | zero =>
    intro j nx hj hnx
    rw [show scanI L (q t) 0 j nx = nx from rfl]
    refine Reach.step ?_
    have k0 : decide ((j : Int) < ((M (i + 1) : Nat) : Int)) = false := decide_eq_false (by omega)
    by_cases hneg : nx < 0
    · have k1 : decide (nx < 0) = true := decide_eq_true hneg
      simp only [pcutsstep, wi, wt, Int.toNat_natCast, Nat.zero_add, k0, k1, cond_true, cond_false]
    · have k1 : decide (nx < 0) = false := decide_eq_false hneg
      have hlt : nx.toNat < L.length := by rcases hnx with h | h <;> omega
      have k2 : (decide (0 ≤ nx ∧ nx < ((M (i + 1) : Nat) : Int)) && true) = true := by rw [Bool.and_true]; exact decide_eq_true (by omega)
      obtain ⟨_, _, g2, g3⟩ := hL nx.toNat hlt
      simp only [pcutsstep, wi, wt, Int.toNat_natCast, Nat.zero_add, k0, k1, k2, a1, a2, a3, a4, a5, a6, a7, Nat.beq_refl, decide_true, Bool.true_and, cond_true, cond_false, g2, g3, wadd, dP]
  | succ k ih =>
    intro j nx hj hnx
    have hjl : j < L.length := by omega
    have wj : IntKind.wrap .i64 ((j : Int) + 1) = ((j + 1 : Nat) : Int) := w_nat (i := j) (by omega)
    have k0 : decide ((j : Int) < ((M (i + 1) : Nat) : Int)) = true := decide_eq_true (by omega)
    have k3 : (decide (0 ≤ (j : Int) ∧ (j : Int) < ((M (i + 1) : Nat) : Int)) && true) = true := by rw [Bool.and_true]; exact decide_eq_true (by omega)
    obtain ⟨g0, _, g2, g3⟩ := hL j hjl
    rw [scanI_succ]
    rcases bool_cases (decide ((oAt L j).pl > q t)) with e | e
    · rcases bool_cases (decide (nx < 0)) with e2 | e2
      · refine Reach.head ?_ (by rw [e, e2, cond_true, cond_true]; exact ih (j + 1) (j : Int) (by omega) (.inr (by omega)))
        simp only [pcutsstep, wi, wj, Int.toNat_natCast, Nat.zero_add, k0, k3, g0, e, e2, cond_true, cond_false]
      · have hneg := of_decide_eq_false e2
        have hlt : nx.toNat < L.length := by rcases hnx with h | h <;> omega
        have k2 : (decide (0 ≤ nx ∧ nx < ((M (i + 1) : Nat) : Int)) && true) = true := by rw [Bool.and_true]; exact decide_eq_true (by omega)
        obtain ⟨_, _, f2, f3⟩ := hL nx.toNat hlt
        rcases bool_cases (betV (oAt L j).on (oAt L j).sm (oAt L nx.toNat).on (oAt L nx.toNat).sm) with e3 | e3
        · refine Reach.head ?_ (by rw [e, e2, e3, cond_true, cond_false, cond_true]; exact ih (j + 1) (j : Int) (by omega) (.inr (by omega)))
          simp only [pcutsstep, wi, wj, Int.toNat_natCast, Nat.zero_add, k0, k2, k3, g0, g2, g3, f2, f3, a1, a3, a5, a6, e, e2, e3, cond_true, cond_false]
        · refine Reach.head ?_ (by rw [e, e2, e3, cond_true, cond_false, cond_false]; exact ih (j + 1) nx (by omega) hnx)
          simp only [pcutsstep, wi, wj, Int.toNat_natCast, Nat.zero_add, k0, k2, k3, g0, g2, g3, f2, f3, a1, a3, a5, a6, e, e2, e3, cond_true, cond_false]
    · refine Reach.head ?_ (by rw [e, cond_false]; exact ih (j + 1) nx (by omega) hnx)
      simp only [pcutsstep, wi, wj, Int.toNat_natCast, Nat.zero_add, k0, k3, g0, e, cond_true, cond_false]

/-- The loop over the places of a cut: the row of its options. -/
theorem pc_h3 (L0 : Lines n0 c0) {i : Nat} (hi : i < n1) (hn1 : n1 ≤ 100) (P : List Int) (hP : P.length ≤ 1000) {q : Nat → Int} (hq : ∀ t, t < P.length → q t = P.getD t 0) {D : Nat → Bool} {M : Nat → Nat} {F : Nat → Nat → Nat → Int}
    (nxt : Option (List Opt)) (hnxt : (nxt = none ∧ i + 1 = n1) ∨ ∃ L, nxt = some L ∧ i + 1 < n1 ∧ D (i + 1) = true ∧ RowA 1 2 3 (M (i + 1)) (F (i + 1)) L ∧ L.length ≤ 1000) :
    ∀ (k t hn : Nat) (h : Nat → Nat → Int) (Lr : List Opt), t + k = P.length → RowA 1 2 3 hn h Lr → hn ≤ t →
    ∃ hn' h', RowA 1 2 3 hn' h' (Lr ++ rowL (onP n0 c0) (dP c1 i) nxt (P.drop t)) ∧ Reach (pcutsstep n0 c0 n1 c1 w) (.to (.h3 (i : Int) P.length q (P.length : Int) (t : Int) D M F hn h)) (.to (.h0 ((i : Int) - 1) (updB D i) (updN M i hn') (updF F i h'))) := by
  have wn : IntKind.wrap .i64 ((n1 : Int) - 1) = (n1 : Int) - 1 := w_in (by omega) (by omega)
  have wm : IntKind.wrap .i64 ((i : Int) - 1) = (i : Int) - 1 := w_in (by omega) (by omega)
  have a2 := in_range (i := i) (n := n1) hi
  have a4 : decide (i < n1) = true := decide_eq_true hi
  intro k
  induction k with
  | zero =>
    intro t hn h Lr ht hR hle
    have k0 : decide ((t : Int) < (P.length : Int)) = false := decide_eq_false (by omega)
    refine ⟨hn, h, ?_, Reach.step ?_⟩
    · rw [List.drop_eq_nil_of_le (by omega)]
      simpa [rowL] using hR
    · simp only [pcutsstep, k0, cond_false, wm, Int.toNat_natCast, Nat.zero_add]
  | succ k ih =>
    intro t hn h Lr ht hR hle
    have htl : t < P.length := by omega
    have k0 : decide ((t : Int) < (P.length : Int)) = true := decide_eq_true (by omega)
    have a1 := in_range (i := t) (n := P.length) htl
    have a3 : decide (t < P.length) = true := decide_eq_true htl
    have wt : IntKind.wrap .i64 ((t : Int) + 1) = ((t + 1 : Nat) : Int) := w_nat (i := t) (by omega)
    have a5 : bsV_owed n0 c0 (q t) = true := pd_true ⟨by have := L0.len; omega, fun i j h1 h2 => Int.le_of_lt (L0.up i j h1 h2)⟩
    have a7 : decide ((hn + 1 + 1) * (32 + 1) ≤ room) = true := decide_eq_true (by unfold room; omega)
    have hdrop : P.drop t = q t :: P.drop (t + 1) := by
      rw [hq t htl, List.drop_eq_getElem_cons htl]
      simp [htl]
    rw [hdrop]
    rcases hnxt with ⟨rfl, hlast⟩ | ⟨L, rfl, hlt, hD, hL, hll⟩
    · have k1 : decide ((i : Int) < (n1 : Int) - 1) = false := decide_eq_false (by omega)
      obtain ⟨hn', h', g1, g2⟩ := ih (t + 1) (hn + 1) (app4 h hn (q t) (-1) (onP n0 c0 (q t)) (dP c1 i (q t))) (Lr ++ [⟨q t, -1, onP n0 c0 (q t), dP c1 i (q t)⟩]) (by omega) (hR.snocP _ _ _ _) (by omega)
      refine ⟨hn', h', by rw [List.append_assoc] at g1; exact g1, Reach.head ?_ g2⟩
      rcases bool_cases (bsV_1 n0 c0 (q t)) with e | e <;>
        simp only [pcutsstep, k0, k1, wn, wt, e, onP, dP, a1, a2, a3, a4, a5, a7, Nat.beq_refl, decide_true, Bool.true_and, cond_true, cond_false, Int.toNat_natCast, Nat.zero_add]
    · have k1 : decide ((i : Int) < (n1 : Int) - 1) = true := decide_eq_true (by omega)
      have wi : IntKind.wrap .i64 ((i : Int) + 1) = ((i + 1 : Nat) : Int) := w_nat (i := i) (by omega)
      have b1 := in_range (i := i + 1) (n := n1) hlt
      have b3 : decide (i + 1 < n1) = true := decide_eq_true hlt
      have b5 := next_row i
      have b6 := eq_true_b hD
      have hs := pc_h4 n0 c0 n1 c1 w hlt hn1 (np := P.length) (t := t) (q := q) htl hP hD hL hll (hn := hn) (h := h) (by omega) (P.length : Int) (onP n0 c0 (q t)) L.length 0 (-1) (Nat.zero_add _) (.inl (by omega))
      have first : Reach (pcutsstep n0 c0 n1 c1 w) (.to (.h3 (i : Int) P.length q (P.length : Int) (t : Int) D M F hn h)) (.to (.h4 (i : Int) P.length q (P.length : Int) (t : Int) ((0 : Nat) : Int) D M F hn h (-1) (onP n0 c0 (q t)))) := by
        refine Reach.step ?_
        rcases bool_cases (bsV_1 n0 c0 (q t)) with e | e <;>
          (simp only [pcutsstep, k0, k1, wn, wi, e, onP, a1, a2, a3, a4, a5, b1, b3, b5, b6, cond_true, cond_false, Int.toNat_natCast, Nat.zero_add]; rfl)
      have hs := first.trans hs
      rcases bool_cases (decide (scanI L (q t) L.length 0 (-1) < 0)) with e | e
      · rw [e, cond_true] at hs
        obtain ⟨hn', h', g1, g2⟩ := ih (t + 1) hn h Lr (by omega) hR (by omega)
        refine ⟨hn', h', ?_, hs.trans g2⟩
        show RowA 1 2 3 hn' h' (Lr ++ (bif decide (scanI L (q t) L.length 0 (-1) < 0) then _ else _))
        rw [e, cond_true]; exact g1
      · rw [e, cond_false] at hs
        obtain ⟨hn', h', g1, g2⟩ := ih (t + 1) (hn + 1) _ (Lr ++ [⟨q t, scanI L (q t) L.length 0 (-1), wadd (onP n0 c0 (q t)) (oAt L (scanI L (q t) L.length 0 (-1)).toNat).on, wadd (dP c1 i (q t)) (oAt L (scanI L (q t) L.length 0 (-1)).toNat).sm⟩]) (by omega) (hR.snocP _ _ _ _) (by omega)
        refine ⟨hn', h', ?_, hs.trans g2⟩
        show RowA 1 2 3 hn' h' (Lr ++ (bif decide (scanI L (q t) L.length 0 (-1) < 0) then _ else _))
        rw [e, cond_false]
        rw [List.append_assoc] at g1
        exact g1
end
end Go.Am
