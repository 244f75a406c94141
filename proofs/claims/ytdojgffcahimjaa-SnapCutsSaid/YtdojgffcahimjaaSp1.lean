/- The table of cuts, as plain lists: rows of options, the best next option, the way back. -/
import Derived.Test.YtdojgffcahimjaaSpW
namespace Go.Am
open Go.Proofs
set_option maxRecDepth 100000
set_option linter.unusedVariables false
set_option linter.unusedSimpArgs false

/-- A place of a cut: the option of the next cut, how many are on lines from here on, and how far all are moved. -/
structure Opt where
  pl : Int
  nx : Int
  on : Int
  sm : Int
def Opt.z : Opt := ⟨0, 0, 0, 0⟩
def oAt (L : List Opt) (j : Nat) : Opt := L.getD j Opt.z
def wadd (a b : Int) : Int := IntKind.wrap .i64 (a + b)

/-- The best option behind p, from option j on, k of them; nx: the best so far. -/
def scanI (L : List Opt) (p : Int) : Nat → Nat → Int → Int
  | 0, _, nx => nx
  | k + 1, j, nx => scanI L p k (j + 1) (bif decide ((oAt L j).pl > p) then (bif decide (nx < 0) then (j : Int) else bif betV (oAt L j).on (oAt L j).sm (oAt L nx.toNat).on (oAt L nx.toNat).sm then (j : Int) else nx) else nx)
theorem scanI_succ (L : List Opt) (p : Int) (k j : Nat) (nx : Int) : scanI L p (k + 1) j nx = scanI L p k (j + 1) (bif decide ((oAt L j).pl > p) then (bif decide (nx < 0) then (j : Int) else bif betV (oAt L j).on (oAt L j).sm (oAt L nx.toNat).on (oAt L nx.toNat).sm then (j : Int) else nx) else nx) := rfl

/-- The options of a cut with these places. -/
def rowL (onF dF : Int → Int) (nxt : Option (List Opt)) : List Int → List Opt
  | [] => []
  | p :: ps => match nxt with
    | none => ⟨p, -1, onF p, dF p⟩ :: rowL onF dF nxt ps
    | some L => bif decide (scanI L p L.length 0 (-1) < 0) then rowL onF dF nxt ps
      else ⟨p, scanI L p L.length 0 (-1), wadd (onF p) (oAt L (scanI L p L.length 0 (-1)).toNat).on, wadd (dF p) (oAt L (scanI L p L.length 0 (-1)).toNat).sm⟩ :: rowL onF dF nxt ps

/-- The options of the cut that is d cuts ahead of the last one of n. -/
def tabD (onF : Int → Int) (dF : Nat → Int → Int) (P : Nat → List Int) (n : Nat) : Nat → List Opt
  | 0 => rowL onF (dF (n - 1)) none (P (n - 1))
  | d + 1 => rowL onF (dF (n - 1 - (d + 1))) (some (tabD onF dF P n d)) (P (n - 1 - (d + 1)))
def tabI (onF : Int → Int) (dF : Nat → Int → Int) (P : Nat → List Int) (n i : Nat) : List Opt := tabD onF dF P n (n - 1 - i)
theorem tabI_last (onF : Int → Int) (dF : Nat → Int → Int) (P : Nat → List Int) {n i : Nat} (h : i + 1 = n) : tabI onF dF P n i = rowL onF (dF i) none (P i) := by
  unfold tabI
  rw [show n - 1 - i = 0 by omega]
  unfold tabD
  rw [show n - 1 = i by omega]
theorem tabI_next (onF : Int → Int) (dF : Nat → Int → Int) (P : Nat → List Int) {n i : Nat} (h : i + 1 < n) : tabI onF dF P n i = rowL onF (dF i) (some (tabI onF dF P n (i + 1))) (P i) := by
  unfold tabI
  rw [show n - 1 - i = (n - 1 - (i + 1)) + 1 by omega]
  show rowL onF (dF (n - 1 - ((n - 1 - (i + 1)) + 1))) _ (P (n - 1 - ((n - 1 - (i + 1)) + 1))) = _
  rw [show n - 1 - ((n - 1 - (i + 1)) + 1) = i by omega]

/-- The places on the way back, from cut i on, k of them. -/
def chainL (T : Nat → List Opt) : Nat → Nat → Int → List Int
  | 0, _, _ => []
  | k + 1, i, a => (oAt (T i) a.toNat).pl :: chainL T k (i + 1) (oAt (T i) a.toNat).nx
theorem chainL_len (T : Nat → List Opt) : ∀ (k i : Nat) (a : Int), (chainL T k i a).length = k
  | 0, _, _ => rfl
  | k + 1, i, a => by unfold chainL; rw [List.length_cons, chainL_len T k]

/-- Rows of four numbers, and options: x, y, z: the places of nx, on, sm. -/
def RowA (x y z n : Nat) (h : Nat → Nat → Int) (L : List Opt) : Prop := n = L.length ∧ ∀ j, j < L.length → h j 0 = (oAt L j).pl ∧ h j x = (oAt L j).nx ∧ h j y = (oAt L j).on ∧ h j z = (oAt L j).sm
theorem oAt_left {L M : List Opt} {j : Nat} (h : j < L.length) : oAt (L ++ M) j = oAt L j := by
  unfold oAt
  simp [List.getElem?_append_left h]
theorem oAt_snoc (L : List Opt) (o : Opt) : oAt (L ++ [o]) L.length = o := by simp [oAt]
theorem RowA.nil (x y z : Nat) (h : Nat → Nat → Int) : RowA x y z 0 h [] := ⟨rfl, fun j hj => absurd hj (Nat.not_lt_zero _)⟩
theorem RowA.snocP {n : Nat} {h : Nat → Nat → Int} {L : List Opt} (H : RowA 1 2 3 n h L) (p nx on sm : Int) : RowA 1 2 3 (n + 1) (app4 h n p nx on sm) (L ++ [⟨p, nx, on, sm⟩]) := by
  obtain ⟨rfl, H⟩ := H
  refine ⟨by simp, fun j hj => ?_⟩
  rw [List.length_append, List.length_singleton] at hj
  unfold app4
  rcases Nat.lt_or_ge j L.length with q | q
  · rw [oAt_left q, show Nat.ble L.length j = false from Bool.eq_false_iff.2 fun e => by have := Nat.le_of_ble_eq_true e; omega]
    exact H j q
  · have e : j = L.length := by omega
    subst e
    rw [oAt_snoc, show Nat.ble L.length L.length = true from Nat.ble_eq_true_of_le (Nat.le_refl _)]
    exact ⟨rfl, rfl, rfl, rfl⟩
theorem RowA.snocR {n : Nat} {h : Nat → Nat → Int} {L : List Opt} (H : RowA 3 1 2 n h L) (p nx on sm : Int) : RowA 3 1 2 (n + 1) (app4 h n p on sm nx) (L ++ [⟨p, nx, on, sm⟩]) := by
  obtain ⟨rfl, H⟩ := H
  refine ⟨by simp, fun j hj => ?_⟩
  rw [List.length_append, List.length_singleton] at hj
  unfold app4
  rcases Nat.lt_or_ge j L.length with q | q
  · rw [oAt_left q, show Nat.ble L.length j = false from Bool.eq_false_iff.2 fun e => by have := Nat.le_of_ble_eq_true e; omega]
    exact H j q
  · have e : j = L.length := by omega
    subst e
    rw [oAt_snoc, show Nat.ble L.length L.length = true from Nat.ble_eq_true_of_le (Nat.le_refl _)]
    exact ⟨rfl, rfl, rfl, rfl⟩

/-- The scan gives an option that is there, or a negative number. -/
theorem scanI_in (L : List Opt) (p : Int) : ∀ (k j : Nat) (nx : Int), j + k ≤ L.length → (nx < 0 ∨ nx < L.length) → scanI L p k j nx < 0 ∨ scanI L p k j nx < L.length
  | 0, j, nx, _, h => h
  | k + 1, j, nx, hk, h => by
    rw [scanI_succ]
    refine scanI_in L p k (j + 1) _ (by omega) ?_
    rcases bool_cases (decide ((oAt L j).pl > p)) with e | e <;> rw [e]
    · rw [cond_true]
      rcases bool_cases (decide (nx < 0)) with e2 | e2 <;> rw [e2]
      · rw [cond_true]; exact .inr (by omega)
      · rw [cond_false]
        rcases bool_cases (betV (oAt L j).on (oAt L j).sm (oAt L nx.toNat).on (oAt L nx.toNat).sm) with e3 | e3 <;> rw [e3]
        · rw [cond_true]; exact .inr (by omega)
        · exact h
    · exact h

/-! ### Steps, any number of them -/
def Reach {σ : Type} (step : σ → Out' σ) (o o' : Out' σ) : Prop := ∃ N, goOn step N o = o'
theorem Reach.refl {σ : Type} {step : σ → Out' σ} (o : Out' σ) : Reach step o o := ⟨0, rfl⟩
theorem goOn_plus {σ : Type} (step : σ → Out' σ) : ∀ (a b : Nat) (o : Out' σ), goOn step (a + b) o = goOn step b (goOn step a o)
  | 0, b, o => by rw [Nat.zero_add]; rfl
  | a + 1, b, .to s => by rw [show a + 1 + b = (a + b) + 1 by omega, goOn_to, goOn_to]; exact goOn_plus step a b (step s)
  | a + 1, b, .ret vs => by cases b <;> rfl
  | a + 1, b, .stuck => by cases b <;> rfl
theorem Reach.trans {σ : Type} {step : σ → Out' σ} {a b c : Out' σ} (h : Reach step a b) (k : Reach step b c) : Reach step a c := by
  obtain ⟨N, rfl⟩ := h
  obtain ⟨M, rfl⟩ := k
  exact ⟨N + M, goOn_plus step N M a⟩
theorem Reach.step {σ : Type} {step : σ → Out' σ} {s : σ} {o : Out' σ} (h : step s = o) : Reach step (.to s) o := ⟨1, by rw [goOn_to, h]; rfl⟩
theorem Reach.head {σ : Type} {step : σ → Out' σ} {s : σ} {o o' : Out' σ} (h : step s = o) (k : Reach step o o') : Reach step (.to s) o' := (Reach.step h).trans k

theorem roomB {m : Nat} (h : m ≤ 3000) : (Nat.beq 4 4 && ((decide (0 + m = m)) && decide ((m + 1 + 1) * (32 + 1) ≤ room))) = true := by
  rw [decide_eq_true (Nat.zero_add m), decide_eq_true (show (m + 1 + 1) * (32 + 1) ≤ room by unfold room; omega)]; rfl
theorem in_range {i n : Nat} (h : i < n) : (decide (0 ≤ (i : Int) ∧ (i : Int) < (n : Int)) && true) = true := by rw [Bool.and_true]; exact decide_eq_true (by omega)
theorem next_row (i : Nat) : (Nat.beq (i + 1) i == false) = true := by
  rw [show Nat.beq (i + 1) i = false from Bool.eq_false_iff.2 fun e => by have := Nat.eq_of_beq_eq_true e; omega]; rfl
theorem eq_true_b {b : Bool} (h : b = true) : (b == true) = true := by rw [h]; rfl
end Go.Am
/- Cuts of the program: its steps build the table of options. -/
namespace Go.Am
open Go.Proofs
set_option maxRecDepth 100000
set_option maxHeartbeats 4000000
set_option linter.unusedVariables false
set_option linter.unusedSimpArgs false

section
variable (n0 : Nat) (c0 : Nat → Int) (n1 : Nat) (c1 : Nat → Int) (w : Int)

/-- On a line? The distance of a place. -/
def onP (p : Int) : Int := bif bsV_1 n0 c0 p then 1 else 0
def dP (i : Nat) (p : Int) : Int := absV (IntKind.wrap .i64 (p - c1 i))

theorem pc_h4 {i : Nat} (hi : i + 1 < n1) (hn1 : n1 ≤ 100) {np t : Nat} {q : Nat → Int} (ht : t < np) (hnp : np ≤ 1000) {D : Nat → Bool} {M : Nat → Nat} {F : Nat → Nat → Nat → Int} (hD : D (i + 1) = true) {L : List Opt} (hL : RowA 1 2 3 (M (i + 1)) (F (i + 1)) L) (hll : L.length ≤ 1000)
    {hn : Nat} {h : Nat → Nat → Int} (hhn : hn ≤ 3000) (v99 on : Int) : ∀ (k j : Nat) (nx : Int), j + k = L.length → (nx < 0 ∨ nx < L.length) →
    Reach (pcutsstep n0 c0 n1 c1 w) (.to (.h4 (i : Int) np q v99 (t : Int) (j : Int) D M F hn h nx on))
      (bif decide (scanI L (q t) k j nx < 0) then .to (.h3 (i : Int) np q v99 ((t + 1 : Nat) : Int) D M F hn h)
        else .to (.h3 (i : Int) np q v99 ((t + 1 : Nat) : Int) D M F (hn + 1) (app4 h hn (q t) (scanI L (q t) k j nx) (wadd on (oAt L (scanI L (q t) k j nx).toNat).on) (wadd (dP c1 i (q t)) (oAt L (scanI L (q t) k j nx).toNat).sm)))) := by
  obtain ⟨hm, hL⟩ := hL
  intro k
  have wi : IntKind.wrap .i64 ((i : Int) + 1) = ((i + 1 : Nat) : Int) := w_nat (i := i) (by omega)
  have wt : IntKind.wrap .i64 ((t : Int) + 1) = ((t + 1 : Nat) : Int) := w_nat (i := t) (by omega)
  have a1 := in_range (i := i + 1) (n := n1) hi
  have a2 := in_range (i := i) (n := n1) (by omega)
  have a3 : decide (i + 1 < n1) = true := decide_eq_true hi
  have a4 : decide (i < n1) = true := decide_eq_true (by omega)
  have a5 := next_row i
  have a6 := eq_true_b hD
  have a7 : decide ((hn + 1 + 1) * (32 + 1) ≤ room) = true := decide_eq_true (by unfold room; omega)
  induction k with
  | zero =>
    intro j nx hj hnx
    rw [show scanI L (q t) 0 j nx = nx from rfl]
    refine Reach.step ?_
    have k0 : decide ((j : Int) < ((M (i + 1) : Nat) : Int)) = false := decide_eq_false (by omega)
    by_cases hneg : nx < 0
    · have k1 : decide (nx < 0) = true := decide_eq_true hneg
      simp only [pcutsstep, wi, wt, Int.toNat_natCast, Nat.zero_add, k0, k1, cond_true, cond_false]
    · have k1 : decide (nx < 0) = false := decide_eq_false hneg
      have hlt : nx.toNat < L.length := by rcases hnx with h | h <;> omega
      have k2 : (decide (0 ≤ nx ∧ nx < ((M (i + 1) : Nat) : Int)) && true) = true := by rw [Bool.and_true]; exact decide_eq_true (by omega)
      obtain ⟨_, _, g2, g3⟩ := hL nx.toNat hlt
      simp only [pcutsstep, wi, wt, Int.toNat_natCast, Nat.zero_add, k0, k1, k2, a1, a2, a3, a4, a5, a6, a7, Nat.beq_refl, decide_true, Bool.true_and, cond_true, cond_false, g2, g3, wadd, dP]
  | succ k ih =>
    intro j nx hj hnx
    have hjl : j < L.length := by omega
    have wj : IntKind.wrap .i64 ((j : Int) + 1) = ((j + 1 : Nat) : Int) := w_nat (i := j) (by omega)
    have k0 : decide ((j : Int) < ((M (i + 1) : Nat) : Int)) = true := decide_eq_true (by omega)
    have k3 : (decide (0 ≤ (j : Int) ∧ (j : Int) < ((M (i + 1) : Nat) : Int)) && true) = true := by rw [Bool.and_true]; exact decide_eq_true (by omega)
    obtain ⟨g0, _, g2, g3⟩ := hL j hjl
    rw [scanI_succ]
    rcases bool_cases (decide ((oAt L j).pl > q t)) with e | e
    · rcases bool_cases (decide (nx < 0)) with e2 | e2
      · refine Reach.head ?_ (by rw [e, e2, cond_true, cond_true]; exact ih (j + 1) (j : Int) (by omega) (.inr (by omega)))
        simp only [pcutsstep, wi, wj, Int.toNat_natCast, Nat.zero_add, k0, k3, g0, e, e2, cond_true, cond_false]
      · have hneg := of_decide_eq_false e2
        have hlt : nx.toNat < L.length := by rcases hnx with h | h <;> omega
        have k2 : (decide (0 ≤ nx ∧ nx < ((M (i + 1) : Nat) : Int)) && true) = true := by rw [Bool.and_true]; exact decide_eq_true (by omega)
        obtain ⟨_, _, f2, f3⟩ := hL nx.toNat hlt
        rcases bool_cases (betV (oAt L j).on (oAt L j).sm (oAt L nx.toNat).on (oAt L nx.toNat).sm) with e3 | e3
        · refine Reach.head ?_ (by rw [e, e2, e3, cond_true, cond_false, cond_true]; exact ih (j + 1) (j : Int) (by omega) (.inr (by omega)))
          simp only [pcutsstep, wi, wj, Int.toNat_natCast, Nat.zero_add, k0, k2, k3, g0, g2, g3, f2, f3, a1, a3, a5, a6, e, e2, e3, cond_true, cond_false]
        · refine Reach.head ?_ (by rw [e, e2, e3, cond_true, cond_false, cond_false]; exact ih (j + 1) nx (by omega) hnx)
          simp only [pcutsstep, wi, wj, Int.toNat_natCast, Nat.zero_add, k0, k2, k3, g0, g2, g3, f2, f3, a1, a3, a5, a6, e, e2, e3, cond_true, cond_false]
    · refine Reach.head ?_ (by rw [e, cond_false]; exact ih (j + 1) nx (by omega) hnx)
      simp only [pcutsstep, wi, wj, Int.toNat_natCast, Nat.zero_add, k0, k3, g0, e, cond_true, cond_false]

/-- The loop over the places of a cut: the row of its options. -/
theorem pc_h3 (L0 : Lines n0 c0) {i : Nat} (hi : i < n1) (hn1 : n1 ≤ 100) (P : List Int) (hP : P.length ≤ 1000) {q : Nat → Int} (hq : ∀ t, t < P.length → q t = P.getD t 0) {D : Nat → Bool} {M : Nat → Nat} {F : Nat → Nat → Nat → Int}
    (nxt : Option (List Opt)) (hnxt : (nxt = none ∧ i + 1 = n1) ∨ ∃ L, nxt = some L ∧ i + 1 < n1 ∧ D (i + 1) = true ∧ RowA 1 2 3 (M (i + 1)) (F (i + 1)) L ∧ L.length ≤ 1000) :
    ∀ (k t hn : Nat) (h : Nat → Nat → Int) (Lr : List Opt), t + k = P.length → RowA 1 2 3 hn h Lr → hn ≤ t →
    ∃ hn' h', RowA 1 2 3 hn' h' (Lr ++ rowL (onP n0 c0) (dP c1 i) nxt (P.drop t)) ∧ Reach (pcutsstep n0 c0 n1 c1 w) (.to (.h3 (i : Int) P.length q (P.length : Int) (t : Int) D M F hn h)) (.to (.h0 ((i : Int) - 1) (updB D i) (updN M i hn') (updF F i h'))) := by
  have wn : IntKind.wrap .i64 ((n1 : Int) - 1) = (n1 : Int) - 1 := w_in (by omega) (by omega)
  have wm : IntKind.wrap .i64 ((i : Int) - 1) = (i : Int) - 1 := w_in (by omega) (by omega)
  have a2 := in_range (i := i) (n := n1) hi
  have a4 : decide (i < n1) = true := decide_eq_true hi
  intro k
  induction k with
  | zero =>
    intro t hn h Lr ht hR hle
    have k0 : decide ((t : Int) < (P.length : Int)) = false := decide_eq_false (by omega)
    refine ⟨hn, h, ?_, Reach.step ?_⟩
    · rw [List.drop_eq_nil_of_le (by omega)]
      simpa [rowL] using hR
    · simp only [pcutsstep, k0, cond_false, wm, Int.toNat_natCast, Nat.zero_add]
  | succ k ih =>
    intro t hn h Lr ht hR hle
    have htl : t < P.length := by omega
    have k0 : decide ((t : Int) < (P.length : Int)) = true := decide_eq_true (by omega)
    have a1 := in_range (i := t) (n := P.length) htl
    have a3 : decide (t < P.length) = true := decide_eq_true htl
    have wt : IntKind.wrap .i64 ((t : Int) + 1) = ((t + 1 : Nat) : Int) := w_nat (i := t) (by omega)
    have a5 : bsV_owed n0 c0 (q t) = true := pd_true ⟨by have := L0.len; omega, fun i j h1 h2 => Int.le_of_lt (L0.up i j h1 h2)⟩
    have a7 : decide ((hn + 1 + 1) * (32 + 1) ≤ room) = true := decide_eq_true (by unfold room; omega)
    have hdrop : P.drop t = q t :: P.drop (t + 1) := by
      rw [hq t htl, List.drop_eq_getElem_cons htl]
      simp [htl]
    rw [hdrop]
    rcases hnxt with ⟨rfl, hlast⟩ | ⟨L, rfl, hlt, hD, hL, hll⟩
    · have k1 : decide ((i : Int) < (n1 : Int) - 1) = false := decide_eq_false (by omega)
      obtain ⟨hn', h', g1, g2⟩ := ih (t + 1) (hn + 1) (app4 h hn (q t) (-1) (onP n0 c0 (q t)) (dP c1 i (q t))) (Lr ++ [⟨q t, -1, onP n0 c0 (q t), dP c1 i (q t)⟩]) (by omega) (hR.snocP _ _ _ _) (by omega)
      refine ⟨hn', h', by rw [List.append_assoc] at g1; exact g1, Reach.head ?_ g2⟩
      rcases bool_cases (bsV_1 n0 c0 (q t)) with e | e <;>
        simp only [pcutsstep, k0, k1, wn, wt, e, onP, dP, a1, a2, a3, a4, a5, a7, Nat.beq_refl, decide_true, Bool.true_and, cond_true, cond_false, Int.toNat_natCast, Nat.zero_add]
    · have k1 : decide ((i : Int) < (n1 : Int) - 1) = true := decide_eq_true (by omega)
      have wi : IntKind.wrap .i64 ((i : Int) + 1) = ((i + 1 : Nat) : Int) := w_nat (i := i) (by omega)
      have b1 := in_range (i := i + 1) (n := n1) hlt
      have b3 : decide (i + 1 < n1) = true := decide_eq_true hlt
      have b5 := next_row i
      have b6 := eq_true_b hD
      have hs := pc_h4 n0 c0 n1 c1 w hlt hn1 (np := P.length) (t := t) (q := q) htl hP hD hL hll (hn := hn) (h := h) (by omega) (P.length : Int) (onP n0 c0 (q t)) L.length 0 (-1) (Nat.zero_add _) (.inl (by omega))
      have first : Reach (pcutsstep n0 c0 n1 c1 w) (.to (.h3 (i : Int) P.length q (P.length : Int) (t : Int) D M F hn h)) (.to (.h4 (i : Int) P.length q (P.length : Int) (t : Int) ((0 : Nat) : Int) D M F hn h (-1) (onP n0 c0 (q t)))) := by
        refine Reach.step ?_
        rcases bool_cases (bsV_1 n0 c0 (q t)) with e | e <;>
          (simp only [pcutsstep, k0, k1, wn, wi, e, onP, a1, a2, a3, a4, a5, b1, b3, b5, b6, cond_true, cond_false, Int.toNat_natCast, Nat.zero_add]; rfl)
      have hs := first.trans hs
      rcases bool_cases (decide (scanI L (q t) L.length 0 (-1) < 0)) with e | e
      · rw [e, cond_true] at hs
        obtain ⟨hn', h', g1, g2⟩ := ih (t + 1) hn h Lr (by omega) hR (by omega)
        refine ⟨hn', h', ?_, hs.trans g2⟩
        show RowA 1 2 3 hn' h' (Lr ++ (bif decide (scanI L (q t) L.length 0 (-1) < 0) then _ else _))
        rw [e, cond_true]; exact g1
      · rw [e, cond_false] at hs
        obtain ⟨hn', h', g1, g2⟩ := ih (t + 1) (hn + 1) _ (Lr ++ [⟨q t, scanI L (q t) L.length 0 (-1), wadd (onP n0 c0 (q t)) (oAt L (scanI L (q t) L.length 0 (-1)).toNat).on, wadd (dP c1 i (q t)) (oAt L (scanI L (q t) L.length 0 (-1)).toNat).sm⟩]) (by omega) (hR.snocP _ _ _ _) (by omega)
        refine ⟨hn', h', ?_, hs.trans g2⟩
        show RowA 1 2 3 hn' h' (Lr ++ (bif decide (scanI L (q t) L.length 0 (-1) < 0) then _ else _))
        rw [e, cond_false]
        rw [List.append_assoc] at g1
        exact g1
end
end Go.Am
/- Cuts of the program: the whole table, the way back, and its value. -/
namespace Go.Am
open Go.Proofs
set_option maxRecDepth 100000
set_option maxHeartbeats 4000000
set_option linter.unusedVariables false
set_option linter.unusedSimpArgs false

/-- The lines near a cut, from line j on, k of them. -/
def nrF (mid : Bool) (c : Nat → Int) (x w : Int) : Nat → Nat → List Int
  | 0, _ => []
  | k + 1, j => (bif mid then bif c j != x then bif decide (absV (IntKind.wrap .i64 (c j - x)) ≤ w) then [c j] else [] else [] else []) ++ nrF mid c x w k (j + 1)
theorem nrF_len (mid : Bool) (c : Nat → Int) (x w : Int) : ∀ (k j : Nat), (nrF mid c x w k j).length ≤ k
  | 0, _ => Nat.le_refl _
  | k + 1, j => by
    unfold nrF
    have := nrF_len mid c x w k (j + 1)
    rw [List.length_append]
    cases mid <;> rcases bool_cases (c j != x) with e | e <;> rcases bool_cases (decide (absV (IntKind.wrap .i64 (c j - x)) ≤ w)) with e2 | e2 <;> simp only [e, e2, cond_true, cond_false, List.length_nil, List.length_singleton] <;> omega
theorem intsOf_eq {n : Nat} {R : List Int} {cc : Nat → Int} (hn : n = R.length) (h : ∀ t, t < R.length → cc t = listC R t) : intsOf n cc = R := by
  subst hn
  rw [← intsOf_listC R]
  unfold intsOf
  rw [List.length_map, List.length_range]
  refine List.map_congr_left fun t ht => ?_
  have ht := List.mem_range.1 ht
  rw [h t ht]

section
variable (n0 : Nat) (c0 : Nat → Int) (n1 : Nat) (c1 : Nat → Int) (w : Int)

def midP (i : Nat) : Bool := decide ((i : Int) > 0) && decide ((i : Int) < (n1 : Int) - 1)
/-- The places of a cut, by the program. -/
def prP (i : Nat) : List Int := srtI ([c1 i] ++ nrF (midP n1 i) c0 (c1 i) w n0 0)
theorem prP_len (i : Nat) : (prP n0 c0 n1 c1 w i).length ≤ n0 + 1 := by
  unfold prP
  rw [srt_len, List.length_append]
  have := nrF_len (midP n1 i) c0 (c1 i) w n0 0
  simp only [List.length_singleton]; omega

theorem pc_h1 {i : Nat} (hi : i < n1) (hn0 : n0 ≤ 100) (hn1 : n1 ≤ 100) {D : Nat → Bool} (hD : D i = false) {M : Nat → Nat} {F : Nat → Nat → Nat → Int} : ∀ (k j : Nat) (L : List Int) (cc : Nat → Int), j + k = n0 → L.length ≤ j + 1 → (∀ t, t < L.length → cc t = listC L t) →
    Reach (pcutsstep n0 c0 n1 c1 w) (.to (.h1 (i : Int) L.length cc (j : Int) D M F))
      (.to (.h3 (i : Int) (srtI (L ++ nrF (midP n1 i) c0 (c1 i) w k j)).length (listC (srtI (L ++ nrF (midP n1 i) c0 (c1 i) w k j))) ((srtI (L ++ nrF (midP n1 i) c0 (c1 i) w k j)).length : Int) ((0 : Nat) : Int) D M F 0 (list4 []))) := by
  have wn : IntKind.wrap .i64 ((n1 : Int) - 1) = (n1 : Int) - 1 := w_in (by omega) (by omega)
  have a2 := in_range (i := i) (n := n1) hi
  intro k
  induction k with
  | zero =>
    intro j L cc hj hL hc
    have k0 : decide ((j : Int) < (n0 : Int)) = false := decide_eq_false (by omega)
    have r1 : decide (L.length < 4611686018427387904) = true := decide_eq_true (by omega)
    have hI : intsOf L.length cc = L := intsOf_eq rfl hc
    refine Reach.step ?_
    simp only [pcutsstep, k0, cond_false, nrF, List.append_nil, srt_len, Nat.zero_add, Int.toNat_natCast, hD, Bool.not_false, cond_true, isI_iget, cOf_iget, hI, r1, Nat.beq_refl, decide_true, Bool.and_self, Bool.true_and]
    rfl
  | succ k ih =>
    intro j L cc hj hL hc
    have k0 : decide ((j : Int) < (n0 : Int)) = true := decide_eq_true (by omega)
    have a1 := in_range (i := j) (n := n0) (by omega)
    have wj : IntKind.wrap .i64 ((j : Int) + 1) = ((j + 1 : Nat) : Int) := w_nat (i := j) (by omega)
    have r1 : decide ((L.length + 1 + 1) * (8 + 1) ≤ room) = true := decide_eq_true (by unfold room; omega)
    have go0 := ih (j + 1) L cc (by omega) (by omega) hc
    have go1 := ih (j + 1) (L ++ [c0 j]) (appC cc L.length (c0 j)) (by omega) (by rw [len_snoc]; omega) (listC_app hc (c0 j))
    rw [len_snoc] at go1
    unfold nrF
    rcases bool_cases (decide ((i : Int) > 0)) with m1 | m1
    · rcases bool_cases (decide ((i : Int) < (n1 : Int) - 1)) with m2 | m2
      · have hm : midP n1 i = true := by unfold midP; rw [m1, m2]; rfl
        rcases bool_cases (c0 j != c1 i) with e1 | e1
        · rcases bool_cases (decide (absV (IntKind.wrap .i64 (c0 j - c1 i)) ≤ w)) with e2 | e2
          · refine Reach.head ?_ (by rw [hm, e1, e2, cond_true, cond_true, cond_true, ← List.append_assoc, ← hm]; exact go1)
            simp only [pcutsstep, k0, a1, a2, wn, wj, m1, m2, e1, e2, r1, cond_true, cond_false, Nat.zero_add, Int.toNat_natCast, Nat.beq_refl, decide_true, Bool.true_and]
          · refine Reach.head ?_ (by rw [hm, e1, e2, cond_true, cond_true, cond_false, List.nil_append, ← hm]; exact go0)
            simp only [pcutsstep, k0, a1, a2, wn, wj, m1, m2, e1, e2, cond_true, cond_false, Nat.zero_add, Int.toNat_natCast]
        · refine Reach.head ?_ (by rw [hm, e1, cond_true, cond_false, List.nil_append, ← hm]; exact go0)
          simp only [pcutsstep, k0, a1, a2, wn, wj, m1, m2, e1, cond_true, cond_false, Nat.zero_add, Int.toNat_natCast]
      · have hm : midP n1 i = false := by unfold midP; rw [m1, m2]; rfl
        refine Reach.head ?_ (by rw [hm, cond_false, List.nil_append, ← hm]; exact go0)
        simp only [pcutsstep, k0, a1, a2, wn, wj, m1, m2, cond_true, cond_false, Nat.zero_add, Int.toNat_natCast]
    · have hm : midP n1 i = false := by unfold midP; rw [m1]; rfl
      refine Reach.head ?_ (by rw [hm, cond_false, List.nil_append, ← hm]; exact go0)
      simp only [pcutsstep, k0, a1, a2, wn, wj, m1, cond_true, cond_false, Nat.zero_add, Int.toNat_natCast]
end

theorem rowL_len (onF dF : Int → Int) (nxt : Option (List Opt)) : ∀ P : List Int, (rowL onF dF nxt P).length ≤ P.length
  | [] => Nat.le_refl _
  | p :: P => by
    have ih := rowL_len onF dF nxt P
    unfold rowL
    cases nxt with
    | none => simp only [List.length_cons]; omega
    | some L =>
      simp only
      rcases bool_cases (decide (scanI L p L.length 0 (-1) < 0)) with e | e <;> rw [e]
      · simp only [cond_true, List.length_cons]; omega
      · simp only [cond_false, List.length_cons]; omega

theorem rowL_nx (onF dF : Int → Int) (L : List Opt) : ∀ (P : List Int) (o : Opt), o ∈ rowL onF dF (some L) P → 0 ≤ o.nx ∧ o.nx < L.length
  | [], o, h => by cases h
  | p :: P, o, h => by
    have ih := rowL_nx onF dF L P o
    unfold rowL at h
    simp only at h
    rcases bool_cases (decide (scanI L p L.length 0 (-1) < 0)) with e | e <;> rw [e] at h
    · exact ih h
    · rw [cond_false] at h
      rcases List.mem_cons.1 h with rfl | h
      · have g := of_decide_eq_false e
        rcases scanI_in L p L.length 0 (-1) (by omega) (.inl (by omega)) with q | q
        · exact absurd q g
        · exact ⟨by show 0 ≤ scanI L p L.length 0 (-1); omega, q⟩
      · exact ih h

theorem scanI_pos (L : List Opt) (p : Int) : ∀ (k j : Nat) (nx : Int), (¬ nx < 0 ∨ ∃ m, j ≤ m ∧ m < j + k ∧ (oAt L m).pl > p) → ¬ scanI L p k j nx < 0
  | 0, j, nx, h => by
    rcases h with h | ⟨m, a, b, _⟩
    · exact h
    · omega
  | k + 1, j, nx, h => by
    rw [scanI_succ]
    refine scanI_pos L p k (j + 1) _ ?_
    rcases bool_cases (decide ((oAt L j).pl > p)) with e | e <;> rw [e]
    · rw [cond_true]
      refine .inl ?_
      rcases bool_cases (decide (nx < 0)) with e2 | e2 <;> rw [e2]
      · rw [cond_true]; omega
      · rw [cond_false]
        rcases bool_cases (betV (oAt L j).on (oAt L j).sm (oAt L nx.toNat).on (oAt L nx.toNat).sm) with e3 | e3 <;> rw [e3]
        · rw [cond_true]; omega
        · rw [cond_false]; exact of_decide_eq_false e2
    · rw [cond_false]
      rcases h with h | ⟨m, a, b, g⟩
      · exact .inl h
      · rcases Nat.lt_or_ge j m with q | q
        · exact .inr ⟨m, q, by omega, g⟩
        · have : m = j := by omega
          subst this
          exact absurd g (of_decide_eq_false e)

theorem oAt_mem {L : List Opt} {j : Nat} (h : j < L.length) : oAt L j ∈ L := by
  unfold oAt
  simp only [List.getD_eq_getElem?_getD, List.getElem?_eq_getElem h, Option.getD_some]
  exact List.getElem_mem h
theorem mem_oAt {L : List Opt} {o : Opt} (h : o ∈ L) : ∃ j, j < L.length ∧ oAt L j = o := by
  obtain ⟨j, hj, rfl⟩ := List.getElem_of_mem h
  exact ⟨j, hj, by unfold oAt; simp [hj]⟩

theorem rowL_has (onF dF : Int → Int) (nxt : Option (List Opt)) (p : Int) (hn : ∀ L, nxt = some L → ∃ o, o ∈ L ∧ o.pl > p) : ∀ P : List Int, p ∈ P → ∃ o, o ∈ rowL onF dF nxt P ∧ o.pl = p
  | [], h => by cases h
  | q :: P, h => by
    unfold rowL
    cases nxt with
    | none =>
      rcases List.mem_cons.1 h with rfl | h
      · exact ⟨_, List.mem_cons_self, rfl⟩
      · obtain ⟨o, h1, h2⟩ := rowL_has onF dF none p hn P h
        exact ⟨o, List.mem_cons_of_mem _ h1, h2⟩
    | some L =>
      simp only
      rcases List.mem_cons.1 h with rfl | h
      · obtain ⟨o, h1, h2⟩ := hn L rfl
        obtain ⟨j, h3, rfl⟩ := mem_oAt h1
        rw [decide_eq_false (scanI_pos L p L.length 0 (-1) (.inr ⟨j, Nat.zero_le _, by omega, h2⟩)), cond_false]
        exact ⟨_, List.mem_cons_self, rfl⟩
      · obtain ⟨o, h1, h2⟩ := rowL_has onF dF (some L) p hn P h
        rcases bool_cases (decide (scanI L q L.length 0 (-1) < 0)) with e | e <;> rw [e]
        · exact ⟨o, h1, h2⟩
        · exact ⟨o, List.mem_cons_of_mem _ h1, h2⟩

/-- Each row has the cut itself. -/
theorem tab_has (onF : Int → Int) (dF : Nat → Int → Int) (P : Nat → List Int) (n : Nat) (c1 : Nat → Int) (hup : ∀ i j, i < j → j < n → c1 i < c1 j) (hP : ∀ i, i < n → c1 i ∈ P i) : ∀ (d i : Nat), i + d + 1 = n → ∃ o, o ∈ tabI onF dF P n i ∧ o.pl = c1 i
  | 0, i, h => by
    rw [tabI_last onF dF P (by omega)]
    exact rowL_has onF (dF i) none _ (fun L e => by cases e) _ (hP i (by omega))
  | d + 1, i, h => by
    rw [tabI_next onF dF P (by omega)]
    refine rowL_has onF (dF i) _ _ (fun L e => ?_) _ (hP i (by omega))
    obtain rfl := Option.some.inj e
    obtain ⟨o, h1, h2⟩ := tab_has onF dF P n c1 hup hP d (i + 1) (by omega)
    exact ⟨o, h1, by rw [h2]; exact hup i (i + 1) (by omega) (by omega)⟩

section
variable (n0 : Nat) (c0 : Nat → Int) (n1 : Nat) (c1 : Nat → Int) (w : Int)

/-- The table of the program. -/
def tabP : Nat → List Opt := tabI (onP n0 c0) (dP c1) (prP n0 c0 n1 c1 w) n1

theorem prP_mem (i : Nat) : c1 i ∈ prP n0 c0 n1 c1 w i := by
  unfold prP
  rw [srt_mem]
  simp

theorem tabP_len (hn0 : n0 ≤ 100) {i : Nat} (hi : i < n1) : (tabP n0 c0 n1 c1 w i).length ≤ 1000 := by
  have h := prP_len n0 c0 n1 c1 w i
  unfold tabP
  by_cases e : i + 1 = n1
  · rw [tabI_last _ _ _ e]
    exact Nat.le_trans (rowL_len _ _ _ _) (by omega)
  · rw [tabI_next _ _ _ (by omega)]
    exact Nat.le_trans (rowL_len _ _ _ _) (by omega)

theorem pc_round (L0 : Lines n0 c0) {i : Nat} (hi : i < n1) (hn1 : n1 ≤ 100) {D : Nat → Bool} (hD : D i = false) {M : Nat → Nat} {F : Nat → Nat → Nat → Int} (hdone : ∀ r, i < r → r < n1 → D r = true ∧ RowA 1 2 3 (M r) (F r) (tabP n0 c0 n1 c1 w r)) :
    ∃ hn' h', RowA 1 2 3 hn' h' (tabP n0 c0 n1 c1 w i) ∧ Reach (pcutsstep n0 c0 n1 c1 w) (.to (.h0 (i : Int) D M F)) (.to (.h0 ((i : Int) - 1) (updB D i) (updN M i hn') (updF F i h'))) := by
  have hn0 := L0.len
  have hl := prP_len n0 c0 n1 c1 w i
  have a2 := in_range (i := i) (n := n1) hi
  have k0 : decide ((i : Int) ≥ 0) = true := decide_eq_true (by omega)
  have first : Reach (pcutsstep n0 c0 n1 c1 w) (.to (.h0 (i : Int) D M F)) (.to (.h1 (i : Int) [c1 i].length (listC [c1 i]) ((0 : Nat) : Int) D M F)) := by
    refine Reach.step ?_
    simp only [pcutsstep, k0, a2, cond_true, Int.toNat_natCast]
    rfl
  have second := pc_h1 n0 c0 n1 c1 w hi hn0 hn1 hD (M := M) (F := F) n0 0 [c1 i] (listC [c1 i]) (Nat.zero_add _) (by simp) fun t _ => rfl
  have second : Reach (pcutsstep n0 c0 n1 c1 w) (.to (.h1 (i : Int) [c1 i].length (listC [c1 i]) ((0 : Nat) : Int) D M F)) (.to (.h3 (i : Int) (prP n0 c0 n1 c1 w i).length (listC (prP n0 c0 n1 c1 w i)) ((prP n0 c0 n1 c1 w i).length : Int) ((0 : Nat) : Int) D M F 0 (list4 []))) := second
  by_cases e : i + 1 = n1
  · obtain ⟨hn', h', g1, g2⟩ := pc_h3 n0 c0 n1 c1 w L0 hi hn1 (prP n0 c0 n1 c1 w i) (by omega) (q := listC (prP n0 c0 n1 c1 w i)) (fun t _ => rfl) (D := D) (M := M) (F := F) none (.inl ⟨rfl, e⟩) _ 0 0 (list4 []) [] (Nat.zero_add _) (RowA.nil _ _ _ _) (Nat.le_refl _)
    refine ⟨hn', h', ?_, (first.trans second).trans g2⟩
    unfold tabP
    rw [tabI_last _ _ _ e]
    simpa using g1
  · obtain ⟨q1, q2⟩ := hdone (i + 1) (by omega) (by omega)
    obtain ⟨hn', h', g1, g2⟩ := pc_h3 n0 c0 n1 c1 w L0 hi hn1 (prP n0 c0 n1 c1 w i) (by omega) (q := listC (prP n0 c0 n1 c1 w i)) (fun t _ => rfl) (D := D) (M := M) (F := F) (some (tabP n0 c0 n1 c1 w (i + 1))) (.inr ⟨_, rfl, by omega, q1, q2, tabP_len n0 c0 n1 c1 w hn0 (by omega)⟩) _ 0 0 (list4 []) [] (Nat.zero_add _) (RowA.nil _ _ _ _) (Nat.le_refl _)
    refine ⟨hn', h', ?_, (first.trans second).trans g2⟩
    show RowA 1 2 3 hn' h' (tabI (onP n0 c0) (dP c1) (prP n0 c0 n1 c1 w) n1 i)
    rw [tabI_next _ _ _ (show i + 1 < n1 by omega)]
    simpa [tabP] using g1

theorem pc_h0 (L0 : Lines n0 c0) (hn1 : n1 ≤ 100) : ∀ (d : Nat) (D : Nat → Bool) (M : Nat → Nat) (F : Nat → Nat → Nat → Int), d ≤ n1 → (∀ r, r < d → D r = false) → (∀ r, d ≤ r → r < n1 → D r = true ∧ RowA 1 2 3 (M r) (F r) (tabP n0 c0 n1 c1 w r)) →
    ∃ D' M' F', (∀ r, r < n1 → D' r = true ∧ RowA 1 2 3 (M' r) (F' r) (tabP n0 c0 n1 c1 w r)) ∧ Reach (pcutsstep n0 c0 n1 c1 w) (.to (.h0 ((d : Int) - 1) D M F)) (.to (.h2 0 (listC []) 0 0 D' M' F'))
  | 0, D, M, F, hd, h1, h2 => by
    refine ⟨D, M, F, fun r hr => h2 r (Nat.zero_le _) hr, Reach.step ?_⟩
    have k0 : decide (((0 : Nat) : Int) - 1 ≥ 0) = false := decide_eq_false (by omega)
    simp only [pcutsstep, k0, cond_false]
  | d + 1, D, M, F, hd, h1, h2 => by
    rw [show (((d + 1 : Nat) : Int) - 1) = (d : Int) by omega]
    obtain ⟨hn', h', g1, g2⟩ := pc_round n0 c0 n1 c1 w L0 (i := d) (by omega) hn1 (h1 d (by omega)) (M := M) (F := F) fun r hr => h2 r hr
    have s1 : ∀ r, r < d → updB D d r = false := fun r hr => by
      unfold updB
      rw [show Nat.beq r d = false from Bool.eq_false_iff.2 fun e => by have := Nat.eq_of_beq_eq_true e; omega]
      exact h1 r (by omega)
    have s2 : ∀ r, d ≤ r → r < n1 → updB D d r = true ∧ RowA 1 2 3 (updN M d hn' r) (updF F d h' r) (tabP n0 c0 n1 c1 w r) := fun r hr hr1 => by
      unfold updB updN updF
      by_cases e : r = d
      · subst e
        rw [Nat.beq_refl]
        exact ⟨rfl, g1⟩
      · rw [show Nat.beq r d = false from Bool.eq_false_iff.2 fun e' => e (Nat.eq_of_beq_eq_true e')]
        exact h2 r (by omega) hr1
    obtain ⟨D', M', F', q1, q2⟩ := pc_h0 L0 hn1 d (updB D d) (updN M d hn') (updF F d h') (by omega) s1 s2
    exact ⟨D', M', F', q1, g2.trans q2⟩

theorem pc_h2 (hn1 : n1 ≤ 100) (T : Nat → List Opt) {D : Nat → Bool} {M : Nat → Nat} {F : Nat → Nat → Nat → Int} (hT : ∀ r, r < n1 → D r = true ∧ RowA 1 2 3 (M r) (F r) (T r))
    (hnx : ∀ i a, i + 1 < n1 → a < (T i).length → 0 ≤ (oAt (T i) a).nx ∧ (oAt (T i) a).nx < (T (i + 1)).length) : ∀ (k i : Nat) (L : List Int) (cc : Nat → Int) (a : Int), i + k = n1 → L.length = i → (∀ t, t < L.length → cc t = listC L t) → (k = 0 ∨ (0 ≤ a ∧ a < (T i).length)) →
    ∃ v, PlRet (L ++ chainL T k i a) v ∧ Reach (pcutsstep n0 c0 n1 c1 w) (.to (.h2 L.length cc a (i : Int) D M F)) (.ret [v, .int .i64 0])
  | 0, i, L, cc, a, hi, hL, hc, _ => by
    have k0 : decide ((i : Int) < (n1 : Int)) = false := decide_eq_false (by omega)
    refine ⟨_, ⟨iget cc, by rw [show L ++ chainL T 0 i a = L from List.append_nil L], fun t ht => ?_⟩, Reach.step ?_⟩
    · rw [show L ++ chainL T 0 i a = L from List.append_nil L] at ht ⊢
      unfold iget
      rw [hc t ht]
    · simp only [pcutsstep, k0, cond_false]
  | k + 1, i, L, cc, a, hi, hL, hc, ha => by
    obtain ⟨ha0, ha1⟩ := ha.resolve_left (by omega)
    obtain ⟨q1, q2, q3⟩ := hT i (by omega)
    have hal : a.toNat < (T i).length := by omega
    obtain ⟨g0, g1, _, _⟩ := q3 a.toNat hal
    have k0 : decide ((i : Int) < (n1 : Int)) = true := decide_eq_true (by omega)
    have a2 := in_range (i := i) (n := n1) (by omega)
    have a4 : decide (i < n1) = true := decide_eq_true (by omega)
    have a6 := eq_true_b q1
    have r1 : decide ((L.length + 1 + 1) * (8 + 1) ≤ room) = true := decide_eq_true (by unfold room; omega)
    have k2 : (decide (0 ≤ a ∧ a < ((M i : Nat) : Int)) && true) = true := by rw [Bool.and_true]; exact decide_eq_true (by omega)
    have wi : IntKind.wrap .i64 ((i : Int) + 1) = ((i + 1 : Nat) : Int) := w_nat (i := i) (by omega)
    obtain ⟨v, p1, p2⟩ := pc_h2 hn1 T hT hnx k (i + 1) (L ++ [(oAt (T i) a.toNat).pl]) (appC cc L.length (oAt (T i) a.toNat).pl) (oAt (T i) a.toNat).nx (by omega) (by rw [len_snoc]; omega) (listC_app hc _) (by
      cases k with
      | zero => exact .inl rfl
      | succ k => exact .inr (hnx i a.toNat (by omega) hal))
    rw [len_snoc] at p2
    refine ⟨v, by rw [List.append_assoc] at p1; exact p1, Reach.head ?_ p2⟩
    simp only [pcutsstep, k0, r1, a2, a4, a6, k2, wi, g0, g1, cond_true, Nat.zero_add, Int.toNat_natCast, Nat.beq_refl, decide_true, Bool.true_and]

/-- The error of Cuts. -/
def cutsE : Int := bif chkV n0 c0 != 0 then chkV n0 c0 else bif chkV n1 c1 != 0 then chkV n1 c1 else bif decide (w < 0) then 2 else bif decide (w > 2000000) then 2 else 0
/-- The places that are chosen out of a table. -/
def wayL (T : Nat → List Opt) : List Int := chainL T n1 0 0
def cutsL (T : Nat → List Opt) : List Int := bif cutsE n0 c0 n1 c1 w != 0 then [] else wayL n1 T

theorem way_ok {T : Nat → List Opt} (L1 : Lines n1 c1) (P : Nat → List Int) (onF : Int → Int) (dF : Nat → Int → Int) (hT : T = tabI onF dF P n1) (hP : ∀ i, i < n1 → c1 i ∈ P i) :
    (∀ i a, i + 1 < n1 → a < (T i).length → 0 ≤ (oAt (T i) a).nx ∧ (oAt (T i) a).nx < (T (i + 1)).length) ∧ (0 < n1 → 0 < (T 0).length) := by
  subst hT
  refine ⟨fun i a hi ha => ?_, fun h => ?_⟩
  · have hm := oAt_mem ha
    rw [tabI_next onF dF P hi] at hm
    rw [tabI_next onF dF P hi] at ha ⊢
    exact rowL_nx onF (dF i) _ _ _ hm
  · obtain ⟨o, h1, _⟩ := tab_has onF dF P n1 c1 L1.up hP (n1 - 1) 0 (by omega)
    exact List.length_pos_of_mem h1

theorem pc_run : ∃ vs, Reach (pcutsstep n0 c0 n1 c1 w) (pcutsstart n0 c0 n1 c1 w) (.ret vs) ∧
    (∀ (ρ : Rho) (u : Value), VRel ρ (packed vs) u → VRel ρ (.tup [.dat (cutsL n0 c0 n1 c1 w (tabP n0 c0 n1 c1 w)).length (iget (listC (cutsL n0 c0 n1 c1 w (tabP n0 c0 n1 c1 w)))), .int .i64 (cutsE n0 c0 n1 c1 w)]) u) ∧ pf 4 (packed vs) = true := by
  have err : ∀ e : Int, cutsE n0 c0 n1 c1 w = e → (e != 0) = true → ∀ (ρ : Rho) (u : Value), VRel ρ (packed [.nils, .int .i64 e]) u → VRel ρ (.tup [.dat (cutsL n0 c0 n1 c1 w (tabP n0 c0 n1 c1 w)).length (iget (listC (cutsL n0 c0 n1 c1 w (tabP n0 c0 n1 c1 w)))), .int .i64 (cutsE n0 c0 n1 c1 w)]) u := fun e he h0 => by
    unfold cutsL
    rw [he, h0, cond_true]
    exact vrel_tup2 fun ρ u h => vrel_nils_dat h
  rcases bool_cases (chkV n0 c0 != 0) with h0 | h0
  · exact ⟨_, ⟨0, by simp only [pcutsstart, h0, cond_true]; rfl⟩, err _ (by simp only [cutsE, h0, cond_true]) h0, rfl⟩
  rcases bool_cases (chkV n1 c1 != 0) with h1 | h1
  · exact ⟨_, ⟨0, by simp only [pcutsstart, h0, h1, cond_true, cond_false]; rfl⟩, err _ (by simp only [cutsE, h0, h1, cond_true, cond_false]) h1, rfl⟩
  rcases bool_cases (decide (w < 0)) with h2 | h2
  · exact ⟨_, ⟨0, by simp only [pcutsstart, h0, h1, h2, cond_true, cond_false]; rfl⟩, err 2 (by simp only [cutsE, h0, h1, h2, cond_true, cond_false]) rfl, rfl⟩
  rcases bool_cases (decide (w > 2000000)) with h3 | h3
  · exact ⟨_, ⟨0, by simp only [pcutsstart, h0, h1, h2, h3, cond_true, cond_false]; rfl⟩, err 2 (by simp only [cutsE, h0, h1, h2, h3, cond_true, cond_false]) rfl, rfl⟩
  have L0 := lines_of h0
  have L1 := lines_of h1
  have hn1 := L1.len
  have hE : cutsE n0 c0 n1 c1 w = 0 := by simp only [cutsE, h0, h1, h2, h3, cond_false]
  have wn : IntKind.wrap .i64 ((n1 : Int) - 1) = (n1 : Int) - 1 := w_in (by omega) (by omega)
  obtain ⟨hnx, hpos⟩ := way_ok n1 c1 L1 (prP n0 c0 n1 c1 w) (onP n0 c0) (dP c1) (T := tabP n0 c0 n1 c1 w) rfl fun i _ => prP_mem n0 c0 n1 c1 w i
  obtain ⟨D, M, F, q1, q2⟩ := pc_h0 n0 c0 n1 c1 w L0 hn1 n1 (fun _ => false) (fun _ => 0) (fun _ _ _ => 0) (Nat.le_refl _) (fun _ _ => rfl) fun r h1 h2 => by omega
  obtain ⟨v, ⟨g, p1, p2⟩, p3⟩ := pc_h2 n0 c0 n1 c1 w hn1 (tabP n0 c0 n1 c1 w) q1 hnx n1 0 [] (listC []) 0 (Nat.zero_add _) rfl (fun t ht => absurd ht (Nat.not_lt_zero _)) (by
    rcases Nat.eq_zero_or_pos n1 with e | e
    · exact .inl e
    · exact .inr ⟨Int.le_refl _, by have := hpos e; omega⟩)
  rw [List.nil_append] at p1 p2
  have hstart : pcutsstart n0 c0 n1 c1 w = .to (.h0 ((n1 : Int) - 1) (fun _ => false) (fun _ => 0) (fun _ _ _ => 0)) := by
    have b1 : decide ((0 : Int) ≤ (n1 : Int)) = true := decide_eq_true (by omega)
    have b2 : decide ((n1 : Int) ≤ (n1 : Int)) = true := decide_eq_true (by omega)
    have b3 : decide ((n1 : Int) * 24 ≤ 1099511627776) = true := decide_eq_true (by omega)
    have b4 : decide ((n1 : Int) ≤ 1099511627776) = true := decide_eq_true (by omega)
    simp only [pcutsstart, h0, h1, h2, h3, wn, b1, b2, b3, b4, cond_true, cond_false, Bool.and_self]
  refine ⟨_, by rw [hstart]; exact q2.trans p3, ?_, ?_⟩
  · subst p1
    have hl : cutsL n0 c0 n1 c1 w (tabP n0 c0 n1 c1 w) = chainL (tabP n0 c0 n1 c1 w) n1 0 0 := by unfold cutsL wayL; rw [hE]; rfl
    rw [hE, hl]
    refine vrel_tup2 fun ρ u h => ?_
    rw [frzS_eq] at h
    exact vrel_dat_congr p2 h
  · subst p1
    show pf 4 (.tup [frzS 1 1 0 _ _ g, .int .i64 0]) = true
    rw [frzS_eq]; rfl

end
end Go.Am
