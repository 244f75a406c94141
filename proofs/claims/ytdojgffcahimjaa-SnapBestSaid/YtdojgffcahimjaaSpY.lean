/- The table of cuts, as plain lists: rows of options, the best next option, the way back. -/
import Derived.Test.YtdojgffcahimjaaSpW
namespace Go.Am
open Go.Proofs
set_option maxRecDepth 100000
set_option linter.unusedVariables false
set_option linter.unusedSimpArgs false

/-- A place of a cut: the option of the next cut, how many are on lines from here on, and how far all are moved. -/
structure Opt where
  pl : Int
  nx : Int
  on : Int
  sm : Int
def Opt.z : Opt := ⟨0, 0, 0, 0⟩
def oAt (L : List Opt) (j : Nat) : Opt := L.getD j Opt.z
def wadd (a b : Int) : Int := IntKind.wrap .i64 (a + b)

/-- The best option behind p, from option j on, k of them; nx: the best so far. -/
def scanI (L : List Opt) (p : Int) : Nat → Nat → Int → Int
  | 0, _, nx => nx
  | k + 1, j, nx => scanI L p k (j + 1) (bif decide ((oAt L j).pl > p) then (bif decide (nx < 0) then (j : Int) else bif betV (oAt L j).on (oAt L j).sm (oAt L nx.toNat).on (oAt L nx.toNat).sm then (j : Int) else nx) else nx)
theorem scanI_succ (L : List Opt) (p : Int) (k j : Nat) (nx : Int) : scanI L p (k + 1) j nx = scanI L p k (j + 1) (bif decide ((oAt L j).pl > p) then (bif decide (nx < 0) then (j : Int) else bif betV (oAt L j).on (oAt L j).sm (oAt L nx.toNat).on (oAt L nx.toNat).sm then (j : Int) else nx) else nx) := rfl

/-- The options of a cut with these places. -/
def rowL (onF dF : Int → Int) (nxt : Option (List Opt)) : List Int → List Opt
  | [] => []
  | p :: ps => match nxt with
    | none => ⟨p, -1, onF p, dF p⟩ :: rowL onF dF nxt ps
    | some L => bif decide (scanI L p L.length 0 (-1) < 0) then rowL onF dF nxt ps
      else ⟨p, scanI L p L.length 0 (-1), wadd (onF p) (oAt L (scanI L p L.length 0 (-1)).toNat).on, wadd (dF p) (oAt L (scanI L p L.length 0 (-1)).toNat).sm⟩ :: rowL onF dF nxt ps

/-- The options of the cut that is d cuts ahead of the last one of n. -/
def tabD (onF : Int → Int) (dF : Nat → Int → Int) (P : Nat → List Int) (n : Nat) : Nat → List Opt
  | 0 => rowL onF (dF (n - 1)) none (P (n - 1))
  | d + 1 => rowL onF (dF (n - 1 - (d + 1))) (some (tabD onF dF P n d)) (P (n - 1 - (d + 1)))
def tabI (onF : Int → Int) (dF : Nat → Int → Int) (P : Nat → List Int) (n i : Nat) : List Opt := tabD onF dF P n (n - 1 - i)
theorem tabI_last (onF : Int → Int) (dF : Nat → Int → Int) (P : Nat → List Int) {n i : Nat} (h : i + 1 = n) : tabI onF dF P n i = rowL onF (dF i) none (P i) := by
  unfold tabI
  rw [show n - 1 - i = 0 by omega]
  unfold tabD
  rw [show n - 1 = i by omega]
theorem tabI_next (onF : Int → Int) (dF : Nat → Int → Int) (P : Nat → List Int) {n i : Nat} (h : i + 1 < n) : tabI onF dF P n i = rowL onF (dF i) (some (tabI onF dF P n (i + 1))) (P i) := by
  unfold tabI
  rw [show n - 1 - i = (n - 1 - (i + 1)) + 1 by omega]
  show rowL onF (dF (n - 1 - ((n - 1 - (i + 1)) + 1))) _ (P (n - 1 - ((n - 1 - (i + 1)) + 1))) = _
  rw [show n - 1 - ((n - 1 - (i + 1)) + 1) = i by omega]

/-- The places on the way back, from cut i on, k of them. -/
def chainL (T : Nat → List Opt) : Nat → Nat → Int → List Int
  | 0, _, _ => []
  | k + 1, i, a => (oAt (T i) a.toNat).pl :: chainL T k (i + 1) (oAt (T i) a.toNat).nx
theorem chainL_len (T : Nat → List Opt) : ∀ (k i : Nat) (a : Int), (chainL T k i a).length = k
  | 0, _, _ => rfl
  | k + 1, i, a => by unfold chainL; rw [List.length_cons, chainL_len T k]

/-- Rows of four numbers, and options: x, y, z: the places of nx, on, sm. -/
def RowA (x y z n : Nat) (h : Nat → Nat → Int) (L : List Opt) : Prop := n = L.length ∧ ∀ j, j < L.length → h j 0 = (oAt L j).pl ∧ h j x = (oAt L j).nx ∧ h j y = (oAt L j).on ∧ h j z = (oAt L j).sm
theorem oAt_left {L M : List Opt} {j : Nat} (h : j < L.length) : oAt (L ++ M) j = oAt L j := by
  unfold oAt
  simp [List.getElem?_append_left h]
theorem oAt_snoc (L : List Opt) (o : Opt) : oAt (L ++ [o]) L.length = o := by simp [oAt]
theorem RowA.nil (x y z : Nat) (h : Nat → Nat → Int) : RowA x y z 0 h [] := ⟨rfl, fun j hj => absurd hj (Nat.not_lt_zero _)⟩
theorem RowA.snocP {n : Nat} {h : Nat → Nat → Int} {L : List Opt} (H : RowA 1 2 3 n h L) (p nx on sm : Int) : RowA 1 2 3 (n + 1) (app4 h n p nx on sm) (L ++ [⟨p, nx, on, sm⟩]) := by
  obtain ⟨rfl, H⟩ := H
  refine ⟨by simp, fun j hj => ?_⟩
  rw [List.length_append, List.length_singleton] at hj
  unfold app4
  rcases Nat.lt_or_ge j L.length with q | q
  · rw [oAt_left q, show Nat.ble L.length j = false from Bool.eq_false_iff.2 fun e => by have := Nat.le_of_ble_eq_true e; omega]
    exact H j q
  · have e : j = L.length := by omega
    subst e
    rw [oAt_snoc, show Nat.ble L.length L.length = true from Nat.ble_eq_true_of_le (Nat.le_refl _)]
    exact ⟨rfl, rfl, rfl, rfl⟩
theorem RowA.snocR {n : Nat} {h : Nat → Nat → Int} {L : List Opt} (H : RowA 3 1 2 n h L) (p nx on sm : Int) : RowA 3 1 2 (n + 1) (app4 h n p on sm nx) (L ++ [⟨p, nx, on, sm⟩]) := by
  obtain ⟨rfl, H⟩ := H
  refine ⟨by simp, fun j hj => ?_⟩
  rw [List.length_append, List.length_singleton] at hj
  unfold app4
  rcases Nat.lt_or_ge j L.length with q | q
  · rw [oAt_left q, show Nat.ble L.length j = false from Bool.eq_false_iff.2 fun e => by have := Nat.le_of_ble_eq_true e; omega]
    exact H j q
  · have e : j = L.length := by omega
    subst e
    rw [oAt_snoc, show Nat.ble L.length L.length = true from Nat.ble_eq_true_of_le (Nat.le_refl _)]
    exact ⟨rfl, rfl, rfl, rfl⟩

/-- The scan gives an option that is there, or a negative number. -/
theorem scanI_in (L : List Opt) (p : Int) : ∀ (k j : Nat) (nx : Int), j + k ≤ L.length → (nx < 0 ∨ nx < L.length) → scanI L p k j nx < 0 ∨ scanI L p k j nx < L.length
  | 0, j, nx, _, h => h
  | k + 1, j, nx, hk, h => by
    rw [scanI_succ]
    refine scanI_in L p k (j + 1) _ (by omega) ?_
    rcases bool_cases (decide ((oAt L j).pl > p)) with e | e <;> rw [e]
    · rw [cond_true]
      rcases bool_cases (decide (nx < 0)) with e2 | e2 <;> rw [e2]
      · rw [cond_true]; exact .inr (by omega)
      · rw [cond_false]
        rcases bool_cases (betV (oAt L j).on (oAt L j).sm (oAt L nx.toNat).on (oAt L nx.toNat).sm) with e3 | e3 <;> rw [e3]
        · rw [cond_true]; exact .inr (by omega)
        · exact h
    · exact h

/-! ### Steps, any number of them -/
def Reach {σ : Type} (step : σ → Out' σ) (o o' : Out' σ) : Prop := ∃ N, goOn step N o = o'
theorem Reach.refl {σ : Type} {step : σ → Out' σ} (o : Out' σ) : Reach step o o := ⟨0, rfl⟩
theorem goOn_plus {σ : Type} (step : σ → Out' σ) : ∀ (a b : Nat) (o : Out' σ), goOn step (a + b) o = goOn step b (goOn step a o)
  | 0, b, o => by rw [Nat.zero_add]; rfl
  | a + 1, b, .to s => by rw [show a + 1 + b = (a + b) + 1 by omega, goOn_to, goOn_to]; exact goOn_plus step a b (step s)
  | a + 1, b, .ret vs => by cases b <;> rfl
  | a + 1, b, .stuck => by cases b <;> rfl
theorem Reach.trans {σ : Type} {step : σ → Out' σ} {a b c : Out' σ} (h : Reach step a b) (k : Reach step b c) : Reach step a c := by
  obtain ⟨N, rfl⟩ := h
  obtain ⟨M, rfl⟩ := k
  exact ⟨N + M, goOn_plus step N M a⟩
theorem Reach.step {σ : Type} {step : σ → Out' σ} {s : σ} {o : Out' σ} (h : step s = o) : Reach step (.to s) o := ⟨1, by rw [goOn_to, h]; rfl⟩
theorem Reach.head {σ : Type} {step : σ → Out' σ} {s : σ} {o o' : Out' σ} (h : step s = o) (k : Reach step o o') : Reach step (.to s) o' := (Reach.step h).trans k

theorem roomB {m : Nat} (h : m ≤ 3000) : (Nat.beq 4 4 && ((decide (0 + m = m)) && decide ((m + 1 + 1) * (32 + 1) ≤ room))) = true := by
  rw [decide_eq_true (Nat.zero_add m), decide_eq_true (show (m + 1 + 1) * (32 + 1) ≤ room by unfold room; omega)]; rfl
theorem in_range {i n : Nat} (h : i < n) : (decide (0 ≤ (i : Int) ∧ (i : Int) < (n : Int)) && true) = true := by rw [Bool.and_true]; exact decide_eq_true (by omega)
theorem next_row (i : Nat) : (Nat.beq (i + 1) i == false) = true := by
  rw [show Nat.beq (i + 1) i = false from Bool.eq_false_iff.2 fun e => by have := Nat.eq_of_beq_eq_true e; omega]; rfl
theorem eq_true_b {b : Bool} (h : b = true) : (b == true) = true := by rw [h]; rfl
end Go.Am
