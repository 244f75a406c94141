/- SnapCuts: the steps of Cuts within the law are those of Cuts. -/
import Derived.Test.YtdojgffcahimjaaSpCa
namespace Go.Am.Kp
open Go.Proofs
set_option maxRecDepth 1000000
set_option maxHeartbeats 4000000
set_option linter.unusedVariables false
set_option linter.unusedSimpArgs false
def mapO {σ τ : Type} (f : σ → τ) : Out' σ → Out' τ
  | .to s => .to (f s)
  | .ret vs => .ret vs
  | .stuck => .stuck
theorem mapO_bif {σ τ : Type} (f : σ → τ) (b : Bool) (x y : Out' σ) : mapO f (bif b then x else y) = bif b then mapO f x else mapO f y := by cases b <;> rfl
theorem mapO_to {σ τ : Type} (f : σ → τ) (s : σ) : mapO f (.to s) = .to (f s) := rfl
theorem mapO_stuck {σ τ : Type} (f : σ → τ) : mapO f (.stuck : Out' σ) = .stuck := rfl
def embC : pcutsS → ctsS
  | .h0 a D M F => .h1 a D M F
  | .h1 a b c d D M F => .h2 a b c d D M F
  | .h2 a b c d D M F => .h3 a b c d D M F
  | .h3 a b c d e D M F n h => .h4 a b c d e D M F n h
  | .h4 a b c d e f D M F n h x y => .h5 a b c d e f D M F n h x y
theorem cts_sim (n0 : Nat) (c0 : Nat → Int) (n1 : Nat) (c1 : Nat → Int) (w : Int) : ∀ s s', pcutsstep n0 c0 n1 c1 w s = .to s' → ctsstep n0 c0 n1 c1 w (embC s) = .to (embC s')
  | .h0 a D M F, s', h => by
    have g : ctsstep n0 c0 n1 c1 w (embC (.h0 a D M F)) = mapO embC (pcutsstep n0 c0 n1 c1 w (.h0 a D M F)) := by simp only [pcutsstep, ctsstep, embC, mapO_bif, mapO_to, mapO_stuck]
    rw [g, h]; rfl
  | .h1 a b c d D M F, s', h => by
    have g : ctsstep n0 c0 n1 c1 w (embC (.h1 a b c d D M F)) = mapO embC (pcutsstep n0 c0 n1 c1 w (.h1 a b c d D M F)) := by simp only [pcutsstep, ctsstep, embC, mapO_bif, mapO_to, mapO_stuck]
    rw [g, h]; rfl
  | .h2 a b c d D M F, s', h => by
    rcases bool_cases (decide (d < (n1 : Int))) with e | e
    · have g : ctsstep n0 c0 n1 c1 w (embC (.h2 a b c d D M F)) = mapO embC (pcutsstep n0 c0 n1 c1 w (.h2 a b c d D M F)) := by simp only [pcutsstep, ctsstep, embC, e, cond_true, mapO_bif, mapO_to, mapO_stuck]
      rw [g, h]; rfl
    · simp only [pcutsstep, e, cond_false] at h
      cases h
  | .h3 a b c d e D M F n h, s', hh => by
    have g : ctsstep n0 c0 n1 c1 w (embC (.h3 a b c d e D M F n h)) = mapO embC (pcutsstep n0 c0 n1 c1 w (.h3 a b c d e D M F n h)) := by simp only [pcutsstep, ctsstep, embC, mapO_bif, mapO_to, mapO_stuck]
    rw [g, hh]; rfl
  | .h4 a b c d e f D M F n h x y, s', hh => by
    have g : ctsstep n0 c0 n1 c1 w (embC (.h4 a b c d e f D M F n h x y)) = mapO embC (pcutsstep n0 c0 n1 c1 w (.h4 a b c d e f D M F n h x y)) := by simp only [pcutsstep, ctsstep, embC, mapO_bif, mapO_to, mapO_stuck]
    rw [g, hh]; rfl
theorem reach_sim {σ τ : Type} {st : σ → Out' σ} {st' : τ → Out' τ} {f : σ → τ} (h : ∀ s s', st s = .to s' → st' (f s) = .to (f s')) : ∀ (N : Nat) (s t : σ), goOn st N (.to s) = .to t → goOn st' N (.to (f s)) = .to (f t)
  | 0, s, t, g => by
    have : s = t := by
      have g : (Out'.to s : Out' σ) = .to t := g
      exact Out'.to.inj g
    rw [this]; rfl
  | N + 1, s, t, g => by
    rw [goOn_to] at g ⊢
    cases hs : st s with
    | to s' =>
      rw [hs] at g
      rw [h s s' hs]
      exact reach_sim h N s' t g
    | ret vs => rw [hs, goOn_ret] at g; cases g
    | stuck =>
      rw [hs] at g
      cases N <;> cases g
end Go.Am.Kp
/- SnapCuts: the loop that writes into the result. -/
namespace Go.Am.Kp
open Go.Proofs
set_option maxRecDepth 1000000
set_option maxHeartbeats 4000000
set_option linter.unusedVariables false
set_option linter.unusedSimpArgs false
theorem catRow_zero (g : Nat → List AVal) (c : Nat → Int) : (fun k => catRow g 0 (iget c) (0 + k)) = iget c := by
  funext k
  simp only [catRow, Nat.zero_add, Nat.sub_zero]
  rw [show Nat.ble 0 k = true from Nat.ble_eq_true_of_le (Nat.zero_le _)]; rfl
theorem catRow_zero' (g : Nat → List AVal) (c : Nat → Int) : catRow g 0 (iget c) = iget c := by
  funext k
  simp only [catRow, Nat.zero_add, Nat.sub_zero]
  rw [show Nat.ble 0 k = true from Nat.ble_eq_true_of_le (Nat.zero_le _)]; rfl
theorem flat_t (c : Nat → Int) : flatG (iget c) = true := flatG_iget c
theorem isI_t (c : Nat → Int) : isI (iget c) = true := isI_iget c
theorem cts_h0 (n0 : Nat) (c0 : Nat → Int) (n1 : Nat) (c1 : Nat → Int) (w : Int) (hn1 : n1 ≤ 150) : ∀ (k i n : Nat) (c : Nat → Int), i + k = n → n ≤ 1000 → goOn (ctsstep n0 c0 n1 c1 w) (k + 1) (.to (.h0 n c (i : Int))) = .ret [.bool true]
  | 0, i, n, c, h, hn => by
    have k0 : decide ((i : Int) < (n : Int)) = false := decide_eq_false (by omega)
    have o : sameV_owed n1 c1 n1 c1 = true := short_of (by omega)
    rw [goOn_to]
    simp only [ctsstep, k0, cond_false, catRow_zero', Nat.zero_add, isI_t, flat_t, cOf_iget, iget_eta, sameV_self, o, Nat.le_refl, decide_true, Nat.beq_refl, Bool.and_self, cond_true]
    rfl
  | k + 1, i, n, c, h, hn => by
    have k0 : decide ((i : Int) < (n : Int)) = true := decide_eq_true (by omega)
    have a1 := in_range (i := i) (n := n) (by omega)
    have a2 : decide (i < n) = true := decide_eq_true (by omega)
    have wi : IntKind.wrap .i64 ((i : Int) + 1) = ((i + 1 : Nat) : Int) := w_nat (i := i) (by omega)
    rw [goOn_to]
    simp only [ctsstep, k0, a1, a2, wi, cond_true, Nat.zero_add, Int.toNat_natCast]
    exact cts_h0 n0 c0 n1 c1 w hn1 k (i + 1) n _ (by omega) hn
end Go.Am.Kp
/- SnapCuts: the way back within the law. -/
namespace Go.Am.Kp
open Go.Proofs
set_option maxRecDepth 1000000
set_option maxHeartbeats 4000000
set_option linter.unusedVariables false
set_option linter.unusedSimpArgs false
section
variable (n0 : Nat) (c0 : Nat → Int) (n1 : Nat) (c1 : Nat → Int) (w : Int)
theorem cts_h3 (hn1 : n1 ≤ 100) (T : Nat → List Opt) (e1 : pctV_1 n0 c0 n1 c1 w = 0) (eN : pctV_0n n0 c0 n1 c1 w = n1) (eC : ∀ t, t < n1 → pctV_0c n0 c0 n1 c1 w t = listC (chainL T n1 0 0) t) {D : Nat → Bool} {M : Nat → Nat} {F : Nat → Nat → Nat → Int} (hT : ∀ r, r < n1 → D r = true ∧ RowA 1 2 3 (M r) (F r) (T r))
    (hnx : ∀ i a, i + 1 < n1 → a < (T i).length → 0 ≤ (oAt (T i) a).nx ∧ (oAt (T i) a).nx < (T (i + 1)).length) : ∀ (k i : Nat) (L : List Int) (cc : Nat → Int) (a : Int), i + k = n1 → L.length = i → (∀ t, t < L.length → cc t = listC L t) → (k = 0 ∨ (0 ≤ a ∧ a < (T i).length)) → L ++ chainL T k i a = chainL T n1 0 0 →
    Reach (ctsstep n0 c0 n1 c1 w) (.to (.h3 L.length cc a (i : Int) D M F)) (.ret [.bool true])
  | 0, i, L, cc, a, hi, hL, hc, _, he => by
    have k0 : decide ((i : Int) < (n1 : Int)) = false := decide_eq_false (by omega)
    have hLn : L.length = n1 := by omega
    have he : L = chainL T n1 0 0 := by rw [← he]; exact (List.append_nil L).symm
    have s : sameV n1 cc n1 (pctV_0c n0 c0 n1 c1 w) = true := sameV_of rfl fun t ht => by rw [hc t (by omega), eC t ht, ← he]
    have o : sameV_owed n1 cc n1 (pctV_0c n0 c0 n1 c1 w) = true := short_of (by omega)
    have z : ((0 : Int) != 0) = false := rfl
    rw [hLn]
    refine Reach.head (o := .to (.h0 n1 cc ((0 : Nat) : Int))) ?_ ⟨n1 + 1, cts_h0 n0 c0 n1 c1 w (by omega) n1 0 n1 cc (Nat.zero_add _) (by omega)⟩
    simp only [ctsstep, k0, cond_false, Nat.zero_add, isI_t, flat_t, cOf_iget, iget_eta, eN, e1, s, o, z, Nat.le_refl, decide_true, Nat.beq_refl, Bool.and_self, Bool.not_true, cond_true]
    rfl
  | k + 1, i, L, cc, a, hi, hL, hc, ha, he => by
    obtain ⟨ha0, ha1⟩ := ha.resolve_left (by omega)
    obtain ⟨q1, q2, q3⟩ := hT i (by omega)
    have hal : a.toNat < (T i).length := by omega
    obtain ⟨g0, g1, _, _⟩ := q3 a.toNat hal
    have k0 : decide ((i : Int) < (n1 : Int)) = true := decide_eq_true (by omega)
    have a2 := in_range (i := i) (n := n1) (by omega)
    have a4 : decide (i < n1) = true := decide_eq_true (by omega)
    have a6 := eq_true_b q1
    have r1 : decide ((L.length + 1 + 1) * (8 + 1) ≤ room) = true := decide_eq_true (by unfold room; omega)
    have k2 : (decide (0 ≤ a ∧ a < ((M i : Nat) : Int)) && true) = true := by rw [Bool.and_true]; exact decide_eq_true (by omega)
    have wi : IntKind.wrap .i64 ((i : Int) + 1) = ((i + 1 : Nat) : Int) := w_nat (i := i) (by omega)
    have p2 := cts_h3 hn1 T e1 eN eC hT hnx k (i + 1) (L ++ [(oAt (T i) a.toNat).pl]) (appC cc L.length (oAt (T i) a.toNat).pl) (oAt (T i) a.toNat).nx (by omega) (by rw [len_snoc]; omega) (listC_app hc _) (by
      cases k with
      | zero => exact .inl rfl
      | succ k => exact .inr (hnx i a.toNat (by omega) hal)) (by rw [List.append_assoc]; exact he)
    rw [len_snoc] at p2
    refine Reach.head ?_ p2
    simp only [ctsstep, k0, r1, a2, a4, a6, k2, wi, g0, g1, cond_true, Nat.zero_add, Int.toNat_natCast, Nat.beq_refl, decide_true, Bool.true_and]
end
end Go.Am.Kp
/- SnapCuts always gives true (its steps). -/
namespace Go.Am.Kp
open Go.Proofs
set_option maxRecDepth 1000000
set_option maxHeartbeats 4000000
set_option linter.unusedVariables false
set_option linter.unusedSimpArgs false
theorem cts_tab (n0 : Nat) (c0 : Nat → Int) (n1 : Nat) (c1 : Nat → Int) (w : Int) (L0 : Lines n0 c0) (L1 : Lines n1 c1) (hE : cutsE n0 c0 n1 c1 w = 0) :
    ∃ N, goOn (ctsstep n0 c0 n1 c1 w) N (.to (.h1 ((n1 : Int) - 1) (fun _ => false) (fun _ => 0) (fun _ _ _ => 0))) = .ret [.bool true] := by
  have hn1 := L1.len
  obtain ⟨hnx, hpos⟩ := way_ok n1 c1 L1 (prP n0 c0 n1 c1 w) (onP n0 c0) (dP c1) (T := tabP n0 c0 n1 c1 w) rfl fun i _ => prP_mem n0 c0 n1 c1 w i
  obtain ⟨D, M, F, q1, N, q2⟩ := pc_h0 n0 c0 n1 c1 w L0 hn1 n1 (fun _ => false) (fun _ => 0) (fun _ _ _ => 0) (Nat.le_refl _) (fun _ _ => rfl) fun r h1 h2 => by omega
  have q3 : Reach (ctsstep n0 c0 n1 c1 w) (.to (.h1 ((n1 : Int) - 1) (fun _ => false) (fun _ => 0) (fun _ _ _ => 0))) (.to (.h3 0 (listC []) 0 0 D M F)) := ⟨N, reach_sim (cts_sim n0 c0 n1 c1 w) N _ _ q2⟩
  have hw : cutsL n0 c0 n1 c1 w (tabP n0 c0 n1 c1 w) = chainL (tabP n0 c0 n1 c1 w) n1 0 0 := by unfold cutsL wayL; rw [hE]; rfl
  have p := cts_h3 n0 c0 n1 c1 w hn1 (tabP n0 c0 n1 c1 w) hE (by unfold pctV_0n; rw [hw, chainL_len]) (fun t _ => by unfold pctV_0c; rw [hw]) q1 hnx n1 0 [] (listC []) 0 (Nat.zero_add _) rfl (fun t ht => absurd ht (Nat.not_lt_zero _)) (by
    rcases Nat.eq_zero_or_pos n1 with e | e
    · exact .inl e
    · exact .inr ⟨Int.le_refl _, by have := hpos e; omega⟩) (List.nil_append _)
  exact q3.trans p
theorem cts_run (n0 : Nat) (c0 : Nat → Int) (n1 : Nat) (c1 : Nat → Int) (w : Int) : ∃ N, goOn (ctsstep n0 c0 n1 c1 w) N (ctsstart n0 c0 n1 c1 w) = .ret [.bool true] := by
  have out : ∃ N, goOn (ctsstep n0 c0 n1 c1 w) N (.ret [.bool true]) = .ret [.bool true] := ⟨0, rfl⟩
  have go : ∀ {o : Out' ctsS}, ctsstart n0 c0 n1 c1 w = o → (∃ N, goOn (ctsstep n0 c0 n1 c1 w) N o = .ret [.bool true]) → ∃ N, goOn (ctsstep n0 c0 n1 c1 w) N (ctsstart n0 c0 n1 c1 w) = .ret [.bool true] := fun h g => by rw [h]; exact g
  by_cases hb : n1 ≤ 150
  rotate_left
  · have a1 : decide ((n1 : Int) > 40) = true := decide_eq_true (by omega)
    have a2 : decide ((n1 : Int) ≤ 100) = false := decide_eq_false (by omega)
    have a3 : decide ((n1 : Int) > 150) = true := decide_eq_true (by omega)
    refine go (o := .ret [.bool true]) ?_ out
    rcases bool_cases (decide ((n0 : Int) > 40)) with b1 | b1 <;> rcases bool_cases (decide ((n0 : Int) ≤ 100)) with b2 | b2 <;> rcases bool_cases (decide ((n0 : Int) > 150)) with b3 | b3 <;>
      simp only [ctsstart, a1, a2, a3, b1, b2, b3, cond_true, cond_false]
  have r1 : decide ((0 + n1 + 1) * (8 + 1) ≤ room) = true := decide_eq_true (by unfold room; omega)
  have a3 : decide ((n1 : Int) > 150) = false := decide_eq_false (by omega)
  have hz : ∃ N, goOn (ctsstep n0 c0 n1 c1 w) N (.to (.h0 0 (listC []) 0)) = .ret [.bool true] := ⟨0 + 1, cts_h0 n0 c0 n1 c1 w hb 0 0 0 (listC []) rfl (by omega)⟩
  have err : ∀ E : Int, cutsE n0 c0 n1 c1 w = E → (E != 0) = true → pctV_1 n0 c0 n1 c1 w = E ∧ sameV 0 (fun _ => 0) (pctV_0n n0 c0 n1 c1 w) (pctV_0c n0 c0 n1 c1 w) = true := fun E h0 h1 => ⟨h0, by
    have hl : cutsL n0 c0 n1 c1 w (tabP n0 c0 n1 c1 w) = [] := by unfold cutsL; rw [h0, h1]; rfl
    refine sameV_of (by unfold pctV_0n; rw [hl]; rfl) fun i hi => absurd hi (Nat.not_lt_zero _)⟩
  have os : sameV_owed 0 (fun _ => 0) (pctV_0n n0 c0 n1 c1 w) (pctV_0c n0 c0 n1 c1 w) = true := short_of (by omega)
  have ne : ∀ E : Int, (E != E) = false := fun E => bne_self_eq_false E
  rcases bool_cases (decide ((n0 : Int) > 40)) with b1 | b1 <;> rcases bool_cases (decide ((n0 : Int) ≤ 100)) with b2 | b2 <;> rcases bool_cases (decide ((n0 : Int) > 150)) with b3 | b3 <;> rcases bool_cases (decide ((n1 : Int) > 40)) with d1 | d1 <;> rcases bool_cases (decide ((n1 : Int) ≤ 100)) with d2 | d2 <;>
    first
    | (refine go (o := .ret [.bool true]) ?_ out
       simp only [ctsstart, a3, b1, b2, b3, d1, d2, cond_true, cond_false]
       done)
    | (rcases bool_cases (chkV n0 c0 != 0) with h0 | h0
       · obtain ⟨g1, g2⟩ := err _ (by simp only [cutsE, h0, cond_true]) h0
         exact go (by simp only [ctsstart, a3, b1, b2, b3, d1, d2, h0, g1, g2, os, ne, r1, Bool.not_true, cond_true, cond_false]) hz
       rcases bool_cases (chkV n1 c1 != 0) with h1 | h1
       · obtain ⟨g1, g2⟩ := err _ (by simp only [cutsE, h0, h1, cond_true, cond_false]) h1
         exact go (by simp only [ctsstart, a3, b1, b2, b3, d1, d2, h0, h1, g1, g2, os, ne, r1, Bool.not_true, cond_true, cond_false]) hz
       rcases bool_cases (decide (w < 0)) with h2 | h2
       · obtain ⟨g1, g2⟩ := err 2 (by simp only [cutsE, h0, h1, h2, cond_true, cond_false]) rfl
         exact go (by simp only [ctsstart, a3, b1, b2, b3, d1, d2, h0, h1, h2, g1, g2, os, ne, r1, Bool.not_true, cond_true, cond_false]) hz
       rcases bool_cases (decide (w > 2000000)) with h3 | h3
       · obtain ⟨g1, g2⟩ := err 2 (by simp only [cutsE, h0, h1, h2, h3, cond_true, cond_false]) rfl
         exact go (by simp only [ctsstart, a3, b1, b2, b3, d1, d2, h0, h1, h2, h3, g1, g2, os, ne, r1, Bool.not_true, cond_true, cond_false]) hz
       have wn : IntKind.wrap .i64 ((n1 : Int) - 1) = (n1 : Int) - 1 := w_in (by omega) (by omega)
       have k1 : decide ((0 : Int) ≤ (n1 : Int)) = true := decide_eq_true (by omega)
       have k2 : decide ((n1 : Int) ≤ (n1 : Int)) = true := decide_eq_true (by omega)
       have k3 : decide ((n1 : Int) * 24 ≤ 1099511627776) = true := decide_eq_true (by omega)
       have k4 : decide ((n1 : Int) ≤ 1099511627776) = true := decide_eq_true (by omega)
       exact go (by simp only [ctsstart, a3, b1, b2, b3, d1, d2, h0, h1, h2, h3, wn, k1, k2, k3, k4, r1, Bool.and_self, cond_true, cond_false]) (cts_tab n0 c0 n1 c1 w (lines_of h0) (lines_of h1) (by simp only [cutsE, h0, h1, h2, h3, cond_false])))
end Go.Am.Kp
