/- Cuts of the reference: its loops, and its value: the same as of the program. -/
import Derived.Test.YtdojgffcahimjaaSpX
import Derived.Test.YtdojgffcahimjaaSp6
namespace Go.Am
namespace Kp
open Go.Proofs
set_option maxRecDepth 100000
set_option maxHeartbeats 4000000
set_option linter.unusedVariables false
set_option linter.unusedSimpArgs false

def onR (n0 : Nat) (c0 : Nat → Int) (p : Int) : Int := bif hasV n0 c0 p then 1 else 0
def dR (c1 : Nat → Int) (i : Nat) (p : Int) : Int := apartV p (c1 i)
def endR (n1 i : Nat) : Bool := bif (i : Int) == 0 then true else (i : Int) == (n1 : Int) - 1
def plR (n0 : Nat) (c0 : Nat → Int) (n1 : Nat) (c1 : Nat → Int) (w : Int) (i : Nat) : List Int := plL n0 c0 (c1 i) w (endR n1 i)

section
variable (n0 : Nat) (c0 : Nat → Int) (n1 : Nat) (c1 : Nat → Int) (w : Int)

theorem rc_h3 {i : Nat} (hi : i + 1 < n1) (hn1 : n1 ≤ 100) {np t : Nat} {q : Nat → Int} (ht : t < np) (hnp : np ≤ 1000) {D : Nat → Bool} {M : Nat → Nat} {F : Nat → Nat → Nat → Int} (hD : D (i + 1) = true) {L : List Opt} (hL : RowA 3 1 2 (M (i + 1)) (F (i + 1)) L) (hll : L.length ≤ 1000)
    {hn : Nat} {h : Nat → Nat → Int} (hhn : hn ≤ 3000) (on : Int) : ∀ (k j : Nat) (nx : Int), j + k = L.length → (nx < 0 ∨ nx < L.length) →
    Reach (rcutsstep n0 c0 n1 c1 w) (.to (.h3 (i : Int) np q (t : Int) (j : Int) D M F hn h on nx))
      (bif decide (scanI L (q t) k j nx < 0) then .to (.h1 (i : Int) np q ((t + 1 : Nat) : Int) D M F hn h)
        else .to (.h1 (i : Int) np q ((t + 1 : Nat) : Int) D M F (hn + 1) (app4 h hn (q t) (wadd on (oAt L (scanI L (q t) k j nx).toNat).on) (wadd (dR c1 i (q t)) (oAt L (scanI L (q t) k j nx).toNat).sm) (scanI L (q t) k j nx)))) := by
  obtain ⟨hm, hL⟩ := hL
  intro k
  have wi : IntKind.wrap .i64 ((i : Int) + 1) = ((i + 1 : Nat) : Int) := w_nat (i := i) (by omega)
  have wt : IntKind.wrap .i64 ((t : Int) + 1) = ((t + 1 : Nat) : Int) := w_nat (i := t) (by omega)
  have a1 := in_range (i := i + 1) (n := n1) hi
  have a2 := in_range (i := i) (n := n1) (by omega)
  have a3 : decide (i + 1 < n1) = true := decide_eq_true hi
  have a4 : decide (i < n1) = true := decide_eq_true (by omega)
  have a5 := next_row i
  have a6 := eq_true_b hD
  have a7 : decide ((hn + 1 + 1) * (32 + 1) ≤ room) = true := decide_eq_true (by unfold room; omega)
  have a8 := in_range (i := t) (n := np) ht
  induction k with
  | zero =>
    intro j nx hj hnx
    rw [show scanI L (q t) 0 j nx = nx from rfl]
    refine Reach.step ?_
    have k0 : decide ((j : Int) < ((M (i + 1) : Nat) : Int)) = false := decide_eq_false (by omega)
    by_cases hneg : nx < 0
    · have k1 : decide (nx < 0) = true := decide_eq_true hneg
      have k1' : decide (nx ≥ 0) = false := decide_eq_false (by omega)
      simp only [rcutsstep, wi, wt, Int.toNat_natCast, Nat.zero_add, a1, a2, a3, a4, a5, a6, a8, k0, k1, k1', cond_true, cond_false]
    · have k1 : decide (nx < 0) = false := decide_eq_false hneg
      have k1' : decide (nx ≥ 0) = true := decide_eq_true (by omega)
      have hlt : nx.toNat < L.length := by rcases hnx with h | h <;> omega
      have k2 : (decide (0 ≤ nx ∧ nx < ((M (i + 1) : Nat) : Int)) && true) = true := by rw [Bool.and_true]; exact decide_eq_true (by omega)
      obtain ⟨_, _, g2, g3⟩ := hL nx.toNat hlt
      simp only [rcutsstep, wi, wt, Int.toNat_natCast, Nat.zero_add, k0, k1, k1', k2, a1, a2, a3, a4, a5, a6, a7, a8, Nat.beq_refl, decide_true, Bool.true_and, cond_true, cond_false, g2, g3, wadd, dR]
  | succ k ih =>
    intro j nx hj hnx
    have hjl : j < L.length := by omega
    have wj : IntKind.wrap .i64 ((j : Int) + 1) = ((j + 1 : Nat) : Int) := w_nat (i := j) (by omega)
    have k0 : decide ((j : Int) < ((M (i + 1) : Nat) : Int)) = true := decide_eq_true (by omega)
    have k3 : (decide (0 ≤ (j : Int) ∧ (j : Int) < ((M (i + 1) : Nat) : Int)) && true) = true := by rw [Bool.and_true]; exact decide_eq_true (by omega)
    obtain ⟨g0, _, g2, g3⟩ := hL j hjl
    rw [scanI_succ]
    rcases bool_cases (decide ((oAt L j).pl > q t)) with e | e
    · rcases bool_cases (decide (nx < 0)) with e2 | e2
      · refine Reach.head ?_ (by rw [e, e2, cond_true, cond_true]; exact ih (j + 1) (j : Int) (by omega) (.inr (by omega)))
        simp only [rcutsstep, wi, wj, Int.toNat_natCast, Nat.zero_add, k0, k3, g0, e, e2, a1, a3, a5, a6, a8, cond_true, cond_false]
      · have hneg := of_decide_eq_false e2
        have hlt : nx.toNat < L.length := by rcases hnx with h | h <;> omega
        have k2 : (decide (0 ≤ nx ∧ nx < ((M (i + 1) : Nat) : Int)) && true) = true := by rw [Bool.and_true]; exact decide_eq_true (by omega)
        obtain ⟨_, _, f2, f3⟩ := hL nx.toNat hlt
        rcases bool_cases (betV (oAt L j).on (oAt L j).sm (oAt L nx.toNat).on (oAt L nx.toNat).sm) with e3 | e3
        · refine Reach.head ?_ (by rw [e, e2, e3, cond_true, cond_false, cond_true]; exact ih (j + 1) (j : Int) (by omega) (.inr (by omega)))
          simp only [rcutsstep, betterV, wi, wj, Int.toNat_natCast, Nat.zero_add, k0, k2, k3, g0, g2, g3, f2, f3, a1, a3, a5, a6, a8, e, e2, e3, cond_true, cond_false]
        · refine Reach.head ?_ (by rw [e, e2, e3, cond_true, cond_false, cond_false]; exact ih (j + 1) nx (by omega) hnx)
          simp only [rcutsstep, betterV, wi, wj, Int.toNat_natCast, Nat.zero_add, k0, k2, k3, g0, g2, g3, f2, f3, a1, a3, a5, a6, a8, e, e2, e3, cond_true, cond_false]
    · refine Reach.head ?_ (by rw [e, cond_false]; exact ih (j + 1) nx (by omega) hnx)
      simp only [rcutsstep, wi, wj, Int.toNat_natCast, Nat.zero_add, k0, k3, g0, a1, a3, a5, a6, a8, e, cond_true, cond_false]

theorem rc_h1 (hn0 : n0 ≤ 100) {i : Nat} (hi : i < n1) (hn1 : n1 ≤ 100) (P : List Int) (hP : P.length ≤ 1000) {q : Nat → Int} (hq : ∀ t, t < P.length → q t = P.getD t 0) {D : Nat → Bool} {M : Nat → Nat} {F : Nat → Nat → Nat → Int}
    (nxt : Option (List Opt)) (hnxt : (nxt = none ∧ i + 1 = n1) ∨ ∃ L, nxt = some L ∧ i + 1 < n1 ∧ D (i + 1) = true ∧ RowA 3 1 2 (M (i + 1)) (F (i + 1)) L ∧ L.length ≤ 1000) :
    ∀ (k t hn : Nat) (h : Nat → Nat → Int) (Lr : List Opt), t + k = P.length → RowA 3 1 2 hn h Lr → hn ≤ t →
    ∃ hn' h', RowA 3 1 2 hn' h' (Lr ++ rowL (onR n0 c0) (dR c1 i) nxt (P.drop t)) ∧ Reach (rcutsstep n0 c0 n1 c1 w) (.to (.h1 (i : Int) P.length q (t : Int) D M F hn h)) (.to (.h0 ((i : Int) - 1) (updB D i) (updN M i hn') (updF F i h'))) := by
  have wn : IntKind.wrap .i64 ((n1 : Int) - 1) = (n1 : Int) - 1 := w_in (by omega) (by omega)
  have wm : IntKind.wrap .i64 ((i : Int) - 1) = (i : Int) - 1 := w_in (by omega) (by omega)
  have a2 := in_range (i := i) (n := n1) hi
  have a4 : decide (i < n1) = true := decide_eq_true hi
  intro k
  induction k with
  | zero =>
    intro t hn h Lr ht hR hle
    have k0 : decide ((t : Int) < (P.length : Int)) = false := decide_eq_false (by omega)
    refine ⟨hn, h, ?_, Reach.step ?_⟩
    · rw [List.drop_eq_nil_of_le (by omega)]
      simpa [rowL] using hR
    · simp only [rcutsstep, k0, cond_false, wm, Int.toNat_natCast, Nat.zero_add]
  | succ k ih =>
    intro t hn h Lr ht hR hle
    have htl : t < P.length := by omega
    have k0 : decide ((t : Int) < (P.length : Int)) = true := decide_eq_true (by omega)
    have a1 := in_range (i := t) (n := P.length) htl
    have wt : IntKind.wrap .i64 ((t : Int) + 1) = ((t + 1 : Nat) : Int) := w_nat (i := t) (by omega)
    have a5 : hasV_owed n0 c0 (q t) = true := short_of (by omega)
    have a7 : decide ((hn + 1 + 1) * (32 + 1) ≤ room) = true := decide_eq_true (by unfold room; omega)
    have hdrop : P.drop t = q t :: P.drop (t + 1) := by
      rw [hq t htl, List.drop_eq_getElem_cons htl]
      simp [htl]
    rw [hdrop]
    rcases hnxt with ⟨rfl, hlast⟩ | ⟨L, rfl, hlt, hD, hL, hll⟩
    · have k1 : ((i : Int) == (n1 : Int) - 1) = true := by simp only [beq_iff_eq]; omega
      obtain ⟨hn', h', g1, g2⟩ := ih (t + 1) (hn + 1) (app4 h hn (q t) (onR n0 c0 (q t)) (dR c1 i (q t)) (-1)) (Lr ++ [⟨q t, -1, onR n0 c0 (q t), dR c1 i (q t)⟩]) (by omega) (hR.snocR _ _ _ _) (by omega)
      refine ⟨hn', h', by rw [List.append_assoc] at g1; exact g1, Reach.head ?_ g2⟩
      rcases bool_cases (hasV n0 c0 (q t)) with e | e <;>
        simp only [rcutsstep, k0, k1, wn, wt, e, onR, dR, a1, a2, a4, a5, a7, Nat.beq_refl, decide_true, Bool.true_and, cond_true, cond_false, Int.toNat_natCast, Nat.zero_add]
    · have k1 : ((i : Int) == (n1 : Int) - 1) = false := beq_eq_false_iff_ne.2 (by omega)
      have hs := rc_h3 n0 c0 n1 c1 w hlt hn1 (np := P.length) (t := t) (q := q) htl hP hD hL hll (hn := hn) (h := h) (by omega) (onR n0 c0 (q t)) L.length 0 (-1) (Nat.zero_add _) (.inl (by omega))
      have first : Reach (rcutsstep n0 c0 n1 c1 w) (.to (.h1 (i : Int) P.length q (t : Int) D M F hn h)) (.to (.h3 (i : Int) P.length q (t : Int) ((0 : Nat) : Int) D M F hn h (onR n0 c0 (q t)) (-1))) := by
        refine Reach.step ?_
        rcases bool_cases (hasV n0 c0 (q t)) with e | e <;>
          (simp only [rcutsstep, k0, k1, wn, e, onR, a1, a2, a4, a5, cond_true, cond_false, Int.toNat_natCast, Nat.zero_add]; rfl)
      have hs := first.trans hs
      rcases bool_cases (decide (scanI L (q t) L.length 0 (-1) < 0)) with e | e
      · rw [e, cond_true] at hs
        obtain ⟨hn', h', g1, g2⟩ := ih (t + 1) hn h Lr (by omega) hR (by omega)
        refine ⟨hn', h', ?_, hs.trans g2⟩
        show RowA 3 1 2 hn' h' (Lr ++ (bif decide (scanI L (q t) L.length 0 (-1) < 0) then _ else _))
        rw [e, cond_true]; exact g1
      · rw [e, cond_false] at hs
        obtain ⟨hn', h', g1, g2⟩ := ih (t + 1) (hn + 1) _ (Lr ++ [⟨q t, scanI L (q t) L.length 0 (-1), wadd (onR n0 c0 (q t)) (oAt L (scanI L (q t) L.length 0 (-1)).toNat).on, wadd (dR c1 i (q t)) (oAt L (scanI L (q t) L.length 0 (-1)).toNat).sm⟩]) (by omega) (hR.snocR _ _ _ _) (by omega)
        refine ⟨hn', h', ?_, hs.trans g2⟩
        show RowA 3 1 2 hn' h' (Lr ++ (bif decide (scanI L (q t) L.length 0 (-1) < 0) then _ else _))
        rw [e, cond_false]
        rw [List.append_assoc] at g1
        exact g1
end

section
variable {n0 : Nat} {c0 : Nat → Int} {n1 : Nat} {c1 : Nat → Int} {w : Int}
theorem plF_mem (c : Nat → Int) (x w y : Int) : ∀ (k i : Nat) (done : Bool), y ∈ plF c x w k i done ↔ ((done = false ∧ y = x) ∨ ∃ t, i ≤ t ∧ t < i + k ∧ c t = y ∧ c t ≠ x ∧ apartV (c t) x ≤ w)
  | 0, i, done => by
    cases done with
    | true =>
      refine ⟨fun h => (by cases h), fun h => ?_⟩
      rcases h with ⟨h, _⟩ | ⟨t, a, b, _⟩
      · cases h
      · omega
    | false =>
      refine ⟨fun h => .inl ⟨rfl, List.mem_singleton.1 h⟩, fun h => ?_⟩
      rcases h with ⟨_, h⟩ | ⟨t, a, b, _⟩
      · exact List.mem_singleton.2 h
      · omega
  | k + 1, i, done => by
    unfold plF
    rw [List.mem_append, List.mem_append, plF_mem c x w y k (i + 1)]
    have tail : (∃ t, i ≤ t ∧ t < i + (k + 1) ∧ c t = y ∧ c t ≠ x ∧ apartV (c t) x ≤ w) ↔ ((c i = y ∧ c i ≠ x ∧ apartV (c i) x ≤ w) ∨ ∃ t, i + 1 ≤ t ∧ t < i + 1 + k ∧ c t = y ∧ c t ≠ x ∧ apartV (c t) x ≤ w) := by
      constructor
      · rintro ⟨t, a, b, h⟩
        by_cases e : t = i
        · subst e; exact .inl h
        · exact .inr ⟨t, by omega, by omega, h⟩
      · rintro (h | ⟨t, a, b, h⟩)
        · exact ⟨i, Nat.le_refl _, by omega, h⟩
        · exact ⟨t, by omega, by omega, h⟩
    have mid : y ∈ (bif c i != x then bif decide (apartV (c i) x ≤ w) then [c i] else [] else []) ↔ (c i = y ∧ c i ≠ x ∧ apartV (c i) x ≤ w) := by
      rcases bool_cases (c i != x) with e1 | e1 <;> rw [e1]
      · rcases bool_cases (decide (apartV (c i) x ≤ w)) with e2 | e2 <;> rw [e2]
        · exact ⟨fun h => ⟨(List.mem_singleton.1 h).symm, bne_iff_ne.1 e1, of_decide_eq_true e2⟩, fun h => List.mem_singleton.2 h.1.symm⟩
        · exact ⟨fun h => (by cases h), fun h => absurd h.2.2 (of_decide_eq_false e2)⟩
      · have e1' : c i = x := by simpa using e1
        exact ⟨fun h => (by cases h), fun h => absurd e1' h.2.1⟩
    rw [tail, mid]
    have hd : y ∈ (bif done then [] else bif decide (c i ≥ x) then [x] else ([] : List Int)) ↔ (done = false ∧ c i ≥ x ∧ y = x) := by
      cases done with
      | true => exact ⟨fun h => (by cases h), fun h => by cases h.1⟩
      | false =>
        rcases bool_cases (decide (c i ≥ x)) with e | e <;> rw [e]
        · exact ⟨fun h => ⟨rfl, of_decide_eq_true e, List.mem_singleton.1 h⟩, fun h => List.mem_singleton.2 h.2.2⟩
        · exact ⟨fun h => (by cases h), fun h => absurd h.2.1 (of_decide_eq_false e)⟩
    rw [hd]
    cases done with
    | true => simp
    | false =>
      rcases bool_cases (decide (c i ≥ x)) with e | e <;> rw [e]
      · have e' := of_decide_eq_true e
        simp [e']
      · have e' : ¬ c i ≥ x := of_decide_eq_false e
        simp [e']
        constructor
        · rintro (h | h | h)
          · exact .inr (.inl h)
          · exact .inl h
          · exact .inr (.inr h)
        · rintro (h | h | h)
          · exact .inr (.inl h)
          · exact .inl h
          · exact .inr (.inr h)
theorem plF_up {n : Nat} {c : Nat → Int} (L : Lines n c) (x w : Int) : ∀ (k i : Nat) (done : Bool), i + k ≤ n → (done = true → ∀ t, i ≤ t → t < n → x < c t ∨ (c t = x)) → (plF c x w k i done).Pairwise (· < ·)
  | 0, i, done, _, _ => by
    cases done with
    | true => exact List.Pairwise.nil
    | false => exact List.pairwise_singleton _ _
  | k + 1, i, done, hk, hd => by
    have ih := plF_up L x w k (i + 1) (done || decide (c i ≥ x)) (by omega) fun h t h1 h2 => by
      rcases bool_cases done with e | e
      · exact hd e t (by omega) h2
      · rw [e, Bool.false_or] at h
        have h := of_decide_eq_true h
        have := L.up i t (by omega) h2
        omega
    unfold plF
    have hmid : ∀ y, y ∈ (bif c i != x then bif decide (apartV (c i) x ≤ w) then [c i] else [] else ([] : List Int)) → y = c i ∧ c i ≠ x := fun y hy => by
      rcases bool_cases (c i != x) with e1 | e1 <;> rw [e1] at hy
      · rcases bool_cases (decide (apartV (c i) x ≤ w)) with e2 | e2 <;> rw [e2] at hy
        · exact ⟨List.mem_singleton.1 hy, bne_iff_ne.1 e1⟩
        · cases hy
      · cases hy
    have hmp : (bif c i != x then bif decide (apartV (c i) x ≤ w) then [c i] else [] else ([] : List Int)).Pairwise (· < ·) := by
      rcases bool_cases (c i != x) with e1 | e1 <;> rw [e1]
      · rcases bool_cases (decide (apartV (c i) x ≤ w)) with e2 | e2 <;> rw [e2]
        · exact List.pairwise_singleton _ _
        · exact List.Pairwise.nil
      · exact List.Pairwise.nil
    have htl : ∀ y, y ∈ plF c x w k (i + 1) (done || decide (c i ≥ x)) → (y = x ∧ c i < x) ∨ c i < y := fun y hy => by
      rcases (plF_mem c x w y k (i + 1) _).1 hy with ⟨h1, h2⟩ | ⟨t, a, b, h, _⟩
      · refine .inl ⟨h2, ?_⟩
        rw [Bool.or_eq_false_iff] at h1
        have := of_decide_eq_false h1.2
        omega
      · have := L.up i t (by omega) (by omega)
        exact .inr (by omega)
    refine List.pairwise_append.2 ⟨?_, List.pairwise_append.2 ⟨hmp, ih, fun a ha b hb => ?_⟩, fun a ha b hb => ?_⟩
    · cases done with
      | true => exact List.Pairwise.nil
      | false =>
        rcases bool_cases (decide (c i ≥ x)) with e | e <;> rw [e]
        · exact List.pairwise_singleton _ _
        · exact List.Pairwise.nil
    · obtain ⟨h1, h2⟩ := hmid a ha
      rcases htl b hb with h | h <;> omega
    · cases done with
      | true => cases ha
      | false =>
        rcases bool_cases (decide (c i ≥ x)) with e | e <;> rw [e] at ha
        · have h1 : a = x := List.mem_singleton.1 ha
          have h2 := of_decide_eq_true e
          rcases List.mem_append.1 hb with hb | hb
          · obtain ⟨h3, h4⟩ := hmid b hb
            omega
          · rcases htl b hb with h | h <;> omega
        · cases ha

/-- The places of a cut: the same on both sides. -/
theorem pl_eq (L0 : Lines n0 c0) (L1 : Lines n1 c1) {i : Nat} (hi : i < n1) : plR n0 c0 n1 c1 w i = prP n0 c0 n1 c1 w i := by
  have hm : midP n1 i = !(endR n1 i) := by
    unfold midP endR
    by_cases e1 : i = 0
    · subst e1; rfl
    · rw [decide_eq_true (show (i : Int) > 0 by omega), show ((i : Int) == 0) = false from beq_eq_false_iff_ne.2 (by omega), cond_false, Bool.true_and]
      by_cases e2 : (i : Int) = (n1 : Int) - 1
      · rw [e2, beq_self_eq_true, decide_eq_false (by omega)]; rfl
      · rw [beq_eq_false_iff_ne.2 e2, decide_eq_true (by omega)]; rfl
  refine eq_of_lt_mem _ _ ?_ (prP_up L0 i) fun y => ?_
  · unfold plR plL
    cases endR n1 i with
    | true => exact List.pairwise_singleton _ _
    | false => exact plF_up L0 _ _ n0 0 false (by omega) fun h => by cases h
  · constructor
    · intro h
      refine rule_prP L0 L1 hi ?_
      unfold plR plL at h
      cases he : endR n1 i with
      | true => rw [he] at h; exact .inl (List.mem_singleton.1 h)
      | false =>
        rw [he] at h hm
        unfold midP at hm
        rw [Bool.not_false, Bool.and_eq_true] at hm
        have m1 := of_decide_eq_true hm.1
        have m2 := of_decide_eq_true hm.2
        rcases (plF_mem _ _ _ _ _ _ _).1 h with ⟨_, h⟩ | ⟨t, _, ht, h1, _, h2⟩
        · exact .inl h
        · exact .inr ⟨by omega, by omega, (has_iff _ _ _).2 ⟨t, by omega, h1⟩, by rw [← h1]; exact h2⟩
    · intro h
      unfold plR plL
      rcases prP_rule L0 L1 hi h with h | ⟨m1, m2, h1, h2⟩
      · cases endR n1 i with
        | true => exact List.mem_singleton.2 h
        | false => exact (plF_mem _ _ _ _ _ _ _).2 (.inl ⟨rfl, h⟩)
      · have he : endR n1 i = false := by
          unfold endR
          rw [show ((i : Int) == 0) = false from beq_eq_false_iff_ne.2 (by omega), cond_false]
          exact beq_eq_false_iff_ne.2 (by omega)
        rw [he]
        obtain ⟨t, ht, rfl⟩ := (has_iff _ _ _).1 h1
        by_cases q : c0 t = c1 i
        · exact (plF_mem _ _ _ _ _ _ _).2 (.inl ⟨rfl, q⟩)
        · exact (plF_mem _ _ _ _ _ _ _).2 (.inr ⟨t, Nat.zero_le _, by omega, rfl, q, h2⟩)

theorem rowL_congr {onF onF' dF dF' : Int → Int} (nxt : Option (List Opt)) : ∀ P : List Int, (∀ p, p ∈ P → onF' p = onF p ∧ dF' p = dF p) → rowL onF' dF' nxt P = rowL onF dF nxt P
  | [], _ => rfl
  | p :: P, h => by
    have ih := rowL_congr (onF := onF) (onF' := onF') (dF := dF) (dF' := dF') nxt P fun q hq => h q (List.mem_cons_of_mem _ hq)
    obtain ⟨h1, h2⟩ := h p List.mem_cons_self
    unfold rowL
    rw [ih, h1, h2]
def tabR (n0 : Nat) (c0 : Nat → Int) (n1 : Nat) (c1 : Nat → Int) (w : Int) : Nat → List Opt := tabI (onR n0 c0) (dR c1) (plR n0 c0 n1 c1 w) n1
/-- The table: the same on both sides. -/
theorem tab_eq (L0 : Lines n0 c0) (L1 : Lines n1 c1) : ∀ d i, i + d + 1 = n1 → tabR n0 c0 n1 c1 w i = tabP n0 c0 n1 c1 w i := by
  have cg : ∀ i, i < n1 → ∀ p, p ∈ prP n0 c0 n1 c1 w i → onR n0 c0 p = onP n0 c0 p ∧ dR c1 i p = dP c1 i p := fun i hi p hp => by
    have g := prP_in L0 L1 hi hp
    exact ⟨(on_has L0 p).symm, (d_apart (c := c1) (i := i) g.1 g.2 (L1.lo i hi) (L1.hi i hi)).1.symm⟩
  intro d
  induction d with
  | zero =>
    intro i h
    unfold tabR tabP
    rw [tabI_last _ _ _ (by omega), tabI_last _ _ _ (by omega), pl_eq L0 L1 (by omega)]
    exact rowL_congr none _ (cg i (by omega))
  | succ d ih =>
    intro i h
    have ih := ih (i + 1) (by omega)
    unfold tabR tabP at ih ⊢
    rw [tabI_next _ _ _ (show i + 1 < n1 by omega), tabI_next _ _ _ (show i + 1 < n1 by omega), pl_eq L0 L1 (by omega), ih]
    exact rowL_congr (some _) _ (cg i (by omega))
end

section
variable (n0 : Nat) (c0 : Nat → Int) (n1 : Nat) (c1 : Nat → Int) (w : Int)
theorem rc_round (L0 : Lines n0 c0) (L1 : Lines n1 c1) {i : Nat} (hi : i < n1) (hn1 : n1 ≤ 100) {D : Nat → Bool} (hD : D i = false) {M : Nat → Nat} {F : Nat → Nat → Nat → Int} (hdone : ∀ r, i < r → r < n1 → D r = true ∧ RowA 3 1 2 (M r) (F r) (tabR n0 c0 n1 c1 w r)) :
    ∃ hn' h', RowA 3 1 2 hn' h' (tabR n0 c0 n1 c1 w i) ∧ Reach (rcutsstep n0 c0 n1 c1 w) (.to (.h0 (i : Int) D M F)) (.to (.h0 ((i : Int) - 1) (updB D i) (updN M i hn') (updF F i h'))) := by
  have hn0 := L0.len
  have hl : (plR n0 c0 n1 c1 w i).length ≤ n0 + 1 := by rw [pl_eq L0 L1 hi]; exact prP_len n0 c0 n1 c1 w i
  have a2 := in_range (i := i) (n := n1) hi
  have k0 : decide ((i : Int) ≥ 0) = true := decide_eq_true (by omega)
  have wn : IntKind.wrap .i64 ((n1 : Int) - 1) = (n1 : Int) - 1 := w_in (by omega) (by omega)
  have po : ∀ e, plV_owed n0 c0 (c1 i) w e = true := fun e => decide_eq_true (by omega)
  have first : Reach (rcutsstep n0 c0 n1 c1 w) (.to (.h0 (i : Int) D M F)) (.to (.h1 (i : Int) (plR n0 c0 n1 c1 w i).length (listC (plR n0 c0 n1 c1 w i)) ((0 : Nat) : Int) D M F 0 (list4 []))) := by
    refine Reach.step ?_
    unfold plR endR
    rcases bool_cases ((i : Int) == 0) with e | e
    · simp only [rcutsstep, k0, a2, e, po, hD, Bool.not_false, cond_true, Int.toNat_natCast, Nat.zero_add]
      rfl
    · simp only [rcutsstep, k0, a2, e, po, hD, wn, Bool.not_false, cond_true, cond_false, Int.toNat_natCast, Nat.zero_add]
      rfl
  by_cases e : i + 1 = n1
  · obtain ⟨hn', h', g1, g2⟩ := rc_h1 n0 c0 n1 c1 w hn0 hi hn1 (plR n0 c0 n1 c1 w i) (by omega) (q := listC (plR n0 c0 n1 c1 w i)) (fun t _ => rfl) (D := D) (M := M) (F := F) none (.inl ⟨rfl, e⟩) _ 0 0 (list4 []) [] (Nat.zero_add _) (RowA.nil _ _ _ _) (Nat.le_refl _)
    refine ⟨hn', h', ?_, first.trans g2⟩
    unfold tabR
    rw [tabI_last _ _ _ e]
    simpa using g1
  · obtain ⟨q1, q2⟩ := hdone (i + 1) (by omega) (by omega)
    have hll : (tabR n0 c0 n1 c1 w (i + 1)).length ≤ 1000 := by
      rw [tab_eq L0 L1 (n1 - 1 - (i + 1)) (i + 1) (by omega)]
      exact tabP_len n0 c0 n1 c1 w hn0 (by omega)
    obtain ⟨hn', h', g1, g2⟩ := rc_h1 n0 c0 n1 c1 w hn0 hi hn1 (plR n0 c0 n1 c1 w i) (by omega) (q := listC (plR n0 c0 n1 c1 w i)) (fun t _ => rfl) (D := D) (M := M) (F := F) (some (tabR n0 c0 n1 c1 w (i + 1))) (.inr ⟨_, rfl, by omega, q1, q2, hll⟩) _ 0 0 (list4 []) [] (Nat.zero_add _) (RowA.nil _ _ _ _) (Nat.le_refl _)
    refine ⟨hn', h', ?_, first.trans g2⟩
    show RowA 3 1 2 hn' h' (tabI (onR n0 c0) (dR c1) (plR n0 c0 n1 c1 w) n1 i)
    rw [tabI_next _ _ _ (show i + 1 < n1 by omega)]
    simpa [tabR] using g1

theorem rc_h0 (L0 : Lines n0 c0) (L1 : Lines n1 c1) (hn1 : n1 ≤ 100) : ∀ (d : Nat) (D : Nat → Bool) (M : Nat → Nat) (F : Nat → Nat → Nat → Int), d ≤ n1 → (∀ r, r < d → D r = false) → (∀ r, d ≤ r → r < n1 → D r = true ∧ RowA 3 1 2 (M r) (F r) (tabR n0 c0 n1 c1 w r)) →
    ∃ D' M' F', (∀ r, r < n1 → D' r = true ∧ RowA 3 1 2 (M' r) (F' r) (tabR n0 c0 n1 c1 w r)) ∧ Reach (rcutsstep n0 c0 n1 c1 w) (.to (.h0 ((d : Int) - 1) D M F)) (.to (.h2 0 0 (listC []) 0 D' M' F'))
  | 0, D, M, F, hd, h1, h2 => by
    refine ⟨D, M, F, fun r hr => h2 r (Nat.zero_le _) hr, Reach.step ?_⟩
    have k0 : decide (((0 : Nat) : Int) - 1 ≥ 0) = false := decide_eq_false (by omega)
    simp only [rcutsstep, k0, cond_false]
  | d + 1, D, M, F, hd, h1, h2 => by
    rw [show (((d + 1 : Nat) : Int) - 1) = (d : Int) by omega]
    obtain ⟨hn', h', g1, g2⟩ := rc_round n0 c0 n1 c1 w L0 L1 (i := d) (by omega) hn1 (h1 d (by omega)) (M := M) (F := F) fun r hr => h2 r hr
    have s1 : ∀ r, r < d → updB D d r = false := fun r hr => by
      unfold updB
      rw [show Nat.beq r d = false from Bool.eq_false_iff.2 fun e => by have := Nat.eq_of_beq_eq_true e; omega]
      exact h1 r (by omega)
    have s2 : ∀ r, d ≤ r → r < n1 → updB D d r = true ∧ RowA 3 1 2 (updN M d hn' r) (updF F d h' r) (tabR n0 c0 n1 c1 w r) := fun r hr hr1 => by
      unfold updB updN updF
      by_cases e : r = d
      · subst e
        rw [Nat.beq_refl]
        exact ⟨rfl, g1⟩
      · rw [show Nat.beq r d = false from Bool.eq_false_iff.2 fun e' => e (Nat.eq_of_beq_eq_true e')]
        exact h2 r (by omega) hr1
    obtain ⟨D', M', F', q1, q2⟩ := rc_h0 L0 L1 hn1 d (updB D d) (updN M d hn') (updF F d h') (by omega) s1 s2
    exact ⟨D', M', F', q1, g2.trans q2⟩

theorem rc_h2 (hn1 : n1 ≤ 100) (T : Nat → List Opt) {D : Nat → Bool} {M : Nat → Nat} {F : Nat → Nat → Nat → Int} (hT : ∀ r, r < n1 → D r = true ∧ RowA 3 1 2 (M r) (F r) (T r))
    (hnx : ∀ i a, i + 1 < n1 → a < (T i).length → 0 ≤ (oAt (T i) a).nx ∧ (oAt (T i) a).nx < (T (i + 1)).length) : ∀ (k i : Nat) (L : List Int) (cc : Nat → Int) (a : Int), i + k = n1 → L.length = i → (∀ t, t < L.length → cc t = listC L t) → (k = 0 ∨ (0 ≤ a ∧ a < (T i).length)) →
    ∃ v, PlRet (L ++ chainL T k i a) v ∧ Reach (rcutsstep n0 c0 n1 c1 w) (.to (.h2 a L.length cc (i : Int) D M F)) (.ret [v, .int .i64 0])
  | 0, i, L, cc, a, hi, hL, hc, _ => by
    have k0 : decide ((i : Int) < (n1 : Int)) = false := decide_eq_false (by omega)
    refine ⟨_, ⟨iget cc, by rw [show L ++ chainL T 0 i a = L from List.append_nil L], fun t ht => ?_⟩, Reach.step ?_⟩
    · rw [show L ++ chainL T 0 i a = L from List.append_nil L] at ht ⊢
      unfold iget
      rw [hc t ht]
    · simp only [rcutsstep, k0, cond_false]
  | k + 1, i, L, cc, a, hi, hL, hc, ha => by
    obtain ⟨ha0, ha1⟩ := ha.resolve_left (by omega)
    obtain ⟨q1, q2, q3⟩ := hT i (by omega)
    have hal : a.toNat < (T i).length := by omega
    obtain ⟨g0, g1, _, _⟩ := q3 a.toNat hal
    have k0 : decide ((i : Int) < (n1 : Int)) = true := decide_eq_true (by omega)
    have a2 := in_range (i := i) (n := n1) (by omega)
    have a4 : decide (i < n1) = true := decide_eq_true (by omega)
    have a6 := eq_true_b q1
    have r1 : decide ((L.length + 1 + 1) * (8 + 1) ≤ room) = true := decide_eq_true (by unfold room; omega)
    have k2 : (decide (0 ≤ a ∧ a < ((M i : Nat) : Int)) && true) = true := by rw [Bool.and_true]; exact decide_eq_true (by omega)
    have wi : IntKind.wrap .i64 ((i : Int) + 1) = ((i + 1 : Nat) : Int) := w_nat (i := i) (by omega)
    obtain ⟨v, p1, p2⟩ := rc_h2 hn1 T hT hnx k (i + 1) (L ++ [(oAt (T i) a.toNat).pl]) (appC cc L.length (oAt (T i) a.toNat).pl) (oAt (T i) a.toNat).nx (by omega) (by rw [len_snoc]; omega) (listC_app hc _) (by
      cases k with
      | zero => exact .inl rfl
      | succ k => exact .inr (hnx i a.toNat (by omega) hal))
    rw [len_snoc] at p2
    refine ⟨v, by rw [List.append_assoc] at p1; exact p1, Reach.head ?_ p2⟩
    simp only [rcutsstep, k0, r1, a2, a4, a6, k2, wi, g0, g1, cond_true, Nat.zero_add, Int.toNat_natCast, Nat.beq_refl, decide_true, Bool.true_and]

theorem chainL_congr {T T' : Nat → List Opt} {n : Nat} (h : ∀ i, i < n → T' i = T i) : ∀ (k i : Nat) (a : Int), i + k ≤ n → chainL T' k i a = chainL T k i a
  | 0, _, _, _ => rfl
  | k + 1, i, a, hk => by
    unfold chainL
    rw [h i (by omega), chainL_congr h k (i + 1) _ (by omega)]

theorem rc_run : ∃ vs, Reach (rcutsstep n0 c0 n1 c1 w) (rcutsstart n0 c0 n1 c1 w) (.ret vs) ∧
    (∀ (ρ : Rho) (u : Value), VRel ρ (packed vs) u → VRel ρ (.tup [.dat (cutsL n0 c0 n1 c1 w (tabP n0 c0 n1 c1 w)).length (iget (listC (cutsL n0 c0 n1 c1 w (tabP n0 c0 n1 c1 w)))), .int .i64 (cutsE n0 c0 n1 c1 w)]) u) ∧ pf 4 (packed vs) = true := by
  have err : ∀ e : Int, cutsE n0 c0 n1 c1 w = e → (e != 0) = true → ∀ (ρ : Rho) (u : Value), VRel ρ (packed [.nils, .int .i64 e]) u → VRel ρ (.tup [.dat (cutsL n0 c0 n1 c1 w (tabP n0 c0 n1 c1 w)).length (iget (listC (cutsL n0 c0 n1 c1 w (tabP n0 c0 n1 c1 w)))), .int .i64 (cutsE n0 c0 n1 c1 w)]) u := fun e he h0 => by
    unfold cutsL
    rw [he, h0, cond_true]
    exact vrel_tup2 fun ρ u h => vrel_nils_dat h
  rcases bool_cases (chkV n0 c0 != 0) with h0 | h0
  · exact ⟨_, ⟨0, by simp only [rcutsstart, h0, cond_true]; rfl⟩, err _ (by simp only [cutsE, h0, cond_true]) h0, rfl⟩
  rcases bool_cases (chkV n1 c1 != 0) with h1 | h1
  · exact ⟨_, ⟨0, by simp only [rcutsstart, h0, h1, cond_true, cond_false]; rfl⟩, err _ (by simp only [cutsE, h0, h1, cond_true, cond_false]) h1, rfl⟩
  rcases bool_cases (decide (w < 0)) with h2 | h2
  · exact ⟨_, ⟨0, by simp only [rcutsstart, h0, h1, h2, cond_true, cond_false]; rfl⟩, err 2 (by simp only [cutsE, h0, h1, h2, cond_true, cond_false]) rfl, rfl⟩
  rcases bool_cases (decide (w > 2000000)) with h3 | h3
  · exact ⟨_, ⟨0, by simp only [rcutsstart, h0, h1, h2, h3, cond_true, cond_false]; rfl⟩, err 2 (by simp only [cutsE, h0, h1, h2, h3, cond_true, cond_false]) rfl, rfl⟩
  have L0 := lines_of h0
  have L1 := lines_of h1
  have hn1 := L1.len
  have hE : cutsE n0 c0 n1 c1 w = 0 := by simp only [cutsE, h0, h1, h2, h3, cond_false]
  rcases bool_cases ((n1 : Int) == 0) with h4 | h4
  · have e4 : n1 = 0 := by have := beq_iff_eq.1 h4; omega
    refine ⟨_, ⟨0, by simp only [rcutsstart, h0, h1, h2, h3, h4, cond_true, cond_false]; rfl⟩, ?_, rfl⟩
    have hw : cutsL n0 c0 n1 c1 w (tabP n0 c0 n1 c1 w) = [] := by unfold cutsL wayL; rw [hE, e4]; rfl
    rw [hE, hw]
    exact vrel_tup2 fun ρ u h => vrel_nils_dat h
  have wn : IntKind.wrap .i64 ((n1 : Int) - 1) = (n1 : Int) - 1 := w_in (by omega) (by omega)
  have tq : ∀ i, i < n1 → tabR n0 c0 n1 c1 w i = tabP n0 c0 n1 c1 w i := fun i hi => tab_eq L0 L1 (n1 - 1 - i) i (by omega)
  obtain ⟨hnx, hpos⟩ := way_ok n1 c1 L1 (prP n0 c0 n1 c1 w) (onP n0 c0) (dP c1) (T := tabP n0 c0 n1 c1 w) rfl fun i _ => prP_mem n0 c0 n1 c1 w i
  obtain ⟨D, M, F, q1, q2⟩ := rc_h0 n0 c0 n1 c1 w L0 L1 hn1 n1 (fun _ => false) (fun _ => 0) (fun _ _ _ => 0) (Nat.le_refl _) (fun _ _ => rfl) fun r h1 h2 => by omega
  obtain ⟨v, ⟨g, p1, p2⟩, p3⟩ := rc_h2 n0 c0 n1 c1 w hn1 (tabP n0 c0 n1 c1 w) (fun r hr => by have := q1 r hr; rwa [tq r hr] at this) hnx n1 0 [] (listC []) 0 (Nat.zero_add _) rfl (fun t ht => absurd ht (Nat.not_lt_zero _)) (by
    rcases Nat.eq_zero_or_pos n1 with e | e
    · exact .inl e
    · exact .inr ⟨Int.le_refl _, by have := hpos e; omega⟩)
  rw [List.nil_append] at p1 p2
  have hstart : rcutsstart n0 c0 n1 c1 w = .to (.h0 ((n1 : Int) - 1) (fun _ => false) (fun _ => 0) (fun _ _ _ => 0)) := by
    have b1 : decide ((0 : Int) ≤ (n1 : Int)) = true := decide_eq_true (by omega)
    have b2 : decide ((n1 : Int) ≤ (n1 : Int)) = true := decide_eq_true (by omega)
    have b3 : decide ((n1 : Int) * 24 ≤ 1099511627776) = true := decide_eq_true (by omega)
    have b4 : decide ((n1 : Int) ≤ 1099511627776) = true := decide_eq_true (by omega)
    simp only [rcutsstart, h0, h1, h2, h3, h4, wn, b1, b2, b3, b4, cond_true, cond_false, Bool.and_self]
  refine ⟨_, by rw [hstart]; exact q2.trans p3, ?_, ?_⟩
  · subst p1
    have hl : cutsL n0 c0 n1 c1 w (tabP n0 c0 n1 c1 w) = chainL (tabP n0 c0 n1 c1 w) n1 0 0 := by unfold cutsL wayL; rw [hE]; rfl
    rw [hE, hl]
    refine vrel_tup2 fun ρ u h => ?_
    rw [frzS_eq] at h
    exact vrel_dat_congr p2 h
  · subst p1
    show pf 4 (.tup [frzS 1 1 0 _ _ g, .int .i64 0]) = true
    rw [frzS_eq]; rfl
end
end Kp
open Go.Proofs
/-! ### The contract of Cuts of the reference -/
noncomputable def Sc : Specs := S9.with 11 fPct
theorem Sc_ok : SpecsOk Try.prog Sc := by
  refine with_ends' S9_ok (by kernel_rfl) ?_
  intro args v h
  unfold fPct at h
  split at h
  · rename_i n g m e w
    simp only [Option.some.injEq, Prod.mk.injEq, Bool.and_eq_true] at h
    obtain ⟨rfl, h1, h2⟩ := h
    obtain ⟨c, rfl⟩ := isI_spec h1
    obtain ⟨d, rfl⟩ := isI_spec h2
    obtain ⟨vs, ⟨N, a⟩, b, p⟩ := Kp.rc_run n c m d w
    exact ⟨vs, b, rcuts_ends n c m d w N vs a, 4, p⟩
  · cases h
end Go.Am
