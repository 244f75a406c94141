/- Cuts of the program: the whole table, the way back, and its value. -/
import Derived.Test.YtdojgffcahimjaaSpZ
namespace Go.Am
open Go.Proofs
set_option maxRecDepth 100000
set_option maxHeartbeats 4000000
set_option linter.unusedVariables false
set_option linter.unusedSimpArgs false

/-- The lines near a cut, from line j on, k of them. -/
def nrF (mid : Bool) (c : Nat → Int) (x w : Int) : Nat → Nat → List Int
  | 0, _ => []
  | k + 1, j => (bif mid then bif c j != x then bif decide (absV (IntKind.wrap .i64 (c j - x)) ≤ w) then [c j] else [] else [] else []) ++ nrF mid c x w k (j + 1)
theorem nrF_len (mid : Bool) (c : Nat → Int) (x w : Int) : ∀ (k j : Nat), (nrF mid c x w k j).length ≤ k
  | 0, _ => Nat.le_refl _
  | k + 1, j => by
    unfold nrF
    have := nrF_len mid c x w k (j + 1)
    rw [List.length_append]
    cases mid <;> rcases bool_cases (c j != x) with e | e <;> rcases bool_cases (decide (absV (IntKind.wrap .i64 (c j - x)) ≤ w)) with e2 | e2 <;> simp only [e, e2, cond_true, cond_false, List.length_nil, List.length_singleton] <;> omega
theorem intsOf_eq {n : Nat} {R : List Int} {cc : Nat → Int} (hn : n = R.length) (h : ∀ t, t < R.length → cc t = listC R t) : intsOf n cc = R := by
  subst hn
  rw [← intsOf_listC R]
  unfold intsOf
  rw [List.length_map, List.length_range]
  refine List.map_congr_left fun t ht => ?_
  have ht := List.mem_range.1 ht
  rw [h t ht]

section
variable (n0 : Nat) (c0 : Nat → Int) (n1 : Nat) (c1 : Nat → Int) (w : Int)

def midP (i : Nat) : Bool := decide ((i : Int) > 0) && decide ((i : Int) < (n1 : Int) - 1)
/-- The places of a cut, by the program. -/
def prP (i : Nat) : List Int := srtI ([c1 i] ++ nrF (midP n1 i) c0 (c1 i) w n0 0)
theorem prP_len (i : Nat) : (prP n0 c0 n1 c1 w i).length ≤ n0 + 1 := by
  unfold prP
  rw [srt_len, List.length_append]
  have := nrF_len (midP n1 i) c0 (c1 i) w n0 0
  simp only [List.length_singleton]; omega

theorem pc_h1 {i : Nat} (hi : i < n1) (hn0 : n0 ≤ 100) (hn1 : n1 ≤ 100) {D : Nat → Bool} (hD : D i = false) {M : Nat → Nat} {F : Nat → Nat → Nat → Int} : ∀ (k j : Nat) (L : List Int) (cc : Nat → Int), j + k = n0 → L.length ≤ j + 1 → (∀ t, t < L.length → cc t = listC L t) →
    Reach (pcutsstep n0 c0 n1 c1 w) (.to (.h1 (i : Int) L.length cc (j : Int) D M F))
      (.to (.h3 (i : Int) (srtI (L ++ nrF (midP n1 i) c0 (c1 i) w k j)).length (listC (srtI (L ++ nrF (midP n1 i) c0 (c1 i) w k j))) ((srtI (L ++ nrF (midP n1 i) c0 (c1 i) w k j)).length : Int) ((0 : Nat) : Int) D M F 0 (list4 []))) := by
  have wn : IntKind.wrap .i64 ((n1 : Int) - 1) = (n1 : Int) - 1 := w_in (by omega) (by omega)
  have a2 := in_range (i := i) (n := n1) hi
  intro k
  induction k with
  | zero =>
    intro j L cc hj hL hc
    have k0 : decide ((j : Int) < (n0 : Int)) = false := decide_eq_false (by omega)
    have r1 : decide (L.length < 4611686018427387904) = true := decide_eq_true (by omega)
    have hI : intsOf L.length cc = L := intsOf_eq rfl hc
    refine Reach.step ?_
    simp only [pcutsstep, k0, cond_false, nrF, List.append_nil, srt_len, Nat.zero_add, Int.toNat_natCast, hD, Bool.not_false, cond_true, isI_iget, cOf_iget, hI, r1, Nat.beq_refl, decide_true, Bool.and_self, Bool.true_and]
    rfl
  | succ k ih =>
    intro j L cc hj hL hc
    have k0 : decide ((j : Int) < (n0 : Int)) = true := decide_eq_true (by omega)
    have a1 := in_range (i := j) (n := n0) (by omega)
    have wj : IntKind.wrap .i64 ((j : Int) + 1) = ((j + 1 : Nat) : Int) := w_nat (i := j) (by omega)
    have r1 : decide ((L.length + 1 + 1) * (8 + 1) ≤ room) = true := decide_eq_true (by unfold room; omega)
    have go0 := ih (j + 1) L cc (by omega) (by omega) hc
    have go1 := ih (j + 1) (L ++ [c0 j]) (appC cc L.length (c0 j)) (by omega) (by rw [len_snoc]; omega) (listC_app hc (c0 j))
    rw [len_snoc] at go1
    unfold nrF
    rcases bool_cases (decide ((i : Int) > 0)) with m1 | m1
    · rcases bool_cases (decide ((i : Int) < (n1 : Int) - 1)) with m2 | m2
      · have hm : midP n1 i = true := by unfold midP; rw [m1, m2]; rfl
        rcases bool_cases (c0 j != c1 i) with e1 | e1
        · rcases bool_cases (decide (absV (IntKind.wrap .i64 (c0 j - c1 i)) ≤ w)) with e2 | e2
          · refine Reach.head ?_ (by rw [hm, e1, e2, cond_true, cond_true, cond_true, ← List.append_assoc, ← hm]; exact go1)
            simp only [pcutsstep, k0, a1, a2, wn, wj, m1, m2, e1, e2, r1, cond_true, cond_false, Nat.zero_add, Int.toNat_natCast, Nat.beq_refl, decide_true, Bool.true_and]
          · refine Reach.head ?_ (by rw [hm, e1, e2, cond_true, cond_true, cond_false, List.nil_append, ← hm]; exact go0)
            simp only [pcutsstep, k0, a1, a2, wn, wj, m1, m2, e1, e2, cond_true, cond_false, Nat.zero_add, Int.toNat_natCast]
        · refine Reach.head ?_ (by rw [hm, e1, cond_true, cond_false, List.nil_append, ← hm]; exact go0)
          simp only [pcutsstep, k0, a1, a2, wn, wj, m1, m2, e1, cond_true, cond_false, Nat.zero_add, Int.toNat_natCast]
      · have hm : midP n1 i = false := by unfold midP; rw [m1, m2]; rfl
        refine Reach.head ?_ (by rw [hm, cond_false, List.nil_append, ← hm]; exact go0)
        simp only [pcutsstep, k0, a1, a2, wn, wj, m1, m2, cond_true, cond_false, Nat.zero_add, Int.toNat_natCast]
    · have hm : midP n1 i = false := by unfold midP; rw [m1]; rfl
      refine Reach.head ?_ (by rw [hm, cond_false, List.nil_append, ← hm]; exact go0)
      simp only [pcutsstep, k0, a1, a2, wn, wj, m1, cond_true, cond_false, Nat.zero_add, Int.toNat_natCast]
end

theorem rowL_len (onF dF : Int → Int) (nxt : Option (List Opt)) : ∀ P : List Int, (rowL onF dF nxt P).length ≤ P.length
  | [] => Nat.le_refl _
  | p :: P => by
    have ih := rowL_len onF dF nxt P
    unfold rowL
    cases nxt with
    | none => simp only [List.length_cons]; omega
    | some L =>
      simp only
      rcases bool_cases (decide (scanI L p L.length 0 (-1) < 0)) with e | e <;> rw [e]
      · simp only [cond_true, List.length_cons]; omega
      · simp only [cond_false, List.length_cons]; omega

theorem rowL_nx (onF dF : Int → Int) (L : List Opt) : ∀ (P : List Int) (o : Opt), o ∈ rowL onF dF (some L) P → 0 ≤ o.nx ∧ o.nx < L.length
  | [], o, h => by cases h
  | p :: P, o, h => by
    have ih := rowL_nx onF dF L P o
    unfold rowL at h
    simp only at h
    rcases bool_cases (decide (scanI L p L.length 0 (-1) < 0)) with e | e <;> rw [e] at h
    · exact ih h
    · rw [cond_false] at h
      rcases List.mem_cons.1 h with rfl | h
      · have g := of_decide_eq_false e
        rcases scanI_in L p L.length 0 (-1) (by omega) (.inl (by omega)) with q | q
        · exact absurd q g
        · exact ⟨by show 0 ≤ scanI L p L.length 0 (-1); omega, q⟩
      · exact ih h

theorem scanI_pos (L : List Opt) (p : Int) : ∀ (k j : Nat) (nx : Int), (¬ nx < 0 ∨ ∃ m, j ≤ m ∧ m < j + k ∧ (oAt L m).pl > p) → ¬ scanI L p k j nx < 0
  | 0, j, nx, h => by
    rcases h with h | ⟨m, a, b, _⟩
    · exact h
    · omega
  | k + 1, j, nx, h => by
    rw [scanI_succ]
    refine scanI_pos L p k (j + 1) _ ?_
    rcases bool_cases (decide ((oAt L j).pl > p)) with e | e <;> rw [e]
    · rw [cond_true]
      refine .inl ?_
      rcases bool_cases (decide (nx < 0)) with e2 | e2 <;> rw [e2]
      · rw [cond_true]; omega
      · rw [cond_false]
        rcases bool_cases (betV (oAt L j).on (oAt L j).sm (oAt L nx.toNat).on (oAt L nx.toNat).sm) with e3 | e3 <;> rw [e3]
        · rw [cond_true]; omega
        · rw [cond_false]; exact of_decide_eq_false e2
    · rw [cond_false]
      rcases h with h | ⟨m, a, b, g⟩
      · exact .inl h
      · rcases Nat.lt_or_ge j m with q | q
        · exact .inr ⟨m, q, by omega, g⟩
        · have : m = j := by omega
          subst this
          exact absurd g (of_decide_eq_false e)

theorem oAt_mem {L : List Opt} {j : Nat} (h : j < L.length) : oAt L j ∈ L := by
  unfold oAt
  simp only [List.getD_eq_getElem?_getD, List.getElem?_eq_getElem h, Option.getD_some]
  exact List.getElem_mem h
theorem mem_oAt {L : List Opt} {o : Opt} (h : o ∈ L) : ∃ j, j < L.length ∧ oAt L j = o := by
  obtain ⟨j, hj, rfl⟩ := List.getElem_of_mem h
  exact ⟨j, hj, by unfold oAt; simp [hj]⟩

theorem rowL_has (onF dF : Int → Int) (nxt : Option (List Opt)) (p : Int) (hn : ∀ L, nxt = some L → ∃ o, o ∈ L ∧ o.pl > p) : ∀ P : List Int, p ∈ P → ∃ o, o ∈ rowL onF dF nxt P ∧ o.pl = p
  | [], h => by cases h
  | q :: P, h => by
    unfold rowL
    cases nxt with
    | none =>
      rcases List.mem_cons.1 h with rfl | h
      · exact ⟨_, List.mem_cons_self, rfl⟩
      · obtain ⟨o, h1, h2⟩ := rowL_has onF dF none p hn P h
        exact ⟨o, List.mem_cons_of_mem _ h1, h2⟩
    | some L =>
      simp only
      rcases List.mem_cons.1 h with rfl | h
      · obtain ⟨o, h1, h2⟩ := hn L rfl
        obtain ⟨j, h3, rfl⟩ := mem_oAt h1
        rw [decide_eq_false (scanI_pos L p L.length 0 (-1) (.inr ⟨j, Nat.zero_le _, by omega, h2⟩)), cond_false]
        exact ⟨_, List.mem_cons_self, rfl⟩
      · obtain ⟨o, h1, h2⟩ := rowL_has onF dF (some L) p hn P h
        rcases bool_cases (decide (scanI L q L.length 0 (-1) < 0)) with e | e <;> rw [e]
        · exact ⟨o, h1, h2⟩
        · exact ⟨o, List.mem_cons_of_mem _ h1, h2⟩

/-- Each row has the cut itself. -/
theorem tab_has (onF : Int → Int) (dF : Nat → Int → Int) (P : Nat → List Int) (n : Nat) (c1 : Nat → Int) (hup : ∀ i j, i < j → j < n → c1 i < c1 j) (hP : ∀ i, i < n → c1 i ∈ P i) : ∀ (d i : Nat), i + d + 1 = n → ∃ o, o ∈ tabI onF dF P n i ∧ o.pl = c1 i
  | 0, i, h => by
    rw [tabI_last onF dF P (by omega)]
    exact rowL_has onF (dF i) none _ (fun L e => by cases e) _ (hP i (by omega))
  | d + 1, i, h => by
    rw [tabI_next onF dF P (by omega)]
    refine rowL_has onF (dF i) _ _ (fun L e => ?_) _ (hP i (by omega))
    obtain rfl := Option.some.inj e
    obtain ⟨o, h1, h2⟩ := tab_has onF dF P n c1 hup hP d (i + 1) (by omega)
    exact ⟨o, h1, by rw [h2]; exact hup i (i + 1) (by omega) (by omega)⟩

section
variable (n0 : Nat) (c0 : Nat → Int) (n1 : Nat) (c1 : Nat → Int) (w : Int)

/-- The table of the program. -/
def tabP : Nat → List Opt := tabI (onP n0 c0) (dP c1) (prP n0 c0 n1 c1 w) n1

theorem prP_mem (i : Nat) : c1 i ∈ prP n0 c0 n1 c1 w i := by
  unfold prP
  rw [srt_mem]
  simp

theorem tabP_len (hn0 : n0 ≤ 100) {i : Nat} (hi : i < n1) : (tabP n0 c0 n1 c1 w i).length ≤ 1000 := by
  have h := prP_len n0 c0 n1 c1 w i
  unfold tabP
  by_cases e : i + 1 = n1
  · rw [tabI_last _ _ _ e]
    exact Nat.le_trans (rowL_len _ _ _ _) (by omega)
  · rw [tabI_next _ _ _ (by omega)]
    exact Nat.le_trans (rowL_len _ _ _ _) (by omega)

theorem pc_round (L0 : Lines n0 c0) {i : Nat} (hi : i < n1) (hn1 : n1 ≤ 100) {D : Nat → Bool} (hD : D i = false) {M : Nat → Nat} {F : Nat → Nat → Nat → Int} (hdone : ∀ r, i < r → r < n1 → D r = true ∧ RowA 1 2 3 (M r) (F r) (tabP n0 c0 n1 c1 w r)) :
    ∃ hn' h', RowA 1 2 3 hn' h' (tabP n0 c0 n1 c1 w i) ∧ Reach (pcutsstep n0 c0 n1 c1 w) (.to (.h0 (i : Int) D M F)) (.to (.h0 ((i : Int) - 1) (updB D i) (updN M i hn') (updF F i h'))) := by
  have hn0 := L0.len
  have hl := prP_len n0 c0 n1 c1 w i
  have a2 := in_range (i := i) (n := n1) hi
  have k0 : decide ((i : Int) ≥ 0) = true := decide_eq_true (by omega)
  have first : Reach (pcutsstep n0 c0 n1 c1 w) (.to (.h0 (i : Int) D M F)) (.to (.h1 (i : Int) [c1 i].length (listC [c1 i]) ((0 : Nat) : Int) D M F)) := by
    refine Reach.step ?_
    simp only [pcutsstep, k0, a2, cond_true, Int.toNat_natCast]
    rfl
  have second := pc_h1 n0 c0 n1 c1 w hi hn0 hn1 hD (M := M) (F := F) n0 0 [c1 i] (listC [c1 i]) (Nat.zero_add _) (by simp) fun t _ => rfl
  have second : Reach (pcutsstep n0 c0 n1 c1 w) (.to (.h1 (i : Int) [c1 i].length (listC [c1 i]) ((0 : Nat) : Int) D M F)) (.to (.h3 (i : Int) (prP n0 c0 n1 c1 w i).length (listC (prP n0 c0 n1 c1 w i)) ((prP n0 c0 n1 c1 w i).length : Int) ((0 : Nat) : Int) D M F 0 (list4 []))) := second
  by_cases e : i + 1 = n1
  · obtain ⟨hn', h', g1, g2⟩ := pc_h3 n0 c0 n1 c1 w L0 hi hn1 (prP n0 c0 n1 c1 w i) (by omega) (q := listC (prP n0 c0 n1 c1 w i)) (fun t _ => rfl) (D := D) (M := M) (F := F) none (.inl ⟨rfl, e⟩) _ 0 0 (list4 []) [] (Nat.zero_add _) (RowA.nil _ _ _ _) (Nat.le_refl _)
    refine ⟨hn', h', ?_, (first.trans second).trans g2⟩
    unfold tabP
    rw [tabI_last _ _ _ e]
    simpa using g1
  · obtain ⟨q1, q2⟩ := hdone (i + 1) (by omega) (by omega)
    obtain ⟨hn', h', g1, g2⟩ := pc_h3 n0 c0 n1 c1 w L0 hi hn1 (prP n0 c0 n1 c1 w i) (by omega) (q := listC (prP n0 c0 n1 c1 w i)) (fun t _ => rfl) (D := D) (M := M) (F := F) (some (tabP n0 c0 n1 c1 w (i + 1))) (.inr ⟨_, rfl, by omega, q1, q2, tabP_len n0 c0 n1 c1 w hn0 (by omega)⟩) _ 0 0 (list4 []) [] (Nat.zero_add _) (RowA.nil _ _ _ _) (Nat.le_refl _)
    refine ⟨hn', h', ?_, (first.trans second).trans g2⟩
    show RowA 1 2 3 hn' h' (tabI (onP n0 c0) (dP c1) (prP n0 c0 n1 c1 w) n1 i)
    rw [tabI_next _ _ _ (show i + 1 < n1 by omega)]
    simpa [tabP] using g1

theorem pc_h0 (L0 : Lines n0 c0) (hn1 : n1 ≤ 100) : ∀ (d : Nat) (D : Nat → Bool) (M : Nat → Nat) (F : Nat → Nat → Nat → Int), d ≤ n1 → (∀ r, r < d → D r = false) → (∀ r, d ≤ r → r < n1 → D r = true ∧ RowA 1 2 3 (M r) (F r) (tabP n0 c0 n1 c1 w r)) →
    ∃ D' M' F', (∀ r, r < n1 → D' r = true ∧ RowA 1 2 3 (M' r) (F' r) (tabP n0 c0 n1 c1 w r)) ∧ Reach (pcutsstep n0 c0 n1 c1 w) (.to (.h0 ((d : Int) - 1) D M F)) (.to (.h2 0 (listC []) 0 0 D' M' F'))
  | 0, D, M, F, hd, h1, h2 => by
    refine ⟨D, M, F, fun r hr => h2 r (Nat.zero_le _) hr, Reach.step ?_⟩
    have k0 : decide (((0 : Nat) : Int) - 1 ≥ 0) = false := decide_eq_false (by omega)
    simp only [pcutsstep, k0, cond_false]
  | d + 1, D, M, F, hd, h1, h2 => by
    rw [show (((d + 1 : Nat) : Int) - 1) = (d : Int) by omega]
    obtain ⟨hn', h', g1, g2⟩ := pc_round n0 c0 n1 c1 w L0 (i := d) (by omega) hn1 (h1 d (by omega)) (M := M) (F := F) fun r hr => h2 r hr
    have s1 : ∀ r, r < d → updB D d r = false := fun r hr => by
      unfold updB
      rw [show Nat.beq r d = false from Bool.eq_false_iff.2 fun e => by have := Nat.eq_of_beq_eq_true e; omega]
      exact h1 r (by omega)
    have s2 : ∀ r, d ≤ r → r < n1 → updB D d r = true ∧ RowA 1 2 3 (updN M d hn' r) (updF F d h' r) (tabP n0 c0 n1 c1 w r) := fun r hr hr1 => by
      unfold updB updN updF
      by_cases e : r = d
      · subst e
        rw [Nat.beq_refl]
        exact ⟨rfl, g1⟩
      · rw [show Nat.beq r d = false from Bool.eq_false_iff.2 fun e' => e (Nat.eq_of_beq_eq_true e')]
        exact h2 r (by omega) hr1
    obtain ⟨D', M', F', q1, q2⟩ := pc_h0 L0 hn1 d (updB D d) (updN M d hn') (updF F d h') (by omega) s1 s2
    exact ⟨D', M', F', q1, g2.trans q2⟩

theorem pc_h2 (hn1 : n1 ≤ 100) (T : Nat → List Opt) {D : Nat → Bool} {M : Nat → Nat} {F : Nat → Nat → Nat → Int} (hT : ∀ r, r < n1 → D r = true ∧ RowA 1 2 3 (M r) (F r) (T r))
    (hnx : ∀ i a, i + 1 < n1 → a < (T i).length → 0 ≤ (oAt (T i) a).nx ∧ (oAt (T i) a).nx < (T (i + 1)).length) : ∀ (k i : Nat) (L : List Int) (cc : Nat → Int) (a : Int), i + k = n1 → L.length = i → (∀ t, t < L.length → cc t = listC L t) → (k = 0 ∨ (0 ≤ a ∧ a < (T i).length)) →
    ∃ v, PlRet (L ++ chainL T k i a) v ∧ Reach (pcutsstep n0 c0 n1 c1 w) (.to (.h2 L.length cc a (i : Int) D M F)) (.ret [v, .int .i64 0])
  | 0, i, L, cc, a, hi, hL, hc, _ => by
    have k0 : decide ((i : Int) < (n1 : Int)) = false := decide_eq_false (by omega)
    refine ⟨_, ⟨iget cc, by rw [show L ++ chainL T 0 i a = L from List.append_nil L], fun t ht => ?_⟩, Reach.step ?_⟩
    · rw [show L ++ chainL T 0 i a = L from List.append_nil L] at ht ⊢
      unfold iget
      rw [hc t ht]
    · simp only [pcutsstep, k0, cond_false]
  | k + 1, i, L, cc, a, hi, hL, hc, ha => by
    obtain ⟨ha0, ha1⟩ := ha.resolve_left (by omega)
    obtain ⟨q1, q2, q3⟩ := hT i (by omega)
    have hal : a.toNat < (T i).length := by omega
    obtain ⟨g0, g1, _, _⟩ := q3 a.toNat hal
    have k0 : decide ((i : Int) < (n1 : Int)) = true := decide_eq_true (by omega)
    have a2 := in_range (i := i) (n := n1) (by omega)
    have a4 : decide (i < n1) = true := decide_eq_true (by omega)
    have a6 := eq_true_b q1
    have r1 : decide ((L.length + 1 + 1) * (8 + 1) ≤ room) = true := decide_eq_true (by unfold room; omega)
    have k2 : (decide (0 ≤ a ∧ a < ((M i : Nat) : Int)) && true) = true := by rw [Bool.and_true]; exact decide_eq_true (by omega)
    have wi : IntKind.wrap .i64 ((i : Int) + 1) = ((i + 1 : Nat) : Int) := w_nat (i := i) (by omega)
    obtain ⟨v, p1, p2⟩ := pc_h2 hn1 T hT hnx k (i + 1) (L ++ [(oAt (T i) a.toNat).pl]) (appC cc L.length (oAt (T i) a.toNat).pl) (oAt (T i) a.toNat).nx (by omega) (by rw [len_snoc]; omega) (listC_app hc _) (by
      cases k with
      | zero => exact .inl rfl
      | succ k => exact .inr (hnx i a.toNat (by omega) hal))
    rw [len_snoc] at p2
    refine ⟨v, by rw [List.append_assoc] at p1; exact p1, Reach.head ?_ p2⟩
    simp only [pcutsstep, k0, r1, a2, a4, a6, k2, wi, g0, g1, cond_true, Nat.zero_add, Int.toNat_natCast, Nat.beq_refl, decide_true, Bool.true_and]

/-- The error of Cuts. -/
def cutsE : Int := bif chkV n0 c0 != 0 then chkV n0 c0 else bif chkV n1 c1 != 0 then chkV n1 c1 else bif decide (w < 0) then 2 else bif decide (w > 2000000) then 2 else 0
/-- The places that are chosen out of a table. -/
def wayL (T : Nat → List Opt) : List Int := chainL T n1 0 0
def cutsL (T : Nat → List Opt) : List Int := bif cutsE n0 c0 n1 c1 w != 0 then [] else wayL n1 T

theorem way_ok {T : Nat → List Opt} (L1 : Lines n1 c1) (P : Nat → List Int) (onF : Int → Int) (dF : Nat → Int → Int) (hT : T = tabI onF dF P n1) (hP : ∀ i, i < n1 → c1 i ∈ P i) :
    (∀ i a, i + 1 < n1 → a < (T i).length → 0 ≤ (oAt (T i) a).nx ∧ (oAt (T i) a).nx < (T (i + 1)).length) ∧ (0 < n1 → 0 < (T 0).length) := by
  subst hT
  refine ⟨fun i a hi ha => ?_, fun h => ?_⟩
  · have hm := oAt_mem ha
    rw [tabI_next onF dF P hi] at hm
    rw [tabI_next onF dF P hi] at ha ⊢
    exact rowL_nx onF (dF i) _ _ _ hm
  · obtain ⟨o, h1, _⟩ := tab_has onF dF P n1 c1 L1.up hP (n1 - 1) 0 (by omega)
    exact List.length_pos_of_mem h1

theorem pc_run : ∃ vs, Reach (pcutsstep n0 c0 n1 c1 w) (pcutsstart n0 c0 n1 c1 w) (.ret vs) ∧
    (∀ (ρ : Rho) (u : Value), VRel ρ (packed vs) u → VRel ρ (.tup [.dat (cutsL n0 c0 n1 c1 w (tabP n0 c0 n1 c1 w)).length (iget (listC (cutsL n0 c0 n1 c1 w (tabP n0 c0 n1 c1 w)))), .int .i64 (cutsE n0 c0 n1 c1 w)]) u) ∧ pf 4 (packed vs) = true := by
  have err : ∀ e : Int, cutsE n0 c0 n1 c1 w = e → (e != 0) = true → ∀ (ρ : Rho) (u : Value), VRel ρ (packed [.nils, .int .i64 e]) u → VRel ρ (.tup [.dat (cutsL n0 c0 n1 c1 w (tabP n0 c0 n1 c1 w)).length (iget (listC (cutsL n0 c0 n1 c1 w (tabP n0 c0 n1 c1 w)))), .int .i64 (cutsE n0 c0 n1 c1 w)]) u := fun e he h0 => by
    unfold cutsL
    rw [he, h0, cond_true]
    exact vrel_tup2 fun ρ u h => vrel_nils_dat h
  rcases bool_cases (chkV n0 c0 != 0) with h0 | h0
  · exact ⟨_, ⟨0, by simp only [pcutsstart, h0, cond_true]; rfl⟩, err _ (by simp only [cutsE, h0, cond_true]) h0, rfl⟩
  rcases bool_cases (chkV n1 c1 != 0) with h1 | h1
  · exact ⟨_, ⟨0, by simp only [pcutsstart, h0, h1, cond_true, cond_false]; rfl⟩, err _ (by simp only [cutsE, h0, h1, cond_true, cond_false]) h1, rfl⟩
  rcases bool_cases (decide (w < 0)) with h2 | h2
  · exact ⟨_, ⟨0, by simp only [pcutsstart, h0, h1, h2, cond_true, cond_false]; rfl⟩, err 2 (by simp only [cutsE, h0, h1, h2, cond_true, cond_false]) rfl, rfl⟩
  rcases bool_cases (decide (w > 2000000)) with h3 | h3
  · exact ⟨_, ⟨0, by simp only [pcutsstart, h0, h1, h2, h3, cond_true, cond_false]; rfl⟩, err 2 (by simp only [cutsE, h0, h1, h2, h3, cond_true, cond_false]) rfl, rfl⟩
  have L0 := lines_of h0
  have L1 := lines_of h1
  have hn1 := L1.len
  have hE : cutsE n0 c0 n1 c1 w = 0 := by simp only [cutsE, h0, h1, h2, h3, cond_false]
  have wn : IntKind.wrap .i64 ((n1 : Int) - 1) = (n1 : Int) - 1 := w_in (by omega) (by omega)
  obtain ⟨hnx, hpos⟩ := way_ok n1 c1 L1 (prP n0 c0 n1 c1 w) (onP n0 c0) (dP c1) (T := tabP n0 c0 n1 c1 w) rfl fun i _ => prP_mem n0 c0 n1 c1 w i
  obtain ⟨D, M, F, q1, q2⟩ := pc_h0 n0 c0 n1 c1 w L0 hn1 n1 (fun _ => false) (fun _ => 0) (fun _ _ _ => 0) (Nat.le_refl _) (fun _ _ => rfl) fun r h1 h2 => by omega
  obtain ⟨v, ⟨g, p1, p2⟩, p3⟩ := pc_h2 n0 c0 n1 c1 w hn1 (tabP n0 c0 n1 c1 w) q1 hnx n1 0 [] (listC []) 0 (Nat.zero_add _) rfl (fun t ht => absurd ht (Nat.not_lt_zero _)) (by
    rcases Nat.eq_zero_or_pos n1 with e | e
    · exact .inl e
    · exact .inr ⟨Int.le_refl _, by have := hpos e; omega⟩)
  rw [List.nil_append] at p1 p2
  have hstart : pcutsstart n0 c0 n1 c1 w = .to (.h0 ((n1 : Int) - 1) (fun _ => false) (fun _ => 0) (fun _ _ _ => 0)) := by
    have b1 : decide ((0 : Int) ≤ (n1 : Int)) = true := decide_eq_true (by omega)
    have b2 : decide ((n1 : Int) ≤ (n1 : Int)) = true := decide_eq_true (by omega)
    have b3 : decide ((n1 : Int) * 24 ≤ 1099511627776) = true := decide_eq_true (by omega)
    have b4 : decide ((n1 : Int) ≤ 1099511627776) = true := decide_eq_true (by omega)
    simp only [pcutsstart, h0, h1, h2, h3, wn, b1, b2, b3, b4, cond_true, cond_false, Bool.and_self]
  refine ⟨_, by rw [hstart]; exact q2.trans p3, ?_, ?_⟩
  · subst p1
    have hl : cutsL n0 c0 n1 c1 w (tabP n0 c0 n1 c1 w) = chainL (tabP n0 c0 n1 c1 w) n1 0 0 := by unfold cutsL wayL; rw [hE]; rfl
    rw [hE, hl]
    refine vrel_tup2 fun ρ u h => ?_
    rw [frzS_eq] at h
    exact vrel_dat_congr p2 h
  · subst p1
    show pf 4 (.tup [frzS 1 1 0 _ _ g, .int .i64 0]) = true
    rw [frzS_eq]; rfl

end
end Go.Am
