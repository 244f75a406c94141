/- Lines and cuts moved together: the table is moved. SnapMoves always gives true (its steps). -/
import Derived.Test.YtdojgffcahimjaaSp4
namespace Go.Am
open Go.Proofs
set_option maxRecDepth 100000
set_option maxHeartbeats 4000000
set_option linter.unusedVariables false
set_option linter.unusedSimpArgs false

def shO (x : Int) (o : Opt) : Opt := ⟨o.pl + x, o.nx, o.on, o.sm⟩
theorem oAt_sh {x : Int} {L : List Opt} {j : Nat} (h : j < L.length) : oAt (L.map (shO x)) j = shO x (oAt L j) := by
  unfold oAt; simp [h]
theorem oAt_sh' (x : Int) (L : List Opt) (j : Nat) : (oAt (L.map (shO x)) j).on = (oAt L j).on ∧ (oAt (L.map (shO x)) j).sm = (oAt L j).sm := by
  rcases Nat.lt_or_ge j L.length with h | h
  · rw [oAt_sh h]; exact ⟨rfl, rfl⟩
  · unfold oAt; simp [h]
theorem scanI_sh (x : Int) (L : List Opt) (p : Int) : ∀ (k j : Nat) (nx : Int), j + k ≤ L.length → scanI (L.map (shO x)) (p + x) k j nx = scanI L p k j nx
  | 0, _, _, _ => rfl
  | k + 1, j, nx, h => by
    rw [scanI_succ, scanI_succ, (oAt_sh' x L j).1, (oAt_sh' x L j).2, (oAt_sh' x L nx.toNat).1, (oAt_sh' x L nx.toNat).2, oAt_sh (show j < L.length by omega), scanI_sh x L p k (j + 1) _ (by omega)]
    have e : decide ((shO x (oAt L j)).pl > p + x) = decide ((oAt L j).pl > p) := by
      show decide ((oAt L j).pl + x > p + x) = _
      by_cases q : (oAt L j).pl > p
      · rw [decide_eq_true q, decide_eq_true (by omega)]
      · rw [decide_eq_false q, decide_eq_false (by omega)]
    rw [e]
theorem rowL_sh (x : Int) {onF onF' dF dF' : Int → Int} (nxt : Option (List Opt)) : ∀ P : List Int, (∀ p, p ∈ P → onF' (p + x) = onF p ∧ dF' (p + x) = dF p) → rowL onF' dF' (nxt.map (List.map (shO x))) (P.map (· + x)) = (rowL onF dF nxt P).map (shO x)
  | [], _ => rfl
  | p :: P, h => by
    have ih := rowL_sh x (onF := onF) (onF' := onF') (dF := dF) (dF' := dF') nxt P fun q hq => h q (List.mem_cons_of_mem _ hq)
    obtain ⟨h1, h2⟩ := h p List.mem_cons_self
    rw [List.map_cons]
    unfold rowL
    cases nxt with
    | none =>
      simp only [Option.map_none, List.map_cons]
      simp only [Option.map_none] at ih
      rw [ih, h1, h2]; rfl
    | some L =>
      simp only [Option.map_some] at ih ⊢
      rw [List.length_map, scanI_sh x L p L.length 0 (-1) (by omega), ih, h1, h2, (oAt_sh' x L _).1, (oAt_sh' x L _).2]
      rcases bool_cases (decide (scanI L p L.length 0 (-1) < 0)) with e | e <;> rw [e]
      · rfl
      · rfl

theorem srt_sh (x : Int) (l : List Int) : srtI (l.map (· + x)) = (srtI l).map (· + x) := by
  refine List.Perm.eq_of_pairwise (le := (· ≤ ·)) (fun a b _ _ h1 h2 => by omega) (srt_le _) ?_ ?_
  · exact List.pairwise_map.2 ((srt_le l).imp fun h => by omega)
  · exact (List.mergeSort_perm _ _).trans ((List.mergeSort_perm l _).symm.map _)

theorem firstF_congr {p q : Nat → Bool} : ∀ (k i : Nat), (∀ m, i ≤ m → m < i + k → p m = q m) → firstF p k i = firstF q k i
  | 0, _, _ => rfl
  | k + 1, i, h => by
    unfold firstF
    rw [h i (Nat.le_refl _) (by omega), firstF_congr k (i + 1) fun m h1 h2 => h m (by omega) (by omega)]
theorem onP_sh {n : Nat} {c c' : Nat → Int} {x : Int} (h : ∀ i, i < n → c' i = c i + x) (p : Int) : onP n c' (p + x) = onP n c p := by
  have e : bsN n c' (p + x) = bsN n c p := firstF_congr n 0 fun m _ hm => by
    rw [h m (by omega)]
    by_cases q : c m < p
    · rw [decide_eq_true q, decide_eq_true (by omega)]
    · rw [decide_eq_false q, decide_eq_false (by omega)]
  unfold onP bsV_1
  rw [e]
  by_cases q : bsN n c p < n
  · have hb : ∀ b : Int, (b + x == p + x) = (b == p) := fun b => by
      by_cases r : b = p
      · rw [r, beq_self_eq_true, beq_self_eq_true]
      · have r' : ¬ b + x = p + x := by omega
        rw [beq_eq_false_iff_ne.2 r, beq_eq_false_iff_ne.2 r']
    rw [decide_eq_true q, cond_true, cond_true, h _ q, hb]
  · rw [decide_eq_false q]; rfl
theorem dP_sh {c c' : Nat → Int} {x : Int} {i : Nat} (h : c' i = c i + x) (p : Int) : dP c' i (p + x) = dP c i p := by
  unfold dP
  rw [h, show p + x - (c i + x) = p - c i by omega]
theorem nrF_sh {n : Nat} {c c' : Nat → Int} {x : Int} (h : ∀ i, i < n → c' i = c i + x) (mid : Bool) (a w : Int) : ∀ (k j : Nat), j + k ≤ n → nrF mid c' (a + x) w k j = (nrF mid c a w k j).map (· + x)
  | 0, _, _ => rfl
  | k + 1, j, hk => by
    unfold nrF
    rw [nrF_sh h mid a w k (j + 1) (by omega), h j (by omega), List.map_append, show c j + x - (a + x) = c j - a by omega]
    have e : (c j + x != a + x) = (c j != a) := by
      by_cases q : c j = a
      · rw [q, bne_self_eq_false, bne_self_eq_false]
      · have q' : ¬ c j + x = a + x := by omega
        rw [bne_iff_ne.2 q, bne_iff_ne.2 q']
    rw [e]
    congr 1
    cases mid <;> rcases bool_cases (c j != a) with e1 | e1 <;> rcases bool_cases (decide (absV (IntKind.wrap .i64 (c j - a)) ≤ w)) with e2 | e2 <;> rw [e1, e2] <;> rfl

section
variable {n0 : Nat} {c0 c0' : Nat → Int} {n1 : Nat} {c1 c1' : Nat → Int} {w x : Int}
theorem prP_sh (h0 : ∀ i, i < n0 → c0' i = c0 i + x) (h1 : ∀ i, i < n1 → c1' i = c1 i + x) {i : Nat} (hi : i < n1) : prP n0 c0' n1 c1' w i = (prP n0 c0 n1 c1 w i).map (· + x) := by
  unfold prP
  rw [← srt_sh, List.map_append, h1 i hi, nrF_sh h0 _ _ _ n0 0 (by omega)]
  rfl
theorem tabD_sh (h0 : ∀ i, i < n0 → c0' i = c0 i + x) (h1 : ∀ i, i < n1 → c1' i = c1 i + x) : ∀ (d i : Nat), i + d + 1 = n1 → tabP n0 c0' n1 c1' w i = (tabP n0 c0 n1 c1 w i).map (shO x)
  | 0, i, h => by
    unfold tabP
    rw [tabI_last _ _ _ (by omega), tabI_last _ _ _ (by omega), prP_sh h0 h1 (by omega)]
    exact rowL_sh x none _ fun p _ => ⟨onP_sh h0 p, dP_sh (h1 i (by omega)) p⟩
  | d + 1, i, h => by
    have ih := tabD_sh h0 h1 d (i + 1) (by omega)
    unfold tabP at ih ⊢
    rw [tabI_next _ _ _ (show i + 1 < n1 by omega), tabI_next _ _ _ (show i + 1 < n1 by omega), prP_sh h0 h1 (by omega), ih]
    exact rowL_sh x (some _) _ fun p _ => ⟨onP_sh h0 p, dP_sh (h1 i (by omega)) p⟩

theorem chainL_sh {T T' : Nat → List Opt} {n : Nat} (hT : ∀ i, i < n → T' i = (T i).map (shO x)) (hnx : ∀ i a, i + 1 < n → a < (T i).length → 0 ≤ (oAt (T i) a).nx ∧ (oAt (T i) a).nx < (T (i + 1)).length) :
    ∀ (k i : Nat) (a : Int), i + k = n → (k = 0 ∨ (0 ≤ a ∧ a < (T i).length)) → chainL T' k i a = (chainL T k i a).map (· + x)
  | 0, _, _, _, _ => rfl
  | k + 1, i, a, hk, ha => by
    obtain ⟨ha0, ha1⟩ := ha.resolve_left (by omega)
    unfold chainL
    rw [hT i (by omega), oAt_sh (show a.toNat < (T i).length by omega), List.map_cons]
    congr 1
    refine chainL_sh hT hnx k (i + 1) _ (by omega) ?_
    cases k with
    | zero => exact .inl rfl
    | succ k => exact .inr (hnx i a.toNat (by omega) (by omega))
end

theorem rowL_pl (onF dF : Int → Int) (nxt : Option (List Opt)) : ∀ (P : List Int) (o : Opt), o ∈ rowL onF dF nxt P → o.pl ∈ P
  | [], o, h => by cases h
  | p :: P, o, h => by
    have ih := rowL_pl onF dF nxt P o
    unfold rowL at h
    cases nxt with
    | none =>
      rcases List.mem_cons.1 h with rfl | h
      · exact List.mem_cons_self
      · exact List.mem_cons_of_mem _ (ih h)
    | some L =>
      simp only at h
      rcases bool_cases (decide (scanI L p L.length 0 (-1) < 0)) with e | e <;> rw [e] at h
      · exact List.mem_cons_of_mem _ (ih h)
      · rcases List.mem_cons.1 h with rfl | h
        · exact List.mem_cons_self
        · exact List.mem_cons_of_mem _ (ih h)

theorem nrF_mem {mid : Bool} {c : Nat → Int} {a w y : Int} : ∀ (k j : Nat), y ∈ nrF mid c a w k j → ∃ t, j ≤ t ∧ t < j + k ∧ c t = y ∧ mid = true ∧ (c t != a) = true ∧ absV (IntKind.wrap .i64 (c t - a)) ≤ w
  | 0, j, h => by cases h
  | k + 1, j, h => by
    unfold nrF at h
    rcases List.mem_append.1 h with h | h
    · cases mid with
      | false => cases h
      | true =>
        rcases bool_cases (c j != a) with e1 | e1 <;> rw [e1] at h
        · rcases bool_cases (decide (absV (IntKind.wrap .i64 (c j - a)) ≤ w)) with e2 | e2 <;> rw [e2] at h
          · have : y = c j := List.mem_singleton.1 h
            exact ⟨j, Nat.le_refl _, by omega, this.symm, rfl, e1, of_decide_eq_true e2⟩
          · cases h
        · cases h
    · obtain ⟨t, a1, a2, a3⟩ := nrF_mem k (j + 1) h
      exact ⟨t, by omega, by omega, a3⟩
theorem prP_spec {n0 : Nat} {c0 : Nat → Int} {n1 : Nat} {c1 : Nat → Int} {w : Int} {i : Nat} {y : Int} (h : y ∈ prP n0 c0 n1 c1 w i) : y = c1 i ∨ ∃ t, t < n0 ∧ c0 t = y ∧ midP n1 i = true ∧ (c0 t != c1 i) = true ∧ absV (IntKind.wrap .i64 (c0 t - c1 i)) ≤ w := by
  unfold prP at h
  rw [srt_mem, List.mem_append] at h
  rcases h with h | h
  · exact .inl (List.mem_singleton.1 h)
  · obtain ⟨t, _, a2, a3⟩ := nrF_mem n0 0 h
    exact .inr ⟨t, by omega, a3⟩

theorem chainL_mem {T : Nat → List Opt} {n : Nat} (hnx : ∀ i a, i + 1 < n → a < (T i).length → 0 ≤ (oAt (T i) a).nx ∧ (oAt (T i) a).nx < (T (i + 1)).length) :
    ∀ (k i : Nat) (a : Int), i + k = n → (k = 0 ∨ (0 ≤ a ∧ a < (T i).length)) → ∀ y, y ∈ chainL T k i a → ∃ r o, i ≤ r ∧ r < n ∧ o ∈ T r ∧ o.pl = y
  | 0, _, _, _, _, y, h => by cases h
  | k + 1, i, a, hk, ha, y, h => by
    obtain ⟨ha0, ha1⟩ := ha.resolve_left (by omega)
    have hal : a.toNat < (T i).length := by omega
    unfold chainL at h
    rcases List.mem_cons.1 h with rfl | h
    · exact ⟨i, _, Nat.le_refl _, by omega, oAt_mem hal, rfl⟩
    · obtain ⟨r, o, h1, h2, h3⟩ := chainL_mem hnx k (i + 1) _ (by omega) (by
        cases k with
        | zero => exact .inl rfl
        | succ k => exact .inr (hnx i a.toNat (by omega) hal)) y h
      exact ⟨r, o, by omega, h2, h3⟩

theorem tabP_pl {n0 : Nat} {c0 : Nat → Int} {n1 : Nat} {c1 : Nat → Int} {w : Int} {i : Nat} (hi : i < n1) {o : Opt} (h : o ∈ tabP n0 c0 n1 c1 w i) : o.pl ∈ prP n0 c0 n1 c1 w i := by
  unfold tabP at h
  by_cases e : i + 1 = n1
  · rw [tabI_last _ _ _ e] at h; exact rowL_pl _ _ _ _ _ h
  · rw [tabI_next _ _ _ (by omega)] at h; exact rowL_pl _ _ _ _ _ h

structure ValidL (n : Nat) (c : Nat → Int) (m : Nat) (d : Nat → Int) (w : Int) : Prop where
  n40 : n ≤ 40
  m40 : m ≤ 40
  chkn : (chkV n c != 0) = false
  chkm : (chkV m d != 0) = false
  w0 : ¬ w < 0
  w2 : ¬ w > 2000000
theorem valid_spec {n : Nat} {c : Nat → Int} {m : Nat} {d : Nat → Int} {w : Int} (h : validV n c m d w = true) : ValidL n c m d w := by
  unfold validV at h
  rcases bool_cases (decide ((n : Int) ≤ 40)) with e1 | e1 <;> rw [e1] at h
  · rcases bool_cases (decide ((m : Int) ≤ 40)) with e2 | e2 <;> rw [e2] at h
    · rcases bool_cases (chkV n c == 0) with e3 | e3 <;> rw [e3] at h
      · rcases bool_cases (chkV m d == 0) with e4 | e4 <;> rw [e4] at h
        · rcases bool_cases (decide (w ≥ 0)) with e5 | e5 <;> rw [e5] at h
          · have g1 := of_decide_eq_true e1
            have g2 := of_decide_eq_true e2
            have g5 := of_decide_eq_true e5
            have g6 : w ≤ 2000000 := of_decide_eq_true h
            have g3 : chkV n c = 0 := by simpa using e3
            have g4 : chkV m d = 0 := by simpa using e4
            exact ⟨by omega, by omega, by rw [g3]; rfl, by rw [g4]; rfl, by omega, by omega⟩
          · cases h
        · cases h
      · cases h
    · cases h
  · cases h
theorem ValidL.err {n : Nat} {c : Nat → Int} {m : Nat} {d : Nat → Int} {w : Int} (V : ValidL n c m d w) : cutsE n c m d w = 0 := by
  simp only [cutsE, V.chkn, V.chkm, decide_eq_false V.w0, decide_eq_false V.w2, cond_false]

theorem mvs_run (n0 : Nat) (c0 : Nat → Int) (n1 : Nat) (c1 : Nat → Int) (x2 x3 : Int) : ∃ N, goOn (mvsstep n0 c0 n1 c1 x2 x3) N (mvsstart n0 c0 n1 c1 x2 x3) = .ret [.bool true] := by
  refine ⟨0, ?_⟩
  rcases bool_cases (validV n0 c0 n1 c1 x2) with v | v
  rotate_left
  · simp only [mvsstart, v, Bool.not_false, cond_true]; rfl
  by_cases b1 : x3 < -1000000
  · simp only [mvsstart, v, Bool.not_true, cond_false, decide_eq_true b1, cond_true]; rfl
  by_cases b2 : x3 > 1000000
  · simp only [mvsstart, v, Bool.not_true, cond_false, decide_eq_false b1, decide_eq_true b2, cond_true]; rfl
  have V := valid_spec v
  have q40 := V.n40
  have r40 := V.m40
  have o0 : movV_owed n0 c0 x3 = true := decide_eq_true (by omega)
  have o1 : movV_owed n1 c1 x3 = true := decide_eq_true (by omega)
  rcases bool_cases (validV (movV_0n n0 c0 x3) (movV_0c n0 c0 x3) (movV_0n n1 c1 x3) (movV_0c n1 c1 x3) x2) with v' | v'
  rotate_left
  · simp only [mvsstart, v, v', Bool.not_true, Bool.not_false, cond_false, decide_eq_false b1, decide_eq_false b2, cond_true, o0, o1]; rfl
  have V' := valid_spec v'
  have L0 := lines_of V.chkn
  have L1 := lines_of V.chkm
  have s0 : ∀ i, i < n0 → movV_0c n0 c0 x3 i = c0 i + x3 := fun i hi => by
    have := L0.lo i hi
    have := L0.hi i hi
    exact w_in (by omega) (by omega)
  have s1 : ∀ i, i < n1 → movV_0c n1 c1 x3 i = c1 i + x3 := fun i hi => by
    have := L1.lo i hi
    have := L1.hi i hi
    exact w_in (by omega) (by omega)
  have e1 : pctV_1 n0 c0 n1 c1 x2 = 0 := V.err
  have e2 : pctV_1 (movV_0n n0 c0 x3) (movV_0c n0 c0 x3) (movV_0n n1 c1 x3) (movV_0c n1 c1 x3) x2 = 0 := V'.err
  have hl : cutsL n0 c0 n1 c1 x2 (tabP n0 c0 n1 c1 x2) = wayL n1 (tabP n0 c0 n1 c1 x2) := by unfold cutsL; rw [V.err]; rfl
  have hl' : cutsL n0 (movV_0c n0 c0 x3) n1 (movV_0c n1 c1 x3) x2 (tabP n0 (movV_0c n0 c0 x3) n1 (movV_0c n1 c1 x3) x2) = wayL n1 (tabP n0 (movV_0c n0 c0 x3) n1 (movV_0c n1 c1 x3) x2) := by
    have := V'.err
    unfold cutsL
    unfold movV_0n at this
    rw [this]; rfl
  obtain ⟨hnx, hpos⟩ := way_ok n1 c1 L1 (prP n0 c0 n1 c1 x2) (onP n0 c0) (dP c1) (T := tabP n0 c0 n1 c1 x2) rfl fun i _ => prP_mem n0 c0 n1 c1 x2 i
  have ha : n1 = 0 ∨ ((0 : Int) ≤ 0 ∧ (0 : Int) < (tabP n0 c0 n1 c1 x2 0).length) := by
    rcases Nat.eq_zero_or_pos n1 with e | e
    · exact .inl e
    · exact .inr ⟨Int.le_refl _, by have := hpos e; omega⟩
  have hw : wayL n1 (tabP n0 (movV_0c n0 c0 x3) n1 (movV_0c n1 c1 x3) x2) = (wayL n1 (tabP n0 c0 n1 c1 x2)).map (· + x3) :=
    chainL_sh (fun i hi => tabD_sh s0 s1 (n1 - 1 - i) i (by omega)) hnx n1 0 0 (Nat.zero_add _) ha
  have hlen : (wayL n1 (tabP n0 c0 n1 c1 x2)).length = n1 := chainL_len _ _ _ _
  have hin : ∀ y, y ∈ wayL n1 (tabP n0 c0 n1 c1 x2) → -1000000 ≤ y ∧ y ≤ 1000000 := fun y hy => by
    obtain ⟨r, o, _, h2, h3, rfl⟩ := chainL_mem hnx n1 0 0 (Nat.zero_add _) ha y hy
    rcases prP_spec (tabP_pl h2 h3) with e | ⟨t, ht, e, _⟩
    · rw [e]; exact ⟨L1.lo r h2, L1.hi r h2⟩
    · rw [← e]; exact ⟨L0.lo t ht, L0.hi t ht⟩
  have hs : sameV (movV_0n (pctV_0n n0 c0 n1 c1 x2) (pctV_0c n0 c0 n1 c1 x2) x3) (movV_0c (pctV_0n n0 c0 n1 c1 x2) (pctV_0c n0 c0 n1 c1 x2) x3) (pctV_0n (movV_0n n0 c0 x3) (movV_0c n0 c0 x3) (movV_0n n1 c1 x3) (movV_0c n1 c1 x3) x2) (pctV_0c (movV_0n n0 c0 x3) (movV_0c n0 c0 x3) (movV_0n n1 c1 x3) (movV_0c n1 c1 x3) x2) = true := by
    show sameV (cutsL n0 c0 n1 c1 x2 (tabP n0 c0 n1 c1 x2)).length (fun i => IntKind.wrap .i64 (listC (cutsL n0 c0 n1 c1 x2 (tabP n0 c0 n1 c1 x2)) i + x3))
      (cutsL n0 (movV_0c n0 c0 x3) n1 (movV_0c n1 c1 x3) x2 (tabP n0 (movV_0c n0 c0 x3) n1 (movV_0c n1 c1 x3) x2)).length (listC (cutsL n0 (movV_0c n0 c0 x3) n1 (movV_0c n1 c1 x3) x2 (tabP n0 (movV_0c n0 c0 x3) n1 (movV_0c n1 c1 x3) x2))) = true
    rw [hl, hl', hw]
    refine sameV_of (by rw [List.length_map]) fun i hi => ?_
    have g := hin _ (List.getElem_mem hi)
    have g1 : listC (wayL n1 (tabP n0 c0 n1 c1 x2)) i = (wayL n1 (tabP n0 c0 n1 c1 x2))[i] := by simp [listC, hi]
    have g2 : listC ((wayL n1 (tabP n0 c0 n1 c1 x2)).map (· + x3)) i = (wayL n1 (tabP n0 c0 n1 c1 x2))[i] + x3 := by simp [listC, hi]
    rw [g1, g2]
    exact w_in (by omega) (by omega)
  have o2 : movV_owed (pctV_0n n0 c0 n1 c1 x2) (pctV_0c n0 c0 n1 c1 x2) x3 = true := by
    refine decide_eq_true ?_
    show (cutsL n0 c0 n1 c1 x2 (tabP n0 c0 n1 c1 x2)).length ≤ 1000
    rw [hl, hlen]; omega
  have o3 : sameV_owed (movV_0n (pctV_0n n0 c0 n1 c1 x2) (pctV_0c n0 c0 n1 c1 x2) x3) (movV_0c (pctV_0n n0 c0 n1 c1 x2) (pctV_0c n0 c0 n1 c1 x2) x3) (pctV_0n (movV_0n n0 c0 x3) (movV_0c n0 c0 x3) (movV_0n n1 c1 x3) (movV_0c n1 c1 x3) x2) (pctV_0c (movV_0n n0 c0 x3) (movV_0c n0 c0 x3) (movV_0n n1 c1 x3) (movV_0c n1 c1 x3) x2) = true := by
    refine short_of ?_
    show (cutsL n0 c0 n1 c1 x2 (tabP n0 c0 n1 c1 x2)).length ≤ 1000
    rw [hl, hlen]; omega
  have z0 : ((0 : Int) == 0) = true := rfl
  simp only [mvsstart, v, v', e1, e2, z0, hs, o0, o1, o2, o3, Bool.not_true, cond_false, decide_eq_false b1, decide_eq_false b2, cond_true]
  rfl
end Go.Am
