/- SnapNearest always gives true (its steps). -/
import Derived.Test.YtdojgffcahimjaaSpS
import Derived.Test.YtdojgffcahimjaaSpR
namespace Go.Am
open Go.Proofs Go.Lib
set_option maxRecDepth 100000
set_option maxHeartbeats 4000000
set_option linter.unusedVariables false
set_option linter.unusedSimpArgs false

theorem hasV_of {n : Nat} {c : Nat → Int} {x : Int} {t : Nat} (h : t < n) (e : c t = x) : hasV n c x = true := by
  unfold hasV
  rcases bool_cases (anyF (fun i => c i == x) n 0) with q | q
  · exact q
  · have := anyF_false n 0 q t (Nat.zero_le _) (by omega)
    simp [e] at this

/-- What is known of the best line when i lines have been looked at. -/
def BestAt (c : Nat → Int) (x w : Int) (i : Nat) (b : Int) : Prop :=
  (b < 0 ∧ ∀ m, m < i → ¬ apartV (c m) x ≤ w) ∨ ∃ t : Nat, b = t ∧ t < i ∧ apartV (c t) x ≤ w ∧ ∀ m, m < i → apartV (c m) x ≤ w → apartV (c t) x ≤ apartV (c m) x ∧ (apartV (c m) x = apartV (c t) x → t ≤ m)
theorem bestAt (c : Nat → Int) (x w : Int) : ∀ (k i : Nat) (b : Int), BestAt c x w i b → BestAt c x w (i + k) (bestF c x w k i b)
  | 0, i, b, h => h
  | k + 1, i, b, h => by
    rw [show i + (k + 1) = (i + 1) + k by omega, bestF_succ]
    refine bestAt c x w k (i + 1) _ ?_
    rcases bool_cases (decide (apartV (c i) x ≤ w)) with e | e
    · have e' := of_decide_eq_true e
      rw [e, cond_true]
      rcases h with ⟨h1, h2⟩ | ⟨t, h1, h2, h3, h4⟩
      · rw [decide_eq_true h1, cond_true]
        refine .inr ⟨i, rfl, by omega, e', fun m hm hw => ?_⟩
        rcases Nat.lt_or_ge m i with q | q
        · exact absurd hw (h2 m q)
        · have : m = i := by omega
          subst this
          exact ⟨Int.le_refl _, fun _ => Nat.le_refl _⟩
      · subst h1
        rw [decide_eq_false (show ¬ (t : Int) < 0 by omega), cond_false, Int.toNat_natCast]
        rcases bool_cases (decide (apartV (c i) x < apartV (c t) x)) with e2 | e2
        · have e3 := of_decide_eq_true e2
          rw [e2, cond_true]
          refine .inr ⟨i, rfl, by omega, e', fun m hm hw => ?_⟩
          rcases Nat.lt_or_ge m i with q | q
          · have := (h4 m q hw).1
            exact ⟨by omega, fun e4 => by omega⟩
          · have : m = i := by omega
            subst this
            exact ⟨Int.le_refl _, fun _ => Nat.le_refl _⟩
        · have e3 := of_decide_eq_false e2
          rw [e2, cond_false]
          refine .inr ⟨t, rfl, by omega, h3, fun m hm hw => ?_⟩
          rcases Nat.lt_or_ge m i with q | q
          · exact h4 m q hw
          · have : m = i := by omega
            subst this
            exact ⟨by omega, fun _ => by omega⟩
    · have e' := of_decide_eq_false e
      rw [e, cond_false]
      rcases h with ⟨h1, h2⟩ | ⟨t, h1, h2, h3, h4⟩
      · refine .inl ⟨h1, fun m hm => ?_⟩
        rcases Nat.lt_or_ge m i with q | q
        · exact h2 m q
        · have : m = i := by omega
          subst this
          exact e'
      · refine .inr ⟨t, h1, by omega, h3, fun m hm hw => ?_⟩
        rcases Nat.lt_or_ge m i with q | q
        · exact h4 m q hw
        · have : m = i := by omega
          subst this
          exact absurd hw e'

structure NearOk (n : Nat) (c : Nat → Int) (x w : Int) : Prop where
  err : nearV_1 n c x w = 0
  at_ : (nearV_0 n c x w != x) = true → hasV n c (nearV_0 n c x w) = true ∧ ¬ apartV (nearV_0 n c x w) x > w
  all : ∀ i, i < n → apartV (c i) x ≤ w → hasV n c (nearV_0 n c x w) = true ∧ ¬ apartV (c i) x < apartV (nearV_0 n c x w) x ∧ (apartV (c i) x = apartV (nearV_0 n c x w) x → ¬ c i < nearV_0 n c x w)
theorem near_ok {n : Nat} {c : Nat → Int} {x w : Int} (h : (chkV n c != 0) = false) (h1 : ¬ w < 0) (h2 : ¬ w > 2000000) (h3 : ¬ x < -1000000) (h4 : ¬ x > 1000000) : NearOk n c x w := by
  have L := lines_of h
  have hv : nearV_0 n c x w = pickV c x (bestF c x w n 0 (-1)) := by
    simp only [nearV_0, h, decide_eq_false h1, decide_eq_false h2, decide_eq_false (show ¬ x < -4000000 by omega), decide_eq_false (show ¬ x > 4000000 by omega), cond_false]
  have he : nearV_1 n c x w = 0 := by simp only [nearV_1, h, decide_eq_false h1, decide_eq_false h2, cond_false]
  have B := bestAt c x w n 0 (-1) (.inl ⟨by omega, fun m hm => absurd hm (Nat.not_lt_zero _)⟩)
  rw [Nat.zero_add] at B
  rcases B with ⟨b1, b2⟩ | ⟨t, b1, b2, b3, b4⟩
  · have hx : nearV_0 n c x w = x := by rw [hv]; unfold pickV; rw [decide_eq_true b1]; rfl
    exact ⟨he, fun q => by rw [hx] at q; simp at q, fun i hi hw => absurd hw (b2 i hi)⟩
  · have hx : nearV_0 n c x w = c t := by
      rw [hv, b1]; unfold pickV
      rw [decide_eq_false (show ¬ (t : Int) < 0 by omega), cond_false, Int.toNat_natCast]
    have hh : hasV n c (nearV_0 n c x w) = true := hasV_of b2 hx.symm
    refine ⟨he, fun _ => ⟨hh, by rw [hx]; omega⟩, fun i hi hw => ⟨hh, ?_, ?_⟩⟩
    · rw [hx]; have := (b4 i hi hw).1; omega
    · intro e
      rw [hx] at e ⊢
      have h5 := (b4 i hi hw).2 e
      rcases Nat.lt_or_ge t i with q | q
      · have := L.up t i q hi; omega
      · have : t = i := by omega
        subst this; omega

theorem chk_ok {n : Nat} {c : Nat → Int} (L : Lines n c) : chkV n c = 0 := by
  have hl := L.len
  unfold chkV
  rw [decide_eq_false (show ¬ (n : Int) > 100 by omega), cond_false, anyF_all n 0 fun m _ hm => ?_]
  · rfl
  · have lo := L.lo m (by omega)
    have hi := L.hi m (by omega)
    unfold badV
    rw [decide_eq_false (show ¬ c m < -1000000 by omega), decide_eq_false (show ¬ c m > 1000000 by omega)]
    simp only [cond_false]
    rcases bool_cases (decide (m > 0)) with e | e
    · rw [e, cond_true]
      have := of_decide_eq_true e
      have hup := L.up (m - 1) m (by omega) (by omega)
      exact decide_eq_false (by omega)
    · rw [e]; rfl

section
variable (n0 : Nat) (c0 : Nat → Int) (n1 : Nat) (c1 : Nat → Int) (x2 x3 : Int)

/-- One round of the loop over the first list: it goes on. -/
theorem nst_round (hc : (chkV n0 c0 != 0) = false) (B : NearOk n0 c0 x2 x3) (i : Nat) (hi : i < n0) (o : Out' nstS) :
    (bif (decide ((apartV (c0 i) x2) ≤ x3)) then (bif (!(hasV n0 c0 (nearV_0 n0 c0 x2 x3))) then .ret [(.bool false)] else (bif (decide ((apartV (c0 i) x2) < (apartV (nearV_0 n0 c0 x2 x3) x2))) then .ret [(.bool false)] else (bif ((apartV (c0 i) x2) == (apartV (nearV_0 n0 c0 x2 x3) x2)) then (bif (decide ((c0 i) < (nearV_0 n0 c0 x2 x3))) then .ret [(.bool false)] else o) else o))) else o) = o := by
  rcases bool_cases (decide ((apartV (c0 i) x2) ≤ x3)) with e | e
  · obtain ⟨g1, g2, g3⟩ := B.all i hi (of_decide_eq_true e)
    rw [e, cond_true, g1, Bool.not_true, cond_false, decide_eq_false g2, cond_false]
    rcases bool_cases ((apartV (c0 i) x2) == (apartV (nearV_0 n0 c0 x2 x3) x2)) with q | q
    · rw [q, cond_true, decide_eq_false (g3 (by simpa using q)), cond_false]
    · rw [q, cond_false]
  · rw [e, cond_false]

theorem nst_h0 (hc : (chkV n0 c0 != 0) = false) (hn1 : n1 ≤ 100) (B : NearOk n0 c0 x2 x3) (hbig : n0 + n1 > 100) : ∀ (k i : Nat), i + k = n0 → goOn (nststep n0 c0 n1 c1 x2 x3) (k + 1) (.to (.h0 (i : Int))) = .ret [.bool true]
  | 0, i, hi => by
    have hn0 := chk_len hc
    have k0 : decide ((i : Int) < (n0 : Int)) = false := decide_eq_false (by omega)
    have w1 : IntKind.wrap .i64 ((n0 : Int) + (n1 : Int)) = (n0 : Int) + n1 := w_in (by omega) (by omega)
    have k1 : decide ((n0 : Int) + (n1 : Int) > 100) = true := decide_eq_true (by omega)
    rw [goOn_to]
    simp only [nststep, k0, cond_false, w1, k1, cond_true]
    rfl
  | k + 1, i, hi => by
    have hn0 := chk_len hc
    have k0 : decide ((i : Int) < (n0 : Int)) = true := decide_eq_true (by omega)
    have k1 : (decide (0 ≤ (i : Int) ∧ (i : Int) < (n0 : Int)) && true) = true := by rw [Bool.and_true]; exact decide_eq_true (by omega)
    have ih := nst_h0 hc hn1 B hbig k (i + 1) (by omega)
    rw [goOn_to]
    simp only [nststep, k0, k1, cond_true, Int.toNat_natCast, hasV_owed, short_of (show n0 ≤ 1000 by omega)]
    rw [nst_round n0 c0 x2 x3 hc B i (by omega), w_nat (i := i) (by omega)]
    exact ih

theorem nst_h1 (hc : (chkV n0 c0 != 0) = false) (hn1 : n1 ≤ 100) (B : NearOk n0 c0 x2 x3) (K : Nat) (d : Nat → Int) (hK : K ≤ n0 + n1) (hd : (chkV K d != 0) = false) : ∀ (k i : Nat) (e : Nat → Int), i + k = n0 → goOn (nststep n0 c0 n1 c1 x2 x3) (k + 1) (.to (.h1 K e (i : Int) d)) = .to (.h2 K d 0 d)
  | 0, i, e, hi => by
    have hn0 := chk_len hc
    have k0 : decide ((i : Int) < (n0 : Int)) = false := decide_eq_false (by omega)
    rw [goOn_to]
    simp only [nststep, k0, cond_false, Nat.zero_add, iget_eta, cOf_iget, hd, isI_iget, flatG_iget, decide_eq_true hK, Nat.beq_refl, Bool.and_self, cond_true]
    rfl
  | k + 1, i, e, hi => by
    have hn0 := chk_len hc
    have k0 : decide ((i : Int) < (n0 : Int)) = true := decide_eq_true (by omega)
    have k1 : (decide (0 ≤ (i : Int) ∧ (i : Int) < (n0 : Int)) && true) = true := by rw [Bool.and_true]; exact decide_eq_true (by omega)
    have ih := nst_h1 hc hn1 B K d hK hd k (i + 1) d (by omega)
    rw [goOn_to]
    simp only [nststep, k0, k1, cond_true, Int.toNat_natCast, hasV_owed, short_of (show n0 ≤ 1000 by omega)]
    rw [nst_round n0 c0 x2 x3 hc B i (by omega), w_nat (i := i) (by omega)]
    exact ih

theorem nst_h2 (hn0 : n0 ≤ 100) (hn1 : n1 ≤ 100) (K : Nat) (d : Nat → Int) (hK : K ≤ n0 + n1) (h0 : ∀ i, i < n0 → hasV K d (c0 i) = true) (h1 : ∀ i, i < n1 → hasV K d (c1 i) = true) (h2 : ∀ i, i < K → hasV n0 c0 (d i) = true ∨ hasV n1 c1 (d i) = true) :
    ∀ (k i : Nat) (e : Nat → Int), i + k = n0 + n1 + K → goOn (nststep n0 c0 n1 c1 x2 x3) (k + 1) (.to (.h2 K e (i : Int) d)) = .ret [.bool true]
  | 0, i, e, hi => by
    have w1 : IntKind.wrap .i64 ((n0 : Int) + (n1 : Int)) = (n0 : Int) + n1 := w_in (by omega) (by omega)
    have w2 : IntKind.wrap .i64 ((n0 : Int) + (n1 : Int) + (K : Int)) = (n0 : Int) + n1 + K := w_in (by omega) (by omega)
    have k0 : decide ((i : Int) < (n0 : Int) + n1 + K) = false := decide_eq_false (by omega)
    rw [goOn_to]
    simp only [nststep, w1, w2, k0, cond_false]
    rfl
  | k + 1, i, e, hi => by
    have w1 : IntKind.wrap .i64 ((n0 : Int) + (n1 : Int)) = (n0 : Int) + n1 := w_in (by omega) (by omega)
    have w2 : IntKind.wrap .i64 ((n0 : Int) + (n1 : Int) + (K : Int)) = (n0 : Int) + n1 + K := w_in (by omega) (by omega)
    have k0 : decide ((i : Int) < (n0 : Int) + n1 + K) = true := decide_eq_true (by omega)
    have ih := nst_h2 hn0 hn1 K d hK h0 h1 h2 k (i + 1) d (by omega)
    have sK : short K = true := short_of (by omega)
    have s0 : short n0 = true := short_of (by omega)
    have s1 : short n1 = true := short_of (by omega)
    have wi : IntKind.wrap .i64 ((i : Int) + 1) = ((i + 1 : Nat) : Int) := w_nat (i := i) (by omega)
    rw [goOn_to]
    by_cases a0 : i < n0
    · have k1 : decide ((i : Int) < (n0 : Int)) = true := decide_eq_true (by omega)
      have k2 : (decide (0 ≤ (i : Int) ∧ (i : Int) < (n0 : Int)) && true) = true := by rw [Bool.and_true]; exact decide_eq_true (by omega)
      simp only [nststep, w1, w2, k0, k1, k2, cond_true, cond_false, Int.toNat_natCast, Nat.zero_add, iget_eta, cOf_iget, h0 i a0, Bool.not_true, isI_iget, flatG_iget, decide_eq_true hK, Nat.beq_refl, Bool.and_self, hasV_owed, sK, wi]
      exact ih
    · have k1 : decide ((i : Int) < (n0 : Int)) = false := decide_eq_false (by omega)
      have w3 : IntKind.wrap .i64 ((i : Int) - (n0 : Int)) = ((i - n0 : Nat) : Int) := by rw [w_in (by omega) (by omega)]; omega
      by_cases a1 : i < n0 + n1
      · have k2 : decide ((i : Int) < (n0 : Int) + n1) = true := decide_eq_true (by omega)
        have k3 : (decide (0 ≤ ((i - n0 : Nat) : Int) ∧ ((i - n0 : Nat) : Int) < (n1 : Int)) && true) = true := by rw [Bool.and_true]; exact decide_eq_true (by omega)
        simp only [nststep, w1, w2, w3, k0, k1, k2, k3, cond_true, cond_false, Int.toNat_natCast, Nat.zero_add, iget_eta, cOf_iget, h1 (i - n0) (by omega), Bool.not_true, isI_iget, flatG_iget, decide_eq_true hK, Nat.beq_refl, Bool.and_self, hasV_owed, sK, wi]
        exact ih
      · have k2 : decide ((i : Int) < (n0 : Int) + n1) = false := decide_eq_false (by omega)
        have w4 : IntKind.wrap .i64 (((i - n0 : Nat) : Int) - (n1 : Int)) = ((i - n0 - n1 : Nat) : Int) := by rw [w_in (by omega) (by omega)]; omega
        have k3 : (decide (0 ≤ ((i - n0 - n1 : Nat) : Int) ∧ ((i - n0 - n1 : Nat) : Int) < (K : Int)) && true) = true := by rw [Bool.and_true]; exact decide_eq_true (by omega)
        have k4 : decide (i - n0 - n1 < n0 + n1) = true := decide_eq_true (by omega)
        have hs : hasV K d (d (i - n0 - n1)) = true := hasV_of (t := i - n0 - n1) (by omega) rfl
        rcases bool_cases (hasV n0 c0 (d (i - n0 - n1))) with q | q
        · simp only [nststep, w1, w2, w3, w4, k0, k1, k2, k3, k4, cond_true, cond_false, Int.toNat_natCast, Nat.zero_add, iget_eta, cOf_iget, q, hs, Bool.not_true, isI_iget, flatG_iget, decide_eq_true hK, Nat.beq_refl, Bool.and_self, hasV_owed, sK, s0, s1, wi]
          exact ih
        · have q2 : hasV n1 c1 (d (i - n0 - n1)) = true := (h2 (i - n0 - n1) (by omega)).resolve_left (by rw [q]; simp)
          simp only [nststep, w1, w2, w3, w4, k0, k1, k2, k3, k4, cond_true, cond_false, Int.toNat_natCast, Nat.zero_add, iget_eta, cOf_iget, q, q2, hs, Bool.not_true, isI_iget, flatG_iget, decide_eq_true hK, Nat.beq_refl, Bool.and_self, hasV_owed, sK, s0, s1, wi]
          exact ih

theorem goOn_add {σ : Type} (step : σ → Out' σ) : ∀ (a b : Nat) (o : Out' σ), goOn step (a + b) o = goOn step b (goOn step a o)
  | 0, b, o => by rw [Nat.zero_add]; rfl
  | a + 1, b, .to s => by rw [show a + 1 + b = (a + b) + 1 by omega, goOn_to, goOn_to]; exact goOn_add step a b (step s)
  | a + 1, b, .ret vs => by cases b <;> rfl
  | a + 1, b, .stuck => by cases b <;> rfl

theorem nst_run : ∃ N, goOn (nststep n0 c0 n1 c1 x2 x3) N (nststart n0 c0 n1 c1 x2 x3) = .ret [.bool true] := by
  rcases bool_cases (chkV n0 c0 != 0) with h0 | h0
  · exact ⟨0, by simp only [nststart, h0, cond_true]; rfl⟩
  rcases bool_cases (chkV n1 c1 != 0) with h1 | h1
  · exact ⟨0, by simp only [nststart, h0, h1, cond_true, cond_false]; rfl⟩
  by_cases a1 : x3 < 0
  · exact ⟨0, by simp only [nststart, h0, h1, decide_eq_true a1, cond_true, cond_false]; rfl⟩
  by_cases a2 : x3 > 2000000
  · exact ⟨0, by simp only [nststart, h0, h1, decide_eq_false a1, decide_eq_true a2, cond_true, cond_false]; rfl⟩
  by_cases a3 : x2 < -1000000
  · exact ⟨0, by simp only [nststart, h0, h1, decide_eq_false a1, decide_eq_false a2, decide_eq_true a3, cond_true, cond_false]; rfl⟩
  by_cases a4 : x2 > 1000000
  · exact ⟨0, by simp only [nststart, h0, h1, decide_eq_false a1, decide_eq_false a2, decide_eq_false a3, decide_eq_true a4, cond_true, cond_false]; rfl⟩
  have B := near_ok h0 a1 a2 a3 a4
  have L0 := lines_of h0
  have L1 := lines_of h1
  have l0 := L0.len
  have l1 := L1.len
  have hM := merge_eq L0 L1
  have room1 : decide ((n0 + 1) * (8 + 1) ≤ room) = true := decide_eq_true (by unfold room; omega)
  have room2 : decide ((n0 + n1 + 1) * (8 + 1) ≤ room) = true := decide_eq_true (by unfold room; omega)
  have w0 : IntKind.wrap .i64 (n0 : Int) = n0 := w_in (by omega) (by omega)
  have w1 : IntKind.wrap .i64 ((n0 : Int) + (n1 : Int)) = (n0 : Int) + n1 := w_in (by omega) (by omega)
  have p0 : decide ((n0 : Int) < 0) = false := decide_eq_false (by omega)
  have p1 : decide ((n0 : Int) + (n1 : Int) < 0) = false := decide_eq_false (by omega)
  have p2 : ((n0 : Int) + (n1 : Int)).toNat = n0 + n1 := by omega
  have p3 : decide ((0 : Int) ≤ (n0 : Int) + (n1 : Int)) = true := decide_eq_true (by omega)
  have p4 : decide (n0 + n1 < 4611686018427387904) = true := decide_eq_true (by omega)
  have s0 : short n0 = true := short_of (by omega)
  have hlen : (mrgF n0 c0 n1 c1 (n0 + n1) 0 0).length ≤ n0 + n1 := by
    rw [← hM]
    have := compact_length_le (srtI (intsOf (n0 + n1) (catC c0 n0 c1)))
    rwa [srt_len, intsOf_len] at this
  have e1 : (nearV_1 n0 c0 x2 x3 != 0) = false := by rw [B.err]; rfl
  generalize hLL : mrgF n0 c0 n1 c1 (n0 + n1) 0 0 = LL at hM hlen
  have hmem : ∀ x, x ∈ LL ↔ (∃ t, 0 ≤ t ∧ t < n0 ∧ c0 t = x) ∨ ∃ t, 0 ≤ t ∧ t < n1 ∧ c1 t = x := fun x => by rw [← hLL]; exact mrg_mem n0 c0 n1 c1 x _ 0 0 (Nat.zero_le _) (Nat.zero_le _) (by omega)
  have hup : LL.Pairwise (· < ·) := by rw [← hLL]; exact mrg_lt L0.up L1.up _ 0 0 (Nat.zero_le _) (Nat.zero_le _) (by omega)
  have hd : ∀ i, i < LL.length → listC (padI (srtI (intsOf (n0 + n1) (catC c0 n0 c1)))) i = listC LL i := fun i hi => by
    simp only [padI, hM, listC, List.getD_eq_getElem?_getD, List.getElem?_append_left hi]
  -- the start, without what is owed
  have hst : ∀ o, (bif decide ((LL.length : Int) > 100) then Out'.to (.h0 0) else .to (.h1 LL.length (listC (padI (srtI (intsOf (n0 + n1) (catC c0 n0 c1))))) 0 (listC (padI (srtI (intsOf (n0 + n1) (catC c0 n0 c1))))))) = o → nststart n0 c0 n1 c1 x2 x3 = o := by
    intro o ho
    rcases bool_cases (nearV_0 n0 c0 x2 x3 != x2) with q | q
    · obtain ⟨g1, g2⟩ := B.at_ q
      simp only [nststart, h0, h1, decide_eq_false a1, decide_eq_false a2, decide_eq_false a3, decide_eq_false a4, cond_false, cond_true, Nat.zero_add, Nat.add_zero, Int.zero_add, Int.sub_zero, w0, w1, p0, p1, p2, p3, p4, catRow_zero, catRow_iget, iget_eta, cOf_iget, int_list_srt, cmpN, hM, e1, q, g1, decide_eq_false g2, Bool.not_true, room1, room2, isI_iget, flatG_iget, hasV_owed, s0, Nat.beq_refl, Nat.le_refl, Nat.zero_le, decide_true, Bool.and_self, Bool.or_true, Bool.true_and]
      rw [← ho]
      cases decide ((LL.length : Int) > 100) <;> cases decide ((n0 : Int) + (n1 : Int) > 0) <;> rfl
    · simp only [nststart, h0, h1, decide_eq_false a1, decide_eq_false a2, decide_eq_false a3, decide_eq_false a4, cond_false, cond_true, Nat.zero_add, Nat.add_zero, Int.zero_add, Int.sub_zero, w0, w1, p0, p1, p2, p3, p4, catRow_zero, catRow_iget, iget_eta, cOf_iget, int_list_srt, cmpN, hM, e1, q, Bool.not_true, room1, room2, isI_iget, flatG_iget, hasV_owed, s0, Nat.beq_refl, Nat.le_refl, Nat.zero_le, decide_true, Bool.and_self, Bool.or_true, Bool.true_and]
      rw [← ho]
      cases decide ((LL.length : Int) > 100) <;> cases decide ((n0 : Int) + (n1 : Int) > 0) <;> rfl
  by_cases hbig : (LL.length : Int) > 100
  · refine ⟨n0 + 1, ?_⟩
    rw [hst _ rfl, decide_eq_true hbig, cond_true]
    exact nst_h0 n0 c0 n1 c1 x2 x3 h0 l1 B (by omega) n0 0 (by omega)
  · have LK : Lines LL.length (listC LL) := by
      have hg : ∀ i (hi : i < LL.length), listC LL i = LL[i] := fun i hi => by simp [listC, hi]
      refine ⟨by omega, fun i hi => ?_, fun i hi => ?_, fun i j hij hj => ?_⟩
      · rw [hg i hi]
        rcases (hmem _).1 (List.getElem_mem hi) with ⟨t, _, b, e⟩ | ⟨t, _, b, e⟩
        · rw [← e]; exact L0.lo t b
        · rw [← e]; exact L1.lo t b
      · rw [hg i hi]
        rcases (hmem _).1 (List.getElem_mem hi) with ⟨t, _, b, e⟩ | ⟨t, _, b, e⟩
        · rw [← e]; exact L0.hi t b
        · rw [← e]; exact L1.hi t b
      · rw [hg i (by omega), hg j hj]
        exact List.pairwise_iff_getElem.1 hup i j (by omega) hj hij
    have LD : Lines LL.length (listC (padI (srtI (intsOf (n0 + n1) (catC c0 n0 c1))))) :=
      ⟨LK.len, fun i hi => by rw [hd i hi]; exact LK.lo i hi, fun i hi => by rw [hd i hi]; exact LK.hi i hi, fun i j hij hj => by rw [hd i (by omega), hd j hj]; exact LK.up i j hij hj⟩
    have hcd : (chkV LL.length (listC (padI (srtI (intsOf (n0 + n1) (catC c0 n0 c1))))) != 0) = false := by rw [chk_ok LD]; rfl
    have has : ∀ x, x ∈ LL → hasV LL.length (listC (padI (srtI (intsOf (n0 + n1) (catC c0 n0 c1))))) x = true := fun x hx => by
      obtain ⟨i, hi, e⟩ := List.getElem_of_mem hx
      exact hasV_of hi (by rw [hd i hi, ← e]; simp [listC, hi])
    refine ⟨(n0 + 1) + ((n0 + n1 + LL.length) + 1), ?_⟩
    rw [hst _ rfl, decide_eq_false hbig, cond_false, goOn_add]
    have q1 := nst_h1 n0 c0 n1 c1 x2 x3 h0 l1 B LL.length _ hlen hcd n0 0 (listC (padI (srtI (intsOf (n0 + n1) (catC c0 n0 c1))))) (by omega)
    rw [show ((0 : Nat) : Int) = 0 from rfl] at q1
    rw [q1]
    refine nst_h2 n0 c0 n1 c1 x2 x3 l0 l1 LL.length _ hlen (fun i hi => has _ ((hmem _).2 (.inl ⟨i, Nat.zero_le _, hi, rfl⟩))) (fun i hi => has _ ((hmem _).2 (.inr ⟨i, Nat.zero_le _, hi, rfl⟩))) (fun i hi => ?_) (n0 + n1 + LL.length) 0 _ (by omega)
    rw [hd i hi, show listC LL i = LL[i] by simp [listC, hi]]
    rcases (hmem _).1 (List.getElem_mem hi) with ⟨t, _, b, e⟩ | ⟨t, _, b, e⟩
    · exact .inl (hasV_of b e)
    · exact .inr (hasV_of b e)
end
end Go.Am
