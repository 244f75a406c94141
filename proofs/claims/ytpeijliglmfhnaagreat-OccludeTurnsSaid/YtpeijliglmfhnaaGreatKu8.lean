/- A part of a proof: several texts in one. -/
import Derived.Test.YtpeijliglmfhnaaGreatKu7
section
namespace Go.Am
open Go.Proofs Go.Sort Go.Shelf Go.RowKit Go.Lib
set_option maxRecDepth 100000
set_option maxHeartbeats 4000000
set_option linter.unusedVariables false
set_option linter.unusedSimpArgs false
namespace Dim
variable {α β : Type} (D : Dim α β)
structure Fair : Prop where
  lo_put : ∀ x x' b, D.lo (D.put x x' b) = x
  hi_put : ∀ x x' b, D.hi (D.put x x' b) = x'
  pr_put : ∀ x x' b, D.pr (D.put x x' b) = b
  ext_put : ∀ x x' x'' b, D.ext x'' (D.put x x' b) = D.put x x'' b
def Ap (R : β → β → Prop) (a b : α) : Prop := D.hi a ≤ D.lo b ∨ D.hi b ≤ D.lo a ∨ R (D.pr a) (D.pr b)
theorem ref_apart {D : Dim α β} (hD : D.Fair) (R : β → β → Prop) (sec : Int → List β) (cs : List Int) (hc : cs.Pairwise (· < ·)) (hsec : ∀ x, (sec x).Pairwise R) :
    ∀ (k i : Nat) (pre : List α) (last : List β) (x0 : Int), (i + k < cs.length ∨ k = 0) → pre.Pairwise (D.Ap R) → (∀ a ∈ pre, D.hi a ≤ x0) → (last ≠ [] → x0 ≤ rd cs i) → (last = [] → x0 ≤ rd cs i) → last.Pairwise R →
    (D.ref sec cs k i (pre ++ last.map (D.put x0 (rd cs i))) last pre.length).Pairwise (D.Ap R) := by
  have fin : ∀ (pre : List α) (last : List β) (x0 x' : Int), pre.Pairwise (D.Ap R) → (∀ a ∈ pre, D.hi a ≤ x0) → last.Pairwise R → (pre ++ last.map (D.put x0 x')).Pairwise (D.Ap R) := fun pre last x0 x' h1 h2 h3 => by
    refine List.pairwise_append.2 ⟨h1, ?_, fun a ha b hb => ?_⟩
    · refine List.pairwise_map.2 (h3.imp fun {a b} h => .inr (.inr ?_))
      rw [hD.pr_put, hD.pr_put]; exact h
    · obtain ⟨c, _, rfl⟩ := List.mem_map.1 hb
      exact .inl (by rw [hD.lo_put]; exact h2 a ha)
  intro k
  induction k with
  | zero => intro i pre last x0 _ h1 h2 _ _ h3; exact fin pre last x0 _ h1 h2 h3
  | succ k ih =>
    intro i pre last x0 hk h1 h2 h4 h5 h3
    have hlt : rd cs i < rd cs (i + 1) := lt_rd hc (Nat.lt_succ_self _) (by omega)
    unfold ref
    cases hq : (decide (0 < i) && D.same (sec (rd cs i)) last) with
    | true =>
      rw [cond_true]
      have e : D.grow (pre ++ last.map (D.put x0 (rd cs i))) pre.length (rd cs (i + 1)) = pre ++ last.map (D.put x0 (rd cs (i + 1))) := by
        unfold grow
        rw [List.take_left, List.drop_left, List.map_map]
        congr 1
        exact List.map_congr_left fun b _ => hD.ext_put _ _ _ _
      rw [e]
      exact ih (i + 1) pre last x0 (by omega) h1 h2 (fun h => by have := h4 h; omega) (fun h => by have := h5 h; omega) h3
    | false =>
      rw [cond_false]
      refine ih (i + 1) (pre ++ last.map (D.put x0 (rd cs i))) (sec (rd cs i)) (rd cs i) (by omega) (fin pre last x0 _ h1 h2 h3) (fun a ha => ?_) (fun _ => by omega) (fun _ => by omega) (hsec _)
      rcases List.mem_append.1 ha with ha | ha
      · have := h2 a ha
        by_cases e : last = []
        · have := h5 e; omega
        · have := h4 e; omega
      · obtain ⟨c, _, rfl⟩ := List.mem_map.1 ha
        rw [hD.hi_put]; exact Int.le_refl _
theorem out_apart {D : Dim α β} (hD : D.Fair) (R : β → β → Prop) (hs : ∀ a b, D.same a b = true ↔ a = b) (l : List α) (hsec : ∀ x, (D.sec l x).Pairwise R) : (D.out l).Pairwise (D.Ap R) := by
  rw [D.out_eq hs l]
  have hc : (D.cuts l).Pairwise (· < ·) := by
    show (cutsOf (D.ends l)).Pairwise (· < ·)
    rw [cuts_eq]; exact (srtV_spec _).1
  have := ref_apart hD R (D.sec l) (D.cuts l) hc hsec ((D.cuts l).length - 1) 0 [] [] (rd (D.cuts l) 0) (by omega) .nil (by simp) (fun _ => Int.le_refl _) (fun _ => Int.le_refl _) .nil
  exact this
end Dim
theorem D4_fair : D4.Fair := ⟨fun _ _ _ => rfl, fun _ _ _ => rfl, fun _ _ _ => rfl, fun _ _ _ _ => rfl⟩
theorem D6_fair : D6.Fair := ⟨fun _ _ _ => rfl, fun _ _ _ => rfl, fun _ _ _ => rfl, fun _ _ _ _ => rfl⟩
def Ap2 (s t : R2) : Prop := s.b ≤ t.a ∨ t.b ≤ s.a
def Ap4 (s t : R4) : Prop := s.c ≤ t.a ∨ t.c ≤ s.a ∨ s.d ≤ t.b ∨ t.d ≤ s.b
def Ap6 (s t : R6) : Prop := s.d ≤ t.a ∨ t.d ≤ s.a ∨ s.e ≤ t.b ∨ t.e ≤ s.b ∨ s.f ≤ t.c ∨ t.f ≤ s.c
theorem spm_apart (l : List R2) : (spmV_0 l).Pairwise Ap2 := by
  unfold spmV_0
  by_cases h : 400 < l.length
  · rw [decide_eq_true h]; exact .nil
  · rw [decide_eq_false h, cond_false]
    cases hv : l.all val2 with
    | false => exact .nil
    | true =>
      rw [cond_true]
      exact (swV_can l hv).1.sep.imp fun {s t} h => .inl (by omega)
theorem rgm_apart (l : List R4) : (rgmV_0 l).Pairwise Ap4 := by
  have key : (D4.out l).Pairwise Ap4 := (Dim.out_apart D4_fair Ap2 (fun a b => decide_eq_true_iff) l fun x => spm_apart _).imp fun {s t} h => by
    rcases h with h | h | h | h
    · exact .inl h
    · exact .inr (.inl h)
    · exact .inr (.inr (.inl h))
    · exact .inr (.inr (.inr h))
  unfold rgmV_0
  by_cases h : 400 < l.length
  · rw [decide_eq_true h]; exact .nil
  · rw [decide_eq_false h, cond_false]
    cases l.all val4 with
    | false => exact .nil
    | true =>
      rw [cond_true]
      cases decide (((D4.out l).length : Int) > 400) with
      | true => exact .nil
      | false => exact key
theorem sck_spec {l : List R6} (h : sckV_0 l = 0) : l.length ≤ 400 ∧ (∀ r ∈ l, val6 r = true) ∧ l = D6.out l ∧ l.Pairwise Ap6 := by
  unfold sckV_0 at h
  by_cases h1 : 400 < l.length
  · rw [decide_eq_true h1] at h; cases h
  · rw [decide_eq_false h1, cond_false] at h
    cases hv : l.all val6 with
    | false => rw [hv] at h; cases h
    | true =>
      rw [hv, cond_true] at h
      cases ho : okF l ((D6.cuts l).length - 1) 0 with
      | false => rw [ho] at h; cases h
      | true =>
        rw [ho, cond_true] at h
        cases h2 : decide (((D6.out l).length : Int) > 400) with
        | true => rw [h2] at h; cases h
        | false =>
          rw [h2, cond_false] at h
          cases h3 : same6V (D6.out l) l with
          | false => rw [h3] at h; cases h
          | true =>
            have e : D6.out l = l := of_decide_eq_true h3
            refine ⟨by omega, fun r hr => List.all_eq_true.1 hv r hr, e.symm, ?_⟩
            have := (Dim.out_apart D6_fair Ap4 (fun a b => decide_eq_true_iff) l fun x => rgm_apart _).imp (S := Ap6) fun {s t} h => by
              rcases h with h | h | h | h | h | h
              · exact .inr (.inr (.inr (.inr (.inl h))))
              · exact .inr (.inr (.inr (.inr (.inr h))))
              · exact .inl h
              · exact .inr (.inl h)
              · exact .inr (.inr (.inl h))
              · exact .inr (.inr (.inr (.inl h)))
            rwa [e] at this
theorem val6_spec {r : R6} (h : val6 r = true) : r.a < r.d ∧ r.b < r.e ∧ r.c < r.f ∧ -1000000 ≤ r.a ∧ -1000000 ≤ r.b ∧ -1000000 ≤ r.c ∧ r.d ≤ 1000000 ∧ r.e ≤ 1000000 ∧ r.f ≤ 1000000 := by
  rw [val_eq] at h
  simp only [valR, Bool.and_eq_true, decide_eq_true_eq] at h
  omega
end Go.Am
end
section
namespace Go.Am
open Go.Proofs Go.Sort Go.Shelf Go.RowKit Go.Lib
set_option maxRecDepth 100000
set_option maxHeartbeats 4000000
set_option linter.unusedVariables false
set_option linter.unusedSimpArgs false
def ind (a b t : Int) : Int := if a ≤ t ∧ t < b then 1 else 0
def ptsN (lo : Int) (n : Nat) : List Int := (List.range n).map fun (k : Nat) => lo + (k : Int)
theorem ind_sum (a b lo : Int) : ∀ n : Nat, sm (ptsN lo n) (ind a b) = ovl a b lo (lo + n)
  | 0 => by show (0 : Int) = _; unfold ovl; omega
  | n + 1 => by
    unfold ptsN
    rw [List.range_succ, List.map_append, sm_append]
    have := ind_sum a b lo n
    unfold ptsN at this
    rw [this, List.map_cons, List.map_nil, sm_cons, sm_nil]
    unfold ind ovl
    split <;> omega
theorem ind_mul (a b c d t : Int) : ind a b t * ind c d t = ind (max a c) (min b d) t := by
  unfold ind
  by_cases h1 : a ≤ t ∧ t < b
  · by_cases h2 : c ≤ t ∧ t < d
    · rw [if_pos h1, if_pos h2, if_pos (by omega)]; rfl
    · rw [if_pos h1, if_neg h2, if_neg (by omega)]; rfl
  · rw [if_neg h1, Int.zero_mul, if_neg (by omega)]
theorem ind_nonneg (a b t : Int) : 0 ≤ ind a b t := by unfold ind; split <;> omega
def Pts (p : List Int) : Prop := (∀ a b, -1000005 ≤ a ∧ b ≤ 1000005 → sm p (ind a b) = max 0 (b - a)) ∧ p.length = 2000010
theorem pts_ex : ∃ p, Pts p := by
  refine ⟨ptsN (-1000005) 2000010, fun a b h => ?_, by simp only [ptsN, List.length_map, List.length_range]⟩
  rw [ind_sum]
  show ovl a b (-1000005) (-1000005 + 2000010) = _
  unfold ovl; omega
def S3 (p : List Int) (f : Int → Int → Int → Int) : Int := sm p fun x => sm p fun y => sm p fun z => f x y z
theorem S3_sm {p : List Int} {α : Type} (l : List α) (f : α → Int → Int → Int → Int) : S3 p (fun x y z => sm l fun a => f a x y z) = sm l fun a => S3 p (f a) := by
  unfold S3
  rw [sm_swap l p]
  refine sm_congr fun x _ => ?_
  rw [sm_swap l p]
  exact sm_congr fun y _ => sm_swap _ _ _
theorem S3_mono {p : List Int} {f g : Int → Int → Int → Int} (h : ∀ x y z, f x y z ≤ g x y z) : S3 p f ≤ S3 p g :=
  sm_mono fun x _ => sm_mono fun y _ => sm_mono fun z _ => h x y z
theorem S3_mul {p : List Int} (f g h : Int → Int) : S3 p (fun x y z => f x * g y * h z) = sm p f * sm p g * sm p h := by
  unfold S3
  simp only [sm_mul', Int.mul_assoc]
  rw [← sm_mul]
  refine sm_congr fun x _ => ?_
  rw [← sm_mul]
theorem S3_one {p : List Int} (hp : Pts p) : S3 p (fun _ _ _ => 1) ≤ 8000120000600001000 := by
  have h : sm p (fun _ => 1) ≤ (p.length : Int) * 1 := sm_le fun _ _ => Int.le_refl _
  have hl := hp.2
  have h0 : 0 ≤ sm p (fun _ => 1) := sm_nonneg fun _ _ => by omega
  have e : S3 p (fun _ _ _ => 1) = sm p (fun _ => 1) * sm p (fun _ => 1) * sm p (fun _ => 1) := S3_mul (fun _ => 1) (fun _ => 1) (fun _ => 1)
  rw [e]
  have h1 : sm p (fun _ => 1) ≤ 2000010 := by omega
  have h2 := Int.mul_le_mul (Int.mul_le_mul h1 h1 h0 (by omega)) h1 h0 (by omega)
  have h3 : (2000010 : Int) * 2000010 * 2000010 = 8000120000600001000 := by decide
  rw [h3] at h2
  exact h2
def inR (r : R6) (x y z : Int) : Int := ind r.a r.d x * ind r.b r.e y * ind r.c r.f z
theorem inR_nonneg (r : R6) (x y z : Int) : 0 ≤ inR r x y z := Int.mul_nonneg (Int.mul_nonneg (ind_nonneg ..) (ind_nonneg ..)) (ind_nonneg ..)
theorem inR_eq (r : R6) (x y z : Int) : inR r x y z = if (r.a ≤ x ∧ x < r.d) ∧ (r.b ≤ y ∧ y < r.e) ∧ (r.c ≤ z ∧ z < r.f) then 1 else 0 := by
  unfold inR ind
  by_cases h1 : r.a ≤ x ∧ x < r.d <;> by_cases h2 : r.b ≤ y ∧ y < r.e <;> by_cases h3 : r.c ≤ z ∧ z < r.f <;> simp [h1, h2, h3]
def nearB (r : R6) : Prop := -1000002 ≤ r.a ∧ r.d ≤ 1000002 ∧ -1000002 ≤ r.b ∧ r.e ≤ 1000002 ∧ -1000002 ≤ r.c ∧ r.f ≤ 1000002
theorem ov_S3 {p : List Int} (hp : Pts p) (r s : R6) (hr : nearB r) : S3 p (fun x y z => inR r x y z * inR s x y z) = ov r s := by
  obtain ⟨h1, h2, h3, h4, h5, h6⟩ := hr
  have e : (fun x y z => inR r x y z * inR s x y z) = fun x y z => ind (max r.a s.a) (min r.d s.d) x * ind (max r.b s.b) (min r.e s.e) y * ind (max r.c s.c) (min r.f s.f) z := by
    funext x y z
    rw [← ind_mul, ← ind_mul, ← ind_mul]
    unfold inR
    simp only [Int.mul_comm, Int.mul_left_comm, Int.mul_assoc]
  rw [e, S3_mul, hp.1 _ _ (by omega), hp.1 _ _ (by omega), hp.1 _ _ (by omega)]
  rfl
def cnt (X : List R6) (x y z : Int) : Int := sm X fun r => inR r x y z
theorem cnt_nonneg (X : List R6) (x y z : Int) : 0 ≤ cnt X x y z := sm_nonneg fun r _ => inR_nonneg r x y z
theorem cnt_le : ∀ (X : List R6), X.Pairwise Ap6 → ∀ x y z, cnt X x y z ≤ 1
  | [], _, x, y, z => by show (0 : Int) ≤ 1; omega
  | r :: X, h, x, y, z => by
    obtain ⟨h1, h2⟩ := List.pairwise_cons.1 h
    have ih := cnt_le X h2 x y z
    have e : cnt (r :: X) x y z = inR r x y z + cnt X x y z := sm_cons _ _ _
    rw [e, inR_eq]
    split
    · rename_i hp
      have : cnt X x y z = 0 := by
        have : cnt X x y z = sm X fun _ => 0 := sm_congr fun s hs => by
          rw [inR_eq]
          refine if_neg fun hq => ?_
          have := h1 s hs
          unfold Ap6 at this
          omega
        rw [this, sm_zero]
      omega
    · omega
theorem S2_S3 {p : List Int} (hp : Pts p) (X Y : List R6) (hX : ∀ r ∈ X, nearB r) : S2 X Y = S3 p fun x y z => cnt X x y z * cnt Y x y z := by
  have e : (fun x y z => cnt X x y z * cnt Y x y z) = fun x y z => sm X fun r => sm Y fun s => inR r x y z * inR s x y z := by
    funext x y z
    unfold cnt
    rw [← sm_mul]
    exact sm_congr fun r _ => (sm_mul' _ _ _).symm
  rw [e, S3_sm]
  unfold S2
  refine sm_congr fun r hr => ?_
  rw [S3_sm]
  exact sm_congr fun s _ => (ov_S3 hp r s (hX r hr)).symm
theorem S2_nonneg (X Y : List R6) : 0 ≤ S2 X Y := sm_nonneg fun r _ => sm_nonneg fun s _ => ov_nonneg r s
theorem S2_le (X Y : List R6) (hX : ∀ r ∈ X, nearB r) (pX : X.Pairwise Ap6) (pY : Y.Pairwise Ap6) : S2 X Y ≤ 8000120000600001000 := by
  obtain ⟨p, hp⟩ := pts_ex
  rw [S2_S3 hp X Y hX]
  refine Int.le_trans (S3_mono (g := fun _ _ _ => 1) fun x y z => ?_) (S3_one hp)
  have h1 := cnt_le X pX x y z
  have h2 := cnt_le Y pY x y z
  have := Int.mul_le_mul h1 h2 (cnt_nonneg Y x y z) (by omega)
  simpa using this
theorem near_val {r : R6} (h : val6 r = true) : nearB r := by
  have := val6_spec h
  unfold nearB; omega
theorem okB_val {r : R6} (h : val6 r = true) : okB r = true := by
  have := val6_spec h
  exact decide_eq_true (by omega)
theorem vol_com {X Y : List R6} (hX : sckV_0 X = 0) (hY : sckV_0 Y = 0) : volV (comV X Y) = S2 X Y := by
  obtain ⟨_, v1, _, p1⟩ := sck_spec hX
  obtain ⟨_, v2, _, p2⟩ := sck_spec hY
  have h1 := S2_nonneg X Y
  have h2 := S2_le X Y (fun r hr => near_val (v1 r hr)) p1 p2
  exact volV_eq (com_bx X Y) (by omega)
theorem ovl_le (a b c d : Int) (h : -1000000 ≤ c ∧ d ≤ 1000000) : ovl a b c d ≤ 2000000 := by unfold ovl; omega
theorem ov_mul {p q r : Int} (hp : 0 ≤ p ∧ p ≤ 1) (hq : 0 ≤ q ∧ q ≤ 2000000) (hr : 0 ≤ r ∧ r ≤ 2000000) : p * q * r ≤ 4000000000000 := by
  have h1 := Int.mul_le_mul hp.2 hq.2 hq.1 (by omega)
  have h2 := Int.mul_le_mul h1 hr.2 hr.1 (by omega)
  omega
theorem zero3 {p q r : Int} (h : p * q * r = 0) : p = 0 ∨ q = 0 ∨ r = 0 := by
  rcases Int.mul_eq_zero.1 h with h | h
  · rcases Int.mul_eq_zero.1 h with h | h
    · exact .inl h
    · exact .inr (.inl h)
  · exact .inr (.inr h)
theorem ov_nx_le (d : Int) (hd : 0 ≤ d ∧ d ≤ 5) {r s : R6} (hs : val6 s = true) (h : ov r s = 0) : ov (nx d r) s ≤ 4000000000000 := by
  have hv := val6_spec hs
  have c : d = 0 ∨ d = 1 ∨ d = 2 ∨ d = 3 ∨ d = 4 ∨ d = 5 := by omega
  have st : ∀ (t a b c d : Int), (t = 1 ∨ t = -1) → ovl a b c d = 0 → ovl (a + t) (b + t) c d ≤ 1 := fun t a b c d ht h => by unfold ovl at *; omega
  have la := ovl_le r.a r.d s.a s.d (by omega)
  have lb := ovl_le r.b r.e s.b s.e (by omega)
  have lc := ovl_le r.c r.f s.c s.f (by omega)
  have na := ovl_nonneg r.a r.d s.a s.d
  have nb := ovl_nonneg r.b r.e s.b s.e
  have nc := ovl_nonneg r.c r.f s.c s.f
  have X : ∀ t, (t = 1 ∨ t = -1) → ovl (r.a + t) (r.d + t) s.a s.d * ovl r.b r.e s.b s.e * ovl r.c r.f s.c s.f ≤ 4000000000000 := fun t ht => by
    rcases zero3 h with h | h | h
    · exact ov_mul ⟨ovl_nonneg .., st t _ _ _ _ ht h⟩ ⟨nb, lb⟩ ⟨nc, lc⟩
    · rw [h, Int.mul_zero, Int.zero_mul]; omega
    · rw [h, Int.mul_zero]; omega
  have Y : ∀ t, (t = 1 ∨ t = -1) → ovl r.a r.d s.a s.d * ovl (r.b + t) (r.e + t) s.b s.e * ovl r.c r.f s.c s.f ≤ 4000000000000 := fun t ht => by
    rcases zero3 h with h | h | h
    · rw [h, Int.zero_mul, Int.zero_mul]; omega
    · rw [Int.mul_comm (ovl r.a r.d s.a s.d)]
      exact ov_mul ⟨ovl_nonneg .., st t _ _ _ _ ht h⟩ ⟨na, la⟩ ⟨nc, lc⟩
    · rw [h, Int.mul_zero]; omega
  have Z : ∀ t, (t = 1 ∨ t = -1) → ovl r.a r.d s.a s.d * ovl r.b r.e s.b s.e * ovl (r.c + t) (r.f + t) s.c s.f ≤ 4000000000000 := fun t ht => by
    rcases zero3 h with h | h | h
    · rw [h, Int.zero_mul, Int.zero_mul]; omega
    · rw [h, Int.mul_zero, Int.zero_mul]; omega
    · rw [Int.mul_comm, ← Int.mul_assoc]
      exact ov_mul ⟨ovl_nonneg .., st t _ _ _ _ ht h⟩ ⟨na, la⟩ ⟨nb, lb⟩
  rcases c with rfl | rfl | rfl | rfl | rfl | rfl
  · rw [show ov (nx 0 r) s = ovl (r.a + 1) (r.d + 1) s.a s.d * ovl r.b r.e s.b s.e * ovl r.c r.f s.c s.f from rfl]
    exact X 1 (.inl rfl)
  · rw [show ov (nx 1 r) s = ovl (r.a + -1) (r.d + -1) s.a s.d * ovl r.b r.e s.b s.e * ovl r.c r.f s.c s.f from rfl]
    exact X (-1) (.inr rfl)
  · rw [show ov (nx 2 r) s = ovl r.a r.d s.a s.d * ovl (r.b + 1) (r.e + 1) s.b s.e * ovl r.c r.f s.c s.f from rfl]
    exact Y 1 (.inl rfl)
  · rw [show ov (nx 3 r) s = ovl r.a r.d s.a s.d * ovl (r.b + -1) (r.e + -1) s.b s.e * ovl r.c r.f s.c s.f from rfl]
    exact Y (-1) (.inr rfl)
  · rw [show ov (nx 4 r) s = ovl r.a r.d s.a s.d * ovl r.b r.e s.b s.e * ovl (r.c + 1) (r.f + 1) s.c s.f from rfl]
    exact Z 1 (.inl rfl)
  · rw [show ov (nx 5 r) s = ovl r.a r.d s.a s.d * ovl r.b r.e s.b s.e * ovl (r.c + -1) (r.f + -1) s.c s.f from rfl]
    exact Z (-1) (.inr rfl)
theorem E2_nonneg (d : Int) (X Y : List R6) : 0 ≤ E2 d X Y := sm_nonneg fun r _ => sm_nonneg fun s _ => ov_nonneg _ _
theorem E2_le (d : Int) (hd : 0 ≤ d ∧ d ≤ 5) {X Y : List R6} (lX : X.length ≤ 100) (lY : Y.length ≤ 100) (vY : ∀ s ∈ Y, val6 s = true) (h : ∀ r ∈ X, ∀ s ∈ Y, ov r s = 0) : E2 d X Y ≤ 40000000000000000 := by
  have h1 : ∀ r ∈ X, sm Y (fun s => ov (nx d r) s) ≤ 400000000000000 := fun r hr => by
    have := sm_le (l := Y) (f := fun s => ov (nx d r) s) (c := 4000000000000) fun s hs => ov_nx_le d hd (vY s hs) (h r hr s hs)
    have h2 : (Y.length : Int) * 4000000000000 ≤ 100 * 4000000000000 := by omega
    omega
  have := sm_le (l := X) (f := fun r => sm Y fun s => ov (nx d r) s) h1
  show sm X _ ≤ _
  omega
theorem meet_none {r s : R6} (h : ov r s = 0) : meetV r s = none := by
  unfold meetV
  cases hc : (decide (max r.a s.a < min r.d s.d) && (decide (max r.b s.b < min r.e s.e) && decide (max r.c s.c < min r.f s.f))) with
  | false => rfl
  | true =>
    simp only [Bool.and_eq_true, decide_eq_true_eq] at hc
    have := zero3 h
    unfold ovl at this
    omega
theorem com_nil {X Y : List R6} (h : ∀ r ∈ X, ∀ s ∈ Y, ov r s = 0) : comV X Y = [] := by
  unfold comV
  refine List.flatMap_eq_nil_iff.2 fun r hr => ?_
  rw [List.filterMap_eq_nil_iff]
  exact fun s hs => meet_none (h r hr s hs)
theorem con_zero {X Y : List R6} (hX : sckV_0 X = 0) (hY : sckV_0 Y = 0) (lX : X.length ≤ 100) (lY : Y.length ≤ 100) (hn : ¬ volV (comV X Y) > 0) : 0 ≤ conV X Y := by
  obtain ⟨_, v1, _, p1⟩ := sck_spec hX
  obtain ⟨_, v2, _, p2⟩ := sck_spec hY
  rw [vol_com hX hY] at hn
  have h0 : S2 X Y = 0 := by have := S2_nonneg X Y; omega
  have h1 : ∀ r ∈ X, ∀ s ∈ Y, ov r s = 0 := fun r hr s hs =>
    sm_eq_zero (fun s _ => ov_nonneg r s) (sm_eq_zero (fun r _ => sm_nonneg fun s _ => ov_nonneg r s) h0 r hr) s hs
  have hc := conV_cg X Y (fun r hr => okB_val (v1 r hr)) (fun r hr => okB_val (v2 r hr))
  rw [com_nil h1] at hc
  have e : ∀ d, c1 d X Y [] = E2 d X Y := fun d => by
    unfold c1
    have a1 : E2 d [] Y = 0 := rfl
    have a2 : E2 d X [] = 0 := by show sm X (fun _ => 0) = 0; exact sm_zero _
    have a3 : E2 d [] [] = 0 := rfl
    omega
  unfold con6 at hc
  rw [e, e, e, e, e, e] at hc
  have n0 := E2_nonneg 0 X Y; have n1 := E2_nonneg 1 X Y; have n2 := E2_nonneg 2 X Y; have n3 := E2_nonneg 3 X Y; have n4 := E2_nonneg 4 X Y; have n5 := E2_nonneg 5 X Y
  have m0 := E2_le 0 (by omega) lX lY v2 h1; have m1 := E2_le 1 (by omega) lX lY v2 h1; have m2 := E2_le 2 (by omega) lX lY v2 h1; have m3 := E2_le 3 (by omega) lX lY v2 h1; have m4 := E2_le 4 (by omega) lX lY v2 h1; have m5 := E2_le 5 (by omega) lX lY v2 h1
  have := hc.is (conV_in X Y) (by omega)
  omega
end Go.Am
end
section
namespace Go.Am
open Go.Proofs Go.Sort Go.Shelf Go.RowKit Go.Lib
set_option maxRecDepth 100000
set_option maxHeartbeats 4000000
set_option linter.unusedVariables false
set_option linter.unusedSimpArgs false
theorem grt_small {X : List R6} (h : grtV X = false) : decide (X.length ≤ 100 ∨ 400 < X.length) = true := by
  have := of_decide_eq_false h
  exact decide_eq_true (by omega)
theorem volcom_comm {X Y : List R6} (hX : sckV_0 X = 0) (hY : sckV_0 Y = 0) : volV (comV X Y) = volV (comV Y X) := by
  rw [vol_com hX hY, vol_com hY hX, S2_comm]
theorem val_all {X : List R6} (h : sckV_0 X = 0) : ∀ r ∈ X, okB r = true := fun r hr => okB_val ((sck_spec h).2.1 r hr)
end Go.Am
end
section
namespace Go.Am
open Go.Proofs Go.Sort Go.Shelf Go.RowKit Go.Lib
set_option maxRecDepth 100000
set_option maxHeartbeats 4000000
set_option linter.unusedVariables false
set_option linter.unusedSimpArgs false
theorem tur_run (X Y : List R6) : ∃ N, goOn (turstep X Y) N (turstart X Y) = .ret [.bool true] := by
  refine ⟨0, ?_⟩
  unfold turstart
  simp only [cvT_eq, show ∀ l, grtV_owed l = true from fun _ => rfl, show ∀ l, rckV_0_owed l = true from fun _ => rfl, cond_true]
  rcases boolc (grtV X) with g1 | g1
  · simp only [g1, cond_true]; rfl
  rcases boolc (rckV_0 X != 0) with g2 | g2
  · simp only [g1, g2, cond_true, cond_false]; rfl
  rcases boolc (grtV Y) with g3 | g3
  · simp only [g1, g2, g3, cond_true, cond_false]; rfl
  rcases boolc (rckV_0 Y != 0) with g4 | g4
  · simp only [g1, g2, g3, g4, cond_true, cond_false]; rfl
  have hX : sckV_0 X = 0 := by rw [check_eq]; simpa using g2
  have hY : sckV_0 Y = 0 := by rw [check_eq]; simpa using g4
  have b1 : (sckV_0 X != 0) = false := by rw [hX]; rfl
  have b2 : (sckV_0 Y != 0) = false := by rw [hY]; rfl
  have s1 := sck_small (grt_small g1) b1
  have s2 := sck_small (grt_small g3) b2
  have o1 : ocoV_owed X Y = true := by unfold ocoV_owed; rw [grt_small g1, grt_small g3]; rfl
  have o2 : ocoV_owed Y X = true := by unfold ocoV_owed; rw [grt_small g1, grt_small g3]; rfl
  have o3 : oreV_owed X Y = true := o1
  have o4 : oreV_owed Y X = true := o2
  have f1 : ocoV_1 X Y = 0 := by unfold ocoV_1; rw [b1, b2]; rfl
  have f2 : ocoV_1 Y X = 0 := by unfold ocoV_1; rw [b1, b2]; rfl
  have f3 : oreV_1 X Y = 0 := f1
  have f4 : oreV_1 Y X = 0 := f2
  have f5 : ocoV_0 X Y = conV X Y := by unfold ocoV_0; rw [b1, b2]; rfl
  have f6 : ocoV_0 Y X = conV X Y := by unfold ocoV_0; rw [b1, b2]; exact conV_comm Y X (val_all hY) (val_all hX)
  have f7 : oreV_0 X Y = relN (volV (comV X Y)) (volV X) (volV Y) (conV X Y) := by unfold oreV_0; rw [b1, b2]; rfl
  have f8 : oreV_0 Y X = relN (volV (comV X Y)) (volV Y) (volV X) (conV X Y) := by
    unfold oreV_0; rw [b1, b2, volcom_comm hX hY, conV_comm X Y (val_all hX) (val_all hY)]; rfl
  have hz := con_zero hX hY s1 s2
  simp only [g1, g2, g3, g4, o1, o2, o3, o4, f1, f2, f3, f4, f5, f6, ne_self', show ((0 : Int) != 0) = false from rfl, cond_true, cond_false]
  generalize volV (comV X Y) = n at *
  generalize volV X = v at *
  generalize volV Y = u at *
  generalize conV X Y = c at *
  rcases boolc (decide (n > 0)) with q1 | q1
  · rcases boolc (n == v) with q2 | q2 <;> rcases boolc (n == u) with q3 | q3 <;>
    (unfold relN at f7 f8
     simp only [q1, q2, q3, cond_true, cond_false] at f7 f8
     simp only [f7, f8]
     rfl)
  · have hc := hz (of_decide_eq_false q1)
    rcases boolc (decide (c > 0)) with q2 | q2
    · unfold relN at f7 f8
      simp only [q1, q2, cond_true, cond_false] at f7 f8
      simp only [f7, f8, q2]
      rfl
    · unfold relN at f7 f8
      simp only [q1, q2, cond_true, cond_false] at f7 f8
      have := of_decide_eq_false q2
      have e : c = 0 := by omega
      subst e
      simp only [f7, f8, q2]
      rfl
end Go.Am
end
