/- A part of a proof: several texts in one. -/
import Derived.Test.YtmanggcjimaehaaGreatKv3
section
set_option linter.unusedVariables false
set_option linter.unusedSimpArgs false
namespace Go.Am
open Go.Proofs Go.Sort Go.Shelf Go.RowKit Go.Lib
set_option maxRecDepth 100000
set_option maxHeartbeats 4000000
set_option linter.unusedVariables false
set_option linter.unusedSimpArgs false
def tri : Nat → Nat
 | 0 => 0
 | k + 1 => tri k + k
theorem x8j : ∀ n, tri (n + 1) + tri n = n * n
 | 0 => rfl
 | n + 1 => by
  have := x8j n
  show tri (n + 1) + (n + 1) + (tri n + n) = (n + 1) * (n + 1)
  rw [Nat.add_mul, Nat.mul_add]; omega
def hat (n : Nat) : Nat → Nat
 | 0 => 0
 | v + 1 => hat n v + min v (2 * n - v)
theorem w1n (n : Nat) : ∀ v, v ≤ n + 1 → hat n v = tri v
 | 0, _ => rfl
 | v + 1, h => by
  show hat n v + min v (2 * n - v) = tri v + v
  rw [w1n n v (by omega)]; omega
theorem z8r (n : Nat) : ∀ j, j ≤ n → hat n (n + 1 + j) + tri (n - j) = n * n
 | 0, _ => by rw [Nat.add_zero, w1n n _ (Nat.le_refl _)]; exact x8j n
 | j + 1, h => by
  have := z8r n j (by omega)
  show hat n (n + 1 + j) + min (n + 1 + j) (2 * n - (n + 1 + j)) + tri (n - (j + 1)) = _
  have e : tri (n - j) = tri (n - (j + 1)) + (n - (j + 1)) := by
   rw [show n - j = (n - (j + 1)) + 1 by omega]; rfl
  omega
theorem hat_le (n v : Nat) : hat n v ≤ n * n := by
 by_cases h1 : v ≤ 2 * n + 1
 ·by_cases h2 : v ≤ n + 1
  ·have h3 := z8r n 0 (Nat.zero_le _)
   have mono : ∀ k v, hat n v ≤ hat n (v + k) := fun k v => by
    induction k with
    | zero => exact Nat.le_refl _
    | succ k ih => exact Nat.le_trans ih (Nat.le_add_right _ _)
   have := mono (n + 1 - v) v
   rw [show v + (n + 1 - v) = n + 1 + 0 by omega] at this
   omega
  ·have := z8r n (v - (n + 1)) (by omega)
   rw [show n + 1 + (v - (n + 1)) = v by omega] at this
   omega
 ·have h3 : hat n (2 * n + 1) ≤ n * n := by
   have := z8r n n (Nat.le_refl _)
   rw [show n + 1 + n = 2 * n + 1 by omega] at this
   omega
  have : ∀ k, hat n (2 * n + 1 + k) = hat n (2 * n + 1) := fun k => by
   induction k with
   | zero => rfl
   | succ k ih =>
    show hat n (2 * n + 1 + k) + min (2 * n + 1 + k) (2 * n - (2 * n + 1 + k)) = _
    rw [ih]; omega
  have h4 := this (v - (2 * n + 1))
  rw [show 2 * n + 1 + (v - (2 * n + 1)) = v by omega] at h4
  omega
theorem x4c (n : Nat) (E : Nat → Nat) : ∀ k, (∀ i, i + 1 < k → E i < E (i + 1)) → ((List.range k).map fun i => min (E i) (2 * n - E i)).sum ≤ (match k with | 0 => 0 | k + 1 => hat n (E k + 1))
 | 0, _ => Nat.le_refl _
 | k + 1, h => by
  rw [List.range_succ, List.map_append, List.sum_append]
  have ih := x4c n E k fun i hi => h i (by omega)
  have mono : ∀ k v, hat n v ≤ hat n (v + k) := fun k v => by
   induction k with
   | zero => exact Nat.le_refl _
   | succ k ih => exact Nat.le_trans ih (Nat.le_add_right _ _)
  simp only [List.map_cons, List.map_nil, List.sum_cons, List.sum_nil, Nat.add_zero]
  show _ ≤ hat n (E k) + min (E k) (2 * n - E k)
  cases k with
  | zero =>
   simp only [List.range_zero, List.map_nil, List.sum_nil]
   omega
  | succ k =>
   have h1 := h k (by omega)
   have h2 := mono (E (k + 1) - (E k + 1)) (E k + 1)
   rw [show E k + 1 + (E (k + 1) - (E k + 1)) = E (k + 1) by omega] at h2
   simp only at ih
   omega
def y8h (p : Int → Bool) (l : List Int) : Nat := (l.filter p).length
theorem z0a (p : Int → Bool) (x : Int) (l : List Int) : y8h p (x :: l) = (if p x = true then 1 else 0) + y8h p l := by
 unfold y8h
 rw [List.filter_cons]
 split
 ·simp; omega
 ·simp
theorem v6e (p : Int → Bool) (l : List Int) : y8h p l ≤ l.length := List.length_filter_le _ _
theorem w2r {p q : Int → Bool} (h : ∀ x, p x = true → q x = true) (l : List Int) : y8h p l ≤ y8h q l := by
 induction l with
 | nil => exact Nat.le_refl _
 | cons x l ih =>
  rw [z0a, z0a]
  by_cases h1 : p x = true
  ·rw [if_pos h1, if_pos (h x h1)]; omega
  ·rw [if_neg h1]; omega
theorem v6d {p q : Int → Bool} (h : ∀ x, p x = true → q x = true) {l : List Int} {y : Int} (hy : y ∈ l) (hq : q y = true) (hp : p y = false) : y8h p l < y8h q l := by
 induction l with
 | nil => cases hy
 | cons x l ih =>
  rw [z0a, z0a]
  rcases List.mem_cons.1 hy with rfl | hy
  ·have := w2r h l
   rw [hp, hq]; simp; omega
  ·have := ih hy
   by_cases h1 : p x = true
   ·rw [if_pos h1, if_pos (h x h1)]; omega
   ·rw [if_neg h1]; omega
namespace Dim
variable {α β : Type} {D : Dim α β}
theorem inn_min (l : List α) (x : Int) (hv : ∀ r ∈ l, D.lo r < D.hi r) : (D.inn l x).length ≤ min (y8h (fun y => decide (y ≤ x)) (D.ends l)) (2 * l.length - y8h (fun y => decide (y ≤ x)) (D.ends l)) := by
 induction l with
 | nil => exact Nat.zero_le _
 | cons r l ih =>
  have ih := ih fun s hs => hv s (by simp [hs])
  have hr := hv r (by simp)
  have hc := v6e (fun y => decide (y ≤ x)) (D.ends l)
  rw [D.ends_length] at hc
  have e : y8h (fun y => decide (y ≤ x)) (D.ends (r :: l)) = (if D.lo r ≤ x then 1 else 0) + ((if D.hi r ≤ x then 1 else 0) + y8h (fun y => decide (y ≤ x)) (D.ends l)) := by
   show y8h _ (D.lo r :: D.hi r :: D.ends l) = _
   rw [z0a, z0a]; simp only [decide_eq_true_eq]
  have e2 : (D.inn (r :: l) x).length = (if D.lo r ≤ x ∧ x < D.hi r then 1 else 0) + (D.inn l x).length := by
   unfold inn
   rw [List.filter_cons]
   by_cases h : D.lo r ≤ x ∧ x < D.hi r
   ·rw [if_pos (by simp [h.1, h.2]), if_pos h]; simp; omega
   ·rw [if_neg (by simp; intro h1; exact Int.not_lt.1 fun h2 => h ⟨h1, h2⟩), if_neg h, Nat.zero_add]
  rw [e, e2, List.length_cons]
  by_cases h1 : D.lo r ≤ x <;> by_cases h2 : D.hi r ≤ x
  ·rw [if_pos h1, if_pos h2, if_neg (by omega)]; omega
  ·rw [if_pos h1, if_neg h2, if_pos (by omega)]; omega
  ·omega
  ·rw [if_neg h1, if_neg h2, if_neg (by omega)]; omega
theorem open_sum (l : List α) (hv : ∀ r ∈ l, D.lo r < D.hi r) : ∀ k, k ≤ (D.cuts l).length → ((List.range k).map fun i => (D.inn l (rd (D.cuts l) i)).length).sum ≤ l.length * l.length := fun k hk => by
 have hc : (D.cuts l).Pairwise (· < ·) := by
  show (Ur (D.ends l)).Pairwise (· < ·)
  rw [Kc]; exact (Wo _).1
 have hm : ∀ i, i < (D.cuts l).length → rd (D.cuts l) i ∈ D.ends l := fun i hi => by
  have : rd (D.cuts l) i ∈ Ur (D.ends l) := by rw [Xk hi]; exact List.getElem_mem hi
  rw [Kc, (Wo _).2] at this
  exact this
 have h1 : ((List.range k).map fun i => (D.inn l (rd (D.cuts l) i)).length).sum ≤ ((List.range k).map fun i => min (y8h (fun y => decide (y ≤ rd (D.cuts l) i)) (D.ends l)) (2 * l.length - y8h (fun y => decide (y ≤ rd (D.cuts l) i)) (D.ends l))).sum := by
  induction k with
  | zero => exact Nat.le_refl _
  | succ k ih =>
   rw [List.range_succ, List.map_append, List.map_append, List.sum_append, List.sum_append]
   have := ih (by omega)
   have h2 := D.inn_min l (rd (D.cuts l) k) hv
   simp only [List.map_cons, List.map_nil, List.sum_cons, List.sum_nil]
   omega
 refine Nat.le_trans h1 ?_
 have h2 := x4c l.length (fun i => y8h (fun y => decide (y ≤ rd (D.cuts l) i)) (D.ends l)) k fun i hi => by
  have hlt := y1v hc (show i < i + 1 by omega) (show i + 1 < _ by omega)
  refine v6d (fun x hx => ?_) (hm (i + 1) (by omega)) (decide_eq_true (Int.le_refl _)) (decide_eq_false (by omega))
  have := of_decide_eq_true hx
  exact decide_eq_true (by omega)
 refine Nat.le_trans h2 ?_
 cases k with
 | zero => exact Nat.zero_le _
 | succ k => exact hat_le _ _
theorem goS_length (sec : Int → List β) (cs : List Int) : ∀ (k i : Nat) (s : Sw α β), (D.goS sec cs k i s).out.length ≤ s.out.length + ((List.range k).map fun j => (sec (rd cs (i + j))).length).sum
 | 0, i, s => Nat.le_refl _
 | k + 1, i, s => by
  have h1 := goS_length sec cs k (i + 1) (D.oneS (sec (rd cs i)) (rd cs i) (rd cs (i + 1)) s)
  have h2 : (D.oneS (sec (rd cs i)) (rd cs i) (rd cs (i + 1)) s).out.length ≤ s.out.length + (sec (rd cs i)).length := by
   unfold oneS
   cases (decide (0 < (sec (rd cs i)).length) && ((s.fin == rd cs i) && D.same s.last (sec (rd cs i)))) with
   | true => rw [cond_true, D.grow_length]; omega
   | false => rw [cond_false]; simp
  rw [List.range_succ_eq_map, List.map_cons, List.map_map, List.sum_cons, show rd cs (i + 0) = rd cs i from rfl]
  have e : ((fun j => (sec (rd cs (i + j))).length) ∘ Nat.succ) = fun j => (sec (rd cs (i + 1 + j))).length := by
   funext j; simp only [Function.comp]; rw [show i + j.succ = i + 1 + j by omega]
  rw [e]
  show (D.goS sec cs k (i + 1) _).out.length ≤ _
  omega
theorem goJ_length (a b : List α) (J : List β → List β → List β) (hJ : ∀ x, (J (D.inn a x) (D.inn b x)).length ≤ (D.inn a x).length + (D.inn b x).length) (hv : ∀ r ∈ a ++ b, D.lo r < D.hi r) :
  (D.goS (fun x => J (D.inn a x) (D.inn b x)) (D.cuts (a ++ b)) ((D.cuts (a ++ b)).length - 1) 0 ⟨[], [], 0, 0⟩).out.length ≤ (a.length + b.length) * (a.length + b.length) := by
 have h1 := D.goS_length (fun x => J (D.inn a x) (D.inn b x)) (D.cuts (a ++ b)) ((D.cuts (a ++ b)).length - 1) 0 ⟨[], [], 0, 0⟩
 have h2 := D.open_sum (a ++ b) hv ((D.cuts (a ++ b)).length - 1) (Nat.sub_le _ _)
 rw [List.length_append] at h2
 refine Nat.le_trans h1 (Nat.le_trans ?_ h2)
 simp only [List.length_nil, Nat.zero_add]
 generalize (D.cuts (a ++ b)).length - 1 = k
 induction k with
 | zero => exact Nat.le_refl _
 | succ k ih =>
  rw [List.range_succ, List.map_append, List.map_append, List.sum_append, List.sum_append]
  have := hJ (rd (D.cuts (a ++ b)) k)
  simp only [List.map_cons, List.map_nil, List.sum_cons, List.sum_nil]
  rw [D.inn_append, List.length_append]
  omega
end Dim
end Go.Am
end
section
set_option linter.unusedVariables false
set_option linter.unusedSimpArgs false
namespace Go.Am
open Go.Proofs Go.Sort Go.Shelf Go.RowKit Go.Lib
set_option maxRecDepth 100000
set_option maxHeartbeats 4000000
set_option linter.unusedVariables false
set_option linter.unusedSimpArgs false
noncomputable def spJ (k : Nat) (a b : List R2) : List R2 := sw2 (opB k) (Qw (Xo 0 a ++ Xo 1 b)) 0 0 0 false []
theorem z5a (i : Int) (l : List R2) (hv : l.all Qd = true) : z7h (Xo i l) = true := List.all_eq_true.2 fun e he => by
 obtain ⟨s, hs, h1⟩ := List.mem_flatMap.1 he
 have hv := List.all_eq_true.1 hv s hs
 simp only [Qd, Bool.and_eq_true, decide_eq_true_eq] at hv
 simp only [List.mem_cons, List.not_mem_nil, or_false] at h1
 rcases h1 with rfl | rfl <;> exact decide_eq_true (by simp only; omega)
theorem x2q {l : List R2} (hv : l.all Qd = true) : ∀ s ∈ l, s.a < s.b := fun s hs => by
 have := List.all_eq_true.1 hv s hs
 simp only [Qd, Bool.and_eq_true, decide_eq_true_eq] at this
 exact this.1
theorem x8r (k : Nat) {a b : List R2} (ha : a.all Qd = true) (hb : b.all Qd = true) : y8x.can (spJ k a b) ∧ ∀ y, ptL y8x.inB (spJ k a b) y ↔ opB k (decide (pt a y)) (decide (pt b y)) = true := by
 have hbnd : z7h (Xo 0 a ++ Xo 1 b) = true := by
  have h1 := z5a 0 a ha
  have h2 := z5a 1 b hb
  unfold z7h at *
  rw [List.all_append, h1, h2]; rfl
 obtain ⟨hp, _⟩ := Jm _ hbnd
 exact v1x (opB k) (v0e k) a b (x2q ha) (x2q hb) _ hp (x2s _ hbnd)
theorem x3j : ∀ (l S : List Int), l.Pairwise (· < ·) → (∀ x ∈ l, x ∈ S) → l.length ≤ S.length
 | [], S, _, _ => Nat.zero_le _
 | x :: l, S, h, hs => by
  obtain ⟨h1, h2⟩ := List.pairwise_cons.1 h
  have hx := hs x (by simp)
  have := x3j l (S.erase x) h2 fun y hy => (List.mem_erase_of_ne (by have := h1 y hy; omega)).2 (hs y (by simp [hy]))
  rw [List.length_erase_of_mem hx] at this
  have := List.length_pos_of_mem hx
  simp only [List.length_cons]; omega
def y7o (L : List R2) : List Int := L.flatMap fun s => [s.a, s.b]
theorem z1x (L : List R2) : (y7o L).length = 2 * L.length := by
 induction L with
 | nil => rfl
 | cons r l ih => show (_ :: _ :: y7o l).length = _; simp only [List.length_cons, ih]; omega
theorem w2y {L : List R2} (h : Can L) : (y7o L).Pairwise (· < ·) := by
 induction L with
 | nil => exact .nil
 | cons s L ih =>
  have hp := h.pos s (by simp)
  have hn : ∀ y ∈ y7o L, s.b < y := fun y hy => by
   obtain ⟨t, ht, h1⟩ := List.mem_flatMap.1 hy
   have := h.head t ht
   have := h.pos t (by simp [ht])
   simp only [List.mem_cons, List.not_mem_nil, or_false] at h1
   omega
  show (s.a :: s.b :: y7o L).Pairwise (· < ·)
  refine List.pairwise_cons.2 ⟨fun y hy => ?_, List.pairwise_cons.2 ⟨hn, ih h.tail⟩⟩
  rcases List.mem_cons.1 hy with rfl | hy
  ·exact hp
  ·have := hn y hy; omega
theorem x7m {L : List R2} (h : Can L) (S : List Int) (hS : ∀ y, y ∉ S → (pt L (y - 1) ↔ pt L y)) : 2 * L.length ≤ S.length := by
 rw [← z1x]
 refine x3j _ S (w2y h) fun y hy => Classical.byContradiction fun hn => ?_
 obtain ⟨s, hs, h1⟩ := List.mem_flatMap.1 hy
 have hp := h.pos s hs
 have sepL : ∀ t ∈ L, t = s ∨ t.b < s.a ∨ s.b < t.a := fun t ht => by
  obtain ⟨i, hi, ei⟩ := List.getElem_of_mem hs
  obtain ⟨j, hj, ej⟩ := List.getElem_of_mem ht
  have pw := List.pairwise_iff_getElem.1 h.sep
  rcases Nat.lt_trichotomy i j with q | q | q
  ·have := pw i j hi hj q
   rw [ei, ej] at this
   exact .inr (.inr this)
  ·subst q; exact .inl (ej.symm.trans ei)
  ·have := pw j i hj hi q
   rw [ei, ej] at this
   exact .inr (.inl this)
 simp only [List.mem_cons, List.not_mem_nil, or_false] at h1
 rcases h1 with rfl | rfl
 ·obtain ⟨t, ht, t1, t2⟩ := (hS _ hn).2 ⟨s, hs, Int.le_refl _, hp⟩
  rcases sepL t ht with rfl | q | q <;> omega
 ·obtain ⟨t, ht, t1, t2⟩ := (hS _ hn).1 ⟨s, hs, by omega, by omega⟩
  rcases sepL t ht with rfl | q | q <;> omega
theorem w0p {l : List R2} {y : Int} (h : y ∉ y7o l) : pt l (y - 1) ↔ pt l y := by
 constructor
 ·rintro ⟨s, hs, h1, h2⟩
  refine ⟨s, hs, by omega, ?_⟩
  have : y ≠ s.b := fun e => h (List.mem_flatMap.2 ⟨s, hs, by simp [e]⟩)
  omega
 ·rintro ⟨s, hs, h1, h2⟩
  refine ⟨s, hs, ?_, by omega⟩
  have : y ≠ s.a := fun e => h (List.mem_flatMap.2 ⟨s, hs, by simp [e]⟩)
  omega
theorem y2g (k : Nat) {a b : List R2} (ha : a.all Qd = true) (hb : b.all Qd = true) : (spJ k a b).length ≤ a.length + b.length := by
 obtain ⟨h1, h2⟩ := x8r k ha hb
 have := x7m h1 (y7o a ++ y7o b) fun y hy => by
  rw [List.mem_append, not_or] at hy
  have e1 : decide (pt a (y - 1)) = decide (pt a y) := decide_eq_decide.2 (w0p hy.1)
  have e2 : decide (pt b (y - 1)) = decide (pt b y) := decide_eq_decide.2 (w0p hy.2)
  have q1 : pt (spJ k a b) (y - 1) ↔ _ := h2 (y - 1)
  have q2 : pt (spJ k a b) y ↔ _ := h2 y
  rw [q1, q2, e1, e2]
 rw [List.length_append, z1x, z1x] at this
 omega
noncomputable def rgJ (k : Nat) (a b : List R4) : List R4 := (D4.goS (fun x => spJ k (D4.inn a x) (D4.inn b x)) (D4.cuts (a ++ b)) ((D4.cuts (a ++ b)).length - 1) 0 ⟨[], [], 0, 0⟩).out
theorem v2c (k : Nat) : spJ k [] [] = [] := by
 have := y2g k (a := []) (b := []) rfl rfl
 exact List.eq_nil_of_length_eq_zero (by simpa using this)
noncomputable instance ptDec4 (l : List R4) (p : Int × Int) : Decidable (ptL z5l.inB l p) := Classical.propDecidable _
theorem w0q (l : List R4) (x y : Int) : pt (D4.inn l x) y ↔ ptL z5l.inB l (x, y) := Dim.pt_inn (D := D4) y8x.inB l x y
theorem v3m (k : Nat) {a b : List R4} (ha : ∀ r ∈ a, Kj r = true) (hb : ∀ r ∈ b, Kj r = true) :
  z5l.can (rgJ k a b) ∧ (∀ p, ptL z5l.inB (rgJ k a b) p ↔ opB k (decide (ptL z5l.inB a p)) (decide (ptL z5l.inB b p)) = true) ∧ (rgJ k a b).length ≤ (a.length + b.length) * (a.length + b.length) := by
 have hs : ∀ x, y8x.can (spJ k (D4.inn a x) (D4.inn b x)) ∧ ∀ y, ptL y8x.inB (spJ k (D4.inn a x) (D4.inn b x)) y ↔ opB k (decide (pt (D4.inn a x) y)) (decide (pt (D4.inn b x) y)) = true := fun x => x8r k (z4s ha x) (z4s hb x)
 obtain ⟨h1, h2⟩ := Dim.goJ_can y5m y5x y8x a b (spJ k) (fun x => (hs x).1) (v2c k)
 refine ⟨h1, fun ⟨x, y⟩ => ?_, ?_⟩
 ·rw [show ptL z5l.inB (rgJ k a b) (x, y) ↔ _ from h2 x y, (hs x).2]
  have e1 : decide (pt (D4.inn a x) y) = decide (ptL z5l.inB a (x, y)) := decide_eq_decide.2 (w0q a x y)
  have e2 : decide (pt (D4.inn b x) y) = decide (ptL z5l.inB b (x, y)) := decide_eq_decide.2 (w0q b x y)
  rw [e1, e2]
 ·refine Dim.goJ_length a b (spJ k) (fun x => y2g k (z4s ha x) (z4s hb x)) fun r hr => ?_
  have hv : Kj r = true := by
   rcases List.mem_append.1 hr with h | h
   ·exact ha r h
   ·exact hb r h
  simp only [Kj, Bool.and_eq_true, decide_eq_true_eq] at hv
  exact hv.1
end Go.Am
end
section
set_option linter.unusedVariables false
set_option linter.unusedSimpArgs false
namespace Go.Am
open Go.Proofs
set_option maxRecDepth 1000000
set_option linter.unusedVariables false
set_option linter.unusedSimpArgs false
set_option maxHeartbeats 4000000
inductive schS where
 | h0 (v10 : Int)
noncomputable def schC (l0 : List R2) : schS → Cfg
 | .h0 v10 => ⟨⟨34, 0, true⟩, none, (Za Tryz.prog 191 [1, 1, 0, 1, 0, 0] 0), none, (Zy Tryz.prog 3), ⟨Ym [(0, (.dat l0.length (Zz l0))), (8, (.dat l0.length (Zz l0))), (9, (ii ((l0.length : Nat) : Int))), (10, (ii v10))], Jy [] 0, 0, [], true⟩, [], .leaf⟩
def v2o : List (Option (List Nat)) := [some [0, 8, 9, 10]]
def v2p : List (Option (List Nat)) := []
noncomputable def z1h (l0 : List R2) : schS → Xn schS
 | .h0 v10 => (bif (decide (v10 < ((l0.length : Nat) : Int))) then (bif ((decide (0 ≤ v10 ∧ v10 < ((l0.length : Nat) : Int))) && true) then (bif (decide ((rd l0 (Int.toNat v10)).a < (rd l0 (Int.toNat v10)).b)) then (bif (decide ((rd l0 (Int.toNat v10)).a ≥ (-1000000))) then (bif (!(decide ((rd l0 (Int.toNat v10)).b ≤ 1000000))) then (.ret [(.int .i64 8)]) else (bif (decide (v10 > 0)) then (bif ((decide (0 ≤ (IntKind.wrap IntKind.i64 (v10 - 1)) ∧ (IntKind.wrap IntKind.i64 (v10 - 1)) < ((l0.length : Nat) : Int))) && true) then (bif (decide ((rd l0 (Int.toNat (IntKind.wrap IntKind.i64 (v10 - 1)))).b ≥ (rd l0 (Int.toNat v10)).a)) then (.ret [(.int .i64 8)]) else (.to (.h0 (IntKind.wrap IntKind.i64 (v10 + 1))))) else .stuck) else (.to (.h0 (IntKind.wrap IntKind.i64 (v10 + 1)))))) else (.ret [(.int .i64 8)])) else (.ret [(.int .i64 8)])) else .stuck) else (.ret [(.int .i64 0)]))
noncomputable def z7x (l0 : List R2) : Xn schS := (bif (decide (((l0.length : Nat) : Int) > 400)) then (.ret [(.int .i64 4)]) else (.to (.h0 0)))
theorem x5i (l0 : List R2) : ∀ s, Xh Tryz.prog (Zy Tryz.prog 191) (schC l0) (schC l0 s) (z1h l0 s)
 | .h0 v10 => (lb (fun k0 => (lo fun o1_0 => (lb (fun k1 => (lb (fun k2 => (lb (fun k3 => (lr 34 191 [1, 1, 0, 1, 0, 0, 1, 1, 0, 0, 1, 1, 0, 0] 1 3 [(2, (ii 8))] (sl Ux 25 [] ⟨[], [], [some [2]], []⟩ ⟨[], [], []⟩ (trs 12 []) (tt k3 (tt k2 (tt k1 (ww o1_0 (tt k0 nn)))))))) (fun k3 => (lb (fun k4 => (lo fun o5_0 => (lb (fun k5 => (lr 34 191 [1, 1, 0, 1, 0, 0, 1, 1, 0, 0, 1, 1, 0, 0] 1 3 [(2, (ii 8))] (sl Ux 25 [] ⟨[], [], [some [2]], []⟩ ⟨[], [], []⟩ (trs 7 [false, false, false, true, true, true, true, true, true, true, true, true, false, true]) (tt k5 (ww o5_0 (tt k4 (tt k3 (tt k2 (tt k1 (ww o1_0 (tt k0 nn))))))))))) (fun k5 => (sl Ux 28 [] ⟨[], [], v2o, v2p⟩ ⟨[], [], []⟩ (trs 7 [false, false, false, true, true, true, true, true, true, true, true, true, false, false]) (tt k5 (ww o5_0 (tt k4 (tt k3 (tt k2 (tt k1 (ww o1_0 (tt k0 nn))))))))))))) (fun k4 => (sl Ux 28 [] ⟨[], [], v2o, v2p⟩ ⟨[], [], []⟩ (trs 7 [false, false, false, false, false, false, false, false, false, false, false, false, false, false]) (tt k4 (tt k3 (tt k2 (tt k1 (ww o1_0 (tt k0 nn)))))))))))) (fun k2 => (lr 34 191 [1, 1, 0, 1, 0, 0, 1, 1, 0, 0, 1, 1, 0, 0] 1 3 [(2, (ii 8))] (sl Ux 25 [] ⟨[], [], [some [2]], []⟩ ⟨[], [], []⟩ (trs 4 [false, false, false, true, true, true, true, true]) (tt k2 (tt k1 (ww o1_0 (tt k0 nn))))))))) (fun k1 => (lr 34 191 [1, 1, 0, 1, 0, 0, 1, 1, 0, 0, 1, 1, 0, 0] 1 3 [(2, (ii 8))] (sl Ux 25 [] ⟨[], [], [some [2]], []⟩ ⟨[], [], []⟩ [true, false, false, false, false, false, false, true, true, true, true, true] (tt k1 (ww o1_0 (tt k0 nn))))))))) (fun k0 => (lr 34 3 [1, 1, 1, 1, 1, 1, 1, 0] 1 3 [(2, (ii 0))] (sl Ux 11 [] ⟨[], [], [some [2]], []⟩ ⟨[], [], []⟩ [false] (tt k0 nn)))))
theorem y8z (l0 : List R2) : Xh Tryz.prog (Zy Tryz.prog 191) (schC l0) (Zf Tryz.prog 191 [(.dat l0.length (Zz l0))] true []) (z7x l0) := (lb (fun k0 => (lr 34 191 [1, 0, 1, 0, 0] 1 3 [(2, (ii 4))] (sl Ux 16 [] ⟨[], [], [some [2]], []⟩ ⟨[], [], []⟩ [true] (tt k0 nn)))) (fun k0 => (sl Ux 22 [] ⟨[], [], v2o, v2p⟩ ⟨[], [], []⟩ [false] (tt k0 nn))))
theorem w4r (l0 : List R2) (n : Nat) (vs : List AVal) (h : Ya (z1h l0) n (z7x l0) = .ret vs) : Je Tryz.prog (Zy Tryz.prog 191) (Zf Tryz.prog 191 [(.dat l0.length (Zz l0))] true []) vs := by
 have := Zn (x5i l0) n _ (y8z l0)
 rwa [h] at this
inductive cuS where
noncomputable def cuC (x0 : Bool) (x1 : Bool) : cuS → Cfg
 := nofun
noncomputable def w2o (x0 : Bool) (x1 : Bool) : cuS → Xn cuS
 := nofun
noncomputable def x1m (x0 : Bool) (x1 : Bool) : Xn cuS := (bif x0 then (.ret [(.bool true)]) else (.ret [(.bool x1)]))
theorem w2n (x0 : Bool) (x1 : Bool) : ∀ s, Xh Tryz.prog (Zy Tryz.prog 164) (cuC x0 x1) (cuC x0 x1 s) (w2o x0 x1 s)
 := nofun
theorem x7h (x0 : Bool) (x1 : Bool) : Xh Tryz.prog (Zy Tryz.prog 164) (cuC x0 x1) (Zf Tryz.prog 164 [(.bool x0), (.bool x1)] true []) (x1m x0 x1) := (lb (fun k0 => (lr 9 3 [1, 1, 1, 1, 1, 1, 1, 0] 1 5 [(4, (.bool true))] (sl Ux 12 [] ⟨[], [], [some [4]], []⟩ ⟨[], [], []⟩ [true] (tt k0 nn)))) (fun k0 => (lr 9 3 [1, 1, 1, 1, 1, 1, 1, 0] 1 5 [(4, (.bool x1))] (sl Ux 12 [] ⟨[], [], [some [4]], []⟩ ⟨[], [], []⟩ [false] (tt k0 nn)))))
theorem v5z (x0 : Bool) (x1 : Bool) (n : Nat) (vs : List AVal) (h : Ya (w2o x0 x1) n (x1m x0 x1) = .ret vs) : Je Tryz.prog (Zy Tryz.prog 164) (Zf Tryz.prog 164 [(.bool x0), (.bool x1)] true []) vs := by
 have := Zn (w2n x0 x1) n _ (x7h x0 x1)
 rwa [h] at this
inductive ceS where
noncomputable def ceC (x0 : Bool) (x1 : Bool) : ceS → Cfg
 := nofun
noncomputable def w2u (x0 : Bool) (x1 : Bool) : ceS → Xn ceS
 := nofun
noncomputable def x1s (x0 : Bool) (x1 : Bool) : Xn ceS := (bif x0 then (.ret [(.bool x1)]) else (.ret [(.bool false)]))
theorem w2t (x0 : Bool) (x1 : Bool) : ∀ s, Xh Tryz.prog (Zy Tryz.prog 170) (ceC x0 x1) (ceC x0 x1 s) (w2u x0 x1 s)
 := nofun
theorem x7k (x0 : Bool) (x1 : Bool) : Xh Tryz.prog (Zy Tryz.prog 170) (ceC x0 x1) (Zf Tryz.prog 170 [(.bool x0), (.bool x1)] true []) (x1s x0 x1) := (lb (fun k0 => (lr 9 3 [1, 1, 1, 1, 1, 1, 1, 0] 1 5 [(4, (.bool x1))] (sl Ux 12 [] ⟨[], [], [some [4]], []⟩ ⟨[], [], []⟩ [true] (tt k0 nn)))) (fun k0 => (lr 9 3 [1, 1, 1, 1, 1, 1, 1, 0] 1 5 [(4, (.bool false))] (sl Ux 12 [] ⟨[], [], [some [4]], []⟩ ⟨[], [], []⟩ [false] (tt k0 nn)))))
theorem v6g (x0 : Bool) (x1 : Bool) (n : Nat) (vs : List AVal) (h : Ya (w2u x0 x1) n (x1s x0 x1) = .ret vs) : Je Tryz.prog (Zy Tryz.prog 170) (Zf Tryz.prog 170 [(.bool x0), (.bool x1)] true []) vs := by
 have := Zn (w2t x0 x1) n _ (x7k x0 x1)
 rwa [h] at this
inductive cdS where
noncomputable def cdC (x0 : Bool) (x1 : Bool) : cdS → Cfg
 := nofun
noncomputable def w2w (x0 : Bool) (x1 : Bool) : cdS → Xn cdS
 := nofun
noncomputable def x1u (x0 : Bool) (x1 : Bool) : Xn cdS := (bif x0 then (.ret [(.bool (!x1))]) else (.ret [(.bool false)]))
theorem w2v (x0 : Bool) (x1 : Bool) : ∀ s, Xh Tryz.prog (Zy Tryz.prog 163) (cdC x0 x1) (cdC x0 x1 s) (w2w x0 x1 s)
 := nofun
theorem x7l (x0 : Bool) (x1 : Bool) : Xh Tryz.prog (Zy Tryz.prog 163) (cdC x0 x1) (Zf Tryz.prog 163 [(.bool x0), (.bool x1)] true []) (x1u x0 x1) := (lb (fun k0 => (lr 10 3 [1, 1, 1, 1, 1, 1, 1, 0] 1 5 [(4, (.bool (!x1)))] (sl Ux 13 [] ⟨[], [], [some [4]], []⟩ ⟨[], [], []⟩ [true, true] (tt k0 nn)))) (fun k0 => (lr 10 3 [1, 1, 1, 1, 1, 1, 1, 0] 1 5 [(4, (.bool false))] (sl Ux 13 [] ⟨[], [], [some [4]], []⟩ ⟨[], [], []⟩ [false, false] (tt k0 nn)))))
theorem v6h (x0 : Bool) (x1 : Bool) (n : Nat) (vs : List AVal) (h : Ya (w2w x0 x1) n (x1u x0 x1) = .ret vs) : Je Tryz.prog (Zy Tryz.prog 163) (Zf Tryz.prog 163 [(.bool x0), (.bool x1)] true []) vs := by
 have := Zn (w2v x0 x1) n _ (x7l x0 x1)
 rwa [h] at this
end Go.Am
end
section
set_option linter.unusedVariables false
set_option linter.unusedSimpArgs false
namespace Go.Am
open Go.Proofs
open Go.Sort Go.Shelf Go.RowKit Go.Lib
set_option maxRecDepth 100000
set_option maxHeartbeats 4000000
set_option linter.unusedVariables false
set_option linter.unusedSimpArgs false
def x5e (l : List R2) (i : Nat) : Bool := Qd (rd l i) && (decide (i = 0) || decide ((rd l (i - 1)).b < (rd l i).a))
def y3u (l : List R2) : Int := bif decide (400 < l.length) then 4 else bif (List.range l.length).all (x5e l) then 0 else 8
def z1i (l : List R2) : Bool := true
theorem w8z (l : List R2) (hl : l.length ≤ 400) : ∀ (k i : Nat), i + k = l.length → (∀ j, j < i → x5e l j = true) → ∃ n, Ya (z1h l) n (.to (.h0 (i : Int))) = .ret [.int .i64 (bif (List.range l.length).all (x5e l) then 0 else 8)]
 | 0, i, h, ht => by
  have hv : (List.range l.length).all (x5e l) = true := List.all_eq_true.2 fun j hj => ht j (by have := List.mem_range.1 hj; omega)
  refine ⟨1, ?_⟩
  rw [Zv, hv]
  simp (disch := omega) only [z1h, Yx, cond_true, cond_false, Zm]
 | k + 1, i, h, ht => by
  have hi : i < l.length := by omega
  have hlt : decide ((i : Int) < ((l.length : Nat) : Int)) = true := decide_eq_true (by omega)
  have hin : decide (0 ≤ (i : Int) ∧ (i : Int) < ((l.length : Nat) : Int)) = true := decide_eq_true (by omega)
  have step : z1h l (.h0 (i : Int)) = bif x5e l i then .to (.h0 ((i + 1 : Nat) : Int)) else .ret [.int .i64 8] := by
   unfold x5e Qd
   by_cases hi0 : i = 0
   ·have g1 : decide ((i : Int) > 0) = false := decide_eq_false (by omega)
    rw [decide_eq_true hi0]
    simp (disch := omega) only [z1h, hlt, hin, g1, Zq, Zx, Zu, y1a, z6a, Bool.true_or, Bool.and_true, cond_true, cond_false]
   ·have g1 : decide ((i : Int) > 0) = true := decide_eq_true (by omega)
    have g2 : IntKind.wrap .i64 ((i : Int) - 1) = ((i - 1 : Nat) : Int) := by rw [Zq (by omega)]; omega
    have g3 : decide (0 ≤ ((i - 1 : Nat) : Int) ∧ ((i - 1 : Nat) : Int) < ((l.length : Nat) : Int)) = true := decide_eq_true (by omega)
    have g4 : decide ((rd l (i - 1)).b ≥ (rd l i).a) = !decide ((rd l (i - 1)).b < (rd l i).a) := by
     by_cases q : (rd l (i - 1)).b < (rd l i).a
     ·rw [decide_eq_true q, decide_eq_false (by omega)]; rfl
     ·rw [decide_eq_false q, decide_eq_true (by omega)]; rfl
    rw [decide_eq_false hi0]
    simp (disch := omega) only [z1h, hlt, hin, g1, g2, g3, g4, Zq, Zx, Zu, y1a, z6a, Bool.false_or, Bool.and_true, cond_true, cond_false]
  rcases Yb (x5e l i) with q | q
  ·obtain ⟨n, hn⟩ := w8z l hl k (i + 1) (by omega) (fun j hj => by
    rcases Nat.eq_or_lt_of_le (Nat.le_of_lt_succ hj) with rfl | hj
    ·exact q
    ·exact ht j hj)
   refine ⟨n + 1, ?_⟩
   rw [Zv, step, q, cond_true]
   exact hn
  ·have hv : (List.range l.length).all (x5e l) = false := Bool.eq_false_iff.2 fun e => by
    have := List.all_eq_true.1 e i (List.mem_range.2 hi)
    rw [q] at this; cases this
   refine ⟨1, ?_⟩
   rw [Zv, step, q, hv, cond_false, Zm]; rfl
theorem v2n (l : List R2) (h : z1i l = true) : ∃ n, Ya (z1h l) n (z7x l) = .ret [.int .i64 (y3u l)] := by
 unfold z7x y3u
 by_cases h : 400 < l.length
 ·refine ⟨0, ?_⟩
  rw [decide_eq_true h, Yd (show ((l.length : Nat) : Int) > 400 by omega)]; rfl
 ·obtain ⟨n, hn⟩ := w8z l (by omega) l.length 0 (Nat.zero_add _) (fun j hj => absurd hj (Nat.not_lt_zero _))
  refine ⟨n, ?_⟩
  rw [decide_eq_false h, Xz (show ¬ ((l.length : Nat) : Int) > 400 by omega), cond_false, cond_false]
  exact hn
inductive Op where
 | u | e | d
abbrev Op.k : Op → Nat
 | .u => 0
 | .e => 1
 | .d => 2
abbrev nC : Op → Nat
 | .u => nSpU1
 | .e => nSpE1
 | .d => nSpD1
abbrev nSp : Op → Nat
 | .u => nSpU
 | .e => nSpE
 | .d => nSpD
abbrev nRg : Op → Nat
 | .u => nRgU
 | .e => nRgE
 | .d => nRgD
abbrev nSl : Op → Nat
 | .u => nSlU
 | .e => nSlE
 | .d => nSlD
def cV (q : Op) (a b : Bool) : Bool := opB q.k a b
theorem cu_run (a b : Bool) : ∃ N, Ya (w2o a b) N (x1m a b) = .ret [.bool (cV .u a b)] := ⟨0, by cases a <;> cases b <;> rfl⟩
theorem ce_run (a b : Bool) : ∃ N, Ya (w2u a b) N (x1s a b) = .ret [.bool (cV .e a b)] := ⟨0, by cases a <;> cases b <;> rfl⟩
theorem cd_run (a b : Bool) : ∃ N, Ya (w2w a b) N (x1u a b) = .ret [.bool (cV .d a b)] := ⟨0, by cases a <;> cases b <;> rfl⟩
theorem x2v (l : List R2) : y3u l = 0 ↔ l.length ≤ 400 ∧ l.all Qd = true ∧ Can l := by
 unfold y3u
 constructor
 ·intro h
  by_cases h1 : 400 < l.length
  ·rw [decide_eq_true h1] at h; cases h
  ·rw [decide_eq_false h1, cond_false] at h
   cases hq : (List.range l.length).all (x5e l) with
   | false => rw [hq] at h; cases h
   | true =>
    have hq := fun i hi => List.all_eq_true.1 hq i (List.mem_range.2 hi)
    have hv : ∀ i, i < l.length → Qd (rd l i) = true := fun i hi => by
     have := hq i hi
     unfold x5e at this
     rw [Bool.and_eq_true] at this
     exact this.1
    have hp : ∀ i, i < l.length → (rd l i).a < (rd l i).b := fun i hi => by
     have := hv i hi
     simp only [Qd, Bool.and_eq_true, decide_eq_true_eq] at this
     exact this.1
    have hs : ∀ i, i + 1 < l.length → (rd l i).b < (rd l (i + 1)).a := fun i hi => by
     have := hq (i + 1) hi
     unfold x5e at this
     rw [Bool.and_eq_true, Bool.or_eq_true] at this
     rcases this.2 with q | q
     ·have := of_decide_eq_true q; omega
     ·exact of_decide_eq_true q
    refine ⟨by omega, List.all_eq_true.2 fun s hs => ?_, ⟨fun s hs => ?_, ?_⟩⟩
    ·obtain ⟨i, hi, rfl⟩ := List.getElem_of_mem hs
     rw [← Xk hi]; exact hv i hi
    ·obtain ⟨i, hi, rfl⟩ := List.getElem_of_mem hs
     rw [← Xk hi]; exact hp i hi
    ·refine List.pairwise_iff_getElem.2 fun i j hi hj hij => ?_
     rw [← Xk hi, ← Xk hj]
     clear hi
     induction j with
     | zero => omega
     | succ j ih =>
      have h1 := hs j hj
      rcases Nat.eq_or_lt_of_le (Nat.le_of_lt_succ hij) with rfl | q
      ·exact h1
      ·have h2 := ih (by omega) q
       have h3 := hp j (by omega)
       omega
 ·rintro ⟨h1, h2, h3⟩
  rw [decide_eq_false (by omega), cond_false]
  have : (List.range l.length).all (x5e l) = true := List.all_eq_true.2 fun i hi => by
   have hi := List.mem_range.1 hi
   unfold x5e
   rw [List.all_eq_true.1 h2 (rd l i) (by rw [Xk hi]; exact List.getElem_mem hi), Bool.true_and, Bool.or_eq_true]
   by_cases h0 : i = 0
   ·exact .inl (decide_eq_true h0)
   ·refine .inr (decide_eq_true ?_)
    have := List.pairwise_iff_getElem.1 h3.sep (i - 1) i (by omega) hi (by omega)
    rwa [← Xk, ← Xk] at this
  rw [this]; rfl
noncomputable def fSch : List AVal → Option (AVal × Bool)
 | [a0] => match asL R2 a0 with
  | some (L0, g0, n0) => some (.int .i64 (y3u L0), isT R2 n0 g0 && (z1i L0))
  | _ => none
 | _ => none
theorem v4z {S : Specs} (hS : Zk Tryz.prog S) : Zk Tryz.prog (S.with x3m fSch) := by
 refine z1d hS (by kernel_rfl) fun args v h => ?_
 unfold fSch at h
 split at h
 ·rename_i a0
  split at h
  ·rename_i L0 g0 n0 e0
   simp only [Option.some.injEq, Prod.mk.injEq, Bool.and_eq_true] at h
   obtain ⟨rfl, ho0, hw⟩ := h
   obtain ⟨N, hN⟩ := v2n L0 hw
   exact ⟨_, _, (.cons (asL_le e0 ho0) .nil), rfl, w4r L0 N _ hN, 3, rfl⟩
  ·cases h
 ·cases h
noncomputable def fCu : List AVal → Option (AVal × Bool)
 | [.bool b0, .bool b1] => some (.bool (cV .u b0 b1), true)
 | _ => none
theorem fCu_ok {S : Specs} (hS : Zk Tryz.prog S) : Zk Tryz.prog (S.with (nC .u) fCu) := by
 refine z1d hS (by kernel_rfl) fun args v h => ?_
 unfold fCu at h
 split at h
 ·rename_i b0 b1
  simp only [Option.some.injEq, Prod.mk.injEq, and_true] at h
  subst h
  obtain ⟨N, hN⟩ := cu_run b0 b1
  exact ⟨_, _, (.cons (.refl _) (.cons (.refl _) .nil)), rfl, v5z b0 b1 N _ hN, 3, rfl⟩
 ·cases h
noncomputable def fCe : List AVal → Option (AVal × Bool)
 | [.bool b0, .bool b1] => some (.bool (cV .e b0 b1), true)
 | _ => none
theorem fCe_ok {S : Specs} (hS : Zk Tryz.prog S) : Zk Tryz.prog (S.with (nC .e) fCe) := by
 refine z1d hS (by kernel_rfl) fun args v h => ?_
 unfold fCe at h
 split at h
 ·rename_i b0 b1
  simp only [Option.some.injEq, Prod.mk.injEq, and_true] at h
  subst h
  obtain ⟨N, hN⟩ := ce_run b0 b1
  exact ⟨_, _, (.cons (.refl _) (.cons (.refl _) .nil)), rfl, v6g b0 b1 N _ hN, 3, rfl⟩
 ·cases h
noncomputable def fCd : List AVal → Option (AVal × Bool)
 | [.bool b0, .bool b1] => some (.bool (cV .d b0 b1), true)
 | _ => none
theorem fCd_ok {S : Specs} (hS : Zk Tryz.prog S) : Zk Tryz.prog (S.with (nC .d) fCd) := by
 refine z1d hS (by kernel_rfl) fun args v h => ?_
 unfold fCd at h
 split at h
 ·rename_i b0 b1
  simp only [Option.some.injEq, Prod.mk.injEq, and_true] at h
  subst h
  obtain ⟨N, hN⟩ := cd_run b0 b1
  exact ⟨_, _, (.cons (.refl _) (.cons (.refl _) .nil)), rfl, v6h b0 b1 N _ hN, 3, rfl⟩
 ·cases h
noncomputable def Ua : Specs := ((((T9.with x3m fSch).with (nC .u) fCu).with (nC .e) fCe).with (nC .d) fCd)
theorem z0c : Zk Tryz.prog Ua := (fCd_ok (fCe_ok (fCu_ok (v4z Ux))))
end Go.Am
end
section
set_option linter.unusedVariables false
set_option linter.unusedSimpArgs false
namespace Go.Am
open Go.Proofs
set_option maxRecDepth 1000000
set_option linter.unusedVariables false
set_option linter.unusedSimpArgs false
set_option maxHeartbeats 4000000
inductive spjS where
 | h0 (v3 : List R3) (v17 : Int)
 | h1 (v3 : List R3) (v17 : Int)
 | h2 (v5 : List R3) (v6 : Int) (v7 : Int) (v_2_0 : Int) (v_2_1 : Int) (v_3_0 : Int) (v_4_0 : Bool) (v_6_0 : List R2)
noncomputable def spjC (q : Op) (l0 : List R2) (l1 : List R2) : spjS → Cfg
 | .h0 v3 v17 => ⟨⟨38, 0, true⟩, none, (Za Tryz.prog 197 [1, 1, 0, 1, 0, 0, 1, 1, 0, 0, 1, 1, 0, 0] 0), none, (Zy Tryz.prog 3), ⟨Ym [(3, (.sla 7 3 0 v3.length (.un 3))), (4, (ii 0)), (8, (.sl 0 0 2 (.un 1))), (9, (ii 2)), (10, (ii 0)), (15, (.dat l0.length (Zz l0))), (16, (ii ((l0.length : Nat) : Int))), (17, (ii v17))], Jy [⟨[(.dat l0.length (Zz l0)), (.dat l1.length (Zz l1))], 180, none⟩, ⟨[(.fn (nC q) [])], 213, none⟩, ⟨[(ii 0), (ii 0)], 142, none⟩, ⟨[.nils], 180, none⟩, ⟨[(ii 0)], 3, none⟩, ⟨[(.bool false)], 4, none⟩, ⟨[(.fn 196 [(.ptr 5 0), (.ptr 4 0), (.ptr 3 0)])], 242, none⟩, ⟨rows v3.length (Zz v3), 246, some ⟨3, v3.length, (Zz v3)⟩⟩] 0, 8, [], true⟩, [⟨⟨42, 0, true⟩, (Wm Tryz.prog 186 [1, 1, 1, 1, 1, 0, 0] 3), (Za Tryz.prog 186 [1, 1, 1, 1, 1, 0, 0] 1), none, (Zy Tryz.prog 8), Ym [(5, (.ptr 1 0)), (6, .nils), (7, (.ptr 2 0)), (8, (.ptr 3 0)), (9, (.ptr 4 0)), (10, (.ptr 5 0)), (11, (.ptr 6 0)), (16, (.sl 0 0 2 (.un 1)))]⟩, ⟨⟨29, 0, true⟩, (Wm Tryz.prog 162 [1, 1, 1, 0] 3), (Za Tryz.prog 162 [1, 1, 1, 0] 1), none, (Zy Tryz.prog 32), Ym [(21, (.dat l0.length (Zz l0))), (22, (.dat l1.length (Zz l1))), (23, (.fn (nC q) []))]⟩, ⟨⟨11, 0, true⟩, (Wm Tryz.prog (nSp q) [1, 0] 2), (Za Tryz.prog (nSp q) [1, 0] 1), none, (Zy Tryz.prog 28), Ym [(6, (.dat l0.length (Zz l0))), (7, (.dat l1.length (Zz l1)))]⟩], .leaf⟩
 | .h1 v3 v17 => ⟨⟨38, 0, true⟩, none, (Za Tryz.prog 197 [1, 1, 0, 1, 0, 0, 1, 1, 0, 0, 1, 1, 0, 0] 0), none, (Zy Tryz.prog 3), ⟨Ym [(3, (.sla 7 3 0 v3.length (.un 3))), (4, (ii 1)), (8, (.sl 0 0 2 (.un 1))), (9, (ii 2)), (10, (ii 1)), (15, (.dat l1.length (Zz l1))), (16, (ii ((l1.length : Nat) : Int))), (17, (ii v17))], Jy [⟨[(.dat l0.length (Zz l0)), (.dat l1.length (Zz l1))], 180, none⟩, ⟨[(.fn (nC q) [])], 213, none⟩, ⟨[(ii 0), (ii 0)], 142, none⟩, ⟨[.nils], 180, none⟩, ⟨[(ii 0)], 3, none⟩, ⟨[(.bool false)], 4, none⟩, ⟨[(.fn 196 [(.ptr 5 0), (.ptr 4 0), (.ptr 3 0)])], 242, none⟩, ⟨rows v3.length (Zz v3), 246, some ⟨3, v3.length, (Zz v3)⟩⟩] 0, 8, [], true⟩, [⟨⟨42, 0, true⟩, (Wm Tryz.prog 186 [1, 1, 1, 1, 1, 0, 0] 3), (Za Tryz.prog 186 [1, 1, 1, 1, 1, 0, 0] 1), none, (Zy Tryz.prog 8), Ym [(5, (.ptr 1 0)), (6, .nils), (7, (.ptr 2 0)), (8, (.ptr 3 0)), (9, (.ptr 4 0)), (10, (.ptr 5 0)), (11, (.ptr 6 0)), (16, (.sl 0 0 2 (.un 1)))]⟩, ⟨⟨29, 0, true⟩, (Wm Tryz.prog 162 [1, 1, 1, 0] 3), (Za Tryz.prog 162 [1, 1, 1, 0] 1), none, (Zy Tryz.prog 32), Ym [(21, (.dat l0.length (Zz l0))), (22, (.dat l1.length (Zz l1))), (23, (.fn (nC q) []))]⟩, ⟨⟨11, 0, true⟩, (Wm Tryz.prog (nSp q) [1, 0] 2), (Za Tryz.prog (nSp q) [1, 0] 1), none, (Zy Tryz.prog 28), Ym [(6, (.dat l0.length (Zz l0))), (7, (.dat l1.length (Zz l1)))]⟩], .leaf⟩
 | .h2 v5 v6 v7 v_2_0 v_2_1 v_3_0 v_4_0 v_6_0 => ⟨⟨16, 0, true⟩, none, (Za Tryz.prog 205 [1, 0, 0] 0), none, [], ⟨Ym [(0, (.yld 0)), (5, (.sla 7 3 0 v5.length (.un 3))), (6, (ii v6)), (7, (ii v7))], z6p [(1, ⟨[(.fn (nC q) [])], 213, none⟩), (2, ⟨[(ii v_2_0), (ii v_2_1)], 142, none⟩), (3, ⟨[(ii v_3_0)], 3, none⟩), (4, ⟨[(.bool v_4_0)], 4, none⟩), (5, ⟨[(.fn 196 [(.ptr 4 0), (.ptr 3 0), (.ptr 6 0)])], 242, none⟩), (6, ⟨[(.sla 8 2 0 v_6_0.length (.un 2))], 180, none⟩), (7, ⟨rows v5.length (Zz v5), 246, some ⟨3, v5.length, (Zz v5)⟩⟩), (8, ⟨rows v_6_0.length (Zz v_6_0), 183, some ⟨2, v_6_0.length, (Zz v_6_0)⟩⟩)], 9, [], true⟩, [⟨⟨42, 0, true⟩, none, (.inRangeFunc 0 :: (Za Tryz.prog 186 [1, 1, 1, 1, 1, 0, 1, 0] 1)), none, (Zy Tryz.prog 8), Ym [(6, .nils), (8, (.ptr 6 0))]⟩, ⟨⟨29, 0, true⟩, (Wm Tryz.prog 162 [1, 1, 1, 0] 3), (Za Tryz.prog 162 [1, 1, 1, 0] 1), none, (Zy Tryz.prog 32), Ym [(21, (.dat l0.length (Zz l0))), (22, (.dat l1.length (Zz l1))), (23, (.fn (nC q) []))]⟩, ⟨⟨11, 0, true⟩, (Wm Tryz.prog (nSp q) [1, 0] 2), (Za Tryz.prog (nSp q) [1, 0] 1), none, (Zy Tryz.prog 28), Ym [(6, (.dat l0.length (Zz l0))), (7, (.dat l1.length (Zz l1)))]⟩], (z6q [(0, ⟨.ready, none, 42, Ym [(5, (.ptr 1 0)), (7, (.ptr 2 0)), (9, (.ptr 3 0)), (10, (.ptr 4 0)), (11, (.ptr 5 0))], [18], (Wz Tryz.prog 186 [1, 1, 1, 1, 1, 0, 1, 0, 0]), (Wz Tryz.prog 186 [1, 1, 1, 1, 1, 0, 1, 0, 1])⟩)])⟩
def spjN0 : List (Option (List Nat)) := [some [3, 4, 8, 9, 10, 15, 16, 17], some [5, 6, 7, 8, 9, 10, 11, 16], some [21, 22, 23], some [6, 7]]
def spjM0 : List (Option (List Nat)) := []
def spjN1 : List (Option (List Nat)) := [some [3, 4, 8, 9, 10, 15, 16, 17], some [5, 6, 7, 8, 9, 10, 11, 16], some [21, 22, 23], some [6, 7]]
def spjM1 : List (Option (List Nat)) := []
def z9j : List (Option (List Nat)) := [some [0, 5, 6, 7], some [6, 8], some [21, 22, 23], some [6, 7]]
def z9k : List (Option (List Nat)) := [some [5, 7, 9, 10, 11], none, none, none, none, none, none, none, none]
noncomputable def Wu (q : Op) (l0 : List R2) (l1 : List R2) : spjS → Xn spjS
 | .h0 v3 v17 => (bif (decide (v17 < ((l0.length : Nat) : Int))) then (bif ((decide (0 ≤ v17 ∧ v17 < ((l0.length : Nat) : Int))) && true) then (bif (Nat.beq 3 3 && ((decide (0 + v3.length = v3.length)) && decide ((v3.length + 2 + 1) * (24 + 1) ≤ Up))) then (.to (.h0 (v3 ++ [(R3.mk (rd l0 (Int.toNat v17)).a 0 1), (R3.mk (rd l0 (Int.toNat v17)).b 0 (-1))]) (IntKind.wrap IntKind.i64 (v17 + 1)))) else .stuck) else .stuck) else (.to (.h1 v3 0)))
 | .h1 v3 v17 => (bif (decide (v17 < ((l1.length : Nat) : Int))) then (bif ((decide (0 ≤ v17 ∧ v17 < ((l1.length : Nat) : Int))) && true) then (bif (Nat.beq 3 3 && ((decide (0 + v3.length = v3.length)) && decide ((v3.length + 2 + 1) * (24 + 1) ≤ Up))) then (.to (.h1 (v3 ++ [(R3.mk (rd l1 (Int.toNat v17)).a 1 1), (R3.mk (rd l1 (Int.toNat v17)).b 1 (-1))]) (IntKind.wrap IntKind.i64 (v17 + 1)))) else .stuck) else .stuck) else (bif (z7h (cvT v3)) then (bif (decide (v3.length < 4611686018427387904)) then (bif (decide (v3.length = v3.length)) then (.to (.h2 (Qw (cvT v3)) ((v3.length : Nat) : Int) 0 0 0 0 false ([] : List R2))) else .stuck) else .stuck) else .stuck))
 | .h2 v5 v6 v7 v_2_0 v_2_1 v_3_0 v_4_0 v_6_0 => (bif (decide (v7 < v6)) then (bif ((decide (0 ≤ v7 ∧ v7 < ((v5.length : Nat) : Int))) && true) then (bif (decide ((0 + (Int.toNat v7)) < v5.length)) then (bif (!v_4_0) then (bif (decide ((rd v5 (0 + (Int.toNat v7))).b = Int.ofNat 0)) then (.to (.h2 v5 v6 (IntKind.wrap IntKind.i64 (v7 + 1)) (IntKind.wrap IntKind.i64 (v_2_0 + (rd v5 (0 + (Int.toNat v7))).c)) v_2_1 (rd v5 (0 + (Int.toNat v7))).a ((cV q) (decide ((IntKind.wrap IntKind.i64 (v_2_0 + (rd v5 (0 + (Int.toNat v7))).c)) > 0)) (decide (v_2_1 > 0))) v_6_0)) else (bif (decide ((rd v5 (0 + (Int.toNat v7))).b = Int.ofNat 1)) then (.to (.h2 v5 v6 (IntKind.wrap IntKind.i64 (v7 + 1)) v_2_0 (IntKind.wrap IntKind.i64 (v_2_1 + (rd v5 (0 + (Int.toNat v7))).c)) (rd v5 (0 + (Int.toNat v7))).a ((cV q) (decide (v_2_0 > 0)) (decide ((IntKind.wrap IntKind.i64 (v_2_1 + (rd v5 (0 + (Int.toNat v7))).c)) > 0))) v_6_0)) else .stuck)) else (bif (v_3_0 == (rd v5 (0 + (Int.toNat v7))).a) then (bif (decide ((rd v5 (0 + (Int.toNat v7))).b = Int.ofNat 0)) then (.to (.h2 v5 v6 (IntKind.wrap IntKind.i64 (v7 + 1)) (IntKind.wrap IntKind.i64 (v_2_0 + (rd v5 (0 + (Int.toNat v7))).c)) v_2_1 (rd v5 (0 + (Int.toNat v7))).a ((cV q) (decide ((IntKind.wrap IntKind.i64 (v_2_0 + (rd v5 (0 + (Int.toNat v7))).c)) > 0)) (decide (v_2_1 > 0))) v_6_0)) else (bif (decide ((rd v5 (0 + (Int.toNat v7))).b = Int.ofNat 1)) then (.to (.h2 v5 v6 (IntKind.wrap IntKind.i64 (v7 + 1)) v_2_0 (IntKind.wrap IntKind.i64 (v_2_1 + (rd v5 (0 + (Int.toNat v7))).c)) (rd v5 (0 + (Int.toNat v7))).a ((cV q) (decide (v_2_0 > 0)) (decide ((IntKind.wrap IntKind.i64 (v_2_1 + (rd v5 (0 + (Int.toNat v7))).c)) > 0))) v_6_0)) else .stuck)) else (bif (decide (((v_6_0.length : Nat) : Int) > 0)) then (bif ((decide (0 ≤ (IntKind.wrap IntKind.i64 (((v_6_0.length : Nat) : Int) - 1)) ∧ (IntKind.wrap IntKind.i64 (((v_6_0.length : Nat) : Int) - 1)) < ((v_6_0.length : Nat) : Int))) && true) then (bif (decide ((0 + (Int.toNat (IntKind.wrap IntKind.i64 (((v_6_0.length : Nat) : Int) - 1)))) < v_6_0.length)) then (bif ((rd v_6_0 (0 + (Int.toNat (IntKind.wrap IntKind.i64 (((v_6_0.length : Nat) : Int) - 1))))).b == v_3_0) then (bif (decide ((rd v5 (0 + (Int.toNat v7))).b = Int.ofNat 0)) then (.to (.h2 v5 v6 (IntKind.wrap IntKind.i64 (v7 + 1)) (IntKind.wrap IntKind.i64 (v_2_0 + (rd v5 (0 + (Int.toNat v7))).c)) v_2_1 (rd v5 (0 + (Int.toNat v7))).a ((cV q) (decide ((IntKind.wrap IntKind.i64 (v_2_0 + (rd v5 (0 + (Int.toNat v7))).c)) > 0)) (decide (v_2_1 > 0))) (v_6_0.set (0 + (Int.toNat (IntKind.wrap IntKind.i64 (((v_6_0.length : Nat) : Int) - 1)))) (R2.mk (rd v_6_0 (0 + (Int.toNat (IntKind.wrap IntKind.i64 (((v_6_0.length : Nat) : Int) - 1))))).a (rd v5 (0 + (Int.toNat v7))).a)))) else (bif (decide ((rd v5 (0 + (Int.toNat v7))).b = Int.ofNat 1)) then (.to (.h2 v5 v6 (IntKind.wrap IntKind.i64 (v7 + 1)) v_2_0 (IntKind.wrap IntKind.i64 (v_2_1 + (rd v5 (0 + (Int.toNat v7))).c)) (rd v5 (0 + (Int.toNat v7))).a ((cV q) (decide (v_2_0 > 0)) (decide ((IntKind.wrap IntKind.i64 (v_2_1 + (rd v5 (0 + (Int.toNat v7))).c)) > 0))) (v_6_0.set (0 + (Int.toNat (IntKind.wrap IntKind.i64 (((v_6_0.length : Nat) : Int) - 1)))) (R2.mk (rd v_6_0 (0 + (Int.toNat (IntKind.wrap IntKind.i64 (((v_6_0.length : Nat) : Int) - 1))))).a (rd v5 (0 + (Int.toNat v7))).a)))) else .stuck)) else (bif (Nat.beq 2 2 && ((decide (0 + v_6_0.length = v_6_0.length)) && decide ((v_6_0.length + 1 + 1) * (16 + 1) ≤ Up))) then (bif (decide ((rd v5 (0 + (Int.toNat v7))).b = Int.ofNat 0)) then (.to (.h2 v5 v6 (IntKind.wrap IntKind.i64 (v7 + 1)) (IntKind.wrap IntKind.i64 (v_2_0 + (rd v5 (0 + (Int.toNat v7))).c)) v_2_1 (rd v5 (0 + (Int.toNat v7))).a ((cV q) (decide ((IntKind.wrap IntKind.i64 (v_2_0 + (rd v5 (0 + (Int.toNat v7))).c)) > 0)) (decide (v_2_1 > 0))) (v_6_0 ++ [(R2.mk v_3_0 (rd v5 (0 + (Int.toNat v7))).a)]))) else (bif (decide ((rd v5 (0 + (Int.toNat v7))).b = Int.ofNat 1)) then (.to (.h2 v5 v6 (IntKind.wrap IntKind.i64 (v7 + 1)) v_2_0 (IntKind.wrap IntKind.i64 (v_2_1 + (rd v5 (0 + (Int.toNat v7))).c)) (rd v5 (0 + (Int.toNat v7))).a ((cV q) (decide (v_2_0 > 0)) (decide ((IntKind.wrap IntKind.i64 (v_2_1 + (rd v5 (0 + (Int.toNat v7))).c)) > 0))) (v_6_0 ++ [(R2.mk v_3_0 (rd v5 (0 + (Int.toNat v7))).a)]))) else .stuck)) else .stuck)) else .stuck) else .stuck) else (bif (Nat.beq 2 2 && ((decide (0 + v_6_0.length = v_6_0.length)) && decide ((v_6_0.length + 1 + 1) * (16 + 1) ≤ Up))) then (bif (decide ((rd v5 (0 + (Int.toNat v7))).b = Int.ofNat 0)) then (.to (.h2 v5 v6 (IntKind.wrap IntKind.i64 (v7 + 1)) (IntKind.wrap IntKind.i64 (v_2_0 + (rd v5 (0 + (Int.toNat v7))).c)) v_2_1 (rd v5 (0 + (Int.toNat v7))).a ((cV q) (decide ((IntKind.wrap IntKind.i64 (v_2_0 + (rd v5 (0 + (Int.toNat v7))).c)) > 0)) (decide (v_2_1 > 0))) (v_6_0 ++ [(R2.mk v_3_0 (rd v5 (0 + (Int.toNat v7))).a)]))) else (bif (decide ((rd v5 (0 + (Int.toNat v7))).b = Int.ofNat 1)) then (.to (.h2 v5 v6 (IntKind.wrap IntKind.i64 (v7 + 1)) v_2_0 (IntKind.wrap IntKind.i64 (v_2_1 + (rd v5 (0 + (Int.toNat v7))).c)) (rd v5 (0 + (Int.toNat v7))).a ((cV q) (decide (v_2_0 > 0)) (decide ((IntKind.wrap IntKind.i64 (v_2_1 + (rd v5 (0 + (Int.toNat v7))).c)) > 0))) (v_6_0 ++ [(R2.mk v_3_0 (rd v5 (0 + (Int.toNat v7))).a)]))) else .stuck)) else .stuck)))) else .stuck) else .stuck) else (bif (decide (((v_6_0.length : Nat) : Int) > 400)) then (.ret [.nils, (.int .i64 4)]) else (.ret [(.dat v_6_0.length (Zz v_6_0)), (.int .i64 0)])))
noncomputable def z7u (q : Op) (l0 : List R2) (l1 : List R2) : Xn spjS := (bif (z1i (cvT l0)) then (bif ((y3u (cvT l0)) != 0) then (.ret [.nils, (.int .i64 (y3u (cvT l0)))]) else (bif (z1i (cvT l1)) then (bif ((y3u (cvT l1)) != 0) then (.ret [.nils, (.int .i64 (y3u (cvT l1)))]) else (.to (.h0 ([] : List R3) 0))) else .stuck)) else .stuck)
theorem x5c (q : Op) (l0 : List R2) (l1 : List R2) : ∀ s, Xh Tryz.prog (Zy Tryz.prog (nSp q)) (spjC q l0 l1) (spjC q l0 l1 s) (Wu q l0 l1 s) := by cases q <;> exact fun
 | .h0 v3 v17 => (lb (fun k0 => (lo fun o0 => (lo fun o1 => (sl z0c 36 [] ⟨[0, 1, 2, 3, 4, 5, 6, 10], [], spjN0, spjM0⟩ ⟨[(3, .len (v3 ++ [(R3.mk (rd l0 (tn v17)).a 0 1), (R3.mk (rd l0 (tn v17)).b 0 (-1))]).length)], (kpB 7 [.rowed 3 (v3 ++ [(R3.mk (rd l0 (tn v17)).a 0 1), (R3.mk (rd l0 (tn v17)).b 0 (-1))]).length (Zz (v3 ++ [(R3.mk (rd l0 (tn v17)).a 0 1), (R3.mk (rd l0 (tn v17)).b 0 (-1))]))]), []⟩ [true] (pp (xL (v3.length + 2) (v3 ++ [(R3.mk (rd l0 (tn v17)).a 0 1), (R3.mk (rd l0 (tn v17)).b 0 (-1))]).length) (pp (xL (v3.length + 2) (v3 ++ [(R3.mk (rd l0 (tn v17)).a 0 1), (R3.mk (rd l0 (tn v17)).b 0 (-1))]).length) (pp (xS (v3.length + 2) (Zc (Zz v3) 0 v3.length 3 [(ii (rd l0 (tn v17)).a), (ii 0), (ii 1), (ii (rd l0 (tn v17)).b), (ii 0), (ii (-1))]) (Zz (v3 ++ [(R3.mk (rd l0 (tn v17)).a 0 1), (R3.mk (rd l0 (tn v17)).b 0 (-1))]))) (pp (pp (xF (Zc (Zz v3) 0 v3.length 3 [(ii (rd l0 (tn v17)).a), (ii 0), (ii 1), (ii (rd l0 (tn v17)).b), (ii 0), (ii (-1))])) nn) (ww o1 (ww o0 (tt k0 nn))))))))))) (fun k0 => (sl z0c 38 [] ⟨(List.range 8), [], spjN1, spjM1⟩ ⟨[], [], []⟩ [false, true] (pp (fl v3 nn) (tt k0 nn)))))
 | .h1 v3 v17 => (lb (fun k0 => (lo fun o0 => (lo fun o1 => (sl z0c 36 [] ⟨[0, 1, 2, 3, 4, 5, 6, 10], [], spjN1, spjM1⟩ ⟨[(3, .len (v3 ++ [(R3.mk (rd l1 (tn v17)).a 1 1), (R3.mk (rd l1 (tn v17)).b 1 (-1))]).length)], (kpB 7 [.rowed 3 (v3 ++ [(R3.mk (rd l1 (tn v17)).a 1 1), (R3.mk (rd l1 (tn v17)).b 1 (-1))]).length (Zz (v3 ++ [(R3.mk (rd l1 (tn v17)).a 1 1), (R3.mk (rd l1 (tn v17)).b 1 (-1))]))]), []⟩ [true] (pp (xL (v3.length + 2) (v3 ++ [(R3.mk (rd l1 (tn v17)).a 1 1), (R3.mk (rd l1 (tn v17)).b 1 (-1))]).length) (pp (xL (v3.length + 2) (v3 ++ [(R3.mk (rd l1 (tn v17)).a 1 1), (R3.mk (rd l1 (tn v17)).b 1 (-1))]).length) (pp (xS (v3.length + 2) (Zc (Zz v3) 0 v3.length 3 [(ii (rd l1 (tn v17)).a), (ii 1), (ii 1), (ii (rd l1 (tn v17)).b), (ii 1), (ii (-1))]) (Zz (v3 ++ [(R3.mk (rd l1 (tn v17)).a 1 1), (R3.mk (rd l1 (tn v17)).b 1 (-1))]))) (pp (pp (xF (Zc (Zz v3) 0 v3.length 3 [(ii (rd l1 (tn v17)).a), (ii 1), (ii 1), (ii (rd l1 (tn v17)).b), (ii 1), (ii (-1))])) nn) (ww o1 (ww o0 (tt k0 nn))))))))))) (fun k0 => (lo fun o0 => (lo fun o1 => (lo fun o2 => (sl z0c 54 [(183, 2, Zz ([] : List R2))] ⟨[9, 1, 2, 4, 5, 6, 3, 7, 10], [], z9j, z9k⟩ ⟨[(5, .len (Qw (cvT v3)).length)], (kpB 6 [.cells [.grow 8 2], .rowed 3 (Qw (cvT v3)).length (Zz (Qw (cvT v3))), .keep]), []⟩ [false, false] (pp (xL v3.length (Qw (cvT v3)).length (by first | exact z4p _ | exact Vo rfl)) (pp (xL v3.length (Qw (cvT v3)).length (by first | exact z4p _ | exact Vo rfl)) (pp (xS v3.length (Zz (Qw (cvT v3))) (Zz (Qw (cvT v3)))) (pp (fl (Qw (cvT v3)) (fl ([] : List R2) nn)) (pp (pp (xG (Nat.beq 3 3)) (pp (xG (Nat.beq 3 3)) (pp (xG (Nat.beq 0 0)) (pp (pp (xG (decide (v3.length = v3.length))) (pp (xr v3) (xG (decide (v3.length < 4611686018427387904))))) (xG (z7h (cvT v3))))))) (tt k0 nn))))))))))))
 | .h2 v5 v6 v7 v_2_0 v_2_1 v_3_0 v_4_0 v_6_0 => (lb (fun k0 => (lo fun o1_0 => (lo fun o1_1 => (lb (fun k1 => (lb (fun k2 => (sl z0c 62 [] ⟨(List.range 9), [], z9j, z9k⟩ ⟨[], [], []⟩ (trs 5 [false, false, false]) (pp (fl v5 (fl v_6_0 nn)) (ww k2 (tt k1 (ww o1_1 (ww o1_0 (tt k0 nn)))))))) (fun k2 => (lb (fun k3 => (sl z0c 62 [] ⟨(List.range 9), [], z9j, z9k⟩ ⟨[], [], []⟩ (trs 6 [false, true, false, false]) (pp (fl v5 (fl v_6_0 nn)) (ww k3 (tt k1 (ww o1_1 (ww o1_0 (tt k0 nn)))))))) (fun k3 => trivial))))) (fun k1 => (lb (fun k2 => (lb (fun k3 => (sl z0c 62 [] ⟨(List.range 9), [], z9j, z9k⟩ ⟨[], [], []⟩ [true, false, false, false, true, false, false, false] (pp (fl v5 (fl v_6_0 nn)) (ww k3 (tt k2 (tt k1 (ww o1_1 (ww o1_0 (tt k0 nn))))))))) (fun k3 => (lb (fun k4 => (sl z0c 62 [] ⟨(List.range 9), [], z9j, z9k⟩ ⟨[], [], []⟩ [true, false, false, false, true, true, false, true, false, false] (pp (fl v5 (fl v_6_0 nn)) (ww k4 (tt k2 (tt k1 (ww o1_1 (ww o1_0 (tt k0 nn))))))))) (fun k4 => trivial))))) (fun k2 => (lb (fun k3 => (lo fun o4_0 => (lo fun o4_1 => (lb (fun k4 => (lb (fun k5 => (sl z0c 81 [] ⟨(List.range 9), [], z9j, z9k⟩ ⟨[], (kpB 6 [.cells [.len (v_6_0.set (0 + (tn (wr (((v_6_0.length : Nat) : Int) - 1)))) (R2.mk (rd v_6_0 (0 + (tn (wr (((v_6_0.length : Nat) : Int) - 1))))).a (rd v5 (0 + (tn v7))).a)).length], .keep, .rowed 2 (v_6_0.set (0 + (tn (wr (((v_6_0.length : Nat) : Int) - 1)))) (R2.mk (rd v_6_0 (0 + (tn (wr (((v_6_0.length : Nat) : Int) - 1))))).a (rd v5 (0 + (tn v7))).a)).length (Zz (v_6_0.set (0 + (tn (wr (((v_6_0.length : Nat) : Int) - 1)))) (R2.mk (rd v_6_0 (0 + (tn (wr (((v_6_0.length : Nat) : Int) - 1))))).a (rd v5 (0 + (tn v7))).a)))]), []⟩ [true, false, false, false, false, true, true, true, true, true, true, true, true, true, false, false, false] (pp (xL v_6_0.length (v_6_0.set (0 + (tn (wr (((v_6_0.length : Nat) : Int) - 1)))) (R2.mk (rd v_6_0 (0 + (tn (wr (((v_6_0.length : Nat) : Int) - 1))))).a (rd v5 (0 + (tn v7))).a)).length) (pp (xL v_6_0.length (v_6_0.set (0 + (tn (wr (((v_6_0.length : Nat) : Int) - 1)))) (R2.mk (rd v_6_0 (0 + (tn (wr (((v_6_0.length : Nat) : Int) - 1))))).a (rd v5 (0 + (tn v7))).a)).length) (pp (xS v_6_0.length (Xm (Zz v_6_0) (0 + (tn (wr (((v_6_0.length : Nat) : Int) - 1)))) 1 [(ii (rd v5 (0 + (tn v7))).a)]) (Zz (v_6_0.set (0 + (tn (wr (((v_6_0.length : Nat) : Int) - 1)))) (R2.mk (rd v_6_0 (0 + (tn (wr (((v_6_0.length : Nat) : Int) - 1))))).a (rd v5 (0 + (tn v7))).a)))) (pp (fl v5 (pp (xF (Xm (Zz v_6_0) (0 + (tn (wr (((v_6_0.length : Nat) : Int) - 1)))) 1 [(ii (rd v5 (0 + (tn v7))).a)])) nn)) (ww k5 (ww o4_1 (ww o4_0 (tt k4 (ww o4_1 (ww o4_0 (tt k3 (tt k2 (tt k1 (ww o1_1 (ww o1_0 (tt k0 nn)))))))))))))))))) (fun k5 => (lb (fun k6 => (sl z0c 81 [] ⟨(List.range 9), [], z9j, z9k⟩ ⟨[], (kpB 6 [.cells [.len (v_6_0.set (0 + (tn (wr (((v_6_0.length : Nat) : Int) - 1)))) (R2.mk (rd v_6_0 (0 + (tn (wr (((v_6_0.length : Nat) : Int) - 1))))).a (rd v5 (0 + (tn v7))).a)).length], .keep, .rowed 2 (v_6_0.set (0 + (tn (wr (((v_6_0.length : Nat) : Int) - 1)))) (R2.mk (rd v_6_0 (0 + (tn (wr (((v_6_0.length : Nat) : Int) - 1))))).a (rd v5 (0 + (tn v7))).a)).length (Zz (v_6_0.set (0 + (tn (wr (((v_6_0.length : Nat) : Int) - 1)))) (R2.mk (rd v_6_0 (0 + (tn (wr (((v_6_0.length : Nat) : Int) - 1))))).a (rd v5 (0 + (tn v7))).a)))]), []⟩ [true, false, false, false, false, true, true, true, true, true, true, true, true, true, true, false, true, false, false] (pp (xL v_6_0.length (v_6_0.set (0 + (tn (wr (((v_6_0.length : Nat) : Int) - 1)))) (R2.mk (rd v_6_0 (0 + (tn (wr (((v_6_0.length : Nat) : Int) - 1))))).a (rd v5 (0 + (tn v7))).a)).length) (pp (xL v_6_0.length (v_6_0.set (0 + (tn (wr (((v_6_0.length : Nat) : Int) - 1)))) (R2.mk (rd v_6_0 (0 + (tn (wr (((v_6_0.length : Nat) : Int) - 1))))).a (rd v5 (0 + (tn v7))).a)).length) (pp (xS v_6_0.length (Xm (Zz v_6_0) (0 + (tn (wr (((v_6_0.length : Nat) : Int) - 1)))) 1 [(ii (rd v5 (0 + (tn v7))).a)]) (Zz (v_6_0.set (0 + (tn (wr (((v_6_0.length : Nat) : Int) - 1)))) (R2.mk (rd v_6_0 (0 + (tn (wr (((v_6_0.length : Nat) : Int) - 1))))).a (rd v5 (0 + (tn v7))).a)))) (pp (fl v5 (pp (xF (Xm (Zz v_6_0) (0 + (tn (wr (((v_6_0.length : Nat) : Int) - 1)))) 1 [(ii (rd v5 (0 + (tn v7))).a)])) nn)) (ww k6 (ww o4_1 (ww o4_0 (tt k4 (ww o4_1 (ww o4_0 (tt k3 (tt k2 (tt k1 (ww o1_1 (ww o1_0 (tt k0 nn)))))))))))))))))) (fun k6 => trivial))))) (fun k4 => (lo fun o5_0 => (lb (fun k5 => (sl z0c 81 [] ⟨[0, 1, 2, 3, 4, 5, 6, 7, 12], [], z9j, z9k⟩ ⟨[], (kpB 6 [.cells [.len (v_6_0 ++ [(R2.mk v_3_0 (rd v5 (0 + (tn v7))).a)]).length], .keep, .rowed 2 (v_6_0 ++ [(R2.mk v_3_0 (rd v5 (0 + (tn v7))).a)]).length (Zz (v_6_0 ++ [(R2.mk v_3_0 (rd v5 (0 + (tn v7))).a)]))]), []⟩ [true, false, false, false, false, true, true, true, true, true, true, true, true, false, false, false, false] (pp (xL (v_6_0.length + 1) (v_6_0 ++ [(R2.mk v_3_0 (rd v5 (0 + (tn v7))).a)]).length) (pp (xL (v_6_0.length + 1) (v_6_0 ++ [(R2.mk v_3_0 (rd v5 (0 + (tn v7))).a)]).length) (pp (xS (v_6_0.length + 1) (Zc (Zz v_6_0) 0 v_6_0.length 2 [(ii v_3_0), (ii (rd v5 (0 + (tn v7))).a)]) (Zz (v_6_0 ++ [(R2.mk v_3_0 (rd v5 (0 + (tn v7))).a)]))) (pp (fl v5 (pp (xF (Zc (Zz v_6_0) 0 v_6_0.length 2 [(ii v_3_0), (ii (rd v5 (0 + (tn v7))).a)])) nn)) (ww k5 (ww o5_0 (tt k4 (ww o4_1 (ww o4_0 (tt k3 (tt k2 (tt k1 (ww o1_1 (ww o1_0 (tt k0 nn))))))))))))))))) (fun k5 => (lb (fun k6 => (sl z0c 81 [] ⟨[0, 1, 2, 3, 4, 5, 6, 7, 12], [], z9j, z9k⟩ ⟨[], (kpB 6 [.cells [.len (v_6_0 ++ [(R2.mk v_3_0 (rd v5 (0 + (tn v7))).a)]).length], .keep, .rowed 2 (v_6_0 ++ [(R2.mk v_3_0 (rd v5 (0 + (tn v7))).a)]).length (Zz (v_6_0 ++ [(R2.mk v_3_0 (rd v5 (0 + (tn v7))).a)]))]), []⟩ [true, false, false, false, false, true, true, true, true, true, true, true, true, false, true, false, true, false, false] (pp (xL (v_6_0.length + 1) (v_6_0 ++ [(R2.mk v_3_0 (rd v5 (0 + (tn v7))).a)]).length) (pp (xL (v_6_0.length + 1) (v_6_0 ++ [(R2.mk v_3_0 (rd v5 (0 + (tn v7))).a)]).length) (pp (xS (v_6_0.length + 1) (Zc (Zz v_6_0) 0 v_6_0.length 2 [(ii v_3_0), (ii (rd v5 (0 + (tn v7))).a)]) (Zz (v_6_0 ++ [(R2.mk v_3_0 (rd v5 (0 + (tn v7))).a)]))) (pp (fl v5 (pp (xF (Zc (Zz v_6_0) 0 v_6_0.length 2 [(ii v_3_0), (ii (rd v5 (0 + (tn v7))).a)])) nn)) (ww k6 (ww o5_0 (tt k4 (ww o4_1 (ww o4_0 (tt k3 (tt k2 (tt k1 (ww o1_1 (ww o1_0 (tt k0 nn))))))))))))))))) (fun k6 => trivial)))))))))) (fun k3 => (lo fun o4_0 => (lb (fun k4 => (sl z0c 81 [] ⟨[0, 1, 2, 3, 4, 5, 6, 7, 12], [], z9j, z9k⟩ ⟨[], (kpB 6 [.cells [.len (v_6_0 ++ [(R2.mk v_3_0 (rd v5 (0 + (tn v7))).a)]).length], .keep, .rowed 2 (v_6_0 ++ [(R2.mk v_3_0 (rd v5 (0 + (tn v7))).a)]).length (Zz (v_6_0 ++ [(R2.mk v_3_0 (rd v5 (0 + (tn v7))).a)]))]), []⟩ [true, false, false, false, false, false, false, false, false, false, false, false, false, false, false, false, false] (pp (xL (v_6_0.length + 1) (v_6_0 ++ [(R2.mk v_3_0 (rd v5 (0 + (tn v7))).a)]).length) (pp (xL (v_6_0.length + 1) (v_6_0 ++ [(R2.mk v_3_0 (rd v5 (0 + (tn v7))).a)]).length) (pp (xS (v_6_0.length + 1) (Zc (Zz v_6_0) 0 v_6_0.length 2 [(ii v_3_0), (ii (rd v5 (0 + (tn v7))).a)]) (Zz (v_6_0 ++ [(R2.mk v_3_0 (rd v5 (0 + (tn v7))).a)]))) (pp (fl v5 (pp (xF (Zc (Zz v_6_0) 0 v_6_0.length 2 [(ii v_3_0), (ii (rd v5 (0 + (tn v7))).a)])) nn)) (ww k4 (ww o4_0 (tt k3 (tt k2 (tt k1 (ww o1_1 (ww o1_0 (tt k0 nn)))))))))))))) (fun k4 => (lb (fun k5 => (sl z0c 81 [] ⟨[0, 1, 2, 3, 4, 5, 6, 7, 12], [], z9j, z9k⟩ ⟨[], (kpB 6 [.cells [.len (v_6_0 ++ [(R2.mk v_3_0 (rd v5 (0 + (tn v7))).a)]).length], .keep, .rowed 2 (v_6_0 ++ [(R2.mk v_3_0 (rd v5 (0 + (tn v7))).a)]).length (Zz (v_6_0 ++ [(R2.mk v_3_0 (rd v5 (0 + (tn v7))).a)]))]), []⟩ [true, false, false, false, false, false, false, false, false, false, false, false, false, false, true, false, true, false, false] (pp (xL (v_6_0.length + 1) (v_6_0 ++ [(R2.mk v_3_0 (rd v5 (0 + (tn v7))).a)]).length) (pp (xL (v_6_0.length + 1) (v_6_0 ++ [(R2.mk v_3_0 (rd v5 (0 + (tn v7))).a)]).length) (pp (xS (v_6_0.length + 1) (Zc (Zz v_6_0) 0 v_6_0.length 2 [(ii v_3_0), (ii (rd v5 (0 + (tn v7))).a)]) (Zz (v_6_0 ++ [(R2.mk v_3_0 (rd v5 (0 + (tn v7))).a)]))) (pp (fl v5 (pp (xF (Zc (Zz v_6_0) 0 v_6_0.length 2 [(ii v_3_0), (ii (rd v5 (0 + (tn v7))).a)])) nn)) (ww k5 (ww o4_0 (tt k3 (tt k2 (tt k1 (ww o1_1 (ww o1_0 (tt k0 nn)))))))))))))) (fun k5 => trivial)))))))))))))) (fun k0 => (lb (fun k1 => (lr 11 3 [1, 1, 1, 1, 1, 1, 1, 0] 1 28 [(4, .nils), (5, (ii 4))] (sl z0c 37 [] ⟨[], [], [some [4, 5]], []⟩ ⟨[], [], []⟩ [false, true] (tt k1 (tt k0 nn))))) (fun k1 => (lr 11 3 [1, 1, 1, 1, 1, 1, 1, 0] 1 28 [(4, (.dat v_6_0.length (Zz v_6_0))), (5, (ii 0))] (sl z0c 39 [] ⟨[], [8], [some [4, 5]], []⟩ ⟨[(4, .frz v_6_0.length v_6_0.length (Zz v_6_0) (Zz v_6_0))], [], []⟩ [false, false] (pp (xZ (z3v 2 2 0 v_6_0.length v_6_0.length (Zz v_6_0)) v_6_0.length (Zz v_6_0)) (pp (xL v_6_0.length v_6_0.length) (pp (xS v_6_0.length (Zz v_6_0) (Zz v_6_0)) (pp (fl v_6_0 nn) (tt k1 (tt k0 nn))))))))))))
theorem y8v (q : Op) (l0 : List R2) (l1 : List R2) : Xh Tryz.prog (Zy Tryz.prog (nSp q)) (spjC q l0 l1) (Zf Tryz.prog (nSp q) [(.dat l0.length (Zz l0)), (.dat l1.length (Zz l1))] true []) (z7u q l0 l1) := by cases q <;> exact (lo fun o0_0 => (lb (fun k0 => (lr 11 3 [1, 1, 1, 1, 1, 1, 1, 0] 1 28 [(4, .nils), (5, (ii (y3u (cvT l0))))] (sl z0c 40 [] ⟨[], [], [some [4, 5]], []⟩ ⟨[], [], []⟩ [true] (tt k0 (pp (pp (xr l0) (xw o0_0)) nn))))) (fun k0 => (lo fun o1_0 => (lb (fun k1 => (lr 11 3 [1, 1, 1, 1, 1, 1, 1, 0] 1 28 [(4, .nils), (5, (ii (y3u (cvT l1))))] (sl z0c 54 [] ⟨[], [], [some [4, 5]], []⟩ ⟨[], [], []⟩ [false, true] (tt k1 (pp (pp (xr l1) (xw o1_0)) (tt k0 (pp (pp (xr l0) (xw o0_0)) nn))))))) (fun k1 => (sl z0c 124 [(246, 3, Zz ([] : List R3))] ⟨[6, 0, 1, 2, 3, 4, 5, 7], [], spjN0, spjM0⟩ ⟨[(3, .grow 7 3)], [], []⟩ [false, false, true] (pp (fl ([] : List R3) nn) (tt k1 (pp (pp (xr l1) (xw o1_0)) (tt k0 (pp (pp (xr l0) (xw o0_0)) nn))))))))))))
theorem w4d (q : Op) (l0 : List R2) (l1 : List R2) (n : Nat) (vs : List AVal) (h : Ya (Wu q l0 l1) n (z7u q l0 l1) = .ret vs) : Je Tryz.prog (Zy Tryz.prog (nSp q)) (Zf Tryz.prog (nSp q) [(.dat l0.length (Zz l0)), (.dat l1.length (Zz l1))] true []) vs := by
 have := Zn (x5c q l0 l1) n _ (y8v q l0 l1)
 rwa [h] at this
end Go.Am
end
section
set_option linter.unusedVariables false
set_option linter.unusedSimpArgs false
namespace Go.Am
open Go.Proofs
open Go.Sort Go.Shelf Go.RowKit Go.Lib
set_option maxRecDepth 100000
set_option maxHeartbeats 4000000
set_option linter.unusedVariables false
set_option linter.unusedSimpArgs false
noncomputable def spE (k : Nat) (a b : List R2) : Int := bif y3u a != 0 then y3u a else bif y3u b != 0 then y3u b else w3w (spJ k a b).length
theorem z6w (i : Int) (l : List R2) : (Xo i l).length = 2 * l.length := by
 induction l with
 | nil => rfl
 | cons r l ih => show (_ :: _ :: Xo i l).length = _; simp only [List.length_cons, ih]; omega
theorem y3c (j : Int) (l : List R2) (i : Nat) (h : i < l.length) : Xo j (l.drop i) = Xo j [rd l i] ++ Xo j (l.drop (i + 1)) := by
 rw [Yh h]; rfl
theorem z4z {j : Int} {l : List R2} {e : R3} (h : e ∈ Xo j l) : e.b = j ∧ (e.c = 1 ∨ e.c = -1) := by
 obtain ⟨s, _, h⟩ := List.mem_flatMap.1 h
 simp only [List.mem_cons, List.not_mem_nil, or_false] at h
 rcases h with rfl | rfl
 ·exact ⟨rfl, .inl rfl⟩
 ·exact ⟨rfl, .inr rfl⟩
theorem x2r (f : Bool → Bool → Bool) (e : R3) (r : List R3) (o p last : Int) (inn : Bool) (out : List R2) : sw2 f (e :: r) o p last inn out = sw2 f r (bif e.b == 0 then o + e.c else o) (bif e.b == 0 then p else p + e.c) e.a (f (decide ((bif e.b == 0 then o + e.c else o) > 0)) (decide ((bif e.b == 0 then p else p + e.c) > 0))) (Wr out last inn e.a) := rfl
section
variable (q : Op) (a b : List R2)
theorem w8l (L : List R3) (hL : L.length ≤ 2000) (hE : ∀ i, i < L.length → ((rd L i).b = 0 ∨ (rd L i).b = 1) ∧ ((rd L i).c = 1 ∨ (rd L i).c = -1)) : ∀ (k i : Nat) (o p last : Int) (inn : Bool) (out : List R2), i + k = L.length → -(i : Int) ≤ o → o ≤ i → -(i : Int) ≤ p → p ≤ i → out.length ≤ i →
  ∃ n, Ya (Wu q a b) n (.to (.h2 L (L.length : Int) (i : Int) o p last inn out)) = .ret (Qg (sw2 (opB q.k) (L.drop i) o p last inn out))
 | 0, i, o, p, last, inn, out, h, ho1, ho2, hp1, hp2, hout => by
  refine ⟨1, ?_⟩
  rw [Zv, List.drop_eq_nil_of_le (by omega)]
  unfold Qg
  show _ = Xn.ret (bif decide ((out.length : Int) > 400) then _ else _)
  rcases Yb (decide ((out.length : Int) > 400)) with g | g <;>
  simp (disch := omega) only [Wu, Yx, g, cond_true, cond_false, Zm]
  rfl
 | k + 1, i, o, p, last, inn, out, h, ho1, ho2, hp1, hp2, hout => by
  obtain ⟨hb, hc⟩ := hE i (by omega)
  have hcl := z0o out last inn (rd L i).a
  have hcf : ∀ x y, cV q x y = opB q.k x y := fun _ _ => rfl
  have hlt : decide ((i : Int) < ((L.length : Nat) : Int)) = true := decide_eq_true (by omega)
  have hw : IntKind.wrap .i64 (o + (rd L i).c) = o + (rd L i).c := Zq (by rcases hc with hc | hc <;> omega)
  have hw' : IntKind.wrap .i64 (p + (rd L i).c) = p + (rd L i).c := Zq (by rcases hc with hc | hc <;> omega)
  have key : ∀ (o' p' : Int) (out' : List R2), -((i + 1 : Nat) : Int) ≤ o' → o' ≤ ((i + 1 : Nat) : Int) → -((i + 1 : Nat) : Int) ≤ p' → p' ≤ ((i + 1 : Nat) : Int) → out' = Wr out last inn (rd L i).a →
    Wu q a b (.h2 L (L.length : Int) (i : Int) o p last inn out) = .to (.h2 L (L.length : Int) ((i + 1 : Nat) : Int) o' p' (rd L i).a (opB q.k (decide (o' > 0)) (decide (p' > 0))) out') →
    sw2 (opB q.k) (L.drop i) o p last inn out = sw2 (opB q.k) (L.drop (i + 1)) o' p' (rd L i).a (opB q.k (decide (o' > 0)) (decide (p' > 0))) out' →
    ∃ n, Ya (Wu q a b) n (.to (.h2 L (L.length : Int) (i : Int) o p last inn out)) = .ret (Qg (sw2 (opB q.k) (L.drop i) o p last inn out)) := fun o' p' out' b1 b2 b3 b4 eo hs hq => by
   obtain ⟨n, hn⟩ := w8l L hL hE k (i + 1) o' p' (rd L i).a (opB q.k (decide (o' > 0)) (decide (p' > 0))) out' (by omega) b1 b2 b3 b4 (by rw [eo]; omega)
   refine ⟨n + 1, ?_⟩
   rw [Zv, hs, hq]
   exact hn
  rcases hb with hb | hb
  ·have hz : decide ((rd L i).b = Int.ofNat 0) = true := decide_eq_true hb
   have hb0 : ((rd L i).b == 0) = true := by rw [hb]; rfl
   refine key (o + (rd L i).c) p (Wr out last inn (rd L i).a) (by rcases hc with hc | hc <;> omega) (by rcases hc with hc | hc <;> omega) (by omega) (by omega) rfl ?_ ?_
   ·unfold Wr
    cases inn with
    | false => simp (disch := omega) only [Wu, hlt, hz, hw, hw', hcf, Zr, Zo, Yy, Zq, Zx, Zu, Nat.zero_add, Bool.and_true, cond_true, cond_false, Bool.not_false]
    | true =>
     rcases Yb (last == (rd L i).a) with g | g
     ·simp (disch := omega) only [Wu, hlt, hz, hw, hw', hcf, Zr, Zo, Yy, Zq, Zx, Zu, Nat.zero_add, Bool.and_true, cond_true, cond_false, Bool.not_true, g]
     ·by_cases h0 : 0 < out.length
      ·rw [decide_eq_true h0, Bool.true_and]
       rcases Yb ((rd out (out.length - 1)).b == last) with q2 | q2
       ·simp (disch := omega) only [Wu, hlt, hz, hw, hw', hcf, Zr, Zo, Yy, Zq, Zx, Zu, Nat.zero_add, Bool.and_true, cond_true, cond_false, Bool.not_true, g, q2, Yd, Ze]
       ·simp (disch := omega) only [Wu, hlt, hz, hw, hw', hcf, Zr, Zo, Yy, Zq, Zx, Zu, Nat.zero_add, Bool.and_true, cond_true, cond_false, Bool.not_true, Bool.true_and, g, q2, Yd, Ze, Yw, Zb, Yu, decide_true]
      ·rw [decide_eq_false h0, Bool.false_and]
       simp (disch := omega) only [Wu, hlt, hz, hw, hw', hcf, Zr, Zo, Yy, Zq, Zx, Zu, Nat.zero_add, Bool.and_true, cond_true, cond_false, Bool.not_true, Bool.true_and, g, Xz, Yw, Zb, Yu, decide_true]
   ·rw [Yh (show i < L.length by omega), x2r, hb0]; rfl
  ·have hz0 : decide ((rd L i).b = Int.ofNat 0) = false := decide_eq_false (by rw [hb]; decide)
   have hz : decide ((rd L i).b = Int.ofNat 1) = true := decide_eq_true hb
   have hb0 : ((rd L i).b == 0) = false := by rw [hb]; rfl
   refine key o (p + (rd L i).c) (Wr out last inn (rd L i).a) (by omega) (by omega) (by rcases hc with hc | hc <;> omega) (by rcases hc with hc | hc <;> omega) rfl ?_ ?_
   ·unfold Wr
    cases inn with
    | false => simp (disch := omega) only [Wu, hlt, hz0, hz, hw, hw', hcf, Zr, Zo, Yy, Zq, Zx, Zu, Nat.zero_add, Bool.and_true, cond_true, cond_false, Bool.not_false]
    | true =>
     rcases Yb (last == (rd L i).a) with g | g
     ·simp (disch := omega) only [Wu, hlt, hz0, hz, hw, hw', hcf, Zr, Zo, Yy, Zq, Zx, Zu, Nat.zero_add, Bool.and_true, cond_true, cond_false, Bool.not_true, g]
     ·by_cases h0 : 0 < out.length
      ·rw [decide_eq_true h0, Bool.true_and]
       rcases Yb ((rd out (out.length - 1)).b == last) with q2 | q2
       ·simp (disch := omega) only [Wu, hlt, hz0, hz, hw, hw', hcf, Zr, Zo, Yy, Zq, Zx, Zu, Nat.zero_add, Bool.and_true, cond_true, cond_false, Bool.not_true, g, q2, Yd, Ze]
       ·simp (disch := omega) only [Wu, hlt, hz0, hz, hw, hw', hcf, Zr, Zo, Yy, Zq, Zx, Zu, Nat.zero_add, Bool.and_true, cond_true, cond_false, Bool.not_true, Bool.true_and, g, q2, Yd, Ze, Yw, Zb, Yu, decide_true]
      ·rw [decide_eq_false h0, Bool.false_and]
       simp (disch := omega) only [Wu, hlt, hz0, hz, hw, hw', hcf, Zr, Zo, Yy, Zq, Zx, Zu, Nat.zero_add, Bool.and_true, cond_true, cond_false, Bool.not_true, Bool.true_and, g, Xz, Yw, Zb, Yu, decide_true]
   ·rw [Yh (show i < L.length by omega), x2r, hb0]; rfl
theorem w8m (ha : a.length ≤ 400) (hb : b.length ≤ 400) (va : a.all Qd = true) (vb : b.all Qd = true) : ∀ (k i : Nat) (E : List R3), i + k = b.length → E.length = 2 * a.length + 2 * i → E ++ Xo 1 (b.drop i) = Xo 0 a ++ Xo 1 b → ∃ n, Ya (Wu q a b) n (.to (.h1 E (i : Int))) = .ret (Qg (spJ q.k a b))
 | 0, i, E, h, hl, he => by
  rw [List.drop_eq_nil_of_le (by omega), show Xo 1 [] = [] from rfl, List.append_nil] at he
  subst he
  have hbnd : z7h (Xo 0 a ++ Xo 1 b) = true := by
   have h1 := z5a 0 a va
   have h2 := z5a 1 b vb
   unfold z7h at *
   rw [List.all_append, h1, h2]; rfl
  have hsl := z9f (Xo 0 a ++ Xo 1 b)
  obtain ⟨hp, _⟩ := Jm _ hbnd
  obtain ⟨n, hn⟩ := w8l q a b (Qw (Xo 0 a ++ Xo 1 b)) (by rw [hsl]; omega) (fun i hi => by
   have hm : rd (Qw (Xo 0 a ++ Xo 1 b)) i ∈ Xo 0 a ++ Xo 1 b := hp.mem_iff.1 (by rw [Xk hi]; exact List.getElem_mem hi)
   rcases List.mem_append.1 hm with g | g
   ·exact ⟨.inl (z4z g).1, (z4z g).2⟩
   ·exact ⟨.inr (z4z g).1, (z4z g).2⟩) (Qw (Xo 0 a ++ Xo 1 b)).length 0 0 0 0 false [] (Nat.zero_add _) (by omega) (by omega) (by omega) (by omega) (Nat.zero_le _)
  refine ⟨n + 1, ?_⟩
  rw [Zv]
  have step : Wu q a b (.h1 (Xo 0 a ++ Xo 1 b) (i : Int)) = .to (.h2 (Qw (Xo 0 a ++ Xo 1 b)) (((Xo 0 a ++ Xo 1 b).length : Nat) : Int) 0 0 0 0 false []) := by
   simp (disch := omega) only [Wu, Zg, Yx, hbnd, Yy, decide_true, cond_true, cond_false]
  rw [step, ← hsl]
  exact hn
 | k + 1, i, E, h, hl, he => by
  rw [y3c 1 b i (by omega), ← List.append_assoc] at he
  obtain ⟨n, hn⟩ := w8m ha hb va vb k (i + 1) (E ++ Xo 1 [rd b i]) (by omega) (by rw [List.length_append, z6w]; simp; omega) he
  refine ⟨n + 1, ?_⟩
  rw [Zv]
  simp (disch := omega) only [Wu, Yw, Zb, Yu, decide_true, Bool.true_and, Zr, Zo, Yy, Zq, Zx, Zu, Nat.zero_add, Bool.and_true, cond_true, cond_false]
  exact hn
theorem w8n (ha : a.length ≤ 400) (hb : b.length ≤ 400) (va : a.all Qd = true) (vb : b.all Qd = true) : ∀ (k i : Nat) (E : List R3), i + k = a.length → E.length = 2 * i → E ++ Xo 0 (a.drop i) = Xo 0 a → ∃ n, Ya (Wu q a b) n (.to (.h0 E (i : Int))) = .ret (Qg (spJ q.k a b))
 | 0, i, E, h, hl, he => by
  rw [List.drop_eq_nil_of_le (by omega), show Xo 0 [] = [] from rfl, List.append_nil] at he
  subst he
  obtain ⟨n, hn⟩ := w8m q a b ha hb va vb b.length 0 (Xo 0 a) (Nat.zero_add _) (by omega) (by rw [List.drop_zero])
  refine ⟨n + 1, ?_⟩
  rw [Zv]
  simp (disch := omega) only [Wu, Yx, cond_false]
  exact hn
 | k + 1, i, E, h, hl, he => by
  rw [y3c 0 a i (by omega), ← List.append_assoc] at he
  obtain ⟨n, hn⟩ := w8n ha hb va vb k (i + 1) (E ++ Xo 0 [rd a i]) (by omega) (by rw [List.length_append, z6w]; simp; omega) he
  refine ⟨n + 1, ?_⟩
  rw [Zv]
  simp (disch := omega) only [Wu, Yw, Zb, Yu, decide_true, Bool.true_and, Zr, Zo, Yy, Zq, Zx, Zu, Nat.zero_add, Bool.and_true, cond_true, cond_false]
  exact hn
theorem v2b : ∃ n, Ya (Wu q a b) n (z7u q a b) = .ret (y2i (spE q.k a b) (spJ q.k a b)) := by
 unfold z7u
 have o : ∀ l, z1i l = true := fun _ => rfl
 simp only [Zg, o, cond_true]
 rcases Yb (y3u a != 0) with q1 | q1
 ·exact ⟨0, by simp only [spE, q1, cond_true, Qv _ q1]; rfl⟩
 rcases Yb (y3u b != 0) with q2 | q2
 ·exact ⟨0, by simp only [spE, q1, q2, cond_true, cond_false, Qv _ q2]; rfl⟩
 obtain ⟨a1, a2, _⟩ := (x2v a).1 (by simpa using q1)
 obtain ⟨b1, b2, _⟩ := (x2v b).1 (by simpa using q2)
 obtain ⟨n, hn⟩ := w8n q a b a1 b1 a2 b2 a.length 0 [] (Nat.zero_add _) rfl (by rw [List.drop_zero, List.nil_append])
 refine ⟨n, ?_⟩
 simp only [spE, q1, q2, cond_false, ← y0x]
 exact hn
end
noncomputable def z1f (q : Op) (a b : List R2) : List R2 := w2e (spE q.k a b) (spJ q.k a b)
noncomputable def x5d (q : Op) (a b : List R2) : Int := spE q.k a b
def y3o (q : Op) (a b : List R2) : Bool := true
noncomputable def fSp (q : Op) : List AVal → Option (AVal × Bool)
 | [a1, a2] => match asL R2 a1, asL R2 a2 with
  | some (L1, g1, n1), some (L2, g2, n2) => some (.tup [.dat (z1f q L1 L2).length (Zz (z1f q L1 L2)), .int .i64 (x5d q L1 L2)], isT R2 n1 g1 && (isT R2 n2 g2 && y3o q L1 L2))
  | _, _ => none
 | _ => none
theorem w1w (q : Op) {S : Specs} (hS : Zk Tryz.prog S) : Zk Tryz.prog (S.with (nSp q) (fSp q)) := by
 refine v4u hS (by cases q <;> kernel_rfl) fun args v h => ?_
 unfold fSp at h
 split at h
 ·rename_i a1 a2
  split at h
  ·rename_i L1 g1 n1 L2 g2 n2 e1 e2
   simp only [Option.some.injEq, Prod.mk.injEq, Bool.and_eq_true] at h
   obtain ⟨rfl, ho1, ho2, _⟩ := h
   obtain ⟨N, hN⟩ := v2b q L1 L2
   exact ⟨_, _, (.cons (asL_le e1 ho1) (.cons (asL_le e2 ho2) .nil)), z8g _ _, w4d q L1 L2 N _ hN, 3, y4b _ _⟩
  ·cases h
 ·cases h
noncomputable def Ub : Specs := ((Ua.with (nSp .u) (fSp .u)).with (nSp .e) (fSp .e)).with (nSp .d) (fSp .d)
theorem y1m : Zk Tryz.prog Ub := w1w .d (w1w .e (w1w .u z0c))
end Go.Am
end
section
set_option linter.unusedVariables false
set_option linter.unusedSimpArgs false
namespace Go.Am
open Go.Proofs
set_option maxRecDepth 1000000
set_option linter.unusedVariables false
set_option linter.unusedSimpArgs false
set_option maxHeartbeats 4000000
inductive rgcS where
 | h0 (v8 : Int)
noncomputable def rgcC (l0 : List R4) : rgcS → Cfg
 | .h0 v8 => ⟨⟨19, 0, true⟩, none, (Za Tryz.prog 203 [1, 0, 1, 0, 0] 0), none, (Zy Tryz.prog 5), ⟨Ym [(0, (.dat l0.length (Zz l0))), (1, (.fn 199 [])), (7, (ii ((l0.length : Nat) : Int))), (8, (ii v8))], Jy [] 0, 0, [], true⟩, [⟨⟨9, 0, true⟩, (Wm Tryz.prog 198 [1, 0] 2), (Za Tryz.prog 198 [1, 0] 1), none, (Zy Tryz.prog 5), Ym [(5, (.dat l0.length (Zz l0))), (6, (.fn 199 []))]⟩, ⟨⟨23, 0, true⟩, (Wm Tryz.prog 189 [1, 1, 0, 0] 1), (Za Tryz.prog 189 [1, 1, 0, 0] 1), none, (Zy Tryz.prog 3), Ym [(0, (.dat l0.length (Zz l0))), (8, (.dat l0.length (Zz l0)))]⟩], .leaf⟩
def rgcN0 : List (Option (List Nat)) := [some [0, 1, 7, 8], some [5, 6], some [0, 8]]
def rgcM0 : List (Option (List Nat)) := []
noncomputable def z0i (l0 : List R4) : rgcS → Xn rgcS
 | .h0 v8 => (bif (decide (v8 < ((l0.length : Nat) : Int))) then (bif ((decide (0 ≤ v8 ∧ v8 < ((l0.length : Nat) : Int))) && true) then (bif (!(v1v (rd l0 (Int.toNat v8)).a (rd l0 (Int.toNat v8)).b (rd l0 (Int.toNat v8)).c (rd l0 (Int.toNat v8)).d)) then (bif (decide (v8 ≥ 0)) then (.ret [(.int .i64 8)]) else (bif (Jb (cvT l0)) then (bif ((Qo (cvT l0)) != 0) then (.ret [(.int .i64 8)]) else (bif (Xt (cvT (Wx (cvT l0))) (cvT l0)) then (bif (!(Ve (cvT (Wx (cvT l0))) (cvT l0))) then (.ret [(.int .i64 8)]) else (.ret [(.int .i64 0)])) else .stuck)) else .stuck)) else (.to (.h0 (IntKind.wrap IntKind.i64 (v8 + 1))))) else .stuck) else (bif (Jb (cvT l0)) then (bif ((Qo (cvT l0)) != 0) then (.ret [(.int .i64 8)]) else (bif (Xt (cvT (Wx (cvT l0))) (cvT l0)) then (bif (!(Ve (cvT (Wx (cvT l0))) (cvT l0))) then (.ret [(.int .i64 8)]) else (.ret [(.int .i64 0)])) else .stuck)) else .stuck))
noncomputable def z4h (l0 : List R4) : Xn rgcS := (bif (decide (((l0.length : Nat) : Int) > 400)) then (.ret [(.int .i64 4)]) else (.to (.h0 0)))
theorem x5w (l0 : List R4) : ∀ s, Xh Tryz.prog (Zy Tryz.prog 189) (rgcC l0) (rgcC l0 s) (z0i l0 s)
 | .h0 v8 => (lb (fun k0 => (lo fun o1_0 => (lb (fun k1 => (lb (fun k2 => (lr 23 189 [1, 1, 0, 1, 0, 0] 1 3 [(2, (ii 8))] (sl y1m 53 [] ⟨[], [], [some [2]], []⟩ ⟨[], [], []⟩ (trs 3 []) (tt k2 (tt k1 (ww o1_0 (tt k0 nn))))))) (fun k2 => (lo fun o3_0 => (lb (fun k3 => (lr 23 189 [1, 1, 1, 0, 1, 1, 0, 0] 1 3 [(2, (ii 8))] (sl y1m 77 [] ⟨[], [], [some [2]], []⟩ ⟨[], [], []⟩ [true, true, false, true, true, true, true, true] (tt k3 (pp (pp (xr l0) (xw o3_0)) (tt k2 (tt k1 (ww o1_0 (tt k0 nn))))))))) (fun k3 => (lo fun o4_0 => (lb (fun k4 => (lr 23 189 [1, 1, 1, 0, 1, 1, 0, 0] 1 3 [(2, (ii 8))] (sl y1m 77 [] ⟨[], [], [some [2]], []⟩ ⟨[], [], []⟩ [true, true, false, false, false, false, false, true] (tt k4 (pp (pp (xI R4 (Wx (cvT l0)).length (Zz (Wx (cvT l0)))) (pp (xr l0) (xw o4_0))) (tt k3 (pp (pp (xr l0) (xw o3_0)) (tt k2 (tt k1 (ww o1_0 (tt k0 nn))))))))))) (fun k4 => (lr 23 3 [1, 1, 1, 1, 1, 1, 1, 0] 1 3 [(2, (ii 0))] (sl y1m 78 [] ⟨[], [], [some [2]], []⟩ ⟨[], [], []⟩ [true, true, false, false, false, false, false, false] (tt k4 (pp (pp (xI R4 (Wx (cvT l0)).length (Zz (Wx (cvT l0)))) (pp (xr l0) (xw o4_0))) (tt k3 (pp (pp (xr l0) (xw o3_0)) (tt k2 (tt k1 (ww o1_0 (tt k0 nn))))))))))))))))))) (fun k1 => (sl y1m 44 [] ⟨[], [], rgcN0, rgcM0⟩ ⟨[], [], []⟩ [true, false] (tt k1 (ww o1_0 (tt k0 nn)))))))) (fun k0 => (lo fun o1_0 => (lb (fun k1 => (lr 23 189 [1, 1, 1, 0, 1, 1, 0, 0] 1 3 [(2, (ii 8))] (sl y1m 46 [] ⟨[], [], [some [2]], []⟩ ⟨[], [], []⟩ [false, false, true, true, true, true, true] (tt k1 (pp (pp (xr l0) (xw o1_0)) (tt k0 nn)))))) (fun k1 => (lo fun o2_0 => (lb (fun k2 => (lr 23 189 [1, 1, 1, 0, 1, 1, 0, 0] 1 3 [(2, (ii 8))] (sl y1m 46 [] ⟨[], [], [some [2]], []⟩ ⟨[], [], []⟩ [false, false, false, false, false, false, true] (tt k2 (pp (pp (xI R4 (Wx (cvT l0)).length (Zz (Wx (cvT l0)))) (pp (xr l0) (xw o2_0))) (tt k1 (pp (pp (xr l0) (xw o1_0)) (tt k0 nn)))))))) (fun k2 => (lr 23 3 [1, 1, 1, 1, 1, 1, 1, 0] 1 3 [(2, (ii 0))] (sl y1m 47 [] ⟨[], [], [some [2]], []⟩ ⟨[], [], []⟩ [false, false, false, false, false, false, false] (tt k2 (pp (pp (xI R4 (Wx (cvT l0)).length (Zz (Wx (cvT l0)))) (pp (xr l0) (xw o2_0))) (tt k1 (pp (pp (xr l0) (xw o1_0)) (tt k0 nn)))))))))))))))
theorem y9q (l0 : List R4) : Xh Tryz.prog (Zy Tryz.prog 189) (rgcC l0) (Zf Tryz.prog 189 [(.dat l0.length (Zz l0))] true []) (z4h l0) := (lb (fun k0 => (lr 23 189 [1, 0, 1, 0, 0] 1 3 [(2, (ii 4))] (sl y1m 16 [] ⟨[], [], [some [2]], []⟩ ⟨[], [], []⟩ [true] (tt k0 nn)))) (fun k0 => (sl y1m 40 [] ⟨[], [], rgcN0, rgcM0⟩ ⟨[], [], []⟩ [false] (tt k0 nn))))
theorem w5p (l0 : List R4) (n : Nat) (vs : List AVal) (h : Ya (z0i l0) n (z4h l0) = .ret vs) : Je Tryz.prog (Zy Tryz.prog 189) (Zf Tryz.prog 189 [(.dat l0.length (Zz l0))] true []) vs := by
 have := Zn (x5w l0) n _ (y9q l0)
 rwa [h] at this
end Go.Am
end
section
set_option linter.unusedVariables false
set_option linter.unusedSimpArgs false
namespace Go.Am
open Go.Proofs
open Go.Sort Go.Shelf Go.RowKit Go.Lib
set_option maxRecDepth 100000
set_option maxHeartbeats 4000000
set_option linter.unusedVariables false
set_option linter.unusedSimpArgs false
noncomputable def rgcF (l : List R4) : Int := bif Qo l != 0 then 8 else bif Ve (Wx l) l then 0 else 8
noncomputable def z8e (l : List R4) : Int := bif decide (400 < l.length) then 4 else bif l.all Kj then rgcF l else 8
def z1l (l : List R4) : Bool := true
theorem x0m (l : List R4) : (Wx l).length ≤ 400 := by
 unfold Wx v4i w2e w3w
 by_cases h : ((D4.out l).length : Int) > 400
 ·rw [decide_eq_true h]; exact Nat.zero_le _
 ·rw [decide_eq_false h]; show (D4.out l).length ≤ 400; omega
theorem w9u (l : List R4) (hl : l.length ≤ 400) : ∀ (k i : Nat), i + k = l.length → (∀ s ∈ l.take i, Kj s = true) → ∃ n, Ya (z0i l) n (.to (.h0 (i : Int))) = .ret (bif l.all Kj then [.int .i64 (rgcF l)] else [.int .i64 8])
 | 0, i, h, ht => by
  have hv : l.all Kj = true := List.all_eq_true.2 fun s hs => ht s (by rw [List.take_of_length_le (by omega)]; exact hs)
  have w : Jb l = true := decide_eq_true hl
  refine ⟨1, ?_⟩
  rw [Zv, hv, cond_true]
  have w2 : Xt (Wx l) l = true := decide_eq_true (by have := x0m l; omega)
  unfold rgcF
  rcases Yb (Qo l != 0) with q | q
  ·simp (disch := omega) only [z0i, Zg, w, q, Yx, cond_true, cond_false, Zm]
  ·rcases Yb (Ve (Wx l) l) with q2 | q2 <;>
   simp (disch := omega) only [z0i, Zg, w, w2, q, q2, Yx, Bool.not_true, Bool.not_false, cond_true, cond_false, Zm]
 | k + 1, i, h, ht => by
  have hi : i < l.length := by omega
  have hs : z0i l (.h0 (i : Int)) = bif Kj (rd l i) then .to (.h0 ((i + 1 : Nat) : Int)) else .ret [.int .i64 8] := by
   have e : v1v (rd l i).a (rd l i).b (rd l i).c (rd l i).d = Kj (rd l i) := rfl
   simp (disch := omega) only [z0i, e, z6a, x4k, w2j, Zo, Zq, Zx, Zu, Bool.and_true, cond_true, cond_false]
  rcases Yb (Kj (rd l i)) with q | q
  ·obtain ⟨n, hn⟩ := w9u l hl k (i + 1) (by omega) (fun s hs => by
    rw [List.take_add_one] at hs
    have e : l[i]? = some (rd l i) := by rw [Xk hi]; exact List.getElem?_eq_getElem _
    rw [e] at hs
    simp only [Option.toList_some, List.mem_append, List.mem_singleton] at hs
    rcases hs with hs | rfl
    ·exact ht s hs
    ·exact q)
   refine ⟨n + 1, ?_⟩
   rw [Zv, hs, q, cond_true]
   exact hn
  ·have hv : l.all Kj = false := Bool.eq_false_iff.2 fun e => by
    have := List.all_eq_true.1 e (rd l i) (by rw [Xk hi]; exact List.getElem_mem hi)
    rw [this] at q; cases q
   refine ⟨1, ?_⟩
   rw [Zv, hv, cond_false, hs, q, cond_false, Zm]
theorem w5o (l : List R4) : ∃ n, Ya (z0i l) n (z4h l) = .ret (bif decide (400 < l.length) then [.int .i64 4] else bif l.all Kj then [.int .i64 (rgcF l)] else [.int .i64 8]) := by
 unfold z4h
 by_cases h : 400 < l.length
 ·refine ⟨0, ?_⟩
  rw [decide_eq_true h, Yd (show ((l.length : Nat) : Int) > 400 by omega)]; rfl
 ·obtain ⟨n, hn⟩ := w9u l (by omega) l.length 0 (Nat.zero_add _) (fun s hs => by simp at hs)
  refine ⟨n, ?_⟩
  rw [decide_eq_false h, Xz (show ¬ ((l.length : Nat) : Int) > 400 by omega), cond_false, cond_false]
  exact hn
theorem v3l (l : List R4) (h : z1l l = true) : ∃ n, Ya (z0i l) n (z4h l) = .ret [.int .i64 (z8e l)] := by
 obtain ⟨n, hn⟩ := w5o l
 refine ⟨n, hn.trans ?_⟩
 unfold z8e
 cases decide (400 < l.length) <;> cases l.all Kj <;> rfl
noncomputable def fRgc : List AVal → Option (AVal × Bool)
 | [a0] => match asL R4 a0 with
  | some (L0, g0, n0) => some (.int .i64 (z8e L0), isT R4 n0 g0 && (z1l L0))
  | _ => none
 | _ => none
theorem v5b {S : Specs} (hS : Zk Tryz.prog S) : Zk Tryz.prog (S.with x3p fRgc) := by
 refine z1d hS (by kernel_rfl) fun args v h => ?_
 unfold fRgc at h
 split at h
 ·rename_i a0
  split at h
  ·rename_i L0 g0 n0 e0
   simp only [Option.some.injEq, Prod.mk.injEq, Bool.and_eq_true] at h
   obtain ⟨rfl, ho0, hw⟩ := h
   obtain ⟨N, hN⟩ := v3l L0 hw
   exact ⟨_, _, (.cons (asL_le e0 ho0) .nil), rfl, w5p L0 N _ hN, 3, rfl⟩
  ·cases h
 ·cases h
noncomputable def Uc : Specs := (Ub.with x3p fRgc)
theorem Uo : Zk Tryz.prog Uc := (v5b y1m)
end Go.Am
end
section
set_option linter.unusedVariables false
set_option linter.unusedSimpArgs false
namespace Go.Am
open Go.Proofs
set_option maxRecDepth 1000000
set_option linter.unusedVariables false
set_option linter.unusedSimpArgs false
set_option maxHeartbeats 4000000
inductive rgjS where
 | h0 (v16 : Int) (v_2_0 : List Int)
 | h1 (v16 : Int) (v_2_0 : List Int)
 | h2 (v4 : Int) (v_4_0 : List R4) (v_4_1 : List R2) (v_4_2 : Int) (v_4_3 : Int) (v_5_0_000 : Nat) (v09_6 : List Int)
 | h3 (v4 : Int) (v38 : Int) (v_4_0 : List R4) (v_4_1 : List R2) (v_4_2 : Int) (v_4_3 : Int) (v_5_0_000 : Nat) (v09_6 : List Int) (v_9_0 : Int) (v_9_1 : Int) (v_10_0 : List R2)
 | h4 (v4 : Int) (v38 : Int) (v_4_0 : List R4) (v_4_1 : List R2) (v_4_2 : Int) (v_4_3 : Int) (v_5_0_000 : Nat) (v09_6 : List Int) (v_9_0 : Int) (v_9_1 : Int) (v_10_0 : List R2) (v_10_1 : List R2)
 | h5 (v1 : Int) (v2 : Int) (v71 : List R2) (v72 : Int) (v73 : Int) (v001_4 : Int) (v_0_0 : List R4) (v_0_2 : Int) (v_5_0_000 : Nat) (v09_6 : List Int) (v_9_0 : List R2) (v_9_1 : List R2)
 | h6 (v2 : Int) (v8 : Int) (v000_41 : Int) (v000_44 : List R2) (v001_4 : Int) (v_0_0 : List R4) (v_0_1 : List R2) (v_0_2 : Int) (v_0_3 : Int) (v_6_0_000 : Nat) (v09_7 : List Int) (v_10_0 : List R2) (v_10_1 : List R2)
noncomputable def rgjC (q : Op) (l0 : List R4) (l1 : List R4) : rgjS → Cfg
 | .h0 v16 v_2_0 => ⟨⟨34, 0, true⟩, none, (Za Tryz.prog 161 [1, 1, 0, 1, 0, 0, 1, 1, 0, 0, 1, 1, 0, 0] 0), none, (Zy Tryz.prog 3), ⟨Ym [(1, (.ptr 0 0)), (3, (.ptr 2 0)), (8, (.sl 1 0 2 (.un 1))), (9, (ii 2)), (10, (ii 0)), (14, (.dat l0.length (Zz l0))), (15, (ii ((l0.length : Nat) : Int))), (16, (ii v16))], Jy [⟨[(.sl 1 0 2 (.un 1))], 236, none⟩, ⟨[(.dat l0.length (Zz l0)), (.dat l1.length (Zz l1))], 100, none⟩, ⟨[(.sla 7 1 0 v_2_0.length (.un 1))], 93, none⟩, ⟨[(.fn (nSp q) [])], 151, none⟩, ⟨[.nils], 100, none⟩, ⟨[(ii 0)], 26, none⟩, ⟨[.nils, .nils, (ii 0), (ii 0)], 200, none⟩, ⟨rows v_2_0.length (Zz v_2_0), 3, some ⟨1, v_2_0.length, (Zz v_2_0)⟩⟩] 0, 8, [], true⟩, [⟨⟨49, 0, true⟩, (Wm Tryz.prog 122 [1, 1, 1, 0, 0] 3), (Za Tryz.prog 122 [1, 1, 1, 0, 0] 1), none, (Zy Tryz.prog 122), Ym [(5, (.ptr 3 0)), (6, (.ptr 4 0)), (7, (.ptr 5 0)), (9, (.ptr 6 0)), (21, (.sl 1 0 2 (.un 1)))]⟩, ⟨⟨11, 0, true⟩, (Wm Tryz.prog (nRg q) [1, 0] 2), (Za Tryz.prog (nRg q) [1, 0] 1), none, (Zy Tryz.prog 28), Ym [(6, (.dat l0.length (Zz l0))), (7, (.dat l1.length (Zz l1)))]⟩], .leaf⟩
 | .h1 v16 v_2_0 => ⟨⟨34, 0, true⟩, none, (Za Tryz.prog 161 [1, 1, 0, 1, 0, 0, 1, 1, 0, 0, 1, 1, 0, 0] 0), none, (Zy Tryz.prog 3), ⟨Ym [(1, (.ptr 0 0)), (3, (.ptr 2 0)), (8, (.sl 1 0 2 (.un 1))), (9, (ii 2)), (10, (ii 1)), (14, (.dat l1.length (Zz l1))), (15, (ii ((l1.length : Nat) : Int))), (16, (ii v16))], Jy [⟨[(.sl 1 0 2 (.un 1))], 236, none⟩, ⟨[(.dat l0.length (Zz l0)), (.dat l1.length (Zz l1))], 100, none⟩, ⟨[(.sla 7 1 0 v_2_0.length (.un 1))], 93, none⟩, ⟨[(.fn (nSp q) [])], 151, none⟩, ⟨[.nils], 100, none⟩, ⟨[(ii 0)], 26, none⟩, ⟨[.nils, .nils, (ii 0), (ii 0)], 200, none⟩, ⟨rows v_2_0.length (Zz v_2_0), 3, some ⟨1, v_2_0.length, (Zz v_2_0)⟩⟩] 0, 8, [], true⟩, [⟨⟨49, 0, true⟩, (Wm Tryz.prog 122 [1, 1, 1, 0, 0] 3), (Za Tryz.prog 122 [1, 1, 1, 0, 0] 1), none, (Zy Tryz.prog 122), Ym [(5, (.ptr 3 0)), (6, (.ptr 4 0)), (7, (.ptr 5 0)), (9, (.ptr 6 0)), (21, (.sl 1 0 2 (.un 1)))]⟩, ⟨⟨11, 0, true⟩, (Wm Tryz.prog (nRg q) [1, 0] 2), (Za Tryz.prog (nRg q) [1, 0] 1), none, (Zy Tryz.prog 28), Ym [(6, (.dat l0.length (Zz l0))), (7, (.dat l1.length (Zz l1)))]⟩], .leaf⟩
 | .h2 v4 v_4_0 v_4_1 v_4_2 v_4_3 v_5_0_000 v09_6 => ⟨⟨76, 0, true⟩, none, (Za Tryz.prog 190 [1, 0, 0] 0), none, [], ⟨Ym [(0, (.yld 0)), (1, (.ptr 5 0)), (2, (.ptr 7 0)), (4, (ii v4))], z6p [(1, ⟨[(.fn (nSp q) [])], 151, none⟩), (2, ⟨[.nils], 100, none⟩), (3, ⟨[(ii 0)], 26, none⟩), (4, ⟨[(.sla 9 4 0 v_4_0.length (.un 4)), (.dat v_4_1.length (Zz v_4_1)), (ii v_4_2), (ii v_4_3)], 200, none⟩), (5, ⟨[(.sla 6 1 0 v_5_0_000 (.un 1))], 93, none⟩), (6, ⟨rows v09_6.length (Zz v09_6), 3, some ⟨1, v09_6.length, (Zz v09_6)⟩⟩), (7, ⟨[(.sl 8 0 2 (.un 1))], 236, none⟩), (8, ⟨[(.dat l0.length (Zz l0)), (.dat l1.length (Zz l1))], 100, none⟩), (9, ⟨rows v_4_0.length (Zz v_4_0), 88, some ⟨4, v_4_0.length, (Zz v_4_0)⟩⟩)], 10, [], true⟩, [⟨⟨49, 0, true⟩, none, (.inRangeFunc 0 :: (Za Tryz.prog 122 [1, 1, 1, 0, 1, 0] 1)), none, (Zy Tryz.prog 122), Ym [(6, (.ptr 2 0)), (7, (.ptr 3 0)), (9, (.ptr 4 0))]⟩, ⟨⟨11, 0, true⟩, (Wm Tryz.prog (nRg q) [1, 0] 2), (Za Tryz.prog (nRg q) [1, 0] 1), none, (Zy Tryz.prog 28), Ym [(6, (.dat l0.length (Zz l0))), (7, (.dat l1.length (Zz l1)))]⟩], (z6q [(0, ⟨.ready, none, 49, Ym [(5, (.ptr 1 0)), (6, (.ptr 2 0)), (7, (.ptr 3 0)), (9, (.ptr 4 0))], [23], (Wz Tryz.prog 122 [1, 1, 1, 0, 1, 0, 0]), (Wz Tryz.prog 122 [1, 1, 1, 0, 1, 0, 1])⟩)])⟩
 | .h3 v4 v38 v_4_0 v_4_1 v_4_2 v_4_3 v_5_0_000 v09_6 v_9_0 v_9_1 v_10_0 => ⟨⟨76, 0, true⟩, none, (Za Tryz.prog 190 [1, 0, 0, 1, 0, 0, 1, 0, 1, 0, 0, 1, 1, 0, 0, 1, 1, 0, 0] 0), none, [], ⟨Ym [(0, (.yld 0)), (1, (.ptr 5 0)), (2, (.ptr 7 0)), (4, (ii v4)), (5, (.ptr 9 0)), (6, (ii 0)), (29, (.sl 8 0 2 (.un 1))), (30, (ii 2)), (31, (ii 0)), (36, (.dat l0.length (Zz l0))), (37, (ii ((l0.length : Nat) : Int))), (38, (ii v38))], z6p [(1, ⟨[(.fn (nSp q) [])], 151, none⟩), (2, ⟨[.nils], 100, none⟩), (3, ⟨[(ii 0)], 26, none⟩), (4, ⟨[(.sla 12 4 0 v_4_0.length (.un 4)), (.dat v_4_1.length (Zz v_4_1)), (ii v_4_2), (ii v_4_3)], 200, none⟩), (5, ⟨[(.sla 6 1 0 v_5_0_000 (.un 1))], 93, none⟩), (6, ⟨rows v09_6.length (Zz v09_6), 3, some ⟨1, v09_6.length, (Zz v09_6)⟩⟩), (7, ⟨[(.sl 8 0 2 (.un 1))], 236, none⟩), (8, ⟨[(.dat l0.length (Zz l0)), (.dat l1.length (Zz l1))], 100, none⟩), (9, ⟨[(ii v_9_0), (ii v_9_1), (.sl 10 0 2 (.ex 2))], 205, none⟩), (10, ⟨[(.sla 11 2 0 v_10_0.length (.un 2)), .nils], 180, none⟩), (11, ⟨rows v_10_0.length (Zz v_10_0), 183, some ⟨2, v_10_0.length, (Zz v_10_0)⟩⟩), (12, ⟨rows v_4_0.length (Zz v_4_0), 88, some ⟨4, v_4_0.length, (Zz v_4_0)⟩⟩)], 13, [], true⟩, [⟨⟨49, 0, true⟩, none, (.inRangeFunc 0 :: (Za Tryz.prog 122 [1, 1, 1, 0, 1, 0] 1)), none, (Zy Tryz.prog 122), Ym [(6, (.ptr 2 0)), (7, (.ptr 3 0)), (9, (.ptr 4 0))]⟩, ⟨⟨11, 0, true⟩, (Wm Tryz.prog (nRg q) [1, 0] 2), (Za Tryz.prog (nRg q) [1, 0] 1), none, (Zy Tryz.prog 28), Ym [(6, (.dat l0.length (Zz l0))), (7, (.dat l1.length (Zz l1)))]⟩], (z6q [(0, ⟨.ready, none, 49, Ym [(5, (.ptr 1 0)), (6, (.ptr 2 0)), (7, (.ptr 3 0)), (9, (.ptr 4 0))], [23], (Wz Tryz.prog 122 [1, 1, 1, 0, 1, 0, 0]), (Wz Tryz.prog 122 [1, 1, 1, 0, 1, 0, 1])⟩)])⟩
 | .h4 v4 v38 v_4_0 v_4_1 v_4_2 v_4_3 v_5_0_000 v09_6 v_9_0 v_9_1 v_10_0 v_10_1 => ⟨⟨76, 0, true⟩, none, (Za Tryz.prog 190 [1, 0, 0, 1, 0, 0, 1, 0, 1, 0, 0, 1, 1, 0, 0, 1, 1, 0, 0] 0), none, [], ⟨Ym [(0, (.yld 0)), (1, (.ptr 5 0)), (2, (.ptr 7 0)), (4, (ii v4)), (5, (.ptr 9 0)), (6, (ii 1)), (29, (.sl 8 0 2 (.un 1))), (30, (ii 2)), (31, (ii 1)), (36, (.dat l1.length (Zz l1))), (37, (ii ((l1.length : Nat) : Int))), (38, (ii v38))], z6p [(1, ⟨[(.fn (nSp q) [])], 151, none⟩), (2, ⟨[.nils], 100, none⟩), (3, ⟨[(ii 0)], 26, none⟩), (4, ⟨[(.sla 13 4 0 v_4_0.length (.un 4)), (.dat v_4_1.length (Zz v_4_1)), (ii v_4_2), (ii v_4_3)], 200, none⟩), (5, ⟨[(.sla 6 1 0 v_5_0_000 (.un 1))], 93, none⟩), (6, ⟨rows v09_6.length (Zz v09_6), 3, some ⟨1, v09_6.length, (Zz v09_6)⟩⟩), (7, ⟨[(.sl 8 0 2 (.un 1))], 236, none⟩), (8, ⟨[(.dat l0.length (Zz l0)), (.dat l1.length (Zz l1))], 100, none⟩), (9, ⟨[(ii v_9_0), (ii v_9_1), (.sl 10 0 2 (.ex 2))], 205, none⟩), (10, ⟨[(.sla 11 2 0 v_10_0.length (.un 2)), (.sla 12 2 0 v_10_1.length (.un 2))], 180, none⟩), (11, ⟨rows v_10_0.length (Zz v_10_0), 183, some ⟨2, v_10_0.length, (Zz v_10_0)⟩⟩), (12, ⟨rows v_10_1.length (Zz v_10_1), 183, some ⟨2, v_10_1.length, (Zz v_10_1)⟩⟩), (13, ⟨rows v_4_0.length (Zz v_4_0), 88, some ⟨4, v_4_0.length, (Zz v_4_0)⟩⟩)], 14, [], true⟩, [⟨⟨49, 0, true⟩, none, (.inRangeFunc 0 :: (Za Tryz.prog 122 [1, 1, 1, 0, 1, 0] 1)), none, (Zy Tryz.prog 122), Ym [(6, (.ptr 2 0)), (7, (.ptr 3 0)), (9, (.ptr 4 0))]⟩, ⟨⟨11, 0, true⟩, (Wm Tryz.prog (nRg q) [1, 0] 2), (Za Tryz.prog (nRg q) [1, 0] 1), none, (Zy Tryz.prog 28), Ym [(6, (.dat l0.length (Zz l0))), (7, (.dat l1.length (Zz l1)))]⟩], (z6q [(0, ⟨.ready, none, 49, Ym [(5, (.ptr 1 0)), (6, (.ptr 2 0)), (7, (.ptr 3 0)), (9, (.ptr 4 0))], [23], (Wz Tryz.prog 122 [1, 1, 1, 0, 1, 0, 0]), (Wz Tryz.prog 122 [1, 1, 1, 0, 1, 0, 1])⟩)])⟩
 | .h5 v1 v2 v71 v72 v73 v001_4 v_0_0 v_0_2 v_5_0_000 v09_6 v_9_0 v_9_1 => ⟨⟨94, 0, true⟩, none, (Za Tryz.prog 158 [1, 1, 1, 0, 0] 0), none, [], ⟨Ym [(0, (.ptr 0 0)), (1, (ii v1)), (2, (ii v2)), (71, (.dat v71.length (Zz v71))), (72, (ii v72)), (73, (ii v73))], z6p [(0, ⟨[(.sla 10 4 0 v_0_0.length (.un 4)), (.dat v71.length (Zz v71)), (ii v_0_2), (ii v2)], 200, none⟩), (2, ⟨[(.fn (nSp q) [])], 151, none⟩), (3, ⟨[.nils], 100, none⟩), (4, ⟨[(ii 0)], 26, none⟩), (5, ⟨[(.sla 6 1 0 v_5_0_000 (.un 1))], 93, none⟩), (6, ⟨rows v09_6.length (Zz v09_6), 3, some ⟨1, v09_6.length, (Zz v09_6)⟩⟩), (7, ⟨[(.sl 8 0 2 (.un 1))], 236, none⟩), (8, ⟨[(.dat l0.length (Zz l0)), (.dat l1.length (Zz l1))], 100, none⟩), (9, ⟨[(.dat v_9_0.length (Zz v_9_0)), (.dat v_9_1.length (Zz v_9_1))], 180, none⟩), (10, ⟨rows v_0_0.length (Zz v_0_0), 88, some ⟨4, v_0_0.length, (Zz v_0_0)⟩⟩)], 11, [], true⟩, [⟨⟨49, 0, true⟩, (Wm Tryz.prog 122 [1, 1, 1, 0, 1, 0, 1, 0, 1, 1] 5), (Za Tryz.prog 122 [1, 1, 1, 0, 1, 0, 1, 0, 1, 1] 1), (some 1), [], Ym [(9, (.ptr 0 0)), (41, (ii v1)), (43, (ii v2)), (44, (.dat v71.length (Zz v71)))]⟩, ⟨⟨76, 0, true⟩, (Wm Tryz.prog 190 [1, 0, 0, 1, 0, 0, 1, 1, 0] 2), (Za Tryz.prog 190 [1, 0, 0, 1, 0, 0, 1, 1, 0] 1), none, [], Ym [(0, (.yld 1)), (1, (.ptr 5 0)), (2, (.ptr 7 0)), (4, (ii v001_4)), (72, (.yld 1)), (73, (.agg [(ii v1), (ii v2), (.sl 9 0 2 (.ex 2))]))]⟩, ⟨⟨49, 0, true⟩, none, (.inRangeFunc 1 :: (Za Tryz.prog 122 [1, 1, 1, 0, 1, 0] 1)), none, (Zy Tryz.prog 122), Ym [(6, (.ptr 3 0)), (7, (.ptr 4 0)), (9, (.ptr 0 0))]⟩, ⟨⟨11, 0, true⟩, (Wm Tryz.prog (nRg q) [1, 0] 2), (Za Tryz.prog (nRg q) [1, 0] 1), none, (Zy Tryz.prog 28), Ym [(6, (.dat l0.length (Zz l0))), (7, (.dat l1.length (Zz l1)))]⟩], (z6q [(1, ⟨.busy, none, 49, Ym [(5, (.ptr 2 0)), (6, (.ptr 3 0)), (7, (.ptr 4 0)), (9, (.ptr 0 0))], [23], (Wz Tryz.prog 122 [1, 1, 1, 0, 1, 0, 0]), (Wz Tryz.prog 122 [1, 1, 1, 0, 1, 0, 1])⟩)])⟩
 | .h6 v2 v8 v000_41 v000_44 v001_4 v_0_0 v_0_1 v_0_2 v_0_3 v_6_0_000 v09_7 v_10_0 v_10_1 => ⟨⟨94, 0, true⟩, none, (Za Tryz.prog 158 [0, 1, 0, 0, 1, 0, 0] 0), none, [], ⟨Ym [(0, (.ptr 0 0)), (2, (ii v2)), (8, (ii v8))], z6p [(0, ⟨[(.sla 1 4 0 v_0_0.length (.un 4)), (.dat v_0_1.length (Zz v_0_1)), (ii v_0_2), (ii v_0_3)], 200, none⟩), (1, ⟨rows v_0_0.length (Zz v_0_0), 88, some ⟨4, v_0_0.length, (Zz v_0_0)⟩⟩), (3, ⟨[(.fn (nSp q) [])], 151, none⟩), (4, ⟨[.nils], 100, none⟩), (5, ⟨[(ii 0)], 26, none⟩), (6, ⟨[(.sla 7 1 0 v_6_0_000 (.un 1))], 93, none⟩), (7, ⟨rows v09_7.length (Zz v09_7), 3, some ⟨1, v09_7.length, (Zz v09_7)⟩⟩), (8, ⟨[(.sl 9 0 2 (.un 1))], 236, none⟩), (9, ⟨[(.dat l0.length (Zz l0)), (.dat l1.length (Zz l1))], 100, none⟩), (10, ⟨[(.dat v_10_0.length (Zz v_10_0)), (.dat v_10_1.length (Zz v_10_1))], 180, none⟩)], 11, [], true⟩, [⟨⟨49, 0, true⟩, (Wm Tryz.prog 122 [1, 1, 1, 0, 1, 0, 1, 0, 1, 1] 5), (Za Tryz.prog 122 [1, 1, 1, 0, 1, 0, 1, 0, 1, 1] 1), (some 2), [], Ym [(9, (.ptr 0 0)), (41, (ii v000_41)), (43, (ii v2)), (44, (.dat v000_44.length (Zz v000_44)))]⟩, ⟨⟨76, 0, true⟩, (Wm Tryz.prog 190 [1, 0, 0, 1, 0, 0, 1, 1, 0] 2), (Za Tryz.prog 190 [1, 0, 0, 1, 0, 0, 1, 1, 0] 1), none, [], Ym [(0, (.yld 2)), (1, (.ptr 6 0)), (2, (.ptr 8 0)), (4, (ii v001_4)), (72, (.yld 2)), (73, (.agg [(ii v000_41), (ii v2), (.sl 10 0 2 (.ex 2))]))]⟩, ⟨⟨49, 0, true⟩, none, (.inRangeFunc 2 :: (Za Tryz.prog 122 [1, 1, 1, 0, 1, 0] 1)), none, (Zy Tryz.prog 122), Ym [(6, (.ptr 4 0)), (7, (.ptr 5 0)), (9, (.ptr 0 0))]⟩, ⟨⟨11, 0, true⟩, (Wm Tryz.prog (nRg q) [1, 0] 2), (Za Tryz.prog (nRg q) [1, 0] 1), none, (Zy Tryz.prog 28), Ym [(6, (.dat l0.length (Zz l0))), (7, (.dat l1.length (Zz l1)))]⟩], (z6q [(2, ⟨.busy, none, 49, Ym [(5, (.ptr 3 0)), (6, (.ptr 4 0)), (7, (.ptr 5 0)), (9, (.ptr 0 0))], [23], (Wz Tryz.prog 122 [1, 1, 1, 0, 1, 0, 0]), (Wz Tryz.prog 122 [1, 1, 1, 0, 1, 0, 1])⟩)])⟩
def rgjN0 : List (Option (List Nat)) := [some [1, 3, 8, 9, 10, 14, 15, 16], some [5, 6, 7, 9, 21], some [6, 7]]
def rgjM0 : List (Option (List Nat)) := []
def rgjN1 : List (Option (List Nat)) := [some [1, 3, 8, 9, 10, 14, 15, 16], some [5, 6, 7, 9, 21], some [6, 7]]
def rgjM1 : List (Option (List Nat)) := []
def v3j : List (Option (List Nat)) := [some [0, 1, 2, 4], some [6, 7, 9], some [6, 7]]
def v3k : List (Option (List Nat)) := [some [5, 6, 7, 9], none, none, none, none, none, none, none, none, none]
def w5k : List (Option (List Nat)) := [some [0, 1, 2, 4, 5, 6, 29, 30, 31, 36, 37, 38], some [6, 7, 9], some [6, 7]]
def w5n : List (Option (List Nat)) := [some [5, 6, 7, 9], none, none, none, none, none, none, none, none, none, none, none, none]
def w5j : List (Option (List Nat)) := [some [0, 1, 2, 4, 5, 6, 29, 30, 31, 36, 37, 38], some [6, 7, 9], some [6, 7]]
def w5m : List (Option (List Nat)) := [some [5, 6, 7, 9], none, none, none, none, none, none, none, none, none, none, none, none, none]
def w5i : List (Option (List Nat)) := [some [0, 1, 2, 71, 72, 73], some [9, 41, 43, 44], some [0, 1, 2, 4, 72, 73], some [6, 7, 9], some [6, 7]]
def w5l : List (Option (List Nat)) := [none, some [5, 6, 7, 9], none, none, none, none, none, none, none, none, none]
def rgjN6 : List (Option (List Nat)) := [some [0, 2, 8], some [9, 41, 43, 44], some [0, 1, 2, 4, 72, 73], some [6, 7, 9], some [6, 7]]
def rgjM6 : List (Option (List Nat)) := [none, none, some [5, 6, 7, 9], none, none, none, none, none, none, none, none]
noncomputable def Yn (q : Op) (l0 : List R4) (l1 : List R4) : rgjS → Xn rgjS
 | .h0 v16 v_2_0 => (bif (decide (v16 < ((l0.length : Nat) : Int))) then (bif ((decide (0 ≤ v16 ∧ v16 < ((l0.length : Nat) : Int))) && true) then (bif (Nat.beq 1 1 && ((decide (0 + v_2_0.length = v_2_0.length)) && decide ((v_2_0.length + 2 + 1) * (8 + 1) ≤ Up))) then (.to (.h0 (IntKind.wrap IntKind.i64 (v16 + 1)) (v_2_0 ++ [(rd l0 (Int.toNat v16)).a, (rd l0 (Int.toNat v16)).c]))) else .stuck) else .stuck) else (.to (.h1 0 v_2_0)))
 | .h1 v16 v_2_0 => (bif (decide (v16 < ((l1.length : Nat) : Int))) then (bif ((decide (0 ≤ v16 ∧ v16 < ((l1.length : Nat) : Int))) && true) then (bif (Nat.beq 1 1 && ((decide (0 + v_2_0.length = v_2_0.length)) && decide ((v_2_0.length + 2 + 1) * (8 + 1) ≤ Up))) then (.to (.h1 (IntKind.wrap IntKind.i64 (v16 + 1)) (v_2_0 ++ [(rd l1 (Int.toNat v16)).a, (rd l1 (Int.toNat v16)).c]))) else .stuck) else .stuck) else (bif (decide (v_2_0.length < 4611686018427387904)) then (bif (decide (v_2_0.length = v_2_0.length)) then (.to (.h2 1 ([] : List R4) ([] : List R2) 0 0 (v6f (Zs v_2_0.length (cOf (Zz (Xb (Zs v_2_0.length (cOf (Zz v_2_0)))))))) (Wj (Zs v_2_0.length (cOf (Zz (Xb (Zs v_2_0.length (cOf (Zz v_2_0)))))))))) else .stuck) else .stuck))
 | .h2 v4 v_4_0 v_4_1 v_4_2 v_4_3 v_5_0_000 v09_6 => (bif (decide (v4 < ((v_5_0_000 : Nat) : Int))) then (bif ((decide (0 ≤ (IntKind.wrap IntKind.i64 (v4 - 1)) ∧ (IntKind.wrap IntKind.i64 (v4 - 1)) < ((v_5_0_000 : Nat) : Int))) && true) then (bif (decide ((0 + (Int.toNat (IntKind.wrap IntKind.i64 (v4 - 1)))) < v09_6.length)) then (bif ((decide (0 ≤ v4 ∧ v4 < ((v_5_0_000 : Nat) : Int))) && true) then (bif (decide ((0 + (Int.toNat v4)) < v09_6.length)) then (.to (.h3 v4 0 v_4_0 v_4_1 v_4_2 v_4_3 v_5_0_000 v09_6 (rd v09_6 (0 + (Int.toNat (IntKind.wrap IntKind.i64 (v4 - 1))))) (rd v09_6 (0 + (Int.toNat v4))) ([] : List R2))) else .stuck) else .stuck) else .stuck) else .stuck) else (bif (decide (((v_4_0.length : Nat) : Int) > 400)) then (.ret [.nils, (.int .i64 4)]) else (.ret [(.dat v_4_0.length (Zz v_4_0)), (.int .i64 0)])))
 | .h3 v4 v38 v_4_0 v_4_1 v_4_2 v_4_3 v_5_0_000 v09_6 v_9_0 v_9_1 v_10_0 => (bif (decide (v38 < ((l0.length : Nat) : Int))) then (bif ((decide (0 ≤ v38 ∧ v38 < ((l0.length : Nat) : Int))) && true) then (bif (decide ((rd l0 (Int.toNat v38)).a ≤ v_9_0)) then (bif (decide (v_9_0 < (rd l0 (Int.toNat v38)).c)) then (bif (Nat.beq 2 2 && ((decide (0 + v_10_0.length = v_10_0.length)) && decide ((v_10_0.length + 1 + 1) * (16 + 1) ≤ Up))) then (.to (.h3 v4 (IntKind.wrap IntKind.i64 (v38 + 1)) v_4_0 v_4_1 v_4_2 v_4_3 v_5_0_000 v09_6 v_9_0 v_9_1 (v_10_0 ++ [(R2.mk (rd l0 (Int.toNat v38)).b (rd l0 (Int.toNat v38)).d)]))) else .stuck) else (.to (.h3 v4 (IntKind.wrap IntKind.i64 (v38 + 1)) v_4_0 v_4_1 v_4_2 v_4_3 v_5_0_000 v09_6 v_9_0 v_9_1 v_10_0))) else (.to (.h3 v4 (IntKind.wrap IntKind.i64 (v38 + 1)) v_4_0 v_4_1 v_4_2 v_4_3 v_5_0_000 v09_6 v_9_0 v_9_1 v_10_0))) else .stuck) else (.to (.h4 v4 0 v_4_0 v_4_1 v_4_2 v_4_3 v_5_0_000 v09_6 v_9_0 v_9_1 v_10_0 ([] : List R2))))
 | .h4 v4 v38 v_4_0 v_4_1 v_4_2 v_4_3 v_5_0_000 v09_6 v_9_0 v_9_1 v_10_0 v_10_1 => (bif (decide (v38 < ((l1.length : Nat) : Int))) then (bif ((decide (0 ≤ v38 ∧ v38 < ((l1.length : Nat) : Int))) && true) then (bif (decide ((rd l1 (Int.toNat v38)).a ≤ v_9_0)) then (bif (decide (v_9_0 < (rd l1 (Int.toNat v38)).c)) then (bif (Nat.beq 2 2 && ((decide (0 + v_10_1.length = v_10_1.length)) && decide ((v_10_1.length + 1 + 1) * (16 + 1) ≤ Up))) then (.to (.h4 v4 (IntKind.wrap IntKind.i64 (v38 + 1)) v_4_0 v_4_1 v_4_2 v_4_3 v_5_0_000 v09_6 v_9_0 v_9_1 v_10_0 (v_10_1 ++ [(R2.mk (rd l1 (Int.toNat v38)).b (rd l1 (Int.toNat v38)).d)]))) else .stuck) else (.to (.h4 v4 (IntKind.wrap IntKind.i64 (v38 + 1)) v_4_0 v_4_1 v_4_2 v_4_3 v_5_0_000 v09_6 v_9_0 v_9_1 v_10_0 v_10_1))) else (.to (.h4 v4 (IntKind.wrap IntKind.i64 (v38 + 1)) v_4_0 v_4_1 v_4_2 v_4_3 v_5_0_000 v09_6 v_9_0 v_9_1 v_10_0 v_10_1))) else .stuck) else (bif ((y3o q) (cvT v_10_0) (cvT v_10_1)) then (bif (((x5d q) (cvT v_10_0) (cvT v_10_1)) != 0) then (.ret [.nils, (.int .i64 ((x5d q) (cvT v_10_0) (cvT v_10_1)))]) else (bif (decide (((((z1f q) (cvT v_10_0) (cvT v_10_1)).length : Nat) : Int) > 0)) then (bif (v_4_3 == v_9_0) then (bif (Wt (cvT v_4_1) (cvT ((z1f q) (cvT v_10_0) (cvT v_10_1)))) then (bif (Jg (cvT v_4_1) (cvT ((z1f q) (cvT v_10_0) (cvT v_10_1)))) then (.to (.h6 v_9_1 v_4_2 v_9_0 ((z1f q) (cvT v_10_0) (cvT v_10_1)) v4 v_4_0 v_4_1 v_4_2 v_4_3 v_5_0_000 v09_6 v_10_0 v_10_1)) else (.to (.h5 v_9_0 v_9_1 ((z1f q) (cvT v_10_0) (cvT v_10_1)) ((((z1f q) (cvT v_10_0) (cvT v_10_1)).length : Nat) : Int) 0 v4 v_4_0 ((v_4_0.length : Nat) : Int) v_5_0_000 v09_6 v_10_0 v_10_1))) else .stuck) else (.to (.h5 v_9_0 v_9_1 ((z1f q) (cvT v_10_0) (cvT v_10_1)) ((((z1f q) (cvT v_10_0) (cvT v_10_1)).length : Nat) : Int) 0 v4 v_4_0 ((v_4_0.length : Nat) : Int) v_5_0_000 v09_6 v_10_0 v_10_1))) else (.to (.h5 v_9_0 v_9_1 ((z1f q) (cvT v_10_0) (cvT v_10_1)) ((((z1f q) (cvT v_10_0) (cvT v_10_1)).length : Nat) : Int) 0 v4 v_4_0 ((v_4_0.length : Nat) : Int) v_5_0_000 v09_6 v_10_0 v_10_1)))) else .stuck))
 | .h5 v1 v2 v71 v72 v73 v001_4 v_0_0 v_0_2 v_5_0_000 v09_6 v_9_0 v_9_1 => (bif (decide (v73 < v72)) then (bif ((decide (0 ≤ v73 ∧ v73 < ((v71.length : Nat) : Int))) && true) then (bif (Nat.beq 4 4 && ((decide (0 + v_0_0.length = v_0_0.length)) && decide ((v_0_0.length + 1 + 1) * (32 + 1) ≤ Up))) then (.to (.h5 v1 v2 v71 v72 (IntKind.wrap IntKind.i64 (v73 + 1)) v001_4 (v_0_0 ++ [(R4.mk v1 (rd v71 (Int.toNat v73)).a v2 (rd v71 (Int.toNat v73)).b)]) v_0_2 v_5_0_000 v09_6 v_9_0 v_9_1)) else .stuck) else .stuck) else (.to (.h2 (IntKind.wrap IntKind.i64 (v001_4 + 1)) v_0_0 v71 v_0_2 v2 v_5_0_000 v09_6)))
 | .h6 v2 v8 v000_41 v000_44 v001_4 v_0_0 v_0_1 v_0_2 v_0_3 v_6_0_000 v09_7 v_10_0 v_10_1 => (bif (decide (v8 < ((v_0_0.length : Nat) : Int))) then (bif ((decide (0 ≤ v8 ∧ v8 < ((v_0_0.length : Nat) : Int))) && true) then (bif (decide ((0 + (Int.toNat v8)) < v_0_0.length)) then (.to (.h6 v2 (IntKind.wrap IntKind.i64 (v8 + 1)) v000_41 v000_44 v001_4 (v_0_0.set (0 + (Int.toNat v8)) (R4.mk (rd v_0_0 (0 + (Int.toNat v8))).a (rd v_0_0 (0 + (Int.toNat v8))).b v2 (rd v_0_0 (0 + (Int.toNat v8))).d)) v_0_1 v_0_2 v_0_3 v_6_0_000 v09_7 v_10_0 v_10_1)) else .stuck) else .stuck) else (.to (.h2 (IntKind.wrap IntKind.i64 (v001_4 + 1)) v_0_0 v_0_1 v_0_2 v2 v_6_0_000 v09_7)))
noncomputable def z8d (q : Op) (l0 : List R4) (l1 : List R4) : Xn rgjS := (bif (z1l (cvT l0)) then (bif ((z8e (cvT l0)) != 0) then (.ret [.nils, (.int .i64 (z8e (cvT l0)))]) else (bif (z1l (cvT l1)) then (bif ((z8e (cvT l1)) != 0) then (.ret [.nils, (.int .i64 (z8e (cvT l1)))]) else (.to (.h0 0 ([] : List Int)))) else .stuck)) else .stuck)
theorem x5v (q : Op) (l0 : List R4) (l1 : List R4) : ∀ s, Xh Tryz.prog (Zy Tryz.prog (nRg q)) (rgjC q l0 l1) (rgjC q l0 l1 s) (Yn q l0 l1 s) := by cases q <;> refine (?f : ∀ q : Op, ∀ s, Xh Tryz.prog (Zy Tryz.prog (nRg q)) (rgjC q l0 l1) (rgjC q l0 l1 s) (Yn q l0 l1 s)) _ <;> exact fun q => fun
 | .h0 v16 v_2_0 => (lb (fun k0 => (lo fun o0 => (lo fun o1 => (sl Uo 32 [] ⟨[0, 1, 2, 3, 4, 5, 6, 10], [], rgjN0, rgjM0⟩ ⟨[], [.keep, .keep, .cells [.len (v_2_0 ++ [(rd l0 (tn v16)).a, (rd l0 (tn v16)).c]).length], .keep, .keep, .keep, .keep, .rowed 1 (v_2_0 ++ [(rd l0 (tn v16)).a, (rd l0 (tn v16)).c]).length (Zz (v_2_0 ++ [(rd l0 (tn v16)).a, (rd l0 (tn v16)).c]))], []⟩ [true] (pp (xL (v_2_0.length + 2) (v_2_0 ++ [(rd l0 (tn v16)).a, (rd l0 (tn v16)).c]).length) (pp (xL (v_2_0.length + 2) (v_2_0 ++ [(rd l0 (tn v16)).a, (rd l0 (tn v16)).c]).length) (pp (xS (v_2_0.length + 2) (Zc (Zz v_2_0) 0 v_2_0.length 1 [(ii (rd l0 (tn v16)).a), (ii (rd l0 (tn v16)).c)]) (Zz (v_2_0 ++ [(rd l0 (tn v16)).a, (rd l0 (tn v16)).c]))) (pp (pp (xF (Zc (Zz v_2_0) 0 v_2_0.length 1 [(ii (rd l0 (tn v16)).a), (ii (rd l0 (tn v16)).c)])) nn) (ww o1 (ww o0 (tt k0 nn))))))))))) (fun k0 => (sl Uo 36 [] ⟨(List.range 8), [], rgjN1, rgjM1⟩ ⟨[], [], []⟩ [false, true] (pp (fl v_2_0 nn) (tt k0 nn)))))
 | .h1 v16 v_2_0 => (lb (fun k0 => (lo fun o0 => (lo fun o1 => (sl Uo 32 [] ⟨[0, 1, 2, 3, 4, 5, 6, 10], [], rgjN1, rgjM1⟩ ⟨[], [.keep, .keep, .cells [.len (v_2_0 ++ [(rd l1 (tn v16)).a, (rd l1 (tn v16)).c]).length], .keep, .keep, .keep, .keep, .rowed 1 (v_2_0 ++ [(rd l1 (tn v16)).a, (rd l1 (tn v16)).c]).length (Zz (v_2_0 ++ [(rd l1 (tn v16)).a, (rd l1 (tn v16)).c]))], []⟩ [true] (pp (xL (v_2_0.length + 2) (v_2_0 ++ [(rd l1 (tn v16)).a, (rd l1 (tn v16)).c]).length) (pp (xL (v_2_0.length + 2) (v_2_0 ++ [(rd l1 (tn v16)).a, (rd l1 (tn v16)).c]).length) (pp (xS (v_2_0.length + 2) (Zc (Zz v_2_0) 0 v_2_0.length 1 [(ii (rd l1 (tn v16)).a), (ii (rd l1 (tn v16)).c)]) (Zz (v_2_0 ++ [(rd l1 (tn v16)).a, (rd l1 (tn v16)).c]))) (pp (pp (xF (Zc (Zz v_2_0) 0 v_2_0.length 1 [(ii (rd l1 (tn v16)).a), (ii (rd l1 (tn v16)).c)])) nn) (ww o1 (ww o0 (tt k0 nn))))))))))) (fun k0 => (lo fun o0 => (lo fun o1 => (sl Uo 46 [(88, 4, Zz ([] : List R4))] ⟨[8, 3, 4, 5, 6, 2, 7, 0, 1, 9], [], v3j, v3k⟩ ⟨[], (kpB 4 [.cells [.grow 9 4, .list 0 (Zz ([] : List R2)), .keep, .keep], .keep, .rowed 1 (Wj (Zs v_2_0.length (cOf (Zz (Xb (Zs v_2_0.length (cOf (Zz v_2_0)))))))).length (Zz (Wj (Zs v_2_0.length (cOf (Zz (Xb (Zs v_2_0.length (cOf (Zz v_2_0))))))))), .keep, .keep, .keep]), []⟩ [false, false] (pp (xL v_2_0.length (Wj (Zs v_2_0.length (cOf (Zz (Xb (Zs v_2_0.length (cOf (Zz v_2_0)))))))).length (by first | exact z4q _ _ | exact Vo rfl)) (pp (xS v_2_0.length (Zz (Wj (Zs v_2_0.length (cOf (Zz (Xb (Zs v_2_0.length (cOf (Zz v_2_0))))))))) (Zz (Wj (Zs v_2_0.length (cOf (Zz (Xb (Zs v_2_0.length (cOf (Zz v_2_0)))))))))) (pp (fl (Wj (Zs v_2_0.length (cOf (Zz (Xb (Zs v_2_0.length (cOf (Zz v_2_0)))))))) (fl ([] : List R4) nn)) (pp (pp (xG (Nat.beq 1 1)) (pp (xG (Nat.beq 1 1)) (pp (xG (Nat.beq 0 0)) (pp (xG (decide (v_2_0.length = v_2_0.length))) (pp (xG (isI (Zz (Xb (Zs v_2_0.length (cOf (Zz v_2_0))))))) (xG (decide (v_2_0.length < 4611686018427387904)))))))) (pp (pp (xG (Nat.beq 1 1)) (pp (xG (Nat.beq 1 1)) (pp (xG (Nat.beq 0 0)) (pp (xG (decide (v_2_0.length = v_2_0.length))) (pp (xG (isI (Zz v_2_0))) (xG (decide (v_2_0.length < 4611686018427387904)))))))) (tt k0 nn)))))))))))
 | .h2 v4 v_4_0 v_4_1 v_4_2 v_4_3 v_5_0_000 v09_6 => (lb (fun k0 => (lo fun o0 => (lo fun o1 => (lo fun o2 => (lo fun o3 => (sl Uo 48 [(183, 2, Zz ([] : List R2))] ⟨[0, 1, 2, 3, 4, 5, 6, 7, 8, 10, 11, 12, 9], [], w5k, w5n⟩ ⟨[], (kpB 10 [.cells [.grow 11 2, .keep], .keep, .keep]), []⟩ (trs 3 []) (pp (fl v09_6 (fl ([] : List R2) (fl v_4_0 nn))) (ww o3 (ww o2 (ww o1 (ww o0 (tt k0 nn)))))))))))) (fun k0 => (lb (fun k1 => (lr 11 3 [1, 1, 1, 1, 1, 1, 1, 0] 1 28 [(4, .nils), (5, (ii 4))] (sl Uo 49 [] ⟨[], [], [some [4, 5]], []⟩ ⟨[], [], []⟩ [false, true] (tt k1 (tt k0 nn))))) (fun k1 => (lr 11 3 [1, 1, 1, 1, 1, 1, 1, 0] 1 28 [(4, (.dat v_4_0.length (Zz v_4_0))), (5, (ii 0))] (sl Uo 54 [] ⟨[], [9], [some [4, 5]], []⟩ ⟨[(4, .frz v_4_0.length v_4_0.length (Zz v_4_0) (Zz v_4_0))], [], []⟩ [false, false] (pp (xZ (z3v 4 4 0 v_4_0.length v_4_0.length (Zz v_4_0)) v_4_0.length (Zz v_4_0)) (pp (xL v_4_0.length v_4_0.length) (pp (xS v_4_0.length (Zz v_4_0) (Zz v_4_0)) (pp (fl v_4_0 nn) (tt k1 (tt k0 nn))))))))))))
 | .h3 v4 v38 v_4_0 v_4_1 v_4_2 v_4_3 v_5_0_000 v09_6 v_9_0 v_9_1 v_10_0 => (lb (fun k0 => (lo fun o1_0 => (lb (fun k1 => (lb (fun k2 => (lo fun o0 => (sl Uo 39 [] ⟨[0, 1, 2, 3, 4, 5, 6, 7, 8, 9, 10, 15, 12], [], w5k, w5n⟩ ⟨[], (kpB 10 [.cells [.len (v_10_0 ++ [(R2.mk (rd l0 (tn v38)).b (rd l0 (tn v38)).d)]).length, .keep], .rowed 2 (v_10_0 ++ [(R2.mk (rd l0 (tn v38)).b (rd l0 (tn v38)).d)]).length (Zz (v_10_0 ++ [(R2.mk (rd l0 (tn v38)).b (rd l0 (tn v38)).d)])), .keep]), []⟩ (trs 7 []) (pp (xL (v_10_0.length + 1) (v_10_0 ++ [(R2.mk (rd l0 (tn v38)).b (rd l0 (tn v38)).d)]).length) (pp (xL (v_10_0.length + 1) (v_10_0 ++ [(R2.mk (rd l0 (tn v38)).b (rd l0 (tn v38)).d)]).length) (pp (xS (v_10_0.length + 1) (Zc (Zz v_10_0) 0 v_10_0.length 2 [(ii (rd l0 (tn v38)).b), (ii (rd l0 (tn v38)).d)]) (Zz (v_10_0 ++ [(R2.mk (rd l0 (tn v38)).b (rd l0 (tn v38)).d)]))) (pp (fl v09_6 (pp (xF (Zc (Zz v_10_0) 0 v_10_0.length 2 [(ii (rd l0 (tn v38)).b), (ii (rd l0 (tn v38)).d)])) (fl v_4_0 nn))) (ww o0 (tt k2 (tt k1 (ww o1_0 (tt k0 nn)))))))))))) (fun k2 => (sl Uo 39 [] ⟨(List.range 13), [], w5k, w5n⟩ ⟨[], [], []⟩ (trs 6 [false]) (pp (fl v09_6 (fl v_10_0 (fl v_4_0 nn))) (tt k2 (tt k1 (ww o1_0 (tt k0 nn))))))))) (fun k1 => (sl Uo 39 [] ⟨(List.range 13), [], w5k, w5n⟩ ⟨[], [], []⟩ [true, false, false, false, false, false, false] (pp (fl v09_6 (fl v_10_0 (fl v_4_0 nn))) (tt k1 (ww o1_0 (tt k0 nn))))))))) (fun k0 => (sl Uo 38 [(183, 2, Zz ([] : List R2))] ⟨[0, 1, 2, 3, 4, 5, 6, 7, 8, 9, 10, 11, 13, 12], [], w5j, w5m⟩ ⟨[], (kpB 10 [.cells [.keep, .grow 12 2], .keep, .keep, .keep]), []⟩ [false, true] (pp (fl v09_6 (fl v_10_0 (fl ([] : List R2) (fl v_4_0 nn)))) (tt k0 nn)))))
 | .h4 v4 v38 v_4_0 v_4_1 v_4_2 v_4_3 v_5_0_000 v09_6 v_9_0 v_9_1 v_10_0 v_10_1 => (lb (fun k0 => (lo fun o1_0 => (lb (fun k1 => (lb (fun k2 => (lo fun o0 => (sl Uo 39 [] ⟨[0, 1, 2, 3, 4, 5, 6, 7, 8, 9, 10, 11, 16, 13], [], w5j, w5m⟩ ⟨[], (kpB 10 [.cells [.keep, .len (v_10_1 ++ [(R2.mk (rd l1 (tn v38)).b (rd l1 (tn v38)).d)]).length], .keep, .rowed 2 (v_10_1 ++ [(R2.mk (rd l1 (tn v38)).b (rd l1 (tn v38)).d)]).length (Zz (v_10_1 ++ [(R2.mk (rd l1 (tn v38)).b (rd l1 (tn v38)).d)])), .keep]), []⟩ (trs 7 []) (pp (xL (v_10_1.length + 1) (v_10_1 ++ [(R2.mk (rd l1 (tn v38)).b (rd l1 (tn v38)).d)]).length) (pp (xL (v_10_1.length + 1) (v_10_1 ++ [(R2.mk (rd l1 (tn v38)).b (rd l1 (tn v38)).d)]).length) (pp (xS (v_10_1.length + 1) (Zc (Zz v_10_1) 0 v_10_1.length 2 [(ii (rd l1 (tn v38)).b), (ii (rd l1 (tn v38)).d)]) (Zz (v_10_1 ++ [(R2.mk (rd l1 (tn v38)).b (rd l1 (tn v38)).d)]))) (pp (fl v09_6 (fl v_10_0 (pp (xF (Zc (Zz v_10_1) 0 v_10_1.length 2 [(ii (rd l1 (tn v38)).b), (ii (rd l1 (tn v38)).d)])) (fl v_4_0 nn)))) (ww o0 (tt k2 (tt k1 (ww o1_0 (tt k0 nn)))))))))))) (fun k2 => (sl Uo 39 [] ⟨(List.range 14), [], w5j, w5m⟩ ⟨[], [], []⟩ (trs 6 [false]) (pp (fl v09_6 (fl v_10_0 (fl v_10_1 (fl v_4_0 nn)))) (tt k2 (tt k1 (ww o1_0 (tt k0 nn))))))))) (fun k1 => (sl Uo 39 [] ⟨(List.range 14), [], w5j, w5m⟩ ⟨[], [], []⟩ [true, false, false, false, false, false, false] (pp (fl v09_6 (fl v_10_0 (fl v_10_1 (fl v_4_0 nn)))) (tt k1 (ww o1_0 (tt k0 nn))))))))) (fun k0 => (Wd (sl Uo (C' := ⟨⟨49, 0, true⟩, none, (Za Tryz.prog 122 [1, 1, 1, 0, 1, 0, 1, 0, 0] 0), (some 0), [], ⟨Ym [(5, (.ptr 1 0)), (6, (.ptr 2 0)), (7, (.ptr 3 0)), (9, (.ptr 4 0)), (10, (.ptr 6 0))], z6p [(1, ⟨[(.fn (nSp q) [])], 151, none⟩), (2, ⟨[.nils], 100, none⟩), (3, ⟨[(ii 0)], 26, none⟩), (4, ⟨[(.sla 5 4 0 v_4_0.length (.un 4)), (.dat v_4_1.length (Zz v_4_1)), (ii v_4_2), (ii v_4_3)], 200, none⟩), (5, ⟨rows v_4_0.length (Zz v_4_0), 88, some ⟨4, v_4_0.length, (Zz v_4_0)⟩⟩), (6, ⟨[(ii v_9_0), (ii v_9_1), (.sl 7 0 2 (.ex 2))], 205, none⟩), (7, ⟨[(.dat v_10_0.length (Zz v_10_0)), (.dat v_10_1.length (Zz v_10_1))], 180, none⟩), (8, ⟨[(.sla 9 1 0 v_5_0_000 (.un 1))], 93, none⟩), (9, ⟨rows v09_6.length (Zz v09_6), 3, some ⟨1, v09_6.length, (Zz v09_6)⟩⟩), (10, ⟨[(.sl 11 0 2 (.un 1))], 236, none⟩), (11, ⟨[(.dat l0.length (Zz l0)), (.dat l1.length (Zz l1))], 100, none⟩)], 12, [], true⟩, [⟨⟨76, 0, true⟩, (Wm Tryz.prog 190 [1, 0, 0, 1, 0, 0, 1, 1, 0] 2), (Za Tryz.prog 190 [1, 0, 0, 1, 0, 0, 1, 1, 0] 1), none, [], Ym [(0, (.yld 0)), (1, (.ptr 8 0)), (2, (.ptr 10 0)), (4, (ii v4)), (72, (.yld 0)), (73, (.agg [(ii v_9_0), (ii v_9_1), (.sl 7 0 2 (.ex 2))]))]⟩, ⟨⟨49, 0, true⟩, none, (.inRangeFunc 0 :: (Za Tryz.prog 122 [1, 1, 1, 0, 1, 0] 1)), none, (Zy Tryz.prog 122), Ym [(6, (.ptr 2 0)), (7, (.ptr 3 0)), (9, (.ptr 4 0))]⟩, ⟨⟨11, 0, true⟩, (Wm Tryz.prog (nRg q) [1, 0] 2), (Za Tryz.prog (nRg q) [1, 0] 1), none, (Zy Tryz.prog 28), Ym [(6, (.dat l0.length (Zz l0))), (7, (.dat l1.length (Zz l1)))]⟩], (z6q [(0, ⟨.busy, none, 49, Ym [(5, (.ptr 1 0)), (6, (.ptr 2 0)), (7, (.ptr 3 0)), (9, (.ptr 4 0))], [23], (Wz Tryz.prog 122 [1, 1, 1, 0, 1, 0, 0]), (Wz Tryz.prog 122 [1, 1, 1, 0, 1, 0, 1])⟩)])⟩) 32 [] ⟨[0, 1, 2, 3, 4, 13, 14, 10, 5, 6, 7, 8], [11, 12], [some [5, 6, 7, 9, 10], some [0, 1, 2, 4, 72, 73], some [6, 7, 9], some [6, 7]], [some [5, 6, 7, 9], none, none, none, none, none, none, none, none, none, none, none]⟩ ⟨[], [.keep, .keep, .keep, .keep, .keep, .keep, .keep, .cells [.frz v_10_0.length v_10_0.length (Zz v_10_0) (Zz v_10_0), .frz v_10_1.length v_10_1.length (Zz v_10_1) (Zz v_10_1)], .keep, .keep, .keep, .keep], []⟩ [false, false] (pp (xZ (z3v 2 2 0 v_10_0.length v_10_0.length (Zz v_10_0)) v_10_0.length (Zz v_10_0)) (pp (xL v_10_0.length v_10_0.length) (pp (xS v_10_0.length (Zz v_10_0) (Zz v_10_0)) (pp (xZ (z3v 2 2 0 v_10_1.length v_10_1.length (Zz v_10_1)) v_10_1.length (Zz v_10_1)) (pp (xL v_10_1.length v_10_1.length) (pp (xS v_10_1.length (Zz v_10_1) (Zz v_10_1)) (pp (fl v_4_0 (fl v09_6 nn)) (pp (fl v_10_0 (fl v_10_1 nn)) (tt k0 nn)))))))))) (lo fun o1_0 => (lb (fun k1 => (lr 11 3 [1, 1, 1, 1, 1, 1, 1, 0] 1 28 [(4, .nils), (5, (ii ((x5d q) (cvT v_10_0) (cvT v_10_1))))] (sl Uo 26 [] ⟨[], [], [some [4, 5]], []⟩ ⟨[], [], []⟩ [true, true] (tt k1 (pp (pp (xr v_10_0) (pp (xr v_10_1) (xw o1_0))) nn))))) (fun k1 => (lb (fun k2 => (lb (fun k3 => (lo fun o4_0 => (lb (fun k4 => (sl Uo 51 [] ⟨[4, 5, 0, 1, 2, 3, 8, 9, 10, 11, 7], [], rgjN6, rgjM6⟩ ⟨[], [], []⟩ [false, true, true, true, true, true, true, true, true, true, true, true, true, true] (pp (fl v_4_0 (fl v09_6 nn)) (tt k4 (pp (pp (xr v_4_1) (pp (xI R2 ((z1f q) (cvT v_10_0) (cvT v_10_1)).length (Zz ((z1f q) (cvT v_10_0) (cvT v_10_1)))) (xw o4_0))) (tt k3 (tt k2 (tt k1 (pp (pp (xr v_10_0) (pp (xr v_10_1) (xw o1_0))) nn))))))))) (fun k4 => (sl Uo 71 [] ⟨[4, 0, 1, 2, 3, 8, 9, 10, 11, 7, 5], [], w5i, w5l⟩ ⟨[], [], []⟩ [false, true, true, true, true, true, true, true, true, true, true, true, true, false] (pp (fl v09_6 (fl v_4_0 nn)) (tt k4 (pp (pp (xr v_4_1) (pp (xI R2 ((z1f q) (cvT v_10_0) (cvT v_10_1)).length (Zz ((z1f q) (cvT v_10_0) (cvT v_10_1)))) (xw o4_0))) (tt k3 (tt k2 (tt k1 (pp (pp (xr v_10_0) (pp (xr v_10_1) (xw o1_0))) nn)))))))))))) (fun k3 => (sl Uo 71 [] ⟨[4, 0, 1, 2, 3, 8, 9, 10, 11, 7, 5], [], w5i, w5l⟩ ⟨[], [], []⟩ [false, true, true, true, true, true, true, false, false, false, false, false, false, false] (pp (fl v09_6 (fl v_4_0 nn)) (tt k3 (tt k2 (tt k1 (pp (pp (xr v_10_0) (pp (xr v_10_1) (xw o1_0))) nn))))))))) (fun k2 => (sl Uo 71 [] ⟨[4, 0, 1, 2, 3, 8, 9, 10, 11, 7, 5], [], w5i, w5l⟩ ⟨[], [], []⟩ [false, false, false, false, false, false, false, false, false, false, false, false, false, false] (pp (fl v09_6 (fl v_4_0 nn)) (tt k2 (tt k1 (pp (pp (xr v_10_0) (pp (xr v_10_1) (xw o1_0))) nn)))))))))))))
 | .h5 v1 v2 v71 v72 v73 v001_4 v_0_0 v_0_2 v_5_0_000 v09_6 v_9_0 v_9_1 => (lb (fun k0 => (lo fun o0 => (lo fun o1 => (sl Uo 23 [] ⟨[0, 1, 2, 3, 4, 5, 6, 7, 8, 9, 13], [], w5i, w5l⟩ ⟨[], [.cells [.len (v_0_0 ++ [(R4.mk v1 (rd v71 (tn v73)).a v2 (rd v71 (tn v73)).b)]).length, .keep, .keep, .keep], .keep, .keep, .keep, .keep, .keep, .keep, .keep, .keep, .keep, .rowed 4 (v_0_0 ++ [(R4.mk v1 (rd v71 (tn v73)).a v2 (rd v71 (tn v73)).b)]).length (Zz (v_0_0 ++ [(R4.mk v1 (rd v71 (tn v73)).a v2 (rd v71 (tn v73)).b)]))], []⟩ [true] (pp (xL (v_0_0.length + 1) (v_0_0 ++ [(R4.mk v1 (rd v71 (tn v73)).a v2 (rd v71 (tn v73)).b)]).length) (pp (xL (v_0_0.length + 1) (v_0_0 ++ [(R4.mk v1 (rd v71 (tn v73)).a v2 (rd v71 (tn v73)).b)]).length) (pp (xS (v_0_0.length + 1) (Zc (Zz v_0_0) 0 v_0_0.length 4 [(ii v1), (ii (rd v71 (tn v73)).a), (ii v2), (ii (rd v71 (tn v73)).b)]) (Zz (v_0_0 ++ [(R4.mk v1 (rd v71 (tn v73)).a v2 (rd v71 (tn v73)).b)]))) (pp (fl v09_6 (pp (xF (Zc (Zz v_0_0) 0 v_0_0.length 4 [(ii v1), (ii (rd v71 (tn v73)).a), (ii v2), (ii (rd v71 (tn v73)).b)])) nn)) (ww o1 (ww o0 (tt k0 nn))))))))))) (fun k0 => (sl Uo 22 [] ⟨[1, 2, 3, 4, 0, 5, 6, 7, 8, 10], [], v3j, v3k⟩ ⟨[], [], []⟩ [false, false] (pp (fl v09_6 (fl v_0_0 nn)) (tt k0 nn)))))
 | .h6 v2 v8 v000_41 v000_44 v001_4 v_0_0 v_0_1 v_0_2 v_0_3 v_6_0_000 v09_7 v_10_0 v_10_1 => (lb (fun k0 => (lo fun o0 => (lo fun o1 => (sl Uo 33 [] ⟨(List.range 11), [], rgjN6, rgjM6⟩ ⟨[], [.cells [.len (v_0_0.set (0 + (tn v8)) (R4.mk (rd v_0_0 (0 + (tn v8))).a (rd v_0_0 (0 + (tn v8))).b v2 (rd v_0_0 (0 + (tn v8))).d)).length, .keep, .keep, .keep], .rowed 4 (v_0_0.set (0 + (tn v8)) (R4.mk (rd v_0_0 (0 + (tn v8))).a (rd v_0_0 (0 + (tn v8))).b v2 (rd v_0_0 (0 + (tn v8))).d)).length (Zz (v_0_0.set (0 + (tn v8)) (R4.mk (rd v_0_0 (0 + (tn v8))).a (rd v_0_0 (0 + (tn v8))).b v2 (rd v_0_0 (0 + (tn v8))).d))), .keep, .keep, .keep, .keep, .keep, .keep, .keep, .keep, .keep], []⟩ [true] (pp (xL v_0_0.length (v_0_0.set (0 + (tn v8)) (R4.mk (rd v_0_0 (0 + (tn v8))).a (rd v_0_0 (0 + (tn v8))).b v2 (rd v_0_0 (0 + (tn v8))).d)).length) (pp (xL v_0_0.length (v_0_0.set (0 + (tn v8)) (R4.mk (rd v_0_0 (0 + (tn v8))).a (rd v_0_0 (0 + (tn v8))).b v2 (rd v_0_0 (0 + (tn v8))).d)).length) (pp (xS v_0_0.length (Xm (Zz v_0_0) (0 + (tn v8)) 2 [(ii v2)]) (Zz (v_0_0.set (0 + (tn v8)) (R4.mk (rd v_0_0 (0 + (tn v8))).a (rd v_0_0 (0 + (tn v8))).b v2 (rd v_0_0 (0 + (tn v8))).d)))) (pp (pp (xF (Xm (Zz v_0_0) (0 + (tn v8)) 2 [(ii v2)])) (fl v09_7 nn)) (ww o1 (ww o0 (tt k0 nn))))))))))) (fun k0 => (sl Uo 36 [] ⟨[2, 3, 4, 5, 0, 6, 7, 8, 9, 1], [], v3j, v3k⟩ ⟨[], [], []⟩ [false, false] (pp (fl v09_7 (fl v_0_0 nn)) (tt k0 nn)))))
theorem y9p (q : Op) (l0 : List R4) (l1 : List R4) : Xh Tryz.prog (Zy Tryz.prog (nRg q)) (rgjC q l0 l1) (Zf Tryz.prog (nRg q) [(.dat l0.length (Zz l0)), (.dat l1.length (Zz l1))] true []) (z8d q l0 l1) := by cases q <;> exact (lo fun o0_0 => (lb (fun k0 => (lr 11 3 [1, 1, 1, 1, 1, 1, 1, 0] 1 28 [(4, .nils), (5, (ii (z8e (cvT l0))))] (sl Uo 65 [] ⟨[], [], [some [4, 5]], []⟩ ⟨[], [], []⟩ [true, true] (tt k0 (tt k0 (pp (pp (xr l0) (xw o0_0)) nn)))))) (fun k0 => (lo fun o1_0 => (lb (fun k1 => (lr 11 3 [1, 1, 1, 1, 1, 1, 1, 0] 1 28 [(4, .nils), (5, (ii (z8e (cvT l1))))] (sl Uo 67 [] ⟨[], [], [some [4, 5]], []⟩ ⟨[], [], []⟩ [false, true] (tt k1 (pp (pp (xr l1) (xw o1_0)) (tt k0 (pp (pp (xr l0) (xw o0_0)) nn))))))) (fun k1 => (sl Uo 108 [(3, 1, Zz ([] : List Int))] ⟨[5, 4, 6, 0, 1, 2, 3, 7], [], rgjN0, rgjM0⟩ ⟨[], [.keep, .keep, .cells [.grow 7 1], .keep, .keep, .keep, .keep, .keep], []⟩ [false, false, true] (pp (fl ([] : List Int) nn) (tt k1 (pp (pp (xr l1) (xw o1_0)) (tt k0 (pp (pp (xr l0) (xw o0_0)) nn))))))))))))
theorem w5h (q : Op) (l0 : List R4) (l1 : List R4) (n : Nat) (vs : List AVal) (h : Ya (Yn q l0 l1) n (z8d q l0 l1) = .ret vs) : Je Tryz.prog (Zy Tryz.prog (nRg q)) (Zf Tryz.prog (nRg q) [(.dat l0.length (Zz l0)), (.dat l1.length (Zz l1))] true []) vs := by
 have := Zn (x5v q l0 l1) n _ (y9p q l0 l1)
 rwa [h] at this
end Go.Am
end
section
set_option linter.unusedVariables false
set_option linter.unusedSimpArgs false
namespace Go.Am
open Go.Proofs
open Go.Sort Go.Shelf Go.RowKit Go.Lib
set_option maxRecDepth 100000
set_option maxHeartbeats 8000000
set_option linter.unusedVariables false
set_option linter.unusedSimpArgs false
def y1o (E : Int → Int) (cs : List Int) : Nat → Nat → Int
 | 0, _ => 0
 | k + 1, i => bif E (rd cs i) != 0 then E (rd cs i) else y1o E cs k (i + 1)
def eJ (e : Int) (n : Nat) : Int := bif e != 0 then e else w3w n
theorem x3d {α : Type} [Xw α] (L : List α) : y2i (eJ 0 L.length) L = Qg L := (y0x L).symm
theorem y4z {n : Nat} (h : w3w n = 0) : n ≤ 400 := by
 unfold w3w at h
 by_cases g : (n : Int) > 400
 ·rw [decide_eq_true g] at h; cases h
 ·omega
theorem y0p {α : Type} {e : Int} (L : List α) (h : (e != 0) = false) : w2e e L = L := by unfold w2e; rw [h]; rfl
noncomputable def rgS (q : Op) (a b : List R4) (x : Int) : List R2 := spJ q.k (D4.inn a x) (D4.inn b x)
noncomputable def rgA (q : Op) (a b : List R4) (x : Int) : Int := spE q.k (D4.inn a x) (D4.inn b x)
theorem v3n (q : Op) (a b : List R4) (x : Int) (h : (rgA q a b x != 0) = false) : (rgS q a b x).length ≤ 1000 := by
 have h : rgA q a b x = 0 := by simpa using h
 unfold rgA spE at h
 cases g1 : (y3u (D4.inn a x) != 0) with
 | true => rw [g1, cond_true] at h; rw [h] at g1; cases g1
 | false =>
  cases g2 : (y3u (D4.inn b x) != 0) with
  | true => rw [g1, g2, cond_false, cond_true] at h; rw [h] at g2; cases g2
  | false =>
   rw [g1, g2, cond_false, cond_false] at h
   exact Nat.le_trans (y4z h) (by omega)
section
variable (q : Op) (a b : List R4) (ha : a.length ≤ 400) (hb : b.length ≤ 400)
include ha hb
theorem w9r (i : Nat) (out : List R4) (last : List R2) (first fin x x' : Int) : ∀ (k j : Nat) (acc : List R2), j + k = a.length → acc.length ≤ j →
  ∃ n, ∀ N, Ya (Yn q a b) (N + n) (.to (.h3 (i : Int) (j : Int) out last first fin ((D4.cuts (a ++ b)).length) (Wj (Xb (D4.ends (a ++ b)))) x x' acc)) = Ya (Yn q a b) N (.to (.h4 (i : Int) 0 out last first fin ((D4.cuts (a ++ b)).length) (Wj (Xb (D4.ends (a ++ b)))) x x' (acc ++ D4.inn (a.drop j) x) []))
 | 0, j, acc, h, h' => by
  have _u := ha; have _v := hb
  refine ⟨1, fun N => ?_⟩
  rw [List.drop_eq_nil_of_le (by omega), show D4.inn ([] : List R4) x = [] from rfl, List.append_nil, Zv]
  simp (disch := omega) only [Yn, Yx, cond_false]
 | k + 1, j, acc, h, h' => by
  have hj : j < a.length := by omega
  obtain ⟨n, hn⟩ := w9r i out last first fin x x' k (j + 1) (acc ++ D4.inn [rd a j] x) (by omega) (by have := D4.inn_length [rd a j] x; simp only [List.length_append, List.length_singleton] at *; omega)
  refine ⟨n + 1, fun N => ?_⟩
  have e : D4.inn (a.drop j) x = D4.inn [rd a j] x ++ D4.inn (a.drop (j + 1)) x := by
   rw [Yh hj, ← D4.inn_append]; rfl
  rw [e, ← Nat.add_assoc, Zv, ← List.append_assoc, ← hn N]
  by_cases h1 : D4.lo (rd a j) ≤ x
  ·by_cases h2 : x < D4.hi (rd a j)
   ·rw [D4.inn_t _ _ h1 h2]
    simp only [D4] at h1 h2 ⊢
    simp (disch := omega) only [Yn, Xu, Zg, Zj, Zr, Zo, Yq, Yy, Yw, Zb, Zq, Zx, Yu, Zu, Nat.zero_add, decide_true, Bool.and_true, Bool.true_and, cond_true, cond_false]
   ·rw [D4.inn_f2 _ _ h2, List.append_nil]
    simp only [D4] at h1 h2
    simp (disch := omega) only [Yn, Xu, Yx, Zg, Zj, Zr, Zo, Yq, Yy, Yw, Zb, Zq, Zx, Yu, Zu, Nat.zero_add, decide_true, Bool.and_true, Bool.true_and, cond_true, cond_false]
  ·rw [D4.inn_f1 _ _ h1, List.append_nil]
   simp only [D4] at h1
   simp (disch := omega) only [Yn, x7e, Zg, Zj, Zr, Zo, Yq, Yy, Yw, Zb, Zq, Zx, Yu, Zu, Nat.zero_add, decide_true, Bool.and_true, Bool.true_and, cond_true, cond_false]
theorem w9q (i : Nat) (out : List R4) (last : List R2) (first fin x x' : Int) (o1 : List R2) : ∀ (k j : Nat) (acc : List R2), j + k = b.length → acc.length ≤ j →
  ∃ n, ∀ N, Ya (Yn q a b) (N + n) (.to (.h4 (i : Int) (j : Int) out last first fin ((D4.cuts (a ++ b)).length) (Wj (Xb (D4.ends (a ++ b)))) x x' o1 acc)) = Ya (Yn q a b) N (.to (.h4 (i : Int) (b.length : Int) out last first fin ((D4.cuts (a ++ b)).length) (Wj (Xb (D4.ends (a ++ b)))) x x' o1 (acc ++ D4.inn (b.drop j) x)))
 | 0, j, acc, h, h' => by
  have _u := ha; have _v := hb
  refine ⟨0, fun N => ?_⟩
  rw [List.drop_eq_nil_of_le (by omega), show D4.inn ([] : List R4) x = [] from rfl, List.append_nil, Nat.add_zero, show j = b.length by omega]
 | k + 1, j, acc, h, h' => by
  have hj : j < b.length := by omega
  obtain ⟨n, hn⟩ := w9q i out last first fin x x' o1 k (j + 1) (acc ++ D4.inn [rd b j] x) (by omega) (by have := D4.inn_length [rd b j] x; simp only [List.length_append, List.length_singleton] at *; omega)
  refine ⟨n + 1, fun N => ?_⟩
  have e : D4.inn (b.drop j) x = D4.inn [rd b j] x ++ D4.inn (b.drop (j + 1)) x := by
   rw [Yh hj, ← D4.inn_append]; rfl
  rw [e, ← Nat.add_assoc, Zv, ← List.append_assoc, ← hn N]
  by_cases h1 : D4.lo (rd b j) ≤ x
  ·by_cases h2 : x < D4.hi (rd b j)
   ·rw [D4.inn_t _ _ h1 h2]
    simp only [D4] at h1 h2 ⊢
    simp (disch := omega) only [Yn, Xu, Zg, Zj, Zr, Zo, Yq, Yy, Yw, Zb, Zq, Zx, Yu, Zu, Nat.zero_add, decide_true, Bool.and_true, Bool.true_and, cond_true, cond_false]
   ·rw [D4.inn_f2 _ _ h2, List.append_nil]
    simp only [D4] at h1 h2
    simp (disch := omega) only [Yn, Xu, Yx, Zg, Zj, Zr, Zo, Yq, Yy, Yw, Zb, Zq, Zx, Yu, Zu, Nat.zero_add, decide_true, Bool.and_true, Bool.true_and, cond_true, cond_false]
  ·rw [D4.inn_f1 _ _ h1, List.append_nil]
   simp only [D4] at h1
   simp (disch := omega) only [Yn, x7e, Zg, Zj, Zr, Zo, Yq, Yy, Yw, Zb, Zq, Zx, Yu, Zu, Nat.zero_add, decide_true, Bool.and_true, Bool.true_and, cond_true, cond_false]
theorem w9p (i : Nat) (hi : i ≤ 2000) (x x' : Int) (s : List R2) (first : Int) (o1 o2 : List R2) (hs : s.length ≤ 1000) : ∀ (k j : Nat) (out : List R4), j + k = s.length → out.length ≤ 10000000 + j →
  ∃ n, ∀ N, Ya (Yn q a b) (N + n) (.to (.h5 x x' s (s.length : Int) (j : Int) (i : Int) out first ((D4.cuts (a ++ b)).length) (Wj (Xb (D4.ends (a ++ b)))) o1 o2)) = Ya (Yn q a b) N (.to (.h2 ((i + 1 : Nat) : Int) (out ++ (s.drop j).map (D4.put x x')) s first x' ((D4.cuts (a ++ b)).length) (Wj (Xb (D4.ends (a ++ b))))))
 | 0, j, out, h, ho => by
  have _u := ha; have _v := hb
  refine ⟨1, fun N => ?_⟩
  rw [List.drop_eq_nil_of_le (by omega), Zv]
  simp (disch := omega) only [Yn, Yx, Zq, Zx, cond_false, List.map_nil, List.append_nil]
 | k + 1, j, out, h, ho => by
  obtain ⟨n, hn⟩ := w9p i hi x x' s first o1 o2 hs k (j + 1) (out ++ [D4.put x x' (rd s j)]) (by omega) (by simp; omega)
  refine ⟨n + 1, fun N => ?_⟩
  have := hn N
  rw [Yh (show j < s.length by omega), List.map_cons, ← Nat.add_assoc, Zv]
  simp (disch := omega) only [Yn, Zg, Zj, Zr, Zo, Yq, Yy, Yw, Zb, Zq, Zx, Yu, Zu, Nat.zero_add, decide_true, Bool.and_true, Bool.true_and, cond_true, cond_false]
  rw [List.append_assoc] at this
  exact this
theorem w9o (i : Nat) (hi : i ≤ 2000) (x x' fin : Int) (s last : List R2) (first : Int) (o1 o2 : List R2) : ∀ (k j : Nat) (out : List R4), j + k = out.length → out.length ≤ 10000000 →
  ∃ n, ∀ N, Ya (Yn q a b) (N + n) (.to (.h6 x' (j : Int) x s (i : Int) out last first fin ((D4.cuts (a ++ b)).length) (Wj (Xb (D4.ends (a ++ b)))) o1 o2)) = Ya (Yn q a b) N (.to (.h2 ((i + 1 : Nat) : Int) (D4.grow out j x') last first x' ((D4.cuts (a ++ b)).length) (Wj (Xb (D4.ends (a ++ b))))))
 | 0, j, out, h, ho => by
  have _u := ha; have _v := hb
  refine ⟨1, fun N => ?_⟩
  rw [D4.grow_nil _ _ _ (by omega), Zv]
  simp (disch := omega) only [Yn, Yx, Zq, Zx, cond_false]
 | k + 1, j, out, h, ho => by
  obtain ⟨n, hn⟩ := w9o i hi x x' fin s last first o1 o2 k (j + 1) (out.set j (D4.ext x' (rd out j))) (by simp; omega) (by simpa using ho)
  refine ⟨n + 1, fun N => ?_⟩
  have := hn N
  rw [D4.grow_set out j _ (by omega)] at this
  rw [← Nat.add_assoc, Zv]
  simp (disch := omega) only [Yn, Zg, Zj, Zr, Zo, Yq, Yy, Yw, Zb, Zq, Zx, Yu, Zu, Nat.zero_add, decide_true, Bool.and_true, Bool.true_and, cond_true, cond_false]
  exact this
theorem x9y : ∀ (k i : Nat) (s : Sw R4 R2), k = (D4.cuts (a ++ b)).length - 1 - i → i ≤ (D4.cuts (a ++ b)).length → s.out.length ≤ i * 1000 → s.last.length ≤ 1000 → s.first ≤ s.out.length →
  ∃ n, Ya (Yn q a b) n (.to (.h2 ((i + 1 : Nat) : Int) s.out s.last (s.first : Int) s.fin ((D4.cuts (a ++ b)).length) (Wj (Xb (D4.ends (a ++ b)))))) = .ret (y2i (eJ (y1o (rgA q a b) (D4.cuts (a ++ b)) k i) (D4.goS (rgS q a b) (D4.cuts (a ++ b)) k i s).out.length) (D4.goS (rgS q a b) (D4.cuts (a ++ b)) k i s).out)
 | 0, i, s, h, hi, ho, hla, hf => by
  have _u := ha; have _v := hb
  have hc := D4.cuts_length (a ++ b)
  refine ⟨1, ?_⟩
  rw [Zv, show D4.goS (rgS q a b) (D4.cuts (a ++ b)) 0 i s = s from rfl, show y1o (rgA q a b) (D4.cuts (a ++ b)) 0 i = 0 from rfl, x3d]
  unfold Qg
  by_cases g : (s.out.length : Int) > 400
  ·simp (disch := omega) only [Yn, Yx, Yd, cond_true, cond_false, Zm]
  ·simp (disch := omega) only [Yn, Yx, Xz, cond_true, cond_false, Zm]
 | k + 1, i, s, h, hi, ho, hla, hf => by
  have hc := D4.cuts_length (a ++ b)
  rw [List.length_append] at hc
  have hi1 : i + 1 < (D4.cuts (a ++ b)).length := by omega
  have hpl : (Wj (Xb (D4.ends (a ++ b)))).length = 2 * (a.length + b.length) := by rw [Kg, Jz, D4.ends_length, List.length_append]
  have r0 : rd (Wj (Xb (D4.ends (a ++ b)))) i = rd (D4.cuts (a ++ b)) i := z6m _ _ (by show i < (D4.cuts (a ++ b)).length; omega)
  have r1 : rd (Wj (Xb (D4.ends (a ++ b)))) (i + 1) = rd (D4.cuts (a ++ b)) (i + 1) := z6m _ _ (by show i + 1 < (D4.cuts (a ++ b)).length; omega)
  have hbig : i * 1000 ≤ 2000 * 1000 := Nat.mul_le_mul_right _ (by omega)
  have hgo : D4.goS (rgS q a b) (D4.cuts (a ++ b)) (k + 1) i s = D4.goS (rgS q a b) (D4.cuts (a ++ b)) k (i + 1) (D4.oneS (rgS q a b (rd (D4.cuts (a ++ b)) i)) (rd (D4.cuts (a ++ b)) i) (rd (D4.cuts (a ++ b)) (i + 1)) s) := rfl
  have hfe : ∀ x, x = rd (D4.cuts (a ++ b)) i → (rgA q a b x != 0) = false → y1o (rgA q a b) (D4.cuts (a ++ b)) (k + 1) i = y1o (rgA q a b) (D4.cuts (a ++ b)) k (i + 1) := fun x hx z => by
   show (bif rgA q a b (rd (D4.cuts (a ++ b)) i) != 0 then _ else _) = _
   rw [← hx, z]; rfl
  revert hgo hfe r0
  generalize hx : rd (D4.cuts (a ++ b)) i = x
  generalize hx' : rd (D4.cuts (a ++ b)) (i + 1) = x' at r1
  intro r0 hgo hfe
  obtain ⟨n3, h3⟩ := w9r q a b ha hb (i + 1) s.out s.last (s.first : Int) s.fin x x' a.length 0 [] (Nat.zero_add _) (Nat.le_refl _)
  simp only [List.drop_zero, List.nil_append, z2w] at h3
  obtain ⟨n4, h4⟩ := w9q q a b ha hb (i + 1) s.out s.last (s.first : Int) s.fin x x' (D4.inn a x) b.length 0 [] (Nat.zero_add _) (Nat.le_refl _)
  simp only [List.drop_zero, List.nil_append, z2w] at h4
  have st0 : ∀ N, Ya (Yn q a b) (N + n4 + n3 + 1) (.to (.h2 ((i + 1 : Nat) : Int) s.out s.last (s.first : Int) s.fin ((D4.cuts (a ++ b)).length) (Wj (Xb (D4.ends (a ++ b)))))) = Ya (Yn q a b) N (.to (.h4 ((i + 1 : Nat) : Int) (b.length : Int) s.out s.last (s.first : Int) s.fin ((D4.cuts (a ++ b)).length) (Wj (Xb (D4.ends (a ++ b)))) x x' (D4.inn a x) (D4.inn b x))) := fun N => by
   rw [← h4 N, ← h3 (N + n4), Zv]
   have e1 : IntKind.wrap .i64 (((i + 1 : Nat) : Int) - 1) = (i : Int) := by rw [Zi]; exact Zq (by omega)
   simp (disch := omega) only [Yn, e1, r0, r1, Zg, Zj, Zr, Zo, Yq, Yy, Yw, Zb, Zq, Zx, Yu, Zu, Nat.zero_add, decide_true, Bool.and_true, Bool.true_and, cond_true, cond_false]
  have w1 : y3o q (D4.inn a x) (D4.inn b x) = true := rfl
  have f1 : Kr (Zz (D4.inn a x)) = true := Xv _
  have f2 : Kr (Zz (D4.inn b x)) = true := Xv _
  rcases Yb (rgA q a b x != 0) with z | z
  ·have z' : (x5d q (D4.inn a x) (D4.inn b x) != 0) = true := z
   refine ⟨1 + n4 + n3 + 1, ?_⟩
   rw [st0 1, Zv]
   have e : y1o (rgA q a b) (D4.cuts (a ++ b)) (k + 1) i = rgA q a b x := by show (bif rgA q a b (rd (D4.cuts (a ++ b)) i) != 0 then rgA q a b (rd (D4.cuts (a ++ b)) i) else _) = _; rw [hx, z]; rfl
   simp (disch := omega) only [Yn, Yx, z', w1, f1, f2, Zg, Zj, Zr, Zo, Yq, Yy, Yw, Zb, Zq, Zx, Yu, Zu, Nat.zero_add, decide_true, Bool.and_true, Bool.true_and, cond_true, cond_false, Zm]
   rw [e, show eJ (rgA q a b x) _ = rgA q a b x by unfold eJ; rw [z]; rfl, Qv _ z]; rfl
  have z' : (x5d q (D4.inn a x) (D4.inn b x) != 0) = false := z
  have v : z1f q (D4.inn a x) (D4.inn b x) = rgS q a b x := y0p _ z
  have hsl := v3n q a b x z
  have w2 : Wt s.last (rgS q a b x) = true := decide_eq_true (by omega)
  rw [hgo, hfe x rfl z]
  have ol : (D4.oneS (rgS q a b x) x x' s).out.length ≤ s.out.length + (rgS q a b x).length := by
   unfold Dim.oneS
   cases decide (0 < (rgS q a b x).length) && ((s.fin == x) && D4.same s.last (rgS q a b x))
   ·simp
   ·simp [Dim.grow_length]
  rcases Yb (decide (0 < (rgS q a b x).length) && ((s.fin == x) && D4.same s.last (rgS q a b x))) with g | g
  ·obtain ⟨n6, h6⟩ := w9o q a b ha hb (i + 1) (by omega) x x' s.fin (rgS q a b x) s.last (s.first : Int) (D4.inn a x) (D4.inn b x) (s.out.length - s.first) s.first s.out (by omega) (by omega)
   have e : D4.oneS (rgS q a b x) x x' s = ⟨D4.grow s.out s.first x', s.last, s.first, x'⟩ := by unfold Dim.oneS; rw [g]; rfl
   obtain ⟨n0, h0⟩ := x9y k (i + 1) (D4.oneS (rgS q a b x) x x' s) (by omega) (by omega) (by omega) (by rw [e]; exact hla) (by rw [e]; simpa [Dim.grow_length] using hf)
   refine ⟨n0 + n6 + 1 + n4 + n3 + 1, ?_⟩
   rw [st0 (n0 + n6 + 1), Zv]
   simp only [Bool.and_eq_true, decide_eq_true_eq] at g
   obtain ⟨g1, g2, g3⟩ := g
   have g3' : Jg s.last (rgS q a b x) = true := g3
   simp (disch := omega) only [Yn, Yx, Yd, z', v, g2, g3', w1, f1, f2, w2, Zg, Zj, Zr, Zo, Yq, Yy, Yw, Zb, Zq, Zx, Yu, Zu, Nat.zero_add, decide_true, Bool.and_true, Bool.true_and, cond_true, cond_false]
   rw [h6 n0]
   rw [e] at h0 ⊢
   exact h0
  ·obtain ⟨n5, h5⟩ := w9p q a b ha hb (i + 1) (by omega) x x' (rgS q a b x) (s.out.length : Int) (D4.inn a x) (D4.inn b x) hsl (rgS q a b x).length 0 s.out (Nat.zero_add _) (by omega)
   simp only [List.drop_zero, z2w] at h5
   have e : D4.oneS (rgS q a b x) x x' s = ⟨s.out ++ (rgS q a b x).map (D4.put x x'), rgS q a b x, s.out.length, x'⟩ := by unfold Dim.oneS; rw [g]; rfl
   obtain ⟨n0, h0⟩ := x9y k (i + 1) (D4.oneS (rgS q a b x) x x' s) (by omega) (by omega) (by omega) (by rw [e]; exact hsl) (by rw [e]; simp)
   have hg : Ya (Yn q a b) 1 (.to (.h4 ((i + 1 : Nat) : Int) (b.length : Int) s.out s.last (s.first : Int) s.fin ((D4.cuts (a ++ b)).length) (Wj (Xb (D4.ends (a ++ b)))) x x' (D4.inn a x) (D4.inn b x))) = .to (.h5 x x' (rgS q a b x) ((rgS q a b x).length : Int) 0 ((i + 1 : Nat) : Int) s.out (s.out.length : Int) ((D4.cuts (a ++ b)).length) (Wj (Xb (D4.ends (a ++ b)))) (D4.inn a x) (D4.inn b x)) := by
    rw [show (1 : Nat) = 0 + 1 from rfl, Zv]
    have e3 : D4.same s.last (rgS q a b x) = Jg s.last (rgS q a b x) := rfl
    rw [e3] at g
    by_cases g1 : 0 < (rgS q a b x).length
    ·rw [decide_eq_true g1, Bool.true_and] at g
     rcases Yb (s.fin == x) with g2 | g2
     ·rw [g2, Bool.true_and] at g
      simp (disch := omega) only [Yn, Yx, Yd, z', v, g2, g, w1, f1, f2, w2, Zg, Zj, Zr, Zo, Yq, Yy, Yw, Zb, Zq, Zx, Yu, Zu, Nat.zero_add, decide_true, Bool.and_true, Bool.true_and, cond_true, cond_false]
      rfl
     ·simp (disch := omega) only [Yn, Yx, Yd, z', v, g2, w1, f1, f2, w2, Zg, Zj, Zr, Zo, Yq, Yy, Yw, Zb, Zq, Zx, Yu, Zu, Nat.zero_add, decide_true, Bool.and_true, Bool.true_and, cond_true, cond_false]
      rfl
    ·simp (disch := omega) only [Yn, Yx, Xz, z', v, w1, f1, f2, w2, Zg, Zj, Zr, Zo, Yq, Yy, Yw, Zb, Zq, Zx, Yu, Zu, Nat.zero_add, decide_true, Bool.and_true, Bool.true_and, cond_true, cond_false]
     rfl
   refine ⟨n0 + n5 + 1 + n4 + n3 + 1, ?_⟩
   rw [st0 (n0 + n5 + 1), z4t _ (n0 + n5) 1, hg, h5 n0]
   rw [e] at h0 ⊢
   exact h0
theorem w9s : ∀ (k i : Nat) (acc : List Int), i + k = b.length → acc = D4.ends (a ++ b.take i) → ∃ n, Ya (Yn q a b) n (.to (.h1 (i : Int) acc)) = .ret (y2i (eJ (y1o (rgA q a b) (D4.cuts (a ++ b)) ((D4.cuts (a ++ b)).length - 1) 0) (D4.goS (rgS q a b) (D4.cuts (a ++ b)) ((D4.cuts (a ++ b)).length - 1) 0 ⟨[], [], 0, 0⟩).out.length) (D4.goS (rgS q a b) (D4.cuts (a ++ b)) ((D4.cuts (a ++ b)).length - 1) 0 ⟨[], [], 0, 0⟩).out)
 | 0, i, acc, h, h' => by
  have _u := ha; have _v := hb
  have e : acc = D4.ends (a ++ b) := by rw [h', List.take_of_length_le (by omega)]
  subst e
  have hle := D4.ends_length (a ++ b)
  rw [List.length_append] at hle
  obtain ⟨n, hn⟩ := x9y q a b ha hb ((D4.cuts (a ++ b)).length - 1) 0 ⟨[], [], 0, 0⟩ (by omega) (Nat.zero_le _) (Nat.zero_le _) (Nat.zero_le _) (Nat.zero_le _)
  refine ⟨n + 1, ?_⟩
  rw [Zv]
  simp (disch := omega) only [Yn, Kb, z2m, y4x, Yx, Yy, Yw, decide_true, cond_true, cond_false]
  exact hn
 | k + 1, i, acc, h, h' => by
  have hle : acc.length ≤ 2 * (400 + i) := by rw [h', D4.ends_length]; simp only [List.length_append, List.length_take]; omega
  obtain ⟨n, hn⟩ := w9s k (i + 1) (acc ++ D4.ends [rd b i]) (by omega) (by
   rw [h', List.take_add_one]
   have : b[i]? = some (rd b i) := by rw [Xk (show i < b.length by omega)]; exact List.getElem?_eq_getElem _
   rw [this]; simp [Dim.ends])
  refine ⟨n + 1, ?_⟩
  rw [Zv]
  simp (disch := omega) only [Yn, Zg, Zj, Zr, Zo, Yq, Yy, Yw, Zb, Zq, Zx, Yu, Zu, Nat.zero_add, decide_true, Bool.and_true, Bool.true_and, cond_true, cond_false]
  exact hn
theorem w9t : ∀ (k i : Nat) (acc : List Int), i + k = a.length → acc = D4.ends (a.take i) → ∃ n, Ya (Yn q a b) n (.to (.h0 (i : Int) acc)) = .ret (y2i (eJ (y1o (rgA q a b) (D4.cuts (a ++ b)) ((D4.cuts (a ++ b)).length - 1) 0) (D4.goS (rgS q a b) (D4.cuts (a ++ b)) ((D4.cuts (a ++ b)).length - 1) 0 ⟨[], [], 0, 0⟩).out.length) (D4.goS (rgS q a b) (D4.cuts (a ++ b)) ((D4.cuts (a ++ b)).length - 1) 0 ⟨[], [], 0, 0⟩).out)
 | 0, i, acc, h, h' => by
  have _u := ha; have _v := hb
  obtain ⟨n, hn⟩ := w9s q a b ha hb b.length 0 acc (Nat.zero_add _) (by rw [h', List.take_of_length_le (by omega), List.take_zero, List.append_nil])
  refine ⟨n + 1, ?_⟩
  rw [Zv]
  simp (disch := omega) only [Yn, Yx, cond_false]
  exact hn
 | k + 1, i, acc, h, h' => by
  have hle : acc.length ≤ 2 * (400 + i) := by rw [h', D4.ends_length]; simp only [List.length_append, List.length_take]; omega
  obtain ⟨n, hn⟩ := w9t k (i + 1) (acc ++ D4.ends [rd a i]) (by omega) (by
   rw [h', List.take_add_one]
   have : a[i]? = some (rd a i) := by rw [Xk (show i < a.length by omega)]; exact List.getElem?_eq_getElem _
   rw [this]; simp [Dim.ends])
  refine ⟨n + 1, ?_⟩
  rw [Zv]
  simp (disch := omega) only [Yn, Zg, Zj, Zr, Zo, Yq, Yy, Yw, Zb, Zq, Zx, Yu, Zu, Nat.zero_add, decide_true, Bool.and_true, Bool.true_and, cond_true, cond_false]
  exact hn
end
noncomputable def rgE (q : Op) (a b : List R4) : Int := bif z8e a != 0 then z8e a else bif z8e b != 0 then z8e b else eJ (y1o (rgA q a b) (D4.cuts (a ++ b)) ((D4.cuts (a ++ b)).length - 1) 0) (rgJ q.k a b).length
noncomputable def z1m (q : Op) (a b : List R4) : List R4 := w2e (rgE q a b) (rgJ q.k a b)
noncomputable def x5x (q : Op) (a b : List R4) : Int := rgE q a b
def z8f (q : Op) (a b : List R4) : Bool := true
theorem x3b {l : List R4} (h : (z8e l != 0) = false) : l.length ≤ 400 := by
 refine Classical.byContradiction fun g => ?_
 have h : z8e l = 0 := by simpa using h
 unfold z8e at h
 rw [decide_eq_true (by omega)] at h
 cases h
theorem rg_run (q : Op) (a b : List R4) (h : z8f q a b = true) : ∃ n, Ya (Yn q a b) n (z8d q a b) = .ret (y2i (rgE q a b) (rgJ q.k a b)) := by
 unfold z8d
 have o : ∀ l, z1l l = true := fun _ => rfl
 simp only [Zg, o, cond_true]
 rcases Yb (z8e a != 0) with q1 | q1
 ·exact ⟨0, by simp only [rgE, q1, cond_true, Qv _ q1]; rfl⟩
 rcases Yb (z8e b != 0) with q2 | q2
 ·exact ⟨0, by simp only [rgE, q1, q2, cond_true, cond_false, Qv _ q2]; rfl⟩
 obtain ⟨n, hn⟩ := w9t q a b (x3b q1) (x3b q2) a.length 0 [] (Nat.zero_add _) rfl
 refine ⟨n, ?_⟩
 simp only [rgE, q1, q2, cond_false]
 exact hn
noncomputable def fRg (q : Op) : List AVal → Option (AVal × Bool)
 | [a0, a1] => match asL R4 a0, asL R4 a1 with
  | some (L0, g0, n0), some (L1, g1, n1) => some (.tup [.dat (z1m q L0 L1).length (Zz (z1m q L0 L1)), .int .i64 (x5x q L0 L1)], isT R4 n0 g0 && (isT R4 n1 g1 && (z8f q L0 L1)))
  | _, _ => none
 | _ => none
theorem w2b (q : Op) {S : Specs} (hS : Zk Tryz.prog S) : Zk Tryz.prog (S.with (nRg q) (fRg q)) := by
 refine v4u hS (by cases q <;> kernel_rfl) fun args v h => ?_
 unfold fRg at h
 split at h
 ·rename_i a0 a1
  split at h
  ·rename_i L0 g0 n0 L1 g1 n1 e0 e1
   simp only [Option.some.injEq, Prod.mk.injEq, Bool.and_eq_true] at h
   obtain ⟨rfl, ho0, ho1, hw⟩ := h
   obtain ⟨N, hN⟩ := rg_run q L0 L1 hw
   exact ⟨_, _, (.cons (asL_le e0 ho0) (.cons (asL_le e1 ho1) .nil)), z8g _ _, w5h q L0 L1 N _ hN, 3, y4b _ _⟩
  ·cases h
 ·cases h
noncomputable def Ud : Specs := ((Uc.with (nRg .u) (fRg .u)).with (nRg .e) (fRg .e)).with (nRg .d) (fRg .d)
theorem Um : Zk Tryz.prog Ud := w2b .d (w2b .e (w2b .u Uo))
end Go.Am
end
section
set_option linter.unusedVariables false
set_option linter.unusedSimpArgs false
namespace Go.Am
open Go.Proofs
set_option maxRecDepth 1000000
set_option linter.unusedVariables false
set_option linter.unusedSimpArgs false
set_option maxHeartbeats 4000000
inductive blkS where
 | h0 (v3 : List R6) (v8 : Int)
noncomputable def blkC (l0 : List R6) : blkS → Cfg
 | .h0 v3 v8 => ⟨⟨38, 0, true⟩, none, (Za Tryz.prog 82 [1, 1, 0, 1, 0, 0] 0), none, (Zy Tryz.prog 3), ⟨Ym [(3, (.sla 0 6 0 v3.length (.un 6))), (6, (.dat l0.length (Zz l0))), (7, (ii ((l0.length : Nat) : Int))), (8, (ii v8))], Jy [⟨rows v3.length (Zz v3), 159, some ⟨6, v3.length, (Zz v3)⟩⟩] 0, 1, [], true⟩, [], .leaf⟩
def blkN0 : List (Option (List Nat)) := [some [3, 6, 7, 8]]
def blkM0 : List (Option (List Nat)) := []
noncomputable def z5z (l0 : List R6) : blkS → Xn blkS
 | .h0 v3 v8 => (bif (decide (v8 < ((l0.length : Nat) : Int))) then (bif ((decide (0 ≤ v8 ∧ v8 < ((l0.length : Nat) : Int))) && true) then (bif (Nat.beq 6 6 && ((decide (0 + v3.length = v3.length)) && decide ((v3.length + 1 + 1) * (48 + 1) ≤ Up))) then (.to (.h0 (v3 ++ [(R6.mk (rd l0 (Int.toNat v8)).a (rd l0 (Int.toNat v8)).b (rd l0 (Int.toNat v8)).c (rd l0 (Int.toNat v8)).d (rd l0 (Int.toNat v8)).e (rd l0 (Int.toNat v8)).f)]) (IntKind.wrap IntKind.i64 (v8 + 1)))) else .stuck) else .stuck) else (.ret [(.dat v3.length (Zz v3))]))
noncomputable def y5b (l0 : List R6) : Xn blkS := (.to (.h0 ([] : List R6) 0))
theorem x7n (l0 : List R6) : ∀ s, Xh Tryz.prog (Zy Tryz.prog 82) (blkC l0) (blkC l0 s) (z5z l0 s)
 | .h0 v3 v8 => (lb (fun k0 => (lo fun o0 => (lo fun o1 => (sl Ux 49 [] ⟨[3], [], blkN0, blkM0⟩ ⟨[(3, .len (v3 ++ [(R6.mk (rd l0 (tn v8)).a (rd l0 (tn v8)).b (rd l0 (tn v8)).c (rd l0 (tn v8)).d (rd l0 (tn v8)).e (rd l0 (tn v8)).f)]).length)], [.rowed 6 (v3 ++ [(R6.mk (rd l0 (tn v8)).a (rd l0 (tn v8)).b (rd l0 (tn v8)).c (rd l0 (tn v8)).d (rd l0 (tn v8)).e (rd l0 (tn v8)).f)]).length (Zz (v3 ++ [(R6.mk (rd l0 (tn v8)).a (rd l0 (tn v8)).b (rd l0 (tn v8)).c (rd l0 (tn v8)).d (rd l0 (tn v8)).e (rd l0 (tn v8)).f)]))], []⟩ [true] (pp (xL (v3.length + 1) (v3 ++ [(R6.mk (rd l0 (tn v8)).a (rd l0 (tn v8)).b (rd l0 (tn v8)).c (rd l0 (tn v8)).d (rd l0 (tn v8)).e (rd l0 (tn v8)).f)]).length) (pp (xL (v3.length + 1) (v3 ++ [(R6.mk (rd l0 (tn v8)).a (rd l0 (tn v8)).b (rd l0 (tn v8)).c (rd l0 (tn v8)).d (rd l0 (tn v8)).e (rd l0 (tn v8)).f)]).length) (pp (xS (v3.length + 1) (Zc (Zz v3) 0 v3.length 6 [(ii (rd l0 (tn v8)).a), (ii (rd l0 (tn v8)).b), (ii (rd l0 (tn v8)).c), (ii (rd l0 (tn v8)).d), (ii (rd l0 (tn v8)).e), (ii (rd l0 (tn v8)).f)]) (Zz (v3 ++ [(R6.mk (rd l0 (tn v8)).a (rd l0 (tn v8)).b (rd l0 (tn v8)).c (rd l0 (tn v8)).d (rd l0 (tn v8)).e (rd l0 (tn v8)).f)]))) (pp (pp (xF (Zc (Zz v3) 0 v3.length 6 [(ii (rd l0 (tn v8)).a), (ii (rd l0 (tn v8)).b), (ii (rd l0 (tn v8)).c), (ii (rd l0 (tn v8)).d), (ii (rd l0 (tn v8)).e), (ii (rd l0 (tn v8)).f)])) nn) (ww o1 (ww o0 (tt k0 nn))))))))))) (fun k0 => (lr 38 3 [1, 1, 1, 1, 1, 1, 1, 0] 1 3 [(2, (.dat v3.length (Zz v3)))] (sl Ux 12 [] ⟨[], [0], [some [2]], []⟩ ⟨[(2, .frz v3.length v3.length (Zz v3) (Zz v3))], [], []⟩ [false] (pp (xZ (z3v 6 6 0 v3.length v3.length (Zz v3)) v3.length (Zz v3)) (pp (xL v3.length v3.length) (pp (xS v3.length (Zz v3) (Zz v3)) (pp (fl v3 nn) (tt k0 nn)))))))))
theorem x1x (l0 : List R6) : Xh Tryz.prog (Zy Tryz.prog 82) (blkC l0) (Zf Tryz.prog 82 [(.dat l0.length (Zz l0))] true []) (y5b l0) := (sl Ux 17 [(159, 6, Zz ([] : List R6))] ⟨[0], [], blkN0, blkM0⟩ ⟨[(3, .grow 0 6)], [], []⟩ [] (pp (fl ([] : List R6) nn) nn))
theorem w7x (l0 : List R6) (n : Nat) (vs : List AVal) (h : Ya (z5z l0) n (y5b l0) = .ret vs) : Je Tryz.prog (Zy Tryz.prog 82) (Zf Tryz.prog 82 [(.dat l0.length (Zz l0))] true []) vs := by
 have := Zn (x7n l0) n _ (x1x l0)
 rwa [h] at this
inductive volS where
 | h0 (v3 : Int) (v10 : Int)
noncomputable def volC (l0 : List R6) : volS → Cfg
 | .h0 v3 v10 => ⟨⟨35, 0, true⟩, none, (Za Tryz.prog 83 [1, 1, 0, 1, 0, 0] 0), none, (Zy Tryz.prog 3), ⟨Ym [(3, (ii v3)), (8, (.dat l0.length (Zz l0))), (9, (ii ((l0.length : Nat) : Int))), (10, (ii v10))], Jy [] 0, 0, [], true⟩, [], .leaf⟩
def volN0 : List (Option (List Nat)) := [some [3, 8, 9, 10]]
def volM0 : List (Option (List Nat)) := []
noncomputable def z5k (l0 : List R6) : volS → Xn volS
 | .h0 v3 v10 => (bif (decide (v10 < ((l0.length : Nat) : Int))) then (bif ((decide (0 ≤ v10 ∧ v10 < ((l0.length : Nat) : Int))) && true) then (.to (.h0 (IntKind.wrap IntKind.i64 (v3 + (IntKind.wrap IntKind.i64 ((IntKind.wrap IntKind.i64 ((IntKind.wrap IntKind.i64 (1 * (IntKind.wrap IntKind.i64 ((rd l0 (Int.toNat v10)).d - (rd l0 (Int.toNat v10)).a)))) * (IntKind.wrap IntKind.i64 ((rd l0 (Int.toNat v10)).e - (rd l0 (Int.toNat v10)).b)))) * (IntKind.wrap IntKind.i64 ((rd l0 (Int.toNat v10)).f - (rd l0 (Int.toNat v10)).c)))))) (IntKind.wrap IntKind.i64 (v10 + 1)))) else .stuck) else (.ret [(.int .i64 v3)]))
noncomputable def y3m (l0 : List R6) : Xn volS := (.to (.h0 0 0))
theorem x4s (l0 : List R6) : ∀ s, Xh Tryz.prog (Zy Tryz.prog 83) (volC l0) (volC l0 s) (z5k l0 s)
 | .h0 v3 v10 => (lb (fun k0 => (lo fun o0 => (sl Ux 221 [] ⟨[], [], volN0, volM0⟩ ⟨[], [], []⟩ [true, true, false, false, false, true, true, false, true, false, true, false, true, true, true, false, true, true, false, true, true, false, false, true, true, true, false] (ww o0 (tt k0 nn))))) (fun k0 => (lr 35 3 [1, 1, 1, 1, 1, 1, 1, 0] 1 3 [(2, (ii v3))] (sl Ux 12 [] ⟨[], [], [some [2]], []⟩ ⟨[], [], []⟩ [false] (tt k0 nn)))))
theorem y8k (l0 : List R6) : Xh Tryz.prog (Zy Tryz.prog 83) (volC l0) (Zf Tryz.prog 83 [(.dat l0.length (Zz l0))] true []) (y3m l0) := (sl Ux 17 [] ⟨[], [], volN0, volM0⟩ ⟨[], [], []⟩ [] nn)
theorem w3y (l0 : List R6) (n : Nat) (vs : List AVal) (h : Ya (z5k l0) n (y3m l0) = .ret vs) : Je Tryz.prog (Zy Tryz.prog 83) (Zf Tryz.prog 83 [(.dat l0.length (Zz l0))] true []) vs := by
 have := Zn (x4s l0) n _ (y8k l0)
 rwa [h] at this
inductive comS where
 | h0 (v5 : List R6) (v14 : Int)
 | h1 (v5 : List R6) (v14 : Int) (v20 : Int) (v_0_0 : Int) (v_0_1 : Int) (v_0_2 : Int) (v_0_3 : Int) (v_0_4 : Int) (v_0_5 : Int)
noncomputable def comC (l0 : List R6) (l1 : List R6) : comS → Cfg
 | .h0 v5 v14 => ⟨⟨38, 0, true⟩, none, (Za Tryz.prog 85 [1, 1, 0, 1, 0, 0] 0), none, (Zy Tryz.prog 5), ⟨Ym [(1, (.dat l1.length (Zz l1))), (5, (.sla 0 6 0 v5.length (.un 6))), (12, (.dat l0.length (Zz l0))), (13, (ii ((l0.length : Nat) : Int))), (14, (ii v14))], Jy [⟨rows v5.length (Zz v5), 159, some ⟨6, v5.length, (Zz v5)⟩⟩] 0, 1, [], true⟩, [], .leaf⟩
 | .h1 v5 v14 v20 v_0_0 v_0_1 v_0_2 v_0_3 v_0_4 v_0_5 => ⟨⟨38, 0, true⟩, none, (Za Tryz.prog 85 [1, 1, 0, 1, 0, 0, 1, 1, 0, 0, 1, 1, 0, 0] 0), none, (Zy Tryz.prog 5), ⟨Ym [(1, (.dat l1.length (Zz l1))), (5, (.sla 1 6 0 v5.length (.un 6))), (7, (.ptr 0 0)), (12, (.dat l0.length (Zz l0))), (13, (ii ((l0.length : Nat) : Int))), (14, (ii v14)), (18, (.dat l1.length (Zz l1))), (19, (ii ((l1.length : Nat) : Int))), (20, (ii v20))], Jy [⟨[(ii v_0_0), (ii v_0_1), (ii v_0_2), (ii v_0_3), (ii v_0_4), (ii v_0_5)], 159, none⟩, ⟨rows v5.length (Zz v5), 159, some ⟨6, v5.length, (Zz v5)⟩⟩] 0, 2, [], true⟩, [], .leaf⟩
def comN0 : List (Option (List Nat)) := [some [1, 5, 12, 13, 14]]
def comM0 : List (Option (List Nat)) := []
def w2p : List (Option (List Nat)) := [some [1, 5, 7, 12, 13, 14, 18, 19, 20]]
def w2q : List (Option (List Nat)) := []
noncomputable def Jv (l0 : List R6) (l1 : List R6) : comS → Xn comS
 | .h0 v5 v14 => (bif (decide (v14 < ((l0.length : Nat) : Int))) then (bif ((decide (0 ≤ v14 ∧ v14 < ((l0.length : Nat) : Int))) && true) then (.to (.h1 v5 v14 0 (rd l0 (Int.toNat v14)).a (rd l0 (Int.toNat v14)).b (rd l0 (Int.toNat v14)).c (rd l0 (Int.toNat v14)).d (rd l0 (Int.toNat v14)).e (rd l0 (Int.toNat v14)).f)) else .stuck) else (.ret [(.dat v5.length (Zz v5))]))
 | .h1 v5 v14 v20 v_0_0 v_0_1 v_0_2 v_0_3 v_0_4 v_0_5 => (bif (decide (v20 < ((l1.length : Nat) : Int))) then (bif ((decide (0 ≤ v20 ∧ v20 < ((l1.length : Nat) : Int))) && true) then (bif (decide ((Ko v_0_0 (rd l1 (Int.toNat v20)).a) ≥ (Kn v_0_3 (rd l1 (Int.toNat v20)).d))) then (.to (.h1 v5 v14 (IntKind.wrap IntKind.i64 (v20 + 1)) v_0_0 v_0_1 v_0_2 v_0_3 v_0_4 v_0_5)) else (bif (decide ((Ko v_0_1 (rd l1 (Int.toNat v20)).b) ≥ (Kn v_0_4 (rd l1 (Int.toNat v20)).e))) then (.to (.h1 v5 v14 (IntKind.wrap IntKind.i64 (v20 + 1)) v_0_0 v_0_1 v_0_2 v_0_3 v_0_4 v_0_5)) else (bif (decide ((Ko v_0_2 (rd l1 (Int.toNat v20)).c) ≥ (Kn v_0_5 (rd l1 (Int.toNat v20)).f))) then (.to (.h1 v5 v14 (IntKind.wrap IntKind.i64 (v20 + 1)) v_0_0 v_0_1 v_0_2 v_0_3 v_0_4 v_0_5)) else (bif (Nat.beq 6 6 && ((decide (0 + v5.length = v5.length)) && decide ((v5.length + 1 + 1) * (48 + 1) ≤ Up))) then (.to (.h1 (v5 ++ [(R6.mk (Ko v_0_0 (rd l1 (Int.toNat v20)).a) (Ko v_0_1 (rd l1 (Int.toNat v20)).b) (Ko v_0_2 (rd l1 (Int.toNat v20)).c) (Kn v_0_3 (rd l1 (Int.toNat v20)).d) (Kn v_0_4 (rd l1 (Int.toNat v20)).e) (Kn v_0_5 (rd l1 (Int.toNat v20)).f))]) v14 (IntKind.wrap IntKind.i64 (v20 + 1)) v_0_0 v_0_1 v_0_2 v_0_3 v_0_4 v_0_5)) else .stuck)))) else .stuck) else (.to (.h0 v5 (IntKind.wrap IntKind.i64 (v14 + 1)))))
noncomputable def y4w (l0 : List R6) (l1 : List R6) : Xn comS := (.to (.h0 ([] : List R6) 0))
theorem x7j (l0 : List R6) (l1 : List R6) : ∀ s, Xh Tryz.prog (Zy Tryz.prog 85) (comC l0 l1) (comC l0 l1 s) (Jv l0 l1 s)
 | .h0 v5 v14 => (lb (fun k0 => (lo fun o0 => (sl Ux 24 [] ⟨[1, 0], [], w2p, w2q⟩ ⟨[], [], []⟩ [true] (pp (fl v5 nn) (ww o0 (tt k0 nn)))))) (fun k0 => (lr 38 3 [1, 1, 1, 1, 1, 1, 1, 0] 1 5 [(4, (.dat v5.length (Zz v5)))] (sl Ux 12 [] ⟨[], [0], [some [4]], []⟩ ⟨[(4, .frz v5.length v5.length (Zz v5) (Zz v5))], [], []⟩ [false] (pp (xZ (z3v 6 6 0 v5.length v5.length (Zz v5)) v5.length (Zz v5)) (pp (xL v5.length v5.length) (pp (xS v5.length (Zz v5) (Zz v5)) (pp (fl v5 nn) (tt k0 nn)))))))))
 | .h1 v5 v14 v20 v_0_0 v_0_1 v_0_2 v_0_3 v_0_4 v_0_5 => (lb (fun k0 => (lo fun o1_0 => (lb (fun k1 => (sl Ux 82 [] ⟨[0, 1], [], w2p, w2q⟩ ⟨[], [], []⟩ [true, true, false, false, false, false, false, false, false, false, true, false] (pp (fl v5 nn) (tt k1 (ww o1_0 (tt k0 nn)))))) (fun k1 => (lb (fun k2 => (sl Ux 110 [] ⟨[0, 1], [], w2p, w2q⟩ ⟨[], [], []⟩ [true, true, false, false, false, false, false, false, false, false, false, true, true, false, true, false, true, false, true, false, true, false, true, false, true, false, true, false, true, false] (pp (fl v5 nn) (tt k2 (tt k1 (ww o1_0 (tt k0 nn))))))) (fun k2 => (lb (fun k3 => (sl Ux 138 [] ⟨[0, 1], [], w2p, w2q⟩ ⟨[], [], []⟩ [true, true, false, false, false, false, false, false, false, false, false, true, true, false, true, false, true, false, true, false, true, false, true, false, true, false, true, false, false, true, true, true, false, true, true, false, true, true, false, true, true, false, true, true, false, true, true, false, true, true, false, true, true, false, true, false] (pp (fl v5 nn) (tt k3 (tt k2 (tt k1 (ww o1_0 (tt k0 nn)))))))) (fun k3 => (lo fun o0 => (sl Ux 158 [] ⟨[0, 8], [], w2p, w2q⟩ ⟨[(5, .len (v5 ++ [(R6.mk (Ko v_0_0 (rd l1 (tn v20)).a) (Ko v_0_1 (rd l1 (tn v20)).b) (Ko v_0_2 (rd l1 (tn v20)).c) (Kn v_0_3 (rd l1 (tn v20)).d) (Kn v_0_4 (rd l1 (tn v20)).e) (Kn v_0_5 (rd l1 (tn v20)).f))]).length)], [.keep, .rowed 6 (v5 ++ [(R6.mk (Ko v_0_0 (rd l1 (tn v20)).a) (Ko v_0_1 (rd l1 (tn v20)).b) (Ko v_0_2 (rd l1 (tn v20)).c) (Kn v_0_3 (rd l1 (tn v20)).d) (Kn v_0_4 (rd l1 (tn v20)).e) (Kn v_0_5 (rd l1 (tn v20)).f))]).length (Zz (v5 ++ [(R6.mk (Ko v_0_0 (rd l1 (tn v20)).a) (Ko v_0_1 (rd l1 (tn v20)).b) (Ko v_0_2 (rd l1 (tn v20)).c) (Kn v_0_3 (rd l1 (tn v20)).d) (Kn v_0_4 (rd l1 (tn v20)).e) (Kn v_0_5 (rd l1 (tn v20)).f))]))], []⟩ [true, true, false, false, false, false, false, false, false, false, false, true, true, false, true, false, true, false, true, false, true, false, true, false, true, false, true, false, false, true, true, true, false, true, true, false, true, true, false, true, true, false, true, true, false, true, true, false, true, true, false, true, true, false, false, false, true] (pp (xL (v5.length + 1) (v5 ++ [(R6.mk (Ko v_0_0 (rd l1 (tn v20)).a) (Ko v_0_1 (rd l1 (tn v20)).b) (Ko v_0_2 (rd l1 (tn v20)).c) (Kn v_0_3 (rd l1 (tn v20)).d) (Kn v_0_4 (rd l1 (tn v20)).e) (Kn v_0_5 (rd l1 (tn v20)).f))]).length) (pp (xL (v5.length + 1) (v5 ++ [(R6.mk (Ko v_0_0 (rd l1 (tn v20)).a) (Ko v_0_1 (rd l1 (tn v20)).b) (Ko v_0_2 (rd l1 (tn v20)).c) (Kn v_0_3 (rd l1 (tn v20)).d) (Kn v_0_4 (rd l1 (tn v20)).e) (Kn v_0_5 (rd l1 (tn v20)).f))]).length) (pp (xS (v5.length + 1) (Zc (Zz v5) 0 v5.length 6 [(ii (Ko v_0_0 (rd l1 (tn v20)).a)), (ii (Ko v_0_1 (rd l1 (tn v20)).b)), (ii (Ko v_0_2 (rd l1 (tn v20)).c)), (ii (Kn v_0_3 (rd l1 (tn v20)).d)), (ii (Kn v_0_4 (rd l1 (tn v20)).e)), (ii (Kn v_0_5 (rd l1 (tn v20)).f))]) (Zz (v5 ++ [(R6.mk (Ko v_0_0 (rd l1 (tn v20)).a) (Ko v_0_1 (rd l1 (tn v20)).b) (Ko v_0_2 (rd l1 (tn v20)).c) (Kn v_0_3 (rd l1 (tn v20)).d) (Kn v_0_4 (rd l1 (tn v20)).e) (Kn v_0_5 (rd l1 (tn v20)).f))]))) (pp (pp (xF (Zc (Zz v5) 0 v5.length 6 [(ii (Ko v_0_0 (rd l1 (tn v20)).a)), (ii (Ko v_0_1 (rd l1 (tn v20)).b)), (ii (Ko v_0_2 (rd l1 (tn v20)).c)), (ii (Kn v_0_3 (rd l1 (tn v20)).d)), (ii (Kn v_0_4 (rd l1 (tn v20)).e)), (ii (Kn v_0_5 (rd l1 (tn v20)).f))])) nn) (ww o0 (tt k3 (tt k2 (tt k1 (ww o1_0 (tt k0 nn)))))))))))))))))))) (fun k0 => (sl Ux 13 [] ⟨[1], [], comN0, comM0⟩ ⟨[], [], []⟩ [false] (pp (fl v5 nn) (tt k0 nn)))))
theorem x1q (l0 : List R6) (l1 : List R6) : Xh Tryz.prog (Zy Tryz.prog 85) (comC l0 l1) (Zf Tryz.prog 85 [(.dat l0.length (Zz l0)), (.dat l1.length (Zz l1))] true []) (y4w l0 l1) := (sl Ux 17 [(159, 6, Zz ([] : List R6))] ⟨[0], [], comN0, comM0⟩ ⟨[(5, .grow 0 6)], [], []⟩ [] (pp (fl ([] : List R6) nn) nn))
theorem w7u (l0 : List R6) (l1 : List R6) (n : Nat) (vs : List AVal) (h : Ya (Jv l0 l1) n (y4w l0 l1) = .ret vs) : Je Tryz.prog (Zy Tryz.prog 85) (Zf Tryz.prog 85 [(.dat l0.length (Zz l0)), (.dat l1.length (Zz l1))] true []) vs := by
 have := Zn (x7j l0 l1) n _ (x1q l0 l1)
 rwa [h] at this
end Go.Am
end
section
set_option linter.unusedVariables false
set_option linter.unusedSimpArgs false
namespace Go.Am
open Go.Proofs
set_option maxRecDepth 100000
set_option maxHeartbeats 4000000
set_option linter.unusedVariables false
set_option linter.unusedSimpArgs false
def Yr (l : List R6) : List R6 := l
def Ww (l : List R6) : Bool := decide (l.length ≤ 10000)
theorem v1f (l : List R6) (hl : l.length ≤ 10000) : ∀ (k i : Nat) (out : List R6), i + k = l.length → out = l.take i → ∃ N, Ya (z5z l) N (.to (.h0 out (i : Int))) = .ret [.dat l.length (Zz l)]
 | 0, i, out, h, ho => by
  refine ⟨1, ?_⟩
  rw [List.take_of_length_le (by omega)] at ho
  subst ho
  rw [Zv]
  simp (disch := omega) only [z5z, Xz, Yd, Zr, Yx, Xu, Yy, Yq, Yw, Zo, Zq, Zb, decide_true, Zx, Yu, Zu, Nat.zero_add, Bool.and_true, Bool.true_and, cond_true, cond_false, Bool.not_true, Bool.not_false, Zm, Zg, Zj]
 | k + 1, i, out, h, ho => by
  have hi : i < l.length := by omega
  have hlen : out.length = i := by rw [ho, List.length_take]; omega
  obtain ⟨N, hN⟩ := v1f l hl k (i + 1) (out ++ [rd l i]) (by omega) (by rw [ho, Xk hi, List.take_append_getElem])
  refine ⟨N + 1, ?_⟩
  rw [Zv]
  simp (disch := omega) only [z5z, Xz, Yd, Zr, Yx, Xu, Yy, Yq, Yw, Zo, Zq, Zb, decide_true, Zx, Yu, Zu, Nat.zero_add, Bool.and_true, Bool.true_and, cond_true, cond_false, Bool.not_true, Bool.not_false, Zm, Zg, Zj]
  exact hN
theorem v6i (l : List R6) (h : Ww l = true) : ∃ N, Ya (z5z l) N (y5b l) = .ret [.dat (Yr l).length (Zz (Yr l))] :=
 v1f l (of_decide_eq_true h) l.length 0 [] (Nat.zero_add _) rfl
def vol1 (r : R6) : Int := IntKind.wrap .i64 (IntKind.wrap .i64 (IntKind.wrap .i64 (1 * IntKind.wrap .i64 (r.d - r.a)) * IntKind.wrap .i64 (r.e - r.b)) * IntKind.wrap .i64 (r.f - r.c))
def w8g : List R6 → Int → Int
 | [], s => s
 | r :: l, s => w8g l (IntKind.wrap .i64 (s + vol1 r))
def z0z (l : List R6) : Int := w8g l 0
def Wn (l : List R6) : Bool := decide (l.length ≤ 100000000)
theorem w8f (l : List R6) (hl : l.length ≤ 100000000) : ∀ (k i : Nat) (s : Int), i + k = l.length → ∃ N, Ya (z5k l) N (.to (.h0 s (i : Int))) = .ret [.int .i64 (w8g (l.drop i) s)]
 | 0, i, s, h => by
  refine ⟨1, ?_⟩
  rw [Zv, List.drop_eq_nil_of_le (by omega)]
  simp (disch := omega) only [z5k, w8g, Xz, Yd, Zr, Yx, Xu, Yy, Yq, Yw, Zo, Zq, Zb, decide_true, Zx, Yu, Zu, Nat.zero_add, Bool.and_true, Bool.true_and, cond_true, cond_false, Bool.not_true, Bool.not_false, Zm, Zg, Zj]
 | k + 1, i, s, h => by
  have hi : i < l.length := by omega
  obtain ⟨N, hN⟩ := w8f l hl k (i + 1) (IntKind.wrap .i64 (s + vol1 (rd l i))) (by omega)
  refine ⟨N + 1, ?_⟩
  rw [Zv, Yh hi]
  simp (disch := omega) only [z5k, w8g, Zr, Zo, Zx, Zu, Bool.and_true, cond_true]
  rw [Zq (n := ((i + 1 : Nat) : Int)) (by omega)]
  exact hN
theorem v1n (l : List R6) (h : Wn l = true) : ∃ N, Ya (z5k l) N (y3m l) = .ret [.int .i64 (z0z l)] :=
 w8f l (of_decide_eq_true h) l.length 0 0 (Nat.zero_add _)
theorem v1s (r : R6) : Cg (vol1 r) (bxV r) := by
 unfold vol1 bxV
 refine (((Cg.mul ?_ (Cg.wrap _)).w.mul (Cg.wrap _)).w)
 have h : Cg (1 * IntKind.wrap .i64 (r.d - r.a)) (1 * (r.d - r.a)) := Cg.mul (Cg.refl 1) (Cg.wrap _)
 exact h.w.trans (by rw [Int.one_mul]; exact Cg.refl _)
theorem x8f : ∀ (l : List R6) (s s' : Int), Cg s s' → Cg (w8g l s) (s' + sm l bxV)
 | [], s, s', h => by rw [x8u, Int.add_zero]; exact h
 | r :: l, s, s', h => by
  rw [Vd, ← Int.add_assoc]
  exact x8f l _ _ (h.add (v1s r)).w
theorem v1q (l : List R6) : Cg (z0z l) (sm l bxV) := by
 have := x8f l 0 0 (Cg.refl 0)
 rwa [Int.zero_add] at this
theorem x8e : ∀ (l : List R6) (s : Int), (-9223372036854775808 ≤ s ∧ s ≤ 9223372036854775807) → -9223372036854775808 ≤ w8g l s ∧ w8g l s ≤ 9223372036854775807
 | [], s, h => h
 | r :: l, s, h => x8e l _ (v1m _)
theorem v1p (l : List R6) : -9223372036854775808 ≤ z0z l ∧ z0z l ≤ 9223372036854775807 := x8e l 0 (by omega)
theorem x8d {l : List R6} {n : Int} (h : sm l bxV = n) (hn : -9223372036854775808 ≤ n ∧ n ≤ 9223372036854775807) : z0z l = n := by
 subst h; exact (v1q l).is (v1p l) hn
def Vn (X Y : List R6) : Bool := decide (X.length ≤ 10000 ∧ Y.length ≤ 10000)
theorem z2q (X Y : List R6) : (Yf X Y).length ≤ X.length * Y.length := by
 unfold Yf
 induction X with
 | nil => simp
 | cons x X ih =>
  rw [List.flatMap_cons, List.length_append, List.length_cons, Nat.add_mul, Nat.one_mul]
  have := List.length_filterMap_le (z1s x) Y
  omega
section
variable (X Y : List R6) (hX : X.length ≤ 10000) (hY : Y.length ≤ 10000)
include hX hY
omit hX in
theorem y7m (i : Nat) (x : R6) : ∀ (k j : Nat) (out : List R6), j + k = Y.length → out.length ≤ i * 10000 + j → i ≤ 10000 →
  ∃ n, ∀ N, Ya (Jv X Y) (N + n) (.to (.h1 out (i : Int) (j : Int) x.a x.b x.c x.d x.e x.f)) = Ya (Jv X Y) N (.to (.h0 (out ++ (Y.drop j).filterMap (z1s x)) ((i + 1 : Nat) : Int)))
 | 0, j, out, h, ho, hi => by
  refine ⟨1, fun N => ?_⟩
  rw [Zv, List.drop_eq_nil_of_le (by omega), List.filterMap_nil, List.append_nil]
  simp (disch := omega) only [Jv, Xz, Yd, Zr, Yx, Xu, Yy, Yq, Yw, Zo, Zq, Zb, decide_true, Zx, Yu, Zu, Nat.zero_add, Bool.and_true, Bool.true_and, cond_true, cond_false, Bool.not_true, Bool.not_false, Zm, Zg, Zj]
 | k + 1, j, out, h, ho, hi => by
  have hj : j < Y.length := by omega
  rw [Yh hj, List.filterMap_cons]
  have hin : decide (0 ≤ (j : Int) ∧ (j : Int) < ((Y.length : Nat) : Int)) = true := decide_eq_true (by omega)
  have hlt : decide ((j : Int) < ((Y.length : Nat) : Int)) = true := decide_eq_true (by omega)
  have hroom : decide ((out.length + 1 + 1) * (48 + 1) ≤ Up) = true := Zb (by omega)
  by_cases h1 : max x.a (rd Y j).a < min x.d (rd Y j).d
  ·by_cases h2 : max x.b (rd Y j).b < min x.e (rd Y j).e
   ·by_cases h3 : max x.c (rd Y j).c < min x.f (rd Y j).f
    ·have hm : z1s x (rd Y j) = some ⟨max x.a (rd Y j).a, max x.b (rd Y j).b, max x.c (rd Y j).c, min x.d (rd Y j).d, min x.e (rd Y j).e, min x.f (rd Y j).f⟩ := by
      unfold z1s; rw [decide_eq_true h1, decide_eq_true h2, decide_eq_true h3]; rfl
     obtain ⟨n, hn⟩ := y7m i x k (j + 1) (out ++ [⟨max x.a (rd Y j).a, max x.b (rd Y j).b, max x.c (rd Y j).c, min x.d (rd Y j).d, min x.e (rd Y j).e, min x.f (rd Y j).f⟩]) (by omega) (by simp; omega) hi
     refine ⟨n + 1, fun N => ?_⟩
     have := hn N
     rw [hm]
     simp only []
     rw [← Nat.add_assoc, Zv]
     simp (disch := omega) only [Jv, hin, hlt, hroom, y0j, y0i, w7r, Xz, Yd, Zr, Yx, Xu, Yy, Yq, Yw, Zo, Zq, Zb, decide_true, Zx, Yu, Zu, Nat.zero_add, Bool.and_true, Bool.true_and, cond_true, cond_false, Bool.not_true, Bool.not_false, Zm, Zg, Zj]
     rw [List.append_assoc] at this
     exact this
    ·have hm : z1s x (rd Y j) = none := by
      unfold z1s; rw [decide_eq_true h1, decide_eq_true h2, decide_eq_false h3]; rfl
     obtain ⟨n, hn⟩ := y7m i x k (j + 1) out (by omega) (by omega) hi
     refine ⟨n + 1, fun N => ?_⟩
     have := hn N
     rw [hm]
     simp only []
     rw [← Nat.add_assoc, Zv]
     simp (disch := omega) only [Jv, hin, hlt, hroom, y0j, y0i, w7r, w2i, Xz, Yd, Zr, Yx, Xu, Yy, Yq, Yw, Zo, Zq, Zb, decide_true, Zx, Yu, Zu, Nat.zero_add, Bool.and_true, Bool.true_and, cond_true, cond_false, Bool.not_true, Bool.not_false, Zm, Zg, Zj]
     exact this
   ·have hm : z1s x (rd Y j) = none := by
     unfold z1s; rw [decide_eq_true h1, decide_eq_false h2]; rfl
    obtain ⟨n, hn⟩ := y7m i x k (j + 1) out (by omega) (by omega) hi
    refine ⟨n + 1, fun N => ?_⟩
    have := hn N
    rw [hm]
    simp only []
    rw [← Nat.add_assoc, Zv]
    simp (disch := omega) only [Jv, hin, hlt, hroom, y0j, y0i, w7r, w2i, Xz, Yd, Zr, Yx, Xu, Yy, Yq, Yw, Zo, Zq, Zb, decide_true, Zx, Yu, Zu, Nat.zero_add, Bool.and_true, Bool.true_and, cond_true, cond_false, Bool.not_true, Bool.not_false, Zm, Zg, Zj]
    exact this
  ·have hm : z1s x (rd Y j) = none := by
    unfold z1s; rw [decide_eq_false h1]; rfl
   obtain ⟨n, hn⟩ := y7m i x k (j + 1) out (by omega) (by omega) hi
   refine ⟨n + 1, fun N => ?_⟩
   have := hn N
   rw [hm]
   simp only []
   rw [← Nat.add_assoc, Zv]
   simp (disch := omega) only [Jv, hin, hlt, hroom, y0j, y0i, w7r, w2i, Xz, Yd, Zr, Yx, Xu, Yy, Yq, Yw, Zo, Zq, Zb, decide_true, Zx, Yu, Zu, Nat.zero_add, Bool.and_true, Bool.true_and, cond_true, cond_false, Bool.not_true, Bool.not_false, Zm, Zg, Zj]
   exact this
theorem v1c : ∀ (k i : Nat) (out : List R6), i + k = X.length → out.length ≤ i * 10000 → ∃ n, Ya (Jv X Y) n (.to (.h0 out (i : Int))) = .ret [.dat (out ++ Yf (X.drop i) Y).length (Zz (out ++ Yf (X.drop i) Y))]
 | 0, i, out, h, ho => by
  refine ⟨1, ?_⟩
  rw [Zv, List.drop_eq_nil_of_le (by omega), show Yf [] Y = [] from rfl, List.append_nil]
  simp (disch := omega) only [Jv, Xz, Yd, Zr, Yx, Xu, Yy, Yq, Yw, Zo, Zq, Zb, decide_true, Zx, Yu, Zu, Nat.zero_add, Bool.and_true, Bool.true_and, cond_true, cond_false, Bool.not_true, Bool.not_false, Zm, Zg, Zj]
 | k + 1, i, out, h, ho => by
  have hi : i < X.length := by omega
  obtain ⟨n1, h1⟩ := y7m X Y hY i (rd X i) Y.length 0 out (Nat.zero_add _) (by omega) (by omega)
  rw [List.drop_zero, z2w] at h1
  obtain ⟨n2, h2⟩ := v1c k (i + 1) (out ++ Y.filterMap (z1s (rd X i))) (by omega) (by
   rw [List.length_append]
   have := List.length_filterMap_le (z1s (rd X i)) Y
   omega)
  refine ⟨n2 + n1 + 1, ?_⟩
  rw [Zv]
  simp (disch := omega) only [Jv, Xz, Yd, Zr, Yx, Xu, Yy, Yq, Yw, Zo, Zq, Zb, decide_true, Zx, Yu, Zu, Nat.zero_add, Bool.and_true, Bool.true_and, cond_true, cond_false, Bool.not_true, Bool.not_false, Zm, Zg, Zj]
  rw [h1 n2, h2, Yh hi, show Yf (rd X i :: X.drop (i + 1)) Y = Y.filterMap (z1s (rd X i)) ++ Yf (X.drop (i + 1)) Y from List.flatMap_cons, List.append_assoc]
end
theorem v6b (X Y : List R6) (h : Vn X Y = true) : ∃ N, Ya (Jv X Y) N (y4w X Y) = .ret [.dat (Yf X Y).length (Zz (Yf X Y))] := by
 obtain ⟨h1, h2⟩ := of_decide_eq_true h
 have := v1c X Y h1 h2 X.length 0 [] (Nat.zero_add _) (Nat.zero_le _)
 rwa [List.drop_zero, List.nil_append] at this
noncomputable def fBlk : List AVal → Option (AVal × Bool)
 | [a0] => match asL R6 a0 with
  | some (L0, g0, n0) => some (.dat (Yr L0).length (Zz (Yr L0)), isT R6 n0 g0 && (Ww L0))
  | _ => none
 | _ => none
theorem v5r {S : Specs} (hS : Zk Tryz.prog S) : Zk Tryz.prog (S.with w1d fBlk) := by
 refine z1d hS (by kernel_rfl) fun args v h => ?_
 unfold fBlk at h
 split at h
 ·rename_i a0
  split at h
  ·rename_i L0 g0 n0 e0
   simp only [Option.some.injEq, Prod.mk.injEq, Bool.and_eq_true] at h
   obtain ⟨rfl, ho0, hw⟩ := h
   obtain ⟨N, hN⟩ := v6i L0 hw
   exact ⟨_, _, (.cons (asL_le e0 ho0) .nil), rfl, w7x L0 N _ hN, 3, rfl⟩
  ·cases h
 ·cases h
noncomputable def fVol : List AVal → Option (AVal × Bool)
 | [a0] => match asL R6 a0 with
  | some (L0, g0, n0) => some (.int .i64 (z0z L0), isT R6 n0 g0 && (Wn L0))
  | _ => none
 | _ => none
theorem v4r {S : Specs} (hS : Zk Tryz.prog S) : Zk Tryz.prog (S.with v0k fVol) := by
 refine z1d hS (by kernel_rfl) fun args v h => ?_
 unfold fVol at h
 split at h
 ·rename_i a0
  split at h
  ·rename_i L0 g0 n0 e0
   simp only [Option.some.injEq, Prod.mk.injEq, Bool.and_eq_true] at h
   obtain ⟨rfl, ho0, hw⟩ := h
   obtain ⟨N, hN⟩ := v1n L0 hw
   exact ⟨_, _, (.cons (asL_le e0 ho0) .nil), rfl, w3y L0 N _ hN, 3, rfl⟩
  ·cases h
 ·cases h
noncomputable def fCom : List AVal → Option (AVal × Bool)
 | [a0, a1] => match asL R6 a0, asL R6 a1 with
  | some (L0, g0, n0), some (L1, g1, n1) => some (.dat (Yf L0 L1).length (Zz (Yf L0 L1)), isT R6 n0 g0 && (isT R6 n1 g1 && (Vn L0 L1)))
  | _, _ => none
 | _ => none
theorem v5p {S : Specs} (hS : Zk Tryz.prog S) : Zk Tryz.prog (S.with w1c fCom) := by
 refine z1d hS (by kernel_rfl) fun args v h => ?_
 unfold fCom at h
 split at h
 ·rename_i a0 a1
  split at h
  ·rename_i L0 g0 n0 L1 g1 n1 e0 e1
   simp only [Option.some.injEq, Prod.mk.injEq, Bool.and_eq_true] at h
   obtain ⟨rfl, ho0, ho1, hw⟩ := h
   obtain ⟨N, hN⟩ := v6b L0 L1 hw
   exact ⟨_, _, (.cons (asL_le e0 ho0) (.cons (asL_le e1 ho1) .nil)), rfl, w7u L0 L1 N _ hN, 3, rfl⟩
  ·cases h
 ·cases h
noncomputable def Ta : Specs := (((T9.with w1d fBlk).with v0k fVol).with w1c fCom)
theorem x2m : Zk Tryz.prog Ta := (v5p (v4r (v5r Ux)))
end Go.Am
end
section
set_option linter.unusedVariables false
set_option linter.unusedSimpArgs false
namespace Go.Am
open Go.Proofs
set_option maxRecDepth 1000000
set_option linter.unusedVariables false
set_option linter.unusedSimpArgs false
set_option maxHeartbeats 4000000
-- h0: index into an array (choices [true, false, false, false])
inductive prsS where
 | h0 (v7 : List R6) (v13 : Int)
noncomputable def prsC (l0 : List R6) (l1 : List R6) (x2 : Int) : prsS → Cfg
 | .h0 v7 v13 => ⟨⟨30, 0, true⟩, none, (Za Tryz.prog 84 [1, 1, 0, 1, 0, 0] 0), none, (Zy Tryz.prog 8), ⟨Ym [(1, (.dat l1.length (Zz l1))), (2, (ii x2)), (7, (.sla 0 6 0 v7.length (.un 6))), (11, (.dat l0.length (Zz l0))), (12, (ii ((l0.length : Nat) : Int))), (13, (ii v13))], Jy [⟨rows v7.length (Zz v7), 159, some ⟨6, v7.length, (Zz v7)⟩⟩] 0, 1, [], true⟩, [], .leaf⟩
def w6a : List (Option (List Nat)) := [some [1, 2, 7, 11, 12, 13]]
def w6b : List (Option (List Nat)) := []
noncomputable def z3m (l0 : List R6) (l1 : List R6) (x2 : Int) : prsS → Xn prsS
 | .h0 v7 v13 => (bif (decide (v13 < ((l0.length : Nat) : Int))) then (bif ((decide (0 ≤ v13 ∧ v13 < ((l0.length : Nat) : Int))) && true) then (bif (decide ((IntKind.wrap IntKind.i64 (Int.tdiv x2 2)) = Int.ofNat 0)) then (bif (Nat.beq 6 6 && ((decide (0 + v7.length = v7.length)) && decide ((v7.length + 1 + 1) * (48 + 1) ≤ Up))) then (.to (.h0 (v7 ++ [(R6.mk (IntKind.wrap IntKind.i64 ((rd l0 (Int.toNat v13)).a + (IntKind.wrap IntKind.i64 (1 - (IntKind.wrap IntKind.i64 (2 * (Int.tmod x2 2))))))) (rd l0 (Int.toNat v13)).b (rd l0 (Int.toNat v13)).c (IntKind.wrap IntKind.i64 ((rd l0 (Int.toNat v13)).d + (IntKind.wrap IntKind.i64 (1 - (IntKind.wrap IntKind.i64 (2 * (Int.tmod x2 2))))))) (rd l0 (Int.toNat v13)).e (rd l0 (Int.toNat v13)).f)]) (IntKind.wrap IntKind.i64 (v13 + 1)))) else .stuck) else (bif (decide ((IntKind.wrap IntKind.i64 (Int.tdiv x2 2)) = Int.ofNat 1)) then (bif (Nat.beq 6 6 && ((decide (0 + v7.length = v7.length)) && decide ((v7.length + 1 + 1) * (48 + 1) ≤ Up))) then (.to (.h0 (v7 ++ [(R6.mk (rd l0 (Int.toNat v13)).a (IntKind.wrap IntKind.i64 ((rd l0 (Int.toNat v13)).b + (IntKind.wrap IntKind.i64 (1 - (IntKind.wrap IntKind.i64 (2 * (Int.tmod x2 2))))))) (rd l0 (Int.toNat v13)).c (rd l0 (Int.toNat v13)).d (IntKind.wrap IntKind.i64 ((rd l0 (Int.toNat v13)).e + (IntKind.wrap IntKind.i64 (1 - (IntKind.wrap IntKind.i64 (2 * (Int.tmod x2 2))))))) (rd l0 (Int.toNat v13)).f)]) (IntKind.wrap IntKind.i64 (v13 + 1)))) else .stuck) else (bif (decide ((IntKind.wrap IntKind.i64 (Int.tdiv x2 2)) = Int.ofNat 2)) then (bif (Nat.beq 6 6 && ((decide (0 + v7.length = v7.length)) && decide ((v7.length + 1 + 1) * (48 + 1) ≤ Up))) then (.to (.h0 (v7 ++ [(R6.mk (rd l0 (Int.toNat v13)).a (rd l0 (Int.toNat v13)).b (IntKind.wrap IntKind.i64 ((rd l0 (Int.toNat v13)).c + (IntKind.wrap IntKind.i64 (1 - (IntKind.wrap IntKind.i64 (2 * (Int.tmod x2 2))))))) (rd l0 (Int.toNat v13)).d (rd l0 (Int.toNat v13)).e (IntKind.wrap IntKind.i64 ((rd l0 (Int.toNat v13)).f + (IntKind.wrap IntKind.i64 (1 - (IntKind.wrap IntKind.i64 (2 * (Int.tmod x2 2))))))))]) (IntKind.wrap IntKind.i64 (v13 + 1)))) else .stuck) else .stuck))) else .stuck) else (bif (Vn (cvT v7) (cvT l1)) then (bif (Wn (cvT (Yf (cvT v7) (cvT l1)))) then (.ret [(.int .i64 (z0z (cvT (Yf (cvT v7) (cvT l1)))))]) else .stuck) else .stuck))
noncomputable def y4f (l0 : List R6) (l1 : List R6) (x2 : Int) : Xn prsS := (.to (.h0 ([] : List R6) 0))
theorem x6c (l0 : List R6) (l1 : List R6) (x2 : Int) : ∀ s, Xh Tryz.prog (Zy Tryz.prog 84) (prsC l0 l1 x2) (prsC l0 l1 x2 s) (z3m l0 l1 x2 s)
 | .h0 v7 v13 => (lb (fun k0 => (lo fun o1_0 => (lb (fun k1 => (lo fun o0 => (sl x2m 82 [] ⟨[5], [], w6a, w6b⟩ ⟨[(7, .len (v7 ++ [(R6.mk (wr ((rd l0 (tn v13)).a + (wr (1 - (wr (2 * (Int.tmod x2 2))))))) (rd l0 (tn v13)).b (rd l0 (tn v13)).c (wr ((rd l0 (tn v13)).d + (wr (1 - (wr (2 * (Int.tmod x2 2))))))) (rd l0 (tn v13)).e (rd l0 (tn v13)).f)]).length)], [.rowed 6 (v7 ++ [(R6.mk (wr ((rd l0 (tn v13)).a + (wr (1 - (wr (2 * (Int.tmod x2 2))))))) (rd l0 (tn v13)).b (rd l0 (tn v13)).c (wr ((rd l0 (tn v13)).d + (wr (1 - (wr (2 * (Int.tmod x2 2))))))) (rd l0 (tn v13)).e (rd l0 (tn v13)).f)]).length (Zz (v7 ++ [(R6.mk (wr ((rd l0 (tn v13)).a + (wr (1 - (wr (2 * (Int.tmod x2 2))))))) (rd l0 (tn v13)).b (rd l0 (tn v13)).c (wr ((rd l0 (tn v13)).d + (wr (1 - (wr (2 * (Int.tmod x2 2))))))) (rd l0 (tn v13)).e (rd l0 (tn v13)).f)]))], []⟩ [true, false, false, false, false] (pp (xL (v7.length + 1) (v7 ++ [(R6.mk (wr ((rd l0 (tn v13)).a + (wr (1 - (wr (2 * (Int.tmod x2 2))))))) (rd l0 (tn v13)).b (rd l0 (tn v13)).c (wr ((rd l0 (tn v13)).d + (wr (1 - (wr (2 * (Int.tmod x2 2))))))) (rd l0 (tn v13)).e (rd l0 (tn v13)).f)]).length) (pp (xL (v7.length + 1) (v7 ++ [(R6.mk (wr ((rd l0 (tn v13)).a + (wr (1 - (wr (2 * (Int.tmod x2 2))))))) (rd l0 (tn v13)).b (rd l0 (tn v13)).c (wr ((rd l0 (tn v13)).d + (wr (1 - (wr (2 * (Int.tmod x2 2))))))) (rd l0 (tn v13)).e (rd l0 (tn v13)).f)]).length) (pp (xS (v7.length + 1) (Zc (Zz v7) 0 v7.length 6 [(ii (wr ((rd l0 (tn v13)).a + (wr (1 - (wr (2 * (Int.tmod x2 2)))))))), (ii (rd l0 (tn v13)).b), (ii (rd l0 (tn v13)).c), (ii (wr ((rd l0 (tn v13)).d + (wr (1 - (wr (2 * (Int.tmod x2 2)))))))), (ii (rd l0 (tn v13)).e), (ii (rd l0 (tn v13)).f)]) (Zz (v7 ++ [(R6.mk (wr ((rd l0 (tn v13)).a + (wr (1 - (wr (2 * (Int.tmod x2 2))))))) (rd l0 (tn v13)).b (rd l0 (tn v13)).c (wr ((rd l0 (tn v13)).d + (wr (1 - (wr (2 * (Int.tmod x2 2))))))) (rd l0 (tn v13)).e (rd l0 (tn v13)).f)]))) (pp (pp (xF (Zc (Zz v7) 0 v7.length 6 [(ii (wr ((rd l0 (tn v13)).a + (wr (1 - (wr (2 * (Int.tmod x2 2)))))))), (ii (rd l0 (tn v13)).b), (ii (rd l0 (tn v13)).c), (ii (wr ((rd l0 (tn v13)).d + (wr (1 - (wr (2 * (Int.tmod x2 2)))))))), (ii (rd l0 (tn v13)).e), (ii (rd l0 (tn v13)).f)])) nn) (ww o0 (ww k1 (ww k1 (ww o1_0 (tt k0 nn)))))))))))) (fun k1 => (lb (fun k2 => (lo fun o0 => (sl x2m 82 [] ⟨[5], [], w6a, w6b⟩ ⟨[(7, .len (v7 ++ [(R6.mk (rd l0 (tn v13)).a (wr ((rd l0 (tn v13)).b + (wr (1 - (wr (2 * (Int.tmod x2 2))))))) (rd l0 (tn v13)).c (rd l0 (tn v13)).d (wr ((rd l0 (tn v13)).e + (wr (1 - (wr (2 * (Int.tmod x2 2))))))) (rd l0 (tn v13)).f)]).length)], [.rowed 6 (v7 ++ [(R6.mk (rd l0 (tn v13)).a (wr ((rd l0 (tn v13)).b + (wr (1 - (wr (2 * (Int.tmod x2 2))))))) (rd l0 (tn v13)).c (rd l0 (tn v13)).d (wr ((rd l0 (tn v13)).e + (wr (1 - (wr (2 * (Int.tmod x2 2))))))) (rd l0 (tn v13)).f)]).length (Zz (v7 ++ [(R6.mk (rd l0 (tn v13)).a (wr ((rd l0 (tn v13)).b + (wr (1 - (wr (2 * (Int.tmod x2 2))))))) (rd l0 (tn v13)).c (rd l0 (tn v13)).d (wr ((rd l0 (tn v13)).e + (wr (1 - (wr (2 * (Int.tmod x2 2))))))) (rd l0 (tn v13)).f)]))], []⟩ [true, true, false, true, false, true, false, true, false] (pp (xL (v7.length + 1) (v7 ++ [(R6.mk (rd l0 (tn v13)).a (wr ((rd l0 (tn v13)).b + (wr (1 - (wr (2 * (Int.tmod x2 2))))))) (rd l0 (tn v13)).c (rd l0 (tn v13)).d (wr ((rd l0 (tn v13)).e + (wr (1 - (wr (2 * (Int.tmod x2 2))))))) (rd l0 (tn v13)).f)]).length) (pp (xL (v7.length + 1) (v7 ++ [(R6.mk (rd l0 (tn v13)).a (wr ((rd l0 (tn v13)).b + (wr (1 - (wr (2 * (Int.tmod x2 2))))))) (rd l0 (tn v13)).c (rd l0 (tn v13)).d (wr ((rd l0 (tn v13)).e + (wr (1 - (wr (2 * (Int.tmod x2 2))))))) (rd l0 (tn v13)).f)]).length) (pp (xS (v7.length + 1) (Zc (Zz v7) 0 v7.length 6 [(ii (rd l0 (tn v13)).a), (ii (wr ((rd l0 (tn v13)).b + (wr (1 - (wr (2 * (Int.tmod x2 2)))))))), (ii (rd l0 (tn v13)).c), (ii (rd l0 (tn v13)).d), (ii (wr ((rd l0 (tn v13)).e + (wr (1 - (wr (2 * (Int.tmod x2 2)))))))), (ii (rd l0 (tn v13)).f)]) (Zz (v7 ++ [(R6.mk (rd l0 (tn v13)).a (wr ((rd l0 (tn v13)).b + (wr (1 - (wr (2 * (Int.tmod x2 2))))))) (rd l0 (tn v13)).c (rd l0 (tn v13)).d (wr ((rd l0 (tn v13)).e + (wr (1 - (wr (2 * (Int.tmod x2 2))))))) (rd l0 (tn v13)).f)]))) (pp (pp (xF (Zc (Zz v7) 0 v7.length 6 [(ii (rd l0 (tn v13)).a), (ii (wr ((rd l0 (tn v13)).b + (wr (1 - (wr (2 * (Int.tmod x2 2)))))))), (ii (rd l0 (tn v13)).c), (ii (rd l0 (tn v13)).d), (ii (wr ((rd l0 (tn v13)).e + (wr (1 - (wr (2 * (Int.tmod x2 2)))))))), (ii (rd l0 (tn v13)).f)])) nn) (ww o0 (ww k2 (ww k2 (ww o1_0 (tt k0 nn)))))))))))) (fun k2 => (lb (fun k3 => (lo fun o0 => (sl x2m 82 [] ⟨[5], [], w6a, w6b⟩ ⟨[(7, .len (v7 ++ [(R6.mk (rd l0 (tn v13)).a (rd l0 (tn v13)).b (wr ((rd l0 (tn v13)).c + (wr (1 - (wr (2 * (Int.tmod x2 2))))))) (rd l0 (tn v13)).d (rd l0 (tn v13)).e (wr ((rd l0 (tn v13)).f + (wr (1 - (wr (2 * (Int.tmod x2 2))))))))]).length)], [.rowed 6 (v7 ++ [(R6.mk (rd l0 (tn v13)).a (rd l0 (tn v13)).b (wr ((rd l0 (tn v13)).c + (wr (1 - (wr (2 * (Int.tmod x2 2))))))) (rd l0 (tn v13)).d (rd l0 (tn v13)).e (wr ((rd l0 (tn v13)).f + (wr (1 - (wr (2 * (Int.tmod x2 2))))))))]).length (Zz (v7 ++ [(R6.mk (rd l0 (tn v13)).a (rd l0 (tn v13)).b (wr ((rd l0 (tn v13)).c + (wr (1 - (wr (2 * (Int.tmod x2 2))))))) (rd l0 (tn v13)).d (rd l0 (tn v13)).e (wr ((rd l0 (tn v13)).f + (wr (1 - (wr (2 * (Int.tmod x2 2))))))))]))], []⟩ (trs 3 [false, true, true, false, true, true, false, true, true, false]) (pp (xL (v7.length + 1) (v7 ++ [(R6.mk (rd l0 (tn v13)).a (rd l0 (tn v13)).b (wr ((rd l0 (tn v13)).c + (wr (1 - (wr (2 * (Int.tmod x2 2))))))) (rd l0 (tn v13)).d (rd l0 (tn v13)).e (wr ((rd l0 (tn v13)).f + (wr (1 - (wr (2 * (Int.tmod x2 2))))))))]).length) (pp (xL (v7.length + 1) (v7 ++ [(R6.mk (rd l0 (tn v13)).a (rd l0 (tn v13)).b (wr ((rd l0 (tn v13)).c + (wr (1 - (wr (2 * (Int.tmod x2 2))))))) (rd l0 (tn v13)).d (rd l0 (tn v13)).e (wr ((rd l0 (tn v13)).f + (wr (1 - (wr (2 * (Int.tmod x2 2))))))))]).length) (pp (xS (v7.length + 1) (Zc (Zz v7) 0 v7.length 6 [(ii (rd l0 (tn v13)).a), (ii (rd l0 (tn v13)).b), (ii (wr ((rd l0 (tn v13)).c + (wr (1 - (wr (2 * (Int.tmod x2 2)))))))), (ii (rd l0 (tn v13)).d), (ii (rd l0 (tn v13)).e), (ii (wr ((rd l0 (tn v13)).f + (wr (1 - (wr (2 * (Int.tmod x2 2))))))))]) (Zz (v7 ++ [(R6.mk (rd l0 (tn v13)).a (rd l0 (tn v13)).b (wr ((rd l0 (tn v13)).c + (wr (1 - (wr (2 * (Int.tmod x2 2))))))) (rd l0 (tn v13)).d (rd l0 (tn v13)).e (wr ((rd l0 (tn v13)).f + (wr (1 - (wr (2 * (Int.tmod x2 2))))))))]))) (pp (pp (xF (Zc (Zz v7) 0 v7.length 6 [(ii (rd l0 (tn v13)).a), (ii (rd l0 (tn v13)).b), (ii (wr ((rd l0 (tn v13)).c + (wr (1 - (wr (2 * (Int.tmod x2 2)))))))), (ii (rd l0 (tn v13)).d), (ii (rd l0 (tn v13)).e), (ii (wr ((rd l0 (tn v13)).f + (wr (1 - (wr (2 * (Int.tmod x2 2))))))))])) nn) (ww o0 (ww k3 (ww k3 (ww o1_0 (tt k0 nn)))))))))))) (fun k3 => trivial)))))))) (fun k0 => (Wd (sl x2m (C' := ⟨⟨30, 0, true⟩, (Wm Tryz.prog 84 [1, 1, 1, 0] 2), (Za Tryz.prog 84 [1, 1, 1, 0] 1), none, (Zy Tryz.prog 8), ⟨Ym [(26, (.dat v7.length (Zz v7))), (27, (.dat l1.length (Zz l1)))], Jy [] 0, 0, [], true⟩, [], .leaf⟩) 11 [] ⟨[], [0], [some [26, 27]], []⟩ ⟨[(26, .frz v7.length v7.length (Zz v7) (Zz v7))], [], []⟩ [false] (pp (xZ (z3v 6 6 0 v7.length v7.length (Zz v7)) v7.length (Zz v7)) (pp (xL v7.length v7.length) (pp (xS v7.length (Zz v7) (Zz v7)) (pp (fl v7 nn) (tt k0 nn)))))) (lo fun o0 => (lo fun o1 => (lr 30 3 [1, 1, 1, 1, 1, 1, 1, 0] 1 8 [(6, (ii (z0z (cvT (Yf (cvT v7) (cvT l1))))))] (sl x2m 4 [] ⟨[], [], [some [6]], []⟩ ⟨[], [], []⟩ [] (pp (pp (xI R6 (Yf (cvT v7) (cvT l1)).length (Zz (Yf (cvT v7) (cvT l1)))) (xw o1)) (pp (pp (xr v7) (pp (xr l1) (xw o0))) nn)))))))))
theorem y9x (l0 : List R6) (l1 : List R6) (x2 : Int) : Xh Tryz.prog (Zy Tryz.prog 84) (prsC l0 l1 x2) (Zf Tryz.prog 84 [(.dat l0.length (Zz l0)), (.dat l1.length (Zz l1)), (.int .i64 x2)] true []) (y4f l0 l1 x2) := (sl x2m 17 [(159, 6, Zz ([] : List R6))] ⟨[0], [], w6a, w6b⟩ ⟨[(7, .grow 0 6)], [], []⟩ [] (pp (fl ([] : List R6) nn) nn))
theorem w5z (l0 : List R6) (l1 : List R6) (x2 : Int) (n : Nat) (vs : List AVal) (h : Ya (z3m l0 l1 x2) n (y4f l0 l1 x2) = .ret vs) : Je Tryz.prog (Zy Tryz.prog 84) (Zf Tryz.prog 84 [(.dat l0.length (Zz l0)), (.dat l1.length (Zz l1)), (.int .i64 x2)] true []) vs := by
 have := Zn (x6c l0 l1 x2) n _ (y9x l0 l1 x2)
 rwa [h] at this
end Go.Am
end
section
set_option linter.unusedVariables false
set_option linter.unusedSimpArgs false
namespace Go.Am
open Go.Proofs
set_option maxRecDepth 100000
set_option maxHeartbeats 4000000
set_option linter.unusedVariables false
set_option linter.unusedSimpArgs false
def x4y (d : Int) : Int := IntKind.wrap .i64 (1 - IntKind.wrap .i64 (2 * Int.tmod d 2))
def w6i (d : Int) (r : R6) : R6 :=
 bif decide (Int.tdiv d 2 = 0) then ⟨IntKind.wrap .i64 (r.a + x4y d), r.b, r.c, IntKind.wrap .i64 (r.d + x4y d), r.e, r.f⟩
 else bif decide (Int.tdiv d 2 = 1) then ⟨r.a, IntKind.wrap .i64 (r.b + x4y d), r.c, r.d, IntKind.wrap .i64 (r.e + x4y d), r.f⟩
 else ⟨r.a, r.b, IntKind.wrap .i64 (r.c + x4y d), r.d, r.e, IntKind.wrap .i64 (r.f + x4y d)⟩
def prV (X Y : List R6) (d : Int) : Int := z0z (Yf (X.map (w6i d)) Y)
def Yi (X Y : List R6) (d : Int) : Bool := decide (X.length ≤ 10000 ∧ Y.length ≤ 10000 ∧ 0 ≤ d ∧ d ≤ 5)
theorem v0d (X Y : List R6) (d : Int) (hX : X.length ≤ 10000) (hY : Y.length ≤ 10000) (hd : 0 ≤ d ∧ d ≤ 5) : ∀ (k i : Nat) (out : List R6), i + k = X.length → out.length = i → ∃ N, Ya (z3m X Y d) N (.to (.h0 out (i : Int))) = .ret [.int .i64 (z0z (Yf (out ++ (X.drop i).map (w6i d)) Y))]
 | 0, i, out, h, ho => by
  refine ⟨1, ?_⟩
  rw [Zv, List.drop_eq_nil_of_le (by omega), List.map_nil, List.append_nil]
  have h1 : Vn out Y = true := decide_eq_true (by omega)
  have hl := z2q out Y
  have hm : out.length * Y.length ≤ 10000 * 10000 := Nat.mul_le_mul (by omega) hY
  have h2 : Wn (Yf out Y) = true := decide_eq_true (by omega)
  simp (disch := omega) only [z3m, h1, h2, Xz, Yd, Zr, Yx, Xu, Yy, Yq, Yw, Zo, Zq, Zb, decide_true, Zx, Yu, Zu, Nat.zero_add, Bool.and_true, Bool.true_and, cond_true, cond_false, Bool.not_true, Bool.not_false, Zm, Zg, Zj]
 | k + 1, i, out, h, ho => by
  have hi : i < X.length := by omega
  obtain ⟨N, hN⟩ := v0d X Y d hX hY hd k (i + 1) (out ++ [w6i d (rd X i)]) (by omega) (by simp; omega)
  refine ⟨N + 1, ?_⟩
  rw [List.append_assoc] at hN
  rw [Zv, Yh hi, List.map_cons]
  have hroom : decide ((out.length + 1 + 1) * (48 + 1) ≤ Up) = true := Zb (by omega)
  have c : d = 0 ∨ d = 1 ∨ d = 2 ∨ d = 3 ∨ d = 4 ∨ d = 5 := by omega
  have e : ∃ r, w6i d (rd X i) = r ∧ z3m X Y d (.h0 out (i : Int)) = .to (.h0 (out ++ [r]) ((i + 1 : Nat) : Int)) := by
   refine ⟨_, rfl, ?_⟩
   rcases c with rfl | rfl | rfl | rfl | rfl | rfl <;>
   simp (disch := omega) only [z3m, Zr, Zo, hroom, Zu, Zx, Nat.zero_add, decide_true, Bool.and_true, Yu, cond_true] <;> (try rw [Zq (n := ((i + 1 : Nat) : Int)) (by omega)]) <;> rfl
  obtain ⟨r, hr, e⟩ := e
  rw [e]
  rw [hr] at hN ⊢
  exact hN
theorem v3u (X Y : List R6) (d : Int) (h : Yi X Y d = true) : ∃ N, Ya (z3m X Y d) N (y4f X Y d) = .ret [.int .i64 (prV X Y d)] := by
 obtain ⟨h1, h2, h3⟩ := of_decide_eq_true h
 exact v0d X Y d h1 h2 h3 X.length 0 [] (Nat.zero_add _) rfl
noncomputable def fPrs : List AVal → Option (AVal × Bool)
 | [a0, a1, .int .i64 x2] => match asL R6 a0, asL R6 a1 with
  | some (L0, g0, n0), some (L1, g1, n1) => some (.int .i64 (prV L0 L1 x2), isT R6 n0 g0 && (isT R6 n1 g1 && (Yi L0 L1 x2)))
  | _, _ => none
 | _ => none
theorem v5d {S : Specs} (hS : Zk Tryz.prog S) : Zk Tryz.prog (S.with v0j fPrs) := by
 refine z1d hS (by kernel_rfl) fun args v h => ?_
 unfold fPrs at h
 split at h
 ·rename_i a0 a1 x2
  split at h
  ·rename_i L0 g0 n0 L1 g1 n1 e0 e1
   simp only [Option.some.injEq, Prod.mk.injEq, Bool.and_eq_true] at h
   obtain ⟨rfl, ho0, ho1, hw⟩ := h
   obtain ⟨N, hN⟩ := v3u L0 L1 x2 hw
   exact ⟨_, _, (.cons (asL_le e0 ho0) (.cons (asL_le e1 ho1) (.cons (.refl _) .nil))), rfl, w5z L0 L1 x2 N _ hN, 3, rfl⟩
  ·cases h
 ·cases h
noncomputable def Tb : Specs := (Ta.with v0j fPrs)
theorem Tb_ok : Zk Tryz.prog Tb := (v5d x2m)
end Go.Am
end
section
set_option linter.unusedVariables false
set_option linter.unusedSimpArgs false
namespace Go.Am
open Go.Proofs
set_option maxRecDepth 1000000
set_option linter.unusedVariables false
set_option linter.unusedSimpArgs false
set_option maxHeartbeats 4000000
inductive conS where
noncomputable def conC (l0 : List R6) (l1 : List R6) : conS → Cfg
 := nofun
noncomputable def x1o (l0 : List R6) (l1 : List R6) : conS → Xn conS
 := nofun
noncomputable def z8u (l0 : List R6) (l1 : List R6) : Xn conS := (bif (Vn (cvT l0) (cvT l1)) then (bif (Yi (cvT l0) (cvT l1) 0) then (bif (Yi (cvT (Yf (cvT l0) (cvT l1))) (cvT l1) 0) then (bif (Yi (cvT l0) (cvT (Yf (cvT l0) (cvT l1))) 0) then (bif (Yi (cvT (Yf (cvT l0) (cvT l1))) (cvT (Yf (cvT l0) (cvT l1))) 0) then (bif (Yi (cvT l0) (cvT l1) 1) then (bif (Yi (cvT (Yf (cvT l0) (cvT l1))) (cvT l1) 1) then (bif (Yi (cvT l0) (cvT (Yf (cvT l0) (cvT l1))) 1) then (bif (Yi (cvT (Yf (cvT l0) (cvT l1))) (cvT (Yf (cvT l0) (cvT l1))) 1) then (bif (Yi (cvT l0) (cvT l1) 2) then (bif (Yi (cvT (Yf (cvT l0) (cvT l1))) (cvT l1) 2) then (bif (Yi (cvT l0) (cvT (Yf (cvT l0) (cvT l1))) 2) then (bif (Yi (cvT (Yf (cvT l0) (cvT l1))) (cvT (Yf (cvT l0) (cvT l1))) 2) then (bif (Yi (cvT l0) (cvT l1) 3) then (bif (Yi (cvT (Yf (cvT l0) (cvT l1))) (cvT l1) 3) then (bif (Yi (cvT l0) (cvT (Yf (cvT l0) (cvT l1))) 3) then (bif (Yi (cvT (Yf (cvT l0) (cvT l1))) (cvT (Yf (cvT l0) (cvT l1))) 3) then (bif (Yi (cvT l0) (cvT l1) 4) then (bif (Yi (cvT (Yf (cvT l0) (cvT l1))) (cvT l1) 4) then (bif (Yi (cvT l0) (cvT (Yf (cvT l0) (cvT l1))) 4) then (bif (Yi (cvT (Yf (cvT l0) (cvT l1))) (cvT (Yf (cvT l0) (cvT l1))) 4) then (bif (Yi (cvT l0) (cvT l1) 5) then (bif (Yi (cvT (Yf (cvT l0) (cvT l1))) (cvT l1) 5) then (bif (Yi (cvT l0) (cvT (Yf (cvT l0) (cvT l1))) 5) then (bif (Yi (cvT (Yf (cvT l0) (cvT l1))) (cvT (Yf (cvT l0) (cvT l1))) 5) then (.ret [(.int .i64 (IntKind.wrap IntKind.i64 ((IntKind.wrap IntKind.i64 ((IntKind.wrap IntKind.i64 ((IntKind.wrap IntKind.i64 ((IntKind.wrap IntKind.i64 ((IntKind.wrap IntKind.i64 (0 + (IntKind.wrap IntKind.i64 ((IntKind.wrap IntKind.i64 ((prV (cvT l0) (cvT l1) 0) - (prV (cvT (Yf (cvT l0) (cvT l1))) (cvT l1) 0))) - (IntKind.wrap IntKind.i64 ((prV (cvT l0) (cvT (Yf (cvT l0) (cvT l1))) 0) - (prV (cvT (Yf (cvT l0) (cvT l1))) (cvT (Yf (cvT l0) (cvT l1))) 0))))))) + (IntKind.wrap IntKind.i64 ((IntKind.wrap IntKind.i64 ((prV (cvT l0) (cvT l1) 1) - (prV (cvT (Yf (cvT l0) (cvT l1))) (cvT l1) 1))) - (IntKind.wrap IntKind.i64 ((prV (cvT l0) (cvT (Yf (cvT l0) (cvT l1))) 1) - (prV (cvT (Yf (cvT l0) (cvT l1))) (cvT (Yf (cvT l0) (cvT l1))) 1))))))) + (IntKind.wrap IntKind.i64 ((IntKind.wrap IntKind.i64 ((prV (cvT l0) (cvT l1) 2) - (prV (cvT (Yf (cvT l0) (cvT l1))) (cvT l1) 2))) - (IntKind.wrap IntKind.i64 ((prV (cvT l0) (cvT (Yf (cvT l0) (cvT l1))) 2) - (prV (cvT (Yf (cvT l0) (cvT l1))) (cvT (Yf (cvT l0) (cvT l1))) 2))))))) + (IntKind.wrap IntKind.i64 ((IntKind.wrap IntKind.i64 ((prV (cvT l0) (cvT l1) 3) - (prV (cvT (Yf (cvT l0) (cvT l1))) (cvT l1) 3))) - (IntKind.wrap IntKind.i64 ((prV (cvT l0) (cvT (Yf (cvT l0) (cvT l1))) 3) - (prV (cvT (Yf (cvT l0) (cvT l1))) (cvT (Yf (cvT l0) (cvT l1))) 3))))))) + (IntKind.wrap IntKind.i64 ((IntKind.wrap IntKind.i64 ((prV (cvT l0) (cvT l1) 4) - (prV (cvT (Yf (cvT l0) (cvT l1))) (cvT l1) 4))) - (IntKind.wrap IntKind.i64 ((prV (cvT l0) (cvT (Yf (cvT l0) (cvT l1))) 4) - (prV (cvT (Yf (cvT l0) (cvT l1))) (cvT (Yf (cvT l0) (cvT l1))) 4))))))) + (IntKind.wrap IntKind.i64 ((IntKind.wrap IntKind.i64 ((prV (cvT l0) (cvT l1) 5) - (prV (cvT (Yf (cvT l0) (cvT l1))) (cvT l1) 5))) - (IntKind.wrap IntKind.i64 ((prV (cvT l0) (cvT (Yf (cvT l0) (cvT l1))) 5) - (prV (cvT (Yf (cvT l0) (cvT l1))) (cvT (Yf (cvT l0) (cvT l1))) 5))))))))]) else .stuck) else .stuck) else .stuck) else .stuck) else .stuck) else .stuck) else .stuck) else .stuck) else .stuck) else .stuck) else .stuck) else .stuck) else .stuck) else .stuck) else .stuck) else .stuck) else .stuck) else .stuck) else .stuck) else .stuck) else .stuck) else .stuck) else .stuck) else .stuck) else .stuck)
theorem x7i (l0 : List R6) (l1 : List R6) : ∀ s, Xh Tryz.prog (Zy Tryz.prog 88) (conC l0 l1) (conC l0 l1 s) (x1o l0 l1 s)
 := nofun
theorem x1p (l0 : List R6) (l1 : List R6) : Xh Tryz.prog (Zy Tryz.prog 88) (conC l0 l1) (Zf Tryz.prog 88 [(.dat l0.length (Zz l0)), (.dat l1.length (Zz l1))] true []) (z8u l0 l1) := (lo fun o0 => (lo fun o1 => (lo fun o2 => (lo fun o3 => (lo fun o4 => (lo fun o5 => (lo fun o6 => (lo fun o7 => (lo fun o8 => (lo fun o9 => (lo fun o10 => (lo fun o11 => (lo fun o12 => (lo fun o13 => (lo fun o14 => (lo fun o15 => (lo fun o16 => (lo fun o17 => (lo fun o18 => (lo fun o19 => (lo fun o20 => (lo fun o21 => (lo fun o22 => (lo fun o23 => (lo fun o24 => (lr 37 3 [1, 1, 1, 1, 1, 1, 1, 0] 1 5 [(4, (ii (wr ((wr ((wr ((wr ((wr ((wr (0 + (wr ((wr ((prV (cvT l0) (cvT l1) 0) - (prV (cvT (Yf (cvT l0) (cvT l1))) (cvT l1) 0))) - (wr ((prV (cvT l0) (cvT (Yf (cvT l0) (cvT l1))) 0) - (prV (cvT (Yf (cvT l0) (cvT l1))) (cvT (Yf (cvT l0) (cvT l1))) 0))))))) + (wr ((wr ((prV (cvT l0) (cvT l1) 1) - (prV (cvT (Yf (cvT l0) (cvT l1))) (cvT l1) 1))) - (wr ((prV (cvT l0) (cvT (Yf (cvT l0) (cvT l1))) 1) - (prV (cvT (Yf (cvT l0) (cvT l1))) (cvT (Yf (cvT l0) (cvT l1))) 1))))))) + (wr ((wr ((prV (cvT l0) (cvT l1) 2) - (prV (cvT (Yf (cvT l0) (cvT l1))) (cvT l1) 2))) - (wr ((prV (cvT l0) (cvT (Yf (cvT l0) (cvT l1))) 2) - (prV (cvT (Yf (cvT l0) (cvT l1))) (cvT (Yf (cvT l0) (cvT l1))) 2))))))) + (wr ((wr ((prV (cvT l0) (cvT l1) 3) - (prV (cvT (Yf (cvT l0) (cvT l1))) (cvT l1) 3))) - (wr ((prV (cvT l0) (cvT (Yf (cvT l0) (cvT l1))) 3) - (prV (cvT (Yf (cvT l0) (cvT l1))) (cvT (Yf (cvT l0) (cvT l1))) 3))))))) + (wr ((wr ((prV (cvT l0) (cvT l1) 4) - (prV (cvT (Yf (cvT l0) (cvT l1))) (cvT l1) 4))) - (wr ((prV (cvT l0) (cvT (Yf (cvT l0) (cvT l1))) 4) - (prV (cvT (Yf (cvT l0) (cvT l1))) (cvT (Yf (cvT l0) (cvT l1))) 4))))))) + (wr ((wr ((prV (cvT l0) (cvT l1) 5) - (prV (cvT (Yf (cvT l0) (cvT l1))) (cvT l1) 5))) - (wr ((prV (cvT l0) (cvT (Yf (cvT l0) (cvT l1))) 5) - (prV (cvT (Yf (cvT l0) (cvT l1))) (cvT (Yf (cvT l0) (cvT l1))) 5)))))))))] (sl Tb_ok 298 [] ⟨[], [], [some [4]], []⟩ ⟨[], [], []⟩ (trs 6 [false]) (pp (pp (xI R6 (Yf (cvT l0) (cvT l1)).length (Zz (Yf (cvT l0) (cvT l1)))) (pp (xI R6 (Yf (cvT l0) (cvT l1)).length (Zz (Yf (cvT l0) (cvT l1)))) (xw o24))) (pp (pp (xr l0) (pp (xI R6 (Yf (cvT l0) (cvT l1)).length (Zz (Yf (cvT l0) (cvT l1)))) (xw o23))) (pp (pp (xI R6 (Yf (cvT l0) (cvT l1)).length (Zz (Yf (cvT l0) (cvT l1)))) (pp (xr l1) (xw o22))) (pp (pp (xr l0) (pp (xr l1) (xw o21))) (pp (pp (xI R6 (Yf (cvT l0) (cvT l1)).length (Zz (Yf (cvT l0) (cvT l1)))) (pp (xI R6 (Yf (cvT l0) (cvT l1)).length (Zz (Yf (cvT l0) (cvT l1)))) (xw o20))) (pp (pp (xr l0) (pp (xI R6 (Yf (cvT l0) (cvT l1)).length (Zz (Yf (cvT l0) (cvT l1)))) (xw o19))) (pp (pp (xI R6 (Yf (cvT l0) (cvT l1)).length (Zz (Yf (cvT l0) (cvT l1)))) (pp (xr l1) (xw o18))) (pp (pp (xr l0) (pp (xr l1) (xw o17))) (pp (pp (xI R6 (Yf (cvT l0) (cvT l1)).length (Zz (Yf (cvT l0) (cvT l1)))) (pp (xI R6 (Yf (cvT l0) (cvT l1)).length (Zz (Yf (cvT l0) (cvT l1)))) (xw o16))) (pp (pp (xr l0) (pp (xI R6 (Yf (cvT l0) (cvT l1)).length (Zz (Yf (cvT l0) (cvT l1)))) (xw o15))) (pp (pp (xI R6 (Yf (cvT l0) (cvT l1)).length (Zz (Yf (cvT l0) (cvT l1)))) (pp (xr l1) (xw o14))) (pp (pp (xr l0) (pp (xr l1) (xw o13))) (pp (pp (xI R6 (Yf (cvT l0) (cvT l1)).length (Zz (Yf (cvT l0) (cvT l1)))) (pp (xI R6 (Yf (cvT l0) (cvT l1)).length (Zz (Yf (cvT l0) (cvT l1)))) (xw o12))) (pp (pp (xr l0) (pp (xI R6 (Yf (cvT l0) (cvT l1)).length (Zz (Yf (cvT l0) (cvT l1)))) (xw o11))) (pp (pp (xI R6 (Yf (cvT l0) (cvT l1)).length (Zz (Yf (cvT l0) (cvT l1)))) (pp (xr l1) (xw o10))) (pp (pp (xr l0) (pp (xr l1) (xw o9))) (pp (pp (xI R6 (Yf (cvT l0) (cvT l1)).length (Zz (Yf (cvT l0) (cvT l1)))) (pp (xI R6 (Yf (cvT l0) (cvT l1)).length (Zz (Yf (cvT l0) (cvT l1)))) (xw o8))) (pp (pp (xr l0) (pp (xI R6 (Yf (cvT l0) (cvT l1)).length (Zz (Yf (cvT l0) (cvT l1)))) (xw o7))) (pp (pp (xI R6 (Yf (cvT l0) (cvT l1)).length (Zz (Yf (cvT l0) (cvT l1)))) (pp (xr l1) (xw o6))) (pp (pp (xr l0) (pp (xr l1) (xw o5))) (pp (pp (xI R6 (Yf (cvT l0) (cvT l1)).length (Zz (Yf (cvT l0) (cvT l1)))) (pp (xI R6 (Yf (cvT l0) (cvT l1)).length (Zz (Yf (cvT l0) (cvT l1)))) (xw o4))) (pp (pp (xr l0) (pp (xI R6 (Yf (cvT l0) (cvT l1)).length (Zz (Yf (cvT l0) (cvT l1)))) (xw o3))) (pp (pp (xI R6 (Yf (cvT l0) (cvT l1)).length (Zz (Yf (cvT l0) (cvT l1)))) (pp (xr l1) (xw o2))) (pp (pp (xr l0) (pp (xr l1) (xw o1))) (pp (pp (xr l0) (pp (xr l1) (xw o0))) nn))))))))))))))))))))))))))))))))))))))))))))))))))))
theorem w7t (l0 : List R6) (l1 : List R6) (n : Nat) (vs : List AVal) (h : Ya (x1o l0 l1) n (z8u l0 l1) = .ret vs) : Je Tryz.prog (Zy Tryz.prog 88) (Zf Tryz.prog 88 [(.dat l0.length (Zz l0)), (.dat l1.length (Zz l1))] true []) vs := by
 have := Zn (x7i l0 l1) n _ (x1p l0 l1)
 rwa [h] at this
end Go.Am
end
section
set_option linter.unusedVariables false
set_option linter.unusedSimpArgs false
namespace Go.Am
open Go.Proofs
set_option maxRecDepth 100000
set_option maxHeartbeats 4000000
set_option linter.unusedVariables false
set_option linter.unusedSimpArgs false
def c1W (d : Int) (X Y B : List R6) : Int := IntKind.wrap .i64 (IntKind.wrap .i64 (prV X Y d - prV B Y d) - IntKind.wrap .i64 (prV X B d - prV B B d))
def conW (X Y B : List R6) : Int := IntKind.wrap .i64 (IntKind.wrap .i64 (IntKind.wrap .i64 (IntKind.wrap .i64 (IntKind.wrap .i64 (IntKind.wrap .i64 (0 + c1W 0 X Y B) + c1W 1 X Y B) + c1W 2 X Y B) + c1W 3 X Y B) + c1W 4 X Y B) + c1W 5 X Y B)
def w3v (X Y : List R6) : Int := conW X Y (Yf X Y)
def Qt (X Y : List R6) : Bool := decide (X.length ≤ 100 ∧ Y.length ≤ 100)
theorem v6a (X Y : List R6) (h : Qt X Y = true) : ∃ N, Ya (x1o X Y) N (z8u X Y) = .ret [.int .i64 (w3v X Y)] := by
 obtain ⟨h1, h2⟩ := of_decide_eq_true h
 have hl := z2q X Y
 have hm : X.length * Y.length ≤ 100 * 100 := Nat.mul_le_mul h1 h2
 have p : ∀ (A B : List R6) (d : Int), A.length ≤ 10000 → B.length ≤ 10000 → 0 ≤ d ∧ d ≤ 5 → Yi A B d = true := fun A B d a b c => decide_eq_true ⟨a, b, c⟩
 have hc : Vn X Y = true := decide_eq_true (by omega)
 refine ⟨0, ?_⟩
 unfold z8u
 simp (disch := omega) only [Zg, hc, p, cond_true]
 rfl
noncomputable def fCon : List AVal → Option (AVal × Bool)
 | [a0, a1] => match asL R6 a0, asL R6 a1 with
  | some (L0, g0, n0), some (L1, g1, n1) => some (.int .i64 (w3v L0 L1), isT R6 n0 g0 && (isT R6 n1 g1 && (Qt L0 L1)))
  | _, _ => none
 | _ => none
theorem v5o {S : Specs} (hS : Zk Tryz.prog S) : Zk Tryz.prog (S.with nCont fCon) := by
 refine z1d hS (by kernel_rfl) fun args v h => ?_
 unfold fCon at h
 split at h
 ·rename_i a0 a1
  split at h
  ·rename_i L0 g0 n0 L1 g1 n1 e0 e1
   simp only [Option.some.injEq, Prod.mk.injEq, Bool.and_eq_true] at h
   obtain ⟨rfl, ho0, ho1, hw⟩ := h
   obtain ⟨N, hN⟩ := v6a L0 L1 hw
   exact ⟨_, _, (.cons (asL_le e0 ho0) (.cons (asL_le e1 ho1) .nil)), rfl, w7t L0 L1 N _ hN, 3, rfl⟩
  ·cases h
 ·cases h
noncomputable def Tc : Specs := (Tb.with nCont fCon)
theorem x2l : Zk Tryz.prog Tc := (v5o Tb_ok)
end Go.Am
end
section
set_option linter.unusedVariables false
set_option linter.unusedSimpArgs false
namespace Go.Am
open Go.Proofs
set_option maxRecDepth 1000000
set_option linter.unusedVariables false
set_option linter.unusedSimpArgs false
set_option maxHeartbeats 4000000
inductive orlS where
noncomputable def orlC (l0 : List R6) (l1 : List R6) : orlS → Cfg
 := nofun
noncomputable def x0b (l0 : List R6) (l1 : List R6) : orlS → Xn orlS
 := nofun
noncomputable def z8j (l0 : List R6) (l1 : List R6) : Xn orlS := (bif (Ww (cvT l0)) then (bif (Ww (cvT l1)) then (bif (Vn (cvT (Yr (cvT l0))) (cvT (Yr (cvT l1)))) then (bif (Wn (cvT (Yf (cvT (Yr (cvT l0))) (cvT (Yr (cvT l1)))))) then (bif (decide ((z0z (cvT (Yf (cvT (Yr (cvT l0))) (cvT (Yr (cvT l1)))))) > 0)) then (bif (Wn (cvT (Yr (cvT l0)))) then (bif ((z0z (cvT (Yf (cvT (Yr (cvT l0))) (cvT (Yr (cvT l1)))))) == (z0z (cvT (Yr (cvT l0))))) then (bif (Wn (cvT (Yr (cvT l1)))) then (bif ((z0z (cvT (Yf (cvT (Yr (cvT l0))) (cvT (Yr (cvT l1)))))) == (z0z (cvT (Yr (cvT l1))))) then (.ret [(.int .u8 6)]) else (.ret [(.int .u8 4)])) else .stuck) else (bif (Wn (cvT (Yr (cvT l1)))) then (bif ((z0z (cvT (Yf (cvT (Yr (cvT l0))) (cvT (Yr (cvT l1)))))) == (z0z (cvT (Yr (cvT l1))))) then (.ret [(.int .u8 5)]) else (.ret [(.int .u8 3)])) else .stuck)) else .stuck) else (bif (Qt (cvT (Yr (cvT l0))) (cvT (Yr (cvT l1)))) then (bif (decide ((w3v (cvT (Yr (cvT l0))) (cvT (Yr (cvT l1)))) > 0)) then (.ret [(.int .u8 2)]) else (.ret [(.int .u8 1)])) else .stuck)) else .stuck) else .stuck) else .stuck) else .stuck)
theorem x6e (l0 : List R6) (l1 : List R6) : ∀ s, Xh Tryz.prog (Zy Tryz.prog 81) (orlC l0 l1) (orlC l0 l1 s) (x0b l0 l1 s)
 := nofun
theorem x0c (l0 : List R6) (l1 : List R6) : Xh Tryz.prog (Zy Tryz.prog 81) (orlC l0 l1) (Zf Tryz.prog 81 [(.dat l0.length (Zz l0)), (.dat l1.length (Zz l1))] true []) (z8j l0 l1) := (lo fun o0_0 => (lo fun o0_1 => (lo fun o0_2 => (lo fun o0_3 => (lb (fun k0 => (lo fun o1_0 => (lb (fun k1 => (lo fun o2_0 => (lb (fun k2 => (lr 57 81 [1, 1, 1, 0, 0, 1, 0, 0] 1 5 [(4, (.int .u8 6))] (sl x2l 46 [] ⟨[], [], [some [4]], []⟩ ⟨[], [], []⟩ (trs 9 []) (tt k2 (pp (pp (xI R6 (Yr (cvT l1)).length (Zz (Yr (cvT l1)))) (xw o2_0)) (tt k1 (pp (pp (xI R6 (Yr (cvT l0)).length (Zz (Yr (cvT l0)))) (xw o1_0)) (tt k0 (pp (pp (xI R6 (Yf (cvT (Yr (cvT l0))) (cvT (Yr (cvT l1)))).length (Zz (Yf (cvT (Yr (cvT l0))) (cvT (Yr (cvT l1)))))) (xw o0_3)) (pp (pp (xI R6 (Yr (cvT l0)).length (Zz (Yr (cvT l0)))) (pp (xI R6 (Yr (cvT l1)).length (Zz (Yr (cvT l1)))) (xw o0_2))) (pp (pp (xr l1) (xw o0_1)) (pp (pp (xr l0) (xw o0_0)) nn)))))))))))) (fun k2 => (lr 57 81 [1, 1, 1, 0, 0, 1, 0, 0] 1 5 [(4, (.int .u8 4))] (sl x2l 59 [] ⟨[], [], [some [4]], []⟩ ⟨[], [], []⟩ (trs 8 [false, true, true, true, true, true]) (tt k1 (pp (pp (xI R6 (Yr (cvT l0)).length (Zz (Yr (cvT l0)))) (xw o1_0)) (tt k0 (tt k2 (pp (pp (xI R6 (Yr (cvT l1)).length (Zz (Yr (cvT l1)))) (xw o2_0)) (tt k1 (pp (pp (xI R6 (Yr (cvT l0)).length (Zz (Yr (cvT l0)))) (xw o1_0)) (tt k0 (pp (pp (xI R6 (Yf (cvT (Yr (cvT l0))) (cvT (Yr (cvT l1)))).length (Zz (Yf (cvT (Yr (cvT l0))) (cvT (Yr (cvT l1)))))) (xw o0_3)) (pp (pp (xI R6 (Yr (cvT l0)).length (Zz (Yr (cvT l0)))) (pp (xI R6 (Yr (cvT l1)).length (Zz (Yr (cvT l1)))) (xw o0_2))) (pp (pp (xr l1) (xw o0_1)) (pp (pp (xr l0) (xw o0_0)) nn)))))))))))))))))) (fun k1 => (lo fun o2_0 => (lb (fun k2 => (lr 57 81 [1, 1, 1, 0, 0, 1, 0, 0] 1 5 [(4, (.int .u8 5))] (sl x2l 72 [] ⟨[], [], [some [4]], []⟩ ⟨[], [], []⟩ (trs 4 [false, false, false, false, false, true, true, true, true, false, true, true, true, true, true]) (tt k2 (pp (pp (xI R6 (Yr (cvT l1)).length (Zz (Yr (cvT l1)))) (xw o2_0)) (tt k0 (tt k1 (pp (pp (xI R6 (Yr (cvT l0)).length (Zz (Yr (cvT l0)))) (xw o1_0)) (tt k0 (tt k1 (pp (pp (xI R6 (Yr (cvT l0)).length (Zz (Yr (cvT l0)))) (xw o1_0)) (tt k0 (pp (pp (xI R6 (Yf (cvT (Yr (cvT l0))) (cvT (Yr (cvT l1)))).length (Zz (Yf (cvT (Yr (cvT l0))) (cvT (Yr (cvT l1)))))) (xw o0_3)) (pp (pp (xI R6 (Yr (cvT l0)).length (Zz (Yr (cvT l0)))) (pp (xI R6 (Yr (cvT l1)).length (Zz (Yr (cvT l1)))) (xw o0_2))) (pp (pp (xr l1) (xw o0_1)) (pp (pp (xr l0) (xw o0_0)) nn)))))))))))))))) (fun k2 => (lr 57 81 [1, 1, 1, 0, 0, 1, 0, 0] 1 5 [(4, (.int .u8 3))] (sl x2l 79 [] ⟨[], [], [some [4]], []⟩ ⟨[], [], []⟩ (trs 4 [false, false, false, false, false, true, true, true, true, false, true, true, true, true, false, true]) (tt k0 (tt k2 (pp (pp (xI R6 (Yr (cvT l1)).length (Zz (Yr (cvT l1)))) (xw o2_0)) (tt k0 (tt k1 (pp (pp (xI R6 (Yr (cvT l0)).length (Zz (Yr (cvT l0)))) (xw o1_0)) (tt k0 (tt k1 (pp (pp (xI R6 (Yr (cvT l0)).length (Zz (Yr (cvT l0)))) (xw o1_0)) (tt k0 (pp (pp (xI R6 (Yf (cvT (Yr (cvT l0))) (cvT (Yr (cvT l1)))).length (Zz (Yf (cvT (Yr (cvT l0))) (cvT (Yr (cvT l1)))))) (xw o0_3)) (pp (pp (xI R6 (Yr (cvT l0)).length (Zz (Yr (cvT l0)))) (pp (xI R6 (Yr (cvT l1)).length (Zz (Yr (cvT l1)))) (xw o0_2))) (pp (pp (xr l1) (xw o0_1)) (pp (pp (xr l0) (xw o0_0)) nn))))))))))))))))))))))) (fun k0 => (lo fun o1_0 => (lb (fun k1 => (lr 57 81 [1, 1, 1, 0, 0, 1, 0, 0] 1 5 [(4, (.int .u8 2))] (sl x2l 88 [] ⟨[], [], [some [4]], []⟩ ⟨[], [], []⟩ [false, false, false, false, false, false, false, false, false, false, false, false, false, false, false, false, false, false, false, false, true] (tt k1 (pp (pp (xI R6 (Yr (cvT l0)).length (Zz (Yr (cvT l0)))) (pp (xI R6 (Yr (cvT l1)).length (Zz (Yr (cvT l1)))) (xw o1_0))) (tt k0 (tt k0 (tt k0 (tt k0 (pp (pp (xI R6 (Yf (cvT (Yr (cvT l0))) (cvT (Yr (cvT l1)))).length (Zz (Yf (cvT (Yr (cvT l0))) (cvT (Yr (cvT l1)))))) (xw o0_3)) (pp (pp (xI R6 (Yr (cvT l0)).length (Zz (Yr (cvT l0)))) (pp (xI R6 (Yr (cvT l1)).length (Zz (Yr (cvT l1)))) (xw o0_2))) (pp (pp (xr l1) (xw o0_1)) (pp (pp (xr l0) (xw o0_0)) nn))))))))))))) (fun k1 => (lr 57 3 [1, 1, 1, 1, 1, 1, 1, 0] 1 5 [(4, (.int .u8 1))] (sl x2l 90 [] ⟨[], [], [some [4]], []⟩ ⟨[], [], []⟩ [false, false, false, false, false, false, false, false, false, false, false, false, false, false, false, false, false, false, false, false, false] (tt k1 (pp (pp (xI R6 (Yr (cvT l0)).length (Zz (Yr (cvT l0)))) (pp (xI R6 (Yr (cvT l1)).length (Zz (Yr (cvT l1)))) (xw o1_0))) (tt k0 (tt k0 (tt k0 (tt k0 (pp (pp (xI R6 (Yf (cvT (Yr (cvT l0))) (cvT (Yr (cvT l1)))).length (Zz (Yf (cvT (Yr (cvT l0))) (cvT (Yr (cvT l1)))))) (xw o0_3)) (pp (pp (xI R6 (Yr (cvT l0)).length (Zz (Yr (cvT l0)))) (pp (xI R6 (Yr (cvT l1)).length (Zz (Yr (cvT l1)))) (xw o0_2))) (pp (pp (xr l1) (xw o0_1)) (pp (pp (xr l0) (xw o0_0)) nn)))))))))))))))))))))
theorem w6d (l0 : List R6) (l1 : List R6) (n : Nat) (vs : List AVal) (h : Ya (x0b l0 l1) n (z8j l0 l1) = .ret vs) : Je Tryz.prog (Zy Tryz.prog 81) (Zf Tryz.prog 81 [(.dat l0.length (Zz l0)), (.dat l1.length (Zz l1))] true []) vs := by
 have := Zn (x6e l0 l1) n _ (x0c l0 l1)
 rwa [h] at this
end Go.Am
end
section
set_option linter.unusedVariables false
set_option linter.unusedSimpArgs false
namespace Go.Am
open Go.Proofs
set_option maxRecDepth 100000
set_option maxHeartbeats 4000000
set_option linter.unusedVariables false
set_option linter.unusedSimpArgs false
def relN (n v u c : Int) : Int := bif decide (n > 0) then (bif n == v then (bif n == u then 6 else 4) else (bif n == u then 5 else 3)) else (bif decide (c > 0) then 2 else 1)
def orlV (X Y : List R6) : Int := relN (z0z (Yf X Y)) (z0z X) (z0z Y) (w3v X Y)
def z4o (X Y : List R6) : Bool := decide (X.length ≤ 100 ∧ Y.length ≤ 100)
theorem v3x (X Y : List R6) (h : z4o X Y = true) : ∃ N, Ya (x0b X Y) N (z8j X Y) = .ret [.int .u8 (orlV X Y)] := by
 obtain ⟨h1, h2⟩ := of_decide_eq_true h
 have hl := z2q X Y
 have hm : X.length * Y.length ≤ 100 * 100 := Nat.mul_le_mul h1 h2
 have hc : Vn X Y = true := decide_eq_true (by omega)
 have hk : Qt X Y = true := decide_eq_true (by omega)
 have b1 : Ww X = true := decide_eq_true (by omega)
 have b2 : Ww Y = true := decide_eq_true (by omega)
 have v1 : Wn X = true := decide_eq_true (by omega)
 have v2 : Wn Y = true := decide_eq_true (by omega)
 have v3 : Wn (Yf X Y) = true := decide_eq_true (by omega)
 refine ⟨0, ?_⟩
 unfold z8j orlV relN
 simp only [Zg, Yr, hc, hk, b1, b2, v1, v2, v3, cond_true]
 rcases Yb (decide (z0z (Yf X Y) > 0)) with q1 | q1
 ·rcases Yb (z0z (Yf X Y) == z0z X) with q2 | q2 <;> rcases Yb (z0z (Yf X Y) == z0z Y) with q3 | q3 <;> simp only [q1, q2, q3, cond_true, cond_false] <;> rfl
 ·rcases Yb (decide (w3v X Y > 0)) with q2 | q2 <;> simp only [q1, q2, cond_true, cond_false] <;> rfl
noncomputable def fOrl : List AVal → Option (AVal × Bool)
 | [a0, a1] => match asL R6 a0, asL R6 a1 with
  | some (L0, g0, n0), some (L1, g1, n1) => some (.int .u8 (orlV L0 L1), isT R6 n0 g0 && (isT R6 n1 g1 && (z4o L0 L1)))
  | _, _ => none
 | _ => none
theorem v5f {S : Specs} (hS : Zk Tryz.prog S) : Zk Tryz.prog (S.with nRel fOrl) := by
 refine z1d hS (by kernel_rfl) fun args v h => ?_
 unfold fOrl at h
 split at h
 ·rename_i a0 a1
  split at h
  ·rename_i L0 g0 n0 L1 g1 n1 e0 e1
   simp only [Option.some.injEq, Prod.mk.injEq, Bool.and_eq_true] at h
   obtain ⟨rfl, ho0, ho1, hw⟩ := h
   obtain ⟨N, hN⟩ := v3x L0 L1 hw
   exact ⟨_, _, (.cons (asL_le e0 ho0) (.cons (asL_le e1 ho1) .nil)), rfl, w6d L0 L1 N _ hN, 3, rfl⟩
  ·cases h
 ·cases h
def Xa (l : List R6) : Bool := true
def z3k (l : List R6) : Bool := true
noncomputable def Td : Specs := (Tc.with nRel fOrl)
theorem z0x : Zk Tryz.prog Td := (v5f x2l)
end Go.Am
end
section
set_option linter.unusedVariables false
set_option linter.unusedSimpArgs false
namespace Go.Am
open Go.Proofs
set_option maxRecDepth 1000000
set_option linter.unusedVariables false
set_option linter.unusedSimpArgs false
set_option maxHeartbeats 4000000
inductive sljS where
 | h0 (v16 : Int) (v_2_0 : List Int)
 | h1 (v16 : Int) (v_2_0 : List Int)
 | h2 (v4 : Int) (v_4_0 : List R6) (v_4_1 : List R4) (v_4_2 : Int) (v_4_3 : Int) (v_5_0_000 : Nat) (v09_6 : List Int)
 | h3 (v4 : Int) (v38 : Int) (v_4_0 : List R6) (v_4_1 : List R4) (v_4_2 : Int) (v_4_3 : Int) (v_5_0_000 : Nat) (v09_6 : List Int) (v_9_0 : Int) (v_9_1 : Int) (v_10_0 : List R4)
 | h4 (v4 : Int) (v38 : Int) (v_4_0 : List R6) (v_4_1 : List R4) (v_4_2 : Int) (v_4_3 : Int) (v_5_0_000 : Nat) (v09_6 : List Int) (v_9_0 : Int) (v_9_1 : Int) (v_10_0 : List R4) (v_10_1 : List R4)
 | h5 (v1 : Int) (v2 : Int) (v72 : List R4) (v73 : Int) (v74 : Int) (v001_4 : Int) (v_0_0 : List R6) (v_0_2 : Int) (v_5_0_000 : Nat) (v09_6 : List Int) (v_9_0 : List R4) (v_9_1 : List R4)
 | h6 (v2 : Int) (v8 : Int) (v000_54 : Int) (v000_57 : List R4) (v001_4 : Int) (v_0_0 : List R6) (v_0_1 : List R4) (v_0_2 : Int) (v_0_3 : Int) (v_6_0_000 : Nat) (v09_7 : List Int) (v_10_0 : List R4) (v_10_1 : List R4)
noncomputable def sljC (q : Op) (l0 : List R6) (l1 : List R6) : sljS → Cfg
 | .h0 v16 v_2_0 => ⟨⟨36, 0, true⟩, none, (Za Tryz.prog 136 [1, 1, 0, 1, 0, 0, 1, 1, 0, 0, 1, 1, 0, 0] 0), none, (Zy Tryz.prog 3), ⟨Ym [(1, (.ptr 0 0)), (3, (.ptr 2 0)), (8, (.sl 1 0 2 (.un 1))), (9, (ii 2)), (10, (ii 0)), (14, (.dat l0.length (Zz l0))), (15, (ii ((l0.length : Nat) : Int))), (16, (ii v16))], Jy [⟨[(.sl 1 0 2 (.un 1))], 166, none⟩, ⟨[(.dat l0.length (Zz l0)), (.dat l1.length (Zz l1))], 22, none⟩, ⟨[(.sla 7 1 0 v_2_0.length (.un 1))], 93, none⟩, ⟨[(.fn (nRg q) [])], 117, none⟩, ⟨[.nils], 38, none⟩, ⟨[(ii 0)], 26, none⟩, ⟨[.nils, .nils, (ii 0), (ii 0)], 168, none⟩, ⟨rows v_2_0.length (Zz v_2_0), 3, some ⟨1, v_2_0.length, (Zz v_2_0)⟩⟩] 0, 8, [], true⟩, [⟨⟨65, 0, true⟩, (Wm Tryz.prog 95 [1, 1, 0, 0] 1), (Za Tryz.prog 95 [1, 1, 0, 0] 1), none, (Zy Tryz.prog 95), Ym [(2, (.ptr 3 0)), (4, (.ptr 4 0)), (5, (.ptr 5 0)), (6, (.ptr 6 0)), (13, (.sl 1 0 2 (.un 1)))]⟩, ⟨⟨27, 0, true⟩, (Wm Tryz.prog 78 [1, 1, 1, 0] 4), (Za Tryz.prog 78 [1, 1, 1, 0] 1), none, (Zy Tryz.prog 32), Ym [(20, (.agg [(.fn (nRg q) [])])), (23, (.sl 1 0 2 (.un 1)))]⟩, ⟨⟨12, 0, true⟩, (Wm Tryz.prog (nSl q) [1, 0] 3), (Za Tryz.prog (nSl q) [1, 0] 1), none, (Zy Tryz.prog 28), Ym [(6, (.dat l0.length (Zz l0))), (7, (.dat l1.length (Zz l1))), (8, (.agg [(.fn (nRg q) [])]))]⟩], .leaf⟩
 | .h1 v16 v_2_0 => ⟨⟨36, 0, true⟩, none, (Za Tryz.prog 136 [1, 1, 0, 1, 0, 0, 1, 1, 0, 0, 1, 1, 0, 0] 0), none, (Zy Tryz.prog 3), ⟨Ym [(1, (.ptr 0 0)), (3, (.ptr 2 0)), (8, (.sl 1 0 2 (.un 1))), (9, (ii 2)), (10, (ii 1)), (14, (.dat l1.length (Zz l1))), (15, (ii ((l1.length : Nat) : Int))), (16, (ii v16))], Jy [⟨[(.sl 1 0 2 (.un 1))], 166, none⟩, ⟨[(.dat l0.length (Zz l0)), (.dat l1.length (Zz l1))], 22, none⟩, ⟨[(.sla 7 1 0 v_2_0.length (.un 1))], 93, none⟩, ⟨[(.fn (nRg q) [])], 117, none⟩, ⟨[.nils], 38, none⟩, ⟨[(ii 0)], 26, none⟩, ⟨[.nils, .nils, (ii 0), (ii 0)], 168, none⟩, ⟨rows v_2_0.length (Zz v_2_0), 3, some ⟨1, v_2_0.length, (Zz v_2_0)⟩⟩] 0, 8, [], true⟩, [⟨⟨65, 0, true⟩, (Wm Tryz.prog 95 [1, 1, 0, 0] 1), (Za Tryz.prog 95 [1, 1, 0, 0] 1), none, (Zy Tryz.prog 95), Ym [(2, (.ptr 3 0)), (4, (.ptr 4 0)), (5, (.ptr 5 0)), (6, (.ptr 6 0)), (13, (.sl 1 0 2 (.un 1)))]⟩, ⟨⟨27, 0, true⟩, (Wm Tryz.prog 78 [1, 1, 1, 0] 4), (Za Tryz.prog 78 [1, 1, 1, 0] 1), none, (Zy Tryz.prog 32), Ym [(20, (.agg [(.fn (nRg q) [])])), (23, (.sl 1 0 2 (.un 1)))]⟩, ⟨⟨12, 0, true⟩, (Wm Tryz.prog (nSl q) [1, 0] 3), (Za Tryz.prog (nSl q) [1, 0] 1), none, (Zy Tryz.prog 28), Ym [(6, (.dat l0.length (Zz l0))), (7, (.dat l1.length (Zz l1))), (8, (.agg [(.fn (nRg q) [])]))]⟩], .leaf⟩
 | .h2 v4 v_4_0 v_4_1 v_4_2 v_4_3 v_5_0_000 v09_6 => ⟨⟨86, 0, true⟩, none, (Za Tryz.prog 171 [1, 0, 0] 0), none, [], ⟨Ym [(0, (.yld 0)), (1, (.ptr 5 0)), (2, (.ptr 7 0)), (4, (ii v4))], z6p [(1, ⟨[(.fn (nRg q) [])], 117, none⟩), (2, ⟨[.nils], 38, none⟩), (3, ⟨[(ii 0)], 26, none⟩), (4, ⟨[(.sla 9 6 0 v_4_0.length (.un 6)), (.dat v_4_1.length (Zz v_4_1)), (ii v_4_2), (ii v_4_3)], 168, none⟩), (5, ⟨[(.sla 6 1 0 v_5_0_000 (.un 1))], 93, none⟩), (6, ⟨rows v09_6.length (Zz v09_6), 3, some ⟨1, v09_6.length, (Zz v09_6)⟩⟩), (7, ⟨[(.sl 8 0 2 (.un 1))], 166, none⟩), (8, ⟨[(.dat l0.length (Zz l0)), (.dat l1.length (Zz l1))], 22, none⟩), (9, ⟨rows v_4_0.length (Zz v_4_0), 67, some ⟨6, v_4_0.length, (Zz v_4_0)⟩⟩)], 10, [], true⟩, [⟨⟨65, 0, true⟩, none, (.inRangeFunc 0 :: (Za Tryz.prog 95 [1, 1, 0, 1, 0] 1)), none, (Zy Tryz.prog 95), Ym [(4, (.ptr 2 0)), (5, (.ptr 3 0)), (6, (.ptr 4 0))]⟩, ⟨⟨27, 0, true⟩, (Wm Tryz.prog 78 [1, 1, 1, 0] 4), (Za Tryz.prog 78 [1, 1, 1, 0] 1), none, (Zy Tryz.prog 32), Ym [(20, (.agg [(.fn (nRg q) [])])), (23, (.sl 8 0 2 (.un 1)))]⟩, ⟨⟨12, 0, true⟩, (Wm Tryz.prog (nSl q) [1, 0] 3), (Za Tryz.prog (nSl q) [1, 0] 1), none, (Zy Tryz.prog 28), Ym [(6, (.dat l0.length (Zz l0))), (7, (.dat l1.length (Zz l1))), (8, (.agg [(.fn (nRg q) [])]))]⟩], (z6q [(0, ⟨.ready, none, 65, Ym [(2, (.ptr 1 0)), (4, (.ptr 2 0)), (5, (.ptr 3 0)), (6, (.ptr 4 0))], [15], (Wz Tryz.prog 95 [1, 1, 0, 1, 0, 0]), (Wz Tryz.prog 95 [1, 1, 0, 1, 0, 1])⟩)])⟩
 | .h3 v4 v38 v_4_0 v_4_1 v_4_2 v_4_3 v_5_0_000 v09_6 v_9_0 v_9_1 v_10_0 => ⟨⟨86, 0, true⟩, none, (Za Tryz.prog 171 [1, 0, 0, 1, 0, 0, 1, 0, 1, 0, 0, 1, 1, 0, 0, 1, 1, 0, 0] 0), none, [], ⟨Ym [(0, (.yld 0)), (1, (.ptr 5 0)), (2, (.ptr 7 0)), (4, (ii v4)), (5, (.ptr 9 0)), (6, (ii 0)), (29, (.sl 8 0 2 (.un 1))), (30, (ii 2)), (31, (ii 0)), (36, (.dat l0.length (Zz l0))), (37, (ii ((l0.length : Nat) : Int))), (38, (ii v38))], z6p [(1, ⟨[(.fn (nRg q) [])], 117, none⟩), (2, ⟨[.nils], 38, none⟩), (3, ⟨[(ii 0)], 26, none⟩), (4, ⟨[(.sla 12 6 0 v_4_0.length (.un 6)), (.dat v_4_1.length (Zz v_4_1)), (ii v_4_2), (ii v_4_3)], 168, none⟩), (5, ⟨[(.sla 6 1 0 v_5_0_000 (.un 1))], 93, none⟩), (6, ⟨rows v09_6.length (Zz v09_6), 3, some ⟨1, v09_6.length, (Zz v09_6)⟩⟩), (7, ⟨[(.sl 8 0 2 (.un 1))], 166, none⟩), (8, ⟨[(.dat l0.length (Zz l0)), (.dat l1.length (Zz l1))], 22, none⟩), (9, ⟨[(ii v_9_0), (ii v_9_1), (.sl 10 0 2 (.ex 2))], 173, none⟩), (10, ⟨[(.sla 11 4 0 v_10_0.length (.un 4)), .nils], 99, none⟩), (11, ⟨rows v_10_0.length (Zz v_10_0), 88, some ⟨4, v_10_0.length, (Zz v_10_0)⟩⟩), (12, ⟨rows v_4_0.length (Zz v_4_0), 67, some ⟨6, v_4_0.length, (Zz v_4_0)⟩⟩)], 13, [], true⟩, [⟨⟨65, 0, true⟩, none, (.inRangeFunc 0 :: (Za Tryz.prog 95 [1, 1, 0, 1, 0] 1)), none, (Zy Tryz.prog 95), Ym [(4, (.ptr 2 0)), (5, (.ptr 3 0)), (6, (.ptr 4 0))]⟩, ⟨⟨27, 0, true⟩, (Wm Tryz.prog 78 [1, 1, 1, 0] 4), (Za Tryz.prog 78 [1, 1, 1, 0] 1), none, (Zy Tryz.prog 32), Ym [(20, (.agg [(.fn (nRg q) [])])), (23, (.sl 8 0 2 (.un 1)))]⟩, ⟨⟨12, 0, true⟩, (Wm Tryz.prog (nSl q) [1, 0] 3), (Za Tryz.prog (nSl q) [1, 0] 1), none, (Zy Tryz.prog 28), Ym [(6, (.dat l0.length (Zz l0))), (7, (.dat l1.length (Zz l1))), (8, (.agg [(.fn (nRg q) [])]))]⟩], (z6q [(0, ⟨.ready, none, 65, Ym [(2, (.ptr 1 0)), (4, (.ptr 2 0)), (5, (.ptr 3 0)), (6, (.ptr 4 0))], [15], (Wz Tryz.prog 95 [1, 1, 0, 1, 0, 0]), (Wz Tryz.prog 95 [1, 1, 0, 1, 0, 1])⟩)])⟩
 | .h4 v4 v38 v_4_0 v_4_1 v_4_2 v_4_3 v_5_0_000 v09_6 v_9_0 v_9_1 v_10_0 v_10_1 => ⟨⟨86, 0, true⟩, none, (Za Tryz.prog 171 [1, 0, 0, 1, 0, 0, 1, 0, 1, 0, 0, 1, 1, 0, 0, 1, 1, 0, 0] 0), none, [], ⟨Ym [(0, (.yld 0)), (1, (.ptr 5 0)), (2, (.ptr 7 0)), (4, (ii v4)), (5, (.ptr 9 0)), (6, (ii 1)), (29, (.sl 8 0 2 (.un 1))), (30, (ii 2)), (31, (ii 1)), (36, (.dat l1.length (Zz l1))), (37, (ii ((l1.length : Nat) : Int))), (38, (ii v38))], z6p [(1, ⟨[(.fn (nRg q) [])], 117, none⟩), (2, ⟨[.nils], 38, none⟩), (3, ⟨[(ii 0)], 26, none⟩), (4, ⟨[(.sla 13 6 0 v_4_0.length (.un 6)), (.dat v_4_1.length (Zz v_4_1)), (ii v_4_2), (ii v_4_3)], 168, none⟩), (5, ⟨[(.sla 6 1 0 v_5_0_000 (.un 1))], 93, none⟩), (6, ⟨rows v09_6.length (Zz v09_6), 3, some ⟨1, v09_6.length, (Zz v09_6)⟩⟩), (7, ⟨[(.sl 8 0 2 (.un 1))], 166, none⟩), (8, ⟨[(.dat l0.length (Zz l0)), (.dat l1.length (Zz l1))], 22, none⟩), (9, ⟨[(ii v_9_0), (ii v_9_1), (.sl 10 0 2 (.ex 2))], 173, none⟩), (10, ⟨[(.sla 11 4 0 v_10_0.length (.un 4)), (.sla 12 4 0 v_10_1.length (.un 4))], 99, none⟩), (11, ⟨rows v_10_0.length (Zz v_10_0), 88, some ⟨4, v_10_0.length, (Zz v_10_0)⟩⟩), (12, ⟨rows v_10_1.length (Zz v_10_1), 88, some ⟨4, v_10_1.length, (Zz v_10_1)⟩⟩), (13, ⟨rows v_4_0.length (Zz v_4_0), 67, some ⟨6, v_4_0.length, (Zz v_4_0)⟩⟩)], 14, [], true⟩, [⟨⟨65, 0, true⟩, none, (.inRangeFunc 0 :: (Za Tryz.prog 95 [1, 1, 0, 1, 0] 1)), none, (Zy Tryz.prog 95), Ym [(4, (.ptr 2 0)), (5, (.ptr 3 0)), (6, (.ptr 4 0))]⟩, ⟨⟨27, 0, true⟩, (Wm Tryz.prog 78 [1, 1, 1, 0] 4), (Za Tryz.prog 78 [1, 1, 1, 0] 1), none, (Zy Tryz.prog 32), Ym [(20, (.agg [(.fn (nRg q) [])])), (23, (.sl 8 0 2 (.un 1)))]⟩, ⟨⟨12, 0, true⟩, (Wm Tryz.prog (nSl q) [1, 0] 3), (Za Tryz.prog (nSl q) [1, 0] 1), none, (Zy Tryz.prog 28), Ym [(6, (.dat l0.length (Zz l0))), (7, (.dat l1.length (Zz l1))), (8, (.agg [(.fn (nRg q) [])]))]⟩], (z6q [(0, ⟨.ready, none, 65, Ym [(2, (.ptr 1 0)), (4, (.ptr 2 0)), (5, (.ptr 3 0)), (6, (.ptr 4 0))], [15], (Wz Tryz.prog 95 [1, 1, 0, 1, 0, 0]), (Wz Tryz.prog 95 [1, 1, 0, 1, 0, 1])⟩)])⟩
 | .h5 v1 v2 v72 v73 v74 v001_4 v_0_0 v_0_2 v_5_0_000 v09_6 v_9_0 v_9_1 => ⟨⟨101, 0, true⟩, none, (Za Tryz.prog 137 [1, 1, 1, 0, 0] 0), none, [], ⟨Ym [(0, (.ptr 0 0)), (1, (ii v1)), (2, (ii v2)), (72, (.dat v72.length (Zz v72))), (73, (ii v73)), (74, (ii v74))], z6p [(0, ⟨[(.sla 10 6 0 v_0_0.length (.un 6)), (.dat v72.length (Zz v72)), (ii v_0_2), (ii v2)], 168, none⟩), (2, ⟨[(.fn (nRg q) [])], 117, none⟩), (3, ⟨[.nils], 38, none⟩), (4, ⟨[(ii 0)], 26, none⟩), (5, ⟨[(.sla 6 1 0 v_5_0_000 (.un 1))], 93, none⟩), (6, ⟨rows v09_6.length (Zz v09_6), 3, some ⟨1, v09_6.length, (Zz v09_6)⟩⟩), (7, ⟨[(.sl 8 0 2 (.un 1))], 166, none⟩), (8, ⟨[(.dat l0.length (Zz l0)), (.dat l1.length (Zz l1))], 22, none⟩), (9, ⟨[(.dat v_9_0.length (Zz v_9_0)), (.dat v_9_1.length (Zz v_9_1))], 99, none⟩), (10, ⟨rows v_0_0.length (Zz v_0_0), 67, some ⟨6, v_0_0.length, (Zz v_0_0)⟩⟩)], 11, [], true⟩, [⟨⟨65, 0, true⟩, (Wm Tryz.prog 95 [1, 1, 0, 1, 0, 1, 0, 1, 1, 1] 5), (Za Tryz.prog 95 [1, 1, 0, 1, 0, 1, 0, 1, 1, 1] 1), (some 1), [], Ym [(6, (.ptr 0 0)), (54, (ii v1)), (56, (ii v2)), (57, (.dat v72.length (Zz v72)))]⟩, ⟨⟨86, 0, true⟩, (Wm Tryz.prog 171 [1, 0, 0, 1, 0, 0, 1, 1, 0] 2), (Za Tryz.prog 171 [1, 0, 0, 1, 0, 0, 1, 1, 0] 1), none, [], Ym [(0, (.yld 1)), (1, (.ptr 5 0)), (2, (.ptr 7 0)), (4, (ii v001_4)), (82, (.yld 1)), (83, (.agg [(ii v1), (ii v2), (.sl 9 0 2 (.ex 2))]))]⟩, ⟨⟨65, 0, true⟩, none, (.inRangeFunc 1 :: (Za Tryz.prog 95 [1, 1, 0, 1, 0] 1)), none, (Zy Tryz.prog 95), Ym [(4, (.ptr 3 0)), (5, (.ptr 4 0)), (6, (.ptr 0 0))]⟩, ⟨⟨27, 0, true⟩, (Wm Tryz.prog 78 [1, 1, 1, 0] 4), (Za Tryz.prog 78 [1, 1, 1, 0] 1), none, (Zy Tryz.prog 32), Ym [(20, (.agg [(.fn (nRg q) [])])), (23, (.sl 8 0 2 (.un 1)))]⟩, ⟨⟨12, 0, true⟩, (Wm Tryz.prog (nSl q) [1, 0] 3), (Za Tryz.prog (nSl q) [1, 0] 1), none, (Zy Tryz.prog 28), Ym [(6, (.dat l0.length (Zz l0))), (7, (.dat l1.length (Zz l1))), (8, (.agg [(.fn (nRg q) [])]))]⟩], (z6q [(1, ⟨.busy, none, 65, Ym [(2, (.ptr 2 0)), (4, (.ptr 3 0)), (5, (.ptr 4 0)), (6, (.ptr 0 0))], [15], (Wz Tryz.prog 95 [1, 1, 0, 1, 0, 0]), (Wz Tryz.prog 95 [1, 1, 0, 1, 0, 1])⟩)])⟩
 | .h6 v2 v8 v000_54 v000_57 v001_4 v_0_0 v_0_1 v_0_2 v_0_3 v_6_0_000 v09_7 v_10_0 v_10_1 => ⟨⟨101, 0, true⟩, none, (Za Tryz.prog 137 [0, 1, 0, 0, 1, 0, 0] 0), none, [], ⟨Ym [(0, (.ptr 0 0)), (2, (ii v2)), (8, (ii v8))], z6p [(0, ⟨[(.sla 1 6 0 v_0_0.length (.un 6)), (.dat v_0_1.length (Zz v_0_1)), (ii v_0_2), (ii v_0_3)], 168, none⟩), (1, ⟨rows v_0_0.length (Zz v_0_0), 67, some ⟨6, v_0_0.length, (Zz v_0_0)⟩⟩), (3, ⟨[(.fn (nRg q) [])], 117, none⟩), (4, ⟨[.nils], 38, none⟩), (5, ⟨[(ii 0)], 26, none⟩), (6, ⟨[(.sla 7 1 0 v_6_0_000 (.un 1))], 93, none⟩), (7, ⟨rows v09_7.length (Zz v09_7), 3, some ⟨1, v09_7.length, (Zz v09_7)⟩⟩), (8, ⟨[(.sl 9 0 2 (.un 1))], 166, none⟩), (9, ⟨[(.dat l0.length (Zz l0)), (.dat l1.length (Zz l1))], 22, none⟩), (10, ⟨[(.dat v_10_0.length (Zz v_10_0)), (.dat v_10_1.length (Zz v_10_1))], 99, none⟩)], 11, [], true⟩, [⟨⟨65, 0, true⟩, (Wm Tryz.prog 95 [1, 1, 0, 1, 0, 1, 0, 1, 1, 1] 5), (Za Tryz.prog 95 [1, 1, 0, 1, 0, 1, 0, 1, 1, 1] 1), (some 2), [], Ym [(6, (.ptr 0 0)), (54, (ii v000_54)), (56, (ii v2)), (57, (.dat v000_57.length (Zz v000_57)))]⟩, ⟨⟨86, 0, true⟩, (Wm Tryz.prog 171 [1, 0, 0, 1, 0, 0, 1, 1, 0] 2), (Za Tryz.prog 171 [1, 0, 0, 1, 0, 0, 1, 1, 0] 1), none, [], Ym [(0, (.yld 2)), (1, (.ptr 6 0)), (2, (.ptr 8 0)), (4, (ii v001_4)), (82, (.yld 2)), (83, (.agg [(ii v000_54), (ii v2), (.sl 10 0 2 (.ex 2))]))]⟩, ⟨⟨65, 0, true⟩, none, (.inRangeFunc 2 :: (Za Tryz.prog 95 [1, 1, 0, 1, 0] 1)), none, (Zy Tryz.prog 95), Ym [(4, (.ptr 4 0)), (5, (.ptr 5 0)), (6, (.ptr 0 0))]⟩, ⟨⟨27, 0, true⟩, (Wm Tryz.prog 78 [1, 1, 1, 0] 4), (Za Tryz.prog 78 [1, 1, 1, 0] 1), none, (Zy Tryz.prog 32), Ym [(20, (.agg [(.fn (nRg q) [])])), (23, (.sl 9 0 2 (.un 1)))]⟩, ⟨⟨12, 0, true⟩, (Wm Tryz.prog (nSl q) [1, 0] 3), (Za Tryz.prog (nSl q) [1, 0] 1), none, (Zy Tryz.prog 28), Ym [(6, (.dat l0.length (Zz l0))), (7, (.dat l1.length (Zz l1))), (8, (.agg [(.fn (nRg q) [])]))]⟩], (z6q [(2, ⟨.busy, none, 65, Ym [(2, (.ptr 3 0)), (4, (.ptr 4 0)), (5, (.ptr 5 0)), (6, (.ptr 0 0))], [15], (Wz Tryz.prog 95 [1, 1, 0, 1, 0, 0]), (Wz Tryz.prog 95 [1, 1, 0, 1, 0, 1])⟩)])⟩
def sljN0 : List (Option (List Nat)) := [some [1, 3, 8, 9, 10, 14, 15, 16], some [2, 4, 5, 6, 13], some [20, 23], some [6, 7, 8]]
def sljM0 : List (Option (List Nat)) := []
def sljN1 : List (Option (List Nat)) := [some [1, 3, 8, 9, 10, 14, 15, 16], some [2, 4, 5, 6, 13], some [20, 23], some [6, 7, 8]]
def sljM1 : List (Option (List Nat)) := []
def v2d : List (Option (List Nat)) := [some [0, 1, 2, 4], some [4, 5, 6], some [20, 23], some [6, 7, 8]]
def v2e : List (Option (List Nat)) := [some [2, 4, 5, 6], none, none, none, none, none, none, none, none, none]
def w4h : List (Option (List Nat)) := [some [0, 1, 2, 4, 5, 6, 29, 30, 31, 36, 37, 38], some [4, 5, 6], some [20, 23], some [6, 7, 8]]
def w4k : List (Option (List Nat)) := [some [2, 4, 5, 6], none, none, none, none, none, none, none, none, none, none, none, none]
def w4g : List (Option (List Nat)) := [some [0, 1, 2, 4, 5, 6, 29, 30, 31, 36, 37, 38], some [4, 5, 6], some [20, 23], some [6, 7, 8]]
def w4j : List (Option (List Nat)) := [some [2, 4, 5, 6], none, none, none, none, none, none, none, none, none, none, none, none, none]
def w4f : List (Option (List Nat)) := [some [0, 1, 2, 72, 73, 74], some [6, 54, 56, 57], some [0, 1, 2, 4, 82, 83], some [4, 5, 6], some [20, 23], some [6, 7, 8]]
def w4i : List (Option (List Nat)) := [none, some [2, 4, 5, 6], none, none, none, none, none, none, none, none, none]
def sljN6 : List (Option (List Nat)) := [some [0, 2, 8], some [6, 54, 56, 57], some [0, 1, 2, 4, 82, 83], some [4, 5, 6], some [20, 23], some [6, 7, 8]]
def sljM6 : List (Option (List Nat)) := [none, none, some [2, 4, 5, 6], none, none, none, none, none, none, none, none]
noncomputable def Ye (q : Op) (l0 : List R6) (l1 : List R6) : sljS → Xn sljS
 | .h0 v16 v_2_0 => (bif (decide (v16 < ((l0.length : Nat) : Int))) then (bif ((decide (0 ≤ v16 ∧ v16 < ((l0.length : Nat) : Int))) && true) then (bif (Nat.beq 1 1 && ((decide (0 + v_2_0.length = v_2_0.length)) && decide ((v_2_0.length + 2 + 1) * (8 + 1) ≤ Up))) then (.to (.h0 (IntKind.wrap IntKind.i64 (v16 + 1)) (v_2_0 ++ [(rd l0 (Int.toNat v16)).c, (rd l0 (Int.toNat v16)).f]))) else .stuck) else .stuck) else (.to (.h1 0 v_2_0)))
 | .h1 v16 v_2_0 => (bif (decide (v16 < ((l1.length : Nat) : Int))) then (bif ((decide (0 ≤ v16 ∧ v16 < ((l1.length : Nat) : Int))) && true) then (bif (Nat.beq 1 1 && ((decide (0 + v_2_0.length = v_2_0.length)) && decide ((v_2_0.length + 2 + 1) * (8 + 1) ≤ Up))) then (.to (.h1 (IntKind.wrap IntKind.i64 (v16 + 1)) (v_2_0 ++ [(rd l1 (Int.toNat v16)).c, (rd l1 (Int.toNat v16)).f]))) else .stuck) else .stuck) else (bif (decide (v_2_0.length < 4611686018427387904)) then (bif (decide (v_2_0.length = v_2_0.length)) then (.to (.h2 1 ([] : List R6) ([] : List R4) 0 0 (v6f (Zs v_2_0.length (cOf (Zz (Xb (Zs v_2_0.length (cOf (Zz v_2_0)))))))) (Wj (Zs v_2_0.length (cOf (Zz (Xb (Zs v_2_0.length (cOf (Zz v_2_0)))))))))) else .stuck) else .stuck))
 | .h2 v4 v_4_0 v_4_1 v_4_2 v_4_3 v_5_0_000 v09_6 => (bif (decide (v4 < ((v_5_0_000 : Nat) : Int))) then (bif ((decide (0 ≤ (IntKind.wrap IntKind.i64 (v4 - 1)) ∧ (IntKind.wrap IntKind.i64 (v4 - 1)) < ((v_5_0_000 : Nat) : Int))) && true) then (bif (decide ((0 + (Int.toNat (IntKind.wrap IntKind.i64 (v4 - 1)))) < v09_6.length)) then (bif ((decide (0 ≤ v4 ∧ v4 < ((v_5_0_000 : Nat) : Int))) && true) then (bif (decide ((0 + (Int.toNat v4)) < v09_6.length)) then (.to (.h3 v4 0 v_4_0 v_4_1 v_4_2 v_4_3 v_5_0_000 v09_6 (rd v09_6 (0 + (Int.toNat (IntKind.wrap IntKind.i64 (v4 - 1))))) (rd v09_6 (0 + (Int.toNat v4))) ([] : List R4))) else .stuck) else .stuck) else .stuck) else .stuck) else (bif (decide (((v_4_0.length : Nat) : Int) > 400)) then (.ret [.nils, (.int .i64 4)]) else (.ret [(.dat v_4_0.length (Zz v_4_0)), (.int .i64 0)])))
 | .h3 v4 v38 v_4_0 v_4_1 v_4_2 v_4_3 v_5_0_000 v09_6 v_9_0 v_9_1 v_10_0 => (bif (decide (v38 < ((l0.length : Nat) : Int))) then (bif ((decide (0 ≤ v38 ∧ v38 < ((l0.length : Nat) : Int))) && true) then (bif (decide ((rd l0 (Int.toNat v38)).c ≤ v_9_0)) then (bif (decide (v_9_0 < (rd l0 (Int.toNat v38)).f)) then (bif (Nat.beq 4 4 && ((decide (0 + v_10_0.length = v_10_0.length)) && decide ((v_10_0.length + 1 + 1) * (32 + 1) ≤ Up))) then (.to (.h3 v4 (IntKind.wrap IntKind.i64 (v38 + 1)) v_4_0 v_4_1 v_4_2 v_4_3 v_5_0_000 v09_6 v_9_0 v_9_1 (v_10_0 ++ [(R4.mk (rd l0 (Int.toNat v38)).a (rd l0 (Int.toNat v38)).b (rd l0 (Int.toNat v38)).d (rd l0 (Int.toNat v38)).e)]))) else .stuck) else (.to (.h3 v4 (IntKind.wrap IntKind.i64 (v38 + 1)) v_4_0 v_4_1 v_4_2 v_4_3 v_5_0_000 v09_6 v_9_0 v_9_1 v_10_0))) else (.to (.h3 v4 (IntKind.wrap IntKind.i64 (v38 + 1)) v_4_0 v_4_1 v_4_2 v_4_3 v_5_0_000 v09_6 v_9_0 v_9_1 v_10_0))) else .stuck) else (.to (.h4 v4 0 v_4_0 v_4_1 v_4_2 v_4_3 v_5_0_000 v09_6 v_9_0 v_9_1 v_10_0 ([] : List R4))))
 | .h4 v4 v38 v_4_0 v_4_1 v_4_2 v_4_3 v_5_0_000 v09_6 v_9_0 v_9_1 v_10_0 v_10_1 => (bif (decide (v38 < ((l1.length : Nat) : Int))) then (bif ((decide (0 ≤ v38 ∧ v38 < ((l1.length : Nat) : Int))) && true) then (bif (decide ((rd l1 (Int.toNat v38)).c ≤ v_9_0)) then (bif (decide (v_9_0 < (rd l1 (Int.toNat v38)).f)) then (bif (Nat.beq 4 4 && ((decide (0 + v_10_1.length = v_10_1.length)) && decide ((v_10_1.length + 1 + 1) * (32 + 1) ≤ Up))) then (.to (.h4 v4 (IntKind.wrap IntKind.i64 (v38 + 1)) v_4_0 v_4_1 v_4_2 v_4_3 v_5_0_000 v09_6 v_9_0 v_9_1 v_10_0 (v_10_1 ++ [(R4.mk (rd l1 (Int.toNat v38)).a (rd l1 (Int.toNat v38)).b (rd l1 (Int.toNat v38)).d (rd l1 (Int.toNat v38)).e)]))) else .stuck) else (.to (.h4 v4 (IntKind.wrap IntKind.i64 (v38 + 1)) v_4_0 v_4_1 v_4_2 v_4_3 v_5_0_000 v09_6 v_9_0 v_9_1 v_10_0 v_10_1))) else (.to (.h4 v4 (IntKind.wrap IntKind.i64 (v38 + 1)) v_4_0 v_4_1 v_4_2 v_4_3 v_5_0_000 v09_6 v_9_0 v_9_1 v_10_0 v_10_1))) else .stuck) else (bif (Ja (cvT v_10_0)) then (bif ((Xd (cvT v_10_0)) == 0) then (bif (Ja (cvT v_10_1)) then (bif ((Xd (cvT v_10_1)) == 0) then (bif ((z8f q) (cvT (Zd (cvT v_10_0))) (cvT (Zd (cvT v_10_1)))) then (bif (((x5x q) (cvT (Zd (cvT v_10_0))) (cvT (Zd (cvT v_10_1)))) != 0) then (.ret [.nils, (.int .i64 ((x5x q) (cvT (Zd (cvT v_10_0))) (cvT (Zd (cvT v_10_1)))))]) else (bif (decide (((((z1m q) (cvT (Zd (cvT v_10_0))) (cvT (Zd (cvT v_10_1)))).length : Nat) : Int) > 0)) then (bif (v_4_3 == v_9_0) then (bif (Xt (cvT v_4_1) (cvT ((z1m q) (cvT (Zd (cvT v_10_0))) (cvT (Zd (cvT v_10_1)))))) then (bif (Ve (cvT v_4_1) (cvT ((z1m q) (cvT (Zd (cvT v_10_0))) (cvT (Zd (cvT v_10_1)))))) then (.to (.h6 v_9_1 v_4_2 v_9_0 ((z1m q) (cvT (Zd (cvT v_10_0))) (cvT (Zd (cvT v_10_1)))) v4 v_4_0 v_4_1 v_4_2 v_4_3 v_5_0_000 v09_6 v_10_0 v_10_1)) else (.to (.h5 v_9_0 v_9_1 ((z1m q) (cvT (Zd (cvT v_10_0))) (cvT (Zd (cvT v_10_1)))) ((((z1m q) (cvT (Zd (cvT v_10_0))) (cvT (Zd (cvT v_10_1)))).length : Nat) : Int) 0 v4 v_4_0 ((v_4_0.length : Nat) : Int) v_5_0_000 v09_6 v_10_0 v_10_1))) else .stuck) else (.to (.h5 v_9_0 v_9_1 ((z1m q) (cvT (Zd (cvT v_10_0))) (cvT (Zd (cvT v_10_1)))) ((((z1m q) (cvT (Zd (cvT v_10_0))) (cvT (Zd (cvT v_10_1)))).length : Nat) : Int) 0 v4 v_4_0 ((v_4_0.length : Nat) : Int) v_5_0_000 v09_6 v_10_0 v_10_1))) else (.to (.h5 v_9_0 v_9_1 ((z1m q) (cvT (Zd (cvT v_10_0))) (cvT (Zd (cvT v_10_1)))) ((((z1m q) (cvT (Zd (cvT v_10_0))) (cvT (Zd (cvT v_10_1)))).length : Nat) : Int) 0 v4 v_4_0 ((v_4_0.length : Nat) : Int) v_5_0_000 v09_6 v_10_0 v_10_1)))) else .stuck) else (.ret [.nils, (.int .i64 (Xd (cvT v_10_1)))])) else .stuck) else (.ret [.nils, (.int .i64 (Xd (cvT v_10_0)))])) else .stuck))
 | .h5 v1 v2 v72 v73 v74 v001_4 v_0_0 v_0_2 v_5_0_000 v09_6 v_9_0 v_9_1 => (bif (decide (v74 < v73)) then (bif ((decide (0 ≤ v74 ∧ v74 < ((v72.length : Nat) : Int))) && true) then (bif (Nat.beq 6 6 && ((decide (0 + v_0_0.length = v_0_0.length)) && decide ((v_0_0.length + 1 + 1) * (48 + 1) ≤ Up))) then (.to (.h5 v1 v2 v72 v73 (IntKind.wrap IntKind.i64 (v74 + 1)) v001_4 (v_0_0 ++ [(R6.mk (rd v72 (Int.toNat v74)).a (rd v72 (Int.toNat v74)).b v1 (rd v72 (Int.toNat v74)).c (rd v72 (Int.toNat v74)).d v2)]) v_0_2 v_5_0_000 v09_6 v_9_0 v_9_1)) else .stuck) else .stuck) else (.to (.h2 (IntKind.wrap IntKind.i64 (v001_4 + 1)) v_0_0 v72 v_0_2 v2 v_5_0_000 v09_6)))
 | .h6 v2 v8 v000_54 v000_57 v001_4 v_0_0 v_0_1 v_0_2 v_0_3 v_6_0_000 v09_7 v_10_0 v_10_1 => (bif (decide (v8 < ((v_0_0.length : Nat) : Int))) then (bif ((decide (0 ≤ v8 ∧ v8 < ((v_0_0.length : Nat) : Int))) && true) then (bif (decide ((0 + (Int.toNat v8)) < v_0_0.length)) then (.to (.h6 v2 (IntKind.wrap IntKind.i64 (v8 + 1)) v000_54 v000_57 v001_4 (v_0_0.set (0 + (Int.toNat v8)) (R6.mk (rd v_0_0 (0 + (Int.toNat v8))).a (rd v_0_0 (0 + (Int.toNat v8))).b (rd v_0_0 (0 + (Int.toNat v8))).c (rd v_0_0 (0 + (Int.toNat v8))).d (rd v_0_0 (0 + (Int.toNat v8))).e v2)) v_0_1 v_0_2 v_0_3 v_6_0_000 v09_7 v_10_0 v_10_1)) else .stuck) else .stuck) else (.to (.h2 (IntKind.wrap IntKind.i64 (v001_4 + 1)) v_0_0 v_0_1 v_0_2 v2 v_6_0_000 v09_7)))
noncomputable def z7v (q : Op) (l0 : List R6) (l1 : List R6) : Xn sljS := (bif (Xa (cvT l0)) then (bif ((Yz (cvT l0)) != 0) then (.ret [.nils, (.int .i64 (Yz (cvT l0)))]) else (bif (Xa (cvT l1)) then (bif ((Yz (cvT l1)) != 0) then (.ret [.nils, (.int .i64 (Yz (cvT l1)))]) else (.to (.h0 0 ([] : List Int)))) else .stuck)) else .stuck)
theorem x5g (q : Op) (l0 : List R6) (l1 : List R6) : ∀ s, Xh Tryz.prog (Zy Tryz.prog (nSl q)) (sljC q l0 l1) (sljC q l0 l1 s) (Ye q l0 l1 s) := by cases q <;> refine (?f : ∀ q : Op, ∀ s, Xh Tryz.prog (Zy Tryz.prog (nSl q)) (sljC q l0 l1) (sljC q l0 l1 s) (Ye q l0 l1 s)) _ <;> exact fun q => fun
 | .h0 v16 v_2_0 => (lb (fun k0 => (lo fun o0 => (lo fun o1 => (sl Um 34 [] ⟨[0, 1, 2, 3, 4, 5, 6, 10], [], sljN0, sljM0⟩ ⟨[], [.keep, .keep, .cells [.len (v_2_0 ++ [(rd l0 (tn v16)).c, (rd l0 (tn v16)).f]).length], .keep, .keep, .keep, .keep, .rowed 1 (v_2_0 ++ [(rd l0 (tn v16)).c, (rd l0 (tn v16)).f]).length (Zz (v_2_0 ++ [(rd l0 (tn v16)).c, (rd l0 (tn v16)).f]))], []⟩ [true] (pp (xL (v_2_0.length + 2) (v_2_0 ++ [(rd l0 (tn v16)).c, (rd l0 (tn v16)).f]).length) (pp (xL (v_2_0.length + 2) (v_2_0 ++ [(rd l0 (tn v16)).c, (rd l0 (tn v16)).f]).length) (pp (xS (v_2_0.length + 2) (Zc (Zz v_2_0) 0 v_2_0.length 1 [(ii (rd l0 (tn v16)).c), (ii (rd l0 (tn v16)).f)]) (Zz (v_2_0 ++ [(rd l0 (tn v16)).c, (rd l0 (tn v16)).f]))) (pp (pp (xF (Zc (Zz v_2_0) 0 v_2_0.length 1 [(ii (rd l0 (tn v16)).c), (ii (rd l0 (tn v16)).f)])) nn) (ww o1 (ww o0 (tt k0 nn))))))))))) (fun k0 => (sl Um 36 [] ⟨(List.range 8), [], sljN1, sljM1⟩ ⟨[], [], []⟩ [false, true] (pp (fl v_2_0 nn) (tt k0 nn)))))
 | .h1 v16 v_2_0 => (lb (fun k0 => (lo fun o0 => (lo fun o1 => (sl Um 34 [] ⟨[0, 1, 2, 3, 4, 5, 6, 10], [], sljN1, sljM1⟩ ⟨[], [.keep, .keep, .cells [.len (v_2_0 ++ [(rd l1 (tn v16)).c, (rd l1 (tn v16)).f]).length], .keep, .keep, .keep, .keep, .rowed 1 (v_2_0 ++ [(rd l1 (tn v16)).c, (rd l1 (tn v16)).f]).length (Zz (v_2_0 ++ [(rd l1 (tn v16)).c, (rd l1 (tn v16)).f]))], []⟩ [true] (pp (xL (v_2_0.length + 2) (v_2_0 ++ [(rd l1 (tn v16)).c, (rd l1 (tn v16)).f]).length) (pp (xL (v_2_0.length + 2) (v_2_0 ++ [(rd l1 (tn v16)).c, (rd l1 (tn v16)).f]).length) (pp (xS (v_2_0.length + 2) (Zc (Zz v_2_0) 0 v_2_0.length 1 [(ii (rd l1 (tn v16)).c), (ii (rd l1 (tn v16)).f)]) (Zz (v_2_0 ++ [(rd l1 (tn v16)).c, (rd l1 (tn v16)).f]))) (pp (pp (xF (Zc (Zz v_2_0) 0 v_2_0.length 1 [(ii (rd l1 (tn v16)).c), (ii (rd l1 (tn v16)).f)])) nn) (ww o1 (ww o0 (tt k0 nn))))))))))) (fun k0 => (lo fun o0 => (lo fun o1 => (sl Um 46 [(67, 6, Zz ([] : List R6))] ⟨[8, 3, 4, 5, 6, 2, 7, 0, 1, 9], [], v2d, v2e⟩ ⟨[], (kpB 4 [.cells [.grow 9 6, .list 0 (Zz ([] : List R4)), .keep, .keep], .keep, .rowed 1 (Wj (Zs v_2_0.length (cOf (Zz (Xb (Zs v_2_0.length (cOf (Zz v_2_0)))))))).length (Zz (Wj (Zs v_2_0.length (cOf (Zz (Xb (Zs v_2_0.length (cOf (Zz v_2_0))))))))), .keep, .keep, .keep]), []⟩ [false, false] (pp (xL v_2_0.length (Wj (Zs v_2_0.length (cOf (Zz (Xb (Zs v_2_0.length (cOf (Zz v_2_0)))))))).length (by first | exact z4q _ _ | exact Vo rfl)) (pp (xS v_2_0.length (Zz (Wj (Zs v_2_0.length (cOf (Zz (Xb (Zs v_2_0.length (cOf (Zz v_2_0))))))))) (Zz (Wj (Zs v_2_0.length (cOf (Zz (Xb (Zs v_2_0.length (cOf (Zz v_2_0)))))))))) (pp (fl (Wj (Zs v_2_0.length (cOf (Zz (Xb (Zs v_2_0.length (cOf (Zz v_2_0)))))))) (fl ([] : List R6) nn)) (pp (pp (xG (Nat.beq 1 1)) (pp (xG (Nat.beq 1 1)) (pp (xG (Nat.beq 0 0)) (pp (xG (decide (v_2_0.length = v_2_0.length))) (pp (xG (isI (Zz (Xb (Zs v_2_0.length (cOf (Zz v_2_0))))))) (xG (decide (v_2_0.length < 4611686018427387904)))))))) (pp (pp (xG (Nat.beq 1 1)) (pp (xG (Nat.beq 1 1)) (pp (xG (Nat.beq 0 0)) (pp (xG (decide (v_2_0.length = v_2_0.length))) (pp (xG (isI (Zz v_2_0))) (xG (decide (v_2_0.length < 4611686018427387904)))))))) (tt k0 nn)))))))))))
 | .h2 v4 v_4_0 v_4_1 v_4_2 v_4_3 v_5_0_000 v09_6 => (lb (fun k0 => (lo fun o0 => (lo fun o1 => (lo fun o2 => (lo fun o3 => (sl Um 48 [(88, 4, Zz ([] : List R4))] ⟨[0, 1, 2, 3, 4, 5, 6, 7, 8, 10, 11, 12, 9], [], w4h, w4k⟩ ⟨[], (kpB 10 [.cells [.grow 11 4, .keep], .keep, .keep]), []⟩ (trs 3 []) (pp (fl v09_6 (fl ([] : List R4) (fl v_4_0 nn))) (ww o3 (ww o2 (ww o1 (ww o0 (tt k0 nn)))))))))))) (fun k0 => (lb (fun k1 => (lr 12 3 [1, 1, 1, 1, 1, 1, 1, 0] 1 28 [(4, .nils), (5, (ii 4))] (sl Um 39 [] ⟨[], [], [some [4, 5]], []⟩ ⟨[], [], []⟩ [false, true] (tt k1 (tt k0 nn))))) (fun k1 => (lr 12 3 [1, 1, 1, 1, 1, 1, 1, 0] 1 28 [(4, (.dat v_4_0.length (Zz v_4_0))), (5, (ii 0))] (sl Um 42 [] ⟨[], [9], [some [4, 5]], []⟩ ⟨[(4, .frz v_4_0.length v_4_0.length (Zz v_4_0) (Zz v_4_0))], [], []⟩ [false, false] (pp (xZ (z3v 6 6 0 v_4_0.length v_4_0.length (Zz v_4_0)) v_4_0.length (Zz v_4_0)) (pp (xL v_4_0.length v_4_0.length) (pp (xS v_4_0.length (Zz v_4_0) (Zz v_4_0)) (pp (fl v_4_0 nn) (tt k1 (tt k0 nn))))))))))))
 | .h3 v4 v38 v_4_0 v_4_1 v_4_2 v_4_3 v_5_0_000 v09_6 v_9_0 v_9_1 v_10_0 => (lb (fun k0 => (lo fun o1_0 => (lb (fun k1 => (lb (fun k2 => (lo fun o0 => (sl Um 41 [] ⟨[0, 1, 2, 3, 4, 5, 6, 7, 8, 9, 10, 15, 12], [], w4h, w4k⟩ ⟨[], (kpB 10 [.cells [.len (v_10_0 ++ [(R4.mk (rd l0 (tn v38)).a (rd l0 (tn v38)).b (rd l0 (tn v38)).d (rd l0 (tn v38)).e)]).length, .keep], .rowed 4 (v_10_0 ++ [(R4.mk (rd l0 (tn v38)).a (rd l0 (tn v38)).b (rd l0 (tn v38)).d (rd l0 (tn v38)).e)]).length (Zz (v_10_0 ++ [(R4.mk (rd l0 (tn v38)).a (rd l0 (tn v38)).b (rd l0 (tn v38)).d (rd l0 (tn v38)).e)])), .keep]), []⟩ (trs 8 []) (pp (xL (v_10_0.length + 1) (v_10_0 ++ [(R4.mk (rd l0 (tn v38)).a (rd l0 (tn v38)).b (rd l0 (tn v38)).d (rd l0 (tn v38)).e)]).length) (pp (xL (v_10_0.length + 1) (v_10_0 ++ [(R4.mk (rd l0 (tn v38)).a (rd l0 (tn v38)).b (rd l0 (tn v38)).d (rd l0 (tn v38)).e)]).length) (pp (xS (v_10_0.length + 1) (Zc (Zz v_10_0) 0 v_10_0.length 4 [(ii (rd l0 (tn v38)).a), (ii (rd l0 (tn v38)).b), (ii (rd l0 (tn v38)).d), (ii (rd l0 (tn v38)).e)]) (Zz (v_10_0 ++ [(R4.mk (rd l0 (tn v38)).a (rd l0 (tn v38)).b (rd l0 (tn v38)).d (rd l0 (tn v38)).e)]))) (pp (fl v09_6 (pp (xF (Zc (Zz v_10_0) 0 v_10_0.length 4 [(ii (rd l0 (tn v38)).a), (ii (rd l0 (tn v38)).b), (ii (rd l0 (tn v38)).d), (ii (rd l0 (tn v38)).e)])) (fl v_4_0 nn))) (ww o0 (tt k2 (tt k1 (ww o1_0 (tt k0 nn)))))))))))) (fun k2 => (sl Um 41 [] ⟨(List.range 13), [], w4h, w4k⟩ ⟨[], [], []⟩ (trs 7 [false]) (pp (fl v09_6 (fl v_10_0 (fl v_4_0 nn))) (tt k2 (tt k1 (ww o1_0 (tt k0 nn))))))))) (fun k1 => (sl Um 41 [] ⟨(List.range 13), [], w4h, w4k⟩ ⟨[], [], []⟩ [true, false, false, false, false, false, false, false] (pp (fl v09_6 (fl v_10_0 (fl v_4_0 nn))) (tt k1 (ww o1_0 (tt k0 nn))))))))) (fun k0 => (sl Um 38 [(88, 4, Zz ([] : List R4))] ⟨[0, 1, 2, 3, 4, 5, 6, 7, 8, 9, 10, 11, 13, 12], [], w4g, w4j⟩ ⟨[], (kpB 10 [.cells [.keep, .grow 12 4], .keep, .keep, .keep]), []⟩ [false, true] (pp (fl v09_6 (fl v_10_0 (fl ([] : List R4) (fl v_4_0 nn)))) (tt k0 nn)))))
 | .h4 v4 v38 v_4_0 v_4_1 v_4_2 v_4_3 v_5_0_000 v09_6 v_9_0 v_9_1 v_10_0 v_10_1 => (lb (fun k0 => (lo fun o1_0 => (lb (fun k1 => (lb (fun k2 => (lo fun o0 => (sl Um 41 [] ⟨[0, 1, 2, 3, 4, 5, 6, 7, 8, 9, 10, 11, 16, 13], [], w4g, w4j⟩ ⟨[], (kpB 10 [.cells [.keep, .len (v_10_1 ++ [(R4.mk (rd l1 (tn v38)).a (rd l1 (tn v38)).b (rd l1 (tn v38)).d (rd l1 (tn v38)).e)]).length], .keep, .rowed 4 (v_10_1 ++ [(R4.mk (rd l1 (tn v38)).a (rd l1 (tn v38)).b (rd l1 (tn v38)).d (rd l1 (tn v38)).e)]).length (Zz (v_10_1 ++ [(R4.mk (rd l1 (tn v38)).a (rd l1 (tn v38)).b (rd l1 (tn v38)).d (rd l1 (tn v38)).e)])), .keep]), []⟩ (trs 8 []) (pp (xL (v_10_1.length + 1) (v_10_1 ++ [(R4.mk (rd l1 (tn v38)).a (rd l1 (tn v38)).b (rd l1 (tn v38)).d (rd l1 (tn v38)).e)]).length) (pp (xL (v_10_1.length + 1) (v_10_1 ++ [(R4.mk (rd l1 (tn v38)).a (rd l1 (tn v38)).b (rd l1 (tn v38)).d (rd l1 (tn v38)).e)]).length) (pp (xS (v_10_1.length + 1) (Zc (Zz v_10_1) 0 v_10_1.length 4 [(ii (rd l1 (tn v38)).a), (ii (rd l1 (tn v38)).b), (ii (rd l1 (tn v38)).d), (ii (rd l1 (tn v38)).e)]) (Zz (v_10_1 ++ [(R4.mk (rd l1 (tn v38)).a (rd l1 (tn v38)).b (rd l1 (tn v38)).d (rd l1 (tn v38)).e)]))) (pp (fl v09_6 (fl v_10_0 (pp (xF (Zc (Zz v_10_1) 0 v_10_1.length 4 [(ii (rd l1 (tn v38)).a), (ii (rd l1 (tn v38)).b), (ii (rd l1 (tn v38)).d), (ii (rd l1 (tn v38)).e)])) (fl v_4_0 nn)))) (ww o0 (tt k2 (tt k1 (ww o1_0 (tt k0 nn)))))))))))) (fun k2 => (sl Um 41 [] ⟨(List.range 14), [], w4g, w4j⟩ ⟨[], [], []⟩ (trs 7 [false]) (pp (fl v09_6 (fl v_10_0 (fl v_10_1 (fl v_4_0 nn)))) (tt k2 (tt k1 (ww o1_0 (tt k0 nn))))))))) (fun k1 => (sl Um 41 [] ⟨(List.range 14), [], w4g, w4j⟩ ⟨[], [], []⟩ [true, false, false, false, false, false, false, false] (pp (fl v09_6 (fl v_10_0 (fl v_10_1 (fl v_4_0 nn)))) (tt k1 (ww o1_0 (tt k0 nn))))))))) (fun k0 => (Wd (sl Um (C' := ⟨⟨65, 0, true⟩, (Wm Tryz.prog 95 [1, 1, 0, 1, 0, 1, 0, 0] 4), (Za Tryz.prog 95 [1, 1, 0, 1, 0, 1, 0, 0] 1), (some 0), [], ⟨Ym [(2, (.ptr 1 0)), (4, (.ptr 2 0)), (5, (.ptr 3 0)), (6, (.ptr 4 0)), (7, (.ptr 6 0)), (20, (.dat v_10_0.length (Zz v_10_0)))], z6p [(1, ⟨[(.fn (nRg q) [])], 117, none⟩), (2, ⟨[.nils], 38, none⟩), (3, ⟨[(ii 0)], 26, none⟩), (4, ⟨[(.sla 5 6 0 v_4_0.length (.un 6)), (.dat v_4_1.length (Zz v_4_1)), (ii v_4_2), (ii v_4_3)], 168, none⟩), (5, ⟨rows v_4_0.length (Zz v_4_0), 67, some ⟨6, v_4_0.length, (Zz v_4_0)⟩⟩), (6, ⟨[(ii v_9_0), (ii v_9_1), (.sl 7 0 2 (.ex 2))], 173, none⟩), (7, ⟨[(.dat v_10_0.length (Zz v_10_0)), (.sla 8 4 0 v_10_1.length (.un 4))], 99, none⟩), (8, ⟨rows v_10_1.length (Zz v_10_1), 88, some ⟨4, v_10_1.length, (Zz v_10_1)⟩⟩), (9, ⟨[(.sla 10 1 0 v_5_0_000 (.un 1))], 93, none⟩), (10, ⟨rows v09_6.length (Zz v09_6), 3, some ⟨1, v09_6.length, (Zz v09_6)⟩⟩), (11, ⟨[(.sl 12 0 2 (.un 1))], 166, none⟩), (12, ⟨[(.dat l0.length (Zz l0)), (.dat l1.length (Zz l1))], 22, none⟩)], 13, [], true⟩, [⟨⟨86, 0, true⟩, (Wm Tryz.prog 171 [1, 0, 0, 1, 0, 0, 1, 1, 0] 2), (Za Tryz.prog 171 [1, 0, 0, 1, 0, 0, 1, 1, 0] 1), none, [], Ym [(0, (.yld 0)), (1, (.ptr 9 0)), (2, (.ptr 11 0)), (4, (ii v4)), (82, (.yld 0)), (83, (.agg [(ii v_9_0), (ii v_9_1), (.sl 7 0 2 (.ex 2))]))]⟩, ⟨⟨65, 0, true⟩, none, (.inRangeFunc 0 :: (Za Tryz.prog 95 [1, 1, 0, 1, 0] 1)), none, (Zy Tryz.prog 95), Ym [(4, (.ptr 2 0)), (5, (.ptr 3 0)), (6, (.ptr 4 0))]⟩, ⟨⟨27, 0, true⟩, (Wm Tryz.prog 78 [1, 1, 1, 0] 4), (Za Tryz.prog 78 [1, 1, 1, 0] 1), none, (Zy Tryz.prog 32), Ym [(20, (.agg [(.fn (nRg q) [])])), (23, (.sl 12 0 2 (.un 1)))]⟩, ⟨⟨12, 0, true⟩, (Wm Tryz.prog (nSl q) [1, 0] 3), (Za Tryz.prog (nSl q) [1, 0] 1), none, (Zy Tryz.prog 28), Ym [(6, (.dat l0.length (Zz l0))), (7, (.dat l1.length (Zz l1))), (8, (.agg [(.fn (nRg q) [])]))]⟩], (z6q [(0, ⟨.busy, none, 65, Ym [(2, (.ptr 1 0)), (4, (.ptr 2 0)), (5, (.ptr 3 0)), (6, (.ptr 4 0))], [15], (Wz Tryz.prog 95 [1, 1, 0, 1, 0, 0]), (Wz Tryz.prog 95 [1, 1, 0, 1, 0, 1])⟩)])⟩) 37 [] ⟨[0, 1, 2, 3, 4, 13, 14, 10, 12, 5, 6, 7, 8], [11], [some [2, 4, 5, 6, 7, 20], some [0, 1, 2, 4, 82, 83], some [4, 5, 6], some [20, 23], some [6, 7, 8]], [some [2, 4, 5, 6], none, none, none, none, none, none, none, none, none, none, none, none]⟩ ⟨[(20, .frz v_10_0.length v_10_0.length (Zz v_10_0) (Zz v_10_0))], [.keep, .keep, .keep, .keep, .keep, .keep, .keep, .cells [.frz v_10_0.length v_10_0.length (Zz v_10_0) (Zz v_10_0), .keep], .keep, .keep, .keep, .keep, .keep], []⟩ [false, false] (pp (xZ (z3v 4 4 0 v_10_0.length v_10_0.length (Zz v_10_0)) v_10_0.length (Zz v_10_0)) (pp (xL v_10_0.length v_10_0.length) (pp (xS v_10_0.length (Zz v_10_0) (Zz v_10_0)) (pp (xZ (z3v 4 4 0 v_10_0.length v_10_0.length (Zz v_10_0)) v_10_0.length (Zz v_10_0)) (pp (xL v_10_0.length v_10_0.length) (pp (xS v_10_0.length (Zz v_10_0) (Zz v_10_0)) (pp (fl v_4_0 (fl v_10_1 (fl v09_6 nn))) (pp (fl v_10_0 nn) (tt k0 nn)))))))))) (lo fun o1_0 => (lb (fun k1 => (Wd (sl Um (C' := ⟨⟨65, 0, true⟩, (Wm Tryz.prog 95 [1, 1, 0, 1, 0, 1, 0, 1, 0, 1, 0, 0, 1, 1, 0, 0, 1, 1, 0, 1, 0] 1), (Za Tryz.prog 95 [1, 1, 0, 1, 0, 1, 0, 1, 0, 1, 0, 0, 1, 1, 0, 0, 1, 1, 0, 1, 0] 1), (some 0), [], ⟨Ym [(2, (.ptr 1 0)), (4, (.ptr 2 0)), (5, (.ptr 3 0)), (6, (.ptr 4 0)), (7, (.ptr 6 0)), (8, (.dat (Zd (cvT v_10_0)).length (Zz (Zd (cvT v_10_0))))), (26, (.sl 7 1 1 (.ex 1))), (27, (ii 1)), (28, (ii 0)), (35, (.dat v_10_1.length (Zz v_10_1)))], z6p [(1, ⟨[(.fn (nRg q) [])], 117, none⟩), (2, ⟨[.nils], 38, none⟩), (3, ⟨[(ii 0)], 26, none⟩), (4, ⟨[(.sla 5 6 0 v_4_0.length (.un 6)), (.dat v_4_1.length (Zz v_4_1)), (ii v_4_2), (ii v_4_3)], 168, none⟩), (5, ⟨rows v_4_0.length (Zz v_4_0), 67, some ⟨6, v_4_0.length, (Zz v_4_0)⟩⟩), (6, ⟨[(ii v_9_0), (ii v_9_1), (.sl 7 0 2 (.ex 2))], 173, none⟩), (7, ⟨[(.dat v_10_0.length (Zz v_10_0)), (.dat v_10_1.length (Zz v_10_1))], 99, none⟩), (8, ⟨[(.sla 9 1 0 v_5_0_000 (.un 1))], 93, none⟩), (9, ⟨rows v09_6.length (Zz v09_6), 3, some ⟨1, v09_6.length, (Zz v09_6)⟩⟩), (10, ⟨[(.sl 11 0 2 (.un 1))], 166, none⟩), (11, ⟨[(.dat l0.length (Zz l0)), (.dat l1.length (Zz l1))], 22, none⟩)], 12, [], true⟩, [⟨⟨86, 0, true⟩, (Wm Tryz.prog 171 [1, 0, 0, 1, 0, 0, 1, 1, 0] 2), (Za Tryz.prog 171 [1, 0, 0, 1, 0, 0, 1, 1, 0] 1), none, [], Ym [(0, (.yld 0)), (1, (.ptr 8 0)), (2, (.ptr 10 0)), (4, (ii v4)), (82, (.yld 0)), (83, (.agg [(ii v_9_0), (ii v_9_1), (.sl 7 0 2 (.ex 2))]))]⟩, ⟨⟨65, 0, true⟩, none, (.inRangeFunc 0 :: (Za Tryz.prog 95 [1, 1, 0, 1, 0] 1)), none, (Zy Tryz.prog 95), Ym [(4, (.ptr 2 0)), (5, (.ptr 3 0)), (6, (.ptr 4 0))]⟩, ⟨⟨27, 0, true⟩, (Wm Tryz.prog 78 [1, 1, 1, 0] 4), (Za Tryz.prog 78 [1, 1, 1, 0] 1), none, (Zy Tryz.prog 32), Ym [(20, (.agg [(.fn (nRg q) [])])), (23, (.sl 11 0 2 (.un 1)))]⟩, ⟨⟨12, 0, true⟩, (Wm Tryz.prog (nSl q) [1, 0] 3), (Za Tryz.prog (nSl q) [1, 0] 1), none, (Zy Tryz.prog 28), Ym [(6, (.dat l0.length (Zz l0))), (7, (.dat l1.length (Zz l1))), (8, (.agg [(.fn (nRg q) [])]))]⟩], (z6q [(0, ⟨.busy, none, 65, Ym [(2, (.ptr 1 0)), (4, (.ptr 2 0)), (5, (.ptr 3 0)), (6, (.ptr 4 0))], [15], (Wz Tryz.prog 95 [1, 1, 0, 1, 0, 0]), (Wz Tryz.prog 95 [1, 1, 0, 1, 0, 1])⟩)])⟩) 46 [] ⟨[0, 1, 2, 3, 4, 5, 6, 7, 9, 10, 11, 12], [8], [some [2, 4, 5, 6, 7, 8, 26, 27, 28, 35], some [0, 1, 2, 4, 82, 83], some [4, 5, 6], some [20, 23], some [6, 7, 8]], [some [2, 4, 5, 6], none, none, none, none, none, none, none, none, none, none, none]⟩ ⟨[(35, .frz v_10_1.length v_10_1.length (Zz v_10_1) (Zz v_10_1))], [.keep, .keep, .keep, .keep, .keep, .keep, .keep, .cells [.keep, .frz v_10_1.length v_10_1.length (Zz v_10_1) (Zz v_10_1)], .keep, .keep, .keep, .keep], []⟩ [true, true] (pp (xZ (z3v 4 4 0 v_10_1.length v_10_1.length (Zz v_10_1)) v_10_1.length (Zz v_10_1)) (pp (xL v_10_1.length v_10_1.length) (pp (xS v_10_1.length (Zz v_10_1) (Zz v_10_1)) (pp (xZ (z3v 4 4 0 v_10_1.length v_10_1.length (Zz v_10_1)) v_10_1.length (Zz v_10_1)) (pp (xL v_10_1.length v_10_1.length) (pp (xS v_10_1.length (Zz v_10_1) (Zz v_10_1)) (pp (fl v_4_0 (fl v09_6 nn)) (pp (fl v_10_1 nn) (tt k1 (pp (pp (xr v_10_0) (xw o1_0)) nn))))))))))) (lo fun o2_0 => (lb (fun k2 => (lo fun o3_0 => (lb (fun k3 => (lr 12 3 [1, 1, 1, 1, 1, 1, 1, 0] 1 28 [(4, .nils), (5, (ii ((x5x q) (cvT (Zd (cvT v_10_0))) (cvT (Zd (cvT v_10_1))))))] (sl Um 69 [] ⟨[], [], [some [4, 5]], []⟩ ⟨[], [], []⟩ [true, false, true, true] (tt k3 (pp (pp (xI R4 (Zd (cvT v_10_0)).length (Zz (Zd (cvT v_10_0)))) (pp (xI R4 (Zd (cvT v_10_1)).length (Zz (Zd (cvT v_10_1)))) (xw o3_0))) (tt k2 (pp (pp (xr v_10_1) (xw o2_0)) nn))))))) (fun k3 => (lb (fun k4 => (lb (fun k5 => (lo fun o6_0 => (lb (fun k6 => (sl Um 88 [] ⟨[4, 5, 0, 1, 2, 3, 8, 9, 10, 11, 7], [], sljN6, sljM6⟩ ⟨[], [], []⟩ [true, false, false, true, true, true, true, true, true, true, true, true, true, true, true, true] (pp (fl v_4_0 (fl v09_6 nn)) (tt k6 (pp (pp (xr v_4_1) (pp (xI R4 ((z1m q) (cvT (Zd (cvT v_10_0))) (cvT (Zd (cvT v_10_1)))).length (Zz ((z1m q) (cvT (Zd (cvT v_10_0))) (cvT (Zd (cvT v_10_1)))))) (xw o6_0))) (tt k5 (tt k4 (tt k3 (pp (pp (xI R4 (Zd (cvT v_10_0)).length (Zz (Zd (cvT v_10_0)))) (pp (xI R4 (Zd (cvT v_10_1)).length (Zz (Zd (cvT v_10_1)))) (xw o3_0))) (tt k2 (pp (pp (xr v_10_1) (xw o2_0)) nn))))))))))) (fun k6 => (sl Um 108 [] ⟨[4, 0, 1, 2, 3, 8, 9, 10, 11, 7, 5], [], w4f, w4i⟩ ⟨[], [], []⟩ [true, false, false, true, true, true, true, true, true, true, true, true, true, true, true, false] (pp (fl v09_6 (fl v_4_0 nn)) (tt k6 (pp (pp (xr v_4_1) (pp (xI R4 ((z1m q) (cvT (Zd (cvT v_10_0))) (cvT (Zd (cvT v_10_1)))).length (Zz ((z1m q) (cvT (Zd (cvT v_10_0))) (cvT (Zd (cvT v_10_1)))))) (xw o6_0))) (tt k5 (tt k4 (tt k3 (pp (pp (xI R4 (Zd (cvT v_10_0)).length (Zz (Zd (cvT v_10_0)))) (pp (xI R4 (Zd (cvT v_10_1)).length (Zz (Zd (cvT v_10_1)))) (xw o3_0))) (tt k2 (pp (pp (xr v_10_1) (xw o2_0)) nn)))))))))))))) (fun k5 => (sl Um 108 [] ⟨[4, 0, 1, 2, 3, 8, 9, 10, 11, 7, 5], [], w4f, w4i⟩ ⟨[], [], []⟩ [true, false, false, true, true, true, true, true, true, false, false, false, false, false, false, false] (pp (fl v09_6 (fl v_4_0 nn)) (tt k5 (tt k4 (tt k3 (pp (pp (xI R4 (Zd (cvT v_10_0)).length (Zz (Zd (cvT v_10_0)))) (pp (xI R4 (Zd (cvT v_10_1)).length (Zz (Zd (cvT v_10_1)))) (xw o3_0))) (tt k2 (pp (pp (xr v_10_1) (xw o2_0)) nn))))))))))) (fun k4 => (sl Um 108 [] ⟨[4, 0, 1, 2, 3, 8, 9, 10, 11, 7, 5], [], w4f, w4i⟩ ⟨[], [], []⟩ [true, false, false, false, false, false, false, false, false, false, false, false, false, false, false, false] (pp (fl v09_6 (fl v_4_0 nn)) (tt k4 (tt k3 (pp (pp (xI R4 (Zd (cvT v_10_0)).length (Zz (Zd (cvT v_10_0)))) (pp (xI R4 (Zd (cvT v_10_1)).length (Zz (Zd (cvT v_10_1)))) (xw o3_0))) (tt k2 (pp (pp (xr v_10_1) (xw o2_0)) nn))))))))))))) (fun k2 => (lr 12 3 [1, 1, 1, 1, 1, 1, 1, 0] 1 28 [(4, .nils), (5, (ii (Xd (cvT v_10_1))))] (sl Um 58 [] ⟨[], [], [some [4, 5]], []⟩ ⟨[], [], []⟩ [false, false, true, true] (yt (bne_f k2) (tt k2 (pp (pp (xr v_10_1) (xw o2_0)) nn)))))))))) (fun k1 => (lr 12 3 [1, 1, 1, 1, 1, 1, 1, 0] 1 28 [(4, .nils), (5, (ii (Xd (cvT v_10_0))))] (sl Um 84 [] ⟨[], [], [some [4, 5]], []⟩ ⟨[], [], []⟩ [true, false, false, true, true] (yt (bne_f k1) (tt k1 (pp (pp (xr v_10_0) (xw o1_0)) nn)))))))))))
 | .h5 v1 v2 v72 v73 v74 v001_4 v_0_0 v_0_2 v_5_0_000 v09_6 v_9_0 v_9_1 => (lb (fun k0 => (lo fun o0 => (lo fun o1 => (sl Um 23 [] ⟨[0, 1, 2, 3, 4, 5, 6, 7, 8, 9, 13], [], w4f, w4i⟩ ⟨[], [.cells [.len (v_0_0 ++ [(R6.mk (rd v72 (tn v74)).a (rd v72 (tn v74)).b v1 (rd v72 (tn v74)).c (rd v72 (tn v74)).d v2)]).length, .keep, .keep, .keep], .keep, .keep, .keep, .keep, .keep, .keep, .keep, .keep, .keep, .rowed 6 (v_0_0 ++ [(R6.mk (rd v72 (tn v74)).a (rd v72 (tn v74)).b v1 (rd v72 (tn v74)).c (rd v72 (tn v74)).d v2)]).length (Zz (v_0_0 ++ [(R6.mk (rd v72 (tn v74)).a (rd v72 (tn v74)).b v1 (rd v72 (tn v74)).c (rd v72 (tn v74)).d v2)]))], []⟩ [true] (pp (xL (v_0_0.length + 1) (v_0_0 ++ [(R6.mk (rd v72 (tn v74)).a (rd v72 (tn v74)).b v1 (rd v72 (tn v74)).c (rd v72 (tn v74)).d v2)]).length) (pp (xL (v_0_0.length + 1) (v_0_0 ++ [(R6.mk (rd v72 (tn v74)).a (rd v72 (tn v74)).b v1 (rd v72 (tn v74)).c (rd v72 (tn v74)).d v2)]).length) (pp (xS (v_0_0.length + 1) (Zc (Zz v_0_0) 0 v_0_0.length 6 [(ii (rd v72 (tn v74)).a), (ii (rd v72 (tn v74)).b), (ii v1), (ii (rd v72 (tn v74)).c), (ii (rd v72 (tn v74)).d), (ii v2)]) (Zz (v_0_0 ++ [(R6.mk (rd v72 (tn v74)).a (rd v72 (tn v74)).b v1 (rd v72 (tn v74)).c (rd v72 (tn v74)).d v2)]))) (pp (fl v09_6 (pp (xF (Zc (Zz v_0_0) 0 v_0_0.length 6 [(ii (rd v72 (tn v74)).a), (ii (rd v72 (tn v74)).b), (ii v1), (ii (rd v72 (tn v74)).c), (ii (rd v72 (tn v74)).d), (ii v2)])) nn)) (ww o1 (ww o0 (tt k0 nn))))))))))) (fun k0 => (sl Um 22 [] ⟨[1, 2, 3, 4, 0, 5, 6, 7, 8, 10], [], v2d, v2e⟩ ⟨[], [], []⟩ [false, false] (pp (fl v09_6 (fl v_0_0 nn)) (tt k0 nn)))))
 | .h6 v2 v8 v000_54 v000_57 v001_4 v_0_0 v_0_1 v_0_2 v_0_3 v_6_0_000 v09_7 v_10_0 v_10_1 => (lb (fun k0 => (lo fun o0 => (lo fun o1 => (sl Um 34 [] ⟨(List.range 11), [], sljN6, sljM6⟩ ⟨[], [.cells [.len (v_0_0.set (0 + (tn v8)) (R6.mk (rd v_0_0 (0 + (tn v8))).a (rd v_0_0 (0 + (tn v8))).b (rd v_0_0 (0 + (tn v8))).c (rd v_0_0 (0 + (tn v8))).d (rd v_0_0 (0 + (tn v8))).e v2)).length, .keep, .keep, .keep], .rowed 6 (v_0_0.set (0 + (tn v8)) (R6.mk (rd v_0_0 (0 + (tn v8))).a (rd v_0_0 (0 + (tn v8))).b (rd v_0_0 (0 + (tn v8))).c (rd v_0_0 (0 + (tn v8))).d (rd v_0_0 (0 + (tn v8))).e v2)).length (Zz (v_0_0.set (0 + (tn v8)) (R6.mk (rd v_0_0 (0 + (tn v8))).a (rd v_0_0 (0 + (tn v8))).b (rd v_0_0 (0 + (tn v8))).c (rd v_0_0 (0 + (tn v8))).d (rd v_0_0 (0 + (tn v8))).e v2))), .keep, .keep, .keep, .keep, .keep, .keep, .keep, .keep, .keep], []⟩ [true] (pp (xL v_0_0.length (v_0_0.set (0 + (tn v8)) (R6.mk (rd v_0_0 (0 + (tn v8))).a (rd v_0_0 (0 + (tn v8))).b (rd v_0_0 (0 + (tn v8))).c (rd v_0_0 (0 + (tn v8))).d (rd v_0_0 (0 + (tn v8))).e v2)).length) (pp (xL v_0_0.length (v_0_0.set (0 + (tn v8)) (R6.mk (rd v_0_0 (0 + (tn v8))).a (rd v_0_0 (0 + (tn v8))).b (rd v_0_0 (0 + (tn v8))).c (rd v_0_0 (0 + (tn v8))).d (rd v_0_0 (0 + (tn v8))).e v2)).length) (pp (xS v_0_0.length (Xm (Zz v_0_0) (0 + (tn v8)) 5 [(ii v2)]) (Zz (v_0_0.set (0 + (tn v8)) (R6.mk (rd v_0_0 (0 + (tn v8))).a (rd v_0_0 (0 + (tn v8))).b (rd v_0_0 (0 + (tn v8))).c (rd v_0_0 (0 + (tn v8))).d (rd v_0_0 (0 + (tn v8))).e v2)))) (pp (pp (xF (Xm (Zz v_0_0) (0 + (tn v8)) 5 [(ii v2)])) (fl v09_7 nn)) (ww o1 (ww o0 (tt k0 nn))))))))))) (fun k0 => (sl Um 36 [] ⟨[2, 3, 4, 5, 0, 6, 7, 8, 9, 1], [], v2d, v2e⟩ ⟨[], [], []⟩ [false, false] (pp (fl v09_7 (fl v_0_0 nn)) (tt k0 nn)))))
theorem y8w (q : Op) (l0 : List R6) (l1 : List R6) : Xh Tryz.prog (Zy Tryz.prog (nSl q)) (sljC q l0 l1) (Zf Tryz.prog (nSl q) [(.dat l0.length (Zz l0)), (.dat l1.length (Zz l1))] true []) (z7v q l0 l1) := by cases q <;> exact (lo fun o0_0 => (lb (fun k0 => (lr 12 3 [1, 1, 1, 1, 1, 1, 1, 0] 1 28 [(4, .nils), (5, (ii (Yz (cvT l0))))] (sl Um 42 [] ⟨[], [], [some [4, 5]], []⟩ ⟨[], [], []⟩ [true] (tt k0 (pp (pp (xr l0) (xw o0_0)) nn))))) (fun k0 => (lo fun o1_0 => (lb (fun k1 => (lr 12 3 [1, 1, 1, 1, 1, 1, 1, 0] 1 28 [(4, .nils), (5, (ii (Yz (cvT l1))))] (sl Um 56 [] ⟨[], [], [some [4, 5]], []⟩ ⟨[], [], []⟩ [false, true] (tt k1 (pp (pp (xr l1) (xw o1_0)) (tt k0 (pp (pp (xr l0) (xw o0_0)) nn))))))) (fun k1 => (sl Um 108 [(3, 1, Zz ([] : List Int))] ⟨[6, 1, 7, 2, 3, 4, 5, 8], [], sljN0, sljM0⟩ ⟨[], [.keep, .keep, .cells [.grow 7 1], .keep, .keep, .keep, .keep, .keep], []⟩ [false, false, true] (pp (fl ([] : List Int) nn) (tt k1 (pp (pp (xr l1) (xw o1_0)) (tt k0 (pp (pp (xr l0) (xw o0_0)) nn))))))))))))
theorem w4e (q : Op) (l0 : List R6) (l1 : List R6) (n : Nat) (vs : List AVal) (h : Ya (Ye q l0 l1) n (z7v q l0 l1) = .ret vs) : Je Tryz.prog (Zy Tryz.prog (nSl q)) (Zf Tryz.prog (nSl q) [(.dat l0.length (Zz l0)), (.dat l1.length (Zz l1))] true []) vs := by
 have := Zn (x5g q l0 l1) n _ (y8w q l0 l1)
 rwa [h] at this
end Go.Am
end
section
set_option linter.unusedVariables false
set_option linter.unusedSimpArgs false
namespace Go.Am
open Go.Proofs
open Go.Sort Go.Shelf Go.RowKit Go.Lib
set_option maxRecDepth 100000
set_option maxHeartbeats 8000000
set_option linter.unusedVariables false
set_option linter.unusedSimpArgs false
theorem z5m (l : List R4) : (Xd l == 0) = !(Xd l != 0) := by cases h : (Xd l == 0) <;> simp [bne, h]
noncomputable def slS (q : Op) (a b : List R6) (x : Int) : List R4 := rgJ q.k (Zd (D6.inn a x)) (Zd (D6.inn b x))
noncomputable def slA (q : Op) (a b : List R6) (x : Int) : Int := bif Xd (D6.inn a x) != 0 then Xd (D6.inn a x) else bif Xd (D6.inn b x) != 0 then Xd (D6.inn b x) else rgE q (Zd (D6.inn a x)) (Zd (D6.inn b x))
theorem x3c {q : Op} {a b : List R4} (h : rgE q a b = 0) : z8e a = 0 ∧ z8e b = 0 ∧ (rgJ q.k a b).length ≤ 400 := by
 unfold rgE at h
 cases g1 : (z8e a != 0) with
 | true => rw [g1, cond_true] at h; rw [h] at g1; cases g1
 | false =>
  cases g2 : (z8e b != 0) with
  | true => rw [g1, g2, cond_false, cond_true] at h; rw [h] at g2; cases g2
  | false =>
   rw [g1, g2, cond_false, cond_false] at h
   unfold eJ at h
   refine ⟨by simpa using g1, by simpa using g2, ?_⟩
   revert h
   generalize y1o (rgA q a b) _ _ _ = e
   intro h
   cases g3 : (e != 0) with
   | true => rw [g3, cond_true] at h; rw [h] at g3; cases g3
   | false => rw [g3, cond_false] at h; exact y4z h
theorem y3r {q : Op} {a b : List R6} {x : Int} (h : slA q a b x = 0) : Xd (D6.inn a x) = 0 ∧ Xd (D6.inn b x) = 0 ∧ rgE q (Zd (D6.inn a x)) (Zd (D6.inn b x)) = 0 := by
 unfold slA at h
 cases g1 : (Xd (D6.inn a x) != 0) with
 | true => rw [g1, cond_true] at h; rw [h] at g1; cases g1
 | false =>
  cases g2 : (Xd (D6.inn b x) != 0) with
  | true => rw [g1, g2, cond_false, cond_true] at h; rw [h] at g2; cases g2
  | false =>
   rw [g1, g2, cond_false, cond_false] at h
   exact ⟨by simpa using g1, by simpa using g2, h⟩
theorem v2g (q : Op) (a b : List R6) (x : Int) (h : (slA q a b x != 0) = false) : (slS q a b x).length ≤ 1000 :=
 Nat.le_trans (x3c (y3r (by simpa using h)).2.2).2.2 (by omega)
section
variable (q : Op) (a b : List R6) (ha : a.length ≤ 400) (hb : b.length ≤ 400)
include ha hb
theorem w8r (i : Nat) (out : List R6) (last : List R4) (first fin x x' : Int) : ∀ (k j : Nat) (acc : List R4), j + k = a.length → acc.length ≤ j →
  ∃ n, ∀ N, Ya (Ye q a b) (N + n) (.to (.h3 (i : Int) (j : Int) out last first fin ((D6.cuts (a ++ b)).length) (Wj (Xb (D6.ends (a ++ b)))) x x' acc)) = Ya (Ye q a b) N (.to (.h4 (i : Int) 0 out last first fin ((D6.cuts (a ++ b)).length) (Wj (Xb (D6.ends (a ++ b)))) x x' (acc ++ D6.inn (a.drop j) x) []))
 | 0, j, acc, h, h' => by
  have _u := ha; have _v := hb
  refine ⟨1, fun N => ?_⟩
  rw [List.drop_eq_nil_of_le (by omega), show D6.inn ([] : List R6) x = [] from rfl, List.append_nil, Zv]
  simp (disch := omega) only [Ye, Yx, cond_false]
 | k + 1, j, acc, h, h' => by
  have hj : j < a.length := by omega
  obtain ⟨n, hn⟩ := w8r i out last first fin x x' k (j + 1) (acc ++ D6.inn [rd a j] x) (by omega) (by have := D6.inn_length [rd a j] x; simp only [List.length_append, List.length_singleton] at *; omega)
  refine ⟨n + 1, fun N => ?_⟩
  have e : D6.inn (a.drop j) x = D6.inn [rd a j] x ++ D6.inn (a.drop (j + 1)) x := by
   rw [Yh hj, ← D6.inn_append]; rfl
  rw [e, ← Nat.add_assoc, Zv, ← List.append_assoc, ← hn N]
  by_cases h1 : D6.lo (rd a j) ≤ x
  ·by_cases h2 : x < D6.hi (rd a j)
   ·rw [D6.inn_t _ _ h1 h2]
    simp only [D6] at h1 h2 ⊢
    simp (disch := omega) only [Ye, Xu, Zg, Zj, Zr, Zo, Yq, Yy, Yw, Zb, Zq, Zx, Yu, Zu, Nat.zero_add, decide_true, Bool.and_true, Bool.true_and, cond_true, cond_false]
   ·rw [D6.inn_f2 _ _ h2, List.append_nil]
    simp only [D6] at h1 h2
    simp (disch := omega) only [Ye, Xu, Yx, Zg, Zj, Zr, Zo, Yq, Yy, Yw, Zb, Zq, Zx, Yu, Zu, Nat.zero_add, decide_true, Bool.and_true, Bool.true_and, cond_true, cond_false]
  ·rw [D6.inn_f1 _ _ h1, List.append_nil]
   simp only [D6] at h1
   simp (disch := omega) only [Ye, x7e, Zg, Zj, Zr, Zo, Yq, Yy, Yw, Zb, Zq, Zx, Yu, Zu, Nat.zero_add, decide_true, Bool.and_true, Bool.true_and, cond_true, cond_false]
theorem w8q (i : Nat) (out : List R6) (last : List R4) (first fin x x' : Int) (o1 : List R4) : ∀ (k j : Nat) (acc : List R4), j + k = b.length → acc.length ≤ j →
  ∃ n, ∀ N, Ya (Ye q a b) (N + n) (.to (.h4 (i : Int) (j : Int) out last first fin ((D6.cuts (a ++ b)).length) (Wj (Xb (D6.ends (a ++ b)))) x x' o1 acc)) = Ya (Ye q a b) N (.to (.h4 (i : Int) (b.length : Int) out last first fin ((D6.cuts (a ++ b)).length) (Wj (Xb (D6.ends (a ++ b)))) x x' o1 (acc ++ D6.inn (b.drop j) x)))
 | 0, j, acc, h, h' => by
  have _u := ha; have _v := hb
  refine ⟨0, fun N => ?_⟩
  rw [List.drop_eq_nil_of_le (by omega), show D6.inn ([] : List R6) x = [] from rfl, List.append_nil, Nat.add_zero, show j = b.length by omega]
 | k + 1, j, acc, h, h' => by
  have hj : j < b.length := by omega
  obtain ⟨n, hn⟩ := w8q i out last first fin x x' o1 k (j + 1) (acc ++ D6.inn [rd b j] x) (by omega) (by have := D6.inn_length [rd b j] x; simp only [List.length_append, List.length_singleton] at *; omega)
  refine ⟨n + 1, fun N => ?_⟩
  have e : D6.inn (b.drop j) x = D6.inn [rd b j] x ++ D6.inn (b.drop (j + 1)) x := by
   rw [Yh hj, ← D6.inn_append]; rfl
  rw [e, ← Nat.add_assoc, Zv, ← List.append_assoc, ← hn N]
  by_cases h1 : D6.lo (rd b j) ≤ x
  ·by_cases h2 : x < D6.hi (rd b j)
   ·rw [D6.inn_t _ _ h1 h2]
    simp only [D6] at h1 h2 ⊢
    simp (disch := omega) only [Ye, Xu, Zg, Zj, Zr, Zo, Yq, Yy, Yw, Zb, Zq, Zx, Yu, Zu, Nat.zero_add, decide_true, Bool.and_true, Bool.true_and, cond_true, cond_false]
   ·rw [D6.inn_f2 _ _ h2, List.append_nil]
    simp only [D6] at h1 h2
    simp (disch := omega) only [Ye, Xu, Yx, Zg, Zj, Zr, Zo, Yq, Yy, Yw, Zb, Zq, Zx, Yu, Zu, Nat.zero_add, decide_true, Bool.and_true, Bool.true_and, cond_true, cond_false]
  ·rw [D6.inn_f1 _ _ h1, List.append_nil]
   simp only [D6] at h1
   simp (disch := omega) only [Ye, x7e, Zg, Zj, Zr, Zo, Yq, Yy, Yw, Zb, Zq, Zx, Yu, Zu, Nat.zero_add, decide_true, Bool.and_true, Bool.true_and, cond_true, cond_false]
theorem w8p (i : Nat) (hi : i ≤ 2000) (x x' : Int) (s : List R4) (first : Int) (o1 o2 : List R4) (hs : s.length ≤ 1000) : ∀ (k j : Nat) (out : List R6), j + k = s.length → out.length ≤ 10000000 + j →
  ∃ n, ∀ N, Ya (Ye q a b) (N + n) (.to (.h5 x x' s (s.length : Int) (j : Int) (i : Int) out first ((D6.cuts (a ++ b)).length) (Wj (Xb (D6.ends (a ++ b)))) o1 o2)) = Ya (Ye q a b) N (.to (.h2 ((i + 1 : Nat) : Int) (out ++ (s.drop j).map (D6.put x x')) s first x' ((D6.cuts (a ++ b)).length) (Wj (Xb (D6.ends (a ++ b))))))
 | 0, j, out, h, ho => by
  have _u := ha; have _v := hb
  refine ⟨1, fun N => ?_⟩
  rw [List.drop_eq_nil_of_le (by omega), Zv]
  simp (disch := omega) only [Ye, Yx, Zq, Zx, cond_false, List.map_nil, List.append_nil]
 | k + 1, j, out, h, ho => by
  obtain ⟨n, hn⟩ := w8p i hi x x' s first o1 o2 hs k (j + 1) (out ++ [D6.put x x' (rd s j)]) (by omega) (by simp; omega)
  refine ⟨n + 1, fun N => ?_⟩
  have := hn N
  rw [Yh (show j < s.length by omega), List.map_cons, ← Nat.add_assoc, Zv]
  simp (disch := omega) only [Ye, Zg, Zj, Zr, Zo, Yq, Yy, Yw, Zb, Zq, Zx, Yu, Zu, Nat.zero_add, decide_true, Bool.and_true, Bool.true_and, cond_true, cond_false]
  rw [List.append_assoc] at this
  exact this
theorem w8o (i : Nat) (hi : i ≤ 2000) (x x' fin : Int) (s last : List R4) (first : Int) (o1 o2 : List R4) : ∀ (k j : Nat) (out : List R6), j + k = out.length → out.length ≤ 10000000 →
  ∃ n, ∀ N, Ya (Ye q a b) (N + n) (.to (.h6 x' (j : Int) x s (i : Int) out last first fin ((D6.cuts (a ++ b)).length) (Wj (Xb (D6.ends (a ++ b)))) o1 o2)) = Ya (Ye q a b) N (.to (.h2 ((i + 1 : Nat) : Int) (D6.grow out j x') last first x' ((D6.cuts (a ++ b)).length) (Wj (Xb (D6.ends (a ++ b))))))
 | 0, j, out, h, ho => by
  have _u := ha; have _v := hb
  refine ⟨1, fun N => ?_⟩
  rw [D6.grow_nil _ _ _ (by omega), Zv]
  simp (disch := omega) only [Ye, Yx, Zq, Zx, cond_false]
 | k + 1, j, out, h, ho => by
  obtain ⟨n, hn⟩ := w8o i hi x x' fin s last first o1 o2 k (j + 1) (out.set j (D6.ext x' (rd out j))) (by simp; omega) (by simpa using ho)
  refine ⟨n + 1, fun N => ?_⟩
  have := hn N
  rw [D6.grow_set out j _ (by omega)] at this
  rw [← Nat.add_assoc, Zv]
  simp (disch := omega) only [Ye, Zg, Zj, Zr, Zo, Yq, Yy, Yw, Zb, Zq, Zx, Yu, Zu, Nat.zero_add, decide_true, Bool.and_true, Bool.true_and, cond_true, cond_false]
  exact this
theorem x8x : ∀ (k i : Nat) (s : Sw R6 R4), k = (D6.cuts (a ++ b)).length - 1 - i → i ≤ (D6.cuts (a ++ b)).length → s.out.length ≤ i * 1000 → s.last.length ≤ 1000 → s.first ≤ s.out.length →
  ∃ n, Ya (Ye q a b) n (.to (.h2 ((i + 1 : Nat) : Int) s.out s.last (s.first : Int) s.fin ((D6.cuts (a ++ b)).length) (Wj (Xb (D6.ends (a ++ b)))))) = .ret (y2i (eJ (y1o (slA q a b) (D6.cuts (a ++ b)) k i) (D6.goS (slS q a b) (D6.cuts (a ++ b)) k i s).out.length) (D6.goS (slS q a b) (D6.cuts (a ++ b)) k i s).out)
 | 0, i, s, h, hi, ho, hla, hf => by
  have _u := ha; have _v := hb
  have hc := D6.cuts_length (a ++ b)
  refine ⟨1, ?_⟩
  rw [Zv, show D6.goS (slS q a b) (D6.cuts (a ++ b)) 0 i s = s from rfl, show y1o (slA q a b) (D6.cuts (a ++ b)) 0 i = 0 from rfl, x3d]
  unfold Qg
  by_cases g : (s.out.length : Int) > 400
  ·simp (disch := omega) only [Ye, Yx, Yd, cond_true, cond_false, Zm]
  ·simp (disch := omega) only [Ye, Yx, Xz, cond_true, cond_false, Zm]
 | k + 1, i, s, h, hi, ho, hla, hf => by
  have hc := D6.cuts_length (a ++ b)
  rw [List.length_append] at hc
  have hi1 : i + 1 < (D6.cuts (a ++ b)).length := by omega
  have hpl : (Wj (Xb (D6.ends (a ++ b)))).length = 2 * (a.length + b.length) := by rw [Kg, Jz, D6.ends_length, List.length_append]
  have r0 : rd (Wj (Xb (D6.ends (a ++ b)))) i = rd (D6.cuts (a ++ b)) i := z6m _ _ (by show i < (D6.cuts (a ++ b)).length; omega)
  have r1 : rd (Wj (Xb (D6.ends (a ++ b)))) (i + 1) = rd (D6.cuts (a ++ b)) (i + 1) := z6m _ _ (by show i + 1 < (D6.cuts (a ++ b)).length; omega)
  have hbig : i * 1000 ≤ 2000 * 1000 := Nat.mul_le_mul_right _ (by omega)
  have hgo : D6.goS (slS q a b) (D6.cuts (a ++ b)) (k + 1) i s = D6.goS (slS q a b) (D6.cuts (a ++ b)) k (i + 1) (D6.oneS (slS q a b (rd (D6.cuts (a ++ b)) i)) (rd (D6.cuts (a ++ b)) i) (rd (D6.cuts (a ++ b)) (i + 1)) s) := rfl
  have hfe : ∀ x, x = rd (D6.cuts (a ++ b)) i → (slA q a b x != 0) = false → y1o (slA q a b) (D6.cuts (a ++ b)) (k + 1) i = y1o (slA q a b) (D6.cuts (a ++ b)) k (i + 1) := fun x hx z => by
   show (bif slA q a b (rd (D6.cuts (a ++ b)) i) != 0 then _ else _) = _
   rw [← hx, z]; rfl
  revert hgo hfe r0
  generalize hx : rd (D6.cuts (a ++ b)) i = x
  generalize hx' : rd (D6.cuts (a ++ b)) (i + 1) = x' at r1
  intro r0 hgo hfe
  obtain ⟨n3, h3⟩ := w8r q a b ha hb (i + 1) s.out s.last (s.first : Int) s.fin x x' a.length 0 [] (Nat.zero_add _) (Nat.le_refl _)
  simp only [List.drop_zero, List.nil_append, z2w] at h3
  obtain ⟨n4, h4⟩ := w8q q a b ha hb (i + 1) s.out s.last (s.first : Int) s.fin x x' (D6.inn a x) b.length 0 [] (Nat.zero_add _) (Nat.le_refl _)
  simp only [List.drop_zero, List.nil_append, z2w] at h4
  have st0 : ∀ N, Ya (Ye q a b) (N + n4 + n3 + 1) (.to (.h2 ((i + 1 : Nat) : Int) s.out s.last (s.first : Int) s.fin ((D6.cuts (a ++ b)).length) (Wj (Xb (D6.ends (a ++ b)))))) = Ya (Ye q a b) N (.to (.h4 ((i + 1 : Nat) : Int) (b.length : Int) s.out s.last (s.first : Int) s.fin ((D6.cuts (a ++ b)).length) (Wj (Xb (D6.ends (a ++ b)))) x x' (D6.inn a x) (D6.inn b x))) := fun N => by
   rw [← h4 N, ← h3 (N + n4), Zv]
   have e1 : IntKind.wrap .i64 (((i + 1 : Nat) : Int) - 1) = (i : Int) := by rw [Zi]; exact Zq (by omega)
   simp (disch := omega) only [Ye, e1, r0, r1, Zg, Zj, Zr, Zo, Yq, Yy, Yw, Zb, Zq, Zx, Yu, Zu, Nat.zero_add, decide_true, Bool.and_true, Bool.true_and, cond_true, cond_false]
  have w1 : Ja (D6.inn a x) = true := rfl
  have w3 : Ja (D6.inn b x) = true := rfl
  have w4 : z8f q (Zd (D6.inn a x)) (Zd (D6.inn b x)) = true := rfl
  rcases Yb (slA q a b x != 0) with z | z
  ·refine ⟨1 + n4 + n3 + 1, ?_⟩
   rw [st0 1, Zv]
   have e : y1o (slA q a b) (D6.cuts (a ++ b)) (k + 1) i = slA q a b x := by show (bif slA q a b (rd (D6.cuts (a ++ b)) i) != 0 then slA q a b (rd (D6.cuts (a ++ b)) i) else _) = _; rw [hx, z]; rfl
   rw [e, show eJ (slA q a b x) _ = slA q a b x by unfold eJ; rw [z]; rfl, Qv _ z]
   unfold slA at z ⊢
   rcases Yb (Xd (D6.inn a x) != 0) with y1 | y1
   ·simp (disch := omega) only [Ye, Yx, z5m, y1, Bool.not_true, w1, w3, w4, Zg, Zj, Zr, Zo, Yq, Yy, Yw, Zb, Zq, Zx, Yu, Zu, Nat.zero_add, decide_true, Bool.and_true, Bool.true_and, cond_true, cond_false, Zm]
   ·rcases Yb (Xd (D6.inn b x) != 0) with y2 | y2
    ·simp (disch := omega) only [Ye, Yx, z5m, y1, y2, Bool.not_true, Bool.not_false, w1, w3, w4, Zg, Zj, Zr, Zo, Yq, Yy, Yw, Zb, Zq, Zx, Yu, Zu, Nat.zero_add, decide_true, Bool.and_true, Bool.true_and, cond_true, cond_false, Zm]
    ·rw [y1, y2, cond_false, cond_false] at z
     have z' : (x5x q (Zd (D6.inn a x)) (Zd (D6.inn b x)) != 0) = true := z
     simp (disch := omega) only [Ye, Yx, z5m, y1, y2, z', Bool.not_false, w1, w3, w4, Zg, Zj, Zr, Zo, Yq, Yy, Yw, Zb, Zq, Zx, Yu, Zu, Nat.zero_add, decide_true, Bool.and_true, Bool.true_and, cond_true, cond_false, Zm]
     rfl
  obtain ⟨y1, y2, y3⟩ := y3r (show slA q a b x = 0 by simpa using z)
  have y1 : (Xd (D6.inn a x) == 0) = true := by rw [y1]; rfl
  have y2 : (Xd (D6.inn b x) == 0) = true := by rw [y2]; rfl
  have z' : (x5x q (Zd (D6.inn a x)) (Zd (D6.inn b x)) != 0) = false := by show (rgE q _ _ != 0) = false; rw [y3]; rfl
  have v : z1m q (Zd (D6.inn a x)) (Zd (D6.inn b x)) = slS q a b x := y0p _ z'
  have hsl := v2g q a b x z
  have w2 : Xt s.last (slS q a b x) = true := decide_eq_true (by omega)
  rw [hgo, hfe x rfl z]
  have ol : (D6.oneS (slS q a b x) x x' s).out.length ≤ s.out.length + (slS q a b x).length := by
   unfold Dim.oneS
   cases decide (0 < (slS q a b x).length) && ((s.fin == x) && D6.same s.last (slS q a b x))
   ·simp
   ·simp [Dim.grow_length]
  rcases Yb (decide (0 < (slS q a b x).length) && ((s.fin == x) && D6.same s.last (slS q a b x))) with g | g
  ·obtain ⟨n6, h6⟩ := w8o q a b ha hb (i + 1) (by omega) x x' s.fin (slS q a b x) s.last (s.first : Int) (D6.inn a x) (D6.inn b x) (s.out.length - s.first) s.first s.out (by omega) (by omega)
   have e : D6.oneS (slS q a b x) x x' s = ⟨D6.grow s.out s.first x', s.last, s.first, x'⟩ := by unfold Dim.oneS; rw [g]; rfl
   obtain ⟨n0, h0⟩ := x8x k (i + 1) (D6.oneS (slS q a b x) x x' s) (by omega) (by omega) (by omega) (by rw [e]; exact hla) (by rw [e]; simpa [Dim.grow_length] using hf)
   refine ⟨n0 + n6 + 1 + n4 + n3 + 1, ?_⟩
   rw [st0 (n0 + n6 + 1), Zv]
   simp only [Bool.and_eq_true, decide_eq_true_eq] at g
   obtain ⟨g1, g2, g3⟩ := g
   have g3' : Ve s.last (slS q a b x) = true := g3
   simp (disch := omega) only [Ye, Yx, Yd, y1, y2, z', v, g2, g3', w1, w3, w4, w2, Zg, Zj, Zr, Zo, Yq, Yy, Yw, Zb, Zq, Zx, Yu, Zu, Nat.zero_add, decide_true, Bool.and_true, Bool.true_and, cond_true, cond_false]
   rw [h6 n0]
   rw [e] at h0 ⊢
   exact h0
  ·obtain ⟨n5, h5⟩ := w8p q a b ha hb (i + 1) (by omega) x x' (slS q a b x) (s.out.length : Int) (D6.inn a x) (D6.inn b x) hsl (slS q a b x).length 0 s.out (Nat.zero_add _) (by omega)
   simp only [List.drop_zero, z2w] at h5
   have e : D6.oneS (slS q a b x) x x' s = ⟨s.out ++ (slS q a b x).map (D6.put x x'), slS q a b x, s.out.length, x'⟩ := by unfold Dim.oneS; rw [g]; rfl
   obtain ⟨n0, h0⟩ := x8x k (i + 1) (D6.oneS (slS q a b x) x x' s) (by omega) (by omega) (by omega) (by rw [e]; exact hsl) (by rw [e]; simp)
   have hg : Ya (Ye q a b) 1 (.to (.h4 ((i + 1 : Nat) : Int) (b.length : Int) s.out s.last (s.first : Int) s.fin ((D6.cuts (a ++ b)).length) (Wj (Xb (D6.ends (a ++ b)))) x x' (D6.inn a x) (D6.inn b x))) = .to (.h5 x x' (slS q a b x) ((slS q a b x).length : Int) 0 ((i + 1 : Nat) : Int) s.out (s.out.length : Int) ((D6.cuts (a ++ b)).length) (Wj (Xb (D6.ends (a ++ b)))) (D6.inn a x) (D6.inn b x)) := by
    rw [show (1 : Nat) = 0 + 1 from rfl, Zv]
    have e3 : D6.same s.last (slS q a b x) = Ve s.last (slS q a b x) := rfl
    rw [e3] at g
    by_cases g1 : 0 < (slS q a b x).length
    ·rw [decide_eq_true g1, Bool.true_and] at g
     rcases Yb (s.fin == x) with g2 | g2
     ·rw [g2, Bool.true_and] at g
      simp (disch := omega) only [Ye, Yx, Yd, y1, y2, z', v, g2, g, w1, w3, w4, w2, Zg, Zj, Zr, Zo, Yq, Yy, Yw, Zb, Zq, Zx, Yu, Zu, Nat.zero_add, decide_true, Bool.and_true, Bool.true_and, cond_true, cond_false]
      rfl
     ·simp (disch := omega) only [Ye, Yx, Yd, y1, y2, z', v, g2, w1, w3, w4, w2, Zg, Zj, Zr, Zo, Yq, Yy, Yw, Zb, Zq, Zx, Yu, Zu, Nat.zero_add, decide_true, Bool.and_true, Bool.true_and, cond_true, cond_false]
      rfl
    ·simp (disch := omega) only [Ye, Yx, Xz, y1, y2, z', v, w1, w3, w4, w2, Zg, Zj, Zr, Zo, Yq, Yy, Yw, Zb, Zq, Zx, Yu, Zu, Nat.zero_add, decide_true, Bool.and_true, Bool.true_and, cond_true, cond_false]
     rfl
   refine ⟨n0 + n5 + 1 + n4 + n3 + 1, ?_⟩
   rw [st0 (n0 + n5 + 1), z4t _ (n0 + n5) 1, hg, h5 n0]
   rw [e] at h0 ⊢
   exact h0
theorem w8s : ∀ (k i : Nat) (acc : List Int), i + k = b.length → acc = D6.ends (a ++ b.take i) → ∃ n, Ya (Ye q a b) n (.to (.h1 (i : Int) acc)) = .ret (y2i (eJ (y1o (slA q a b) (D6.cuts (a ++ b)) ((D6.cuts (a ++ b)).length - 1) 0) (D6.goS (slS q a b) (D6.cuts (a ++ b)) ((D6.cuts (a ++ b)).length - 1) 0 ⟨[], [], 0, 0⟩).out.length) (D6.goS (slS q a b) (D6.cuts (a ++ b)) ((D6.cuts (a ++ b)).length - 1) 0 ⟨[], [], 0, 0⟩).out)
 | 0, i, acc, h, h' => by
  have _u := ha; have _v := hb
  have e : acc = D6.ends (a ++ b) := by rw [h', List.take_of_length_le (by omega)]
  subst e
  have hle := D6.ends_length (a ++ b)
  rw [List.length_append] at hle
  obtain ⟨n, hn⟩ := x8x q a b ha hb ((D6.cuts (a ++ b)).length - 1) 0 ⟨[], [], 0, 0⟩ (by omega) (Nat.zero_le _) (Nat.zero_le _) (Nat.zero_le _) (Nat.zero_le _)
  refine ⟨n + 1, ?_⟩
  rw [Zv]
  simp (disch := omega) only [Ye, Kb, z2m, y4x, Yx, Yy, Yw, decide_true, cond_true, cond_false]
  exact hn
 | k + 1, i, acc, h, h' => by
  have hle : acc.length ≤ 2 * (400 + i) := by rw [h', D6.ends_length]; simp only [List.length_append, List.length_take]; omega
  obtain ⟨n, hn⟩ := w8s k (i + 1) (acc ++ D6.ends [rd b i]) (by omega) (by
   rw [h', List.take_add_one]
   have : b[i]? = some (rd b i) := by rw [Xk (show i < b.length by omega)]; exact List.getElem?_eq_getElem _
   rw [this]; simp [Dim.ends])
  refine ⟨n + 1, ?_⟩
  rw [Zv]
  simp (disch := omega) only [Ye, Zg, Zj, Zr, Zo, Yq, Yy, Yw, Zb, Zq, Zx, Yu, Zu, Nat.zero_add, decide_true, Bool.and_true, Bool.true_and, cond_true, cond_false]
  exact hn
theorem w8t : ∀ (k i : Nat) (acc : List Int), i + k = a.length → acc = D6.ends (a.take i) → ∃ n, Ya (Ye q a b) n (.to (.h0 (i : Int) acc)) = .ret (y2i (eJ (y1o (slA q a b) (D6.cuts (a ++ b)) ((D6.cuts (a ++ b)).length - 1) 0) (D6.goS (slS q a b) (D6.cuts (a ++ b)) ((D6.cuts (a ++ b)).length - 1) 0 ⟨[], [], 0, 0⟩).out.length) (D6.goS (slS q a b) (D6.cuts (a ++ b)) ((D6.cuts (a ++ b)).length - 1) 0 ⟨[], [], 0, 0⟩).out)
 | 0, i, acc, h, h' => by
  have _u := ha; have _v := hb
  obtain ⟨n, hn⟩ := w8s q a b ha hb b.length 0 acc (Nat.zero_add _) (by rw [h', List.take_of_length_le (by omega), List.take_zero, List.append_nil])
  refine ⟨n + 1, ?_⟩
  rw [Zv]
  simp (disch := omega) only [Ye, Yx, cond_false]
  exact hn
 | k + 1, i, acc, h, h' => by
  have hle : acc.length ≤ 2 * (400 + i) := by rw [h', D6.ends_length]; simp only [List.length_append, List.length_take]; omega
  obtain ⟨n, hn⟩ := w8t k (i + 1) (acc ++ D6.ends [rd a i]) (by omega) (by
   rw [h', List.take_add_one]
   have : a[i]? = some (rd a i) := by rw [Xk (show i < a.length by omega)]; exact List.getElem?_eq_getElem _
   rw [this]; simp [Dim.ends])
  refine ⟨n + 1, ?_⟩
  rw [Zv]
  simp (disch := omega) only [Ye, Zg, Zj, Zr, Zo, Yq, Yy, Yw, Zb, Zq, Zx, Yu, Zu, Nat.zero_add, decide_true, Bool.and_true, Bool.true_and, cond_true, cond_false]
  exact hn
end
noncomputable def slJ (q : Op) (a b : List R6) : List R6 := (D6.goS (slS q a b) (D6.cuts (a ++ b)) ((D6.cuts (a ++ b)).length - 1) 0 ⟨[], [], 0, 0⟩).out
noncomputable def slE (q : Op) (a b : List R6) : Int := bif Yz a != 0 then Yz a else bif Yz b != 0 then Yz b else eJ (y1o (slA q a b) (D6.cuts (a ++ b)) ((D6.cuts (a ++ b)).length - 1) 0) (slJ q a b).length
noncomputable def z7e (q : Op) (a b : List R6) : List R6 := w2e (slE q a b) (slJ q a b)
noncomputable def y1s (q : Op) (a b : List R6) : Int := slE q a b
def z2b (q : Op) (a b : List R6) : Bool := true
theorem y2h {l : List R6} (h : (Yz l != 0) = false) : l.length ≤ 400 := by
 refine Classical.byContradiction fun g => ?_
 have h : Yz l = 0 := by simpa using h
 unfold Yz at h
 rw [decide_eq_true (by omega)] at h
 cases h
theorem sl_run (q : Op) (a b : List R6) (h : z2b q a b = true) : ∃ n, Ya (Ye q a b) n (z7v q a b) = .ret (y2i (slE q a b) (slJ q a b)) := by
 unfold z7v
 have o : ∀ l, Xa l = true := fun _ => rfl
 simp only [Zg, o, cond_true]
 rcases Yb (Yz a != 0) with q1 | q1
 ·exact ⟨0, by simp only [slE, q1, cond_true, Qv _ q1]; rfl⟩
 rcases Yb (Yz b != 0) with q2 | q2
 ·exact ⟨0, by simp only [slE, q1, q2, cond_true, cond_false, Qv _ q2]; rfl⟩
 obtain ⟨n, hn⟩ := w8t q a b (y2h q1) (y2h q2) a.length 0 [] (Nat.zero_add _) rfl
 refine ⟨n, ?_⟩
 simp only [slE, q1, q2, cond_false]
 exact hn
noncomputable def fSl (q : Op) : List AVal → Option (AVal × Bool)
 | [a0, a1] => match asL R6 a0, asL R6 a1 with
  | some (L0, g0, n0), some (L1, g1, n1) => some (.tup [.dat (z7e q L0 L1).length (Zz (z7e q L0 L1)), .int .i64 (y1s q L0 L1)], isT R6 n0 g0 && (isT R6 n1 g1 && (z2b q L0 L1)))
  | _, _ => none
 | _ => none
theorem w1x (q : Op) {S : Specs} (hS : Zk Tryz.prog S) : Zk Tryz.prog (S.with (nSl q) (fSl q)) := by
 refine v4u hS (by cases q <;> kernel_rfl) fun args v h => ?_
 unfold fSl at h
 split at h
 ·rename_i a0 a1
  split at h
  ·rename_i L0 g0 n0 L1 g1 n1 e0 e1
   simp only [Option.some.injEq, Prod.mk.injEq, Bool.and_eq_true] at h
   obtain ⟨rfl, ho0, ho1, hw⟩ := h
   obtain ⟨N, hN⟩ := sl_run q L0 L1 hw
   exact ⟨_, _, (.cons (asL_le e0 ho0) (.cons (asL_le e1 ho1) .nil)), z8g _ _, w4e q L0 L1 N _ hN, 3, y4b _ _⟩
  ·cases h
 ·cases h
end Go.Am
end
