/- A part of a proof: several texts in one. -/
import Derived.Test.YtijpnpkolglajaaGreatKg4
set_option maxRecDepth 1000000
set_option maxHeartbeats 8000000
set_option linter.unusedVariables false
set_option linter.unusedSimpArgs false
noncomputable section
namespace Go.Am
open Go.Proofs Go.Sort Go.Shelf Go.RowKit Go.Lib
def y3w (n t : Int) : Prop := ∃ k, t = k * n
theorem Ux {n s t : Int} (hn : 1 ≤ n) (hs : y3w n s) (ht : y3w n t) (h : s < t + n) : s ≤ t := by
 obtain ⟨k, rfl⟩ := hs
 obtain ⟨j, rfl⟩ := ht
 have e : j * n + n = (j + 1) * n := by rw [Int.add_mul, Int.one_mul]
 rw [e] at h
 have := Int.lt_of_mul_lt_mul_right h (by omega)
 exact Int.mul_le_mul_of_nonneg_right (by omega) (by omega)
theorem Uu {x n : Int} (hn : 1 ≤ n ∧ n ≤ 1000) (hx : -2000000 ≤ x ∧ x ≤ 2000000) : y3w n (Yj x n) ∧ Yj x n ≤ x ∧ x < Yj x n + n := by
 have h1 : n * Int.tdiv x n + Int.tmod x n = x := Int.mul_tdiv_add_tmod x n
 have h2 : Int.tdiv x n * n = x - Int.tmod x n := by rw [Int.mul_comm]; omega
 have h3 : -n < Int.tmod x n ∧ Int.tmod x n < n ∧ (0 ≤ x → 0 ≤ Int.tmod x n) ∧ (x ≤ 0 → Int.tmod x n ≤ 0) := by
  refine ⟨?_, Int.tmod_lt_of_pos x (by omega), fun h => Int.tmod_nonneg n h, fun h => ?_⟩
  ·have := Int.lt_tmod_of_pos x (show 0 < n by omega); omega
  ·have := Int.tmod_nonneg n (show 0 ≤ -x by omega)
   rw [Int.neg_tmod] at this; omega
 have h4 : -2000000 ≤ Int.tdiv x n ∧ Int.tdiv x n ≤ 2000000 := by
  generalize Int.tdiv x n = q at h2
  generalize Int.tmod x n = m at h2 h3
  rcases Int.lt_trichotomy q 0 with hq | hq | hq
  ·have : q * n ≤ q * 1 := Int.mul_le_mul_of_nonpos_left (by omega) (by omega)
   omega
  ·omega
  ·have : q * 1 ≤ q * n := Int.mul_le_mul_of_nonneg_left (by omega) (by omega)
   omega
 have h5 : (Int.tdiv x n - 1) * n = x - Int.tmod x n - n := by rw [Int.sub_mul, Int.one_mul, h2]
 unfold Yj
 rw [Zu (n := Int.tdiv x n) (by omega), Zu (n := Int.tdiv x n * n) (by omega), Zu (n := Int.tdiv x n - 1) (by omega), Zu (n := (Int.tdiv x n - 1) * n) (by omega)]
 by_cases h : Int.tdiv x n * n > x
 ·rw [Ye h, cond_true]
  exact ⟨⟨_, rfl⟩, by omega, by omega⟩
 ·rw [Xx h, cond_false]
  exact ⟨⟨_, rfl⟩, by omega, by omega⟩
theorem z1y {x n : Int} (hn : 1 ≤ n ∧ n ≤ 1000) (hx : -1900000 ≤ x ∧ x ≤ 1900000) : y3w n (upV x n) ∧ x ≤ upV x n ∧ upV x n < x + n := by
 unfold upV
 rw [Zu (n := 0 - x) (by omega)]
 obtain ⟨⟨k, hk⟩, h1, h2⟩ := Uu (x := 0 - x) hn (by omega)
 rw [Zu (n := 0 - Yj (0 - x) n) (by omega)]
 exact ⟨⟨-k, by rw [Int.neg_mul, ← hk]; omega⟩, by omega, by omega⟩
def nrR (r : R6) : Prop := (-900000 ≤ r.a ∧ r.d ≤ 900000) ∧ (-900000 ≤ r.b ∧ r.e ≤ 900000) ∧ -900000 ≤ r.c ∧ r.f ≤ 900000
structure Sml (L : List R6) : Prop where
 sol : Sol L
 nr : ∀ r ∈ L, nrR r
theorem Sol.sub {L M : List R6} (h : Sol L) (hs : M.Sublist L) : Sol M := ⟨Nat.le_trans hs.length_le h.len, fun r hr => h.val r (hs.subset hr), h.ap.sublist hs⟩
theorem Sml.sub {L M : List R6} (h : Sml L) (hs : M.Sublist L) : Sml M := ⟨h.sol.sub hs, fun r hr => h.nr r (hs.subset hr)⟩
theorem y1l (lo hi : R6 → Int) (L : List R6) (x x' : Int) : (crS lo hi L x x').Sublist L := List.filter_sublist
theorem x8t {lo hi a b : Int} (h1 : -1000000 ≤ lo ∧ lo ≤ 1000000) (h2 : -1000000 ≤ hi ∧ hi ≤ 1000000) (h3 : -1000000 ≤ a ∧ a ≤ 1000000) (h4 : -1000000 ≤ b ∧ b ≤ 1000000) : spC lo hi a b = ovl lo hi a b := by
 have e1 := Jj hi b
 have e2 := Ur lo a
 unfold spC ovl
 rw [Zu (by omega)]
 have := Ur (Wn hi b - Wu lo a) 0
 omega
theorem fu1_cg {r : R6} (hr : Jz r = true) {B : R6} (hB : Jz B = true) : Cg (fu1 r B.a B.d B.b B.e B.c B.f) (ov B r) := by
 have v := Wy hr
 have w := Wy hB
 unfold fu1 ov
 rw [x8t (by omega) (by omega) (by omega) (by omega), x8t (by omega) (by omega) (by omega) (by omega), x8t (by omega) (by omega) (by omega) (by omega), z2y r.a, z2y r.b, z2y r.c]
 refine ((Cg.mul ?_ (Cg.refl _)).w.mul (Cg.refl _)).w
 rw [Int.one_mul]
 exact Cg.wrap _
theorem v2i {B : R6} (hB : Jz B = true) : ∀ (L : List R6) (s s' : Int), (∀ r ∈ L, Jz r = true) → Cg s s' → Cg (fuF B.a B.d B.b B.e B.c B.f L s) (s' - sm L fun r => ov B r)
 | [], s, s', _, h => by rw [z1v, Int.sub_zero]; exact h
 | r :: L, s, s', hL, h => by
  have := v2i hB L _ _ (fun q hq => hL q (List.mem_cons_of_mem _ hq)) (h.sub (fu1_cg (hL r (List.mem_cons_self ..)) hB)).w
  rw [We]
  rw [show s' - (ov B r + sm L fun r => ov B r) = s' - ov B r - sm L fun r => ov B r by omega]
  exact this
theorem v2h {a b c d e f : Int} : ∀ (L : List R6) (s : Int), (-9223372036854775808 ≤ s ∧ s ≤ 9223372036854775807) → -9223372036854775808 ≤ fuF a b c d e f L s ∧ fuF a b c d e f L s ≤ 9223372036854775807
 | [], s, h => h
 | r :: L, s, _ => v2h L _ (y3z _)
theorem bx_le {B : R6} (hB : Jz B = true) : 0 ≤ bxV B ∧ bxV B ≤ 8000000000000000000 := by
 have w := Wy hB
 unfold bxV
 have h1 : (B.d - B.a) * (B.e - B.b) ≤ 2000000 * 2000000 := Int.mul_le_mul (by omega) (by omega) (by omega) (by omega)
 have h0 : 0 ≤ (B.d - B.a) * (B.e - B.b) := Int.mul_nonneg (by omega) (by omega)
 have h2 : (B.d - B.a) * (B.e - B.b) * (B.f - B.c) ≤ 2000000 * 2000000 * 2000000 := Int.mul_le_mul h1 (by omega) (by omega) (by omega)
 exact ⟨Int.mul_nonneg h0 (by omega), h2⟩
theorem x2x {X Y : List R6} (hX : Sol X) (hY : Sol Y) : S2 X Y ≤ sm X bxV := by
 obtain ⟨p, hp⟩ := x3p
 rw [x2z hp hX, S2_S3 hp X Y hX.near]
 refine w4i fun x y z => ?_
 have h1 := z3f X x y z
 have h2 := y8b Y hY.ap x y z
 have := Int.mul_le_mul_of_nonneg_left h2 h1
 omega
theorem z1e {B : R6} (hB : Jz B = true) : Sol [B] := ⟨by simp, fun r hr => by rw [List.mem_singleton.1 hr]; exact hB, List.pairwise_singleton _ _⟩
theorem v6x {L : List R6} (hL : Sol L) {B : R6} (hB : Jz B = true) : y3k L B.a B.d B.b B.e B.c B.f = true ↔ ∀ x y z, pin B x y z → inS L x y z := by
 have w := Wy hB
 have hb := bx_le hB
 have h0 : Cg (fu0 B.a B.d B.b B.e B.c B.f) (bxV B) := by
  unfold fu0 bxV
  exact ((Cg.mul (Cg.wrap _) (Cg.wrap _)).w.mul (Cg.wrap _)).w
 have hc := v2i hB L _ _ hL.val h0
 have e2 : (sm L fun r => ov B r) = S2 [B] L := by unfold S2; rw [We, z1v, Int.add_zero]
 have hm := x2x (z1e hB) hL
 rw [We, z1v, Int.add_zero] at hm
 have hnn : 0 ≤ S2 [B] L := y8t _ _
 have hin := v2h (a := B.a) (b := B.d) (c := B.b) (d := B.e) (e := B.c) (f := B.f) L (fu0 B.a B.d B.b B.e B.c B.f) (y3z _)
 rw [e2] at hc
 have he := hc.is hin (by omega)
 obtain ⟨p, hp⟩ := x3p
 have hv : w9e [B] = bxV B := by
  rw [y8y hp (z1e hB), ← x2z hp (z1e hB), We, z1v, Int.add_zero]
 have ha := v2x (z1e hB) hL
 rw [hv] at ha
 have hpin : ∀ x y z, inS [B] x y z ↔ pin B x y z := fun x y z => ⟨fun ⟨r, hr, h⟩ => by rw [List.mem_singleton.1 hr] at h; exact h, fun h => ⟨B, List.mem_singleton_self _, h⟩⟩
 unfold y3k
 rw [he, beq_iff_eq]
 constructor
 ·intro h x y z k
  exact ha.1 (by omega) x y z ((hpin x y z).2 k)
 ·intro h
  have := ha.2 fun x y z k => h x y z ((hpin x y z).1 k)
  omega
section
variable {lo hi : R6 → Int} {n : Int} {L : List R6} (hn : 1 ≤ n ∧ n ≤ 1000) (hb : ∀ r ∈ L, (-900000 ≤ lo r ∧ lo r ≤ 900000) ∧ -900000 ≤ hi r ∧ hi r ≤ 900000)
theorem z0i (lo hi : R6 → Int) (n : Int) (L : List R6) : (rnC lo hi n L).Pairwise (· < ·) := by
 show (Jk (rnE lo hi n L)).Pairwise (· < ·)
 rw [z0a]; exact (Vz _).1
theorem z9y {c : Int} : c ∈ rnC lo hi n L ↔ ∃ r ∈ L, c = Yj (lo r) n ∨ c = upV (lo r) n ∨ c = Yj (hi r) n ∨ c = upV (hi r) n := by
 show c ∈ Jk (rnE lo hi n L) ↔ _
 rw [z0a, (Vz _).2]
 unfold rnE
 rw [List.mem_flatMap]
 constructor
 ·rintro ⟨r, hr, h⟩
  exact ⟨r, hr, by simpa using h⟩
 ·rintro ⟨r, hr, h⟩
  exact ⟨r, hr, by simpa using h⟩
theorem z5b {c : List Int} {i : Nat} (h : i < c.length) : rd c i ∈ c := by rw [Xq h]; exact List.getElem_mem h
theorem Qa (hn : 1 ≤ n ∧ n ≤ 1000) (hb : ∀ r ∈ L, (-900000 ≤ lo r ∧ lo r ≤ 900000) ∧ -900000 ≤ hi r ∧ hi r ≤ 900000) {c : Int} (h : c ∈ rnC lo hi n L) : y3w n c ∧ -901000 ≤ c ∧ c ≤ 901000 := by
 obtain ⟨r, hr, h⟩ := z9y.1 h
 obtain ⟨b1, b2⟩ := hb r hr
 rcases h with rfl | rfl | rfl | rfl
 ·obtain ⟨m, h1, h2⟩ := Uu (x := lo r) hn (by omega); exact ⟨m, by omega, by omega⟩
 ·obtain ⟨m, h1, h2⟩ := z1y (x := lo r) hn (by omega); exact ⟨m, by omega, by omega⟩
 ·obtain ⟨m, h1, h2⟩ := Uu (x := hi r) hn (by omega); exact ⟨m, by omega, by omega⟩
 ·obtain ⟨m, h1, h2⟩ := z1y (x := hi r) hn (by omega); exact ⟨m, by omega, by omega⟩
theorem rn_gap {cs : List Int} (hc : cs.Pairwise (· < ·)) {i : Nat} (hi : i + 1 < cs.length) {c : Int} (h : c ∈ cs) : c ≤ rd cs i ∨ rd cs (i + 1) ≤ c := by
 obtain ⟨j, hj, rfl⟩ := List.getElem_of_mem h
 rw [← Xq hj]
 rcases Nat.lt_or_ge i j with k | k
 ·right
  rcases Nat.eq_or_lt_of_le (show i + 1 ≤ j from k) with e | e
  ·rw [e]; exact Int.le_refl _
  ·exact Int.le_of_lt (Qr hc e hj)
 ·left
  rcases Nat.eq_or_lt_of_le k with e | e
  ·rw [e]; exact Int.le_refl _
  ·exact Int.le_of_lt (Qr hc e (by omega))
theorem v4m (hn : 1 ≤ n ∧ n ≤ 1000) (hb : ∀ r ∈ L, (-900000 ≤ lo r ∧ lo r ≤ 900000) ∧ -900000 ≤ hi r ∧ hi r ≤ 900000) {i : Nat} (hi' : i + 1 < (rnC lo hi n L).length) {y : Int} (h1 : rd (rnC lo hi n L) i ≤ y) (h2 : y < rd (rnC lo hi n L) (i + 1)) :
  (rd (rnC lo hi n L) i ≤ Yj y n ∧ Yj y n + n ≤ rd (rnC lo hi n L) (i + 1)) ∧ ((rd (rnC lo hi n L) i = Yj y n ∧ rd (rnC lo hi n L) (i + 1) = Yj y n + n) ∨ ∀ r ∈ L, (lo r ≤ rd (rnC lo hi n L) i ∨ rd (rnC lo hi n L) (i + 1) ≤ lo r) ∧ (hi r ≤ rd (rnC lo hi n L) i ∨ rd (rnC lo hi n L) (i + 1) ≤ hi r)) := by
 obtain ⟨m1, a1, a2⟩ := Qa hn hb (z5b (show i < (rnC lo hi n L).length by omega))
 obtain ⟨m2, b1, b2⟩ := Qa hn hb (z5b hi')
 obtain ⟨m3, c1, c2⟩ := Uu (x := y) hn (by omega)
 have k1 := Ux hn.1 m1 m3 (by omega)
 have k2 : Yj y n + n ≤ rd (rnC lo hi n L) (i + 1) := by
  refine Classical.byContradiction fun h => ?_
  have := Ux hn.1 m2 m3 (by omega)
  omega
 refine ⟨⟨k1, k2⟩, ?_⟩
 refine Classical.byContradiction fun h => ?_
 rw [not_or] at h
 obtain ⟨h3, h4⟩ := h
 refine h4 fun r hr => ?_
 have gap := @rn_gap _ (z0i lo hi n L) i hi'
 obtain ⟨p1, p2⟩ := hb r hr
 have one : ∀ e : Int, -900000 ≤ e ∧ e ≤ 900000 → Yj e n ∈ rnC lo hi n L → upV e n ∈ rnC lo hi n L → e ≤ rd (rnC lo hi n L) i ∨ rd (rnC lo hi n L) (i + 1) ≤ e := fun e he g1 g2 => by
  refine Classical.byContradiction fun hh => h3 ?_
  obtain ⟨n1, d1, d2⟩ := Uu (x := e) hn (by omega)
  obtain ⟨n2, u1, u2⟩ := z1y (x := e) hn (by omega)
  have q1 := gap g1
  have q2 := gap g2
  have n3 : y3w n (upV e n - n) := by
   obtain ⟨k, hk⟩ := n2
   exact ⟨k - 1, by rw [Int.sub_mul, Int.one_mul, ← hk]⟩
  have q3 := Ux hn.1 n3 n1 (by omega)
  omega
 exact ⟨one _ p1 (z9y.2 ⟨r, hr, .inl rfl⟩) (z9y.2 ⟨r, hr, .inr (.inl rfl)⟩), one _ p2 (z9y.2 ⟨r, hr, .inr (.inr (.inl rfl))⟩) (z9y.2 ⟨r, hr, .inr (.inr (.inr rfl))⟩)⟩
theorem w5t (hn : 1 ≤ n ∧ n ≤ 1000) (hb : ∀ r ∈ L, (-900000 ≤ lo r ∧ lo r ≤ 900000) ∧ -900000 ≤ hi r ∧ hi r ≤ 900000) {i : Nat} (hi' : i + 1 < (rnC lo hi n L).length) {y : Int} (h1 : rd (rnC lo hi n L) i ≤ y) (h2 : y < rd (rnC lo hi n L) (i + 1))
  {Q : Int → Prop} (hQ : ∀ y1 y2, (∀ r ∈ L, (lo r ≤ y1 ∧ y1 < hi r) ↔ (lo r ≤ y2 ∧ y2 < hi r)) → (Q y1 → Q y2)) : (∀ t, rd (rnC lo hi n L) i ≤ t → t < rd (rnC lo hi n L) (i + 1) → Q t) ↔ ∀ t, Yj y n ≤ t → t < Yj y n + n → Q t := by
 obtain ⟨⟨k1, k2⟩, k3⟩ := v4m hn hb hi' h1 h2
 obtain ⟨m1, a1, a2⟩ := Qa hn hb (z5b (show i < (rnC lo hi n L).length by omega))
 obtain ⟨m2, b1, b2⟩ := Qa hn hb (z5b hi')
 obtain ⟨m3, c1, c2⟩ := Uu (x := y) hn (by omega)
 constructor
 ·intro h t t1 t2
  exact h t (by omega) (by omega)
 ·intro h t t1 t2
  rcases k3 with ⟨e1, e2⟩ | k3
  ·exact h t (by omega) (by omega)
  ·refine hQ y t (fun r hr => ?_) (h y (by omega) (by omega))
   obtain ⟨q1, q2⟩ := k3 r hr
   omega
theorem x9v (hn : 1 ≤ n ∧ n ≤ 1000) (hb : ∀ r ∈ L, (-900000 ≤ lo r ∧ lo r ≤ 900000) ∧ -900000 ≤ hi r ∧ hi r ≤ 900000) {r : R6} (hr : r ∈ L) {y : Int} (h1 : lo r ≤ y) (h2 : y < hi r) : ∃ j, j + 1 < (rnC lo hi n L).length ∧ rd (rnC lo hi n L) j ≤ y ∧ y < rd (rnC lo hi n L) (j + 1) := by
 obtain ⟨p1, p2⟩ := hb r hr
 obtain ⟨n1, d1, d2⟩ := Uu (x := lo r) hn (by omega)
 obtain ⟨n2, u1, u2⟩ := z1y (x := hi r) hn (by omega)
 obtain ⟨i, hi1, e1⟩ := List.getElem_of_mem (z9y.2 ⟨r, hr, .inl rfl⟩ : Yj (lo r) n ∈ rnC lo hi n L)
 obtain ⟨j, hj1, e2⟩ := List.getElem_of_mem (z9y.2 ⟨r, hr, .inr (.inr (.inr rfl))⟩ : upV (hi r) n ∈ rnC lo hi n L)
 rw [← Xq hi1] at e1
 rw [← Xq hj1] at e2
 have h0 : rd (rnC lo hi n L) 0 ≤ rd (rnC lo hi n L) i := by
  rcases Nat.eq_zero_or_pos i with e | e
  ·rw [e]; exact Int.le_refl _
  ·exact Int.le_of_lt (Qr (z0i lo hi n L) e hi1)
 obtain ⟨k, q1, q2, q3⟩ := y5j (cuts := rnC lo hi n L) j hj1 y (by omega) (by omega)
 exact ⟨k, by omega, q2, q3⟩
end
theorem Sml.ba {L : List R6} (h : Sml L) : ∀ r ∈ L, (-900000 ≤ R6.a r ∧ R6.a r ≤ 900000) ∧ -900000 ≤ R6.d r ∧ R6.d r ≤ 900000 := fun r hr => by
 have := Wy (h.sol.val r hr)
 obtain ⟨h1, h2, h3⟩ := h.nr r hr; omega
theorem Sml.bb {L : List R6} (h : Sml L) : ∀ r ∈ L, (-900000 ≤ R6.b r ∧ R6.b r ≤ 900000) ∧ -900000 ≤ R6.e r ∧ R6.e r ≤ 900000 := fun r hr => by
 have := Wy (h.sol.val r hr)
 obtain ⟨h1, h2, h3⟩ := h.nr r hr; omega
theorem Sml.bc {L : List R6} (h : Sml L) : ∀ r ∈ L, (-900000 ≤ R6.c r ∧ R6.c r ≤ 900000) ∧ -900000 ≤ R6.f r ∧ R6.f r ≤ 900000 := fun r hr => by
 have := Wy (h.sol.val r hr)
 obtain ⟨h1, h2, h3⟩ := h.nr r hr; omega
def v3x {β : Type} (S : Int → Int → List β) (cs : List Int) (x : Int) : List β :=
 @dite _ (∃ i, i + 1 < cs.length ∧ rd cs i = x) (Classical.propDecidable _) (fun h => S x (rd cs (Classical.choose h + 1))) fun _ => []
theorem y9m {β : Type} {S : Int → Int → List β} {cs : List Int} (hc : cs.Pairwise (· < ·)) {i : Nat} (hi : i + 1 < cs.length) : v3x S cs (rd cs i) = S (rd cs i) (rd cs (i + 1)) := by
 have h : ∃ j, j + 1 < cs.length ∧ rd cs j = rd cs i := ⟨i, hi, rfl⟩
 unfold v3x
 rw [dif_pos h]
 obtain ⟨h1, h2⟩ := Classical.choose_spec h
 have e : Classical.choose h = i := by
  rcases Nat.lt_trichotomy (Classical.choose h) i with k | k | k
  ·have := Qr hc k (by omega); omega
  ·exact k
  ·have := Qr hc k (by omega); omega
 rw [e]
theorem w2k {α β : Type} (D : Dim α β) {S : Int → Int → List β} {cs : List Int} (hc : cs.Pairwise (· < ·)) : ∀ (k i : Nat) (s : Sw α β), i + k < cs.length ∨ k = 0 → D.goX S cs k i s = D.goS (v3x S cs) cs k i s
 | 0, i, s, _ => rfl
 | k + 1, i, s, h => by
  show D.goX S cs k (i + 1) (D.oneS (S (rd cs i) (rd cs (i + 1))) _ _ s) = D.goS (v3x S cs) cs k (i + 1) (D.oneS (v3x S cs (rd cs i)) _ _ s)
  rw [y9m hc (by omega)]
  exact w2k D hc k (i + 1) _ (by omega)
theorem x1l {α β γ : Type} {D : Dim α β} (hD : D.Fair) (hs : ∀ a b, D.same a b = true ↔ a = b) (M : Sem β γ) {S : Int → Int → List β} {cs : List Int} (hc : cs.Pairwise (· < ·)) (hS : ∀ i, i + 1 < cs.length → M.can (S (rd cs i) (rd cs (i + 1)))) :
  (D.sem hD M).can (D.goX S cs (cs.length - 1) 0 ⟨[], [], 0, 0⟩).out ∧ ∀ x q, ptL (D.sem hD M).inB (D.goX S cs (cs.length - 1) 0 ⟨[], [], 0, 0⟩).out (x, q) ↔ ∃ j, j + 1 < cs.length ∧ rd cs j ≤ x ∧ x < rd cs (j + 1) ∧ ptL M.inB (S (rd cs j) (rd cs (j + 1))) q := by
 rw [w2k D hc _ _ _ (by omega)]
 obtain ⟨h1, h2⟩ := Dim.goS_can hD hs M (sec := v3x S cs) hc (fun x => by
  unfold v3x
  by_cases h : ∃ i, i + 1 < cs.length ∧ rd cs i = x
  ·rw [dif_pos h]
   have := hS _ (Classical.choose_spec h).1
   rwa [(Classical.choose_spec h).2] at this
  ·rw [dif_neg h]; exact M.nil)
 refine ⟨h1, fun x q => ?_⟩
 rw [h2]
 constructor
 ·rintro ⟨j, j1, j2, j3, j4⟩
  exact ⟨j, j1, j2, j3, by rw [← y9m (S := S) hc j1]; exact j4⟩
 ·rintro ⟨j, j1, j2, j3, j4⟩
  exact ⟨j, j1, j2, j3, by rw [y9m (S := S) hc j1]; exact j4⟩
end Go.Am
namespace Go.Am
open Go.Proofs Go.Sort Go.Shelf Go.RowKit Go.Lib
def cel (n y : Int) : Int := y / n * n
theorem Xv {n : Int} (hn : 1 ≤ n) (y : Int) : y3w n (cel n y) ∧ cel n y ≤ y ∧ y < cel n y + n := by
 have h1 := Int.mul_ediv_add_emod y n
 have h2 := Int.emod_nonneg y (show n ≠ 0 by omega)
 have h3 := Int.emod_lt_of_pos y (show 0 < n by omega)
 have h4 : cel n y = n * (y / n) := by unfold cel; rw [Int.mul_comm]
 exact ⟨⟨_, rfl⟩, by omega, by omega⟩
theorem w3c {n y : Int} (hn : 1 ≤ n ∧ n ≤ 1000) (hy : -2000000 ≤ y ∧ y ≤ 2000000) : Yj y n = cel n y := by
 obtain ⟨m1, h1, h2⟩ := Uu hn hy
 obtain ⟨m2, h3, h4⟩ := Xv hn.1 y
 have := Ux hn.1 m1 m2 (by omega)
 have := Ux hn.1 m2 m1 (by omega)
 omega
theorem z0j {lo hi : R6 → Int} {n : Int} {L : List R6} (hn : 1 ≤ n ∧ n ≤ 1000) (hb : ∀ r ∈ L, (-900000 ≤ lo r ∧ lo r ≤ 900000) ∧ -900000 ≤ hi r ∧ hi r ≤ 900000) {i : Nat} (hi' : i + 1 < (rnC lo hi n L).length) {y : Int} (h1 : rd (rnC lo hi n L) i ≤ y) (h2 : y < rd (rnC lo hi n L) (i + 1))
  {Q : Int → Prop} (hQ : ∀ y1 y2, (∀ r ∈ L, (lo r ≤ y1 ∧ y1 < hi r) ↔ (lo r ≤ y2 ∧ y2 < hi r)) → (Q y1 → Q y2)) : (∀ t, rd (rnC lo hi n L) i ≤ t → t < rd (rnC lo hi n L) (i + 1) → Q t) ↔ ∀ t, cel n y ≤ t → t < cel n y + n → Q t := by
 obtain ⟨m1, a1, a2⟩ := Qa hn hb (z5b (show i < (rnC lo hi n L).length by omega))
 obtain ⟨m2, b1, b2⟩ := Qa hn hb (z5b hi')
 rw [w5t hn hb hi' h1 h2 hQ, w3c hn (by omega)]
theorem y3h {lo hi : R6 → Int} {L : List R6} {x x' t u v w : Int} (hp : ∀ r : R6, pin r u v w → lo r ≤ t ∧ t < hi r) (h1 : x ≤ t) (h2 : t < x') : inS (crS lo hi L x x') u v w ↔ inS L u v w := by
 constructor
 ·rintro ⟨r, hr, h⟩
  exact ⟨r, (y1l lo hi L x x').subset hr, h⟩
 ·rintro ⟨r, hr, h⟩
  have := hp r h
  exact ⟨r, List.mem_filter.2 ⟨hr, by rw [decide_eq_true (show lo r < x' by omega), decide_eq_true (show x < hi r by omega)]; rfl⟩, h⟩
theorem y8a (L : List R6) (a b e f : Int) (cs : List Int) : ∀ (k i : Nat) (o : List R2), i + k ≤ cs.length → v2r L a b e f cs k i o = x4x cs ((List.range cs.length).map fun i => y3k (crS R6.b R6.e L (rd cs i) (rd cs (i + 1))) a b (rd cs i) (rd cs (i + 1)) e f) k i o
 | 0, i, o, h => rfl
 | k + 1, i, o, h => by
  have e1 : rd ((List.range cs.length).map fun i => y3k (crS R6.b R6.e L (rd cs i) (rd cs (i + 1))) a b (rd cs i) (rd cs (i + 1)) e f) i = y3k (crS R6.b R6.e L (rd cs i) (rd cs (i + 1))) a b (rd cs i) (rd cs (i + 1)) e f := by
   rw [Xq (by simp; omega)]; simp
  unfold v2r
  rw [y8a L a b e f cs k (i + 1) _ (by omega)]
  conv => rhs; unfold x4x
  rw [e1]
  rfl
theorem v8q {L : List R6} (h : Sml L) {n : Int} (hn : 1 ≤ n ∧ n ≤ 1000) {a b e f : Int} (hab : -1000000 ≤ a ∧ a < b ∧ b ≤ 1000000) (hef : -1000000 ≤ e ∧ e < f ∧ f ≤ 1000000) :
  Can (z0b L a b e f n) ∧ ∀ y, pt (z0b L a b e f n) y ↔ ∀ t, cel n y ≤ t → t < cel n y + n → ∀ x z, a ≤ x → x < b → e ≤ z → z < f → inS L x t z := by
 have hc := z0i R6.b R6.e n L
 have hb := h.bb
 unfold z0b
 rw [y8a _ _ _ _ _ _ _ _ _ (by omega)]
 obtain ⟨r1, r2⟩ := z9i (rnC R6.b R6.e n L) ((List.range (rnC R6.b R6.e n L).length).map fun i => y3k (crS R6.b R6.e L (rd (rnC R6.b R6.e n L) i) (rd (rnC R6.b R6.e n L) (i + 1))) a b (rd (rnC R6.b R6.e n L) i) (rd (rnC R6.b R6.e n L) (i + 1)) e f) hc ((rnC R6.b R6.e n L).length - 1) 0 [] (by omega) .nil (by simp)
 refine ⟨r1, fun y => ?_⟩
 rw [r2]
 have full : ∀ j, j + 1 < (rnC R6.b R6.e n L).length → (rd ((List.range (rnC R6.b R6.e n L).length).map fun i => y3k (crS R6.b R6.e L (rd (rnC R6.b R6.e n L) i) (rd (rnC R6.b R6.e n L) (i + 1))) a b (rd (rnC R6.b R6.e n L) i) (rd (rnC R6.b R6.e n L) (i + 1)) e f) j = true ↔ ∀ t, rd (rnC R6.b R6.e n L) j ≤ t → t < rd (rnC R6.b R6.e n L) (j + 1) → ∀ x z, a ≤ x → x < b → e ≤ z → z < f → inS L x t z) := fun j hj => by
  obtain ⟨m1, a1, a2⟩ := Qa hn hb (z5b (show j < (rnC R6.b R6.e n L).length by omega))
  obtain ⟨m2, b1, b2⟩ := Qa hn hb (z5b hj)
  have hlt := Qr hc (Nat.lt_succ_self j) hj
  have hv : Jz ⟨a, rd (rnC R6.b R6.e n L) j, e, b, rd (rnC R6.b R6.e n L) (j + 1), f⟩ = true := by
   have s1 := Jj (Wn a (rd (rnC R6.b R6.e n L) j)) e
   have s2 := Jj a (rd (rnC R6.b R6.e n L) j)
   have s3 := Ur (Wu a (rd (rnC R6.b R6.e n L) j)) e
   have s4 := Ur a (rd (rnC R6.b R6.e n L) j)
   have s5 := Jj (Wn b (rd (rnC R6.b R6.e n L) (j + 1))) f
   have s6 := Jj b (rd (rnC R6.b R6.e n L) (j + 1))
   have s7 := Ur (Wu b (rd (rnC R6.b R6.e n L) (j + 1))) f
   have s8 := Ur b (rd (rnC R6.b R6.e n L) (j + 1))
   unfold Jz
   simp only [Bool.and_eq_true, decide_eq_true_eq]
   refine ⟨by omega, hlt, by omega, by omega, by omega, by omega, by omega⟩
  have e1 : rd ((List.range (rnC R6.b R6.e n L).length).map fun i => y3k (crS R6.b R6.e L (rd (rnC R6.b R6.e n L) i) (rd (rnC R6.b R6.e n L) (i + 1))) a b (rd (rnC R6.b R6.e n L) i) (rd (rnC R6.b R6.e n L) (i + 1)) e f) j = y3k (crS R6.b R6.e L (rd (rnC R6.b R6.e n L) j) (rd (rnC R6.b R6.e n L) (j + 1))) a b (rd (rnC R6.b R6.e n L) j) (rd (rnC R6.b R6.e n L) (j + 1)) e f := by
   rw [Xq (by simp; omega)]; simp
  rw [e1]
  rw [show y3k (crS R6.b R6.e L (rd (rnC R6.b R6.e n L) j) (rd (rnC R6.b R6.e n L) (j + 1))) a b (rd (rnC R6.b R6.e n L) j) (rd (rnC R6.b R6.e n L) (j + 1)) e f = true ↔ _ from v6x (h.sol.sub (y1l R6.b R6.e L _ _)) hv]
  constructor
  ·intro k t t1 t2 x z x1 x2 z1 z2
   exact (y3h (t := t) (fun r hr => hr.2.1) t1 t2).1 (k x t z ⟨⟨x1, x2⟩, ⟨t1, t2⟩, z1, z2⟩)
  ·rintro k x t z ⟨⟨x1, x2⟩, ⟨t1, t2⟩, z1, z2⟩
   exact (y3h (t := t) (fun r hr => hr.2.1) t1 t2).2 (k t t1 t2 x z x1 x2 z1 z2)
 have cst : ∀ y1 y2, (∀ r ∈ L, (R6.b r ≤ y1 ∧ y1 < R6.e r) ↔ (R6.b r ≤ y2 ∧ y2 < R6.e r)) → ((∀ x z, a ≤ x → x < b → e ≤ z → z < f → inS L x y1 z) → ∀ x z, a ≤ x → x < b → e ≤ z → z < f → inS L x y2 z) := fun y1 y2 hh k x z x1 x2 z1 z2 => by
  obtain ⟨r, hr, p1, p2, p3⟩ := k x z x1 x2 z1 z2
  exact ⟨r, hr, p1, (hh r hr).1 p2, p3⟩
 constructor
 ·rintro (⟨s, hs, _⟩ | ⟨j, j1, j2, j3, j4, j5⟩)
  ·cases hs
  ·exact (z0j hn hb (by omega) j4 j5 (Q := fun t => ∀ x z, a ≤ x → x < b → e ≤ z → z < f → inS L x t z) cst).1 ((full j (by omega)).1 j3)
 ·intro k
  right
  obtain ⟨m, c1, c2⟩ := Xv hn.1 y
  obtain ⟨r, hr, p1, p2, p3⟩ := k y c1 c2 a e (Int.le_refl _) hab.2.1 (Int.le_refl _) hef.2.1
  obtain ⟨j, j1, j4, j5⟩ := x9v (lo := R6.b) (hi := R6.e) hn hb hr p2.1 p2.2
  exact ⟨j, Nat.zero_le _, by omega, (full j j1).2 ((z0j hn hb j1 j4 j5 (Q := fun t => ∀ x z, a ≤ x → x < b → e ≤ z → z < f → inS L x t z) cst).2 k), j4, j5⟩
theorem w1u {L : List R6} (h : Sml L) {n : Int} (hn : 1 ≤ n ∧ n ≤ 1000) {a b : Int} (hab : -1000000 ≤ a ∧ a < b ∧ b ≤ 1000000) :
  z6d.can (Qs L a b n) ∧ ∀ x y, ptL z6d.inB (Qs L a b n) (x, y) ↔ ∀ s, cel n x ≤ s → s < cel n x + n → ∀ t, cel n y ≤ t → t < cel n y + n → ∀ z, a ≤ z → z < b → inS L s t z := by
 have hc := z0i R6.a R6.d n L
 have hb := h.ba
 have one : ∀ j, j + 1 < (rnC R6.a R6.d n L).length → Can (v6c L a b n (rd (rnC R6.a R6.d n L) j) (rd (rnC R6.a R6.d n L) (j + 1))) ∧ ∀ y, pt (v6c L a b n (rd (rnC R6.a R6.d n L) j) (rd (rnC R6.a R6.d n L) (j + 1))) y ↔ ∀ s, rd (rnC R6.a R6.d n L) j ≤ s → s < rd (rnC R6.a R6.d n L) (j + 1) → ∀ t, cel n y ≤ t → t < cel n y + n → ∀ z, a ≤ z → z < b → inS L s t z := fun j hj => by
  obtain ⟨m1, a1, a2⟩ := Qa hn hb (z5b (show j < (rnC R6.a R6.d n L).length by omega))
  obtain ⟨m2, b1, b2⟩ := Qa hn hb (z5b hj)
  have hlt : rd (rnC R6.a R6.d n L) j < rd (rnC R6.a R6.d n L) (j + 1) := Qr hc (Nat.lt_succ_self j) hj
  obtain ⟨k1, k2⟩ := v8q (h.sub (y1l R6.a R6.d L (rd (rnC R6.a R6.d n L) j) (rd (rnC R6.a R6.d n L) (j + 1)))) hn (a := rd (rnC R6.a R6.d n L) j) (b := rd (rnC R6.a R6.d n L) (j + 1)) (by omega) hab
  refine ⟨k1, fun y => (k2 y).trans ?_⟩
  constructor
  ·intro k s s1 s2 t t1 t2 z z1 z2
   exact (y3h (t := s) (fun r hr => hr.1) s1 s2).1 (k t t1 t2 s z s1 s2 z1 z2)
  ·intro k t t1 t2 s z s1 s2 z1 z2
   exact (y3h (t := s) (fun r hr => hr.1) s1 s2).2 (k s s1 s2 t t1 t2 z z1 z2)
 obtain ⟨r1, r2⟩ := x1l y6b z9v v3u (S := v6c L a b n) hc fun j hj => (one j hj).1
 refine ⟨r1, fun x y => ?_⟩
 rw [show ptL z6d.inB (Qs L a b n) (x, y) ↔ _ from r2 x y]
 have cst : ∀ y1 y2, (∀ r ∈ L, (R6.a r ≤ y1 ∧ y1 < R6.d r) ↔ (R6.a r ≤ y2 ∧ y2 < R6.d r)) → ((∀ t, cel n y ≤ t → t < cel n y + n → ∀ z, a ≤ z → z < b → inS L y1 t z) → ∀ t, cel n y ≤ t → t < cel n y + n → ∀ z, a ≤ z → z < b → inS L y2 t z) := fun y1 y2 hh k t t1 t2 z z1 z2 => by
  obtain ⟨r, hr, p1, p2⟩ := k t t1 t2 z z1 z2
  exact ⟨r, hr, (hh r hr).1 p1, p2⟩
 constructor
 ·rintro ⟨j, j1, j2, j3, j4⟩
  exact (z0j hn hb j1 j2 j3 (Q := fun s => ∀ t, cel n y ≤ t → t < cel n y + n → ∀ z, a ≤ z → z < b → inS L s t z) cst).1 (((one j j1).2 y).1 j4)
 ·intro k
  obtain ⟨m, c1, c2⟩ := Xv hn.1 x
  obtain ⟨m', d1, d2⟩ := Xv hn.1 y
  obtain ⟨r, hr, p1, p2, p3⟩ := k x c1 c2 y d1 d2 a (Int.le_refl _) hab.2.1
  obtain ⟨j, j1, j4, j5⟩ := x9v (lo := R6.a) (hi := R6.d) hn hb hr p1.1 p1.2
  exact ⟨j, j1, j4, j5, ((one j j1).2 y).2 ((z0j hn hb j1 j4 j5 (Q := fun s => ∀ t, cel n y ≤ t → t < cel n y + n → ∀ z, a ≤ z → z < b → inS L s t z) cst).2 k)⟩
theorem w2e {L : List R6} (h : Sml L) {n : Int} (hn : 1 ≤ n ∧ n ≤ 1000) :
  y4e.can (y3g L n) ∧ ∀ x y z, inS (y3g L n) x y z ↔ ∀ s, cel n x ≤ s → s < cel n x + n → ∀ t, cel n y ≤ t → t < cel n y + n → ∀ u, cel n z ≤ u → u < cel n z + n → inS L s t u := by
 have hc := z0i R6.c R6.f n L
 have hb := h.bc
 have one : ∀ j, j + 1 < (rnC R6.c R6.f n L).length → z6d.can (y6c L n (rd (rnC R6.c R6.f n L) j) (rd (rnC R6.c R6.f n L) (j + 1))) ∧ ∀ x y, ptL z6d.inB (y6c L n (rd (rnC R6.c R6.f n L) j) (rd (rnC R6.c R6.f n L) (j + 1))) (x, y) ↔ ∀ u, rd (rnC R6.c R6.f n L) j ≤ u → u < rd (rnC R6.c R6.f n L) (j + 1) → ∀ s, cel n x ≤ s → s < cel n x + n → ∀ t, cel n y ≤ t → t < cel n y + n → inS L s t u := fun j hj => by
  obtain ⟨m1, a1, a2⟩ := Qa hn hb (z5b (show j < (rnC R6.c R6.f n L).length by omega))
  obtain ⟨m2, b1, b2⟩ := Qa hn hb (z5b hj)
  have hlt : rd (rnC R6.c R6.f n L) j < rd (rnC R6.c R6.f n L) (j + 1) := Qr hc (Nat.lt_succ_self j) hj
  obtain ⟨k1, k2⟩ := w1u (h.sub (y1l R6.c R6.f L (rd (rnC R6.c R6.f n L) j) (rd (rnC R6.c R6.f n L) (j + 1)))) hn (a := rd (rnC R6.c R6.f n L) j) (b := rd (rnC R6.c R6.f n L) (j + 1)) (by omega)
  refine ⟨k1, fun x y => (k2 x y).trans ?_⟩
  constructor
  ·intro k u u1 u2 s s1 s2 t t1 t2
   exact (y3h (t := u) (fun r hr => hr.2.2) u1 u2).1 (k s s1 s2 t t1 t2 u u1 u2)
  ·intro k s s1 s2 t t1 t2 u u1 u2
   exact (y3h (t := u) (fun r hr => hr.2.2) u1 u2).2 (k u u1 u2 s s1 s2 t t1 t2)
 obtain ⟨r1, r2⟩ := x1l z1s z4q z6d (S := y6c L n) hc fun j hj => (one j hj).1
 refine ⟨r1, fun x y z => ?_⟩
 rw [Kr, show ptL y4e.inB (y3g L n) (z, x, y) ↔ _ from r2 z (x, y)]
 have cst : ∀ y1 y2, (∀ r ∈ L, (R6.c r ≤ y1 ∧ y1 < R6.f r) ↔ (R6.c r ≤ y2 ∧ y2 < R6.f r)) → ((∀ s, cel n x ≤ s → s < cel n x + n → ∀ t, cel n y ≤ t → t < cel n y + n → inS L s t y1) → ∀ s, cel n x ≤ s → s < cel n x + n → ∀ t, cel n y ≤ t → t < cel n y + n → inS L s t y2) := fun y1 y2 hh k s s1 s2 t t1 t2 => by
  obtain ⟨r, hr, p1, p2, p3⟩ := k s s1 s2 t t1 t2
  exact ⟨r, hr, p1, p2, (hh r hr).1 p3⟩
 constructor
 ·rintro ⟨j, j1, j2, j3, j4⟩
  have k := (z0j hn hb j1 j2 j3 (Q := fun u => ∀ s, cel n x ≤ s → s < cel n x + n → ∀ t, cel n y ≤ t → t < cel n y + n → inS L s t u) cst).1 (((one j j1).2 x y).1 j4)
  exact fun s s1 s2 t t1 t2 u u1 u2 => k u u1 u2 s s1 s2 t t1 t2
 ·intro k
  obtain ⟨m, c1, c2⟩ := Xv hn.1 x
  obtain ⟨m', d1, d2⟩ := Xv hn.1 y
  obtain ⟨m'', e1, e2⟩ := Xv hn.1 z
  obtain ⟨r, hr, p1, p2, p3⟩ := k x c1 c2 y d1 d2 z e1 e2
  obtain ⟨j, j1, j4, j5⟩ := x9v (lo := R6.c) (hi := R6.f) hn hb hr p3.1 p3.2
  exact ⟨j, j1, j4, j5, ((one j j1).2 x y).2 ((z0j hn hb j1 j4 j5 (Q := fun u => ∀ s, cel n x ≤ s → s < cel n x + n → ∀ t, cel n y ≤ t → t < cel n y + n → inS L s t u) cst).2 fun u u1 u2 s s1 s2 t t1 t2 => k s s1 s2 t t1 t2 u u1 u2)⟩
end Go.Am
namespace Go.Am
open Go.Proofs.Tryz
open Go.Proofs Go.Sort Go.Shelf Go.RowKit Go.Lib
def Xd (x n : Int) : Int := bif decide (Int.tmod x n < 0) then IntKind.wrap .i64 (x - IntKind.wrap .i64 (Int.tmod x n + n)) else IntKind.wrap .i64 (x - Int.tmod x n)
def Wx (x n : Int) : Bool := !decide (n = 0)
theorem v7a (x n : Int) (h : Wx x n = true) : ∃ N, Yb (x1r x n) N (z9e x n) = .ret [.int .i64 (Xd x n)] := ⟨0, by
 have h : (!decide (n = 0)) = true := h
 unfold z9e Xd
 rw [h, cond_true]
 cases decide (Int.tmod x n < 0) <;> rfl⟩
def fFlr : List AVal → Option (AVal × Bool)
 | [.int .i64 x0, .int .i64 x1] => some (.int .i64 (Xd x0 x1), Wx x0 x1)
 | _ => none
theorem v7y {S : Specs} (hS : Zq prog S) : Zq prog (S.with x3x fFlr) := by
 refine z6v hS (by kernel_rfl) fun args v h => ?_
 unfold fFlr at h
 split at h
 ·rename_i x0 x1
  simp only [Option.some.injEq, Prod.mk.injEq, Bool.and_eq_true] at h
  obtain ⟨rfl, hw⟩ := h
  obtain ⟨N, hN⟩ := v7a x0 x1 hw
  exact ⟨_, _, (.cons (.refl _) (.cons (.refl _) .nil)), rfl, w7z x0 x1 N _ hN, 3, rfl⟩
 ·cases h
def pa1 (r B : R6) : Int := bif decide (Wu r.a B.a ≥ Wn r.d B.d) then 0 else bif decide (Wu r.b B.b ≥ Wn r.e B.e) then 0 else bif decide (Wu r.c B.c ≥ Wn r.f B.f) then 0 else
 IntKind.wrap .i64 (IntKind.wrap .i64 (IntKind.wrap .i64 (Wn r.d B.d - Wu r.a B.a) * IntKind.wrap .i64 (Wn r.e B.e - Wu r.b B.b)) * IntKind.wrap .i64 (Wn r.f B.f - Wu r.c B.c))
def paF (B : R6) : List R6 → Int → Int
 | [], s => s
 | r :: l, s => paF B l (IntKind.wrap .i64 (s + pa1 r B))
def parV (L : List R6) (a b c d e f : Int) : Int := paF ⟨a, b, c, d, e, f⟩ L 0
def z5f (L : List R6) (a b c d e f : Int) : Bool := decide (L.length ≤ 100000)
theorem v0z {L : List R6} {B : R6} (hl : L.length ≤ 100000) : ∀ (k i : Nat) (s : Int), i + k = L.length → ∃ N, Yb (z4d L B.a B.b B.c B.d B.e B.f) N (.to (.h0 s (i : Int))) = .ret [.int .i64 (paF B (L.drop i) s)]
 | 0, i, s, h => by
  refine ⟨1, ?_⟩
  rw [Zv, List.drop_eq_nil_of_le (by omega)]
  simp (disch := omega) only [z4d, Zr, cond_false]; rfl
 | k + 1, i, s, h => by
  have hi : i < L.length := by omega
  obtain ⟨N, hN⟩ := v0z (B := B) hl k (i + 1) (IntKind.wrap .i64 (s + pa1 (rd L i) B)) (by omega)
  have hw : IntKind.wrap .i64 ((i : Int) + 1) = ((i + 1 : Nat) : Int) := Zu (by omega)
  refine ⟨N + 1, ?_⟩
  rw [Zv, Yd hi]
  have e : z4d L B.a B.b B.c B.d B.e B.f (.h0 s (i : Int)) = .to (.h0 (IntKind.wrap .i64 (s + pa1 (rd L i) B)) ((i + 1 : Nat) : Int)) := by
   simp (disch := omega) only [z4d, Zo, Zs, hw, Zk, Bool.and_true, cond_true]
   unfold pa1
   cases decide (Wu (rd L i).a B.a ≥ Wn (rd L i).d B.d) <;> cases decide (Wu (rd L i).b B.b ≥ Wn (rd L i).e B.e) <;> cases decide (Wu (rd L i).c B.c ≥ Wn (rd L i).f B.f) <;> rfl
  rw [e]
  exact hN
theorem v5p (L : List R6) (a b c d e f : Int) (h : z5f L a b c d e f = true) : ∃ N, Yb (z4d L a b c d e f) N (y4s L a b c d e f) = .ret [.int .i64 (parV L a b c d e f)] :=
 v0z (B := ⟨a, b, c, d, e, f⟩) (of_decide_eq_true h) L.length 0 0 (Nat.zero_add _)
def fPar : List AVal → Option (AVal × Bool)
 | [a0, .agg [.int .i64 aP, .int .i64 aQ, .int .i64 cO, .int .i64 cP, .int .i64 cQ, .int .i64 cR]] => match asL R6 a0 with
  | some (L0, g0, n0) => some (.int .i64 (parV L0 aP aQ cO cP cQ cR), isT R6 n0 g0 && (z5f L0 aP aQ cO cP cQ cR))
  | _ => none
 | _ => none
theorem v7p {S : Specs} (hS : Zq prog S) : Zq prog (S.with w1l fPar) := by
 refine z6v hS (by kernel_rfl) fun args v h => ?_
 unfold fPar at h
 split at h
 ·rename_i a0 aP aQ cO cP cQ cR
  split at h
  ·rename_i L0 g0 n0 e0
   simp only [Option.some.injEq, Prod.mk.injEq, Bool.and_eq_true] at h
   obtain ⟨rfl, ho0, hw⟩ := h
   obtain ⟨N, hN⟩ := v5p L0 aP aQ cO cP cQ cR hw
   exact ⟨_, _, (.cons (asL_le e0 ho0) (.cons (.refl _) .nil)), rfl, w6k L0 aP aQ cO cP cQ cR N _ hN, 3, rfl⟩
  ·cases h
 ·cases h
theorem z6u {n x : Int} (hn : 1 ≤ n ∧ n ≤ 1000) (hx : -2000000 ≤ x ∧ x ≤ 2000000) : Xd x n = cel n x := by
 have h1 : n * Int.tdiv x n + Int.tmod x n = x := Int.mul_tdiv_add_tmod x n
 have h2 : Int.tdiv x n * n = x - Int.tmod x n := by rw [Int.mul_comm]; omega
 have h3 : -n < Int.tmod x n ∧ Int.tmod x n < n := ⟨by have := Int.lt_tmod_of_pos x (show 0 < n by omega); omega, Int.tmod_lt_of_pos x (by omega)⟩
 have h5 : (Int.tdiv x n - 1) * n = x - Int.tmod x n - n := by rw [Int.sub_mul, Int.one_mul, h2]
 obtain ⟨m2, c1, c2⟩ := Xv hn.1 x
 unfold Xd
 by_cases h : Int.tmod x n < 0
 ·rw [Zo h, cond_true, Zu (n := Int.tmod x n + n) (by omega), Zu (by omega)]
  have m1 : y3w n (x - (Int.tmod x n + n)) := ⟨Int.tdiv x n - 1, by omega⟩
  have := Ux hn.1 m1 m2 (by omega)
  have := Ux hn.1 m2 m1 (by omega)
  omega
 ·rw [Zr h, cond_false, Zu (by omega)]
  have m1 : y3w n (x - Int.tmod x n) := ⟨Int.tdiv x n, by omega⟩
  have := Ux hn.1 m1 m2 (by omega)
  have := Ux hn.1 m2 m1 (by omega)
  omega
def Fc : Specs := ((Fb.with x3x fFlr).with w1l fPar)
theorem y2e : Zq prog Fc := (v7p (v7y y6a))
end Go.Am
namespace Go.Am
open Go.Proofs.Tryz
open Go.Proofs
inductive rouS where
 | h0 (v6 : List R6) (v7 : Int)
def rouC (l0 : List R6) (x1 : Int) : rouS → Cfg
 | .h0 v6 v7 => ⟨⟨120, 0, true⟩, none, (Zb prog 35 [1, 1, 1, 0, 1, 0, 0] 0), none, (Zy prog 16), ⟨Ym [(0, (.dat l0.length (Zz l0))), (1, (ii x1)), (6, (.sla 0 6 0 v6.length (.un 6))), (7, (ii v7))], Uc [⟨rows v6.length (Zz v6), 68, some ⟨6, v6.length, (Zz v6)⟩⟩] 0, 1, [], true⟩, [], .leaf⟩
def rouN0 : List (Option (List Nat)) := [some [0, 1, 6, 7]]
def rouM0 : List (Option (List Nat)) := []
def z4b (l0 : List R6) (x1 : Int) : rouS → Wa rouS
 | .h0 v6 v7 => (bif (decide (v7 < (l0.length : Int))) then (bif (Wx (rd l0 v7.toNat).a x1) then (bif (Wx (rd l0 v7.toNat).b x1) then (bif (Wx (rd l0 v7.toNat).c x1) then (bif (Wx (IntKind.wrap .i64 ((rd l0 v7.toNat).d - 1)) x1) then (bif (Wx (IntKind.wrap .i64 ((rd l0 v7.toNat).e - 1)) x1) then (bif ((decide (0 ≤ v7 ∧ v7 < (l0.length : Int))) && true) then (bif (Wx (IntKind.wrap .i64 ((rd l0 v7.toNat).f - 1)) x1) then (bif (decide ((Wn (Wn (Xd (rd l0 v7.toNat).a x1) (Xd (rd l0 v7.toNat).b x1)) (Xd (rd l0 v7.toNat).c x1)) < (-1000000))) then (.ret [.nils, (.int .i64 16)]) else (bif (decide ((Wu (Wu (IntKind.wrap .i64 ((Xd (IntKind.wrap .i64 ((rd l0 v7.toNat).d - 1)) x1) + x1)) (IntKind.wrap .i64 ((Xd (IntKind.wrap .i64 ((rd l0 v7.toNat).e - 1)) x1) + x1))) (IntKind.wrap .i64 ((Xd (IntKind.wrap .i64 ((rd l0 v7.toNat).f - 1)) x1) + x1))) > 1000000)) then (.ret [.nils, (.int .i64 16)]) else (bif (Nat.beq 6 6 && ((decide (0 + v6.length = v6.length)) && decide ((v6.length + 1 + 1) * (48 + 1) ≤ Jy))) then (.to (.h0 (v6 ++ [(R6.mk (Xd (rd l0 v7.toNat).a x1) (Xd (rd l0 v7.toNat).b x1) (Xd (rd l0 v7.toNat).c x1) (IntKind.wrap .i64 ((Xd (IntKind.wrap .i64 ((rd l0 v7.toNat).d - 1)) x1) + x1)) (IntKind.wrap .i64 ((Xd (IntKind.wrap .i64 ((rd l0 v7.toNat).e - 1)) x1) + x1)) (IntKind.wrap .i64 ((Xd (IntKind.wrap .i64 ((rd l0 v7.toNat).f - 1)) x1) + x1)))]) (IntKind.wrap .i64 (v7 + 1)))) else .stuck))) else .stuck) else .stuck) else .stuck) else .stuck) else .stuck) else .stuck) else .stuck) else (bif (Kq 2 ([] : List R6) (cvT v6)) then (bif (!(Vs 2 ([] : List R6) (cvT v6))) then (.ret [.nils, (.int .i64 4)]) else (.ret [(.dat (Vt 2 ([] : List R6) (cvT v6)).length (Zz (Vt 2 ([] : List R6) (cvT v6)))), (.int .i64 0)])) else .stuck))
def z8s (l0 : List R6) (x1 : Int) : Wa rouS := (bif (Jp (cvT l0)) then (bif ((Wv (cvT l0)) != 0) then (.ret [.nils, (.int .i64 (Wv (cvT l0)))]) else (bif (decide (x1 < 1)) then (.ret [.nils, (.int .i64 2)]) else (bif (decide (x1 > 1000)) then (.ret [.nils, (.int .i64 2)]) else (.to (.h0 ([] : List R6) 0))))) else .stuck)
theorem x5z (l0 : List R6) (x1 : Int) : ∀ s, Wb prog (Zy prog 35) (rouC l0 x1) (rouC l0 x1 s) (z4b l0 x1 s)
 | .h0 v6 v7 => (lb (fun k0 => (lo fun aG => (lo fun aW => (lo fun bM => (lo fun cI => (lo fun cX => (lo fun cC => (lo fun dB => (lb (fun k1 => (lr 120 35 [1, 1, 1, 0, 1, 0, 0, 1, 0, 0, 1, 0, 1, 0, 0] 1 16 [(4, .nils), (5, (ii 16))] (sl y2e 48 [] ⟨[], [], [some [4, 5]], []⟩ ⟨[], [], []⟩ (trs 13 []) (tt k1 (ww dB (ww cC (ww cX (ww cC (ww cI (ww cC (ww bM (ww cC (ww aW (ww cC (ww aG (ww cC (tt k0 nn))))))))))))))))) (fun k1 => (lb (fun k2 => (lr 120 35 [1, 1, 1, 0, 1, 0, 0, 1, 0, 0, 1, 0, 1, 0, 0] 1 16 [(4, .nils), (5, (ii 16))] (sl y2e 48 [] ⟨[], [], [some [4, 5]], []⟩ ⟨[], [], []⟩ [true, false, false, false, false, false, false, false, false, false, false, false, true] (tt k2 (tt k1 (ww dB (ww cC (ww cX (ww cC (ww cI (ww cC (ww bM (ww cC (ww aW (ww cC (ww aG (ww cC (tt k0 nn)))))))))))))))))) (fun k2 => (lo fun o0 => (sl y2e 58 [] ⟨[3], [], rouN0, rouM0⟩ ⟨[(6, .len (v6 ++ [(R6.mk (Xd (rd l0 (tn v7)).a x1) (Xd (rd l0 (tn v7)).b x1) (Xd (rd l0 (tn v7)).c x1) (wr ((Xd (wr ((rd l0 (tn v7)).d - 1)) x1) + x1)) (wr ((Xd (wr ((rd l0 (tn v7)).e - 1)) x1) + x1)) (wr ((Xd (wr ((rd l0 (tn v7)).f - 1)) x1) + x1)))]).length)], [.rowed 6 (v6 ++ [(R6.mk (Xd (rd l0 (tn v7)).a x1) (Xd (rd l0 (tn v7)).b x1) (Xd (rd l0 (tn v7)).c x1) (wr ((Xd (wr ((rd l0 (tn v7)).d - 1)) x1) + x1)) (wr ((Xd (wr ((rd l0 (tn v7)).e - 1)) x1) + x1)) (wr ((Xd (wr ((rd l0 (tn v7)).f - 1)) x1) + x1)))]).length (Zz (v6 ++ [(R6.mk (Xd (rd l0 (tn v7)).a x1) (Xd (rd l0 (tn v7)).b x1) (Xd (rd l0 (tn v7)).c x1) (wr ((Xd (wr ((rd l0 (tn v7)).d - 1)) x1) + x1)) (wr ((Xd (wr ((rd l0 (tn v7)).e - 1)) x1) + x1)) (wr ((Xd (wr ((rd l0 (tn v7)).f - 1)) x1) + x1)))]))], []⟩ [true, false, false, false, false, false, false, false, false, false, false, false, false] (pp (xL (v6.length + 1) (v6 ++ [(R6.mk (Xd (rd l0 (tn v7)).a x1) (Xd (rd l0 (tn v7)).b x1) (Xd (rd l0 (tn v7)).c x1) (wr ((Xd (wr ((rd l0 (tn v7)).d - 1)) x1) + x1)) (wr ((Xd (wr ((rd l0 (tn v7)).e - 1)) x1) + x1)) (wr ((Xd (wr ((rd l0 (tn v7)).f - 1)) x1) + x1)))]).length) (pp (xL (v6.length + 1) (v6 ++ [(R6.mk (Xd (rd l0 (tn v7)).a x1) (Xd (rd l0 (tn v7)).b x1) (Xd (rd l0 (tn v7)).c x1) (wr ((Xd (wr ((rd l0 (tn v7)).d - 1)) x1) + x1)) (wr ((Xd (wr ((rd l0 (tn v7)).e - 1)) x1) + x1)) (wr ((Xd (wr ((rd l0 (tn v7)).f - 1)) x1) + x1)))]).length) (pp (xS (v6.length + 1) (Zc (Zz v6) 0 v6.length 6 [(ii (Xd (rd l0 (tn v7)).a x1)), (ii (Xd (rd l0 (tn v7)).b x1)), (ii (Xd (rd l0 (tn v7)).c x1)), (ii (wr ((Xd (wr ((rd l0 (tn v7)).d - 1)) x1) + x1))), (ii (wr ((Xd (wr ((rd l0 (tn v7)).e - 1)) x1) + x1))), (ii (wr ((Xd (wr ((rd l0 (tn v7)).f - 1)) x1) + x1)))]) (Zz (v6 ++ [(R6.mk (Xd (rd l0 (tn v7)).a x1) (Xd (rd l0 (tn v7)).b x1) (Xd (rd l0 (tn v7)).c x1) (wr ((Xd (wr ((rd l0 (tn v7)).d - 1)) x1) + x1)) (wr ((Xd (wr ((rd l0 (tn v7)).e - 1)) x1) + x1)) (wr ((Xd (wr ((rd l0 (tn v7)).f - 1)) x1) + x1)))]))) (pp (pp (xF (Zc (Zz v6) 0 v6.length 6 [(ii (Xd (rd l0 (tn v7)).a x1)), (ii (Xd (rd l0 (tn v7)).b x1)), (ii (Xd (rd l0 (tn v7)).c x1)), (ii (wr ((Xd (wr ((rd l0 (tn v7)).d - 1)) x1) + x1))), (ii (wr ((Xd (wr ((rd l0 (tn v7)).e - 1)) x1) + x1))), (ii (wr ((Xd (wr ((rd l0 (tn v7)).f - 1)) x1) + x1)))])) nn) (ww o0 (tt k2 (tt k1 (ww dB (ww cC (ww cX (ww cC (ww cI (ww cC (ww bM (ww cC (ww aW (ww cC (ww aG (ww cC (tt k0 nn)))))))))))))))))))))))))))))))))) (fun k0 => (Vx (sl y2e (C' := ⟨⟨120, 0, true⟩, (Vr prog 35 [1, 1, 1, 1, 0] 1), (Zb prog 35 [1, 1, 1, 1, 0] 1), none, (Zy prog 16), ⟨Ym [(113, (.dat v6.length (Zz v6)))], Uc [] 0, 0, [], true⟩, [], .leaf⟩) 13 [] ⟨[], [0], [some [113]], []⟩ ⟨[(113, .frz v6.length v6.length (Zz v6) (Zz v6))], [], []⟩ [false] (pp (xZ (z3m 6 6 0 v6.length v6.length (Zz v6)) v6.length (Zz v6)) (pp (xL v6.length v6.length) (pp (xS v6.length (Zz v6) (Zz v6)) (pp (fl v6 nn) (tt k0 nn)))))) (lo fun aG => (lb (fun k1 => (lr 120 35 [1, 1, 1, 1, 1, 0, 1, 0, 0] 1 16 [(4, .nils), (5, (ii 4))] (sl y2e 19 [] ⟨[], [], [some [4, 5]], []⟩ ⟨[], [], []⟩ [true] (tt k1 (pp (pp (xI R6 0 (fun _ => [])) (pp (xr v6) (xw aG))) nn))))) (fun k1 => (lr 120 3 [1, 1, 1, 1, 1, 1, 0] 1 16 [(4, (.dat (Vt 2 ([] : List R6) (cvT v6)).length (Zz (Vt 2 ([] : List R6) (cvT v6))))), (5, (ii 0))] (sl y2e 21 [] ⟨[], [], [some [4, 5]], []⟩ ⟨[], [], []⟩ [false] (tt k1 (pp (pp (xI R6 0 (fun _ => [])) (pp (xr v6) (xw aG))) nn))))))))))
theorem y9x (l0 : List R6) (x1 : Int) : Wb prog (Zy prog 35) (rouC l0 x1) (Zi prog 35 [(.dat l0.length (Zz l0)), (.int .i64 x1)] true []) (z8s l0 x1) := (lo fun bK => (lb (fun k0 => (lr 120 35 [1, 0, 1, 0, 0] 1 16 [(4, .nils), (5, (ii (Wv (cvT l0))))] (sl y2e 60 [] ⟨[], [], [some [4, 5]], []⟩ ⟨[], [], []⟩ (trs 3 []) (pp (pp (xr l0) (xw bK)) (tt k0 (pp (pp (xr l0) (xw bK)) (tt k0 (pp (pp (xr l0) (xw bK)) (tt k0 (pp (pp (xr l0) (xw bK)) nn)))))))))) (fun k0 => (lb (fun k1 => (lr 120 35 [1, 0, 1, 0, 0] 1 16 [(4, .nils), (5, (ii 2))] (sl y2e 80 [] ⟨[], [], [some [4, 5]], []⟩ ⟨[], [], []⟩ [false, true, true, true, true, false, true, true, true] (tt k1 (tt k0 (pp (pp (xr l0) (xw bK)) (tt k1 (tt k0 (pp (pp (xr l0) (xw bK)) nn))))))))) (fun k1 => (lb (fun k2 => (lr 120 35 [1, 0, 1, 0, 0] 1 16 [(4, .nils), (5, (ii 2))] (sl y2e 80 [] ⟨[], [], [some [4, 5]], []⟩ ⟨[], [], []⟩ [false, false, false, true, true, false, false, false, true] (tt k2 (tt k1 (tt k0 (pp (pp (xr l0) (xw bK)) (tt k2 (tt k1 (tt k0 (pp (pp (xr l0) (xw bK)) nn))))))))))) (fun k2 => (sl y2e 56 [(68, 6, Zz ([] : List R6))] ⟨[0], [], rouN0, rouM0⟩ ⟨[(6, .grow 0 6)], [], []⟩ [false, false, false, false, false] (pp (fl ([] : List R6) nn) (tt k2 (tt k1 (tt k0 (pp (pp (xr l0) (xw bK)) nn)))))))))))))
theorem w5s (l0 : List R6) (x1 : Int) (n : Nat) (vs : List AVal) (h : Yb (z4b l0 x1) n (z8s l0 x1) = .ret vs) : Qx prog (Zy prog 35) (Zi prog 35 [(.dat l0.length (Zz l0)), (.int .i64 x1)] true []) vs := by
 have := Zt (x5z l0 x1) n _ (y9x l0 x1)
 rwa [h] at this
end Go.Am
namespace Go.Am
open Go.Proofs.Tryz
open Go.Proofs Go.Sort Go.Shelf Go.RowKit Go.Lib
def rB (n : Int) (r : R6) : R6 := ⟨Xd r.a n, Xd r.b n, Xd r.c n, IntKind.wrap .i64 (Xd (IntKind.wrap .i64 (r.d - 1)) n + n), IntKind.wrap .i64 (Xd (IntKind.wrap .i64 (r.e - 1)) n + n), IntKind.wrap .i64 (Xd (IntKind.wrap .i64 (r.f - 1)) n + n)⟩
def bOk (r : R6) : Bool := !decide (Wn (Wn r.a r.b) r.c < (-1000000)) && !decide (Wu (Wu r.d r.e) r.f > 1000000)
theorem w7y {x n : Int} (h : n ≠ 0) : Wx x n = true := by unfold Wx; rw [decide_eq_false h]; rfl
def rouR (n : Int) (L : List R6) (ok : Bool) : List AVal := bif ok then (bif Vs 2 [] (L.map (rB n)) then [.dat (Vt 2 [] (L.map (rB n))).length (Zz (Vt 2 [] (L.map (rB n)))), .int .i64 0] else [.nils, .int .i64 4]) else [.nils, .int .i64 16]
theorem v0g {L : List R6} {n : Int} (hl : L.length ≤ 400) (hn : n ≠ 0) : ∀ (k i : Nat) (acc : List R6), i + k = L.length → acc = (L.take i).map (rB n) → ∃ N, Yb (z4b L n) N (.to (.h0 acc (i : Int))) = .ret (rouR n L ((L.drop i).all fun r => bOk (rB n r)))
 | 0, i, acc, h, ha => by
  refine ⟨1, ?_⟩
  rw [List.take_of_length_le (by omega)] at ha
  subst ha
  have w : Kq 2 [] (L.map (rB n)) = true := decide_eq_true ⟨by simp, by rw [List.length_map]; omega⟩
  rw [Zv, List.drop_eq_nil_of_le (by omega)]
  unfold rouR
  cases q : Vs 2 [] (L.map (rB n)) <;>
   simp (disch := omega) only [z4b, Zr, Za, w, q, Bool.not_true, Bool.not_false, cond_true, cond_false, Zm, List.all_nil]
 | k + 1, i, acc, h, ha => by
  have hi : i < L.length := by omega
  have hla : acc.length = i := by rw [ha, List.length_map, List.length_take]; omega
  obtain ⟨N, hN⟩ := v0g hl hn k (i + 1) (acc ++ [rB n (rd L i)]) (by omega) (by rw [ha, Xq hi, ← List.map_singleton, ← List.map_append, List.take_append_getElem])
  have hw : IntKind.wrap .i64 ((i : Int) + 1) = ((i + 1 : Nat) : Int) := Zu (by omega)
  have hs : z4b L n (.h0 acc (i : Int)) = bif bOk (rB n (rd L i)) then .to (.h0 (acc ++ [rB n (rd L i)]) ((i + 1 : Nat) : Int)) else .ret [.nils, .int .i64 16] := by
   simp (disch := omega) only [z4b, Zo, Zs, hw, Zk, w7y hn, Yw, Ze, Yk, Nat.zero_add, decide_true, Bool.and_true, Bool.true_and, cond_true]
   unfold bOk rB
   dsimp only
   cases decide (Wn (Wn (Xd (rd L i).a n) (Xd (rd L i).b n)) (Xd (rd L i).c n) < (-1000000)) <;> cases decide (Wu (Wu (IntKind.wrap .i64 (Xd (IntKind.wrap .i64 ((rd L i).d - 1)) n + n)) (IntKind.wrap .i64 (Xd (IntKind.wrap .i64 ((rd L i).e - 1)) n + n))) (IntKind.wrap .i64 (Xd (IntKind.wrap .i64 ((rd L i).f - 1)) n + n)) > 1000000) <;> rfl
  refine ⟨N + 1, ?_⟩
  rw [Zv, hs, Yd hi, List.all_cons]
  rcases Yp (bOk (rB n (rd L i))) with q | q
  ·rw [q, cond_true, Bool.true_and]; exact hN
  ·rw [q, cond_false, Bool.false_and]; exact Zm _ _ _
def rouP (L : List R6) (n : Int) : Bool := (Wv L == 0) && (!decide (n < 1) && (!decide (n > 1000) && ((L.all fun r => bOk (rB n r)) && Vs 2 [] (L.map (rB n)))))
def Wq (L : List R6) (n : Int) : List R6 := bif rouP L n then Vt 2 [] (L.map (rB n)) else []
def z2b (L : List R6) (n : Int) : Int := bif Wv L != 0 then Wv L else bif decide (n < 1) || decide (n > 1000) then 2 else bif L.all fun r => bOk (rB n r) then (bif Vs 2 [] (L.map (rB n)) then 0 else 4) else 16
def rouW (L : List R6) (n : Int) : List AVal := bif rouP L n then [.dat (Wq L n).length (Zz (Wq L n)), .int .i64 (z2b L n)] else [.nils, .int .i64 (z2b L n)]
theorem v4l (L : List R6) (n : Int) : ∃ N, Yb (z4b L n) N (z8s L n) = .ret (rouW L n) := by
 have hk : (Wv L != 0) = !(Wv L == 0) := rfl
 unfold z8s rouW Wq z2b rouP
 simp only [Za, show ∀ l, Jp l = true from fun _ => rfl, cond_true, hk]
 rcases Yp (Wv L == 0) with a | a
 ·rcases Yp (decide (n < 1)) with b | b
  ·refine ⟨0, ?_⟩
   rw [a, b]; rfl
  ·rcases Yp (decide (n > 1000)) with c | c
   ·refine ⟨0, ?_⟩
    rw [a, b, c]; rfl
   ·have hb := of_decide_eq_false b
    obtain ⟨N, hN⟩ := v0g (L := L) (n := n) (Ui ((z3g L).trans (eq_of_beq a))).1 (by omega) L.length 0 [] (Nat.zero_add _) rfl
    refine ⟨N, ?_⟩
    rw [a, b, c]
    simp only [Bool.not_true, Bool.not_false, Bool.true_and, Bool.or_false, cond_true, cond_false]
    rw [z0t] at hN
    rw [hN, List.drop_zero]
    unfold rouR
    cases L.all (fun r => bOk (rB n r)) <;> cases Vs 2 [] (L.map (rB n)) <;> rfl
 ·refine ⟨0, ?_⟩
  rw [a]; rfl
def z2a (L : List R6) (n : Int) : Bool := true
def fRou : List AVal → Option (AVal × Bool)
 | [a0, .int .i64 x1] => match asL R6 a0 with
  | some (L0, g0, n0) => some (.tup [.dat (Wq L0 x1).length (Zz (Wq L0 x1)), .int .i64 (z2b L0 x1)], isT R6 n0 g0 && z2a L0 x1)
  | _ => none
 | _ => none
theorem v7k {S : Specs} (hS : Zq prog S) : Zq prog (S.with y7h fRou) := by
 refine w2t hS (by kernel_rfl) fun args v h => ?_
 unfold fRou at h
 split at h
 ·rename_i a0 x1
  split at h
  ·rename_i L0 g0 n0 e0
   simp only [Option.some.injEq, Prod.mk.injEq, Bool.and_eq_true] at h
   obtain ⟨rfl, ho0, hw⟩ := h
   obtain ⟨N, hN⟩ := v4l L0 x1
   refine ⟨_, rouW L0 x1, (.cons (asL_le e0 ho0) (.cons (.refl _) .nil)), ?_, w5s L0 x1 N _ hN, 3, ?_⟩
   ·unfold rouW
    rcases Yp (rouP L0 x1) with q | q
    ·rw [q]; exact fun ρ u hu => hu
    ·rw [q]
     unfold Wq
     rw [q]
     exact fun ρ u hu => z1t (.cons (Jn R6) (RLe.refl _)) ρ u hu
   ·unfold rouW
    cases rouP L0 x1 <;> rfl
  ·cases h
 ·cases h
def Fd : Specs := (Fc.with y7h fRou)
theorem Qy : Zq prog Fd := (v7k y2e)
end Go.Am
namespace Go.Am
open Go.Proofs.Tryz
open Go.Proofs
inductive rpkS where
 | h0 (v6 : Int) (v7 : Int)
def rpkC (l0 : List R6) (x1 : Int) : rpkS → Cfg
 | .h0 v6 v7 => ⟨⟨31, 0, true⟩, none, (Zb prog 39 [1, 1, 1, 1, 0, 1, 0, 0] 0), none, (Zy prog 16), ⟨Ym [(0, (.dat l0.length (Zz l0))), (1, (ii x1)), (6, (ii v6)), (7, (ii v7))], Uc [] 0, 0, [], true⟩, [], .leaf⟩
def rpkN0 : List (Option (List Nat)) := [some [0, 1, 6, 7]]
def rpkM0 : List (Option (List Nat)) := []
def z6g (l0 : List R6) (x1 : Int) : rpkS → Wa rpkS
 | .h0 v6 v7 => (bif (decide (v7 < x1)) then (.to (.h0 (IntKind.wrap .i64 (2 * v6)) (IntKind.wrap .i64 (v7 + 1)))) else (bif (z2a (cvT l0) v6) then (.ret [(.dat (Wq (cvT l0) v6).length (Zz (Wq (cvT l0) v6))), (.int .i64 (z2b (cvT l0) v6))]) else .stuck))
def z8q (l0 : List R6) (x1 : Int) : Wa rpkS := (bif (Jp (cvT l0)) then (bif ((Wv (cvT l0)) != 0) then (.ret [.nils, (.int .i64 (Wv (cvT l0)))]) else (bif (decide (x1 < 0)) then (.ret [.nils, (.int .i64 2)]) else (bif (decide (x1 > 9)) then (.ret [.nils, (.int .i64 2)]) else (.to (.h0 1 0))))) else .stuck)
theorem x5y (l0 : List R6) (x1 : Int) : ∀ s, Wb prog (Zy prog 39) (rpkC l0 x1) (rpkC l0 x1 s) (z6g l0 x1 s)
 | .h0 v6 v7 => (lb (fun k0 => (sl Qy 23 [] ⟨[], [], rpkN0, rpkM0⟩ ⟨[], [], []⟩ [true] (tt k0 nn))) (fun k0 => (lo fun o0 => (lr 31 3 [1, 1, 1, 1, 1, 1, 0] 1 16 [(4, (.dat (Wq (cvT l0) v6).length (Zz (Wq (cvT l0) v6)))), (5, (ii (z2b (cvT l0) v6)))] (sl Qy 19 [] ⟨[], [], [some [4, 5]], []⟩ ⟨[], [], []⟩ [false] (pp (pp (xr l0) (xw o0)) (tt k0 nn)))))))
theorem y9v (l0 : List R6) (x1 : Int) : Wb prog (Zy prog 39) (rpkC l0 x1) (Zi prog 39 [(.dat l0.length (Zz l0)), (.int .i64 x1)] true []) (z8q l0 x1) := (lo fun bK => (lb (fun k0 => (lr 31 39 [1, 0, 1, 0, 0] 1 16 [(4, .nils), (5, (ii (Wv (cvT l0))))] (sl Qy 20 [] ⟨[], [], [some [4, 5]], []⟩ ⟨[], [], []⟩ [true] (pp (pp (xr l0) (xw bK)) (tt k0 (pp (pp (xr l0) (xw bK)) nn)))))) (fun k0 => (lb (fun k1 => (lr 31 39 [1, 1, 0, 1, 0, 0] 1 16 [(4, .nils), (5, (ii 2))] (sl Qy 30 [] ⟨[], [], [some [4, 5]], []⟩ ⟨[], [], []⟩ [false, true, true, true] (tt k1 (tt k0 (pp (pp (xr l0) (xw bK)) nn)))))) (fun k1 => (lb (fun k2 => (lr 31 39 [1, 1, 0, 1, 0, 0] 1 16 [(4, .nils), (5, (ii 2))] (sl Qy 30 [] ⟨[], [], [some [4, 5]], []⟩ ⟨[], [], []⟩ [false, false, false, true] (tt k2 (tt k1 (tt k0 (pp (pp (xr l0) (xw bK)) nn))))))) (fun k2 => (sl Qy 37 [] ⟨[], [], rpkN0, rpkM0⟩ ⟨[], [], []⟩ [false, false, false, false] (tt k2 (tt k1 (tt k0 (pp (pp (xr l0) (xw bK)) nn))))))))))))
theorem w5p (l0 : List R6) (x1 : Int) (n : Nat) (vs : List AVal) (h : Yb (z6g l0 x1) n (z8q l0 x1) = .ret vs) : Qx prog (Zy prog 39) (Zi prog 39 [(.dat l0.length (Zz l0)), (.int .i64 x1)] true []) vs := by
 have := Zt (x5y l0 x1) n _ (y9v l0 x1)
 rwa [h] at this
inductive rinS where
 | h0 (v5 : Int) (aT : Int) (bV : Int) (bX : Int) (bZ : Int) (dD : Int) (dE : Int)
 | h1 (v9 : List R6) (v10 : Int) (aD : Int) (aS : Int) (aV : Int) (bG : Int) (cG : Int) (cH : Int)
 | h2 (v9 : List R6) (v10 : Int) (v11 : List R6) (v12 : Int) (aD : Int) (aS : Int) (aV : Int) (bG : Int) (cG : Int) (cH : Int)
 | h3 (v9 : List R6) (v10 : Int) (v11 : List R6) (v12 : Int) (v13 : Int) (aD : Int) (aS : Int) (aV : Int) (bG : Int) (cG : Int) (cH : Int)
def rinC (l0 : List R6) (x1 : Int) : rinS → Cfg
 | .h0 v5 aT bV bX bZ dD dE => ⟨⟨90, 0, true⟩, none, (Zb prog 110 [1, 1, 1, 1, 0, 1, 0, 0] 0), none, (Zy prog 50), ⟨Ym [(0, (.dat l0.length (Zz l0))), (2, (.ptr 0 0)), (4, (.ptr 1 0)), (5, (ii v5))], Uc [⟨[(ii 0), (ii 0), (ii 0), (ii 0), (ii 0), (ii 0)], 68, none⟩, ⟨[(ii aT), (ii bV), (ii bX), (ii bZ), (ii dD), (ii dE)], 68, none⟩] 0, 2, [], true⟩, [⟨⟨94, 0, true⟩, (Vr prog 83 [1, 1, 0] 1), (Zb prog 83 [1, 1, 0] 1), none, (Zy prog 16), Ym [(0, (.dat l0.length (Zz l0))), (1, (ii x1)), (6, (ii (wr ((wr (x1 * x1)) * x1)))), (22, (.dat l0.length (Zz l0)))]⟩, ⟨⟨18, 0, true⟩, (Vr prog 37 [1, 1, 0] 2), (Zb prog 37 [1, 1, 0] 1), none, (Zy prog 16), Ym [(13, (.dat l0.length (Zz l0))), (14, (ii x1))]⟩], .leaf⟩
 | .h1 v9 v10 aD aS aV bG cG cH => ⟨⟨94, 0, true⟩, none, (Zb prog 83 [1, 1, 1, 1, 1, 0, 1, 0, 0] 0), none, (Zy prog 16), ⟨Ym [(0, (.dat l0.length (Zz l0))), (1, (ii x1)), (6, (ii (wr ((wr (x1 * x1)) * x1)))), (7, (.ptr 0 0)), (9, (.dat v9.length (Zz v9))), (10, (ii v10))], Uc [⟨[(ii aD), (ii aS), (ii aV), (ii bG), (ii cG), (ii cH)], 68, none⟩] 0, 1, [], true⟩, [⟨⟨18, 0, true⟩, (Vr prog 37 [1, 1, 0] 2), (Zb prog 37 [1, 1, 0] 1), none, (Zy prog 16), Ym [(13, (.dat l0.length (Zz l0))), (14, (ii x1))]⟩], .leaf⟩
 | .h2 v9 v10 v11 v12 aD aS aV bG cG cH => ⟨⟨94, 0, true⟩, none, (Zb prog 83 [1, 1, 1, 1, 1, 0, 1, 0, 0, 1, 0, 0, 1, 0, 1, 0, 0] 0), none, (Zy prog 16), ⟨Ym [(0, (.dat l0.length (Zz l0))), (1, (ii x1)), (6, (ii (wr ((wr (x1 * x1)) * x1)))), (7, (.ptr 0 0)), (9, (.dat v9.length (Zz v9))), (10, (ii v10)), (11, (.sla 1 6 0 v11.length (.un 6))), (12, (ii v12))], Uc [⟨[(ii aD), (ii aS), (ii aV), (ii bG), (ii cG), (ii cH)], 68, none⟩, ⟨rows v11.length (Zz v11), 68, some ⟨6, v11.length, (Zz v11)⟩⟩] 0, 2, [], true⟩, [⟨⟨18, 0, true⟩, (Vr prog 37 [1, 1, 0] 2), (Zb prog 37 [1, 1, 0] 1), none, (Zy prog 16), Ym [(13, (.dat l0.length (Zz l0))), (14, (ii x1))]⟩], .leaf⟩
 | .h3 v9 v10 v11 v12 v13 aD aS aV bG cG cH => ⟨⟨94, 0, true⟩, none, (Zb prog 83 [1, 1, 1, 1, 1, 0, 1, 0, 0, 1, 0, 0, 1, 0, 1, 0, 0, 1, 0, 0, 1, 0, 0] 0), none, (Zy prog 16), ⟨Ym [(0, (.dat l0.length (Zz l0))), (1, (ii x1)), (6, (ii (wr ((wr (x1 * x1)) * x1)))), (7, (.ptr 0 0)), (9, (.dat v9.length (Zz v9))), (10, (ii v10)), (11, (.sla 1 6 0 v11.length (.un 6))), (12, (ii v12)), (13, (ii v13))], Uc [⟨[(ii aD), (ii aS), (ii aV), (ii bG), (ii cG), (ii cH)], 68, none⟩, ⟨rows v11.length (Zz v11), 68, some ⟨6, v11.length, (Zz v11)⟩⟩] 0, 2, [], true⟩, [⟨⟨18, 0, true⟩, (Vr prog 37 [1, 1, 0] 2), (Zb prog 37 [1, 1, 0] 1), none, (Zy prog 16), Ym [(13, (.dat l0.length (Zz l0))), (14, (ii x1))]⟩], .leaf⟩
def rinN0 : List (Option (List Nat)) := [some [0, 2, 4, 5], some [0, 1, 6, 22], some [13, 14]]
def rinM0 : List (Option (List Nat)) := []
def rinN1 : List (Option (List Nat)) := [some [0, 1, 6, 7, 9, 10], some [13, 14]]
def rinM1 : List (Option (List Nat)) := []
def rinN2 : List (Option (List Nat)) := [some [0, 1, 6, 7, 9, 10, 11, 12], some [13, 14]]
def rinM2 : List (Option (List Nat)) := []
def v5a : List (Option (List Nat)) := [some [0, 1, 6, 7, 9, 10, 11, 12, 13], some [13, 14]]
def v5b : List (Option (List Nat)) := []
def Wm (l0 : List R6) (x1 : Int) : rinS → Wa rinS
 | .h0 v5 aT bV bX bZ dD dE => (bif (decide (v5 < (l0.length : Int))) then (bif ((decide (0 ≤ v5 ∧ v5 < (l0.length : Int))) && true) then (.to (.h0 (IntKind.wrap .i64 (v5 + 1)) (Wn aT (rd l0 v5.toNat).a) (Wn bV (rd l0 v5.toNat).b) (Wn bX (rd l0 v5.toNat).c) (Wu bZ (rd l0 v5.toNat).d) (Wu dD (rd l0 v5.toNat).e) (Wu dE (rd l0 v5.toNat).f))) else .stuck) else (bif (Wx bX x1) then (.to (.h1 ([] : List R6) (Xd bX x1) aT bV bX bZ dD dE)) else .stuck))
 | .h1 v9 v10 aD aS aV bG cG cH => (bif (decide (v10 < cH)) then (bif (Wx aD x1) then (.to (.h2 v9 v10 ([] : List R6) (Xd aD x1) aD aS aV bG cG cH)) else .stuck) else (.ret [(.dat v9.length (Zz v9)), (.int .i64 0)]))
 | .h2 v9 v10 v11 v12 aD aS aV bG cG cH => (bif (decide (v12 < bG)) then (bif (Wx aS x1) then (.to (.h3 v9 v10 v11 v12 (Xd aS x1) aD aS aV bG cG cH)) else .stuck) else (bif (Kq 2 (cvT v9) (cvT v11)) then (bif (!(Vs 2 (cvT v9) (cvT v11))) then (.ret [.nils, (.int .i64 4)]) else (.to (.h1 (Vt 2 (cvT v9) (cvT v11)) (IntKind.wrap .i64 (v10 + x1)) aD aS aV bG cG cH))) else .stuck))
 | .h3 v9 v10 v11 v12 v13 aD aS aV bG cG cH => (bif (decide (v13 < cG)) then (bif (z5f (cvT l0) v12 v13 v10 (IntKind.wrap .i64 (v12 + x1)) (IntKind.wrap .i64 (v13 + x1)) (IntKind.wrap .i64 (v10 + x1))) then (bif (decide ((parV (cvT l0) v12 v13 v10 (IntKind.wrap .i64 (v12 + x1)) (IntKind.wrap .i64 (v13 + x1)) (IntKind.wrap .i64 (v10 + x1))) ≥ (IntKind.wrap .i64 ((IntKind.wrap .i64 (x1 * x1)) * x1)))) then (bif (Nat.beq 6 6 && ((decide (0 + v11.length = v11.length)) && decide ((v11.length + 1 + 1) * (48 + 1) ≤ Jy))) then (.to (.h3 v9 v10 (v11 ++ [(R6.mk v12 v13 v10 (IntKind.wrap .i64 (v12 + x1)) (IntKind.wrap .i64 (v13 + x1)) (IntKind.wrap .i64 (v10 + x1)))]) v12 (IntKind.wrap .i64 (v13 + x1)) aD aS aV bG cG cH)) else .stuck) else (.to (.h3 v9 v10 v11 v12 (IntKind.wrap .i64 (v13 + x1)) aD aS aV bG cG cH))) else .stuck) else (.to (.h2 v9 v10 v11 (IntKind.wrap .i64 (v12 + x1)) aD aS aV bG cG cH)))
def z8v (l0 : List R6) (x1 : Int) : Wa rinS := (bif (Jp (cvT l0)) then (bif ((Wv (cvT l0)) != 0) then (.ret [.nils, (.int .i64 (Wv (cvT l0)))]) else (bif (decide (x1 < 1)) then (.ret [.nils, (.int .i64 2)]) else (bif (decide (x1 > 1000)) then (.ret [.nils, (.int .i64 2)]) else (bif ((l0.length : Int) == 0) then (.ret [.nils, (.int .i64 0)]) else (bif ((decide ((0 : Int) ≤ 0 ∧ 0 < (l0.length : Int))) && true) then (.to (.h0 1 (rd l0 0).a (rd l0 0).b (rd l0 0).c (rd l0 0).d (rd l0 0).e (rd l0 0).f)) else .stuck))))) else .stuck)
theorem x6c (l0 : List R6) (x1 : Int) : ∀ s, Wb prog (Zy prog 37) (rinC l0 x1) (rinC l0 x1 s) (Wm l0 x1 s)
 | .h0 v5 aT bV bX bZ dD dE => (lb (fun k0 => (lo fun o0 => (sl Qy 22 [] ⟨[0, 1], [], rinN0, rinM0⟩ ⟨[], [], []⟩ [true] (ww o0 (ww o0 (ww o0 (ww o0 (ww o0 (ww o0 (tt k0 nn)))))))))) (fun k0 => (lo fun o0 => (sl Qy 48 [] ⟨[2], [], rinN1, rinM1⟩ ⟨[(9, .list 0 (Zz ([] : List R6)))], [], []⟩ [false, false] (ww o0 (tt k0 nn))))))
 | .h1 v9 v10 aD aS aV bG cG cH => (lb (fun k0 => (lo fun o0 => (sl Qy 29 [(68, 6, Zz ([] : List R6))] ⟨[0, 1], [], rinN2, rinM2⟩ ⟨[(11, .grow 1 6)], [], []⟩ [true] (pp (fl ([] : List R6) nn) (ww o0 (tt k0 nn)))))) (fun k0 => (lr 18 3 [1, 1, 1, 1, 1, 1, 0] 1 16 [(4, (.dat v9.length (Zz v9))), (5, (ii 0))] (sl Qy 23 [] ⟨[], [], [some [4, 5]], []⟩ ⟨[], [], []⟩ [false] (tt k0 nn)))))
 | .h2 v9 v10 v11 v12 aD aS aV bG cG cH => (lb (fun k0 => (lo fun o0 => (sl Qy 24 [] ⟨[0, 1], [], v5a, v5b⟩ ⟨[], [], []⟩ [true] (pp (fl v11 nn) (ww o0 (tt k0 nn)))))) (fun k0 => (Vx (sl Qy (C' := ⟨⟨94, 0, true⟩, (Vr prog 83 [1, 1, 1, 1, 1, 0, 1, 0, 0, 1, 0, 0, 1, 1, 0] 2), (Zb prog 83 [1, 1, 1, 1, 1, 0, 1, 0, 0, 1, 0, 0, 1, 1, 0] 1), none, (Zy prog 16), ⟨Ym [(0, (.dat l0.length (Zz l0))), (1, (ii x1)), (6, (ii (wr ((wr (x1 * x1)) * x1)))), (7, (.ptr 0 0)), (10, (ii v10)), (85, (.dat v9.length (Zz v9))), (86, (.dat v11.length (Zz v11)))], Uc [⟨[(ii aD), (ii aS), (ii aV), (ii bG), (ii cG), (ii cH)], 68, none⟩] 0, 1, [], true⟩, [⟨⟨18, 0, true⟩, (Vr prog 37 [1, 1, 0] 2), (Zb prog 37 [1, 1, 0] 1), none, (Zy prog 16), Ym [(13, (.dat l0.length (Zz l0))), (14, (ii x1))]⟩], .leaf⟩) 15 [] ⟨[0], [1], [some [0, 1, 6, 7, 10, 85, 86], some [13, 14]], []⟩ ⟨[(86, .frz v11.length v11.length (Zz v11) (Zz v11))], [], []⟩ [false] (pp (xZ (z3m 6 6 0 v11.length v11.length (Zz v11)) v11.length (Zz v11)) (pp (xL v11.length v11.length) (pp (xS v11.length (Zz v11) (Zz v11)) (pp (fl v11 nn) (tt k0 nn)))))) (lo fun aG => (lb (fun k1 => (lr 18 3 [1, 1, 1, 1, 1, 1, 0] 1 16 [(4, .nils), (5, (ii 4))] (sl Qy 25 [] ⟨[], [], [some [4, 5]], []⟩ ⟨[], [], []⟩ [true] (tt k1 (pp (pp (xr v9) (pp (xr v11) (xw aG))) nn))))) (fun k1 => (sl Qy 27 [] ⟨[0], [], rinN1, rinM1⟩ ⟨[], [], []⟩ [false] (tt k1 (pp (pp (xr v9) (pp (xr v11) (xw aG))) nn)))))))))
 | .h3 v9 v10 v11 v12 v13 aD aS aV bG cG cH => (lb (fun k0 => (lo fun aG => (lb (fun k1 => (lo fun o0 => (sl Qy 93 [] ⟨[0, 5], [], v5a, v5b⟩ ⟨[(11, .len (v11 ++ [(R6.mk v12 v13 v10 (wr (v12 + x1)) (wr (v13 + x1)) (wr (v10 + x1)))]).length)], [.keep, .rowed 6 (v11 ++ [(R6.mk v12 v13 v10 (wr (v12 + x1)) (wr (v13 + x1)) (wr (v10 + x1)))]).length (Zz (v11 ++ [(R6.mk v12 v13 v10 (wr (v12 + x1)) (wr (v13 + x1)) (wr (v10 + x1)))]))], []⟩ [true, true] (pp (xL (v11.length + 1) (v11 ++ [(R6.mk v12 v13 v10 (wr (v12 + x1)) (wr (v13 + x1)) (wr (v10 + x1)))]).length) (pp (xL (v11.length + 1) (v11 ++ [(R6.mk v12 v13 v10 (wr (v12 + x1)) (wr (v13 + x1)) (wr (v10 + x1)))]).length) (pp (xS (v11.length + 1) (Zc (Zz v11) 0 v11.length 6 [(ii v12), (ii v13), (ii v10), (ii (wr (v12 + x1))), (ii (wr (v13 + x1))), (ii (wr (v10 + x1)))]) (Zz (v11 ++ [(R6.mk v12 v13 v10 (wr (v12 + x1)) (wr (v13 + x1)) (wr (v10 + x1)))]))) (pp (pp (xF (Zc (Zz v11) 0 v11.length 6 [(ii v12), (ii v13), (ii v10), (ii (wr (v12 + x1))), (ii (wr (v13 + x1))), (ii (wr (v10 + x1)))])) nn) (ww o0 (tt k1 (pp (pp (xr l0) (xw aG)) (tt k0 nn))))))))))) (fun k1 => (sl Qy 59 [] ⟨[0, 1], [], v5a, v5b⟩ ⟨[], [], []⟩ [true, false] (pp (fl v11 nn) (tt k1 (pp (pp (xr l0) (xw aG)) (tt k0 nn))))))))) (fun k0 => (sl Qy 19 [] ⟨[0, 1], [], rinN2, rinM2⟩ ⟨[], [], []⟩ [false] (pp (fl v11 nn) (tt k0 nn)))))
theorem x0b (l0 : List R6) (x1 : Int) : Wb prog (Zy prog 37) (rinC l0 x1) (Zi prog 37 [(.dat l0.length (Zz l0)), (.int .i64 x1)] true []) (z8v l0 x1) := (lo fun bK => (lb (fun k0 => (lr 18 37 [1, 0, 1, 0, 0] 1 16 [(4, .nils), (5, (ii (Wv (cvT l0))))] (sl Qy 60 [] ⟨[], [], [some [4, 5]], []⟩ ⟨[], [], []⟩ (trs 3 []) (pp (pp (xr l0) (xw bK)) (tt k0 (pp (pp (xr l0) (xw bK)) (tt k0 (pp (pp (xr l0) (xw bK)) (tt k0 (pp (pp (xr l0) (xw bK)) nn)))))))))) (fun k0 => (lb (fun k1 => (lr 18 37 [1, 0, 1, 0, 0] 1 16 [(4, .nils), (5, (ii 2))] (sl Qy 80 [] ⟨[], [], [some [4, 5]], []⟩ ⟨[], [], []⟩ [false, true, true, true, true, false, true, true, true] (tt k1 (tt k0 (pp (pp (xr l0) (xw bK)) (tt k1 (tt k0 (pp (pp (xr l0) (xw bK)) nn))))))))) (fun k1 => (lb (fun k2 => (lr 18 37 [1, 0, 1, 0, 0] 1 16 [(4, .nils), (5, (ii 2))] (sl Qy 80 [] ⟨[], [], [some [4, 5]], []⟩ ⟨[], [], []⟩ [false, false, false, true, true, false, false, false, true] (tt k2 (tt k1 (tt k0 (pp (pp (xr l0) (xw bK)) (tt k2 (tt k1 (tt k0 (pp (pp (xr l0) (xw bK)) nn))))))))))) (fun k2 => (lb (fun k3 => (lr 18 3 [1, 1, 1, 1, 1, 1, 0] 1 16 [(4, .nils), (5, (ii 0))] (sl Qy 122 [] ⟨[], [], [some [4, 5]], []⟩ ⟨[], [], []⟩ [false, false, false, false, false, false, true, true] (tt k3 (tt k0 (pp (pp (xr l0) (xw bK)) (tt k2 (tt k1 (tt k0 (pp (pp (xr l0) (xw bK)) nn)))))))))) (fun k3 => (lo fun o0 => (sl Qy 106 [] ⟨[0, 1], [], rinN0, rinM0⟩ ⟨[], [], []⟩ [false, false, false, false, false, false, false] (ww o0 (tt k3 (tt k0 (pp (pp (xr l0) (xw bK)) (tt k2 (tt k1 (tt k0 (pp (pp (xr l0) (xw bK)) nn)))))))))))))))))))
theorem w5w (l0 : List R6) (x1 : Int) (n : Nat) (vs : List AVal) (h : Yb (Wm l0 x1) n (z8v l0 x1) = .ret vs) : Qx prog (Zy prog 37) (Zi prog 37 [(.dat l0.length (Zz l0)), (.int .i64 x1)] true []) vs := by
 have := Zt (x6c l0 x1) n _ (x0b l0 x1)
 rwa [h] at this
end Go.Am
namespace Go.Am
open Go.Proofs.Tryz
open Go.Proofs Go.Sort Go.Shelf Go.RowKit Go.Lib
def dbl : Nat → Int → Int
 | 0, n => n
 | k + 1, n => dbl k (IntKind.wrap .i64 (2 * n))
theorem v0d {L : List R6} {x : Int} (hx : x ≤ 9) : ∀ (k : Nat) (i n : Int), 0 ≤ i → i + k = x → ∃ N, Yb (z6g L x) N (.to (.h0 n i)) = .ret [.dat (Wq L (dbl k n)).length (Zz (Wq L (dbl k n))), .int .i64 (z2b L (dbl k n))]
 | 0, i, n, hi, h => by
  refine ⟨1, ?_⟩
  rw [Zv]
  simp (disch := omega) only [z6g, Zr, Za, show ∀ l n, z2a l n = true from fun _ _ => rfl, cond_true, cond_false, Zm, dbl]
 | k + 1, i, n, hi, h => by
  obtain ⟨N, hN⟩ := v0d (L := L) hx k (i + 1) (IntKind.wrap .i64 (2 * n)) (by omega) (by omega)
  have hw : IntKind.wrap .i64 (i + 1) = i + 1 := Zu (by omega)
  refine ⟨N + 1, ?_⟩
  rw [Zv]
  simp (disch := omega) only [z6g, Zo, hw, cond_true]
  exact hN
def rpkP (L : List R6) (k : Int) : Bool := (Wv L == 0) && (!decide (k < 0) && !decide (k > 9))
def Jr (L : List R6) (k : Int) : List R6 := bif rpkP L k then Wq L (dbl k.toNat 1) else []
def z9x (L : List R6) (k : Int) : Int := bif Wv L != 0 then Wv L else bif decide (k < 0) || decide (k > 9) then 2 else z2b L (dbl k.toNat 1)
def z9w (L : List R6) (k : Int) : Bool := true
def rpkW (L : List R6) (k : Int) : List AVal := bif rpkP L k then [.dat (Jr L k).length (Zz (Jr L k)), .int .i64 (z9x L k)] else [.nils, .int .i64 (z9x L k)]
theorem v4k (L : List R6) (k : Int) : ∃ N, Yb (z6g L k) N (z8q L k) = .ret (rpkW L k) := by
 have hk : (Wv L != 0) = !(Wv L == 0) := rfl
 unfold z8q rpkW Jr z9x rpkP
 simp only [Za, show ∀ l, Jp l = true from fun _ => rfl, cond_true, hk]
 rcases Yp (Wv L == 0) with a | a
 ·rcases Yp (decide (k < 0)) with b | b
  ·refine ⟨0, ?_⟩
   rw [a, b]; rfl
  ·rcases Yp (decide (k > 9)) with c | c
   ·refine ⟨0, ?_⟩
    rw [a, b, c]; rfl
   ·have hb := of_decide_eq_false b
    have hc := of_decide_eq_false c
    obtain ⟨N, hN⟩ := v0d (L := L) (x := k) (by omega) k.toNat 0 1 (by omega) (by omega)
    refine ⟨N, ?_⟩
    rw [a, b, c]
    exact hN
 ·refine ⟨0, ?_⟩
  rw [a]; rfl
def huF : List R6 → R6 → R6
 | [], h => h
 | r :: l, h => huF l ⟨Wn h.a r.a, Wn h.b r.b, Wn h.c r.c, Wu h.d r.d, Wu h.e r.e, Wu h.f r.f⟩
def Wd (L : List R6) : R6 := huF (L.drop 1) (rd L 0)
def smH (h : R6) : Bool := (decide (-20000 ≤ h.a ∧ h.a ≤ 20000) && (decide (-20000 ≤ h.b ∧ h.b ≤ 20000) && decide (-20000 ≤ h.c ∧ h.c ≤ 20000))) && (decide (h.d ≤ 20000) && (decide (h.e ≤ 20000) && decide (h.f ≤ 20000)))
def stp (n e : Int) : Nat → Int → List Int
 | 0, _ => []
 | k + 1, y => bif decide (y < e) then y :: stp n e k (y + n) else []
def cF (L : List R6) (n x y z : Int) : Bool := decide (parV L x y z (IntKind.wrap .i64 (x + n)) (IntKind.wrap .i64 (y + n)) (IntKind.wrap .i64 (z + n)) ≥ IntKind.wrap .i64 (IntKind.wrap .i64 (n * n) * n))
def cB (n x y z : Int) : R6 := ⟨x, y, z, IntKind.wrap .i64 (x + n), IntKind.wrap .i64 (y + n), IntKind.wrap .i64 (z + n)⟩
def x9t (L : List R6) (n : Int) (h : R6) (z x : Int) : List R6 := ((stp n h.e (h.e - Xd h.b n).toNat (Xd h.b n)).filter fun y => cF L n x y z).map fun y => cB n x y z
def lyC (L : List R6) (n : Int) (h : R6) (z : Int) : List R6 := (stp n h.d (h.d - Xd h.a n).toNat (Xd h.a n)).flatMap fun x => x9t L n h z x
def riF (L : List R6) (n : Int) (h : R6) : Nat → Int → List R6 → Option (List R6)
 | 0, _, out => some out
 | k + 1, z, out => bif decide (z < h.f) then (bif Vs 2 out (lyC L n h z) then riF L n h k (z + n) (Vt 2 out (lyC L n h z)) else none) else some out
def v4z (L : List R6) (n : Int) : Option (List R6) := riF L n (Wd L) ((Wd L).f - Xd (Wd L).c n).toNat (Xd (Wd L).c n) []
def x0c (L : List R6) (n : Int) : Bool := (Wv L == 0) && (!decide (n < 1) && (!decide (n > 1000) && !((L.length : Int) == 0)))
def rinP (L : List R6) (n : Int) : Bool := x0c L n && (v4z L n).isSome
def Ua (L : List R6) (n : Int) : List R6 := bif rinP L n then (v4z L n).getD [] else []
def z9z (L : List R6) (n : Int) : Int := bif Wv L != 0 then Wv L else bif decide (n < 1) || decide (n > 1000) then 2 else bif ((L.length : Int) == 0) then 0 else bif (v4z L n).isSome then 0 else 4
def rinW (L : List R6) (n : Int) : List AVal := bif rinP L n then [.dat (Ua L n).length (Zz (Ua L n)), .int .i64 (z9z L n)] else [.nils, .int .i64 (z9z L n)]
def z0k (L : List R6) (n : Int) : Bool := bif x0c L n then smH (Wd L) && (stp n (Wd L).f ((Wd L).f - Xd (Wd L).c n).toNat (Xd (Wd L).c n)).all fun z => decide ((lyC L n (Wd L) z).length ≤ 5000) else true
def riR : Option (List R6) → List AVal
 | some out => [.dat out.length (Zz out), .int .i64 0]
 | none => [.nils, .int .i64 4]
theorem x8o (n e : Int) : ∀ (k : Nat) (y : Int), (stp n e k y).length ≤ k
 | 0, _ => Nat.le_refl _
 | k + 1, y => by
  unfold stp
  cases decide (y < e)
  ·exact Nat.zero_le _
  ·have := x8o n e k (y + n)
   simp only [cond_true, List.length_cons]; omega
section
variable {L : List R6} {n : Int} (hL : L.length ≤ 400) (hn : 1 ≤ n ∧ n ≤ 1000) {h : R6} (hh : smH h = true)
include hL hn hh
omit hL hh in
theorem v7b {x : Int} (hx2 : -1000000 ≤ x ∧ x ≤ 1000000) : x - 1000 ≤ Xd x n ∧ Xd x n ≤ x := by
 rw [z6u hn (by omega)]
 obtain ⟨_, h1, h2⟩ := Xv hn.1 x
 omega
theorem x9y (out : List R6) (z x : Int) (hz : -30000 ≤ z ∧ z ≤ 30000) (hx : -30000 ≤ x ∧ x ≤ 30000) : ∀ (k : Nat) (y : Int) (acc : List R6), (h.e - y) ≤ k → -30000 ≤ y → y ≤ 30000 → acc.length + k ≤ 10000000000 → ∃ N, ∀ M,
  Yb (Wm L n) (M + N) (.to (.h3 out z acc x y h.a h.b h.c h.d h.e h.f)) = Yb (Wm L n) M (.to (.h2 out z (acc ++ ((stp n h.e k y).filter fun y => cF L n x y z).map fun y => cB n x y z) (x + n) h.a h.b h.c h.d h.e h.f))
 | 0, y, acc, hk, h1, h2, ha => by
  refine ⟨1, fun M => ?_⟩
  have hw : IntKind.wrap .i64 (x + n) = x + n := Zu (by omega)
  have hc : decide (y < h.e) = false := decide_eq_false (by omega)
  rw [Zv]
  simp only [Wm, hc, hw, cond_false, stp, List.filter_nil, List.map_nil, List.append_nil]
 | k + 1, y, acc, hk, h1, h2, ha => by
  simp only [smH, Bool.and_eq_true, decide_eq_true_eq] at hh
  have hp : ∀ a b c d e f, z5f L a b c d e f = true := fun _ _ _ _ _ _ => decide_eq_true (by omega)
  have hw : IntKind.wrap .i64 (x + n) = x + n := Zu (by omega)
  have hwy : IntKind.wrap .i64 (y + n) = y + n := Zu (by omega)
  by_cases c : y < h.e
  ·have hc : decide (y < h.e) = true := decide_eq_true c
   rcases Yp (cF L n x y z) with q | q
   ·obtain ⟨N, hN⟩ := x9y out z x hz hx k (y + n) (acc ++ [cB n x y z]) (by omega) (by omega) (by omega) (by simp; omega)
    refine ⟨N + 1, fun M => ?_⟩
    have hN := hN M
    rw [List.append_assoc] at hN
    unfold stp
    rw [hc, cond_true, List.filter_cons, if_pos q, List.map_cons, ← Nat.add_assoc, Zv]
    unfold cF at q
    simp (disch := omega) only [Wm, Za, hc, hp, q, Yw, Ze, Yk, Nat.zero_add, decide_true, Bool.and_true, Bool.true_and, cond_true]
    unfold cB at hN ⊢
    rw [hwy] at hN ⊢
    exact hN
   ·obtain ⟨N, hN⟩ := x9y out z x hz hx k (y + n) acc (by omega) (by omega) (by omega) (by omega)
    refine ⟨N + 1, fun M => ?_⟩
    have hN := hN M
    unfold stp
    rw [hc, cond_true, List.filter_cons, if_neg (by rw [q]; exact Bool.noConfusion), ← Nat.add_assoc, Zv]
    unfold cF at q
    simp (disch := omega) only [Wm, Za, hc, hp, q, cond_true, cond_false]
    rw [hwy]
    exact hN
  ·refine ⟨1, fun M => ?_⟩
   have hc : decide (y < h.e) = false := decide_eq_false c
   rw [Zv]
   simp only [Wm, hc, hw, cond_false, stp, List.filter_nil, List.map_nil, List.append_nil]
theorem v0m (out : List R6) (z : Int) (ho : out.length ≤ 5000) (hz : -30000 ≤ z ∧ z ≤ 30000) : ∀ (k : Nat) (x : Int) (acc : List R6), (h.d - x) ≤ k → -30000 ≤ x → x ≤ 30000 → acc.length + k * 50000 ≤ 9000000000 → (acc ++ (stp n h.d k x).flatMap fun x => x9t L n h z x).length ≤ 5000 → ∃ N, ∀ M,
  Yb (Wm L n) (M + N) (.to (.h2 out z acc x h.a h.b h.c h.d h.e h.f)) = Yb (Wm L n) M (bif Vs 2 out (acc ++ (stp n h.d k x).flatMap fun x => x9t L n h z x) then .to (.h1 (Vt 2 out (acc ++ (stp n h.d k x).flatMap fun x => x9t L n h z x)) (z + n) h.a h.b h.c h.d h.e h.f) else .ret [.nils, .int .i64 4])
 | 0, x, acc, hk, h1, h2, ha, hl => by
  refine ⟨1, fun M => ?_⟩
  have hw : IntKind.wrap .i64 (z + n) = z + n := Zu (by omega)
  have hc : decide (x < h.d) = false := decide_eq_false (by omega)
  simp only [stp, List.flatMap_nil, List.append_nil] at hl ⊢
  have w : Kq 2 out acc = true := decide_eq_true ⟨ho, hl⟩
  rw [Zv]
  simp only [Wm, Za, hc, hw, w, cond_true, cond_false]
  cases Vs 2 out acc <;> rfl
 | k + 1, x, acc, hk, h1, h2, ha, hl => by
  have hh' := hh
  simp only [smH, Bool.and_eq_true, decide_eq_true_eq] at hh'
  have hw : IntKind.wrap .i64 (z + n) = z + n := Zu (by omega)
  by_cases c : x < h.d
  ·have hc : decide (x < h.d) = true := decide_eq_true c
   have hf : Wx h.b n = true := w7y (by omega)
   have hrow := x8o n h.e (h.e - Xd h.b n).toNat (Xd h.b n)
   ·obtain ⟨f1, f2⟩ := v7b hn (x := h.b) (by omega)
    obtain ⟨N', hN'⟩ := x9y hL hn hh out z x hz (by omega) (h.e - Xd h.b n).toNat (Xd h.b n) acc (by omega) (by omega) (by omega) (by omega)
    unfold stp at hl ⊢
    rw [hc, cond_true, List.flatMap_cons, ← List.append_assoc] at hl ⊢
    have hr : (x9t L n h z x).length ≤ 50000 := by
     unfold x9t
     rw [List.length_map]
     exact Nat.le_trans (List.length_filter_le _ _) (by omega)
    obtain ⟨N, hN⟩ := v0m out z ho hz k (x + n) (acc ++ x9t L n h z x) (by omega) (by omega) (by omega) (by rw [List.length_append]; omega) hl
    refine ⟨N + N' + 1, fun M => ?_⟩
    rw [← Nat.add_assoc, Zv]
    simp only [Wm, hc, hf, cond_true]
    rw [← Nat.add_assoc, hN']
    exact hN M
  ·refine ⟨1, fun M => ?_⟩
   have hc : decide (x < h.d) = false := decide_eq_false c
   unfold stp at hl ⊢
   rw [hc, cond_false] at hl ⊢
   simp only [List.flatMap_nil, List.append_nil] at hl ⊢
   have w : Kq 2 out acc = true := decide_eq_true ⟨ho, hl⟩
   rw [Zv]
   simp only [Wm, Za, hc, hw, w, cond_true, cond_false]
   cases Vs 2 out acc <;> rfl
end
theorem jsV_le {k : Int} {l m : List R6} (h : Vs k l m = true) : (Vt k l m).length ≤ 400 := by
 rcases y3f k l m with q | q
 ·exact q
 ·rw [h] at q; cases q
section
variable {L : List R6} {n : Int} (hL : L.length ≤ 400) (hn : 1 ≤ n ∧ n ≤ 1000) {h : R6} (hh : smH h = true)
include hL hn hh
theorem v0n : ∀ (k : Nat) (z : Int) (out : List R6), (h.f - z) ≤ k → -30000 ≤ z → z ≤ 30000 → out.length ≤ 400 → (∀ w ∈ stp n h.f k z, (lyC L n h w).length ≤ 5000) → ∃ N, Yb (Wm L n) N (.to (.h1 out z h.a h.b h.c h.d h.e h.f)) = .ret (riR (riF L n h k z out))
 | 0, z, out, hk, h1, h2, ho, hw => by
  refine ⟨1, ?_⟩
  have hc : decide (z < h.f) = false := decide_eq_false (by omega)
  rw [Zv]
  simp only [Wm, hc, cond_false, Zm, riF, riR]
 | k + 1, z, out, hk, h1, h2, ho, hw => by
  have hh' := hh
  simp only [smH, Bool.and_eq_true, decide_eq_true_eq] at hh'
  unfold riF
  by_cases c : z < h.f
  ·have hc : decide (z < h.f) = true := decide_eq_true c
   have hf : Wx h.a n = true := w7y (by omega)
   obtain ⟨f1, f2⟩ := v7b hn (x := h.a) (by omega)
   unfold stp at hw
   rw [hc, cond_true] at hw
   rw [hc, cond_true]
   have h0 := hw z (by simp)
   obtain ⟨N', hN'⟩ := v0m hL hn hh out z (by omega) (by omega) (h.d - Xd h.a n).toNat (Xd h.a n) [] (by omega) (by omega) (by omega) (by simp; omega) h0
   rw [List.nil_append, show ((stp n h.d (h.d - Xd h.a n).toNat (Xd h.a n)).flatMap fun x => x9t L n h z x) = lyC L n h z from rfl] at hN'
   rcases Yp (Vs 2 out (lyC L n h z)) with q | q
   ·obtain ⟨N, hN⟩ := v0n k (z + n) (Vt 2 out (lyC L n h z)) (by omega) (by omega) (by omega) (jsV_le q) (fun w hw' => hw w (by simp [hw']))
    refine ⟨N + N' + 1, ?_⟩
    rw [Zv]
    simp only [Wm, hc, hf, cond_true]
    rw [hN', q]
    exact hN
   ·refine ⟨0 + N' + 1, ?_⟩
    rw [Zv]
    simp only [Wm, hc, hf, cond_true]
    rw [hN', q]
    rfl
  ·refine ⟨1, ?_⟩
   have hc : decide (z < h.f) = false := decide_eq_false c
   rw [Zv]
   simp only [Wm, hc, cond_false, Zm, riR]
theorem v0o {R : List AVal} : ∀ (k i : Nat) (g : R6), i + k = L.length → huF (L.drop i) g = h → (∃ N, Yb (Wm L n) N (.to (.h1 [] (Xd h.c n) h.a h.b h.c h.d h.e h.f)) = .ret R) → ∃ N, Yb (Wm L n) N (.to (.h0 (i : Int) g.a g.b g.c g.d g.e g.f)) = .ret R
 | 0, i, g, e, hg, ⟨N, hN⟩ => by
  rw [List.drop_eq_nil_of_le (by omega)] at hg
  have hg : g = h := hg
  subst hg
  have hf : Wx g.c n = true := w7y (by omega)
  refine ⟨N + 1, ?_⟩
  rw [Zv]
  simp (disch := omega) only [Wm, Zr, hf, cond_true, cond_false]
  exact hN
 | k + 1, i, g, e, hg, hN => by
  have hi : i < L.length := by omega
  have hw : IntKind.wrap .i64 ((i : Int) + 1) = ((i + 1 : Nat) : Int) := Zu (by omega)
  rw [Yd hi] at hg
  obtain ⟨N', hN'⟩ := v0o k (i + 1) ⟨Wn g.a (rd L i).a, Wn g.b (rd L i).b, Wn g.c (rd L i).c, Wu g.d (rd L i).d, Wu g.e (rd L i).e, Wu g.f (rd L i).f⟩ (by omega) hg hN
  refine ⟨N' + 1, ?_⟩
  rw [Zv]
  simp (disch := omega) only [Wm, Zo, Zs, Zk, hw, Bool.and_true, cond_true]
  exact hN'
end
theorem v4x (L : List R6) (n : Int) (hw : z0k L n = true) : ∃ N, Yb (Wm L n) N (z8v L n) = .ret (rinW L n) := by
 have hk : (Wv L != 0) = !(Wv L == 0) := rfl
 unfold z0k x0c at hw
 unfold z8v rinW Ua z9z rinP x0c
 simp only [Za, show ∀ l, Jp l = true from fun _ => rfl, cond_true, hk]
 rcases Yp (Wv L == 0) with a | a
 ·rcases Yp (decide (n < 1)) with b | b
  ·refine ⟨0, ?_⟩
   rw [a, b]; rfl
  ·rcases Yp (decide (n > 1000)) with c | c
   ·refine ⟨0, ?_⟩
    rw [a, b, c]; rfl
   ·rcases Yp ((L.length : Int) == 0) with d | d
    ·refine ⟨0, ?_⟩
     rw [a, b, c, d]; rfl
    ·have hb := of_decide_eq_false b
     have hc := of_decide_eq_false c
     have hl := (Ui ((z3g L).trans (eq_of_beq a))).1
     have hp : 0 < L.length := by
      have := beq_eq_false_iff_ne.1 d
      omega
     rw [a, b, c, d] at hw
     simp only [Bool.not_false, Bool.and_true, Bool.true_and, cond_true, Bool.and_eq_true, List.all_eq_true, decide_eq_true_eq] at hw
     obtain ⟨w1, w2⟩ := hw
     have w1' := w1
     simp only [smH, Bool.and_eq_true, decide_eq_true_eq] at w1'
     obtain ⟨f1, f2⟩ := v7b (n := n) ⟨by omega, by omega⟩ (x := (Wd L).c) (by omega)
     obtain ⟨N, hN⟩ := v0o hl (n := n) ⟨by omega, by omega⟩ w1 (L.length - 1) 1 (rd L 0) (by omega) rfl (v0n hl ⟨by omega, by omega⟩ w1 ((Wd L).f - Xd (Wd L).c n).toNat (Xd (Wd L).c n) [] (by omega) (by omega) (by omega) (by simp) w2)
     refine ⟨N, ?_⟩
     rw [a, b, c, d]
     simp (disch := omega) only [Zs, Bool.not_true, Bool.not_false, Bool.and_true, Bool.true_and, Bool.or_false, cond_true, cond_false]
     rw [show ((1 : Nat) : Int) = 1 from rfl] at hN
     rw [hN]
     show _ = Wa.ret (bif (v4z L n).isSome then _ else _)
     unfold v4z
     cases riF L n (Wd L) ((Wd L).f - Xd (Wd L).c n).toNat (Xd (Wd L).c n) [] <;> rfl
 ·refine ⟨0, ?_⟩
  rw [a]; rfl
def fRpk : List AVal → Option (AVal × Bool)
 | [a0, .int .i64 x1] => match asL R6 a0 with
  | some (L0, g0, n0) => some (.tup [.dat (Jr L0 x1).length (Zz (Jr L0 x1)), .int .i64 (z9x L0 x1)], isT R6 n0 g0 && z9w L0 x1)
  | _ => none
 | _ => none
theorem v7j {S : Specs} (hS : Zq prog S) : Zq prog (S.with x3w fRpk) := by
 refine w2t hS (by kernel_rfl) fun args v h => ?_
 unfold fRpk at h
 split at h
 ·rename_i a0 x1
  split at h
  ·rename_i L0 g0 n0 e0
   simp only [Option.some.injEq, Prod.mk.injEq, Bool.and_eq_true] at h
   obtain ⟨rfl, ho0, hw⟩ := h
   obtain ⟨N, hN⟩ := v4k L0 x1
   refine ⟨_, rpkW L0 x1, (.cons (asL_le e0 ho0) (.cons (.refl _) .nil)), ?_, w5p L0 x1 N _ hN, 3, ?_⟩
   ·unfold rpkW
    rcases Yp (rpkP L0 x1) with q | q
    ·rw [q]; exact fun ρ u hu => hu
    ·rw [q]
     unfold Jr
     rw [q]
     exact fun ρ u hu => z1t (.cons (Jn R6) (RLe.refl _)) ρ u hu
   ·unfold rpkW
    cases rpkP L0 x1 <;> rfl
  ·cases h
 ·cases h
def fRin : List AVal → Option (AVal × Bool)
 | [a0, .int .i64 x1] => match asL R6 a0 with
  | some (L0, g0, n0) => some (.tup [.dat (Ua L0 x1).length (Zz (Ua L0 x1)), .int .i64 (z9z L0 x1)], isT R6 n0 g0 && z0k L0 x1)
  | _ => none
 | _ => none
theorem v7l {S : Specs} (hS : Zq prog S) : Zq prog (S.with y7i fRin) := by
 refine w2t hS (by kernel_rfl) fun args v h => ?_
 unfold fRin at h
 split at h
 ·rename_i a0 x1
  split at h
  ·rename_i L0 g0 n0 e0
   simp only [Option.some.injEq, Prod.mk.injEq, Bool.and_eq_true] at h
   obtain ⟨rfl, ho0, hw⟩ := h
   obtain ⟨N, hN⟩ := v4x L0 x1 hw
   refine ⟨_, rinW L0 x1, (.cons (asL_le e0 ho0) (.cons (.refl _) .nil)), ?_, w5w L0 x1 N _ hN, 3, ?_⟩
   ·unfold rinW
    rcases Yp (rinP L0 x1) with q | q
    ·rw [q]; exact fun ρ u hu => hu
    ·rw [q]
     unfold Ua
     rw [q]
     exact fun ρ u hu => z1t (.cons (Jn R6) (RLe.refl _)) ρ u hu
   ·unfold rinW
    cases rinP L0 x1 <;> rfl
  ·cases h
 ·cases h
def Fe : Specs := ((Fd.with x3w fRpk).with y7i fRin)
theorem y5z : Zq prog Fe := (v7l (v7j Qy))
end Go.Am
namespace Go.Am
open Go.Proofs Go.Sort Go.Shelf Go.RowKit Go.Lib
namespace Dim
variable {α β : Type} {D : Dim α β}
theorem v6l (hD : D.Fair) (s : List β) (a b x : Int) : D.inn (s.map (D.put a b)) x = if a ≤ x ∧ x < b then s else [] := by
 unfold inn
 have e : (s.map (D.put a b)).filter (fun r => decide (D.lo r ≤ x) && decide (x < D.hi r)) = if a ≤ x ∧ x < b then s.map (D.put a b) else [] := by
  split
  ·rename_i h
   refine List.filter_eq_self.2 fun r hr => ?_
   obtain ⟨c, _, rfl⟩ := List.mem_map.1 hr
   rw [hD.lo_put, hD.hi_put, decide_eq_true h.1, decide_eq_true h.2]; rfl
  ·rename_i h
   refine List.filter_eq_nil_iff.2 fun r hr hq => h ?_
   obtain ⟨c, _, rfl⟩ := List.mem_map.1 hr
   rw [hD.lo_put, hD.hi_put, Bool.and_eq_true] at hq
   exact ⟨of_decide_eq_true hq.1, of_decide_eq_true hq.2⟩
 rw [e]
 split
 ·rw [List.map_map]
  exact (List.map_congr_left fun c _ => hD.pr_put a b c).trans (List.map_id _)
 ·rfl
theorem inn_can (hD : D.Fair) {γ : Type} (M : Sem β γ) (x : Int) : ∀ G : List (Ke β), z0v M G → M.can (D.inn (D.flat G) x)
 | [], _ => M.nil
 | g :: r, h => by
  rw [show D.flat (g :: r) = g.s.map (D.put g.a g.b) ++ D.flat r from rfl, D.inn_append, v6l hD]
  split
  ·rename_i hx
   have e : D.inn (D.flat r) x = [] := by
    unfold inn
    rw [List.map_eq_nil_iff, List.filter_eq_nil_iff]
    intro a ha hq
    obtain ⟨k, hk, ha⟩ := List.mem_flatMap.1 ha
    obtain ⟨c, _, rfl⟩ := List.mem_map.1 ha
    rw [hD.lo_put, Bool.and_eq_true] at hq
    have h1 := of_decide_eq_true hq.1
    have := h.later k hk
    omega
   rw [e, List.append_nil]
   exact h.head.2.1
  ·rw [List.nil_append]
   exact inn_can hD M x r h.tail
end Dim
theorem v8s {L : List R6} (hc : y4e.can L) (hb : ∀ x y z, inS L x y z → (-1000000 ≤ x ∧ x < 1000000) ∧ (-1000000 ≤ y ∧ y < 1000000) ∧ (-1000000 ≤ z ∧ z < 1000000)) : ∀ r ∈ L, Jz r = true := fun r hr => by
 have hp : r.a < r.d ∧ r.b < r.e ∧ r.c < r.f := by
  obtain ⟨G, hG, e⟩ := hc
  rw [e] at hr
  obtain ⟨g, hg, hr⟩ := List.mem_flatMap.1 hr
  obtain ⟨b, hb, rfl⟩ := List.mem_map.1 hr
  obtain ⟨h1, ⟨H, hH, e2⟩, _⟩ := hG.all g hg
  rw [e2] at hb
  obtain ⟨k, hk, hb⟩ := List.mem_flatMap.1 hb
  obtain ⟨c, hc, rfl⟩ := List.mem_map.1 hb
  obtain ⟨h2, h3, _⟩ := hH.all k hk
  exact ⟨h2, Can.pos h3 c hc, h1⟩
 have h1 := hb r.a r.b r.c ⟨r, hr, by omega, by omega, by omega⟩
 have h2 := hb (r.d - 1) (r.e - 1) (r.f - 1) ⟨r, hr, by omega, by omega, by omega⟩
 rw [y2t]
 simp only [y8x, Bool.and_eq_true, decide_eq_true_eq]
 omega
end Go.Am
namespace Go.Am
open Go.Proofs Go.Sort Go.Shelf Go.RowKit Go.Lib
theorem w3q (n : Nat) : y5k n = 0 ∨ y5k n = 4 := by
 unfold y5k
 cases decide ((n : Int) > 400)
 ·exact .inl rfl
 ·exact .inr rfl
theorem slm_04 {M : List R6} (hl : M.length ≤ 400) (hv : ∀ r ∈ M, Jz r = true) : Uh M = 0 ∨ Uh M = 4 := by
 have one : ∀ x, Uo (D6.inn M x) = 0 ∨ Uo (D6.inn M x) = 4 := fun x => by
  have h1 := D6.inn_length M x
  unfold Uo
  rw [decide_eq_false (by omega), List.all_eq_true.2 (x2l hv x), cond_false, cond_true]
  exact w3q _
 have all : ∀ k i, eF M k i = 0 ∨ eF M k i = 4 := fun k => by
  induction k with
  | zero => exact fun _ => .inl rfl
  | succ k ih =>
   intro i
   unfold eF
   cases w4q M (rd (D6.cuts M) i)
   ·exact ih (i + 1)
   ·exact one _
 unfold Uh
 rw [decide_eq_false (by omega), List.all_eq_true.2 hv, cond_false, cond_true]
 cases okF M ((D6.cuts M).length - 1) 0
 ·exact all _ _
 ·exact w3q _
theorem xs_sw (l : List R4) : xsV [] l = xsV l [] := by
 unfold xsV
 rw [show z0e ([] : List R4) = [] from rfl, List.nil_append, List.append_nil]
theorem ys_sw (l : List R4) : ysV [] l = ysV l [] := by
 unfold ysV
 rw [show Kf ([] : List R4) = [] from rfl, List.nil_append, List.append_nil]
theorem sec_sy (l : List R4) (x : Int) : z9u 2 [] l x = z9u 2 l [] x := by
 unfold z9u
 rw [ys_sw]
 congr 1
 exact List.map_congr_left fun y _ => by
  unfold w3o Kz
  show (has4V [] x y || has4V l x y) = (has4V l x y || has4V [] x y)
  exact Bool.or_comm _ _
theorem v6h (l : List R4) : ∀ (k i : Nat) (out : List R4) (last : List R2) (first : Nat), jF 2 [] l k i out last first = jF 2 l [] k i out last first
 | 0, _, _, _, _ => rfl
 | k + 1, i, out, last, first => by
  unfold jF
  rw [xs_sw, sec_sy, v6h l k, v6h l k]
theorem jo_sw (l : List R4) : joV 2 [] l = joV 2 l [] := by
 unfold joV
 rw [xs_sw, v6h]
theorem v2m (l : List R6) : Yi [] l = Yi l [] := by
 unfold Yi
 rw [show z0d ([] : List R6) = [] from rfl, List.nil_append, List.append_nil]
theorem w3u (z : Int) : atV ([] : List R6) z = [] := rfl
theorem x9b (l : List R6) (z : Int) : z4n 2 [] l z = z4n 2 l [] z := by
 unfold z4n
 rw [w3u]
 exact jo_sw _
theorem v5w (l : List R6) (z : Int) : z1g 2 [] l z = z1g 2 l [] z := by
 unfold z1g
 rw [x9b, w3u]
 congr 1
 exact Bool.or_comm _ _
theorem w1y (l : List R6) : ∀ (k i : Nat) (out : List R6) (last : List R4) (first : Nat), jsF 2 [] l k i out last first = jsF 2 l [] k i out last first
 | 0, _, _, _, _ => rfl
 | k + 1, i, out, last, first => by
  unfold jsF
  rw [v2m, v5w, x9b, w1y l k, w1y l k]
theorem jsO_sw (l : List R6) : jsO 2 [] l = jsO 2 l [] := by
 unfold jsO
 rw [v2m, w1y]
theorem js_sw (l : List R6) : Vt 2 [] l = Vt 2 l [] ∧ Vs 2 [] l = Vs 2 l [] := by
 unfold Vt Vs
 rw [jsO_sw]
 exact ⟨rfl, rfl⟩
theorem slm_js {M : List R6} (hl : M.length ≤ 400) (hv : ∀ r ∈ M, Jz r = true) : Uh M = (bif Vs 2 M [] then 0 else 4) ∧ z0g M = (bif Vs 2 M [] then Vt 2 M [] else []) := by
 have hv' := List.all_eq_true.2 hv
 have hj := v1y M hv' hl
 have h4 := slm_04 hl hv
 unfold Vs Vt
 rw [hj]
 rcases Yp (okF M ((D6.cuts M).length - 1) 0) with q | q
 ·have e : Uh M = y5k (D6.out M).length := by
   unfold Uh
   rw [decide_eq_false (by omega), hv', q]; rfl
  unfold z0g
  rw [q, e]
  show y5k _ = (bif decide (((D6.out M).length : Int) ≤ 400) then (0 : Int) else 4) ∧ w2z (y5k _) _ = (bif decide (((D6.out M).length : Int) ≤ 400) then D6.out M else [])
  unfold y5k
  by_cases h : ((D6.out M).length : Int) > 400
  ·rw [Ye h, decide_eq_false (by omega)]; exact ⟨rfl, rfl⟩
  ·rw [Xx h, decide_eq_true (by omega)]; exact ⟨rfl, rfl⟩
 ·have e : Uh M = eF M ((D6.cuts M).length - 1) 0 := by
   unfold Uh
   rw [decide_eq_false (by omega), hv', q]; rfl
  have hne := w8m _ _ q
  rw [← e] at hne
  have e4 : Uh M = 4 := by
   rcases h4 with h | h
   ·rw [h] at hne; cases hne
   ·exact h
  unfold z0g
  rw [q, e4]
  exact ⟨rfl, rfl⟩
theorem y5d {n x : Int} (hn : 1 ≤ n ∧ n ≤ 1000) (hx : -2000000 ≤ x ∧ x ≤ 2000000) : Xd x n = Yj x n := by rw [z6u hn hx, w3c hn hx]
theorem w2n {n d : Int} (hn : 1 ≤ n ∧ n ≤ 1000) (hd : -1000000 ≤ d ∧ d ≤ 1000000) : IntKind.wrap .i64 (Xd (IntKind.wrap .i64 (d - 1)) n + n) = upV d n := by
 rw [Zu (n := d - 1) (by omega), y5d hn (by omega)]
 obtain ⟨⟨i, m1⟩, h1, h2⟩ := Uu (x := d - 1) hn (by omega)
 obtain ⟨m2, h3, h4⟩ := z1y (x := d) hn (by omega)
 rw [Zu (n := Yj (d - 1) n + n) (by omega)]
 have m3 : y3w n (Yj (d - 1) n + n) := ⟨i + 1, by rw [Int.add_mul, Int.one_mul, ← m1]⟩
 have := Ux hn.1 m2 m3 (by omega)
 have := Ux hn.1 m3 m2 (by omega)
 omega
theorem v5i {n : Int} (hn : 1 ≤ n ∧ n ≤ 1000) {r : R6} (h : Jz r = true) : rB n r = oB n r := by
 have v := Wy h
 unfold rB oB
 rw [y5d hn (by omega), y5d hn (by omega), y5d hn (by omega), w2n hn (by omega), w2n hn (by omega), w2n hn (by omega)]
theorem oB_val {n : Int} (hn : 1 ≤ n ∧ n ≤ 1000) {r : R6} (h : Jz r = true) (ho : oOk n r = true) : Jz (oB n r) = true := by
 have v := Wy h
 obtain ⟨_, a1, a2⟩ := Uu (x := r.a) hn (by omega)
 obtain ⟨_, b1, b2⟩ := Uu (x := r.b) hn (by omega)
 obtain ⟨_, c1, c2⟩ := Uu (x := r.c) hn (by omega)
 obtain ⟨_, d1, d2⟩ := z1y (x := r.d) hn (by omega)
 obtain ⟨_, e1, e2⟩ := z1y (x := r.e) hn (by omega)
 obtain ⟨_, f1, f2⟩ := z1y (x := r.f) hn (by omega)
 simp only [oOk, Bool.and_eq_true, Bool.not_eq_true', decide_eq_false_iff_not] at ho
 obtain ⟨o1, o2⟩ := ho
 have i1 := Jj (Yj r.a n) (Yj r.b n)
 have i2 := Jj (Wn (Yj r.a n) (Yj r.b n)) (Yj r.c n)
 have i3 := Ur (upV r.d n) (upV r.e n)
 have i4 := Ur (Wu (upV r.d n) (upV r.e n)) (upV r.f n)
 rw [y2t]
 unfold oB y8x
 dsimp only
 simp only [Bool.and_eq_true, decide_eq_true_eq]
 have j1 : -1000000 ≤ Yj r.a n ∧ -1000000 ≤ Yj r.b n ∧ -1000000 ≤ Yj r.c n := by omega
 have j2 : upV r.d n ≤ 1000000 ∧ upV r.e n ≤ 1000000 ∧ upV r.f n ≤ 1000000 := by omega
 (repeat' apply And.intro) <;> omega
theorem x3i (L : List R6) (n : Int) : z2b L n = z3p L n ∧ Wq L n = Wg L n := by
 unfold z2b Wq rouP z3p Wg v5s
 rw [← z3g L]
 have hk : (Yn L != 0) = !(Yn L == 0) := rfl
 rw [hk]
 rcases Yp (Yn L == 0) with a | a
 ·by_cases b : n < 1
  ·rw [a, decide_eq_true b]; exact ⟨rfl, rfl⟩
  by_cases c : n > 1000
  ·rw [a, decide_eq_true c, decide_eq_false b]; exact ⟨rfl, rfl⟩
  have hn : 1 ≤ n ∧ n ≤ 1000 := by omega
  have hs := Ui (eq_of_beq a)
  have hm : L.map (rB n) = L.map (oB n) := List.map_congr_left fun r hr => v5i hn (hs.2.1 r hr)
  have ho : (L.all fun r => bOk (rB n r)) = L.all (oOk n) := by
   rw [Bool.eq_iff_iff, List.all_eq_true, List.all_eq_true]
   constructor
   ·intro h r hr; have := h r hr; rw [v5i hn (hs.2.1 r hr)] at this; exact this
   ·intro h r hr; rw [v5i hn (hs.2.1 r hr)]; exact h r hr
  rw [a, decide_eq_false b, decide_eq_false c, hm, ho]
  rcases Yp (L.all (oOk n)) with o | o
  ·obtain ⟨j1, j2⟩ := slm_js (M := L.map (oB n)) (by rw [List.length_map]; exact hs.1) (fun r hr => by
    obtain ⟨s, hs', rfl⟩ := List.mem_map.1 hr
    exact oB_val hn (hs.2.1 s hs') (List.all_eq_true.1 o s hs'))
   obtain ⟨s1, s2⟩ := js_sw (L.map (oB n))
   rw [o, s1, s2, j1, j2]
   cases Vs 2 (L.map (oB n)) [] <;> exact ⟨rfl, rfl⟩
  ·rw [o]; exact ⟨rfl, rfl⟩
 ·rw [a]; exact ⟨rfl, rfl⟩
theorem v8n {k : Int} (hk : 0 ≤ k ∧ k ≤ 9) : dbl k.toNat 1 = v5o k ∧ 1 ≤ v5o k ∧ v5o k ≤ 1000 := by
 have : k = 0 ∨ k = 1 ∨ k = 2 ∨ k = 3 ∨ k = 4 ∨ k = 5 ∨ k = 6 ∨ k = 7 ∨ k = 8 ∨ k = 9 := by omega
 rcases this with rfl | rfl | rfl | rfl | rfl | rfl | rfl | rfl | rfl | rfl <;> decide
theorem v0e (L : List R6) (k : Int) : z9x L k = y0e L k ∧ Jr L k = Ju L k := by
 unfold z9x Jr rpkP y0e Ju v5n
 rw [← z3g L]
 by_cases a : k < 0
 ·rw [decide_eq_true a]; cases (Yn L == 0) <;> exact ⟨rfl, rfl⟩
 by_cases b : k > 9
 ·rw [decide_eq_true b]; cases (Yn L == 0) <;> cases decide (k < 0) <;> exact ⟨rfl, rfl⟩
 rw [(v8n ⟨by omega, by omega⟩).1, (x3i L (v5o k)).1, (x3i L (v5o k)).2]
 exact ⟨rfl, rfl⟩
namespace Dim
variable {α β : Type} (D : Dim α β)
theorem refS (hs : ∀ a b, D.same a b = true ↔ a = b) (sec : Int → List β) (cs : List Int) : ∀ (k i : Nat) (s : Sw α β) (out : List α) (last : List β) (first : Nat),
  s.out = out → s.last = last → (last ≠ [] → s.first = first) → (last = [] → out.length ≤ first) → (0 < i → s.fin = rd cs i) → (i = 0 → last = []) →
  (D.goS sec cs k i s).out = D.ref sec cs k i out last first
 | 0, i, s, out, last, first, h1, h2, h3, h4, h5, h6 => h1
 | k + 1, i, s, out, last, first, h1, h2, h3, h4, h5, h6 => by
  subst h1 h2
  have e1 : D.goS sec cs (k + 1) i s = D.goS sec cs k (i + 1) (D.oneS (sec (rd cs i)) (rd cs i) (rd cs (i + 1)) s) := rfl
  rw [e1]
  unfold ref
  rcases Yp (decide (0 < (sec (rd cs i)).length) && ((s.fin == rd cs i) && D.same s.last (sec (rd cs i)))) with q | q
  ·have e : D.oneS (sec (rd cs i)) (rd cs i) (rd cs (i + 1)) s = ⟨D.grow s.out s.first (rd cs (i + 1)), s.last, s.first, rd cs (i + 1)⟩ := by unfold oneS; rw [q]; rfl
   simp only [Bool.and_eq_true, decide_eq_true_eq] at q
   obtain ⟨q1, q2, q3⟩ := q
   have q3 := (hs _ _).1 q3
   have hne : s.last ≠ [] := fun h => by rw [h] at q3; rw [← q3] at q1; exact Nat.lt_irrefl _ q1
   have hi : 0 < i := Nat.pos_of_ne_zero fun h => hne (h6 h)
   have e2 : (decide (0 < i) && D.same (sec (rd cs i)) s.last) = true := by
    rw [decide_eq_true hi, Bool.true_and, hs, q3]
   rw [e2, cond_true, e]
   refine refS hs sec cs k (i + 1) _ _ _ _ ?_ rfl h3 (fun h => absurd h hne) (fun _ => rfl) (fun h => by omega)
   rw [h3 hne]
  ·have e : D.oneS (sec (rd cs i)) (rd cs i) (rd cs (i + 1)) s = ⟨s.out ++ (sec (rd cs i)).map (D.put (rd cs i) (rd cs (i + 1))), sec (rd cs i), s.out.length, rd cs (i + 1)⟩ := by unfold oneS; rw [q]; rfl
   rcases Yp (decide (0 < i) && D.same (sec (rd cs i)) s.last) with q2 | q2
   ·rw [q2, cond_true, e]
    simp only [Bool.and_eq_true, decide_eq_true_eq] at q2
    obtain ⟨hi, q3⟩ := q2
    have q3 := (hs _ _).1 q3
    rw [(hs s.last (sec (rd cs i))).2 q3.symm, Bool.and_true, h5 hi] at q
    have hz : sec (rd cs i) = [] := by
     cases h : sec (rd cs i) with
     | nil => rfl
     | cons a b => rw [h] at q; simp at q
    have hl : s.last = [] := by rw [← q3, hz]
    have hf := h4 hl
    rw [hz, List.map_nil, List.append_nil]
    refine refS hs sec cs k (i + 1) _ _ _ _ ?_ hl.symm (fun h => absurd hl h) (fun _ => ?_) (fun _ => rfl) (fun h => by omega)
    ·exact (D.grow_nil _ _ _ hf).symm
    ·rw [D.grow_length]; exact hf
   ·rw [q2, cond_false, e]
    exact refS hs sec cs k (i + 1) _ _ _ _ rfl rfl (fun _ => rfl) (fun h => by rw [h]; simp) (fun _ => rfl) (fun h => by omega)
theorem refS0 (hs : ∀ a b, D.same a b = true ↔ a = b) (sec : Int → List β) (cs : List Int) : D.ref sec cs (cs.length - 1) 0 [] [] 0 = (D.goS sec cs (cs.length - 1) 0 ⟨[], [], 0, 0⟩).out :=
 (D.refS hs sec cs _ 0 _ [] [] 0 rfl rfl (fun _ => rfl) (fun _ => Nat.le_refl _) (fun h => absurd h (Nat.lt_irrefl _)) (fun _ => rfl)).symm
end Dim
theorem v3v (l : List R4) (hv : l.all z3n = true) (x : Int) : swV (D4.inn l x) = z9u 2 l [] x := by
 have hin := D4.inn_length l x
 have hvi : (D4.inn l x).all z7j = true := List.all_eq_true.2 fun s hs => by
  obtain ⟨r, hr, _, _, rfl⟩ := z4f hs
  have := List.all_eq_true.1 hv r hr
  simp only [z3n, z7j, Bool.and_eq_true, decide_eq_true_eq] at this ⊢
  omega
 obtain ⟨c1, c2⟩ := z9p _ hvi
 obtain ⟨y1, y2⟩ := Vz (Kf l ++ Kf [])
 have e2 : z9u 2 l [] x = z7u (ysV l []) ((ysV l []).map fun y => has4V l x y) := by
  unfold z9u
  congr 1
  exact List.map_congr_left fun y _ => w3n l x y
 obtain ⟨d1, d2⟩ := x4w (ysV l []) y1 (fun y => has4V l x y) (D4.inn l x) (fun s hs => by
  obtain ⟨r, hr, _, _, rfl⟩ := z4f hs
  unfold ysV
  exact ⟨(y2 _).2 (List.mem_append.2 (.inl (List.mem_flatMap.2 ⟨r, hr, by simp⟩))), (y2 _).2 (List.mem_append.2 (.inl (List.mem_flatMap.2 ⟨r, hr, by simp⟩)))⟩) (fun y => by
  unfold has4V
  rw [List.any_eq_true]
  constructor
  ·rintro ⟨r, hr, h⟩
   simp only [in4, Bool.and_eq_true, decide_eq_true_eq] at h
   exact ⟨_, w1q hr h.1 h.2.1, h.2.2.1, h.2.2.2⟩
  ·rintro ⟨s, hs, h1, h2⟩
   obtain ⟨r, hr, r1, r2, rfl⟩ := z4f hs
   refine ⟨r, hr, ?_⟩
   simp only [in4, Bool.and_eq_true, decide_eq_true_eq]
   exact ⟨r1, r2, h1, h2⟩)
 rw [e2]
 exact x4v _ _ c1 d1 fun y => by rw [c2, d2]
theorem v3k : swV [] = [] := by
 obtain ⟨h1, h2⟩ := z9p [] rfl
 exact y3d v3u h1 fun q hq => by
  obtain ⟨s, hs, _⟩ := (h2 q).1 hq
  cases hs
theorem v1z {l : List R4} (hv : ∀ r ∈ l, z3n r = true) : z6d.can (joV 2 l []) ∧ ∀ p, ptL z6d.inB (joV 2 l []) p ↔ ptL z6d.inB l p := by
 have e : joV 2 l [] = (D4.goS (fun x => swV (D4.inn l x)) (D4.cuts (l ++ [])) ((D4.cuts (l ++ [])).length - 1) 0 ⟨[], [], 0, 0⟩).out := by
  rw [List.append_nil, joV, x4g, ← w4l, ← Dim.refS0 D4 z9v]
  congr 1
  funext x
  exact (v3v l (List.all_eq_true.2 hv) x).symm
 rw [e]
 have hs : ∀ x, v3u.can (swV (D4.inn l x)) ∧ ∀ y, ptL v3u.inB (swV (D4.inn l x)) y ↔ ptL v3u.inB (D4.inn l x) y := fun x => z9p _ (w7o hv x)
 obtain ⟨h1, h2⟩ := Dim.goJ_can y6b z9v v3u l [] (fun s _ => swV s) (fun x => (hs x).1) v3k
 refine ⟨h1, fun ⟨x, y⟩ => ?_⟩
 rw [show ptL z6d.inB _ (x, y) ↔ _ from h2 x y, (hs x).2, Dim.pt_inn]
 rfl
def w4n (l : List R6) : List R6 := D6.ref (z4n 2 l []) (D6.cuts l) ((D6.cuts l).length - 1) 0 [] [] 0
theorem jo_nil : joV 2 [] [] = [] := rfl
theorem w5c {l : List R6} (hv : ∀ r ∈ l, Jz r = true) : y4e.can (w4n l) ∧ ∀ x y z, inS (w4n l) x y z ↔ inS l x y z := by
 have e : w4n l = (D6.goS (fun z => joV 2 (D6.inn l z) []) (D6.cuts (l ++ [])) ((D6.cuts (l ++ [])).length - 1) 0 ⟨[], [], 0, 0⟩).out := by
  rw [List.append_nil, ← Dim.refS0 D6 z4q]
  rfl
 rw [e]
 have hq : ∀ z, z6d.can (joV 2 (D6.inn l z) []) ∧ ∀ p, ptL z6d.inB (joV 2 (D6.inn l z) []) p ↔ ptL z6d.inB (D6.inn l z) p := fun z => v1z (x2l hv z)
 obtain ⟨h1, h2⟩ := Dim.goJ_can z1s z4q z6d l [] (fun s _ => joV 2 s []) (fun x => (hq x).1) jo_nil
 refine ⟨h1, fun x y z => ?_⟩
 rw [Kr, Kr, show ptL y4e.inB _ (z, x, y) ↔ _ from h2 z (x, y), (hq z).2, Dim.pt_inn]
 rfl
theorem w9d (a b : List R4) : xsV a b = xsV (a ++ b) [] := by
 unfold xsV z0e
 rw [List.flatMap_append, List.flatMap_nil, List.append_nil]
theorem ys_app (a b : List R4) : ysV a b = ysV (a ++ b) [] := by
 unfold ysV Kf
 rw [List.flatMap_append, List.flatMap_nil, List.append_nil]
theorem v3w (a b : List R4) (x : Int) : z9u 2 a b x = z9u 2 (a ++ b) [] x := by
 unfold z9u
 rw [ys_app]
 congr 1
 exact List.map_congr_left fun y _ => by
  unfold w3o Kz has4V
  rw [List.any_append]
  show (_ || _) = ((_ || _) || false)
  rw [Bool.or_false]
theorem w1z (a b : List R4) : ∀ (k i : Nat) (out : List R4) (last : List R2) (first : Nat), jF 2 a b k i out last first = jF 2 (a ++ b) [] k i out last first
 | 0, _, _, _, _ => rfl
 | k + 1, i, out, last, first => by
  unfold jF
  rw [w9d, v3w, w1z a b k, w1z a b k]
theorem jo_app (a b : List R4) : joV 2 a b = joV 2 (a ++ b) [] := by
 unfold joV
 rw [w9d, w1z]
theorem at_app (a b : List R6) (z : Int) : atV (a ++ b) z = atV a z ++ atV b z := by
 unfold atV
 rw [List.filter_append, List.map_append]
theorem x3c (a b : List R6) (z : Int) : z4n 2 a b z = z4n 2 (a ++ b) [] z := by
 unfold z4n
 rw [jo_app, ← at_app, w3u]
theorem w3i (a b : List R6) : Yi a b = D6.cuts (a ++ b) := by
 rw [x2y]
 unfold Yi z0d
 rw [List.flatMap_append, List.flatMap_nil, List.append_nil]
def okJ (a b : List R6) : Nat → Nat → Bool
 | 0, _ => true
 | k + 1, i => bif z1g 2 a b (rd (D6.cuts (a ++ b)) i) then false else okJ a b k (i + 1)
theorem v6g (a b : List R6) : ∀ (k i : Nat) (out : List R6) (last : List R4) (first : Nat), jsF 2 a b k i out last first = bif okJ a b k i then some (D6.ref (z4n 2 (a ++ b) []) (D6.cuts (a ++ b)) k i out last first) else none
 | 0, _, _, _, _ => rfl
 | k + 1, i, out, last, first => by
  unfold jsF okJ Dim.ref
  rw [w3i]
  rcases Yp (z1g 2 a b (rd (D6.cuts (a ++ b)) i)) with q | q
  ·rw [q]; rfl
  ·rw [q, cond_false, cond_false, x3c, v6g a b k, v6g a b k]
   have e : D6.same (z4n 2 (a ++ b) [] (rd (D6.cuts (a ++ b)) i)) last = Uy (z4n 2 (a ++ b) [] (rd (D6.cuts (a ++ b)) i)) last := rfl
   rw [e]
   cases (decide (0 < i) && Uy (z4n 2 (a ++ b) [] (rd (D6.cuts (a ++ b)) i)) last) <;> rfl
theorem jsO_J (a b : List R6) : jsO 2 a b = bif okJ a b ((D6.cuts (a ++ b)).length - 1) 0 then some (w4n (a ++ b)) else none := by
 unfold jsO
 rw [v6g, w3i]
 rfl
theorem v6f {a b : List R6} (h : Vs 2 a b = true) : Vt 2 a b = w4n (a ++ b) ∧ (w4n (a ++ b)).length ≤ 400 := by
 unfold Vs at h
 unfold Vt
 rw [jsO_J] at h ⊢
 rcases Yp (okJ a b ((D6.cuts (a ++ b)).length - 1) 0) with q | q
 ·rw [q] at h ⊢
  exact ⟨rfl, by have := of_decide_eq_true h; omega⟩
 ·rw [q] at h; cases h
theorem js_ok {a b : List R6} (hm : ∀ z, z1g 2 a b z = false) (hl : (w4n (a ++ b)).length ≤ 400) : Vs 2 a b = true := by
 have ok : ∀ k i, okJ a b k i = true := fun k => by
  induction k with
  | zero => intro i; rfl
  | succ k ih => intro i; unfold okJ; rw [hm]; exact ih (i + 1)
 unfold Vs
 rw [jsO_J, ok]
 exact decide_eq_true (by omega)
def trG {β : Type} (c : Int) : List (Ke β) → List (Ke β)
 | [] => []
 | g :: r => bif decide (g.a < c) then (bif decide (g.b ≤ c) then g :: trG c r else [⟨g.a, c, g.s⟩]) else []
theorem x8k {α β : Type} (D : Dim α β) (c : Int) : ∀ G : List (Ke β), (D.flat (trG c G)).length ≤ (D.flat G).length
 | [] => Nat.le_refl _
 | g :: r => by
  have ih := x8k D c r
  have e : (D.flat (g :: r)).length = g.s.length + (D.flat r).length := by
   show ((g.s.map (D.put g.a g.b)) ++ D.flat r).length = _
   rw [List.length_append, List.length_map]
  rw [e]
  unfold trG
  cases decide (g.a < c)
  ·exact Nat.zero_le _
  ·cases decide (g.b ≤ c)
   ·show ((g.s.map (D.put g.a c)) ++ []).length ≤ _
    rw [List.append_nil, List.length_map]; omega
   ·show ((g.s.map (D.put g.a g.b)) ++ D.flat (trG c r)).length ≤ _
    rw [List.length_append, List.length_map]; omega
theorem x8l {β γ : Type} {M : Sem β γ} (c : Int) : ∀ G : List (Ke β), z0v M G → z0v M (trG c G)
 | [], h => .nil
 | g :: r, h => by
  unfold trG
  by_cases h1 : g.a < c
  ·rw [decide_eq_true h1, cond_true]
   by_cases h2 : g.b ≤ c
   ·rw [decide_eq_true h2, cond_true]
    have ih := x8l c r h.tail
    cases r with
    | nil => exact .one g h.head
    | cons k r =>
     have hn : Nxt g k := by cases h with | cons _ _ _ ok nx kk => exact nx
     unfold trG at ih ⊢
     by_cases h3 : k.a < c
     ·rw [decide_eq_true h3, cond_true] at ih ⊢
      by_cases h4 : k.b ≤ c
      ·rw [decide_eq_true h4, cond_true] at ih ⊢
       exact .cons g k _ h.head hn ih
      ·rw [decide_eq_false h4, cond_false] at ih ⊢
       exact .cons g _ _ h.head hn ih
     ·rw [decide_eq_false h3, cond_false] at ih ⊢
      exact .one g h.head
   ·rw [decide_eq_false h2, cond_false]
    exact .one _ ⟨h1, h.head.2⟩
  ·rw [decide_eq_false h1, cond_false]
   exact .nil
theorem w9f {β γ : Type} {M : Sem β γ} (c : Int) : ∀ G : List (Ke β), z0v M G → ∀ x q, ptG M (trG c G) x q ↔ x < c ∧ ptG M G x q
 | [], h, x, q => ⟨fun ⟨g, hg, _⟩ => (by cases hg), fun ⟨_, g, hg, _⟩ => (by cases hg)⟩
 | g :: r, h, x, q => by
  have ih := w9f c r h.tail x q
  have hp := h.head.1
  unfold trG
  by_cases h1 : g.a < c
  ·rw [decide_eq_true h1, cond_true]
   by_cases h2 : g.b ≤ c
   ·rw [decide_eq_true h2, cond_true, Kv, Kv, ih]
    constructor
    ·rintro (k | k)
     ·exact ⟨by omega, .inl k⟩
     ·exact ⟨k.1, .inr k.2⟩
    ·rintro ⟨k1, k | k⟩
     ·exact .inl k
     ·exact .inr ⟨k1, k⟩
   ·rw [decide_eq_false h2, cond_false, Kv, Kv]
    constructor
    ·rintro (k | ⟨m, hm, _⟩)
     ·dsimp only at k
      exact ⟨by omega, .inl ⟨k.1, by omega, k.2.2⟩⟩
     ·cases hm
    ·rintro ⟨k1, k | k⟩
     ·exact .inl ⟨k.1, k1, k.2.2⟩
     ·exfalso
      obtain ⟨m, hm, k2, _⟩ := k
      have := h.later m hm
      omega
  ·rw [decide_eq_false h1, cond_false]
   constructor
   ·rintro ⟨m, hm, _⟩; cases hm
   ·rintro ⟨k1, k2⟩
    exfalso
    have := h.low k2
    omega
theorem w7b {X : List R6} (hX : y4e.can X) (c : Int) : ∃ Y, y4e.can Y ∧ Y.length ≤ X.length ∧ ∀ x y z, inS Y x y z ↔ z < c ∧ inS X x y z := by
 obtain ⟨G, hG, rfl⟩ := hX
 refine ⟨D6.flat (trG c G), ⟨trG c G, x8l c G hG, rfl⟩, x8k D6 c G, fun x y z => ?_⟩
 rw [Kr, Kr, show ptL y4e.inB (D6.flat (trG c G)) (z, x, y) ↔ ptG z6d (trG c G) z (x, y) from Dim.flat_pt z1s z6d _ _ _, show ptL y4e.inB (D6.flat G) (z, x, y) ↔ ptG z6d G z (x, y) from Dim.flat_pt z1s z6d _ _ _]
 exact w9f c G hG z (x, y)
theorem y5l {X Y : List R6} (hX : y4e.can X) (hY : y4e.can Y) (h : ∀ x y z, inS X x y z ↔ inS Y x y z) : X = Y :=
 y4e.uniq X Y hX hY fun ⟨z, x, y⟩ => by rw [← Kr, ← Kr]; exact h x y z
theorem x1h (l : List R6) (x y z : Int) : ptL z6d.inB (D6.inn l z) (x, y) ↔ inS l x y z := by
 rw [Kr, Dim.pt_inn]
 rfl
theorem x9a {X l : List R6} {z : Int} (hX : y4e.can X) (hv : ∀ r ∈ l, Jz r = true) (h : (∀ x y, inS l x y z ↔ inS X x y z) ∨ ∀ x y, ¬ inS l x y z) : (joV 2 (atV l z) []).length ≤ X.length := by
 obtain ⟨h1, h2⟩ := v1z (x2l hv z)
 rcases h with h | h
 ·obtain ⟨G, hG, e⟩ := hX
  have : joV 2 (D6.inn l z) [] = D6.inn X z := z6d.uniq _ _ h1 (by rw [e]; exact Dim.inn_can z1s z6d z G hG) fun ⟨x, y⟩ => by
   rw [h2, x1h, x1h]; exact h x y
  show (joV 2 (D6.inn l z) []).length ≤ _
  rw [this]
  exact D6.inn_length X z
 ·have : joV 2 (D6.inn l z) [] = [] := y3d z6d h1 fun ⟨x, y⟩ hq => h x y ((x1h l x y z).1 ((h2 (x, y)).1 hq))
  show (joV 2 (D6.inn l z) []).length ≤ _
  rw [this]
  exact Nat.zero_le _
end Go.Am
namespace Go.Am
open Go.Proofs Go.Sort Go.Shelf Go.RowKit Go.Lib
theorem pa1_cg {r B : R6} : Cg (pa1 r B) (ov B r) := by
 rw [v5q]
 have e1 := Jj r.d B.d
 have e2 := Ur r.a B.a
 have e3 := Jj r.e B.e
 have e4 := Ur r.b B.b
 have e5 := Jj r.f B.f
 have e6 := Ur r.c B.c
 unfold pa1
 by_cases h1 : Wu r.a B.a ≥ Wn r.d B.d
 ·rw [w3d h1, cond_true, show ov r B = 0 by
   unfold ov
   rw [show ovl r.a r.d B.a B.d = 0 by unfold ovl; omega, Int.zero_mul, Int.zero_mul]]
  exact Cg.refl 0
 ·rw [v8m h1, cond_false]
  by_cases h2 : Wu r.b B.b ≥ Wn r.e B.e
  ·rw [w3d h2, cond_true, show ov r B = 0 by
    unfold ov
    rw [show ovl r.b r.e B.b B.e = 0 by unfold ovl; omega, Int.mul_zero, Int.zero_mul]]
   exact Cg.refl 0
  ·rw [v8m h2, cond_false]
   by_cases h3 : Wu r.c B.c ≥ Wn r.f B.f
   ·rw [w3d h3, cond_true, show ov r B = 0 by
     unfold ov
     rw [show ovl r.c r.f B.c B.f = 0 by unfold ovl; omega, Int.mul_zero]]
    exact Cg.refl 0
   ·rw [v8m h3, cond_false]
    unfold ov
    rw [show ovl r.a r.d B.a B.d = Wn r.d B.d - Wu r.a B.a by unfold ovl; omega, show ovl r.b r.e B.b B.e = Wn r.e B.e - Wu r.b B.b by unfold ovl; omega, show ovl r.c r.f B.c B.f = Wn r.f B.f - Wu r.c B.c by unfold ovl; omega]
    exact ((Cg.mul (Cg.wrap _) (Cg.wrap _)).w.mul (Cg.wrap _)).w
theorem v1b {B : R6} : ∀ (L : List R6) (s s' : Int), Cg s s' → Cg (paF B L s) (s' + sm L fun r => ov B r)
 | [], s, s', h => by rw [z1v, Int.add_zero]; exact h
 | r :: L, s, s', h => by
  have := v1b (B := B) L _ _ (h.add (pa1_cg (r := r) (B := B))).w
  rw [We, ← Int.add_assoc]
  exact this
theorem v1a {B : R6} : ∀ (L : List R6) (s : Int), (-9223372036854775808 ≤ s ∧ s ≤ 9223372036854775807) → -9223372036854775808 ≤ paF B L s ∧ paF B L s ≤ 9223372036854775807
 | [], s, h => h
 | r :: L, s, _ => v1a L _ (y3z _)
theorem par_eq {L : List R6} (hL : Sol L) {B : R6} (hB : Jz B = true) : parV L B.a B.b B.c B.d B.e B.f = S2 [B] L := by
 have hb := bx_le hB
 have hm := x2x (z1e hB) hL
 rw [We, z1v, Int.add_zero] at hm
 have hnn : 0 ≤ S2 [B] L := y8t _ _
 have hc := v1b (B := B) L 0 0 (Cg.refl 0)
 rw [Int.zero_add, show (sm L fun r => ov B r) = S2 [B] L by unfold S2; rw [We, z1v, Int.add_zero]] at hc
 exact hc.is (v1a L 0 (by omega)) (by omega)
theorem w0y {B : R6} {x y z : Int} : inS [B] x y z ↔ pin B x y z := ⟨fun ⟨r, hr, h⟩ => by rw [List.mem_singleton.1 hr] at h; exact h, fun h => ⟨B, List.mem_singleton_self _, h⟩⟩
def hld (h c : R6) : Prop := (h.a ≤ c.a ∧ c.d ≤ h.d) ∧ (h.b ≤ c.b ∧ c.e ≤ h.e) ∧ h.c ≤ c.c ∧ c.f ≤ h.f
theorem y7t {a b c : R6} (h : hld a b) (k : hld b c) : hld a c := by unfold hld at *; omega
theorem w2i : ∀ (l : List R6) (h : R6), hld (huF l h) h ∧ ∀ c ∈ l, hld (huF l h) c
 | [], h => ⟨by unfold hld huF; omega, fun c hc => by cases hc⟩
 | r :: l, h => by
  obtain ⟨k1, k2⟩ := w2i l ⟨Wn h.a r.a, Wn h.b r.b, Wn h.c r.c, Wu h.d r.d, Wu h.e r.e, Wu h.f r.f⟩
  have e1 := Jj h.a r.a
  have e2 := Jj h.b r.b
  have e3 := Jj h.c r.c
  have e4 := Ur h.d r.d
  have e5 := Ur h.e r.e
  have e6 := Ur h.f r.f
  rw [huF]
  refine ⟨y7t k1 (by unfold hld; dsimp only; omega), fun c hc => ?_⟩
  rcases List.mem_cons.1 hc with rfl | hc
  ·exact y7t k1 (by unfold hld; dsimp only; omega)
  ·exact k2 c hc
theorem y0y {L : List R6} : ∀ c ∈ L, hld (Wd L) c := fun c hc => by
 unfold Wd
 cases L with
 | nil => cases hc
 | cons r l =>
  obtain ⟨k1, k2⟩ := w2i l r
  rcases List.mem_cons.1 hc with rfl | hc
  ·exact k1
  ·exact k2 c hc
theorem v2f {W : R6} : ∀ (l : List R6) (h : R6), hld W h → (∀ c ∈ l, hld W c) → hld W (huF l h)
 | [], h, k, _ => k
 | r :: l, h, k, hl => by
  have k2 := hl r (by simp)
  have e1 := Jj h.a r.a
  have e2 := Jj h.b r.b
  have e3 := Jj h.c r.c
  have e4 := Ur h.d r.d
  have e5 := Ur h.e r.e
  have e6 := Ur h.f r.f
  rw [huF]
  refine v2f l _ ?_ fun c hc => hl c (by simp [hc])
  unfold hld at *
  dsimp only
  omega
def wiT (L : List R6) (n x y z : Int) : Prop := ∀ s, cel n x ≤ s → s < cel n x + n → ∀ t, cel n y ≤ t → t < cel n y + n → ∀ u, cel n z ≤ u → u < cel n z + n → inS L s t u
theorem x8f {L : List R6} {n x y z : Int} (hn : 1 ≤ n) (h : wiT L n x y z) : inS L x y z := by
 obtain ⟨_, a1, a2⟩ := Xv hn x
 obtain ⟨_, b1, b2⟩ := Xv hn y
 obtain ⟨_, c1, c2⟩ := Xv hn z
 exact h x a1 a2 y b1 b2 z c1 c2
theorem x4a {n y : Int} (h : y3w n y) : y3w n (y + n) := by
 obtain ⟨k, rfl⟩ := h
 exact ⟨k + 1, by rw [Int.add_mul, Int.one_mul]⟩
theorem z9h {n v y : Int} (hn : 1 ≤ n) (hv : y3w n v) (h1 : v ≤ y) (h2 : y < v + n) : cel n y = v := by
 obtain ⟨m, a1, a2⟩ := Xv hn y
 have := Ux hn m hv (by omega)
 have := Ux hn hv m (by omega)
 omega
theorem y0l {n e : Int} (hn : 1 ≤ n) : ∀ (k : Nat) (y v : Int), e - y ≤ k → y3w n y → (v ∈ stp n e k y ↔ y3w n v ∧ y ≤ v ∧ v < e)
 | 0, y, v, hk, hm => by
  simp only [stp, List.not_mem_nil, false_iff]
  rintro ⟨_, h1, h2⟩
  omega
 | k + 1, y, v, hk, hm => by
  unfold stp
  by_cases c : y < e
  ·rw [decide_eq_true c, cond_true, List.mem_cons, y0l hn k (y + n) v (by omega) (x4a hm)]
   constructor
   ·rintro (rfl | ⟨h1, h2, h3⟩)
    ·exact ⟨hm, Int.le_refl _, c⟩
    ·exact ⟨h1, by omega, h3⟩
   ·rintro ⟨h1, h2, h3⟩
    by_cases q : v < y + n
    ·have := Ux hn h1 hm q
     exact .inl (by omega)
    ·exact .inr ⟨h1, by omega, h3⟩
  ·rw [decide_eq_false c, cond_false]
   simp only [List.not_mem_nil, false_iff]
   rintro ⟨_, h1, h2⟩
   omega
theorem w8w {n x y z : Int} (hn : 1 ≤ n ∧ n ≤ 1000) (hx : -50000 ≤ x ∧ x ≤ 50000) (hy : -50000 ≤ y ∧ y ≤ 50000) (hz : -50000 ≤ z ∧ z ≤ 50000) : cB n x y z = ⟨x, y, z, x + n, y + n, z + n⟩ ∧ Jz ⟨x, y, z, x + n, y + n, z + n⟩ = true := by
 refine ⟨?_, ?_⟩
 ·unfold cB
  rw [Zu (n := x + n) (by omega), Zu (n := y + n) (by omega), Zu (n := z + n) (by omega)]
 ·rw [y2t]
  unfold y8x
  dsimp only
  simp only [Bool.and_eq_true, decide_eq_true_eq]
  omega
theorem v2t {L : List R6} (hL : Sol L) {n x y z : Int} (hn : 1 ≤ n ∧ n ≤ 1000) (hx : -50000 ≤ x ∧ x ≤ 50000) (hy : -50000 ≤ y ∧ y ≤ 50000) (hz : -50000 ≤ z ∧ z ≤ 50000) : cF L n x y z = true ↔ ∀ s t u, pin ⟨x, y, z, x + n, y + n, z + n⟩ s t u → inS L s t u := by
 obtain ⟨_, hB⟩ := w8w hn hx hy hz
 have hq1 : n * n ≤ 1000 * 1000 := Int.mul_le_mul (by omega) (by omega) (by omega) (by omega)
 have hq0 : 0 ≤ n * n := Int.mul_nonneg (by omega) (by omega)
 have hq2 : n * n * n ≤ 1000 * 1000 * 1000 := Int.mul_le_mul hq1 (by omega) (by omega) (by omega)
 have hq3 : 0 ≤ n * n * n := Int.mul_nonneg hq0 (by omega)
 have hp := par_eq hL hB
 simp only at hp
 have hbx : bxV ⟨x, y, z, x + n, y + n, z + n⟩ = n * n * n := by
  unfold bxV
  simp only
  rw [show x + n - x = n by omega, show y + n - y = n by omega, show z + n - z = n by omega]
 obtain ⟨p, hpp⟩ := x3p
 have hvol : w9e [⟨x, y, z, x + n, y + n, z + n⟩] = n * n * n := by
  rw [y8y hpp (z1e hB), ← x2z hpp (z1e hB), We, z1v, Int.add_zero, hbx]
 have hm := x2x (z1e hB) hL
 rw [We, z1v, Int.add_zero, hbx] at hm
 have hal := v2x (z1e hB) hL
 rw [hvol] at hal
 unfold cF
 rw [Zu (n := x + n) (by omega), Zu (n := y + n) (by omega), Zu (n := z + n) (by omega), Zu (n := n * n) (by omega), Zu (n := n * n * n) (by omega), hp, decide_eq_true_iff]
 constructor
 ·intro h s t u k
  exact hal.1 (by omega) s t u (w0y.2 k)
 ·intro h
  have := hal.2 fun s t u k => h s t u (w0y.1 k)
  omega
section
variable {L : List R6} {n : Int} (hL : Sol L) (hn : 1 ≤ n ∧ n ≤ 1000) (hh : smH (Wd L) = true)
include hL hn hh
theorem x0v {z : Int} (hz : -40000 ≤ z ∧ z ≤ 40000) (r : R6) : r ∈ lyC L n (Wd L) z ↔ ∃ x y, (y3w n x ∧ cel n (Wd L).a ≤ x ∧ x < (Wd L).d) ∧ (y3w n y ∧ cel n (Wd L).b ≤ y ∧ y < (Wd L).e) ∧ cF L n x y z = true ∧ r = cB n x y z := by
 have h' := hh
 simp only [smH, Bool.and_eq_true, decide_eq_true_eq] at h'
 obtain ⟨ma, a1, a2⟩ := Xv hn.1 (Wd L).a
 obtain ⟨mb, b1, b2⟩ := Xv hn.1 (Wd L).b
 have _u := hL
 unfold lyC x9t
 rw [z6u hn (by omega), z6u hn (by omega)]
 simp only [List.mem_flatMap, List.mem_map, List.mem_filter]
 constructor
 ·rintro ⟨x, hx, y, ⟨hy, hf⟩, rfl⟩
  exact ⟨x, y, (y0l hn.1 _ _ _ (by omega) ma).1 hx, (y0l hn.1 _ _ _ (by omega) mb).1 hy, hf, rfl⟩
 ·rintro ⟨x, y, hx, hy, hf, rfl⟩
  exact ⟨x, (y0l hn.1 _ _ _ (by omega) ma).2 hx, y, ⟨(y0l hn.1 _ _ _ (by omega) mb).2 hy, hf⟩, rfl⟩
theorem w1s {z : Int} (hz : -40000 ≤ z ∧ z ≤ 40000) : ∀ r ∈ lyC L n (Wd L) z, Jz r = true := fun r hr => by
 have h' := hh
 simp only [smH, Bool.and_eq_true, decide_eq_true_eq] at h'
 obtain ⟨ma, a1, a2⟩ := Xv hn.1 (Wd L).a
 obtain ⟨mb, b1, b2⟩ := Xv hn.1 (Wd L).b
 obtain ⟨x, y, hx, hy, _, rfl⟩ := (x0v hL hn hh hz r).1 hr
 obtain ⟨e, v⟩ := w8w (n := n) (x := x) (y := y) (z := z) hn (by omega) (by omega) (by omega)
 rw [e]; exact v
theorem v6a {z : Int} (hz : -40000 ≤ z ∧ z ≤ 40000) (hm : y3w n z) (x y w : Int) : inS (lyC L n (Wd L) z) x y w ↔ (z ≤ w ∧ w < z + n) ∧ wiT L n x y w := by
 have h' := hh
 simp only [smH, Bool.and_eq_true, decide_eq_true_eq] at h'
 obtain ⟨ma, a1, a2⟩ := Xv hn.1 (Wd L).a
 obtain ⟨mb, b1, b2⟩ := Xv hn.1 (Wd L).b
 constructor
 ·rintro ⟨r, hr, p1, p2, p3⟩
  obtain ⟨x', y', hx, hy, hf, rfl⟩ := (x0v hL hn hh hz r).1 hr
  obtain ⟨e, v⟩ := w8w (n := n) (x := x') (y := y') (z := z) hn (by omega) (by omega) (by omega)
  rw [e] at p1 p2 p3
  dsimp only at p1 p2 p3
  have q := (v2t hL hn (x := x') (y := y') (z := z) (by omega) (by omega) (by omega)).1 hf
  refine ⟨p3, fun s s1 s2 t t1 t2 u u1 u2 => q s t u ?_⟩
  rw [z9h hn.1 hx.1 p1.1 p1.2] at s1 s2
  rw [z9h hn.1 hy.1 p2.1 p2.2] at t1 t2
  rw [z9h hn.1 hm p3.1 p3.2] at u1 u2
  exact ⟨⟨s1, s2⟩, ⟨t1, t2⟩, u1, u2⟩
 ·rintro ⟨hw, h⟩
  obtain ⟨r, hr, p1, p2, p3⟩ := x8f hn.1 h
  obtain ⟨q1, q2, q3⟩ := y0y r hr
  obtain ⟨mx, x1, x2⟩ := Xv hn.1 x
  obtain ⟨my, y1, y2⟩ := Xv hn.1 y
  have lx := Ux hn.1 ma mx (by omega)
  have ly := Ux hn.1 mb my (by omega)
  have cw := z9h hn.1 hm hw.1 hw.2
  refine ⟨cB n (cel n x) (cel n y) z, (x0v hL hn hh hz _).2 ⟨cel n x, cel n y, ⟨mx, lx, by omega⟩, ⟨my, ly, by omega⟩, ?_, rfl⟩, ?_⟩
  ·refine (v2t hL hn (x := cel n x) (y := cel n y) (z := z) (by omega) (by omega) (by omega)).2 fun s t u ⟨k1, k2, k3⟩ => ?_
   dsimp only at k1 k2 k3
   exact h s k1.1 k1.2 t k2.1 k2.2 u (by rw [cw]; exact k3.1) (by rw [cw]; exact k3.2)
  ·obtain ⟨e, v⟩ := w8w (n := n) (x := cel n x) (y := cel n y) (z := z) hn (by omega) (by omega) (by omega)
   rw [e]
   exact ⟨⟨x1, x2⟩, ⟨y1, y2⟩, hw⟩
end
theorem v6s (a b : List R6) (x y z : Int) : inS (a ++ b) x y z ↔ inS a x y z ∨ inS b x y z := by
 rw [Kr, Kr, Kr]; exact x6i _ _ _ _
structure Low (X out : List R6) (z : Int) : Prop where
 can : y4e.can out
 val : ∀ r ∈ out, Jz r = true
 pts : ∀ x y w, inS out x y w ↔ w < z ∧ inS X x y w
section
variable {L X : List R6} {n : Int} (hL : Sol L) (hn : 1 ≤ n ∧ n ≤ 1000) (hh : smH (Wd L) = true) (hX : y4e.can X) (hp : ∀ x y z, inS X x y z ↔ wiT L n x y z)
include hL hn hh hX hp
theorem w7a {z : Int} (hz : -40000 ≤ z ∧ z ≤ 40000) (hm : y3w n z) {out : List R6} (hl : Low X out z) : Low X (w4n (out ++ lyC L n (Wd L) z)) (z + n) ∧ (X.length ≤ 400 → Vs 2 out (lyC L n (Wd L) z) = true) := by
 have hv : ∀ r ∈ out ++ lyC L n (Wd L) z, Jz r = true := fun r hr => (List.mem_append.1 hr).elim (hl.val r) (w1s hL hn hh hz r)
 obtain ⟨c1, c2⟩ := w5c hv
 have hy := v6a hL hn hh hz hm
 have ha : ∀ x y w, inS (out ++ lyC L n (Wd L) z) x y w ↔ w < z + n ∧ inS X x y w := fun x y w => by
  rw [v6s, hl.pts, hy, ← hp]
  constructor
  ·rintro (⟨k1, k2⟩ | ⟨k1, k2⟩)
   ·exact ⟨by omega, k2⟩
   ·exact ⟨k1.2, k2⟩
  ·rintro ⟨k1, k2⟩
   by_cases q : w < z
   ·exact .inl ⟨q, k2⟩
   ·exact .inr ⟨⟨by omega, k1⟩, k2⟩
 have hq : ∀ x y w, inS (w4n (out ++ lyC L n (Wd L) z)) x y w ↔ w < z + n ∧ inS X x y w := fun x y w => (c2 x y w).trans (ha x y w)
 refine ⟨⟨c1, v8s c1 fun x y w k => hL.bnd (x8f hn.1 ((hp x y w).1 ((hq x y w).1 k).2)), hq⟩, fun h400 => js_ok (fun w => ?_) ?_⟩
 ·have s1 : (joV 2 (atV (out ++ lyC L n (Wd L) z) w) []).length ≤ X.length := x9a hX hv (by
   by_cases q : w < z + n
   ·exact .inl fun x y => (ha x y w).trans ⟨fun k => k.2, fun k => ⟨q, k⟩⟩
   ·exact .inr fun x y k => q ((ha x y w).1 k).1)
  have s2 : (joV 2 (atV out w) []).length ≤ X.length := x9a hX hl.val (by
   by_cases q : w < z
   ·exact .inl fun x y => (hl.pts x y w).trans ⟨fun k => k.2, fun k => ⟨q, k⟩⟩
   ·exact .inr fun x y k => q ((hl.pts x y w).1 k).1)
  have s3 : (joV 2 (atV (lyC L n (Wd L) z) w) []).length ≤ X.length := x9a hX (w1s hL hn hh hz) (by
   by_cases q : z ≤ w ∧ w < z + n
   ·exact .inl fun x y => (hy x y w).trans ⟨fun k => (hp x y w).2 k.2, fun k => ⟨q, (hp x y w).1 k⟩⟩
   ·exact .inr fun x y k => q ((hy x y w).1 k).1)
  unfold z1g
  rw [x3c, show z4n 2 (out ++ lyC L n (Wd L) z) [] w = joV 2 (atV (out ++ lyC L n (Wd L) z) w) [] from rfl, decide_eq_false (by omega), decide_eq_false (by omega), decide_eq_false (by omega)]; rfl
 ·obtain ⟨Y, y1, y2, y3⟩ := w7b hX (z + n)
  have : w4n (out ++ lyC L n (Wd L) z) = Y := y5l c1 y1 fun x y w => (hq x y w).trans (y3 x y w).symm
  rw [this]; omega
theorem x3j : ∀ (k : Nat) (z : Int) (out : List R6), (Wd L).f - z ≤ k → y3w n z → -30000 ≤ z → z ≤ 30000 → Low X out z → out.length ≤ 400 → (X.length ≤ 400 → (riF L n (Wd L) k z out).isSome = true) ∧ ∀ o, riF L n (Wd L) k z out = some o → o.length ≤ 400 ∧ ∃ z', (Wd L).f ≤ z' ∧ Low X o z'
 | 0, z, out, hk, hm, h1, h2, hl, ho => by
  refine ⟨fun _ => rfl, fun o e => ?_⟩
  have e : some out = some o := e
  injection e with e
  subst e
  exact ⟨ho, z, by omega, hl⟩
 | k + 1, z, out, hk, hm, h1, h2, hl, ho => by
  have h' := hh
  simp only [smH, Bool.and_eq_true, decide_eq_true_eq] at h'
  unfold riF
  by_cases c : z < (Wd L).f
  ·rw [decide_eq_true c, cond_true]
   obtain ⟨l1, l2⟩ := w7a hL hn hh hX hp (by omega) hm hl
   rcases Yp (Vs 2 out (lyC L n (Wd L) z)) with q | q
   ·obtain ⟨j1, j2⟩ := v6f q
    rw [q, cond_true, j1]
    exact x3j k (z + n) _ (by omega) (x4a hm) (by omega) (by omega) l1 j2
   ·rw [q]
    refine ⟨fun h => ?_, fun o e => by cases e⟩
    rw [l2 h] at q; cases q
  ·rw [decide_eq_false c]
   refine ⟨fun _ => rfl, fun o e => ?_⟩
   have e : some out = some o := e
   injection e with e
   subst e
   exact ⟨ho, z, by omega, hl⟩
theorem v4y : v4z L n = bif decide (X.length ≤ 400) then some X else none := by
 have h' := hh
 simp only [smH, Bool.and_eq_true, decide_eq_true_eq] at h'
 obtain ⟨m, a1, a2⟩ := Xv hn.1 (Wd L).c
 have inh : ∀ x y w, inS X x y w → (Wd L).c ≤ w ∧ w < (Wd L).f := fun x y w k => by
  obtain ⟨r, hr, p1, p2, p3⟩ := x8f hn.1 ((hp x y w).1 k)
  obtain ⟨q1, q2, q3⟩ := y0y r hr
  omega
 have lnil : Low X [] (cel n (Wd L).c) := ⟨y4e.nil, fun r hr => (by cases hr), fun x y w => ⟨fun ⟨r, hr, _⟩ => (by cases hr), fun ⟨k1, k2⟩ => by
  exfalso
  have := inh x y w k2
  omega⟩⟩
 unfold v4z
 rw [z6u hn (by omega)]
 obtain ⟨r1, r2⟩ := x3j hL hn hh hX hp ((Wd L).f - cel n (Wd L).c).toNat (cel n (Wd L).c) [] (by omega) m (by omega) (by omega) lnil (Nat.zero_le _)
 have fin : ∀ o, riF L n (Wd L) ((Wd L).f - cel n (Wd L).c).toNat (cel n (Wd L).c) [] = some o → o = X ∧ o.length ≤ 400 := fun o e => by
  obtain ⟨o1, z', o2, o3⟩ := r2 o e
  exact ⟨y5l o3.can hX fun x y w => (o3.pts x y w).trans ⟨fun k => k.2, fun k => ⟨by have := inh x y w k; omega, k⟩⟩, o1⟩
 by_cases q : X.length ≤ 400
 ·rw [decide_eq_true q, cond_true]
  have := r1 q
  cases e : riF L n (Wd L) ((Wd L).f - cel n (Wd L).c).toNat (cel n (Wd L).c) [] with
  | none => rw [e] at this; cases this
  | some o => rw [(fin o e).1]
 ·rw [decide_eq_false q, cond_false]
  cases e : riF L n (Wd L) ((Wd L).f - cel n (Wd L).c).toNat (cel n (Wd L).c) [] with
  | none => rfl
  | some o =>
   exfalso
   obtain ⟨f1, f2⟩ := fin o e
   rw [f1] at f2
   exact q f2
end
theorem okX_t {β : Type} {S : Int → Int → List β} {cs : List Int} : ∀ (k i : Nat), (∀ j, i ≤ j → j < i + k → (S (rd cs j) (rd cs (j + 1))).length ≤ 400) → okX S cs k i = true
 | 0, i, _ => rfl
 | k + 1, i, h => by
  unfold okX
  rw [Xx (by have := h i (Nat.le_refl _) (by omega); omega), cond_false]
  exact okX_t k (i + 1) fun j h1 h2 => h j (by omega) (by omega)
theorem v6p {L : List R6} (h : Sml L) {n : Int} (hn : 1 ≤ n ∧ n ≤ 1000) {j : Nat} (hj : j + 1 < (rnC R6.c R6.f n L).length) : (y6c L n (rd (rnC R6.c R6.f n L) j) (rd (rnC R6.c R6.f n L) (j + 1))).length ≤ (y3g L n).length := by
 have hc := z0i R6.c R6.f n L
 have hb := h.bc
 have one : ∀ j, j + 1 < (rnC R6.c R6.f n L).length → z6d.can (y6c L n (rd (rnC R6.c R6.f n L) j) (rd (rnC R6.c R6.f n L) (j + 1))) := fun j hj => by
  obtain ⟨m1, a1, a2⟩ := Qa hn hb (z5b (show j < (rnC R6.c R6.f n L).length by omega))
  obtain ⟨m2, b1, b2⟩ := Qa hn hb (z5b hj)
  have hlt : rd (rnC R6.c R6.f n L) j < rd (rnC R6.c R6.f n L) (j + 1) := Qr hc (Nat.lt_succ_self j) hj
  exact (w1u (h.sub (y1l R6.c R6.f L (rd (rnC R6.c R6.f n L) j) (rd (rnC R6.c R6.f n L) (j + 1)))) hn (a := rd (rnC R6.c R6.f n L) j) (b := rd (rnC R6.c R6.f n L) (j + 1)) (by omega)).1
 obtain ⟨r1, r2⟩ := x1l z1s z4q z6d (S := y6c L n) hc fun j hj => one j hj
 have r1 : y4e.can (y3g L n) := r1
 obtain ⟨G, hG, e⟩ := r1
 have : y6c L n (rd (rnC R6.c R6.f n L) j) (rd (rnC R6.c R6.f n L) (j + 1)) = D6.inn (y3g L n) (rd (rnC R6.c R6.f n L) j) := z6d.uniq _ _ (one j hj) (by rw [e]; exact Dim.inn_can z1s z6d _ G hG) fun q => by
  rw [Dim.pt_inn, show ptL (D6.inA z6d.inB) (y3g L n) (rd (rnC R6.c R6.f n L) j, q) ↔ _ from r2 (rd (rnC R6.c R6.f n L) j) q]
  constructor
  ·exact fun k => ⟨j, hj, Int.le_refl _, Qr hc (Nat.lt_succ_self j) hj, k⟩
  ·rintro ⟨i, i1, i2, i3, i4⟩
   have : i = j := by
    rcases Nat.lt_trichotomy i j with k | k | k
    ·exfalso
     rcases Nat.eq_or_lt_of_le k with q | q
     ·rw [← q] at i3
      exact absurd i3 (by rw [show i.succ = i + 1 from rfl]; omega)
     ·have := Qr hc (i := i + 1) (j := j) q (by omega)
      omega
    ·exact k
    ·exfalso
     have := Qr hc (i := j) (j := i) k (by omega)
     omega
   subst this
   exact i4
 rw [this]
 exact D6.inn_length _ _
theorem v6o {L : List R6} (h0 : Yn L = 0) (h : Sml L) {n : Int} (hn : 1 ≤ n ∧ n ≤ 1000) : Jt L n = (bif decide ((y3g L n).length ≤ 400) then 0 else 4) ∧ Uv L n = (bif decide ((y3g L n).length ≤ 400) then y3g L n else []) := by
 have key : Jt L n = (bif decide ((y3g L n).length ≤ 400) then 0 else 4) := by
  unfold Jt
  rw [h0, Zr (show ¬ n < 1 by omega), Xx (show ¬ n > 1000 by omega)]
  show (bif okX (y6c L n) (rnC R6.c R6.f n L) ((rnC R6.c R6.f n L).length - 1) 0 then y5k (y3g L n).length else 4) = _
  by_cases q : (y3g L n).length ≤ 400
  ·rw [okX_t _ 0 fun j h1 h2 => Nat.le_trans (v6p h hn (by omega)) q, decide_eq_true q]
   unfold y5k
   rw [Xx (by omega)]; rfl
  ·rw [decide_eq_false q]
   unfold y5k
   rw [Ye (by omega)]
   cases okX (y6c L n) (rnC R6.c R6.f n L) ((rnC R6.c R6.f n L).length - 1) 0 <;> rfl
 refine ⟨key, ?_⟩
 unfold Uv
 rw [key]
 cases decide ((y3g L n).length ≤ 400) <;> rfl
end Go.Am
namespace Go.Am
open Go.Proofs.Tryz
open Go.Proofs
inductive dclS where
def dclC (l0 : List R6) (x1 : Int) (x2 : Int) : dclS → Cfg
 := nofun
def x2a (l0 : List R6) (x1 : Int) (x2 : Int) : dclS → Wa dclS
 := nofun
def z9g (l0 : List R6) (x1 : Int) (x2 : Int) : Wa dclS := (bif (z3a (cvT l0)) then (bif (!(y2j (cvT l0))) then (.ret [(.bool true)]) else (bif (decide ((0 + l0.length + 1) * (48 + 1) ≤ Jy)) then (bif (z2h (cvT l0) x1) then (bif (z2a (cvT l0) x1) then (bif (y0w (cvT l0) x1) then (bif (z0k (cvT l0) x1) then (bif (y0d (cvT l0) x2) then (bif (z9w (cvT l0) x2) then (bif (Xs (cvT (Wg (cvT l0) x1)) (cvT (Wq (cvT l0) x1))) then (bif (Uz (cvT (Wg (cvT l0) x1)) (cvT (Wq (cvT l0) x1))) then (bif ((z3p (cvT l0) x1) == (z2b (cvT l0) x1)) then (bif (Xs (cvT (Uv (cvT l0) x1)) (cvT (Ua (cvT l0) x1))) then (bif (Uz (cvT (Uv (cvT l0) x1)) (cvT (Ua (cvT l0) x1))) then (bif ((Jt (cvT l0) x1) == (z9z (cvT l0) x1)) then (bif (Xs (cvT (Ju (cvT l0) x2)) (cvT (Jr (cvT l0) x2))) then (bif (Uz (cvT (Ju (cvT l0) x2)) (cvT (Jr (cvT l0) x2))) then (bif ((y0e (cvT l0) x2) == (z9x (cvT l0) x2)) then (bif (Xs (cvT l0) (cvT l0)) then (.ret [(.bool (Uz (cvT l0) (cvT l0)))]) else .stuck) else (.ret [(.bool false)])) else (.ret [(.bool false)])) else .stuck) else (.ret [(.bool false)])) else (.ret [(.bool false)])) else .stuck) else (.ret [(.bool false)])) else (.ret [(.bool false)])) else .stuck) else .stuck) else .stuck) else .stuck) else .stuck) else .stuck) else .stuck) else .stuck)) else .stuck)
theorem x7k (l0 : List R6) (x1 : Int) (x2 : Int) : ∀ s, Wb prog (Zy prog 8) (dclC l0 x1 x2) (dclC l0 x1 x2 s) (x2a l0 x1 x2 s)
 := nofun
theorem x2b (l0 : List R6) (x1 : Int) (x2 : Int) : Wb prog (Zy prog 8) (dclC l0 x1 x2) (Zi prog 8 [(.dat l0.length (Zz l0)), (.int .i64 x1), (.int .i64 x2)] true []) (z9g l0 x1 x2) := (lo fun bK => (lb (fun k0 => (lr 94 8 [1, 0, 1, 0, 0] 1 4 [(6, (.bool true))] (sl y5z 16 [] ⟨[], [], [some [6]], []⟩ ⟨[], [], []⟩ [true] (tt k0 (pp (pp (xr l0) (xw bK)) nn))))) (fun k0 => (lo fun q1_0 => (Vx (sl y5z (C' := ⟨⟨94, 0, true⟩, (Vr prog 8 [1, 1, 1, 0] 2), (Zb prog 8 [1, 1, 1, 0] 1), none, (Zy prog 4), ⟨Ym [(0, (.dat l0.length (Zz l0))), (1, (ii x1)), (2, (ii x2)), (7, (.dat l0.length (Zz l0))), (26, (.dat l0.length (Zz l0))), (27, (ii x1))], Uc [] 0, 0, [], true⟩, [], .leaf⟩) 35 [] ⟨[], [1], [some [0, 1, 2, 7, 26, 27]], []⟩ ⟨[(7, .frz (0 + l0.length) l0.length (Vw (fun k => (([] : List AVal).drop (k * 6)).take 6) 0 (Zz l0)) (Zz l0)), (26, .frz (0 + l0.length) l0.length (Vw (fun k => (([] : List AVal).drop (k * 6)).take 6) 0 (Zz l0)) (Zz l0))], [], []⟩ [false] (pp (xZ (z3m 6 6 0 (0 + l0.length) (0 + l0.length) (Vw (fun k => (([] : List AVal).drop (k * 6)).take 6) 0 (Zz l0))) (0 + l0.length) (Vw (fun k => (([] : List AVal).drop (k * 6)).take 6) 0 (Zz l0))) (pp (xL (0 + l0.length) l0.length (Vb (Nat.zero_add _))) (pp (xS (0 + l0.length) (Vw (fun k => (([] : List AVal).drop (k * 6)).take 6) 0 (Zz l0)) (Zz l0)) (pp (xZ (z3m 6 6 0 (0 + l0.length) (0 + l0.length) (Vw (fun k => (([] : List AVal).drop (k * 6)).take 6) 0 (Zz l0))) (0 + l0.length) (Vw (fun k => (([] : List AVal).drop (k * 6)).take 6) 0 (Zz l0))) (pp (xL (0 + l0.length) l0.length (Vb (Nat.zero_add _))) (pp (xS (0 + l0.length) (Vw (fun k => (([] : List AVal).drop (k * 6)).take 6) 0 (Zz l0)) (Zz l0)) (pp (pp (xF (Vw (fun k => (([] : List AVal).drop (k * 6)).take 6) 0 (Zz l0))) nn) (pp (pp nn (pp (xG (y5g 6 l0.length (Zz l0))) (xw q1_0))) (tt k0 (pp (pp (xr l0) (xw bK)) nn))))))))))) (lo fun aG => (lo fun aW => (lo fun bM => (lo fun cI => (lo fun cX => (lo fun cC => (lo fun dB => (lb (fun k1 => (lb (fun k2 => (lo fun cS => (lb (fun k3 => (lb (fun k4 => (lo fun dF => (lb (fun k5 => (lb (fun k6 => (lo fun o0 => (lr 94 3 [1, 1, 1, 1, 1, 1, 0] 1 4 [(6, (.bool (Uz (cvT l0) (cvT l0))))] (sl y5z 99 [] ⟨[], [], [some [6]], []⟩ ⟨[], [], []⟩ (trs 18 []) (pp (pp (xr l0) (pp (xr l0) (xw o0))) (tt k6 (tt k5 (pp (pp (xI R6 (Ju (cvT l0) x2).length (Zz (Ju (cvT l0) x2))) (pp (xI R6 (Jr (cvT l0) x2).length (Zz (Jr (cvT l0) x2))) (xw dF))) (tt k4 (tt k3 (pp (pp (xI R6 (Uv (cvT l0) x1).length (Zz (Uv (cvT l0) x1))) (pp (xI R6 (Ua (cvT l0) x1).length (Zz (Ua (cvT l0) x1))) (xw cS))) (tt k2 (tt k1 (pp (pp (xI R6 (Wg (cvT l0) x1).length (Zz (Wg (cvT l0) x1))) (pp (xI R6 (Wq (cvT l0) x1).length (Zz (Wq (cvT l0) x1))) (xw dB))) (pp (pp (xr l0) (xw cC)) (pp (pp (xr l0) (xw cX)) (pp (pp (xr l0) (xw cI)) (pp (pp (xr l0) (xw bM)) (pp (pp (xr l0) (xw aW)) (pp (pp (xr l0) (xw aG)) nn)))))))))))))))))))) (fun k6 => (lr 94 3 [1, 1, 1, 1, 1, 1, 0] 1 4 [(6, (.bool false))] (sl y5z 99 [] ⟨[], [], [some [6]], []⟩ ⟨[], [], []⟩ (trs 15 [false, false, false]) (tt k6 (tt k5 (pp (pp (xI R6 (Ju (cvT l0) x2).length (Zz (Ju (cvT l0) x2))) (pp (xI R6 (Jr (cvT l0) x2).length (Zz (Jr (cvT l0) x2))) (xw dF))) (tt k4 (tt k3 (pp (pp (xI R6 (Uv (cvT l0) x1).length (Zz (Uv (cvT l0) x1))) (pp (xI R6 (Ua (cvT l0) x1).length (Zz (Ua (cvT l0) x1))) (xw cS))) (tt k2 (tt k1 (pp (pp (xI R6 (Wg (cvT l0) x1).length (Zz (Wg (cvT l0) x1))) (pp (xI R6 (Wq (cvT l0) x1).length (Zz (Wq (cvT l0) x1))) (xw dB))) (pp (pp (xr l0) (xw cC)) (pp (pp (xr l0) (xw cX)) (pp (pp (xr l0) (xw cI)) (pp (pp (xr l0) (xw bM)) (pp (pp (xr l0) (xw aW)) (pp (pp (xr l0) (xw aG)) nn)))))))))))))))))))) (fun k5 => (lr 94 3 [1, 1, 1, 1, 1, 1, 0] 1 4 [(6, (.bool false))] (sl y5z 99 [] ⟨[], [], [some [6]], []⟩ ⟨[], [], []⟩ (trs 12 [false, false, false, false, false, false]) (tt k5 (pp (pp (xI R6 (Ju (cvT l0) x2).length (Zz (Ju (cvT l0) x2))) (pp (xI R6 (Jr (cvT l0) x2).length (Zz (Jr (cvT l0) x2))) (xw dF))) (tt k4 (tt k3 (pp (pp (xI R6 (Uv (cvT l0) x1).length (Zz (Uv (cvT l0) x1))) (pp (xI R6 (Ua (cvT l0) x1).length (Zz (Ua (cvT l0) x1))) (xw cS))) (tt k2 (tt k1 (pp (pp (xI R6 (Wg (cvT l0) x1).length (Zz (Wg (cvT l0) x1))) (pp (xI R6 (Wq (cvT l0) x1).length (Zz (Wq (cvT l0) x1))) (xw dB))) (pp (pp (xr l0) (xw cC)) (pp (pp (xr l0) (xw cX)) (pp (pp (xr l0) (xw cI)) (pp (pp (xr l0) (xw bM)) (pp (pp (xr l0) (xw aW)) (pp (pp (xr l0) (xw aG)) nn)))))))))))))))))))) (fun k4 => (lr 94 3 [1, 1, 1, 1, 1, 1, 0] 1 4 [(6, (.bool false))] (sl y5z 99 [] ⟨[], [], [some [6]], []⟩ ⟨[], [], []⟩ (trs 9 [false, false, false, false, false, false, false, false, false]) (tt k4 (tt k3 (pp (pp (xI R6 (Uv (cvT l0) x1).length (Zz (Uv (cvT l0) x1))) (pp (xI R6 (Ua (cvT l0) x1).length (Zz (Ua (cvT l0) x1))) (xw cS))) (tt k2 (tt k1 (pp (pp (xI R6 (Wg (cvT l0) x1).length (Zz (Wg (cvT l0) x1))) (pp (xI R6 (Wq (cvT l0) x1).length (Zz (Wq (cvT l0) x1))) (xw dB))) (pp (pp (xr l0) (xw cC)) (pp (pp (xr l0) (xw cX)) (pp (pp (xr l0) (xw cI)) (pp (pp (xr l0) (xw bM)) (pp (pp (xr l0) (xw aW)) (pp (pp (xr l0) (xw aG)) nn))))))))))))))))) (fun k3 => (lr 94 3 [1, 1, 1, 1, 1, 1, 0] 1 4 [(6, (.bool false))] (sl y5z 99 [] ⟨[], [], [some [6]], []⟩ ⟨[], [], []⟩ (trs 6 [false, false, false, false, false, false, false, false, false, false, false, false]) (tt k3 (pp (pp (xI R6 (Uv (cvT l0) x1).length (Zz (Uv (cvT l0) x1))) (pp (xI R6 (Ua (cvT l0) x1).length (Zz (Ua (cvT l0) x1))) (xw cS))) (tt k2 (tt k1 (pp (pp (xI R6 (Wg (cvT l0) x1).length (Zz (Wg (cvT l0) x1))) (pp (xI R6 (Wq (cvT l0) x1).length (Zz (Wq (cvT l0) x1))) (xw dB))) (pp (pp (xr l0) (xw cC)) (pp (pp (xr l0) (xw cX)) (pp (pp (xr l0) (xw cI)) (pp (pp (xr l0) (xw bM)) (pp (pp (xr l0) (xw aW)) (pp (pp (xr l0) (xw aG)) nn))))))))))))))))) (fun k2 => (lr 94 3 [1, 1, 1, 1, 1, 1, 0] 1 4 [(6, (.bool false))] (sl y5z 99 [] ⟨[], [], [some [6]], []⟩ ⟨[], [], []⟩ (trs 3 [false, false, false, false, false, false, false, false, false, false, false, false, false, false, false]) (tt k2 (tt k1 (pp (pp (xI R6 (Wg (cvT l0) x1).length (Zz (Wg (cvT l0) x1))) (pp (xI R6 (Wq (cvT l0) x1).length (Zz (Wq (cvT l0) x1))) (xw dB))) (pp (pp (xr l0) (xw cC)) (pp (pp (xr l0) (xw cX)) (pp (pp (xr l0) (xw cI)) (pp (pp (xr l0) (xw bM)) (pp (pp (xr l0) (xw aW)) (pp (pp (xr l0) (xw aG)) nn)))))))))))))) (fun k1 => (lr 94 3 [1, 1, 1, 1, 1, 1, 0] 1 4 [(6, (.bool false))] (sl y5z 99 [] ⟨[], [], [some [6]], []⟩ ⟨[], [], []⟩ [false, false, false, false, false, false, false, false, false, false, false, false, false, false, false, false, false, false] (tt k1 (pp (pp (xI R6 (Wg (cvT l0) x1).length (Zz (Wg (cvT l0) x1))) (pp (xI R6 (Wq (cvT l0) x1).length (Zz (Wq (cvT l0) x1))) (xw dB))) (pp (pp (xr l0) (xw cC)) (pp (pp (xr l0) (xw cX)) (pp (pp (xr l0) (xw cI)) (pp (pp (xr l0) (xw bM)) (pp (pp (xr l0) (xw aW)) (pp (pp (xr l0) (xw aG)) nn))))))))))))))))))))))))
theorem dcl_ends (l0 : List R6) (x1 : Int) (x2 : Int) (n : Nat) (vs : List AVal) (h : Yb (x2a l0 x1 x2) n (z9g l0 x1 x2) = .ret vs) : Qx prog (Zy prog 8) (Zi prog 8 [(.dat l0.length (Zz l0)), (.int .i64 x1), (.int .i64 x2)] true []) vs := by
 have := Zt (x7k l0 x1 x2) n _ (x2b l0 x1 x2)
 rwa [h] at this
end Go.Am
namespace Go.Am
open Go.Proofs Go.Sort Go.Shelf Go.RowKit Go.Lib
theorem x3q {L : List R6} (h : y2j L = true) (hl : L.length ≤ 400) : L.length ≤ 6 ∧ ∀ c ∈ L, hld ⟨-12, -12, -12, 12, 12, 12⟩ c := by
 unfold y2j at h
 rw [Xx (by omega), cond_false, Bool.and_eq_true, List.all_eq_true] at h
 refine ⟨by have := of_decide_eq_true h.2; omega, fun c hc => ?_⟩
 have := h.1 c hc
 simp only [w6s, Bool.and_eq_true, Bool.not_eq_true', decide_eq_false_iff_not] at this
 obtain ⟨h1, h2, _⟩ := this
 have i1 := Jj c.a c.b
 have i2 := Jj (Wn c.a c.b) c.c
 have i3 := Ur c.d c.e
 have i4 := Ur (Wu c.d c.e) c.f
 unfold hld
 dsimp only
 omega
theorem hul_b {L : List R6} (hne : L ≠ []) (hv : ∀ r ∈ L, Jz r = true) (h : ∀ c ∈ L, hld ⟨-12, -12, -12, 12, 12, 12⟩ c) : hld ⟨-12, -12, -12, 12, 12, 12⟩ (Wd L) ∧ (Wd L).a ≤ 12 ∧ (Wd L).b ≤ 12 ∧ (Wd L).c ≤ 12 := by
 cases L with
 | nil => exact absurd rfl hne
 | cons r l =>
  refine ⟨v2f l r (h r (by simp)) fun c hc => h c (by simp [hc]), ?_⟩
  have k := y0y r (List.mem_cons_self (a := r) (l := l))
  have v := Wy (hv r (by simp))
  have g := h r (by simp)
  unfold hld at k g
  dsimp only at g
  omega
theorem x3b {n e : Int} (hn : 1 ≤ n) : ∀ (k : Nat) (y : Int), y < e + n → ((stp n e k y).length : Int) * n ≤ e - y + n - 1
 | 0, y, h => by
  show ((0 : Nat) : Int) * n ≤ _
  rw [show ((0 : Nat) : Int) = 0 from rfl, Int.zero_mul]; omega
 | k + 1, y, h => by
  unfold stp
  by_cases c : y < e
  ·rw [decide_eq_true c, cond_true, List.length_cons, Int.natCast_succ, Int.add_mul, Int.one_mul]
   have := x3b hn (e := e) k (y + n) (by omega)
   omega
  ·rw [decide_eq_false c, cond_false]
   show ((0 : Nat) : Int) * n ≤ _
   rw [show ((0 : Nat) : Int) = 0 from rfl, Int.zero_mul]; omega
theorem w9h {n a e : Int} (hn : 1 ≤ n ∧ n ≤ 1000) (ha : -12 ≤ a ∧ a ≤ 12) (he : -12 ≤ e ∧ e ≤ 12) (k : Nat) : (stp n e k (Xd a n)).length ≤ 24 := by
 rw [z6u hn (by omega)]
 obtain ⟨_, h1, h2⟩ := Xv hn.1 a
 by_cases q : cel n a < e + n
 ·have := x3b hn.1 k (cel n a) q
  generalize (stp n e k (cel n a)).length = m at this
  refine Classical.byContradiction fun hh => ?_
  have h25 : (25 : Int) * n ≤ (m : Int) * n := Int.mul_le_mul_of_nonneg_right (by omega) (by omega)
  omega
 ·cases k with
  | zero => exact Nat.zero_le _
  | succ k =>
   unfold stp
   rw [decide_eq_false (by omega)]
   exact Nat.zero_le _
theorem x4p {α β : Type} {f : α → List β} {m : Nat} : ∀ l : List α, (∀ x ∈ l, (f x).length ≤ m) → (l.flatMap f).length ≤ l.length * m
 | [], _ => Nat.zero_le _
 | x :: l, h => by
  have := x4p l fun y hy => h y (by simp [hy])
  have h1 := h x (by simp)
  rw [List.flatMap_cons, List.length_append, List.length_cons, Nat.add_mul, Nat.one_mul]
  omega
theorem w6r {L : List R6} (h0 : Yn L = 0) (hh : ∀ c ∈ L, hld ⟨-12, -12, -12, 12, 12, 12⟩ c) : Sml L := ⟨Sol.of h0, fun r hr => by
 have := hh r hr
 unfold hld at this
 dsimp only at this
 unfold nrR
 omega⟩
theorem x3s {L : List R6} (h0 : Yn L = 0) (hne : L ≠ []) (hh : ∀ c ∈ L, hld ⟨-12, -12, -12, 12, 12, 12⟩ c) : smH (Wd L) = true := by
 obtain ⟨h1, h2, h3, h4⟩ := hul_b hne (Ui h0).2.1 hh
 unfold hld at h1
 dsimp only at h1
 simp only [smH, Bool.and_eq_true, decide_eq_true_eq]
 omega
theorem rin_ow {L : List R6} (hn : y2j L = true) (n : Int) : z0k L n = true := by
 unfold z0k
 rcases Yp (x0c L n) with q | q
 ·rw [q, cond_true]
  unfold x0c at q
  simp only [Bool.and_eq_true, Bool.not_eq_true', decide_eq_false_iff_not, beq_iff_eq, beq_eq_false_iff_ne, ne_eq] at q
  obtain ⟨q1, q2, q3, q4⟩ := q
  have h0 : Yn L = 0 := (z3g L).trans q1
  have hs := Ui h0
  obtain ⟨h1, h2⟩ := x3q hn hs.1
  have hne : L ≠ [] := fun e => q4 (by rw [e]; rfl)
  obtain ⟨b1, b2, b3, b4⟩ := hul_b hne hs.2.1 h2
  unfold hld at b1
  dsimp only at b1
  rw [x3s h0 hne h2, Bool.true_and, List.all_eq_true]
  intro z _
  refine decide_eq_true ?_
  have l1 := w9h (n := n) (a := (Wd L).a) (e := (Wd L).d) ⟨by omega, by omega⟩ ⟨by omega, by omega⟩ ⟨by have := y0y _ (show rd L 0 ∈ L by cases L with | nil => exact absurd rfl hne | cons r l => exact List.mem_cons_self); have := Wy (hs.2.1 _ (show rd L 0 ∈ L by cases L with | nil => exact absurd rfl hne | cons r l => exact List.mem_cons_self)); have := h2 _ (show rd L 0 ∈ L by cases L with | nil => exact absurd rfl hne | cons r l => exact List.mem_cons_self); unfold hld at *; dsimp only at *; omega, by omega⟩ ((Wd L).d - Xd (Wd L).a n).toNat
  have l2 := w9h (n := n) (a := (Wd L).b) (e := (Wd L).e) ⟨by omega, by omega⟩ ⟨by omega, by omega⟩ ⟨by have := y0y _ (show rd L 0 ∈ L by cases L with | nil => exact absurd rfl hne | cons r l => exact List.mem_cons_self); have := Wy (hs.2.1 _ (show rd L 0 ∈ L by cases L with | nil => exact absurd rfl hne | cons r l => exact List.mem_cons_self)); have := h2 _ (show rd L 0 ∈ L by cases L with | nil => exact absurd rfl hne | cons r l => exact List.mem_cons_self); unfold hld at *; dsimp only at *; omega, by omega⟩ ((Wd L).e - Xd (Wd L).b n).toNat
  have := x4p (f := fun x => x9t L n (Wd L) z x) (m := 24) (stp n (Wd L).d ((Wd L).d - Xd (Wd L).a n).toNat (Xd (Wd L).a n)) fun x _ => by
   unfold x9t
   rw [List.length_map]
   exact Nat.le_trans (List.length_filter_le _ _) l2
  unfold lyC
  have : (stp n (Wd L).d ((Wd L).d - Xd (Wd L).a n).toNat (Xd (Wd L).a n)).length * 24 ≤ 24 * 24 := Nat.mul_le_mul_right _ l1
  omega
 ·rw [q]; rfl
theorem v6m (n : Int) (hn : 1 ≤ n ∧ n ≤ 1000) : y3g [] n = [] := by
 obtain ⟨c1, c2⟩ := w2e (L := []) ⟨⟨Nat.zero_le _, fun r hr => (by cases hr), .nil⟩, fun r hr => (by cases hr)⟩ hn
 exact y5l c1 y4e.nil fun x y z => by
  rw [c2]
  constructor
  ·intro h
   obtain ⟨_, a1, a2⟩ := Xv hn.1 x
   obtain ⟨_, b1, b2⟩ := Xv hn.1 y
   obtain ⟨_, d1, d2⟩ := Xv hn.1 z
   exact h x a1 a2 y b1 b2 z d1 d2
  ·rintro ⟨r, hr, _⟩; cases hr
theorem v0p {L : List R6} (hn : y2j L = true) (n : Int) : z9z L n = Jt L n ∧ Ua L n = Uv L n := by
 have hk : (Yn L != 0) = !(Yn L == 0) := rfl
 unfold z9z Ua rinP x0c
 rw [← z3g L, hk]
 rcases Yp (Yn L == 0) with a | a
 ·have h0 := eq_of_beq a
  by_cases b : n < 1
  ·have e : Jt L n = 2 := by
    unfold Jt
    rw [h0, decide_eq_true b]; rfl
   unfold Uv
   rw [e, a, decide_eq_true b]; exact ⟨rfl, rfl⟩
  by_cases c : n > 1000
  ·have e : Jt L n = 2 := by
    unfold Jt
    rw [h0, decide_eq_true c, decide_eq_false b]; rfl
   unfold Uv
   rw [e, a, decide_eq_true c, decide_eq_false b]; exact ⟨rfl, rfl⟩
  have hn' : 1 ≤ n ∧ n ≤ 1000 := by omega
  have hs := Ui h0
  obtain ⟨h1, h2⟩ := x3q hn hs.1
  have hS := w6r h0 h2
  obtain ⟨e1, e2⟩ := v6o h0 hS hn'
  rw [a, decide_eq_false b, decide_eq_false c, e1, e2]
  rcases Yp ((L.length : Int) == 0) with d | d
  ·have : L = [] := List.eq_nil_of_length_eq_zero (by have := eq_of_beq d; omega)
   subst this
   rw [v6m n hn']
   exact ⟨rfl, rfl⟩
  ·have hne : L ≠ [] := fun e => by rw [e] at d; cases d
   obtain ⟨c1, c2⟩ := w2e hS hn'
   rw [d, v4y (X := y3g L n) hS.sol hn' (x3s h0 hne h2) c1 c2]
   cases decide ((y3g L n).length ≤ 400) <;> exact ⟨rfl, rfl⟩
 ·have hb : Yn L ≠ 0 := fun e => by rw [e] at a; cases a
  have hb' : (Yn L != 0) = true := by rw [hk, a]; rfl
  have e : Jt L n = Yn L := by
   unfold Jt
   rw [hb']; rfl
  unfold Uv w2z
  rw [e, hb', a]
  exact ⟨rfl, rfl⟩
theorem y4h (a b : List R6) (h : a = b) : Uz a b = true := decide_eq_true h
theorem x4s {e : Int} {l : List R6} (h : e = 0 → l.length ≤ 400) : (w2z e l).length ≤ 400 := by
 unfold w2z
 cases q : (e != 0) with
 | true => exact Nat.zero_le _
 | false => exact h (by simpa using q)
theorem v3p (l : List R6) : (z0g l).length ≤ 400 := x4s fun h => (w4w h).2.2.2
theorem w0x (L : List R6) (n : Int) : (Wg L n).length ≤ 400 := by
 unfold Wg
 cases v5s L n
 ·exact Nat.zero_le _
 ·exact v3p _
theorem v5m (L : List R6) (n : Int) : (Ju L n).length ≤ 400 := by
 unfold Ju
 cases v5n L n
 ·exact Nat.zero_le _
 ·exact w0x _ _
theorem v6n (L : List R6) (n : Int) : (Uv L n).length ≤ 400 := x4s fun h => by
 unfold Jt at h
 have hk : (Yn L != 0) = !(Yn L == 0) := rfl
 rw [hk] at h
 rcases Yp (Yn L == 0) with a | a
 ·rw [a] at h
  rcases Yp (decide (n < 1) || decide (n > 1000)) with b | b
  ·rw [b] at h; cases h
  ·rw [b] at h
   rcases Yp (okX (y6c L n) (rnC R6.c R6.f n L) ((rnC R6.c R6.f n L).length - 1) 0) with c | c
   ·rw [c] at h; exact y8d h
   ·rw [c] at h; cases h
 ·rw [a] at h
  have h : Yn L = 0 := h
  rw [h] at a; cases a
theorem dcl_run (L : List R6) (n k : Int) : ∃ N, Yb (x2a L n k) N (z9g L n k) = .ret [.bool true] := ⟨0, by
 unfold z9g
 simp only [Za, show ∀ l, z3a l = true from fun _ => rfl, show ∀ l k, z2h l k = true from fun _ _ => rfl, show ∀ l k, z2a l k = true from fun _ _ => rfl, show ∀ l k, y0w l k = true from fun _ _ => rfl, show ∀ l k, y0d l k = true from fun _ _ => rfl, show ∀ l k, z9w l k = true from fun _ _ => rfl, cond_true]
 rcases Yp (y2j L) with q | q
 ·have hl : L.length ≤ 420 := by
   unfold y2j at q
   by_cases c : (L.length : Int) > 400
   ·rw [Ye c, cond_true] at q
    have := of_decide_eq_true q
    omega
   ·omega
  have ow : ∀ a b : List R6, a.length ≤ 420 → b.length ≤ 420 → Xs a b = true := fun a b ha hb => decide_eq_true (by omega)
  have o1 := w0x L n
  have o2 := v6n L n
  have o3 := v5m L k
  rw [q, rin_ow q, (x3i L n).1, (x3i L n).2, (v0p q n).1, (v0p q n).2, (v0e L k).1, (v0e L k).2, ow _ _ (by omega) (by omega), ow _ _ (by omega) (by omega), ow _ _ (by omega) (by omega), ow _ _ hl hl,
   y4h _ _ rfl, y4h _ _ rfl, y4h _ _ rfl, y4h _ _ rfl, beq_self_eq_true, beq_self_eq_true, beq_self_eq_true]
  have hr : decide ((0 + L.length + 1) * (48 + 1) ≤ Jy) = true := decide_eq_true (Nat.le_trans (Nat.mul_le_mul_right _ (show 0 + L.length + 1 ≤ 1000 by omega)) (by decide))
  rw [hr]; rfl
 ·rw [q]; rfl⟩
end Go.Am
end
