/- The run of the law FrameGroup, the whole. -/
import Derived.Test.YtifflimkboemjaaFrO
namespace Go.Am
open Go.Proofs
set_option maxRecDepth 100000
set_option linter.unusedVariables false
set_option linter.unusedSimpArgs false

theorem img_shift {t x y z p : Int} (j : Nat) (hx : -10000000 ≤ x ∧ x ≤ 10000000) (hy : -10000000 ≤ y ∧ y ≤ 10000000) (hz : -10000000 ≤ z ∧ z ≤ 10000000) (hp : -10000000 ≤ p ∧ p ≤ 10000000) :
    imgL t j p x y z = imgL t j 0 x y z + p := by
  rw [img_lin t j p x y z (by omega) (by omega) (by omega) (by omega), img_lin t j 0 x y z (by omega) (by omega) (by omega) (by omega)]
  omega
theorem img_neg {t x y z p : Int} (j : Nat) (hx : -10000000 ≤ x ∧ x ≤ 10000000) (hy : -10000000 ≤ y ∧ y ≤ 10000000) (hz : -10000000 ≤ z ∧ z ≤ 10000000) (hp : -10000000 ≤ p ∧ p ≤ 10000000) :
    imgL t j p (-x) (-y) (-z) = p - imgL t j 0 x y z := by
  rw [img_lin t j p _ _ _ (by omega) (by omega) (by omega) (by omega), img_lin t j 0 x y z (by omega) (by omega) (by omega) (by omega)]
  simp only [Int.neg_mul]
  omega

theorem near_lo {t x y z : Int} (h : nearL t x y z = true) : (-100000 ≤ x ∧ x ≤ 1000000) ∧ (-100000 ≤ y ∧ y ≤ 1000000) ∧ (-100000 ≤ z ∧ z ≤ 1000000) := by
  unfold nearL at h
  simp only [Bool.and_eq_true, beq_iff_eq] at h
  obtain ⟨a1, b1, c1, a2, b2, c2⟩ := fine_of h.2.1
  exact ⟨⟨a1, a2⟩, ⟨b1, b2⟩, ⟨c1, c2⟩⟩

theorem group_run (r a b c s d e f t g h i x y z : Int) (hr : 0 ≤ r ∧ r ≤ 255) (ha : -9223372036854775808 ≤ a ∧ a ≤ 9223372036854775807) (hb : -9223372036854775808 ≤ b ∧ b ≤ 9223372036854775807) (hc : -9223372036854775808 ≤ c ∧ c ≤ 9223372036854775807) (hs : 0 ≤ s ∧ s ≤ 255) (hd : -9223372036854775808 ≤ d ∧ d ≤ 9223372036854775807) (he : -9223372036854775808 ≤ e ∧ e ≤ 9223372036854775807) (hf : -9223372036854775808 ≤ f ∧ f ≤ 9223372036854775807) (ht : 0 ≤ t ∧ t ≤ 255) (hg : -9223372036854775808 ≤ g ∧ g ≤ 9223372036854775807) (hh : -9223372036854775808 ≤ h ∧ h ≤ 9223372036854775807) (hi : -9223372036854775808 ≤ i ∧ i ≤ 9223372036854775807) (hx : -9223372036854775808 ≤ x ∧ x ≤ 9223372036854775807) (hy : -9223372036854775808 ≤ y ∧ y ≤ 9223372036854775807) (hz : -9223372036854775808 ≤ z ∧ z ≤ 9223372036854775807) :
    Gives Try.prog S5 9 [.agg [.int .u8 r, .int .i64 a, .int .i64 b, .int .i64 c], .agg [.int .u8 s, .int .i64 d, .int .i64 e, .int .i64 f], .agg [.int .u8 t, .int .i64 g, .int .i64 h, .int .i64 i], .agg [.int .i64 x, .int .i64 y, .int .i64 z]] (.bool true) := by
  cases h0 : nearL r a b c with
  | false => exact gives (gOut1_0 r a b c s d e f t g h i x y z (not_f h0)) rfl
  | true =>
  cases h1 : nearL s d e f with
  | false => exact gives (gOut2_0 r a b c s d e f t g h i x y z (not_t h0) (not_f h1)) rfl
  | true =>
  cases h2 : nearL t g h i with
  | false => exact gives (gOut3_0 r a b c s d e f t g h i x y z (not_t h0) (not_t h1) (not_f h2)) rfl
  | true =>
  cases h3 : fineL x y z (-100000) with
  | false => exact gives (gOut4_0 r a b c s d e f t g h i x y z (not_t h0) (not_t h1) (not_t h2) (not_f h3)) rfl
  | true =>
  cases h4 : fineL (IntKind.i64.wrap (-1 * x)) (IntKind.i64.wrap (-1 * y)) (IntKind.i64.wrap (-1 * z)) (-100000) with
  | false => exact gives (gOut5_0 r a b c s d e f t g h i x y z (not_t h0) (not_t h1) (not_t h2) (not_t h3) (not_f h4)) rfl
  | true =>
  have q0 := near_lo h0
  have q1 := near_lo h1
  have q2 := near_lo h2
  obtain ⟨kr, lr, ba, bb, bc⟩ := near_of h0 (by omega) (by omega) (by omega)
  obtain ⟨ks, ls, bd, be, bf⟩ := near_of h1 (by omega) (by omega) (by omega)
  obtain ⟨kt, lt, bg, bh, bi⟩ := near_of h2 (by omega) (by omega) (by omega)
  obtain ⟨x1, y1, z1, x2, y2, z2⟩ := fine_of h3
  obtain ⟨x3, y3, z3, -⟩ := fine_of h4
  rw [w_in (by omega) (by omega)] at x3 y3 z3
  have bx : -100000 ≤ x ∧ x ≤ 100000 := ⟨by omega, by omega⟩
  have by' : -100000 ≤ y ∧ y ≤ 100000 := ⟨by omega, by omega⟩
  have bz : -100000 ≤ z ∧ z ≤ 100000 := ⟨by omega, by omega⟩
  have hr' : 0 ≤ r ∧ r < 24 := ⟨hr.1, lr⟩
  have hs' : 0 ≤ s ∧ s < 24 := ⟨hs.1, ls⟩
  have ht' : 0 ≤ t ∧ t < 24 := ⟨ht.1, lt⟩
  have hA := cmp_range r s
  have hC := cmp_range s t
  have hI := inv_range r
  -- the frame f within g
  have A0 := img_bound (t := s) (p := d) (C := 100000) 0 (by omega) hs'.1 hs'.2 ba bb bc bd (by omega) (by omega)
  have A1 := img_bound (t := s) (p := e) (C := 100000) 1 (by omega) hs'.1 hs'.2 ba bb bc be (by omega) (by omega)
  have A2 := img_bound (t := s) (p := f) (C := 100000) 2 (by omega) hs'.1 hs'.2 ba bb bc bf (by omega) (by omega)
  have kA := chk_of hA.2 ⟨by omega, by omega⟩ ⟨by omega, by omega⟩ ⟨by omega, by omega⟩ (x := imgL s 0 d a b c) (y := imgL s 1 e a b c) (z := imgL s 2 f a b c)
  obtain ⟨eA, pA⟩ := wit_of kr ks kA
  -- g within h
  have C0 := img_bound (t := t) (p := g) (C := 100000) 0 (by omega) ht'.1 ht'.2 bd be bf bg (by omega) (by omega)
  have C1 := img_bound (t := t) (p := h) (C := 100000) 1 (by omega) ht'.1 ht'.2 bd be bf bh (by omega) (by omega)
  have C2 := img_bound (t := t) (p := i) (C := 100000) 2 (by omega) ht'.1 ht'.2 bd be bf bi (by omega) (by omega)
  have kC := chk_of hC.2 ⟨by omega, by omega⟩ ⟨by omega, by omega⟩ ⟨by omega, by omega⟩ (x := imgL t 0 g d e f) (y := imgL t 1 h d e f) (z := imgL t 2 i d e f)
  obtain ⟨eC, pC⟩ := wit_of ks kt kC
  -- (f within g) within h; f within (g within h)
  have b3 : ∀ v : Int, -(100000 + 100000) ≤ v ∧ v ≤ 100000 + 100000 → -1000000 ≤ v ∧ v ≤ 1000000 := fun v hv => ⟨by omega, by omega⟩
  have D0 := img_bound (t := t) (p := g) (C := 100000) 0 (by omega) ht'.1 ht'.2 A0 A1 A2 bg (by omega) (by omega)
  have D1 := img_bound (t := t) (p := h) (C := 100000) 1 (by omega) ht'.1 ht'.2 A0 A1 A2 bh (by omega) (by omega)
  have D2 := img_bound (t := t) (p := i) (C := 100000) 2 (by omega) ht'.1 ht'.2 A0 A1 A2 bi (by omega) (by omega)
  have m0 := img_img hr' hr' 0 (by omega) (a := a) (b := b) (c := c) (x := x) (y := y) (z := z) (p := 0) (by omega) (by omega) (by omega) (by omega) (by omega) (by omega) (by omega)
  have n0 := img_img hs' ht' 0 (by omega) (a := d) (b := e) (c := f) (x := a) (y := b) (z := c) (p := g) (by omega) (by omega) (by omega) (by omega) (by omega) (by omega) (by omega)
  have n1 := img_img hs' ht' 1 (by omega) (a := d) (b := e) (c := f) (x := a) (y := b) (z := c) (p := h) (by omega) (by omega) (by omega) (by omega) (by omega) (by omega) (by omega)
  have n2 := img_img hs' ht' 2 (by omega) (a := d) (b := e) (c := f) (x := a) (y := b) (z := c) (p := i) (by omega) (by omega) (by omega) (by omega) (by omega) (by omega) (by omega)
  have asc := cmp_assoc hr' hs' ht'
  have hD := cmp_range (cmp r s) t
  have kD := chk_of hD.2 ⟨by omega, by omega⟩ ⟨by omega, by omega⟩ ⟨by omega, by omega⟩ (x := imgL t 0 g (imgL s 0 d a b c) (imgL s 1 e a b c) (imgL s 2 f a b c)) (y := imgL t 1 h (imgL s 0 d a b c) (imgL s 1 e a b c) (imgL s 2 f a b c)) (z := imgL t 2 i (imgL s 0 d a b c) (imgL s 1 e a b c) (imgL s 2 f a b c))
  obtain ⟨eD, pD⟩ := wit_of kA kt kD
  have kE := kD
  rw [asc, n0, n1, n2] at kE
  obtain ⟨eE, pE⟩ := wit_of kr kC kE
  -- images
  have X0 := img_bound (t := r) (p := a) (C := 100000) 0 (by omega) hr'.1 hr'.2 bx by' bz ba (by omega) (by omega)
  have X1 := img_bound (t := r) (p := b) (C := 100000) 1 (by omega) hr'.1 hr'.2 bx by' bz bb (by omega) (by omega)
  have X2 := img_bound (t := r) (p := c) (C := 100000) 2 (by omega) hr'.1 hr'.2 bx by' bz bc (by omega) (by omega)
  have fv : fineL x y z (-1000000) = true := of_fine ⟨by omega, by omega, by omega, by omega, by omega, by omega⟩
  have fX : fineL (imgL r 0 a x y z) (imgL r 1 b x y z) (imgL r 2 c x y z) (-1000000) = true := of_fine ⟨by omega, by omega, by omega, by omega, by omega, by omega⟩
  obtain ⟨eX, pX⟩ := app_of kr fv fX
  have Y0 := img_bound (t := s) (p := d) (C := 100000) 0 (by omega) hs'.1 hs'.2 X0 X1 X2 bd (by omega) (by omega)
  have Y1 := img_bound (t := s) (p := e) (C := 100000) 1 (by omega) hs'.1 hs'.2 X0 X1 X2 be (by omega) (by omega)
  have Y2 := img_bound (t := s) (p := f) (C := 100000) 2 (by omega) hs'.1 hs'.2 X0 X1 X2 bf (by omega) (by omega)
  have fY : fineL (imgL s 0 d (imgL r 0 a x y z) (imgL r 1 b x y z) (imgL r 2 c x y z)) (imgL s 1 e (imgL r 0 a x y z) (imgL r 1 b x y z) (imgL r 2 c x y z)) (imgL s 2 f (imgL r 0 a x y z) (imgL r 1 b x y z) (imgL r 2 c x y z)) (-1000000) = true := of_fine ⟨by omega, by omega, by omega, by omega, by omega, by omega⟩
  obtain ⟨eY, pY⟩ := app_of ks fX fY
  have o0 := img_img hr' hs' 0 (by omega) (a := a) (b := b) (c := c) (x := x) (y := y) (z := z) (p := d) (by omega) (by omega) (by omega) (by omega) (by omega) (by omega) (by omega)
  have o1 := img_img hr' hs' 1 (by omega) (a := a) (b := b) (c := c) (x := x) (y := y) (z := z) (p := e) (by omega) (by omega) (by omega) (by omega) (by omega) (by omega) (by omega)
  have o2 := img_img hr' hs' 2 (by omega) (a := a) (b := b) (c := c) (x := x) (y := y) (z := z) (p := f) (by omega) (by omega) (by omega) (by omega) (by omega) (by omega) (by omega)
  have fZ := fY
  rw [o0, o1, o2] at fZ
  obtain ⟨eZ, pZ⟩ := app_of kA fv fZ
  -- the inverse
  obtain ⟨eI, pI⟩ := inv_of kr
  obtain ⟨u0, u1, u2⟩ := img_small (inv r) a b c 100000 hI.1 hI.2 ba bb bc
  have w0 : IntKind.i64.wrap (0 - imgL (inv r) 0 0 a b c) = -imgL (inv r) 0 0 a b c := by rw [w_in (by omega) (by omega)]; omega
  have w1 : IntKind.i64.wrap (0 - imgL (inv r) 1 0 a b c) = -imgL (inv r) 1 0 a b c := by rw [w_in (by omega) (by omega)]; omega
  have w2 : IntKind.i64.wrap (0 - imgL (inv r) 2 0 a b c) = -imgL (inv r) 2 0 a b c := by rw [w_in (by omega) (by omega)]; omega
  have kI := chk_of hI.2 ⟨by omega, by omega⟩ ⟨by omega, by omega⟩ ⟨by omega, by omega⟩ (x := -imgL (inv r) 0 0 a b c) (y := -imgL (inv r) 1 0 a b c) (z := -imgL (inv r) 2 0 a b c)
  obtain ⟨ci, ic⟩ := cmp_inv hr'.1 hr'.2
  have P0 : imgL (inv r) 0 (-imgL (inv r) 0 0 a b c) a b c = 0 := by rw [img_shift 0 (by omega) (by omega) (by omega) (by omega)]; omega
  have P1 : imgL (inv r) 1 (-imgL (inv r) 1 0 a b c) a b c = 0 := by rw [img_shift 1 (by omega) (by omega) (by omega) (by omega)]; omega
  have P2 : imgL (inv r) 2 (-imgL (inv r) 2 0 a b c) a b c = 0 := by rw [img_shift 2 (by omega) (by omega) (by omega) (by omega)]; omega
  have Q : ∀ j, j < 3 → imgL (inv r) j (-imgL (inv r) j 0 a b c) (imgL r 0 a x y z) (imgL r 1 b x y z) (imgL r 2 c x y z) = if j = 0 then x else if j = 1 then y else z := by
    intro j hj
    have bj : -100000 ≤ imgL (inv r) j 0 a b c ∧ imgL (inv r) j 0 a b c ≤ 100000 := by
      obtain rfl | rfl | rfl : j = 0 ∨ j = 1 ∨ j = 2 := by omega
      all_goals omega
    have sh := img_shift (t := inv r) (x := a) (y := b) (z := c) (p := -imgL (inv r) j 0 a b c) j (by omega) (by omega) (by omega) (by omega)
    rw [Int.add_right_neg] at sh
    rw [img_img hr' hI j hj (by omega) (by omega) (by omega) (by omega) (by omega) (by omega) (by omega), ci, sh, img_one j hj (by omega) (by omega) (by omega) (by omega), Int.add_zero]
  have Q0 := Q 0 (by omega)
  have Q1 := Q 1 (by omega)
  have Q2 := Q 2 (by omega)
  simp only [if_true, Nat.one_ne_zero, if_false, Nat.reduceEqDiff] at Q0 Q1 Q2
  obtain ⟨eQ, pQ⟩ := app_of kI fX (by rw [Q0, Q1, Q2]; exact fv)
  obtain ⟨eR, pR⟩ := wit_of kr kI (by rw [P0, P1, P2, ci]; rfl)
  have T : ∀ j, j < 3 → imgL r j (if j = 0 then a else if j = 1 then b else c) (-imgL (inv r) 0 0 a b c) (-imgL (inv r) 1 0 a b c) (-imgL (inv r) 2 0 a b c) = 0 := by
    intro j hj
    have bj : -100000 ≤ (if j = 0 then a else if j = 1 then b else c) ∧ (if j = 0 then a else if j = 1 then b else c) ≤ 100000 := by
      obtain rfl | rfl | rfl : j = 0 ∨ j = 1 ∨ j = 2 := by omega
      all_goals simp; omega
    have z0 := img_lin r j 0 0 0 0 (by omega) (by omega) (by omega) (by omega)
    simp only [Int.zero_mul, Int.add_zero] at z0
    rw [img_neg j (by omega) (by omega) (by omega) (by omega), img_img hI hr' j hj (by omega) (by omega) (by omega) (by omega) (by omega) (by omega) (by omega), ic, z0, img_one j hj (by omega) (by omega) (by omega) (by omega)]
    omega
  have T0 := T 0 (by omega)
  have T1 := T 1 (by omega)
  have T2 := T 2 (by omega)
  simp only [if_true, Nat.one_ne_zero, if_false, Nat.reduceEqDiff] at T0 T1 T2
  obtain ⟨eS, pS⟩ := wit_of kI kr (by rw [T0, T1, T2, ic]; rfl)
  refine gives (gMain_0 r a b c s d e f t g h i x y z (not_t h0) (not_t h1) (not_t h2) (not_t h3) (not_t h4) ?_ ?_ ?_ ?_ ?_ ?_ ?_ ?_ ?_ ?_ ?_ ?_ ?_ ?_ ?_ ?_ ?_ ?_ ?_ ?_ ?_ ?_ ?_ ?_ ?_) (congrArg AVal.bool ?_)
  all_goals try simp only [pA, pC, pD, pE, pX, pY, pZ, pI, pQ, pR, pS, w0, w1, w2, eA, eC, eD, eE, eX, eY, eZ, eI, eQ, eR, eS, asc, n0, n1, n2, o0, o1, o2, ci, ic, P0, P1, P2, Q0, Q1, Q2, T0, T1, T2, beq_self_eq_true, Bool.and_true, Bool.and_self, Bool.not_true, bne_self_eq_false]
  all_goals try simp [hr.1, hs.1, ht.1, hA.1, hC.1, hI.1]
end Go.Am
