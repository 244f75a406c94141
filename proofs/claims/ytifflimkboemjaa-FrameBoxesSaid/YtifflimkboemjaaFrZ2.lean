/- The plain law of FrameBoxes. -/
import Derived.Test.YtifflimkboemjaaFrZ
import Derived.Test.YtifflimkboemjaaFrH
import Derived.Test.YtifflimkboemjaaFrL
namespace Go.Am
open Go.Proofs
set_option maxRecDepth 100000
set_option linter.unusedVariables false
set_option linter.unusedSimpArgs false

/-- A scope with a box. -/
structure Boxed (t x y z a b c : Int) : Prop where
  t0 : 0 ≤ t
  t1 : t < 24
  hx : -1000000 ≤ x ∧ x ≤ 1000000
  hy : -1000000 ≤ y ∧ y ≤ 1000000
  hz : -1000000 ≤ z ∧ z ≤ 1000000
  ha : 1 ≤ a ∧ a ≤ 1000000
  hb : 1 ≤ b ∧ b ≤ 1000000
  hc : 1 ≤ c ∧ c ≤ 1000000
  cp : ∀ v, corP t x y z a b c v = v
  bp : ∀ v, boxP t x y z a b c v = v

theorem boxed {t x y z a b c : Int} (ht : 0 ≤ t) (h0 : (corE t x y z a b c != 0) = false) (h1 : (boxE t x y z a b c != 0) = false) : Boxed t x y z a b c := by
  obtain ⟨k0, k1, cp⟩ := cor_of h0
  obtain ⟨q1, q2, q3⟩ := sco_of k0
  obtain ⟨x0, y0, z0, x1, y1, z1⟩ := fine_of q2
  obtain ⟨a0, b0, c0, a1, b1, c1⟩ := fine_of q3
  unfold boxE at h1
  rw [h0] at h1
  cases ha : a == 0 with
  | true => rw [ha] at h1; cases h1
  | false =>
  cases hb : b == 0 with
  | true => rw [ha, hb] at h1; cases h1
  | false =>
  cases hc : c == 0 with
  | true => rw [ha, hb, hc] at h1; cases h1
  | false =>
  refine ⟨ht, q1, ⟨x0, x1⟩, ⟨y0, y1⟩, ⟨z0, z1⟩, ⟨?_, a1⟩, ⟨?_, b1⟩, ⟨?_, c1⟩, cp, fun v => by unfold boxP; rw [h0, ha, hb, hc]; rfl⟩
  · have := ne_of_beq_false ha; omega
  · have := ne_of_beq_false hb; omega
  · have := ne_of_beq_false hc; omega

theorem lohi {p q v : Int} (h : v = p ∨ v = q) : v = iMin p q ∨ v = iMax p q := by
  simp only [iMin_eq, iMax_eq]; rcases h with rfl | rfl <;> omega
/-- A corner has the box's coordinates. -/
theorem hit {t x y z a b c : Int} (B : Boxed t x y z a b c) {j : Nat} (hj : j < 3) (i : Nat) : (cC t j i x y z a b c != cL t j x y z a b c) = false ∨ ((cC t j i x y z a b c != cL t j x y z a b c) = true ∧ (cC t j i x y z a b c != cH t j x y z a b c) = false) := by
  have hp : -1000000 ≤ ax3 j x y z ∧ ax3 j x y z ≤ 1000000 := by
    match j, hj with
    | 0, _ => exact B.hx
    | 1, _ => exact B.hy
    | 2, _ => exact B.hz
  have two := two_of B.t0 B.t1 j hj hp ⟨by have := B.ha; omega, B.ha.2⟩ ⟨by have := B.hb; omega, B.hb.2⟩ ⟨by have := B.hc; omega, B.hc.2⟩
  have key : cC t j i x y z a b c = cL t j x y z a b c ∨ cC t j i x y z a b c = cH t j x y z a b c := by
    unfold cC cL cH
    rw [B.cp, B.bp, B.bp]
    refine lohi ?_
    cases i.testBit 0 <;> cases i.testBit 1 <;> cases i.testBit 2 <;> simp only [cond_true, cond_false]
    · exact .inl trivial
    · exact two.2.2.2.1
    · exact two.2.1
    · exact two.2.2.2.2.2
    · exact two.1
    · exact two.2.2.2.2.1
    · exact two.2.2.1
    · exact .inr trivial
  cases h : cC t j i x y z a b c != cL t j x y z a b c with
  | false => exact .inl rfl
  | true =>
    refine .inr ⟨rfl, ?_⟩
    rcases key with e | e
    · rw [e, bne_self_eq_false] at h; cases h
    · rw [e]; exact bne_self_eq_false _

theorem span {p e s : Int} (h : e = p + s ∨ e = p - s) (hs : 0 ≤ s) : iMax p e - iMin p e = s := by
  simp only [iMin_eq, iMax_eq]; omega

theorem dims {t x y z a b c : Int} (B : Boxed t x y z a b c) :
    let d := fun j => cH t j x y z a b c - cL t j x y z a b c
    (d 0 = a ∧ d 1 = b ∧ d 2 = c) ∨ (d 0 = a ∧ d 1 = c ∧ d 2 = b) ∨ (d 0 = b ∧ d 1 = a ∧ d 2 = c) ∨ (d 0 = b ∧ d 1 = c ∧ d 2 = a) ∨ (d 0 = c ∧ d 1 = a ∧ d 2 = b) ∨ (d 0 = c ∧ d 1 = b ∧ d 2 = a) := by
  obtain ⟨t0, t1, hx, hy, hz, ha, hb, hc, _, bp⟩ := B
  have P : ∀ (j : Nat) (p : Int), -1000000 ≤ p ∧ p ≤ 1000000 → imgL t j p 0 0 0 = p := fun j p hp => by
    rw [img_lin t j p 0 0 0 (by omega) (by omega) (by omega) (by omega)]; simp
  have Q : ∀ (j : Nat) (p : Int), -1000000 ≤ p ∧ p ≤ 1000000 → imgL t j p a b c = a * tb t j + (b * tb t (j + 3) + (c * tb t (j + 6) + p)) := fun j p hp =>
    img_lin t j p a b c (by omega) (by omega) (by omega) (by omega)
  have D : ∀ (j : Nat), -1000000 ≤ ax3 j x y z ∧ ax3 j x y z ≤ 1000000 → ∀ s, 0 ≤ s → (a * tb t j + (b * tb t (j + 3) + (c * tb t (j + 6) + ax3 j x y z)) = ax3 j x y z + s ∨ a * tb t j + (b * tb t (j + 3) + (c * tb t (j + 6) + ax3 j x y z)) = ax3 j x y z - s) →
      cH t j x y z a b c - cL t j x y z a b c = s := fun j hp s hs he => by
    unfold cH cL
    rw [bp, bp, P j _ hp, Q j _ hp]
    exact span he hs
  intro d
  have D0 := D 0 hx
  have D1 := D 1 hy
  have D2 := D 2 hz
  simp only [ax3] at D0 D1 D2
  rcases turn_cases t0 t1 with rfl|rfl|rfl|rfl|rfl|rfl|rfl|rfl|rfl|rfl|rfl|rfl|rfl|rfl|rfl|rfl|rfl|rfl|rfl|rfl|rfl|rfl|rfl|rfl
  · obtain ⟨e0, e1, e2, e3, e4, e5, e6, e7, e8⟩ := tv0
    simp only [Nat.zero_add, Nat.reduceAdd, e0, e1, e2, e3, e4, e5, e6, e7, e8] at D0 D1 D2
    exact Or.inl ⟨D0 a (by omega) (by omega), D1 b (by omega) (by omega), D2 c (by omega) (by omega)⟩
  · obtain ⟨e0, e1, e2, e3, e4, e5, e6, e7, e8⟩ := tv1
    simp only [Nat.zero_add, Nat.reduceAdd, e0, e1, e2, e3, e4, e5, e6, e7, e8] at D0 D1 D2
    exact Or.inl ⟨D0 a (by omega) (by omega), D1 b (by omega) (by omega), D2 c (by omega) (by omega)⟩
  · obtain ⟨e0, e1, e2, e3, e4, e5, e6, e7, e8⟩ := tv2
    simp only [Nat.zero_add, Nat.reduceAdd, e0, e1, e2, e3, e4, e5, e6, e7, e8] at D0 D1 D2
    exact Or.inr <| Or.inl ⟨D0 a (by omega) (by omega), D1 c (by omega) (by omega), D2 b (by omega) (by omega)⟩
  · obtain ⟨e0, e1, e2, e3, e4, e5, e6, e7, e8⟩ := tv3
    simp only [Nat.zero_add, Nat.reduceAdd, e0, e1, e2, e3, e4, e5, e6, e7, e8] at D0 D1 D2
    exact Or.inr <| Or.inl ⟨D0 a (by omega) (by omega), D1 c (by omega) (by omega), D2 b (by omega) (by omega)⟩
  · obtain ⟨e0, e1, e2, e3, e4, e5, e6, e7, e8⟩ := tv4
    simp only [Nat.zero_add, Nat.reduceAdd, e0, e1, e2, e3, e4, e5, e6, e7, e8] at D0 D1 D2
    exact Or.inl ⟨D0 a (by omega) (by omega), D1 b (by omega) (by omega), D2 c (by omega) (by omega)⟩
  · obtain ⟨e0, e1, e2, e3, e4, e5, e6, e7, e8⟩ := tv5
    simp only [Nat.zero_add, Nat.reduceAdd, e0, e1, e2, e3, e4, e5, e6, e7, e8] at D0 D1 D2
    exact Or.inl ⟨D0 a (by omega) (by omega), D1 b (by omega) (by omega), D2 c (by omega) (by omega)⟩
  · obtain ⟨e0, e1, e2, e3, e4, e5, e6, e7, e8⟩ := tv6
    simp only [Nat.zero_add, Nat.reduceAdd, e0, e1, e2, e3, e4, e5, e6, e7, e8] at D0 D1 D2
    exact Or.inr <| Or.inl ⟨D0 a (by omega) (by omega), D1 c (by omega) (by omega), D2 b (by omega) (by omega)⟩
  · obtain ⟨e0, e1, e2, e3, e4, e5, e6, e7, e8⟩ := tv7
    simp only [Nat.zero_add, Nat.reduceAdd, e0, e1, e2, e3, e4, e5, e6, e7, e8] at D0 D1 D2
    exact Or.inr <| Or.inl ⟨D0 a (by omega) (by omega), D1 c (by omega) (by omega), D2 b (by omega) (by omega)⟩
  · obtain ⟨e0, e1, e2, e3, e4, e5, e6, e7, e8⟩ := tv8
    simp only [Nat.zero_add, Nat.reduceAdd, e0, e1, e2, e3, e4, e5, e6, e7, e8] at D0 D1 D2
    exact Or.inr <| Or.inr <| Or.inl ⟨D0 b (by omega) (by omega), D1 a (by omega) (by omega), D2 c (by omega) (by omega)⟩
  · obtain ⟨e0, e1, e2, e3, e4, e5, e6, e7, e8⟩ := tv9
    simp only [Nat.zero_add, Nat.reduceAdd, e0, e1, e2, e3, e4, e5, e6, e7, e8] at D0 D1 D2
    exact Or.inr <| Or.inr <| Or.inl ⟨D0 b (by omega) (by omega), D1 a (by omega) (by omega), D2 c (by omega) (by omega)⟩
  · obtain ⟨e0, e1, e2, e3, e4, e5, e6, e7, e8⟩ := tv10
    simp only [Nat.zero_add, Nat.reduceAdd, e0, e1, e2, e3, e4, e5, e6, e7, e8] at D0 D1 D2
    exact Or.inr <| Or.inr <| Or.inr <| Or.inr <| Or.inl ⟨D0 c (by omega) (by omega), D1 a (by omega) (by omega), D2 b (by omega) (by omega)⟩
  · obtain ⟨e0, e1, e2, e3, e4, e5, e6, e7, e8⟩ := tv11
    simp only [Nat.zero_add, Nat.reduceAdd, e0, e1, e2, e3, e4, e5, e6, e7, e8] at D0 D1 D2
    exact Or.inr <| Or.inr <| Or.inr <| Or.inr <| Or.inl ⟨D0 c (by omega) (by omega), D1 a (by omega) (by omega), D2 b (by omega) (by omega)⟩
  · obtain ⟨e0, e1, e2, e3, e4, e5, e6, e7, e8⟩ := tv12
    simp only [Nat.zero_add, Nat.reduceAdd, e0, e1, e2, e3, e4, e5, e6, e7, e8] at D0 D1 D2
    exact Or.inr <| Or.inr <| Or.inl ⟨D0 b (by omega) (by omega), D1 a (by omega) (by omega), D2 c (by omega) (by omega)⟩
  · obtain ⟨e0, e1, e2, e3, e4, e5, e6, e7, e8⟩ := tv13
    simp only [Nat.zero_add, Nat.reduceAdd, e0, e1, e2, e3, e4, e5, e6, e7, e8] at D0 D1 D2
    exact Or.inr <| Or.inr <| Or.inl ⟨D0 b (by omega) (by omega), D1 a (by omega) (by omega), D2 c (by omega) (by omega)⟩
  · obtain ⟨e0, e1, e2, e3, e4, e5, e6, e7, e8⟩ := tv14
    simp only [Nat.zero_add, Nat.reduceAdd, e0, e1, e2, e3, e4, e5, e6, e7, e8] at D0 D1 D2
    exact Or.inr <| Or.inr <| Or.inr <| Or.inr <| Or.inl ⟨D0 c (by omega) (by omega), D1 a (by omega) (by omega), D2 b (by omega) (by omega)⟩
  · obtain ⟨e0, e1, e2, e3, e4, e5, e6, e7, e8⟩ := tv15
    simp only [Nat.zero_add, Nat.reduceAdd, e0, e1, e2, e3, e4, e5, e6, e7, e8] at D0 D1 D2
    exact Or.inr <| Or.inr <| Or.inr <| Or.inr <| Or.inl ⟨D0 c (by omega) (by omega), D1 a (by omega) (by omega), D2 b (by omega) (by omega)⟩
  · obtain ⟨e0, e1, e2, e3, e4, e5, e6, e7, e8⟩ := tv16
    simp only [Nat.zero_add, Nat.reduceAdd, e0, e1, e2, e3, e4, e5, e6, e7, e8] at D0 D1 D2
    exact Or.inr <| Or.inr <| Or.inr <| Or.inl ⟨D0 b (by omega) (by omega), D1 c (by omega) (by omega), D2 a (by omega) (by omega)⟩
  · obtain ⟨e0, e1, e2, e3, e4, e5, e6, e7, e8⟩ := tv17
    simp only [Nat.zero_add, Nat.reduceAdd, e0, e1, e2, e3, e4, e5, e6, e7, e8] at D0 D1 D2
    exact Or.inr <| Or.inr <| Or.inr <| Or.inl ⟨D0 b (by omega) (by omega), D1 c (by omega) (by omega), D2 a (by omega) (by omega)⟩
  · obtain ⟨e0, e1, e2, e3, e4, e5, e6, e7, e8⟩ := tv18
    simp only [Nat.zero_add, Nat.reduceAdd, e0, e1, e2, e3, e4, e5, e6, e7, e8] at D0 D1 D2
    exact Or.inr <| Or.inr <| Or.inr <| Or.inr <| Or.inr <| ⟨D0 c (by omega) (by omega), D1 b (by omega) (by omega), D2 a (by omega) (by omega)⟩
  · obtain ⟨e0, e1, e2, e3, e4, e5, e6, e7, e8⟩ := tv19
    simp only [Nat.zero_add, Nat.reduceAdd, e0, e1, e2, e3, e4, e5, e6, e7, e8] at D0 D1 D2
    exact Or.inr <| Or.inr <| Or.inr <| Or.inr <| Or.inr <| ⟨D0 c (by omega) (by omega), D1 b (by omega) (by omega), D2 a (by omega) (by omega)⟩
  · obtain ⟨e0, e1, e2, e3, e4, e5, e6, e7, e8⟩ := tv20
    simp only [Nat.zero_add, Nat.reduceAdd, e0, e1, e2, e3, e4, e5, e6, e7, e8] at D0 D1 D2
    exact Or.inr <| Or.inr <| Or.inr <| Or.inl ⟨D0 b (by omega) (by omega), D1 c (by omega) (by omega), D2 a (by omega) (by omega)⟩
  · obtain ⟨e0, e1, e2, e3, e4, e5, e6, e7, e8⟩ := tv21
    simp only [Nat.zero_add, Nat.reduceAdd, e0, e1, e2, e3, e4, e5, e6, e7, e8] at D0 D1 D2
    exact Or.inr <| Or.inr <| Or.inr <| Or.inl ⟨D0 b (by omega) (by omega), D1 c (by omega) (by omega), D2 a (by omega) (by omega)⟩
  · obtain ⟨e0, e1, e2, e3, e4, e5, e6, e7, e8⟩ := tv22
    simp only [Nat.zero_add, Nat.reduceAdd, e0, e1, e2, e3, e4, e5, e6, e7, e8] at D0 D1 D2
    exact Or.inr <| Or.inr <| Or.inr <| Or.inr <| Or.inr <| ⟨D0 c (by omega) (by omega), D1 b (by omega) (by omega), D2 a (by omega) (by omega)⟩
  · obtain ⟨e0, e1, e2, e3, e4, e5, e6, e7, e8⟩ := tv23
    simp only [Nat.zero_add, Nat.reduceAdd, e0, e1, e2, e3, e4, e5, e6, e7, e8] at D0 D1 D2
    exact Or.inr <| Or.inr <| Or.inr <| Or.inr <| Or.inr <| ⟨D0 c (by omega) (by omega), D1 b (by omega) (by omega), D2 a (by omega) (by omega)⟩

theorem sizes {t x y z a b c : Int} (B : Boxed t x y z a b c) :
    let d := fun j => IntKind.i64.wrap (cH t j x y z a b c - cL t j x y z a b c)
    (IntKind.i64.wrap (IntKind.i64.wrap (d 0 + d 1) + d 2) == IntKind.i64.wrap (IntKind.i64.wrap (a + b) + c)) = true ∧ (iMin (iMin (d 0) (d 1)) (d 2) == iMin (iMin a b) c) = true ∧ (iMax (iMax (d 0) (d 1)) (d 2) == iMax (iMax a b) c) = true := by
  intro d
  have ha := B.ha
  have hb := B.hb
  have hc := B.hc
  have wa : IntKind.i64.wrap a = a := w_in (by omega) (by omega)
  have wb : IntKind.i64.wrap b = b := w_in (by omega) (by omega)
  have wc : IntKind.i64.wrap c = c := w_in (by omega) (by omega)
  simp only [d, iMin_eq, iMax_eq, beq_iff_eq]
  rcases dims B with ⟨h0, h1, h2⟩ | ⟨h0, h1, h2⟩ | ⟨h0, h1, h2⟩ | ⟨h0, h1, h2⟩ | ⟨h0, h1, h2⟩ | ⟨h0, h1, h2⟩ <;> simp only at h0 h1 h2 <;> rw [h0, h1, h2, wa, wb, wc] <;>
    (refine ⟨?_, by omega, by omega⟩; first | (simp only [w_l]; done) | (simp only [w_l]; congr 1; omega))
end Go.Am
