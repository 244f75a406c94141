/- Turns after turns, plainly: composition is associative; images of images. -/
import Derived.Test.YtifflimkboemjaaFrH
namespace Go.Am
open Go.Proofs
set_option maxRecDepth 100000
set_option linter.unusedVariables false

theorem cmp_row {s t : Int} (h0 : 0 ≤ s) (h1 : s < 24) (h2 : 0 ≤ t) (h3 : t < 24) :
    [tb (cmp s t) 0, tb (cmp s t) 1, tb (cmp s t) 2, tb (cmp s t) 3, tb (cmp s t) 4, tb (cmp s t) 5, tb (cmp s t) 6, tb (cmp s t) 7, tb (cmp s t) 8] = mulL s t :=
  eq_of_beq (all_turns2 (p := fun s t => [tb (cmp s t) 0, tb (cmp s t) 1, tb (cmp s t) 2, tb (cmp s t) 3, tb (cmp s t) 4, tb (cmp s t) 5, tb (cmp s t) 6, tb (cmp s t) 7, tb (cmp s t) 8] == mulL s t) (by kernel_rfl) h0 h1 h2 h3)

theorem cmp_range (s t : Int) : 0 ≤ cmp s t ∧ cmp s t < 24 := nm_range _
theorem inv_range (t : Int) : 0 ≤ inv t ∧ inv t < 24 := nm_range _

theorem cmp_assoc {r s t : Int} (hr : 0 ≤ r ∧ r < 24) (hs : 0 ≤ s ∧ s < 24) (ht : 0 ≤ t ∧ t < 24) : cmp (cmp r s) t = cmp r (cmp s t) := by
  have a := cmp_row hr.1 hr.2 hs.1 hs.2
  have b := cmp_row hs.1 hs.2 ht.1 ht.2
  simp only [mulL, List.cons.injEq, and_true] at a b
  obtain ⟨a0, a1, a2, a3, a4, a5, a6, a7, a8⟩ := a
  obtain ⟨b0, b1, b2, b3, b4, b5, b6, b7, b8⟩ := b
  refine congrArg nm ?_
  simp only [mulL, a0, a1, a2, a3, a4, a5, a6, a7, a8, b0, b1, b2, b3, b4, b5, b6, b7, b8, List.cons.injEq, and_true]
  refine ⟨?_, ?_, ?_, ?_, ?_, ?_, ?_, ?_, ?_⟩ <;> grind

theorem img_bound {t x y z p B C : Int} (j : Nat) (hj : j < 3) (h0 : 0 ≤ t) (h1 : t < 24) (hx : -B ≤ x ∧ x ≤ B) (hy : -B ≤ y ∧ y ≤ B) (hz : -B ≤ z ∧ z ≤ B) (hp : -C ≤ p ∧ p ≤ C) (hB : B ≤ 100000000) (hC : C ≤ 100000000) :
    -(B + C) ≤ imgL t j p x y z ∧ imgL t j p x y z ≤ B + C := by
  have e := img_lin t j p x y z (by omega) (by omega) (by omega) (by omega)
  have e' := img_lin t j 0 x y z (by omega) (by omega) (by omega) (by omega)
  obtain ⟨a, b, c⟩ := img_small t x y z B h0 h1 hx hy hz hB
  obtain rfl | rfl | rfl : j = 0 ∨ j = 1 ∨ j = 2 := by omega
  all_goals omega

theorem img_img {s t : Int} (hs : 0 ≤ s ∧ s < 24) (ht : 0 ≤ t ∧ t < 24) (j : Nat) (hj : j < 3) {a b c x y z p : Int} (ha : -10000000 ≤ a ∧ a ≤ 10000000) (hb : -10000000 ≤ b ∧ b ≤ 10000000) (hc : -10000000 ≤ c ∧ c ≤ 10000000)
    (hx : -10000000 ≤ x ∧ x ≤ 10000000) (hy : -10000000 ≤ y ∧ y ≤ 10000000) (hz : -10000000 ≤ z ∧ z ≤ 10000000) (hp : -10000000 ≤ p ∧ p ≤ 10000000) :
    imgL t j p (imgL s 0 a x y z) (imgL s 1 b x y z) (imgL s 2 c x y z) = imgL (cmp s t) j (imgL t j p a b c) x y z := by
  have i0 := img_bound (t := s) (x := x) (y := y) (z := z) (p := a) (B := 10000000) (C := 10000000) 0 (by omega) hs.1 hs.2 hx hy hz ha (by omega) (by omega)
  have i1 := img_bound (t := s) (x := x) (y := y) (z := z) (p := b) (B := 10000000) (C := 10000000) 1 (by omega) hs.1 hs.2 hx hy hz hb (by omega) (by omega)
  have i2 := img_bound (t := s) (x := x) (y := y) (z := z) (p := c) (B := 10000000) (C := 10000000) 2 (by omega) hs.1 hs.2 hx hy hz hc (by omega) (by omega)
  have i3 := img_bound (t := t) (x := a) (y := b) (z := c) (p := p) (B := 10000000) (C := 10000000) j hj ht.1 ht.2 ha hb hc hp (by omega) (by omega)
  rw [img_lin t j p _ _ _ (by omega) (by omega) (by omega) (by omega), img_lin (cmp s t) j _ x y z (by omega) (by omega) (by omega) (by omega),
    img_lin s 0 a x y z (by omega) (by omega) (by omega) (by omega), img_lin s 1 b x y z (by omega) (by omega) (by omega) (by omega), img_lin s 2 c x y z (by omega) (by omega) (by omega) (by omega),
    img_lin t j p a b c (by omega) (by omega) (by omega) (by omega)]
  have e := cmp_row hs.1 hs.2 ht.1 ht.2
  simp only [mulL, List.cons.injEq, and_true] at e
  obtain ⟨a0, a1, a2, a3, a4, a5, a6, a7, a8⟩ := e
  obtain rfl | rfl | rfl : j = 0 ∨ j = 1 ∨ j = 2 := by omega
  all_goals
    simp only [Nat.reduceAdd, Nat.zero_add, a0, a1, a2, a3, a4, a5, a6, a7, a8]
    grind
end Go.Am
