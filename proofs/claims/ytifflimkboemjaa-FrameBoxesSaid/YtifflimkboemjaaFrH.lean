/- The turns, plainly: what an image is when nothing wraps; scalar products. -/
import Derived.Test.YtifflimkboemjaaFrG
namespace Go.Am
open Go.Proofs
set_option maxRecDepth 100000
set_option linter.unusedSimpArgs false
theorem tv0 : tb 0 0 = 1 ∧ tb 0 1 = 0 ∧ tb 0 2 = 0 ∧ tb 0 3 = 0 ∧ tb 0 4 = 1 ∧ tb 0 5 = 0 ∧ tb 0 6 = 0 ∧ tb 0 7 = 0 ∧ tb 0 8 = 1 := ⟨rfl, rfl, rfl, rfl, rfl, rfl, rfl, rfl, rfl⟩
theorem tv1 : tb 1 0 = 1 ∧ tb 1 1 = 0 ∧ tb 1 2 = 0 ∧ tb 1 3 = 0 ∧ tb 1 4 = -1 ∧ tb 1 5 = 0 ∧ tb 1 6 = 0 ∧ tb 1 7 = 0 ∧ tb 1 8 = -1 := ⟨rfl, rfl, rfl, rfl, rfl, rfl, rfl, rfl, rfl⟩
theorem tv2 : tb 2 0 = 1 ∧ tb 2 1 = 0 ∧ tb 2 2 = 0 ∧ tb 2 3 = 0 ∧ tb 2 4 = 0 ∧ tb 2 5 = 1 ∧ tb 2 6 = 0 ∧ tb 2 7 = -1 ∧ tb 2 8 = 0 := ⟨rfl, rfl, rfl, rfl, rfl, rfl, rfl, rfl, rfl⟩
theorem tv3 : tb 3 0 = 1 ∧ tb 3 1 = 0 ∧ tb 3 2 = 0 ∧ tb 3 3 = 0 ∧ tb 3 4 = 0 ∧ tb 3 5 = -1 ∧ tb 3 6 = 0 ∧ tb 3 7 = 1 ∧ tb 3 8 = 0 := ⟨rfl, rfl, rfl, rfl, rfl, rfl, rfl, rfl, rfl⟩
theorem tv4 : tb 4 0 = -1 ∧ tb 4 1 = 0 ∧ tb 4 2 = 0 ∧ tb 4 3 = 0 ∧ tb 4 4 = 1 ∧ tb 4 5 = 0 ∧ tb 4 6 = 0 ∧ tb 4 7 = 0 ∧ tb 4 8 = -1 := ⟨rfl, rfl, rfl, rfl, rfl, rfl, rfl, rfl, rfl⟩
theorem tv5 : tb 5 0 = -1 ∧ tb 5 1 = 0 ∧ tb 5 2 = 0 ∧ tb 5 3 = 0 ∧ tb 5 4 = -1 ∧ tb 5 5 = 0 ∧ tb 5 6 = 0 ∧ tb 5 7 = 0 ∧ tb 5 8 = 1 := ⟨rfl, rfl, rfl, rfl, rfl, rfl, rfl, rfl, rfl⟩
theorem tv6 : tb 6 0 = -1 ∧ tb 6 1 = 0 ∧ tb 6 2 = 0 ∧ tb 6 3 = 0 ∧ tb 6 4 = 0 ∧ tb 6 5 = 1 ∧ tb 6 6 = 0 ∧ tb 6 7 = 1 ∧ tb 6 8 = 0 := ⟨rfl, rfl, rfl, rfl, rfl, rfl, rfl, rfl, rfl⟩
theorem tv7 : tb 7 0 = -1 ∧ tb 7 1 = 0 ∧ tb 7 2 = 0 ∧ tb 7 3 = 0 ∧ tb 7 4 = 0 ∧ tb 7 5 = -1 ∧ tb 7 6 = 0 ∧ tb 7 7 = -1 ∧ tb 7 8 = 0 := ⟨rfl, rfl, rfl, rfl, rfl, rfl, rfl, rfl, rfl⟩
theorem tv8 : tb 8 0 = 0 ∧ tb 8 1 = 1 ∧ tb 8 2 = 0 ∧ tb 8 3 = 1 ∧ tb 8 4 = 0 ∧ tb 8 5 = 0 ∧ tb 8 6 = 0 ∧ tb 8 7 = 0 ∧ tb 8 8 = -1 := ⟨rfl, rfl, rfl, rfl, rfl, rfl, rfl, rfl, rfl⟩
theorem tv9 : tb 9 0 = 0 ∧ tb 9 1 = 1 ∧ tb 9 2 = 0 ∧ tb 9 3 = -1 ∧ tb 9 4 = 0 ∧ tb 9 5 = 0 ∧ tb 9 6 = 0 ∧ tb 9 7 = 0 ∧ tb 9 8 = 1 := ⟨rfl, rfl, rfl, rfl, rfl, rfl, rfl, rfl, rfl⟩
theorem tv10 : tb 10 0 = 0 ∧ tb 10 1 = 1 ∧ tb 10 2 = 0 ∧ tb 10 3 = 0 ∧ tb 10 4 = 0 ∧ tb 10 5 = 1 ∧ tb 10 6 = 1 ∧ tb 10 7 = 0 ∧ tb 10 8 = 0 := ⟨rfl, rfl, rfl, rfl, rfl, rfl, rfl, rfl, rfl⟩
theorem tv11 : tb 11 0 = 0 ∧ tb 11 1 = 1 ∧ tb 11 2 = 0 ∧ tb 11 3 = 0 ∧ tb 11 4 = 0 ∧ tb 11 5 = -1 ∧ tb 11 6 = -1 ∧ tb 11 7 = 0 ∧ tb 11 8 = 0 := ⟨rfl, rfl, rfl, rfl, rfl, rfl, rfl, rfl, rfl⟩
theorem tv12 : tb 12 0 = 0 ∧ tb 12 1 = -1 ∧ tb 12 2 = 0 ∧ tb 12 3 = 1 ∧ tb 12 4 = 0 ∧ tb 12 5 = 0 ∧ tb 12 6 = 0 ∧ tb 12 7 = 0 ∧ tb 12 8 = 1 := ⟨rfl, rfl, rfl, rfl, rfl, rfl, rfl, rfl, rfl⟩
theorem tv13 : tb 13 0 = 0 ∧ tb 13 1 = -1 ∧ tb 13 2 = 0 ∧ tb 13 3 = -1 ∧ tb 13 4 = 0 ∧ tb 13 5 = 0 ∧ tb 13 6 = 0 ∧ tb 13 7 = 0 ∧ tb 13 8 = -1 := ⟨rfl, rfl, rfl, rfl, rfl, rfl, rfl, rfl, rfl⟩
theorem tv14 : tb 14 0 = 0 ∧ tb 14 1 = -1 ∧ tb 14 2 = 0 ∧ tb 14 3 = 0 ∧ tb 14 4 = 0 ∧ tb 14 5 = 1 ∧ tb 14 6 = -1 ∧ tb 14 7 = 0 ∧ tb 14 8 = 0 := ⟨rfl, rfl, rfl, rfl, rfl, rfl, rfl, rfl, rfl⟩
theorem tv15 : tb 15 0 = 0 ∧ tb 15 1 = -1 ∧ tb 15 2 = 0 ∧ tb 15 3 = 0 ∧ tb 15 4 = 0 ∧ tb 15 5 = -1 ∧ tb 15 6 = 1 ∧ tb 15 7 = 0 ∧ tb 15 8 = 0 := ⟨rfl, rfl, rfl, rfl, rfl, rfl, rfl, rfl, rfl⟩
theorem tv16 : tb 16 0 = 0 ∧ tb 16 1 = 0 ∧ tb 16 2 = 1 ∧ tb 16 3 = 1 ∧ tb 16 4 = 0 ∧ tb 16 5 = 0 ∧ tb 16 6 = 0 ∧ tb 16 7 = 1 ∧ tb 16 8 = 0 := ⟨rfl, rfl, rfl, rfl, rfl, rfl, rfl, rfl, rfl⟩
theorem tv17 : tb 17 0 = 0 ∧ tb 17 1 = 0 ∧ tb 17 2 = 1 ∧ tb 17 3 = -1 ∧ tb 17 4 = 0 ∧ tb 17 5 = 0 ∧ tb 17 6 = 0 ∧ tb 17 7 = -1 ∧ tb 17 8 = 0 := ⟨rfl, rfl, rfl, rfl, rfl, rfl, rfl, rfl, rfl⟩
theorem tv18 : tb 18 0 = 0 ∧ tb 18 1 = 0 ∧ tb 18 2 = 1 ∧ tb 18 3 = 0 ∧ tb 18 4 = 1 ∧ tb 18 5 = 0 ∧ tb 18 6 = -1 ∧ tb 18 7 = 0 ∧ tb 18 8 = 0 := ⟨rfl, rfl, rfl, rfl, rfl, rfl, rfl, rfl, rfl⟩
theorem tv19 : tb 19 0 = 0 ∧ tb 19 1 = 0 ∧ tb 19 2 = 1 ∧ tb 19 3 = 0 ∧ tb 19 4 = -1 ∧ tb 19 5 = 0 ∧ tb 19 6 = 1 ∧ tb 19 7 = 0 ∧ tb 19 8 = 0 := ⟨rfl, rfl, rfl, rfl, rfl, rfl, rfl, rfl, rfl⟩
theorem tv20 : tb 20 0 = 0 ∧ tb 20 1 = 0 ∧ tb 20 2 = -1 ∧ tb 20 3 = 1 ∧ tb 20 4 = 0 ∧ tb 20 5 = 0 ∧ tb 20 6 = 0 ∧ tb 20 7 = -1 ∧ tb 20 8 = 0 := ⟨rfl, rfl, rfl, rfl, rfl, rfl, rfl, rfl, rfl⟩
theorem tv21 : tb 21 0 = 0 ∧ tb 21 1 = 0 ∧ tb 21 2 = -1 ∧ tb 21 3 = -1 ∧ tb 21 4 = 0 ∧ tb 21 5 = 0 ∧ tb 21 6 = 0 ∧ tb 21 7 = 1 ∧ tb 21 8 = 0 := ⟨rfl, rfl, rfl, rfl, rfl, rfl, rfl, rfl, rfl⟩
theorem tv22 : tb 22 0 = 0 ∧ tb 22 1 = 0 ∧ tb 22 2 = -1 ∧ tb 22 3 = 0 ∧ tb 22 4 = 1 ∧ tb 22 5 = 0 ∧ tb 22 6 = 1 ∧ tb 22 7 = 0 ∧ tb 22 8 = 0 := ⟨rfl, rfl, rfl, rfl, rfl, rfl, rfl, rfl, rfl⟩
theorem tv23 : tb 23 0 = 0 ∧ tb 23 1 = 0 ∧ tb 23 2 = -1 ∧ tb 23 3 = 0 ∧ tb 23 4 = -1 ∧ tb 23 5 = 0 ∧ tb 23 6 = -1 ∧ tb 23 7 = 0 ∧ tb 23 8 = 0 := ⟨rfl, rfl, rfl, rfl, rfl, rfl, rfl, rfl, rfl⟩

theorem fine_of {x y z lo : Int} (h : fineL x y z lo = true) : lo ≤ x ∧ lo ≤ y ∧ lo ≤ z ∧ x ≤ 1000000 ∧ y ≤ 1000000 ∧ z ≤ 1000000 := by
  simp only [fineL, Bool.and_eq_true, decide_eq_true_eq] at h
  exact ⟨h.1.1.1.1.1, h.1.1.1.1.2, h.1.1.1.2, h.1.1.2, h.1.2, h.2⟩
theorem of_fine {x y z lo : Int} (h : lo ≤ x ∧ lo ≤ y ∧ lo ≤ z ∧ x ≤ 1000000 ∧ y ≤ 1000000 ∧ z ≤ 1000000) : fineL x y z lo = true := by
  simp only [fineL, Bool.and_eq_true, decide_eq_true_eq]
  exact ⟨⟨⟨⟨⟨h.1, h.2.1⟩, h.2.2.1⟩, h.2.2.2.1⟩, h.2.2.2.2.1⟩, h.2.2.2.2.2⟩

theorem mul_small {x u B : Int} (hu : -1 ≤ u ∧ u ≤ 1) (hx : -B ≤ x ∧ x ≤ B) : -B ≤ x * u ∧ x * u ≤ B := by
  have : u = -1 ∨ u = 0 ∨ u = 1 := by omega
  rcases this with rfl | rfl | rfl <;> omega
theorem img_lin (t : Int) (j : Nat) (p x y z : Int) (hp : -100000000 ≤ p ∧ p ≤ 100000000) (hx : -100000000 ≤ x ∧ x ≤ 100000000) (hy : -100000000 ≤ y ∧ y ≤ 100000000) (hz : -100000000 ≤ z ∧ z ≤ 100000000) :
    imgL t j p x y z = x * tb t j + (y * tb t (j + 3) + (z * tb t (j + 6) + p)) := by
  have h1 := mul_small (tb_range t j) hx
  have h2 := mul_small (tb_range t (j + 3)) hy
  have h3 := mul_small (tb_range t (j + 6)) hz
  exact w_in (by omega) (by omega)

theorem img_small (t x y z B : Int) (h0 : 0 ≤ t) (h1 : t < 24) (hx : -B ≤ x ∧ x ≤ B) (hy : -B ≤ y ∧ y ≤ B) (hz : -B ≤ z ∧ z ≤ B) (hB : B ≤ 100000000 := by omega) :
    (-B ≤ imgL t 0 0 x y z ∧ imgL t 0 0 x y z ≤ B) ∧ (-B ≤ imgL t 1 0 x y z ∧ imgL t 1 0 x y z ≤ B) ∧ (-B ≤ imgL t 2 0 x y z ∧ imgL t 2 0 x y z ≤ B) := by
  rw [img_lin t 0 0 x y z (by omega) (by omega) (by omega) (by omega), img_lin t 1 0 x y z (by omega) (by omega) (by omega) (by omega), img_lin t 2 0 x y z (by omega) (by omega) (by omega) (by omega)]
  simp only [Nat.reduceAdd, Nat.zero_add]
  rcases turn_cases h0 h1 with rfl|rfl|rfl|rfl|rfl|rfl|rfl|rfl|rfl|rfl|rfl|rfl|rfl|rfl|rfl|rfl|rfl|rfl|rfl|rfl|rfl|rfl|rfl|rfl
  · obtain ⟨e0, e1, e2, e3, e4, e5, e6, e7, e8⟩ := tv0
    simp only [e0, e1, e2, e3, e4, e5, e6, e7, e8]
    refine ⟨⟨?_, ?_⟩, ⟨?_, ?_⟩, ⟨?_, ?_⟩⟩ <;> omega
  · obtain ⟨e0, e1, e2, e3, e4, e5, e6, e7, e8⟩ := tv1
    simp only [e0, e1, e2, e3, e4, e5, e6, e7, e8]
    refine ⟨⟨?_, ?_⟩, ⟨?_, ?_⟩, ⟨?_, ?_⟩⟩ <;> omega
  · obtain ⟨e0, e1, e2, e3, e4, e5, e6, e7, e8⟩ := tv2
    simp only [e0, e1, e2, e3, e4, e5, e6, e7, e8]
    refine ⟨⟨?_, ?_⟩, ⟨?_, ?_⟩, ⟨?_, ?_⟩⟩ <;> omega
  · obtain ⟨e0, e1, e2, e3, e4, e5, e6, e7, e8⟩ := tv3
    simp only [e0, e1, e2, e3, e4, e5, e6, e7, e8]
    refine ⟨⟨?_, ?_⟩, ⟨?_, ?_⟩, ⟨?_, ?_⟩⟩ <;> omega
  · obtain ⟨e0, e1, e2, e3, e4, e5, e6, e7, e8⟩ := tv4
    simp only [e0, e1, e2, e3, e4, e5, e6, e7, e8]
    refine ⟨⟨?_, ?_⟩, ⟨?_, ?_⟩, ⟨?_, ?_⟩⟩ <;> omega
  · obtain ⟨e0, e1, e2, e3, e4, e5, e6, e7, e8⟩ := tv5
    simp only [e0, e1, e2, e3, e4, e5, e6, e7, e8]
    refine ⟨⟨?_, ?_⟩, ⟨?_, ?_⟩, ⟨?_, ?_⟩⟩ <;> omega
  · obtain ⟨e0, e1, e2, e3, e4, e5, e6, e7, e8⟩ := tv6
    simp only [e0, e1, e2, e3, e4, e5, e6, e7, e8]
    refine ⟨⟨?_, ?_⟩, ⟨?_, ?_⟩, ⟨?_, ?_⟩⟩ <;> omega
  · obtain ⟨e0, e1, e2, e3, e4, e5, e6, e7, e8⟩ := tv7
    simp only [e0, e1, e2, e3, e4, e5, e6, e7, e8]
    refine ⟨⟨?_, ?_⟩, ⟨?_, ?_⟩, ⟨?_, ?_⟩⟩ <;> omega
  · obtain ⟨e0, e1, e2, e3, e4, e5, e6, e7, e8⟩ := tv8
    simp only [e0, e1, e2, e3, e4, e5, e6, e7, e8]
    refine ⟨⟨?_, ?_⟩, ⟨?_, ?_⟩, ⟨?_, ?_⟩⟩ <;> omega
  · obtain ⟨e0, e1, e2, e3, e4, e5, e6, e7, e8⟩ := tv9
    simp only [e0, e1, e2, e3, e4, e5, e6, e7, e8]
    refine ⟨⟨?_, ?_⟩, ⟨?_, ?_⟩, ⟨?_, ?_⟩⟩ <;> omega
  · obtain ⟨e0, e1, e2, e3, e4, e5, e6, e7, e8⟩ := tv10
    simp only [e0, e1, e2, e3, e4, e5, e6, e7, e8]
    refine ⟨⟨?_, ?_⟩, ⟨?_, ?_⟩, ⟨?_, ?_⟩⟩ <;> omega
  · obtain ⟨e0, e1, e2, e3, e4, e5, e6, e7, e8⟩ := tv11
    simp only [e0, e1, e2, e3, e4, e5, e6, e7, e8]
    refine ⟨⟨?_, ?_⟩, ⟨?_, ?_⟩, ⟨?_, ?_⟩⟩ <;> omega
  · obtain ⟨e0, e1, e2, e3, e4, e5, e6, e7, e8⟩ := tv12
    simp only [e0, e1, e2, e3, e4, e5, e6, e7, e8]
    refine ⟨⟨?_, ?_⟩, ⟨?_, ?_⟩, ⟨?_, ?_⟩⟩ <;> omega
  · obtain ⟨e0, e1, e2, e3, e4, e5, e6, e7, e8⟩ := tv13
    simp only [e0, e1, e2, e3, e4, e5, e6, e7, e8]
    refine ⟨⟨?_, ?_⟩, ⟨?_, ?_⟩, ⟨?_, ?_⟩⟩ <;> omega
  · obtain ⟨e0, e1, e2, e3, e4, e5, e6, e7, e8⟩ := tv14
    simp only [e0, e1, e2, e3, e4, e5, e6, e7, e8]
    refine ⟨⟨?_, ?_⟩, ⟨?_, ?_⟩, ⟨?_, ?_⟩⟩ <;> omega
  · obtain ⟨e0, e1, e2, e3, e4, e5, e6, e7, e8⟩ := tv15
    simp only [e0, e1, e2, e3, e4, e5, e6, e7, e8]
    refine ⟨⟨?_, ?_⟩, ⟨?_, ?_⟩, ⟨?_, ?_⟩⟩ <;> omega
  · obtain ⟨e0, e1, e2, e3, e4, e5, e6, e7, e8⟩ := tv16
    simp only [e0, e1, e2, e3, e4, e5, e6, e7, e8]
    refine ⟨⟨?_, ?_⟩, ⟨?_, ?_⟩, ⟨?_, ?_⟩⟩ <;> omega
  · obtain ⟨e0, e1, e2, e3, e4, e5, e6, e7, e8⟩ := tv17
    simp only [e0, e1, e2, e3, e4, e5, e6, e7, e8]
    refine ⟨⟨?_, ?_⟩, ⟨?_, ?_⟩, ⟨?_, ?_⟩⟩ <;> omega
  · obtain ⟨e0, e1, e2, e3, e4, e5, e6, e7, e8⟩ := tv18
    simp only [e0, e1, e2, e3, e4, e5, e6, e7, e8]
    refine ⟨⟨?_, ?_⟩, ⟨?_, ?_⟩, ⟨?_, ?_⟩⟩ <;> omega
  · obtain ⟨e0, e1, e2, e3, e4, e5, e6, e7, e8⟩ := tv19
    simp only [e0, e1, e2, e3, e4, e5, e6, e7, e8]
    refine ⟨⟨?_, ?_⟩, ⟨?_, ?_⟩, ⟨?_, ?_⟩⟩ <;> omega
  · obtain ⟨e0, e1, e2, e3, e4, e5, e6, e7, e8⟩ := tv20
    simp only [e0, e1, e2, e3, e4, e5, e6, e7, e8]
    refine ⟨⟨?_, ?_⟩, ⟨?_, ?_⟩, ⟨?_, ?_⟩⟩ <;> omega
  · obtain ⟨e0, e1, e2, e3, e4, e5, e6, e7, e8⟩ := tv21
    simp only [e0, e1, e2, e3, e4, e5, e6, e7, e8]
    refine ⟨⟨?_, ?_⟩, ⟨?_, ?_⟩, ⟨?_, ?_⟩⟩ <;> omega
  · obtain ⟨e0, e1, e2, e3, e4, e5, e6, e7, e8⟩ := tv22
    simp only [e0, e1, e2, e3, e4, e5, e6, e7, e8]
    refine ⟨⟨?_, ?_⟩, ⟨?_, ?_⟩, ⟨?_, ?_⟩⟩ <;> omega
  · obtain ⟨e0, e1, e2, e3, e4, e5, e6, e7, e8⟩ := tv23
    simp only [e0, e1, e2, e3, e4, e5, e6, e7, e8]
    refine ⟨⟨?_, ?_⟩, ⟨?_, ?_⟩, ⟨?_, ?_⟩⟩ <;> omega

theorem orth (t : Int) (h0 : 0 ≤ t) (h1 : t < 24) (a b c x y z : Int) :
    (a * tb t 0 + (b * tb t (0 + 3) + (c * tb t (0 + 6) + 0))) * (x * tb t 0 + (y * tb t (0 + 3) + (z * tb t (0 + 6) + 0))) +
    (a * tb t 1 + (b * tb t (1 + 3) + (c * tb t (1 + 6) + 0))) * (x * tb t 1 + (y * tb t (1 + 3) + (z * tb t (1 + 6) + 0))) +
    (a * tb t 2 + (b * tb t (2 + 3) + (c * tb t (2 + 6) + 0))) * (x * tb t 2 + (y * tb t (2 + 3) + (z * tb t (2 + 6) + 0))) = a * x + b * y + c * z := by
  simp only [Nat.reduceAdd, Nat.zero_add, Int.add_zero]
  rcases turn_cases h0 h1 with rfl|rfl|rfl|rfl|rfl|rfl|rfl|rfl|rfl|rfl|rfl|rfl|rfl|rfl|rfl|rfl|rfl|rfl|rfl|rfl|rfl|rfl|rfl|rfl
  · obtain ⟨e0, e1, e2, e3, e4, e5, e6, e7, e8⟩ := tv0
    simp only [e0, e1, e2, e3, e4, e5, e6, e7, e8]
    simp only [Int.mul_one, Int.mul_zero, Int.mul_neg, Int.neg_mul, Int.neg_neg, Int.zero_add, Int.add_zero] <;> omega
  · obtain ⟨e0, e1, e2, e3, e4, e5, e6, e7, e8⟩ := tv1
    simp only [e0, e1, e2, e3, e4, e5, e6, e7, e8]
    simp only [Int.mul_one, Int.mul_zero, Int.mul_neg, Int.neg_mul, Int.neg_neg, Int.zero_add, Int.add_zero] <;> omega
  · obtain ⟨e0, e1, e2, e3, e4, e5, e6, e7, e8⟩ := tv2
    simp only [e0, e1, e2, e3, e4, e5, e6, e7, e8]
    simp only [Int.mul_one, Int.mul_zero, Int.mul_neg, Int.neg_mul, Int.neg_neg, Int.zero_add, Int.add_zero] <;> omega
  · obtain ⟨e0, e1, e2, e3, e4, e5, e6, e7, e8⟩ := tv3
    simp only [e0, e1, e2, e3, e4, e5, e6, e7, e8]
    simp only [Int.mul_one, Int.mul_zero, Int.mul_neg, Int.neg_mul, Int.neg_neg, Int.zero_add, Int.add_zero] <;> omega
  · obtain ⟨e0, e1, e2, e3, e4, e5, e6, e7, e8⟩ := tv4
    simp only [e0, e1, e2, e3, e4, e5, e6, e7, e8]
    simp only [Int.mul_one, Int.mul_zero, Int.mul_neg, Int.neg_mul, Int.neg_neg, Int.zero_add, Int.add_zero] <;> omega
  · obtain ⟨e0, e1, e2, e3, e4, e5, e6, e7, e8⟩ := tv5
    simp only [e0, e1, e2, e3, e4, e5, e6, e7, e8]
    simp only [Int.mul_one, Int.mul_zero, Int.mul_neg, Int.neg_mul, Int.neg_neg, Int.zero_add, Int.add_zero] <;> omega
  · obtain ⟨e0, e1, e2, e3, e4, e5, e6, e7, e8⟩ := tv6
    simp only [e0, e1, e2, e3, e4, e5, e6, e7, e8]
    simp only [Int.mul_one, Int.mul_zero, Int.mul_neg, Int.neg_mul, Int.neg_neg, Int.zero_add, Int.add_zero] <;> omega
  · obtain ⟨e0, e1, e2, e3, e4, e5, e6, e7, e8⟩ := tv7
    simp only [e0, e1, e2, e3, e4, e5, e6, e7, e8]
    simp only [Int.mul_one, Int.mul_zero, Int.mul_neg, Int.neg_mul, Int.neg_neg, Int.zero_add, Int.add_zero] <;> omega
  · obtain ⟨e0, e1, e2, e3, e4, e5, e6, e7, e8⟩ := tv8
    simp only [e0, e1, e2, e3, e4, e5, e6, e7, e8]
    simp only [Int.mul_one, Int.mul_zero, Int.mul_neg, Int.neg_mul, Int.neg_neg, Int.zero_add, Int.add_zero] <;> omega
  · obtain ⟨e0, e1, e2, e3, e4, e5, e6, e7, e8⟩ := tv9
    simp only [e0, e1, e2, e3, e4, e5, e6, e7, e8]
    simp only [Int.mul_one, Int.mul_zero, Int.mul_neg, Int.neg_mul, Int.neg_neg, Int.zero_add, Int.add_zero] <;> omega
  · obtain ⟨e0, e1, e2, e3, e4, e5, e6, e7, e8⟩ := tv10
    simp only [e0, e1, e2, e3, e4, e5, e6, e7, e8]
    simp only [Int.mul_one, Int.mul_zero, Int.mul_neg, Int.neg_mul, Int.neg_neg, Int.zero_add, Int.add_zero] <;> omega
  · obtain ⟨e0, e1, e2, e3, e4, e5, e6, e7, e8⟩ := tv11
    simp only [e0, e1, e2, e3, e4, e5, e6, e7, e8]
    simp only [Int.mul_one, Int.mul_zero, Int.mul_neg, Int.neg_mul, Int.neg_neg, Int.zero_add, Int.add_zero] <;> omega
  · obtain ⟨e0, e1, e2, e3, e4, e5, e6, e7, e8⟩ := tv12
    simp only [e0, e1, e2, e3, e4, e5, e6, e7, e8]
    simp only [Int.mul_one, Int.mul_zero, Int.mul_neg, Int.neg_mul, Int.neg_neg, Int.zero_add, Int.add_zero] <;> omega
  · obtain ⟨e0, e1, e2, e3, e4, e5, e6, e7, e8⟩ := tv13
    simp only [e0, e1, e2, e3, e4, e5, e6, e7, e8]
    simp only [Int.mul_one, Int.mul_zero, Int.mul_neg, Int.neg_mul, Int.neg_neg, Int.zero_add, Int.add_zero] <;> omega
  · obtain ⟨e0, e1, e2, e3, e4, e5, e6, e7, e8⟩ := tv14
    simp only [e0, e1, e2, e3, e4, e5, e6, e7, e8]
    simp only [Int.mul_one, Int.mul_zero, Int.mul_neg, Int.neg_mul, Int.neg_neg, Int.zero_add, Int.add_zero] <;> omega
  · obtain ⟨e0, e1, e2, e3, e4, e5, e6, e7, e8⟩ := tv15
    simp only [e0, e1, e2, e3, e4, e5, e6, e7, e8]
    simp only [Int.mul_one, Int.mul_zero, Int.mul_neg, Int.neg_mul, Int.neg_neg, Int.zero_add, Int.add_zero] <;> omega
  · obtain ⟨e0, e1, e2, e3, e4, e5, e6, e7, e8⟩ := tv16
    simp only [e0, e1, e2, e3, e4, e5, e6, e7, e8]
    simp only [Int.mul_one, Int.mul_zero, Int.mul_neg, Int.neg_mul, Int.neg_neg, Int.zero_add, Int.add_zero] <;> omega
  · obtain ⟨e0, e1, e2, e3, e4, e5, e6, e7, e8⟩ := tv17
    simp only [e0, e1, e2, e3, e4, e5, e6, e7, e8]
    simp only [Int.mul_one, Int.mul_zero, Int.mul_neg, Int.neg_mul, Int.neg_neg, Int.zero_add, Int.add_zero] <;> omega
  · obtain ⟨e0, e1, e2, e3, e4, e5, e6, e7, e8⟩ := tv18
    simp only [e0, e1, e2, e3, e4, e5, e6, e7, e8]
    simp only [Int.mul_one, Int.mul_zero, Int.mul_neg, Int.neg_mul, Int.neg_neg, Int.zero_add, Int.add_zero] <;> omega
  · obtain ⟨e0, e1, e2, e3, e4, e5, e6, e7, e8⟩ := tv19
    simp only [e0, e1, e2, e3, e4, e5, e6, e7, e8]
    simp only [Int.mul_one, Int.mul_zero, Int.mul_neg, Int.neg_mul, Int.neg_neg, Int.zero_add, Int.add_zero] <;> omega
  · obtain ⟨e0, e1, e2, e3, e4, e5, e6, e7, e8⟩ := tv20
    simp only [e0, e1, e2, e3, e4, e5, e6, e7, e8]
    simp only [Int.mul_one, Int.mul_zero, Int.mul_neg, Int.neg_mul, Int.neg_neg, Int.zero_add, Int.add_zero] <;> omega
  · obtain ⟨e0, e1, e2, e3, e4, e5, e6, e7, e8⟩ := tv21
    simp only [e0, e1, e2, e3, e4, e5, e6, e7, e8]
    simp only [Int.mul_one, Int.mul_zero, Int.mul_neg, Int.neg_mul, Int.neg_neg, Int.zero_add, Int.add_zero] <;> omega
  · obtain ⟨e0, e1, e2, e3, e4, e5, e6, e7, e8⟩ := tv22
    simp only [e0, e1, e2, e3, e4, e5, e6, e7, e8]
    simp only [Int.mul_one, Int.mul_zero, Int.mul_neg, Int.neg_mul, Int.neg_neg, Int.zero_add, Int.add_zero] <;> omega
  · obtain ⟨e0, e1, e2, e3, e4, e5, e6, e7, e8⟩ := tv23
    simp only [e0, e1, e2, e3, e4, e5, e6, e7, e8]
    simp only [Int.mul_one, Int.mul_zero, Int.mul_neg, Int.neg_mul, Int.neg_neg, Int.zero_add, Int.add_zero] <;> omega
end Go.Am
