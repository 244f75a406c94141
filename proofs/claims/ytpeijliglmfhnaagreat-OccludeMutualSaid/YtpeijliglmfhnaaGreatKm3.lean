/- A part of a proof: several texts in one. -/
import Derived.Test.YtpeijliglmfhnaaGreatKm2
import Derived.Sort.AssemblyPlain
import Derived.Lib.BitFns
import Derived.Shelf.GgSortFunc.InsertionK
import Derived.Shelf.Sort.Plain
import Derived.Ground.Names2Prog
import Derived.Shelf.Slices.CompactI
import Derived.Shelf.Slices.SearchI
import Derived.Shelf.Slices.Cells
import Derived.Shelf.Slices.In.SortNone
import Derived.Shelf.SlSortCmp.WholeK
import Derived.Ground.SlsfProg
import Derived.Test.YtpeijliglmfhnaaGreatProg
section
set_option linter.unusedVariables false
set_option linter.unusedSimpArgs false
namespace Go.Am
open Go.Proofs
set_option maxRecDepth 100000
set_option maxHeartbeats 4000000
set_option linter.unusedVariables false
set_option linter.unusedSimpArgs false
theorem toNat_pred (n : Nat) : Int.toNat ((n : Int) - 1) = n - 1 := by omega
theorem r2_eq (x y : R2) : ((x.a == y.a) && (x.b == y.b)) = decide (x = y) := by
  obtain ⟨a, b⟩ := x; obtain ⟨c, d⟩ := y
  rw [Bool.eq_iff_iff]; simp
theorem r4_eq (x y : R4) : ((x.a == y.a) && ((x.b == y.b) && ((x.c == y.c) && (x.d == y.d)))) = decide (x = y) := by
  obtain ⟨a, b, c, d⟩ := x; obtain ⟨e, f, g, h⟩ := y
  rw [Bool.eq_iff_iff]; simp
theorem r6_eq (x y : R6) : (((x.a == y.a) && ((x.b == y.b) && (x.c == y.c))) && ((x.d == y.d) && ((x.e == y.e) && (x.f == y.f)))) = decide (x = y) := by
  obtain ⟨a, b, c, d, e, f⟩ := x; obtain ⟨a', b', c', d', e', f'⟩ := y
  rw [Bool.eq_iff_iff]; simp [and_assoc]
def same2V (l m : List R2) : Bool := decide (l = m)
def same4V (l m : List R4) : Bool := decide (l = m)
def same6V (l m : List R6) : Bool := decide (l = m)
def same2V_owed (l m : List R2) : Bool := decide (l.length ≤ 1000000)
def same4V_owed (l m : List R4) : Bool := decide (l.length ≤ 1000000)
def same6V_owed (l m : List R6) : Bool := decide (l.length ≤ 1000000)
theorem dec_cons {α : Type} [DecidableEq α] (x y : α) (l m : List α) : decide (x :: l = y :: m) = (decide (x = y) && decide (l = m)) := by
  rw [← Bool.decide_and]; congr 1; simp
theorem rsm_h0 (l m : List R2) (hl : l.length ≤ 1000000) (hm : l.length = m.length) : ∀ (k i : Nat), i + k = l.length → ∃ N, goOn (rsmstep l m) N (.to (.h0 (i : Int))) = .ret [.bool (decide (l.drop i = m.drop i))]
  | 0, i, h => by
    refine ⟨1, ?_⟩
    rw [goOn_to, List.drop_eq_nil_of_le (show l.length ≤ i by omega), List.drop_eq_nil_of_le (show m.length ≤ i by omega)]
    simp (disch := omega) only [rsmstep, dgt_f, dgt_t, dlt_t, dlt_f, dle_t, nlt_t, nle_t, neq_t, din_t, wrap_t, room_t, ne_t, ne_f, decide_true, cast_succ, cast_pred, toNat_pred, beq11, toNat_c, Nat.zero_add, Bool.and_true, Bool.true_and, cond_true, cond_false, Bool.not_true, Bool.not_false, goOn_ret]
  | k + 1, i, h => by
    obtain ⟨N, hN⟩ := rsm_h0 l m hl hm k (i + 1) (by omega)
    refine ⟨N + 1, ?_⟩
    rw [goOn_to, drop_rd (show i < l.length by omega), drop_rd (show i < m.length by omega), dec_cons]
    rcases boolc (decide (rd l i = rd m i)) with q | q
    · simp (disch := omega) only [rsmstep, r2_eq, q, dgt_f, dgt_t, dlt_t, dlt_f, dle_t, nlt_t, nle_t, neq_t, din_t, wrap_t, room_t, ne_t, ne_f, decide_true, cast_succ, cast_pred, toNat_pred, beq11, toNat_c, Nat.zero_add, Bool.and_true, Bool.true_and, cond_true, cond_false, Bool.not_true, Bool.not_false, goOn_ret]
      exact hN
    · simp (disch := omega) only [rsmstep, r2_eq, q, dgt_f, dgt_t, dlt_t, dlt_f, dle_t, nlt_t, nle_t, neq_t, din_t, wrap_t, room_t, ne_t, ne_f, decide_true, cast_succ, cast_pred, toNat_pred, beq11, toNat_c, Nat.zero_add, Bool.and_true, Bool.true_and, cond_true, cond_false, Bool.not_true, Bool.not_false, goOn_ret, Bool.false_and]
theorem rsm_run (l m : List R2) (h : same2V_owed l m = true) : ∃ N, goOn (rsmstep l m) N (rsmstart l m) = .ret [.bool (same2V l m)] := by
  have hl : l.length ≤ 1000000 := of_decide_eq_true h
  by_cases hm : l.length = m.length
  · obtain ⟨N, hN⟩ := rsm_h0 l m hl hm l.length 0 (Nat.zero_add _)
    refine ⟨N, ?_⟩
    unfold rsmstart
    rw [ne_f (show ((l.length : Nat) : Int) = (m.length : Nat) by omega)]
    exact hN
  · refine ⟨0, ?_⟩
    unfold rsmstart
    rw [ne_t (show ((l.length : Nat) : Int) ≠ (m.length : Nat) by omega)]
    have : same2V l m = false := decide_eq_false fun e => hm (by rw [e])
    rw [this]; rfl
theorem rsr_h0 (l m : List R4) (hl : l.length ≤ 1000000) (hm : l.length = m.length) : ∀ (k i : Nat), i + k = l.length → ∃ N, goOn (rsrstep l m) N (.to (.h0 (i : Int))) = .ret [.bool (decide (l.drop i = m.drop i))]
  | 0, i, h => by
    refine ⟨1, ?_⟩
    rw [goOn_to, List.drop_eq_nil_of_le (show l.length ≤ i by omega), List.drop_eq_nil_of_le (show m.length ≤ i by omega)]
    simp (disch := omega) only [rsrstep, dgt_f, dgt_t, dlt_t, dlt_f, dle_t, nlt_t, nle_t, neq_t, din_t, wrap_t, room_t, ne_t, ne_f, decide_true, cast_succ, cast_pred, toNat_pred, beq11, toNat_c, Nat.zero_add, Bool.and_true, Bool.true_and, cond_true, cond_false, Bool.not_true, Bool.not_false, goOn_ret]
  | k + 1, i, h => by
    obtain ⟨N, hN⟩ := rsr_h0 l m hl hm k (i + 1) (by omega)
    refine ⟨N + 1, ?_⟩
    rw [goOn_to, drop_rd (show i < l.length by omega), drop_rd (show i < m.length by omega), dec_cons]
    rcases boolc (decide (rd l i = rd m i)) with q | q
    · simp (disch := omega) only [rsrstep, r4_eq, q, dgt_f, dgt_t, dlt_t, dlt_f, dle_t, nlt_t, nle_t, neq_t, din_t, wrap_t, room_t, ne_t, ne_f, decide_true, cast_succ, cast_pred, toNat_pred, beq11, toNat_c, Nat.zero_add, Bool.and_true, Bool.true_and, cond_true, cond_false, Bool.not_true, Bool.not_false, goOn_ret]
      exact hN
    · simp (disch := omega) only [rsrstep, r4_eq, q, dgt_f, dgt_t, dlt_t, dlt_f, dle_t, nlt_t, nle_t, neq_t, din_t, wrap_t, room_t, ne_t, ne_f, decide_true, cast_succ, cast_pred, toNat_pred, beq11, toNat_c, Nat.zero_add, Bool.and_true, Bool.true_and, cond_true, cond_false, Bool.not_true, Bool.not_false, goOn_ret, Bool.false_and]
theorem rsr_run (l m : List R4) (h : same4V_owed l m = true) : ∃ N, goOn (rsrstep l m) N (rsrstart l m) = .ret [.bool (same4V l m)] := by
  have hl : l.length ≤ 1000000 := of_decide_eq_true h
  by_cases hm : l.length = m.length
  · obtain ⟨N, hN⟩ := rsr_h0 l m hl hm l.length 0 (Nat.zero_add _)
    refine ⟨N, ?_⟩
    unfold rsrstart
    rw [ne_f (show ((l.length : Nat) : Int) = (m.length : Nat) by omega)]
    exact hN
  · refine ⟨0, ?_⟩
    unfold rsrstart
    rw [ne_t (show ((l.length : Nat) : Int) ≠ (m.length : Nat) by omega)]
    have : same4V l m = false := decide_eq_false fun e => hm (by rw [e])
    rw [this]; rfl
theorem rsb_h0 (l m : List R6) (hl : l.length ≤ 1000000) (hm : l.length = m.length) : ∀ (k i : Nat), i + k = l.length → ∃ N, goOn (rsbstep l m) N (.to (.h0 (i : Int))) = .ret [.bool (decide (l.drop i = m.drop i))]
  | 0, i, h => by
    refine ⟨1, ?_⟩
    rw [goOn_to, List.drop_eq_nil_of_le (show l.length ≤ i by omega), List.drop_eq_nil_of_le (show m.length ≤ i by omega)]
    simp (disch := omega) only [rsbstep, dgt_f, dgt_t, dlt_t, dlt_f, dle_t, nlt_t, nle_t, neq_t, din_t, wrap_t, room_t, ne_t, ne_f, decide_true, cast_succ, cast_pred, toNat_pred, beq11, toNat_c, Nat.zero_add, Bool.and_true, Bool.true_and, cond_true, cond_false, Bool.not_true, Bool.not_false, goOn_ret]
  | k + 1, i, h => by
    obtain ⟨N, hN⟩ := rsb_h0 l m hl hm k (i + 1) (by omega)
    refine ⟨N + 1, ?_⟩
    rw [goOn_to, drop_rd (show i < l.length by omega), drop_rd (show i < m.length by omega), dec_cons]
    rcases boolc (decide (rd l i = rd m i)) with q | q
    · simp (disch := omega) only [rsbstep, r6_eq, q, dgt_f, dgt_t, dlt_t, dlt_f, dle_t, nlt_t, nle_t, neq_t, din_t, wrap_t, room_t, ne_t, ne_f, decide_true, cast_succ, cast_pred, toNat_pred, beq11, toNat_c, Nat.zero_add, Bool.and_true, Bool.true_and, cond_true, cond_false, Bool.not_true, Bool.not_false, goOn_ret]
      exact hN
    · simp (disch := omega) only [rsbstep, r6_eq, q, dgt_f, dgt_t, dlt_t, dlt_f, dle_t, nlt_t, nle_t, neq_t, din_t, wrap_t, room_t, ne_t, ne_f, decide_true, cast_succ, cast_pred, toNat_pred, beq11, toNat_c, Nat.zero_add, Bool.and_true, Bool.true_and, cond_true, cond_false, Bool.not_true, Bool.not_false, goOn_ret, Bool.false_and]
theorem rsb_run (l m : List R6) (h : same6V_owed l m = true) : ∃ N, goOn (rsbstep l m) N (rsbstart l m) = .ret [.bool (same6V l m)] := by
  have hl : l.length ≤ 1000000 := of_decide_eq_true h
  by_cases hm : l.length = m.length
  · obtain ⟨N, hN⟩ := rsb_h0 l m hl hm l.length 0 (Nat.zero_add _)
    refine ⟨N, ?_⟩
    unfold rsbstart
    rw [ne_f (show ((l.length : Nat) : Int) = (m.length : Nat) by omega)]
    exact hN
  · refine ⟨0, ?_⟩
    unfold rsbstart
    rw [ne_t (show ((l.length : Nat) : Int) ≠ (m.length : Nat) by omega)]
    have : same6V l m = false := decide_eq_false fun e => hm (by rw [e])
    rw [this]; rfl
theorem eqa_h0 (l m : List R2) (hl : l.length ≤ 1000000) (hm : l.length = m.length) : ∀ (k i : Nat), i + k = l.length → ∃ N, goOn (eqastep l m) N (.to (.h0 (i : Int))) = .ret [.bool (decide (l.drop i = m.drop i))]
  | 0, i, h => by
    refine ⟨1, ?_⟩
    rw [goOn_to, List.drop_eq_nil_of_le (show l.length ≤ i by omega), List.drop_eq_nil_of_le (show m.length ≤ i by omega)]
    simp (disch := omega) only [eqastep, dgt_f, dgt_t, dlt_t, dlt_f, dle_t, nlt_t, nle_t, neq_t, din_t, wrap_t, room_t, ne_t, ne_f, decide_true, cast_succ, cast_pred, toNat_pred, beq11, toNat_c, Nat.zero_add, Bool.and_true, Bool.true_and, cond_true, cond_false, Bool.not_true, Bool.not_false, goOn_ret]
  | k + 1, i, h => by
    obtain ⟨N, hN⟩ := eqa_h0 l m hl hm k (i + 1) (by omega)
    refine ⟨N + 1, ?_⟩
    rw [goOn_to, drop_rd (show i < l.length by omega), drop_rd (show i < m.length by omega), dec_cons]
    rcases boolc (decide (rd l i = rd m i)) with q | q
    · simp (disch := omega) only [eqastep, r2_eq, q, dgt_f, dgt_t, dlt_t, dlt_f, dle_t, nlt_t, nle_t, neq_t, din_t, wrap_t, room_t, ne_t, ne_f, decide_true, cast_succ, cast_pred, toNat_pred, beq11, toNat_c, Nat.zero_add, Bool.and_true, Bool.true_and, cond_true, cond_false, Bool.not_true, Bool.not_false, goOn_ret]
      exact hN
    · simp (disch := omega) only [eqastep, r2_eq, q, dgt_f, dgt_t, dlt_t, dlt_f, dle_t, nlt_t, nle_t, neq_t, din_t, wrap_t, room_t, ne_t, ne_f, decide_true, cast_succ, cast_pred, toNat_pred, beq11, toNat_c, Nat.zero_add, Bool.and_true, Bool.true_and, cond_true, cond_false, Bool.not_true, Bool.not_false, goOn_ret, Bool.false_and]
theorem eqa_run (l m : List R2) (h : same2V_owed l m = true) : ∃ N, goOn (eqastep l m) N (eqastart l m) = .ret [.bool (same2V l m)] := by
  have hl : l.length ≤ 1000000 := of_decide_eq_true h
  by_cases hm : l.length = m.length
  · obtain ⟨N, hN⟩ := eqa_h0 l m hl hm l.length 0 (Nat.zero_add _)
    refine ⟨N, ?_⟩
    unfold eqastart
    rw [ne_f (show ((l.length : Nat) : Int) = (m.length : Nat) by omega)]
    exact hN
  · refine ⟨0, ?_⟩
    unfold eqastart
    rw [ne_t (show ((l.length : Nat) : Int) ≠ (m.length : Nat) by omega)]
    have : same2V l m = false := decide_eq_false fun e => hm (by rw [e])
    rw [this]; rfl
theorem eqb_h0 (l m : List R4) (hl : l.length ≤ 1000000) (hm : l.length = m.length) : ∀ (k i : Nat), i + k = l.length → ∃ N, goOn (eqbstep l m) N (.to (.h0 (i : Int))) = .ret [.bool (decide (l.drop i = m.drop i))]
  | 0, i, h => by
    refine ⟨1, ?_⟩
    rw [goOn_to, List.drop_eq_nil_of_le (show l.length ≤ i by omega), List.drop_eq_nil_of_le (show m.length ≤ i by omega)]
    simp (disch := omega) only [eqbstep, dgt_f, dgt_t, dlt_t, dlt_f, dle_t, nlt_t, nle_t, neq_t, din_t, wrap_t, room_t, ne_t, ne_f, decide_true, cast_succ, cast_pred, toNat_pred, beq11, toNat_c, Nat.zero_add, Bool.and_true, Bool.true_and, cond_true, cond_false, Bool.not_true, Bool.not_false, goOn_ret]
  | k + 1, i, h => by
    obtain ⟨N, hN⟩ := eqb_h0 l m hl hm k (i + 1) (by omega)
    refine ⟨N + 1, ?_⟩
    rw [goOn_to, drop_rd (show i < l.length by omega), drop_rd (show i < m.length by omega), dec_cons]
    rcases boolc (decide (rd l i = rd m i)) with q | q
    · simp (disch := omega) only [eqbstep, r4_eq, q, dgt_f, dgt_t, dlt_t, dlt_f, dle_t, nlt_t, nle_t, neq_t, din_t, wrap_t, room_t, ne_t, ne_f, decide_true, cast_succ, cast_pred, toNat_pred, beq11, toNat_c, Nat.zero_add, Bool.and_true, Bool.true_and, cond_true, cond_false, Bool.not_true, Bool.not_false, goOn_ret]
      exact hN
    · simp (disch := omega) only [eqbstep, r4_eq, q, dgt_f, dgt_t, dlt_t, dlt_f, dle_t, nlt_t, nle_t, neq_t, din_t, wrap_t, room_t, ne_t, ne_f, decide_true, cast_succ, cast_pred, toNat_pred, beq11, toNat_c, Nat.zero_add, Bool.and_true, Bool.true_and, cond_true, cond_false, Bool.not_true, Bool.not_false, goOn_ret, Bool.false_and]
theorem eqb_run (l m : List R4) (h : same4V_owed l m = true) : ∃ N, goOn (eqbstep l m) N (eqbstart l m) = .ret [.bool (same4V l m)] := by
  have hl : l.length ≤ 1000000 := of_decide_eq_true h
  by_cases hm : l.length = m.length
  · obtain ⟨N, hN⟩ := eqb_h0 l m hl hm l.length 0 (Nat.zero_add _)
    refine ⟨N, ?_⟩
    unfold eqbstart
    rw [ne_f (show ((l.length : Nat) : Int) = (m.length : Nat) by omega)]
    exact hN
  · refine ⟨0, ?_⟩
    unfold eqbstart
    rw [ne_t (show ((l.length : Nat) : Int) ≠ (m.length : Nat) by omega)]
    have : same4V l m = false := decide_eq_false fun e => hm (by rw [e])
    rw [this]; rfl
theorem eqc_h0 (l m : List R6) (hl : l.length ≤ 1000000) (hm : l.length = m.length) : ∀ (k i : Nat), i + k = l.length → ∃ N, goOn (eqcstep l m) N (.to (.h0 (i : Int))) = .ret [.bool (decide (l.drop i = m.drop i))]
  | 0, i, h => by
    refine ⟨1, ?_⟩
    rw [goOn_to, List.drop_eq_nil_of_le (show l.length ≤ i by omega), List.drop_eq_nil_of_le (show m.length ≤ i by omega)]
    simp (disch := omega) only [eqcstep, dgt_f, dgt_t, dlt_t, dlt_f, dle_t, nlt_t, nle_t, neq_t, din_t, wrap_t, room_t, ne_t, ne_f, decide_true, cast_succ, cast_pred, toNat_pred, beq11, toNat_c, Nat.zero_add, Bool.and_true, Bool.true_and, cond_true, cond_false, Bool.not_true, Bool.not_false, goOn_ret]
  | k + 1, i, h => by
    obtain ⟨N, hN⟩ := eqc_h0 l m hl hm k (i + 1) (by omega)
    refine ⟨N + 1, ?_⟩
    rw [goOn_to, drop_rd (show i < l.length by omega), drop_rd (show i < m.length by omega), dec_cons]
    rcases boolc (decide (rd l i = rd m i)) with q | q
    · simp (disch := omega) only [eqcstep, r6_eq, q, dgt_f, dgt_t, dlt_t, dlt_f, dle_t, nlt_t, nle_t, neq_t, din_t, wrap_t, room_t, ne_t, ne_f, decide_true, cast_succ, cast_pred, toNat_pred, beq11, toNat_c, Nat.zero_add, Bool.and_true, Bool.true_and, cond_true, cond_false, Bool.not_true, Bool.not_false, goOn_ret]
      exact hN
    · simp (disch := omega) only [eqcstep, r6_eq, q, dgt_f, dgt_t, dlt_t, dlt_f, dle_t, nlt_t, nle_t, neq_t, din_t, wrap_t, room_t, ne_t, ne_f, decide_true, cast_succ, cast_pred, toNat_pred, beq11, toNat_c, Nat.zero_add, Bool.and_true, Bool.true_and, cond_true, cond_false, Bool.not_true, Bool.not_false, goOn_ret, Bool.false_and]
theorem eqc_run (l m : List R6) (h : same6V_owed l m = true) : ∃ N, goOn (eqcstep l m) N (eqcstart l m) = .ret [.bool (same6V l m)] := by
  have hl : l.length ≤ 1000000 := of_decide_eq_true h
  by_cases hm : l.length = m.length
  · obtain ⟨N, hN⟩ := eqc_h0 l m hl hm l.length 0 (Nat.zero_add _)
    refine ⟨N, ?_⟩
    unfold eqcstart
    rw [ne_f (show ((l.length : Nat) : Int) = (m.length : Nat) by omega)]
    exact hN
  · refine ⟨0, ?_⟩
    unfold eqcstart
    rw [ne_t (show ((l.length : Nat) : Int) ≠ (m.length : Nat) by omega)]
    have : same6V l m = false := decide_eq_false fun e => hm (by rw [e])
    rw [this]; rfl
def in4 (x y : Int) (r : R4) : Bool := decide (r.a ≤ x) && (decide (x < r.c) && (decide (r.b ≤ y) && decide (y < r.d)))
def has4V (l : List R4) (x y : Int) : Bool := l.any (in4 x y)
def has4V_owed (l : List R4) (x y : Int) : Bool := decide (l.length ≤ 1000000)
theorem rhas_h0 (l : List R4) (x y : Int) (hl : l.length ≤ 1000000) : ∀ (k i : Nat), i + k = l.length → ∃ N, goOn (rhasstep l x y) N (.to (.h0 (i : Int))) = .ret [.bool ((l.drop i).any (in4 x y))]
  | 0, i, h => by
    refine ⟨1, ?_⟩
    rw [goOn_to, List.drop_eq_nil_of_le (show l.length ≤ i by omega)]
    simp (disch := omega) only [rhasstep, dgt_f, dgt_t, dlt_t, dlt_f, dle_t, nlt_t, nle_t, neq_t, din_t, wrap_t, room_t, ne_t, ne_f, decide_true, cast_succ, cast_pred, toNat_pred, beq11, toNat_c, Nat.zero_add, Bool.and_true, Bool.true_and, cond_true, cond_false, Bool.not_true, Bool.not_false, goOn_ret]
    rfl
  | k + 1, i, h => by
    obtain ⟨N, hN⟩ := rhas_h0 l x y hl k (i + 1) (by omega)
    refine ⟨N + 1, ?_⟩
    rw [goOn_to, drop_rd (show i < l.length by omega), List.any_cons]
    unfold in4 at hN ⊢
    rcases boolc (decide ((rd l i).a ≤ x)) with q1 | q1 <;> rcases boolc (decide (x < (rd l i).c)) with q2 | q2 <;> rcases boolc (decide ((rd l i).b ≤ y)) with q3 | q3 <;> rcases boolc (decide (y < (rd l i).d)) with q4 | q4 <;>
      simp (disch := omega) only [rhasstep, q1, q2, q3, q4, dgt_f, dgt_t, dlt_t, dlt_f, dle_t, nlt_t, nle_t, neq_t, din_t, wrap_t, room_t, ne_t, ne_f, decide_true, cast_succ, cast_pred, toNat_pred, beq11, toNat_c, Nat.zero_add, Bool.and_true, Bool.true_and, cond_true, cond_false, Bool.not_true, Bool.not_false, goOn_ret, Bool.false_and, Bool.and_false, Bool.false_or, Bool.true_or] <;> exact hN
theorem rhas_run (l : List R4) (x y : Int) (h : has4V_owed l x y = true) : ∃ N, goOn (rhasstep l x y) N (rhasstart l x y) = .ret [.bool (has4V l x y)] := by
  have := rhas_h0 l x y (of_decide_eq_true h) l.length 0 (Nat.zero_add _)
  simpa [rhasstart, has4V] using this
def on6 (z : Int) (b : R6) : Bool := decide (b.c ≤ z) && decide (z < b.f)
def flat6 (b : R6) : R4 := ⟨b.a, b.b, b.d, b.e⟩
def atV (l : List R6) (z : Int) : List R4 := (l.filter (on6 z)).map flat6
def atV_owed (l : List R6) (z : Int) : Bool := decide (l.length ≤ 1000000)
theorem rat_h0 (l : List R6) (z : Int) (hl : l.length ≤ 1000000) : ∀ (k i : Nat) (out : List R4), i + k = l.length → out.length ≤ i → ∃ N, goOn (ratstep l z) N (.to (.h0 out (i : Int))) = .ret [.dat (out ++ atV (l.drop i) z).length (rowsT (out ++ atV (l.drop i) z))]
  | 0, i, out, h, ho => by
    refine ⟨1, ?_⟩
    rw [goOn_to, List.drop_eq_nil_of_le (show l.length ≤ i by omega)]
    simp (disch := omega) only [ratstep, dgt_f, dgt_t, dlt_t, dlt_f, dle_t, nlt_t, nle_t, neq_t, din_t, wrap_t, room_t, ne_t, ne_f, decide_true, cast_succ, cast_pred, toNat_pred, beq11, toNat_c, Nat.zero_add, Bool.and_true, Bool.true_and, cond_true, cond_false, Bool.not_true, Bool.not_false, goOn_ret, atV, List.filter_nil, List.map_nil, List.append_nil]
  | k + 1, i, out, h, ho => by
    rw [drop_rd (show i < l.length by omega)]
    have e : atV (rd l i :: l.drop (i + 1)) z = (bif on6 z (rd l i) then [flat6 (rd l i)] else []) ++ atV (l.drop (i + 1)) z := by
      unfold atV; rw [List.filter_cons]; cases on6 z (rd l i) <;> rfl
    rw [e, ← List.append_assoc]
    rcases boolc (decide ((rd l i).c ≤ z)) with q1 | q1 <;> rcases boolc (decide (z < (rd l i).f)) with q2 | q2
    · obtain ⟨N, hN⟩ := rat_h0 l z hl k (i + 1) (out ++ [flat6 (rd l i)]) (by omega) (by simp; omega)
      refine ⟨N + 1, ?_⟩
      rw [goOn_to]
      simp (disch := omega) only [ratstep, q1, q2, on6, dgt_f, dgt_t, dlt_t, dlt_f, dle_t, nlt_t, nle_t, neq_t, din_t, wrap_t, room_t, ne_t, ne_f, decide_true, cast_succ, cast_pred, toNat_pred, beq11, toNat_c, Nat.zero_add, Bool.and_true, Bool.true_and, cond_true, cond_false, Bool.not_true, Bool.not_false, goOn_ret]
      exact hN
    all_goals
      obtain ⟨N, hN⟩ := rat_h0 l z hl k (i + 1) out (by omega) (by omega)
      refine ⟨N + 1, ?_⟩
      rw [goOn_to]
      simp (disch := omega) only [ratstep, q1, q2, on6, dgt_f, dgt_t, dlt_t, dlt_f, dle_t, nlt_t, nle_t, neq_t, din_t, wrap_t, room_t, ne_t, ne_f, decide_true, cast_succ, cast_pred, toNat_pred, beq11, toNat_c, Nat.zero_add, Bool.and_true, Bool.true_and, cond_true, cond_false, Bool.not_true, Bool.not_false, goOn_ret, Bool.false_and, Bool.and_false, List.append_nil]
      exact hN
theorem rat_run (l : List R6) (z : Int) (h : atV_owed l z = true) : ∃ N, goOn (ratstep l z) N (ratstart l z) = .ret [.dat (atV l z).length (rowsT (atV l z))] := by
  have := rat_h0 l z (of_decide_eq_true h) l.length 0 [] (Nat.zero_add _) (Nat.le_refl _)
  simpa [ratstart] using this
def canF (cuts : List Int) (ins : List Bool) : Nat → Nat → List R2 → List R2
  | 0, _, out => out
  | k + 1, i, out => canF cuts ins k (i + 1) (bif rd ins i then (bif decide (0 < out.length) && ((rd out (out.length - 1)).b == rd cuts i) then out.set (out.length - 1) ⟨(rd out (out.length - 1)).a, rd cuts (i + 1)⟩ else out ++ [⟨rd cuts i, rd cuts (i + 1)⟩]) else out)
def canV (cuts : List Int) (ins : List Bool) : List R2 := canF cuts ins (cuts.length - 1) 0 []
def canV_owed (cuts : List Int) (ins : List Bool) : Bool := decide (cuts.length ≤ 1000000 ∧ cuts.length ≤ ins.length + 1)
theorem rcan_h0 (cuts : List Int) (ins : List Bool) (hl : cuts.length ≤ 1000000) (hi : cuts.length ≤ ins.length + 1) : ∀ (k i : Nat) (out : List R2), k = cuts.length - 1 - i → i ≤ cuts.length → out.length ≤ i → ∃ N, goOn (rcanstep cuts ins) N (.to (.h0 out (i : Int))) = .ret [.dat (canF cuts ins k i out).length (rowsT (canF cuts ins k i out))]
  | 0, i, out, h, hi2, ho => by
    refine ⟨1, ?_⟩
    rw [goOn_to]
    simp (disch := omega) only [rcanstep, dgt_f, dgt_t, dlt_t, dlt_f, dle_t, nlt_t, nle_t, neq_t, din_t, wrap_t, room_t, ne_t, ne_f, decide_true, cast_succ, cast_pred, toNat_pred, beq11, toNat_c, Nat.zero_add, Bool.and_true, Bool.true_and, cond_true, cond_false, Bool.not_true, Bool.not_false, goOn_ret, canF]
  | k + 1, i, out, h, hi2, ho => by
    unfold canF
    rcases boolc (rd ins i) with q | q
    · rcases boolc (decide (0 < out.length) && ((rd out (out.length - 1)).b == rd cuts i)) with q2 | q2
      · obtain ⟨N, hN⟩ := rcan_h0 cuts ins hl hi k (i + 1) (out.set (out.length - 1) ⟨(rd out (out.length - 1)).a, rd cuts (i + 1)⟩) (by omega) (by omega) (by simp; omega)
        refine ⟨N + 1, ?_⟩
        rw [goOn_to, q, q2]
        simp only [Bool.and_eq_true, decide_eq_true_eq] at q2
        simp (disch := omega) only [rcanstep, q, q2.2, dgt_f, dgt_t, dlt_t, dlt_f, dle_t, nlt_t, nle_t, neq_t, din_t, wrap_t, room_t, ne_t, ne_f, decide_true, cast_succ, cast_pred, toNat_pred, beq11, toNat_c, Nat.zero_add, Bool.and_true, Bool.true_and, cond_true, cond_false, Bool.not_true, Bool.not_false, goOn_ret]
        exact hN
      · obtain ⟨N, hN⟩ := rcan_h0 cuts ins hl hi k (i + 1) (out ++ [⟨rd cuts i, rd cuts (i + 1)⟩]) (by omega) (by omega) (by simp; omega)
        refine ⟨N + 1, ?_⟩
        rw [goOn_to, q, q2]
        by_cases h0 : 0 < out.length
        · rw [decide_eq_true h0, Bool.true_and] at q2
          simp (disch := omega) only [rcanstep, q, q2, dgt_f, dgt_t, dlt_t, dlt_f, dle_t, nlt_t, nle_t, neq_t, din_t, wrap_t, room_t, ne_t, ne_f, decide_true, cast_succ, cast_pred, toNat_pred, beq11, toNat_c, Nat.zero_add, Bool.and_true, Bool.true_and, cond_true, cond_false, Bool.not_true, Bool.not_false, goOn_ret]
          exact hN
        · simp (disch := omega) only [rcanstep, q, dgt_f, dgt_t, dlt_t, dlt_f, dle_t, nlt_t, nle_t, neq_t, din_t, wrap_t, room_t, ne_t, ne_f, decide_true, cast_succ, cast_pred, toNat_pred, beq11, toNat_c, Nat.zero_add, Bool.and_true, Bool.true_and, cond_true, cond_false, Bool.not_true, Bool.not_false, goOn_ret]
          exact hN
    · obtain ⟨N, hN⟩ := rcan_h0 cuts ins hl hi k (i + 1) out (by omega) (by omega) (by omega)
      refine ⟨N + 1, ?_⟩
      rw [goOn_to, q]
      simp (disch := omega) only [rcanstep, q, dgt_f, dgt_t, dlt_t, dlt_f, dle_t, nlt_t, nle_t, neq_t, din_t, wrap_t, room_t, ne_t, ne_f, decide_true, cast_succ, cast_pred, toNat_pred, beq11, toNat_c, Nat.zero_add, Bool.and_true, Bool.true_and, cond_true, cond_false, Bool.not_true, Bool.not_false, goOn_ret]
      exact hN
theorem rcan_run (cuts : List Int) (ins : List Bool) (h : canV_owed cuts ins = true) : ∃ N, goOn (rcanstep cuts ins) N (rcanstart cuts ins) = .ret [.dat (canV cuts ins).length (rowsT (canV cuts ins))] := by
  obtain ⟨h1, h2⟩ := of_decide_eq_true h
  have := rcan_h0 cuts ins h1 h2 (cuts.length - 1) 0 [] (by omega) (Nat.zero_le _) (Nat.le_refl _)
  simpa [rcanstart, canV] using this
end Go.Am
end
section
set_option linter.unusedVariables false
set_option linter.unusedSimpArgs false
namespace Go.Am
abbrev nSorted : Nat := 65
abbrev nCanon : Nat := 70
abbrev nSame2 : Nat := 71
abbrev nHolds : Nat := 68
abbrev nHas4 : Nat := 69
abbrev nSame4 : Nat := 58
abbrev nXs : Nat := 66
abbrev nYs : Nat := 67
abbrev nJoin4 : Nat := 56
abbrev nSame6 : Nat := 40
abbrev nAt : Nat := 57
abbrev nCuts : Nat := 55
abbrev nJoin6 : Nat := 39
abbrev nRCheck : Nat := 25
abbrev nEq2 : Nat := 105
abbrev nEq4 : Nat := 79
abbrev nEq6 : Nat := 53
abbrev nSortF : Nat := 116
abbrev nEndsCmp : Nat := 117
abbrev nSort : Nat := 72
abbrev nCompact : Nat := 73
abbrev nFst : Nat := 104
abbrev nSpanMake : Nat := 85
abbrev nRegMake : Nat := 63
abbrev nSolCheck : Nat := 35
abbrev nBlocks : Nat := 22
abbrev nOcVol : Nat := 23
abbrev nCommon : Nat := 28
abbrev nPairs : Nat := 24
abbrev nCont : Nat := 30
abbrev nRel : Nat := 31
abbrev nOCont : Nat := 13
abbrev nORel : Nat := 15
abbrev nONear : Nat := 17
abbrev nOSide : Nat := 9
abbrev nOCov : Nat := 11
abbrev nGreat28 : Nat := 8
abbrev nAlive28 : Nat := 20
end Go.Am
end
section
set_option linter.unusedVariables false
set_option linter.unusedSimpArgs false
namespace Go.Am
open Go.Proofs
set_option maxRecDepth 100000
set_option maxHeartbeats 4000000
set_option linter.unusedVariables false
set_option linter.unusedSimpArgs false
def holdsV (k : Int) (a b : Bool) : Bool := bif k == 1 then a && b else bif k == 2 then a || b else a && !b
def fstV (a b : Bool) : Bool := a
theorem hol_run (k : Int) (a b : Bool) : ∃ N, goOn (holstep k a b) N (holstart k a b) = .ret [.bool (holdsV k a b)] := by
  refine ⟨0, ?_⟩
  unfold holstart holdsV
  cases a <;> cases b <;> rcases boolc (k == 1) with q | q <;> rcases boolc (k == 2) with q2 | q2 <;> rw [q] <;> (try rw [q2]) <;> rfl
theorem fst_run (a b : Bool) : ∃ N, goOn (fststep a b) N (fststart a b) = .ret [.bool (fstV a b)] := ⟨0, rfl⟩
noncomputable def fSrt : List AVal → Option (AVal × Bool)
  | [a0] => match asL Int a0 with
    | some (L0, g0, n0) => some (.dat (srtV L0).length (rowsT (srtV L0)), isT Int n0 g0 && (srtV_owed L0))
    | _ => none
  | _ => none
theorem fSrt_ok {S : Specs} (hS : SpecsOk Tryz.prog S) : SpecsOk Tryz.prog (S.with nSorted fSrt) := by
  refine fOne hS (by kernel_rfl) fun args v h => ?_
  unfold fSrt at h
  split at h
  · rename_i a0
    split at h
    · rename_i L0 g0 n0 e0
      simp only [Option.some.injEq, Prod.mk.injEq, Bool.and_eq_true] at h
      obtain ⟨rfl, ho0, hw⟩ := h
      obtain ⟨N, hN⟩ := rsort_run L0 hw
      exact ⟨_, _, (.cons (asL_le e0 ho0) .nil), rfl, rsort_ends L0 N _ hN, 3, rfl⟩
    · cases h
  · cases h
noncomputable def fCan : List AVal → Option (AVal × Bool)
  | [a0, a1] => match asL Int a0, asL Bool a1 with
    | some (L0, g0, n0), some (L1, g1, n1) => some (.dat (canV L0 L1).length (rowsT (canV L0 L1)), isT Int n0 g0 && (isT Bool n1 g1 && (canV_owed L0 L1)))
    | _, _ => none
  | _ => none
theorem fCan_ok {S : Specs} (hS : SpecsOk Tryz.prog S) : SpecsOk Tryz.prog (S.with nCanon fCan) := by
  refine fOne hS (by kernel_rfl) fun args v h => ?_
  unfold fCan at h
  split at h
  · rename_i a0 a1
    split at h
    · rename_i L0 g0 n0 L1 g1 n1 e0 e1
      simp only [Option.some.injEq, Prod.mk.injEq, Bool.and_eq_true] at h
      obtain ⟨rfl, ho0, ho1, hw⟩ := h
      obtain ⟨N, hN⟩ := rcan_run L0 L1 hw
      exact ⟨_, _, (.cons (asL_le e0 ho0) (.cons (asL_le e1 ho1) .nil)), rfl, rcan_ends L0 L1 N _ hN, 3, rfl⟩
    · cases h
  · cases h
noncomputable def fSame2 : List AVal → Option (AVal × Bool)
  | [a0, a1] => match asL R2 a0, asL R2 a1 with
    | some (L0, g0, n0), some (L1, g1, n1) => some (.bool (same2V L0 L1), isT R2 n0 g0 && (isT R2 n1 g1 && (same2V_owed L0 L1)))
    | _, _ => none
  | _ => none
theorem fSame2_ok {S : Specs} (hS : SpecsOk Tryz.prog S) : SpecsOk Tryz.prog (S.with nSame2 fSame2) := by
  refine fOne hS (by kernel_rfl) fun args v h => ?_
  unfold fSame2 at h
  split at h
  · rename_i a0 a1
    split at h
    · rename_i L0 g0 n0 L1 g1 n1 e0 e1
      simp only [Option.some.injEq, Prod.mk.injEq, Bool.and_eq_true] at h
      obtain ⟨rfl, ho0, ho1, hw⟩ := h
      obtain ⟨N, hN⟩ := rsm_run L0 L1 hw
      exact ⟨_, _, (.cons (asL_le e0 ho0) (.cons (asL_le e1 ho1) .nil)), rfl, rsm_ends L0 L1 N _ hN, 3, rfl⟩
    · cases h
  · cases h
noncomputable def fSame4 : List AVal → Option (AVal × Bool)
  | [a0, a1] => match asL R4 a0, asL R4 a1 with
    | some (L0, g0, n0), some (L1, g1, n1) => some (.bool (same4V L0 L1), isT R4 n0 g0 && (isT R4 n1 g1 && (same4V_owed L0 L1)))
    | _, _ => none
  | _ => none
theorem fSame4_ok {S : Specs} (hS : SpecsOk Tryz.prog S) : SpecsOk Tryz.prog (S.with nSame4 fSame4) := by
  refine fOne hS (by kernel_rfl) fun args v h => ?_
  unfold fSame4 at h
  split at h
  · rename_i a0 a1
    split at h
    · rename_i L0 g0 n0 L1 g1 n1 e0 e1
      simp only [Option.some.injEq, Prod.mk.injEq, Bool.and_eq_true] at h
      obtain ⟨rfl, ho0, ho1, hw⟩ := h
      obtain ⟨N, hN⟩ := rsr_run L0 L1 hw
      exact ⟨_, _, (.cons (asL_le e0 ho0) (.cons (asL_le e1 ho1) .nil)), rfl, rsr_ends L0 L1 N _ hN, 3, rfl⟩
    · cases h
  · cases h
noncomputable def fSame6 : List AVal → Option (AVal × Bool)
  | [a0, a1] => match asL R6 a0, asL R6 a1 with
    | some (L0, g0, n0), some (L1, g1, n1) => some (.bool (same6V L0 L1), isT R6 n0 g0 && (isT R6 n1 g1 && (same6V_owed L0 L1)))
    | _, _ => none
  | _ => none
theorem fSame6_ok {S : Specs} (hS : SpecsOk Tryz.prog S) : SpecsOk Tryz.prog (S.with nSame6 fSame6) := by
  refine fOne hS (by kernel_rfl) fun args v h => ?_
  unfold fSame6 at h
  split at h
  · rename_i a0 a1
    split at h
    · rename_i L0 g0 n0 L1 g1 n1 e0 e1
      simp only [Option.some.injEq, Prod.mk.injEq, Bool.and_eq_true] at h
      obtain ⟨rfl, ho0, ho1, hw⟩ := h
      obtain ⟨N, hN⟩ := rsb_run L0 L1 hw
      exact ⟨_, _, (.cons (asL_le e0 ho0) (.cons (asL_le e1 ho1) .nil)), rfl, rsb_ends L0 L1 N _ hN, 3, rfl⟩
    · cases h
  · cases h
noncomputable def fHas4 : List AVal → Option (AVal × Bool)
  | [a0, .int .i64 x1, .int .i64 x2] => match asL R4 a0 with
    | some (L0, g0, n0) => some (.bool (has4V L0 x1 x2), isT R4 n0 g0 && (has4V_owed L0 x1 x2))
    | _ => none
  | _ => none
theorem fHas4_ok {S : Specs} (hS : SpecsOk Tryz.prog S) : SpecsOk Tryz.prog (S.with nHas4 fHas4) := by
  refine fOne hS (by kernel_rfl) fun args v h => ?_
  unfold fHas4 at h
  split at h
  · rename_i a0 x1 x2
    split at h
    · rename_i L0 g0 n0 e0
      simp only [Option.some.injEq, Prod.mk.injEq, Bool.and_eq_true] at h
      obtain ⟨rfl, ho0, hw⟩ := h
      obtain ⟨N, hN⟩ := rhas_run L0 x1 x2 hw
      exact ⟨_, _, (.cons (asL_le e0 ho0) (.cons (.refl _) (.cons (.refl _) .nil))), rfl, rhas_ends L0 x1 x2 N _ hN, 3, rfl⟩
    · cases h
  · cases h
noncomputable def fAt : List AVal → Option (AVal × Bool)
  | [a0, .int .i64 x1] => match asL R6 a0 with
    | some (L0, g0, n0) => some (.dat (atV L0 x1).length (rowsT (atV L0 x1)), isT R6 n0 g0 && (atV_owed L0 x1))
    | _ => none
  | _ => none
theorem fAt_ok {S : Specs} (hS : SpecsOk Tryz.prog S) : SpecsOk Tryz.prog (S.with nAt fAt) := by
  refine fOne hS (by kernel_rfl) fun args v h => ?_
  unfold fAt at h
  split at h
  · rename_i a0 x1
    split at h
    · rename_i L0 g0 n0 e0
      simp only [Option.some.injEq, Prod.mk.injEq, Bool.and_eq_true] at h
      obtain ⟨rfl, ho0, hw⟩ := h
      obtain ⟨N, hN⟩ := rat_run L0 x1 hw
      exact ⟨_, _, (.cons (asL_le e0 ho0) (.cons (.refl _) .nil)), rfl, rat_ends L0 x1 N _ hN, 3, rfl⟩
    · cases h
  · cases h
noncomputable def fHolds : List AVal → Option (AVal × Bool)
  | [.int .i64 x0, .bool b1, .bool b2] => some (.bool (holdsV x0 b1 b2), true)
  | _ => none
theorem fHolds_ok {S : Specs} (hS : SpecsOk Tryz.prog S) : SpecsOk Tryz.prog (S.with nHolds fHolds) := by
  refine fOne hS (by kernel_rfl) fun args v h => ?_
  unfold fHolds at h
  split at h
  · rename_i x0 b1 b2
    simp only [Option.some.injEq, Prod.mk.injEq, and_true] at h
    subst h
    obtain ⟨N, hN⟩ := hol_run x0 b1 b2
    exact ⟨_, _, (.cons (.refl _) (.cons (.refl _) (.cons (.refl _) .nil))), rfl, hol_ends x0 b1 b2 N _ hN, 3, rfl⟩
  · cases h
noncomputable def fFst : List AVal → Option (AVal × Bool)
  | [.bool b0, .bool b1] => some (.bool (fstV b0 b1), true)
  | _ => none
theorem fFst_ok {S : Specs} (hS : SpecsOk Tryz.prog S) : SpecsOk Tryz.prog (S.with nFst fFst) := by
  refine fOne hS (by kernel_rfl) fun args v h => ?_
  unfold fFst at h
  split at h
  · rename_i b0 b1
    simp only [Option.some.injEq, Prod.mk.injEq, and_true] at h
    subst h
    obtain ⟨N, hN⟩ := fst_run b0 b1
    exact ⟨_, _, (.cons (.refl _) (.cons (.refl _) .nil)), rfl, fst_ends b0 b1 N _ hN, 3, rfl⟩
  · cases h
theorem fSame2_ok' {S : Specs} (hS : SpecsOk Tryz.prog S) : SpecsOk Tryz.prog (S.with nEq2 fSame2) := by
  refine fOne hS (by kernel_rfl) fun args v h => ?_
  unfold fSame2 at h
  split at h
  · rename_i a0 a1
    split at h
    · rename_i L0 g0 n0 L1 g1 n1 e0 e1
      simp only [Option.some.injEq, Prod.mk.injEq, Bool.and_eq_true] at h
      obtain ⟨rfl, ho0, ho1, hw⟩ := h
      obtain ⟨N, hN⟩ := eqa_run L0 L1 hw
      exact ⟨_, _, (.cons (asL_le e0 ho0) (.cons (asL_le e1 ho1) .nil)), rfl, eqa_ends L0 L1 N _ hN, 3, rfl⟩
    · cases h
  · cases h
theorem fSame4_ok' {S : Specs} (hS : SpecsOk Tryz.prog S) : SpecsOk Tryz.prog (S.with nEq4 fSame4) := by
  refine fOne hS (by kernel_rfl) fun args v h => ?_
  unfold fSame4 at h
  split at h
  · rename_i a0 a1
    split at h
    · rename_i L0 g0 n0 L1 g1 n1 e0 e1
      simp only [Option.some.injEq, Prod.mk.injEq, Bool.and_eq_true] at h
      obtain ⟨rfl, ho0, ho1, hw⟩ := h
      obtain ⟨N, hN⟩ := eqb_run L0 L1 hw
      exact ⟨_, _, (.cons (asL_le e0 ho0) (.cons (asL_le e1 ho1) .nil)), rfl, eqb_ends L0 L1 N _ hN, 3, rfl⟩
    · cases h
  · cases h
theorem fSame6_ok' {S : Specs} (hS : SpecsOk Tryz.prog S) : SpecsOk Tryz.prog (S.with nEq6 fSame6) := by
  refine fOne hS (by kernel_rfl) fun args v h => ?_
  unfold fSame6 at h
  split at h
  · rename_i a0 a1
    split at h
    · rename_i L0 g0 n0 L1 g1 n1 e0 e1
      simp only [Option.some.injEq, Prod.mk.injEq, Bool.and_eq_true] at h
      obtain ⟨rfl, ho0, ho1, hw⟩ := h
      obtain ⟨N, hN⟩ := eqc_run L0 L1 hw
      exact ⟨_, _, (.cons (asL_le e0 ho0) (.cons (asL_le e1 ho1) .nil)), rfl, eqc_ends L0 L1 N _ hN, 3, rfl⟩
    · cases h
  · cases h
noncomputable def T1 : Specs := ((((((((((((noSpecs.with nSorted fSrt).with nCanon fCan).with nSame2 fSame2).with nSame4 fSame4).with nSame6 fSame6).with nHas4 fHas4).with nAt fAt).with nHolds fHolds).with nFst fFst).with nEq2 fSame2).with nEq4 fSame4).with nEq6 fSame6)
theorem T1_ok : SpecsOk Tryz.prog T1 := fSame6_ok' (fSame4_ok' (fSame2_ok' (fFst_ok (fHolds_ok (fAt_ok (fHas4_ok (fSame6_ok (fSame4_ok (fSame2_ok (fCan_ok (fSrt_ok noSpecs_ok)))))))))))
end Go.Am
end
section
set_option linter.unusedVariables false
set_option linter.unusedSimpArgs false
namespace Go.Am
open Go.Proofs
set_option maxRecDepth 1000000
set_option linter.unusedVariables false
set_option linter.unusedSimpArgs false
set_option maxHeartbeats 4000000
inductive rxsS where
  | h0 (v5 : List Int) (v6 : Int)
  | h1 (v5 : List Int) (v7 : Int)
noncomputable def rxsC (l0 : List R4) (l1 : List R4) : rxsS → Cfg
  | .h0 v5 v6 => ⟨⟨48, 0, true⟩, none, (todoP Tryz.prog 66 [1, 1, 0, 1, 0, 0] 0), none, (resultsOf Tryz.prog 4), ⟨envL [(0, (.dat l0.length (rowsT l0))), (1, (.dat l1.length (rowsT l1))), (5, (.sla 0 1 0 v5.length (.un 1))), (6, (.int .i64 v6))], memL [⟨rows v5.length (rowsT v5), 3, some ⟨1, v5.length, (rowsT v5)⟩⟩] 0, 1, [], true⟩, [], .leaf⟩
  | .h1 v5 v7 => ⟨⟨48, 0, true⟩, none, (todoP Tryz.prog 66 [1, 1, 1, 0, 1, 0, 0] 0), none, (resultsOf Tryz.prog 4), ⟨envL [(1, (.dat l1.length (rowsT l1))), (5, (.sla 0 1 0 v5.length (.un 1))), (7, (.int .i64 v7))], memL [⟨rows v5.length (rowsT v5), 3, some ⟨1, v5.length, (rowsT v5)⟩⟩] 0, 1, [], true⟩, [], .leaf⟩
noncomputable def rxsstep (l0 : List R4) (l1 : List R4) : rxsS → Out' rxsS
  | .h0 v5 v6 => (bif (decide (v6 < ((l0.length : Nat) : Int))) then (bif ((decide (0 ≤ v6 ∧ v6 < ((l0.length : Nat) : Int))) && true) then (bif (Nat.beq 1 1 && ((decide (0 + v5.length = v5.length)) && decide ((v5.length + 2 + 1) * (8 + 1) ≤ room))) then (.to (.h0 (v5 ++ [(rd l0 (Int.toNat v6)).a, (rd l0 (Int.toNat v6)).c]) (IntKind.wrap IntKind.i64 (v6 + 1)))) else .stuck) else .stuck) else (.to (.h1 v5 0)))
  | .h1 v5 v7 => (bif (decide (v7 < ((l1.length : Nat) : Int))) then (bif ((decide (0 ≤ v7 ∧ v7 < ((l1.length : Nat) : Int))) && true) then (bif (Nat.beq 1 1 && ((decide (0 + v5.length = v5.length)) && decide ((v5.length + 2 + 1) * (8 + 1) ≤ room))) then (.to (.h1 (v5 ++ [(rd l1 (Int.toNat v7)).a, (rd l1 (Int.toNat v7)).c]) (IntKind.wrap IntKind.i64 (v7 + 1)))) else .stuck) else .stuck) else (bif (srtV_owed (cvT v5)) then (.ret [(.dat (srtV (cvT v5)).length (rowsT (srtV (cvT v5))))]) else .stuck))
noncomputable def rxsstart (l0 : List R4) (l1 : List R4) : Out' rxsS := (.to (.h0 ([] : List Int) 0))
theorem rxsstep_ok (l0 : List R4) (l1 : List R4) : ∀ s, Lead Tryz.prog (resultsOf Tryz.prog 66) (rxsC l0 l1) (rxsC l0 l1 s) (rxsstep l0 l1 s)
  | .h0 v5 v6 => (lead_bif (fun k0 => (lead_owe fun o0 => (lead_owe fun o1 => (sl T1_ok 20 [] ⟨[2], [], [some [0, 1, 5, 6]], []⟩ ⟨[(5, .len (v5 ++ [(rd l0 (Int.toNat v6)).a, (rd l0 (Int.toNat v6)).c]).length)], [.rowed 1 (v5 ++ [(rd l0 (Int.toNat v6)).a, (rd l0 (Int.toNat v6)).c]).length (rowsT (v5 ++ [(rd l0 (Int.toNat v6)).a, (rd l0 (Int.toNat v6)).c]))], []⟩ [true] (pp (xL (v5.length + 2) (v5 ++ [(rd l0 (Int.toNat v6)).a, (rd l0 (Int.toNat v6)).c]).length) (pp (xL (v5.length + 2) (v5 ++ [(rd l0 (Int.toNat v6)).a, (rd l0 (Int.toNat v6)).c]).length) (pp (xS (v5.length + 2) (appRow (rowsT v5) 0 v5.length 1 [(.int .i64 (rd l0 (Int.toNat v6)).a), (.int .i64 (rd l0 (Int.toNat v6)).c)]) (rowsT (v5 ++ [(rd l0 (Int.toNat v6)).a, (rd l0 (Int.toNat v6)).c]))) (pp (pp (xF (appRow (rowsT v5) 0 v5.length 1 [(.int .i64 (rd l0 (Int.toNat v6)).a), (.int .i64 (rd l0 (Int.toNat v6)).c)])) nn) (ww o1 (ww o0 (ww o0 (tt k0 nn)))))))))))) (fun k0 => (sl T1_ok 17 [] ⟨[0], [], [some [1, 5, 7]], []⟩ ⟨[], [], []⟩ [false] (pp (fl v5 nn) (tt k0 nn)))))
  | .h1 v5 v7 => (lead_bif (fun k0 => (lead_owe fun o0 => (lead_owe fun o1 => (sl T1_ok 20 [] ⟨[2], [], [some [1, 5, 7]], []⟩ ⟨[(5, .len (v5 ++ [(rd l1 (Int.toNat v7)).a, (rd l1 (Int.toNat v7)).c]).length)], [.rowed 1 (v5 ++ [(rd l1 (Int.toNat v7)).a, (rd l1 (Int.toNat v7)).c]).length (rowsT (v5 ++ [(rd l1 (Int.toNat v7)).a, (rd l1 (Int.toNat v7)).c]))], []⟩ [true] (pp (xL (v5.length + 2) (v5 ++ [(rd l1 (Int.toNat v7)).a, (rd l1 (Int.toNat v7)).c]).length) (pp (xL (v5.length + 2) (v5 ++ [(rd l1 (Int.toNat v7)).a, (rd l1 (Int.toNat v7)).c]).length) (pp (xS (v5.length + 2) (appRow (rowsT v5) 0 v5.length 1 [(.int .i64 (rd l1 (Int.toNat v7)).a), (.int .i64 (rd l1 (Int.toNat v7)).c)]) (rowsT (v5 ++ [(rd l1 (Int.toNat v7)).a, (rd l1 (Int.toNat v7)).c]))) (pp (pp (xF (appRow (rowsT v5) 0 v5.length 1 [(.int .i64 (rd l1 (Int.toNat v7)).a), (.int .i64 (rd l1 (Int.toNat v7)).c)])) nn) (ww o1 (ww o0 (ww o0 (tt k0 nn)))))))))))) (fun k0 => (lead_goes (sl T1_ok (C' := ⟨⟨48, 0, true⟩, (regP Tryz.prog 66 [1, 1, 1, 1, 0] 1), (todoP Tryz.prog 66 [1, 1, 1, 1, 0] 1), none, (resultsOf Tryz.prog 4), ⟨envL [(46, (.dat v5.length (rowsT v5)))], memL [] 0, 0, [], true⟩, [], .leaf⟩) 13 [] ⟨[], [0], [some [46]], []⟩ ⟨[(46, .frz v5.length v5.length (rowsT v5) (rowsT v5))], [], []⟩ [false] (pp (xZ (frzS 1 1 0 v5.length v5.length (rowsT v5)) v5.length (rowsT v5)) (pp (xL v5.length v5.length) (pp (xS v5.length (rowsT v5) (rowsT v5)) (pp (fl v5 nn) (tt k0 nn)))))) (lead_owe fun o0 => (lr 48 3 [1, 1, 1, 1, 1, 1, 0] 1 4 [(4, (.dat (srtV (cvT v5)).length (rowsT (srtV (cvT v5)))))] (sl T1_ok 3 [] ⟨[], [], [some [4]], []⟩ ⟨[], [], []⟩ [] (pp (pp (xr v5) (xw o0)) nn)))))))
theorem rxsstart_ok (l0 : List R4) (l1 : List R4) : Lead Tryz.prog (resultsOf Tryz.prog 66) (rxsC l0 l1) (startC Tryz.prog 66 [(.dat l0.length (rowsT l0)), (.dat l1.length (rowsT l1))] true []) (rxsstart l0 l1) := (sl T1_ok 15 [(3, 1, rowsT ([] : List Int))] ⟨[0], [], [some [0, 1, 5, 6]], []⟩ ⟨[(5, .grow 0 1)], [], []⟩ [] (pp (fl ([] : List Int) nn) nn))
theorem rxs_ends (l0 : List R4) (l1 : List R4) (n : Nat) (vs : List AVal) (h : goOn (rxsstep l0 l1) n (rxsstart l0 l1) = .ret vs) : Ends Tryz.prog (resultsOf Tryz.prog 66) (startC Tryz.prog 66 [(.dat l0.length (rowsT l0)), (.dat l1.length (rowsT l1))] true []) vs := by
  have := goOn_lead (rxsstep_ok l0 l1) n _ (rxsstart_ok l0 l1)
  rwa [h] at this
inductive rysS where
  | h0 (v5 : List Int) (v6 : Int)
  | h1 (v5 : List Int) (v7 : Int)
noncomputable def rysC (l0 : List R4) (l1 : List R4) : rysS → Cfg
  | .h0 v5 v6 => ⟨⟨48, 0, true⟩, none, (todoP Tryz.prog 67 [1, 1, 0, 1, 0, 0] 0), none, (resultsOf Tryz.prog 4), ⟨envL [(0, (.dat l0.length (rowsT l0))), (1, (.dat l1.length (rowsT l1))), (5, (.sla 0 1 0 v5.length (.un 1))), (6, (.int .i64 v6))], memL [⟨rows v5.length (rowsT v5), 3, some ⟨1, v5.length, (rowsT v5)⟩⟩] 0, 1, [], true⟩, [], .leaf⟩
  | .h1 v5 v7 => ⟨⟨48, 0, true⟩, none, (todoP Tryz.prog 67 [1, 1, 1, 0, 1, 0, 0] 0), none, (resultsOf Tryz.prog 4), ⟨envL [(1, (.dat l1.length (rowsT l1))), (5, (.sla 0 1 0 v5.length (.un 1))), (7, (.int .i64 v7))], memL [⟨rows v5.length (rowsT v5), 3, some ⟨1, v5.length, (rowsT v5)⟩⟩] 0, 1, [], true⟩, [], .leaf⟩
noncomputable def rysstep (l0 : List R4) (l1 : List R4) : rysS → Out' rysS
  | .h0 v5 v6 => (bif (decide (v6 < ((l0.length : Nat) : Int))) then (bif ((decide (0 ≤ v6 ∧ v6 < ((l0.length : Nat) : Int))) && true) then (bif (Nat.beq 1 1 && ((decide (0 + v5.length = v5.length)) && decide ((v5.length + 2 + 1) * (8 + 1) ≤ room))) then (.to (.h0 (v5 ++ [(rd l0 (Int.toNat v6)).b, (rd l0 (Int.toNat v6)).d]) (IntKind.wrap IntKind.i64 (v6 + 1)))) else .stuck) else .stuck) else (.to (.h1 v5 0)))
  | .h1 v5 v7 => (bif (decide (v7 < ((l1.length : Nat) : Int))) then (bif ((decide (0 ≤ v7 ∧ v7 < ((l1.length : Nat) : Int))) && true) then (bif (Nat.beq 1 1 && ((decide (0 + v5.length = v5.length)) && decide ((v5.length + 2 + 1) * (8 + 1) ≤ room))) then (.to (.h1 (v5 ++ [(rd l1 (Int.toNat v7)).b, (rd l1 (Int.toNat v7)).d]) (IntKind.wrap IntKind.i64 (v7 + 1)))) else .stuck) else .stuck) else (bif (srtV_owed (cvT v5)) then (.ret [(.dat (srtV (cvT v5)).length (rowsT (srtV (cvT v5))))]) else .stuck))
noncomputable def rysstart (l0 : List R4) (l1 : List R4) : Out' rysS := (.to (.h0 ([] : List Int) 0))
theorem rysstep_ok (l0 : List R4) (l1 : List R4) : ∀ s, Lead Tryz.prog (resultsOf Tryz.prog 67) (rysC l0 l1) (rysC l0 l1 s) (rysstep l0 l1 s)
  | .h0 v5 v6 => (lead_bif (fun k0 => (lead_owe fun o0 => (lead_owe fun o1 => (sl T1_ok 20 [] ⟨[2], [], [some [0, 1, 5, 6]], []⟩ ⟨[(5, .len (v5 ++ [(rd l0 (Int.toNat v6)).b, (rd l0 (Int.toNat v6)).d]).length)], [.rowed 1 (v5 ++ [(rd l0 (Int.toNat v6)).b, (rd l0 (Int.toNat v6)).d]).length (rowsT (v5 ++ [(rd l0 (Int.toNat v6)).b, (rd l0 (Int.toNat v6)).d]))], []⟩ [true] (pp (xL (v5.length + 2) (v5 ++ [(rd l0 (Int.toNat v6)).b, (rd l0 (Int.toNat v6)).d]).length) (pp (xL (v5.length + 2) (v5 ++ [(rd l0 (Int.toNat v6)).b, (rd l0 (Int.toNat v6)).d]).length) (pp (xS (v5.length + 2) (appRow (rowsT v5) 0 v5.length 1 [(.int .i64 (rd l0 (Int.toNat v6)).b), (.int .i64 (rd l0 (Int.toNat v6)).d)]) (rowsT (v5 ++ [(rd l0 (Int.toNat v6)).b, (rd l0 (Int.toNat v6)).d]))) (pp (pp (xF (appRow (rowsT v5) 0 v5.length 1 [(.int .i64 (rd l0 (Int.toNat v6)).b), (.int .i64 (rd l0 (Int.toNat v6)).d)])) nn) (ww o1 (ww o0 (ww o0 (tt k0 nn)))))))))))) (fun k0 => (sl T1_ok 17 [] ⟨[0], [], [some [1, 5, 7]], []⟩ ⟨[], [], []⟩ [false] (pp (fl v5 nn) (tt k0 nn)))))
  | .h1 v5 v7 => (lead_bif (fun k0 => (lead_owe fun o0 => (lead_owe fun o1 => (sl T1_ok 20 [] ⟨[2], [], [some [1, 5, 7]], []⟩ ⟨[(5, .len (v5 ++ [(rd l1 (Int.toNat v7)).b, (rd l1 (Int.toNat v7)).d]).length)], [.rowed 1 (v5 ++ [(rd l1 (Int.toNat v7)).b, (rd l1 (Int.toNat v7)).d]).length (rowsT (v5 ++ [(rd l1 (Int.toNat v7)).b, (rd l1 (Int.toNat v7)).d]))], []⟩ [true] (pp (xL (v5.length + 2) (v5 ++ [(rd l1 (Int.toNat v7)).b, (rd l1 (Int.toNat v7)).d]).length) (pp (xL (v5.length + 2) (v5 ++ [(rd l1 (Int.toNat v7)).b, (rd l1 (Int.toNat v7)).d]).length) (pp (xS (v5.length + 2) (appRow (rowsT v5) 0 v5.length 1 [(.int .i64 (rd l1 (Int.toNat v7)).b), (.int .i64 (rd l1 (Int.toNat v7)).d)]) (rowsT (v5 ++ [(rd l1 (Int.toNat v7)).b, (rd l1 (Int.toNat v7)).d]))) (pp (pp (xF (appRow (rowsT v5) 0 v5.length 1 [(.int .i64 (rd l1 (Int.toNat v7)).b), (.int .i64 (rd l1 (Int.toNat v7)).d)])) nn) (ww o1 (ww o0 (ww o0 (tt k0 nn)))))))))))) (fun k0 => (lead_goes (sl T1_ok (C' := ⟨⟨48, 0, true⟩, (regP Tryz.prog 67 [1, 1, 1, 1, 0] 1), (todoP Tryz.prog 67 [1, 1, 1, 1, 0] 1), none, (resultsOf Tryz.prog 4), ⟨envL [(46, (.dat v5.length (rowsT v5)))], memL [] 0, 0, [], true⟩, [], .leaf⟩) 13 [] ⟨[], [0], [some [46]], []⟩ ⟨[(46, .frz v5.length v5.length (rowsT v5) (rowsT v5))], [], []⟩ [false] (pp (xZ (frzS 1 1 0 v5.length v5.length (rowsT v5)) v5.length (rowsT v5)) (pp (xL v5.length v5.length) (pp (xS v5.length (rowsT v5) (rowsT v5)) (pp (fl v5 nn) (tt k0 nn)))))) (lead_owe fun o0 => (lr 48 3 [1, 1, 1, 1, 1, 1, 0] 1 4 [(4, (.dat (srtV (cvT v5)).length (rowsT (srtV (cvT v5)))))] (sl T1_ok 3 [] ⟨[], [], [some [4]], []⟩ ⟨[], [], []⟩ [] (pp (pp (xr v5) (xw o0)) nn)))))))
theorem rysstart_ok (l0 : List R4) (l1 : List R4) : Lead Tryz.prog (resultsOf Tryz.prog 67) (rysC l0 l1) (startC Tryz.prog 67 [(.dat l0.length (rowsT l0)), (.dat l1.length (rowsT l1))] true []) (rysstart l0 l1) := (sl T1_ok 15 [(3, 1, rowsT ([] : List Int))] ⟨[0], [], [some [0, 1, 5, 6]], []⟩ ⟨[(5, .grow 0 1)], [], []⟩ [] (pp (fl ([] : List Int) nn) nn))
theorem rys_ends (l0 : List R4) (l1 : List R4) (n : Nat) (vs : List AVal) (h : goOn (rysstep l0 l1) n (rysstart l0 l1) = .ret vs) : Ends Tryz.prog (resultsOf Tryz.prog 67) (startC Tryz.prog 67 [(.dat l0.length (rowsT l0)), (.dat l1.length (rowsT l1))] true []) vs := by
  have := goOn_lead (rysstep_ok l0 l1) n _ (rysstart_ok l0 l1)
  rwa [h] at this
inductive rcutS where
  | h0 (v5 : List Int) (v6 : Int)
  | h1 (v5 : List Int) (v7 : Int)
noncomputable def rcutC (l0 : List R6) (l1 : List R6) : rcutS → Cfg
  | .h0 v5 v6 => ⟨⟨52, 0, true⟩, none, (todoP Tryz.prog 55 [1, 1, 0, 1, 0, 0] 0), none, (resultsOf Tryz.prog 4), ⟨envL [(0, (.dat l0.length (rowsT l0))), (1, (.dat l1.length (rowsT l1))), (5, (.sla 0 1 0 v5.length (.un 1))), (6, (.int .i64 v6))], memL [⟨rows v5.length (rowsT v5), 3, some ⟨1, v5.length, (rowsT v5)⟩⟩] 0, 1, [], true⟩, [], .leaf⟩
  | .h1 v5 v7 => ⟨⟨52, 0, true⟩, none, (todoP Tryz.prog 55 [1, 1, 1, 0, 1, 0, 0] 0), none, (resultsOf Tryz.prog 4), ⟨envL [(1, (.dat l1.length (rowsT l1))), (5, (.sla 0 1 0 v5.length (.un 1))), (7, (.int .i64 v7))], memL [⟨rows v5.length (rowsT v5), 3, some ⟨1, v5.length, (rowsT v5)⟩⟩] 0, 1, [], true⟩, [], .leaf⟩
noncomputable def rcutstep (l0 : List R6) (l1 : List R6) : rcutS → Out' rcutS
  | .h0 v5 v6 => (bif (decide (v6 < ((l0.length : Nat) : Int))) then (bif ((decide (0 ≤ v6 ∧ v6 < ((l0.length : Nat) : Int))) && true) then (bif (Nat.beq 1 1 && ((decide (0 + v5.length = v5.length)) && decide ((v5.length + 2 + 1) * (8 + 1) ≤ room))) then (.to (.h0 (v5 ++ [(rd l0 (Int.toNat v6)).c, (rd l0 (Int.toNat v6)).f]) (IntKind.wrap IntKind.i64 (v6 + 1)))) else .stuck) else .stuck) else (.to (.h1 v5 0)))
  | .h1 v5 v7 => (bif (decide (v7 < ((l1.length : Nat) : Int))) then (bif ((decide (0 ≤ v7 ∧ v7 < ((l1.length : Nat) : Int))) && true) then (bif (Nat.beq 1 1 && ((decide (0 + v5.length = v5.length)) && decide ((v5.length + 2 + 1) * (8 + 1) ≤ room))) then (.to (.h1 (v5 ++ [(rd l1 (Int.toNat v7)).c, (rd l1 (Int.toNat v7)).f]) (IntKind.wrap IntKind.i64 (v7 + 1)))) else .stuck) else .stuck) else (bif (srtV_owed (cvT v5)) then (.ret [(.dat (srtV (cvT v5)).length (rowsT (srtV (cvT v5))))]) else .stuck))
noncomputable def rcutstart (l0 : List R6) (l1 : List R6) : Out' rcutS := (.to (.h0 ([] : List Int) 0))
theorem rcutstep_ok (l0 : List R6) (l1 : List R6) : ∀ s, Lead Tryz.prog (resultsOf Tryz.prog 55) (rcutC l0 l1) (rcutC l0 l1 s) (rcutstep l0 l1 s)
  | .h0 v5 v6 => (lead_bif (fun k0 => (lead_owe fun o0 => (lead_owe fun o1 => (sl T1_ok 20 [] ⟨[2], [], [some [0, 1, 5, 6]], []⟩ ⟨[(5, .len (v5 ++ [(rd l0 (Int.toNat v6)).c, (rd l0 (Int.toNat v6)).f]).length)], [.rowed 1 (v5 ++ [(rd l0 (Int.toNat v6)).c, (rd l0 (Int.toNat v6)).f]).length (rowsT (v5 ++ [(rd l0 (Int.toNat v6)).c, (rd l0 (Int.toNat v6)).f]))], []⟩ [true] (pp (xL (v5.length + 2) (v5 ++ [(rd l0 (Int.toNat v6)).c, (rd l0 (Int.toNat v6)).f]).length) (pp (xL (v5.length + 2) (v5 ++ [(rd l0 (Int.toNat v6)).c, (rd l0 (Int.toNat v6)).f]).length) (pp (xS (v5.length + 2) (appRow (rowsT v5) 0 v5.length 1 [(.int .i64 (rd l0 (Int.toNat v6)).c), (.int .i64 (rd l0 (Int.toNat v6)).f)]) (rowsT (v5 ++ [(rd l0 (Int.toNat v6)).c, (rd l0 (Int.toNat v6)).f]))) (pp (pp (xF (appRow (rowsT v5) 0 v5.length 1 [(.int .i64 (rd l0 (Int.toNat v6)).c), (.int .i64 (rd l0 (Int.toNat v6)).f)])) nn) (ww o1 (ww o0 (ww o0 (tt k0 nn)))))))))))) (fun k0 => (sl T1_ok 17 [] ⟨[0], [], [some [1, 5, 7]], []⟩ ⟨[], [], []⟩ [false] (pp (fl v5 nn) (tt k0 nn)))))
  | .h1 v5 v7 => (lead_bif (fun k0 => (lead_owe fun o0 => (lead_owe fun o1 => (sl T1_ok 20 [] ⟨[2], [], [some [1, 5, 7]], []⟩ ⟨[(5, .len (v5 ++ [(rd l1 (Int.toNat v7)).c, (rd l1 (Int.toNat v7)).f]).length)], [.rowed 1 (v5 ++ [(rd l1 (Int.toNat v7)).c, (rd l1 (Int.toNat v7)).f]).length (rowsT (v5 ++ [(rd l1 (Int.toNat v7)).c, (rd l1 (Int.toNat v7)).f]))], []⟩ [true] (pp (xL (v5.length + 2) (v5 ++ [(rd l1 (Int.toNat v7)).c, (rd l1 (Int.toNat v7)).f]).length) (pp (xL (v5.length + 2) (v5 ++ [(rd l1 (Int.toNat v7)).c, (rd l1 (Int.toNat v7)).f]).length) (pp (xS (v5.length + 2) (appRow (rowsT v5) 0 v5.length 1 [(.int .i64 (rd l1 (Int.toNat v7)).c), (.int .i64 (rd l1 (Int.toNat v7)).f)]) (rowsT (v5 ++ [(rd l1 (Int.toNat v7)).c, (rd l1 (Int.toNat v7)).f]))) (pp (pp (xF (appRow (rowsT v5) 0 v5.length 1 [(.int .i64 (rd l1 (Int.toNat v7)).c), (.int .i64 (rd l1 (Int.toNat v7)).f)])) nn) (ww o1 (ww o0 (ww o0 (tt k0 nn)))))))))))) (fun k0 => (lead_goes (sl T1_ok (C' := ⟨⟨52, 0, true⟩, (regP Tryz.prog 55 [1, 1, 1, 1, 0] 1), (todoP Tryz.prog 55 [1, 1, 1, 1, 0] 1), none, (resultsOf Tryz.prog 4), ⟨envL [(50, (.dat v5.length (rowsT v5)))], memL [] 0, 0, [], true⟩, [], .leaf⟩) 13 [] ⟨[], [0], [some [50]], []⟩ ⟨[(50, .frz v5.length v5.length (rowsT v5) (rowsT v5))], [], []⟩ [false] (pp (xZ (frzS 1 1 0 v5.length v5.length (rowsT v5)) v5.length (rowsT v5)) (pp (xL v5.length v5.length) (pp (xS v5.length (rowsT v5) (rowsT v5)) (pp (fl v5 nn) (tt k0 nn)))))) (lead_owe fun o0 => (lr 52 3 [1, 1, 1, 1, 1, 1, 0] 1 4 [(4, (.dat (srtV (cvT v5)).length (rowsT (srtV (cvT v5)))))] (sl T1_ok 3 [] ⟨[], [], [some [4]], []⟩ ⟨[], [], []⟩ [] (pp (pp (xr v5) (xw o0)) nn)))))))
theorem rcutstart_ok (l0 : List R6) (l1 : List R6) : Lead Tryz.prog (resultsOf Tryz.prog 55) (rcutC l0 l1) (startC Tryz.prog 55 [(.dat l0.length (rowsT l0)), (.dat l1.length (rowsT l1))] true []) (rcutstart l0 l1) := (sl T1_ok 15 [(3, 1, rowsT ([] : List Int))] ⟨[0], [], [some [0, 1, 5, 6]], []⟩ ⟨[(5, .grow 0 1)], [], []⟩ [] (pp (fl ([] : List Int) nn) nn))
theorem rcut_ends (l0 : List R6) (l1 : List R6) (n : Nat) (vs : List AVal) (h : goOn (rcutstep l0 l1) n (rcutstart l0 l1) = .ret vs) : Ends Tryz.prog (resultsOf Tryz.prog 55) (startC Tryz.prog 55 [(.dat l0.length (rowsT l0)), (.dat l1.length (rowsT l1))] true []) vs := by
  have := goOn_lead (rcutstep_ok l0 l1) n _ (rcutstart_ok l0 l1)
  rwa [h] at this
end Go.Am
end
section
set_option linter.unusedVariables false
set_option linter.unusedSimpArgs false
namespace Go.Am
open Go.Proofs
set_option maxRecDepth 100000
set_option maxHeartbeats 4000000
set_option linter.unusedVariables false
set_option linter.unusedSimpArgs false
def xEnds (l : List R4) : List Int := l.flatMap fun r => [r.a, r.c]
def yEnds (l : List R4) : List Int := l.flatMap fun r => [r.b, r.d]
def zEnds (l : List R6) : List Int := l.flatMap fun r => [r.c, r.f]
def xsV (l m : List R4) : List Int := srtV (xEnds l ++ xEnds m)
def xsV_owed (l m : List R4) : Bool := decide (l.length ≤ 10000 ∧ m.length ≤ 10000)
theorem xEnds_length (l : List R4) : (xEnds l).length = 2 * l.length := by
  induction l with
  | nil => rfl
  | cons r l ih => show (_ :: _ :: xEnds l).length = _; simp only [List.length_cons, ih]; omega
theorem xEnds_drop (l : List R4) (i : Nat) (h : i < l.length) : xEnds (l.drop i) = xEnds [rd l i] ++ xEnds (l.drop (i + 1)) := by
  rw [drop_rd h]; rfl
theorem rxs_h1 (l m : List R4) (hl : l.length ≤ 10000) (hm : m.length ≤ 10000) : ∀ (k i : Nat) (out : List Int), i + k = m.length → out.length = 2 * l.length + 2 * i → ∃ N, goOn (rxsstep l m) N (.to (.h1 out (i : Int))) = .ret [.dat (srtV (out ++ xEnds (m.drop i))).length (rowsT (srtV (out ++ xEnds (m.drop i))))]
  | 0, i, out, h, ho => by
    refine ⟨1, ?_⟩
    have hw : srtV_owed out = true := decide_eq_true (by omega)
    rw [goOn_to, List.drop_eq_nil_of_le (show m.length ≤ i by omega), show xEnds [] = [] from rfl, List.append_nil]
    simp (disch := omega) only [rxsstep, dgt_f, dgt_t, dlt_t, dlt_f, dle_t, nlt_t, nle_t, neq_t, din_t, wrap_t, room_t, ne_t, ne_f, decide_true, cast_succ, cast_pred, toNat_pred, beq11, toNat_c, Nat.zero_add, Bool.and_true, Bool.true_and, cond_true, cond_false, Bool.not_true, Bool.not_false, goOn_ret, cvT_eq, lst_rows, lst_part0, flatG_rows, hw]
  | k + 1, i, out, h, ho => by
    obtain ⟨N, hN⟩ := rxs_h1 l m hl hm k (i + 1) (out ++ xEnds [rd m i]) (by omega) (by rw [List.length_append, xEnds_length]; simp; omega)
    refine ⟨N + 1, ?_⟩
    rw [xEnds_drop m i (by omega), ← List.append_assoc, goOn_to]
    simp (disch := omega) only [rxsstep, dgt_f, dgt_t, dlt_t, dlt_f, dle_t, nlt_t, nle_t, neq_t, din_t, wrap_t, room_t, ne_t, ne_f, decide_true, cast_succ, cast_pred, toNat_pred, beq11, toNat_c, Nat.zero_add, Bool.and_true, Bool.true_and, cond_true, cond_false, Bool.not_true, Bool.not_false, goOn_ret, cvT_eq, lst_rows, lst_part0, flatG_rows]
    exact hN
theorem rxs_h0 (l m : List R4) (hl : l.length ≤ 10000) (hm : m.length ≤ 10000) : ∀ (k i : Nat) (out : List Int), i + k = l.length → out.length = 2 * i → ∃ N, goOn (rxsstep l m) N (.to (.h0 out (i : Int))) = .ret [.dat (srtV (out ++ xEnds (l.drop i) ++ xEnds m)).length (rowsT (srtV (out ++ xEnds (l.drop i) ++ xEnds m)))]
  | 0, i, out, h, ho => by
    obtain ⟨N, hN⟩ := rxs_h1 l m hl hm m.length 0 out (Nat.zero_add _) (by omega)
    refine ⟨N + 1, ?_⟩
    rw [goOn_to, List.drop_eq_nil_of_le (show l.length ≤ i by omega), show xEnds [] = [] from rfl, List.append_nil]
    simp (disch := omega) only [rxsstep, dgt_f, dgt_t, dlt_t, dlt_f, dle_t, nlt_t, nle_t, neq_t, din_t, wrap_t, room_t, ne_t, ne_f, decide_true, cast_succ, cast_pred, toNat_pred, beq11, toNat_c, Nat.zero_add, Bool.and_true, Bool.true_and, cond_true, cond_false, Bool.not_true, Bool.not_false, goOn_ret, cvT_eq, lst_rows, lst_part0, flatG_rows]
    exact hN
  | k + 1, i, out, h, ho => by
    obtain ⟨N, hN⟩ := rxs_h0 l m hl hm k (i + 1) (out ++ xEnds [rd l i]) (by omega) (by rw [List.length_append, xEnds_length]; simp; omega)
    refine ⟨N + 1, ?_⟩
    rw [xEnds_drop l i (by omega), ← List.append_assoc, goOn_to]
    simp (disch := omega) only [rxsstep, dgt_f, dgt_t, dlt_t, dlt_f, dle_t, nlt_t, nle_t, neq_t, din_t, wrap_t, room_t, ne_t, ne_f, decide_true, cast_succ, cast_pred, toNat_pred, beq11, toNat_c, Nat.zero_add, Bool.and_true, Bool.true_and, cond_true, cond_false, Bool.not_true, Bool.not_false, goOn_ret, cvT_eq, lst_rows, lst_part0, flatG_rows]
    exact hN
theorem rxs_run (l m : List R4) (h : xsV_owed l m = true) : ∃ N, goOn (rxsstep l m) N (rxsstart l m) = .ret [.dat (xsV l m).length (rowsT (xsV l m))] := by
  obtain ⟨h1, h2⟩ := of_decide_eq_true h
  have := rxs_h0 l m h1 h2 l.length 0 [] (Nat.zero_add _) rfl
  simpa [rxsstart, xsV] using this
def ysV (l m : List R4) : List Int := srtV (yEnds l ++ yEnds m)
def ysV_owed (l m : List R4) : Bool := decide (l.length ≤ 10000 ∧ m.length ≤ 10000)
theorem yEnds_length (l : List R4) : (yEnds l).length = 2 * l.length := by
  induction l with
  | nil => rfl
  | cons r l ih => show (_ :: _ :: yEnds l).length = _; simp only [List.length_cons, ih]; omega
theorem yEnds_drop (l : List R4) (i : Nat) (h : i < l.length) : yEnds (l.drop i) = yEnds [rd l i] ++ yEnds (l.drop (i + 1)) := by
  rw [drop_rd h]; rfl
theorem rys_h1 (l m : List R4) (hl : l.length ≤ 10000) (hm : m.length ≤ 10000) : ∀ (k i : Nat) (out : List Int), i + k = m.length → out.length = 2 * l.length + 2 * i → ∃ N, goOn (rysstep l m) N (.to (.h1 out (i : Int))) = .ret [.dat (srtV (out ++ yEnds (m.drop i))).length (rowsT (srtV (out ++ yEnds (m.drop i))))]
  | 0, i, out, h, ho => by
    refine ⟨1, ?_⟩
    have hw : srtV_owed out = true := decide_eq_true (by omega)
    rw [goOn_to, List.drop_eq_nil_of_le (show m.length ≤ i by omega), show yEnds [] = [] from rfl, List.append_nil]
    simp (disch := omega) only [rysstep, dgt_f, dgt_t, dlt_t, dlt_f, dle_t, nlt_t, nle_t, neq_t, din_t, wrap_t, room_t, ne_t, ne_f, decide_true, cast_succ, cast_pred, toNat_pred, beq11, toNat_c, Nat.zero_add, Bool.and_true, Bool.true_and, cond_true, cond_false, Bool.not_true, Bool.not_false, goOn_ret, cvT_eq, lst_rows, lst_part0, flatG_rows, hw]
  | k + 1, i, out, h, ho => by
    obtain ⟨N, hN⟩ := rys_h1 l m hl hm k (i + 1) (out ++ yEnds [rd m i]) (by omega) (by rw [List.length_append, yEnds_length]; simp; omega)
    refine ⟨N + 1, ?_⟩
    rw [yEnds_drop m i (by omega), ← List.append_assoc, goOn_to]
    simp (disch := omega) only [rysstep, dgt_f, dgt_t, dlt_t, dlt_f, dle_t, nlt_t, nle_t, neq_t, din_t, wrap_t, room_t, ne_t, ne_f, decide_true, cast_succ, cast_pred, toNat_pred, beq11, toNat_c, Nat.zero_add, Bool.and_true, Bool.true_and, cond_true, cond_false, Bool.not_true, Bool.not_false, goOn_ret, cvT_eq, lst_rows, lst_part0, flatG_rows]
    exact hN
theorem rys_h0 (l m : List R4) (hl : l.length ≤ 10000) (hm : m.length ≤ 10000) : ∀ (k i : Nat) (out : List Int), i + k = l.length → out.length = 2 * i → ∃ N, goOn (rysstep l m) N (.to (.h0 out (i : Int))) = .ret [.dat (srtV (out ++ yEnds (l.drop i) ++ yEnds m)).length (rowsT (srtV (out ++ yEnds (l.drop i) ++ yEnds m)))]
  | 0, i, out, h, ho => by
    obtain ⟨N, hN⟩ := rys_h1 l m hl hm m.length 0 out (Nat.zero_add _) (by omega)
    refine ⟨N + 1, ?_⟩
    rw [goOn_to, List.drop_eq_nil_of_le (show l.length ≤ i by omega), show yEnds [] = [] from rfl, List.append_nil]
    simp (disch := omega) only [rysstep, dgt_f, dgt_t, dlt_t, dlt_f, dle_t, nlt_t, nle_t, neq_t, din_t, wrap_t, room_t, ne_t, ne_f, decide_true, cast_succ, cast_pred, toNat_pred, beq11, toNat_c, Nat.zero_add, Bool.and_true, Bool.true_and, cond_true, cond_false, Bool.not_true, Bool.not_false, goOn_ret, cvT_eq, lst_rows, lst_part0, flatG_rows]
    exact hN
  | k + 1, i, out, h, ho => by
    obtain ⟨N, hN⟩ := rys_h0 l m hl hm k (i + 1) (out ++ yEnds [rd l i]) (by omega) (by rw [List.length_append, yEnds_length]; simp; omega)
    refine ⟨N + 1, ?_⟩
    rw [yEnds_drop l i (by omega), ← List.append_assoc, goOn_to]
    simp (disch := omega) only [rysstep, dgt_f, dgt_t, dlt_t, dlt_f, dle_t, nlt_t, nle_t, neq_t, din_t, wrap_t, room_t, ne_t, ne_f, decide_true, cast_succ, cast_pred, toNat_pred, beq11, toNat_c, Nat.zero_add, Bool.and_true, Bool.true_and, cond_true, cond_false, Bool.not_true, Bool.not_false, goOn_ret, cvT_eq, lst_rows, lst_part0, flatG_rows]
    exact hN
theorem rys_run (l m : List R4) (h : ysV_owed l m = true) : ∃ N, goOn (rysstep l m) N (rysstart l m) = .ret [.dat (ysV l m).length (rowsT (ysV l m))] := by
  obtain ⟨h1, h2⟩ := of_decide_eq_true h
  have := rys_h0 l m h1 h2 l.length 0 [] (Nat.zero_add _) rfl
  simpa [rysstart, ysV] using this
def cutV (l m : List R6) : List Int := srtV (zEnds l ++ zEnds m)
def cutV_owed (l m : List R6) : Bool := decide (l.length ≤ 10000 ∧ m.length ≤ 10000)
theorem zEnds_length (l : List R6) : (zEnds l).length = 2 * l.length := by
  induction l with
  | nil => rfl
  | cons r l ih => show (_ :: _ :: zEnds l).length = _; simp only [List.length_cons, ih]; omega
theorem zEnds_drop (l : List R6) (i : Nat) (h : i < l.length) : zEnds (l.drop i) = zEnds [rd l i] ++ zEnds (l.drop (i + 1)) := by
  rw [drop_rd h]; rfl
theorem rcut_h1 (l m : List R6) (hl : l.length ≤ 10000) (hm : m.length ≤ 10000) : ∀ (k i : Nat) (out : List Int), i + k = m.length → out.length = 2 * l.length + 2 * i → ∃ N, goOn (rcutstep l m) N (.to (.h1 out (i : Int))) = .ret [.dat (srtV (out ++ zEnds (m.drop i))).length (rowsT (srtV (out ++ zEnds (m.drop i))))]
  | 0, i, out, h, ho => by
    refine ⟨1, ?_⟩
    have hw : srtV_owed out = true := decide_eq_true (by omega)
    rw [goOn_to, List.drop_eq_nil_of_le (show m.length ≤ i by omega), show zEnds [] = [] from rfl, List.append_nil]
    simp (disch := omega) only [rcutstep, dgt_f, dgt_t, dlt_t, dlt_f, dle_t, nlt_t, nle_t, neq_t, din_t, wrap_t, room_t, ne_t, ne_f, decide_true, cast_succ, cast_pred, toNat_pred, beq11, toNat_c, Nat.zero_add, Bool.and_true, Bool.true_and, cond_true, cond_false, Bool.not_true, Bool.not_false, goOn_ret, cvT_eq, lst_rows, lst_part0, flatG_rows, hw]
  | k + 1, i, out, h, ho => by
    obtain ⟨N, hN⟩ := rcut_h1 l m hl hm k (i + 1) (out ++ zEnds [rd m i]) (by omega) (by rw [List.length_append, zEnds_length]; simp; omega)
    refine ⟨N + 1, ?_⟩
    rw [zEnds_drop m i (by omega), ← List.append_assoc, goOn_to]
    simp (disch := omega) only [rcutstep, dgt_f, dgt_t, dlt_t, dlt_f, dle_t, nlt_t, nle_t, neq_t, din_t, wrap_t, room_t, ne_t, ne_f, decide_true, cast_succ, cast_pred, toNat_pred, beq11, toNat_c, Nat.zero_add, Bool.and_true, Bool.true_and, cond_true, cond_false, Bool.not_true, Bool.not_false, goOn_ret, cvT_eq, lst_rows, lst_part0, flatG_rows]
    exact hN
theorem rcut_h0 (l m : List R6) (hl : l.length ≤ 10000) (hm : m.length ≤ 10000) : ∀ (k i : Nat) (out : List Int), i + k = l.length → out.length = 2 * i → ∃ N, goOn (rcutstep l m) N (.to (.h0 out (i : Int))) = .ret [.dat (srtV (out ++ zEnds (l.drop i) ++ zEnds m)).length (rowsT (srtV (out ++ zEnds (l.drop i) ++ zEnds m)))]
  | 0, i, out, h, ho => by
    obtain ⟨N, hN⟩ := rcut_h1 l m hl hm m.length 0 out (Nat.zero_add _) (by omega)
    refine ⟨N + 1, ?_⟩
    rw [goOn_to, List.drop_eq_nil_of_le (show l.length ≤ i by omega), show zEnds [] = [] from rfl, List.append_nil]
    simp (disch := omega) only [rcutstep, dgt_f, dgt_t, dlt_t, dlt_f, dle_t, nlt_t, nle_t, neq_t, din_t, wrap_t, room_t, ne_t, ne_f, decide_true, cast_succ, cast_pred, toNat_pred, beq11, toNat_c, Nat.zero_add, Bool.and_true, Bool.true_and, cond_true, cond_false, Bool.not_true, Bool.not_false, goOn_ret, cvT_eq, lst_rows, lst_part0, flatG_rows]
    exact hN
  | k + 1, i, out, h, ho => by
    obtain ⟨N, hN⟩ := rcut_h0 l m hl hm k (i + 1) (out ++ zEnds [rd l i]) (by omega) (by rw [List.length_append, zEnds_length]; simp; omega)
    refine ⟨N + 1, ?_⟩
    rw [zEnds_drop l i (by omega), ← List.append_assoc, goOn_to]
    simp (disch := omega) only [rcutstep, dgt_f, dgt_t, dlt_t, dlt_f, dle_t, nlt_t, nle_t, neq_t, din_t, wrap_t, room_t, ne_t, ne_f, decide_true, cast_succ, cast_pred, toNat_pred, beq11, toNat_c, Nat.zero_add, Bool.and_true, Bool.true_and, cond_true, cond_false, Bool.not_true, Bool.not_false, goOn_ret, cvT_eq, lst_rows, lst_part0, flatG_rows]
    exact hN
theorem rcut_run (l m : List R6) (h : cutV_owed l m = true) : ∃ N, goOn (rcutstep l m) N (rcutstart l m) = .ret [.dat (cutV l m).length (rowsT (cutV l m))] := by
  obtain ⟨h1, h2⟩ := of_decide_eq_true h
  have := rcut_h0 l m h1 h2 l.length 0 [] (Nat.zero_add _) rfl
  simpa [rcutstart, cutV] using this
noncomputable def fXs : List AVal → Option (AVal × Bool)
  | [a0, a1] => match asL R4 a0, asL R4 a1 with
    | some (L0, g0, n0), some (L1, g1, n1) => some (.dat (xsV L0 L1).length (rowsT (xsV L0 L1)), isT R4 n0 g0 && (isT R4 n1 g1 && (xsV_owed L0 L1)))
    | _, _ => none
  | _ => none
theorem fXs_ok {S : Specs} (hS : SpecsOk Tryz.prog S) : SpecsOk Tryz.prog (S.with nXs fXs) := by
  refine fOne hS (by kernel_rfl) fun args v h => ?_
  unfold fXs at h
  split at h
  · rename_i a0 a1
    split at h
    · rename_i L0 g0 n0 L1 g1 n1 e0 e1
      simp only [Option.some.injEq, Prod.mk.injEq, Bool.and_eq_true] at h
      obtain ⟨rfl, ho0, ho1, hw⟩ := h
      obtain ⟨N, hN⟩ := rxs_run L0 L1 hw
      exact ⟨_, _, (.cons (asL_le e0 ho0) (.cons (asL_le e1 ho1) .nil)), rfl, rxs_ends L0 L1 N _ hN, 3, rfl⟩
    · cases h
  · cases h
noncomputable def fYs : List AVal → Option (AVal × Bool)
  | [a0, a1] => match asL R4 a0, asL R4 a1 with
    | some (L0, g0, n0), some (L1, g1, n1) => some (.dat (ysV L0 L1).length (rowsT (ysV L0 L1)), isT R4 n0 g0 && (isT R4 n1 g1 && (ysV_owed L0 L1)))
    | _, _ => none
  | _ => none
theorem fYs_ok {S : Specs} (hS : SpecsOk Tryz.prog S) : SpecsOk Tryz.prog (S.with nYs fYs) := by
  refine fOne hS (by kernel_rfl) fun args v h => ?_
  unfold fYs at h
  split at h
  · rename_i a0 a1
    split at h
    · rename_i L0 g0 n0 L1 g1 n1 e0 e1
      simp only [Option.some.injEq, Prod.mk.injEq, Bool.and_eq_true] at h
      obtain ⟨rfl, ho0, ho1, hw⟩ := h
      obtain ⟨N, hN⟩ := rys_run L0 L1 hw
      exact ⟨_, _, (.cons (asL_le e0 ho0) (.cons (asL_le e1 ho1) .nil)), rfl, rys_ends L0 L1 N _ hN, 3, rfl⟩
    · cases h
  · cases h
noncomputable def fCuts : List AVal → Option (AVal × Bool)
  | [a0, a1] => match asL R6 a0, asL R6 a1 with
    | some (L0, g0, n0), some (L1, g1, n1) => some (.dat (cutV L0 L1).length (rowsT (cutV L0 L1)), isT R6 n0 g0 && (isT R6 n1 g1 && (cutV_owed L0 L1)))
    | _, _ => none
  | _ => none
theorem fCuts_ok {S : Specs} (hS : SpecsOk Tryz.prog S) : SpecsOk Tryz.prog (S.with nCuts fCuts) := by
  refine fOne hS (by kernel_rfl) fun args v h => ?_
  unfold fCuts at h
  split at h
  · rename_i a0 a1
    split at h
    · rename_i L0 g0 n0 L1 g1 n1 e0 e1
      simp only [Option.some.injEq, Prod.mk.injEq, Bool.and_eq_true] at h
      obtain ⟨rfl, ho0, ho1, hw⟩ := h
      obtain ⟨N, hN⟩ := rcut_run L0 L1 hw
      exact ⟨_, _, (.cons (asL_le e0 ho0) (.cons (asL_le e1 ho1) .nil)), rfl, rcut_ends L0 L1 N _ hN, 3, rfl⟩
    · cases h
  · cases h
noncomputable def T2 : Specs := ((T1.with nXs fXs).with nYs fYs).with nCuts fCuts
theorem T2_ok : SpecsOk Tryz.prog T2 := fCuts_ok (fYs_ok (fXs_ok T1_ok))
end Go.Am
end
section
set_option linter.unusedVariables false
set_option linter.unusedSimpArgs false
namespace Go.Am
open Go.Proofs
set_option maxRecDepth 1000000
set_option linter.unusedVariables false
set_option linter.unusedSimpArgs false
set_option maxHeartbeats 4000000
inductive rjoS where
  | h0 (v9 : List R4) (v10 : List R2) (v11 : Int) (v12 : Int)
  | h1 (v9 : List R4) (v10 : List R2) (v11 : Int) (v12 : Int) (v13 : List Bool) (v14 : Int)
  | h2 (v9 : List R4) (v10 : List R2) (v11 : Int) (v12 : Int) (v15 : List R2) (v17 : Int)
  | h3 (v9 : List R4) (v10 : List R2) (v11 : Int) (v12 : Int) (v16 : Int)
noncomputable def rjoC (x0 : Int) (l1 : List R4) (l2 : List R4) : rjoS → Cfg
  | .h0 v9 v10 v11 v12 => ⟨⟨121, 0, true⟩, none, (todoP Tryz.prog 56 [1, 1, 1, 1, 1, 0, 1, 0, 0] 0), none, (resultsOf Tryz.prog 3), ⟨envL [(0, (.int .i64 x0)), (1, (.dat l1.length (rowsT l1))), (2, (.dat l2.length (rowsT l2))), (7, (.dat (xsV (cvT l1) (cvT l2)).length (rowsT (xsV (cvT l1) (cvT l2))))), (8, (.dat (ysV (cvT l1) (cvT l2)).length (rowsT (ysV (cvT l1) (cvT l2))))), (9, (.sla 0 4 0 v9.length (.un 4))), (10, (.dat v10.length (rowsT v10))), (11, (.int .i64 v11)), (12, (.int .i64 v12))], memL [⟨rows v9.length (rowsT v9), 106, some ⟨4, v9.length, (rowsT v9)⟩⟩] 0, 1, [], true⟩, [], .leaf⟩
  | .h1 v9 v10 v11 v12 v13 v14 => ⟨⟨121, 0, true⟩, none, (todoP Tryz.prog 56 [1, 1, 1, 1, 1, 0, 1, 0, 0, 1, 0, 0, 1, 0, 1, 0, 0] 0), none, (resultsOf Tryz.prog 3), ⟨envL [(0, (.int .i64 x0)), (1, (.dat l1.length (rowsT l1))), (2, (.dat l2.length (rowsT l2))), (7, (.dat (xsV (cvT l1) (cvT l2)).length (rowsT (xsV (cvT l1) (cvT l2))))), (8, (.dat (ysV (cvT l1) (cvT l2)).length (rowsT (ysV (cvT l1) (cvT l2))))), (9, (.sla 1 4 0 v9.length (.un 4))), (10, (.dat v10.length (rowsT v10))), (11, (.int .i64 v11)), (12, (.int .i64 v12)), (13, (.sla 0 1 0 v13.length (.un 1))), (14, (.int .i64 v14))], memL [⟨rows v13.length (rowsT v13), 4, some ⟨1, v13.length, (rowsT v13)⟩⟩, ⟨rows v9.length (rowsT v9), 106, some ⟨4, v9.length, (rowsT v9)⟩⟩] 0, 2, [], true⟩, [], .leaf⟩
  | .h2 v9 v10 v11 v12 v15 v17 => ⟨⟨121, 0, true⟩, none, (todoP Tryz.prog 56 [1, 1, 1, 1, 1, 0, 1, 0, 0, 1, 0, 0, 1, 1, 1, 1, 1, 1, 0, 0] 0), none, (resultsOf Tryz.prog 3), ⟨envL [(0, (.int .i64 x0)), (1, (.dat l1.length (rowsT l1))), (2, (.dat l2.length (rowsT l2))), (7, (.dat (xsV (cvT l1) (cvT l2)).length (rowsT (xsV (cvT l1) (cvT l2))))), (8, (.dat (ysV (cvT l1) (cvT l2)).length (rowsT (ysV (cvT l1) (cvT l2))))), (9, (.sla 0 4 0 v9.length (.un 4))), (10, (.dat v10.length (rowsT v10))), (11, (.int .i64 v11)), (12, (.int .i64 v12)), (15, (.dat v15.length (rowsT v15))), (17, (.int .i64 v17))], memL [⟨rows v9.length (rowsT v9), 106, some ⟨4, v9.length, (rowsT v9)⟩⟩] 0, 1, [], true⟩, [], .leaf⟩
  | .h3 v9 v10 v11 v12 v16 => ⟨⟨121, 0, true⟩, none, (todoP Tryz.prog 56 [1, 1, 1, 1, 1, 0, 1, 0, 0, 1, 0, 0, 1, 1, 1, 0, 1, 0, 0, 1, 0, 0] 0), none, (resultsOf Tryz.prog 3), ⟨envL [(0, (.int .i64 x0)), (1, (.dat l1.length (rowsT l1))), (2, (.dat l2.length (rowsT l2))), (7, (.dat (xsV (cvT l1) (cvT l2)).length (rowsT (xsV (cvT l1) (cvT l2))))), (8, (.dat (ysV (cvT l1) (cvT l2)).length (rowsT (ysV (cvT l1) (cvT l2))))), (9, (.sla 0 4 0 v9.length (.un 4))), (10, (.dat v10.length (rowsT v10))), (11, (.int .i64 v11)), (12, (.int .i64 v12)), (16, (.int .i64 v16))], memL [⟨rows v9.length (rowsT v9), 106, some ⟨4, v9.length, (rowsT v9)⟩⟩] 0, 1, [], true⟩, [], .leaf⟩
noncomputable def rjostep (x0 : Int) (l1 : List R4) (l2 : List R4) : rjoS → Out' rjoS
  | .h0 v9 v10 v11 v12 => (bif (decide ((IntKind.wrap IntKind.i64 (v12 + 1)) < (((xsV (cvT l1) (cvT l2)).length : Nat) : Int))) then (.to (.h1 v9 v10 v11 v12 ([] : List Bool) 0)) else (.ret [(.dat v9.length (rowsT v9))]))
  | .h1 v9 v10 v11 v12 v13 v14 => (bif (decide (v14 < (((ysV (cvT l1) (cvT l2)).length : Nat) : Int))) then (bif (has4V_owed (cvT l1) (rd (xsV (cvT l1) (cvT l2)) (Int.toNat v12)) (rd (ysV (cvT l1) (cvT l2)) (Int.toNat v14))) then (bif ((decide (0 ≤ v12 ∧ v12 < (((xsV (cvT l1) (cvT l2)).length : Nat) : Int))) && true) then (bif ((decide (0 ≤ v14 ∧ v14 < (((ysV (cvT l1) (cvT l2)).length : Nat) : Int))) && true) then (bif (has4V_owed (cvT l2) (rd (xsV (cvT l1) (cvT l2)) (Int.toNat v12)) (rd (ysV (cvT l1) (cvT l2)) (Int.toNat v14))) then (bif (Nat.beq 1 1 && ((decide (0 + v13.length = v13.length)) && decide ((v13.length + 1 + 1) * (1 + 1) ≤ room))) then (.to (.h1 v9 v10 v11 v12 (v13 ++ [(holdsV x0 (has4V (cvT l1) (rd (xsV (cvT l1) (cvT l2)) (Int.toNat v12)) (rd (ysV (cvT l1) (cvT l2)) (Int.toNat v14))) (has4V (cvT l2) (rd (xsV (cvT l1) (cvT l2)) (Int.toNat v12)) (rd (ysV (cvT l1) (cvT l2)) (Int.toNat v14))))]) (IntKind.wrap IntKind.i64 (v14 + 1)))) else .stuck) else .stuck) else .stuck) else .stuck) else .stuck) else (bif (canV_owed (cvT (ysV (cvT l1) (cvT l2))) (cvT v13)) then (bif (decide (v12 > 0)) then (bif (same2V_owed (cvT (canV (cvT (ysV (cvT l1) (cvT l2))) (cvT v13))) (cvT v10)) then (bif (same2V (cvT (canV (cvT (ysV (cvT l1) (cvT l2))) (cvT v13))) (cvT v10)) then (.to (.h3 v9 v10 v11 v12 v11)) else (.to (.h2 v9 (canV (cvT (ysV (cvT l1) (cvT l2))) (cvT v13)) ((v9.length : Nat) : Int) v12 (canV (cvT (ysV (cvT l1) (cvT l2))) (cvT v13)) 0))) else .stuck) else (.to (.h2 v9 (canV (cvT (ysV (cvT l1) (cvT l2))) (cvT v13)) ((v9.length : Nat) : Int) v12 (canV (cvT (ysV (cvT l1) (cvT l2))) (cvT v13)) 0))) else .stuck))
  | .h2 v9 v10 v11 v12 v15 v17 => (bif (decide (v17 < ((v15.length : Nat) : Int))) then (bif ((decide (0 ≤ v12 ∧ v12 < (((xsV (cvT l1) (cvT l2)).length : Nat) : Int))) && true) then (bif ((decide (0 ≤ (IntKind.wrap IntKind.i64 (v12 + 1)) ∧ (IntKind.wrap IntKind.i64 (v12 + 1)) < (((xsV (cvT l1) (cvT l2)).length : Nat) : Int))) && true) then (bif ((decide (0 ≤ v17 ∧ v17 < ((v15.length : Nat) : Int))) && true) then (bif (Nat.beq 4 4 && ((decide (0 + v9.length = v9.length)) && decide ((v9.length + 1 + 1) * (32 + 1) ≤ room))) then (.to (.h2 (v9 ++ [(R4.mk (rd (xsV (cvT l1) (cvT l2)) (Int.toNat v12)) (rd v15 (Int.toNat v17)).a (rd (xsV (cvT l1) (cvT l2)) (Int.toNat (IntKind.wrap IntKind.i64 (v12 + 1)))) (rd v15 (Int.toNat v17)).b)]) v10 v11 v12 v15 (IntKind.wrap IntKind.i64 (v17 + 1)))) else .stuck) else .stuck) else .stuck) else .stuck) else (.to (.h0 v9 v10 v11 (IntKind.wrap IntKind.i64 (v12 + 1)))))
  | .h3 v9 v10 v11 v12 v16 => (bif (decide (v16 < ((v9.length : Nat) : Int))) then (bif ((decide (0 ≤ (IntKind.wrap IntKind.i64 (v12 + 1)) ∧ (IntKind.wrap IntKind.i64 (v12 + 1)) < (((xsV (cvT l1) (cvT l2)).length : Nat) : Int))) && true) then (bif ((decide (0 ≤ v16 ∧ v16 < ((v9.length : Nat) : Int))) && true) then (bif (decide ((0 + (Int.toNat v16)) < v9.length)) then (.to (.h3 (v9.set (0 + (Int.toNat v16)) (R4.mk (rd v9 (0 + (Int.toNat v16))).a (rd v9 (0 + (Int.toNat v16))).b (rd (xsV (cvT l1) (cvT l2)) (Int.toNat (IntKind.wrap IntKind.i64 (v12 + 1)))) (rd v9 (0 + (Int.toNat v16))).d)) v10 v11 v12 (IntKind.wrap IntKind.i64 (v16 + 1)))) else .stuck) else .stuck) else .stuck) else (.to (.h0 v9 v10 v11 (IntKind.wrap IntKind.i64 (v12 + 1)))))
noncomputable def rjostart (x0 : Int) (l1 : List R4) (l2 : List R4) : Out' rjoS := (bif (xsV_owed (cvT l1) (cvT l2)) then (bif (ysV_owed (cvT l1) (cvT l2)) then (.to (.h0 ([] : List R4) ([] : List R2) 0 0)) else .stuck) else .stuck)
theorem rjostep_ok (x0 : Int) (l1 : List R4) (l2 : List R4) : ∀ s, Lead Tryz.prog (resultsOf Tryz.prog 56) (rjoC x0 l1 l2) (rjoC x0 l1 l2 s) (rjostep x0 l1 l2 s)
  | .h0 v9 v10 v11 v12 => (lead_bif (fun k0 => (sl T2_ok 24 [(4, 1, rowsT ([] : List Bool))] ⟨[1, 0], [], [some [0, 1, 2, 7, 8, 9, 10, 11, 12, 13, 14]], []⟩ ⟨[(13, .grow 0 1)], [], []⟩ [true] (pp (fl ([] : List Bool) (fl v9 nn)) (tt k0 nn)))) (fun k0 => (lr 121 3 [1, 1, 1, 1, 1, 1, 0] 1 3 [(6, (.dat v9.length (rowsT v9)))] (sl T2_ok 16 [] ⟨[], [0], [some [6]], []⟩ ⟨[(6, .frz v9.length v9.length (rowsT v9) (rowsT v9))], [], []⟩ [false] (pp (xZ (frzS 4 4 0 v9.length v9.length (rowsT v9)) v9.length (rowsT v9)) (pp (xL v9.length v9.length) (pp (xS v9.length (rowsT v9) (rowsT v9)) (pp (fl v9 nn) (tt k0 nn)))))))))
  | .h1 v9 v10 v11 v12 v13 v14 => (lead_bif (fun k0 => (lead_owe fun o0 => (lead_owe fun o1 => (lead_owe fun o2 => (lead_owe fun o3 => (lead_owe fun o4 => (sl T2_ok 20 [] ⟨[3, 1], [], [some [0, 1, 2, 7, 8, 9, 10, 11, 12, 13, 14]], []⟩ ⟨[(13, .len (v13 ++ [(holdsV x0 (has4V (cvT l1) (rd (xsV (cvT l1) (cvT l2)) (Int.toNat v12)) (rd (ysV (cvT l1) (cvT l2)) (Int.toNat v14))) (has4V (cvT l2) (rd (xsV (cvT l1) (cvT l2)) (Int.toNat v12)) (rd (ysV (cvT l1) (cvT l2)) (Int.toNat v14))))]).length)], [.rowed 1 (v13 ++ [(holdsV x0 (has4V (cvT l1) (rd (xsV (cvT l1) (cvT l2)) (Int.toNat v12)) (rd (ysV (cvT l1) (cvT l2)) (Int.toNat v14))) (has4V (cvT l2) (rd (xsV (cvT l1) (cvT l2)) (Int.toNat v12)) (rd (ysV (cvT l1) (cvT l2)) (Int.toNat v14))))]).length (rowsT (v13 ++ [(holdsV x0 (has4V (cvT l1) (rd (xsV (cvT l1) (cvT l2)) (Int.toNat v12)) (rd (ysV (cvT l1) (cvT l2)) (Int.toNat v14))) (has4V (cvT l2) (rd (xsV (cvT l1) (cvT l2)) (Int.toNat v12)) (rd (ysV (cvT l1) (cvT l2)) (Int.toNat v14))))])), .keep], []⟩ [true] (pp (xL (v13.length + 1) (v13 ++ [(holdsV x0 (has4V (cvT l1) (rd (xsV (cvT l1) (cvT l2)) (Int.toNat v12)) (rd (ysV (cvT l1) (cvT l2)) (Int.toNat v14))) (has4V (cvT l2) (rd (xsV (cvT l1) (cvT l2)) (Int.toNat v12)) (rd (ysV (cvT l1) (cvT l2)) (Int.toNat v14))))]).length) (pp (xL (v13.length + 1) (v13 ++ [(holdsV x0 (has4V (cvT l1) (rd (xsV (cvT l1) (cvT l2)) (Int.toNat v12)) (rd (ysV (cvT l1) (cvT l2)) (Int.toNat v14))) (has4V (cvT l2) (rd (xsV (cvT l1) (cvT l2)) (Int.toNat v12)) (rd (ysV (cvT l1) (cvT l2)) (Int.toNat v14))))]).length) (pp (xS (v13.length + 1) (appRow (rowsT v13) 0 v13.length 1 [(.bool (holdsV x0 (has4V (cvT l1) (rd (xsV (cvT l1) (cvT l2)) (Int.toNat v12)) (rd (ysV (cvT l1) (cvT l2)) (Int.toNat v14))) (has4V (cvT l2) (rd (xsV (cvT l1) (cvT l2)) (Int.toNat v12)) (rd (ysV (cvT l1) (cvT l2)) (Int.toNat v14)))))]) (rowsT (v13 ++ [(holdsV x0 (has4V (cvT l1) (rd (xsV (cvT l1) (cvT l2)) (Int.toNat v12)) (rd (ysV (cvT l1) (cvT l2)) (Int.toNat v14))) (has4V (cvT l2) (rd (xsV (cvT l1) (cvT l2)) (Int.toNat v12)) (rd (ysV (cvT l1) (cvT l2)) (Int.toNat v14))))]))) (pp (pp (xF (appRow (rowsT v13) 0 v13.length 1 [(.bool (holdsV x0 (has4V (cvT l1) (rd (xsV (cvT l1) (cvT l2)) (Int.toNat v12)) (rd (ysV (cvT l1) (cvT l2)) (Int.toNat v14))) (has4V (cvT l2) (rd (xsV (cvT l1) (cvT l2)) (Int.toNat v12)) (rd (ysV (cvT l1) (cvT l2)) (Int.toNat v14)))))])) (fl v9 nn)) (ww o4 (pp (pp (xr l2) (xw o3)) (ww o2 (ww o1 (pp (pp (xr l1) (xw o0)) (ww o2 (ww o1 (tt k0 nn))))))))))))))))))) (fun k0 => (lead_goes (sl T2_ok (C' := ⟨⟨121, 0, true⟩, (regP Tryz.prog 56 [1, 1, 1, 1, 1, 0, 1, 0, 0, 1, 0, 0, 1, 1, 0] 2), (todoP Tryz.prog 56 [1, 1, 1, 1, 1, 0, 1, 0, 0, 1, 0, 0, 1, 1, 0] 1), none, (resultsOf Tryz.prog 3), ⟨envL [(0, (.int .i64 x0)), (1, (.dat l1.length (rowsT l1))), (2, (.dat l2.length (rowsT l2))), (7, (.dat (xsV (cvT l1) (cvT l2)).length (rowsT (xsV (cvT l1) (cvT l2))))), (8, (.dat (ysV (cvT l1) (cvT l2)).length (rowsT (ysV (cvT l1) (cvT l2))))), (9, (.sla 0 4 0 v9.length (.un 4))), (10, (.dat v10.length (rowsT v10))), (11, (.int .i64 v11)), (12, (.int .i64 v12)), (62, (.dat (ysV (cvT l1) (cvT l2)).length (rowsT (ysV (cvT l1) (cvT l2))))), (63, (.dat v13.length (rowsT v13)))], memL [⟨rows v9.length (rowsT v9), 106, some ⟨4, v9.length, (rowsT v9)⟩⟩] 0, 1, [], true⟩, [], .leaf⟩) 14 [] ⟨[1], [0], [some [0, 1, 2, 7, 8, 9, 10, 11, 12, 62, 63]], []⟩ ⟨[(63, .frz v13.length v13.length (rowsT v13) (rowsT v13))], [], []⟩ [false] (pp (xZ (frzS 1 1 0 v13.length v13.length (rowsT v13)) v13.length (rowsT v13)) (pp (xL v13.length v13.length) (pp (xS v13.length (rowsT v13) (rowsT v13)) (pp (fl v9 nn) (pp (fl v13 nn) (tt k0 nn))))))) (lead_owe fun o1_0 => (lead_bif (fun k1 => (lead_owe fun o2_0 => (lead_bif (fun k2 => (sl T2_ok 23 [] ⟨[0], [], [some [0, 1, 2, 7, 8, 9, 10, 11, 12, 16]], []⟩ ⟨[], [], []⟩ (trs 4 []) (pp (fl v9 nn) (tt k2 (pp (pp (xI R2 (canV (cvT (ysV (cvT l1) (cvT l2))) (cvT v13)).length (rowsT (canV (cvT (ysV (cvT l1) (cvT l2))) (cvT v13)))) (pp (xr v10) (xw o2_0))) (tt k1 (pp (pp (xI Int (ysV (cvT l1) (cvT l2)).length (rowsT (ysV (cvT l1) (cvT l2)))) (pp (xr v13) (xw o1_0))) nn))))))) (fun k2 => (sl T2_ok 30 [] ⟨[0], [], [some [0, 1, 2, 7, 8, 9, 10, 11, 12, 15, 17]], []⟩ ⟨[], [], []⟩ (trs 3 [false]) (pp (fl v9 nn) (tt k2 (pp (pp (xI R2 (canV (cvT (ysV (cvT l1) (cvT l2))) (cvT v13)).length (rowsT (canV (cvT (ysV (cvT l1) (cvT l2))) (cvT v13)))) (pp (xr v10) (xw o2_0))) (tt k1 (pp (pp (xI Int (ysV (cvT l1) (cvT l2)).length (rowsT (ysV (cvT l1) (cvT l2)))) (pp (xr v13) (xw o1_0))) nn)))))))))) (fun k1 => (sl T2_ok 30 [] ⟨[0], [], [some [0, 1, 2, 7, 8, 9, 10, 11, 12, 15, 17]], []⟩ ⟨[], [], []⟩ [false, false, false, false] (pp (fl v9 nn) (tt k1 (pp (pp (xI Int (ysV (cvT l1) (cvT l2)).length (rowsT (ysV (cvT l1) (cvT l2)))) (pp (xr v13) (xw o1_0))) nn))))))))))
  | .h2 v9 v10 v11 v12 v15 v17 => (lead_bif (fun k0 => (lead_owe fun o0 => (lead_owe fun o1 => (lead_owe fun o2 => (lead_owe fun o3 => (sl T2_ok 20 [] ⟨[2], [], [some [0, 1, 2, 7, 8, 9, 10, 11, 12, 15, 17]], []⟩ ⟨[(9, .len (v9 ++ [(R4.mk (rd (xsV (cvT l1) (cvT l2)) (Int.toNat v12)) (rd v15 (Int.toNat v17)).a (rd (xsV (cvT l1) (cvT l2)) (Int.toNat (IntKind.wrap IntKind.i64 (v12 + 1)))) (rd v15 (Int.toNat v17)).b)]).length)], [.rowed 4 (v9 ++ [(R4.mk (rd (xsV (cvT l1) (cvT l2)) (Int.toNat v12)) (rd v15 (Int.toNat v17)).a (rd (xsV (cvT l1) (cvT l2)) (Int.toNat (IntKind.wrap IntKind.i64 (v12 + 1)))) (rd v15 (Int.toNat v17)).b)]).length (rowsT (v9 ++ [(R4.mk (rd (xsV (cvT l1) (cvT l2)) (Int.toNat v12)) (rd v15 (Int.toNat v17)).a (rd (xsV (cvT l1) (cvT l2)) (Int.toNat (IntKind.wrap IntKind.i64 (v12 + 1)))) (rd v15 (Int.toNat v17)).b)]))], []⟩ [true] (pp (xL (v9.length + 1) (v9 ++ [(R4.mk (rd (xsV (cvT l1) (cvT l2)) (Int.toNat v12)) (rd v15 (Int.toNat v17)).a (rd (xsV (cvT l1) (cvT l2)) (Int.toNat (IntKind.wrap IntKind.i64 (v12 + 1)))) (rd v15 (Int.toNat v17)).b)]).length) (pp (xL (v9.length + 1) (v9 ++ [(R4.mk (rd (xsV (cvT l1) (cvT l2)) (Int.toNat v12)) (rd v15 (Int.toNat v17)).a (rd (xsV (cvT l1) (cvT l2)) (Int.toNat (IntKind.wrap IntKind.i64 (v12 + 1)))) (rd v15 (Int.toNat v17)).b)]).length) (pp (xS (v9.length + 1) (appRow (rowsT v9) 0 v9.length 4 [(.int .i64 (rd (xsV (cvT l1) (cvT l2)) (Int.toNat v12))), (.int .i64 (rd v15 (Int.toNat v17)).a), (.int .i64 (rd (xsV (cvT l1) (cvT l2)) (Int.toNat (IntKind.wrap IntKind.i64 (v12 + 1))))), (.int .i64 (rd v15 (Int.toNat v17)).b)]) (rowsT (v9 ++ [(R4.mk (rd (xsV (cvT l1) (cvT l2)) (Int.toNat v12)) (rd v15 (Int.toNat v17)).a (rd (xsV (cvT l1) (cvT l2)) (Int.toNat (IntKind.wrap IntKind.i64 (v12 + 1)))) (rd v15 (Int.toNat v17)).b)]))) (pp (pp (xF (appRow (rowsT v9) 0 v9.length 4 [(.int .i64 (rd (xsV (cvT l1) (cvT l2)) (Int.toNat v12))), (.int .i64 (rd v15 (Int.toNat v17)).a), (.int .i64 (rd (xsV (cvT l1) (cvT l2)) (Int.toNat (IntKind.wrap IntKind.i64 (v12 + 1))))), (.int .i64 (rd v15 (Int.toNat v17)).b)])) nn) (ww o3 (ww o2 (ww o1 (ww o2 (ww o0 (tt k0 nn)))))))))))))))) (fun k0 => (sl T2_ok 17 [] ⟨[0], [], [some [0, 1, 2, 7, 8, 9, 10, 11, 12]], []⟩ ⟨[], [], []⟩ [false] (pp (fl v9 nn) (tt k0 nn)))))
  | .h3 v9 v10 v11 v12 v16 => (lead_bif (fun k0 => (lead_owe fun o0 => (lead_owe fun o1 => (lead_owe fun o2 => (sl T2_ok 31 [] ⟨[0], [], [some [0, 1, 2, 7, 8, 9, 10, 11, 12, 16]], []⟩ ⟨[(9, .len (v9.set (0 + (Int.toNat v16)) (R4.mk (rd v9 (0 + (Int.toNat v16))).a (rd v9 (0 + (Int.toNat v16))).b (rd (xsV (cvT l1) (cvT l2)) (Int.toNat (IntKind.wrap IntKind.i64 (v12 + 1)))) (rd v9 (0 + (Int.toNat v16))).d)).length)], [.rowed 4 (v9.set (0 + (Int.toNat v16)) (R4.mk (rd v9 (0 + (Int.toNat v16))).a (rd v9 (0 + (Int.toNat v16))).b (rd (xsV (cvT l1) (cvT l2)) (Int.toNat (IntKind.wrap IntKind.i64 (v12 + 1)))) (rd v9 (0 + (Int.toNat v16))).d)).length (rowsT (v9.set (0 + (Int.toNat v16)) (R4.mk (rd v9 (0 + (Int.toNat v16))).a (rd v9 (0 + (Int.toNat v16))).b (rd (xsV (cvT l1) (cvT l2)) (Int.toNat (IntKind.wrap IntKind.i64 (v12 + 1)))) (rd v9 (0 + (Int.toNat v16))).d)))], []⟩ [true] (pp (xL v9.length (v9.set (0 + (Int.toNat v16)) (R4.mk (rd v9 (0 + (Int.toNat v16))).a (rd v9 (0 + (Int.toNat v16))).b (rd (xsV (cvT l1) (cvT l2)) (Int.toNat (IntKind.wrap IntKind.i64 (v12 + 1)))) (rd v9 (0 + (Int.toNat v16))).d)).length) (pp (xL v9.length (v9.set (0 + (Int.toNat v16)) (R4.mk (rd v9 (0 + (Int.toNat v16))).a (rd v9 (0 + (Int.toNat v16))).b (rd (xsV (cvT l1) (cvT l2)) (Int.toNat (IntKind.wrap IntKind.i64 (v12 + 1)))) (rd v9 (0 + (Int.toNat v16))).d)).length) (pp (xS v9.length (updRow (rowsT v9) (0 + (Int.toNat v16)) 2 [(.int .i64 (rd (xsV (cvT l1) (cvT l2)) (Int.toNat (IntKind.wrap IntKind.i64 (v12 + 1)))))]) (rowsT (v9.set (0 + (Int.toNat v16)) (R4.mk (rd v9 (0 + (Int.toNat v16))).a (rd v9 (0 + (Int.toNat v16))).b (rd (xsV (cvT l1) (cvT l2)) (Int.toNat (IntKind.wrap IntKind.i64 (v12 + 1)))) (rd v9 (0 + (Int.toNat v16))).d)))) (pp (pp (xF (updRow (rowsT v9) (0 + (Int.toNat v16)) 2 [(.int .i64 (rd (xsV (cvT l1) (cvT l2)) (Int.toNat (IntKind.wrap IntKind.i64 (v12 + 1)))))])) nn) (ww o2 (ww o1 (ww o0 (tt k0 nn))))))))))))) (fun k0 => (sl T2_ok 17 [] ⟨[0], [], [some [0, 1, 2, 7, 8, 9, 10, 11, 12]], []⟩ ⟨[], [], []⟩ [false] (pp (fl v9 nn) (tt k0 nn)))))
theorem rjostart_ok (x0 : Int) (l1 : List R4) (l2 : List R4) : Lead Tryz.prog (resultsOf Tryz.prog 56) (rjoC x0 l1 l2) (startC Tryz.prog 56 [(.int .i64 x0), (.dat l1.length (rowsT l1)), (.dat l2.length (rowsT l2))] true []) (rjostart x0 l1 l2) := (lead_owe fun o0 => (lead_owe fun o1 => (sl T2_ok 34 [(106, 4, rowsT ([] : List R4))] ⟨[0], [], [some [0, 1, 2, 7, 8, 9, 10, 11, 12]], []⟩ ⟨[(9, .grow 0 4), (10, .list 0 (rowsT ([] : List R2)))], [], []⟩ [] (pp (fl ([] : List R4) nn) (pp (pp (xr l1) (pp (xr l2) (xw o1))) (pp (pp (xr l1) (pp (xr l2) (xw o0))) nn))))))
theorem rjo_ends (x0 : Int) (l1 : List R4) (l2 : List R4) (n : Nat) (vs : List AVal) (h : goOn (rjostep x0 l1 l2) n (rjostart x0 l1 l2) = .ret vs) : Ends Tryz.prog (resultsOf Tryz.prog 56) (startC Tryz.prog 56 [(.int .i64 x0), (.dat l1.length (rowsT l1)), (.dat l2.length (rowsT l2))] true []) vs := by
  have := goOn_lead (rjostep_ok x0 l1 l2) n _ (rjostart_ok x0 l1 l2)
  rwa [h] at this
end Go.Am
end
section
set_option linter.unusedVariables false
set_option linter.unusedSimpArgs false
namespace Go.Am
open Go.Proofs
set_option maxRecDepth 100000
set_option maxHeartbeats 4000000
set_option linter.unusedVariables false
set_option linter.unusedSimpArgs false
theorem foldl_insF_length : ∀ (l out : List Int), (l.foldl insF out).length ≤ out.length + l.length
  | [], out => Nat.le_refl _
  | x :: l, out => Nat.le_trans (foldl_insF_length l (insF out x)) (by have := insF_length out x; simp; omega)
theorem srtV_length (l : List Int) : (srtV l).length ≤ l.length := by
  have := foldl_insF_length l []
  simpa [srtV] using this
theorem canF_length (cuts : List Int) (ins : List Bool) : ∀ (k i : Nat) (out : List R2), (canF cuts ins k i out).length ≤ out.length + k
  | 0, _, out => Nat.le_refl _
  | k + 1, i, out => by
    unfold canF
    refine Nat.le_trans (canF_length cuts ins k (i + 1) _) ?_
    cases rd ins i
    · simp only [cond_false]; omega
    · simp only [cond_true]
      cases (decide (0 < out.length) && ((rd out (out.length - 1)).b == rd cuts i)) <;> simp <;> omega
theorem canV_length (cuts : List Int) (ins : List Bool) : (canV cuts ins).length ≤ cuts.length := by
  have := canF_length cuts ins (cuts.length - 1) 0 []
  unfold canV
  simp only [List.length_nil] at this
  omega
section
variable (kind : Int) (l m : List R4)
def colB (x : Int) (y : Int) : Bool := holdsV kind (has4V l x y) (has4V m x y)
def secF (x : Int) : List R2 := canV (ysV l m) ((ysV l m).map (colB kind l m x))
def ext4 (out : List R4) (first : Nat) (x : Int) : List R4 := out.take first ++ (out.drop first).map fun r => ⟨r.a, r.b, x, r.d⟩
def put4 (x x' : Int) (s : List R2) : List R4 := s.map fun p => ⟨x, p.a, x', p.b⟩
def jF : Nat → Nat → List R4 → List R2 → Nat → List R4
  | 0, _, out, _, _ => out
  | k + 1, i, out, last, first =>
    bif decide (0 < i) && same2V (secF kind l m (rd (xsV l m) i)) last then jF k (i + 1) (ext4 out first (rd (xsV l m) (i + 1))) last first
    else jF k (i + 1) (out ++ put4 (rd (xsV l m) i) (rd (xsV l m) (i + 1)) (secF kind l m (rd (xsV l m) i))) (secF kind l m (rd (xsV l m) i)) out.length
def joV : List R4 := jF kind l m ((xsV l m).length - 1) 0 [] [] 0
end
def joV_owed (_ : Int) (l m : List R4) : Bool := decide (l.length ≤ 10000 ∧ m.length ≤ 10000)
theorem xsV_length (l m : List R4) : (xsV l m).length ≤ 2 * l.length + 2 * m.length := by
  refine Nat.le_trans (srtV_length _) ?_
  rw [List.length_append, xEnds_length, xEnds_length]; omega
theorem ysV_length (l m : List R4) : (ysV l m).length ≤ 2 * l.length + 2 * m.length := by
  refine Nat.le_trans (srtV_length _) ?_
  rw [List.length_append, yEnds_length, yEnds_length]; omega
section
variable (kind : Int) (l m : List R4) (hl : l.length ≤ 10000) (hm : m.length ≤ 10000)
include hl hm
theorem rjo_h1 (out : List R4) (last : List R2) (first : Int) (i : Nat) (hi : i + 1 < (xsV l m).length) : ∀ (k j : Nat) (acc : List Bool), j + k = (ysV l m).length → acc.length = j →
    ∃ n, ∀ N, goOn (rjostep kind l m) (N + n) (.to (.h1 out last first (i : Int) acc (j : Int))) = goOn (rjostep kind l m) N (.to (.h1 out last first (i : Int) (acc ++ ((ysV l m).drop j).map (colB kind l m (rd (xsV l m) i))) ((ysV l m).length : Int)))
  | 0, j, acc, h, ha => by
    refine ⟨0, fun N => ?_⟩
    rw [List.drop_eq_nil_of_le (by omega), List.map_nil, List.append_nil, Nat.add_zero]
    rw [show j = (ysV l m).length by omega]
  | k + 1, j, acc, h, ha => by
    have hx := xsV_length l m
    have hy := ysV_length l m
    obtain ⟨n, hn⟩ := rjo_h1 out last first i hi k (j + 1) (acc ++ [colB kind l m (rd (xsV l m) i) (rd (ysV l m) j)]) (by omega) (by simp [ha])
    refine ⟨n + 1, fun N => ?_⟩
    have w1 : ∀ x y, has4V_owed l x y = true := fun x y => decide_eq_true (by omega)
    have w2 : ∀ x y, has4V_owed m x y = true := fun x y => decide_eq_true (by omega)
    rw [drop_rd (show j < (ysV l m).length by omega), List.map_cons, ← Nat.add_assoc, goOn_to]
    simp (disch := omega) only [rjostep, cvT_eq, lst_rows, w1, w2, dlt_t, din_t, nle_t, neq_t, room_t, wrap_t, cast_succ, beq11, toNat_c, Nat.zero_add, decide_true, Bool.and_true, Bool.true_and, cond_true]
    have := hn N
    rw [List.append_assoc] at this
    exact this
theorem rjo_h2 (last : List R2) (first : Int) (i : Nat) (hi : i + 1 < (xsV l m).length) (s : List R2) (hs : s.length ≤ 1000000) : ∀ (k j : Nat) (out : List R4), j + k = s.length → out.length ≤ 10000000000 + j →
    ∃ n, ∀ N, goOn (rjostep kind l m) (N + n) (.to (.h2 out last first (i : Int) s (j : Int))) = goOn (rjostep kind l m) N (.to (.h0 (out ++ put4 (rd (xsV l m) i) (rd (xsV l m) (i + 1)) (s.drop j)) last first ((i + 1 : Nat) : Int)))
  | 0, j, out, h, ho => by
    have hx := xsV_length l m
    refine ⟨1, fun N => ?_⟩
    rw [List.drop_eq_nil_of_le (by omega), goOn_to]
    simp (disch := omega) only [rjostep, cvT_eq, lst_rows, dlt_f, wrap_t, cast_succ, cond_false, put4, List.map_nil, List.append_nil]
  | k + 1, j, out, h, ho => by
    have hx := xsV_length l m
    obtain ⟨n, hn⟩ := rjo_h2 last first i hi s hs k (j + 1) (out ++ put4 (rd (xsV l m) i) (rd (xsV l m) (i + 1)) [rd s j]) (by omega) (by simp [put4]; omega)
    refine ⟨n + 1, fun N => ?_⟩
    have := hn N
    rw [drop_rd (show j < s.length by omega), ← Nat.add_assoc, goOn_to]
    simp (disch := omega) only [rjostep, cvT_eq, lst_rows, dlt_t, din_t, nle_t, neq_t, room_t, wrap_t, cast_succ, beq11, toNat_c, Nat.zero_add, decide_true, Bool.and_true, Bool.true_and, cond_true]
    rw [List.append_assoc] at this
    exact this
theorem ext4_set (out : List R4) (j : Nat) (x : Int) (h : j < out.length) : ext4 (out.set j ⟨(rd out j).a, (rd out j).b, x, (rd out j).d⟩) (j + 1) x = ext4 out j x := by
  have _uhl := hl
  have _uhm := hm
  unfold ext4
  rw [drop_rd h, List.map_cons]
  have e1 : (out.set j ⟨(rd out j).a, (rd out j).b, x, (rd out j).d⟩).take (j + 1) = out.take j ++ [⟨(rd out j).a, (rd out j).b, x, (rd out j).d⟩] := by
    apply List.ext_getElem
    · simp; omega
    · intro n h1 h2
      simp only [List.getElem_take, List.getElem_set]
      by_cases e : j = n
      · subst e
        rw [if_pos rfl, List.getElem_append_right (by simp only [List.length_take]; omega)]
        simp
      · rw [if_neg e, List.getElem_append_left (by simp at h1 ⊢; omega), List.getElem_take]
  have e2 : (out.set j ⟨(rd out j).a, (rd out j).b, x, (rd out j).d⟩).drop (j + 1) = out.drop (j + 1) := by
    rw [List.drop_set]; rw [if_pos (by omega)]
  rw [e1, e2, List.append_assoc]; rfl
theorem rjo_h3 (last : List R2) (first : Int) (i : Nat) (hi : i + 1 < (xsV l m).length) : ∀ (k j : Nat) (out : List R4), j + k = out.length → out.length ≤ 10000000000 →
    ∃ n, ∀ N, goOn (rjostep kind l m) (N + n) (.to (.h3 out last first (i : Int) (j : Int))) = goOn (rjostep kind l m) N (.to (.h0 (ext4 out j (rd (xsV l m) (i + 1))) last first ((i + 1 : Nat) : Int)))
  | 0, j, out, h, ho => by
    have hx := xsV_length l m
    refine ⟨1, fun N => ?_⟩
    have e : ext4 out j (rd (xsV l m) (i + 1)) = out := by
      unfold ext4; rw [List.drop_eq_nil_of_le (by omega), List.map_nil, List.append_nil, List.take_of_length_le (by omega)]
    rw [e, goOn_to]
    simp (disch := omega) only [rjostep, cvT_eq, lst_rows, dlt_f, wrap_t, cast_succ, cond_false]
  | k + 1, j, out, h, ho => by
    have hx := xsV_length l m
    obtain ⟨n, hn⟩ := rjo_h3 last first i hi k (j + 1) (out.set j ⟨(rd out j).a, (rd out j).b, rd (xsV l m) (i + 1), (rd out j).d⟩) (by simp; omega) (by simpa using ho)
    refine ⟨n + 1, fun N => ?_⟩
    have := hn N
    rw [ext4_set l m hl hm out j _ (by omega)] at this
    rw [← Nat.add_assoc, goOn_to]
    simp (disch := omega) only [rjostep, cvT_eq, lst_rows, dlt_t, din_t, nlt_t, nle_t, neq_t, room_t, wrap_t, cast_succ, beq11, toNat_c, Nat.zero_add, decide_true, Bool.and_true, Bool.true_and, cond_true]
    exact this
theorem rjo_h0 : ∀ (k i : Nat) (out : List R4) (last : List R2) (first : Nat), k = (xsV l m).length - 1 - i → i ≤ (xsV l m).length → out.length ≤ i * 40000 → last.length ≤ 40000 → first ≤ out.length →
    ∃ n, goOn (rjostep kind l m) n (.to (.h0 out last (first : Int) (i : Int))) = .ret [.dat (jF kind l m k i out last first).length (rowsT (jF kind l m k i out last first))]
  | 0, i, out, last, first, h, hi, ho, hla, hf => by
    have hx := xsV_length l m
    refine ⟨1, ?_⟩
    rw [goOn_to]
    simp (disch := omega) only [rjostep, cvT_eq, lst_rows, dlt_f, wrap_t, cast_succ, cond_false, goOn_ret, jF]
  | k + 1, i, out, last, first, h, hi, ho, hla, hf => by
    have hx := xsV_length l m
    have hy := ysV_length l m
    have hi1 : i + 1 < (xsV l m).length := by omega
    have hsl : (secF kind l m (rd (xsV l m) i)).length ≤ 40000 := Nat.le_trans (canV_length _ _) (by omega)
    have hbig : i * 40000 ≤ 40000 * 40000 := Nat.mul_le_mul_right _ (by omega)
    obtain ⟨n1, h1⟩ := rjo_h1 kind l m hl hm out last first i hi1 (ysV l m).length 0 [] (Nat.zero_add _) rfl
    simp only [List.drop_zero, List.nil_append, cast0] at h1
    have w3 : canV_owed (ysV l m) ((ysV l m).map (colB kind l m (rd (xsV l m) i))) = true := decide_eq_true ⟨by omega, by rw [List.length_map]; omega⟩
    have w4 : same2V_owed (canV (ysV l m) ((ysV l m).map (colB kind l m (rd (xsV l m) i)))) last = true := decide_eq_true (Nat.le_trans hsl (by omega))
    have hy2 : ((ysV l m).length : Int) = (((ysV l m).length : Nat) : Int) := rfl
    unfold jF
    rcases boolc (decide (0 < i) && same2V (secF kind l m (rd (xsV l m) i)) last) with q | q
    · obtain ⟨n3, h3⟩ := rjo_h3 kind l m hl hm last first i hi1 (out.length - first) first out (by omega) (by omega)
      obtain ⟨n0, h0⟩ := rjo_h0 k (i + 1) (ext4 out first (rd (xsV l m) (i + 1))) last first (by omega) (by omega) (by simp [ext4]; omega) hla (by simp [ext4]; omega)
      refine ⟨n0 + n3 + 1 + n1 + 1, ?_⟩
      rw [q, cond_true, goOn_to]
      simp only [Bool.and_eq_true, decide_eq_true_eq] at q
      have q2 : same2V (canV (ysV l m) ((ysV l m).map (colB kind l m (rd (xsV l m) i)))) last = true := q.2
      simp (disch := omega) only [rjostep, cvT_eq, lst_rows, dlt_t, wrap_t, cast_succ, cond_true]
      have h1' := h1 (n0 + n3 + 1)
      rw [h1', goOn_to]
      simp (disch := omega) only [rjostep, cvT_eq, lst_rows, dlt_f, dgt_t, q2, w3, w4, cond_true, cond_false]
      rw [h3 n0, h0]
    · obtain ⟨n2, h2⟩ := rjo_h2 kind l m hl hm (secF kind l m (rd (xsV l m) i)) (out.length : Int) i hi1 (secF kind l m (rd (xsV l m) i)) (by omega) (secF kind l m (rd (xsV l m) i)).length 0 out (Nat.zero_add _) (by omega)
      obtain ⟨n0, h0⟩ := rjo_h0 k (i + 1) (out ++ put4 (rd (xsV l m) i) (rd (xsV l m) (i + 1)) (secF kind l m (rd (xsV l m) i))) (secF kind l m (rd (xsV l m) i)) out.length (by omega) (by omega) (by simp [put4]; omega) hsl (by simp)
      refine ⟨n0 + n2 + 1 + n1 + 1, ?_⟩
      rw [q, cond_false, goOn_to]
      simp (disch := omega) only [rjostep, cvT_eq, lst_rows, dlt_t, wrap_t, cast_succ, cond_true]
      have h1' := h1 (n0 + n2 + 1)
      rw [h1', goOn_to]
      have h2' := h2 n0
      simp only [List.drop_zero, cast0] at h2'
      by_cases hi0 : 0 < i
      · rw [decide_eq_true hi0, Bool.true_and] at q
        have q2 : same2V (canV (ysV l m) ((ysV l m).map (colB kind l m (rd (xsV l m) i)))) last = false := q
        simp (disch := omega) only [rjostep, cvT_eq, lst_rows, dlt_f, dgt_t, q2, w3, w4, cond_true, cond_false]
        rw [← h0]; exact h2'
      · simp (disch := omega) only [rjostep, cvT_eq, lst_rows, dlt_f, dgt_f, w3, w4, cond_true, cond_false]
        rw [← h0]; exact h2'
end
theorem rjo_run (kind : Int) (l m : List R4) (h : joV_owed kind l m = true) : ∃ N, goOn (rjostep kind l m) N (rjostart kind l m) = .ret [.dat (joV kind l m).length (rowsT (joV kind l m))] := by
  obtain ⟨hl, hm⟩ := of_decide_eq_true h
  obtain ⟨N, hN⟩ := rjo_h0 kind l m hl hm ((xsV l m).length - 1) 0 [] [] 0 rfl (Nat.zero_le _) (Nat.zero_le _) (Nat.zero_le _) (Nat.le_refl _)
  refine ⟨N, ?_⟩
  have w1 : xsV_owed l m = true := decide_eq_true ⟨hl, hm⟩
  have w2 : ysV_owed l m = true := decide_eq_true ⟨hl, hm⟩
  simp only [rjostart, cvT_eq, lst_rows, w1, w2, cond_true]
  exact hN
end Go.Am
end
section
set_option linter.unusedVariables false
set_option linter.unusedSimpArgs false
namespace Go.Am
open Go.Proofs
set_option maxRecDepth 100000
set_option maxHeartbeats 4000000
set_option linter.unusedVariables false
set_option linter.unusedSimpArgs false
theorem fTwo {P : Program} {S : Specs} (hS : SpecsOk P S) {f : FuncId} {F : List AVal → Option (AVal × Bool)} (hf : (P.funcs[f]?).any (fun fn => fn.body.isSome) = true)
    (hF : ∀ args v, F args = some (v, true) → ∃ bs vs, All2 VLe args bs ∧ (∀ (ρ : Rho) (u : Value), VRel ρ (packed vs) u → VRel ρ v u) ∧ Ends P (resultsOf P f) (startC P f bs true []) vs ∧ ∃ d, pf d (packed vs) = true) : SpecsOk P (S.with f F) :=
  with_ends' hS hf fun args v h => by
    obtain ⟨bs, vs, h1, h2, h3, d, h4⟩ := hF args v h
    exact ⟨vs, h2, ends_args h1 h3, d, h4⟩
theorem tup_le {cs cs' : List AVal} (h : RLe cs cs') (ρ : Rho) (u : Value) (hv : VRel ρ (.tup cs) u) : VRel ρ (.tup cs') u := by
  cases hv with
  | tup _ vs hl hh => exact .tup cs' vs (by rw [← h.len]; exact hl) fun i h1 h2 => h.sound i (by rw [h.len]; exact h1) h1 (hh i (by rw [h.len]; exact h1) h2)
theorem nils_le (α : Type) [RowT α] : VLe .nils (.dat ([] : List α).length (rowsT ([] : List α))) := .nild _
noncomputable def fJo : List AVal → Option (AVal × Bool)
  | [.int .i64 x0, a1, a2] => match asL R4 a1, asL R4 a2 with
    | some (L1, g1, n1), some (L2, g2, n2) => some (.dat (joV x0 L1 L2).length (rowsT (joV x0 L1 L2)), isT R4 n1 g1 && (isT R4 n2 g2 && (joV_owed x0 L1 L2)))
    | _, _ => none
  | _ => none
theorem fJo_ok {S : Specs} (hS : SpecsOk Tryz.prog S) : SpecsOk Tryz.prog (S.with nJoin4 fJo) := by
  refine fOne hS (by kernel_rfl) fun args v h => ?_
  unfold fJo at h
  split at h
  · rename_i x0 a1 a2
    split at h
    · rename_i L1 g1 n1 L2 g2 n2 e1 e2
      simp only [Option.some.injEq, Prod.mk.injEq, Bool.and_eq_true] at h
      obtain ⟨rfl, ho1, ho2, hw⟩ := h
      obtain ⟨N, hN⟩ := rjo_run x0 L1 L2 hw
      exact ⟨_, _, (.cons (.refl _) (.cons (asL_le e1 ho1) (.cons (asL_le e2 ho2) .nil))), rfl, rjo_ends x0 L1 L2 N _ hN, 3, rfl⟩
    · cases h
  · cases h
noncomputable def T3 : Specs := T2.with nJoin4 fJo
theorem T3_ok : SpecsOk Tryz.prog T3 := fJo_ok T2_ok
end Go.Am
end
section
set_option linter.unusedVariables false
set_option linter.unusedSimpArgs false
namespace Go.Am
open Go.Proofs Go.Sort
set_option linter.unusedVariables false
set_option linter.unusedSimpArgs false
def bnd3 (r : R3) : Bool := decide (-1000000000 ≤ r.a ∧ r.a ≤ 1000000000)
def bndE (l : List R3) : Bool := l.all bnd3
abbrev E3 := { r : R3 // bnd3 r = true }
instance : Inhabited E3 := ⟨⟨⟨0, 0, 0⟩, rfl⟩⟩
def cf3 (x y : E3) : Int := x.1.a - y.1.a
def lt3 (x y : E3) : Bool := decide (cf3 x y < 0)
theorem swo3 : SWO lt3 where
  irrefl x := by unfold lt3 cf3; simp
  trans x y z h1 h2 := by unfold lt3 cf3 at *; simp at *; omega
  ntrans x y z h1 h2 := by unfold lt3 cf3 at *; simp at *; omega
def arrE : (l : List R3) → bndE l = true → List E3
  | [], _ => []
  | r :: l, h => ⟨r, by simp [bndE] at h; exact h.1⟩ :: arrE l (by simp [bndE] at h ⊢; exact h.2)
theorem arrE_val : ∀ (l : List R3) (h : bndE l = true), (arrE l h).map Subtype.val = l
  | [], _ => rfl
  | r :: l, h => by rw [arrE, List.map_cons, arrE_val l]
theorem arrE_length (l : List R3) (h : bndE l = true) : (arrE l h).length = l.length := by
  have := congrArg List.length (arrE_val l h)
  simpa using this
noncomputable def srtE (l : List R3) : List R3 := if h : bndE l = true then (pdq lt3 (arrE l h).toArray 0 l.length (Lib.bitLen l.length) true true).toList.map Subtype.val else l
theorem srtE_spec (l : List R3) (h : bndE l = true) : (srtE l).Perm l ∧ ∀ i j, i < j → j < (srtE l).length → (rd (srtE l) i).a ≤ (rd (srtE l) j).a := by
  have hp := pdq_sorts lt3 swo3 (arrE l h).toArray 0 l.length (Lib.bitLen l.length) true true (Nat.zero_le _) (by simp [arrE_length]) (Or.inl rfl)
  obtain ⟨⟨h1, h2, h3⟩, h4⟩ := hp
  have e : srtE l = (pdq lt3 (arrE l h).toArray 0 l.length (Lib.bitLen l.length) true true).toList.map Subtype.val := by unfold srtE; rw [dif_pos h]
  generalize pdq lt3 (arrE l h).toArray 0 l.length (Lib.bitLen l.length) true true = d at *
  have hs : d.size = l.length := by rw [h1]; simp [arrE_length]
  constructor
  · rw [e]
    have x1 : (d.extract 0 l.length).toList = d.toList := by rw [← hs]; simp
    have x2 : ((arrE l h).toArray.extract 0 l.length).toList = arrE l h := by
      rw [show l.length = (arrE l h).toArray.size by simp [arrE_length]]; simp
    rw [x1, x2] at h3
    have := h3.map Subtype.val
    rw [arrE_val] at this
    exact this
  · intro i j hij hj
    rw [e] at hj ⊢
    have hj' : j < d.size := by simpa using hj
    have := h4 i j (Nat.zero_le _) hij (by omega)
    rw [getElem!_pos d i (by omega), getElem!_pos d j hj'] at this
    rw [rd_lt (by simp; omega), rd_lt hj]
    simp only [List.getElem_map, Array.getElem_toList]
    unfold lt3 cf3 at this
    have := of_decide_eq_false this
    omega
end Go.Am
end
section
set_option linter.unusedVariables false
set_option linter.unusedSimpArgs false
namespace Go.Am
open Go.Sort Go.RowKit Go.Proofs Go.Shelf
set_option linter.unusedVariables false
set_option linter.unusedSimpArgs false
variable {P : Program} {ρ : Rho}
def valOf : AVal → Value
  | .int k n => .int k n
  | .bool b => .bool b
  | _ => .tuple #[]
def isNum : AVal → Bool
  | .int _ _ => true
  | .bool _ => true
  | _ => false
theorem valOf_rel {a : AVal} (h : isNum a = true) : VRel ρ a (valOf a) := by
  cases a <;> first
    | exact .int _ _
    | exact .bool _
    | (simp [isNum] at h; done)
theorem rel_valOf {a : AVal} {v : Value} (h : isNum a = true) (hv : VRel ρ a v) : v = valOf a := by
  cases hv <;> first
    | rfl
    | (simp [isNum] at h; done)
class RowN (α : Type) extends RowT α where
  num : ∀ a : α, (cells a).all isNum = true
instance : RowN R2 where num _ := rfl
instance : RowN R3 where num _ := rfl
instance : RowN R4 where num _ := rfl
instance : RowN R6 where num _ := rfl
instance {α : Type} [RowT α] : Inhabited α := ⟨RowT.d⟩
section
variable {α : Type} [RowN α]
def encT (a : α) : List Value := (RowT.cells a).map valOf
theorem encT_length (a : α) : (encT a).length = RowT.w α := by rw [encT, List.length_map, RowT.len]
theorem flat_get (L : List α) (t : Nat) (h : t < L.length * RowT.w α) : (flatK encT (RowT.w α) L.toArray)[t]? = (RowT.cells (rd L (t / RowT.w α)))[t % RowT.w α]?.map valOf := by
  have hw := RowT.pos (α := α)
  have hq : t / RowT.w α < L.length := Nat.div_lt_of_lt_mul (by rw [Nat.mul_comm]; exact h)
  have hj : t % RowT.w α < RowT.w α := Nat.mod_lt _ hw
  have hs : t < (flatK encT (RowT.w α) L.toArray).size := by rw [size_flatK]; exact h
  rw [Array.getElem?_eq_getElem hs, ← getElem!_pos (flatK encT (RowT.w α) L.toArray) t hs, get_flatK encT (RowT.w α) L.toArray t (by simpa using h)]
  have e1 : L.toArray[t / RowT.w α]! = rd L (t / RowT.w α) := by
    rw [rd_lt hq, getElem!_pos L.toArray _ (by simpa using hq)]; simp
  rw [e1]
  have hl : t % RowT.w α < (encT (rd L (t / RowT.w α))).length := by rw [encT_length]; exact hj
  have hl2 : t % RowT.w α < (RowT.cells (rd L (t / RowT.w α))).length := by rw [RowT.len]; exact hj
  rw [getElem!_pos (encT (rd L (t / RowT.w α))) _ hl, List.getElem?_eq_getElem hl2]
  simp [encT]
theorem rows_at (L : List α) (N t : Nat) (h : t < N * RowT.w α) : (rows N (rowsT L))[t]? = (RowT.cells (rd L (t / RowT.w α)))[t % RowT.w α]? := by
  have hw := RowT.pos (α := α)
  have := rows_get (get := rowsT L) (sz := RowT.w α) N (fun _ _ => RowT.len _) (t / RowT.w α) (t % RowT.w α) (Nat.div_lt_of_lt_mul (by rw [Nat.mul_comm]; exact h)) (Nat.mod_lt _ hw)
  rw [show t / RowT.w α * RowT.w α + t % RowT.w α = t by rw [Nat.mul_comm]; exact Nat.div_add_mod t _] at this
  exact this
theorem rows_lenT (L : List α) (N : Nat) : (rows N (rowsT L)).length = N * RowT.w α := rows_length N fun _ _ => RowT.len _
theorem heap_rowK (w : World) (n blk off : Nat) (d : Array Value) (os : Array Obj) (k : Nat) (hk : k < w.heap.size) :
    (grow (putRow id (Go.Sort.ahead w n) blk off d) os).heap[k]? = if k = blk then (w.heap[k]?).map (onCells (putCells id off d)) else w.heap[k]? := by
  show (((Go.Sort.ahead w n).heap.modify blk (onCells (putCells id off d))) ++ os)[k]? = _
  rw [Array.getElem?_append_left (by simp; exact hk), Array.getElem?_modify]
  show (if blk = k then _ else _) = _
  by_cases h : k = blk
  · rw [if_pos h.symm, if_pos h]; rfl
  · rw [if_neg (fun e => h e.symm), if_neg h]; rfl
noncomputable def fSortT (α : Type) [RowT α] (srt : List α → List α) (bnd : List α → Bool) (g : FuncId) (args : List AVal) (mem : Mem) : Option (AVal × Nat × ABlk × Bool) := match args with
  | [.sla b sz off n cap, .fn f []] => bif Nat.beq f g then match mget mem b with
    | some ⟨_, ty, some A⟩ => some (.tup [], b, ⟨rows A.n (rowsT (srt (lst α n A.get))), ty, some ⟨RowT.w α, A.n, rowsT (srt (lst α n A.get))⟩⟩,
        Nat.beq sz (RowT.w α) && (Nat.beq A.sz (RowT.w α) && (Nat.beq off 0 && ((decide (n = A.n) && (isT α n A.get && decide (n < 4611686018427387904))) && bnd (lst α n A.get)))))
    | _ => none
    else none
  | _ => none
theorem eff_sortT {f g : FuncId} {srt : List α → List α} {bnd : List α → Bool} (hsl : ∀ L, (srt L).length = L.length)
    (hC : ∀ (blk off cap : Nat) (L : List α) (w : World), bnd L = true → HoldsK encT (RowT.w α) w blk off L.toArray → blk < w.heap.size → L.length < 4611686018427387904 →
      Calls P f #[.slice (some ⟨blk, off, none⟩) L.length cap, .func (.func g) #[] #[]] w fun e w' => e = .returned (.tuple #[]) ∧ ∃ n os, w' = sortWorldK encT (RowT.w α) w blk off n (srt L).toArray os)
    (hN : ∀ (p : Option Addr) (cap : Nat) (fv : Value) (w : World), Calls P f #[.slice p 0 cap, fv] w fun e w' => e = .returned (.tuple #[]) ∧ w' = w) : EffOk P f (fSortT α srt bnd g) := by
  intro args mem v b blk h hsome ρ next floor vals w hfl hargs hrel
  have hw0 := RowT.pos (α := α)
  unfold fSortT at h
  split at h
  · rename_i b0 sz off n cap f0
    obtain ⟨hfg, h'⟩ := bif_inv0 h
    clear h
    obtain rfl := Nat.eq_of_beq_eq_true hfg
    have h := h'
    clear h'
    split at h
    · rename_i cells ty A hm
      obtain ⟨asz, an, get⟩ := A
      simp only [Option.some.injEq, Prod.mk.injEq, Bool.and_eq_true] at h
      obtain ⟨rfl, rfl, rfl, h1, h2, h3, ⟨h4, h5, h6⟩, h7⟩ := h
      have g1 := Nat.eq_of_beq_eq_true h1
      have g2 := Nat.eq_of_beq_eq_true h2
      have g3 := Nat.eq_of_beq_eq_true h3
      have g4 : n = an := of_decide_eq_true h4
      have h6 : n < 4611686018427387904 := of_decide_eq_true h6
      have g2 : asz = RowT.w α := g2
      subst g1
      subst g2
      subst g3
      subst g4
      have h7 : bnd (lst α n get.get) = true := h7
      have hget := isT_spec h5
      have hget : ∀ i, i < n → get.get i = rowsT (lst α n get.get) i := hget
      have hrows : rows n get.get = rows n (rowsT (lst α n get.get)) := rows_congr n hget
      obtain ⟨u, hu, hvals⟩ : ∃ u, VRel ρ (.sla b0 (RowT.w α) 0 n cap) u ∧ vals = #[u, .func (.func f0) #[] #[]] := by
        obtain ⟨vl⟩ := vals
        cases hargs with
        | cons q1 q2 => cases q2 with
          | cons q3 q4 =>
            cases q4
            cases q3 with
            | fn _ _ cvs hl _ =>
              have : cvs = #[] := Array.eq_empty_of_size_eq_zero (by simpa using hl.symm)
              subst this
              exact ⟨_, q1, rfl⟩
      subst hvals
      have hlt : b0 < next := by
        rcases Nat.lt_or_ge b0 next with q | q
        · exact q
        · have := hrel.bd b0 q; rw [hm] at this; cases this
      show Calls P f _ w _
      have hAget : (Arr.get ⟨RowT.w α, n, get⟩) = get.get := rfl
      rw [hAget] at *
      generalize hI : lst α n get.get = I at *
      have hIl : I.length = n := by rw [← hI]; exact lst_length _ _
      generalize hL : srt I = L
      have hLl : L.length = n := by rw [← hL, hsl, hIl]
      have hnn : ρ b0 = none → ∀ cs ty', mget mem b0 ≠ some ⟨cs, ty', none⟩ := fun _ cs ty' e => by rw [hm] at e; cases e
      cases hu with
      | sla _ _ _ _ _ l cc e hc hlen =>
        have hbk := hrel.blk b0 l _ e hm
        obtain ⟨har, _, _⟩ := hbk.arr _ rfl
        have har : cells = rows n get.get := har
        rw [hrows] at har
        subst har
        obtain ⟨cur, el, hh, hsz, hcells⟩ := hbk.cells
        simp only [rows_lenT] at hcells
        have htot := hbk.tot
        have hln := hbk.n
        simp only [rows_lenT] at hln
        have hcell : ∀ t, t < n * RowT.w α → cur[l.base + t]? = (RowT.cells (rd I (t / RowT.w α)))[t % RowT.w α]?.map valOf := fun t ht => by
          obtain ⟨v, e1, e2⟩ := hcells t ht
          have hj : t % RowT.w α < RowT.w α := Nat.mod_lt _ hw0
          have hl2 : t % RowT.w α < (RowT.cells (rd I (t / RowT.w α))).length := by rw [RowT.len]; exact hj
          have e3 := rows_at I n t ht
          rw [List.getElem?_eq_getElem (by rw [rows_lenT]; exact ht), List.getElem?_eq_getElem hl2] at e3
          rw [Option.some.inj e3] at e2
          rw [e1, List.getElem?_eq_getElem hl2, Option.map_some, rel_valOf (List.all_eq_true.1 (RowN.num _) _ (List.getElem_mem hl2)) e2]
        have hblk := hrel.real b0 l e
        have hH : HoldsK encT (RowT.w α) w l.blk (l.base + 0 * RowT.w α) I.toArray := fun j hj => by
          have hj : j < n * RowT.w α := by simpa [hIl] using hj
          have hs : j < (flatK encT (RowT.w α) I.toArray).size := by simpa [hIl] using hj
          have e1 := flat_get I j (by rw [hIl]; exact hj)
          rw [Array.getElem?_eq_getElem hs] at e1
          refine ⟨?_, ?_⟩
          · simp only [World.cell?, hh, Nat.zero_mul, Nat.add_zero, id]
            rw [hcell j hj, ← e1, getElem!_pos (flatK encT (RowT.w α) I.toArray) j hs]
            simp
          · simp [World.frozen?, hh]
        have hcall := hC l.blk (l.base + 0 * RowT.w α) cc I w h7 hH hblk (by omega)
        rw [hIl, hL] at hcall
        refine hcall.mono fun e' w' ⟨he, q, os, hw'⟩ => ⟨_, he, ?_, ?_, ?_⟩
        · exact .tup [] #[] rfl fun i h1 h2 => absurd h1 (Nat.not_lt_zero _)
        · subst hw'
          refine Rel.setArr ?_ ⟨RowT.w α, n, .flat (rowsT L)⟩ rfl hw0 fun _ _ => RowT.len _
          refine Rel.rewritten hrel e hm (by simp only [rows_lenT]) (fun k hk hne => ?_) ?_ ?_
          · exact (heap_rowK _ _ _ _ _ _ _ hk).trans (if_neg hne)
          · show _ ≤ (((Go.Sort.ahead w q).heap.modify _ _) ++ os).size
            simp only [Array.size_append, Array.size_modify]
            exact Nat.le_add_right _ _
          · refine ⟨putCells id (l.base + 0 * RowT.w α) (flatK encT (RowT.w α) L.toArray) cur, el, ?_, ?_, fun i hi => ?_⟩
            · refine (heap_rowK _ _ _ _ _ _ _ hblk).trans ?_
              rw [if_pos rfl, hh]; rfl
            · simp only [putCells, Array.size_mapIdx]; exact hsz
            · rw [rows_lenT] at hi
              have hj : i % RowT.w α < RowT.w α := Nat.mod_lt _ hw0
              have hl2 : i % RowT.w α < (RowT.cells (rd L (i / RowT.w α))).length := by rw [RowT.len]; exact hj
              have hl3 : i % RowT.w α < (RowT.cells (rd I (i / RowT.w α))).length := by rw [RowT.len]; exact hj
              have e1 := flat_get L i (by rw [hLl]; exact hi)
              rw [List.getElem?_eq_getElem hl2, Option.map_some] at e1
              have hs : i < (flatK encT (RowT.w α) L.toArray).size := by simpa [hLl] using hi
              rw [Array.getElem?_eq_getElem hs] at e1
              have e3 := rows_at L n i hi
              rw [List.getElem?_eq_getElem (by rw [rows_lenT]; exact hi), List.getElem?_eq_getElem hl2] at e3
              refine ⟨valOf (RowT.cells (rd L (i / RowT.w α)))[i % RowT.w α], ?_, ?_⟩
              · have hc0 := hcell i hi
                rw [List.getElem?_eq_getElem hl3, Option.map_some] at hc0
                simp only [putCells, Array.getElem?_mapIdx, hc0, Option.map_some, Nat.zero_mul, Nat.add_zero]
                rw [if_pos ⟨by omega, by omega⟩]
                congr 1
                rw [show l.base + i - l.base = i by omega, id, getElem!_pos (flatK encT (RowT.w α) L.toArray) i hs]
                exact Option.some.inj e1
              · rw [Option.some.inj e3]
                exact valOf_rel (List.all_eq_true.1 (RowN.num _) _ (List.getElem_mem hl2))
        · subst hw'
          refine Ev.rewritten hrel _ (fun l' _ => hfl) hnn (fun k hk hne => ?_) ?_ rfl rfl rfl
          · exact (heap_rowK _ _ _ _ _ _ _ hk).trans (if_neg (hne l e))
          · show _ ≤ (((Go.Sort.ahead w q).heap.modify _ _) ++ os).size
            simp only [Array.size_append, Array.size_modify]
            exact Nat.le_add_right _ _
      | slan =>
        have hI0 : I = [] := List.eq_nil_of_length_eq_zero hIl
        have hL0 : L = [] := List.eq_nil_of_length_eq_zero hLl
        refine (hN none 0 _ w).mono fun e' w' ⟨he, hw'⟩ => ⟨_, he, ?_, ?_, ?_⟩
        · exact .tup [] #[] rfl fun i h1 h2 => absurd h1 (Nat.not_lt_zero _)
        · subst hw'
          refine hrel.reblk hm fun l hρ hbk => ?_
          obtain ⟨har, har2, _⟩ := hbk.arr _ rfl
          have har : cells = rows 0 get.get := har
          subst har
          exact ⟨hbk.n, hbk.tot, fun B hB => by obtain rfl := Option.some.inj hB; exact ⟨rfl, hw0, fun i hi => absurd hi (Nat.not_lt_zero _)⟩, hbk.cells⟩
        · subst hw'
          exact Ev.rewritten hrel _ (fun l' _ => hfl) hnn (fun _ _ _ => rfl) (Nat.le_refl _) rfl rfl rfl
    · cases h
  · cases h
end
noncomputable def Specs.withE (S : Specs) (f : FuncId) (F : List AVal → Mem → Option (AVal × Nat × ABlk × Bool)) : Specs := fun g => bif Nat.beq g f then some (.eff F) else S g
theorem with_eff {P : Program} {S : Specs} (hS : SpecsOk P S) {f : FuncId} {F : List AVal → Mem → Option (AVal × Nat × ABlk × Bool)} (hf : (P.funcs[f]?).any (fun fn => fn.body.isSome) = true) (hF : EffOk P f F) : SpecsOk P (S.withE f F) := by
  intro g G hg
  unfold Specs.withE at hg
  cases hgf : Nat.beq g f with
  | false => rw [hgf] at hg; exact hS g G hg
  | true =>
    rw [hgf] at hg
    obtain rfl : Spec.eff F = G := Option.some.inj hg
    obtain rfl : g = f := Nat.eq_of_beq_eq_true hgf
    refine ⟨?_, hF⟩
    cases hfn : P.funcs[g]? with
    | none => rw [hfn] at hf; cases hf
    | some fn => rw [hfn] at hf; exact ⟨fn, rfl, hf⟩
end Go.Am
end
section
set_option linter.unusedVariables false
set_option linter.unusedSimpArgs false
namespace Go.Proofs
open Go.Shelf
def Tryz.lays189_ren : Go.Shelf.Ren := ⟨fun | 189 => 72 | 125 => 81 | 257 => 80 | 128 => 97 | 129 => 98 | 294 => 88 | 295 => 89 | 296 => 90 | 297 => 91 | 298 => 92 | 299 => 93 | 216 => 94 | 300 => 95 | 301 => 96 | 328 => 106 | 329 => 107 | 330 => 108 | 331 => 109 | 332 => 110 | 215 => 111 | 343 => 115 | n => n, fun | 28 => 41 | 3 => 3 | 46 => 138 | 0 => 0 | 51 => 162 | 53 => 164 | 4 => 4 | 183 => 154 | 182 => 153 | 131 => 159 | 5 => 5 | 9 => 9 | 218 => 171 | 222 => 175 | 228 => 184 | 229 => 185 | n => n, fun | n => n⟩
theorem Tryz.lays189 : Go.Proofs.Lays.n189 Tryz.prog Tryz.lays189_ren := {
  mixed := by kernel_rfl
  f125 := Tryz.func81.trans (congrArg some (by kernel_rfl))
  f128 := Tryz.func97.trans (congrArg some (by kernel_rfl))
  f129 := Tryz.func98.trans (congrArg some (by kernel_rfl))
  f189 := Tryz.func72.trans (congrArg some (by kernel_rfl))
  f215 := Tryz.func111.trans (congrArg some (by kernel_rfl))
  f216 := Tryz.func94.trans (congrArg some (by kernel_rfl))
  f257 := Tryz.func80.trans (congrArg some (by kernel_rfl))
  f294 := Tryz.func88.trans (congrArg some (by kernel_rfl))
  f295 := Tryz.func89.trans (congrArg some (by kernel_rfl))
  f296 := Tryz.func90.trans (congrArg some (by kernel_rfl))
  f297 := Tryz.func91.trans (congrArg some (by kernel_rfl))
  f298 := Tryz.func92.trans (congrArg some (by kernel_rfl))
  f299 := Tryz.func93.trans (congrArg some (by kernel_rfl))
  f300 := Tryz.func95.trans (congrArg some (by kernel_rfl))
  f301 := Tryz.func96.trans (congrArg some (by kernel_rfl))
  f328 := Tryz.func106.trans (congrArg some (by kernel_rfl))
  f329 := Tryz.func107.trans (congrArg some (by kernel_rfl))
  f330 := Tryz.func108.trans (congrArg some (by kernel_rfl))
  f331 := Tryz.func109.trans (congrArg some (by kernel_rfl))
  f332 := Tryz.func110.trans (congrArg some (by kernel_rfl))
  f343 := Tryz.func115.trans (congrArg some (by kernel_rfl))
  t0 := Tryz.underlying0
  a0 := Tryz.isAgg0
  z0 := Tryz.sizeOf0
  v0 := Tryz.zeroValue0
  t3 := Tryz.underlying3
  a3 := Tryz.isAgg3
  z3 := Tryz.sizeOf3
  v3 := Tryz.zeroValue3
  t4 := Tryz.underlying4
  a4 := Tryz.isAgg4
  z4 := Tryz.sizeOf4
  v4 := Tryz.zeroValue4
  t5 := Tryz.underlying5
  a5 := Tryz.isAgg5
  z5 := Tryz.sizeOf5
  v5 := Tryz.zeroValue5
  t9 := Tryz.underlying9
  a9 := Tryz.isAgg9
  z9 := Tryz.sizeOf9
  v9 := Tryz.zeroValue9
  t28 := Tryz.underlying41
  a28 := Tryz.isAgg41
  z28 := Tryz.sizeOf41
  v28 := Tryz.zeroValue41
  t46 := Tryz.underlying138
  a46 := Tryz.isAgg138
  z46 := Tryz.sizeOf138
  v46 := Tryz.zeroValue138
  t51 := Tryz.underlying162
  a51 := Tryz.isAgg162
  z51 := Tryz.sizeOf162
  v51 := Tryz.zeroValue162
  t53 := Tryz.underlying164
  a53 := Tryz.isAgg164
  z53 := Tryz.sizeOf164
  v53 := Tryz.zeroValue164
  t131 := Tryz.underlying159
  a131 := Tryz.isAgg159
  z131 := Tryz.sizeOf159
  v131 := Tryz.zeroValue159
  t182 := Tryz.underlying153
  a182 := Tryz.isAgg153
  z182 := Tryz.sizeOf153
  v182 := Tryz.zeroValue153
  t183 := Tryz.underlying154
  a183 := Tryz.isAgg154
  z183 := Tryz.sizeOf154
  v183 := Tryz.zeroValue154
  t218 := Tryz.underlying171
  a218 := Tryz.isAgg171
  z218 := Tryz.sizeOf171
  v218 := Tryz.zeroValue171
  t222 := Tryz.underlying175
  a222 := Tryz.isAgg175
  z222 := Tryz.sizeOf175
  v222 := Tryz.zeroValue175
  t228 := Tryz.underlying184
  a228 := Tryz.isAgg184
  z228 := Tryz.sizeOf184
  v228 := Tryz.zeroValue184
  t229 := Tryz.underlying185
  a229 := Tryz.isAgg185
  z229 := Tryz.sizeOf185
  v229 := Tryz.zeroValue185 }
open Go.Sort Go.RowKit in
theorem Tryz.slices_Sort_int (blk off cap : Nat) (zs : List Int) (w : World) (hH : Holds (Value.int .i64) w blk off zs.toArray) (hblk : blk < w.heap.size) (hsz : zs.length < 4611686018427387904) :
    Calls Tryz.prog 72 #[.slice (some ⟨blk, off, none⟩) zs.length cap] w fun e w' =>
      e = .returned (.tuple #[]) ∧ ∃ n os, w' = grow (putRow (Value.int .i64) (Sort.ahead w n) blk off (zs.mergeSort fun x y => decide (x ≤ y)).toArray) os := Any.slices_Sort_int Tryz.lays189 blk off cap zs w hH hblk hsz
def Tryz.laysNm220_ren : Go.Shelf.Ren := ⟨fun | 20 => 73 | n => n, fun | 22 => 41 | 3 => 3 | 4 => 4 | 0 => 0 | n => n, fun | n => n⟩
theorem Tryz.laysNm220 : Go.Proofs.Lays2.n20 Tryz.prog Tryz.laysNm220_ren := {
  mixed := by kernel_rfl
  f20 := Tryz.func73.trans (congrArg some (by kernel_rfl))
  t0 := Tryz.underlying0
  a0 := Tryz.isAgg0
  z0 := Tryz.sizeOf0
  v0 := Tryz.zeroValue0
  t3 := Tryz.underlying3
  a3 := Tryz.isAgg3
  z3 := Tryz.sizeOf3
  v3 := Tryz.zeroValue3
  t4 := Tryz.underlying4
  a4 := Tryz.isAgg4
  z4 := Tryz.sizeOf4
  v4 := Tryz.zeroValue4
  t22 := Tryz.underlying41
  a22 := Tryz.isAgg41
  z22 := Tryz.sizeOf41
  v22 := Tryz.zeroValue41
  i3 := by kernel_rfl }
open Go.RowKit Go.Lib Go.Sort in
theorem Tryz.slices_Compact_int (blk off cap : Nat) (zs : List Int) (w : World) (hH : Holds (Value.int .i64) w blk off zs.toArray) (hsz : zs.length ≤ 9223372036854775807) (hcap : zs.length ≤ cap) :
    Calls Tryz.prog 73 #[.slice (some ⟨blk, off, none⟩) zs.length cap] w fun e w' => e = .returned (.slice (some ⟨blk, off, none⟩) (Lib.compact zs).length cap) ∧ ∃ q, w' = putRow (Value.int .i64) (Sort.ahead w q) blk off (Lib.compact zs ++ List.replicate (zs.length - (Lib.compact zs).length) 0).toArray := Any.slices_Compact_int Tryz.laysNm220 blk off cap zs w hH hsz hcap
open Go.RowKit Go.Lib Go.Sort in
theorem Tryz.slices_Compact_int_empty (a : Option Addr) (cap : Nat) (w : World) :
    Calls Tryz.prog 73 #[.slice a 0 cap] w fun e w' => e = .returned (.slice a 0 cap) ∧ w' = w := Any.slices_Compact_int_empty Tryz.laysNm220 a cap w
open Go.RowKit Go.Sort in
theorem Tryz.slices_Sort_int_none (p : Option Addr) (cap : Nat) (w : World) :
    Calls Tryz.prog 72 #[.slice p 0 cap] w fun e w' => e = .returned (.tuple #[]) ∧ w' = w := Any.slices_Sort_int_none Tryz.lays189 p cap w
def Tryz.sortEnd_ren : Go.Shelf.Ren := ⟨fun | 6 => 116 | 15 => 81 | 14 => 119 | 28 => 97 | 29 => 98 | 20 => 121 | 21 => 122 | 22 => 123 | 23 => 124 | 24 => 125 | 25 => 126 | 26 => 127 | 27 => 128 | 46 => 129 | 47 => 107 | 48 => 108 | 49 => 130 | 50 => 131 | 57 => 132 | n => n, fun | 22 => 187 | 24 => 183 | 25 => 189 | 3 => 3 | 39 => 138 | 0 => 0 | 53 => 162 | 55 => 164 | 4 => 4 | 46 => 154 | 45 => 153 | 50 => 159 | 5 => 5 | 9 => 9 | 66 => 171 | 70 => 175 | 76 => 184 | 77 => 185 | n => n, fun | n => n⟩
theorem Tryz.sortEnd : Go.Proofs.SlLaysF0.n6 Tryz.prog Tryz.sortEnd_ren := {
  mixed := by kernel_rfl
  f6 := ⟨Tryz.f116.name, by decide, Tryz.func116.trans (congrArg some (by kernel_rfl))⟩
  f14 := ⟨Tryz.f119.name, by decide, Tryz.func119.trans (congrArg some (by kernel_rfl))⟩
  f15 := Tryz.func81.trans (congrArg some (by kernel_rfl))
  f20 := ⟨Tryz.f121.name, by decide, Tryz.func121.trans (congrArg some (by kernel_rfl))⟩
  f21 := ⟨Tryz.f122.name, by decide, Tryz.func122.trans (congrArg some (by kernel_rfl))⟩
  f22 := ⟨Tryz.f123.name, by decide, Tryz.func123.trans (congrArg some (by kernel_rfl))⟩
  f23 := ⟨Tryz.f124.name, by decide, Tryz.func124.trans (congrArg some (by kernel_rfl))⟩
  f24 := ⟨Tryz.f125.name, by decide, Tryz.func125.trans (congrArg some (by kernel_rfl))⟩
  f25 := ⟨Tryz.f126.name, by decide, Tryz.func126.trans (congrArg some (by kernel_rfl))⟩
  f26 := ⟨Tryz.f127.name, by decide, Tryz.func127.trans (congrArg some (by kernel_rfl))⟩
  f27 := ⟨Tryz.f128.name, by decide, Tryz.func128.trans (congrArg some (by kernel_rfl))⟩
  f28 := Tryz.func97.trans (congrArg some (by kernel_rfl))
  f29 := Tryz.func98.trans (congrArg some (by kernel_rfl))
  f46 := ⟨Tryz.f129.name, by decide, Tryz.func129.trans (congrArg some (by kernel_rfl))⟩
  f47 := Tryz.func107.trans (congrArg some (by kernel_rfl))
  f48 := Tryz.func108.trans (congrArg some (by kernel_rfl))
  f49 := ⟨Tryz.f130.name, by decide, Tryz.func130.trans (congrArg some (by kernel_rfl))⟩
  f50 := ⟨Tryz.f131.name, by decide, Tryz.func131.trans (congrArg some (by kernel_rfl))⟩
  f57 := ⟨Tryz.f132.name, by decide, Tryz.func132.trans (congrArg some (by kernel_rfl))⟩
  t0 := Tryz.underlying0
  a0 := Tryz.isAgg0
  z0 := Tryz.sizeOf0
  v0 := Tryz.zeroValue0
  t3 := Tryz.underlying3
  a3 := Tryz.isAgg3
  z3 := Tryz.sizeOf3
  v3 := Tryz.zeroValue3
  t4 := Tryz.underlying4
  a4 := Tryz.isAgg4
  z4 := Tryz.sizeOf4
  v4 := Tryz.zeroValue4
  t5 := Tryz.underlying5
  a5 := Tryz.isAgg5
  z5 := Tryz.sizeOf5
  v5 := Tryz.zeroValue5
  t9 := Tryz.underlying9
  a9 := Tryz.isAgg9
  z9 := Tryz.sizeOf9
  v9 := Tryz.zeroValue9
  t22 := Tryz.underlying187
  a22 := Tryz.isAgg187
  z22 := Tryz.sizeOf187
  v22 := Tryz.zeroValue187
  t25 := Tryz.underlying189
  a25 := Tryz.isAgg189
  z25 := Tryz.sizeOf189
  v25 := Tryz.zeroValue189
  t39 := Tryz.underlying138
  a39 := Tryz.isAgg138
  z39 := Tryz.sizeOf138
  v39 := Tryz.zeroValue138
  t45 := Tryz.underlying153
  a45 := Tryz.isAgg153
  z45 := Tryz.sizeOf153
  v45 := Tryz.zeroValue153
  t46 := Tryz.underlying154
  a46 := Tryz.isAgg154
  z46 := Tryz.sizeOf154
  v46 := Tryz.zeroValue154
  t50 := Tryz.underlying159
  a50 := Tryz.isAgg159
  z50 := Tryz.sizeOf159
  v50 := Tryz.zeroValue159
  t53 := Tryz.underlying162
  a53 := Tryz.isAgg162
  z53 := Tryz.sizeOf162
  v53 := Tryz.zeroValue162
  t55 := Tryz.underlying164
  a55 := Tryz.isAgg164
  z55 := Tryz.sizeOf164
  v55 := Tryz.zeroValue164
  t66 := Tryz.underlying171
  a66 := Tryz.isAgg171
  z66 := Tryz.sizeOf171
  v66 := Tryz.zeroValue171
  t70 := Tryz.underlying175
  a70 := Tryz.isAgg175
  z70 := Tryz.sizeOf175
  v70 := Tryz.zeroValue175
  t76 := Tryz.underlying184
  a76 := Tryz.isAgg184
  z76 := Tryz.sizeOf184
  v76 := Tryz.zeroValue184
  t77 := Tryz.underlying185
  a77 := Tryz.isAgg185
  z77 := Tryz.sizeOf185
  v77 := Tryz.zeroValue185 }
end Go.Proofs
end
section
set_option linter.unusedVariables false
set_option linter.unusedSimpArgs false
namespace Go.Proofs
open Go.Shelf Go.RowKit Go.Lib Go.Sort
set_option maxRecDepth 100000
set_option maxHeartbeats 4000000
theorem Tryz.cmpEnd (a b c a' b' c' : Int) (h : -1000000000 ≤ a ∧ a ≤ 1000000000) (h' : -1000000000 ≤ a' ∧ a' ≤ 1000000000) (W : World) :
    Calls Tryz.prog 117 #[.agg #[.int .i64 a, .int .i64 b, .int .i64 c], .agg #[.int .i64 a', .int .i64 b', .int .i64 c']] W fun e w' => e = .returned (.int .i64 (a - a')) ∧ ∃ q os', w' = grow (W.drewN q) os' := by
  go_enter Tryz.func117, Tryz.ntmps117
  go_wp2
  go_ret
  exact ⟨rfl, 0, _, by rw [alloc_eq_grow, alloc_eq_grow, grow_grow]; rfl⟩
end Go.Proofs
end
