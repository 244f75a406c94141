/- SnapLines always gives true (its steps). -/
import Derived.Test.YtdojgffcahimjaaSpS
import Derived.Test.YtdojgffcahimjaaSpQ
namespace Go.Am
open Go.Proofs Go.Lib
set_option maxRecDepth 100000
set_option maxHeartbeats 4000000
set_option linter.unusedVariables false
set_option linter.unusedSimpArgs false

section
variable (n0 : Nat) (c0 : Nat → Int) (n1 : Nat) (c1 : Nat → Int) (x2 x3 x4 : Int)

theorem lines_h0 (h : n0 ≤ 150) : linesstep n0 c0 n1 c1 x2 x3 x4 .h0 = .ret [.bool true] := by
  simp only [linesstep, catRow_zero, Nat.zero_add, iget_eta, isI_iget, flatG_iget, cOf_iget, sameV_owed, sameV_self, short_of (show n0 ≤ 1000 by omega), Nat.beq_refl, Nat.le_refl, decide_true, Bool.and_self, cond_true]

theorem lines_h1 (h : n0 ≤ 150) (vn : Nat) (hv : vn ≤ n0 + n1) (h1 : n1 ≤ 150) : ∀ (k i : Nat) (c d : Nat → Int), i + k = vn → goOn (linesstep n0 c0 n1 c1 x2 x3 x4) (k + 1) (.to (.h1 vn c (i : Int) d)) = .ret [.bool true]
  | 0, i, c, d, hi => by
    have k0 : decide ((i : Int) < (vn : Int)) = false := decide_eq_false (by omega)
    rw [goOn_to]
    simp only [linesstep, k0, cond_false, catRow_zero, Nat.zero_add, iget_eta, isI_iget, flatG_iget, cOf_iget, sameV_owed, sameV_self, short_of (show n0 ≤ 1000 by omega), Nat.beq_refl, Nat.le_refl, decide_true, Bool.and_self, cond_true]
    rfl
  | k + 1, i, c, d, hi => by
    have k0 : decide ((i : Int) < (vn : Int)) = true := decide_eq_true (by omega)
    have k1 : (decide (0 ≤ (i : Int) ∧ (i : Int) < (vn : Int)) && true) = true := by rw [Bool.and_true]; exact decide_eq_true (by omega)
    have k2 : decide (i < n0 + n1) = true := decide_eq_true (by omega)
    rw [goOn_to]
    simp only [linesstep, k0, k1, k2, cond_true, Nat.zero_add, Int.toNat_natCast]
    rw [w_nat (i := i) (by omega)]
    exact lines_h1 h vn hv h1 k (i + 1) _ _ (by omega)

theorem lines_run : ∃ N, goOn (linesstep n0 c0 n1 c1 x2 x3 x4) N (linesstart n0 c0 n1 c1 x2 x3 x4) = .ret [.bool true] := by
  by_cases ha : (n0 : Int) > 150
  · exact ⟨0, by simp only [linesstart, decide_eq_true ha, cond_true]; rfl⟩
  by_cases hb : (n1 : Int) > 150
  · exact ⟨0, by simp only [linesstart, decide_eq_false ha, decide_eq_true hb, cond_true, cond_false]; rfl⟩
  have room1 : decide ((n0 + 1) * (8 + 1) ≤ room) = true := decide_eq_true (by unfold room; omega)
  have same_n : ∀ c, sameV 0 c 0 c = true := fun c => sameV_self 0 c
  rcases bool_cases (chkV n0 c0 != 0) with h0 | h0
  · have hE : mergeE n0 c0 n1 c1 = chkV n0 c0 := by simp only [mergeE, h0, cond_true]
    have hL : mergeL n0 c0 n1 c1 = [] := by simp only [mergeL, hE, h0, cond_true]
    have s1 : sameV 0 (fun _ => 0) (rmV_0n n0 c0 n1 c1) (rmV_0c n0 c0 n1 c1) = true := sameV_of (by simp [rmV_0n, hL]) fun i hi => by omega
    have s2 : (chkV n0 c0 != rmV_1 n0 c0 n1 c1) = false := by simp [rmV_1, hE]
    refine ⟨1, ?_⟩
    simp only [linesstart, decide_eq_false ha, decide_eq_false hb, h0, s1, s2, sameV_self, Bool.not_true, cond_true, cond_false, Nat.zero_add, room1, sameV_owed, short_of (show 0 ≤ 1000 by omega), short_of (Nat.le_trans (gridN_le x2 x3 x4) (by omega : 100 ≤ 1000)), gdV_0n]
    rw [goOn_to, lines_h0 n0 c0 n1 c1 x2 x3 x4 (by omega)]; rfl
  rcases bool_cases (chkV n1 c1 != 0) with h1 | h1
  · have hE : mergeE n0 c0 n1 c1 = chkV n1 c1 := by simp only [mergeE, h0, h1, cond_true, cond_false]
    have hL : mergeL n0 c0 n1 c1 = [] := by simp only [mergeL, hE, h1, cond_true]
    have s1 : sameV 0 (fun _ => 0) (rmV_0n n0 c0 n1 c1) (rmV_0c n0 c0 n1 c1) = true := sameV_of (by simp [rmV_0n, hL]) fun i hi => by omega
    have s2 : (chkV n1 c1 != rmV_1 n0 c0 n1 c1) = false := by simp [rmV_1, hE]
    refine ⟨1, ?_⟩
    simp only [linesstart, decide_eq_false ha, decide_eq_false hb, h0, h1, s1, s2, sameV_self, Bool.not_true, cond_true, cond_false, Nat.zero_add, room1, sameV_owed, short_of (show 0 ≤ 1000 by omega), short_of (Nat.le_trans (gridN_le x2 x3 x4) (by omega : 100 ≤ 1000)), gdV_0n]
    rw [goOn_to, lines_h0 n0 c0 n1 c1 x2 x3 x4 (by omega)]; rfl
  have L0 := lines_of h0
  have L1 := lines_of h1
  have l0 := L0.len
  have l1 := L1.len
  have hM := merge_eq L0 L1
  have room2 : decide ((n0 + n1 + 1) * (8 + 1) ≤ room) = true := decide_eq_true (by unfold room; omega)
  have w0 : IntKind.wrap .i64 (n0 : Int) = n0 := w_in (by omega) (by omega)
  have w1 : IntKind.wrap .i64 ((n0 : Int) + (n1 : Int)) = (n0 : Int) + n1 := w_in (by omega) (by omega)
  have p0 : decide ((n0 : Int) < 0) = false := decide_eq_false (by omega)
  have p1 : decide ((n0 : Int) + (n1 : Int) < 0) = false := decide_eq_false (by omega)
  have p2 : ((n0 : Int) + (n1 : Int)).toNat = n0 + n1 := by omega
  have p3 : decide ((0 : Int) ≤ (n0 : Int) + (n1 : Int)) = true := decide_eq_true (by omega)
  have p4 : decide (n0 + n1 < 4611686018427387904) = true := decide_eq_true (by omega)
  have hlen : (mrgF n0 c0 n1 c1 (n0 + n1) 0 0).length ≤ n0 + n1 := by
    rw [← hM]
    have := compact_length_le (srtI (intsOf (n0 + n1) (catC c0 n0 c1)))
    rwa [srt_len, intsOf_len] at this
  have p5 : short (mrgF n0 c0 n1 c1 (n0 + n1) 0 0).length = true := short_of (by omega)
  have fits : ∀ q : Bool, (decide (0 ≤ n0 + n1) && (true && q)) = q := fun q => by rw [decide_eq_true (Nat.zero_le _)]; simp
  rcases bool_cases (decide (((mrgF n0 c0 n1 c1 (n0 + n1) 0 0).length : Int) > 100)) with h2 | h2
  · -- too many
    have hE : mergeE n0 c0 n1 c1 = 4 := by simp only [mergeE, h0, h1, h2, cond_true, cond_false]
    have hL : mergeL n0 c0 n1 c1 = [] := by simp only [mergeL, hE]; rfl
    have s1 : sameV 0 (fun _ => 0) (rmV_0n n0 c0 n1 c1) (rmV_0c n0 c0 n1 c1) = true := sameV_of (by simp [rmV_0n, hL]) fun i hi => by omega
    have s2 : ((4 : Int) != rmV_1 n0 c0 n1 c1) = false := by simp [rmV_1, hE]
    refine ⟨1, ?_⟩
    have hst : linesstart n0 c0 n1 c1 x2 x3 x4 = .to .h0 := by
      simp only [linesstart, decide_eq_false ha, decide_eq_false hb, h0, h1, cond_false, cond_true, Nat.zero_add, Nat.add_zero, Int.zero_add, Int.sub_zero, w0, w1, p0, p1, p2, p3, p4, catRow_zero, catRow_iget, iget_eta, cOf_iget, int_list_srt, cmpN, hM, h2, s1, s2, sameV_self, Bool.not_true, room1, room2, isI_iget, flatG_iget, sameV_owed, short_of (show 0 ≤ 1000 by omega), short_of (Nat.le_trans (gridN_le x2 x3 x4) (by omega : 100 ≤ 1000)), gdV_0n, Nat.beq_refl, Nat.le_refl, Nat.zero_le, decide_true, Bool.and_self, Bool.or_true, Bool.true_and]
      cases decide ((n0 : Int) + (n1 : Int) > 0) <;> rfl
    rw [hst, goOn_to, lines_h0 n0 c0 n1 c1 x2 x3 x4 (by omega)]; rfl
  · have hE : mergeE n0 c0 n1 c1 = 0 := by simp only [mergeE, h0, h1, h2, cond_false]
    have hL : mergeL n0 c0 n1 c1 = mrgF n0 c0 n1 c1 (n0 + n1) 0 0 := by simp only [mergeL, hE]; rfl
    have s1 : sameV (mrgF n0 c0 n1 c1 (n0 + n1) 0 0).length (listC (padI (srtI (intsOf (n0 + n1) (catC c0 n0 c1))))) (rmV_0n n0 c0 n1 c1) (rmV_0c n0 c0 n1 c1) = true := sameV_of (by simp only [rmV_0n, hL]) fun i hi => by
      simp only [rmV_0c, hL, padI, hM, listC, List.getD_eq_getElem?_getD, List.getElem?_append_left hi]
    have s2 : ((0 : Int) != rmV_1 n0 c0 n1 c1) = false := by simp [rmV_1, hE]
    have hst : linesstart n0 c0 n1 c1 x2 x3 x4 = .to (.h1 (mrgF n0 c0 n1 c1 (n0 + n1) 0 0).length (listC (padI (srtI (intsOf (n0 + n1) (catC c0 n0 c1))))) 0 (listC (padI (srtI (intsOf (n0 + n1) (catC c0 n0 c1)))))) := by
      simp only [linesstart, decide_eq_false ha, decide_eq_false hb, h0, h1, cond_false, cond_true, Nat.zero_add, Nat.add_zero, Int.zero_add, Int.sub_zero, w0, w1, p0, p1, p2, p3, p4, p5, catRow_zero, catRow_iget, iget_eta, cOf_iget, int_list_srt, cmpN, hM, h2, s1, s2, sameV_self, Bool.not_true, room1, room2, isI_iget, flatG_iget, sameV_owed, short_of (show 0 ≤ 1000 by omega), short_of (Nat.le_trans (gridN_le x2 x3 x4) (by omega : 100 ≤ 1000)), gdV_0n, Nat.beq_refl, Nat.le_refl, Nat.zero_le, decide_true, Bool.and_self, Bool.or_true, Bool.true_and, hlen, decide_eq_true hlen]
      cases decide ((n0 : Int) + (n1 : Int) > 0) <;> rfl
    refine ⟨(mrgF n0 c0 n1 c1 (n0 + n1) 0 0).length + 1, ?_⟩
    rw [hst]
    exact lines_h1 n0 c0 n1 c1 x2 x3 x4 (by omega) _ hlen (by omega) (mrgF n0 c0 n1 c1 (n0 + n1) 0 0).length 0 _ _ (by omega)
end
end Go.Am
