/- A part of a proof: several texts in one. -/
import Derived.Test.YtijpnpkolglajaaGreatKi3
set_option maxRecDepth 1000000
set_option maxHeartbeats 8000000
set_option linter.unusedVariables false
set_option linter.unusedSimpArgs false
noncomputable section
namespace Go.Am
open Go.Proofs.Tryz
open Go.Proofs Go.Sort Go.Shelf Go.RowKit Go.Lib
theorem w5r {i n : Nat} (h : i < n) : decide ((i : Int) < (n : Int)) = true := decide_eq_true (by omega)
theorem y9j {σ : Type} (step : σ → Wu σ) (a b : Nat) (s : Wu σ) : Yj step (a + b) s = Yj step a (Yj step b s) := by
 induction b generalizing s with
 | zero => cases s <;> simp [Yj]
 | succ b ih => cases s with
  | to s => exact ih (step s)
  | ret vs => simp only [Zp]
  | stuck => cases a <;> cases b <;> rfl
theorem x6u {i : Nat} : decide ((i : Int) ≥ 0) = true := decide_eq_true (by omega)
def y4n {α : Type} [Ys α] (out : List α) : List AVal := bif decide ((out.length : Int) > 400) then [.nils, .int .i64 4] else [.dat out.length (Zz out), .int .i64 0]
def v3g {α : Type} [Ys α] (e : Int) (L : List α) : List AVal := bif e != 0 then [.nils, .int .i64 e] else [.dat L.length (Zz L), .int .i64 0]
def errL {α : Type} (e : Int) (L : List α) : List α := bif e != 0 then [] else L
theorem w8p {α : Type} [Ys α] (e : Int) (L : List α) (ρ : Rho) (u : Value) (hu : Zi ρ (Qz (v3g e L)) u) : Zi ρ (.tup [.dat (errL e L).length (Zz (errL e L)), .int .i64 e]) u := by
 unfold v3g at hu
 unfold errL
 by_cases h : e = 0
 ·subst h; exact hu
 ·have h : (e != 0) = true := by simpa using h
  rw [h] at hu ⊢
  exact Kn (.cons (Um α) (RLe.refl _)) ρ u hu
theorem v7h {α : Type} [Ys α] (e : Int) (L : List α) : pf 3 (Qz (v3g e L)) = true := by
 unfold v3g
 cases (e != 0) <;> rfl
def capE (n : Nat) : Int := bif decide ((n : Int) > 400) then 4 else 0
theorem w6d {α : Type} [Ys α] (L : List α) : y4n L = v3g (capE L.length) L := by
 unfold y4n v3g capE
 cases decide ((L.length : Int) > 400) <;> rfl
theorem y3p : ∀ (L : List R3) (o last : Int) (inn : Bool) (out : List R2), (swF L o last inn out).length ≤ out.length + L.length
 | [], _, _, _, out => Nat.le_refl _
 | e :: r, o, last, inn, out => by
  rw [z8z]
  have := y3p r (o + e.c) e.a (decide (o + e.c > 0)) (z0f out last inn e.a)
  have := z6i out last inn e.a
  simp only [List.length_cons]; omega
theorem x0q (l : List R3) : (z4t l).length = l.length := by
 by_cases h : y7g l = true
 ·exact (z0m l h).1.length_eq
 ·unfold z4t; rw [dif_neg h]
theorem x0s (l : List R2) : (Wz l).length ≤ 800 := by
 unfold Wz
 by_cases h : 400 < l.length
 ·rw [decide_eq_true h]; exact Nat.zero_le _
 ·rw [decide_eq_false h]
  cases l.all y2t
  ·exact Nat.zero_le _
  ·show (swV l).length ≤ 800
   have h1 := y3p (z4t (Jk l)) 0 0 false []
   rw [x0q, z2n] at h1
   simp only [List.length_nil] at h1
   unfold swV; omega
def z8x (r : R4) : Bool := decide (r.a < r.c) && (decide (r.b < r.d) && (decide (r.a ≥ -1000000) && (decide (r.a ≤ 1000000) && (decide (r.c ≥ -1000000) && (decide (r.c ≤ 1000000) && (decide (r.b ≥ -1000000) && (decide (r.b ≤ 1000000) && (decide (r.d ≥ -1000000) && decide (r.d ≤ 1000000)))))))))
def D4 : Dim R4 R2 := ⟨R4.a, R4.c, fun r => ⟨r.b, r.d⟩, fun x x' s => ⟨x, s.a, x', s.b⟩, fun x r => ⟨r.a, r.b, x, r.d⟩, Wz, Qn⟩
theorem D4_sec (l : List R4) (x : Int) : (D4.sec l x).length ≤ 1000 := Nat.le_trans (x0s _) (by omega)
section
variable (l : List R4) (hl : l.length ≤ 400)
include hl
theorem v4m (i : Nat) (out : List R4) (last : List R2) (first fin x x' : Int) : ∀ (k j : Nat) (acc : List R2), j + k = l.length → acc.length ≤ j →
  ∃ n, ∀ N, Yj (Xc l) (N + n) (.to (.h2 (i : Int) (j : Int) out last first fin ((D4.cuts l).length) (Kp (Uw (D4.ends l))) x x' acc)) = Yj (Xc l) N (.to (.h2 (i : Int) (l.length : Int) out last first fin ((D4.cuts l).length) (Kp (Uw (D4.ends l))) x x' (acc ++ D4.inn (l.drop j) x)))
 | 0, j, acc, h, ha => by
  refine ⟨0, fun N => ?_⟩
  rw [List.drop_eq_nil_of_le (by omega), show D4.inn ([] : List R4) x = [] from rfl, List.append_nil, Nat.add_zero, show j = l.length by omega]
 | k + 1, j, acc, h, ha => by
  have hj : j < l.length := by omega
  obtain ⟨n, hn⟩ := v4m i out last first fin x x' k (j + 1) (acc ++ D4.inn [rd l j] x) (by omega) (by have := D4.inn_length [rd l j] x; simp only [List.length_append, List.length_singleton] at *; omega)
  refine ⟨n + 1, fun N => ?_⟩
  have e : D4.inn (l.drop j) x = D4.inn [rd l j] x ++ D4.inn (l.drop (j + 1)) x := by
   rw [Yi hj, ← D4.inn_append]; rfl
  rw [e, ← Nat.add_assoc, Zv, ← List.append_assoc, ← hn N]
  by_cases h1 : D4.lo (rd l j) ≤ x
  ·by_cases h2 : x < D4.hi (rd l j)
   ·rw [D4.inn_t _ _ h1 h2]
    simp only [D4] at h1 h2 ⊢
    simp (disch := omega) only [Xc, Xe, Zg, Zm, Zt, Yy, Ye, Ym, Yg, Zr, Zj, Zw, Ya, Zk, Nat.zero_add, decide_true, Bool.and_true, Bool.true_and, cond_true, cond_false]
   ·rw [D4.inn_f2 _ _ h2, List.append_nil]
    simp only [D4] at h1 h2
    simp (disch := omega) only [Xc, Xe, Zo, Zg, Zm, Zt, Yy, Ye, Ym, Yg, Zr, Zj, Zw, Ya, Zk, Nat.zero_add, decide_true, Bool.and_true, Bool.true_and, cond_true, cond_false]
  ·rw [D4.inn_f1 _ _ h1, List.append_nil]
   simp only [D4] at h1
   simp (disch := omega) only [Xc, u0q, Zg, Zm, Zt, Yy, Ye, Ym, Yg, Zr, Zj, Zw, Ya, Zk, Nat.zero_add, decide_true, Bool.and_true, Bool.true_and, cond_true, cond_false]
theorem v4l (i : Nat) (hi : i ≤ 1000) (x x' : Int) (s last : List R2) (first : Int) (inn : List R2) (hs : s.length ≤ 1000) : ∀ (k j : Nat) (out : List R4), j + k = s.length → out.length ≤ 10000000 + j →
  ∃ n, ∀ N, Yj (Xc l) (N + n) (.to (.h3 x x' s (s.length : Int) (j : Int) s (i : Int) out last first ((D4.cuts l).length) (Kp (Uw (D4.ends l))) inn)) = Yj (Xc l) N (.to (.h1 ((i + 1 : Nat) : Int) (out ++ (s.drop j).map (D4.put x x')) last first x' ((D4.cuts l).length) (Kp (Uw (D4.ends l)))))
 | 0, j, out, h, ho => by
  have _u := hl
  refine ⟨1, fun N => ?_⟩
  rw [List.drop_eq_nil_of_le (by omega), Zv]
  simp (disch := omega) only [Xc, Zo, Zj, Zw, cond_false, List.map_nil, List.append_nil]
 | k + 1, j, out, h, ho => by
  obtain ⟨n, hn⟩ := v4l i hi x x' s last first inn hs k (j + 1) (out ++ [D4.put x x' (rd s j)]) (by omega) (by simp; omega)
  refine ⟨n + 1, fun N => ?_⟩
  have := hn N
  rw [Yi (show j < s.length by omega), List.map_cons, ← Nat.add_assoc, Zv]
  simp (disch := omega) only [Xc, Zg, Zm, Zt, Yy, Ye, Ym, Yg, Zr, Zj, Zw, Ya, Zk, Nat.zero_add, decide_true, Bool.and_true, Bool.true_and, cond_true, cond_false]
  rw [List.append_assoc] at this
  exact this
theorem v4k (i : Nat) (hi : i ≤ 1000) (x x' fin : Int) (s last : List R2) (first : Int) (inn : List R2) : ∀ (k j : Nat) (out : List R4), j + k = out.length → out.length ≤ 10000000 →
  ∃ n, ∀ N, Yj (Xc l) (N + n) (.to (.h4 x' (j : Int) x s (i : Int) out last first fin ((D4.cuts l).length) (Kp (Uw (D4.ends l))) inn)) = Yj (Xc l) N (.to (.h1 ((i + 1 : Nat) : Int) (D4.grow out j x') last first x' ((D4.cuts l).length) (Kp (Uw (D4.ends l)))))
 | 0, j, out, h, ho => by
  have _u := hl
  refine ⟨1, fun N => ?_⟩
  rw [D4.grow_nil _ _ _ (by omega), Zv]
  simp (disch := omega) only [Xc, Zo, Zj, Zw, cond_false]
 | k + 1, j, out, h, ho => by
  obtain ⟨n, hn⟩ := v4k i hi x x' fin s last first inn k (j + 1) (out.set j (D4.ext x' (rd out j))) (by simp; omega) (by simpa using ho)
  refine ⟨n + 1, fun N => ?_⟩
  have := hn N
  rw [D4.grow_set out j _ (by omega)] at this
  rw [← Nat.add_assoc, Zv]
  simp (disch := omega) only [Xc, Zg, Zm, Zt, Yy, Ye, Ym, Yg, Zr, Zj, Zw, Ya, Zk, Nat.zero_add, decide_true, Bool.and_true, Bool.true_and, cond_true, cond_false]
  exact this
theorem w4l : ∀ (k i : Nat) (s : Sw R4 R2), k = (D4.cuts l).length - 1 - i → i ≤ (D4.cuts l).length → s.out.length ≤ i * 1000 → s.last.length ≤ 1000 → s.first ≤ s.out.length →
  ∃ n, Yj (Xc l) n (.to (.h1 ((i + 1 : Nat) : Int) s.out s.last (s.first : Int) s.fin ((D4.cuts l).length) (Kp (Uw (D4.ends l))))) = .ret (y4n (D4.go l k i s).out)
 | 0, i, s, h, hi, ho, hla, hf => by
  have hc := D4.cuts_length l
  refine ⟨1, ?_⟩
  rw [Zv, show D4.go l 0 i s = s from rfl]
  unfold y4n
  by_cases q : (s.out.length : Int) > 400
  ·simp (disch := omega) only [Xc, Zo, Yf, cond_true, cond_false, Zp]
  ·simp (disch := omega) only [Xc, Zo, Xx, cond_true, cond_false, Zp]
 | k + 1, i, s, h, hi, ho, hla, hf => by
  have hc := D4.cuts_length l
  have hi1 : i + 1 < (D4.cuts l).length := by omega
  have hpl : (Kp (Uw (D4.ends l))).length = 2 * l.length := by rw [z4e, z1b, D4.ends_length]
  have r0 : rd (Kp (Uw (D4.ends l))) i = rd (D4.cuts l) i := x5k _ _ (by show i < (D4.cuts l).length; omega)
  have r1 : rd (Kp (Uw (D4.ends l))) (i + 1) = rd (D4.cuts l) (i + 1) := x5k _ _ (by show i + 1 < (D4.cuts l).length; omega)
  have hbig : i * 1000 ≤ 1000 * 1000 := Nat.mul_le_mul_right _ (by omega)
  have hsl := D4_sec l (rd (D4.cuts l) i)
  have hsd : D4.sec l (rd (D4.cuts l) i) = Wz (D4.inn l (rd (D4.cuts l) i)) := rfl
  obtain ⟨n3, h3⟩ := v4m l hl (i + 1) s.out s.last (s.first : Int) s.fin (rd (D4.cuts l) i) (rd (D4.cuts l) (i + 1)) l.length 0 [] (Nat.zero_add _) (Nat.le_refl _)
  simp only [List.drop_zero, List.nil_append, y3e] at h3
  have w1 : y0g (D4.inn l (rd (D4.cuts l) i)) = true := rfl
  have w2 : Uk s.last (Wz (D4.inn l (rd (D4.cuts l) i))) = true := decide_eq_true (by omega)
  have ol := D4.one_length l (rd (D4.cuts l) i) (rd (D4.cuts l) (i + 1)) s
  have st0 : ∀ N, Yj (Xc l) (N + n3 + 1) (.to (.h1 ((i + 1 : Nat) : Int) s.out s.last (s.first : Int) s.fin ((D4.cuts l).length) (Kp (Uw (D4.ends l))))) = Yj (Xc l) N (.to (.h2 ((i + 1 : Nat) : Int) (l.length : Int) s.out s.last (s.first : Int) s.fin ((D4.cuts l).length) (Kp (Uw (D4.ends l))) (rd (D4.cuts l) i) (rd (D4.cuts l) (i + 1)) (D4.inn l (rd (D4.cuts l) i)))) := fun N => by
   rw [← h3 N, Zv]
   have e1 : IntKind.wrap .i64 (((i + 1 : Nat) : Int) - 1) = (i : Int) := by rw [Zh]; exact Zj (by omega)
   simp (disch := omega) only [Xc, e1, r0, r1, Zg, Zm, Zt, Yy, Ye, Ym, Yg, Zr, Zj, Zw, Ya, Zk, Nat.zero_add, decide_true, Bool.and_true, Bool.true_and, cond_true, cond_false]
  rcases Yr (decide (0 < (D4.sec l (rd (D4.cuts l) i)).length) && ((s.fin == rd (D4.cuts l) i) && D4.same s.last (D4.sec l (rd (D4.cuts l) i)))) with q | q
  ·obtain ⟨n5, h5⟩ := v4k l hl (i + 1) (by omega) (rd (D4.cuts l) i) (rd (D4.cuts l) (i + 1)) s.fin (D4.sec l (rd (D4.cuts l) i)) s.last (s.first : Int) (D4.inn l (rd (D4.cuts l) i)) (s.out.length - s.first) s.first s.out (by omega) (by omega)
   have e : D4.one l (rd (D4.cuts l) i) (rd (D4.cuts l) (i + 1)) s = ⟨D4.grow s.out s.first (rd (D4.cuts l) (i + 1)), s.last, s.first, rd (D4.cuts l) (i + 1)⟩ := by unfold Dim.one; rw [q]; rfl
   obtain ⟨n0, h0⟩ := w4l k (i + 1) (D4.one l (rd (D4.cuts l) i) (rd (D4.cuts l) (i + 1)) s) (by omega) (by omega) (by omega) (by rw [e]; exact hla) (by rw [e]; simpa [Dim.grow_length] using hf)
   refine ⟨n0 + n5 + 1 + n3 + 1, ?_⟩
   rw [st0 (n0 + n5 + 1), Zv]
   simp only [Bool.and_eq_true, decide_eq_true_eq] at q
   obtain ⟨q1, q2, q3⟩ := q
   have q3' : Qn s.last (Wz (D4.inn l (rd (D4.cuts l) i))) = true := q3
   rw [hsd] at q1
   simp (disch := omega) only [Xc, Zg, Zm, Zo, Yf, q2, q3', w1, w2, cond_true, cond_false]
   rw [← hsd, h5 n0]
   simp only [Dim.go]
   rw [e] at h0 ⊢
   exact h0
  ·obtain ⟨n4, h4⟩ := v4l l hl (i + 1) (by omega) (rd (D4.cuts l) i) (rd (D4.cuts l) (i + 1)) (D4.sec l (rd (D4.cuts l) i)) (D4.sec l (rd (D4.cuts l) i)) (s.out.length : Int) (D4.inn l (rd (D4.cuts l) i)) hsl (D4.sec l (rd (D4.cuts l) i)).length 0 s.out (Nat.zero_add _) (by omega)
   simp only [List.drop_zero, y3e] at h4
   have e : D4.one l (rd (D4.cuts l) i) (rd (D4.cuts l) (i + 1)) s = ⟨s.out ++ (D4.sec l (rd (D4.cuts l) i)).map (D4.put (rd (D4.cuts l) i) (rd (D4.cuts l) (i + 1))), D4.sec l (rd (D4.cuts l) i), s.out.length, rd (D4.cuts l) (i + 1)⟩ := by unfold Dim.one; rw [q]; rfl
   obtain ⟨n0, h0⟩ := w4l k (i + 1) (D4.one l (rd (D4.cuts l) i) (rd (D4.cuts l) (i + 1)) s) (by omega) (by omega) (by omega) (by rw [e]; exact hsl) (by rw [e]; simp)
   have hg : Yj (Xc l) 1 (.to (.h2 ((i + 1 : Nat) : Int) (l.length : Int) s.out s.last (s.first : Int) s.fin ((D4.cuts l).length) (Kp (Uw (D4.ends l))) (rd (D4.cuts l) i) (rd (D4.cuts l) (i + 1)) (D4.inn l (rd (D4.cuts l) i)))) = .to (.h3 (rd (D4.cuts l) i) (rd (D4.cuts l) (i + 1)) (D4.sec l (rd (D4.cuts l) i)) ((D4.sec l (rd (D4.cuts l) i)).length : Int) 0 (D4.sec l (rd (D4.cuts l) i)) ((i + 1 : Nat) : Int) s.out (D4.sec l (rd (D4.cuts l) i)) (s.out.length : Int) ((D4.cuts l).length) (Kp (Uw (D4.ends l))) (D4.inn l (rd (D4.cuts l) i))) := by
    rw [show (1 : Nat) = 0 + 1 from rfl, Zv]
    rw [hsd] at q ⊢
    have e3 : D4.same s.last (Wz (D4.inn l (rd (D4.cuts l) i))) = Qn s.last (Wz (D4.inn l (rd (D4.cuts l) i))) := rfl
    rw [e3] at q
    by_cases q1 : 0 < (Wz (D4.inn l (rd (D4.cuts l) i))).length
    ·rw [decide_eq_true q1, Bool.true_and] at q
     rcases Yr (s.fin == rd (D4.cuts l) i) with q2 | q2
     ·rw [q2, Bool.true_and] at q
      simp (disch := omega) only [Xc, Zg, Zm, Zo, Yf, q2, q, w1, w2, cond_true, cond_false]
      rfl
     ·simp (disch := omega) only [Xc, Zg, Zm, Zo, Yf, q2, w1, w2, cond_true, cond_false]
      rfl
    ·simp (disch := omega) only [Xc, Zg, Zm, Zo, Xx, w1, w2, cond_true, cond_false]
     rfl
   refine ⟨n0 + n4 + 1 + n3 + 1, ?_⟩
   rw [st0 (n0 + n4 + 1), y9j _ (n0 + n4) 1, hg, h4 n0]
   simp only [Dim.go]
   rw [e] at h0 ⊢
   exact h0
theorem v4n : ∀ (k i : Nat) (acc : List Int), i + k = l.length → acc = D4.ends (l.take i) → ∃ n, Yj (Xc l) n (.to (.h0 (i : Int) acc)) = .ret (y4n (D4.go l ((D4.cuts l).length - 1) 0 ⟨[], [], 0, 0⟩).out)
 | 0, i, acc, h, ha => by
  have e : acc = D4.ends l := by rw [ha, List.take_of_length_le (by omega)]
  subst e
  have hle := D4.ends_length l
  obtain ⟨n, hn⟩ := w4l l hl ((D4.cuts l).length - 1) 0 ⟨[], [], 0, 0⟩ (by omega) (Nat.zero_le _) (Nat.zero_le _) (Nat.zero_le _) (Nat.zero_le _)
  refine ⟨n + 1, ?_⟩
  rw [Zv]
  simp (disch := omega) only [Xc, z4i, y4c, w5z, Zo, Ym, Yg, decide_true, cond_true, cond_false]
  exact hn
 | k + 1, i, acc, h, ha => by
  have hle := D4.ends_length (l.take i)
  have fN : acc.length ≤ 2 * i := by rw [ha, hle]; simp; omega
  obtain ⟨n, hn⟩ := v4n k (i + 1) (acc ++ D4.ends [rd l i]) (by omega) (by
   rw [ha, List.take_add_one]
   have : l[i]? = some (rd l i) := by rw [Xi (show i < l.length by omega)]; exact List.getElem?_eq_getElem _
   rw [this, D4.ends_append]; rfl)
  refine ⟨n + 1, ?_⟩
  rw [Zv]
  simp (disch := omega) only [Xc, Zg, Zm, Zt, Yy, Ye, Ym, Yg, Zr, Zj, Zw, Ya, Zk, Nat.zero_add, decide_true, Bool.and_true, Bool.true_and, cond_true, cond_false]
  exact hn
end
def madE (l : List R4) : Int := capE (D4.out l).length
def Kx (l : List R4) : List R4 := errL (madE l) (D4.out l)
def z5q (l : List R4) : Int := madE l
def z2h (l : List R4) : Bool := decide (l.length ≤ 400)
theorem v8c (l : List R4) (h : z2h l = true) : ∃ n, Yj (Xc l) n (y5s l) = .ret (v3g (madE l) (D4.out l)) := by
 rw [show v3g (madE l) (D4.out l) = y4n (D4.out l) from (w6d _).symm]
 exact v4n l (of_decide_eq_true h) l.length 0 [] (Nat.zero_add _) rfl
def vl4V (a b c d : Int) : Bool := z8x ⟨a, b, c, d⟩
theorem v6a (a b c d : Int) : ∃ N, Yj (x0j a b c d) N (z8w a b c d) = .ret [.bool (vl4V a b c d)] := ⟨0, by
 unfold z8w vl4V z8x
 simp only [x4g]
 cases decide (a < c) <;> cases decide (b < d) <;> cases decide (a ≥ -1000000) <;> cases decide (a ≤ 1000000) <;> cases decide (c ≥ -1000000) <;> cases decide (c ≤ 1000000) <;> cases decide (b ≥ -1000000) <;> cases decide (b ≤ 1000000) <;> cases decide (d ≥ -1000000) <;> rfl⟩
def fVl4 : List AVal → Option (AVal × Bool)
 | [.agg [.int .i64 bB, .int .i64 bC, .int .i64 bD, .int .i64 aX]] => some (.bool (vl4V bB bC bD aX), true)
 | _ => none
theorem v9h {S : Specs} (hS : Zu prog S) : Zu prog (S.with x5x fVl4) := by
 refine z2m hS (by kernel_rfl) fun args v h => ?_
 unfold fVl4 at h
 split at h
 ·rename_i bB bC bD aX
  simp only [Option.some.injEq, Prod.mk.injEq, and_true] at h
  subst h
  obtain ⟨N, hN⟩ := v6a bB bC bD aX
  exact ⟨_, _, (.cons (.refl _) .nil), rfl, w7i bB bC bD aX N _ hN, 3, rfl⟩
 ·cases h
def fMad : List AVal → Option (AVal × Bool)
 | [a0] => match asL R4 a0 with
  | some (L0, g0, n0) => some (.tup [.dat (Kx L0).length (Zz (Kx L0)), .int .i64 (z5q L0)], isT R4 n0 g0 && (z2h L0))
  | _ => none
 | _ => none
theorem v9s {S : Specs} (hS : Zu prog S) : Zu prog (S.with w4e fMad) := by
 refine fTwo hS (by kernel_rfl) fun args v h => ?_
 unfold fMad at h
 split at h
 ·rename_i a0
  split at h
  ·rename_i L0 g0 n0 e0
   simp only [Option.some.injEq, Prod.mk.injEq, Bool.and_eq_true] at h
   obtain ⟨rfl, ho0, hw⟩ := h
   obtain ⟨N, hN⟩ := v8c L0 hw
   exact ⟨_, _, (.cons (Yx e0 ho0) .nil), w8p _ _, w9q L0 N _ hN, 3, v7h _ _⟩
  ·cases h
 ·cases h
def T6v : Specs := (T6.with x5x fVl4)
theorem T6v_ok : Zu prog T6v := (v9h Jj)
def T6m : Specs := (T6v.with w4e fMad)
theorem y2q : Zu prog T6m := (v9s T6v_ok)
end Go.Am
namespace Go.Am
open Go.Proofs.Tryz
open Go.Proofs
inductive rgmS where
 | h0 (v8 : Int)
def rgmC (l0 : List R4) : rgmS → Cfg
 | .h0 v8 => ⟨⟨19, 0, true⟩, none, (Yw prog 171 [1, 0, 1, 0, 0] 0), none, (Zy prog 3), ⟨Xp [(0, (.dat l0.length (Zz l0))), (1, (.fn 152 [])), (7, (ii (l0.length : Int))), (8, (ii v8))], Ux [] 0, 0, [], true⟩, [⟨⟨9, 0, true⟩, (z2e prog 151 [1, 0] 2), (Yw prog 151 [1, 0] 1), none, (Zy prog 3), Xp [(5, (.dat l0.length (Zz l0))), (6, (.fn 152 []))]⟩, ⟨⟨13, 0, true⟩, (z2e prog 130 [1, 1, 0, 0] 1), (Yw prog 130 [1, 1, 0, 0] 1), none, (Zy prog 77), Xp [(0, (.dat l0.length (Zz l0))), (7, (.dat l0.length (Zz l0)))]⟩], .leaf⟩
def rgmN0 : List (Option (List Nat)) := [some [0, 1, 7, 8], some [5, 6], some [0, 7]]
def rgmM0 : List (Option (List Nat)) := []
def z2c (l0 : List R4) : rgmS → Wu rgmS
 | .h0 v8 => (bif (decide (v8 < (l0.length : Int))) then (bif ((decide (0 ≤ v8 ∧ v8 < (l0.length : Int))) && true) then (bif (!(vl4V (rd l0 v8.toNat).a (rd l0 v8.toNat).b (rd l0 v8.toNat).c (rd l0 v8.toNat).d)) then (bif (decide (v8 ≥ 0)) then (.ret [.nils, (.int .i64 8)]) else (bif (z2h (cvT l0)) then (.ret [(.dat (Kx (cvT l0)).length (Zz (Kx (cvT l0)))), (.int .i64 (z5q (cvT l0)))]) else .stuck)) else (.to (.h0 (IntKind.wrap .i64 (v8 + 1))))) else .stuck) else (bif (z2h (cvT l0)) then (.ret [(.dat (Kx (cvT l0)).length (Zz (Kx (cvT l0)))), (.int .i64 (z5q (cvT l0)))]) else .stuck))
def z5f (l0 : List R4) : Wu rgmS := (bif (decide ((l0.length : Int) > 400)) then (.ret [.nils, (.int .i64 4)]) else (.to (.h0 0)))
theorem x8n (l0 : List R4) : ∀ s, Wm prog (Zy prog 130) (rgmC l0) (rgmC l0 s) (z2c l0 s)
 | .h0 v8 => (lb (fun k0 => (lo fun aG => (lb (fun k1 => (lb (fun k2 => (lr 13 130 [1, 1, 0, 1, 0, 0] 1 77 [(2, .nils), (3, (ii 8))] (sl y2q 54 [] ⟨[], [], [some [2, 3]], []⟩ ⟨[], [], []⟩ (trs 3 []) (tt k2 (tt k1 (ww aG (tt k0 nn))))))) (fun k2 => (lo fun o0 => (lr 13 3 [1, 1, 1, 1, 1, 1, 0] 1 77 [(2, (.dat (Kx (cvT l0)).length (Zz (Kx (cvT l0))))), (3, (ii (z5q (cvT l0))))] (sl y2q 59 [] ⟨[], [], [some [2, 3]], []⟩ ⟨[], [], []⟩ [true, true, false] (pp (pp (xr l0) (xw o0)) (tt k2 (tt k1 (ww aG (tt k0 nn))))))))))) (fun k1 => (sl y2q 44 [] ⟨[], [], rgmN0, rgmM0⟩ ⟨[], [], []⟩ [true, false] (tt k1 (ww aG (tt k0 nn)))))))) (fun k0 => (lo fun o0 => (lr 13 3 [1, 1, 1, 1, 1, 1, 0] 1 77 [(2, (.dat (Kx (cvT l0)).length (Zz (Kx (cvT l0))))), (3, (ii (z5q (cvT l0))))] (sl y2q 28 [] ⟨[], [], [some [2, 3]], []⟩ ⟨[], [], []⟩ [false, false] (pp (pp (xr l0) (xw o0)) (tt k0 nn)))))))
theorem x1j (l0 : List R4) : Wm prog (Zy prog 130) (rgmC l0) (Zd prog 130 [(.dat l0.length (Zz l0))] true []) (z5f l0) := (lb (fun k0 => (lr 13 130 [1, 0, 1, 0, 0] 1 77 [(2, .nils), (3, (ii 4))] (sl y2q 18 [] ⟨[], [], [some [2, 3]], []⟩ ⟨[], [], []⟩ [true] (tt k0 nn)))) (fun k0 => (sl y2q 41 [] ⟨[], [], rgmN0, rgmM0⟩ ⟨[], [], []⟩ [false] (tt k0 nn))))
theorem w8o (l0 : List R4) (n : Nat) (vs : List AVal) (h : Yj (z2c l0) n (z5f l0) = .ret vs) : Kv prog (Zy prog 130) (Zd prog 130 [(.dat l0.length (Zz l0))] true []) vs := by
 have := Zn (x8n l0) n _ (x1j l0)
 rwa [h] at this
end Go.Am
namespace Go.Am
open Go.Proofs.Tryz
open Go.Proofs
open Go.Sort Go.Shelf Go.RowKit Go.Lib
theorem v3f (l : List R4) (hl : l.length ≤ 400) : ∀ (k i : Nat), i + k = l.length → (∀ s ∈ l.take i, z8x s = true) → ∃ n, Yj (z2c l) n (.to (.h0 (i : Int))) = .ret (bif l.all z8x then [.dat (Kx l).length (Zz (Kx l)), .int .i64 (z5q l)] else [.nils, .int .i64 8])
 | 0, i, h, ht => by
  have hv : l.all z8x = true := List.all_eq_true.2 fun s hs => ht s (by rw [List.take_of_length_le (by omega)]; exact hs)
  have w : z2h l = true := decide_eq_true hl
  refine ⟨1, ?_⟩
  rw [Zv, hv, cond_true]
  simp (disch := omega) only [z2c, Zg, w, Zo, cond_true, cond_false, Zp]
 | k + 1, i, h, ht => by
  have hi : i < l.length := by omega
  have hs : z2c l (.h0 (i : Int)) = bif z8x (rd l i) then .to (.h0 ((i + 1 : Nat) : Int)) else .ret [.nils, .int .i64 8] := by
   have e : vl4V (rd l i).a (rd l i).b (rd l i).c (rd l i).d = z8x (rd l i) := rfl
   simp (disch := omega) only [z2c, e, x4f, w5r, x6u, Yy, Zj, Zw, Zk, Bool.and_true, cond_true, cond_false]
  rcases Yr (z8x (rd l i)) with q | q
  ·obtain ⟨n, hn⟩ := v3f l hl k (i + 1) (by omega) (fun s hs => by
    rw [List.take_add_one] at hs
    have e : l[i]? = some (rd l i) := by rw [Xi hi]; exact List.getElem?_eq_getElem _
    rw [e] at hs
    simp only [Option.toList_some, List.mem_append, List.mem_singleton] at hs
    rcases hs with hs | rfl
    ·exact ht s hs
    ·exact q)
   refine ⟨n + 1, ?_⟩
   rw [Zv, hs, q, cond_true]
   exact hn
  ·have hv : l.all z8x = false := Bool.eq_false_iff.2 fun e => by
    have := List.all_eq_true.1 e (rd l i) (by rw [Xi hi]; exact List.getElem_mem hi)
    rw [this] at q; cases q
   refine ⟨1, ?_⟩
   rw [Zv, hv, cond_false, hs, q, cond_false, Zp]
theorem w8n (l : List R4) : ∃ n, Yj (z2c l) n (z5f l) = .ret (bif decide (400 < l.length) then [.nils, .int .i64 4] else bif l.all z8x then [.dat (Kx l).length (Zz (Kx l)), .int .i64 (z5q l)] else [.nils, .int .i64 8]) := by
 unfold z5f
 by_cases h : 400 < l.length
 ·refine ⟨0, ?_⟩
  rw [decide_eq_true h, Yf (show (l.length : Int) > 400 by omega)]; rfl
 ·obtain ⟨n, hn⟩ := v3f l (by omega) l.length 0 (Nat.zero_add _) (fun s hs => by simp at hs)
  refine ⟨n, ?_⟩
  rw [decide_eq_false h, Xx (show ¬ (l.length : Int) > 400 by omega), cond_false, cond_false]
  exact hn
def Xd (l : List R4) : List R4 := bif decide (400 < l.length) then [] else bif l.all z8x then (bif decide (((D4.out l).length : Int) > 400) then [] else D4.out l) else []
def z3p (l : List R4) : Int := bif decide (400 < l.length) then 4 else bif l.all z8x then (bif decide (((D4.out l).length : Int) > 400) then 4 else 0) else 8
def z5g (l : List R4) : Bool := true
theorem v7g (l : List R4) (h : z5g l = true) : ∃ n, Yj (z2c l) n (z5f l) = .ret (bif decide (400 < l.length) then [.nils, .int .i64 4] else bif l.all z8x then [.dat (Xd l).length (Zz (Xd l)), .int .i64 (z3p l)] else [.nils, .int .i64 8]) := by
 obtain ⟨n, hn⟩ := w8n l
 refine ⟨n, hn.trans ?_⟩
 cases h1 : decide (400 < l.length) <;> cases h2 : l.all z8x <;> simp only [cond_true, cond_false]
 have e0 : Kx l = Xd l := by
  unfold Kx madE errL capE Xd
  rw [h1, h2]
  cases decide (((D4.out l).length : Int) > 400) <;> rfl
 have e1 : z5q l = z3p l := by
  unfold z5q madE capE z3p
  rw [h1, h2]; rfl
 rw [e0, e1]
def fRgm : List AVal → Option (AVal × Bool)
 | [a0] => match asL R4 a0 with
  | some (L0, g0, n0) => some (.tup [.dat (Xd L0).length (Zz (Xd L0)), .int .i64 (z3p L0)], isT R4 n0 g0 && (z5g L0))
  | _ => none
 | _ => none
theorem v9n {S : Specs} (hS : Zu prog S) : Zu prog (S.with x5y fRgm) := by
 refine fTwo hS (by kernel_rfl) fun args v h => ?_
 unfold fRgm at h
 split at h
 ·rename_i a0
  split at h
  ·rename_i L0 g0 n0 e0
   simp only [Option.some.injEq, Prod.mk.injEq, Bool.and_eq_true] at h
   obtain ⟨rfl, ho0, hw⟩ := h
   obtain ⟨N, hN⟩ := v7g L0 hw
   refine ⟨_, _, (.cons (Yx e0 ho0) .nil), ?_, w8o L0 N _ hN, 3, ?_⟩
   ·cases h1 : decide (400 < L0.length) <;> cases h2 : L0.all z8x <;> simp only [Xd, z3p, h1, h2, cond_true, cond_false]
    ·exact fun ρ u hu => Kn (.cons (Um R4) (RLe.refl _)) ρ u hu
    ·exact fun ρ u hu => hu
    ·exact fun ρ u hu => Kn (.cons (Um R4) (RLe.refl _)) ρ u hu
    ·exact fun ρ u hu => Kn (.cons (Um R4) (RLe.refl _)) ρ u hu
   ·cases decide (400 < L0.length) <;> cases L0.all z8x <;> rfl
  ·cases h
 ·cases h
def T7 : Specs := (T6m.with x5y fRgm)
theorem x0b : Zu prog T7 := (v9n y2q)
end Go.Am
namespace Go.Am
open Go.Proofs.Tryz
open Go.Proofs
inductive vl6S where
def vl6C (bB : Int) (bC : Int) (bD : Int) (aX : Int) (bN : Int) (bO : Int) : vl6S → Cfg
 := nofun
def x0h (bB : Int) (bC : Int) (bD : Int) (aX : Int) (bN : Int) (bO : Int) : vl6S → Wu vl6S
 := nofun
def z8v (bB : Int) (bC : Int) (bD : Int) (aX : Int) (bN : Int) (bO : Int) : Wu vl6S := (bif (decide (bB < aX)) then (bif (decide (bC < bN)) then (bif (decide (bD < bO)) then (bif (decide ((Qp (Qp bB bC) bD) ≥ (-1000000))) then (bif (decide ((Qm (Qm bB bC) bD) ≤ 1000000)) then (bif (decide ((Qp (Qp aX bN) bO) ≥ (-1000000))) then (.ret [(.bool (decide ((Qm (Qm aX bN) bO) ≤ 1000000)))]) else (.ret [(.bool false)])) else (.ret [(.bool false)])) else (.ret [(.bool false)])) else (.ret [(.bool false)])) else (.ret [(.bool false)])) else (.ret [(.bool false)]))
theorem x7i (bB : Int) (bC : Int) (bD : Int) (aX : Int) (bN : Int) (bO : Int) : ∀ s, Wm prog (Zy prog 107) (vl6C bB bC bD aX bN bO) (vl6C bB bC bD aX bN bO s) (x0h bB bC bD aX bN bO s)
 := nofun
theorem x0i (bB : Int) (bC : Int) (bD : Int) (aX : Int) (bN : Int) (bO : Int) : Wm prog (Zy prog 107) (vl6C bB bC bD aX bN bO) (Zd prog 107 [(.agg [(.int .i64 bB), (.int .i64 bC), (.int .i64 bD), (.int .i64 aX), (.int .i64 bN), (.int .i64 bO)])] true []) (z8v bB bC bD aX bN bO) := (lb (fun k0 => (lb (fun k1 => (lb (fun k2 => (lb (fun k3 => (lb (fun k4 => (lb (fun k5 => (lr 38 3 [1, 1, 1, 1, 1, 1, 0] 1 15 [(2, (.bool (decide ((Qm (Qm aX bN) bO) ≤ 1000000))))] (sl x0b 100 [] ⟨[], [], [some [2]], []⟩ ⟨[], [], []⟩ (trs 36 []) (tt k5 (tt k4 (tt k3 (tt k2 (tt k1 (tt k0 nn))))))))) (fun k5 => (lr 38 3 [1, 1, 1, 1, 1, 1, 0] 1 15 [(2, (.bool false))] (sl x0b 100 [] ⟨[], [], [some [2]], []⟩ ⟨[], [], []⟩ (trs 28 [false, false, false, false, false, false, false, false]) (tt k5 (tt k4 (tt k3 (tt k2 (tt k1 (tt k0 nn))))))))))) (fun k4 => (lr 38 3 [1, 1, 1, 1, 1, 1, 0] 1 15 [(2, (.bool false))] (sl x0b 72 [] ⟨[], [], [some [2]], []⟩ ⟨[], [], []⟩ (trs 25 [false, false, false]) (tt k4 (tt k3 (tt k2 (tt k1 (tt k0 nn)))))))))) (fun k3 => (lr 38 3 [1, 1, 1, 1, 1, 1, 0] 1 15 [(2, (.bool false))] (sl x0b 72 [] ⟨[], [], [some [2]], []⟩ ⟨[], [], []⟩ (trs 17 [false, false, false, false, false, false, false, false, false, false, false]) (tt k3 (tt k2 (tt k1 (tt k0 nn))))))))) (fun k2 => (lr 38 3 [1, 1, 1, 1, 1, 1, 0] 1 15 [(2, (.bool false))] (sl x0b 44 [] ⟨[], [], [some [2]], []⟩ ⟨[], [], []⟩ (trs 14 [false, false, false, false, false, false]) (tt k2 (tt k1 (tt k0 nn)))))))) (fun k1 => (lr 38 3 [1, 1, 1, 1, 1, 1, 0] 1 15 [(2, (.bool false))] (sl x0b 44 [] ⟨[], [], [some [2]], []⟩ ⟨[], [], []⟩ (trs 7 [false, false, false, false, false, false, false, false, false, false, false, false, false]) (tt k1 (tt k0 nn))))))) (fun k0 => (lr 38 3 [1, 1, 1, 1, 1, 1, 0] 1 15 [(2, (.bool false))] (sl x0b 44 [] ⟨[], [], [some [2]], []⟩ ⟨[], [], []⟩ [false, false, false, false, false, false, false, false, false, false, false, false, false, false, false, false, false, false, false, false] (tt k0 nn)))))
theorem w7h (bB : Int) (bC : Int) (bD : Int) (aX : Int) (bN : Int) (bO : Int) (n : Nat) (vs : List AVal) (h : Yj (x0h bB bC bD aX bN bO) n (z8v bB bC bD aX bN bO) = .ret vs) : Kv prog (Zy prog 107) (Zd prog 107 [(.agg [(.int .i64 bB), (.int .i64 bC), (.int .i64 bD), (.int .i64 aX), (.int .i64 bN), (.int .i64 bO)])] true []) vs := by
 have := Zn (x7i bB bC bD aX bN bO) n _ (x0i bB bC bD aX bN bO)
 rwa [h] at this
end Go.Am
namespace Go.Am
open Go.Proofs.Tryz
open Go.Proofs
open Go.Sort Go.Shelf Go.RowKit Go.Lib
def z6w (r : R6) : Bool := decide (r.a < r.d) && (decide (r.b < r.e) && (decide (r.c < r.f) && (decide ((Qp (Qp r.a r.b) r.c) ≥ (-1000000)) && (decide ((Qm (Qm r.a r.b) r.c) ≤ 1000000) && (decide ((Qp (Qp r.d r.e) r.f) ≥ (-1000000)) && decide ((Qm (Qm r.d r.e) r.f) ≤ 1000000))))))
def vl6V (a b c d e f : Int) : Bool := z6w ⟨a, b, c, d, e, f⟩
theorem v5z (a b c d e f : Int) : ∃ N, Yj (x0h a b c d e f) N (z8v a b c d e f) = .ret [.bool (vl6V a b c d e f)] := ⟨0, by
 unfold z8v vl6V z6w
 simp only [x4g]
 cases decide (a < d) <;> cases decide (b < e) <;> cases decide (c < f) <;> cases decide ((Qp (Qp a b) c) ≥ (-1000000)) <;> cases decide ((Qm (Qm a b) c) ≤ 1000000) <;> cases decide ((Qp (Qp d e) f) ≥ (-1000000)) <;> rfl⟩
def fVl6 : List AVal → Option (AVal × Bool)
 | [.agg [.int .i64 bB, .int .i64 bC, .int .i64 bD, .int .i64 aX, .int .i64 bN, .int .i64 bO]] => some (.bool (vl6V bB bC bD aX bN bO), true)
 | _ => none
theorem v9g {S : Specs} (hS : Zu prog S) : Zu prog (S.with x5w fVl6) := by
 refine z2m hS (by kernel_rfl) fun args v h => ?_
 unfold fVl6 at h
 split at h
 ·rename_i bB bC bD aX bN bO
  simp only [Option.some.injEq, Prod.mk.injEq, and_true] at h
  subst h
  obtain ⟨N, hN⟩ := v5z bB bC bD aX bN bO
  exact ⟨_, _, (.cons (.refl _) .nil), rfl, w7h bB bC bD aX bN bO N _ hN, 3, rfl⟩
 ·cases h
def T7v : Specs := (T7.with x5w fVl6)
theorem Vz : Zu prog T7v := (v9g x0b)
end Go.Am
namespace Go.Am
open Go.Proofs.Tryz
open Go.Proofs
inductive sckS where
 | h0 (v8 : Int)
 | h1 (v16 : Int) (aC : List Int)
 | h2 (v4 : Int) (aO : List R6) (bK : List R4) (bR : Int) (bS : Int) (aM : Nat) (aS : List Int)
 | h3 (v4 : Int) (v38 : Int) (aO : List R6) (bK : List R4) (bR : Int) (bS : Int) (aM : Nat) (aS : List Int) (bG : Int) (bW : Int) (aE : List R4)
 | h4 (v1 : Int) (v2 : Int) (v72 : List R4) (v73 : Int) (v74 : Int) (bI : List R4) (aW : Int) (aA : List R6) (aD : List R4) (aF : Int) (aM : Nat) (aS : List Int) (bG : List R4)
 | h5 (v2 : Int) (v8 : Int) (cF : Int) (bI : List R4) (aW : Int) (aA : List R6) (aD : List R4) (aF : Int) (aH : Int) (bU : Nat) (cC : List Int) (aE : List R4)
def sckC (l0 : List R6) : sckS → Cfg
 | .h0 v8 => ⟨⟨19, 0, true⟩, none, (Yw prog 124 [1, 0, 1, 0, 0] 0), none, (Zy prog 3), ⟨Xp [(0, (.dat l0.length (Zz l0))), (1, (.fn 106 [])), (7, (ii (l0.length : Int))), (8, (ii v8))], Ux [] 0, 0, [], true⟩, [⟨⟨9, 0, true⟩, (z2e prog 86 [1, 0] 2), (Yw prog 86 [1, 0] 1), none, (Zy prog 3), Xp [(5, (.dat l0.length (Zz l0))), (6, (.fn 106 []))]⟩, ⟨⟨25, 0, true⟩, (z2e prog 72 [1, 1, 0, 0] 1), (Yw prog 72 [1, 1, 0, 0] 1), none, (Zy prog 15), Xp [(0, (.dat l0.length (Zz l0))), (8, (.dat l0.length (Zz l0)))]⟩], .leaf⟩
 | .h1 v16 aC => ⟨⟨36, 0, true⟩, none, (Yw prog 129 [1, 1, 0, 1, 0, 0, 1, 1, 0, 0, 1, 1, 0, 0] 0), none, (Zy prog 15), ⟨Xp [(1, (.ptr 0 0)), (3, (.ptr 2 0)), (8, (.sl 1 0 1 (.un 1))), (9, (ii 1)), (10, (ii 0)), (14, (.dat l0.length (Zz l0))), (15, (ii (l0.length : Int))), (16, (ii v16))], Ux [⟨[(.sl 1 0 1 (.un 1))], 168, none⟩, ⟨[(.dat l0.length (Zz l0))], 22, none⟩, ⟨[(.sla 7 1 0 aC.length (.un 1))], 47, none⟩, ⟨[.nilf], 124, none⟩, ⟨[.nils], 30, none⟩, ⟨[(ii 0)], 24, none⟩, ⟨[.nils, .nils, (ii 0), (ii 0)], 170, none⟩, ⟨rows aC.length (Zz aC), 3, some ⟨1, aC.length, (Zz aC)⟩⟩] 0, 8, [], true⟩, [⟨⟨65, 0, true⟩, (z2e prog 108 [1, 1, 0, 0] 1), (Yw prog 108 [1, 1, 0, 0] 1), none, (Zy prog 36), Xp [(2, (.ptr 3 0)), (4, (.ptr 4 0)), (5, (.ptr 5 0)), (6, (.ptr 6 0)), (13, (.sl 1 0 1 (.un 1)))]⟩, ⟨⟨25, 0, true⟩, (z2e prog 72 [1, 1, 1, 0, 0] 3), (Yw prog 72 [1, 1, 1, 0, 0] 1), none, (Zy prog 15), Xp [(0, (.dat l0.length (Zz l0))), (11, (.agg [.nilf])), (13, (.sl 1 0 1 (.un 1)))]⟩], .leaf⟩
 | .h2 v4 aO bK bR bS aM aS => ⟨⟨86, 0, true⟩, none, (Yw prog 150 [1, 0, 0] 0), none, [], ⟨Xp [(0, (.yld 0)), (1, (.ptr 5 0)), (2, (.ptr 7 0)), (4, (ii v4))], w0w [(1, ⟨[.nilf], 124, none⟩), (2, ⟨[.nils], 30, none⟩), (3, ⟨[(ii 0)], 24, none⟩), (4, ⟨[(.sla 9 6 0 aO.length (.un 6)), (.dat bK.length (Zz bK)), (ii bR), (ii bS)], 170, none⟩), (5, ⟨[(.sla 6 1 0 aM (.un 1))], 47, none⟩), (6, ⟨rows aS.length (Zz aS), 3, some ⟨1, aS.length, (Zz aS)⟩⟩), (7, ⟨[(.sl 8 0 1 (.un 1))], 168, none⟩), (8, ⟨[(.dat l0.length (Zz l0))], 22, none⟩), (9, ⟨rows aO.length (Zz aO), 68, some ⟨6, aO.length, (Zz aO)⟩⟩)], 10, [], true⟩, [⟨⟨65, 0, true⟩, none, (.inRangeFunc 0 :: (Yw prog 108 [1, 1, 0, 1, 0] 1)), none, (Zy prog 36), Xp [(4, (.ptr 2 0)), (5, (.ptr 3 0)), (6, (.ptr 4 0))]⟩, ⟨⟨25, 0, true⟩, (z2e prog 72 [1, 1, 1, 0, 0] 3), (Yw prog 72 [1, 1, 1, 0, 0] 1), none, (Zy prog 15), Xp [(0, (.dat l0.length (Zz l0))), (11, (.agg [.nilf])), (13, (.sl 8 0 1 (.un 1)))]⟩], (w0y [(0, ⟨.ready, none, 65, Xp [(2, (.ptr 1 0)), (4, (.ptr 2 0)), (5, (.ptr 3 0)), (6, (.ptr 4 0))], [15], (Qv prog 108 [1, 1, 0, 1, 0, 0]), (Qv prog 108 [1, 1, 0, 1, 0, 1])⟩)])⟩
 | .h3 v4 v38 aO bK bR bS aM aS bG bW aE => ⟨⟨86, 0, true⟩, none, (Yw prog 150 [1, 0, 0, 1, 0, 0, 1, 0, 1, 0, 0, 1, 1, 0, 0, 1, 1, 0, 0] 0), none, [], ⟨Xp [(0, (.yld 0)), (1, (.ptr 5 0)), (2, (.ptr 7 0)), (4, (ii v4)), (5, (.ptr 9 0)), (6, (ii 0)), (29, (.sl 8 0 1 (.un 1))), (30, (ii 1)), (31, (ii 0)), (36, (.dat l0.length (Zz l0))), (37, (ii (l0.length : Int))), (38, (ii v38))], w0w [(1, ⟨[.nilf], 124, none⟩), (2, ⟨[.nils], 30, none⟩), (3, ⟨[(ii 0)], 24, none⟩), (4, ⟨[(.sla 12 6 0 aO.length (.un 6)), (.dat bK.length (Zz bK)), (ii bR), (ii bS)], 170, none⟩), (5, ⟨[(.sla 6 1 0 aM (.un 1))], 47, none⟩), (6, ⟨rows aS.length (Zz aS), 3, some ⟨1, aS.length, (Zz aS)⟩⟩), (7, ⟨[(.sl 8 0 1 (.un 1))], 168, none⟩), (8, ⟨[(.dat l0.length (Zz l0))], 22, none⟩), (9, ⟨[(ii bG), (ii bW), (.sl 10 0 1 (.ex 1))], 175, none⟩), (10, ⟨[(.sla 11 4 0 aE.length (.un 4))], 105, none⟩), (11, ⟨rows aE.length (Zz aE), 114, some ⟨4, aE.length, (Zz aE)⟩⟩), (12, ⟨rows aO.length (Zz aO), 68, some ⟨6, aO.length, (Zz aO)⟩⟩)], 13, [], true⟩, [⟨⟨65, 0, true⟩, none, (.inRangeFunc 0 :: (Yw prog 108 [1, 1, 0, 1, 0] 1)), none, (Zy prog 36), Xp [(4, (.ptr 2 0)), (5, (.ptr 3 0)), (6, (.ptr 4 0))]⟩, ⟨⟨25, 0, true⟩, (z2e prog 72 [1, 1, 1, 0, 0] 3), (Yw prog 72 [1, 1, 1, 0, 0] 1), none, (Zy prog 15), Xp [(0, (.dat l0.length (Zz l0))), (11, (.agg [.nilf])), (13, (.sl 8 0 1 (.un 1)))]⟩], (w0y [(0, ⟨.ready, none, 65, Xp [(2, (.ptr 1 0)), (4, (.ptr 2 0)), (5, (.ptr 3 0)), (6, (.ptr 4 0))], [15], (Qv prog 108 [1, 1, 0, 1, 0, 0]), (Qv prog 108 [1, 1, 0, 1, 0, 1])⟩)])⟩
 | .h4 v1 v2 v72 v73 v74 bI aW aA aD aF aM aS bG => ⟨⟨101, 0, true⟩, none, (Yw prog 131 [1, 1, 1, 0, 0] 0), none, [], ⟨Xp [(0, (.ptr 0 0)), (1, (ii v1)), (2, (ii v2)), (72, (.dat v72.length (Zz v72))), (73, (ii v73)), (74, (ii v74))], w0w [(0, ⟨[(.sla 10 6 0 aA.length (.un 6)), (.dat aD.length (Zz aD)), (ii aF), (ii v2)], 170, none⟩), (2, ⟨[.nilf], 124, none⟩), (3, ⟨[.nils], 30, none⟩), (4, ⟨[(ii 0)], 24, none⟩), (5, ⟨[(.sla 6 1 0 aM (.un 1))], 47, none⟩), (6, ⟨rows aS.length (Zz aS), 3, some ⟨1, aS.length, (Zz aS)⟩⟩), (7, ⟨[(.sl 8 0 1 (.un 1))], 168, none⟩), (8, ⟨[(.dat l0.length (Zz l0))], 22, none⟩), (9, ⟨[(.dat bG.length (Zz bG))], 105, none⟩), (10, ⟨rows aA.length (Zz aA), 68, some ⟨6, aA.length, (Zz aA)⟩⟩)], 11, [], true⟩, [⟨⟨65, 0, true⟩, (z2e prog 108 [1, 1, 0, 1, 0, 1, 0, 1, 1, 1] 5), (Yw prog 108 [1, 1, 0, 1, 0, 1, 0, 1, 1, 1] 1), (some 1), [], Xp [(6, (.ptr 0 0)), (54, (ii v1)), (56, (ii v2)), (57, (.dat bI.length (Zz bI)))]⟩, ⟨⟨86, 0, true⟩, (z2e prog 150 [1, 0, 0, 1, 0, 0, 1, 1, 0] 2), (Yw prog 150 [1, 0, 0, 1, 0, 0, 1, 1, 0] 1), none, [], Xp [(0, (.yld 1)), (1, (.ptr 5 0)), (2, (.ptr 7 0)), (4, (ii aW)), (82, (.yld 1)), (83, (.agg [(ii v1), (ii v2), (.sl 9 0 1 (.ex 1))]))]⟩, ⟨⟨65, 0, true⟩, none, (.inRangeFunc 1 :: (Yw prog 108 [1, 1, 0, 1, 0] 1)), none, (Zy prog 36), Xp [(4, (.ptr 3 0)), (5, (.ptr 4 0)), (6, (.ptr 0 0))]⟩, ⟨⟨25, 0, true⟩, (z2e prog 72 [1, 1, 1, 0, 0] 3), (Yw prog 72 [1, 1, 1, 0, 0] 1), none, (Zy prog 15), Xp [(0, (.dat l0.length (Zz l0))), (11, (.agg [.nilf])), (13, (.sl 8 0 1 (.un 1)))]⟩], (w0y [(1, ⟨.busy, none, 65, Xp [(2, (.ptr 2 0)), (4, (.ptr 3 0)), (5, (.ptr 4 0)), (6, (.ptr 0 0))], [15], (Qv prog 108 [1, 1, 0, 1, 0, 0]), (Qv prog 108 [1, 1, 0, 1, 0, 1])⟩)])⟩
 | .h5 v2 v8 cF bI aW aA aD aF aH bU cC aE => ⟨⟨101, 0, true⟩, none, (Yw prog 131 [0, 1, 0, 0, 1, 0, 0] 0), none, [], ⟨Xp [(0, (.ptr 0 0)), (2, (ii v2)), (8, (ii v8))], w0w [(0, ⟨[(.sla 1 6 0 aA.length (.un 6)), (.dat aD.length (Zz aD)), (ii aF), (ii aH)], 170, none⟩), (1, ⟨rows aA.length (Zz aA), 68, some ⟨6, aA.length, (Zz aA)⟩⟩), (3, ⟨[.nilf], 124, none⟩), (4, ⟨[.nils], 30, none⟩), (5, ⟨[(ii 0)], 24, none⟩), (6, ⟨[(.sla 7 1 0 bU (.un 1))], 47, none⟩), (7, ⟨rows cC.length (Zz cC), 3, some ⟨1, cC.length, (Zz cC)⟩⟩), (8, ⟨[(.sl 9 0 1 (.un 1))], 168, none⟩), (9, ⟨[(.dat l0.length (Zz l0))], 22, none⟩), (10, ⟨[(.dat aE.length (Zz aE))], 105, none⟩)], 11, [], true⟩, [⟨⟨65, 0, true⟩, (z2e prog 108 [1, 1, 0, 1, 0, 1, 0, 1, 1, 1] 5), (Yw prog 108 [1, 1, 0, 1, 0, 1, 0, 1, 1, 1] 1), (some 2), [], Xp [(6, (.ptr 0 0)), (54, (ii cF)), (56, (ii v2)), (57, (.dat bI.length (Zz bI)))]⟩, ⟨⟨86, 0, true⟩, (z2e prog 150 [1, 0, 0, 1, 0, 0, 1, 1, 0] 2), (Yw prog 150 [1, 0, 0, 1, 0, 0, 1, 1, 0] 1), none, [], Xp [(0, (.yld 2)), (1, (.ptr 6 0)), (2, (.ptr 8 0)), (4, (ii aW)), (82, (.yld 2)), (83, (.agg [(ii cF), (ii v2), (.sl 10 0 1 (.ex 1))]))]⟩, ⟨⟨65, 0, true⟩, none, (.inRangeFunc 2 :: (Yw prog 108 [1, 1, 0, 1, 0] 1)), none, (Zy prog 36), Xp [(4, (.ptr 4 0)), (5, (.ptr 5 0)), (6, (.ptr 0 0))]⟩, ⟨⟨25, 0, true⟩, (z2e prog 72 [1, 1, 1, 0, 0] 3), (Yw prog 72 [1, 1, 1, 0, 0] 1), none, (Zy prog 15), Xp [(0, (.dat l0.length (Zz l0))), (11, (.agg [.nilf])), (13, (.sl 9 0 1 (.un 1)))]⟩], (w0y [(2, ⟨.busy, none, 65, Xp [(2, (.ptr 3 0)), (4, (.ptr 4 0)), (5, (.ptr 5 0)), (6, (.ptr 0 0))], [15], (Qv prog 108 [1, 1, 0, 1, 0, 0]), (Qv prog 108 [1, 1, 0, 1, 0, 1])⟩)])⟩
def sckN0 : List (Option (List Nat)) := [some [0, 1, 7, 8], some [5, 6], some [0, 8]]
def sckM0 : List (Option (List Nat)) := []
def v6k : List (Option (List Nat)) := [some [1, 3, 8, 9, 10, 14, 15, 16], some [2, 4, 5, 6, 13], some [0, 11, 13]]
def v6m : List (Option (List Nat)) := []
def v6j : List (Option (List Nat)) := [some [0, 1, 2, 4], some [4, 5, 6], some [0, 11, 13]]
def v6l : List (Option (List Nat)) := [some [2, 4, 5, 6], none, none, none, none, none, none, none, none, none]
def w7r : List (Option (List Nat)) := [some [0, 1, 2, 4, 5, 6, 29, 30, 31, 36, 37, 38], some [4, 5, 6], some [0, 11, 13]]
def w7t : List (Option (List Nat)) := [some [2, 4, 5, 6], none, none, none, none, none, none, none, none, none, none, none, none]
def w7q : List (Option (List Nat)) := [some [0, 1, 2, 72, 73, 74], some [6, 54, 56, 57], some [0, 1, 2, 4, 82, 83], some [4, 5, 6], some [0, 11, 13]]
def w7s : List (Option (List Nat)) := [none, some [2, 4, 5, 6], none, none, none, none, none, none, none, none, none]
def sckN5 : List (Option (List Nat)) := [some [0, 2, 8], some [6, 54, 56, 57], some [0, 1, 2, 4, 82, 83], some [4, 5, 6], some [0, 11, 13]]
def sckM5 : List (Option (List Nat)) := [none, none, some [2, 4, 5, 6], none, none, none, none, none, none, none, none]
def Xw (l0 : List R6) : sckS → Wu sckS
 | .h0 v8 => (bif (decide (v8 < (l0.length : Int))) then (bif ((decide (0 ≤ v8 ∧ v8 < (l0.length : Int))) && true) then (bif (!(vl6V (rd l0 v8.toNat).a (rd l0 v8.toNat).b (rd l0 v8.toNat).c (rd l0 v8.toNat).d (rd l0 v8.toNat).e (rd l0 v8.toNat).f)) then (bif (decide (v8 ≥ 0)) then (.ret [(.int .i64 8)]) else (.to (.h1 0 ([] : List Int)))) else (.to (.h0 (IntKind.wrap .i64 (v8 + 1))))) else .stuck) else (.to (.h1 0 ([] : List Int))))
 | .h1 v16 aC => (bif (decide (v16 < (l0.length : Int))) then (bif ((decide (0 ≤ v16 ∧ v16 < (l0.length : Int))) && true) then (bif (Nat.beq 1 1 && ((decide (0 + aC.length = aC.length)) && decide ((aC.length + 2 + 1) * (8 + 1) ≤ Uq))) then (.to (.h1 (IntKind.wrap .i64 (v16 + 1)) (aC ++ [(rd l0 v16.toNat).c, (rd l0 v16.toNat).f]))) else .stuck) else .stuck) else (bif (decide (aC.length < 4611686018427387904)) then (bif (decide (aC.length = aC.length)) then (.to (.h2 1 ([] : List R6) ([] : List R4) 0 0 (cmpN (Yb aC.length (cOf (Zz (Uw (Yb aC.length (cOf (Zz aC)))))))) (Kp (Yb aC.length (cOf (Zz (Uw (Yb aC.length (cOf (Zz aC)))))))))) else .stuck) else .stuck))
 | .h2 v4 aO bK bR bS aM aS => (bif (decide (v4 < ((aM : Nat) : Int))) then (bif ((decide (0 ≤ (IntKind.wrap .i64 (v4 - 1)) ∧ (IntKind.wrap .i64 (v4 - 1)) < ((aM : Nat) : Int))) && true) then (bif (decide ((0 + (Int.toNat (IntKind.wrap .i64 (v4 - 1)))) < aS.length)) then (bif ((decide (0 ≤ v4 ∧ v4 < ((aM : Nat) : Int))) && true) then (bif (decide ((0 + v4.toNat) < aS.length)) then (.to (.h3 v4 0 aO bK bR bS aM aS (rd aS (0 + (Int.toNat (IntKind.wrap .i64 (v4 - 1))))) (rd aS (0 + v4.toNat)) ([] : List R4))) else .stuck) else .stuck) else .stuck) else .stuck) else (bif (decide ((aO.length : Int) > 400)) then (.ret [(.int .i64 8)]) else (bif (Nat.beq 6 6 && (decide (0 + aO.length ≤ aO.length) && z0l (Zz aO))) then (bif (Uu (lst R6 (aO.length) (fun k => (Zz aO) (0 + k))) (cvT l0)) then (bif (!(Ky (lst R6 (aO.length) (fun k => (Zz aO) (0 + k))) (cvT l0))) then (.ret [(.int .i64 8)]) else (.ret [(.int .i64 0)])) else .stuck) else .stuck)))
 | .h3 v4 v38 aO bK bR bS aM aS bG bW aE => (bif (decide (v38 < (l0.length : Int))) then (bif ((decide (0 ≤ v38 ∧ v38 < (l0.length : Int))) && true) then (bif (decide ((rd l0 v38.toNat).c ≤ bG)) then (bif (decide (bG < (rd l0 v38.toNat).f)) then (bif (Nat.beq 4 4 && ((decide (0 + aE.length = aE.length)) && decide ((aE.length + 1 + 1) * (32 + 1) ≤ Uq))) then (.to (.h3 v4 (IntKind.wrap .i64 (v38 + 1)) aO bK bR bS aM aS bG bW (aE ++ [(R4.mk (rd l0 v38.toNat).a (rd l0 v38.toNat).b (rd l0 v38.toNat).d (rd l0 v38.toNat).e)]))) else .stuck) else (.to (.h3 v4 (IntKind.wrap .i64 (v38 + 1)) aO bK bR bS aM aS bG bW aE))) else (.to (.h3 v4 (IntKind.wrap .i64 (v38 + 1)) aO bK bR bS aM aS bG bW aE))) else .stuck) else (bif (z5g (cvT aE)) then (bif ((z3p (cvT aE)) != 0) then (.ret [(.int .i64 8)]) else (bif (decide ((((Xd (cvT aE)).length : Nat) : Int) > 0)) then (bif (bS == bG) then (bif (Uj (cvT bK) (cvT (Xd (cvT aE)))) then (bif (Qi (cvT bK) (cvT (Xd (cvT aE)))) then (.to (.h5 bW bR bG (Xd (cvT aE)) v4 aO bK bR bS aM aS aE)) else (.to (.h4 bG bW (Xd (cvT aE)) (((Xd (cvT aE)).length : Nat) : Int) 0 (Xd (cvT aE)) v4 aO (Xd (cvT aE)) (aO.length : Int) aM aS aE))) else .stuck) else (.to (.h4 bG bW (Xd (cvT aE)) (((Xd (cvT aE)).length : Nat) : Int) 0 (Xd (cvT aE)) v4 aO (Xd (cvT aE)) (aO.length : Int) aM aS aE))) else (.to (.h4 bG bW (Xd (cvT aE)) (((Xd (cvT aE)).length : Nat) : Int) 0 (Xd (cvT aE)) v4 aO (Xd (cvT aE)) (aO.length : Int) aM aS aE)))) else .stuck))
 | .h4 v1 v2 v72 v73 v74 bI aW aA aD aF aM aS bG => (bif (decide (v74 < v73)) then (bif ((decide (0 ≤ v74 ∧ v74 < (v72.length : Int))) && true) then (bif (Nat.beq 6 6 && ((decide (0 + aA.length = aA.length)) && decide ((aA.length + 1 + 1) * (48 + 1) ≤ Uq))) then (.to (.h4 v1 v2 v72 v73 (IntKind.wrap .i64 (v74 + 1)) bI aW (aA ++ [(R6.mk (rd v72 v74.toNat).a (rd v72 v74.toNat).b v1 (rd v72 v74.toNat).c (rd v72 v74.toNat).d v2)]) aD aF aM aS bG)) else .stuck) else .stuck) else (.to (.h2 (IntKind.wrap .i64 (aW + 1)) aA aD aF v2 aM aS)))
 | .h5 v2 v8 cF bI aW aA aD aF aH bU cC aE => (bif (decide (v8 < (aA.length : Int))) then (bif ((decide (0 ≤ v8 ∧ v8 < (aA.length : Int))) && true) then (bif (decide ((0 + v8.toNat) < aA.length)) then (.to (.h5 v2 (IntKind.wrap .i64 (v8 + 1)) cF bI aW (aA.set (0 + v8.toNat) (R6.mk (rd aA (0 + v8.toNat)).a (rd aA (0 + v8.toNat)).b (rd aA (0 + v8.toNat)).c (rd aA (0 + v8.toNat)).d (rd aA (0 + v8.toNat)).e v2)) aD aF aH bU cC aE)) else .stuck) else .stuck) else (.to (.h2 (IntKind.wrap .i64 (aW + 1)) aA aD aF v2 bU cC)))
def z9b (l0 : List R6) : Wu sckS := (bif (decide ((l0.length : Int) > 400)) then (.ret [(.int .i64 4)]) else (.to (.h0 0)))
theorem x7y (l0 : List R6) : ∀ s, Wm prog (Zy prog 72) (sckC l0) (sckC l0 s) (Xw l0 s)
 | .h0 v8 => (lb (fun k0 => (lo fun aG => (lb (fun k1 => (lb (fun k2 => (lr 25 72 [1, 1, 0, 1, 0, 0] 1 15 [(2, (ii 8))] (sl Vz 53 [] ⟨[], [], [some [2]], []⟩ ⟨[], [], []⟩ (trs 3 []) (tt k2 (tt k1 (ww aG (tt k0 nn))))))) (fun k2 => (sl Vz 113 [(3, 1, Zz ([] : List Int))] ⟨[6, 1, 7, 2, 3, 4, 5, 8], [], v6k, v6m⟩ ⟨[], [.keep, .keep, .cells [.grow 7 1], .keep, .keep, .keep, .keep, .keep], []⟩ [true, true, false, true] (pp (fl ([] : List Int) nn) (tt k2 (tt k1 (ww aG (tt k0 nn))))))))) (fun k1 => (sl Vz 44 [] ⟨[], [], sckN0, sckM0⟩ ⟨[], [], []⟩ [true, false] (tt k1 (ww aG (tt k0 nn)))))))) (fun k0 => (sl Vz 82 [(3, 1, Zz ([] : List Int))] ⟨[5, 0, 6, 1, 2, 3, 4, 7], [], v6k, v6m⟩ ⟨[], [.keep, .keep, .cells [.grow 7 1], .keep, .keep, .keep, .keep, .keep], []⟩ [false, false, true] (pp (fl ([] : List Int) nn) (tt k0 nn)))))
 | .h1 v16 aC => (lb (fun k0 => (lo fun o0 => (lo fun o1 => (sl Vz 34 [] ⟨[0, 1, 2, 3, 4, 5, 6, 10], [], v6k, v6m⟩ ⟨[], [.keep, .keep, .cells [.len (aC ++ [(rd l0 (tn v16)).c, (rd l0 (tn v16)).f]).length], .keep, .keep, .keep, .keep, .rowed 1 (aC ++ [(rd l0 (tn v16)).c, (rd l0 (tn v16)).f]).length (Zz (aC ++ [(rd l0 (tn v16)).c, (rd l0 (tn v16)).f]))], []⟩ [true] (pp (xL (aC.length + 2) (aC ++ [(rd l0 (tn v16)).c, (rd l0 (tn v16)).f]).length) (pp (xL (aC.length + 2) (aC ++ [(rd l0 (tn v16)).c, (rd l0 (tn v16)).f]).length) (pp (xS (aC.length + 2) (Za (Zz aC) 0 aC.length 1 [(ii (rd l0 (tn v16)).c), (ii (rd l0 (tn v16)).f)]) (Zz (aC ++ [(rd l0 (tn v16)).c, (rd l0 (tn v16)).f]))) (pp (pp (xF (Za (Zz aC) 0 aC.length 1 [(ii (rd l0 (tn v16)).c), (ii (rd l0 (tn v16)).f)])) nn) (ww o1 (ww o0 (tt k0 nn))))))))))) (fun k0 => (lo fun o0 => (lo fun o1 => (sl Vz 46 [(68, 6, Zz ([] : List R6))] ⟨[8, 3, 4, 5, 6, 2, 7, 0, 1, 9], [], v6j, v6l⟩ ⟨[], (kpB 4 [.cells [.grow 9 6, .list 0 (Zz ([] : List R4)), .keep, .keep], .keep, .rowed 1 (Kp (Yb aC.length (cOf (Zz (Uw (Yb aC.length (cOf (Zz aC)))))))).length (Zz (Kp (Yb aC.length (cOf (Zz (Uw (Yb aC.length (cOf (Zz aC))))))))), .keep, .keep, .keep]), []⟩ [false, false] (pp (xL aC.length (Kp (Yb aC.length (cOf (Zz (Uw (Yb aC.length (cOf (Zz aC)))))))).length (by first | exact y8x _ _ | exact z0b rfl)) (pp (xS aC.length (Zz (Kp (Yb aC.length (cOf (Zz (Uw (Yb aC.length (cOf (Zz aC))))))))) (Zz (Kp (Yb aC.length (cOf (Zz (Uw (Yb aC.length (cOf (Zz aC)))))))))) (pp (fl (Kp (Yb aC.length (cOf (Zz (Uw (Yb aC.length (cOf (Zz aC)))))))) (fl ([] : List R6) nn)) (pp (pp (xG (Nat.beq 1 1)) (pp (xG (Nat.beq 1 1)) (pp (xG (Nat.beq 0 0)) (pp (xG (decide (aC.length = aC.length))) (pp (xG (isI (Zz (Uw (Yb aC.length (cOf (Zz aC))))))) (xG (decide (aC.length < 4611686018427387904)))))))) (pp (pp (xG (Nat.beq 1 1)) (pp (xG (Nat.beq 1 1)) (pp (xG (Nat.beq 0 0)) (pp (xG (decide (aC.length = aC.length))) (pp (xG (isI (Zz aC))) (xG (decide (aC.length < 4611686018427387904)))))))) (tt k0 nn)))))))))))
 | .h2 v4 aO bK bR bS aM aS => (lb (fun k0 => (lo fun o0 => (lo fun o1 => (lo fun o2 => (lo fun o3 => (sl Vz 48 [(114, 4, Zz ([] : List R4))] ⟨[0, 1, 2, 3, 4, 5, 6, 7, 8, 10, 11, 12, 9], [], w7r, w7t⟩ ⟨[], (kpB 10 [.cells [.grow 11 4], .keep, .keep]), []⟩ (trs 3 []) (pp (fl aS (fl ([] : List R4) (fl aO nn))) (ww o3 (ww o2 (ww o1 (ww o0 (tt k0 nn)))))))))))) (fun k0 => (lb (fun k1 => (lr 25 72 [1, 1, 1, 0, 1, 1, 0, 0] 1 15 [(2, (ii 8))] (sl Vz 50 [] ⟨[], [], [some [2]], []⟩ ⟨[], [], []⟩ [false, true, true, true, true, true, true] (tt k1 (tt k0 nn))))) (fun k1 => (lo fun aU => (lo fun cD => (lb (fun k2 => (lr 25 72 [1, 1, 1, 0, 1, 1, 0, 0] 1 15 [(2, (ii 8))] (sl Vz 53 [] ⟨[], [], [some [2]], []⟩ ⟨[], [], []⟩ [false, false, false, false, false, false, true] (tt k2 (pp (pp (pp (xw aU) (pp nn nn)) (pp (xI R6 (aO.length) (fun k => (Zz aO) (0 + k))) (pp (xr l0) (xw cD)))) (tt k1 (tt k0 nn))))))) (fun k2 => (lr 25 3 [1, 1, 1, 1, 1, 1, 0] 1 15 [(2, (ii 0))] (sl Vz 54 [] ⟨[], [], [some [2]], []⟩ ⟨[], [], []⟩ [false, false, false, false, false, false, false] (tt k2 (pp (pp (pp (xw aU) (pp nn nn)) (pp (xI R6 (aO.length) (fun k => (Zz aO) (0 + k))) (pp (xr l0) (xw cD)))) (tt k1 (tt k0 nn))))))))))))))
 | .h3 v4 v38 aO bK bR bS aM aS bG bW aE => (lb (fun k0 => (lo fun aG => (lb (fun k1 => (lb (fun k2 => (lo fun o0 => (sl Vz 41 [] ⟨[0, 1, 2, 3, 4, 5, 6, 7, 8, 9, 10, 15, 12], [], w7r, w7t⟩ ⟨[], (kpB 10 [.cells [.len (aE ++ [(R4.mk (rd l0 (tn v38)).a (rd l0 (tn v38)).b (rd l0 (tn v38)).d (rd l0 (tn v38)).e)]).length], .rowed 4 (aE ++ [(R4.mk (rd l0 (tn v38)).a (rd l0 (tn v38)).b (rd l0 (tn v38)).d (rd l0 (tn v38)).e)]).length (Zz (aE ++ [(R4.mk (rd l0 (tn v38)).a (rd l0 (tn v38)).b (rd l0 (tn v38)).d (rd l0 (tn v38)).e)])), .keep]), []⟩ (trs 8 []) (pp (xL (aE.length + 1) (aE ++ [(R4.mk (rd l0 (tn v38)).a (rd l0 (tn v38)).b (rd l0 (tn v38)).d (rd l0 (tn v38)).e)]).length) (pp (xL (aE.length + 1) (aE ++ [(R4.mk (rd l0 (tn v38)).a (rd l0 (tn v38)).b (rd l0 (tn v38)).d (rd l0 (tn v38)).e)]).length) (pp (xS (aE.length + 1) (Za (Zz aE) 0 aE.length 4 [(ii (rd l0 (tn v38)).a), (ii (rd l0 (tn v38)).b), (ii (rd l0 (tn v38)).d), (ii (rd l0 (tn v38)).e)]) (Zz (aE ++ [(R4.mk (rd l0 (tn v38)).a (rd l0 (tn v38)).b (rd l0 (tn v38)).d (rd l0 (tn v38)).e)]))) (pp (fl aS (pp (xF (Za (Zz aE) 0 aE.length 4 [(ii (rd l0 (tn v38)).a), (ii (rd l0 (tn v38)).b), (ii (rd l0 (tn v38)).d), (ii (rd l0 (tn v38)).e)])) (fl aO nn))) (ww o0 (tt k2 (tt k1 (ww aG (tt k0 nn)))))))))))) (fun k2 => (sl Vz 41 [] ⟨(List.range 13), [], w7r, w7t⟩ ⟨[], [], []⟩ (trs 7 [false]) (pp (fl aS (fl aE (fl aO nn))) (tt k2 (tt k1 (ww aG (tt k0 nn))))))))) (fun k1 => (sl Vz 41 [] ⟨(List.range 13), [], w7r, w7t⟩ ⟨[], [], []⟩ [true, false, false, false, false, false, false, false] (pp (fl aS (fl aE (fl aO nn))) (tt k1 (ww aG (tt k0 nn))))))))) (fun k0 => (Jh (sl Vz (C' := ⟨⟨65, 0, true⟩, (z2e prog 108 [1, 1, 0, 1, 0, 1, 0, 0] 4), (Yw prog 108 [1, 1, 0, 1, 0, 1, 0, 0] 1), (some 0), [], ⟨Xp [(2, (.ptr 1 0)), (4, (.ptr 2 0)), (5, (.ptr 3 0)), (6, (.ptr 4 0)), (7, (.ptr 6 0)), (20, (.dat aE.length (Zz aE)))], w0w [(1, ⟨[.nilf], 124, none⟩), (2, ⟨[.nils], 30, none⟩), (3, ⟨[(ii 0)], 24, none⟩), (4, ⟨[(.sla 5 6 0 aO.length (.un 6)), (.dat bK.length (Zz bK)), (ii bR), (ii bS)], 170, none⟩), (5, ⟨rows aO.length (Zz aO), 68, some ⟨6, aO.length, (Zz aO)⟩⟩), (6, ⟨[(ii bG), (ii bW), (.sl 7 0 1 (.ex 1))], 175, none⟩), (7, ⟨[(.dat aE.length (Zz aE))], 105, none⟩), (8, ⟨[(.sla 9 1 0 aM (.un 1))], 47, none⟩), (9, ⟨rows aS.length (Zz aS), 3, some ⟨1, aS.length, (Zz aS)⟩⟩), (10, ⟨[(.sl 11 0 1 (.un 1))], 168, none⟩), (11, ⟨[(.dat l0.length (Zz l0))], 22, none⟩)], 12, [], true⟩, [⟨⟨86, 0, true⟩, (z2e prog 150 [1, 0, 0, 1, 0, 0, 1, 1, 0] 2), (Yw prog 150 [1, 0, 0, 1, 0, 0, 1, 1, 0] 1), none, [], Xp [(0, (.yld 0)), (1, (.ptr 8 0)), (2, (.ptr 10 0)), (4, (ii v4)), (82, (.yld 0)), (83, (.agg [(ii bG), (ii bW), (.sl 7 0 1 (.ex 1))]))]⟩, ⟨⟨65, 0, true⟩, none, (.inRangeFunc 0 :: (Yw prog 108 [1, 1, 0, 1, 0] 1)), none, (Zy prog 36), Xp [(4, (.ptr 2 0)), (5, (.ptr 3 0)), (6, (.ptr 4 0))]⟩, ⟨⟨25, 0, true⟩, (z2e prog 72 [1, 1, 1, 0, 0] 3), (Yw prog 72 [1, 1, 1, 0, 0] 1), none, (Zy prog 15), Xp [(0, (.dat l0.length (Zz l0))), (11, (.agg [.nilf])), (13, (.sl 11 0 1 (.un 1)))]⟩], (w0y [(0, ⟨.busy, none, 65, Xp [(2, (.ptr 1 0)), (4, (.ptr 2 0)), (5, (.ptr 3 0)), (6, (.ptr 4 0))], [15], (Qv prog 108 [1, 1, 0, 1, 0, 0]), (Qv prog 108 [1, 1, 0, 1, 0, 1])⟩)])⟩) 37 [] ⟨[0, 1, 2, 3, 4, 12, 13, 10, 5, 6, 7, 8], [11], [some [2, 4, 5, 6, 7, 20], some [0, 1, 2, 4, 82, 83], some [4, 5, 6], some [0, 11, 13]], [some [2, 4, 5, 6], none, none, none, none, none, none, none, none, none, none, none]⟩ ⟨[(20, .frz aE.length aE.length (Zz aE) (Zz aE))], [.keep, .keep, .keep, .keep, .keep, .keep, .keep, .cells [.frz aE.length aE.length (Zz aE) (Zz aE)], .keep, .keep, .keep, .keep], []⟩ [false, false] (pp (xZ (z6s 4 4 0 aE.length aE.length (Zz aE)) aE.length (Zz aE)) (pp (xL aE.length aE.length) (pp (xS aE.length (Zz aE) (Zz aE)) (pp (xZ (z6s 4 4 0 aE.length aE.length (Zz aE)) aE.length (Zz aE)) (pp (xL aE.length aE.length) (pp (xS aE.length (Zz aE) (Zz aE)) (pp (fl aO (fl aS nn)) (pp (fl aE nn) (tt k0 nn)))))))))) (lo fun aG => (lb (fun k1 => (lr 25 72 [1, 1, 1, 0, 1, 1, 0, 0] 1 15 [(2, (ii 8))] (sl Vz 67 [] ⟨[], [], [some [2]], []⟩ ⟨[], [], []⟩ [false, true, true, true, true, true, true, true] (tt k1 (tt k1 (pp (pp (xr aE) (xw aG)) nn)))))) (fun k1 => (lb (fun k2 => (lb (fun k3 => (lo fun bF => (lb (fun k4 => (sl Vz 75 [] ⟨[4, 5, 0, 1, 2, 3, 8, 9, 10, 11, 7], [], sckN5, sckM5⟩ ⟨[], [], []⟩ [false, false, true, true, true, true, true, true, true, true, true, true, true, true, true] (pp (fl aO (fl aS nn)) (tt k4 (pp (pp (xr bK) (pp (xI R4 (Xd (cvT aE)).length (Zz (Xd (cvT aE)))) (xw bF))) (tt k3 (tt k2 (tt k1 (pp (pp (xr aE) (xw aG)) nn))))))))) (fun k4 => (sl Vz 95 [] ⟨[4, 0, 1, 2, 3, 8, 9, 10, 11, 7, 5], [], w7q, w7s⟩ ⟨[], [], []⟩ [false, false, true, true, true, true, true, true, true, true, true, true, true, true, false] (pp (fl aS (fl aO nn)) (tt k4 (pp (pp (xr bK) (pp (xI R4 (Xd (cvT aE)).length (Zz (Xd (cvT aE)))) (xw bF))) (tt k3 (tt k2 (tt k1 (pp (pp (xr aE) (xw aG)) nn)))))))))))) (fun k3 => (sl Vz 95 [] ⟨[4, 0, 1, 2, 3, 8, 9, 10, 11, 7, 5], [], w7q, w7s⟩ ⟨[], [], []⟩ [false, false, true, true, true, true, true, true, false, false, false, false, false, false, false] (pp (fl aS (fl aO nn)) (tt k3 (tt k2 (tt k1 (pp (pp (xr aE) (xw aG)) nn))))))))) (fun k2 => (sl Vz 95 [] ⟨[4, 0, 1, 2, 3, 8, 9, 10, 11, 7, 5], [], w7q, w7s⟩ ⟨[], [], []⟩ [false, false, false, false, false, false, false, false, false, false, false, false, false, false, false] (pp (fl aS (fl aO nn)) (tt k2 (tt k1 (pp (pp (xr aE) (xw aG)) nn)))))))))))))
 | .h4 v1 v2 v72 v73 v74 bI aW aA aD aF aM aS bG => (lb (fun k0 => (lo fun o0 => (lo fun o1 => (sl Vz 23 [] ⟨[0, 1, 2, 3, 4, 5, 6, 7, 8, 9, 13], [], w7q, w7s⟩ ⟨[], [.cells [.len (aA ++ [(R6.mk (rd v72 (tn v74)).a (rd v72 (tn v74)).b v1 (rd v72 (tn v74)).c (rd v72 (tn v74)).d v2)]).length, .keep, .keep, .keep], .keep, .keep, .keep, .keep, .keep, .keep, .keep, .keep, .keep, .rowed 6 (aA ++ [(R6.mk (rd v72 (tn v74)).a (rd v72 (tn v74)).b v1 (rd v72 (tn v74)).c (rd v72 (tn v74)).d v2)]).length (Zz (aA ++ [(R6.mk (rd v72 (tn v74)).a (rd v72 (tn v74)).b v1 (rd v72 (tn v74)).c (rd v72 (tn v74)).d v2)]))], []⟩ [true] (pp (xL (aA.length + 1) (aA ++ [(R6.mk (rd v72 (tn v74)).a (rd v72 (tn v74)).b v1 (rd v72 (tn v74)).c (rd v72 (tn v74)).d v2)]).length) (pp (xL (aA.length + 1) (aA ++ [(R6.mk (rd v72 (tn v74)).a (rd v72 (tn v74)).b v1 (rd v72 (tn v74)).c (rd v72 (tn v74)).d v2)]).length) (pp (xS (aA.length + 1) (Za (Zz aA) 0 aA.length 6 [(ii (rd v72 (tn v74)).a), (ii (rd v72 (tn v74)).b), (ii v1), (ii (rd v72 (tn v74)).c), (ii (rd v72 (tn v74)).d), (ii v2)]) (Zz (aA ++ [(R6.mk (rd v72 (tn v74)).a (rd v72 (tn v74)).b v1 (rd v72 (tn v74)).c (rd v72 (tn v74)).d v2)]))) (pp (fl aS (pp (xF (Za (Zz aA) 0 aA.length 6 [(ii (rd v72 (tn v74)).a), (ii (rd v72 (tn v74)).b), (ii v1), (ii (rd v72 (tn v74)).c), (ii (rd v72 (tn v74)).d), (ii v2)])) nn)) (ww o1 (ww o0 (tt k0 nn))))))))))) (fun k0 => (sl Vz 22 [] ⟨[1, 2, 3, 4, 0, 5, 6, 7, 8, 10], [], v6j, v6l⟩ ⟨[], [], []⟩ [false, false] (pp (fl aS (fl aA nn)) (tt k0 nn)))))
 | .h5 v2 v8 cF bI aW aA aD aF aH bU cC aE => (lb (fun k0 => (lo fun o0 => (lo fun o1 => (sl Vz 34 [] ⟨(List.range 11), [], sckN5, sckM5⟩ ⟨[], [.cells [.len (aA.set (0 + (tn v8)) (R6.mk (rd aA (0 + (tn v8))).a (rd aA (0 + (tn v8))).b (rd aA (0 + (tn v8))).c (rd aA (0 + (tn v8))).d (rd aA (0 + (tn v8))).e v2)).length, .keep, .keep, .keep], .rowed 6 (aA.set (0 + (tn v8)) (R6.mk (rd aA (0 + (tn v8))).a (rd aA (0 + (tn v8))).b (rd aA (0 + (tn v8))).c (rd aA (0 + (tn v8))).d (rd aA (0 + (tn v8))).e v2)).length (Zz (aA.set (0 + (tn v8)) (R6.mk (rd aA (0 + (tn v8))).a (rd aA (0 + (tn v8))).b (rd aA (0 + (tn v8))).c (rd aA (0 + (tn v8))).d (rd aA (0 + (tn v8))).e v2))), .keep, .keep, .keep, .keep, .keep, .keep, .keep, .keep, .keep], []⟩ [true] (pp (xL aA.length (aA.set (0 + (tn v8)) (R6.mk (rd aA (0 + (tn v8))).a (rd aA (0 + (tn v8))).b (rd aA (0 + (tn v8))).c (rd aA (0 + (tn v8))).d (rd aA (0 + (tn v8))).e v2)).length) (pp (xL aA.length (aA.set (0 + (tn v8)) (R6.mk (rd aA (0 + (tn v8))).a (rd aA (0 + (tn v8))).b (rd aA (0 + (tn v8))).c (rd aA (0 + (tn v8))).d (rd aA (0 + (tn v8))).e v2)).length) (pp (xS aA.length (Ww (Zz aA) (0 + (tn v8)) 5 [(ii v2)]) (Zz (aA.set (0 + (tn v8)) (R6.mk (rd aA (0 + (tn v8))).a (rd aA (0 + (tn v8))).b (rd aA (0 + (tn v8))).c (rd aA (0 + (tn v8))).d (rd aA (0 + (tn v8))).e v2)))) (pp (pp (xF (Ww (Zz aA) (0 + (tn v8)) 5 [(ii v2)])) (fl cC nn)) (ww o1 (ww o0 (tt k0 nn))))))))))) (fun k0 => (sl Vz 36 [] ⟨[2, 3, 4, 5, 0, 6, 7, 8, 9, 1], [], v6j, v6l⟩ ⟨[], [], []⟩ [false, false] (pp (fl cC (fl aA nn)) (tt k0 nn)))))
theorem x0u (l0 : List R6) : Wm prog (Zy prog 72) (sckC l0) (Zd prog 72 [(.dat l0.length (Zz l0))] true []) (z9b l0) := (lb (fun k0 => (lr 25 72 [1, 0, 1, 0, 0] 1 15 [(2, (ii 4))] (sl Vz 16 [] ⟨[], [], [some [2]], []⟩ ⟨[], [], []⟩ [true] (tt k0 nn)))) (fun k0 => (sl Vz 40 [] ⟨[], [], sckN0, sckM0⟩ ⟨[], [], []⟩ [false] (tt k0 nn))))
theorem w7p (l0 : List R6) (n : Nat) (vs : List AVal) (h : Yj (Xw l0) n (z9b l0) = .ret vs) : Kv prog (Zy prog 72) (Zd prog 72 [(.dat l0.length (Zz l0))] true []) vs := by
 have := Zn (x7y l0) n _ (x0u l0)
 rwa [h] at this
end Go.Am
namespace Go.Am
open Go.Proofs.Tryz
open Go.Proofs Go.Sort Go.Shelf Go.RowKit Go.Lib
theorem x1k (l : List R4) : (Xd l).length ≤ 400 := by
 unfold Xd
 by_cases h : 400 < l.length
 ·rw [decide_eq_true h]; exact Nat.zero_le _
 ·rw [decide_eq_false h]
  cases l.all z8x
  ·exact Nat.zero_le _
  ·show (bif decide (((D4.out l).length : Int) > 400) then [] else D4.out l).length ≤ 400
   by_cases h2 : ((D4.out l).length : Int) > 400
   ·rw [decide_eq_true h2]; exact Nat.zero_le _
   ·rw [decide_eq_false h2]; show (D4.out l).length ≤ 400; omega
def D6 : Dim R6 R4 := ⟨R6.c, R6.f, fun r => ⟨r.a, r.b, r.d, r.e⟩, fun x x' s => ⟨s.a, s.b, x, s.c, s.d, x'⟩, fun x r => ⟨r.a, r.b, r.c, r.d, r.e, x⟩, Xd, Qi⟩
theorem D6_sec (l : List R6) (x : Int) : (D6.sec l x).length ≤ 1000 := Nat.le_trans (x1k _) (by omega)
def sckErr : List AVal := [.int .i64 8]
def y7r (l out : List R6) : List AVal := bif decide ((out.length : Int) > 400) then [.int .i64 8] else bif Ky out l then [.int .i64 0] else [.int .i64 8]
def badS (l : List R6) (x : Int) : Bool := z3p (D6.inn l x) != 0
def okF (l : List R6) : Nat → Nat → Bool
 | 0, _ => true
 | k + 1, i => bif badS l (rd (D6.cuts l) i) then false else okF l k (i + 1)
section
variable (l : List R6) (hl : l.length ≤ 400)
include hl
theorem v2k (i : Nat) (out : List R6) (last : List R4) (first fin x x' : Int) : ∀ (k j : Nat) (acc : List R4), j + k = l.length → acc.length ≤ j →
  ∃ n, ∀ N, Yj (Xw l) (N + n) (.to (.h3 (i : Int) (j : Int) out last first fin ((D6.cuts l).length) (Kp (Uw (D6.ends l))) x x' acc)) = Yj (Xw l) N (.to (.h3 (i : Int) (l.length : Int) out last first fin ((D6.cuts l).length) (Kp (Uw (D6.ends l))) x x' (acc ++ D6.inn (l.drop j) x)))
 | 0, j, acc, h, ha => by
  refine ⟨0, fun N => ?_⟩
  rw [List.drop_eq_nil_of_le (by omega), show D6.inn ([] : List R6) x = [] from rfl, List.append_nil, Nat.add_zero, show j = l.length by omega]
 | k + 1, j, acc, h, ha => by
  have hj : j < l.length := by omega
  obtain ⟨n, hn⟩ := v2k i out last first fin x x' k (j + 1) (acc ++ D6.inn [rd l j] x) (by omega) (by have := D6.inn_length [rd l j] x; simp only [List.length_append, List.length_singleton] at *; omega)
  refine ⟨n + 1, fun N => ?_⟩
  have e : D6.inn (l.drop j) x = D6.inn [rd l j] x ++ D6.inn (l.drop (j + 1)) x := by
   rw [Yi hj, ← D6.inn_append]; rfl
  rw [e, ← Nat.add_assoc, Zv, ← List.append_assoc, ← hn N]
  by_cases h1 : D6.lo (rd l j) ≤ x
  ·by_cases h2 : x < D6.hi (rd l j)
   ·rw [D6.inn_t _ _ h1 h2]
    simp only [D6] at h1 h2 ⊢
    simp (disch := omega) only [Xw, Xe, Zg, Zm, Zt, Yy, Ye, Ym, Yg, Zr, Zj, Zw, Ya, Zk, Nat.zero_add, decide_true, Bool.and_true, Bool.true_and, cond_true, cond_false]
   ·rw [D6.inn_f2 _ _ h2, List.append_nil]
    simp only [D6] at h1 h2
    simp (disch := omega) only [Xw, Xe, Zo, Zg, Zm, Zt, Yy, Ye, Ym, Yg, Zr, Zj, Zw, Ya, Zk, Nat.zero_add, decide_true, Bool.and_true, Bool.true_and, cond_true, cond_false]
  ·rw [D6.inn_f1 _ _ h1, List.append_nil]
   simp only [D6] at h1
   simp (disch := omega) only [Xw, u0q, Zg, Zm, Zt, Yy, Ye, Ym, Yg, Zr, Zj, Zw, Ya, Zk, Nat.zero_add, decide_true, Bool.and_true, Bool.true_and, cond_true, cond_false]
theorem v2j (i : Nat) (hi : i ≤ 1000) (x x' : Int) (s last : List R4) (first : Int) (inn : List R4) (hs : s.length ≤ 1000) : ∀ (k j : Nat) (out : List R6), j + k = s.length → out.length ≤ 10000000 + j →
  ∃ n, ∀ N, Yj (Xw l) (N + n) (.to (.h4 x x' s (s.length : Int) (j : Int) s (i : Int) out last first ((D6.cuts l).length) (Kp (Uw (D6.ends l))) inn)) = Yj (Xw l) N (.to (.h2 ((i + 1 : Nat) : Int) (out ++ (s.drop j).map (D6.put x x')) last first x' ((D6.cuts l).length) (Kp (Uw (D6.ends l)))))
 | 0, j, out, h, ho => by
  have _u := hl
  refine ⟨1, fun N => ?_⟩
  rw [List.drop_eq_nil_of_le (by omega), Zv]
  simp (disch := omega) only [Xw, Zo, Zj, Zw, cond_false, List.map_nil, List.append_nil]
 | k + 1, j, out, h, ho => by
  obtain ⟨n, hn⟩ := v2j i hi x x' s last first inn hs k (j + 1) (out ++ [D6.put x x' (rd s j)]) (by omega) (by simp; omega)
  refine ⟨n + 1, fun N => ?_⟩
  have := hn N
  rw [Yi (show j < s.length by omega), List.map_cons, ← Nat.add_assoc, Zv]
  simp (disch := omega) only [Xw, Zg, Zm, Zt, Yy, Ye, Ym, Yg, Zr, Zj, Zw, Ya, Zk, Nat.zero_add, decide_true, Bool.and_true, Bool.true_and, cond_true, cond_false]
  rw [List.append_assoc] at this
  exact this
theorem v2i (i : Nat) (hi : i ≤ 1000) (x x' fin : Int) (s last : List R4) (first : Int) (inn : List R4) : ∀ (k j : Nat) (out : List R6), j + k = out.length → out.length ≤ 10000000 →
  ∃ n, ∀ N, Yj (Xw l) (N + n) (.to (.h5 x' (j : Int) x s (i : Int) out last first fin ((D6.cuts l).length) (Kp (Uw (D6.ends l))) inn)) = Yj (Xw l) N (.to (.h2 ((i + 1 : Nat) : Int) (D6.grow out j x') last first x' ((D6.cuts l).length) (Kp (Uw (D6.ends l)))))
 | 0, j, out, h, ho => by
  have _u := hl
  refine ⟨1, fun N => ?_⟩
  rw [D6.grow_nil _ _ _ (by omega), Zv]
  simp (disch := omega) only [Xw, Zo, Zj, Zw, cond_false]
 | k + 1, j, out, h, ho => by
  obtain ⟨n, hn⟩ := v2i i hi x x' fin s last first inn k (j + 1) (out.set j (D6.ext x' (rd out j))) (by simp; omega) (by simpa using ho)
  refine ⟨n + 1, fun N => ?_⟩
  have := hn N
  rw [D6.grow_set out j _ (by omega)] at this
  rw [← Nat.add_assoc, Zv]
  simp (disch := omega) only [Xw, Zg, Zm, Zt, Yy, Ye, Ym, Yg, Zr, Zj, Zw, Ya, Zk, Nat.zero_add, decide_true, Bool.and_true, Bool.true_and, cond_true, cond_false]
  exact this
theorem w2d : ∀ (k i : Nat) (s : Sw R6 R4), k = (D6.cuts l).length - 1 - i → i ≤ (D6.cuts l).length → s.out.length ≤ i * 1000 → s.last.length ≤ 1000 → s.first ≤ s.out.length →
  ∃ n, Yj (Xw l) n (.to (.h2 ((i + 1 : Nat) : Int) s.out s.last (s.first : Int) s.fin ((D6.cuts l).length) (Kp (Uw (D6.ends l))))) = .ret ((bif okF l k i then y7r l (D6.go l k i s).out else sckErr))
 | 0, i, s, h, hi, ho, hla, hf => by
  have hc := D6.cuts_length l
  refine ⟨1, ?_⟩
  rw [Zv, show D6.go l 0 i s = s from rfl, show okF l 0 i = true from rfl, cond_true]
  unfold y7r
  by_cases q : (s.out.length : Int) > 400
  ·simp (disch := omega) only [Xw, Zo, Yf, cond_true, cond_false, Zp]
  ·have e : lst R6 s.out.length (fun k => (Zz s.out) k) = s.out := Zm s.out
   have w : Uu s.out l = true := decide_eq_true (by omega)
   have f : z0l (Zz s.out) = true := Xa _
   rcases Yr (Ky s.out l) with q2 | q2 <;>
   simp (disch := omega) only [Xw, Zg, e, w, f, q2, Zo, Xx, Ye, Ya, Nat.zero_add, Bool.not_true, Bool.not_false, Bool.and_true, cond_true, cond_false, Zp]
 | k + 1, i, s, h, hi, ho, hla, hf => by
  have hc := D6.cuts_length l
  have hi1 : i + 1 < (D6.cuts l).length := by omega
  have hpl : (Kp (Uw (D6.ends l))).length = 2 * l.length := by rw [z4e, z1b, D6.ends_length]
  have r0 : rd (Kp (Uw (D6.ends l))) i = rd (D6.cuts l) i := x5k _ _ (by show i < (D6.cuts l).length; omega)
  have r1 : rd (Kp (Uw (D6.ends l))) (i + 1) = rd (D6.cuts l) (i + 1) := x5k _ _ (by show i + 1 < (D6.cuts l).length; omega)
  have hbig : i * 1000 ≤ 1000 * 1000 := Nat.mul_le_mul_right _ (by omega)
  have hsl := D6_sec l (rd (D6.cuts l) i)
  have hsd : D6.sec l (rd (D6.cuts l) i) = Xd (D6.inn l (rd (D6.cuts l) i)) := rfl
  obtain ⟨n3, h3⟩ := v2k l hl (i + 1) s.out s.last (s.first : Int) s.fin (rd (D6.cuts l) i) (rd (D6.cuts l) (i + 1)) l.length 0 [] (Nat.zero_add _) (Nat.le_refl _)
  simp only [List.drop_zero, List.nil_append, y3e] at h3
  have w1 : z5g (D6.inn l (rd (D6.cuts l) i)) = true := rfl
  have w2 : Uj s.last (Xd (D6.inn l (rd (D6.cuts l) i))) = true := decide_eq_true (by omega)
  have ol := D6.one_length l (rd (D6.cuts l) i) (rd (D6.cuts l) (i + 1)) s
  have st0 : ∀ N, Yj (Xw l) (N + n3 + 1) (.to (.h2 ((i + 1 : Nat) : Int) s.out s.last (s.first : Int) s.fin ((D6.cuts l).length) (Kp (Uw (D6.ends l))))) = Yj (Xw l) N (.to (.h3 ((i + 1 : Nat) : Int) (l.length : Int) s.out s.last (s.first : Int) s.fin ((D6.cuts l).length) (Kp (Uw (D6.ends l))) (rd (D6.cuts l) i) (rd (D6.cuts l) (i + 1)) (D6.inn l (rd (D6.cuts l) i)))) := fun N => by
   rw [← h3 N, Zv]
   have e1 : IntKind.wrap .i64 (((i + 1 : Nat) : Int) - 1) = (i : Int) := by rw [Zh]; exact Zj (by omega)
   simp (disch := omega) only [Xw, e1, r0, r1, Zg, Zm, Zt, Yy, Ye, Ym, Yg, Zr, Zj, Zw, Ya, Zk, Nat.zero_add, decide_true, Bool.and_true, Bool.true_and, cond_true, cond_false]
  rcases Yr (badS l (rd (D6.cuts l) i)) with q0 | q0
  ·refine ⟨1 + n3 + 1, ?_⟩
   rw [st0 1, Zv]
   simp only [okF, q0, cond_true, cond_false]
   have q0' : (z3p (D6.inn l (rd (D6.cuts l) i)) != 0) = true := q0
   simp (disch := omega) only [Xw, Zg, Zm, Zo, q0', w1, cond_true, cond_false, Zp]
   rfl
  have q0' : (z3p (D6.inn l (rd (D6.cuts l) i)) != 0) = false := q0
  rcases Yr (decide (0 < (D6.sec l (rd (D6.cuts l) i)).length) && ((s.fin == rd (D6.cuts l) i) && D6.same s.last (D6.sec l (rd (D6.cuts l) i)))) with q | q
  ·obtain ⟨n5, h5⟩ := v2i l hl (i + 1) (by omega) (rd (D6.cuts l) i) (rd (D6.cuts l) (i + 1)) s.fin (D6.sec l (rd (D6.cuts l) i)) s.last (s.first : Int) (D6.inn l (rd (D6.cuts l) i)) (s.out.length - s.first) s.first s.out (by omega) (by omega)
   have e : D6.one l (rd (D6.cuts l) i) (rd (D6.cuts l) (i + 1)) s = ⟨D6.grow s.out s.first (rd (D6.cuts l) (i + 1)), s.last, s.first, rd (D6.cuts l) (i + 1)⟩ := by unfold Dim.one; rw [q]; rfl
   obtain ⟨n0, h0⟩ := w2d k (i + 1) (D6.one l (rd (D6.cuts l) i) (rd (D6.cuts l) (i + 1)) s) (by omega) (by omega) (by omega) (by rw [e]; exact hla) (by rw [e]; simpa [Dim.grow_length] using hf)
   refine ⟨n0 + n5 + 1 + n3 + 1, ?_⟩
   rw [st0 (n0 + n5 + 1), Zv]
   simp only [Bool.and_eq_true, decide_eq_true_eq] at q
   obtain ⟨q1, q2, q3⟩ := q
   have q3' : Qi s.last (Xd (D6.inn l (rd (D6.cuts l) i))) = true := q3
   rw [hsd] at q1
   simp (disch := omega) only [Xw, Zg, Zm, Zo, Yf, q0', q2, q3', w1, w2, cond_true, cond_false]
   rw [← hsd, h5 n0]
   simp only [okF, q0, cond_false]; simp only [Dim.go]
   rw [e] at h0 ⊢
   exact h0
  ·obtain ⟨n4, h4⟩ := v2j l hl (i + 1) (by omega) (rd (D6.cuts l) i) (rd (D6.cuts l) (i + 1)) (D6.sec l (rd (D6.cuts l) i)) (D6.sec l (rd (D6.cuts l) i)) (s.out.length : Int) (D6.inn l (rd (D6.cuts l) i)) hsl (D6.sec l (rd (D6.cuts l) i)).length 0 s.out (Nat.zero_add _) (by omega)
   simp only [List.drop_zero, y3e] at h4
   have e : D6.one l (rd (D6.cuts l) i) (rd (D6.cuts l) (i + 1)) s = ⟨s.out ++ (D6.sec l (rd (D6.cuts l) i)).map (D6.put (rd (D6.cuts l) i) (rd (D6.cuts l) (i + 1))), D6.sec l (rd (D6.cuts l) i), s.out.length, rd (D6.cuts l) (i + 1)⟩ := by unfold Dim.one; rw [q]; rfl
   obtain ⟨n0, h0⟩ := w2d k (i + 1) (D6.one l (rd (D6.cuts l) i) (rd (D6.cuts l) (i + 1)) s) (by omega) (by omega) (by omega) (by rw [e]; exact hsl) (by rw [e]; simp)
   have hg : Yj (Xw l) 1 (.to (.h3 ((i + 1 : Nat) : Int) (l.length : Int) s.out s.last (s.first : Int) s.fin ((D6.cuts l).length) (Kp (Uw (D6.ends l))) (rd (D6.cuts l) i) (rd (D6.cuts l) (i + 1)) (D6.inn l (rd (D6.cuts l) i)))) = .to (.h4 (rd (D6.cuts l) i) (rd (D6.cuts l) (i + 1)) (D6.sec l (rd (D6.cuts l) i)) ((D6.sec l (rd (D6.cuts l) i)).length : Int) 0 (D6.sec l (rd (D6.cuts l) i)) ((i + 1 : Nat) : Int) s.out (D6.sec l (rd (D6.cuts l) i)) (s.out.length : Int) ((D6.cuts l).length) (Kp (Uw (D6.ends l))) (D6.inn l (rd (D6.cuts l) i))) := by
    rw [show (1 : Nat) = 0 + 1 from rfl, Zv]
    rw [hsd] at q ⊢
    have e3 : D6.same s.last (Xd (D6.inn l (rd (D6.cuts l) i))) = Qi s.last (Xd (D6.inn l (rd (D6.cuts l) i))) := rfl
    rw [e3] at q
    by_cases q1 : 0 < (Xd (D6.inn l (rd (D6.cuts l) i))).length
    ·rw [decide_eq_true q1, Bool.true_and] at q
     rcases Yr (s.fin == rd (D6.cuts l) i) with q2 | q2
     ·rw [q2, Bool.true_and] at q
      simp (disch := omega) only [Xw, Zg, Zm, Zo, Yf, q0', q2, q, w1, w2, cond_true, cond_false]
      rfl
     ·simp (disch := omega) only [Xw, Zg, Zm, Zo, Yf, q0', q2, w1, w2, cond_true, cond_false]
      rfl
    ·simp (disch := omega) only [Xw, Zg, Zm, Zo, Xx, q0', w1, w2, cond_true, cond_false]
     rfl
   refine ⟨n0 + n4 + 1 + n3 + 1, ?_⟩
   rw [st0 (n0 + n4 + 1), y9j _ (n0 + n4) 1, hg, h4 n0]
   simp only [okF, q0, cond_false]; simp only [Dim.go]
   rw [e] at h0 ⊢
   exact h0
theorem v2l : ∀ (k i : Nat) (acc : List Int), i + k = l.length → acc = D6.ends (l.take i) → ∃ n, Yj (Xw l) n (.to (.h1 (i : Int) acc)) = .ret ((bif okF l ((D6.cuts l).length - 1) 0 then y7r l (D6.go l ((D6.cuts l).length - 1) 0 ⟨[], [], 0, 0⟩).out else sckErr))
 | 0, i, acc, h, ha => by
  have e : acc = D6.ends l := by rw [ha, List.take_of_length_le (by omega)]
  subst e
  have hle := D6.ends_length l
  obtain ⟨n, hn⟩ := w2d l hl ((D6.cuts l).length - 1) 0 ⟨[], [], 0, 0⟩ (by omega) (Nat.zero_le _) (Nat.zero_le _) (Nat.zero_le _) (Nat.zero_le _)
  refine ⟨n + 1, ?_⟩
  rw [Zv]
  simp (disch := omega) only [Xw, z4i, y4c, w5z, Zo, Ym, Yg, decide_true, cond_true, cond_false]
  exact hn
 | k + 1, i, acc, h, ha => by
  have hle := D6.ends_length (l.take i)
  have fN : acc.length ≤ 2 * i := by rw [ha, hle]; simp; omega
  obtain ⟨n, hn⟩ := v2l k (i + 1) (acc ++ D6.ends [rd l i]) (by omega) (by
   rw [ha, List.take_add_one]
   have : l[i]? = some (rd l i) := by rw [Xi (show i < l.length by omega)]; exact List.getElem?_eq_getElem _
   rw [this, D6.ends_append]; rfl)
  refine ⟨n + 1, ?_⟩
  rw [Zv]
  simp (disch := omega) only [Xw, Zg, Zm, Zt, Yy, Ye, Ym, Yg, Zr, Zj, Zw, Ya, Zk, Nat.zero_add, decide_true, Bool.and_true, Bool.true_and, cond_true, cond_false]
  exact hn
theorem v2m : ∀ (k i : Nat), i + k = l.length → (∀ s ∈ l.take i, z6w s = true) → ∃ n, Yj (Xw l) n (.to (.h0 (i : Int))) = .ret (bif l.all z6w then (bif okF l ((D6.cuts l).length - 1) 0 then y7r l (D6.go l ((D6.cuts l).length - 1) 0 ⟨[], [], 0, 0⟩).out else sckErr) else sckErr)
 | 0, i, h, ht => by
  have hv : l.all z6w = true := List.all_eq_true.2 fun s hs => ht s (by rw [List.take_of_length_le (by omega)]; exact hs)
  obtain ⟨n, hn⟩ := v2l l hl l.length 0 [] (Nat.zero_add _) rfl
  refine ⟨n + 1, ?_⟩
  rw [Zv, hv, cond_true]
  simp (disch := omega) only [Xw, Zo, cond_false]
  exact hn
 | k + 1, i, h, ht => by
  have hi : i < l.length := by omega
  have hs : Xw l (.h0 (i : Int)) = bif z6w (rd l i) then .to (.h0 ((i + 1 : Nat) : Int)) else .ret sckErr := by
   have e : vl6V (rd l i).a (rd l i).b (rd l i).c (rd l i).d (rd l i).e (rd l i).f = z6w (rd l i) := rfl
   simp (disch := omega) only [Xw, e, x4f, w5r, x6u, Yy, Zj, Zw, Zk, Bool.and_true, cond_true, cond_false]
   rfl
  rcases Yr (z6w (rd l i)) with q | q
  ·obtain ⟨n, hn⟩ := v2m k (i + 1) (by omega) (fun s hs => by
    rw [List.take_add_one] at hs
    have e : l[i]? = some (rd l i) := by rw [Xi hi]; exact List.getElem?_eq_getElem _
    rw [e] at hs
    simp only [Option.toList_some, List.mem_append, List.mem_singleton] at hs
    rcases hs with hs | rfl
    ·exact ht s hs
    ·exact q)
   refine ⟨n + 1, ?_⟩
   rw [Zv, hs, q, cond_true]
   exact hn
  ·have hv : l.all z6w = false := Bool.eq_false_iff.2 fun e => by
    have := List.all_eq_true.1 e (rd l i) (by rw [Xi hi]; exact List.getElem_mem hi)
    rw [this] at q; cases q
   refine ⟨1, ?_⟩
   rw [Zv, hv, cond_false, hs, q, cond_false, Zp]
end
def Xn (l : List R6) : Int := bif decide (400 < l.length) then 4 else bif l.all z6w then (bif okF l ((D6.cuts l).length - 1) 0 then (bif decide (((D6.out l).length : Int) > 400) then 8 else bif Ky (D6.out l) l then 0 else 8) else 8) else 8
def w2f (l : List R6) : Bool := true
theorem v6i (l : List R6) : ∃ n, Yj (Xw l) n (z9b l) = .ret [.int .i64 (Xn l)] := by
 unfold z9b Xn
 by_cases h : 400 < l.length
 ·refine ⟨0, ?_⟩
  rw [decide_eq_true h, Yf (show (l.length : Int) > 400 by omega)]; rfl
 ·obtain ⟨n, hn⟩ := v2m l (by omega) l.length 0 (Nat.zero_add _) (fun s hs => by simp at hs)
  refine ⟨n, ?_⟩
  rw [decide_eq_false h, Xx (show ¬ (l.length : Int) > 400 by omega), cond_false, cond_false]
  rw [y3e] at hn
  rw [hn]
  unfold sckErr y7r
  cases l.all z6w <;> simp only [cond_true, cond_false]
  cases okF l ((D6.cuts l).length - 1) 0 <;> simp only [cond_true, cond_false]
  show Wu.ret (bif decide (((D6.out l).length : Int) > 400) then _ else bif Ky (D6.out l) l then _ else _) = _
  cases decide (((D6.out l).length : Int) > 400) <;> simp only [cond_true, cond_false]
  cases Ky (D6.out l) l <;> rfl
def fSck : List AVal → Option (AVal × Bool)
 | [a1] => match asL R6 a1 with
  | some (L1, g1, n1) => some (.int .i64 (Xn L1), isT R6 n1 g1 && w2f L1)
  | _ => none
 | _ => none
theorem v9k {S : Specs} (hS : Zu prog S) : Zu prog (S.with y8t fSck) := by
 refine z2m hS (by kernel_rfl) fun args v h => ?_
 unfold fSck at h
 split at h
 ·rename_i a1
  split at h
  ·rename_i L1 g1 n1 e1
   simp only [Option.some.injEq, Prod.mk.injEq, Bool.and_eq_true] at h
   obtain ⟨rfl, ho1, hw⟩ := h
   obtain ⟨N, hN⟩ := v6i L1
   exact ⟨_, _, (.cons (Yx e1 ho1) .nil), rfl, w7p L1 N _ hN, 3, rfl⟩
  ·cases h
 ·cases h
def T8 : Specs := T7v.with y8t fSck
theorem Qb : Zu prog T8 := v9k Vz
end Go.Am
namespace Go.Am
open Go.Proofs.Tryz
open Go.Proofs
inductive rchkS where
 | h0 (v3 : Int)
def v7k (l0 : List R6) : rchkS → Cfg
 | .h0 v3 => ⟨⟨34, 0, true⟩, none, (Yw prog 64 [1, 1, 0, 1, 0, 0] 0), none, (Zy prog 15), ⟨Xp [(0, (.dat l0.length (Zz l0))), (3, (ii v3))], Ux [] 0, 0, [], true⟩, [], .leaf⟩
def v3q : List (Option (List Nat)) := [some [0, 3]]
def v3r : List (Option (List Nat)) := []
def Qr (l0 : List R6) : rchkS → Wu rchkS
 | .h0 v3 => (bif (decide (v3 < (l0.length : Int))) then (bif ((decide (0 ≤ v3 ∧ v3 < (l0.length : Int))) && true) then (bif (decide ((rd l0 v3.toNat).a ≥ (-1000000))) then (bif (decide ((rd l0 v3.toNat).b ≥ (-1000000))) then (bif (decide ((rd l0 v3.toNat).c ≥ (-1000000))) then (bif (decide ((rd l0 v3.toNat).a ≤ 1000000)) then (bif (decide ((rd l0 v3.toNat).b ≤ 1000000)) then (bif (decide ((rd l0 v3.toNat).c ≤ 1000000)) then (bif (decide ((rd l0 v3.toNat).d ≥ (-1000000))) then (bif (decide ((rd l0 v3.toNat).e ≥ (-1000000))) then (bif (decide ((rd l0 v3.toNat).f ≥ (-1000000))) then (bif (decide ((rd l0 v3.toNat).d ≤ 1000000)) then (bif (decide ((rd l0 v3.toNat).e ≤ 1000000)) then (bif (decide ((rd l0 v3.toNat).f ≤ 1000000)) then (bif (decide ((rd l0 v3.toNat).a < (rd l0 v3.toNat).d)) then (bif (decide ((rd l0 v3.toNat).b < (rd l0 v3.toNat).e)) then (bif (!(decide ((rd l0 v3.toNat).c < (rd l0 v3.toNat).f))) then (.ret [(.int .i64 8)]) else (.to (.h0 (IntKind.wrap .i64 (v3 + 1))))) else (.ret [(.int .i64 8)])) else (.ret [(.int .i64 8)])) else (.ret [(.int .i64 8)])) else (.ret [(.int .i64 8)])) else (.ret [(.int .i64 8)])) else (.ret [(.int .i64 8)])) else (.ret [(.int .i64 8)])) else (.ret [(.int .i64 8)])) else (.ret [(.int .i64 8)])) else (.ret [(.int .i64 8)])) else (.ret [(.int .i64 8)])) else (.ret [(.int .i64 8)])) else (.ret [(.int .i64 8)])) else (.ret [(.int .i64 8)])) else .stuck) else (bif (z9o 2 (cvT l0) ([] : List R6)) then (bif (!(y9c 2 (cvT l0) ([] : List R6))) then (.ret [(.int .i64 8)]) else (bif (Uu (cvT (z4h 2 (cvT l0) ([] : List R6))) (cvT l0)) then (bif (!(Ky (cvT (z4h 2 (cvT l0) ([] : List R6))) (cvT l0))) then (.ret [(.int .i64 8)]) else (.ret [(.int .i64 0)])) else .stuck)) else .stuck))
def z5j (l0 : List R6) : Wu rchkS := (bif (decide ((l0.length : Int) > 400)) then (.ret [(.int .i64 4)]) else (.to (.h0 0)))
theorem x1p (l0 : List R6) : ∀ s, Wm prog (Zy prog 64) (v7k l0) (v7k l0 s) (Qr l0 s)
 | .h0 v3 => (lb (fun k0 => (lo fun aG => (lb (fun k1 => (lb (fun k2 => (lb (fun k3 => (lb (fun k4 => (lb (fun k5 => (lb (fun k6 => (lb (fun k7 => (lb (fun k8 => (lb (fun k9 => (lb (fun k10 => (lb (fun k11 => (lb (fun k12 => (lb (fun k13 => (lb (fun k14 => (lb (fun k15 => (lr 34 64 [1, 1, 0, 1, 0, 0, 1, 0, 0, 1, 0, 0] 1 15 [(2, (ii 8))] (sl Qb 158 [] ⟨[], [], [some [2]], []⟩ ⟨[], [], []⟩ (trs 60 []) (tt k15 (tt k14 (tt k13 (tt k12 (tt k11 (tt k10 (tt k9 (tt k8 (tt k7 (tt k6 (tt k5 (tt k4 (tt k3 (tt k2 (tt k1 (ww aG (tt k0 nn)))))))))))))))))))) (fun k15 => (sl Qb 162 [] ⟨[], [], v3q, v3r⟩ ⟨[], [], []⟩ (trs 59 [false]) (tt k15 (tt k14 (tt k13 (tt k12 (tt k11 (tt k10 (tt k9 (tt k8 (tt k7 (tt k6 (tt k5 (tt k4 (tt k3 (tt k2 (tt k1 (ww aG (tt k0 nn))))))))))))))))))))) (fun k14 => (lr 34 64 [1, 1, 0, 1, 0, 0, 1, 0, 0, 1, 0, 0] 1 15 [(2, (ii 8))] (sl Qb 158 [] ⟨[], [], [some [2]], []⟩ ⟨[], [], []⟩ (trs 52 [false, false, false, false, false, false, false, true]) (tt k14 (tt k13 (tt k12 (tt k11 (tt k10 (tt k9 (tt k8 (tt k7 (tt k6 (tt k5 (tt k4 (tt k3 (tt k2 (tt k1 (ww aG (tt k0 nn))))))))))))))))))))) (fun k13 => (lr 34 64 [1, 1, 0, 1, 0, 0, 1, 0, 0, 1, 0, 0] 1 15 [(2, (ii 8))] (sl Qb 158 [] ⟨[], [], [some [2]], []⟩ ⟨[], [], []⟩ (trs 45 [false, false, false, false, false, false, false, false, false, false, false, false, false, false, true]) (tt k13 (tt k12 (tt k11 (tt k10 (tt k9 (tt k8 (tt k7 (tt k6 (tt k5 (tt k4 (tt k3 (tt k2 (tt k1 (ww aG (tt k0 nn)))))))))))))))))))) (fun k12 => (lr 34 64 [1, 1, 0, 1, 0, 0, 1, 0, 0, 1, 0, 0] 1 15 [(2, (ii 8))] (sl Qb 158 [] ⟨[], [], [some [2]], []⟩ ⟨[], [], []⟩ (trs 38 [false, false, false, false, false, false, false, false, false, false, false, false, false, false, false, false, false, false, false, false, false, true]) (tt k12 (tt k11 (tt k10 (tt k9 (tt k8 (tt k7 (tt k6 (tt k5 (tt k4 (tt k3 (tt k2 (tt k1 (ww aG (tt k0 nn))))))))))))))))))) (fun k11 => (lr 34 64 [1, 1, 0, 1, 0, 0, 1, 0, 0, 1, 0, 0] 1 15 [(2, (ii 8))] (sl Qb 158 [] ⟨[], [], [some [2]], []⟩ ⟨[], [], []⟩ (trs 35 [false, false, false, false, false, false, false, false, false, false, false, false, false, false, false, false, false, false, false, false, false, false, false, false, true]) (tt k11 (tt k10 (tt k9 (tt k8 (tt k7 (tt k6 (tt k5 (tt k4 (tt k3 (tt k2 (tt k1 (ww aG (tt k0 nn)))))))))))))))))) (fun k10 => (lr 34 64 [1, 1, 0, 1, 0, 0, 1, 0, 0, 1, 0, 0] 1 15 [(2, (ii 8))] (sl Qb 158 [] ⟨[], [], [some [2]], []⟩ ⟨[], [], []⟩ (trs 32 [false, false, false, false, false, false, false, false, false, false, false, false, false, false, false, false, false, false, false, false, false, false, false, false, false, false, false, true]) (tt k10 (tt k9 (tt k8 (tt k7 (tt k6 (tt k5 (tt k4 (tt k3 (tt k2 (tt k1 (ww aG (tt k0 nn))))))))))))))))) (fun k9 => (lr 34 64 [1, 1, 0, 1, 0, 0, 1, 0, 0, 1, 0, 0] 1 15 [(2, (ii 8))] (sl Qb 158 [] ⟨[], [], [some [2]], []⟩ ⟨[], [], []⟩ (trs 29 [false, false, false, false, false, false, false, false, false, false, false, false, false, false, false, false, false, false, false, false, false, false, false, false, false, false, false, false, false, false, true]) (tt k9 (tt k8 (tt k7 (tt k6 (tt k5 (tt k4 (tt k3 (tt k2 (tt k1 (ww aG (tt k0 nn)))))))))))))))) (fun k8 => (lr 34 64 [1, 1, 0, 1, 0, 0, 1, 0, 0, 1, 0, 0] 1 15 [(2, (ii 8))] (sl Qb 158 [] ⟨[], [], [some [2]], []⟩ ⟨[], [], []⟩ (trs 25 [false, false, false, false, false, false, false, false, false, false, false, false, false, false, false, false, false, false, false, false, false, false, false, false, false, false, false, false, false, false, false, false, false, false, true]) (tt k8 (tt k7 (tt k6 (tt k5 (tt k4 (tt k3 (tt k2 (tt k1 (ww aG (tt k0 nn))))))))))))))) (fun k7 => (lr 34 64 [1, 1, 0, 1, 0, 0, 1, 0, 0, 1, 0, 0] 1 15 [(2, (ii 8))] (sl Qb 158 [] ⟨[], [], [some [2]], []⟩ ⟨[], [], []⟩ (trs 21 [false, false, false, false, false, false, false, false, false, false, false, false, false, false, false, false, false, false, false, false, false, false, false, false, false, false, false, false, false, false, false, false, false, false, false, false, false, false, true]) (tt k7 (tt k6 (tt k5 (tt k4 (tt k3 (tt k2 (tt k1 (ww aG (tt k0 nn)))))))))))))) (fun k6 => (lr 34 64 [1, 1, 0, 1, 0, 0, 1, 0, 0, 1, 0, 0] 1 15 [(2, (ii 8))] (sl Qb 117 [] ⟨[], [], [some [2]], []⟩ ⟨[], [], []⟩ (trs 18 [false, false, false, false, false, false, false, false, false, false, false, false, false, false, false, false, false, false, false, false, false, false, false, false, true]) (tt k6 (tt k5 (tt k4 (tt k3 (tt k2 (tt k1 (ww aG (tt k0 nn))))))))))))) (fun k5 => (lr 34 64 [1, 1, 0, 1, 0, 0, 1, 0, 0, 1, 0, 0] 1 15 [(2, (ii 8))] (sl Qb 117 [] ⟨[], [], [some [2]], []⟩ ⟨[], [], []⟩ (trs 15 [false, false, false, false, false, false, false, false, false, false, false, false, false, false, false, false, false, false, false, false, false, false, false, false, false, false, false, true]) (tt k5 (tt k4 (tt k3 (tt k2 (tt k1 (ww aG (tt k0 nn)))))))))))) (fun k4 => (lr 34 64 [1, 1, 0, 1, 0, 0, 1, 0, 0, 1, 0, 0] 1 15 [(2, (ii 8))] (sl Qb 117 [] ⟨[], [], [some [2]], []⟩ ⟨[], [], []⟩ (trs 12 [false, false, false, false, false, false, false, false, false, false, false, false, false, false, false, false, false, false, false, false, false, false, false, false, false, false, false, false, false, false, true]) (tt k4 (tt k3 (tt k2 (tt k1 (ww aG (tt k0 nn))))))))))) (fun k3 => (lr 34 64 [1, 1, 0, 1, 0, 0, 1, 0, 0, 1, 0, 0] 1 15 [(2, (ii 8))] (sl Qb 117 [] ⟨[], [], [some [2]], []⟩ ⟨[], [], []⟩ (trs 9 [false, false, false, false, false, false, false, false, false, false, false, false, false, false, false, false, false, false, false, false, false, false, false, false, false, false, false, false, false, false, false, false, false, true]) (tt k3 (tt k2 (tt k1 (ww aG (tt k0 nn)))))))))) (fun k2 => (lr 34 64 [1, 1, 0, 1, 0, 0, 1, 0, 0, 1, 0, 0] 1 15 [(2, (ii 8))] (sl Qb 117 [] ⟨[], [], [some [2]], []⟩ ⟨[], [], []⟩ (trs 5 [false, false, false, false, false, false, false, false, false, false, false, false, false, false, false, false, false, false, false, false, false, false, false, false, false, false, false, false, false, false, false, false, false, false, false, false, false, true]) (tt k2 (tt k1 (ww aG (tt k0 nn))))))))) (fun k1 => (lr 34 64 [1, 1, 0, 1, 0, 0, 1, 0, 0, 1, 0, 0] 1 15 [(2, (ii 8))] (sl Qb 117 [] ⟨[], [], [some [2]], []⟩ ⟨[], [], []⟩ [true, false, false, false, false, false, false, false, false, false, false, false, false, false, false, false, false, false, false, false, false, false, false, false, false, false, false, false, false, false, false, false, false, false, false, false, false, false, false, false, false, false, true] (tt k1 (ww aG (tt k0 nn))))))))) (fun k0 => (lo fun aG => (lb (fun k1 => (lr 34 64 [1, 1, 1, 1, 0, 1, 0, 0] 1 15 [(2, (ii 8))] (sl Qb 37 [] ⟨[], [], [some [2]], []⟩ ⟨[], [], []⟩ [false, true, true, true, true, true] (tt k1 (pp (pp (xr l0) (pp (xI R6 0 (fun _ => [])) (xw aG))) (tt k0 nn)))))) (fun k1 => (lo fun aU => (lb (fun k2 => (lr 34 64 [1, 1, 1, 1, 0, 1, 0, 0] 1 15 [(2, (ii 8))] (sl Qb 37 [] ⟨[], [], [some [2]], []⟩ ⟨[], [], []⟩ [false, false, false, false, false, true] (tt k2 (pp (pp (xI R6 (z4h 2 (cvT l0) ([] : List R6)).length (Zz (z4h 2 (cvT l0) ([] : List R6)))) (pp (xr l0) (xw aU))) (tt k1 (pp (pp (xr l0) (pp (xI R6 0 (fun _ => [])) (xw aG))) (tt k0 nn)))))))) (fun k2 => (lr 34 3 [1, 1, 1, 1, 1, 1, 0] 1 15 [(2, (ii 0))] (sl Qb 38 [] ⟨[], [], [some [2]], []⟩ ⟨[], [], []⟩ [false, false, false, false, false, false] (tt k2 (pp (pp (xI R6 (z4h 2 (cvT l0) ([] : List R6)).length (Zz (z4h 2 (cvT l0) ([] : List R6)))) (pp (xr l0) (xw aU))) (tt k1 (pp (pp (xr l0) (pp (xI R6 0 (fun _ => [])) (xw aG))) (tt k0 nn)))))))))))))))
theorem y8h (l0 : List R6) : Wm prog (Zy prog 64) (v7k l0) (Zd prog 64 [(.dat l0.length (Zz l0))] true []) (z5j l0) := (lb (fun k0 => (lr 34 64 [1, 0, 1, 0, 0] 1 15 [(2, (ii 4))] (sl Qb 16 [] ⟨[], [], [some [2]], []⟩ ⟨[], [], []⟩ [true] (tt k0 nn)))) (fun k0 => (sl Qb 20 [] ⟨[], [], v3q, v3r⟩ ⟨[], [], []⟩ [false] (tt k0 nn))))
theorem w3m (l0 : List R6) (n : Nat) (vs : List AVal) (h : Yj (Qr l0) n (z5j l0) = .ret vs) : Kv prog (Zy prog 64) (Zd prog 64 [(.dat l0.length (Zz l0))] true []) vs := by
 have := Zn (x1p l0) n _ (y8h l0)
 rwa [h] at this
end Go.Am
namespace Go.Am
open Go.Proofs.Tryz
open Go.Proofs
def x7k (r : R6) : Bool := decide (r.a ≥ -1000000) && (decide (r.b ≥ -1000000) && (decide (r.c ≥ -1000000) && (decide (r.a ≤ 1000000) && (decide (r.b ≤ 1000000) && (decide (r.c ≤ 1000000) && (decide (r.d ≥ -1000000) && (decide (r.e ≥ -1000000) && (decide (r.f ≥ -1000000) && (decide (r.d ≤ 1000000) && (decide (r.e ≤ 1000000) && (decide (r.f ≤ 1000000) && (decide (r.a < r.d) && (decide (r.b < r.e) && decide (r.c < r.f))))))))))))))
def rckF (l : List R6) : Int := bif y9c 2 l [] then (bif Ky (z4h 2 l []) l then 0 else 8) else 8
def Xg (l : List R6) : Int := bif decide (400 < l.length) then 4 else bif l.all x7k then rckF l else 8
def w3k (l : List R6) : Bool := true
theorem x9h (k : Int) (l m : List R6) : (z4h k l m).length ≤ 400 ∨ y9c k l m = false := by
 unfold z4h y9c
 cases jsO k l m with
 | none => exact .inl (Nat.zero_le _)
 | some out =>
  by_cases h : (out.length : Int) ≤ 400
  ·left; show out.length ≤ 400; omega
  ·right; exact decide_eq_false h
section
variable (l : List R6) (hl : l.length ≤ 400)
include hl
theorem w3l : ∀ (k i : Nat), i + k = l.length → (∀ s ∈ l.take i, x7k s = true) → ∃ n, Yj (Qr l) n (.to (.h0 (i : Int))) = .ret [.int .i64 (bif l.all x7k then rckF l else 8)]
 | 0, i, h, ht => by
  have hv : l.all x7k = true := List.all_eq_true.2 fun s hs => ht s (by rw [List.take_of_length_le (by omega)]; exact hs)
  have w1 : z9o 2 l [] = true := decide_eq_true ⟨by omega, by simp⟩
  refine ⟨1, ?_⟩
  rw [Zv, hv, cond_true]
  unfold rckF
  rcases Yr (y9c 2 l []) with q | q
  ·have w2 : Uu (z4h 2 l []) l = true := decide_eq_true (by
    rcases x9h 2 l [] with h | h
    ·omega
    ·rw [h] at q; cases q)
   rcases Yr (Ky (z4h 2 l []) l) with q2 | q2 <;>
   simp (disch := omega) only [Qr, Zg, Zo, q, q2, w1, w2, Bool.not_true, Bool.not_false, cond_true, cond_false, Zp]
  ·simp (disch := omega) only [Qr, Zg, Zo, q, w1, Bool.not_true, Bool.not_false, cond_true, cond_false, Zp]
 | k + 1, i, h, ht => by
  have hi : i < l.length := by omega
  have hs : Qr l (.h0 (i : Int)) = bif x7k (rd l i) then .to (.h0 ((i + 1 : Nat) : Int)) else .ret [.int .i64 8] := by
   simp (disch := omega) only [Qr, x7k, x4g, x4f, w5r, Yy, Zj, Zw, Zk, Bool.and_true, cond_true, cond_false]
  rcases Yr (x7k (rd l i)) with q | q
  ·obtain ⟨n, hn⟩ := w3l k (i + 1) (by omega) (fun s hs => by
    rw [List.take_add_one] at hs
    have e : l[i]? = some (rd l i) := by rw [Xi hi]; exact List.getElem?_eq_getElem _
    rw [e] at hs
    simp only [Option.toList_some, List.mem_append, List.mem_singleton] at hs
    rcases hs with hs | rfl
    ·exact ht s hs
    ·exact q)
   refine ⟨n + 1, ?_⟩
   rw [Zv, hs, q, cond_true]
   exact hn
  ·have hv : l.all x7k = false := Bool.eq_false_iff.2 fun e => by
    have := List.all_eq_true.1 e (rd l i) (by rw [Xi hi]; exact List.getElem_mem hi)
    rw [this] at q; cases q
   refine ⟨1, ?_⟩
   rw [Zv, hv, cond_false, hs, q, cond_false, Zp]
end
theorem w8r (l : List R6) : ∃ n, Yj (Qr l) n (z5j l) = .ret [.int .i64 (Xg l)] := by
 unfold z5j Xg
 by_cases h : 400 < l.length
 ·refine ⟨0, ?_⟩
  rw [decide_eq_true h, Yf (show (l.length : Int) > 400 by omega)]; rfl
 ·obtain ⟨n, hn⟩ := w3l l (by omega) l.length 0 (Nat.zero_add _) (fun s hs => by simp at hs)
  refine ⟨n, ?_⟩
  rw [decide_eq_false h, Xx (show ¬ (l.length : Int) > 400 by omega), cond_false, cond_false]
  exact hn
def fRck : List AVal → Option (AVal × Bool)
 | [a1] => match asL R6 a1 with
  | some (L1, g1, n1) => some (.int .i64 (Xg L1), isT R6 n1 g1 && w3k L1)
  | _ => none
 | _ => none
theorem v9o {S : Specs} (hS : Zu prog S) : Zu prog (S.with w4f fRck) := by
 refine z2m hS (by kernel_rfl) fun args v h => ?_
 unfold fRck at h
 split at h
 ·rename_i a1
  split at h
  ·rename_i L1 g1 n1 e1
   simp only [Option.some.injEq, Prod.mk.injEq, Bool.and_eq_true] at h
   obtain ⟨rfl, ho1, hw⟩ := h
   obtain ⟨N, hN⟩ := w8r L1
   exact ⟨_, _, (.cons (Yx e1 ho1) .nil), rfl, w3m L1 N _ hN, 3, rfl⟩
  ·cases h
 ·cases h
def T9 : Specs := T8.with w4f fRck
theorem Vk : Zu prog T9 := v9o Qb
end Go.Am
namespace Go.Am
open Go.Proofs Go.Sort Go.Shelf Go.RowKit Go.Lib
def pt (L : List R2) (y : Int) : Prop := ∃ s ∈ L, s.a ≤ y ∧ y < s.b
structure Can (L : List R2) : Prop where
 pos : ∀ s ∈ L, s.a < s.b
 sep : L.Pairwise fun s t => s.b < t.a
theorem Can.nil : Can [] := ⟨by simp, .nil⟩
theorem Can.tail {s : R2} {L : List R2} (h : Can (s :: L)) : Can L := ⟨fun t ht => h.pos t (List.mem_cons_of_mem _ ht), (List.pairwise_cons.1 h.sep).2⟩
theorem Can.head {s : R2} {L : List R2} (h : Can (s :: L)) : ∀ t ∈ L, s.b < t.a := (List.pairwise_cons.1 h.sep).1
theorem v5k {s : R2} {L : List R2} (h : Can (s :: L)) {y : Int} (hy : pt (s :: L) y) : s.a ≤ y := by
 obtain ⟨t, ht, h1, h2⟩ := hy
 rcases List.mem_cons.1 ht with rfl | ht
 ·exact h1
 ·have := h.head t ht; have := h.pos s (by simp); omega
theorem v5l : ∀ (L M : List R2), Can L → Can M → (∀ y, pt L y ↔ pt M y) → L = M
 | [], [], _, _, _ => rfl
 | [], t :: M, _, hM, h => by
  have := (h t.a).2 ⟨t, by simp, Int.le_refl _, hM.pos t (by simp)⟩
  obtain ⟨s, hs, _⟩ := this; cases hs
 | s :: L, [], hL, _, h => by
  have := (h s.a).1 ⟨s, by simp, Int.le_refl _, hL.pos s (by simp)⟩
  obtain ⟨s, hs, _⟩ := this; cases hs
 | s :: L, t :: M, hL, hM, h => by
  have p1 := hL.pos s (by simp)
  have p2 := hM.pos t (by simp)
  have a1 : t.a ≤ s.a := v5k hM ((h s.a).1 ⟨s, by simp, Int.le_refl _, p1⟩)
  have a2 : s.a ≤ t.a := v5k hL ((h t.a).2 ⟨t, by simp, Int.le_refl _, p2⟩)
  have b1 : ¬ s.b < t.b := fun hb => by
   obtain ⟨u, hu, h1, h2⟩ := (h s.b).2 ⟨t, by simp, by omega, hb⟩
   rcases List.mem_cons.1 hu with rfl | hu
   ·omega
   ·have := hL.head u hu; omega
  have b2 : ¬ t.b < s.b := fun hb => by
   obtain ⟨u, hu, h1, h2⟩ := (h t.b).1 ⟨s, by simp, by omega, hb⟩
   rcases List.mem_cons.1 hu with rfl | hu
   ·omega
   ·have := hM.head u hu; omega
  have e : s = t := by
   obtain ⟨sa, sb⟩ := s; obtain ⟨ta, tb⟩ := t
   simp only at a1 a2 b1 b2
   have : sa = ta := by omega
   have : sb = tb := by omega
   subst_vars; rfl
  subst e
  congr 1
  refine v5l L M hL.tail hM.tail fun y => ⟨fun hy => ?_, fun hy => ?_⟩
  ·obtain ⟨u, hu, h1, h2⟩ := hy
   have g := hL.head u hu
   obtain ⟨v, hv, h3, h4⟩ := (h y).1 ⟨u, by simp [hu], h1, h2⟩
   rcases List.mem_cons.1 hv with rfl | hv
   ·omega
   ·exact ⟨v, hv, h3, h4⟩
  ·obtain ⟨u, hu, h1, h2⟩ := hy
   have g := hM.head u hu
   obtain ⟨v, hv, h3, h4⟩ := (h y).2 ⟨u, by simp [hu], h1, h2⟩
   rcases List.mem_cons.1 hv with rfl | hv
   ·omega
   ·exact ⟨v, hv, h3, h4⟩
def push (out : List R2) (x x' : Int) : List R2 :=
 bif decide (0 < out.length) && ((rd out (out.length - 1)).b == x) then out.set (out.length - 1) ⟨(rd out (out.length - 1)).a, x'⟩ else out ++ [⟨x, x'⟩]
theorem w3p (out : List R2) (s : R2) (x x' : Int) : push (out ++ [s]) x x' = bif s.b == x then out ++ [⟨s.a, x'⟩] else out ++ [s] ++ [⟨x, x'⟩] := by
 have e : rd (out ++ [s]) ((out ++ [s]).length - 1) = s := by
  rw [Ws (by simp)]; simp [rd]
 unfold push
 rw [e, decide_eq_true (by simp), Bool.true_and]
 cases (s.b == x)
 ·rfl
 ·simp
theorem x5n {out : List R2} {x x' : Int} (hc : Can out) (hb : ∀ s ∈ out, s.b ≤ x) (hx : x < x') :
  Can (push out x x') ∧ (∀ s ∈ push out x x', s.b ≤ x') ∧ ∀ y, pt (push out x x') y ↔ pt out y ∨ (x ≤ y ∧ y < x') := by
 rcases List.eq_nil_or_concat out with rfl | ⟨L, s, rfl⟩
 ·refine ⟨⟨?_, ?_⟩, ?_, fun y => ?_⟩
  ·intro s hs; simp [push] at hs; subst hs; exact hx
  ·simp [push]
  ·intro s hs; simp [push] at hs; subst hs; exact Int.le_refl _
  ·simp [push, pt]
 ·rw [List.concat_eq_append] at *
  rw [w3p]
  have hs := hb s (by simp)
  have hp := hc.pos s (by simp)
  have sep := List.pairwise_append.1 hc.sep
  rcases Yr (s.b == x) with q | q
  ·rw [q, cond_true]
   have q : s.b = x := by simpa using q
   refine ⟨⟨?_, ?_⟩, ?_, fun y => ?_⟩
   ·intro t ht
    rcases List.mem_append.1 ht with ht | ht
    ·exact hc.pos t (by simp [ht])
    ·rw [List.mem_singleton.1 ht]; show s.a < x'; omega
   ·refine List.pairwise_append.2 ⟨sep.1, List.pairwise_singleton _ _, fun t ht u hu => ?_⟩
    rw [List.mem_singleton.1 hu]
    exact sep.2.2 t ht s (by simp)
   ·intro t ht
    rcases List.mem_append.1 ht with ht | ht
    ·have := hb t (by simp [ht]); omega
    ·rw [List.mem_singleton.1 ht]; exact Int.le_refl _
   ·constructor
    ·rintro ⟨t, ht, h1, h2⟩
     rcases List.mem_append.1 ht with ht | ht
     ·exact .inl ⟨t, by simp [ht], h1, h2⟩
     ·rw [List.mem_singleton.1 ht] at h1 h2
      by_cases hy : y < s.b
      ·exact .inl ⟨s, by simp, h1, hy⟩
      ·exact .inr ⟨by omega, h2⟩
    ·rintro (⟨t, ht, h1, h2⟩ | ⟨h1, h2⟩)
     ·rcases List.mem_append.1 ht with ht | ht
      ·exact ⟨t, by simp [ht], h1, h2⟩
      ·rw [List.mem_singleton.1 ht] at h1 h2
       exact ⟨⟨s.a, x'⟩, by simp, h1, by show y < x'; omega⟩
     ·exact ⟨⟨s.a, x'⟩, by simp, by show s.a ≤ y; omega, h2⟩
  ·rw [q, cond_false]
   have q : s.b ≠ x := by simpa using q
   refine ⟨⟨?_, ?_⟩, ?_, fun y => ?_⟩
   ·intro t ht
    rcases List.mem_append.1 ht with ht | ht
    ·exact hc.pos t ht
    ·rw [List.mem_singleton.1 ht]; exact hx
   ·refine List.pairwise_append.2 ⟨hc.sep, List.pairwise_singleton _ _, fun t ht u hu => ?_⟩
    rw [List.mem_singleton.1 hu]
    show t.b < x
    rcases List.mem_append.1 ht with h | h
    ·have h1 := sep.2.2 t h s (by simp); omega
    ·rw [List.mem_singleton.1 h]; omega
   ·intro t ht
    rcases List.mem_append.1 ht with ht | ht
    ·have := hb t ht; omega
    ·rw [List.mem_singleton.1 ht]; exact Int.le_refl _
   ·constructor
    ·rintro ⟨t, ht, h1, h2⟩
     rcases List.mem_append.1 ht with ht | ht
     ·exact .inl ⟨t, ht, h1, h2⟩
     ·rw [List.mem_singleton.1 ht] at h1 h2
      exact .inr ⟨h1, h2⟩
    ·rintro (⟨t, ht, h1, h2⟩ | ⟨h1, h2⟩)
     ·exact ⟨t, List.mem_append.2 (.inl ht), h1, h2⟩
     ·exact ⟨⟨x, x'⟩, by simp, h1, h2⟩
theorem w9v {l : List Int} (h : l.Pairwise (· < ·)) {i j : Nat} (hij : i < j) (hj : j < l.length) : rd l i < rd l j := by
 rw [Xi (by omega), Xi hj]
 exact List.pairwise_iff_getElem.1 h i j (by omega) hj hij
theorem y6o (cuts : List Int) (ins : List Bool) (hc : cuts.Pairwise (· < ·)) : ∀ (k i : Nat) (out : List R2), i + k < cuts.length ∨ k = 0 → Can out → (∀ s ∈ out, s.b ≤ rd cuts i) →
  Can (w0z cuts ins k i out) ∧ ∀ y, pt (w0z cuts ins k i out) y ↔ pt out y ∨ ∃ j, i ≤ j ∧ j < i + k ∧ rd ins j = true ∧ rd cuts j ≤ y ∧ y < rd cuts (j + 1)
 | 0, i, out, h, ho, hb => ⟨ho, fun y => ⟨.inl, fun hy => hy.elim id fun ⟨j, h1, h2, _⟩ => by omega⟩⟩
 | k + 1, i, out, h, ho, hb => by
  have hlt : rd cuts i < rd cuts (i + 1) := w9v hc (Nat.lt_succ_self _) (by omega)
  obtain ⟨p1, p2, p3⟩ := x5n ho hb hlt
  have e : w0z cuts ins (k + 1) i out = w0z cuts ins k (i + 1) (bif rd ins i then push out (rd cuts i) (rd cuts (i + 1)) else out) := rfl
  rw [e]
  rcases Yr (rd ins i) with q | q
  ·rw [q, cond_true]
   obtain ⟨r1, r2⟩ := y6o cuts ins hc k (i + 1) (push out (rd cuts i) (rd cuts (i + 1))) (by omega) p1 p2
   refine ⟨r1, fun y => ?_⟩
   rw [r2, p3]
   constructor
   ·rintro ((h | h) | ⟨j, h1, h2, h3⟩)
    ·exact .inl h
    ·exact .inr ⟨i, Nat.le_refl _, by omega, q, h⟩
    ·exact .inr ⟨j, by omega, by omega, h3⟩
   ·rintro (h | ⟨j, h1, h2, h3⟩)
    ·exact .inl (.inl h)
    ·rcases Nat.eq_or_lt_of_le h1 with rfl | h1
     ·exact .inl (.inr h3.2)
     ·exact .inr ⟨j, h1, by omega, h3⟩
  ·rw [q, cond_false]
   obtain ⟨r1, r2⟩ := y6o cuts ins hc k (i + 1) out (by omega) ho (fun s hs => by have := hb s hs; omega)
   refine ⟨r1, fun y => ?_⟩
   rw [r2]
   constructor
   ·rintro (h | ⟨j, h1, h2, h3⟩)
    ·exact .inl h
    ·exact .inr ⟨j, by omega, by omega, h3⟩
   ·rintro (h | ⟨j, h1, h2, h3⟩)
    ·exact .inl h
    ·rcases Nat.eq_or_lt_of_le h1 with rfl | h1
     ·rw [q] at h3; cases h3.1
     ·exact .inr ⟨j, h1, by omega, h3⟩
theorem w6c {cuts : List Int} : ∀ (k : Nat), k < cuts.length → ∀ y, rd cuts 0 ≤ y → y < rd cuts k → ∃ j, j < k ∧ rd cuts j ≤ y ∧ y < rd cuts (j + 1)
 | 0, _, y, h1, h2 => by omega
 | k + 1, hk, y, h1, h2 => by
  by_cases h : rd cuts k ≤ y
  ·exact ⟨k, Nat.lt_succ_self _, h, h2⟩
  ·obtain ⟨j, h3, h4⟩ := w6c k (by omega) y h1 (by omega)
   exact ⟨j, by omega, h4⟩
theorem v1n (cuts : List Int) (hc : cuts.Pairwise (· < ·)) (P : Int → Bool) (S : List R2) (hS : ∀ s ∈ S, s.a ∈ cuts ∧ s.b ∈ cuts) (hP : ∀ y, P y = true ↔ pt S y) :
  Can (z8o cuts (cuts.map P)) ∧ ∀ y, pt (z8o cuts (cuts.map P)) y ↔ pt S y := by
 obtain ⟨r1, r2⟩ := y6o cuts (cuts.map P) hc (cuts.length - 1) 0 [] (by omega) .nil (by simp)
 refine ⟨r1, fun y => ?_⟩
 unfold z8o
 rw [r2]
 have hin : ∀ x, x ∈ cuts → ∃ i, i < cuts.length ∧ rd cuts i = x := fun x hx => by
  obtain ⟨i, hi, h⟩ := List.getElem_of_mem hx
  exact ⟨i, hi, by rw [Xi hi]; exact h⟩
 have hmap : ∀ j, j < cuts.length → rd (cuts.map P) j = P (rd cuts j) := fun j hj => by
  rw [Xi (by simpa using hj), Xi hj, List.getElem_map]
 have le_of : ∀ i j, i < cuts.length → j < cuts.length → i ≤ j → rd cuts i ≤ rd cuts j := fun i j hi hj hij => by
  rcases Nat.eq_or_lt_of_le hij with rfl | h
  ·exact Int.le_refl _
  ·exact Int.le_of_lt (w9v hc h hj)
 constructor
 ·rintro (⟨s, hs, _⟩ | ⟨j, h1, h2, h3, h4, h5⟩)
  ·cases hs
  ·have hj : j + 1 < cuts.length := by omega
   rw [hmap j (by omega)] at h3
   obtain ⟨s, hs, a1, a2⟩ := (hP _).1 h3
   obtain ⟨ca, cb⟩ := hS s hs
   obtain ⟨m, hm, em⟩ := hin s.b cb
   refine ⟨s, hs, by omega, ?_⟩
   have : j < m := by
    rcases Nat.lt_or_ge j m with h | h
    ·exact h
    ·have := le_of m j hm (by omega) h; omega
   have := le_of (j + 1) m hj hm this
   omega
 ·rintro ⟨s, hs, a1, a2⟩
  right
  obtain ⟨ca, cb⟩ := hS s hs
  obtain ⟨n, hn, en⟩ := hin s.a ca
  obtain ⟨m, hm, em⟩ := hin s.b cb
  have h0 := le_of 0 n (by omega) hn (Nat.zero_le _)
  obtain ⟨j, h1, h2, h3⟩ := w6c m hm y (by omega) (by omega)
  refine ⟨j, Nat.zero_le _, by omega, ?_, h2, h3⟩
  rw [hmap j (by omega), hP]
  refine ⟨s, hs, ?_, ?_⟩
  ·have : n ≤ j := by
    rcases Nat.lt_or_ge j n with h | h
    ·have := le_of (j + 1) n (by omega) hn h; omega
    ·exact h
   have := le_of n j hn (by omega) this
   omega
  ·omega
end Go.Am
namespace Go.Am
open Go.Proofs.Tryz
open Go.Proofs
inductive insS where
 | h0 (v5 : Int)
 | h1
 | h2 (cH : List Int)
def insC (l0 : List Int) (x1 : Int) : insS → Cfg
 | .h0 v5 => ⟨⟨49, 0, true⟩, none, (Yw prog 99 [1, 1, 0, 0, 0] 0), none, (Zy prog 3), ⟨Xp [(0, (.sla 0 1 0 l0.length (.un 1))), (1, (ii x1)), (5, (ii v5))], Ux [⟨rows l0.length (Zz l0), 3, some ⟨1, l0.length, (Zz l0)⟩⟩] 0, 1, [], true⟩, [], .leaf⟩
 | .h1 => ⟨⟨49, 0, true⟩, none, (Yw prog 99 [1, 1, 1, 0, 1, 0, 0] 1), none, (Zy prog 3), ⟨Xp [(4, (.sla 0 1 0 l0.length (.un 1)))], Ux [⟨rows l0.length (Zz l0), 3, some ⟨1, l0.length, (Zz l0)⟩⟩] 0, 1, [], true⟩, [], .leaf⟩
 | .h2 cH => ⟨⟨49, 0, true⟩, none, (Yw prog 3 [1, 1, 1, 1, 1, 1, 0] 1), none, (Zy prog 3), ⟨Xp [(4, (.sla 0 1 0 (l0.length + 1) (.un 1)))], Ux [⟨rows cH.length (Zz cH), 3, some ⟨1, cH.length, (Zz cH)⟩⟩] 0, 1, [], true⟩, [], .leaf⟩
def insN0 : List (Option (List Nat)) := [some [0, 1, 5]]
def insM0 : List (Option (List Nat)) := []
def insN1 : List (Option (List Nat)) := [some [4]]
def insM1 : List (Option (List Nat)) := []
def v8p : List (Option (List Nat)) := [some [4]]
def v8q : List (Option (List Nat)) := []
def z2k (l0 : List Int) (x1 : Int) : insS → Wu insS
 | .h0 v5 => (bif (decide (v5 < (l0.length : Int))) then (bif ((decide (0 ≤ v5 ∧ v5 < (l0.length : Int))) && true) then (bif (decide ((0 + v5.toNat) < l0.length)) then (bif (decide ((rd l0 (0 + v5.toNat)) < x1)) then (.to (.h0 (IntKind.wrap .i64 (v5 + 1)))) else (bif ((rd l0 (0 + v5.toNat)) == x1) then (.to (.h1)) else (bif (Nat.beq 1 1 && ((decide (0 + l0.length = l0.length)) && decide ((l0.length + 1 + 1) * (8 + 1) ≤ Uq))) then (bif (true && ((decide (0 ≤ (IntKind.wrap .i64 (v5 + 1)))) && (decide ((l0.length + 1) ≤ (l0.length + 1)) && decide ((Int.toNat (IntKind.wrap .i64 (v5 + 1))) ≤ (l0.length + 1))))) then (bif (true && ((decide (0 ≤ v5)) && (decide ((l0.length + 1) ≤ (l0.length + 1)) && decide (v5.toNat ≤ (l0.length + 1))))) then (bif (decide ((0 + v5.toNat) + ((l0.length + 1) - v5.toNat) ≤ (l0.length + 1))) then (bif (decide ((0 + (Int.toNat (IntKind.wrap .i64 (v5 + 1)))) + ((l0.length + 1) - (Int.toNat (IntKind.wrap .i64 (v5 + 1)))) ≤ (l0.length + 1))) then (bif ((decide (0 ≤ v5 ∧ v5 < (((l0.length + 1) : Nat) : Int))) && true) then (bif (decide ((0 + v5.toNat) < (l0.length + 1))) then (.to (.h2 ((z3m (l0 ++ [0]) (0 + (Int.toNat (IntKind.wrap .i64 (v5 + 1)))) (Nat.min ((l0.length + 1) - v5.toNat) ((l0.length + 1) - (Int.toNat (IntKind.wrap .i64 (v5 + 1))))) (Vs (l0 ++ [0]) (0 + v5.toNat) ((l0.length + 1) - v5.toNat))).set (0 + v5.toNat) x1))) else .stuck) else .stuck) else .stuck) else .stuck) else .stuck) else .stuck) else .stuck))) else .stuck) else .stuck) else (bif (Nat.beq 1 1 && ((decide (0 + l0.length = l0.length)) && decide ((l0.length + 1 + 1) * (8 + 1) ≤ Uq))) then (bif (true && ((decide (0 ≤ (IntKind.wrap .i64 (v5 + 1)))) && (decide ((l0.length + 1) ≤ (l0.length + 1)) && decide ((Int.toNat (IntKind.wrap .i64 (v5 + 1))) ≤ (l0.length + 1))))) then (bif (true && ((decide (0 ≤ v5)) && (decide ((l0.length + 1) ≤ (l0.length + 1)) && decide (v5.toNat ≤ (l0.length + 1))))) then (bif (decide ((0 + v5.toNat) + ((l0.length + 1) - v5.toNat) ≤ (l0.length + 1))) then (bif (decide ((0 + (Int.toNat (IntKind.wrap .i64 (v5 + 1)))) + ((l0.length + 1) - (Int.toNat (IntKind.wrap .i64 (v5 + 1)))) ≤ (l0.length + 1))) then (bif ((decide (0 ≤ v5 ∧ v5 < (((l0.length + 1) : Nat) : Int))) && true) then (bif (decide ((0 + v5.toNat) < (l0.length + 1))) then (.to (.h2 ((z3m (l0 ++ [0]) (0 + (Int.toNat (IntKind.wrap .i64 (v5 + 1)))) (Nat.min ((l0.length + 1) - v5.toNat) ((l0.length + 1) - (Int.toNat (IntKind.wrap .i64 (v5 + 1))))) (Vs (l0 ++ [0]) (0 + v5.toNat) ((l0.length + 1) - v5.toNat))).set (0 + v5.toNat) x1))) else .stuck) else .stuck) else .stuck) else .stuck) else .stuck) else .stuck) else .stuck))
 | .h1 => (.to (.h1))
 | .h2 cH => (.to (.h2 cH))
def y6c (l0 : List Int) (x1 : Int) : Wu insS := (.to (.h0 0))
theorem x9i (l0 : List Int) (x1 : Int) : ∀ s, Wm prog (Zy prog 99) (insC l0 x1) (insC l0 x1 s) (z2k l0 x1 s)
 | .h0 v5 => (lb (fun k0 => (lo fun aG => (lo fun aT => (lb (fun k1 => (sl Vk 26 [] ⟨[0], [], insN0, insM0⟩ ⟨[], [], []⟩ (trs 7 []) (pp (fl l0 nn) (tt k1 (ww aT (ww aG (tt k0 nn))))))) (fun k1 => (lb (fun k2 => (sl Vk 40 [] ⟨[0], [], insN1, insM1⟩ ⟨[], [], []⟩ (trs 6 [false, true, true, true, true, true, true, true]) (pp (fl l0 nn) (tt k2 (ww aT (ww aG (tt k0 (tt k1 (ww aT (ww aG (tt k0 nn))))))))))) (fun k2 => (lo fun o0 => (lo fun o1 => (lo fun o2 => (lo fun o3 => (lo fun o4 => (lo fun o5 => (lo fun o6 => (sl Vk 58 [] ⟨[2], [], v8p, v8q⟩ ⟨[], [.rowed 1 ((z3m (l0 ++ [0]) (0 + (tn (wr (v5 + 1)))) (Nat.min ((l0.length + 1) - (tn v5)) ((l0.length + 1) - (tn (wr (v5 + 1))))) (Vs (l0 ++ [0]) (0 + (tn v5)) ((l0.length + 1) - (tn v5)))).set (0 + (tn v5)) x1).length (Zz ((z3m (l0 ++ [0]) (0 + (tn (wr (v5 + 1)))) (Nat.min ((l0.length + 1) - (tn v5)) ((l0.length + 1) - (tn (wr (v5 + 1))))) (Vs (l0 ++ [0]) (0 + (tn v5)) ((l0.length + 1) - (tn v5)))).set (0 + (tn v5)) x1))], []⟩ (trs 6 [false, true, true, true, true, true, true, false]) (pp (xL (l0.length + 1) ((z3m (l0 ++ [0]) (0 + (tn (wr (v5 + 1)))) (Nat.min ((l0.length + 1) - (tn v5)) ((l0.length + 1) - (tn (wr (v5 + 1))))) (Vs (l0 ++ [0]) (0 + (tn v5)) ((l0.length + 1) - (tn v5)))).set (0 + (tn v5)) x1).length) (pp (xS (l0.length + 1) (Ww (Wt (Za (Zz l0) 0 l0.length 1 [(ii 0)]) (0 + (tn (wr (v5 + 1)))) (Nat.min ((l0.length + 1) - (tn v5)) ((l0.length + 1) - (tn (wr (v5 + 1))))) (fun k => (Za (Zz l0) 0 l0.length 1 [(ii 0)]) ((0 + (tn v5)) + k))) (0 + (tn v5)) 0 [(ii x1)]) (Zz ((z3m (l0 ++ [0]) (0 + (tn (wr (v5 + 1)))) (Nat.min ((l0.length + 1) - (tn v5)) ((l0.length + 1) - (tn (wr (v5 + 1))))) (Vs (l0 ++ [0]) (0 + (tn v5)) ((l0.length + 1) - (tn v5)))).set (0 + (tn v5)) x1))) (pp (pp (xF (Ww (Wt (Za (Zz l0) 0 l0.length 1 [(ii 0)]) (0 + (tn (wr (v5 + 1)))) (Nat.min ((l0.length + 1) - (tn v5)) ((l0.length + 1) - (tn (wr (v5 + 1))))) (fun k => (Za (Zz l0) 0 l0.length 1 [(ii 0)]) ((0 + (tn v5)) + k))) (0 + (tn v5)) 0 [(ii x1)])) nn) (ww o6 (ww o5 (pp (pp (xG (Nat.beq 1 1)) (pp (xG (Nat.beq 1 1)) (pp (xw o4) (pp (xG (Nat.beq 1 1)) (pp (xG (Nat.beq 1 1)) (pp (xG (decide ((0 + (tn v5)) + ((l0.length + 1) - (tn v5)) ≤ (l0.length + 1)))) (xG (z4p 1 ((l0.length + 1) - (tn v5)) (fun k => (Za (Zz l0) 0 l0.length 1 [(ii 0)]) ((0 + (tn v5)) + k)))))))))) (ww o2 (ww o1 (ww o0 (tt k2 (ww aT (ww aG (tt k0 (tt k1 (ww aT (ww aG (tt k0 nn)))))))))))))))))))))))))))))))) (fun k0 => (lo fun o0 => (lo fun o1 => (lo fun o2 => (lo fun o3 => (lo fun o4 => (lo fun o5 => (lo fun o6 => (sl Vk 58 [] ⟨[2], [], v8p, v8q⟩ ⟨[], [.rowed 1 ((z3m (l0 ++ [0]) (0 + (tn (wr (v5 + 1)))) (Nat.min ((l0.length + 1) - (tn v5)) ((l0.length + 1) - (tn (wr (v5 + 1))))) (Vs (l0 ++ [0]) (0 + (tn v5)) ((l0.length + 1) - (tn v5)))).set (0 + (tn v5)) x1).length (Zz ((z3m (l0 ++ [0]) (0 + (tn (wr (v5 + 1)))) (Nat.min ((l0.length + 1) - (tn v5)) ((l0.length + 1) - (tn (wr (v5 + 1))))) (Vs (l0 ++ [0]) (0 + (tn v5)) ((l0.length + 1) - (tn v5)))).set (0 + (tn v5)) x1))], []⟩ [false, false, false, false, false, false, false, false, false, false, false, false, false, false] (pp (xL (l0.length + 1) ((z3m (l0 ++ [0]) (0 + (tn (wr (v5 + 1)))) (Nat.min ((l0.length + 1) - (tn v5)) ((l0.length + 1) - (tn (wr (v5 + 1))))) (Vs (l0 ++ [0]) (0 + (tn v5)) ((l0.length + 1) - (tn v5)))).set (0 + (tn v5)) x1).length) (pp (xS (l0.length + 1) (Ww (Wt (Za (Zz l0) 0 l0.length 1 [(ii 0)]) (0 + (tn (wr (v5 + 1)))) (Nat.min ((l0.length + 1) - (tn v5)) ((l0.length + 1) - (tn (wr (v5 + 1))))) (fun k => (Za (Zz l0) 0 l0.length 1 [(ii 0)]) ((0 + (tn v5)) + k))) (0 + (tn v5)) 0 [(ii x1)]) (Zz ((z3m (l0 ++ [0]) (0 + (tn (wr (v5 + 1)))) (Nat.min ((l0.length + 1) - (tn v5)) ((l0.length + 1) - (tn (wr (v5 + 1))))) (Vs (l0 ++ [0]) (0 + (tn v5)) ((l0.length + 1) - (tn v5)))).set (0 + (tn v5)) x1))) (pp (pp (xF (Ww (Wt (Za (Zz l0) 0 l0.length 1 [(ii 0)]) (0 + (tn (wr (v5 + 1)))) (Nat.min ((l0.length + 1) - (tn v5)) ((l0.length + 1) - (tn (wr (v5 + 1))))) (fun k => (Za (Zz l0) 0 l0.length 1 [(ii 0)]) ((0 + (tn v5)) + k))) (0 + (tn v5)) 0 [(ii x1)])) nn) (ww o6 (ww o5 (pp (pp (xG (Nat.beq 1 1)) (pp (xG (Nat.beq 1 1)) (pp (xw o4) (pp (xG (Nat.beq 1 1)) (pp (xG (Nat.beq 1 1)) (pp (xG (decide ((0 + (tn v5)) + ((l0.length + 1) - (tn v5)) ≤ (l0.length + 1)))) (xG (z4p 1 ((l0.length + 1) - (tn v5)) (fun k => (Za (Zz l0) 0 l0.length 1 [(ii 0)]) ((0 + (tn v5)) + k)))))))))) (ww o2 (ww o1 (ww o0 (tt k0 (tt k0 nn)))))))))))))))))))))
 | .h1 => (sl Vk 0 [] ⟨[0], [], insN1, insM1⟩ ⟨[], [], []⟩ [] (pp (fl l0 nn) nn))
 | .h2 cH => (sl Vk 0 [] ⟨[0], [], v8p, v8q⟩ ⟨[], [], []⟩ [] (pp (fl cH nn) nn))
theorem x2q (l0 : List Int) (x1 : Int) : Wm prog (Zy prog 99) (insC l0 x1) (Qh prog 99 [(.sla 0 1 0 l0.length (.un 1)), (.int .i64 x1)] 3 1 l0.length (Zz l0)) (y6c l0 x1) := (sl Vk 11 [] ⟨[0], [], insN0, insM0⟩ ⟨[], [], []⟩ [] (pp (fl l0 nn) nn))
theorem v0f (l0 : List Int) (x1 : Int) (n : Nat) (s : insS) (h : Yj (z2k l0 x1) n (y6c l0 x1) = .to s) : z3j prog (Qh prog 99 [(.sla 0 1 0 l0.length (.un 1)), (.int .i64 x1)] 3 1 l0.length (Zz l0)) (insC l0 x1 s) := by
 have := Zn (x9i l0 x1) n _ (x2q l0 x1)
 rwa [h] at this
inductive has6S where
 | h0 (v5 : Int)
def v8s (l0 : List R6) (aP : Int) (aQ : Int) (aR : Int) : has6S → Cfg
 | .h0 v5 => ⟨⟨18, 0, true⟩, none, (Yw prog 48 [1, 0, 1, 0, 0] 0), none, (Zy prog 3), ⟨Xp [(0, (.dat l0.length (Zz l0))), (3, (.ptr 0 0)), (5, (ii v5))], Ux [⟨[(ii aP), (ii aQ), (ii aR)], 65, none⟩] 0, 1, [], true⟩, [], .leaf⟩
def y1o : List (Option (List Nat)) := [some [0, 3, 5]]
def y1p : List (Option (List Nat)) := []
def z1l (l0 : List R6) (aP : Int) (aQ : Int) (aR : Int) : has6S → Wu has6S
 | .h0 v5 => (bif (decide (v5 < (l0.length : Int))) then (bif ((decide (0 ≤ v5 ∧ v5 < (l0.length : Int))) && true) then (bif (decide ((rd l0 v5.toNat).a ≤ aP)) then (bif (decide (aP < (rd l0 v5.toNat).d)) then (bif (decide ((rd l0 v5.toNat).b ≤ aQ)) then (bif (decide (aQ < (rd l0 v5.toNat).e)) then (bif (decide ((rd l0 v5.toNat).c ≤ aR)) then (bif (decide (aR < (rd l0 v5.toNat).f)) then (.ret [(.bool true)]) else (.to (.h0 (IntKind.wrap .i64 (v5 + 1))))) else (.to (.h0 (IntKind.wrap .i64 (v5 + 1))))) else (.to (.h0 (IntKind.wrap .i64 (v5 + 1))))) else (.to (.h0 (IntKind.wrap .i64 (v5 + 1))))) else (.to (.h0 (IntKind.wrap .i64 (v5 + 1))))) else (.to (.h0 (IntKind.wrap .i64 (v5 + 1))))) else .stuck) else (.ret [(.bool false)]))
def y1n (l0 : List R6) (aP : Int) (aQ : Int) (aR : Int) : Wu has6S := (.to (.h0 0))
theorem x2u (l0 : List R6) (aP : Int) (aQ : Int) (aR : Int) : ∀ s, Wm prog (Zy prog 48) (v8s l0 aP aQ aR) (v8s l0 aP aQ aR s) (z1l l0 aP aQ aR s)
 | .h0 v5 => (lb (fun k0 => (lo fun aG => (lb (fun k1 => (lb (fun k2 => (lb (fun k3 => (lb (fun k4 => (lb (fun k5 => (lb (fun k6 => (lr 18 48 [1, 0, 1, 0, 0, 1, 0, 0, 1, 0, 0] 1 3 [(4, (.bool true))] (sl Vk 19 [] ⟨[], [], [some [4]], []⟩ ⟨[], [], []⟩ (trs 32 []) (tt k6 (tt k5 (tt k4 (tt k3 (tt k2 (tt k1 (ww aG (tt k0 nn))))))))))) (fun k6 => (sl Vk 23 [] ⟨[0], [], y1o, y1p⟩ ⟨[], [], []⟩ (trs 31 [false]) (tt k6 (tt k5 (tt k4 (tt k3 (tt k2 (tt k1 (ww aG (tt k0 nn)))))))))))) (fun k5 => (sl Vk 23 [] ⟨[0], [], y1o, y1p⟩ ⟨[], [], []⟩ (trs 25 [false, false, false, false, false, false, false]) (tt k5 (tt k4 (tt k3 (tt k2 (tt k1 (ww aG (tt k0 nn))))))))))) (fun k4 => (sl Vk 23 [] ⟨[0], [], y1o, y1p⟩ ⟨[], [], []⟩ (trs 19 [false, false, false, false, false, false, false, false, false, false, false, false, false]) (tt k4 (tt k3 (tt k2 (tt k1 (ww aG (tt k0 nn)))))))))) (fun k3 => (sl Vk 23 [] ⟨[0], [], y1o, y1p⟩ ⟨[], [], []⟩ (trs 13 [false, false, false, false, false, false, false, false, false, false, false, false, false, false, false, false, false, false, false]) (tt k3 (tt k2 (tt k1 (ww aG (tt k0 nn))))))))) (fun k2 => (sl Vk 23 [] ⟨[0], [], y1o, y1p⟩ ⟨[], [], []⟩ (trs 7 [false, false, false, false, false, false, false, false, false, false, false, false, false, false, false, false, false, false, false, false, false, false, false, false, false]) (tt k2 (tt k1 (ww aG (tt k0 nn)))))))) (fun k1 => (sl Vk 23 [] ⟨[0], [], y1o, y1p⟩ ⟨[], [], []⟩ [true, false, false, false, false, false, false, false, false, false, false, false, false, false, false, false, false, false, false, false, false, false, false, false, false, false, false, false, false, false, false, false] (tt k1 (ww aG (tt k0 nn)))))))) (fun k0 => (lr 18 3 [1, 1, 1, 1, 1, 1, 0] 1 3 [(4, (.bool false))] (sl Vk 14 [] ⟨[], [], [some [4]], []⟩ ⟨[], [], []⟩ [false] (tt k0 nn)))))
theorem y9f (l0 : List R6) (aP : Int) (aQ : Int) (aR : Int) : Wm prog (Zy prog 48) (v8s l0 aP aQ aR) (Zd prog 48 [(.dat l0.length (Zz l0)), (.agg [(.int .i64 aP), (.int .i64 aQ), (.int .i64 aR)])] true []) (y1n l0 aP aQ aR) := (sl Vk 12 [] ⟨[0], [], y1o, y1p⟩ ⟨[], [], []⟩ [] nn)
theorem w4z (l0 : List R6) (aP : Int) (aQ : Int) (aR : Int) (n : Nat) (vs : List AVal) (h : Yj (z1l l0 aP aQ aR) n (y1n l0 aP aQ aR) = .ret vs) : Kv prog (Zy prog 48) (Zd prog 48 [(.dat l0.length (Zz l0)), (.agg [(.int .i64 aP), (.int .i64 aQ), (.int .i64 aR)])] true []) vs := by
 have := Zn (x2u l0 aP aQ aR) n _ (y9f l0 aP aQ aR)
 rwa [h] at this
end Go.Am
namespace Go.Am
abbrev v4h : Nat := 101
abbrev nGAt : Nat := 103
abbrev nGLen : Nat := 104
abbrev nGCnt : Nat := 102
abbrev nRRel : Nat := 71
abbrev v4a : Nat := 30
end Go.Am
namespace Go.Am
open Go.Proofs.Tryz
open Go.Proofs
theorem gro_le {P : Program} {f : FuncId} {args : List AVal} {ty : TypeId} {sz n : Nat} {g g' : Nat → List AVal} (h : ∀ k, k < n → g k = g' k) : z3j P (Qh P f args ty sz n g) (Qh P f args ty sz n g') := by
 unfold Qh
 cases P.funcs[f]? with
 | none => exact z3j.refl _
 | some fn =>
  refine w5c (fun t => .refl _) (fun b hb => ?_) (Nat.le_refl _) (fun b hb => ?_)
  ·obtain rfl : b = 0 := by omega
   have e : ∀ G : Nat → List AVal, Yk (w4j ty sz n G) 0 = some ⟨rows n (Rws.flat G).get, ty, some ⟨sz, n, .flat G⟩⟩ := fun G => Zf _ _ _
   rw [e, e]
   refine .rws ty sz n (.flat g) (.flat g') fun k hk => ?_
   show RLe (g k) (g' k)
   rw [h k hk]; exact RLe.refl _
  ·show Yk (Xh .leaf 0 _) b = none
   rw [Zx _ _ (by omega)]; rfl
def Wb : List Int → Int → List Int
 | [], x => [x]
 | y :: l, x => if y < x then y :: Wb l x else if y = x then y :: l else x :: y :: l
def Jx (L : List Int) (x : Int) : Bool := decide (L.length ≤ 100000)
theorem v8o : ∀ (L : List Int) (x : Int), Wb L x ≠ []
 | [], x => List.cons_ne_nil _ _
 | y :: l, x => by unfold Wb; split; · exact List.cons_ne_nil _ _
                   split <;> exact List.cons_ne_nil _ _
theorem v4s {L : List Int} {i : Nat} (x : Int) (h : i ≤ L.length) : (z3m (L ++ [0]) (0 + (i + 1)) (Nat.min ((L.length + 1) - i) ((L.length + 1) - (i + 1))) (Vs (L ++ [0]) (0 + i) ((L.length + 1) - i))).set (0 + i) x = L.take i ++ x :: L.drop i := by
 rw [Nat.zero_add, Nat.zero_add]; exact y1g L x i h
theorem v4r {L : List Int} {x : Int} (hl : L.length ≤ 100000) : ∀ (k i : Nat), i + k = L.length → ∃ N s, Yj (z2k L x) N (.to (.h0 (i : Int))) = .to s ∧ ((s = .h1 ∧ Wb (L.drop i) x = L.drop i) ∨ (s = .h2 (L.take i ++ Wb (L.drop i) x) ∧ (Wb (L.drop i) x).length = (L.drop i).length + 1))
 | 0, i, h => by
  have hw : IntKind.wrap .i64 ((i : Int) + 1) = ((i + 1 : Nat) : Int) := Zj (by omega)
  refine ⟨1, _, ?_, .inr ⟨rfl, by rw [List.drop_eq_nil_of_le (show L.length ≤ i by omega)]; rfl⟩⟩
  have e := v4s (L := L) (i := i) x (by omega)
  rw [Zv, List.drop_eq_nil_of_le (show L.length ≤ i by omega)] at *
  simp (disch := omega) only [z2k, Zo, cond_false, hw, Zk, Ya, Bool.true_and, Bool.and_true, Ym, Ye, Yg, Zr, Yy, cond_true, x6u, e]
  rfl
 | k + 1, i, h => by
  have hw : IntKind.wrap .i64 ((i : Int) + 1) = ((i + 1 : Nat) : Int) := Zj (by omega)
  have hi : i < L.length := by omega
  have e := v4s (L := L) (i := i) x (by omega)
  rw [Yi hi] at e ⊢
  by_cases hx : rd L i < x
  ·obtain ⟨N, s, h1, h2⟩ := v4r hl k (i + 1) (by omega)
   refine ⟨N + 1, s, ?_, ?_⟩
   ·rw [Zv]
    simp (disch := omega) only [z2k, Zt, Yy, Nat.zero_add, Zk, Ym, Bool.and_true, cond_true, hw]
    exact h1
   ·unfold Wb
    rw [if_pos hx]
    rcases h2 with ⟨h2, h3⟩ | ⟨h2, h3⟩
    ·exact .inl ⟨h2, by rw [h3]⟩
    ·refine .inr ⟨?_, by simp only [List.length_cons, h3]⟩
     rw [h2, List.take_succ_eq_append_getElem hi, ← Xi hi, List.append_assoc]; rfl
  ·by_cases hq : rd L i = x
   ·refine ⟨1, .h1, ?_, .inl ⟨rfl, ?_⟩⟩
    ·rw [Zv]
     simp (disch := omega) only [z2k, Zt, Zo, Yy, Nat.zero_add, Zk, Ym, Bool.and_true, cond_true, cond_false, hq, beq_self_eq_true]
     rfl
    ·unfold Wb
     rw [if_neg hx, if_pos hq]
   ·refine ⟨1, .h2 (L.take i ++ x :: (rd L i :: L.drop (i + 1))), ?_, .inr ⟨?_, ?_⟩⟩
    ·have hb : (rd L i == x) = false := by simpa using hq
     rw [Zv]
     simp (disch := omega) only [z2k, Zt, Zo, Yy, Nat.zero_add, Zk, Ya, Ym, Ye, Yg, Bool.and_true, Bool.true_and, cond_true, cond_false, hb, hw, Zr] at e ⊢
     rw [e]; rfl
    ·unfold Wb
     rw [if_neg hx, if_neg hq]
    ·unfold Wb
     rw [if_neg hx, if_neg hq]; rfl
theorem v8n {L : List Int} {x : Int} (h : Jx L x = true) : ∃ N s, Yj (z2k L x) N (y6c L x) = .to s ∧ ((s = .h1 ∧ Wb L x = L) ∨ (s = .h2 (Wb L x) ∧ (Wb L x).length = L.length + 1)) := v4r (of_decide_eq_true h) L.length 0 (Nat.zero_add _)
def gIns (n : Nat) (get : Nat → List AVal) : List AVal → Option (Nat × (Nat → List AVal) × Bool)
 | [.int .i64 x] => some ((Wb (lst Int n get) x).length, Zz (Wb (lst Int n get) x), isT Int n get && Jx (lst Int n get) x)
 | _ => none
theorem v8z {S : Specs} (hS : Zu prog S) : Zu prog (S.withG y5r 3 gIns) := by
 refine w7f hS (by kernel_rfl) fun sz n get r n' g h hp hp' hsz => ?_
 unfold gIns at h
 split at h
 ·rename_i x
  simp only [Option.some.injEq, Prod.mk.injEq, Bool.and_eq_true] at h
  obtain ⟨rfl, rfl, h1, h2⟩ := h
  have hsz1 : sz = 1 := by
   have := (x5r hp' 0 (List.length_pos_iff.2 (v8o _ _))).1
   rw [← this]; rfl
  subst hsz1
  have hl : (lst Int n get).length = n := z3a n get
  obtain ⟨N, s, e, hs⟩ := v8n h2
  have g1 := v0f (lst Int n get) x N s e
  have g0 : z3j prog (Qh prog y5r [.sla 0 1 0 n (.un 1), .int .i64 x] 3 1 n get) (Qh prog y5r [.sla 0 1 0 n (.un 1), .int .i64 x] 3 1 n (Zz (lst Int n get))) := gro_le (y6a h1)
  rw [hl] at g1
  rcases hs with ⟨rfl, e2⟩ | ⟨rfl, e3⟩
  ·refine ⟨_, 0, 3, z3j.trans g0 g1, by kernel_rfl, ?_, ?_⟩
   ·rw [e2, ← hl]; rfl
   ·rw [e2, hl]
    show Yk (Ux [⟨rows (lst Int n get).length (Zz (lst Int n get)), 3, some ⟨1, (lst Int n get).length, Zz (lst Int n get)⟩⟩] 0) 0 = _
    rw [hl]; exact Zf _ _ _
  ·refine ⟨_, 0, 3, z3j.trans g0 g1, by kernel_rfl, ?_, ?_⟩
   ·rw [e3]; rfl
   ·show Yk (Ux [⟨rows (Wb (lst Int n get) x).length (Zz (Wb (lst Int n get) x)), 3, some ⟨1, (Wb (lst Int n get) x).length, Zz (Wb (lst Int n get) x)⟩⟩] 0) 0 = _
    exact Zf _ _ _
 ·cases h
def haR (x y z : Int) (r : R6) : Bool := decide (r.a ≤ x) && (decide (x < r.d) && (decide (r.b ≤ y) && (decide (y < r.e) && (decide (r.c ≤ z) && decide (z < r.f)))))
def Xr (L : List R6) (x y z : Int) : Bool := L.any (haR x y z)
def z0r (L : List R6) (x y z : Int) : Bool := decide (L.length ≤ 100000)
theorem w4y {L : List R6} {x y z : Int} (hl : L.length ≤ 100000) : ∀ (k i : Nat), i + k = L.length → ∃ N, Yj (z1l L x y z) N (.to (.h0 (i : Int))) = .ret [.bool ((L.drop i).any (haR x y z))]
 | 0, i, h => by
  refine ⟨1, ?_⟩
  rw [Zv, List.drop_eq_nil_of_le (by omega)]
  simp (disch := omega) only [z1l, Zo, cond_false]; rfl
 | k + 1, i, h => by
  have hi : i < L.length := by omega
  obtain ⟨N, hN⟩ := w4y (x := x) (y := y) (z := z) hl k (i + 1) (by omega)
  have hw : IntKind.wrap .i64 ((i : Int) + 1) = ((i + 1 : Nat) : Int) := Zj (by omega)
  have e : z1l L x y z (.h0 (i : Int)) = bif haR x y z (rd L i) then .ret [.bool true] else .to (.h0 ((i + 1 : Nat) : Int)) := by
   simp (disch := omega) only [z1l, Zt, Yy, x6u, hw, Zk, Bool.and_true, cond_true]
   unfold haR
   cases decide ((rd L i).a ≤ x) <;> cases decide (x < (rd L i).d) <;> cases decide ((rd L i).b ≤ y) <;> cases decide (y < (rd L i).e) <;> cases decide ((rd L i).c ≤ z) <;> cases decide (z < (rd L i).f) <;> rfl
  refine ⟨N + 1, ?_⟩
  rw [Zv, Yi hi, e, List.any_cons]
  rcases Yr (haR x y z (rd L i)) with q | q
  ·rw [q, cond_true, Bool.true_or]; exact Zp _ _ _
  ·rw [q, cond_false, Bool.false_or]; exact hN
theorem v0h (L : List R6) (x y z : Int) (h : z0r L x y z = true) : ∃ N, Yj (z1l L x y z) N (y1n L x y z) = .ret [.bool (Xr L x y z)] :=
 w4y (of_decide_eq_true h) L.length 0 (Nat.zero_add _)
def v9u : List AVal → Option (AVal × Bool)
 | [a0, .agg [.int .i64 aP, .int .i64 aQ, .int .i64 aR]] => match asL R6 a0 with
  | some (L0, g0, n0) => some (.bool (Xr L0 aP aQ aR), isT R6 n0 g0 && (z0r L0 aP aQ aR))
  | _ => none
 | _ => none
theorem v0v {S : Specs} (hS : Zu prog S) : Zu prog (S.with nHas6 v9u) := by
 refine z2m hS (by kernel_rfl) fun args v h => ?_
 unfold v9u at h
 split at h
 ·rename_i a0 aP aQ aR
  split at h
  ·rename_i L0 g0 n0 e0
   simp only [Option.some.injEq, Prod.mk.injEq, Bool.and_eq_true] at h
   obtain ⟨rfl, ho0, hw⟩ := h
   obtain ⟨N, hN⟩ := v0h L0 aP aQ aR hw
   exact ⟨_, _, (.cons (Yx e0 ho0) (.cons (.refl _) .nil)), rfl, w4z L0 aP aQ aR N _ hN, 3, rfl⟩
  ·cases h
 ·cases h
def Ra : Specs := ((T9.withG y5r 3 gIns).with nHas6 v9u)
theorem z2p : Zu prog Ra := (v0v (v8z Vk))
end Go.Am
namespace Go.Am
open Go.Proofs.Tryz
open Go.Proofs
inductive divS where
 | h0 (v8 : List Int) (v9 : Int) (aY : List R6)
 | h1 (v8 : List Int) (v9 : Int) (aA : List Int) (aZ : List R6)
 | h2 (v10 : Int) (aA : List Int) (aD : List Int) (aF : List Int) (aH : List Bool) (aJ : List Bool)
 | h3 (v8 : List Int) (v9 : Int) (aA : List Int) (aD : List Int) (aK : List R6)
 | h4 (v10 : Int) (v11 : Int) (aA : List Int) (aD : List Int) (aF : List Int) (aH : List Bool) (aJ : List Bool)
 | h5 (v10 : Int) (v11 : Int) (v12 : Int) (aA : List Int) (aD : List Int) (aF : List Int) (aH : List Bool) (aJ : List Bool)
def divC (l0 : List R6) (l1 : List R6) : divS → Cfg
 | .h0 v8 v9 aY => ⟨⟨141, 0, true⟩, none, (Yw prog 65 [1, 1, 1, 0, 1, 0, 0, 1, 0, 0, 1, 0, 1, 0, 0] 0), none, (Zy prog 3), ⟨Xp [(0, (.dat l0.length (Zz l0))), (1, (.dat l1.length (Zz l1))), (5, (.ptr 0 0)), (6, (.sla 1 6 0 ((0 + l0.length) + l1.length) (.un 6))), (7, (ii 0)), (8, (.sla 2 1 0 v8.length (.un 1))), (9, (ii v9))], Ux [⟨[.nils, .nils, .nils, .nils, .nils], 136, none⟩, ⟨rows aY.length (Zz aY), 68, some ⟨6, aY.length, (Zz aY)⟩⟩, ⟨rows v8.length (Zz v8), 3, some ⟨1, v8.length, (Zz v8)⟩⟩] 0, 3, [], true⟩, [], .leaf⟩
 | .h1 v8 v9 aA aZ => ⟨⟨141, 0, true⟩, none, (Yw prog 65 [1, 1, 1, 0, 1, 0, 0, 1, 0, 0, 1, 0, 1, 0, 0] 0), none, (Zy prog 3), ⟨Xp [(0, (.dat l0.length (Zz l0))), (1, (.dat l1.length (Zz l1))), (5, (.ptr 0 0)), (6, (.sla 2 6 0 ((0 + l0.length) + l1.length) (.un 6))), (7, (ii 1)), (8, (.sla 3 1 0 v8.length (.un 1))), (9, (ii v9))], Ux [⟨[(.sla 1 1 0 aA.length (.un 1)), .nils, .nils, .nils, .nils], 136, none⟩, ⟨rows aA.length (Zz aA), 3, some ⟨1, aA.length, (Zz aA)⟩⟩, ⟨rows aZ.length (Zz aZ), 68, some ⟨6, aZ.length, (Zz aZ)⟩⟩, ⟨rows v8.length (Zz v8), 3, some ⟨1, v8.length, (Zz v8)⟩⟩] 0, 4, [], true⟩, [], .leaf⟩
 | .h2 v10 aA aD aF aH aJ => ⟨⟨141, 0, true⟩, none, (Yw prog 65 [1, 1, 1, 1, 0, 1, 0, 0] 0), none, (Zy prog 3), ⟨Xp [(0, (.dat l0.length (Zz l0))), (1, (.dat l1.length (Zz l1))), (5, (.ptr 0 0)), (10, (ii v10))], Ux [⟨[(.sla 1 1 0 aA.length (.un 1)), (.sla 2 1 0 aD.length (.un 1)), (.sla 3 1 0 aF.length (.un 1)), (.sla 4 1 0 aH.length (.un 1)), (.sla 5 1 0 aJ.length (.un 1))], 136, none⟩, ⟨rows aA.length (Zz aA), 3, some ⟨1, aA.length, (Zz aA)⟩⟩, ⟨rows aD.length (Zz aD), 3, some ⟨1, aD.length, (Zz aD)⟩⟩, ⟨rows aF.length (Zz aF), 3, some ⟨1, aF.length, (Zz aF)⟩⟩, ⟨rows aH.length (Zz aH), 4, some ⟨1, aH.length, (Zz aH)⟩⟩, ⟨rows aJ.length (Zz aJ), 4, some ⟨1, aJ.length, (Zz aJ)⟩⟩] 0, 6, [], true⟩, [], .leaf⟩
 | .h3 v8 v9 aA aD aK => ⟨⟨141, 0, true⟩, none, (Yw prog 65 [1, 1, 1, 0, 1, 0, 0, 1, 0, 0, 1, 0, 1, 0, 0] 0), none, (Zy prog 3), ⟨Xp [(0, (.dat l0.length (Zz l0))), (1, (.dat l1.length (Zz l1))), (5, (.ptr 0 0)), (6, (.sla 3 6 0 ((0 + l0.length) + l1.length) (.un 6))), (7, (ii 2)), (8, (.sla 4 1 0 v8.length (.un 1))), (9, (ii v9))], Ux [⟨[(.sla 1 1 0 aA.length (.un 1)), (.sla 2 1 0 aD.length (.un 1)), .nils, .nils, .nils], 136, none⟩, ⟨rows aA.length (Zz aA), 3, some ⟨1, aA.length, (Zz aA)⟩⟩, ⟨rows aD.length (Zz aD), 3, some ⟨1, aD.length, (Zz aD)⟩⟩, ⟨rows aK.length (Zz aK), 68, some ⟨6, aK.length, (Zz aK)⟩⟩, ⟨rows v8.length (Zz v8), 3, some ⟨1, v8.length, (Zz v8)⟩⟩] 0, 5, [], true⟩, [], .leaf⟩
 | .h4 v10 v11 aA aD aF aH aJ => ⟨⟨141, 0, true⟩, none, (Yw prog 65 [1, 1, 1, 1, 0, 1, 0, 0, 1, 0, 0, 1, 0, 0] 0), none, (Zy prog 3), ⟨Xp [(0, (.dat l0.length (Zz l0))), (1, (.dat l1.length (Zz l1))), (5, (.ptr 0 0)), (10, (ii v10)), (11, (ii v11))], Ux [⟨[(.sla 1 1 0 aA.length (.un 1)), (.sla 2 1 0 aD.length (.un 1)), (.sla 3 1 0 aF.length (.un 1)), (.sla 4 1 0 aH.length (.un 1)), (.sla 5 1 0 aJ.length (.un 1))], 136, none⟩, ⟨rows aA.length (Zz aA), 3, some ⟨1, aA.length, (Zz aA)⟩⟩, ⟨rows aD.length (Zz aD), 3, some ⟨1, aD.length, (Zz aD)⟩⟩, ⟨rows aF.length (Zz aF), 3, some ⟨1, aF.length, (Zz aF)⟩⟩, ⟨rows aH.length (Zz aH), 4, some ⟨1, aH.length, (Zz aH)⟩⟩, ⟨rows aJ.length (Zz aJ), 4, some ⟨1, aJ.length, (Zz aJ)⟩⟩] 0, 6, [], true⟩, [], .leaf⟩
 | .h5 v10 v11 v12 aA aD aF aH aJ => ⟨⟨141, 0, true⟩, none, (Yw prog 65 [1, 1, 1, 1, 0, 1, 0, 0, 1, 0, 0, 1, 0, 0, 1, 0, 0, 1, 0, 0] 0), none, (Zy prog 3), ⟨Xp [(0, (.dat l0.length (Zz l0))), (1, (.dat l1.length (Zz l1))), (5, (.ptr 0 0)), (10, (ii v10)), (11, (ii v11)), (12, (ii v12))], Ux [⟨[(.sla 1 1 0 aA.length (.un 1)), (.sla 2 1 0 aD.length (.un 1)), (.sla 3 1 0 aF.length (.un 1)), (.sla 4 1 0 aH.length (.un 1)), (.sla 5 1 0 aJ.length (.un 1))], 136, none⟩, ⟨rows aA.length (Zz aA), 3, some ⟨1, aA.length, (Zz aA)⟩⟩, ⟨rows aD.length (Zz aD), 3, some ⟨1, aD.length, (Zz aD)⟩⟩, ⟨rows aF.length (Zz aF), 3, some ⟨1, aF.length, (Zz aF)⟩⟩, ⟨rows aH.length (Zz aH), 4, some ⟨1, aH.length, (Zz aH)⟩⟩, ⟨rows aJ.length (Zz aJ), 4, some ⟨1, aJ.length, (Zz aJ)⟩⟩] 0, 6, [], true⟩, [], .leaf⟩
def divN0 : List (Option (List Nat)) := [some [0, 1, 5, 6, 7, 8, 9]]
def divM0 : List (Option (List Nat)) := []
def u0v : List (Option (List Nat)) := [some [0, 1, 5, 6, 7, 8, 9]]
def u0y : List (Option (List Nat)) := []
def u0u : List (Option (List Nat)) := [some [0, 1, 5, 10]]
def u0x : List (Option (List Nat)) := []
def u0t : List (Option (List Nat)) := [some [0, 1, 5, 6, 7, 8, 9]]
def u0w : List (Option (List Nat)) := []
def divN4 : List (Option (List Nat)) := [some [0, 1, 5, 10, 11]]
def divM4 : List (Option (List Nat)) := []
def divN5 : List (Option (List Nat)) := [some [0, 1, 5, 10, 11, 12]]
def divM5 : List (Option (List Nat)) := []
def Xq (l0 : List R6) (l1 : List R6) : divS → Wu divS
 | .h0 v8 v9 aY => (bif (decide (v9 < ((((0 + l0.length) + l1.length) : Nat) : Int))) then (bif (Jx (cvT v8) (rd aY (0 + v9.toNat)).a) then (bif ((decide (0 ≤ v9 ∧ v9 < ((((0 + l0.length) + l1.length) : Nat) : Int))) && true) then (bif (decide ((0 + v9.toNat) < aY.length)) then (bif (Jx (cvT (Wb (cvT v8) (rd aY (0 + v9.toNat)).a)) (rd aY (0 + v9.toNat)).d) then (.to (.h0 (Wb (cvT (Wb (cvT v8) (rd aY (0 + v9.toNat)).a)) (rd aY (0 + v9.toNat)).d) (IntKind.wrap .i64 (v9 + 1)) aY)) else .stuck) else .stuck) else .stuck) else .stuck) else (bif ((v8.length : Int) == 0) then (.to (.h1 ([] : List Int) 0 ([(-1), 0, 1, 2] : List Int) aY)) else (bif ((decide ((0 : Int) ≤ 0 ∧ 0 < (v8.length : Int))) && true) then (bif (decide (0 < v8.length)) then (bif ((decide (0 ≤ (IntKind.wrap .i64 ((v8.length : Int) - 1)) ∧ (IntKind.wrap .i64 ((v8.length : Int) - 1)) < (v8.length : Int))) && true) then (bif (decide ((0 + (Int.toNat (IntKind.wrap .i64 ((v8.length : Int) - 1)))) < v8.length)) then (bif (Nat.beq 1 1 && ((decide (0 + v8.length = v8.length)) && decide ((v8.length + 1 + 1) * (8 + 1) ≤ Uq))) then (bif (decide ((1 + (v8.length + 1) + 1) * (8 + 1) ≤ Uq)) then (bif (decide (0 + (v8.length + 1) ≤ (v8.length + 1))) then (.to (.h1 ([] : List Int) 0 (([(IntKind.wrap .i64 ((rd v8 0) - 1))] : List Int) ++ (v8 ++ [(IntKind.wrap .i64 ((rd v8 (0 + (Int.toNat (IntKind.wrap .i64 ((v8.length : Int) - 1))))) + 1))])) aY)) else .stuck) else .stuck) else .stuck) else .stuck) else .stuck) else .stuck) else .stuck)))
 | .h1 v8 v9 aA aZ => (bif (decide (v9 < ((((0 + l0.length) + l1.length) : Nat) : Int))) then (bif (Jx (cvT v8) (rd aZ (0 + v9.toNat)).b) then (bif ((decide (0 ≤ v9 ∧ v9 < ((((0 + l0.length) + l1.length) : Nat) : Int))) && true) then (bif (decide ((0 + v9.toNat) < aZ.length)) then (bif (Jx (cvT (Wb (cvT v8) (rd aZ (0 + v9.toNat)).b)) (rd aZ (0 + v9.toNat)).e) then (.to (.h1 (Wb (cvT (Wb (cvT v8) (rd aZ (0 + v9.toNat)).b)) (rd aZ (0 + v9.toNat)).e) (IntKind.wrap .i64 (v9 + 1)) aA aZ)) else .stuck) else .stuck) else .stuck) else .stuck) else (bif ((v8.length : Int) == 0) then (.to (.h3 ([] : List Int) 0 aA ([(-1), 0, 1, 2] : List Int) aZ)) else (bif ((decide ((0 : Int) ≤ 0 ∧ 0 < (v8.length : Int))) && true) then (bif (decide (0 < v8.length)) then (bif ((decide (0 ≤ (IntKind.wrap .i64 ((v8.length : Int) - 1)) ∧ (IntKind.wrap .i64 ((v8.length : Int) - 1)) < (v8.length : Int))) && true) then (bif (decide ((0 + (Int.toNat (IntKind.wrap .i64 ((v8.length : Int) - 1)))) < v8.length)) then (bif (Nat.beq 1 1 && ((decide (0 + v8.length = v8.length)) && decide ((v8.length + 1 + 1) * (8 + 1) ≤ Uq))) then (bif (decide ((1 + (v8.length + 1) + 1) * (8 + 1) ≤ Uq)) then (bif (decide (0 + (v8.length + 1) ≤ (v8.length + 1))) then (.to (.h3 ([] : List Int) 0 aA (([(IntKind.wrap .i64 ((rd v8 0) - 1))] : List Int) ++ (v8 ++ [(IntKind.wrap .i64 ((rd v8 (0 + (Int.toNat (IntKind.wrap .i64 ((v8.length : Int) - 1))))) + 1))])) aZ)) else .stuck) else .stuck) else .stuck) else .stuck) else .stuck) else .stuck) else .stuck)))
 | .h2 v10 aA aD aF aH aJ => (bif (decide (v10 < (IntKind.wrap .i64 ((aA.length : Int) - 1)))) then (.to (.h4 v10 0 aA aD aF aH aJ)) else (.ret [(.dptr [(.dat aA.length (Zz aA)), (.dat aD.length (Zz aD)), (.dat aF.length (Zz aF)), (.dat aH.length (Zz aH)), (.dat aJ.length (Zz aJ))])]))
 | .h3 v8 v9 aA aD aK => (bif (decide (v9 < ((((0 + l0.length) + l1.length) : Nat) : Int))) then (bif (Jx (cvT v8) (rd aK (0 + v9.toNat)).c) then (bif ((decide (0 ≤ v9 ∧ v9 < ((((0 + l0.length) + l1.length) : Nat) : Int))) && true) then (bif (decide ((0 + v9.toNat) < aK.length)) then (bif (Jx (cvT (Wb (cvT v8) (rd aK (0 + v9.toNat)).c)) (rd aK (0 + v9.toNat)).f) then (.to (.h3 (Wb (cvT (Wb (cvT v8) (rd aK (0 + v9.toNat)).c)) (rd aK (0 + v9.toNat)).f) (IntKind.wrap .i64 (v9 + 1)) aA aD aK)) else .stuck) else .stuck) else .stuck) else .stuck) else (bif ((v8.length : Int) == 0) then (.to (.h2 0 aA aD ([(-1), 0, 1, 2] : List Int) ([] : List Bool) ([] : List Bool))) else (bif ((decide ((0 : Int) ≤ 0 ∧ 0 < (v8.length : Int))) && true) then (bif (decide (0 < v8.length)) then (bif ((decide (0 ≤ (IntKind.wrap .i64 ((v8.length : Int) - 1)) ∧ (IntKind.wrap .i64 ((v8.length : Int) - 1)) < (v8.length : Int))) && true) then (bif (decide ((0 + (Int.toNat (IntKind.wrap .i64 ((v8.length : Int) - 1)))) < v8.length)) then (bif (Nat.beq 1 1 && ((decide (0 + v8.length = v8.length)) && decide ((v8.length + 1 + 1) * (8 + 1) ≤ Uq))) then (bif (decide ((1 + (v8.length + 1) + 1) * (8 + 1) ≤ Uq)) then (bif (decide (0 + (v8.length + 1) ≤ (v8.length + 1))) then (.to (.h2 0 aA aD (([(IntKind.wrap .i64 ((rd v8 0) - 1))] : List Int) ++ (v8 ++ [(IntKind.wrap .i64 ((rd v8 (0 + (Int.toNat (IntKind.wrap .i64 ((v8.length : Int) - 1))))) + 1))])) ([] : List Bool) ([] : List Bool))) else .stuck) else .stuck) else .stuck) else .stuck) else .stuck) else .stuck) else .stuck)))
 | .h4 v10 v11 aA aD aF aH aJ => (bif (decide (v11 < (IntKind.wrap .i64 ((aD.length : Int) - 1)))) then (.to (.h5 v10 v11 0 aA aD aF aH aJ)) else (.to (.h2 (IntKind.wrap .i64 (v10 + 1)) aA aD aF aH aJ)))
 | .h5 v10 v11 v12 aA aD aF aH aJ => (bif (decide (v12 < (IntKind.wrap .i64 ((aF.length : Int) - 1)))) then (bif ((decide (0 ≤ v10 ∧ v10 < (aA.length : Int))) && true) then (bif (decide ((0 + v10.toNat) < aA.length)) then (bif ((decide (0 ≤ v11 ∧ v11 < (aD.length : Int))) && true) then (bif (decide ((0 + v11.toNat) < aD.length)) then (bif ((decide (0 ≤ v12 ∧ v12 < (aF.length : Int))) && true) then (bif (decide ((0 + v12.toNat) < aF.length)) then (bif (z0r (cvT l0) (rd aA (0 + v10.toNat)) (rd aD (0 + v11.toNat)) (rd aF (0 + v12.toNat))) then (bif (Nat.beq 1 1 && ((decide (0 + aH.length = aH.length)) && decide ((aH.length + 1 + 1) * (1 + 1) ≤ Uq))) then (bif (z0r (cvT l1) (rd aA (0 + v10.toNat)) (rd aD (0 + v11.toNat)) (rd aF (0 + v12.toNat))) then (bif (Nat.beq 1 1 && ((decide (0 + aJ.length = aJ.length)) && decide ((aJ.length + 1 + 1) * (1 + 1) ≤ Uq))) then (.to (.h5 v10 v11 (IntKind.wrap .i64 (v12 + 1)) aA aD aF (aH ++ [(Xr (cvT l0) (rd aA (0 + v10.toNat)) (rd aD (0 + v11.toNat)) (rd aF (0 + v12.toNat)))]) (aJ ++ [(Xr (cvT l1) (rd aA (0 + v10.toNat)) (rd aD (0 + v11.toNat)) (rd aF (0 + v12.toNat)))]))) else .stuck) else .stuck) else .stuck) else .stuck) else .stuck) else .stuck) else .stuck) else .stuck) else .stuck) else .stuck) else (.to (.h4 v10 (IntKind.wrap .i64 (v11 + 1)) aA aD aF aH aJ)))
def z9w (l0 : List R6) (l1 : List R6) : Wu divS := (bif (decide ((0 + l0.length + 1) * (48 + 1) ≤ Uq)) then (bif (decide (((0 + l0.length) + l1.length + 1) * (48 + 1) ≤ Uq)) then (bif (Nat.beq 6 6 && (Nat.beq 6 6 && decide (0 + (0 + l0.length) ≤ (0 + l0.length)))) then (.to (.h0 ([] : List Int) 0 (l0 ++ l1))) else .stuck) else .stuck) else .stuck)
theorem w0c (l0 : List R6) (l1 : List R6) : ∀ s, Wm prog (Zy prog 65) (divC l0 l1) (divC l0 l1 s) (Xq l0 l1 s)
 | .h0 v8 v9 aY => (lb (fun k0 => (lo fun o0 => (lo fun o1 => (lo fun o2 => (lo fun o3 => (sl z2p 20 [] ⟨[0, 1, 6], [], divN0, divM0⟩ ⟨[], [], []⟩ (trs 3 []) (pp (fl aY (fl (Wb (cvT (Wb (cvT v8) (rd aY (0 + (tn v9))).a)) (rd aY (0 + (tn v9))).d) nn)) (pp (pp (pp (xI Int (Wb (cvT v8) (rd aY (0 + (tn v9))).a).length (Zz (Wb (cvT v8) (rd aY (0 + (tn v9))).a))) (xw o3)) (pp (xG (Nat.beq (Wb (cvT v8) (rd aY (0 + (tn v9))).a).length (Wb (cvT v8) (rd aY (0 + (tn v9))).a).length)) (pp (xP 1 (Wb (cvT v8) (rd aY (0 + (tn v9))).a).length (Zz (Wb (cvT v8) (rd aY (0 + (tn v9))).a))) (xP 1 (Wb (cvT (Wb (cvT v8) (rd aY (0 + (tn v9))).a)) (rd aY (0 + (tn v9))).d).length (Zz (Wb (cvT (Wb (cvT v8) (rd aY (0 + (tn v9))).a)) (rd aY (0 + (tn v9))).d)))))) (ww o2 (ww o1 (pp (pp (pp (xr v8) (xw o0)) (pp (xG (Nat.beq (v8.length) (v8.length))) (pp (xP 1 (v8.length) (Zz v8)) (xP 1 (Wb (cvT v8) (rd aY (0 + (tn v9))).a).length (Zz (Wb (cvT v8) (rd aY (0 + (tn v9))).a)))))) (ww o2 (ww o1 (tt k0 nn)))))))))))))) (fun k0 => (lb (fun k1 => (sl z2p 51 [(3, 1, Zz ([] : List Int))] ⟨[0, 7, 1, 8], [], u0v, u0y⟩ ⟨[(8, .grow 3 1)], [.cells [.grow 1 1, .keep, .keep, .keep, .keep], .rowed 1 ([(-1), 0, 1, 2] : List Int).length (Zz ([(-1), 0, 1, 2] : List Int)), .keep, .keep], []⟩ [false, true, false, true] (pp (xG (y0k [(ii (-1)), (ii 0), (ii 1), (ii 2)] 1 ([(-1), 0, 1, 2] : List Int).length (Zz ([(-1), 0, 1, 2] : List Int)))) (pp (fl aY (fl ([] : List Int) nn)) (tt k1 (tt k0 nn)))))) (fun k1 => (lo fun o0 => (lo fun o1 => (lo fun o2 => (lo fun o3 => (lo fun o4 => (lo fun o5 => (lo fun o6 => (sl z2p 48 [(3, 1, Zz ([] : List Int))] ⟨[0, 6, 1, 7], [], u0v, u0y⟩ ⟨[(8, .grow 3 1)], [.cells [.len (([(wr ((rd v8 0) - 1))] : List Int) ++ (v8 ++ [(wr ((rd v8 (0 + (tn (wr ((v8.length : Int) - 1))))) + 1))])).length, .keep, .keep, .keep, .keep], .rowed 1 (([(wr ((rd v8 0) - 1))] : List Int) ++ (v8 ++ [(wr ((rd v8 (0 + (tn (wr ((v8.length : Int) - 1))))) + 1))])).length (Zz (([(wr ((rd v8 0) - 1))] : List Int) ++ (v8 ++ [(wr ((rd v8 (0 + (tn (wr ((v8.length : Int) - 1))))) + 1))]))), .keep, .keep], []⟩ [false, false, false, true] (pp (xL (1 + (v8.length + 1)) (([(wr ((rd v8 0) - 1))] : List Int) ++ (v8 ++ [(wr ((rd v8 (0 + (tn (wr ((v8.length : Int) - 1))))) + 1))])).length) (pp (xL (1 + (v8.length + 1)) (([(wr ((rd v8 0) - 1))] : List Int) ++ (v8 ++ [(wr ((rd v8 (0 + (tn (wr ((v8.length : Int) - 1))))) + 1))])).length) (pp (xS (1 + (v8.length + 1)) (Wr (fun k => (([(ii (wr ((rd v8 0) - 1)))] : List AVal).drop (k * 1)).take 1) 1 (fun k => (Za (Zz v8) 0 v8.length 1 [(ii (wr ((rd v8 (0 + (tn (wr ((v8.length : Int) - 1))))) + 1)))]) (0 + k))) (Zz (([(wr ((rd v8 0) - 1))] : List Int) ++ (v8 ++ [(wr ((rd v8 (0 + (tn (wr ((v8.length : Int) - 1))))) + 1))])))) (pp (pp (xF (Wr (fun k => (([(ii (wr ((rd v8 0) - 1)))] : List AVal).drop (k * 1)).take 1) 1 (fun k => (Za (Zz v8) 0 v8.length 1 [(ii (wr ((rd v8 (0 + (tn (wr ((v8.length : Int) - 1))))) + 1)))]) (0 + k)))) (fl aY (fl ([] : List Int) nn))) (pp (pp nn (pp (pp (xG (Nat.beq 1 1)) (pp (xG (Nat.beq 1 1)) (pp (xG (decide (0 + (v8.length + 1) ≤ (v8.length + 1)))) (xG (z4p 1 (v8.length + 1) (fun k => (Za (Zz v8) 0 v8.length 1 [(ii (wr ((rd v8 (0 + (tn (wr ((v8.length : Int) - 1))))) + 1)))]) (0 + k))))))) (xw o5))) (ww o4 (ww o3 (ww o2 (ww o1 (ww o0 (tt k1 (tt k0 nn))))))))))))))))))))))))
 | .h1 v8 v9 aA aZ => (lb (fun k0 => (lo fun o0 => (lo fun o1 => (lo fun o2 => (lo fun o3 => (sl z2p 20 [] ⟨[0, 1, 2, 7], [], u0v, u0y⟩ ⟨[], [], []⟩ [true, false, true, false, true] (pp (fl aA (fl aZ (fl (Wb (cvT (Wb (cvT v8) (rd aZ (0 + (tn v9))).b)) (rd aZ (0 + (tn v9))).e) nn))) (pp (pp (pp (xI Int (Wb (cvT v8) (rd aZ (0 + (tn v9))).b).length (Zz (Wb (cvT v8) (rd aZ (0 + (tn v9))).b))) (xw o3)) (pp (xG (Nat.beq (Wb (cvT v8) (rd aZ (0 + (tn v9))).b).length (Wb (cvT v8) (rd aZ (0 + (tn v9))).b).length)) (pp (xP 1 (Wb (cvT v8) (rd aZ (0 + (tn v9))).b).length (Zz (Wb (cvT v8) (rd aZ (0 + (tn v9))).b))) (xP 1 (Wb (cvT (Wb (cvT v8) (rd aZ (0 + (tn v9))).b)) (rd aZ (0 + (tn v9))).e).length (Zz (Wb (cvT (Wb (cvT v8) (rd aZ (0 + (tn v9))).b)) (rd aZ (0 + (tn v9))).e)))))) (ww o2 (ww o1 (pp (pp (pp (xr v8) (xw o0)) (pp (xG (Nat.beq (v8.length) (v8.length))) (pp (xP 1 (v8.length) (Zz v8)) (xP 1 (Wb (cvT v8) (rd aZ (0 + (tn v9))).b).length (Zz (Wb (cvT v8) (rd aZ (0 + (tn v9))).b)))))) (ww o2 (ww o1 (tt k0 nn)))))))))))))) (fun k0 => (lb (fun k1 => (sl z2p 51 [(3, 1, Zz ([] : List Int))] ⟨[0, 1, 8, 2, 9], [], u0t, u0w⟩ ⟨[(8, .grow 4 1)], [.cells [.keep, .grow 2 1, .keep, .keep, .keep], .keep, .rowed 1 ([(-1), 0, 1, 2] : List Int).length (Zz ([(-1), 0, 1, 2] : List Int)), .keep, .keep], []⟩ [false, true, true, false, true] (pp (xG (y0k [(ii (-1)), (ii 0), (ii 1), (ii 2)] 1 ([(-1), 0, 1, 2] : List Int).length (Zz ([(-1), 0, 1, 2] : List Int)))) (pp (fl aA (fl aZ (fl ([] : List Int) nn))) (tt k1 (tt k0 nn)))))) (fun k1 => (lo fun o0 => (lo fun o1 => (lo fun o2 => (lo fun o3 => (lo fun o4 => (lo fun o5 => (lo fun o6 => (sl z2p 48 [(3, 1, Zz ([] : List Int))] ⟨[0, 1, 7, 2, 8], [], u0t, u0w⟩ ⟨[(8, .grow 4 1)], [.cells [.keep, .len (([(wr ((rd v8 0) - 1))] : List Int) ++ (v8 ++ [(wr ((rd v8 (0 + (tn (wr ((v8.length : Int) - 1))))) + 1))])).length, .keep, .keep, .keep], .keep, .rowed 1 (([(wr ((rd v8 0) - 1))] : List Int) ++ (v8 ++ [(wr ((rd v8 (0 + (tn (wr ((v8.length : Int) - 1))))) + 1))])).length (Zz (([(wr ((rd v8 0) - 1))] : List Int) ++ (v8 ++ [(wr ((rd v8 (0 + (tn (wr ((v8.length : Int) - 1))))) + 1))]))), .keep, .keep], []⟩ [false, false, true, false, true] (pp (xL (1 + (v8.length + 1)) (([(wr ((rd v8 0) - 1))] : List Int) ++ (v8 ++ [(wr ((rd v8 (0 + (tn (wr ((v8.length : Int) - 1))))) + 1))])).length) (pp (xL (1 + (v8.length + 1)) (([(wr ((rd v8 0) - 1))] : List Int) ++ (v8 ++ [(wr ((rd v8 (0 + (tn (wr ((v8.length : Int) - 1))))) + 1))])).length) (pp (xS (1 + (v8.length + 1)) (Wr (fun k => (([(ii (wr ((rd v8 0) - 1)))] : List AVal).drop (k * 1)).take 1) 1 (fun k => (Za (Zz v8) 0 v8.length 1 [(ii (wr ((rd v8 (0 + (tn (wr ((v8.length : Int) - 1))))) + 1)))]) (0 + k))) (Zz (([(wr ((rd v8 0) - 1))] : List Int) ++ (v8 ++ [(wr ((rd v8 (0 + (tn (wr ((v8.length : Int) - 1))))) + 1))])))) (pp (fl aA (pp (xF (Wr (fun k => (([(ii (wr ((rd v8 0) - 1)))] : List AVal).drop (k * 1)).take 1) 1 (fun k => (Za (Zz v8) 0 v8.length 1 [(ii (wr ((rd v8 (0 + (tn (wr ((v8.length : Int) - 1))))) + 1)))]) (0 + k)))) (fl aZ (fl ([] : List Int) nn)))) (pp (pp nn (pp (pp (xG (Nat.beq 1 1)) (pp (xG (Nat.beq 1 1)) (pp (xG (decide (0 + (v8.length + 1) ≤ (v8.length + 1)))) (xG (z4p 1 (v8.length + 1) (fun k => (Za (Zz v8) 0 v8.length 1 [(ii (wr ((rd v8 (0 + (tn (wr ((v8.length : Int) - 1))))) + 1)))]) (0 + k))))))) (xw o5))) (ww o4 (ww o3 (ww o2 (ww o1 (ww o0 (tt k1 (tt k0 nn))))))))))))))))))))))))
 | .h2 v10 aA aD aF aH aJ => (lb (fun k0 => (sl z2p 35 [] ⟨(List.range 6), [], divN4, divM4⟩ ⟨[], [], []⟩ [false, true] (pp (fl aA (fl aD (fl aF (fl aH (fl aJ nn))))) (tt k0 nn)))) (fun k0 => (Jh (sl z2p (C' := ⟨⟨141, 0, true⟩, none, (Yw prog 3 [1, 1, 1, 1, 1, 1, 0] 1), none, (Zy prog 3), ⟨Xp [(4, (.ptr 0 0))], Ux [⟨[(.dat aA.length (Zz aA)), (.dat aD.length (Zz aD)), (.dat aF.length (Zz aF)), (.dat aH.length (Zz aH)), (.dat aJ.length (Zz aJ))], 136, none⟩] 0, 1, [], true⟩, [], .leaf⟩) 32 [] ⟨[0], [1, 2, 3, 4, 5], [some [4]], []⟩ ⟨[], [.cells [.frz aA.length aA.length (Zz aA) (Zz aA), .frz aD.length aD.length (Zz aD) (Zz aD), .frz aF.length aF.length (Zz aF) (Zz aF), .frz aH.length aH.length (Zz aH) (Zz aH), .frz aJ.length aJ.length (Zz aJ) (Zz aJ)]], []⟩ [false, false] (pp (xZ (z6s 1 1 0 aA.length aA.length (Zz aA)) aA.length (Zz aA)) (pp (xL aA.length aA.length) (pp (xS aA.length (Zz aA) (Zz aA)) (pp (xZ (z6s 1 1 0 aD.length aD.length (Zz aD)) aD.length (Zz aD)) (pp (xL aD.length aD.length) (pp (xS aD.length (Zz aD) (Zz aD)) (pp (xZ (z6s 1 1 0 aF.length aF.length (Zz aF)) aF.length (Zz aF)) (pp (xL aF.length aF.length) (pp (xS aF.length (Zz aF) (Zz aF)) (pp (xZ (z6s 1 1 0 aH.length aH.length (Zz aH)) aH.length (Zz aH)) (pp (xL aH.length aH.length) (pp (xS aH.length (Zz aH) (Zz aH)) (pp (xZ (z6s 1 1 0 aJ.length aJ.length (Zz aJ)) aJ.length (Zz aJ)) (pp (xL aJ.length aJ.length) (pp (xS aJ.length (Zz aJ) (Zz aJ)) (pp (fl aA (fl aD (fl aF (fl aH (fl aJ nn))))) (tt k0 nn)))))))))))))))))) (lr 141 3 [1, 1, 1, 1, 1, 1, 0] 1 3 [(4, (.dptr [(.dat aA.length (Zz aA)), (.dat aD.length (Zz aD)), (.dat aF.length (Zz aF)), (.dat aH.length (Zz aH)), (.dat aJ.length (Zz aJ))]))] (sl z2p 0 [] ⟨[], [0], [some [4]], []⟩ ⟨[], [], []⟩ [] nn)))))
 | .h3 v8 v9 aA aD aK => (lb (fun k0 => (lo fun o0 => (lo fun o1 => (lo fun o2 => (lo fun o3 => (sl z2p 20 [] ⟨[0, 1, 2, 3, 8], [], u0t, u0w⟩ ⟨[], [], []⟩ [true, false, false, false, false] (pp (fl aA (fl aD (fl aK (fl (Wb (cvT (Wb (cvT v8) (rd aK (0 + (tn v9))).c)) (rd aK (0 + (tn v9))).f) nn)))) (pp (pp (pp (xI Int (Wb (cvT v8) (rd aK (0 + (tn v9))).c).length (Zz (Wb (cvT v8) (rd aK (0 + (tn v9))).c))) (xw o3)) (pp (xG (Nat.beq (Wb (cvT v8) (rd aK (0 + (tn v9))).c).length (Wb (cvT v8) (rd aK (0 + (tn v9))).c).length)) (pp (xP 1 (Wb (cvT v8) (rd aK (0 + (tn v9))).c).length (Zz (Wb (cvT v8) (rd aK (0 + (tn v9))).c))) (xP 1 (Wb (cvT (Wb (cvT v8) (rd aK (0 + (tn v9))).c)) (rd aK (0 + (tn v9))).f).length (Zz (Wb (cvT (Wb (cvT v8) (rd aK (0 + (tn v9))).c)) (rd aK (0 + (tn v9))).f)))))) (ww o2 (ww o1 (pp (pp (pp (xr v8) (xw o0)) (pp (xG (Nat.beq (v8.length) (v8.length))) (pp (xP 1 (v8.length) (Zz v8)) (xP 1 (Wb (cvT v8) (rd aK (0 + (tn v9))).c).length (Zz (Wb (cvT v8) (rd aK (0 + (tn v9))).c)))))) (ww o2 (ww o1 (tt k0 nn)))))))))))))) (fun k0 => (lb (fun k1 => (sl z2p 45 [(4, 1, Zz ([] : List Bool)), (4, 1, Zz ([] : List Bool))] ⟨[0, 1, 2, 9, 10, 11], [], u0u, u0x⟩ ⟨[], [.cells [.keep, .keep, .grow 3 1, .grow 4 1, .grow 5 1], .keep, .keep, .rowed 1 ([(-1), 0, 1, 2] : List Int).length (Zz ([(-1), 0, 1, 2] : List Int)), .keep, .keep], []⟩ [false, true, true, true, false, false] (pp (xG (y0k [(ii (-1)), (ii 0), (ii 1), (ii 2)] 1 ([(-1), 0, 1, 2] : List Int).length (Zz ([(-1), 0, 1, 2] : List Int)))) (pp (fl aA (fl aD (fl ([] : List Bool) (fl ([] : List Bool) nn)))) (tt k1 (tt k0 nn)))))) (fun k1 => (lo fun o0 => (lo fun o1 => (lo fun o2 => (lo fun o3 => (lo fun o4 => (lo fun o5 => (lo fun o6 => (sl z2p 42 [(4, 1, Zz ([] : List Bool)), (4, 1, Zz ([] : List Bool))] ⟨[0, 1, 2, 8, 9, 10], [], u0u, u0x⟩ ⟨[], [.cells [.keep, .keep, .len (([(wr ((rd v8 0) - 1))] : List Int) ++ (v8 ++ [(wr ((rd v8 (0 + (tn (wr ((v8.length : Int) - 1))))) + 1))])).length, .grow 4 1, .grow 5 1], .keep, .keep, .rowed 1 (([(wr ((rd v8 0) - 1))] : List Int) ++ (v8 ++ [(wr ((rd v8 (0 + (tn (wr ((v8.length : Int) - 1))))) + 1))])).length (Zz (([(wr ((rd v8 0) - 1))] : List Int) ++ (v8 ++ [(wr ((rd v8 (0 + (tn (wr ((v8.length : Int) - 1))))) + 1))]))), .keep, .keep], []⟩ [false, false, true, true, false, false] (pp (xL (1 + (v8.length + 1)) (([(wr ((rd v8 0) - 1))] : List Int) ++ (v8 ++ [(wr ((rd v8 (0 + (tn (wr ((v8.length : Int) - 1))))) + 1))])).length) (pp (xL (1 + (v8.length + 1)) (([(wr ((rd v8 0) - 1))] : List Int) ++ (v8 ++ [(wr ((rd v8 (0 + (tn (wr ((v8.length : Int) - 1))))) + 1))])).length) (pp (xS (1 + (v8.length + 1)) (Wr (fun k => (([(ii (wr ((rd v8 0) - 1)))] : List AVal).drop (k * 1)).take 1) 1 (fun k => (Za (Zz v8) 0 v8.length 1 [(ii (wr ((rd v8 (0 + (tn (wr ((v8.length : Int) - 1))))) + 1)))]) (0 + k))) (Zz (([(wr ((rd v8 0) - 1))] : List Int) ++ (v8 ++ [(wr ((rd v8 (0 + (tn (wr ((v8.length : Int) - 1))))) + 1))])))) (pp (fl aA (fl aD (pp (xF (Wr (fun k => (([(ii (wr ((rd v8 0) - 1)))] : List AVal).drop (k * 1)).take 1) 1 (fun k => (Za (Zz v8) 0 v8.length 1 [(ii (wr ((rd v8 (0 + (tn (wr ((v8.length : Int) - 1))))) + 1)))]) (0 + k)))) (fl ([] : List Bool) (fl ([] : List Bool) nn))))) (pp (pp nn (pp (pp (xG (Nat.beq 1 1)) (pp (xG (Nat.beq 1 1)) (pp (xG (decide (0 + (v8.length + 1) ≤ (v8.length + 1)))) (xG (z4p 1 (v8.length + 1) (fun k => (Za (Zz v8) 0 v8.length 1 [(ii (wr ((rd v8 (0 + (tn (wr ((v8.length : Int) - 1))))) + 1)))]) (0 + k))))))) (xw o5))) (ww o4 (ww o3 (ww o2 (ww o1 (ww o0 (tt k1 (tt k0 nn))))))))))))))))))))))))
 | .h4 v10 v11 aA aD aF aH aJ => (lb (fun k0 => (sl z2p 35 [] ⟨(List.range 6), [], divN5, divM5⟩ ⟨[], [], []⟩ [true, false, true] (pp (fl aA (fl aD (fl aF (fl aH (fl aJ nn))))) (tt k0 nn)))) (fun k0 => (sl z2p 34 [] ⟨(List.range 6), [], u0u, u0x⟩ ⟨[], [], []⟩ [true, false, false] (pp (fl aA (fl aD (fl aF (fl aH (fl aJ nn))))) (tt k0 nn)))))
 | .h5 v10 v11 v12 aA aD aF aH aJ => (lb (fun k0 => (lo fun o0 => (lo fun o1 => (lo fun o2 => (lo fun o3 => (lo fun o4 => (lo fun o5 => (lo fun o6 => (lo fun o7 => (lo fun o8 => (lo fun o9 => (sl z2p 41 [] ⟨[0, 1, 2, 3, 8, 10], [], divN5, divM5⟩ ⟨[], [.cells [.keep, .keep, .keep, .len (aH ++ [(Xr (cvT l0) (rd aA (0 + (tn v10))) (rd aD (0 + (tn v11))) (rd aF (0 + (tn v12))))]).length, .len (aJ ++ [(Xr (cvT l1) (rd aA (0 + (tn v10))) (rd aD (0 + (tn v11))) (rd aF (0 + (tn v12))))]).length], .keep, .keep, .keep, .rowed 1 (aH ++ [(Xr (cvT l0) (rd aA (0 + (tn v10))) (rd aD (0 + (tn v11))) (rd aF (0 + (tn v12))))]).length (Zz (aH ++ [(Xr (cvT l0) (rd aA (0 + (tn v10))) (rd aD (0 + (tn v11))) (rd aF (0 + (tn v12))))])), .rowed 1 (aJ ++ [(Xr (cvT l1) (rd aA (0 + (tn v10))) (rd aD (0 + (tn v11))) (rd aF (0 + (tn v12))))]).length (Zz (aJ ++ [(Xr (cvT l1) (rd aA (0 + (tn v10))) (rd aD (0 + (tn v11))) (rd aF (0 + (tn v12))))]))], []⟩ [true, true, false, true] (pp (xL (aH.length + 1) (aH ++ [(Xr (cvT l0) (rd aA (0 + (tn v10))) (rd aD (0 + (tn v11))) (rd aF (0 + (tn v12))))]).length) (pp (xL (aJ.length + 1) (aJ ++ [(Xr (cvT l1) (rd aA (0 + (tn v10))) (rd aD (0 + (tn v11))) (rd aF (0 + (tn v12))))]).length) (pp (xL (aH.length + 1) (aH ++ [(Xr (cvT l0) (rd aA (0 + (tn v10))) (rd aD (0 + (tn v11))) (rd aF (0 + (tn v12))))]).length) (pp (xS (aH.length + 1) (Za (Zz aH) 0 aH.length 1 [(.bool (Xr (cvT l0) (rd aA (0 + (tn v10))) (rd aD (0 + (tn v11))) (rd aF (0 + (tn v12)))))]) (Zz (aH ++ [(Xr (cvT l0) (rd aA (0 + (tn v10))) (rd aD (0 + (tn v11))) (rd aF (0 + (tn v12))))]))) (pp (xL (aJ.length + 1) (aJ ++ [(Xr (cvT l1) (rd aA (0 + (tn v10))) (rd aD (0 + (tn v11))) (rd aF (0 + (tn v12))))]).length) (pp (xS (aJ.length + 1) (Za (Zz aJ) 0 aJ.length 1 [(.bool (Xr (cvT l1) (rd aA (0 + (tn v10))) (rd aD (0 + (tn v11))) (rd aF (0 + (tn v12)))))]) (Zz (aJ ++ [(Xr (cvT l1) (rd aA (0 + (tn v10))) (rd aD (0 + (tn v11))) (rd aF (0 + (tn v12))))]))) (pp (fl aA (fl aD (fl aF (pp (xF (Za (Zz aH) 0 aH.length 1 [(.bool (Xr (cvT l0) (rd aA (0 + (tn v10))) (rd aD (0 + (tn v11))) (rd aF (0 + (tn v12)))))])) (pp (xF (Za (Zz aJ) 0 aJ.length 1 [(.bool (Xr (cvT l1) (rd aA (0 + (tn v10))) (rd aD (0 + (tn v11))) (rd aF (0 + (tn v12)))))])) nn))))) (ww o9 (pp (pp (xr l1) (xw o8)) (ww o7 (pp (pp (xr l0) (xw o6)) (ww o5 (ww o4 (ww o3 (ww o2 (ww o1 (ww o0 (tt k0 nn)))))))))))))))))))))))))))))) (fun k0 => (sl z2p 34 [] ⟨(List.range 6), [], divN4, divM4⟩ ⟨[], [], []⟩ [true, true, false, false] (pp (fl aA (fl aD (fl aF (fl aH (fl aJ nn))))) (tt k0 nn)))))
theorem x3r (l0 : List R6) (l1 : List R6) : Wm prog (Zy prog 65) (divC l0 l1) (Zd prog 65 [(.dat l0.length (Zz l0)), (.dat l1.length (Zz l1))] true []) (z9w l0 l1) := (lo fun o0 => (lo fun o1 => (lo fun o2 => (sl z2p 47 [(3, 1, Zz ([] : List Int))] ⟨[0, 3, 4], [], divN0, divM0⟩ ⟨[(8, .grow 2 1)], [.keep, .rowed 6 (l0 ++ l1).length (Zz (l0 ++ l1)), .keep], []⟩ [true] (pp (xL ((0 + l0.length) + l1.length) (l0 ++ l1).length) (pp (xS ((0 + l0.length) + l1.length) (Wr (fun k => (Wr (fun k => (([] : List AVal).drop (k * 6)).take 6) 0 (Zz l0)) (0 + k)) (0 + l0.length) (Zz l1)) (Zz (l0 ++ l1)) (by repeat' (first | exact z4w _ _ | (refine y7s ?_ ?_ ?_ rfl) | exact y7t (z4w _ _) rfl | apply y0j | exact Nat.zero_add _))) (pp (pp (xF (Wr (fun k => (Wr (fun k => (([] : List AVal).drop (k * 6)).take 6) 0 (Zz l0)) (0 + k)) (0 + l0.length) (Zz l1))) (fl ([] : List Int) nn)) (pp (pp (xw o2) (pp (xG (z4p 6 l1.length (Zz l1))) (xw o1))) (pp (pp nn (pp (xG (z4p 6 l0.length (Zz l0))) (xw o0))) nn)))))))))
theorem v1g (l0 : List R6) (l1 : List R6) (n : Nat) (vs : List AVal) (h : Yj (Xq l0 l1) n (z9w l0 l1) = .ret vs) : Kv prog (Zy prog 65) (Zd prog 65 [(.dat l0.length (Zz l0)), (.dat l1.length (Zz l1))] true []) vs := by
 have := Zn (w0c l0 l1) n _ (x3r l0 l1)
 rwa [h] at this
-- start: index into an array (choices [false, false, false])
inductive gmyS where
def gmyC (l0_0 : List Int) (l0_1 : List Int) (l0_2 : List Int) (l0_3 : List Bool) (l0_4 : List Bool) (x1 : Int) : gmyS → Cfg
 := nofun
def x2z (l0_0 : List Int) (l0_1 : List Int) (l0_2 : List Int) (l0_3 : List Bool) (l0_4 : List Bool) (x1 : Int) : gmyS → Wu gmyS
 := nofun
def y6e (l0_0 : List Int) (l0_1 : List Int) (l0_2 : List Int) (l0_3 : List Bool) (l0_4 : List Bool) (x1 : Int) : Wu gmyS := (bif (decide (x1 = Int.ofNat 0)) then (.ret [(.int .i64 (IntKind.wrap .i64 ((l0_0.length : Int) - 1)))]) else (bif (decide (x1 = Int.ofNat 1)) then (.ret [(.int .i64 (IntKind.wrap .i64 ((l0_1.length : Int) - 1)))]) else (bif (decide (x1 = Int.ofNat 2)) then (.ret [(.int .i64 (IntKind.wrap .i64 ((l0_2.length : Int) - 1)))]) else .stuck)))
theorem x9m (l0_0 : List Int) (l0_1 : List Int) (l0_2 : List Int) (l0_3 : List Bool) (l0_4 : List Bool) (x1 : Int) : ∀ s, Wm prog (Zy prog 101) (gmyC l0_0 l0_1 l0_2 l0_3 l0_4 x1) (gmyC l0_0 l0_1 l0_2 l0_3 l0_4 x1 s) (x2z l0_0 l0_1 l0_2 l0_3 l0_4 x1 s)
 := nofun
theorem x3a (l0_0 : List Int) (l0_1 : List Int) (l0_2 : List Int) (l0_3 : List Bool) (l0_4 : List Bool) (x1 : Int) : Wm prog (Zy prog 101) (gmyC l0_0 l0_1 l0_2 l0_3 l0_4 x1) (Zd prog 101 [(.dptr [(.dat l0_0.length (Zz l0_0)), (.dat l0_1.length (Zz l0_1)), (.dat l0_2.length (Zz l0_2)), (.dat l0_3.length (Zz l0_3)), (.dat l0_4.length (Zz l0_4))]), (.int .i64 x1)] true []) (y6e l0_0 l0_1 l0_2 l0_3 l0_4 x1) := (lb (fun k0 => (lr 13 3 [1, 1, 1, 1, 1, 1, 0] 1 3 [(4, (ii (wr ((l0_0.length : Int) - 1))))] (sl Vk 16 [] ⟨[], [], [some [4]], []⟩ ⟨[], [], []⟩ [false] (ww k0 nn)))) (fun k0 => (lb (fun k1 => (lr 13 3 [1, 1, 1, 1, 1, 1, 0] 1 3 [(4, (ii (wr ((l0_1.length : Int) - 1))))] (sl Vk 16 [] ⟨[], [], [some [4]], []⟩ ⟨[], [], []⟩ [true, false] (ww k1 nn)))) (fun k1 => (lb (fun k2 => (lr 13 3 [1, 1, 1, 1, 1, 1, 0] 1 3 [(4, (ii (wr ((l0_2.length : Int) - 1))))] (sl Vk 16 [] ⟨[], [], [some [4]], []⟩ ⟨[], [], []⟩ [true, true, false] (ww k2 nn)))) (fun k2 => trivial))))))
theorem v0k (l0_0 : List Int) (l0_1 : List Int) (l0_2 : List Int) (l0_3 : List Bool) (l0_4 : List Bool) (x1 : Int) (n : Nat) (vs : List AVal) (h : Yj (x2z l0_0 l0_1 l0_2 l0_3 l0_4 x1) n (y6e l0_0 l0_1 l0_2 l0_3 l0_4 x1) = .ret vs) : Kv prog (Zy prog 101) (Zd prog 101 [(.dptr [(.dat l0_0.length (Zz l0_0)), (.dat l0_1.length (Zz l0_1)), (.dat l0_2.length (Zz l0_2)), (.dat l0_3.length (Zz l0_3)), (.dat l0_4.length (Zz l0_4))]), (.int .i64 x1)] true []) vs := by
 have := Zn (x9m l0_0 l0_1 l0_2 l0_3 l0_4 x1) n _ (x3a l0_0 l0_1 l0_2 l0_3 l0_4 x1)
 rwa [h] at this
end Go.Am
namespace Go.Am
open Go.Proofs.Tryz
open Go.Proofs
def z5u (X Y Z : List Int) (A B : List Bool) (ax : Int) : Int := bif decide (ax = 0) then IntKind.wrap .i64 ((X.length : Int) - 1) else bif decide (ax = 1) then IntKind.wrap .i64 ((Y.length : Int) - 1) else IntKind.wrap .i64 ((Z.length : Int) - 1)
def Xk (X Y Z : List Int) (A B : List Bool) (ax : Int) : Bool := pd (0 ≤ ax ∧ ax < 3)
theorem y3c {X Y Z : List Int} {A B : List Bool} {ax : Int} (h : 0 ≤ ax ∧ ax < 3) : Xk X Y Z A B ax = true := Yc h
theorem v8v (X Y Z : List Int) (A B : List Bool) (ax : Int) (h : Xk X Y Z A B ax = true) : ∃ N, Yj (x2z X Y Z A B ax) N (y6e X Y Z A B ax) = .ret [.int .i64 (z5u X Y Z A B ax)] := ⟨0, by
 have h : 0 ≤ ax ∧ ax < 3 := Vc h
 obtain rfl | rfl | rfl : ax = 0 ∨ ax = 1 ∨ ax = 2 := by omega
 all_goals rfl⟩
theorem y1x {cs cs' : List AVal} (h : RLe cs cs') : VLe (.dptr cs) (.dptr cs') := .dptr cs cs' h.len fun ρ i h1 h2 v hv => (h.get i h1 h2).sound hv
def fGmy : List AVal → Option (AVal × Bool)
 | [.dptr [a0_0, a0_1, a0_2, a0_3, a0_4], .int .i64 x1] => match asL Int a0_0, asL Int a0_1, asL Int a0_2, asL Bool a0_3, asL Bool a0_4 with
  | some (L0_0, g0_0, n0_0), some (L0_1, g0_1, n0_1), some (L0_2, g0_2, n0_2), some (L0_3, g0_3, n0_3), some (L0_4, g0_4, n0_4) => some (.int .i64 (z5u L0_0 L0_1 L0_2 L0_3 L0_4 x1), isT Int n0_0 g0_0 && (isT Int n0_1 g0_1 && (isT Int n0_2 g0_2 && (isT Bool n0_3 g0_3 && (isT Bool n0_4 g0_4 && (Xk L0_0 L0_1 L0_2 L0_3 L0_4 x1))))))
  | _, _, _, _, _ => none
 | _ => none
theorem v9x {S : Specs} (hS : Zu prog S) : Zu prog (S.with v4h fGmy) := by
 refine z2m hS (by kernel_rfl) fun args v h => ?_
 unfold fGmy at h
 split at h
 ·rename_i a0_0 a0_1 a0_2 a0_3 a0_4 x1
  split at h
  ·rename_i L0_0 g0_0 n0_0 L0_1 g0_1 n0_1 L0_2 g0_2 n0_2 L0_3 g0_3 n0_3 L0_4 g0_4 n0_4 e0_0 e0_1 e0_2 e0_3 e0_4
   simp only [Option.some.injEq, Prod.mk.injEq, Bool.and_eq_true] at h
   obtain ⟨rfl, eQ, eR, eS, eT, eU, hw⟩ := h
   obtain ⟨N, hN⟩ := v8v L0_0 L0_1 L0_2 L0_3 L0_4 x1 hw
   exact ⟨_, _, (.cons (y1x (.cons (Yx e0_0 eQ) (.cons (Yx e0_1 eR) (.cons (Yx e0_2 eS) (.cons (Yx e0_3 eT) (.cons (Yx e0_4 eU) .nil)))))) (.cons (.refl _) .nil)), rfl, v0k L0_0 L0_1 L0_2 L0_3 L0_4 x1 N _ hN, 3, rfl⟩
  ·cases h
 ·cases h
def Rb : Specs := (T9.with v4h fGmy)
theorem z6p : Zu prog Rb := (v9x Vk)
end Go.Am
namespace Go.Am
open Go.Proofs.Tryz
open Go.Proofs
inductive gatS where
def gatC (l0_0 : List Int) (l0_1 : List Int) (l0_2 : List Int) (l0_3 : List Bool) (l0_4 : List Bool) (aP : Int) (aQ : Int) (aR : Int) : gatS → Cfg
 := nofun
def x3g (l0_0 : List Int) (l0_1 : List Int) (l0_2 : List Int) (l0_3 : List Bool) (l0_4 : List Bool) (aP : Int) (aQ : Int) (aR : Int) : gatS → Wu gatS
 := nofun
def z9v (l0_0 : List Int) (l0_1 : List Int) (l0_2 : List Int) (l0_3 : List Bool) (l0_4 : List Bool) (aP : Int) (aQ : Int) (aR : Int) : Wu gatS := (bif (Xk (cvT l0_0) (cvT l0_1) (cvT l0_2) (cvT l0_3) (cvT l0_4) 1) then (bif (Xk (cvT l0_0) (cvT l0_1) (cvT l0_2) (cvT l0_3) (cvT l0_4) 2) then (.ret [(.int .i64 (IntKind.wrap .i64 ((IntKind.wrap .i64 ((IntKind.wrap .i64 ((IntKind.wrap .i64 (aP * (z5u (cvT l0_0) (cvT l0_1) (cvT l0_2) (cvT l0_3) (cvT l0_4) 1))) + aQ)) * (z5u (cvT l0_0) (cvT l0_1) (cvT l0_2) (cvT l0_3) (cvT l0_4) 2))) + aR)))]) else .stuck) else .stuck)
theorem x9q (l0_0 : List Int) (l0_1 : List Int) (l0_2 : List Int) (l0_3 : List Bool) (l0_4 : List Bool) (aP : Int) (aQ : Int) (aR : Int) : ∀ s, Wm prog (Zy prog 103) (gatC l0_0 l0_1 l0_2 l0_3 l0_4 aP aQ aR) (gatC l0_0 l0_1 l0_2 l0_3 l0_4 aP aQ aR s) (x3g l0_0 l0_1 l0_2 l0_3 l0_4 aP aQ aR s)
 := nofun
theorem x3h (l0_0 : List Int) (l0_1 : List Int) (l0_2 : List Int) (l0_3 : List Bool) (l0_4 : List Bool) (aP : Int) (aQ : Int) (aR : Int) : Wm prog (Zy prog 103) (gatC l0_0 l0_1 l0_2 l0_3 l0_4 aP aQ aR) (Zd prog 103 [(.dptr [(.dat l0_0.length (Zz l0_0)), (.dat l0_1.length (Zz l0_1)), (.dat l0_2.length (Zz l0_2)), (.dat l0_3.length (Zz l0_3)), (.dat l0_4.length (Zz l0_4))]), (.agg [(.int .i64 aP), (.int .i64 aQ), (.int .i64 aR)])] true []) (z9v l0_0 l0_1 l0_2 l0_3 l0_4 aP aQ aR) := (lo fun o0 => (lo fun o1 => (lr 19 3 [1, 1, 1, 1, 1, 1, 0] 1 3 [(4, (ii (wr ((wr ((wr ((wr (aP * (z5u (cvT l0_0) (cvT l0_1) (cvT l0_2) (cvT l0_3) (cvT l0_4) 1))) + aQ)) * (z5u (cvT l0_0) (cvT l0_1) (cvT l0_2) (cvT l0_3) (cvT l0_4) 2))) + aR))))] (sl z6p 7 [] ⟨[], [], [some [4]], []⟩ ⟨[], [], []⟩ [] (pp (pp (xr l0_0) (pp (xr l0_1) (pp (xr l0_2) (pp (xr l0_3) (pp (xr l0_4) (xw o1)))))) (pp (pp (xr l0_0) (pp (xr l0_1) (pp (xr l0_2) (pp (xr l0_3) (pp (xr l0_4) (xw o0)))))) nn))))))
theorem v0n (l0_0 : List Int) (l0_1 : List Int) (l0_2 : List Int) (l0_3 : List Bool) (l0_4 : List Bool) (aP : Int) (aQ : Int) (aR : Int) (n : Nat) (vs : List AVal) (h : Yj (x3g l0_0 l0_1 l0_2 l0_3 l0_4 aP aQ aR) n (z9v l0_0 l0_1 l0_2 l0_3 l0_4 aP aQ aR) = .ret vs) : Kv prog (Zy prog 103) (Zd prog 103 [(.dptr [(.dat l0_0.length (Zz l0_0)), (.dat l0_1.length (Zz l0_1)), (.dat l0_2.length (Zz l0_2)), (.dat l0_3.length (Zz l0_3)), (.dat l0_4.length (Zz l0_4))]), (.agg [(.int .i64 aP), (.int .i64 aQ), (.int .i64 aR)])] true []) vs := by
 have := Zn (x9q l0_0 l0_1 l0_2 l0_3 l0_4 aP aQ aR) n _ (x3h l0_0 l0_1 l0_2 l0_3 l0_4 aP aQ aR)
 rwa [h] at this
-- start: index into an array (choices [false, false, false])
inductive glnS where
def glnC (l0_0 : List Int) (l0_1 : List Int) (l0_2 : List Int) (l0_3 : List Bool) (l0_4 : List Bool) (aP : Int) (aQ : Int) (aR : Int) (x2 : Int) : glnS → Cfg
 := nofun
def x3b (l0_0 : List Int) (l0_1 : List Int) (l0_2 : List Int) (l0_3 : List Bool) (l0_4 : List Bool) (aP : Int) (aQ : Int) (aR : Int) (x2 : Int) : glnS → Wu glnS
 := nofun
def z3d (l0_0 : List Int) (l0_1 : List Int) (l0_2 : List Int) (l0_3 : List Bool) (l0_4 : List Bool) (aP : Int) (aQ : Int) (aR : Int) (x2 : Int) : Wu glnS := (bif (decide (x2 = Int.ofNat 0)) then (bif ((decide (0 ≤ (IntKind.wrap .i64 (aP + 1)) ∧ (IntKind.wrap .i64 (aP + 1)) < (l0_0.length : Int))) && true) then (bif ((decide (0 ≤ aP ∧ aP < (l0_0.length : Int))) && true) then (.ret [(.int .i64 (IntKind.wrap .i64 ((rd l0_0 (Int.toNat (IntKind.wrap .i64 (aP + 1)))) - (rd l0_0 aP.toNat))))]) else .stuck) else .stuck) else (bif (decide (x2 = Int.ofNat 1)) then (bif ((decide (0 ≤ (IntKind.wrap .i64 (aQ + 1)) ∧ (IntKind.wrap .i64 (aQ + 1)) < (l0_1.length : Int))) && true) then (bif ((decide (0 ≤ aQ ∧ aQ < (l0_1.length : Int))) && true) then (.ret [(.int .i64 (IntKind.wrap .i64 ((rd l0_1 (Int.toNat (IntKind.wrap .i64 (aQ + 1)))) - (rd l0_1 aQ.toNat))))]) else .stuck) else .stuck) else (bif (decide (x2 = Int.ofNat 2)) then (bif ((decide (0 ≤ (IntKind.wrap .i64 (aR + 1)) ∧ (IntKind.wrap .i64 (aR + 1)) < (l0_2.length : Int))) && true) then (bif ((decide (0 ≤ aR ∧ aR < (l0_2.length : Int))) && true) then (.ret [(.int .i64 (IntKind.wrap .i64 ((rd l0_2 (Int.toNat (IntKind.wrap .i64 (aR + 1)))) - (rd l0_2 aR.toNat))))]) else .stuck) else .stuck) else .stuck)))
theorem x9n (l0_0 : List Int) (l0_1 : List Int) (l0_2 : List Int) (l0_3 : List Bool) (l0_4 : List Bool) (aP : Int) (aQ : Int) (aR : Int) (x2 : Int) : ∀ s, Wm prog (Zy prog 104) (glnC l0_0 l0_1 l0_2 l0_3 l0_4 aP aQ aR x2) (glnC l0_0 l0_1 l0_2 l0_3 l0_4 aP aQ aR x2 s) (x3b l0_0 l0_1 l0_2 l0_3 l0_4 aP aQ aR x2 s)
 := nofun
theorem x3c (l0_0 : List Int) (l0_1 : List Int) (l0_2 : List Int) (l0_3 : List Bool) (l0_4 : List Bool) (aP : Int) (aQ : Int) (aR : Int) (x2 : Int) : Wm prog (Zy prog 104) (glnC l0_0 l0_1 l0_2 l0_3 l0_4 aP aQ aR x2) (Zd prog 104 [(.dptr [(.dat l0_0.length (Zz l0_0)), (.dat l0_1.length (Zz l0_1)), (.dat l0_2.length (Zz l0_2)), (.dat l0_3.length (Zz l0_3)), (.dat l0_4.length (Zz l0_4))]), (.agg [(.int .i64 aP), (.int .i64 aQ), (.int .i64 aR)]), (.int .i64 x2)] true []) (z3d l0_0 l0_1 l0_2 l0_3 l0_4 aP aQ aR x2) := (lb (fun k0 => (lo fun o0 => (lo fun o1 => (lr 31 3 [1, 1, 1, 1, 1, 1, 0] 1 4 [(6, (ii (wr ((rd l0_0 (tn (wr (aP + 1)))) - (rd l0_0 (tn aP))))))] (sl z6p 7 [] ⟨[], [], [some [6]], []⟩ ⟨[], [], []⟩ [false, false, false, false] (ww o1 (ww k0 (ww k0 (ww o0 (ww k0 (ww k0 nn))))))))))) (fun k0 => (lb (fun k1 => (lo fun o0 => (lo fun o1 => (lr 31 3 [1, 1, 1, 1, 1, 1, 0] 1 4 [(6, (ii (wr ((rd l0_1 (tn (wr (aQ + 1)))) - (rd l0_1 (tn aQ))))))] (sl z6p 7 [] ⟨[], [], [some [6]], []⟩ ⟨[], [], []⟩ [true, false, true, false, true, false, true, false] (ww o1 (ww k1 (ww k1 (ww o0 (ww k1 (ww k1 nn))))))))))) (fun k1 => (lb (fun k2 => (lo fun o0 => (lo fun o1 => (lr 31 3 [1, 1, 1, 1, 1, 1, 0] 1 4 [(6, (ii (wr ((rd l0_2 (tn (wr (aR + 1)))) - (rd l0_2 (tn aR))))))] (sl z6p 7 [] ⟨[], [], [some [6]], []⟩ ⟨[], [], []⟩ [true, true, false, true, true, false, true, true, false, true, true, false] (ww o1 (ww k2 (ww k2 (ww o0 (ww k2 (ww k2 nn))))))))))) (fun k2 => trivial))))))
theorem v0l (l0_0 : List Int) (l0_1 : List Int) (l0_2 : List Int) (l0_3 : List Bool) (l0_4 : List Bool) (aP : Int) (aQ : Int) (aR : Int) (x2 : Int) (n : Nat) (vs : List AVal) (h : Yj (x3b l0_0 l0_1 l0_2 l0_3 l0_4 aP aQ aR x2) n (z3d l0_0 l0_1 l0_2 l0_3 l0_4 aP aQ aR x2) = .ret vs) : Kv prog (Zy prog 104) (Zd prog 104 [(.dptr [(.dat l0_0.length (Zz l0_0)), (.dat l0_1.length (Zz l0_1)), (.dat l0_2.length (Zz l0_2)), (.dat l0_3.length (Zz l0_3)), (.dat l0_4.length (Zz l0_4))]), (.agg [(.int .i64 aP), (.int .i64 aQ), (.int .i64 aR)]), (.int .i64 x2)] true []) vs := by
 have := Zn (x9n l0_0 l0_1 l0_2 l0_3 l0_4 aP aQ aR x2) n _ (x3c l0_0 l0_1 l0_2 l0_3 l0_4 aP aQ aR x2)
 rwa [h] at this
inductive gcnS where
def gcnC (l0_0 : List Int) (l0_1 : List Int) (l0_2 : List Int) (l0_3 : List Bool) (l0_4 : List Bool) (x1 : Int) (x2 : Int) (x3 : Int) : gcnS → Cfg
 := nofun
def x3e (l0_0 : List Int) (l0_1 : List Int) (l0_2 : List Int) (l0_3 : List Bool) (l0_4 : List Bool) (x1 : Int) (x2 : Int) (x3 : Int) : gcnS → Wu gcnS
 := nofun
def z9u (l0_0 : List Int) (l0_1 : List Int) (l0_2 : List Int) (l0_3 : List Bool) (l0_4 : List Bool) (x1 : Int) (x2 : Int) (x3 : Int) : Wu gcnS := (bif (x1 == 0) then (bif ((decide (0 ≤ x2 ∧ x2 < (l0_3.length : Int))) && true) then (bif (rd l0_3 x2.toNat) then (bif ((decide (0 ≤ x3 ∧ x3 < (l0_3.length : Int))) && true) then (.ret [(.bool (!(rd l0_3 x3.toNat)))]) else .stuck) else (.ret [(.bool false)])) else .stuck) else (bif (x1 == 1) then (bif ((decide (0 ≤ x2 ∧ x2 < (l0_3.length : Int))) && true) then (bif (rd l0_3 x2.toNat) then (bif ((decide (0 ≤ x3 ∧ x3 < (l0_3.length : Int))) && true) then (bif (!(rd l0_3 x3.toNat)) then (bif ((decide (0 ≤ x3 ∧ x3 < (l0_4.length : Int))) && true) then (.ret [(.bool (rd l0_4 x3.toNat))]) else .stuck) else (.ret [(.bool false)])) else .stuck) else (.ret [(.bool false)])) else .stuck) else (bif ((decide (0 ≤ x2 ∧ x2 < (l0_3.length : Int))) && true) then (bif (rd l0_3 x2.toNat) then (bif ((decide (0 ≤ x2 ∧ x2 < (l0_4.length : Int))) && true) then (bif (!(rd l0_4 x2.toNat)) then (bif ((decide (0 ≤ x3 ∧ x3 < (l0_4.length : Int))) && true) then (bif (rd l0_4 x3.toNat) then (bif ((decide (0 ≤ x3 ∧ x3 < (l0_3.length : Int))) && true) then (.ret [(.bool (!(rd l0_3 x3.toNat)))]) else .stuck) else (.ret [(.bool false)])) else .stuck) else (.ret [(.bool false)])) else .stuck) else (.ret [(.bool false)])) else .stuck)))
theorem x9o (l0_0 : List Int) (l0_1 : List Int) (l0_2 : List Int) (l0_3 : List Bool) (l0_4 : List Bool) (x1 : Int) (x2 : Int) (x3 : Int) : ∀ s, Wm prog (Zy prog 102) (gcnC l0_0 l0_1 l0_2 l0_3 l0_4 x1 x2 x3) (gcnC l0_0 l0_1 l0_2 l0_3 l0_4 x1 x2 x3 s) (x3e l0_0 l0_1 l0_2 l0_3 l0_4 x1 x2 x3 s)
 := nofun
theorem x3f (l0_0 : List Int) (l0_1 : List Int) (l0_2 : List Int) (l0_3 : List Bool) (l0_4 : List Bool) (x1 : Int) (x2 : Int) (x3 : Int) : Wm prog (Zy prog 102) (gcnC l0_0 l0_1 l0_2 l0_3 l0_4 x1 x2 x3) (Zd prog 102 [(.dptr [(.dat l0_0.length (Zz l0_0)), (.dat l0_1.length (Zz l0_1)), (.dat l0_2.length (Zz l0_2)), (.dat l0_3.length (Zz l0_3)), (.dat l0_4.length (Zz l0_4))]), (.int .i64 x1), (.int .i64 x2), (.int .i64 x3)] true []) (z9u l0_0 l0_1 l0_2 l0_3 l0_4 x1 x2 x3) := (lb (fun k0 => (lo fun aG => (lb (fun k1 => (lo fun o0 => (lr 93 102 [1, 0, 1, 0, 1, 0, 0] 1 102 [(8, (.bool (!(rd l0_3 (tn x3)))))] (sl z6p 37 [] ⟨[], [], [some [8]], []⟩ ⟨[], [], []⟩ (trs 9 []) (ww o0 (tt k1 (ww aG (tt k0 nn)))))))) (fun k1 => (lr 93 102 [1, 0, 1, 0, 1, 0, 0] 1 102 [(8, (.bool false))] (sl z6p 37 [] ⟨[], [], [some [8]], []⟩ ⟨[], [], []⟩ [true, false, false, false, false, false, false, false, false] (tt k1 (ww aG (tt k0 nn))))))))) (fun k0 => (lb (fun k1 => (lo fun aU => (lb (fun k2 => (lo fun bA => (lb (fun k3 => (lo fun o0 => (lr 93 102 [1, 0, 1, 0, 1, 0, 0] 1 102 [(8, (.bool (rd l0_4 (tn x3))))] (sl z6p 52 [] ⟨[], [], [some [8]], []⟩ ⟨[], [], []⟩ [false, true, true, true, true, true, true, true, true, true, true, true, true, true, true, true, true] (ww o0 (tt k3 (ww bA (tt k2 (ww aU (tt k1 (tt k0 nn))))))))))) (fun k3 => (lr 93 102 [1, 0, 1, 0, 1, 0, 0] 1 102 [(8, (.bool false))] (sl z6p 52 [] ⟨[], [], [some [8]], []⟩ ⟨[], [], []⟩ [false, true, true, true, true, true, true, true, true, true, false, false, false, false, false, false, false] (tt k3 (ww bA (tt k2 (ww aU (tt k1 (tt k0 nn)))))))))))) (fun k2 => (lr 93 102 [1, 0, 1, 0, 1, 0, 0] 1 102 [(8, (.bool false))] (sl z6p 52 [] ⟨[], [], [some [8]], []⟩ ⟨[], [], []⟩ [false, true, false, false, false, false, false, false, false, false, false, false, false, false, false, false, false] (tt k2 (ww aU (tt k1 (tt k0 nn)))))))))) (fun k1 => (lo fun aU => (lb (fun k2 => (lo fun bA => (lb (fun k3 => (lo fun bF => (lb (fun k4 => (lo fun o0 => (lr 93 3 [1, 1, 1, 1, 1, 1, 0] 1 102 [(8, (.bool (!(rd l0_3 (tn x3)))))] (sl z6p 64 [] ⟨[], [], [some [8]], []⟩ ⟨[], [], []⟩ [false, false, true, true, true, true, true, true, true, true, true, true, true, true, true, true, true, true, true, true, true, true, true, true, true] (ww o0 (tt k4 (ww bF (tt k3 (ww bA (tt k2 (ww aU (tt k1 (tt k0 nn))))))))))))) (fun k4 => (lr 93 3 [1, 1, 1, 1, 1, 1, 0] 1 102 [(8, (.bool false))] (sl z6p 64 [] ⟨[], [], [some [8]], []⟩ ⟨[], [], []⟩ [false, false, true, true, true, true, true, true, true, true, true, true, true, true, true, true, true, false, false, false, false, false, false, false, false] (tt k4 (ww bF (tt k3 (ww bA (tt k2 (ww aU (tt k1 (tt k0 nn)))))))))))))) (fun k3 => (lr 93 3 [1, 1, 1, 1, 1, 1, 0] 1 102 [(8, (.bool false))] (sl z6p 64 [] ⟨[], [], [some [8]], []⟩ ⟨[], [], []⟩ [false, false, true, true, true, true, true, true, true, true, false, false, false, false, false, false, false, false, false, false, false, false, false, false, false] (tt k3 (ww bA (tt k2 (ww aU (tt k1 (tt k0 nn)))))))))))) (fun k2 => (lr 93 3 [1, 1, 1, 1, 1, 1, 0] 1 102 [(8, (.bool false))] (sl z6p 64 [] ⟨[], [], [some [8]], []⟩ ⟨[], [], []⟩ [false, false, false, false, false, false, false, false, false, false, false, false, false, false, false, false, false, false, false, false, false, false, false, false, false] (tt k2 (ww aU (tt k1 (tt k0 nn)))))))))))))
theorem v0m (l0_0 : List Int) (l0_1 : List Int) (l0_2 : List Int) (l0_3 : List Bool) (l0_4 : List Bool) (x1 : Int) (x2 : Int) (x3 : Int) (n : Nat) (vs : List AVal) (h : Yj (x3e l0_0 l0_1 l0_2 l0_3 l0_4 x1 x2 x3) n (z9u l0_0 l0_1 l0_2 l0_3 l0_4 x1 x2 x3) = .ret vs) : Kv prog (Zy prog 102) (Zd prog 102 [(.dptr [(.dat l0_0.length (Zz l0_0)), (.dat l0_1.length (Zz l0_1)), (.dat l0_2.length (Zz l0_2)), (.dat l0_3.length (Zz l0_3)), (.dat l0_4.length (Zz l0_4))]), (.int .i64 x1), (.int .i64 x2), (.int .i64 x3)] true []) vs := by
 have := Zn (x9o l0_0 l0_1 l0_2 l0_3 l0_4 x1 x2 x3) n _ (x3f l0_0 l0_1 l0_2 l0_3 l0_4 x1 x2 x3)
 rwa [h] at this
end Go.Am
namespace Go.Am
open Go.Proofs.Tryz
open Go.Proofs
def z1m (X Y Z : List Int) (A B : List Bool) (i j k : Int) : Int := IntKind.wrap .i64 (IntKind.wrap .i64 (IntKind.wrap .i64 (IntKind.wrap .i64 (i * z5u X Y Z A B 1) + j) * z5u X Y Z A B 2) + k)
def Vi (X Y Z : List Int) (A B : List Bool) (i j k : Int) : Bool := true
theorem v8y (X Y Z : List Int) (A B : List Bool) (i j k : Int) (h : Vi X Y Z A B i j k = true) : ∃ N, Yj (x3g X Y Z A B i j k) N (z9v X Y Z A B i j k) = .ret [.int .i64 (z1m X Y Z A B i j k)] := ⟨0, by
 unfold z9v z1m
 simp only [Zg, show Xk X Y Z A B 1 = true from y3c (by omega), show Xk X Y Z A B 2 = true from y3c (by omega), cond_true]; rfl⟩
def v4q (C : List Int) (i : Int) : Int := IntKind.wrap .i64 (rd C (Int.toNat (IntKind.wrap .i64 (i + 1))) - rd C i.toNat)
def y6f (X Y Z : List Int) (A B : List Bool) (i j k ax : Int) : Int := bif decide (ax = 0) then v4q X i else bif decide (ax = 1) then v4q Y j else v4q Z k
def Jw (X Y Z : List Int) (A B : List Bool) (i j k ax : Int) : Bool := decide ((0 ≤ ax ∧ ax < 3) ∧ (0 ≤ i ∧ i + 1 < X.length) ∧ (0 ≤ j ∧ j + 1 < Y.length) ∧ (0 ≤ k ∧ k + 1 < Z.length) ∧ X.length ≤ 100000 ∧ Y.length ≤ 100000 ∧ Z.length ≤ 100000)
theorem v8w (X Y Z : List Int) (A B : List Bool) (i j k ax : Int) (h : Jw X Y Z A B i j k ax = true) : ∃ N, Yj (x3b X Y Z A B i j k ax) N (z3d X Y Z A B i j k ax) = .ret [.int .i64 (y6f X Y Z A B i j k ax)] := ⟨0, by
 obtain ⟨h, hi, hj, hk, bx, b2, bz⟩ := of_decide_eq_true h
 have wi : IntKind.wrap .i64 (i + 1) = i + 1 := Zj (by omega)
 have wj : IntKind.wrap .i64 (j + 1) = j + 1 := Zj (by omega)
 have wk : IntKind.wrap .i64 (k + 1) = k + 1 := Zj (by omega)
 obtain rfl | rfl | rfl : ax = 0 ∨ ax = 1 ∨ ax = 2 := by omega
 ·unfold z3d y6f v4q
  rw [wi]
  simp (disch := omega) only [Yy, Bool.and_true, cond_true]; rfl
 ·unfold z3d y6f v4q
  rw [wj]
  simp (disch := omega) only [Yy, Bool.and_true, cond_true]; rfl
 ·unfold z3d y6f v4q
  rw [wk]
  simp (disch := omega) only [Yy, Bool.and_true, cond_true]; rfl⟩
def cntB (kd : Int) (a b a' b' : Bool) : Bool := bif kd == 0 then a && !a' else bif kd == 1 then a && (!a' && b') else a && (!b && (b' && !a'))
def x9p (X Y Z : List Int) (A B : List Bool) (kd i k : Int) : Bool := cntB kd (rd A i.toNat) (rd B i.toNat) (rd A k.toNat) (rd B k.toNat)
def Jv (X Y Z : List Int) (A B : List Bool) (kd i k : Int) : Bool := decide ((0 ≤ i ∧ i < A.length) ∧ (0 ≤ i ∧ i < B.length) ∧ (0 ≤ k ∧ k < A.length) ∧ (0 ≤ k ∧ k < B.length))
theorem v8x (X Y Z : List Int) (A B : List Bool) (kd i k : Int) (h : Jv X Y Z A B kd i k = true) : ∃ N, Yj (x3e X Y Z A B kd i k) N (z9u X Y Z A B kd i k) = .ret [.bool (x9p X Y Z A B kd i k)] := ⟨0, by
 obtain ⟨h1, h2, h3, h4⟩ := of_decide_eq_true h
 unfold z9u x9p cntB
 simp (disch := omega) only [Yy, Bool.and_true, cond_true]
 cases (kd == 0) <;> cases (kd == 1) <;> cases rd A i.toNat <;> cases rd B i.toNat <;> cases rd A k.toNat <;> cases rd B k.toNat <;> rfl⟩
def fGat : List AVal → Option (AVal × Bool)
 | [.dptr [a0_0, a0_1, a0_2, a0_3, a0_4], .agg [.int .i64 aP, .int .i64 aQ, .int .i64 aR]] => match asL Int a0_0, asL Int a0_1, asL Int a0_2, asL Bool a0_3, asL Bool a0_4 with
  | some (L0_0, g0_0, n0_0), some (L0_1, g0_1, n0_1), some (L0_2, g0_2, n0_2), some (L0_3, g0_3, n0_3), some (L0_4, g0_4, n0_4) => some (.int .i64 (z1m L0_0 L0_1 L0_2 L0_3 L0_4 aP aQ aR), isT Int n0_0 g0_0 && (isT Int n0_1 g0_1 && (isT Int n0_2 g0_2 && (isT Bool n0_3 g0_3 && (isT Bool n0_4 g0_4 && (Vi L0_0 L0_1 L0_2 L0_3 L0_4 aP aQ aR))))))
  | _, _, _, _, _ => none
 | _ => none
theorem u0a {S : Specs} (hS : Zu prog S) : Zu prog (S.with nGAt fGat) := by
 refine z2m hS (by kernel_rfl) fun args v h => ?_
 unfold fGat at h
 split at h
 ·rename_i a0_0 a0_1 a0_2 a0_3 a0_4 aP aQ aR
  split at h
  ·rename_i L0_0 g0_0 n0_0 L0_1 g0_1 n0_1 L0_2 g0_2 n0_2 L0_3 g0_3 n0_3 L0_4 g0_4 n0_4 e0_0 e0_1 e0_2 e0_3 e0_4
   simp only [Option.some.injEq, Prod.mk.injEq, Bool.and_eq_true] at h
   obtain ⟨rfl, eQ, eR, eS, eT, eU, hw⟩ := h
   obtain ⟨N, hN⟩ := v8y L0_0 L0_1 L0_2 L0_3 L0_4 aP aQ aR hw
   exact ⟨_, _, (.cons (y1x (.cons (Yx e0_0 eQ) (.cons (Yx e0_1 eR) (.cons (Yx e0_2 eS) (.cons (Yx e0_3 eT) (.cons (Yx e0_4 eU) .nil)))))) (.cons (.refl _) .nil)), rfl, v0n L0_0 L0_1 L0_2 L0_3 L0_4 aP aQ aR N _ hN, 3, rfl⟩
  ·cases h
 ·cases h
def fGln : List AVal → Option (AVal × Bool)
 | [.dptr [a0_0, a0_1, a0_2, a0_3, a0_4], .agg [.int .i64 aP, .int .i64 aQ, .int .i64 aR], .int .i64 x2] => match asL Int a0_0, asL Int a0_1, asL Int a0_2, asL Bool a0_3, asL Bool a0_4 with
  | some (L0_0, g0_0, n0_0), some (L0_1, g0_1, n0_1), some (L0_2, g0_2, n0_2), some (L0_3, g0_3, n0_3), some (L0_4, g0_4, n0_4) => some (.int .i64 (y6f L0_0 L0_1 L0_2 L0_3 L0_4 aP aQ aR x2), isT Int n0_0 g0_0 && (isT Int n0_1 g0_1 && (isT Int n0_2 g0_2 && (isT Bool n0_3 g0_3 && (isT Bool n0_4 g0_4 && (Jw L0_0 L0_1 L0_2 L0_3 L0_4 aP aQ aR x2))))))
  | _, _, _, _, _ => none
 | _ => none
theorem v9y {S : Specs} (hS : Zu prog S) : Zu prog (S.with nGLen fGln) := by
 refine z2m hS (by kernel_rfl) fun args v h => ?_
 unfold fGln at h
 split at h
 ·rename_i a0_0 a0_1 a0_2 a0_3 a0_4 aP aQ aR x2
  split at h
  ·rename_i L0_0 g0_0 n0_0 L0_1 g0_1 n0_1 L0_2 g0_2 n0_2 L0_3 g0_3 n0_3 L0_4 g0_4 n0_4 e0_0 e0_1 e0_2 e0_3 e0_4
   simp only [Option.some.injEq, Prod.mk.injEq, Bool.and_eq_true] at h
   obtain ⟨rfl, eQ, eR, eS, eT, eU, hw⟩ := h
   obtain ⟨N, hN⟩ := v8w L0_0 L0_1 L0_2 L0_3 L0_4 aP aQ aR x2 hw
   exact ⟨_, _, (.cons (y1x (.cons (Yx e0_0 eQ) (.cons (Yx e0_1 eR) (.cons (Yx e0_2 eS) (.cons (Yx e0_3 eT) (.cons (Yx e0_4 eU) .nil)))))) (.cons (.refl _) (.cons (.refl _) .nil))), rfl, v0l L0_0 L0_1 L0_2 L0_3 L0_4 aP aQ aR x2 N _ hN, 3, rfl⟩
  ·cases h
 ·cases h
def fGcn : List AVal → Option (AVal × Bool)
 | [.dptr [a0_0, a0_1, a0_2, a0_3, a0_4], .int .i64 x1, .int .i64 x2, .int .i64 x3] => match asL Int a0_0, asL Int a0_1, asL Int a0_2, asL Bool a0_3, asL Bool a0_4 with
  | some (L0_0, g0_0, n0_0), some (L0_1, g0_1, n0_1), some (L0_2, g0_2, n0_2), some (L0_3, g0_3, n0_3), some (L0_4, g0_4, n0_4) => some (.bool (x9p L0_0 L0_1 L0_2 L0_3 L0_4 x1 x2 x3), isT Int n0_0 g0_0 && (isT Int n0_1 g0_1 && (isT Int n0_2 g0_2 && (isT Bool n0_3 g0_3 && (isT Bool n0_4 g0_4 && (Jv L0_0 L0_1 L0_2 L0_3 L0_4 x1 x2 x3))))))
  | _, _, _, _, _ => none
 | _ => none
theorem v9z {S : Specs} (hS : Zu prog S) : Zu prog (S.with nGCnt fGcn) := by
 refine z2m hS (by kernel_rfl) fun args v h => ?_
 unfold fGcn at h
 split at h
 ·rename_i a0_0 a0_1 a0_2 a0_3 a0_4 x1 x2 x3
  split at h
  ·rename_i L0_0 g0_0 n0_0 L0_1 g0_1 n0_1 L0_2 g0_2 n0_2 L0_3 g0_3 n0_3 L0_4 g0_4 n0_4 e0_0 e0_1 e0_2 e0_3 e0_4
   simp only [Option.some.injEq, Prod.mk.injEq, Bool.and_eq_true] at h
   obtain ⟨rfl, eQ, eR, eS, eT, eU, hw⟩ := h
   obtain ⟨N, hN⟩ := v8x L0_0 L0_1 L0_2 L0_3 L0_4 x1 x2 x3 hw
   exact ⟨_, _, (.cons (y1x (.cons (Yx e0_0 eQ) (.cons (Yx e0_1 eR) (.cons (Yx e0_2 eS) (.cons (Yx e0_3 eT) (.cons (Yx e0_4 eU) .nil)))))) (.cons (.refl _) (.cons (.refl _) (.cons (.refl _) .nil)))), rfl, v0m L0_0 L0_1 L0_2 L0_3 L0_4 x1 x2 x3 N _ hN, 3, rfl⟩
  ·cases h
 ·cases h
def Rc : Specs := (((Rb.with nGAt fGat).with nGLen fGln).with nGCnt fGcn)
theorem z1z : Zu prog Rc := (v9z (v9y (u0a z6p)))
end Go.Am
namespace Go.Am
open Go.Proofs.Tryz
open Go.Proofs
-- h2: index into an array (choices [true, false, false, false])
inductive facS where
 | h0 (v9 : Int) (v10 : Int)
 | h1 (v9 : Int) (v10 : Int) (v11 : Int)
 | h2 (v9 : Int) (v10 : Int) (v11 : Int) (v12 : Int)
def facC (l0_0 : List Int) (l0_1 : List Int) (l0_2 : List Int) (l0_3 : List Bool) (l0_4 : List Bool) (x1 : Int) (x2 : Int) : facS → Cfg
 | .h0 v9 v10 => ⟨⟨91, 0, true⟩, none, (Yw prog 66 [1, 1, 1, 0, 1, 0, 0] 0), none, (Zy prog 4), ⟨Xp [(0, (.dptr [(.dat l0_0.length (Zz l0_0)), (.dat l0_1.length (Zz l0_1)), (.dat l0_2.length (Zz l0_2)), (.dat l0_3.length (Zz l0_3)), (.dat l0_4.length (Zz l0_4))])), (1, (ii x1)), (7, (ii (wr (Int.tdiv x2 2)))), (8, (ii (wr (1 - (wr (2 * (Int.tmod x2 2))))))), (9, (ii v9)), (10, (ii v10))], Ux [] 0, 0, [], true⟩, [], .leaf⟩
 | .h1 v9 v10 v11 => ⟨⟨91, 0, true⟩, none, (Yw prog 66 [1, 1, 1, 0, 1, 0, 0, 1, 0, 0, 1, 0, 0] 0), none, (Zy prog 4), ⟨Xp [(0, (.dptr [(.dat l0_0.length (Zz l0_0)), (.dat l0_1.length (Zz l0_1)), (.dat l0_2.length (Zz l0_2)), (.dat l0_3.length (Zz l0_3)), (.dat l0_4.length (Zz l0_4))])), (1, (ii x1)), (7, (ii (wr (Int.tdiv x2 2)))), (8, (ii (wr (1 - (wr (2 * (Int.tmod x2 2))))))), (9, (ii v9)), (10, (ii v10)), (11, (ii v11))], Ux [] 0, 0, [], true⟩, [], .leaf⟩
 | .h2 v9 v10 v11 v12 => ⟨⟨91, 0, true⟩, none, (Yw prog 66 [1, 1, 1, 0, 1, 0, 0, 1, 0, 0, 1, 0, 0, 1, 0, 0, 1, 0, 0] 0), none, (Zy prog 4), ⟨Xp [(0, (.dptr [(.dat l0_0.length (Zz l0_0)), (.dat l0_1.length (Zz l0_1)), (.dat l0_2.length (Zz l0_2)), (.dat l0_3.length (Zz l0_3)), (.dat l0_4.length (Zz l0_4))])), (1, (ii x1)), (7, (ii (wr (Int.tdiv x2 2)))), (8, (ii (wr (1 - (wr (2 * (Int.tmod x2 2))))))), (9, (ii v9)), (10, (ii v10)), (11, (ii v11)), (12, (ii v12))], Ux [] 0, 0, [], true⟩, [], .leaf⟩
def facN0 : List (Option (List Nat)) := [some [0, 1, 7, 8, 9, 10]]
def facM0 : List (Option (List Nat)) := []
def facN1 : List (Option (List Nat)) := [some [0, 1, 7, 8, 9, 10, 11]]
def facM1 : List (Option (List Nat)) := []
def z7l : List (Option (List Nat)) := [some [0, 1, 7, 8, 9, 10, 11, 12]]
def z7m : List (Option (List Nat)) := []
def Vn (l0_0 : List Int) (l0_1 : List Int) (l0_2 : List Int) (l0_3 : List Bool) (l0_4 : List Bool) (x1 : Int) (x2 : Int) : facS → Wu facS
 | .h0 v9 v10 => (bif (Xk (cvT l0_0) (cvT l0_1) (cvT l0_2) (cvT l0_3) (cvT l0_4) 0) then (bif (decide (v10 < (z5u (cvT l0_0) (cvT l0_1) (cvT l0_2) (cvT l0_3) (cvT l0_4) 0))) then (.to (.h1 v9 v10 0)) else (.ret [(.int .i64 v9)])) else .stuck)
 | .h1 v9 v10 v11 => (bif (Xk (cvT l0_0) (cvT l0_1) (cvT l0_2) (cvT l0_3) (cvT l0_4) 1) then (bif (decide (v11 < (z5u (cvT l0_0) (cvT l0_1) (cvT l0_2) (cvT l0_3) (cvT l0_4) 1))) then (.to (.h2 v9 v10 v11 0)) else (.to (.h0 v9 (IntKind.wrap .i64 (v10 + 1))))) else .stuck)
 | .h2 v9 v10 v11 v12 => (bif (Xk (cvT l0_0) (cvT l0_1) (cvT l0_2) (cvT l0_3) (cvT l0_4) 2) then (bif (decide (v12 < (z5u (cvT l0_0) (cvT l0_1) (cvT l0_2) (cvT l0_3) (cvT l0_4) 2))) then (bif (decide ((IntKind.wrap .i64 (Int.tdiv x2 2)) = Int.ofNat 0)) then (bif (decide ((IntKind.wrap .i64 (v10 + (IntKind.wrap .i64 (1 - (IntKind.wrap .i64 (2 * (Int.tmod x2 2))))))) < 0)) then (.to (.h2 v9 v10 v11 (IntKind.wrap .i64 (v12 + 1)))) else (bif (Xk (cvT l0_0) (cvT l0_1) (cvT l0_2) (cvT l0_3) (cvT l0_4) (IntKind.wrap .i64 (Int.tdiv x2 2))) then (bif (decide ((IntKind.wrap .i64 (v10 + (IntKind.wrap .i64 (1 - (IntKind.wrap .i64 (2 * (Int.tmod x2 2))))))) ≥ (z5u (cvT l0_0) (cvT l0_1) (cvT l0_2) (cvT l0_3) (cvT l0_4) (IntKind.wrap .i64 (Int.tdiv x2 2))))) then (.to (.h2 v9 v10 v11 (IntKind.wrap .i64 (v12 + 1)))) else (bif (Vi (cvT l0_0) (cvT l0_1) (cvT l0_2) (cvT l0_3) (cvT l0_4) v10 v11 v12) then (bif (Vi (cvT l0_0) (cvT l0_1) (cvT l0_2) (cvT l0_3) (cvT l0_4) (IntKind.wrap .i64 (v10 + (IntKind.wrap .i64 (1 - (IntKind.wrap .i64 (2 * (Int.tmod x2 2))))))) v11 v12) then (bif (Jv (cvT l0_0) (cvT l0_1) (cvT l0_2) (cvT l0_3) (cvT l0_4) x1 (z1m (cvT l0_0) (cvT l0_1) (cvT l0_2) (cvT l0_3) (cvT l0_4) v10 v11 v12) (z1m (cvT l0_0) (cvT l0_1) (cvT l0_2) (cvT l0_3) (cvT l0_4) (IntKind.wrap .i64 (v10 + (IntKind.wrap .i64 (1 - (IntKind.wrap .i64 (2 * (Int.tmod x2 2))))))) v11 v12)) then (bif (!(x9p (cvT l0_0) (cvT l0_1) (cvT l0_2) (cvT l0_3) (cvT l0_4) x1 (z1m (cvT l0_0) (cvT l0_1) (cvT l0_2) (cvT l0_3) (cvT l0_4) v10 v11 v12) (z1m (cvT l0_0) (cvT l0_1) (cvT l0_2) (cvT l0_3) (cvT l0_4) (IntKind.wrap .i64 (v10 + (IntKind.wrap .i64 (1 - (IntKind.wrap .i64 (2 * (Int.tmod x2 2))))))) v11 v12))) then (.to (.h2 v9 v10 v11 (IntKind.wrap .i64 (v12 + 1)))) else (bif (Jw (cvT l0_0) (cvT l0_1) (cvT l0_2) (cvT l0_3) (cvT l0_4) v10 v11 v12 (Int.tmod (IntKind.wrap .i64 ((IntKind.wrap .i64 (Int.tdiv x2 2)) + 1)) 3)) then (bif (Jw (cvT l0_0) (cvT l0_1) (cvT l0_2) (cvT l0_3) (cvT l0_4) v10 v11 v12 (Int.tmod (IntKind.wrap .i64 ((IntKind.wrap .i64 (Int.tdiv x2 2)) + 2)) 3)) then (.to (.h2 (IntKind.wrap .i64 (v9 + (IntKind.wrap .i64 ((y6f (cvT l0_0) (cvT l0_1) (cvT l0_2) (cvT l0_3) (cvT l0_4) v10 v11 v12 (Int.tmod (IntKind.wrap .i64 ((IntKind.wrap .i64 (Int.tdiv x2 2)) + 1)) 3)) * (y6f (cvT l0_0) (cvT l0_1) (cvT l0_2) (cvT l0_3) (cvT l0_4) v10 v11 v12 (Int.tmod (IntKind.wrap .i64 ((IntKind.wrap .i64 (Int.tdiv x2 2)) + 2)) 3)))))) v10 v11 (IntKind.wrap .i64 (v12 + 1)))) else .stuck) else .stuck)) else .stuck) else .stuck) else .stuck)) else .stuck)) else (bif (decide ((IntKind.wrap .i64 (Int.tdiv x2 2)) = Int.ofNat 1)) then (bif (decide ((IntKind.wrap .i64 (v11 + (IntKind.wrap .i64 (1 - (IntKind.wrap .i64 (2 * (Int.tmod x2 2))))))) < 0)) then (.to (.h2 v9 v10 v11 (IntKind.wrap .i64 (v12 + 1)))) else (bif (Xk (cvT l0_0) (cvT l0_1) (cvT l0_2) (cvT l0_3) (cvT l0_4) (IntKind.wrap .i64 (Int.tdiv x2 2))) then (bif (decide ((IntKind.wrap .i64 (v11 + (IntKind.wrap .i64 (1 - (IntKind.wrap .i64 (2 * (Int.tmod x2 2))))))) ≥ (z5u (cvT l0_0) (cvT l0_1) (cvT l0_2) (cvT l0_3) (cvT l0_4) (IntKind.wrap .i64 (Int.tdiv x2 2))))) then (.to (.h2 v9 v10 v11 (IntKind.wrap .i64 (v12 + 1)))) else (bif (Vi (cvT l0_0) (cvT l0_1) (cvT l0_2) (cvT l0_3) (cvT l0_4) v10 v11 v12) then (bif (Vi (cvT l0_0) (cvT l0_1) (cvT l0_2) (cvT l0_3) (cvT l0_4) v10 (IntKind.wrap .i64 (v11 + (IntKind.wrap .i64 (1 - (IntKind.wrap .i64 (2 * (Int.tmod x2 2))))))) v12) then (bif (Jv (cvT l0_0) (cvT l0_1) (cvT l0_2) (cvT l0_3) (cvT l0_4) x1 (z1m (cvT l0_0) (cvT l0_1) (cvT l0_2) (cvT l0_3) (cvT l0_4) v10 v11 v12) (z1m (cvT l0_0) (cvT l0_1) (cvT l0_2) (cvT l0_3) (cvT l0_4) v10 (IntKind.wrap .i64 (v11 + (IntKind.wrap .i64 (1 - (IntKind.wrap .i64 (2 * (Int.tmod x2 2))))))) v12)) then (bif (!(x9p (cvT l0_0) (cvT l0_1) (cvT l0_2) (cvT l0_3) (cvT l0_4) x1 (z1m (cvT l0_0) (cvT l0_1) (cvT l0_2) (cvT l0_3) (cvT l0_4) v10 v11 v12) (z1m (cvT l0_0) (cvT l0_1) (cvT l0_2) (cvT l0_3) (cvT l0_4) v10 (IntKind.wrap .i64 (v11 + (IntKind.wrap .i64 (1 - (IntKind.wrap .i64 (2 * (Int.tmod x2 2))))))) v12))) then (.to (.h2 v9 v10 v11 (IntKind.wrap .i64 (v12 + 1)))) else (bif (Jw (cvT l0_0) (cvT l0_1) (cvT l0_2) (cvT l0_3) (cvT l0_4) v10 v11 v12 (Int.tmod (IntKind.wrap .i64 ((IntKind.wrap .i64 (Int.tdiv x2 2)) + 1)) 3)) then (bif (Jw (cvT l0_0) (cvT l0_1) (cvT l0_2) (cvT l0_3) (cvT l0_4) v10 v11 v12 (Int.tmod (IntKind.wrap .i64 ((IntKind.wrap .i64 (Int.tdiv x2 2)) + 2)) 3)) then (.to (.h2 (IntKind.wrap .i64 (v9 + (IntKind.wrap .i64 ((y6f (cvT l0_0) (cvT l0_1) (cvT l0_2) (cvT l0_3) (cvT l0_4) v10 v11 v12 (Int.tmod (IntKind.wrap .i64 ((IntKind.wrap .i64 (Int.tdiv x2 2)) + 1)) 3)) * (y6f (cvT l0_0) (cvT l0_1) (cvT l0_2) (cvT l0_3) (cvT l0_4) v10 v11 v12 (Int.tmod (IntKind.wrap .i64 ((IntKind.wrap .i64 (Int.tdiv x2 2)) + 2)) 3)))))) v10 v11 (IntKind.wrap .i64 (v12 + 1)))) else .stuck) else .stuck)) else .stuck) else .stuck) else .stuck)) else .stuck)) else (bif (decide ((IntKind.wrap .i64 (Int.tdiv x2 2)) = Int.ofNat 2)) then (bif (decide ((IntKind.wrap .i64 (v12 + (IntKind.wrap .i64 (1 - (IntKind.wrap .i64 (2 * (Int.tmod x2 2))))))) < 0)) then (.to (.h2 v9 v10 v11 (IntKind.wrap .i64 (v12 + 1)))) else (bif (Xk (cvT l0_0) (cvT l0_1) (cvT l0_2) (cvT l0_3) (cvT l0_4) (IntKind.wrap .i64 (Int.tdiv x2 2))) then (bif (decide ((IntKind.wrap .i64 (v12 + (IntKind.wrap .i64 (1 - (IntKind.wrap .i64 (2 * (Int.tmod x2 2))))))) ≥ (z5u (cvT l0_0) (cvT l0_1) (cvT l0_2) (cvT l0_3) (cvT l0_4) (IntKind.wrap .i64 (Int.tdiv x2 2))))) then (.to (.h2 v9 v10 v11 (IntKind.wrap .i64 (v12 + 1)))) else (bif (Vi (cvT l0_0) (cvT l0_1) (cvT l0_2) (cvT l0_3) (cvT l0_4) v10 v11 v12) then (bif (Vi (cvT l0_0) (cvT l0_1) (cvT l0_2) (cvT l0_3) (cvT l0_4) v10 v11 (IntKind.wrap .i64 (v12 + (IntKind.wrap .i64 (1 - (IntKind.wrap .i64 (2 * (Int.tmod x2 2)))))))) then (bif (Jv (cvT l0_0) (cvT l0_1) (cvT l0_2) (cvT l0_3) (cvT l0_4) x1 (z1m (cvT l0_0) (cvT l0_1) (cvT l0_2) (cvT l0_3) (cvT l0_4) v10 v11 v12) (z1m (cvT l0_0) (cvT l0_1) (cvT l0_2) (cvT l0_3) (cvT l0_4) v10 v11 (IntKind.wrap .i64 (v12 + (IntKind.wrap .i64 (1 - (IntKind.wrap .i64 (2 * (Int.tmod x2 2))))))))) then (bif (!(x9p (cvT l0_0) (cvT l0_1) (cvT l0_2) (cvT l0_3) (cvT l0_4) x1 (z1m (cvT l0_0) (cvT l0_1) (cvT l0_2) (cvT l0_3) (cvT l0_4) v10 v11 v12) (z1m (cvT l0_0) (cvT l0_1) (cvT l0_2) (cvT l0_3) (cvT l0_4) v10 v11 (IntKind.wrap .i64 (v12 + (IntKind.wrap .i64 (1 - (IntKind.wrap .i64 (2 * (Int.tmod x2 2)))))))))) then (.to (.h2 v9 v10 v11 (IntKind.wrap .i64 (v12 + 1)))) else (bif (Jw (cvT l0_0) (cvT l0_1) (cvT l0_2) (cvT l0_3) (cvT l0_4) v10 v11 v12 (Int.tmod (IntKind.wrap .i64 ((IntKind.wrap .i64 (Int.tdiv x2 2)) + 1)) 3)) then (bif (Jw (cvT l0_0) (cvT l0_1) (cvT l0_2) (cvT l0_3) (cvT l0_4) v10 v11 v12 (Int.tmod (IntKind.wrap .i64 ((IntKind.wrap .i64 (Int.tdiv x2 2)) + 2)) 3)) then (.to (.h2 (IntKind.wrap .i64 (v9 + (IntKind.wrap .i64 ((y6f (cvT l0_0) (cvT l0_1) (cvT l0_2) (cvT l0_3) (cvT l0_4) v10 v11 v12 (Int.tmod (IntKind.wrap .i64 ((IntKind.wrap .i64 (Int.tdiv x2 2)) + 1)) 3)) * (y6f (cvT l0_0) (cvT l0_1) (cvT l0_2) (cvT l0_3) (cvT l0_4) v10 v11 v12 (Int.tmod (IntKind.wrap .i64 ((IntKind.wrap .i64 (Int.tdiv x2 2)) + 2)) 3)))))) v10 v11 (IntKind.wrap .i64 (v12 + 1)))) else .stuck) else .stuck)) else .stuck) else .stuck) else .stuck)) else .stuck)) else .stuck))) else (.to (.h1 v9 v10 (IntKind.wrap .i64 (v11 + 1))))) else .stuck)
def y6h (l0_0 : List Int) (l0_1 : List Int) (l0_2 : List Int) (l0_3 : List Bool) (l0_4 : List Bool) (x1 : Int) (x2 : Int) : Wu facS := (.to (.h0 0 0))
theorem x9v (l0_0 : List Int) (l0_1 : List Int) (l0_2 : List Int) (l0_3 : List Bool) (l0_4 : List Bool) (x1 : Int) (x2 : Int) : ∀ s, Wm prog (Zy prog 66) (facC l0_0 l0_1 l0_2 l0_3 l0_4 x1 x2) (facC l0_0 l0_1 l0_2 l0_3 l0_4 x1 x2 s) (Vn l0_0 l0_1 l0_2 l0_3 l0_4 x1 x2 s)
 | .h0 v9 v10 => (lo fun bM => (lb (fun k0 => (sl z1z 18 [] ⟨[], [], facN1, facM1⟩ ⟨[], [], []⟩ [true] (tt k0 (pp (pp (xr l0_0) (pp (xr l0_1) (pp (xr l0_2) (pp (xr l0_3) (pp (xr l0_4) (xw bM)))))) nn)))) (fun k0 => (lr 91 3 [1, 1, 1, 1, 1, 1, 0] 1 4 [(6, (ii v9))] (sl z1z 15 [] ⟨[], [], [some [6]], []⟩ ⟨[], [], []⟩ [false] (tt k0 (pp (pp (xr l0_0) (pp (xr l0_1) (pp (xr l0_2) (pp (xr l0_3) (pp (xr l0_4) (xw bM)))))) nn)))))))
 | .h1 v9 v10 v11 => (lo fun bM => (lb (fun k0 => (sl z1z 18 [] ⟨[], [], z7l, z7m⟩ ⟨[], [], []⟩ [true] (tt k0 (pp (pp (xr l0_0) (pp (xr l0_1) (pp (xr l0_2) (pp (xr l0_3) (pp (xr l0_4) (xw bM)))))) nn)))) (fun k0 => (sl z1z 17 [] ⟨[], [], facN0, facM0⟩ ⟨[], [], []⟩ [false] (tt k0 (pp (pp (xr l0_0) (pp (xr l0_1) (pp (xr l0_2) (pp (xr l0_3) (pp (xr l0_4) (xw bM)))))) nn))))))
 | .h2 v9 v10 v11 v12 => (lo fun bM => (lb (fun k0 => (lb (fun k1 => (lb (fun k2 => (sl z1z 48 [] ⟨[], [], z7l, z7m⟩ ⟨[], [], []⟩ [true, false, false, false, true, true, true, true, true, true, true, true, true, true, true, true, true, true, true, true, true, true] (tt k2 (ww k1 (ww k1 (tt k0 (pp (pp (xr l0_0) (pp (xr l0_1) (pp (xr l0_2) (pp (xr l0_3) (pp (xr l0_4) (xw bM)))))) nn))))))) (fun k2 => (lo fun bA => (lb (fun k3 => (sl z1z 48 [] ⟨[], [], z7l, z7m⟩ ⟨[], [], []⟩ [true, false, false, false, false, false, false, false, false, false, false, false, true, true, true, true, true, true, true, true, true, true, true] (tt k3 (pp (pp (xr l0_0) (pp (xr l0_1) (pp (xr l0_2) (pp (xr l0_3) (pp (xr l0_4) (xw bA)))))) (ww k1 (tt k2 (ww k1 (ww k1 (tt k0 (pp (pp (xr l0_0) (pp (xr l0_1) (pp (xr l0_2) (pp (xr l0_3) (pp (xr l0_4) (xw bM)))))) nn)))))))))) (fun k3 => (lo fun bF => (lo fun cI => (lo fun cQ => (lb (fun k4 => (sl z1z 48 [] ⟨[], [], z7l, z7m⟩ ⟨[], [], []⟩ [true, false, false, false, false, false, false, false, false, false, false, false, false, false, false, false, false, false, false, false, false, false, true] (tt k4 (pp (pp (xr l0_0) (pp (xr l0_1) (pp (xr l0_2) (pp (xr l0_3) (pp (xr l0_4) (xw cQ)))))) (pp (pp (xr l0_0) (pp (xr l0_1) (pp (xr l0_2) (pp (xr l0_3) (pp (xr l0_4) (xw cI)))))) (pp (pp (xr l0_0) (pp (xr l0_1) (pp (xr l0_2) (pp (xr l0_3) (pp (xr l0_4) (xw bF)))))) (tt k3 (pp (pp (xr l0_0) (pp (xr l0_1) (pp (xr l0_2) (pp (xr l0_3) (pp (xr l0_4) (xw bA)))))) (ww k1 (tt k2 (ww k1 (ww k1 (tt k0 (pp (pp (xr l0_0) (pp (xr l0_1) (pp (xr l0_2) (pp (xr l0_3) (pp (xr l0_4) (xw bM)))))) nn)))))))))))))) (fun k4 => (lo fun o0 => (lo fun o1 => (sl z1z 50 [] ⟨[], [], z7l, z7m⟩ ⟨[], [], []⟩ [true, false, false, false, false, false, false, false, false, false, false, false, false, false, false, false, false, false, false, false, false, false, false] (pp (pp (xr l0_0) (pp (xr l0_1) (pp (xr l0_2) (pp (xr l0_3) (pp (xr l0_4) (xw o1)))))) (pp (pp (xr l0_0) (pp (xr l0_1) (pp (xr l0_2) (pp (xr l0_3) (pp (xr l0_4) (xw o0)))))) (tt k4 (pp (pp (xr l0_0) (pp (xr l0_1) (pp (xr l0_2) (pp (xr l0_3) (pp (xr l0_4) (xw cQ)))))) (pp (pp (xr l0_0) (pp (xr l0_1) (pp (xr l0_2) (pp (xr l0_3) (pp (xr l0_4) (xw cI)))))) (pp (pp (xr l0_0) (pp (xr l0_1) (pp (xr l0_2) (pp (xr l0_3) (pp (xr l0_4) (xw bF)))))) (tt k3 (pp (pp (xr l0_0) (pp (xr l0_1) (pp (xr l0_2) (pp (xr l0_3) (pp (xr l0_4) (xw bA)))))) (ww k1 (tt k2 (ww k1 (ww k1 (tt k0 (pp (pp (xr l0_0) (pp (xr l0_1) (pp (xr l0_2) (pp (xr l0_3) (pp (xr l0_4) (xw bM)))))) nn)))))))))))))))))))))))))))) (fun k1 => (lb (fun k2 => (lb (fun k3 => (sl z1z 48 [] ⟨[], [], z7l, z7m⟩ ⟨[], [], []⟩ [true, true, false, true, false, true, false, true, true, true, true, true, true, true, true, true, true, true, true, true, true, true, true, true, true] (tt k3 (ww k2 (ww k2 (tt k0 (pp (pp (xr l0_0) (pp (xr l0_1) (pp (xr l0_2) (pp (xr l0_3) (pp (xr l0_4) (xw bM)))))) nn))))))) (fun k3 => (lo fun bF => (lb (fun k4 => (sl z1z 48 [] ⟨[], [], z7l, z7m⟩ ⟨[], [], []⟩ [true, true, false, true, false, true, false, false, false, true, false, false, false, false, false, false, true, true, true, true, true, true, true, true, true, true, true] (tt k4 (pp (pp (xr l0_0) (pp (xr l0_1) (pp (xr l0_2) (pp (xr l0_3) (pp (xr l0_4) (xw bF)))))) (ww k2 (tt k3 (ww k2 (ww k2 (tt k0 (pp (pp (xr l0_0) (pp (xr l0_1) (pp (xr l0_2) (pp (xr l0_3) (pp (xr l0_4) (xw bM)))))) nn)))))))))) (fun k4 => (lo fun cG => (lo fun cR => (lo fun cS => (lb (fun k5 => (sl z1z 48 [] ⟨[], [], z7l, z7m⟩ ⟨[], [], []⟩ [true, true, false, true, false, true, false, false, false, true, false, false, false, false, false, false, false, false, false, false, false, false, false, false, false, false, true] (tt k5 (pp (pp (xr l0_0) (pp (xr l0_1) (pp (xr l0_2) (pp (xr l0_3) (pp (xr l0_4) (xw cS)))))) (pp (pp (xr l0_0) (pp (xr l0_1) (pp (xr l0_2) (pp (xr l0_3) (pp (xr l0_4) (xw cR)))))) (pp (pp (xr l0_0) (pp (xr l0_1) (pp (xr l0_2) (pp (xr l0_3) (pp (xr l0_4) (xw cG)))))) (tt k4 (pp (pp (xr l0_0) (pp (xr l0_1) (pp (xr l0_2) (pp (xr l0_3) (pp (xr l0_4) (xw bF)))))) (ww k2 (tt k3 (ww k2 (ww k2 (tt k0 (pp (pp (xr l0_0) (pp (xr l0_1) (pp (xr l0_2) (pp (xr l0_3) (pp (xr l0_4) (xw bM)))))) nn)))))))))))))) (fun k5 => (lo fun o0 => (lo fun o1 => (sl z1z 50 [] ⟨[], [], z7l, z7m⟩ ⟨[], [], []⟩ [true, true, false, true, false, true, false, false, false, true, false, false, false, false, false, false, false, false, false, false, false, false, false, false, false, false, false] (pp (pp (xr l0_0) (pp (xr l0_1) (pp (xr l0_2) (pp (xr l0_3) (pp (xr l0_4) (xw o1)))))) (pp (pp (xr l0_0) (pp (xr l0_1) (pp (xr l0_2) (pp (xr l0_3) (pp (xr l0_4) (xw o0)))))) (tt k5 (pp (pp (xr l0_0) (pp (xr l0_1) (pp (xr l0_2) (pp (xr l0_3) (pp (xr l0_4) (xw cS)))))) (pp (pp (xr l0_0) (pp (xr l0_1) (pp (xr l0_2) (pp (xr l0_3) (pp (xr l0_4) (xw cR)))))) (pp (pp (xr l0_0) (pp (xr l0_1) (pp (xr l0_2) (pp (xr l0_3) (pp (xr l0_4) (xw cG)))))) (tt k4 (pp (pp (xr l0_0) (pp (xr l0_1) (pp (xr l0_2) (pp (xr l0_3) (pp (xr l0_4) (xw bF)))))) (ww k2 (tt k3 (ww k2 (ww k2 (tt k0 (pp (pp (xr l0_0) (pp (xr l0_1) (pp (xr l0_2) (pp (xr l0_3) (pp (xr l0_4) (xw bM)))))) nn)))))))))))))))))))))))))))) (fun k2 => (lb (fun k3 => (lb (fun k4 => (sl z1z 48 [] ⟨[], [], z7l, z7m⟩ ⟨[], [], []⟩ (trs 3 [false, true, true, false, true, true, false, true, true, true, true, true, true, true, true, true, true, true, true, true, true, true, true, true, true]) (tt k4 (ww k3 (ww k3 (tt k0 (pp (pp (xr l0_0) (pp (xr l0_1) (pp (xr l0_2) (pp (xr l0_3) (pp (xr l0_4) (xw bM)))))) nn))))))) (fun k4 => (lo fun cG => (lb (fun k5 => (sl z1z 48 [] ⟨[], [], z7l, z7m⟩ ⟨[], [], []⟩ (trs 3 [false, true, true, false, true, true, false, false, false, true, true, false, false, false, false, false, false, true, true, true, true, true, true, true, true, true, true, true]) (tt k5 (pp (pp (xr l0_0) (pp (xr l0_1) (pp (xr l0_2) (pp (xr l0_3) (pp (xr l0_4) (xw cG)))))) (ww k3 (tt k4 (ww k3 (ww k3 (tt k0 (pp (pp (xr l0_0) (pp (xr l0_1) (pp (xr l0_2) (pp (xr l0_3) (pp (xr l0_4) (xw bM)))))) nn)))))))))) (fun k5 => (lo fun cT => (lo fun cU => (lo fun cV => (lb (fun k6 => (sl z1z 48 [] ⟨[], [], z7l, z7m⟩ ⟨[], [], []⟩ (trs 3 [false, true, true, false, true, true, false, false, false, true, true, false, false, false, false, false, false, false, false, false, false, false, false, false, false, false, false, true]) (tt k6 (pp (pp (xr l0_0) (pp (xr l0_1) (pp (xr l0_2) (pp (xr l0_3) (pp (xr l0_4) (xw cV)))))) (pp (pp (xr l0_0) (pp (xr l0_1) (pp (xr l0_2) (pp (xr l0_3) (pp (xr l0_4) (xw cU)))))) (pp (pp (xr l0_0) (pp (xr l0_1) (pp (xr l0_2) (pp (xr l0_3) (pp (xr l0_4) (xw cT)))))) (tt k5 (pp (pp (xr l0_0) (pp (xr l0_1) (pp (xr l0_2) (pp (xr l0_3) (pp (xr l0_4) (xw cG)))))) (ww k3 (tt k4 (ww k3 (ww k3 (tt k0 (pp (pp (xr l0_0) (pp (xr l0_1) (pp (xr l0_2) (pp (xr l0_3) (pp (xr l0_4) (xw bM)))))) nn)))))))))))))) (fun k6 => (lo fun o0 => (lo fun o1 => (sl z1z 50 [] ⟨[], [], z7l, z7m⟩ ⟨[], [], []⟩ (trs 3 [false, true, true, false, true, true, false, false, false, true, true, false, false, false, false, false, false, false, false, false, false, false, false, false, false, false, false, false]) (pp (pp (xr l0_0) (pp (xr l0_1) (pp (xr l0_2) (pp (xr l0_3) (pp (xr l0_4) (xw o1)))))) (pp (pp (xr l0_0) (pp (xr l0_1) (pp (xr l0_2) (pp (xr l0_3) (pp (xr l0_4) (xw o0)))))) (tt k6 (pp (pp (xr l0_0) (pp (xr l0_1) (pp (xr l0_2) (pp (xr l0_3) (pp (xr l0_4) (xw cV)))))) (pp (pp (xr l0_0) (pp (xr l0_1) (pp (xr l0_2) (pp (xr l0_3) (pp (xr l0_4) (xw cU)))))) (pp (pp (xr l0_0) (pp (xr l0_1) (pp (xr l0_2) (pp (xr l0_3) (pp (xr l0_4) (xw cT)))))) (tt k5 (pp (pp (xr l0_0) (pp (xr l0_1) (pp (xr l0_2) (pp (xr l0_3) (pp (xr l0_4) (xw cG)))))) (ww k3 (tt k4 (ww k3 (ww k3 (tt k0 (pp (pp (xr l0_0) (pp (xr l0_1) (pp (xr l0_2) (pp (xr l0_3) (pp (xr l0_4) (xw bM)))))) nn)))))))))))))))))))))))))))) (fun k3 => trivial))))))) (fun k0 => (sl z1z 17 [] ⟨[], [], facN1, facM1⟩ ⟨[], [], []⟩ [false] (tt k0 (pp (pp (xr l0_0) (pp (xr l0_1) (pp (xr l0_2) (pp (xr l0_3) (pp (xr l0_4) (xw bM)))))) nn))))))
theorem x3m (l0_0 : List Int) (l0_1 : List Int) (l0_2 : List Int) (l0_3 : List Bool) (l0_4 : List Bool) (x1 : Int) (x2 : Int) : Wm prog (Zy prog 66) (facC l0_0 l0_1 l0_2 l0_3 l0_4 x1 x2) (Zd prog 66 [(.dptr [(.dat l0_0.length (Zz l0_0)), (.dat l0_1.length (Zz l0_1)), (.dat l0_2.length (Zz l0_2)), (.dat l0_3.length (Zz l0_3)), (.dat l0_4.length (Zz l0_4))]), (.int .i64 x1), (.int .i64 x2)] true []) (y6h l0_0 l0_1 l0_2 l0_3 l0_4 x1 x2) := (sl z1z 26 [] ⟨[], [], facN0, facM0⟩ ⟨[], [], []⟩ [] nn)
theorem v0t (l0_0 : List Int) (l0_1 : List Int) (l0_2 : List Int) (l0_3 : List Bool) (l0_4 : List Bool) (x1 : Int) (x2 : Int) (n : Nat) (vs : List AVal) (h : Yj (Vn l0_0 l0_1 l0_2 l0_3 l0_4 x1 x2) n (y6h l0_0 l0_1 l0_2 l0_3 l0_4 x1 x2) = .ret vs) : Kv prog (Zy prog 66) (Zd prog 66 [(.dptr [(.dat l0_0.length (Zz l0_0)), (.dat l0_1.length (Zz l0_1)), (.dat l0_2.length (Zz l0_2)), (.dat l0_3.length (Zz l0_3)), (.dat l0_4.length (Zz l0_4))]), (.int .i64 x1), (.int .i64 x2)] true []) vs := by
 have := Zn (x9v l0_0 l0_1 l0_2 l0_3 l0_4 x1 x2) n _ (x3m l0_0 l0_1 l0_2 l0_3 l0_4 x1 x2)
 rwa [h] at this
end Go.Am
namespace Go.Am
open Go.Proofs.Tryz
open Go.Proofs
def lsF {α : Type} (g : Nat → α) : Nat → Nat → List α
 | _, 0 => []
 | k, n + 1 => g k :: lsF g (k + 1) n
def y2a {α : Type} (g : Nat → List α) : Nat → Nat → List α
 | _, 0 => []
 | k, n + 1 => g k ++ y2a g (k + 1) n
theorem Jp {α : Type} (g : Nat → α) : ∀ (n k : Nat), (lsF g k n).length = n
 | 0, _ => rfl
 | n + 1, k => by show (lsF g (k + 1) n).length + 1 = n + 1; rw [Jp g n (k + 1)]
theorem Qu {α : Type} {g : Nat → List α} {m : Nat} (h : ∀ k, (g k).length = m) : ∀ (n k : Nat), (y2a g k n).length = n * m
 | 0, _ => by rw [Nat.zero_mul]; rfl
 | n + 1, k => by show (g k ++ y2a g (k + 1) n).length = _; rw [List.length_append, h, Qu h n (k + 1), Nat.succ_mul, Nat.add_comm]
def z6t (f g : R6 → Int) : List R6 → List Int → List Int
 | [], acc => acc
 | r :: l, acc => z6t f g l (Wb (Wb acc (f r)) (g r))
theorem Vw : ∀ (l : List Int) (x : Int), (Wb l x).length ≤ l.length + 1
 | [], x => Nat.le_refl _
 | y :: l, x => by
  have := Vw l x
  unfold Wb
  split
  ·simp only [List.length_cons]; omega
  ·split <;> simp only [List.length_cons] <;> omega
theorem y1z (f g : R6 → Int) : ∀ (l : List R6) (acc : List Int), (z6t f g l acc).length ≤ acc.length + 2 * l.length
 | [], acc => Nat.le_add_right _ _
 | r :: l, acc => by
  have h1 := Vw acc (f r)
  have h2 := Vw (Wb acc (f r)) (g r)
  have h3 := y1z f g l (Wb (Wb acc (f r)) (g r))
  show (z6t f g l (Wb (Wb acc (f r)) (g r))).length ≤ _
  simp only [List.length_cons]; omega
def y9i (l : List Int) : List Int := bif ((l.length : Int) == 0) then [-1, 0, 1, 2] else [IntKind.wrap .i64 (rd l 0 - 1)] ++ (l ++ [IntKind.wrap .i64 (rd l (l.length - 1) + 1)])
theorem x2y (l : List Int) : 3 ≤ (y9i l).length ∧ (y9i l).length ≤ l.length + 4 := by
 unfold y9i
 rcases Nat.eq_zero_or_pos l.length with z | z
 ·rw [show ((l.length : Int) == 0) = true by rw [z]; rfl]; exact ⟨by show 3 ≤ 4; omega, by show 4 ≤ l.length + 4; omega⟩
 ·rw [show ((l.length : Int) == 0) = false from z6k (by omega)]
  simp only [cond_false, List.length_append, List.length_cons, List.length_nil]; omega
def Jr (L : List R6) (X Y Z : List Int) : List Bool := y2a (fun i => y2a (fun j => lsF (fun k => Xr L (rd X i) (rd Y j) (rd Z k)) 0 (Z.length - 1)) 0 (Y.length - 1)) 0 (X.length - 1)
theorem Jb (L : List R6) (X Y Z : List Int) : (Jr L X Y Z).length = (X.length - 1) * ((Y.length - 1) * (Z.length - 1)) := Qu (fun i => Qu (fun j => Jp _ _ _) _ _) _ _
def Xo (L M : List R6) : List Int := y9i (z6t (·.a) (·.d) (L ++ M) [])
def Wv (L M : List R6) : List Int := y9i (z6t (·.b) (·.e) (L ++ M) [])
def Wg (L M : List R6) : List Int := y9i (z6t (·.c) (·.f) (L ++ M) [])
def Yv (L M : List R6) : List Bool := Jr L (Xo L M) (Wv L M) (Wg L M)
def Yp (L M : List R6) : List Bool := Jr M (Xo L M) (Wv L M) (Wg L M)
def z0v (L M : List R6) : Bool := decide (L.length + M.length ≤ 1000)
theorem w4u {l : List Int} {x : Int} (h : l.length ≤ 100000) : Jx l x = true := decide_eq_true h
theorem has6_o {L : List R6} {x y z : Int} (h : L.length ≤ 100000) : z0r L x y z = true := decide_eq_true h
theorem v5f {L M : List R6} (hl : L.length + M.length ≤ 1000) : ∀ (k i : Nat) (v8 : List Int), i + k = (L ++ M).length → v8.length ≤ 2 * i → ∃ N, ∀ R, Yj (Xq L M) (R + N) (.to (.h0 v8 (i : Int) (L ++ M))) = Yj (Xq L M) R (.to (.h1 [] 0 (y9i (z6t (·.a) (·.d) ((L ++ M).drop i) v8)) (L ++ M)))
 | 0, i, v8, h, hv => by
  have dA : (L ++ M).length = L.length + M.length := List.length_append
  refine ⟨1, fun R => ?_⟩
  rw [Zv, List.drop_eq_nil_of_le (by omega)]
  unfold z6t y9i
  rcases Nat.eq_zero_or_pos v8.length with z | z
  ·have e : ((v8.length : Int) == 0) = true := by rw [z]; rfl
   simp (disch := omega) only [Xq, Zo, cond_false, e, cond_true]
  ·have e : ((v8.length : Int) == 0) = false := z6k (by omega)
   have hw : IntKind.wrap .i64 ((v8.length : Int) - 1) = ((v8.length - 1 : Nat) : Int) := by rw [Zj (by omega)]; omega
   simp (disch := omega) only [Xq, Zo, cond_false, e, cond_true, hw, Zk, Nat.zero_add, Yy, Ym, Ye, Yg, Zr, Ya, Bool.and_true, Bool.true_and, decide_true, cond_true]
 | k + 1, i, v8, h, hv => by
  have dA : (L ++ M).length = L.length + M.length := List.length_append
  have hi : i < (L ++ M).length := by omega
  have h1 := Vw v8 (rd (L ++ M) i).a
  have h2 := Vw (Wb v8 (rd (L ++ M) i).a) (rd (L ++ M) i).d
  obtain ⟨N, hN⟩ := v5f hl k (i + 1) (Wb (Wb v8 (rd (L ++ M) i).a) (rd (L ++ M) i).d) (by omega) (by omega)
  have hw : IntKind.wrap .i64 ((i : Int) + 1) = ((i + 1 : Nat) : Int) := Zj (by omega)
  refine ⟨N + 1, fun R => ?_⟩
  rw [← Nat.add_assoc, Zv, Yi hi]
  simp (disch := omega) only [Xq, Zt, cond_true, Zg, w4u, Yy, Ym, Nat.zero_add, Zk, hw, Bool.and_true]
  exact hN R
theorem v5e {L M : List R6} (hl : L.length + M.length ≤ 1000) (X : List Int) : ∀ (k i : Nat) (v8 : List Int), i + k = (L ++ M).length → v8.length ≤ 2 * i → ∃ N, ∀ R, Yj (Xq L M) (R + N) (.to (.h1 v8 (i : Int) X (L ++ M))) = Yj (Xq L M) R (.to (.h3 [] 0 X (y9i (z6t (·.b) (·.e) ((L ++ M).drop i) v8)) (L ++ M)))
 | 0, i, v8, h, hv => by
  have dA : (L ++ M).length = L.length + M.length := List.length_append
  refine ⟨1, fun R => ?_⟩
  rw [Zv, List.drop_eq_nil_of_le (by omega)]
  unfold z6t y9i
  rcases Nat.eq_zero_or_pos v8.length with z | z
  ·have e : ((v8.length : Int) == 0) = true := by rw [z]; rfl
   simp (disch := omega) only [Xq, Zo, cond_false, e, cond_true]
  ·have e : ((v8.length : Int) == 0) = false := z6k (by omega)
   have hw : IntKind.wrap .i64 ((v8.length : Int) - 1) = ((v8.length - 1 : Nat) : Int) := by rw [Zj (by omega)]; omega
   simp (disch := omega) only [Xq, Zo, cond_false, e, cond_true, hw, Zk, Nat.zero_add, Yy, Ym, Ye, Yg, Zr, Ya, Bool.and_true, Bool.true_and, decide_true, cond_true]
 | k + 1, i, v8, h, hv => by
  have dA : (L ++ M).length = L.length + M.length := List.length_append
  have hi : i < (L ++ M).length := by omega
  have h1 := Vw v8 (rd (L ++ M) i).b
  have h2 := Vw (Wb v8 (rd (L ++ M) i).b) (rd (L ++ M) i).e
  obtain ⟨N, hN⟩ := v5e hl X k (i + 1) (Wb (Wb v8 (rd (L ++ M) i).b) (rd (L ++ M) i).e) (by omega) (by omega)
  have hw : IntKind.wrap .i64 ((i : Int) + 1) = ((i + 1 : Nat) : Int) := Zj (by omega)
  refine ⟨N + 1, fun R => ?_⟩
  rw [← Nat.add_assoc, Zv, Yi hi]
  simp (disch := omega) only [Xq, Zt, cond_true, Zg, w4u, Yy, Ym, Nat.zero_add, Zk, hw, Bool.and_true]
  exact hN R
theorem v5c {L M : List R6} (hl : L.length + M.length ≤ 1000) (X Y : List Int) : ∀ (k i : Nat) (v8 : List Int), i + k = (L ++ M).length → v8.length ≤ 2 * i → ∃ N, ∀ R, Yj (Xq L M) (R + N) (.to (.h3 v8 (i : Int) X Y (L ++ M))) = Yj (Xq L M) R (.to (.h2 0 X Y (y9i (z6t (·.c) (·.f) ((L ++ M).drop i) v8)) [] []))
 | 0, i, v8, h, hv => by
  have dA : (L ++ M).length = L.length + M.length := List.length_append
  refine ⟨1, fun R => ?_⟩
  rw [Zv, List.drop_eq_nil_of_le (by omega)]
  unfold z6t y9i
  rcases Nat.eq_zero_or_pos v8.length with z | z
  ·have e : ((v8.length : Int) == 0) = true := by rw [z]; rfl
   simp (disch := omega) only [Xq, Zo, cond_false, e, cond_true]
  ·have e : ((v8.length : Int) == 0) = false := z6k (by omega)
   have hw : IntKind.wrap .i64 ((v8.length : Int) - 1) = ((v8.length - 1 : Nat) : Int) := by rw [Zj (by omega)]; omega
   simp (disch := omega) only [Xq, Zo, cond_false, e, cond_true, hw, Zk, Nat.zero_add, Yy, Ym, Ye, Yg, Zr, Ya, Bool.and_true, Bool.true_and, decide_true, cond_true]
 | k + 1, i, v8, h, hv => by
  have dA : (L ++ M).length = L.length + M.length := List.length_append
  have hi : i < (L ++ M).length := by omega
  have h1 := Vw v8 (rd (L ++ M) i).c
  have h2 := Vw (Wb v8 (rd (L ++ M) i).c) (rd (L ++ M) i).f
  obtain ⟨N, hN⟩ := v5c hl X Y k (i + 1) (Wb (Wb v8 (rd (L ++ M) i).c) (rd (L ++ M) i).f) (by omega) (by omega)
  have hw : IntKind.wrap .i64 ((i : Int) + 1) = ((i + 1 : Nat) : Int) := Zj (by omega)
  refine ⟨N + 1, fun R => ?_⟩
  rw [← Nat.add_assoc, Zv, Yi hi]
  simp (disch := omega) only [Xq, Zt, cond_true, Zg, w4u, Yy, Ym, Nat.zero_add, Zk, hw, Bool.and_true]
  exact hN R
section
variable {L M : List R6} (hL : L.length ≤ 100000) (hM : M.length ≤ 100000) {X Y Z : List Int} (bX : 1 ≤ X.length ∧ X.length ≤ 5000) (bY : 1 ≤ Y.length ∧ Y.length ≤ 5000) (bZ : 1 ≤ Z.length ∧ Z.length ≤ 5000)
include hL hM bX bY bZ
theorem v5a {i j : Nat} (hi : i + 1 < X.length) (hj : j + 1 < Y.length) : ∀ (n k : Nat) (A B : List Bool), k + n = Z.length - 1 → A.length + n ≤ 400000000000 → B.length + n ≤ 400000000000 →
  ∃ N, ∀ R, Yj (Xq L M) (R + N) (.to (.h5 (i : Int) (j : Int) (k : Int) X Y Z A B)) = Yj (Xq L M) R (.to (.h4 (i : Int) ((j + 1 : Nat) : Int) X Y Z (A ++ lsF (fun k => Xr L (rd X i) (rd Y j) (rd Z k)) k n) (B ++ lsF (fun k => Xr M (rd X i) (rd Y j) (rd Z k)) k n)))
 | 0, k, A, B, h, hA, hB => by
  have _u := bX
  have hz : IntKind.wrap .i64 ((Z.length : Int) - 1) = ((Z.length - 1 : Nat) : Int) := by rw [Zj (by omega)]; omega
  have hw : IntKind.wrap .i64 ((j : Int) + 1) = ((j + 1 : Nat) : Int) := Zj (by omega)
  refine ⟨1, fun R => ?_⟩
  rw [Zv]
  simp (disch := omega) only [Xq, hz, Zo, cond_false, hw, lsF, List.append_nil]
 | n + 1, k, A, B, h, hA, hB => by
  have hz : IntKind.wrap .i64 ((Z.length : Int) - 1) = ((Z.length - 1 : Nat) : Int) := by rw [Zj (by omega)]; omega
  have hw : IntKind.wrap .i64 ((k : Int) + 1) = ((k + 1 : Nat) : Int) := Zj (by omega)
  obtain ⟨N, hN⟩ := v5a hi hj n (k + 1) (A ++ [Xr L (rd X i) (rd Y j) (rd Z k)]) (B ++ [Xr M (rd X i) (rd Y j) (rd Z k)]) (by omega) (by simp only [List.length_append, List.length_cons, List.length_nil]; omega) (by simp only [List.length_append, List.length_cons, List.length_nil]; omega)
  refine ⟨N + 1, fun R => ?_⟩
  rw [← Nat.add_assoc, Zv]
  simp (disch := omega) only [Xq, hz, Zt, cond_true, hw, Yy, Nat.zero_add, Zk, Ym, Zg, has6_o, Ya, Yg, Zr, Bool.and_true, Bool.true_and, decide_true, cond_true]
  rw [hN R, List.append_assoc, List.append_assoc]; rfl
theorem v5b {i : Nat} (hi : i + 1 < X.length) : ∀ (n j : Nat) (A B : List Bool), j + n = Y.length - 1 → A.length + n * (Z.length - 1) ≤ 400000000000 → B.length + n * (Z.length - 1) ≤ 400000000000 →
  ∃ N, ∀ R, Yj (Xq L M) (R + N) (.to (.h4 (i : Int) (j : Int) X Y Z A B)) = Yj (Xq L M) R (.to (.h2 ((i + 1 : Nat) : Int) X Y Z (A ++ y2a (fun j => lsF (fun k => Xr L (rd X i) (rd Y j) (rd Z k)) 0 (Z.length - 1)) j n) (B ++ y2a (fun j => lsF (fun k => Xr M (rd X i) (rd Y j) (rd Z k)) 0 (Z.length - 1)) j n)))
 | 0, j, A, B, h, hA, hB => by
  have hz : IntKind.wrap .i64 ((Y.length : Int) - 1) = ((Y.length - 1 : Nat) : Int) := by rw [Zj (by omega)]; omega
  have hw : IntKind.wrap .i64 ((i : Int) + 1) = ((i + 1 : Nat) : Int) := Zj (by omega)
  refine ⟨1, fun R => ?_⟩
  rw [Zv]
  simp (disch := omega) only [Xq, hz, Zo, cond_false, hw, y2a, List.append_nil]
 | n + 1, j, A, B, h, hA, hB => by
  have hz : IntKind.wrap .i64 ((Y.length : Int) - 1) = ((Y.length - 1 : Nat) : Int) := by rw [Zj (by omega)]; omega
  rw [Nat.succ_mul] at hA hB
  obtain ⟨N0, h0⟩ := v5a hL hM bX bY bZ hi (show j + 1 < Y.length by omega) (Z.length - 1) 0 A B (Nat.zero_add _) (by omega) (by omega)
  obtain ⟨N, hN⟩ := v5b hi n (j + 1) (A ++ lsF (fun k => Xr L (rd X i) (rd Y j) (rd Z k)) 0 (Z.length - 1)) (B ++ lsF (fun k => Xr M (rd X i) (rd Y j) (rd Z k)) 0 (Z.length - 1)) (by omega) (by rw [List.length_append, Jp]; omega) (by rw [List.length_append, Jp]; omega)
  refine ⟨N + N0 + 1, fun R => ?_⟩
  rw [← Nat.add_assoc, Zv]
  simp (disch := omega) only [Xq, hz, Zt, cond_true]
  rw [← Nat.add_assoc, show (0 : Int) = ((0 : Nat) : Int) from rfl, h0, hN, List.append_assoc, List.append_assoc]; rfl
theorem v5d : ∀ (n i : Nat) (A B : List Bool), i + n = X.length - 1 → A.length + n * ((Y.length - 1) * (Z.length - 1)) ≤ 400000000000 → B.length + n * ((Y.length - 1) * (Z.length - 1)) ≤ 400000000000 →
  ∃ N, Yj (Xq L M) N (.to (.h2 (i : Int) X Y Z A B)) = .ret [.dptr [.dat X.length (Zz X), .dat Y.length (Zz Y), .dat Z.length (Zz Z),
   .dat (A ++ y2a (fun i => y2a (fun j => lsF (fun k => Xr L (rd X i) (rd Y j) (rd Z k)) 0 (Z.length - 1)) 0 (Y.length - 1)) i n).length (Zz (A ++ y2a (fun i => y2a (fun j => lsF (fun k => Xr L (rd X i) (rd Y j) (rd Z k)) 0 (Z.length - 1)) 0 (Y.length - 1)) i n)),
   .dat (B ++ y2a (fun i => y2a (fun j => lsF (fun k => Xr M (rd X i) (rd Y j) (rd Z k)) 0 (Z.length - 1)) 0 (Y.length - 1)) i n).length (Zz (B ++ y2a (fun i => y2a (fun j => lsF (fun k => Xr M (rd X i) (rd Y j) (rd Z k)) 0 (Z.length - 1)) 0 (Y.length - 1)) i n))]]
 | 0, i, A, B, h, hA, hB => by
  have hz : IntKind.wrap .i64 ((X.length : Int) - 1) = ((X.length - 1 : Nat) : Int) := by rw [Zj (by omega)]; omega
  refine ⟨1, ?_⟩
  rw [Zv]
  simp (disch := omega) only [Xq, hz, Zo, cond_false, y2a, List.append_nil, Zp]
 | n + 1, i, A, B, h, hA, hB => by
  have hz : IntKind.wrap .i64 ((X.length : Int) - 1) = ((X.length - 1 : Nat) : Int) := by rw [Zj (by omega)]; omega
  rw [Nat.succ_mul] at hA hB
  have hl : ∀ (K : List R6) (i : Nat), (y2a (fun j => lsF (fun k => Xr K (rd X i) (rd Y j) (rd Z k)) 0 (Z.length - 1)) 0 (Y.length - 1)).length = (Y.length - 1) * (Z.length - 1) := fun K i => Qu (fun j => Jp _ _ _) _ _
  generalize hP : (Y.length - 1) * (Z.length - 1) = P at *
  obtain ⟨N0, h0⟩ := v5b hL hM bX bY bZ (show i + 1 < X.length by omega) (Y.length - 1) 0 A B (Nat.zero_add _) (by rw [hP]; omega) (by rw [hP]; omega)
  obtain ⟨N, hN⟩ := v5d n (i + 1) (A ++ y2a (fun j => lsF (fun k => Xr L (rd X i) (rd Y j) (rd Z k)) 0 (Z.length - 1)) 0 (Y.length - 1)) (B ++ y2a (fun j => lsF (fun k => Xr M (rd X i) (rd Y j) (rd Z k)) 0 (Z.length - 1)) 0 (Y.length - 1)) (by omega) (by rw [List.length_append, hl, hP]; omega) (by rw [List.length_append, hl, hP]; omega)
  refine ⟨N + N0 + 1, ?_⟩
  rw [Zv]
  simp (disch := omega) only [Xq, hz, Zt, cond_true]
  rw [show (0 : Int) = ((0 : Nat) : Int) from rfl, h0, hN, List.append_assoc, List.append_assoc]; rfl
end
theorem x6t {L M : List R6} (h : L.length + M.length ≤ 1000) : (3 ≤ (Xo L M).length ∧ (Xo L M).length ≤ 2004) ∧ (3 ≤ (Wv L M).length ∧ (Wv L M).length ≤ 2004) ∧ (3 ≤ (Wg L M).length ∧ (Wg L M).length ≤ 2004) := by
 have k : ∀ f g : R6 → Int, (z6t f g (L ++ M) []).length ≤ 2000 := fun f g => by
  have := y1z f g (L ++ M) []
  simp only [List.length_nil, List.length_append] at this; omega
 have g : ∀ l : List Int, l.length ≤ 2000 → 3 ≤ (y9i l).length ∧ (y9i l).length ≤ 2004 := fun l hl => by have := x2y l; omega
 exact ⟨g _ (k _ _), g _ (k _ _), g _ (k _ _)⟩
theorem u0r (L M : List R6) (h : z0v L M = true) : ∃ N, Yj (Xq L M) N (z9w L M) = .ret [.dptr [.dat (Xo L M).length (Zz (Xo L M)), .dat (Wv L M).length (Zz (Wv L M)), .dat (Wg L M).length (Zz (Wg L M)), .dat (Yv L M).length (Zz (Yv L M)), .dat (Yp L M).length (Zz (Yp L M))]] := by
 have h : L.length + M.length ≤ 1000 := of_decide_eq_true h
 have dA : (L ++ M).length = L.length + M.length := List.length_append
 obtain ⟨b0, b1, b2⟩ := x6t h
 obtain ⟨N0, h0⟩ := v5f h (L ++ M).length 0 [] (Nat.zero_add _) (Nat.le_refl _)
 obtain ⟨N1, h1⟩ := v5e h (Xo L M) (L ++ M).length 0 [] (Nat.zero_add _) (Nat.le_refl _)
 obtain ⟨N3, h3⟩ := v5c h (Xo L M) (Wv L M) (L ++ M).length 0 [] (Nat.zero_add _) (Nat.le_refl _)
 have hb : (([] : List Bool)).length + ((Xo L M).length - 1) * (((Wv L M).length - 1) * ((Wg L M).length - 1)) ≤ 400000000000 := by
  have q := Nat.mul_le_mul (show (Wv L M).length - 1 ≤ 2003 by omega) (show (Wg L M).length - 1 ≤ 2003 by omega)
  have q2 := Nat.mul_le_mul (show (Xo L M).length - 1 ≤ 2003 by omega) q
  simp only [List.length_nil]; omega
 obtain ⟨N2, h2⟩ := v5d (L := L) (M := M) (by omega) (by omega) (show 1 ≤ (Xo L M).length ∧ _ by omega) (show 1 ≤ (Wv L M).length ∧ _ by omega) (show 1 ≤ (Wg L M).length ∧ _ by omega) ((Xo L M).length - 1) 0 [] [] (Nat.zero_add _) hb hb
 refine ⟨N2 + N3 + N1 + N0, ?_⟩
 unfold z9w
 simp (disch := omega) only [Zr, cond_true, Nat.zero_add, Ya, Bool.true_and, Ye, decide_true]
 have e : (0 : Int) = ((0 : Nat) : Int) := rfl
 rw [e, h0]
 show Yj (Xq L M) (N2 + N3 + N1) (.to (.h1 [] ((0 : Nat) : Int) (Xo L M) (L ++ M))) = _
 rw [h1]
 show Yj (Xq L M) (N2 + N3) (.to (.h3 [] ((0 : Nat) : Int) (Xo L M) (Wv L M) (L ++ M))) = _
 rw [h3]
 show Yj (Xq L M) N2 (.to (.h2 ((0 : Nat) : Int) (Xo L M) (Wv L M) (Wg L M) [] [])) = _
 rw [h2]; rfl
def fDiv : List AVal → Option (AVal × Bool)
 | [a0, a1] => match asL R6 a0, asL R6 a1 with
  | some (L0, g0, n0), some (L1, g1, n1) => some (.dptr [.dat (Xo L0 L1).length (Zz (Xo L0 L1)), .dat (Wv L0 L1).length (Zz (Wv L0 L1)), .dat (Wg L0 L1).length (Zz (Wg L0 L1)), .dat (Yv L0 L1).length (Zz (Yv L0 L1)), .dat (Yp L0 L1).length (Zz (Yp L0 L1))], isT R6 n0 g0 && (isT R6 n1 g1 && (z0v L0 L1)))
  | _, _ => none
 | _ => none
theorem u0d {S : Specs} (hS : Zu prog S) : Zu prog (S.with w4g fDiv) := by
 refine z2m hS (by kernel_rfl) fun args v h => ?_
 unfold fDiv at h
 split at h
 ·rename_i a0 a1
  split at h
  ·rename_i L0 g0 n0 L1 g1 n1 e0 e1
   simp only [Option.some.injEq, Prod.mk.injEq, Bool.and_eq_true] at h
   obtain ⟨rfl, ho0, ho1, hw⟩ := h
   obtain ⟨N, hN⟩ := u0r L0 L1 hw
   exact ⟨_, _, (.cons (Yx e0 ho0) (.cons (Yx e1 ho1) .nil)), rfl, v1g L0 L1 N _ hN, 3, rfl⟩
  ·cases h
 ·cases h
end Go.Am
namespace Go.Am
def Cg (x y : Int) : Prop := (18446744073709551616 : Int) ∣ x - y
theorem Cg.refl (x : Int) : Cg x x := by unfold Cg; rw [Int.sub_self]; exact Int.dvd_zero _
theorem Cg.trans {x y z : Int} (h : Cg x y) (k : Cg y z) : Cg x z := by unfold Cg at *; omega
theorem Cg.add {x y u v : Int} (h : Cg x y) (k : Cg u v) : Cg (x + u) (y + v) := by unfold Cg at *; omega
theorem Cg.sub {x y u v : Int} (h : Cg x y) (k : Cg u v) : Cg (x - u) (y - v) := by unfold Cg at *; omega
theorem Cg.mul {x y u v : Int} (h : Cg x y) (k : Cg u v) : Cg (x * u) (y * v) := by
 unfold Cg at *
 have : x * u - y * v = (x - y) * u + y * (u - v) := by rw [Int.sub_mul, Int.mul_sub]; omega
 rw [this]
 exact Int.dvd_add (Int.dvd_mul_of_dvd_left h) (Int.dvd_mul_of_dvd_right k)
theorem Cg.wrap (x : Int) : Cg (IntKind.wrap .i64 x) x := by rw [w64]; unfold Cg; omega
theorem Cg.eq {x y : Int} (h : Cg x y) : IntKind.wrap .i64 x = IntKind.wrap .i64 y := by rw [w64, w64]; unfold Cg at h; omega
theorem Cg.w {x y : Int} (h : Cg x y) : Cg (IntKind.wrap .i64 x) y := (Cg.wrap x).trans h
theorem Cg.is {x y : Int} (h : Cg x y) (hx : -9223372036854775808 ≤ x ∧ x ≤ 9223372036854775807) (hy : -9223372036854775808 ≤ y ∧ y ≤ 9223372036854775807) : x = y := by unfold Cg at h; omega
theorem w1c (x : Int) : -9223372036854775808 ≤ IntKind.wrap .i64 x ∧ IntKind.wrap .i64 x ≤ 9223372036854775807 := by rw [w64]; omega
def bxV (r : R6) : Int := (r.d - r.a) * (r.e - r.b) * (r.f - r.c)
def ovl (a b c d : Int) : Int := max 0 (min b d - max a c)
def ov (r s : R6) : Int := ovl r.a r.d s.a s.d * ovl r.b r.e s.b s.e * ovl r.c r.f s.c s.f
theorem y5p (a b c d : Int) : ovl a b c d = ovl c d a b := by unfold ovl; omega
theorem v7s (r s : R6) : ov r s = ov s r := by unfold ov; rw [y5p r.a, y5p r.b, y5p r.c]
theorem Vt (a b c d : Int) : 0 ≤ ovl a b c d := by unfold ovl; omega
theorem z5m (r s : R6) : 0 ≤ ov r s := Int.mul_nonneg (Int.mul_nonneg (Vt ..) (Vt ..)) (Vt ..)
def Qx (r s : R6) : Option R6 :=
 bif decide (max r.a s.a < min r.d s.d) && (decide (max r.b s.b < min r.e s.e) && decide (max r.c s.c < min r.f s.f)) then
  some ⟨max r.a s.a, max r.b s.b, max r.c s.c, min r.d s.d, min r.e s.e, min r.f s.f⟩ else none
def w7a (o : Option R6) (f : R6 → Int) : Int := match o with | some b => f b | none => 0
theorem v8a (r s : R6) : w7a (Qx r s) bxV = ov r s := by
 unfold Qx
 by_cases h1 : max r.a s.a < min r.d s.d
 ·by_cases h2 : max r.b s.b < min r.e s.e
  ·by_cases h3 : max r.c s.c < min r.f s.f
   ·rw [decide_eq_true h1, decide_eq_true h2, decide_eq_true h3]
    show (min r.d s.d - max r.a s.a) * (min r.e s.e - max r.b s.b) * (min r.f s.f - max r.c s.c) = ov r s
    unfold ov ovl
    congr 1
    ·congr 1 <;> omega
    ·omega
   ·rw [decide_eq_false h3]
    have : ovl r.c r.f s.c s.f = 0 := by unfold ovl; omega
    simp only [Bool.and_false, cond_false, w7a, ov, this, Int.mul_zero]
  ·rw [decide_eq_false h2]
   have : ovl r.b r.e s.b s.e = 0 := by unfold ovl; omega
   simp only [Bool.false_and, Bool.and_false, cond_false, w7a, ov, this, Int.mul_zero, Int.zero_mul]
 ·rw [decide_eq_false h1]
  have : ovl r.a r.d s.a s.d = 0 := by unfold ovl; omega
  simp only [Bool.false_and, cond_false, w7a, ov, this, Int.mul_zero, Int.zero_mul]
def nx (d : Int) (r : R6) : R6 :=
 let t := 1 - 2 * Int.tmod d 2
 bif Int.tdiv d 2 == 0 then ⟨r.a + t, r.b, r.c, r.d + t, r.e, r.f⟩ else bif Int.tdiv d 2 == 1 then ⟨r.a, r.b + t, r.c, r.d, r.e + t, r.f⟩ else ⟨r.a, r.b, r.c + t, r.d, r.e, r.f + t⟩
def sm {α : Type} (l : List α) (f : α → Int) : Int := (l.map f).sum
theorem w2a {α : Type} (f : α → Int) : sm ([] : List α) f = 0 := rfl
theorem Uy {α : Type} (x : α) (l : List α) (f : α → Int) : sm (x :: l) f = f x + sm l f := by simp [sm]
theorem y7q {α : Type} (l m : List α) (f : α → Int) : sm (l ++ m) f = sm l f + sm m f := by simp [sm]
theorem Yh {α : Type} {l : List α} {f g : α → Int} (h : ∀ x ∈ l, f x = g x) : sm l f = sm l g := by
 unfold sm; rw [List.map_congr_left h]
theorem x5a {α : Type} (l : List α) (f g : α → Int) : sm l (fun x => f x + g x) = sm l f + sm l g := by
 induction l with
 | nil => rfl
 | cons x l ih => simp only [Uy, ih]; omega
theorem sm_sub {α : Type} (l : List α) (f g : α → Int) : sm l (fun x => f x - g x) = sm l f - sm l g := by
 induction l with
 | nil => rfl
 | cons x l ih => simp only [Uy, ih]; omega
theorem x4z {α : Type} (l : List α) (f : α → Int) (c : Int) : sm l (fun x => f x * c) = sm l f * c := by
 induction l with
 | nil => simp [sm]
 | cons x l ih => simp only [Uy, ih, Int.add_mul]
theorem y5b {α : Type} (l : List α) (f : α → Int) (c : Int) : sm l (fun x => c * f x) = c * sm l f := by
 induction l with
 | nil => simp [sm]
 | cons x l ih => simp only [Uy, ih, Int.mul_add]
theorem Ui {α : Type} (l : List α) : sm l (fun _ => 0) = 0 := by
 induction l with
 | nil => rfl
 | cons x l ih => rw [Uy, ih]; rfl
theorem y5a {α β : Type} (l : List α) (m : List β) (f : α → β → Int) : sm l (fun x => sm m (f x)) = sm m (fun y => sm l fun x => f x y) := by
 induction l with
 | nil => simp only [w2a, Ui]
 | cons x l ih => simp only [Uy, ih, x5a]
theorem y5c {α : Type} {l : List α} {f g : α → Int} (h : ∀ x ∈ l, f x ≤ g x) : sm l f ≤ sm l g := by
 induction l with
 | nil => exact Int.le_refl _
 | cons x l ih => rw [Uy, Uy]; exact Int.add_le_add (h x (by simp)) (ih fun y hy => h y (by simp [hy]))
theorem Wf {α : Type} {l : List α} {f : α → Int} (h : ∀ x ∈ l, 0 ≤ f x) : 0 ≤ sm l f := by
 have := y5c h; rwa [Ui] at this
theorem v6g {α : Type} {l : List α} {f : α → Int} {c : Int} (h : ∀ x ∈ l, f x ≤ c) : sm l f ≤ l.length * c := by
 induction l with
 | nil => simp [sm]
 | cons x l ih =>
  rw [Uy, List.length_cons]
  have h1 := h x (by simp)
  have h2 := ih fun y hy => h y (by simp [hy])
  have : ((l.length + 1 : Nat) : Int) * c = l.length * c + c := by rw [show ((l.length + 1 : Nat) : Int) = (l.length : Int) + 1 from rfl, Int.add_mul, Int.one_mul]
  omega
theorem Kd {α : Type} {l : List α} {f : α → Int} (h : ∀ x ∈ l, 0 ≤ f x) (h0 : sm l f = 0) : ∀ x ∈ l, f x = 0 := by
 induction l with
 | nil => intro x hx; cases hx
 | cons y l ih =>
  rw [Uy] at h0
  have h1 := h y (by simp)
  have h2 := Wf fun x hx => h x (List.mem_cons_of_mem y hx)
  intro x hx
  rcases List.mem_cons.1 hx with rfl | hx
  ·omega
  ·exact ih (fun z hz => h z (by simp [hz])) (by omega) x hx
theorem x7w {α β : Type} (l : List α) (g : α → List β) (f : β → Int) : sm (l.flatMap g) f = sm l fun x => sm (g x) f := by
 induction l with
 | nil => rfl
 | cons x l ih => rw [List.flatMap_cons, y7q, Uy, ih]
theorem v2g {α β : Type} (l : List α) (g : α → β) (f : β → Int) : sm (l.map g) f = sm l fun x => f (g x) := by simp [sm, Function.comp_def]
theorem y7p {α : Type} (l : List α) (g : α → Option R6) (f : R6 → Int) : sm (l.filterMap g) f = sm l fun x => w7a (g x) f := by
 induction l with
 | nil => rfl
 | cons x l ih =>
  rw [List.filterMap_cons, Uy]
  cases h : g x with
  | none => show _ = (0 : Int) + _; rw [Int.zero_add]; exact ih
  | some b => show sm (b :: _) f = f b + _; rw [Uy, ih]
def Yq (X Y : List R6) : List R6 := X.flatMap fun x => Y.filterMap (Qx x)
theorem v2h (X Y : List R6) (f : R6 → Int) : sm (Yq X Y) f = sm X fun x => sm Y fun y => w7a (Qx x y) f := by
 unfold Yq
 rw [x7w]
 exact Yh fun x _ => y7p _ _ _
def S2 (X Y : List R6) : Int := sm X fun x => sm Y fun y => ov x y
theorem v5j (X Y : List R6) : sm (Yq X Y) bxV = S2 X Y := by
 rw [v2h]
 exact Yh fun x _ => Yh fun y _ => v8a x y
theorem u1o (X Y : List R6) : S2 X Y = S2 Y X := by
 unfold S2
 rw [y5a]
 exact Yh fun y _ => Yh fun x _ => v7s x y
def E2 (d : Int) (X Y : List R6) : Int := sm X fun x => sm Y fun y => ov (nx d x) y
theorem v5t (d : Int) (X Y : List R6) : S2 (X.map (nx d)) Y = E2 d X Y := by unfold S2 E2; rw [v2g]
def Eqv (B B' : List R6) : Prop := ∀ f, sm B f = sm B' f
theorem Eqv.refl (X : List R6) : Eqv X X := fun _ => rfl
def c1 (d : Int) (X Y B : List R6) : Int := (E2 d X Y - E2 d B Y) - (E2 d X B - E2 d B B)
def con6 (X Y B : List R6) : Int := c1 0 X Y B + c1 1 X Y B + c1 2 X Y B + c1 3 X Y B + c1 4 X Y B + c1 5 X Y B
end Go.Am
namespace Go.Am
open Go.Proofs.Tryz
open Go.Proofs
def Jo (g : Nat → Int) : Nat → Nat → Int
 | _, 0 => 0
 | k, n + 1 => g k + Jo g (k + 1) n
def axs (d : Int) : Int := IntKind.wrap .i64 (Int.tdiv d 2)
def stp (d : Int) : Int := IntKind.wrap .i64 (1 - IntKind.wrap .i64 (2 * Int.tmod d 2))
def tm1 (X Y Z : List Int) (A B : List Bool) (kd d : Int) (i j k n q : Int) : Int := bif decide (n < 0) then 0 else bif decide (n ≥ z5u X Y Z A B (axs d)) then 0 else
 bif x9p X Y Z A B kd (z1m X Y Z A B i j k) q then IntKind.wrap .i64 (y6f X Y Z A B i j k (Int.tmod (IntKind.wrap .i64 (axs d + 1)) 3) * y6f X Y Z A B i j k (Int.tmod (IntKind.wrap .i64 (axs d + 2)) 3)) else 0
def tmF (X Y Z : List Int) (A B : List Bool) (kd d : Int) (i j k : Nat) : Int :=
 bif decide (axs d = 0) then tm1 X Y Z A B kd d i j k (IntKind.wrap .i64 ((i : Int) + stp d)) (z1m X Y Z A B (IntKind.wrap .i64 ((i : Int) + stp d)) j k) else
 bif decide (axs d = 1) then tm1 X Y Z A B kd d i j k (IntKind.wrap .i64 ((j : Int) + stp d)) (z1m X Y Z A B i (IntKind.wrap .i64 ((j : Int) + stp d)) k) else
 tm1 X Y Z A B kd d i j k (IntKind.wrap .i64 ((k : Int) + stp d)) (z1m X Y Z A B i j (IntKind.wrap .i64 ((k : Int) + stp d)))
def v0u (X Y Z : List Int) (A B : List Bool) (kd d : Int) : Int := Jo (fun i => Jo (fun j => Jo (fun k => tmF X Y Z A B kd d i j k) 0 (Z.length - 1)) 0 (Y.length - 1)) 0 (X.length - 1)
def v4w (X Y Z : List Int) (A B : List Bool) (kd d : Int) : Int := IntKind.wrap .i64 (v0u X Y Z A B kd d)
def z0u (X Y Z : List Int) (A B : List Bool) (kd d : Int) : Bool := decide ((0 ≤ d ∧ d ≤ 5) ∧ (1 ≤ X.length ∧ X.length ≤ 5000) ∧ (1 ≤ Y.length ∧ Y.length ≤ 5000) ∧ (1 ≤ Z.length ∧ Z.length ≤ 5000) ∧ A.length = (X.length - 1) * ((Y.length - 1) * (Z.length - 1)) ∧ B.length = (X.length - 1) * ((Y.length - 1) * (Z.length - 1)))
theorem axs_of {d : Int} (h : 0 ≤ d ∧ d ≤ 5) : (axs d = 0 ∨ axs d = 1 ∨ axs d = 2) ∧ (stp d = 1 ∨ stp d = -1) := by
 obtain rfl | rfl | rfl | rfl | rfl | rfl : d = 0 ∨ d = 1 ∨ d = 2 ∨ d = 3 ∨ d = 4 ∨ d = 5 := by omega
 all_goals decide
theorem gat_ar {x y z i j k : Nat} (hx : x ≤ 5000) (hy : y ≤ 5000) (hz : z ≤ 5000) (hi : i < x) (hj : j < y) (hk : k < z) :
  IntKind.wrap .i64 (IntKind.wrap .i64 (IntKind.wrap .i64 (IntKind.wrap .i64 ((i : Int) * (y : Int)) + (j : Int)) * (z : Int)) + (k : Int)) = ((i * (y * z) + (j * z + k) : Nat) : Int) ∧ i * (y * z) + (j * z + k) < x * (y * z) := by
 have m1 : i * y + j + 1 ≤ x * y := by
  have := Nat.mul_le_mul_right y (show i + 1 ≤ x by omega)
  rw [Nat.succ_mul] at this; omega
 have m2 : (i * y + j) * z + k + 1 ≤ (x * y) * z := by
  have := Nat.mul_le_mul_right z m1
  rw [Nat.succ_mul] at this; omega
 have m3 : x * y ≤ 5000 * 5000 := Nat.mul_le_mul hx hy
 have m4 : (x * y) * z ≤ (5000 * 5000) * 5000 := Nat.mul_le_mul m3 hz
 have c1 : (i : Int) * (y : Int) = ((i * y : Nat) : Int) := (Int.natCast_mul _ _).symm
 have e3 : i * (y * z) + (j * z + k) = (i * y + j) * z + k := by rw [Nat.add_mul, Nat.mul_assoc]; omega
 have e4 : x * (y * z) = (x * y) * z := (Nat.mul_assoc _ _ _).symm
 have c2 : (((i * y : Nat) : Int) + (j : Int)) * (z : Int) = (((i * y + j) * z : Nat) : Int) := by simp only [Int.natCast_mul, Int.natCast_add]
 rw [e3, e4, c1]
 generalize i * y = p at *
 generalize x * y = q at *
 have mz : p + j ≤ 25000000 := by omega
 rw [Zj (n := (p : Int)) (by omega), Zj (n := (p : Int) + (j : Int)) (by omega), c2]
 generalize (p + j) * z = r at *
 generalize q * z = s at *
 rw [Zj (n := (r : Int)) (by omega), Zj (by omega)]
 exact ⟨by omega, by omega⟩
theorem wadd (s x : Int) : IntKind.wrap .i64 (IntKind.wrap .i64 s + x) = IntKind.wrap .i64 (s + x) := Cg.eq (Cg.add (Cg.wrap s) (Cg.refl x))
section
variable {X Y Z : List Int} {A B : List Bool} {kd d : Int} (hd : 0 ≤ d ∧ d ≤ 5) (bX : 1 ≤ X.length ∧ X.length ≤ 5000) (bY : 1 ≤ Y.length ∧ Y.length ≤ 5000) (bZ : 1 ≤ Z.length ∧ Z.length ≤ 5000)
 (hA : A.length = (X.length - 1) * ((Y.length - 1) * (Z.length - 1))) (hB : B.length = (X.length - 1) * ((Y.length - 1) * (Z.length - 1)))
theorem x6g {C : List Int} (h : 1 ≤ C.length ∧ C.length ≤ 5000) : IntKind.wrap .i64 ((C.length : Int) - 1) = ((C.length - 1 : Nat) : Int) := by rw [Zj (by omega)]; omega
include bX bY bZ
theorem x6m {i j k : Nat} (hi : i + 1 < X.length) (hj : j + 1 < Y.length) (hk : k + 1 < Z.length) : z1m X Y Z A B i j k = ((i * ((Y.length - 1) * (Z.length - 1)) + (j * (Z.length - 1) + k) : Nat) : Int) ∧ i * ((Y.length - 1) * (Z.length - 1)) + (j * (Z.length - 1) + k) < (X.length - 1) * ((Y.length - 1) * (Z.length - 1)) := by
 have e1 : z5u X Y Z A B 1 = ((Y.length - 1 : Nat) : Int) := x6g bY
 have e2 : z5u X Y Z A B 2 = ((Z.length - 1 : Nat) : Int) := x6g bZ
 unfold z1m
 rw [e1, e2]
 exact gat_ar (by omega) (by omega) (by omega) (by omega) (by omega) (by omega)
include hd hA hB
theorem fac_s (s : Int) {i j k : Nat} (hi : i + 1 < X.length) (hj : j + 1 < Y.length) (hk : k + 1 < Z.length) :
  Vn X Y Z A B kd d (.h2 (IntKind.wrap .i64 s) (i : Int) (j : Int) (k : Int)) = .to (.h2 (IntKind.wrap .i64 (s + tmF X Y Z A B kd d i j k)) (i : Int) (j : Int) ((k + 1 : Nat) : Int)) := by
 have hw : IntKind.wrap .i64 ((k : Int) + 1) = ((k + 1 : Nat) : Int) := Zj (by omega)
 obtain ⟨hax, hst⟩ := axs_of hd
 have ea : IntKind.wrap .i64 (Int.tdiv d 2) = axs d := rfl
 have es : IntKind.wrap .i64 (1 - IntKind.wrap .i64 (2 * Int.tmod d 2)) = stp d := rfl
 have g2 : z5u X Y Z A B 2 = ((Z.length - 1 : Nat) : Int) := x6g bZ
 have q0 := x6m (A := A) (B := B) bX bY bZ hi hj hk
 have gl : ∀ ax : Int, 0 ≤ ax ∧ ax < 3 → Jw X Y Z A B i j k ax = true := fun ax h => decide_eq_true ⟨h, by omega, by omega, by omega, by omega, by omega, by omega⟩
 have gc : ∀ (i' j' k' : Nat), i' + 1 < X.length → j' + 1 < Y.length → k' + 1 < Z.length → Jv X Y Z A B kd (z1m X Y Z A B i j k) (z1m X Y Z A B i' j' k') = true := fun i' j' k' h1 h2 h3 => by
  have q1 := x6m (A := A) (B := B) bX bY bZ h1 h2 h3
  rw [q0.1, q1.1]
  have := q0.2
  have := q1.2
  exact decide_eq_true ⟨by omega, by omega, by omega, by omega⟩
 rcases hax with hax | hax | hax
 ·have ew : IntKind.wrap .i64 ((i : Int) + stp d) = i + stp d := Zj (by omega)
  have g0 : z5u X Y Z A B 0 = ((X.length - 1 : Nat) : Int) := x6g bX
  have gn : ¬ IntKind.wrap .i64 ((i : Int) + stp d) < 0 → ¬ IntKind.wrap .i64 ((i : Int) + stp d) ≥ ((X.length - 1 : Nat) : Int) → Jv X Y Z A B kd (z1m X Y Z A B i j k) (z1m X Y Z A B (IntKind.wrap .i64 ((i : Int) + stp d)) (j : Int) (k : Int)) = true := fun h1 h2 => by
   have := gc (IntKind.wrap .i64 ((i : Int) + stp d)).toNat j k (by omega) hj hk
   rwa [Int.toNat_of_nonneg (by omega)] at this
  unfold tmF tm1
  simp (disch := omega) only [Vn, ea, es, hax, Zg, show ∀ ax : Int, (0 ≤ ax ∧ ax < 3) → Xk X Y Z A B ax = true from fun _ h => y3c h, g2, Zt, cond_true, cond_false, show decide ((0 : Int) = Int.ofNat 0) = true from rfl, show decide ((0 : Int) = Int.ofNat 1) = false from rfl, show decide ((0 : Int) = Int.ofNat 2) = false from rfl,
   show decide ((0 : Int) = 0) = true from rfl, show decide ((0 : Int) = 1) = false from rfl, show ∀ i j k : Int, Vi X Y Z A B i j k = true from fun _ _ _ => rfl, g0, show Int.tmod (IntKind.wrap .i64 ((0 : Int) + 1)) 3 = 1 from rfl, show Int.tmod (IntKind.wrap .i64 ((0 : Int) + 2)) 3 = 2 from rfl, gl 1 (by omega), gl 2 (by omega), hw, decide_true, cond_true]
  by_cases h1 : IntKind.wrap .i64 ((i : Int) + stp d) < 0
  ·rw [Zt h1, cond_true, cond_true, Int.add_zero]
  ·rw [Zo h1, cond_false, cond_false]
   by_cases h2 : IntKind.wrap .i64 ((i : Int) + stp d) ≥ ((X.length - 1 : Nat) : Int)
   ·rw [z6e h2, cond_true, cond_true, Int.add_zero]
   ·rw [z7n h2, cond_false, cond_false, gn h1 h2, cond_true]
    rcases Yr (x9p X Y Z A B kd (z1m X Y Z A B i j k) (z1m X Y Z A B (IntKind.wrap .i64 ((i : Int) + stp d)) (j : Int) (k : Int))) with q | q
    ·rw [q, w6e, cond_false, cond_true, wadd]
    ·rw [q, w6f, cond_true, cond_false, Int.add_zero]
 ·have ew : IntKind.wrap .i64 ((j : Int) + stp d) = j + stp d := Zj (by omega)
  have g0 : z5u X Y Z A B 1 = ((Y.length - 1 : Nat) : Int) := x6g bY
  have gn : ¬ IntKind.wrap .i64 ((j : Int) + stp d) < 0 → ¬ IntKind.wrap .i64 ((j : Int) + stp d) ≥ ((Y.length - 1 : Nat) : Int) → Jv X Y Z A B kd (z1m X Y Z A B i j k) (z1m X Y Z A B (i : Int) (IntKind.wrap .i64 ((j : Int) + stp d)) (k : Int)) = true := fun h1 h2 => by
   have := gc i (IntKind.wrap .i64 ((j : Int) + stp d)).toNat k hi (by omega) hk
   rwa [Int.toNat_of_nonneg (by omega)] at this
  unfold tmF tm1
  simp (disch := omega) only [Vn, ea, es, hax, Zg, show ∀ ax : Int, (0 ≤ ax ∧ ax < 3) → Xk X Y Z A B ax = true from fun _ h => y3c h, g2, Zt, cond_true, cond_false, show decide ((1 : Int) = Int.ofNat 0) = false from rfl, show decide ((1 : Int) = Int.ofNat 1) = true from rfl, show decide ((1 : Int) = Int.ofNat 2) = false from rfl,
   show decide ((1 : Int) = 0) = false from rfl, show decide ((1 : Int) = 1) = true from rfl, show ∀ i j k : Int, Vi X Y Z A B i j k = true from fun _ _ _ => rfl, g0, show Int.tmod (IntKind.wrap .i64 ((1 : Int) + 1)) 3 = 2 from rfl, show Int.tmod (IntKind.wrap .i64 ((1 : Int) + 2)) 3 = 0 from rfl, gl 2 (by omega), gl 0 (by omega), hw, decide_true, cond_true]
  by_cases h1 : IntKind.wrap .i64 ((j : Int) + stp d) < 0
  ·rw [Zt h1, cond_true, cond_true, Int.add_zero]
  ·rw [Zo h1, cond_false, cond_false]
   by_cases h2 : IntKind.wrap .i64 ((j : Int) + stp d) ≥ ((Y.length - 1 : Nat) : Int)
   ·rw [z6e h2, cond_true, cond_true, Int.add_zero]
   ·rw [z7n h2, cond_false, cond_false, gn h1 h2, cond_true]
    rcases Yr (x9p X Y Z A B kd (z1m X Y Z A B i j k) (z1m X Y Z A B (i : Int) (IntKind.wrap .i64 ((j : Int) + stp d)) (k : Int))) with q | q
    ·rw [q, w6e, cond_false, cond_true, wadd]
    ·rw [q, w6f, cond_true, cond_false, Int.add_zero]
 ·have ew : IntKind.wrap .i64 ((k : Int) + stp d) = k + stp d := Zj (by omega)
  have g0 : z5u X Y Z A B 2 = ((Z.length - 1 : Nat) : Int) := x6g bZ
  have gn : ¬ IntKind.wrap .i64 ((k : Int) + stp d) < 0 → ¬ IntKind.wrap .i64 ((k : Int) + stp d) ≥ ((Z.length - 1 : Nat) : Int) → Jv X Y Z A B kd (z1m X Y Z A B i j k) (z1m X Y Z A B (i : Int) (j : Int) (IntKind.wrap .i64 ((k : Int) + stp d))) = true := fun h1 h2 => by
   have := gc i j (IntKind.wrap .i64 ((k : Int) + stp d)).toNat hi hj (by omega)
   rwa [Int.toNat_of_nonneg (by omega)] at this
  unfold tmF tm1
  simp (disch := omega) only [Vn, ea, es, hax, Zg, show ∀ ax : Int, (0 ≤ ax ∧ ax < 3) → Xk X Y Z A B ax = true from fun _ h => y3c h, g2, Zt, cond_true, cond_false, show decide ((2 : Int) = Int.ofNat 0) = false from rfl, show decide ((2 : Int) = Int.ofNat 1) = false from rfl, show decide ((2 : Int) = Int.ofNat 2) = true from rfl,
   show decide ((2 : Int) = 0) = false from rfl, show decide ((2 : Int) = 1) = false from rfl, show ∀ i j k : Int, Vi X Y Z A B i j k = true from fun _ _ _ => rfl, g0, show Int.tmod (IntKind.wrap .i64 ((2 : Int) + 1)) 3 = 0 from rfl, show Int.tmod (IntKind.wrap .i64 ((2 : Int) + 2)) 3 = 1 from rfl, gl 0 (by omega), gl 1 (by omega), hw, decide_true, cond_true]
  by_cases h1 : IntKind.wrap .i64 ((k : Int) + stp d) < 0
  ·rw [Zt h1, cond_true, cond_true, Int.add_zero]
  ·rw [Zo h1, cond_false, cond_false]
   by_cases h2 : IntKind.wrap .i64 ((k : Int) + stp d) ≥ ((Z.length - 1 : Nat) : Int)
   ·rw [z6e h2, cond_true, cond_true, Int.add_zero]
   ·rw [z7n h2, cond_false, cond_false, gn h1 h2, cond_true]
    rcases Yr (x9p X Y Z A B kd (z1m X Y Z A B i j k) (z1m X Y Z A B (i : Int) (j : Int) (IntKind.wrap .i64 ((k : Int) + stp d)))) with q | q
    ·rw [q, w6e, cond_false, cond_true, wadd]
    ·rw [q, w6f, cond_true, cond_false, Int.add_zero]
theorem v4t {i j : Nat} (hi : i + 1 < X.length) (hj : j + 1 < Y.length) : ∀ (n k : Nat) (s : Int), k + n = Z.length - 1 → ∃ N, ∀ R, Yj (Vn X Y Z A B kd d) (R + N) (.to (.h2 (IntKind.wrap .i64 s) (i : Int) (j : Int) (k : Int))) = Yj (Vn X Y Z A B kd d) R (.to (.h1 (IntKind.wrap .i64 (s + Jo (fun k => tmF X Y Z A B kd d i j k) k n)) (i : Int) ((j + 1 : Nat) : Int)))
 | 0, k, s, h => by
  have hw : IntKind.wrap .i64 ((j : Int) + 1) = ((j + 1 : Nat) : Int) := Zj (by omega)
  have g2 : z5u X Y Z A B 2 = ((Z.length - 1 : Nat) : Int) := x6g bZ
  refine ⟨1, fun R => ?_⟩
  rw [Zv]
  simp (disch := omega) only [Vn, Zg, show Xk X Y Z A B 2 = true from y3c (by omega), g2, Zo, cond_true, cond_false, hw, Jo, Int.add_zero]
 | n + 1, k, s, h => by
  obtain ⟨N, hN⟩ := v4t hi hj n (k + 1) (s + tmF X Y Z A B kd d i j k) (by omega)
  refine ⟨N + 1, fun R => ?_⟩
  rw [← Nat.add_assoc, Zv, fac_s hd bX bY bZ hA hB s hi hj (show k + 1 < Z.length by omega), hN R, Int.add_assoc]; rfl
theorem v4u {i : Nat} (hi : i + 1 < X.length) : ∀ (n j : Nat) (s : Int), j + n = Y.length - 1 → ∃ N, ∀ R, Yj (Vn X Y Z A B kd d) (R + N) (.to (.h1 (IntKind.wrap .i64 s) (i : Int) (j : Int))) = Yj (Vn X Y Z A B kd d) R (.to (.h0 (IntKind.wrap .i64 (s + Jo (fun j => Jo (fun k => tmF X Y Z A B kd d i j k) 0 (Z.length - 1)) j n)) ((i + 1 : Nat) : Int)))
 | 0, j, s, h => by
  have hw : IntKind.wrap .i64 ((i : Int) + 1) = ((i + 1 : Nat) : Int) := Zj (by omega)
  have g2 : z5u X Y Z A B 1 = ((Y.length - 1 : Nat) : Int) := x6g bY
  refine ⟨1, fun R => ?_⟩
  rw [Zv]
  simp (disch := omega) only [Vn, Zg, show Xk X Y Z A B 1 = true from y3c (by omega), g2, Zo, cond_true, cond_false, hw, Jo, Int.add_zero]
 | n + 1, j, s, h => by
  have g2 : z5u X Y Z A B 1 = ((Y.length - 1 : Nat) : Int) := x6g bY
  obtain ⟨N0, h0⟩ := v4t (kd := kd) hd bX bY bZ hA hB hi (show j + 1 < Y.length by omega) (Z.length - 1) 0 s (Nat.zero_add _)
  obtain ⟨N, hN⟩ := v4u hi n (j + 1) (s + Jo (fun k => tmF X Y Z A B kd d i j k) 0 (Z.length - 1)) (by omega)
  refine ⟨N + N0 + 1, fun R => ?_⟩
  rw [← Nat.add_assoc, Zv]
  simp (disch := omega) only [Vn, Zg, show Xk X Y Z A B 1 = true from y3c (by omega), g2, Zt, cond_true]
  rw [← Nat.add_assoc, show (0 : Int) = ((0 : Nat) : Int) from rfl, h0, hN, Int.add_assoc]; rfl
theorem v4v : ∀ (n i : Nat) (s : Int), i + n = X.length - 1 → ∃ N, Yj (Vn X Y Z A B kd d) N (.to (.h0 (IntKind.wrap .i64 s) (i : Int))) = .ret [.int .i64 (IntKind.wrap .i64 (s + Jo (fun i => Jo (fun j => Jo (fun k => tmF X Y Z A B kd d i j k) 0 (Z.length - 1)) 0 (Y.length - 1)) i n))]
 | 0, i, s, h => by
  have g2 : z5u X Y Z A B 0 = ((X.length - 1 : Nat) : Int) := x6g bX
  refine ⟨1, ?_⟩
  rw [Zv]
  simp (disch := omega) only [Vn, Zg, show Xk X Y Z A B 0 = true from y3c (by omega), g2, Zo, cond_true, cond_false, Jo, Int.add_zero, Zp]
 | n + 1, i, s, h => by
  have g2 : z5u X Y Z A B 0 = ((X.length - 1 : Nat) : Int) := x6g bX
  obtain ⟨N0, h0⟩ := v4u (kd := kd) hd bX bY bZ hA hB (show i + 1 < X.length by omega) (Y.length - 1) 0 s (Nat.zero_add _)
  obtain ⟨N, hN⟩ := v4v n (i + 1) (s + Jo (fun j => Jo (fun k => tmF X Y Z A B kd d i j k) 0 (Z.length - 1)) 0 (Y.length - 1)) (by omega)
  refine ⟨N + N0 + 1, ?_⟩
  rw [Zv]
  simp (disch := omega) only [Vn, Zg, show Xk X Y Z A B 0 = true from y3c (by omega), g2, Zt, cond_true]
  rw [show (0 : Int) = ((0 : Nat) : Int) from rfl, h0, hN, Int.add_assoc]; rfl
end
theorem v9d (X Y Z : List Int) (A B : List Bool) (kd d : Int) (h : z0u X Y Z A B kd d = true) : ∃ N, Yj (Vn X Y Z A B kd d) N (y6h X Y Z A B kd d) = .ret [.int .i64 (v4w X Y Z A B kd d)] := by
 obtain ⟨hd, bX, bY, bZ, hA, hB⟩ := of_decide_eq_true h
 obtain ⟨N, hN⟩ := v4v (kd := kd) hd bX bY bZ hA hB (X.length - 1) 0 0 (Nat.zero_add _)
 rw [Int.zero_add] at hN
 exact ⟨N, hN⟩
def fFac : List AVal → Option (AVal × Bool)
 | [.dptr [a0_0, a0_1, a0_2, a0_3, a0_4], .int .i64 x1, .int .i64 x2] => match asL Int a0_0, asL Int a0_1, asL Int a0_2, asL Bool a0_3, asL Bool a0_4 with
  | some (L0_0, g0_0, n0_0), some (L0_1, g0_1, n0_1), some (L0_2, g0_2, n0_2), some (L0_3, g0_3, n0_3), some (L0_4, g0_4, n0_4) => some (.int .i64 (v4w L0_0 L0_1 L0_2 L0_3 L0_4 x1 x2), isT Int n0_0 g0_0 && (isT Int n0_1 g0_1 && (isT Int n0_2 g0_2 && (isT Bool n0_3 g0_3 && (isT Bool n0_4 g0_4 && (z0u L0_0 L0_1 L0_2 L0_3 L0_4 x1 x2))))))
  | _, _, _, _, _ => none
 | _ => none
theorem u0c {S : Specs} (hS : Zu prog S) : Zu prog (S.with v4i fFac) := by
 refine z2m hS (by kernel_rfl) fun args v h => ?_
 unfold fFac at h
 split at h
 ·rename_i a0_0 a0_1 a0_2 a0_3 a0_4 x1 x2
  split at h
  ·rename_i L0_0 g0_0 n0_0 L0_1 g0_1 n0_1 L0_2 g0_2 n0_2 L0_3 g0_3 n0_3 L0_4 g0_4 n0_4 e0_0 e0_1 e0_2 e0_3 e0_4
   simp only [Option.some.injEq, Prod.mk.injEq, Bool.and_eq_true] at h
   obtain ⟨rfl, eQ, eR, eS, eT, eU, hw⟩ := h
   obtain ⟨N, hN⟩ := v9d L0_0 L0_1 L0_2 L0_3 L0_4 x1 x2 hw
   exact ⟨_, _, (.cons (y1x (.cons (Yx e0_0 eQ) (.cons (Yx e0_1 eR) (.cons (Yx e0_2 eS) (.cons (Yx e0_3 eT) (.cons (Yx e0_4 eU) .nil)))))) (.cons (.refl _) (.cons (.refl _) .nil))), rfl, v0t L0_0 L0_1 L0_2 L0_3 L0_4 x1 x2 N _ hN, 3, rfl⟩
  ·cases h
 ·cases h
def Rd : Specs := ((T9.with w4g fDiv).with v4i fFac)
theorem Uc : Zu prog Rd := (u0c (u0d Vk))
end Go.Am
namespace Go.Am
open Go.Proofs Go.Sort Go.Shelf Go.RowKit Go.Lib
def net (E : List R3) (y : Int) : Int := (E.map fun e => if e.a ≤ y then e.c else 0).sum
theorem Km (e : R3) (E : List R3) (y : Int) : net (e :: E) y = (if e.a ≤ y then e.c else 0) + net E y := by simp [net]
theorem w9h {E F : List R3} (h : E.Perm F) (y : Int) : net E y = net F y := by
 induction h with
 | nil => rfl
 | cons e _ ih => rw [Km, Km, ih]
 | swap a b l => simp only [Km]; omega
 | trans _ _ i1 i2 => rw [i1, i2]
theorem x5u (E : List R3) (y : Int) (h : ∀ e ∈ E, y < e.a) : net E y = 0 := by
 induction E with
 | nil => rfl
 | cons e E ih =>
  rw [Km, if_neg (by have := h e (by simp); omega), ih fun f hf => h f (by simp [hf])]; rfl
theorem w6a (out : List R2) (last : Int) (inn : Bool) (x : Int) : z0f out last inn x = bif inn && !(last == x) then push out last x else out := by
 unfold z0f push
 cases inn
 ·rfl
 ·cases (last == x) <;> rfl
theorem w0h {out : List R2} {last x : Int} (inn : Bool) (hc : Can out) (hb : ∀ s ∈ out, s.b ≤ last) (hx : last ≤ x) :
  Can (z0f out last inn x) ∧ (∀ s ∈ z0f out last inn x, s.b ≤ x) ∧ ∀ y, pt (z0f out last inn x) y ↔ pt out y ∨ (inn = true ∧ last ≤ y ∧ y < x) := by
 rw [w6a]
 rcases Yr (inn && !(last == x)) with q | q
 ·rw [q, cond_true]
  simp only [Bool.and_eq_true, Bool.not_eq_true', beq_eq_false_iff_ne, ne_eq] at q
  obtain ⟨p1, p2, p3⟩ := x5n hc hb (show last < x by omega)
  refine ⟨p1, p2, fun y => ?_⟩
  rw [p3]; simp [q.1]
 ·rw [q, cond_false]
  refine ⟨hc, fun s hs => by have := hb s hs; omega, fun y => ⟨.inl, fun h => h.elim id fun ⟨h1, h2, h3⟩ => ?_⟩⟩
  rw [h1, Bool.true_and] at q
  have : last = x := by simpa using q
  omega
def Asc (E : List R3) : Prop := E.Pairwise fun e f => e.a ≤ f.a
theorem w1p : ∀ (E : List R3) (o last : Int) (out : List R2), Asc E → (∀ e ∈ E, last ≤ e.a) → Can out → (∀ s ∈ out, s.b ≤ last) →
  Can (swF E o last (decide (o > 0)) out) ∧ ∀ y, pt (swF E o last (decide (o > 0)) out) y ↔ pt out y ∨ (last ≤ y ∧ 0 < o + net E y ∧ ∃ e ∈ E, y < e.a)
 | [], o, last, out, _, _, hc, _ => ⟨hc, fun y => ⟨.inl, fun h => h.elim id fun ⟨_, _, e, he, _⟩ => by cases he⟩⟩
 | e :: r, o, last, out, hE, hl, hc, hb => by
  have he := hl e (by simp)
  have hr := List.pairwise_cons.1 hE
  obtain ⟨p1, p2, p3⟩ := w0h (decide (o > 0)) hc hb he
  obtain ⟨q1, q2⟩ := w1p r (o + e.c) e.a (z0f out last (decide (o > 0)) e.a) hr.2 hr.1 p1 p2
  rw [z8z]
  refine ⟨q1, fun y => ?_⟩
  rw [q2, p3, Km]
  constructor
  ·rintro ((h | ⟨h1, h2, h3⟩) | ⟨h1, h2, f, hf, h3⟩)
   ·exact .inl h
   ·right
    have h1 := of_decide_eq_true h1
    refine ⟨h2, ?_, e, by simp, h3⟩
    rw [if_neg (by omega), x5u r y fun f hf => by have := hr.1 f hf; omega]
    omega
   ·right
    refine ⟨by omega, ?_, f, by simp [hf], h3⟩
    rw [if_pos h1]; omega
  ·rintro (h | ⟨h1, h2, f, hf, h3⟩)
   ·exact .inl (.inl h)
   ·by_cases hy : e.a ≤ y
    ·right
     rw [if_pos hy] at h2
     refine ⟨hy, by omega, f, ?_, h3⟩
     rcases List.mem_cons.1 hf with rfl | hf
     ·omega
     ·exact hf
    ·left; right
     rw [if_neg hy, x5u r y fun f hf => by have := hr.1 f hf; omega] at h2
     exact ⟨decide_eq_true (by omega), h1, by omega⟩
theorem w9i (l : List R2) (hv : ∀ s ∈ l, s.a < s.b) (y : Int) : 0 ≤ net (Jk l) y ∧ (0 < net (Jk l) y ↔ pt l y) := by
 induction l with
 | nil => exact ⟨Int.le_refl _, by simp [net, Jk, pt]⟩
 | cons s l ih =>
  obtain ⟨i1, i2⟩ := ih fun t ht => hv t (by simp [ht])
  have hs := hv s (by simp)
  have e : net (Jk (s :: l)) y = (if s.a ≤ y ∧ y < s.b then 1 else 0) + net (Jk l) y := by
   show net (⟨s.a, 0, 1⟩ :: ⟨s.b, 0, -1⟩ :: Jk l) y = _
   rw [Km, Km]
   show (if s.a ≤ y then (1 : Int) else 0) + ((if s.b ≤ y then (-1 : Int) else 0) + net (Jk l) y) = _
   by_cases h1 : s.a ≤ y
   ·by_cases h2 : s.b ≤ y
    ·rw [if_pos h1, if_pos h2, if_neg (show ¬ (s.a ≤ y ∧ y < s.b) by omega)]; omega
    ·rw [if_pos h1, if_neg h2, if_pos (show s.a ≤ y ∧ y < s.b by omega)]; omega
   ·rw [if_neg h1, if_neg (show ¬ s.b ≤ y by omega), if_neg (show ¬ (s.a ≤ y ∧ y < s.b) by omega)]; omega
  rw [e]
  by_cases h : s.a ≤ y ∧ y < s.b
  ·rw [if_pos h]
   exact ⟨by omega, ⟨fun _ => ⟨s, by simp, h⟩, fun _ => by omega⟩⟩
  ·rw [if_neg h]
   refine ⟨by omega, ?_⟩
   rw [Int.zero_add, i2]
   constructor
   ·rintro ⟨t, ht, h2⟩; exact ⟨t, by simp [ht], h2⟩
   ·rintro ⟨t, ht, h2⟩
    rcases List.mem_cons.1 ht with rfl | ht
    ·exact absurd h2 h
    ·exact ⟨t, ht, h2⟩
theorem y1u {l : List R2} {s : R2} (h : s ∈ l) : (⟨s.b, 0, -1⟩ : R3) ∈ Jk l ∧ (⟨s.a, 0, 1⟩ : R3) ∈ Jk l :=
 ⟨List.mem_flatMap.2 ⟨s, h, by simp⟩, List.mem_flatMap.2 ⟨s, h, by simp⟩⟩
theorem w7m (l : List R3) (h : y7g l = true) : Asc (z4t l) := by
 refine List.pairwise_iff_getElem.2 fun i j hi hj hij => ?_
 have := (z0m l h).2 i j hij hj
 rwa [Xi hi, Xi hj] at this
theorem w1o (l : List R2) (hv : l.all y2t = true) : Can (swV l) ∧ ∀ y, pt (swV l) y ↔ pt l y := by
 have hb : y7g (Jk l) = true := List.all_eq_true.2 fun e he => by
  obtain ⟨s, hs, h1⟩ := List.mem_flatMap.1 he
  have hv := List.all_eq_true.1 hv s hs
  simp only [y2t, Bool.and_eq_true, decide_eq_true_eq] at hv
  simp only [List.mem_cons, List.not_mem_nil, or_false] at h1
  rcases h1 with rfl | rfl <;> exact decide_eq_true (by simp only; omega)
 have hpos : ∀ s ∈ l, s.a < s.b := fun s hs => by
  have := List.all_eq_true.1 hv s hs
  simp only [y2t, Bool.and_eq_true, decide_eq_true_eq] at this
  exact this.1
 obtain ⟨hp, _⟩ := z0m (Jk l) hb
 have ha := w7m (Jk l) hb
 have hn : ∀ y, net (z4t (Jk l)) y = net (Jk l) y := fun y => w9h hp y
 unfold swV
 generalize z4t (Jk l) = E at hp ha hn
 cases E with
 | nil =>
  refine ⟨.nil, fun y => ⟨fun ⟨s, hs, _⟩ => (by cases hs), fun ⟨s, hs, _⟩ => ?_⟩⟩
  have := hp.mem_iff.2 (y1u hs).1
  cases this
 | cons e r =>
  have hr := List.pairwise_cons.1 ha
  rw [z8z, Int.zero_add]
  have e0 : z0f [] 0 false e.a = [] := rfl
  rw [e0]
  obtain ⟨q1, q2⟩ := w1p r e.c e.a [] hr.2 hr.1 .nil (by simp)
  refine ⟨q1, fun y => ?_⟩
  rw [q2]
  obtain ⟨n1, n2⟩ := w9i l hpos y
  rw [← n2, ← hn, Km]
  constructor
  ·rintro (⟨s, hs, _⟩ | ⟨h1, h2, _⟩)
   ·cases hs
   ·rw [if_pos h1]; omega
  ·intro h
   have hpt := n2.1 (by rw [← hn, Km]; exact h)
   obtain ⟨s, hs, s1, s2⟩ := hpt
   have m1 := hp.mem_iff.2 (y1u hs).1
   have m2 := hp.mem_iff.2 (y1u hs).2
   have hea : e.a ≤ y := by
    rcases List.mem_cons.1 m2 with h' | h'
    ·rw [← h']; exact s1
    ·have h'' : e.a ≤ s.a := hr.1 _ h'
     omega
   right
   rw [if_pos hea] at h
   refine ⟨hea, h, ⟨s.b, 0, -1⟩, ?_, s2⟩
   rcases List.mem_cons.1 m1 with h' | h'
   ·have h'' : e.a = s.b := by rw [← h']
    omega
   ·exact h'
theorem y8m (out : List Int) (hs : out.Pairwise (· < ·)) (x : Int) : ∀ k, k ≤ out.length → x1v out x k ≤ k ∧ (∀ i, x1v out x k ≤ i → i < k → x < rd out i) ∧ (0 < x1v out x k → rd out (x1v out x k - 1) ≤ x)
 | 0, _ => ⟨Nat.le_refl _, fun i h1 h2 => by omega, fun h => by simp [x1v] at h⟩
 | k + 1, hk => by
  unfold x1v
  rcases Yr (decide (rd out k > x)) with q | q
  ·rw [q, cond_true]
   obtain ⟨h1, h2, h3⟩ := y8m out hs x k (by omega)
   refine ⟨by omega, fun i a b => ?_, h3⟩
   rcases Nat.eq_or_lt_of_le (Nat.le_of_lt_succ b) with rfl | b
   ·exact of_decide_eq_true q
   ·exact h2 i a b
  ·rw [q, cond_false]
   exact ⟨Nat.le_refl _, fun i a b => by omega, fun _ => by have := of_decide_eq_false q; simp only [Nat.add_sub_cancel]; omega⟩
theorem w4v (out : List Int) (hs : out.Pairwise (· < ·)) (x : Int) : (y1i out x).Pairwise (· < ·) ∧ ∀ y, y ∈ y1i out x ↔ y ∈ out ∨ y = x := by
 obtain ⟨h1, h2, h3⟩ := y8m out hs x out.length (Nat.le_refl _)
 unfold y1i
 split
 ·rename_i h0
  rw [h0] at h2
  refine ⟨List.pairwise_cons.2 ⟨fun y hy => ?_, hs⟩, fun y => by simp [or_comm]⟩
  obtain ⟨i, hi, rfl⟩ := List.getElem_of_mem hy
  have := h2 i (Nat.zero_le _) hi
  rwa [Xi hi] at this
 ·rename_i k hk
  rw [hk] at h1 h2 h3
  have h3 : rd out k ≤ x := h3 (Nat.succ_pos _)
  have hkl : k < out.length := by omega
  rcases Yr (rd out k == x) with q | q
  ·rw [q, cond_true]
   have q : rd out k = x := by simpa using q
   refine ⟨hs, fun y => ⟨.inl, fun h => h.elim id fun e => ?_⟩⟩
   rw [e, ← q, Xi hkl]; exact List.getElem_mem hkl
  ·rw [q, cond_false]
   have q : rd out k ≠ x := by simpa using q
   refine ⟨?_, fun y => ?_⟩
   ·have st : (out.take (k + 1)).Pairwise (· < ·) := hs.sublist (List.take_sublist _ _)
    have sd : (out.drop (k + 1)).Pairwise (· < ·) := hs.sublist (List.drop_sublist _ _)
    have ht : ∀ y ∈ out.take (k + 1), y < x := fun y hy => by
     obtain ⟨i, hi, rfl⟩ := List.getElem_of_mem hy
     have hi' : i < k + 1 := by simp at hi; omega
     rw [List.getElem_take]
     have : rd out i ≤ rd out k := by
      rcases Nat.eq_or_lt_of_le (Nat.le_of_lt_succ hi') with rfl | h
      ·exact Int.le_refl _
      ·exact Int.le_of_lt (w9v hs h hkl)
     rw [Xi (show i < out.length by omega)] at this
     omega
    have hd : ∀ y ∈ out.drop (k + 1), x < y := fun y hy => by
     obtain ⟨i, hi, rfl⟩ := List.getElem_of_mem hy
     have hi' : k + 1 + i < out.length := by simp at hi; omega
     rw [List.getElem_drop, ← Xi hi']
     exact h2 _ (by omega) hi'
    refine List.pairwise_append.2 ⟨st, List.pairwise_cons.2 ⟨hd, sd⟩, fun a ha b hb => ?_⟩
    rcases List.mem_cons.1 hb with rfl | hb
    ·exact ht a ha
    ·exact Int.lt_trans (ht a ha) (hd b hb)
   ·rw [List.mem_append, List.mem_cons]
    constructor
    ·rintro (h | h | h)
     ·exact .inl (List.mem_of_mem_take h)
     ·exact .inr h
     ·exact .inl (List.mem_of_mem_drop h)
    ·rintro (h | h)
     ·rw [← List.take_append_drop (k + 1) out, List.mem_append] at h
      exact h.elim .inl fun h => .inr (.inr h)
     ·exact .inr (.inl h)
theorem y0f (l : List Int) : (z1u l).Pairwise (· < ·) ∧ ∀ y, y ∈ z1u l ↔ y ∈ l := by
 have : ∀ (l out : List Int), out.Pairwise (· < ·) → (l.foldl y1i out).Pairwise (· < ·) ∧ ∀ y, y ∈ l.foldl y1i out ↔ y ∈ out ∨ y ∈ l := by
  intro l
  induction l with
  | nil => intro out h; exact ⟨h, fun y => by simp⟩
  | cons x l ih =>
   intro out h
   obtain ⟨a, b⟩ := w4v out h x
   obtain ⟨c, d⟩ := ih (y1i out x) a
   refine ⟨c, fun y => ?_⟩
   show y ∈ l.foldl y1i (y1i out x) ↔ _
   rw [d, b, List.mem_cons, or_assoc]
 obtain ⟨a, b⟩ := this l [] .nil
 exact ⟨a, fun y => by rw [z1u, b]; simp⟩
theorem z8g : ∀ (l m : List Int), l.Pairwise (· < ·) → m.Pairwise (· < ·) → (∀ x, x ∈ l ↔ x ∈ m) → l = m
 | [], [], _, _, _ => rfl
 | [], b :: m, _, _, h => by have := (h b).2 (by simp); cases this
 | a :: l, [], _, _, h => by have := (h a).1 (by simp); cases this
 | a :: l, b :: m, hl, hm, h => by
  obtain ⟨a1, a2⟩ := List.pairwise_cons.1 hl
  obtain ⟨b1, b2⟩ := List.pairwise_cons.1 hm
  have e : a = b := by
   have x1 := (h a).1 (by simp)
   have x2 := (h b).2 (by simp)
   rcases List.mem_cons.1 x1 with x1 | x1
   ·exact x1
   rcases List.mem_cons.1 x2 with x2 | x2
   ·exact x2.symm
   have := b1 a x1
   have := a1 b x2
   omega
  subst e
  congr 1
  refine z8g l m a2 b2 fun x => ⟨fun hx => ?_, fun hx => ?_⟩
  ·rcases List.mem_cons.1 ((h x).1 (by simp [hx])) with e | e
   ·have := a1 x hx; omega
   ·exact e
  ·rcases List.mem_cons.1 ((h x).2 (by simp [hx])) with e | e
   ·have := b1 x hx; omega
   ·exact e
theorem z8i (zs : List Int) (hs : zs.Pairwise (· ≤ ·)) : ∀ m, m ≤ zs.length → (compactUpTo zs.toArray m).Pairwise (· < ·) ∧ ∀ x, x ∈ compactUpTo zs.toArray m ↔ x ∈ zs.take m
 | 0, _ => by simp [compactUpTo]
 | m + 1, h => by
  obtain ⟨h1, h2⟩ := z8i zs hs m (by omega)
  have hg : ∀ j (hj : j < zs.length), zs.toArray[j]! = zs[j] := fun j hj => by simp [hj]
  have hle : ∀ i j (hi : i < zs.length) (hj : j < zs.length), i < j → zs[i] ≤ zs[j] := fun i j hi hj hij => List.pairwise_iff_getElem.1 hs i j hi hj hij
  have hm : m < zs.length := by omega
  rw [compactUpTo_succ, hg m hm, List.take_succ_eq_append_getElem hm]
  by_cases hk : keeps zs.toArray m = true
  ·rw [if_pos hk]
   refine ⟨List.pairwise_append.2 ⟨h1, List.pairwise_singleton _ _, fun x hx y hy => ?_⟩, fun x => by rw [List.mem_append, List.mem_append, h2 x]⟩
   rw [List.mem_singleton.1 hy]
   obtain ⟨i, hi, rfl⟩ := List.getElem_of_mem ((h2 x).1 hx)
   have hi' : i < m := by simp at hi; omega
   rw [List.getElem_take]
   simp only [keeps, decide_eq_true_eq] at hk
   rcases hk with hk | hk
   ·omega
   ·rw [hg m hm, hg (m - 1) (by omega)] at hk
    have k1 : zs[i] ≤ zs[m - 1] := by
     rcases Nat.lt_or_ge i (m - 1) with q | q
     ·exact hle i (m - 1) _ _ q
     ·have e : i = m - 1 := by omega
      subst e; exact Int.le_refl _
    have k2 := hle (m - 1) m (by omega) hm (by omega)
    omega
  ·rw [if_neg hk, List.append_nil]
   refine ⟨h1, fun x => ?_⟩
   rw [h2 x, List.mem_append, List.mem_singleton]
   refine ⟨.inl, fun hx => hx.elim id fun e => ?_⟩
   simp only [keeps, decide_eq_true_eq, not_or, Decidable.not_not] at hk
   rw [hg m hm, hg (m - 1) (by omega)] at hk
   rw [e, hk.2]
   have : m - 1 < (zs.take m).length := by simp; omega
   have e2 : (zs.take m)[m - 1] = zs[m - 1] := List.getElem_take
   rw [← e2]
   exact List.getElem_mem this
theorem srt_le (zs : List Int) : (Uw zs).Pairwise (· ≤ ·) := by
 have := List.pairwise_mergeSort (le := fun x y : Int => decide (x ≤ y)) (fun a b c h1 h2 => by simp at *; omega) (fun a b => by simp; omega) zs
 exact this.imp fun h => by simpa using h
theorem v6d (zs : List Int) (x : Int) : x ∈ Uw zs ↔ x ∈ zs := List.mem_mergeSort
theorem x3t (zs : List Int) : z8h zs = z1u zs := by
 obtain ⟨h1, h2⟩ := z8i (Uw zs) (srt_le zs) (Uw zs).length (Nat.le_refl _)
 obtain ⟨s1, s2⟩ := y0f zs
 refine z8g _ _ h1 s1 fun x => ?_
 rw [show z8h zs = compactUpTo (Uw zs).toArray (Uw zs).length from rfl, h2 x, List.take_length, v6d, s2]
end Go.Am
end
