/- A part of a proof: several texts in one. -/
import Derived.Test.YtmanggcjimaehaaGreatKt4
set_option maxRecDepth 1000000
set_option maxHeartbeats 8000000
set_option linter.unusedVariables false
set_option linter.unusedSimpArgs false
noncomputable section
namespace Go.Am
open Go.Proofs
open Go.Sort Go.Shelf Go.RowKit Go.Lib
theorem z6g (l : List R4) : (Xh l == 0) = !(Xh l != 0) := by cases h : (Xh l == 0) <;> simp [bne, h]
def slS (q : Op) (a b : List R6) (x : Int) : List R4 := rgJ q.k (Zb (D6.inn a x)) (Zb (D6.inn b x))
def slA (q : Op) (a b : List R6) (x : Int) : Int := bif Xh (D6.inn a x) != 0 then Xh (D6.inn a x) else bif Xh (D6.inn b x) != 0 then Xh (D6.inn b x) else rgE q (Zb (D6.inn a x)) (Zb (D6.inn b x))
theorem x4n {q : Op} {a b : List R4} (h : rgE q a b = 0) : z9a a = 0 ∧ z9a b = 0 ∧ (rgJ q.k a b).length ≤ 400 := by
 unfold rgE at h
 cases g1 : (z9a a != 0) with
 | true => rw [g1, cond_true] at h; rw [h] at g1; cases g1
 | false =>
  cases g2 : (z9a b != 0) with
  | true => rw [g1, g2, cond_false, cond_true] at h; rw [h] at g2; cases g2
  | false =>
   rw [g1, g2, cond_false, cond_false] at h
   unfold eJ at h
   refine ⟨by simpa using g1, by simpa using g2, ?_⟩
   revert h
   generalize y2o (rgA q a b) _ _ _ = e
   intro h
   cases g3 : (e != 0) with
   | true => rw [g3, cond_true] at h; rw [h] at g3; cases g3
   | false => rw [g3, cond_false] at h; exact z9s h
theorem y4o {q : Op} {a b : List R6} {x : Int} (h : slA q a b x = 0) : Xh (D6.inn a x) = 0 ∧ Xh (D6.inn b x) = 0 ∧ rgE q (Zb (D6.inn a x)) (Zb (D6.inn b x)) = 0 := by
 unfold slA at h
 cases g1 : (Xh (D6.inn a x) != 0) with
 | true => rw [g1, cond_true] at h; rw [h] at g1; cases g1
 | false =>
  cases g2 : (Xh (D6.inn b x) != 0) with
  | true => rw [g1, g2, cond_false, cond_true] at h; rw [h] at g2; cases g2
  | false =>
   rw [g1, g2, cond_false, cond_false] at h
   exact ⟨by simpa using g1, by simpa using g2, h⟩
theorem v4e (q : Op) (a b : List R6) (x : Int) (h : (slA q a b x != 0) = false) : (slS q a b x).length ≤ 1000 :=
 Nat.le_trans (x4n (y4o (by simpa using h)).2.2).2.2 (by omega)
section
variable (q : Op) (a b : List R6) (ha : a.length ≤ 400) (hb : b.length ≤ 400)
include ha hb
theorem v0p (i : Nat) (out : List R6) (last : List R4) (first fin x x' : Int) : ∀ (k j : Nat) (acc : List R4), j + k = a.length → acc.length ≤ j →
  ∃ n, ∀ N, Ya (Yh q a b) (N + n) (.to (.h3 (i : Int) (j : Int) out last first fin ((D6.cuts (a ++ b)).length) (Wc (Xd (D6.ends (a ++ b)))) x x' acc)) = Ya (Yh q a b) N (.to (.h4 (i : Int) 0 out last first fin ((D6.cuts (a ++ b)).length) (Wc (Xd (D6.ends (a ++ b)))) x x' (acc ++ D6.inn (a.drop j) x) []))
 | 0, j, acc, h, h' => by
  have _u := ha; have _v := hb
  refine ⟨1, fun N => ?_⟩
  rw [List.drop_eq_nil_of_le (by omega), show D6.inn ([] : List R6) x = [] from rfl, List.append_nil, Zv]
  simp (disch := omega) only [Yh, Yx, cond_false]
 | k + 1, j, acc, h, h' => by
  have hj : j < a.length := by omega
  obtain ⟨n, hn⟩ := v0p i out last first fin x x' k (j + 1) (acc ++ D6.inn [rd a j] x) (by omega) (by have := D6.inn_length [rd a j] x; simp only [List.length_append, List.length_singleton] at *; omega)
  refine ⟨n + 1, fun N => ?_⟩
  have e : D6.inn (a.drop j) x = D6.inn [rd a j] x ++ D6.inn (a.drop (j + 1)) x := by
   rw [Yi hj, ← D6.inn_append]; rfl
  rw [e, ← Nat.add_assoc, Zv, ← List.append_assoc, ← hn N]
  by_cases h1 : D6.lo (rd a j) ≤ x
  ·by_cases h2 : x < D6.hi (rd a j)
   ·rw [D6.inn_t _ _ h1 h2]
    simp only [D6] at h1 h2 ⊢
    simp (disch := omega) only [Yh, Xq, Zg, Zq, Zs, Zr, Yq, Yy, Yw, Zc, Zj, Zx, Yu, Zu, Nat.zero_add, decide_true, Bool.and_true, Bool.true_and, cond_true, cond_false]
   ·rw [D6.inn_f2 _ _ h2, List.append_nil]
    simp only [D6] at h1 h2
    simp (disch := omega) only [Yh, Xq, Yx, Zg, Zq, Zs, Zr, Yq, Yy, Yw, Zc, Zj, Zx, Yu, Zu, Nat.zero_add, decide_true, Bool.and_true, Bool.true_and, cond_true, cond_false]
  ·rw [D6.inn_f1 _ _ h1, List.append_nil]
   simp only [D6] at h1
   simp (disch := omega) only [Yh, x8q, Zg, Zq, Zs, Zr, Yq, Yy, Yw, Zc, Zj, Zx, Yu, Zu, Nat.zero_add, decide_true, Bool.and_true, Bool.true_and, cond_true, cond_false]
theorem v0o (i : Nat) (out : List R6) (last : List R4) (first fin x x' : Int) (o1 : List R4) : ∀ (k j : Nat) (acc : List R4), j + k = b.length → acc.length ≤ j →
  ∃ n, ∀ N, Ya (Yh q a b) (N + n) (.to (.h4 (i : Int) (j : Int) out last first fin ((D6.cuts (a ++ b)).length) (Wc (Xd (D6.ends (a ++ b)))) x x' o1 acc)) = Ya (Yh q a b) N (.to (.h4 (i : Int) (b.length : Int) out last first fin ((D6.cuts (a ++ b)).length) (Wc (Xd (D6.ends (a ++ b)))) x x' o1 (acc ++ D6.inn (b.drop j) x)))
 | 0, j, acc, h, h' => by
  have _u := ha; have _v := hb
  refine ⟨0, fun N => ?_⟩
  rw [List.drop_eq_nil_of_le (by omega), show D6.inn ([] : List R6) x = [] from rfl, List.append_nil, Nat.add_zero, show j = b.length by omega]
 | k + 1, j, acc, h, h' => by
  have hj : j < b.length := by omega
  obtain ⟨n, hn⟩ := v0o i out last first fin x x' o1 k (j + 1) (acc ++ D6.inn [rd b j] x) (by omega) (by have := D6.inn_length [rd b j] x; simp only [List.length_append, List.length_singleton] at *; omega)
  refine ⟨n + 1, fun N => ?_⟩
  have e : D6.inn (b.drop j) x = D6.inn [rd b j] x ++ D6.inn (b.drop (j + 1)) x := by
   rw [Yi hj, ← D6.inn_append]; rfl
  rw [e, ← Nat.add_assoc, Zv, ← List.append_assoc, ← hn N]
  by_cases h1 : D6.lo (rd b j) ≤ x
  ·by_cases h2 : x < D6.hi (rd b j)
   ·rw [D6.inn_t _ _ h1 h2]
    simp only [D6] at h1 h2 ⊢
    simp (disch := omega) only [Yh, Xq, Zg, Zq, Zs, Zr, Yq, Yy, Yw, Zc, Zj, Zx, Yu, Zu, Nat.zero_add, decide_true, Bool.and_true, Bool.true_and, cond_true, cond_false]
   ·rw [D6.inn_f2 _ _ h2, List.append_nil]
    simp only [D6] at h1 h2
    simp (disch := omega) only [Yh, Xq, Yx, Zg, Zq, Zs, Zr, Yq, Yy, Yw, Zc, Zj, Zx, Yu, Zu, Nat.zero_add, decide_true, Bool.and_true, Bool.true_and, cond_true, cond_false]
  ·rw [D6.inn_f1 _ _ h1, List.append_nil]
   simp only [D6] at h1
   simp (disch := omega) only [Yh, x8q, Zg, Zq, Zs, Zr, Yq, Yy, Yw, Zc, Zj, Zx, Yu, Zu, Nat.zero_add, decide_true, Bool.and_true, Bool.true_and, cond_true, cond_false]
theorem v0n (i : Nat) (hi : i ≤ 2000) (x x' : Int) (s : List R4) (first : Int) (o1 o2 : List R4) (hs : s.length ≤ 1000) : ∀ (k j : Nat) (out : List R6), j + k = s.length → out.length ≤ 10000000 + j →
  ∃ n, ∀ N, Ya (Yh q a b) (N + n) (.to (.h5 x x' s (s.length : Int) (j : Int) (i : Int) out first ((D6.cuts (a ++ b)).length) (Wc (Xd (D6.ends (a ++ b)))) o1 o2)) = Ya (Yh q a b) N (.to (.h2 ((i + 1 : Nat) : Int) (out ++ (s.drop j).map (D6.put x x')) s first x' ((D6.cuts (a ++ b)).length) (Wc (Xd (D6.ends (a ++ b))))))
 | 0, j, out, h, ho => by
  have _u := ha; have _v := hb
  refine ⟨1, fun N => ?_⟩
  rw [List.drop_eq_nil_of_le (by omega), Zv]
  simp (disch := omega) only [Yh, Yx, Zj, Zx, cond_false, List.map_nil, List.append_nil]
 | k + 1, j, out, h, ho => by
  obtain ⟨n, hn⟩ := v0n i hi x x' s first o1 o2 hs k (j + 1) (out ++ [D6.put x x' (rd s j)]) (by omega) (by simp; omega)
  refine ⟨n + 1, fun N => ?_⟩
  have := hn N
  rw [Yi (show j < s.length by omega), List.map_cons, ← Nat.add_assoc, Zv]
  simp (disch := omega) only [Yh, Zg, Zq, Zs, Zr, Yq, Yy, Yw, Zc, Zj, Zx, Yu, Zu, Nat.zero_add, decide_true, Bool.and_true, Bool.true_and, cond_true, cond_false]
  rw [List.append_assoc] at this
  exact this
theorem v0m (i : Nat) (hi : i ≤ 2000) (x x' fin : Int) (s last : List R4) (first : Int) (o1 o2 : List R4) : ∀ (k j : Nat) (out : List R6), j + k = out.length → out.length ≤ 10000000 →
  ∃ n, ∀ N, Ya (Yh q a b) (N + n) (.to (.h6 x' (j : Int) x s (i : Int) out last first fin ((D6.cuts (a ++ b)).length) (Wc (Xd (D6.ends (a ++ b)))) o1 o2)) = Ya (Yh q a b) N (.to (.h2 ((i + 1 : Nat) : Int) (D6.grow out j x') last first x' ((D6.cuts (a ++ b)).length) (Wc (Xd (D6.ends (a ++ b))))))
 | 0, j, out, h, ho => by
  have _u := ha; have _v := hb
  refine ⟨1, fun N => ?_⟩
  rw [D6.grow_nil _ _ _ (by omega), Zv]
  simp (disch := omega) only [Yh, Yx, Zj, Zx, cond_false]
 | k + 1, j, out, h, ho => by
  obtain ⟨n, hn⟩ := v0m i hi x x' fin s last first o1 o2 k (j + 1) (out.set j (D6.ext x' (rd out j))) (by simp; omega) (by simpa using ho)
  refine ⟨n + 1, fun N => ?_⟩
  have := hn N
  rw [D6.grow_set out j _ (by omega)] at this
  rw [← Nat.add_assoc, Zv]
  simp (disch := omega) only [Yh, Zg, Zq, Zs, Zr, Yq, Yy, Yw, Zc, Zj, Zx, Yu, Zu, Nat.zero_add, decide_true, Bool.and_true, Bool.true_and, cond_true, cond_false]
  exact this
theorem w0k : ∀ (k i : Nat) (s : Sw R6 R4), k = (D6.cuts (a ++ b)).length - 1 - i → i ≤ (D6.cuts (a ++ b)).length → s.out.length ≤ i * 1000 → s.last.length ≤ 1000 → s.first ≤ s.out.length →
  ∃ n, Ya (Yh q a b) n (.to (.h2 ((i + 1 : Nat) : Int) s.out s.last (s.first : Int) s.fin ((D6.cuts (a ++ b)).length) (Wc (Xd (D6.ends (a ++ b)))))) = .ret (y3f (eJ (y2o (slA q a b) (D6.cuts (a ++ b)) k i) (D6.goS (slS q a b) (D6.cuts (a ++ b)) k i s).out.length) (D6.goS (slS q a b) (D6.cuts (a ++ b)) k i s).out)
 | 0, i, s, h, hi, ho, hla, hf => by
  have _u := ha; have _v := hb
  have hc := D6.cuts_length (a ++ b)
  refine ⟨1, ?_⟩
  rw [Zv, show D6.goS (slS q a b) (D6.cuts (a ++ b)) 0 i s = s from rfl, show y2o (slA q a b) (D6.cuts (a ++ b)) 0 i = 0 from rfl, x4o]
  unfold Qo
  by_cases g : (s.out.length : Int) > 400
  ·simp (disch := omega) only [Yh, Yx, Yf, cond_true, cond_false, Zp]
  ·simp (disch := omega) only [Yh, Yx, Xy, cond_true, cond_false, Zp]
 | k + 1, i, s, h, hi, ho, hla, hf => by
  have hc := D6.cuts_length (a ++ b)
  rw [List.length_append] at hc
  have hi1 : i + 1 < (D6.cuts (a ++ b)).length := by omega
  have hpl : (Wc (Xd (D6.ends (a ++ b)))).length = 2 * (a.length + b.length) := by rw [Kr, Jm, D6.ends_length, List.length_append]
  have r0 : rd (Wc (Xd (D6.ends (a ++ b)))) i = rd (D6.cuts (a ++ b)) i := z7i _ _ (by show i < (D6.cuts (a ++ b)).length; omega)
  have r1 : rd (Wc (Xd (D6.ends (a ++ b)))) (i + 1) = rd (D6.cuts (a ++ b)) (i + 1) := z7i _ _ (by show i + 1 < (D6.cuts (a ++ b)).length; omega)
  have hbig : i * 1000 ≤ 2000 * 1000 := Nat.mul_le_mul_right _ (by omega)
  have hgo : D6.goS (slS q a b) (D6.cuts (a ++ b)) (k + 1) i s = D6.goS (slS q a b) (D6.cuts (a ++ b)) k (i + 1) (D6.oneS (slS q a b (rd (D6.cuts (a ++ b)) i)) (rd (D6.cuts (a ++ b)) i) (rd (D6.cuts (a ++ b)) (i + 1)) s) := rfl
  have hfe : ∀ x, x = rd (D6.cuts (a ++ b)) i → (slA q a b x != 0) = false → y2o (slA q a b) (D6.cuts (a ++ b)) (k + 1) i = y2o (slA q a b) (D6.cuts (a ++ b)) k (i + 1) := fun x hx z => by
   show (bif slA q a b (rd (D6.cuts (a ++ b)) i) != 0 then _ else _) = _
   rw [← hx, z]; rfl
  revert hgo hfe r0
  generalize hx : rd (D6.cuts (a ++ b)) i = x
  generalize hx' : rd (D6.cuts (a ++ b)) (i + 1) = x' at r1
  intro r0 hgo hfe
  obtain ⟨n3, h3⟩ := v0p q a b ha hb (i + 1) s.out s.last (s.first : Int) s.fin x x' a.length 0 [] (Nat.zero_add _) (Nat.le_refl _)
  simp only [List.drop_zero, List.nil_append, z2n] at h3
  obtain ⟨n4, h4⟩ := v0o q a b ha hb (i + 1) s.out s.last (s.first : Int) s.fin x x' (D6.inn a x) b.length 0 [] (Nat.zero_add _) (Nat.le_refl _)
  simp only [List.drop_zero, List.nil_append, z2n] at h4
  have st0 : ∀ N, Ya (Yh q a b) (N + n4 + n3 + 1) (.to (.h2 ((i + 1 : Nat) : Int) s.out s.last (s.first : Int) s.fin ((D6.cuts (a ++ b)).length) (Wc (Xd (D6.ends (a ++ b)))))) = Ya (Yh q a b) N (.to (.h4 ((i + 1 : Nat) : Int) (b.length : Int) s.out s.last (s.first : Int) s.fin ((D6.cuts (a ++ b)).length) (Wc (Xd (D6.ends (a ++ b)))) x x' (D6.inn a x) (D6.inn b x))) := fun N => by
   rw [← h4 N, ← h3 (N + n4), Zv]
   have e1 : IntKind.wrap .i64 (((i + 1 : Nat) : Int) - 1) = (i : Int) := by rw [Zo]; exact Zj (by omega)
   simp (disch := omega) only [Yh, e1, r0, r1, Zg, Zq, Zs, Zr, Yq, Yy, Yw, Zc, Zj, Zx, Yu, Zu, Nat.zero_add, decide_true, Bool.and_true, Bool.true_and, cond_true, cond_false]
  have w1 : Js (D6.inn a x) = true := rfl
  have w3 : Js (D6.inn b x) = true := rfl
  have w4 : z9b q (Zb (D6.inn a x)) (Zb (D6.inn b x)) = true := rfl
  rcases Yc (slA q a b x != 0) with z | z
  ·refine ⟨1 + n4 + n3 + 1, ?_⟩
   rw [st0 1, Zv]
   have e : y2o (slA q a b) (D6.cuts (a ++ b)) (k + 1) i = slA q a b x := by show (bif slA q a b (rd (D6.cuts (a ++ b)) i) != 0 then slA q a b (rd (D6.cuts (a ++ b)) i) else _) = _; rw [hx, z]; rfl
   rw [e, show eJ (slA q a b x) _ = slA q a b x by unfold eJ; rw [z]; rfl, Qd _ z]
   unfold slA at z ⊢
   rcases Yc (Xh (D6.inn a x) != 0) with y1 | y1
   ·simp (disch := omega) only [Yh, Yx, z6g, y1, Bool.not_true, w1, w3, w4, Zg, Zq, Zs, Zr, Yq, Yy, Yw, Zc, Zj, Zx, Yu, Zu, Nat.zero_add, decide_true, Bool.and_true, Bool.true_and, cond_true, cond_false, Zp]
   ·rcases Yc (Xh (D6.inn b x) != 0) with y2 | y2
    ·simp (disch := omega) only [Yh, Yx, z6g, y1, y2, Bool.not_true, Bool.not_false, w1, w3, w4, Zg, Zq, Zs, Zr, Yq, Yy, Yw, Zc, Zj, Zx, Yu, Zu, Nat.zero_add, decide_true, Bool.and_true, Bool.true_and, cond_true, cond_false, Zp]
    ·rw [y1, y2, cond_false, cond_false] at z
     have z' : (x7i q (Zb (D6.inn a x)) (Zb (D6.inn b x)) != 0) = true := z
     simp (disch := omega) only [Yh, Yx, z6g, y1, y2, z', Bool.not_false, w1, w3, w4, Zg, Zq, Zs, Zr, Yq, Yy, Yw, Zc, Zj, Zx, Yu, Zu, Nat.zero_add, decide_true, Bool.and_true, Bool.true_and, cond_true, cond_false, Zp]
     rfl
  obtain ⟨y1, y2, y3⟩ := y4o (show slA q a b x = 0 by simpa using z)
  have y1 : (Xh (D6.inn a x) == 0) = true := by rw [y1]; rfl
  have y2 : (Xh (D6.inn b x) == 0) = true := by rw [y2]; rfl
  have z' : (x7i q (Zb (D6.inn a x)) (Zb (D6.inn b x)) != 0) = false := by show (rgE q _ _ != 0) = false; rw [y3]; rfl
  have v : z2c q (Zb (D6.inn a x)) (Zb (D6.inn b x)) = slS q a b x := z5m _ z'
  have hsl := v4e q a b x z
  have w2 : Ww s.last (slS q a b x) = true := decide_eq_true (by omega)
  rw [hgo, hfe x rfl z]
  have ol : (D6.oneS (slS q a b x) x x' s).out.length ≤ s.out.length + (slS q a b x).length := by
   unfold Dim.oneS
   cases decide (0 < (slS q a b x).length) && ((s.fin == x) && D6.same s.last (slS q a b x))
   ·simp
   ·simp [Dim.grow_length]
  rcases Yc (decide (0 < (slS q a b x).length) && ((s.fin == x) && D6.same s.last (slS q a b x))) with g | g
  ·obtain ⟨n6, h6⟩ := v0m q a b ha hb (i + 1) (by omega) x x' s.fin (slS q a b x) s.last (s.first : Int) (D6.inn a x) (D6.inn b x) (s.out.length - s.first) s.first s.out (by omega) (by omega)
   have e : D6.oneS (slS q a b x) x x' s = ⟨D6.grow s.out s.first x', s.last, s.first, x'⟩ := by unfold Dim.oneS; rw [g]; rfl
   obtain ⟨n0, h0⟩ := w0k k (i + 1) (D6.oneS (slS q a b x) x x' s) (by omega) (by omega) (by omega) (by rw [e]; exact hla) (by rw [e]; simpa [Dim.grow_length] using hf)
   refine ⟨n0 + n6 + 1 + n4 + n3 + 1, ?_⟩
   rw [st0 (n0 + n6 + 1), Zv]
   simp only [Bool.and_eq_true, decide_eq_true_eq] at g
   obtain ⟨g1, g2, g3⟩ := g
   have g3' : Vs s.last (slS q a b x) = true := g3
   simp (disch := omega) only [Yh, Yx, Yf, y1, y2, z', v, g2, g3', w1, w3, w4, w2, Zg, Zq, Zs, Zr, Yq, Yy, Yw, Zc, Zj, Zx, Yu, Zu, Nat.zero_add, decide_true, Bool.and_true, Bool.true_and, cond_true, cond_false]
   rw [h6 n0]
   rw [e] at h0 ⊢
   exact h0
  ·obtain ⟨n5, h5⟩ := v0n q a b ha hb (i + 1) (by omega) x x' (slS q a b x) (s.out.length : Int) (D6.inn a x) (D6.inn b x) hsl (slS q a b x).length 0 s.out (Nat.zero_add _) (by omega)
   simp only [List.drop_zero, z2n] at h5
   have e : D6.oneS (slS q a b x) x x' s = ⟨s.out ++ (slS q a b x).map (D6.put x x'), slS q a b x, s.out.length, x'⟩ := by unfold Dim.oneS; rw [g]; rfl
   obtain ⟨n0, h0⟩ := w0k k (i + 1) (D6.oneS (slS q a b x) x x' s) (by omega) (by omega) (by omega) (by rw [e]; exact hsl) (by rw [e]; simp)
   have hg : Ya (Yh q a b) 1 (.to (.h4 ((i + 1 : Nat) : Int) (b.length : Int) s.out s.last (s.first : Int) s.fin ((D6.cuts (a ++ b)).length) (Wc (Xd (D6.ends (a ++ b)))) x x' (D6.inn a x) (D6.inn b x))) = .to (.h5 x x' (slS q a b x) ((slS q a b x).length : Int) 0 ((i + 1 : Nat) : Int) s.out (s.out.length : Int) ((D6.cuts (a ++ b)).length) (Wc (Xd (D6.ends (a ++ b)))) (D6.inn a x) (D6.inn b x)) := by
    rw [show (1 : Nat) = 0 + 1 from rfl, Zv]
    have e3 : D6.same s.last (slS q a b x) = Vs s.last (slS q a b x) := rfl
    rw [e3] at g
    by_cases g1 : 0 < (slS q a b x).length
    ·rw [decide_eq_true g1, Bool.true_and] at g
     rcases Yc (s.fin == x) with g2 | g2
     ·rw [g2, Bool.true_and] at g
      simp (disch := omega) only [Yh, Yx, Yf, y1, y2, z', v, g2, g, w1, w3, w4, w2, Zg, Zq, Zs, Zr, Yq, Yy, Yw, Zc, Zj, Zx, Yu, Zu, Nat.zero_add, decide_true, Bool.and_true, Bool.true_and, cond_true, cond_false]
      rfl
     ·simp (disch := omega) only [Yh, Yx, Yf, y1, y2, z', v, g2, w1, w3, w4, w2, Zg, Zq, Zs, Zr, Yq, Yy, Yw, Zc, Zj, Zx, Yu, Zu, Nat.zero_add, decide_true, Bool.and_true, Bool.true_and, cond_true, cond_false]
      rfl
    ·simp (disch := omega) only [Yh, Yx, Xy, y1, y2, z', v, w1, w3, w4, w2, Zg, Zq, Zs, Zr, Yq, Yy, Yw, Zc, Zj, Zx, Yu, Zu, Nat.zero_add, decide_true, Bool.and_true, Bool.true_and, cond_true, cond_false]
     rfl
   refine ⟨n0 + n5 + 1 + n4 + n3 + 1, ?_⟩
   rw [st0 (n0 + n5 + 1), z5k _ (n0 + n5) 1, hg, h5 n0]
   rw [e] at h0 ⊢
   exact h0
theorem v0q : ∀ (k i : Nat) (acc : List Int), i + k = b.length → acc = D6.ends (a ++ b.take i) → ∃ n, Ya (Yh q a b) n (.to (.h1 (i : Int) acc)) = .ret (y3f (eJ (y2o (slA q a b) (D6.cuts (a ++ b)) ((D6.cuts (a ++ b)).length - 1) 0) (D6.goS (slS q a b) (D6.cuts (a ++ b)) ((D6.cuts (a ++ b)).length - 1) 0 ⟨[], [], 0, 0⟩).out.length) (D6.goS (slS q a b) (D6.cuts (a ++ b)) ((D6.cuts (a ++ b)).length - 1) 0 ⟨[], [], 0, 0⟩).out)
 | 0, i, acc, h, h' => by
  have _u := ha; have _v := hb
  have e : acc = D6.ends (a ++ b) := by rw [h', List.take_of_length_le (by omega)]
  subst e
  have hle := D6.ends_length (a ++ b)
  rw [List.length_append] at hle
  obtain ⟨n, hn⟩ := w0k q a b ha hb ((D6.cuts (a ++ b)).length - 1) 0 ⟨[], [], 0, 0⟩ (by omega) (Nat.zero_le _) (Nat.zero_le _) (Nat.zero_le _) (Nat.zero_le _)
  refine ⟨n + 1, ?_⟩
  rw [Zv]
  simp (disch := omega) only [Yh, Qz, z3a, y5w, Yx, Yy, Yw, decide_true, cond_true, cond_false]
  exact hn
 | k + 1, i, acc, h, h' => by
  have hle : acc.length ≤ 2 * (400 + i) := by rw [h', D6.ends_length]; simp only [List.length_append, List.length_take]; omega
  obtain ⟨n, hn⟩ := v0q k (i + 1) (acc ++ D6.ends [rd b i]) (by omega) (by
   rw [h', List.take_add_one]
   have : b[i]? = some (rd b i) := by rw [Xj (show i < b.length by omega)]; exact List.getElem?_eq_getElem _
   rw [this]; simp [Dim.ends])
  refine ⟨n + 1, ?_⟩
  rw [Zv]
  simp (disch := omega) only [Yh, Zg, Zq, Zs, Zr, Yq, Yy, Yw, Zc, Zj, Zx, Yu, Zu, Nat.zero_add, decide_true, Bool.and_true, Bool.true_and, cond_true, cond_false]
  exact hn
theorem v0r : ∀ (k i : Nat) (acc : List Int), i + k = a.length → acc = D6.ends (a.take i) → ∃ n, Ya (Yh q a b) n (.to (.h0 (i : Int) acc)) = .ret (y3f (eJ (y2o (slA q a b) (D6.cuts (a ++ b)) ((D6.cuts (a ++ b)).length - 1) 0) (D6.goS (slS q a b) (D6.cuts (a ++ b)) ((D6.cuts (a ++ b)).length - 1) 0 ⟨[], [], 0, 0⟩).out.length) (D6.goS (slS q a b) (D6.cuts (a ++ b)) ((D6.cuts (a ++ b)).length - 1) 0 ⟨[], [], 0, 0⟩).out)
 | 0, i, acc, h, h' => by
  have _u := ha; have _v := hb
  obtain ⟨n, hn⟩ := v0q q a b ha hb b.length 0 acc (Nat.zero_add _) (by rw [h', List.take_of_length_le (by omega), List.take_zero, List.append_nil])
  refine ⟨n + 1, ?_⟩
  rw [Zv]
  simp (disch := omega) only [Yh, Yx, cond_false]
  exact hn
 | k + 1, i, acc, h, h' => by
  have hle : acc.length ≤ 2 * (400 + i) := by rw [h', D6.ends_length]; simp only [List.length_append, List.length_take]; omega
  obtain ⟨n, hn⟩ := v0r k (i + 1) (acc ++ D6.ends [rd a i]) (by omega) (by
   rw [h', List.take_add_one]
   have : a[i]? = some (rd a i) := by rw [Xj (show i < a.length by omega)]; exact List.getElem?_eq_getElem _
   rw [this]; simp [Dim.ends])
  refine ⟨n + 1, ?_⟩
  rw [Zv]
  simp (disch := omega) only [Yh, Zg, Zq, Zs, Zr, Yq, Yy, Yw, Zc, Zj, Zx, Yu, Zu, Nat.zero_add, decide_true, Bool.and_true, Bool.true_and, cond_true, cond_false]
  exact hn
end
def slJ (q : Op) (a b : List R6) : List R6 := (D6.goS (slS q a b) (D6.cuts (a ++ b)) ((D6.cuts (a ++ b)).length - 1) 0 ⟨[], [], 0, 0⟩).out
def slE (q : Op) (a b : List R6) : Int := bif Zi a != 0 then Zi a else bif Zi b != 0 then Zi b else eJ (y2o (slA q a b) (D6.cuts (a ++ b)) ((D6.cuts (a ++ b)).length - 1) 0) (slJ q a b).length
def Qt (q : Op) (a b : List R6) : List R6 := w3u (slE q a b) (slJ q a b)
def x0a (q : Op) (a b : List R6) : Int := slE q a b
def z4n (q : Op) (a b : List R6) : Bool := true
theorem z6e {l : List R6} (h : (Zi l != 0) = false) : l.length ≤ 400 := by
 refine Classical.byContradiction fun g => ?_
 have h : Zi l = 0 := by simpa using h
 unfold Zi at h
 rw [decide_eq_true (by omega)] at h
 cases h
theorem sl_run (q : Op) (a b : List R6) (h : z4n q a b = true) : ∃ n, Ya (Yh q a b) n (z8q q a b) = .ret (y3f (slE q a b) (slJ q a b)) := by
 unfold z8q
 have o : ∀ l, Xp l = true := fun _ => rfl
 simp only [Zg, o, cond_true]
 rcases Yc (Zi a != 0) with q1 | q1
 ·exact ⟨0, by simp only [slE, q1, cond_true, Qd _ q1]; rfl⟩
 rcases Yc (Zi b != 0) with q2 | q2
 ·exact ⟨0, by simp only [slE, q1, q2, cond_true, cond_false, Qd _ q2]; rfl⟩
 obtain ⟨n, hn⟩ := v0r q a b (z6e q1) (z6e q2) a.length 0 [] (Nat.zero_add _) rfl
 refine ⟨n, ?_⟩
 simp only [slE, q1, q2, cond_false]
 exact hn
def fSl (q : Op) : List AVal → Option (AVal × Bool)
 | [a0, a1] => match asL R6 a0, asL R6 a1 with
  | some (L0, g0, n0), some (L1, g1, n1) => some (.tup [.dat (Qt q L0 L1).length (Zz (Qt q L0 L1)), .int .i64 (x0a q L0 L1)], isT R6 n0 g0 && (isT R6 n1 g1 && (z4n q L0 L1)))
  | _, _ => none
 | _ => none
theorem w3n (q : Op) {S : Specs} (hS : Zk Tryz.prog S) : Zk Tryz.prog (S.with (nSl q) (fSl q)) := by
 refine v6v hS (by cases q <;> kernel_rfl) fun args v h => ?_
 unfold fSl at h
 split at h
 ·rename_i a0 a1
  split at h
  ·rename_i L0 g0 n0 L1 g1 n1 e0 e1
   simp only [Option.some.injEq, Prod.mk.injEq, Bool.and_eq_true] at h
   obtain ⟨rfl, ho0, ho1, hw⟩ := h
   obtain ⟨N, hN⟩ := sl_run q L0 L1 hw
   exact ⟨_, _, (.cons (asL_le e0 ho0) (.cons (asL_le e1 ho1) .nil)), z9c _ _, w5v q L0 L1 N _ hN, 3, y4z _ _⟩
  ·cases h
 ·cases h
end Go.Am
namespace Go.Am
open Go.Proofs
inductive ocoS where
def ocoC (l0 : List R6) (l1 : List R6) : ocoS → Cfg
 := nofun
def x1r (l0 : List R6) (l1 : List R6) : ocoS → Xo ocoS
 := nofun
def z9i (l0 : List R6) (l1 : List R6) : Xo ocoS := (bif (Xp (cvT l0)) then (bif ((Zi (cvT l0)) != 0) then (.ret [(.int .i64 0), (.int .i64 (Zi (cvT l0)))]) else (bif (Xp (cvT l1)) then (bif ((Zi (cvT l1)) != 0) then (.ret [(.int .i64 0), (.int .i64 (Zi (cvT l1)))]) else (bif (Wk (cvT l0)) then (bif (Wk (cvT l1)) then (bif (z0n (cvT (Ys (cvT l0))) (cvT (Ys (cvT l1)))) then (.ret [(.int .i64 (x2z (cvT (Ys (cvT l0))) (cvT (Ys (cvT l1))))), (.int .i64 0)]) else .stuck) else .stuck) else .stuck)) else .stuck)) else .stuck)
theorem x7s (l0 : List R6) (l1 : List R6) : ∀ s, Xn Tryz.prog (Zy Tryz.prog 35) (ocoC l0 l1) (ocoC l0 l1 s) (x1r l0 l1 s)
 := nofun
theorem x1s (l0 : List R6) (l1 : List R6) : Xn Tryz.prog (Zy Tryz.prog 35) (ocoC l0 l1) (Zf Tryz.prog 35 [(.dat l0.length (Zz l0)), (.dat l1.length (Zz l1))] true []) (z9i l0 l1) := (lo fun o0_0 => (lb (fun k0 => (lr 19 35 [1, 0, 1, 1, 0, 0] 1 28 [(4, (ii 0)), (5, (ii (Zi (cvT l0))))] (sl z1m 72 [] ⟨[], [], [some [4, 5]], []⟩ ⟨[], [], []⟩ (trs 3 []) (tt k0 (tt k0 (pp (pp (xr l0) (xw o0_0)) nn)))))) (fun k0 => (lo fun o1_0 => (lb (fun k1 => (lr 19 35 [1, 0, 1, 1, 0, 0] 1 28 [(4, (ii 0)), (5, (ii (Zi (cvT l1))))] (sl z1m 106 [] ⟨[], [], [some [4, 5]], []⟩ ⟨[], [], []⟩ [true, false, true, true, true] (tt k1 (tt k1 (pp (pp (xr l1) (xw o1_0)) (tt k0 (pp (pp (xr l0) (xw o0_0)) nn)))))))) (fun k1 => (lo fun o0 => (lo fun o1 => (lo fun o2 => (lr 19 3 [1, 1, 1, 1, 1, 1, 1, 0] 1 28 [(4, (ii (x2z (cvT (Ys (cvT l0))) (cvT (Ys (cvT l1)))))), (5, (ii 0))] (sl z1m 124 [] ⟨[], [], [some [4, 5]], []⟩ ⟨[], [], []⟩ [true, false, true, false, false, false] (pp (pp (xI R6 (Ys (cvT l0)).length (Zz (Ys (cvT l0)))) (pp (xI R6 (Ys (cvT l1)).length (Zz (Ys (cvT l1)))) (xw o2))) (pp (pp (xr l1) (xw o1)) (pp (pp (xr l0) (xw o0)) (tt k1 (pp (pp (xr l1) (xw o1_0)) (tt k0 (pp (pp (xr l0) (xw o0_0)) nn))))))))))))))))))
theorem w7y (l0 : List R6) (l1 : List R6) (n : Nat) (vs : List AVal) (h : Ya (x1r l0 l1) n (z9i l0 l1) = .ret vs) : Je Tryz.prog (Zy Tryz.prog 35) (Zf Tryz.prog 35 [(.dat l0.length (Zz l0)), (.dat l1.length (Zz l1))] true []) vs := by
 have := Zn (x7s l0 l1) n _ (x1s l0 l1)
 rwa [h] at this
inductive oreS where
def oreC (l0 : List R6) (l1 : List R6) : oreS → Cfg
 := nofun
def x1l (l0 : List R6) (l1 : List R6) : oreS → Xo oreS
 := nofun
def z9g (l0 : List R6) (l1 : List R6) : Xo oreS := (bif (Xp (cvT l0)) then (bif ((Zi (cvT l0)) != 0) then (.ret [(.int .u8 0), (.int .i64 (Zi (cvT l0)))]) else (bif (Xp (cvT l1)) then (bif ((Zi (cvT l1)) != 0) then (.ret [(.int .u8 0), (.int .i64 (Zi (cvT l1)))]) else (bif (z5e (cvT l0) (cvT l1)) then (.ret [(.int .u8 (orlV (cvT l0) (cvT l1))), (.int .i64 0)]) else .stuck)) else .stuck)) else .stuck)
theorem x7q (l0 : List R6) (l1 : List R6) : ∀ s, Xn Tryz.prog (Zy Tryz.prog 30) (oreC l0 l1) (oreC l0 l1 s) (x1l l0 l1 s)
 := nofun
theorem x1m (l0 : List R6) (l1 : List R6) : Xn Tryz.prog (Zy Tryz.prog 30) (oreC l0 l1) (Zf Tryz.prog 30 [(.dat l0.length (Zz l0)), (.dat l1.length (Zz l1))] true []) (z9g l0 l1) := (lo fun o0_0 => (lb (fun k0 => (lr 17 30 [1, 0, 1, 1, 0, 0] 1 28 [(4, (.int .u8 0)), (5, (ii (Zi (cvT l0))))] (sl z1m 72 [] ⟨[], [], [some [4, 5]], []⟩ ⟨[], [], []⟩ (trs 3 []) (tt k0 (tt k0 (pp (pp (xr l0) (xw o0_0)) nn)))))) (fun k0 => (lo fun o1_0 => (lb (fun k1 => (lr 17 30 [1, 0, 1, 1, 0, 0] 1 28 [(4, (.int .u8 0)), (5, (ii (Zi (cvT l1))))] (sl z1m 106 [] ⟨[], [], [some [4, 5]], []⟩ ⟨[], [], []⟩ [true, false, true, true, true] (tt k1 (tt k1 (pp (pp (xr l1) (xw o1_0)) (tt k0 (pp (pp (xr l0) (xw o0_0)) nn)))))))) (fun k1 => (lo fun o0 => (lr 17 3 [1, 1, 1, 1, 1, 1, 1, 0] 1 28 [(4, (.int .u8 (orlV (cvT l0) (cvT l1)))), (5, (ii 0))] (sl z1m 122 [] ⟨[], [], [some [4, 5]], []⟩ ⟨[], [], []⟩ [true, false, true, false, false, false] (pp (pp (xr l0) (pp (xr l1) (xw o0))) (tt k1 (pp (pp (xr l1) (xw o1_0)) (tt k0 (pp (pp (xr l0) (xw o0_0)) nn))))))))))))))
theorem w7w (l0 : List R6) (l1 : List R6) (n : Nat) (vs : List AVal) (h : Ya (x1l l0 l1) n (z9g l0 l1) = .ret vs) : Je Tryz.prog (Zy Tryz.prog 30) (Zf Tryz.prog 30 [(.dat l0.length (Zz l0)), (.dat l1.length (Zz l1))] true []) vs := by
 have := Zn (x7q l0 l1) n _ (x1m l0 l1)
 rwa [h] at this
inductive osiS where
def osiC (l0 : List R6) (x1 : Int) : osiS → Cfg
 := nofun
def x1h (l0 : List R6) (x1 : Int) : osiS → Xo osiS
 := nofun
def z9e (l0 : List R6) (x1 : Int) : Xo osiS := (bif (Xp (cvT l0)) then (bif ((Zi (cvT l0)) != 0) then (.ret [(.int .i64 0), (.int .i64 (Zi (cvT l0)))]) else (bif (decide (x1 < 0)) then (.ret [(.int .i64 0), (.int .i64 2)]) else (bif (decide (x1 > 5)) then (.ret [(.int .i64 0), (.int .i64 2)]) else (bif (Wk (cvT l0)) then (bif (Vz (cvT (Ys (cvT l0)))) then (bif (Yn (cvT (Ys (cvT l0))) (cvT (Ys (cvT l0))) x1) then (.ret [(.int .i64 (IntKind.wrap .i64 ((z7f (cvT (Ys (cvT l0)))) - (prV (cvT (Ys (cvT l0))) (cvT (Ys (cvT l0))) x1)))), (.int .i64 0)]) else .stuck) else .stuck) else .stuck)))) else .stuck)
theorem x7o (l0 : List R6) (x1 : Int) : ∀ s, Xn Tryz.prog (Zy Tryz.prog 31) (osiC l0 x1) (osiC l0 x1 s) (x1h l0 x1 s)
 := nofun
theorem x1i (l0 : List R6) (x1 : Int) : Xn Tryz.prog (Zy Tryz.prog 31) (osiC l0 x1) (Zf Tryz.prog 31 [(.dat l0.length (Zz l0)), (.int .i64 x1)] true []) (z9e l0 x1) := (lo fun o0_0 => (lb (fun k0 => (lr 29 31 [1, 0, 1, 1, 0, 0] 1 28 [(4, (ii 0)), (5, (ii (Zi (cvT l0))))] (sl z1m 71 [] ⟨[], [], [some [4, 5]], []⟩ ⟨[], [], []⟩ (trs 3 []) (tt k0 (tt k0 (pp (pp (xr l0) (xw o0_0)) nn)))))) (fun k0 => (lb (fun k1 => (lr 29 31 [1, 1, 0, 1, 0, 0] 1 28 [(4, (ii 0)), (5, (ii 2))] (sl z1m 95 [] ⟨[], [], [some [4, 5]], []⟩ ⟨[], [], []⟩ [true, false, false, false, true, true, true] (tt k1 (tt k0 (pp (pp (xr l0) (xw o0_0)) nn)))))) (fun k1 => (lb (fun k2 => (lr 29 31 [1, 1, 0, 1, 0, 0] 1 28 [(4, (ii 0)), (5, (ii 2))] (sl z1m 95 [] ⟨[], [], [some [4, 5]], []⟩ ⟨[], [], []⟩ [true, false, false, false, false, false, true] (tt k2 (tt k1 (tt k0 (pp (pp (xr l0) (xw o0_0)) nn))))))) (fun k2 => (lo fun o0 => (lo fun o1 => (lo fun o2 => (lr 29 3 [1, 1, 1, 1, 1, 1, 1, 0] 1 28 [(4, (ii (wr ((z7f (cvT (Ys (cvT l0)))) - (prV (cvT (Ys (cvT l0))) (cvT (Ys (cvT l0))) x1))))), (5, (ii 0))] (sl z1m 109 [] ⟨[], [], [some [4, 5]], []⟩ ⟨[], [], []⟩ [true, false, false, false, false, false, false] (pp (pp (xI R6 (Ys (cvT l0)).length (Zz (Ys (cvT l0)))) (pp (xI R6 (Ys (cvT l0)).length (Zz (Ys (cvT l0)))) (xw o2))) (pp (pp (xI R6 (Ys (cvT l0)).length (Zz (Ys (cvT l0)))) (xw o1)) (pp (pp (xr l0) (xw o0)) (tt k2 (tt k1 (tt k0 (pp (pp (xr l0) (xw o0_0)) nn)))))))))))))))))))
theorem w7u (l0 : List R6) (x1 : Int) (n : Nat) (vs : List AVal) (h : Ya (x1h l0 x1) n (z9e l0 x1) = .ret vs) : Je Tryz.prog (Zy Tryz.prog 31) (Zf Tryz.prog 31 [(.dat l0.length (Zz l0)), (.int .i64 x1)] true []) vs := by
 have := Zn (x7o l0 x1) n _ (x1i l0 x1)
 rwa [h] at this
inductive ocvS where
def ocvC (l0 : List R6) (l1 : List R6) (x2 : Int) : ocvS → Cfg
 := nofun
def x1p (l0 : List R6) (l1 : List R6) (x2 : Int) : ocvS → Xo ocvS
 := nofun
def z9h (l0 : List R6) (l1 : List R6) (x2 : Int) : Xo ocvS := (bif (Xp (cvT l0)) then (bif ((Zi (cvT l0)) != 0) then (.ret [(.int .i64 0), (.int .i64 (Zi (cvT l0)))]) else (bif (Xp (cvT l1)) then (bif ((Zi (cvT l1)) != 0) then (.ret [(.int .i64 0), (.int .i64 (Zi (cvT l1)))]) else (bif (decide (x2 < 0)) then (.ret [(.int .i64 0), (.int .i64 2)]) else (bif (decide (x2 > 5)) then (.ret [(.int .i64 0), (.int .i64 2)]) else (bif (Wk (cvT l0)) then (bif (Wk (cvT l1)) then (bif (Yn (cvT (Ys (cvT l0))) (cvT (Ys (cvT l1))) x2) then (bif (Uz (cvT (Ys (cvT l0))) (cvT (Ys (cvT l1)))) then (bif (Yn (cvT (Ys (cvT l0))) (cvT (Ye (cvT (Ys (cvT l0))) (cvT (Ys (cvT l1))))) x2) then (.ret [(.int .i64 (IntKind.wrap .i64 ((prV (cvT (Ys (cvT l0))) (cvT (Ys (cvT l1))) x2) - (prV (cvT (Ys (cvT l0))) (cvT (Ye (cvT (Ys (cvT l0))) (cvT (Ys (cvT l1))))) x2)))), (.int .i64 0)]) else .stuck) else .stuck) else .stuck) else .stuck) else .stuck)))) else .stuck)) else .stuck)
theorem x7r (l0 : List R6) (l1 : List R6) (x2 : Int) : ∀ s, Xn Tryz.prog (Zy Tryz.prog 32) (ocvC l0 l1 x2) (ocvC l0 l1 x2 s) (x1p l0 l1 x2 s)
 := nofun
theorem x1q (l0 : List R6) (l1 : List R6) (x2 : Int) : Xn Tryz.prog (Zy Tryz.prog 32) (ocvC l0 l1 x2) (Zf Tryz.prog 32 [(.dat l0.length (Zz l0)), (.dat l1.length (Zz l1)), (.int .i64 x2)] true []) (z9h l0 l1 x2) := (lo fun o0_0 => (lb (fun k0 => (lr 39 32 [1, 0, 1, 1, 0, 0] 1 32 [(6, (ii 0)), (7, (ii (Zi (cvT l0))))] (sl z1m 72 [] ⟨[], [], [some [6, 7]], []⟩ ⟨[], [], []⟩ (trs 3 []) (tt k0 (tt k0 (pp (pp (xr l0) (xw o0_0)) nn)))))) (fun k0 => (lo fun o1_0 => (lb (fun k1 => (lr 39 32 [1, 0, 1, 1, 0, 0] 1 32 [(6, (ii 0)), (7, (ii (Zi (cvT l1))))] (sl z1m 106 [] ⟨[], [], [some [6, 7]], []⟩ ⟨[], [], []⟩ [true, false, true, true, true] (tt k1 (tt k1 (pp (pp (xr l1) (xw o1_0)) (tt k0 (pp (pp (xr l0) (xw o0_0)) nn)))))))) (fun k1 => (lb (fun k2 => (lr 39 32 [1, 1, 0, 1, 0, 0] 1 32 [(6, (ii 0)), (7, (ii 2))] (sl z1m 130 [] ⟨[], [], [some [6, 7]], []⟩ ⟨[], [], []⟩ [true, false, true, false, false, false, true, true, true] (tt k2 (tt k1 (pp (pp (xr l1) (xw o1_0)) (tt k0 (pp (pp (xr l0) (xw o0_0)) nn)))))))) (fun k2 => (lb (fun k3 => (lr 39 32 [1, 1, 0, 1, 0, 0] 1 32 [(6, (ii 0)), (7, (ii 2))] (sl z1m 130 [] ⟨[], [], [some [6, 7]], []⟩ ⟨[], [], []⟩ [true, false, true, false, false, false, false, false, true] (tt k3 (tt k2 (tt k1 (pp (pp (xr l1) (xw o1_0)) (tt k0 (pp (pp (xr l0) (xw o0_0)) nn))))))))) (fun k3 => (lo fun o0 => (lo fun o1 => (lo fun o2 => (lo fun o3 => (lo fun o4 => (lr 39 3 [1, 1, 1, 1, 1, 1, 1, 0] 1 32 [(6, (ii (wr ((prV (cvT (Ys (cvT l0))) (cvT (Ys (cvT l1))) x2) - (prV (cvT (Ys (cvT l0))) (cvT (Ye (cvT (Ys (cvT l0))) (cvT (Ys (cvT l1))))) x2))))), (7, (ii 0))] (sl z1m 151 [] ⟨[], [], [some [6, 7]], []⟩ ⟨[], [], []⟩ [true, false, true, false, false, false, false, false, false] (pp (pp (xI R6 (Ys (cvT l0)).length (Zz (Ys (cvT l0)))) (pp (xI R6 (Ye (cvT (Ys (cvT l0))) (cvT (Ys (cvT l1)))).length (Zz (Ye (cvT (Ys (cvT l0))) (cvT (Ys (cvT l1)))))) (xw o4))) (pp (pp (xI R6 (Ys (cvT l0)).length (Zz (Ys (cvT l0)))) (pp (xI R6 (Ys (cvT l1)).length (Zz (Ys (cvT l1)))) (xw o3))) (pp (pp (xI R6 (Ys (cvT l0)).length (Zz (Ys (cvT l0)))) (pp (xI R6 (Ys (cvT l1)).length (Zz (Ys (cvT l1)))) (xw o2))) (pp (pp (xr l1) (xw o1)) (pp (pp (xr l0) (xw o0)) (tt k3 (tt k2 (tt k1 (pp (pp (xr l1) (xw o1_0)) (tt k0 (pp (pp (xr l0) (xw o0_0)) nn))))))))))))))))))))))))))))
theorem w7x (l0 : List R6) (l1 : List R6) (x2 : Int) (n : Nat) (vs : List AVal) (h : Ya (x1p l0 l1 x2) n (z9h l0 l1 x2) = .ret vs) : Je Tryz.prog (Zy Tryz.prog 32) (Zf Tryz.prog 32 [(.dat l0.length (Zz l0)), (.dat l1.length (Zz l1)), (.int .i64 x2)] true []) vs := by
 have := Zn (x7r l0 l1 x2) n _ (x1q l0 l1 x2)
 rwa [h] at this
inductive grtS where
def grtC (l0 : List R6) : grtS → Cfg
 := nofun
def x2h (l0 : List R6) : grtS → Xo grtS
 := nofun
def z9q (l0 : List R6) : Xo grtS := (bif (decide ((l0.length : Int) > 8)) then (bif (decide ((l0.length : Int) ≤ 400)) then (.ret [(.bool true)]) else (.ret [(.bool (decide ((l0.length : Int) > 420)))])) else (.ret [(.bool (decide ((l0.length : Int) > 420)))]))
theorem x8f (l0 : List R6) : ∀ s, Xn Tryz.prog (Zy Tryz.prog 75) (grtC l0) (grtC l0 s) (x2h l0 s)
 := nofun
theorem x2i (l0 : List R6) : Xn Tryz.prog (Zy Tryz.prog 75) (grtC l0) (Zf Tryz.prog 75 [(.dat l0.length (Zz l0))] true []) (z9q l0) := (lb (fun k0 => (lb (fun k1 => (lr 16 3 [1, 1, 1, 1, 1, 1, 1, 0] 1 3 [(2, (.bool true))] (sl z1m 21 [] ⟨[], [], [some [2]], []⟩ ⟨[], [], []⟩ (trs 6 []) (tt k1 (tt k0 nn))))) (fun k1 => (lr 16 3 [1, 1, 1, 1, 1, 1, 1, 0] 1 3 [(2, (.bool (decide ((l0.length : Int) > 420))))] (sl z1m 21 [] ⟨[], [], [some [2]], []⟩ ⟨[], [], []⟩ (trs 3 [false, false, false]) (tt k1 (tt k0 nn))))))) (fun k0 => (lr 16 3 [1, 1, 1, 1, 1, 1, 1, 0] 1 3 [(2, (.bool (decide ((l0.length : Int) > 420))))] (sl z1m 21 [] ⟨[], [], [some [2]], []⟩ ⟨[], [], []⟩ [false, false, false, false, false, false] (tt k0 nn)))))
theorem w8u (l0 : List R6) (n : Nat) (vs : List AVal) (h : Ya (x2h l0) n (z9q l0) = .ret vs) : Je Tryz.prog (Zy Tryz.prog 75) (Zf Tryz.prog 75 [(.dat l0.length (Zz l0))] true []) vs := by
 have := Zn (x8f l0) n _ (x2i l0)
 rwa [h] at this
end Go.Am
namespace Go.Am
open Go.Proofs
def Jt (X Y : List R6) : Int := bif Zi X != 0 then 0 else bif Zi Y != 0 then 0 else x2z X Y
def Uh (X Y : List R6) : Int := bif Zi X != 0 then Zi X else bif Zi Y != 0 then Zi Y else 0
def Xi (X Y : List R6) : Bool := decide (X.length ≤ 100 ∨ 400 < X.length) && decide (Y.length ≤ 100 ∨ 400 < Y.length)
theorem w0p {X : List R6} (h : 400 < X.length) : (Zi X != 0) = true := by
 unfold Zi; rw [decide_eq_true h]; rfl
theorem Ki {X : List R6} (h : decide (X.length ≤ 100 ∨ 400 < X.length) = true) (h0 : (Zi X != 0) = false) : X.length ≤ 100 := by
 rcases of_decide_eq_true h with h | h
 ·exact h
 ·rw [w0p h] at h0; cases h0
theorem v6a (X Y : List R6) (h : Xi X Y = true) : ∃ N, Ya (x1r X Y) N (z9i X Y) = .ret [.int .i64 (Jt X Y), .int .i64 (Uh X Y)] := by
 unfold Xi at h
 simp only [Bool.and_eq_true] at h
 refine ⟨0, ?_⟩
 unfold z9i Jt Uh
 have o : ∀ l, Xp l = true := fun _ => rfl
 simp only [Zg, o, cond_true, Ys]
 rcases Yc (Zi X != 0) with q1 | q1
 ·simp only [q1, cond_true]; rfl
 ·rcases Yc (Zi Y != 0) with q2 | q2
  ·simp only [q1, q2, cond_true, cond_false]; rfl
  ·have s1 := Ki h.1 q1
   have s2 := Ki h.2 q2
   have b1 : Wk X = true := decide_eq_true (by omega)
   have b2 : Wk Y = true := decide_eq_true (by omega)
   have hk : z0n X Y = true := decide_eq_true (by omega)
   simp only [q1, q2, b1, b2, hk, cond_true, cond_false]; rfl
def z1r (X Y : List R6) : Int := bif Zi X != 0 then 0 else bif Zi Y != 0 then 0 else orlV X Y
def z1q (X Y : List R6) : Int := Uh X Y
def Jz (X Y : List R6) : Bool := Xi X Y
theorem v5v (X Y : List R6) (h : Jz X Y = true) : ∃ N, Ya (x1l X Y) N (z9g X Y) = .ret [.int .u8 (z1r X Y), .int .i64 (z1q X Y)] := by
 unfold Jz Xi at h
 simp only [Bool.and_eq_true] at h
 refine ⟨0, ?_⟩
 unfold z9g z1r z1q Uh
 have o : ∀ l, Xp l = true := fun _ => rfl
 simp only [Zg, o, cond_true]
 rcases Yc (Zi X != 0) with q1 | q1
 ·simp only [q1, cond_true]; rfl
 ·rcases Yc (Zi Y != 0) with q2 | q2
  ·simp only [q1, q2, cond_true, cond_false]; rfl
  ·have s1 := Ki h.1 q1
   have s2 := Ki h.2 q2
   have hk : z5e X Y = true := decide_eq_true (by omega)
   simp only [q1, q2, hk, cond_true, cond_false]; rfl
def Vw (X : List R6) (d : Int) : Int := bif Zi X != 0 then 0 else bif decide (d < 0) then 0 else bif decide (d > 5) then 0 else IntKind.wrap .i64 (z7f X - prV X X d)
def Vm (X : List R6) (d : Int) : Int := bif Zi X != 0 then Zi X else bif decide (d < 0) then 2 else bif decide (d > 5) then 2 else 0
def Xt (X : List R6) (d : Int) : Bool := decide (X.length ≤ 100 ∨ 400 < X.length)
theorem v5t (X : List R6) (d : Int) (h : Xt X d = true) : ∃ N, Ya (x1h X d) N (z9e X d) = .ret [.int .i64 (Vw X d), .int .i64 (Vm X d)] := by
 refine ⟨0, ?_⟩
 unfold z9e Vw Vm
 have o : ∀ l, Xp l = true := fun _ => rfl
 simp only [Zg, o, cond_true, Ys]
 rcases Yc (Zi X != 0) with q1 | q1
 ·simp only [q1, cond_true]; rfl
 ·have s1 := Ki h q1
  have b1 : Wk X = true := decide_eq_true (by omega)
  have v1 : Vz X = true := decide_eq_true (by omega)
  rcases Yc (decide (d < 0)) with q2 | q2
  ·simp only [q1, q2, cond_true, cond_false]; rfl
  ·rcases Yc (decide (d > 5)) with q3 | q3
   ·simp only [q1, q2, q3, cond_true, cond_false]; rfl
   ·have := of_decide_eq_false q2
    have := of_decide_eq_false q3
    have p1 : Yn X X d = true := decide_eq_true (by omega)
    simp only [q1, q2, q3, b1, v1, p1, cond_true, cond_false]; rfl
def z2f (X Y : List R6) (d : Int) : Int := bif Zi X != 0 then 0 else bif Zi Y != 0 then 0 else bif decide (d < 0) then 0 else bif decide (d > 5) then 0 else IntKind.wrap .i64 (prV X Y d - prV X (Ye X Y) d)
def z5f (X Y : List R6) (d : Int) : Int := bif Zi X != 0 then Zi X else bif Zi Y != 0 then Zi Y else bif decide (d < 0) then 2 else bif decide (d > 5) then 2 else 0
def Kt (X Y : List R6) (d : Int) : Bool := Xi X Y
theorem v5z (X Y : List R6) (d : Int) (h : Kt X Y d = true) : ∃ N, Ya (x1p X Y d) N (z9h X Y d) = .ret [.int .i64 (z2f X Y d), .int .i64 (z5f X Y d)] := by
 unfold Kt Xi at h
 simp only [Bool.and_eq_true] at h
 refine ⟨0, ?_⟩
 unfold z9h z2f z5f
 have o : ∀ l, Xp l = true := fun _ => rfl
 simp only [Zg, o, cond_true, Ys]
 rcases Yc (Zi X != 0) with q1 | q1
 ·simp only [q1, cond_true]; rfl
 ·rcases Yc (Zi Y != 0) with q4 | q4
  ·simp only [q1, q4, cond_true, cond_false]; rfl
  ·have s1 := Ki h.1 q1
   have s2 := Ki h.2 q4
   have hl := z3f X Y
   have hm : X.length * Y.length ≤ 100 * 100 := Nat.mul_le_mul s1 s2
   have b1 : Wk X = true := decide_eq_true (by omega)
   have b2 : Wk Y = true := decide_eq_true (by omega)
   have c1 : Uz X Y = true := decide_eq_true (by omega)
   rcases Yc (decide (d < 0)) with q2 | q2
   ·simp only [q1, q2, q4, cond_true, cond_false]; rfl
   ·rcases Yc (decide (d > 5)) with q3 | q3
    ·simp only [q1, q2, q3, q4, cond_true, cond_false]; rfl
    ·have := of_decide_eq_false q2
     have := of_decide_eq_false q3
     have p1 : Yn X Y d = true := decide_eq_true (by omega)
     have p2 : Yn X (Ye X Y) d = true := decide_eq_true (by omega)
     simp only [q1, q2, q3, q4, b1, b2, c1, p1, p2, cond_true, cond_false]; rfl
def v2v (X : List R6) : Bool := decide (8 < X.length ∧ X.length ≤ 400 ∨ 420 < X.length)
def z2k (X : List R6) : Bool := true
theorem v6o (X : List R6) (h : z2k X = true) : ∃ N, Ya (x2h X) N (z9q X) = .ret [.bool (v2v X)] := by
 refine ⟨0, ?_⟩
 unfold z9q v2v
 by_cases h1 : (X.length : Int) > 8
 ·by_cases h2 : (X.length : Int) ≤ 400
  ·rw [decide_eq_true h1, decide_eq_true h2, decide_eq_true (show 8 < X.length ∧ X.length ≤ 400 ∨ 420 < X.length by omega)]; rfl
  ·rw [decide_eq_true h1, decide_eq_false h2]
   by_cases h3 : (X.length : Int) > 420
   ·rw [decide_eq_true h3, decide_eq_true (show 8 < X.length ∧ X.length ≤ 400 ∨ 420 < X.length by omega)]; rfl
   ·rw [decide_eq_false h3, decide_eq_false (show ¬ (8 < X.length ∧ X.length ≤ 400 ∨ 420 < X.length) by omega)]; rfl
 ·rw [decide_eq_false h1, decide_eq_false (show ¬ (X.length : Int) > 420 by omega), decide_eq_false (show ¬ (8 < X.length ∧ X.length ≤ 400 ∨ 420 < X.length) by omega)]; rfl
def fOco : List AVal → Option (AVal × Bool)
 | [a0, a1] => match asL R6 a0, asL R6 a1 with
  | some (L0, g0, n0), some (L1, g1, n1) => some (.tup [.int .i64 (Jt L0 L1), .int .i64 (Uh L0 L1)], isT R6 n0 g0 && (isT R6 n1 g1 && (Xi L0 L1)))
  | _, _ => none
 | _ => none
theorem v7k {S : Specs} (hS : Zk Tryz.prog S) : Zk Tryz.prog (S.with v2l fOco) := by
 refine z1b hS (by kernel_rfl) fun args v h => ?_
 unfold fOco at h
 split at h
 ·rename_i a0 a1
  split at h
  ·rename_i L0 g0 n0 L1 g1 n1 e0 e1
   simp only [Option.some.injEq, Prod.mk.injEq, Bool.and_eq_true] at h
   obtain ⟨rfl, ho0, ho1, hw⟩ := h
   obtain ⟨N, hN⟩ := v6a L0 L1 hw
   exact ⟨_, _, (.cons (asL_le e0 ho0) (.cons (asL_le e1 ho1) .nil)), rfl, w7y L0 L1 N _ hN, 3, rfl⟩
  ·cases h
 ·cases h
def fOre : List AVal → Option (AVal × Bool)
 | [a0, a1] => match asL R6 a0, asL R6 a1 with
  | some (L0, g0, n0), some (L1, g1, n1) => some (.tup [.int .u8 (z1r L0 L1), .int .i64 (z1q L0 L1)], isT R6 n0 g0 && (isT R6 n1 g1 && (Jz L0 L1)))
  | _, _ => none
 | _ => none
theorem v7i {S : Specs} (hS : Zk Tryz.prog S) : Zk Tryz.prog (S.with nORel fOre) := by
 refine z1b hS (by kernel_rfl) fun args v h => ?_
 unfold fOre at h
 split at h
 ·rename_i a0 a1
  split at h
  ·rename_i L0 g0 n0 L1 g1 n1 e0 e1
   simp only [Option.some.injEq, Prod.mk.injEq, Bool.and_eq_true] at h
   obtain ⟨rfl, ho0, ho1, hw⟩ := h
   obtain ⟨N, hN⟩ := v5v L0 L1 hw
   exact ⟨_, _, (.cons (asL_le e0 ho0) (.cons (asL_le e1 ho1) .nil)), rfl, w7w L0 L1 N _ hN, 3, rfl⟩
  ·cases h
 ·cases h
def fOsi : List AVal → Option (AVal × Bool)
 | [a0, .int .i64 x1] => match asL R6 a0 with
  | some (L0, g0, n0) => some (.tup [.int .i64 (Vw L0 x1), .int .i64 (Vm L0 x1)], isT R6 n0 g0 && (Xt L0 x1))
  | _ => none
 | _ => none
theorem v7g {S : Specs} (hS : Zk Tryz.prog S) : Zk Tryz.prog (S.with v2k fOsi) := by
 refine z1b hS (by kernel_rfl) fun args v h => ?_
 unfold fOsi at h
 split at h
 ·rename_i a0 x1
  split at h
  ·rename_i L0 g0 n0 e0
   simp only [Option.some.injEq, Prod.mk.injEq, Bool.and_eq_true] at h
   obtain ⟨rfl, ho0, hw⟩ := h
   obtain ⟨N, hN⟩ := v5t L0 x1 hw
   exact ⟨_, _, (.cons (asL_le e0 ho0) (.cons (.refl _) .nil)), rfl, w7u L0 x1 N _ hN, 3, rfl⟩
  ·cases h
 ·cases h
def fOcv : List AVal → Option (AVal × Bool)
 | [a0, a1, .int .i64 x2] => match asL R6 a0, asL R6 a1 with
  | some (L0, g0, n0), some (L1, g1, n1) => some (.tup [.int .i64 (z2f L0 L1 x2), .int .i64 (z5f L0 L1 x2)], isT R6 n0 g0 && (isT R6 n1 g1 && (Kt L0 L1 x2)))
  | _, _ => none
 | _ => none
theorem v7j {S : Specs} (hS : Zk Tryz.prog S) : Zk Tryz.prog (S.with nOCov fOcv) := by
 refine z1b hS (by kernel_rfl) fun args v h => ?_
 unfold fOcv at h
 split at h
 ·rename_i a0 a1 x2
  split at h
  ·rename_i L0 g0 n0 L1 g1 n1 e0 e1
   simp only [Option.some.injEq, Prod.mk.injEq, Bool.and_eq_true] at h
   obtain ⟨rfl, ho0, ho1, hw⟩ := h
   obtain ⟨N, hN⟩ := v5z L0 L1 x2 hw
   exact ⟨_, _, (.cons (asL_le e0 ho0) (.cons (asL_le e1 ho1) (.cons (.refl _) .nil))), rfl, w7x L0 L1 x2 N _ hN, 3, rfl⟩
  ·cases h
 ·cases h
def fGrt : List AVal → Option (AVal × Bool)
 | [a0] => match asL R6 a0 with
  | some (L0, g0, n0) => some (.bool (v2v L0), isT R6 n0 g0 && (z2k L0))
  | _ => none
 | _ => none
theorem v7o {S : Specs} (hS : Zk Tryz.prog S) : Zk Tryz.prog (S.with x5c fGrt) := by
 refine z1b hS (by kernel_rfl) fun args v h => ?_
 unfold fGrt at h
 split at h
 ·rename_i a0
  split at h
  ·rename_i L0 g0 n0 e0
   simp only [Option.some.injEq, Prod.mk.injEq, Bool.and_eq_true] at h
   obtain ⟨rfl, ho0, hw⟩ := h
   obtain ⟨N, hN⟩ := v6o L0 hw
   exact ⟨_, _, (.cons (asL_le e0 ho0) .nil), rfl, w8u L0 N _ hN, 3, rfl⟩
  ·cases h
 ·cases h
def Te : Specs := (((((Td.with v2l fOco).with nORel fOre).with v2k fOsi).with nOCov fOcv).with x5c fGrt)
theorem Uk : Zk Tryz.prog Te := (v7o (v7j (v7g (v7i (v7k z1m)))))
end Go.Am
namespace Go.Am
open Go.Proofs
inductive aliS where
def aliC : aliS → Cfg
 := nofun
def x3j : aliS → Xo aliS
 := nofun
def z9u : Xo aliS := (bif (Kt (cvT ([(R6.mk 0 0 0 2 2 2)] : List R6)) (cvT ([(R6.mk 2 0 0 3 1 4)] : List R6)) 0) then (bif (Xt (cvT ([(R6.mk 0 0 0 2 2 2)] : List R6)) 0) then (bif ((Vm (cvT ([(R6.mk 0 0 0 2 2 2)] : List R6)) 0) != 0) then (.ret [(.bool false)]) else (bif ((Vw (cvT ([(R6.mk 0 0 0 2 2 2)] : List R6)) 0) != 4) then (.ret [(.bool false)]) else (bif (Xt (cvT ([(R6.mk 0 0 0 2 2 2)] : List R6)) 1) then (bif ((Vm (cvT ([(R6.mk 0 0 0 2 2 2)] : List R6)) 1) != 0) then (.ret [(.bool false)]) else (bif ((Vw (cvT ([(R6.mk 0 0 0 2 2 2)] : List R6)) 1) != 4) then (.ret [(.bool false)]) else (bif (Xt (cvT ([(R6.mk 0 0 0 2 2 2)] : List R6)) 2) then (bif ((Vm (cvT ([(R6.mk 0 0 0 2 2 2)] : List R6)) 2) != 0) then (.ret [(.bool false)]) else (bif ((Vw (cvT ([(R6.mk 0 0 0 2 2 2)] : List R6)) 2) != 4) then (.ret [(.bool false)]) else (bif (Xt (cvT ([(R6.mk 0 0 0 2 2 2)] : List R6)) 3) then (bif ((Vm (cvT ([(R6.mk 0 0 0 2 2 2)] : List R6)) 3) != 0) then (.ret [(.bool false)]) else (bif ((Vw (cvT ([(R6.mk 0 0 0 2 2 2)] : List R6)) 3) != 4) then (.ret [(.bool false)]) else (bif (Xt (cvT ([(R6.mk 0 0 0 2 2 2)] : List R6)) 4) then (bif ((Vm (cvT ([(R6.mk 0 0 0 2 2 2)] : List R6)) 4) != 0) then (.ret [(.bool false)]) else (bif ((Vw (cvT ([(R6.mk 0 0 0 2 2 2)] : List R6)) 4) != 4) then (.ret [(.bool false)]) else (bif (Xt (cvT ([(R6.mk 0 0 0 2 2 2)] : List R6)) 5) then (bif ((Vm (cvT ([(R6.mk 0 0 0 2 2 2)] : List R6)) 5) != 0) then (.ret [(.bool false)]) else (bif ((Vw (cvT ([(R6.mk 0 0 0 2 2 2)] : List R6)) 5) != 4) then (.ret [(.bool false)]) else (bif ((z5f (cvT ([(R6.mk 0 0 0 2 2 2)] : List R6)) (cvT ([(R6.mk 2 0 0 3 1 4)] : List R6)) 0) == 0) then (bif ((z2f (cvT ([(R6.mk 0 0 0 2 2 2)] : List R6)) (cvT ([(R6.mk 2 0 0 3 1 4)] : List R6)) 0) == 2) then (bif (Jz (cvT ([(R6.mk 0 0 0 2 2 2)] : List R6)) (cvT ([(R6.mk 2 0 0 3 1 4)] : List R6))) then (bif (Xi (cvT ([(R6.mk 0 0 0 2 2 2)] : List R6)) (cvT ([(R6.mk 2 0 0 3 1 4)] : List R6))) then (bif ((z1q (cvT ([(R6.mk 0 0 0 2 2 2)] : List R6)) (cvT ([(R6.mk 2 0 0 3 1 4)] : List R6))) == 0) then (bif ((z1r (cvT ([(R6.mk 0 0 0 2 2 2)] : List R6)) (cvT ([(R6.mk 2 0 0 3 1 4)] : List R6))) == 2) then (bif ((Uh (cvT ([(R6.mk 0 0 0 2 2 2)] : List R6)) (cvT ([(R6.mk 2 0 0 3 1 4)] : List R6))) == 0) then (bif ((Jt (cvT ([(R6.mk 0 0 0 2 2 2)] : List R6)) (cvT ([(R6.mk 2 0 0 3 1 4)] : List R6))) == 2) then (bif (Jz (cvT ([(R6.mk 0 0 0 1 1 1)] : List R6)) (cvT ([(R6.mk 0 0 0 2 2 2)] : List R6))) then (bif (Xi (cvT ([(R6.mk 0 0 0 1 1 1)] : List R6)) (cvT ([(R6.mk 0 0 0 2 2 2)] : List R6))) then (bif ((z1q (cvT ([(R6.mk 0 0 0 1 1 1)] : List R6)) (cvT ([(R6.mk 0 0 0 2 2 2)] : List R6))) == 0) then (bif ((z1r (cvT ([(R6.mk 0 0 0 1 1 1)] : List R6)) (cvT ([(R6.mk 0 0 0 2 2 2)] : List R6))) == 4) then (bif ((Uh (cvT ([(R6.mk 0 0 0 1 1 1)] : List R6)) (cvT ([(R6.mk 0 0 0 2 2 2)] : List R6))) == 0) then (bif ((Jt (cvT ([(R6.mk 0 0 0 1 1 1)] : List R6)) (cvT ([(R6.mk 0 0 0 2 2 2)] : List R6))) == 0) then (bif (Jz (cvT ([(R6.mk 0 0 0 2 2 2)] : List R6)) (cvT ([(R6.mk 1 1 1 3 3 3)] : List R6))) then (bif (Xi (cvT ([(R6.mk 0 0 0 2 2 2)] : List R6)) (cvT ([(R6.mk 1 1 1 3 3 3)] : List R6))) then (bif ((z1q (cvT ([(R6.mk 0 0 0 2 2 2)] : List R6)) (cvT ([(R6.mk 1 1 1 3 3 3)] : List R6))) == 0) then (bif ((z1r (cvT ([(R6.mk 0 0 0 2 2 2)] : List R6)) (cvT ([(R6.mk 1 1 1 3 3 3)] : List R6))) == 3) then (bif ((Uh (cvT ([(R6.mk 0 0 0 2 2 2)] : List R6)) (cvT ([(R6.mk 1 1 1 3 3 3)] : List R6))) == 0) then (.ret [(.bool ((Jt (cvT ([(R6.mk 0 0 0 2 2 2)] : List R6)) (cvT ([(R6.mk 1 1 1 3 3 3)] : List R6))) == 0))]) else (.ret [(.bool false)])) else (.ret [(.bool false)])) else (.ret [(.bool false)])) else .stuck) else .stuck) else (.ret [(.bool false)])) else (.ret [(.bool false)])) else (.ret [(.bool false)])) else (.ret [(.bool false)])) else .stuck) else .stuck) else (.ret [(.bool false)])) else (.ret [(.bool false)])) else (.ret [(.bool false)])) else (.ret [(.bool false)])) else .stuck) else .stuck) else (.ret [(.bool false)])) else (.ret [(.bool false)])))) else .stuck))) else .stuck))) else .stuck))) else .stuck))) else .stuck))) else .stuck) else .stuck)
theorem x9a : ∀ s, Xn Tryz.prog (Zy Tryz.prog 27) (aliC) (aliC s) (x3j s)
 := nofun
theorem x3k : Xn Tryz.prog (Zy Tryz.prog 27) (aliC) (Zf Tryz.prog 27 [] true []) (z9u) := (Wn (sl Uk (C' := ⟨⟨51, 0, true⟩, (We Tryz.prog 27 [1, 1, 0] 2), (Za Tryz.prog 27 [1, 1, 0] 1), none, (Zy Tryz.prog 10), ⟨Ym [(1, (.dat ([(R6.mk 0 0 0 2 2 2)] : List R6).length (Zz ([(R6.mk 0 0 0 2 2 2)] : List R6)))), (9, (.dat ([(R6.mk 0 0 0 2 2 2)] : List R6).length (Zz ([(R6.mk 0 0 0 2 2 2)] : List R6)))), (10, (.dat ([(R6.mk 2 0 0 3 1 4)] : List R6).length (Zz ([(R6.mk 2 0 0 3 1 4)] : List R6))))], Jw [] 0, 0, [], true⟩, [], .leaf⟩) 51 [] ⟨[], [0, 1], [some [1, 9, 10]], []⟩ ⟨[(1, .frz 1 ([(R6.mk 0 0 0 2 2 2)] : List R6).length (Xs [(ii 0), (ii 0), (ii 0), (ii 2), (ii 2), (ii 2)] 0 6) (Zz ([(R6.mk 0 0 0 2 2 2)] : List R6))), (9, .frz 1 ([(R6.mk 0 0 0 2 2 2)] : List R6).length (Xs [(ii 0), (ii 0), (ii 0), (ii 2), (ii 2), (ii 2)] 0 6) (Zz ([(R6.mk 0 0 0 2 2 2)] : List R6))), (10, .frz 1 ([(R6.mk 2 0 0 3 1 4)] : List R6).length (Xs [(ii 2), (ii 0), (ii 0), (ii 3), (ii 1), (ii 4)] 0 6) (Zz ([(R6.mk 2 0 0 3 1 4)] : List R6)))], [], []⟩ [] (pp (xZ (.dat 1 (Xs [(ii 0), (ii 0), (ii 0), (ii 2), (ii 2), (ii 2)] 0 6)) 1 (Xs [(ii 0), (ii 0), (ii 0), (ii 2), (ii 2), (ii 2)] 0 6)) (pp (xL 1 ([(R6.mk 0 0 0 2 2 2)] : List R6).length) (pp (xS 1 (Xs [(ii 0), (ii 0), (ii 0), (ii 2), (ii 2), (ii 2)] 0 6) (Zz ([(R6.mk 0 0 0 2 2 2)] : List R6))) (pp (xZ (.dat 1 (Xs [(ii 0), (ii 0), (ii 0), (ii 2), (ii 2), (ii 2)] 0 6)) 1 (Xs [(ii 0), (ii 0), (ii 0), (ii 2), (ii 2), (ii 2)] 0 6)) (pp (xL 1 ([(R6.mk 0 0 0 2 2 2)] : List R6).length) (pp (xS 1 (Xs [(ii 0), (ii 0), (ii 0), (ii 2), (ii 2), (ii 2)] 0 6) (Zz ([(R6.mk 0 0 0 2 2 2)] : List R6))) (pp (xZ (.dat 1 (Xs [(ii 2), (ii 0), (ii 0), (ii 3), (ii 1), (ii 4)] 0 6)) 1 (Xs [(ii 2), (ii 0), (ii 0), (ii 3), (ii 1), (ii 4)] 0 6)) (pp (xL 1 ([(R6.mk 2 0 0 3 1 4)] : List R6).length) (pp (xS 1 (Xs [(ii 2), (ii 0), (ii 0), (ii 3), (ii 1), (ii 4)] 0 6) (Zz ([(R6.mk 2 0 0 3 1 4)] : List R6))) nn)))))))))) (lo fun o0_0 => (lo fun o0_1 => (lb (fun k0 => (lr 51 27 [1, 1, 1, 0, 1, 0, 0, 1, 0, 0, 1, 1, 0, 0] 1 10 [(0, (.bool false))] (sl Uk 49 [] ⟨[], [], [some [0]], []⟩ ⟨[], [], []⟩ (trs 4 []) (tt k0 (pp (pp (xI R6 ([(R6.mk 0 0 0 2 2 2)] : List R6).length (Zz ([(R6.mk 0 0 0 2 2 2)] : List R6))) (xw o0_1)) (pp (pp (xI R6 ([(R6.mk 0 0 0 2 2 2)] : List R6).length (Zz ([(R6.mk 0 0 0 2 2 2)] : List R6))) (pp (xI R6 ([(R6.mk 2 0 0 3 1 4)] : List R6).length (Zz ([(R6.mk 2 0 0 3 1 4)] : List R6))) (xw o0_0))) nn)))))) (fun k0 => (lb (fun k1 => (lr 51 27 [1, 1, 1, 0, 1, 0, 0, 1, 0, 0, 1, 1, 0, 0] 1 10 [(0, (.bool false))] (sl Uk 49 [] ⟨[], [], [some [0]], []⟩ ⟨[], [], []⟩ [true, false, false, true] (tt k1 (tt k0 (pp (pp (xI R6 ([(R6.mk 0 0 0 2 2 2)] : List R6).length (Zz ([(R6.mk 0 0 0 2 2 2)] : List R6))) (xw o0_1)) (pp (pp (xI R6 ([(R6.mk 0 0 0 2 2 2)] : List R6).length (Zz ([(R6.mk 0 0 0 2 2 2)] : List R6))) (pp (xI R6 ([(R6.mk 2 0 0 3 1 4)] : List R6).length (Zz ([(R6.mk 2 0 0 3 1 4)] : List R6))) (xw o0_0))) nn))))))) (fun k1 => (lo fun o2_0 => (lb (fun k2 => (lr 51 27 [1, 1, 1, 0, 1, 0, 0, 1, 0, 0, 1, 1, 0, 0] 1 10 [(0, (.bool false))] (sl Uk 88 [] ⟨[], [], [some [0]], []⟩ ⟨[], [], []⟩ [true, false, false, false, true, true, true, true] (tt k2 (pp (pp (xI R6 ([(R6.mk 0 0 0 2 2 2)] : List R6).length (Zz ([(R6.mk 0 0 0 2 2 2)] : List R6))) (xw o2_0)) (tt k1 (tt k0 (pp (pp (xI R6 ([(R6.mk 0 0 0 2 2 2)] : List R6).length (Zz ([(R6.mk 0 0 0 2 2 2)] : List R6))) (xw o0_1)) (pp (pp (xI R6 ([(R6.mk 0 0 0 2 2 2)] : List R6).length (Zz ([(R6.mk 0 0 0 2 2 2)] : List R6))) (pp (xI R6 ([(R6.mk 2 0 0 3 1 4)] : List R6).length (Zz ([(R6.mk 2 0 0 3 1 4)] : List R6))) (xw o0_0))) nn))))))))) (fun k2 => (lb (fun k3 => (lr 51 27 [1, 1, 1, 0, 1, 0, 0, 1, 0, 0, 1, 1, 0, 0] 1 10 [(0, (.bool false))] (sl Uk 88 [] ⟨[], [], [some [0]], []⟩ ⟨[], [], []⟩ [true, false, false, false, true, false, false, true] (tt k3 (tt k2 (pp (pp (xI R6 ([(R6.mk 0 0 0 2 2 2)] : List R6).length (Zz ([(R6.mk 0 0 0 2 2 2)] : List R6))) (xw o2_0)) (tt k1 (tt k0 (pp (pp (xI R6 ([(R6.mk 0 0 0 2 2 2)] : List R6).length (Zz ([(R6.mk 0 0 0 2 2 2)] : List R6))) (xw o0_1)) (pp (pp (xI R6 ([(R6.mk 0 0 0 2 2 2)] : List R6).length (Zz ([(R6.mk 0 0 0 2 2 2)] : List R6))) (pp (xI R6 ([(R6.mk 2 0 0 3 1 4)] : List R6).length (Zz ([(R6.mk 2 0 0 3 1 4)] : List R6))) (xw o0_0))) nn)))))))))) (fun k3 => (lo fun o4_0 => (lb (fun k4 => (lr 51 27 [1, 1, 1, 0, 1, 0, 0, 1, 0, 0, 1, 1, 0, 0] 1 10 [(0, (.bool false))] (sl Uk 127 [] ⟨[], [], [some [0]], []⟩ ⟨[], [], []⟩ [true, false, false, false, true, false, false, false, true, true, true, true] (tt k4 (pp (pp (xI R6 ([(R6.mk 0 0 0 2 2 2)] : List R6).length (Zz ([(R6.mk 0 0 0 2 2 2)] : List R6))) (xw o4_0)) (tt k3 (tt k2 (pp (pp (xI R6 ([(R6.mk 0 0 0 2 2 2)] : List R6).length (Zz ([(R6.mk 0 0 0 2 2 2)] : List R6))) (xw o2_0)) (tt k1 (tt k0 (pp (pp (xI R6 ([(R6.mk 0 0 0 2 2 2)] : List R6).length (Zz ([(R6.mk 0 0 0 2 2 2)] : List R6))) (xw o0_1)) (pp (pp (xI R6 ([(R6.mk 0 0 0 2 2 2)] : List R6).length (Zz ([(R6.mk 0 0 0 2 2 2)] : List R6))) (pp (xI R6 ([(R6.mk 2 0 0 3 1 4)] : List R6).length (Zz ([(R6.mk 2 0 0 3 1 4)] : List R6))) (xw o0_0))) nn)))))))))))) (fun k4 => (lb (fun k5 => (lr 51 27 [1, 1, 1, 0, 1, 0, 0, 1, 0, 0, 1, 1, 0, 0] 1 10 [(0, (.bool false))] (sl Uk 127 [] ⟨[], [], [some [0]], []⟩ ⟨[], [], []⟩ [true, false, false, false, true, false, false, false, true, false, false, true] (tt k5 (tt k4 (pp (pp (xI R6 ([(R6.mk 0 0 0 2 2 2)] : List R6).length (Zz ([(R6.mk 0 0 0 2 2 2)] : List R6))) (xw o4_0)) (tt k3 (tt k2 (pp (pp (xI R6 ([(R6.mk 0 0 0 2 2 2)] : List R6).length (Zz ([(R6.mk 0 0 0 2 2 2)] : List R6))) (xw o2_0)) (tt k1 (tt k0 (pp (pp (xI R6 ([(R6.mk 0 0 0 2 2 2)] : List R6).length (Zz ([(R6.mk 0 0 0 2 2 2)] : List R6))) (xw o0_1)) (pp (pp (xI R6 ([(R6.mk 0 0 0 2 2 2)] : List R6).length (Zz ([(R6.mk 0 0 0 2 2 2)] : List R6))) (pp (xI R6 ([(R6.mk 2 0 0 3 1 4)] : List R6).length (Zz ([(R6.mk 2 0 0 3 1 4)] : List R6))) (xw o0_0))) nn))))))))))))) (fun k5 => (lo fun o6_0 => (lb (fun k6 => (lr 51 27 [1, 1, 1, 0, 1, 0, 0, 1, 0, 0, 1, 1, 0, 0] 1 10 [(0, (.bool false))] (sl Uk 166 [] ⟨[], [], [some [0]], []⟩ ⟨[], [], []⟩ [true, false, false, false, true, false, false, false, true, false, false, false, true, true, true, true] (tt k6 (pp (pp (xI R6 ([(R6.mk 0 0 0 2 2 2)] : List R6).length (Zz ([(R6.mk 0 0 0 2 2 2)] : List R6))) (xw o6_0)) (tt k5 (tt k4 (pp (pp (xI R6 ([(R6.mk 0 0 0 2 2 2)] : List R6).length (Zz ([(R6.mk 0 0 0 2 2 2)] : List R6))) (xw o4_0)) (tt k3 (tt k2 (pp (pp (xI R6 ([(R6.mk 0 0 0 2 2 2)] : List R6).length (Zz ([(R6.mk 0 0 0 2 2 2)] : List R6))) (xw o2_0)) (tt k1 (tt k0 (pp (pp (xI R6 ([(R6.mk 0 0 0 2 2 2)] : List R6).length (Zz ([(R6.mk 0 0 0 2 2 2)] : List R6))) (xw o0_1)) (pp (pp (xI R6 ([(R6.mk 0 0 0 2 2 2)] : List R6).length (Zz ([(R6.mk 0 0 0 2 2 2)] : List R6))) (pp (xI R6 ([(R6.mk 2 0 0 3 1 4)] : List R6).length (Zz ([(R6.mk 2 0 0 3 1 4)] : List R6))) (xw o0_0))) nn))))))))))))))) (fun k6 => (lb (fun k7 => (lr 51 27 [1, 1, 1, 0, 1, 0, 0, 1, 0, 0, 1, 1, 0, 0] 1 10 [(0, (.bool false))] (sl Uk 166 [] ⟨[], [], [some [0]], []⟩ ⟨[], [], []⟩ [true, false, false, false, true, false, false, false, true, false, false, false, true, false, false, true] (tt k7 (tt k6 (pp (pp (xI R6 ([(R6.mk 0 0 0 2 2 2)] : List R6).length (Zz ([(R6.mk 0 0 0 2 2 2)] : List R6))) (xw o6_0)) (tt k5 (tt k4 (pp (pp (xI R6 ([(R6.mk 0 0 0 2 2 2)] : List R6).length (Zz ([(R6.mk 0 0 0 2 2 2)] : List R6))) (xw o4_0)) (tt k3 (tt k2 (pp (pp (xI R6 ([(R6.mk 0 0 0 2 2 2)] : List R6).length (Zz ([(R6.mk 0 0 0 2 2 2)] : List R6))) (xw o2_0)) (tt k1 (tt k0 (pp (pp (xI R6 ([(R6.mk 0 0 0 2 2 2)] : List R6).length (Zz ([(R6.mk 0 0 0 2 2 2)] : List R6))) (xw o0_1)) (pp (pp (xI R6 ([(R6.mk 0 0 0 2 2 2)] : List R6).length (Zz ([(R6.mk 0 0 0 2 2 2)] : List R6))) (pp (xI R6 ([(R6.mk 2 0 0 3 1 4)] : List R6).length (Zz ([(R6.mk 2 0 0 3 1 4)] : List R6))) (xw o0_0))) nn)))))))))))))))) (fun k7 => (lo fun o8_0 => (lb (fun k8 => (lr 51 27 [1, 1, 1, 0, 1, 0, 0, 1, 0, 0, 1, 1, 0, 0] 1 10 [(0, (.bool false))] (sl Uk 205 [] ⟨[], [], [some [0]], []⟩ ⟨[], [], []⟩ [true, false, false, false, true, false, false, false, true, false, false, false, true, false, false, false, true, true, true, true] (tt k8 (pp (pp (xI R6 ([(R6.mk 0 0 0 2 2 2)] : List R6).length (Zz ([(R6.mk 0 0 0 2 2 2)] : List R6))) (xw o8_0)) (tt k7 (tt k6 (pp (pp (xI R6 ([(R6.mk 0 0 0 2 2 2)] : List R6).length (Zz ([(R6.mk 0 0 0 2 2 2)] : List R6))) (xw o6_0)) (tt k5 (tt k4 (pp (pp (xI R6 ([(R6.mk 0 0 0 2 2 2)] : List R6).length (Zz ([(R6.mk 0 0 0 2 2 2)] : List R6))) (xw o4_0)) (tt k3 (tt k2 (pp (pp (xI R6 ([(R6.mk 0 0 0 2 2 2)] : List R6).length (Zz ([(R6.mk 0 0 0 2 2 2)] : List R6))) (xw o2_0)) (tt k1 (tt k0 (pp (pp (xI R6 ([(R6.mk 0 0 0 2 2 2)] : List R6).length (Zz ([(R6.mk 0 0 0 2 2 2)] : List R6))) (xw o0_1)) (pp (pp (xI R6 ([(R6.mk 0 0 0 2 2 2)] : List R6).length (Zz ([(R6.mk 0 0 0 2 2 2)] : List R6))) (pp (xI R6 ([(R6.mk 2 0 0 3 1 4)] : List R6).length (Zz ([(R6.mk 2 0 0 3 1 4)] : List R6))) (xw o0_0))) nn)))))))))))))))))) (fun k8 => (lb (fun k9 => (lr 51 27 [1, 1, 1, 0, 1, 0, 0, 1, 0, 0, 1, 1, 0, 0] 1 10 [(0, (.bool false))] (sl Uk 205 [] ⟨[], [], [some [0]], []⟩ ⟨[], [], []⟩ [true, false, false, false, true, false, false, false, true, false, false, false, true, false, false, false, true, false, false, true] (tt k9 (tt k8 (pp (pp (xI R6 ([(R6.mk 0 0 0 2 2 2)] : List R6).length (Zz ([(R6.mk 0 0 0 2 2 2)] : List R6))) (xw o8_0)) (tt k7 (tt k6 (pp (pp (xI R6 ([(R6.mk 0 0 0 2 2 2)] : List R6).length (Zz ([(R6.mk 0 0 0 2 2 2)] : List R6))) (xw o6_0)) (tt k5 (tt k4 (pp (pp (xI R6 ([(R6.mk 0 0 0 2 2 2)] : List R6).length (Zz ([(R6.mk 0 0 0 2 2 2)] : List R6))) (xw o4_0)) (tt k3 (tt k2 (pp (pp (xI R6 ([(R6.mk 0 0 0 2 2 2)] : List R6).length (Zz ([(R6.mk 0 0 0 2 2 2)] : List R6))) (xw o2_0)) (tt k1 (tt k0 (pp (pp (xI R6 ([(R6.mk 0 0 0 2 2 2)] : List R6).length (Zz ([(R6.mk 0 0 0 2 2 2)] : List R6))) (xw o0_1)) (pp (pp (xI R6 ([(R6.mk 0 0 0 2 2 2)] : List R6).length (Zz ([(R6.mk 0 0 0 2 2 2)] : List R6))) (pp (xI R6 ([(R6.mk 2 0 0 3 1 4)] : List R6).length (Zz ([(R6.mk 2 0 0 3 1 4)] : List R6))) (xw o0_0))) nn))))))))))))))))))) (fun k9 => (lo fun o10_0 => (lb (fun k10 => (lr 51 27 [1, 1, 1, 0, 1, 0, 0, 1, 0, 0, 1, 1, 0, 0] 1 10 [(0, (.bool false))] (sl Uk 244 [] ⟨[], [], [some [0]], []⟩ ⟨[], [], []⟩ [true, false, false, false, true, false, false, false, true, false, false, false, true, false, false, false, true, false, false, false, true, true, true, true] (tt k10 (pp (pp (xI R6 ([(R6.mk 0 0 0 2 2 2)] : List R6).length (Zz ([(R6.mk 0 0 0 2 2 2)] : List R6))) (xw o10_0)) (tt k9 (tt k8 (pp (pp (xI R6 ([(R6.mk 0 0 0 2 2 2)] : List R6).length (Zz ([(R6.mk 0 0 0 2 2 2)] : List R6))) (xw o8_0)) (tt k7 (tt k6 (pp (pp (xI R6 ([(R6.mk 0 0 0 2 2 2)] : List R6).length (Zz ([(R6.mk 0 0 0 2 2 2)] : List R6))) (xw o6_0)) (tt k5 (tt k4 (pp (pp (xI R6 ([(R6.mk 0 0 0 2 2 2)] : List R6).length (Zz ([(R6.mk 0 0 0 2 2 2)] : List R6))) (xw o4_0)) (tt k3 (tt k2 (pp (pp (xI R6 ([(R6.mk 0 0 0 2 2 2)] : List R6).length (Zz ([(R6.mk 0 0 0 2 2 2)] : List R6))) (xw o2_0)) (tt k1 (tt k0 (pp (pp (xI R6 ([(R6.mk 0 0 0 2 2 2)] : List R6).length (Zz ([(R6.mk 0 0 0 2 2 2)] : List R6))) (xw o0_1)) (pp (pp (xI R6 ([(R6.mk 0 0 0 2 2 2)] : List R6).length (Zz ([(R6.mk 0 0 0 2 2 2)] : List R6))) (pp (xI R6 ([(R6.mk 2 0 0 3 1 4)] : List R6).length (Zz ([(R6.mk 2 0 0 3 1 4)] : List R6))) (xw o0_0))) nn))))))))))))))))))))) (fun k10 => (lb (fun k11 => (lr 51 27 [1, 1, 1, 0, 1, 0, 0, 1, 0, 0, 1, 1, 0, 0] 1 10 [(0, (.bool false))] (sl Uk 244 [] ⟨[], [], [some [0]], []⟩ ⟨[], [], []⟩ [true, false, false, false, true, false, false, false, true, false, false, false, true, false, false, false, true, false, false, false, true, false, false, true] (tt k11 (tt k10 (pp (pp (xI R6 ([(R6.mk 0 0 0 2 2 2)] : List R6).length (Zz ([(R6.mk 0 0 0 2 2 2)] : List R6))) (xw o10_0)) (tt k9 (tt k8 (pp (pp (xI R6 ([(R6.mk 0 0 0 2 2 2)] : List R6).length (Zz ([(R6.mk 0 0 0 2 2 2)] : List R6))) (xw o8_0)) (tt k7 (tt k6 (pp (pp (xI R6 ([(R6.mk 0 0 0 2 2 2)] : List R6).length (Zz ([(R6.mk 0 0 0 2 2 2)] : List R6))) (xw o6_0)) (tt k5 (tt k4 (pp (pp (xI R6 ([(R6.mk 0 0 0 2 2 2)] : List R6).length (Zz ([(R6.mk 0 0 0 2 2 2)] : List R6))) (xw o4_0)) (tt k3 (tt k2 (pp (pp (xI R6 ([(R6.mk 0 0 0 2 2 2)] : List R6).length (Zz ([(R6.mk 0 0 0 2 2 2)] : List R6))) (xw o2_0)) (tt k1 (tt k0 (pp (pp (xI R6 ([(R6.mk 0 0 0 2 2 2)] : List R6).length (Zz ([(R6.mk 0 0 0 2 2 2)] : List R6))) (xw o0_1)) (pp (pp (xI R6 ([(R6.mk 0 0 0 2 2 2)] : List R6).length (Zz ([(R6.mk 0 0 0 2 2 2)] : List R6))) (pp (xI R6 ([(R6.mk 2 0 0 3 1 4)] : List R6).length (Zz ([(R6.mk 2 0 0 3 1 4)] : List R6))) (xw o0_0))) nn)))))))))))))))))))))) (fun k11 => (lb (fun k12 => (lb (fun k13 => (Wn (sl Uk (C' := ⟨⟨41, 0, true⟩, (We Tryz.prog 77 [1, 0] 2), (Za Tryz.prog 77 [1, 0] 1), none, (Zy Tryz.prog 71), ⟨Ym [(0, (.dat ([(R6.mk 0 0 0 2 2 2)] : List R6).length (Zz ([(R6.mk 0 0 0 2 2 2)] : List R6)))), (1, (.dat ([(R6.mk 2 0 0 3 1 4)] : List R6).length (Zz ([(R6.mk 2 0 0 3 1 4)] : List R6)))), (2, (.int .u8 2)), (3, (ii 2)), (14, (.dat ([(R6.mk 0 0 0 2 2 2)] : List R6).length (Zz ([(R6.mk 0 0 0 2 2 2)] : List R6)))), (15, (.dat ([(R6.mk 2 0 0 3 1 4)] : List R6).length (Zz ([(R6.mk 2 0 0 3 1 4)] : List R6))))], Jw [] 0, 0, [], true⟩, [⟨⟨51, 0, true⟩, (We Tryz.prog 27 [1, 1, 1, 1, 0] 9), (Za Tryz.prog 27 [1, 1, 1, 1, 0] 1), none, (Zy Tryz.prog 10), Ym [(1, (.dat ([(R6.mk 0 0 0 2 2 2)] : List R6).length (Zz ([(R6.mk 0 0 0 2 2 2)] : List R6)))), (36, (.bool true)), (37, (.dat ([(R6.mk 0 0 0 2 2 2)] : List R6).length (Zz ([(R6.mk 0 0 0 2 2 2)] : List R6)))), (38, (.dat ([(R6.mk 2 0 0 3 1 4)] : List R6).length (Zz ([(R6.mk 2 0 0 3 1 4)] : List R6))))]⟩], .leaf⟩) 295 [] ⟨[], [0], [some [0, 1, 2, 3, 14, 15], some [1, 36, 37, 38]], []⟩ ⟨[(1, .frz 1 ([(R6.mk 2 0 0 3 1 4)] : List R6).length (Xs [(ii 2), (ii 0), (ii 0), (ii 3), (ii 1), (ii 4)] 0 6) (Zz ([(R6.mk 2 0 0 3 1 4)] : List R6))), (15, .frz 1 ([(R6.mk 2 0 0 3 1 4)] : List R6).length (Xs [(ii 2), (ii 0), (ii 0), (ii 3), (ii 1), (ii 4)] 0 6) (Zz ([(R6.mk 2 0 0 3 1 4)] : List R6)))], [], [[(38, .frz 1 ([(R6.mk 2 0 0 3 1 4)] : List R6).length (Xs [(ii 2), (ii 0), (ii 0), (ii 3), (ii 1), (ii 4)] 0 6) (Zz ([(R6.mk 2 0 0 3 1 4)] : List R6)))]]⟩ [true, false, false, false, true, false, false, false, true, false, false, false, true, false, false, false, true, false, false, false, true, false, false, false, false, true, true, true, true, true] (pp (xZ (.dat 1 (Xs [(ii 2), (ii 0), (ii 0), (ii 3), (ii 1), (ii 4)] 0 6)) 1 (Xs [(ii 2), (ii 0), (ii 0), (ii 3), (ii 1), (ii 4)] 0 6)) (pp (xL 1 ([(R6.mk 2 0 0 3 1 4)] : List R6).length) (pp (xS 1 (Xs [(ii 2), (ii 0), (ii 0), (ii 3), (ii 1), (ii 4)] 0 6) (Zz ([(R6.mk 2 0 0 3 1 4)] : List R6))) (pp (xZ (.dat 1 (Xs [(ii 2), (ii 0), (ii 0), (ii 3), (ii 1), (ii 4)] 0 6)) 1 (Xs [(ii 2), (ii 0), (ii 0), (ii 3), (ii 1), (ii 4)] 0 6)) (pp (xL 1 ([(R6.mk 2 0 0 3 1 4)] : List R6).length) (pp (xS 1 (Xs [(ii 2), (ii 0), (ii 0), (ii 3), (ii 1), (ii 4)] 0 6) (Zz ([(R6.mk 2 0 0 3 1 4)] : List R6))) (pp (xZ (.dat 1 (Xs [(ii 2), (ii 0), (ii 0), (ii 3), (ii 1), (ii 4)] 0 6)) 1 (Xs [(ii 2), (ii 0), (ii 0), (ii 3), (ii 1), (ii 4)] 0 6)) (pp (xL 1 ([(R6.mk 2 0 0 3 1 4)] : List R6).length) (pp (xS 1 (Xs [(ii 2), (ii 0), (ii 0), (ii 3), (ii 1), (ii 4)] 0 6) (Zz ([(R6.mk 2 0 0 3 1 4)] : List R6))) (tt k13 (tt k12 (tt k11 (tt k10 (pp (pp (xI R6 ([(R6.mk 0 0 0 2 2 2)] : List R6).length (Zz ([(R6.mk 0 0 0 2 2 2)] : List R6))) (xw o10_0)) (tt k9 (tt k8 (pp (pp (xI R6 ([(R6.mk 0 0 0 2 2 2)] : List R6).length (Zz ([(R6.mk 0 0 0 2 2 2)] : List R6))) (xw o8_0)) (tt k7 (tt k6 (pp (pp (xI R6 ([(R6.mk 0 0 0 2 2 2)] : List R6).length (Zz ([(R6.mk 0 0 0 2 2 2)] : List R6))) (xw o6_0)) (tt k5 (tt k4 (pp (pp (xI R6 ([(R6.mk 0 0 0 2 2 2)] : List R6).length (Zz ([(R6.mk 0 0 0 2 2 2)] : List R6))) (xw o4_0)) (tt k3 (tt k2 (pp (pp (xI R6 ([(R6.mk 0 0 0 2 2 2)] : List R6).length (Zz ([(R6.mk 0 0 0 2 2 2)] : List R6))) (xw o2_0)) (tt k1 (tt k0 (pp (pp (xI R6 ([(R6.mk 0 0 0 2 2 2)] : List R6).length (Zz ([(R6.mk 0 0 0 2 2 2)] : List R6))) (xw o0_1)) (pp (pp (xI R6 ([(R6.mk 0 0 0 2 2 2)] : List R6).length (Zz ([(R6.mk 0 0 0 2 2 2)] : List R6))) (pp (xI R6 ([(R6.mk 2 0 0 3 1 4)] : List R6).length (Zz ([(R6.mk 2 0 0 3 1 4)] : List R6))) (xw o0_0))) nn))))))))))))))))))))))))))))))) (lo fun o14_0 => (lo fun o14_1 => (lb (fun k14 => (lb (fun k15 => (lb (fun k16 => (lb (fun k17 => (Wn (sl Uk (C' := ⟨⟨41, 0, true⟩, (We Tryz.prog 77 [1, 0] 2), (Za Tryz.prog 77 [1, 0] 1), none, (Zy Tryz.prog 71), ⟨Ym [(0, (.dat ([(R6.mk 0 0 0 1 1 1)] : List R6).length (Zz ([(R6.mk 0 0 0 1 1 1)] : List R6)))), (1, (.dat ([(R6.mk 0 0 0 2 2 2)] : List R6).length (Zz ([(R6.mk 0 0 0 2 2 2)] : List R6)))), (2, (.int .u8 4)), (3, (ii 0)), (14, (.dat ([(R6.mk 0 0 0 1 1 1)] : List R6).length (Zz ([(R6.mk 0 0 0 1 1 1)] : List R6)))), (15, (.dat ([(R6.mk 0 0 0 2 2 2)] : List R6).length (Zz ([(R6.mk 0 0 0 2 2 2)] : List R6))))], Jw [] 0, 0, [], true⟩, [⟨⟨51, 0, true⟩, (We Tryz.prog 27 [1, 1, 1, 1, 0] 14), (Za Tryz.prog 27 [1, 1, 1, 1, 0] 1), none, (Zy Tryz.prog 10), Ym [(1, (.dat ([(R6.mk 0 0 0 2 2 2)] : List R6).length (Zz ([(R6.mk 0 0 0 2 2 2)] : List R6)))), (41, (.bool true)), (42, (.dat ([(R6.mk 0 0 0 1 1 1)] : List R6).length (Zz ([(R6.mk 0 0 0 1 1 1)] : List R6)))), (43, (.dat ([(R6.mk 0 0 0 2 2 2)] : List R6).length (Zz ([(R6.mk 0 0 0 2 2 2)] : List R6))))]⟩], .leaf⟩) 71 [] ⟨[], [0], [some [0, 1, 2, 3, 14, 15], some [1, 41, 42, 43]], []⟩ ⟨[(0, .frz 1 ([(R6.mk 0 0 0 1 1 1)] : List R6).length (Xs [(ii 0), (ii 0), (ii 0), (ii 1), (ii 1), (ii 1)] 0 6) (Zz ([(R6.mk 0 0 0 1 1 1)] : List R6))), (14, .frz 1 ([(R6.mk 0 0 0 1 1 1)] : List R6).length (Xs [(ii 0), (ii 0), (ii 0), (ii 1), (ii 1), (ii 1)] 0 6) (Zz ([(R6.mk 0 0 0 1 1 1)] : List R6)))], [], [[(42, .frz 1 ([(R6.mk 0 0 0 1 1 1)] : List R6).length (Xs [(ii 0), (ii 0), (ii 0), (ii 1), (ii 1), (ii 1)] 0 6) (Zz ([(R6.mk 0 0 0 1 1 1)] : List R6)))]]⟩ (trs 11 []) (pp (xZ (.dat 1 (Xs [(ii 0), (ii 0), (ii 0), (ii 1), (ii 1), (ii 1)] 0 6)) 1 (Xs [(ii 0), (ii 0), (ii 0), (ii 1), (ii 1), (ii 1)] 0 6)) (pp (xL 1 ([(R6.mk 0 0 0 1 1 1)] : List R6).length) (pp (xS 1 (Xs [(ii 0), (ii 0), (ii 0), (ii 1), (ii 1), (ii 1)] 0 6) (Zz ([(R6.mk 0 0 0 1 1 1)] : List R6))) (pp (xZ (.dat 1 (Xs [(ii 0), (ii 0), (ii 0), (ii 1), (ii 1), (ii 1)] 0 6)) 1 (Xs [(ii 0), (ii 0), (ii 0), (ii 1), (ii 1), (ii 1)] 0 6)) (pp (xL 1 ([(R6.mk 0 0 0 1 1 1)] : List R6).length) (pp (xS 1 (Xs [(ii 0), (ii 0), (ii 0), (ii 1), (ii 1), (ii 1)] 0 6) (Zz ([(R6.mk 0 0 0 1 1 1)] : List R6))) (pp (xZ (.dat 1 (Xs [(ii 0), (ii 0), (ii 0), (ii 1), (ii 1), (ii 1)] 0 6)) 1 (Xs [(ii 0), (ii 0), (ii 0), (ii 1), (ii 1), (ii 1)] 0 6)) (pp (xL 1 ([(R6.mk 0 0 0 1 1 1)] : List R6).length) (pp (xS 1 (Xs [(ii 0), (ii 0), (ii 0), (ii 1), (ii 1), (ii 1)] 0 6) (Zz ([(R6.mk 0 0 0 1 1 1)] : List R6))) (tt k17 (tt k16 (tt k15 (tt k14 (pp (pp (xI R6 ([(R6.mk 0 0 0 2 2 2)] : List R6).length (Zz ([(R6.mk 0 0 0 2 2 2)] : List R6))) (pp (xI R6 ([(R6.mk 2 0 0 3 1 4)] : List R6).length (Zz ([(R6.mk 2 0 0 3 1 4)] : List R6))) (xw o14_1))) (pp (pp (xI R6 ([(R6.mk 0 0 0 2 2 2)] : List R6).length (Zz ([(R6.mk 0 0 0 2 2 2)] : List R6))) (pp (xI R6 ([(R6.mk 2 0 0 3 1 4)] : List R6).length (Zz ([(R6.mk 2 0 0 3 1 4)] : List R6))) (xw o14_0))) nn)))))))))))))))) (lo fun o18_0 => (lo fun o18_1 => (lb (fun k18 => (lb (fun k19 => (lb (fun k20 => (lb (fun k21 => (Wn (sl Uk (C' := ⟨⟨41, 0, true⟩, (We Tryz.prog 77 [1, 0] 2), (Za Tryz.prog 77 [1, 0] 1), none, (Zy Tryz.prog 71), ⟨Ym [(0, (.dat ([(R6.mk 0 0 0 2 2 2)] : List R6).length (Zz ([(R6.mk 0 0 0 2 2 2)] : List R6)))), (1, (.dat ([(R6.mk 1 1 1 3 3 3)] : List R6).length (Zz ([(R6.mk 1 1 1 3 3 3)] : List R6)))), (2, (.int .u8 3)), (3, (ii 0)), (14, (.dat ([(R6.mk 0 0 0 2 2 2)] : List R6).length (Zz ([(R6.mk 0 0 0 2 2 2)] : List R6)))), (15, (.dat ([(R6.mk 1 1 1 3 3 3)] : List R6).length (Zz ([(R6.mk 1 1 1 3 3 3)] : List R6))))], Jw [] 0, 0, [], true⟩, [⟨⟨51, 0, true⟩, (We Tryz.prog 27 [1, 1, 1, 1, 0] 19), (Za Tryz.prog 27 [1, 1, 1, 1, 0] 1), none, (Zy Tryz.prog 10), Ym [(46, (.bool true)), (47, (.dat ([(R6.mk 0 0 0 2 2 2)] : List R6).length (Zz ([(R6.mk 0 0 0 2 2 2)] : List R6)))), (48, (.dat ([(R6.mk 1 1 1 3 3 3)] : List R6).length (Zz ([(R6.mk 1 1 1 3 3 3)] : List R6))))]⟩], .leaf⟩) 71 [] ⟨[], [0], [some [0, 1, 2, 3, 14, 15], some [46, 47, 48]], []⟩ ⟨[(1, .frz 1 ([(R6.mk 1 1 1 3 3 3)] : List R6).length (Xs [(ii 1), (ii 1), (ii 1), (ii 3), (ii 3), (ii 3)] 0 6) (Zz ([(R6.mk 1 1 1 3 3 3)] : List R6))), (15, .frz 1 ([(R6.mk 1 1 1 3 3 3)] : List R6).length (Xs [(ii 1), (ii 1), (ii 1), (ii 3), (ii 3), (ii 3)] 0 6) (Zz ([(R6.mk 1 1 1 3 3 3)] : List R6)))], [], [[(48, .frz 1 ([(R6.mk 1 1 1 3 3 3)] : List R6).length (Xs [(ii 1), (ii 1), (ii 1), (ii 3), (ii 3), (ii 3)] 0 6) (Zz ([(R6.mk 1 1 1 3 3 3)] : List R6)))]]⟩ (trs 11 []) (pp (xZ (.dat 1 (Xs [(ii 1), (ii 1), (ii 1), (ii 3), (ii 3), (ii 3)] 0 6)) 1 (Xs [(ii 1), (ii 1), (ii 1), (ii 3), (ii 3), (ii 3)] 0 6)) (pp (xL 1 ([(R6.mk 1 1 1 3 3 3)] : List R6).length) (pp (xS 1 (Xs [(ii 1), (ii 1), (ii 1), (ii 3), (ii 3), (ii 3)] 0 6) (Zz ([(R6.mk 1 1 1 3 3 3)] : List R6))) (pp (xZ (.dat 1 (Xs [(ii 1), (ii 1), (ii 1), (ii 3), (ii 3), (ii 3)] 0 6)) 1 (Xs [(ii 1), (ii 1), (ii 1), (ii 3), (ii 3), (ii 3)] 0 6)) (pp (xL 1 ([(R6.mk 1 1 1 3 3 3)] : List R6).length) (pp (xS 1 (Xs [(ii 1), (ii 1), (ii 1), (ii 3), (ii 3), (ii 3)] 0 6) (Zz ([(R6.mk 1 1 1 3 3 3)] : List R6))) (pp (xZ (.dat 1 (Xs [(ii 1), (ii 1), (ii 1), (ii 3), (ii 3), (ii 3)] 0 6)) 1 (Xs [(ii 1), (ii 1), (ii 1), (ii 3), (ii 3), (ii 3)] 0 6)) (pp (xL 1 ([(R6.mk 1 1 1 3 3 3)] : List R6).length) (pp (xS 1 (Xs [(ii 1), (ii 1), (ii 1), (ii 3), (ii 3), (ii 3)] 0 6) (Zz ([(R6.mk 1 1 1 3 3 3)] : List R6))) (tt k21 (tt k20 (tt k19 (tt k18 (pp (pp (xI R6 ([(R6.mk 0 0 0 1 1 1)] : List R6).length (Zz ([(R6.mk 0 0 0 1 1 1)] : List R6))) (pp (xI R6 ([(R6.mk 0 0 0 2 2 2)] : List R6).length (Zz ([(R6.mk 0 0 0 2 2 2)] : List R6))) (xw o18_1))) (pp (pp (xI R6 ([(R6.mk 0 0 0 1 1 1)] : List R6).length (Zz ([(R6.mk 0 0 0 1 1 1)] : List R6))) (pp (xI R6 ([(R6.mk 0 0 0 2 2 2)] : List R6).length (Zz ([(R6.mk 0 0 0 2 2 2)] : List R6))) (xw o18_0))) nn)))))))))))))))) (lo fun o22_0 => (lo fun o22_1 => (lb (fun k22 => (lb (fun k23 => (lb (fun k24 => (lr 51 3 [1, 1, 1, 1, 1, 1, 1, 0] 1 10 [(0, (.bool ((Jt (cvT ([(R6.mk 0 0 0 2 2 2)] : List R6)) (cvT ([(R6.mk 1 1 1 3 3 3)] : List R6))) == 0)))] (sl Uk 42 [] ⟨[], [], [some [0]], []⟩ ⟨[], [], []⟩ (trs 8 []) (tt k24 (tt k23 (tt k22 (pp (pp (xI R6 ([(R6.mk 0 0 0 2 2 2)] : List R6).length (Zz ([(R6.mk 0 0 0 2 2 2)] : List R6))) (pp (xI R6 ([(R6.mk 1 1 1 3 3 3)] : List R6).length (Zz ([(R6.mk 1 1 1 3 3 3)] : List R6))) (xw o22_1))) (pp (pp (xI R6 ([(R6.mk 0 0 0 2 2 2)] : List R6).length (Zz ([(R6.mk 0 0 0 2 2 2)] : List R6))) (pp (xI R6 ([(R6.mk 1 1 1 3 3 3)] : List R6).length (Zz ([(R6.mk 1 1 1 3 3 3)] : List R6))) (xw o22_0))) nn)))))))) (fun k24 => (lr 51 3 [1, 1, 1, 1, 1, 1, 1, 0] 1 10 [(0, (.bool false))] (sl Uk 42 [] ⟨[], [], [some [0]], []⟩ ⟨[], [], []⟩ (trs 5 [false, false, false]) (tt k24 (tt k23 (tt k22 (pp (pp (xI R6 ([(R6.mk 0 0 0 2 2 2)] : List R6).length (Zz ([(R6.mk 0 0 0 2 2 2)] : List R6))) (pp (xI R6 ([(R6.mk 1 1 1 3 3 3)] : List R6).length (Zz ([(R6.mk 1 1 1 3 3 3)] : List R6))) (xw o22_1))) (pp (pp (xI R6 ([(R6.mk 0 0 0 2 2 2)] : List R6).length (Zz ([(R6.mk 0 0 0 2 2 2)] : List R6))) (pp (xI R6 ([(R6.mk 1 1 1 3 3 3)] : List R6).length (Zz ([(R6.mk 1 1 1 3 3 3)] : List R6))) (xw o22_0))) nn)))))))))) (fun k23 => (lr 51 3 [1, 1, 1, 1, 1, 1, 1, 0] 1 10 [(0, (.bool false))] (sl Uk 42 [] ⟨[], [], [some [0]], []⟩ ⟨[], [], []⟩ (trs 3 [false, false, false, false, false]) (tt k23 (tt k22 (pp (pp (xI R6 ([(R6.mk 0 0 0 2 2 2)] : List R6).length (Zz ([(R6.mk 0 0 0 2 2 2)] : List R6))) (pp (xI R6 ([(R6.mk 1 1 1 3 3 3)] : List R6).length (Zz ([(R6.mk 1 1 1 3 3 3)] : List R6))) (xw o22_1))) (pp (pp (xI R6 ([(R6.mk 0 0 0 2 2 2)] : List R6).length (Zz ([(R6.mk 0 0 0 2 2 2)] : List R6))) (pp (xI R6 ([(R6.mk 1 1 1 3 3 3)] : List R6).length (Zz ([(R6.mk 1 1 1 3 3 3)] : List R6))) (xw o22_0))) nn))))))))) (fun k22 => (lr 51 3 [1, 1, 1, 1, 1, 1, 1, 0] 1 10 [(0, (.bool false))] (sl Uk 42 [] ⟨[], [], [some [0]], []⟩ ⟨[], [], []⟩ [false, false, false, false, false, false, false, false] (tt k22 (pp (pp (xI R6 ([(R6.mk 0 0 0 2 2 2)] : List R6).length (Zz ([(R6.mk 0 0 0 2 2 2)] : List R6))) (pp (xI R6 ([(R6.mk 1 1 1 3 3 3)] : List R6).length (Zz ([(R6.mk 1 1 1 3 3 3)] : List R6))) (xw o22_1))) (pp (pp (xI R6 ([(R6.mk 0 0 0 2 2 2)] : List R6).length (Zz ([(R6.mk 0 0 0 2 2 2)] : List R6))) (pp (xI R6 ([(R6.mk 1 1 1 3 3 3)] : List R6).length (Zz ([(R6.mk 1 1 1 3 3 3)] : List R6))) (xw o22_0))) nn))))))))))) (fun k21 => (lr 51 3 [1, 1, 1, 1, 1, 1, 1, 0] 1 10 [(0, (.bool false))] (sl Uk 47 [] ⟨[], [], [some [0]], []⟩ ⟨[], [], []⟩ (trs 8 [false, false, false]) (tt k21 (tt k20 (tt k19 (tt k18 (pp (pp (xI R6 ([(R6.mk 0 0 0 1 1 1)] : List R6).length (Zz ([(R6.mk 0 0 0 1 1 1)] : List R6))) (pp (xI R6 ([(R6.mk 0 0 0 2 2 2)] : List R6).length (Zz ([(R6.mk 0 0 0 2 2 2)] : List R6))) (xw o18_1))) (pp (pp (xI R6 ([(R6.mk 0 0 0 1 1 1)] : List R6).length (Zz ([(R6.mk 0 0 0 1 1 1)] : List R6))) (pp (xI R6 ([(R6.mk 0 0 0 2 2 2)] : List R6).length (Zz ([(R6.mk 0 0 0 2 2 2)] : List R6))) (xw o18_0))) nn))))))))))) (fun k20 => (lr 51 3 [1, 1, 1, 1, 1, 1, 1, 0] 1 10 [(0, (.bool false))] (sl Uk 47 [] ⟨[], [], [some [0]], []⟩ ⟨[], [], []⟩ (trs 5 [false, false, false, false, false, false]) (tt k20 (tt k19 (tt k18 (pp (pp (xI R6 ([(R6.mk 0 0 0 1 1 1)] : List R6).length (Zz ([(R6.mk 0 0 0 1 1 1)] : List R6))) (pp (xI R6 ([(R6.mk 0 0 0 2 2 2)] : List R6).length (Zz ([(R6.mk 0 0 0 2 2 2)] : List R6))) (xw o18_1))) (pp (pp (xI R6 ([(R6.mk 0 0 0 1 1 1)] : List R6).length (Zz ([(R6.mk 0 0 0 1 1 1)] : List R6))) (pp (xI R6 ([(R6.mk 0 0 0 2 2 2)] : List R6).length (Zz ([(R6.mk 0 0 0 2 2 2)] : List R6))) (xw o18_0))) nn)))))))))) (fun k19 => (lr 51 3 [1, 1, 1, 1, 1, 1, 1, 0] 1 10 [(0, (.bool false))] (sl Uk 47 [] ⟨[], [], [some [0]], []⟩ ⟨[], [], []⟩ (trs 3 [false, false, false, false, false, false, false, false]) (tt k19 (tt k18 (pp (pp (xI R6 ([(R6.mk 0 0 0 1 1 1)] : List R6).length (Zz ([(R6.mk 0 0 0 1 1 1)] : List R6))) (pp (xI R6 ([(R6.mk 0 0 0 2 2 2)] : List R6).length (Zz ([(R6.mk 0 0 0 2 2 2)] : List R6))) (xw o18_1))) (pp (pp (xI R6 ([(R6.mk 0 0 0 1 1 1)] : List R6).length (Zz ([(R6.mk 0 0 0 1 1 1)] : List R6))) (pp (xI R6 ([(R6.mk 0 0 0 2 2 2)] : List R6).length (Zz ([(R6.mk 0 0 0 2 2 2)] : List R6))) (xw o18_0))) nn))))))))) (fun k18 => (lr 51 3 [1, 1, 1, 1, 1, 1, 1, 0] 1 10 [(0, (.bool false))] (sl Uk 47 [] ⟨[], [], [some [0]], []⟩ ⟨[], [], []⟩ [false, false, false, false, false, false, false, false, false, false, false] (tt k18 (pp (pp (xI R6 ([(R6.mk 0 0 0 1 1 1)] : List R6).length (Zz ([(R6.mk 0 0 0 1 1 1)] : List R6))) (pp (xI R6 ([(R6.mk 0 0 0 2 2 2)] : List R6).length (Zz ([(R6.mk 0 0 0 2 2 2)] : List R6))) (xw o18_1))) (pp (pp (xI R6 ([(R6.mk 0 0 0 1 1 1)] : List R6).length (Zz ([(R6.mk 0 0 0 1 1 1)] : List R6))) (pp (xI R6 ([(R6.mk 0 0 0 2 2 2)] : List R6).length (Zz ([(R6.mk 0 0 0 2 2 2)] : List R6))) (xw o18_0))) nn))))))))))) (fun k17 => (lr 51 3 [1, 1, 1, 1, 1, 1, 1, 0] 1 10 [(0, (.bool false))] (sl Uk 52 [] ⟨[], [], [some [0]], []⟩ ⟨[], [], []⟩ (trs 8 [false, false, false, false, false, false]) (tt k17 (tt k16 (tt k15 (tt k14 (pp (pp (xI R6 ([(R6.mk 0 0 0 2 2 2)] : List R6).length (Zz ([(R6.mk 0 0 0 2 2 2)] : List R6))) (pp (xI R6 ([(R6.mk 2 0 0 3 1 4)] : List R6).length (Zz ([(R6.mk 2 0 0 3 1 4)] : List R6))) (xw o14_1))) (pp (pp (xI R6 ([(R6.mk 0 0 0 2 2 2)] : List R6).length (Zz ([(R6.mk 0 0 0 2 2 2)] : List R6))) (pp (xI R6 ([(R6.mk 2 0 0 3 1 4)] : List R6).length (Zz ([(R6.mk 2 0 0 3 1 4)] : List R6))) (xw o14_0))) nn))))))))))) (fun k16 => (lr 51 3 [1, 1, 1, 1, 1, 1, 1, 0] 1 10 [(0, (.bool false))] (sl Uk 52 [] ⟨[], [], [some [0]], []⟩ ⟨[], [], []⟩ (trs 5 [false, false, false, false, false, false, false, false, false]) (tt k16 (tt k15 (tt k14 (pp (pp (xI R6 ([(R6.mk 0 0 0 2 2 2)] : List R6).length (Zz ([(R6.mk 0 0 0 2 2 2)] : List R6))) (pp (xI R6 ([(R6.mk 2 0 0 3 1 4)] : List R6).length (Zz ([(R6.mk 2 0 0 3 1 4)] : List R6))) (xw o14_1))) (pp (pp (xI R6 ([(R6.mk 0 0 0 2 2 2)] : List R6).length (Zz ([(R6.mk 0 0 0 2 2 2)] : List R6))) (pp (xI R6 ([(R6.mk 2 0 0 3 1 4)] : List R6).length (Zz ([(R6.mk 2 0 0 3 1 4)] : List R6))) (xw o14_0))) nn)))))))))) (fun k15 => (lr 51 3 [1, 1, 1, 1, 1, 1, 1, 0] 1 10 [(0, (.bool false))] (sl Uk 52 [] ⟨[], [], [some [0]], []⟩ ⟨[], [], []⟩ (trs 3 [false, false, false, false, false, false, false, false, false, false, false]) (tt k15 (tt k14 (pp (pp (xI R6 ([(R6.mk 0 0 0 2 2 2)] : List R6).length (Zz ([(R6.mk 0 0 0 2 2 2)] : List R6))) (pp (xI R6 ([(R6.mk 2 0 0 3 1 4)] : List R6).length (Zz ([(R6.mk 2 0 0 3 1 4)] : List R6))) (xw o14_1))) (pp (pp (xI R6 ([(R6.mk 0 0 0 2 2 2)] : List R6).length (Zz ([(R6.mk 0 0 0 2 2 2)] : List R6))) (pp (xI R6 ([(R6.mk 2 0 0 3 1 4)] : List R6).length (Zz ([(R6.mk 2 0 0 3 1 4)] : List R6))) (xw o14_0))) nn))))))))) (fun k14 => (lr 51 3 [1, 1, 1, 1, 1, 1, 1, 0] 1 10 [(0, (.bool false))] (sl Uk 52 [] ⟨[], [], [some [0]], []⟩ ⟨[], [], []⟩ [false, false, false, false, false, false, false, false, false, false, false, false, false, false] (tt k14 (pp (pp (xI R6 ([(R6.mk 0 0 0 2 2 2)] : List R6).length (Zz ([(R6.mk 0 0 0 2 2 2)] : List R6))) (pp (xI R6 ([(R6.mk 2 0 0 3 1 4)] : List R6).length (Zz ([(R6.mk 2 0 0 3 1 4)] : List R6))) (xw o14_1))) (pp (pp (xI R6 ([(R6.mk 0 0 0 2 2 2)] : List R6).length (Zz ([(R6.mk 0 0 0 2 2 2)] : List R6))) (pp (xI R6 ([(R6.mk 2 0 0 3 1 4)] : List R6).length (Zz ([(R6.mk 2 0 0 3 1 4)] : List R6))) (xw o14_0))) nn))))))))))) (fun k13 => (lr 51 3 [1, 1, 1, 1, 1, 1, 1, 0] 1 10 [(0, (.bool false))] (sl Uk 281 [] ⟨[], [], [some [0]], []⟩ ⟨[], [], []⟩ [true, false, false, false, true, false, false, false, true, false, false, false, true, false, false, false, true, false, false, false, true, false, false, false, false, true, true, false, false, false, false, false, false, false, false, false] (tt k13 (tt k12 (tt k11 (tt k10 (pp (pp (xI R6 ([(R6.mk 0 0 0 2 2 2)] : List R6).length (Zz ([(R6.mk 0 0 0 2 2 2)] : List R6))) (xw o10_0)) (tt k9 (tt k8 (pp (pp (xI R6 ([(R6.mk 0 0 0 2 2 2)] : List R6).length (Zz ([(R6.mk 0 0 0 2 2 2)] : List R6))) (xw o8_0)) (tt k7 (tt k6 (pp (pp (xI R6 ([(R6.mk 0 0 0 2 2 2)] : List R6).length (Zz ([(R6.mk 0 0 0 2 2 2)] : List R6))) (xw o6_0)) (tt k5 (tt k4 (pp (pp (xI R6 ([(R6.mk 0 0 0 2 2 2)] : List R6).length (Zz ([(R6.mk 0 0 0 2 2 2)] : List R6))) (xw o4_0)) (tt k3 (tt k2 (pp (pp (xI R6 ([(R6.mk 0 0 0 2 2 2)] : List R6).length (Zz ([(R6.mk 0 0 0 2 2 2)] : List R6))) (xw o2_0)) (tt k1 (tt k0 (pp (pp (xI R6 ([(R6.mk 0 0 0 2 2 2)] : List R6).length (Zz ([(R6.mk 0 0 0 2 2 2)] : List R6))) (xw o0_1)) (pp (pp (xI R6 ([(R6.mk 0 0 0 2 2 2)] : List R6).length (Zz ([(R6.mk 0 0 0 2 2 2)] : List R6))) (pp (xI R6 ([(R6.mk 2 0 0 3 1 4)] : List R6).length (Zz ([(R6.mk 2 0 0 3 1 4)] : List R6))) (xw o0_0))) nn)))))))))))))))))))))))))) (fun k12 => (lr 51 3 [1, 1, 1, 1, 1, 1, 1, 0] 1 10 [(0, (.bool false))] (sl Uk 281 [] ⟨[], [], [some [0]], []⟩ ⟨[], [], []⟩ [true, false, false, false, true, false, false, false, true, false, false, false, true, false, false, false, true, false, false, false, true, false, false, false, false, false, false, false, false, false, false, false, false, false, false, false] (tt k12 (tt k11 (tt k10 (pp (pp (xI R6 ([(R6.mk 0 0 0 2 2 2)] : List R6).length (Zz ([(R6.mk 0 0 0 2 2 2)] : List R6))) (xw o10_0)) (tt k9 (tt k8 (pp (pp (xI R6 ([(R6.mk 0 0 0 2 2 2)] : List R6).length (Zz ([(R6.mk 0 0 0 2 2 2)] : List R6))) (xw o8_0)) (tt k7 (tt k6 (pp (pp (xI R6 ([(R6.mk 0 0 0 2 2 2)] : List R6).length (Zz ([(R6.mk 0 0 0 2 2 2)] : List R6))) (xw o6_0)) (tt k5 (tt k4 (pp (pp (xI R6 ([(R6.mk 0 0 0 2 2 2)] : List R6).length (Zz ([(R6.mk 0 0 0 2 2 2)] : List R6))) (xw o4_0)) (tt k3 (tt k2 (pp (pp (xI R6 ([(R6.mk 0 0 0 2 2 2)] : List R6).length (Zz ([(R6.mk 0 0 0 2 2 2)] : List R6))) (xw o2_0)) (tt k1 (tt k0 (pp (pp (xI R6 ([(R6.mk 0 0 0 2 2 2)] : List R6).length (Zz ([(R6.mk 0 0 0 2 2 2)] : List R6))) (xw o0_1)) (pp (pp (xI R6 ([(R6.mk 0 0 0 2 2 2)] : List R6).length (Zz ([(R6.mk 0 0 0 2 2 2)] : List R6))) (pp (xI R6 ([(R6.mk 2 0 0 3 1 4)] : List R6).length (Zz ([(R6.mk 2 0 0 3 1 4)] : List R6))) (xw o0_0))) nn))))))))))))))))))))))))))))))))))))))))))))))))))))))))
theorem w9t (n : Nat) (vs : List AVal) (h : Ya (x3j) n (z9u) = .ret vs) : Je Tryz.prog (Zy Tryz.prog 27) (Zf Tryz.prog 27 [] true []) vs := by
 have := Zn (x9a) n _ (x3k)
 rwa [h] at this
end Go.Am
namespace Go.Am
open Go.Proofs
theorem y4q {l : List R6} (h : z3m l = 0) : Zi l = 0 := (y5x l).trans h
theorem z7n : Zi ([(R6.mk 0 0 0 2 2 2)] : List R6) = 0 := y4q (by kernel_rfl)
theorem litA : Zi ([(R6.mk 2 0 0 3 1 4)] : List R6) = 0 := y4q (by kernel_rfl)
theorem litB : Zi ([(R6.mk 0 0 0 1 1 1)] : List R6) = 0 := y4q (by kernel_rfl)
theorem litD : Zi ([(R6.mk 1 1 1 3 3 3)] : List R6) = 0 := y4q (by kernel_rfl)
theorem al0 : Vm ([(R6.mk 0 0 0 2 2 2)] : List R6) 0 = 0 := by
 unfold Vm
 rw [z7n]
 kernel_rfl
theorem al1 : Vw ([(R6.mk 0 0 0 2 2 2)] : List R6) 0 = 4 := by
 unfold Vw
 rw [z7n]
 kernel_rfl
theorem al2 : Vm ([(R6.mk 0 0 0 2 2 2)] : List R6) 1 = 0 := by
 unfold Vm
 rw [z7n]
 kernel_rfl
theorem al3 : Vw ([(R6.mk 0 0 0 2 2 2)] : List R6) 1 = 4 := by
 unfold Vw
 rw [z7n]
 kernel_rfl
theorem al4 : Vm ([(R6.mk 0 0 0 2 2 2)] : List R6) 2 = 0 := by
 unfold Vm
 rw [z7n]
 kernel_rfl
theorem al5 : Vw ([(R6.mk 0 0 0 2 2 2)] : List R6) 2 = 4 := by
 unfold Vw
 rw [z7n]
 kernel_rfl
theorem al6 : Vm ([(R6.mk 0 0 0 2 2 2)] : List R6) 3 = 0 := by
 unfold Vm
 rw [z7n]
 kernel_rfl
theorem al7 : Vw ([(R6.mk 0 0 0 2 2 2)] : List R6) 3 = 4 := by
 unfold Vw
 rw [z7n]
 kernel_rfl
theorem al8 : Vm ([(R6.mk 0 0 0 2 2 2)] : List R6) 4 = 0 := by
 unfold Vm
 rw [z7n]
 kernel_rfl
theorem al9 : Vw ([(R6.mk 0 0 0 2 2 2)] : List R6) 4 = 4 := by
 unfold Vw
 rw [z7n]
 kernel_rfl
theorem al10 : Vm ([(R6.mk 0 0 0 2 2 2)] : List R6) 5 = 0 := by
 unfold Vm
 rw [z7n]
 kernel_rfl
theorem al11 : Vw ([(R6.mk 0 0 0 2 2 2)] : List R6) 5 = 4 := by
 unfold Vw
 rw [z7n]
 kernel_rfl
theorem al12 : z5f ([(R6.mk 0 0 0 2 2 2)] : List R6) ([(R6.mk 2 0 0 3 1 4)] : List R6) 0 = 0 := by
 unfold z5f
 rw [z7n, litA]
 kernel_rfl
theorem al13 : z2f ([(R6.mk 0 0 0 2 2 2)] : List R6) ([(R6.mk 2 0 0 3 1 4)] : List R6) 0 = 2 := by
 unfold z2f
 rw [z7n, litA]
 kernel_rfl
theorem al14 : z1q ([(R6.mk 0 0 0 2 2 2)] : List R6) ([(R6.mk 2 0 0 3 1 4)] : List R6) = 0 := by
 unfold z1q
 unfold Uh
 rw [z7n, litA]
 kernel_rfl
theorem al15 : z1r ([(R6.mk 0 0 0 2 2 2)] : List R6) ([(R6.mk 2 0 0 3 1 4)] : List R6) = 2 := by
 unfold z1r
 rw [z7n, litA]
 kernel_rfl
theorem al16 : Uh ([(R6.mk 0 0 0 2 2 2)] : List R6) ([(R6.mk 2 0 0 3 1 4)] : List R6) = 0 := by
 unfold Uh
 rw [z7n, litA]
 kernel_rfl
theorem al17 : Jt ([(R6.mk 0 0 0 2 2 2)] : List R6) ([(R6.mk 2 0 0 3 1 4)] : List R6) = 2 := by
 unfold Jt
 rw [z7n, litA]
 kernel_rfl
theorem al18 : z1q ([(R6.mk 0 0 0 1 1 1)] : List R6) ([(R6.mk 0 0 0 2 2 2)] : List R6) = 0 := by
 unfold z1q
 unfold Uh
 rw [litB, z7n]
 kernel_rfl
theorem al19 : z1r ([(R6.mk 0 0 0 1 1 1)] : List R6) ([(R6.mk 0 0 0 2 2 2)] : List R6) = 4 := by
 unfold z1r
 rw [litB, z7n]
 kernel_rfl
theorem al20 : Uh ([(R6.mk 0 0 0 1 1 1)] : List R6) ([(R6.mk 0 0 0 2 2 2)] : List R6) = 0 := by
 unfold Uh
 rw [litB, z7n]
 kernel_rfl
theorem al21 : Jt ([(R6.mk 0 0 0 1 1 1)] : List R6) ([(R6.mk 0 0 0 2 2 2)] : List R6) = 0 := by
 unfold Jt
 rw [litB, z7n]
 kernel_rfl
theorem al22 : z1q ([(R6.mk 0 0 0 2 2 2)] : List R6) ([(R6.mk 1 1 1 3 3 3)] : List R6) = 0 := by
 unfold z1q
 unfold Uh
 rw [z7n, litD]
 kernel_rfl
theorem al23 : z1r ([(R6.mk 0 0 0 2 2 2)] : List R6) ([(R6.mk 1 1 1 3 3 3)] : List R6) = 3 := by
 unfold z1r
 rw [z7n, litD]
 kernel_rfl
theorem al24 : Uh ([(R6.mk 0 0 0 2 2 2)] : List R6) ([(R6.mk 1 1 1 3 3 3)] : List R6) = 0 := by
 unfold Uh
 rw [z7n, litD]
 kernel_rfl
theorem al25 : Jt ([(R6.mk 0 0 0 2 2 2)] : List R6) ([(R6.mk 1 1 1 3 3 3)] : List R6) = 0 := by
 unfold Jt
 rw [z7n, litD]
 kernel_rfl
theorem v8t : ∃ N, Ya x3j N z9u = .ret [.bool true] := by
 refine ⟨0, ?_⟩
 unfold z9u
 simp only [Zg, show Xt ([(R6.mk 0 0 0 2 2 2)] : List R6) 0 = true from rfl, show Xt ([(R6.mk 0 0 0 2 2 2)] : List R6) 1 = true from rfl, show Xt ([(R6.mk 0 0 0 2 2 2)] : List R6) 2 = true from rfl, show Xt ([(R6.mk 0 0 0 2 2 2)] : List R6) 3 = true from rfl, show Xt ([(R6.mk 0 0 0 2 2 2)] : List R6) 4 = true from rfl, show Xt ([(R6.mk 0 0 0 2 2 2)] : List R6) 5 = true from rfl, show Kt ([(R6.mk 0 0 0 2 2 2)] : List R6) ([(R6.mk 2 0 0 3 1 4)] : List R6) 0 = true from rfl, show Jz ([(R6.mk 0 0 0 2 2 2)] : List R6) ([(R6.mk 2 0 0 3 1 4)] : List R6) = true from rfl, show Xi ([(R6.mk 0 0 0 2 2 2)] : List R6) ([(R6.mk 2 0 0 3 1 4)] : List R6) = true from rfl, show Jz ([(R6.mk 0 0 0 1 1 1)] : List R6) ([(R6.mk 0 0 0 2 2 2)] : List R6) = true from rfl, show Xi ([(R6.mk 0 0 0 1 1 1)] : List R6) ([(R6.mk 0 0 0 2 2 2)] : List R6) = true from rfl, show Jz ([(R6.mk 0 0 0 2 2 2)] : List R6) ([(R6.mk 1 1 1 3 3 3)] : List R6) = true from rfl, show Xi ([(R6.mk 0 0 0 2 2 2)] : List R6) ([(R6.mk 1 1 1 3 3 3)] : List R6) = true from rfl, al0, al1, al2, al3, al4, al5, al6, al7, al8, al9, al10, al11, al12, al13, al14, al15, al16, al17, al18, al19, al20, al21, al22, al23, al24, al25, show ((0 : Int) != 0) = false from rfl, show ((4 : Int) != 4) = false from rfl, show ((0 : Int) == 0) = true from rfl, show ((2 : Int) == 2) = true from rfl, show ((4 : Int) == 4) = true from rfl, show ((3 : Int) == 3) = true from rfl, cond_true, cond_false]
 rfl
def v6w : List AVal → Option (AVal × Bool)
 | [] => some (.bool true, true)
 | _ => none
theorem w9a {S : Specs} (hS : Zk Tryz.prog S) : Zk Tryz.prog (S.with x5f v6w) := by
 refine z1b hS (by kernel_rfl) fun args v h => ?_
 unfold v6w at h
 split at h
 ·simp only [Option.some.injEq, Prod.mk.injEq, and_true] at h
  subst h
  obtain ⟨N, hN⟩ := v8t
  exact ⟨_, _, .nil, rfl, w9t N _ hN, 3, rfl⟩
 ·cases h
def Tf : Specs := (Te.with x5f v6w)
theorem Tf_ok : Zk Tryz.prog Tf := (w9a Uk)
end Go.Am
namespace Go.Am
open Go.Proofs
def Tv : Specs := ((Tf.with (nSl .u) (fSl .u)).with (nSl .e) (fSl .e)).with (nSl .d) (fSl .d)
theorem Tv_ok : Zk Tryz.prog Tv := w3n .d (w3n .e (w3n .u Tf_ok))
end Go.Am
namespace Go.Am
open Go.Proofs
inductive kntS where
def kntC (x0_0 : Int) (x0_1 : Int) (x0_2 : Int) (x0_3 : Int) (x0_4 : Int) (x0_5 : Int) (x1_0 : Int) (x1_1 : Int) (x1_2 : Int) (x1_3 : Int) (x1_4 : Int) (x1_5 : Int) : kntS → Cfg
 := nofun
def x1x (x0_0 : Int) (x0_1 : Int) (x0_2 : Int) (x0_3 : Int) (x0_4 : Int) (x0_5 : Int) (x1_0 : Int) (x1_1 : Int) (x1_2 : Int) (x1_3 : Int) (x1_4 : Int) (x1_5 : Int) : kntS → Xo kntS
 := nofun
def z9k (x0_0 : Int) (x0_1 : Int) (x0_2 : Int) (x0_3 : Int) (x0_4 : Int) (x0_5 : Int) (x1_0 : Int) (x1_1 : Int) (x1_2 : Int) (x1_3 : Int) (x1_4 : Int) (x1_5 : Int) : Xo kntS := (bif ((IntKind.wrap .i64 ((Wa x0_3 x1_3) - (Wb x0_0 x1_0))) == 0) then (bif (decide ((IntKind.wrap .i64 ((Wa x0_4 x1_4) - (Wb x0_1 x1_1))) > 0)) then (bif (decide ((IntKind.wrap .i64 ((Wa x0_5 x1_5) - (Wb x0_2 x1_2))) > 0)) then (.ret [(.int .i64 (IntKind.wrap .i64 ((IntKind.wrap .i64 ((Wa x0_4 x1_4) - (Wb x0_1 x1_1))) * (IntKind.wrap .i64 ((Wa x0_5 x1_5) - (Wb x0_2 x1_2))))))]) else (bif (decide ((IntKind.wrap .i64 ((Wa x0_3 x1_3) - (Wb x0_0 x1_0))) > 0)) then (bif ((IntKind.wrap .i64 ((Wa x0_4 x1_4) - (Wb x0_1 x1_1))) == 0) then (bif ((IntKind.wrap .i64 ((Wa x0_5 x1_5) - (Wb x0_2 x1_2))) == 0) then (.ret [(.int .i64 (IntKind.wrap .i64 ((IntKind.wrap .i64 ((Wa x0_3 x1_3) - (Wb x0_0 x1_0))) * (IntKind.wrap .i64 ((Wa x0_4 x1_4) - (Wb x0_1 x1_1))))))]) else (.ret [(.int .i64 0)])) else (bif ((IntKind.wrap .i64 ((Wa x0_5 x1_5) - (Wb x0_2 x1_2))) == 0) then (.ret [(.int .i64 (IntKind.wrap .i64 ((IntKind.wrap .i64 ((Wa x0_3 x1_3) - (Wb x0_0 x1_0))) * (IntKind.wrap .i64 ((Wa x0_4 x1_4) - (Wb x0_1 x1_1))))))]) else (.ret [(.int .i64 0)]))) else (.ret [(.int .i64 0)]))) else (bif (decide ((IntKind.wrap .i64 ((Wa x0_3 x1_3) - (Wb x0_0 x1_0))) > 0)) then (bif ((IntKind.wrap .i64 ((Wa x0_4 x1_4) - (Wb x0_1 x1_1))) == 0) then (bif (decide ((IntKind.wrap .i64 ((Wa x0_5 x1_5) - (Wb x0_2 x1_2))) > 0)) then (.ret [(.int .i64 (IntKind.wrap .i64 ((IntKind.wrap .i64 ((Wa x0_3 x1_3) - (Wb x0_0 x1_0))) * (IntKind.wrap .i64 ((Wa x0_5 x1_5) - (Wb x0_2 x1_2))))))]) else (.ret [(.int .i64 0)])) else (.ret [(.int .i64 0)])) else (.ret [(.int .i64 0)]))) else (bif (decide ((IntKind.wrap .i64 ((Wa x0_3 x1_3) - (Wb x0_0 x1_0))) > 0)) then (bif ((IntKind.wrap .i64 ((Wa x0_4 x1_4) - (Wb x0_1 x1_1))) == 0) then (bif (decide ((IntKind.wrap .i64 ((Wa x0_5 x1_5) - (Wb x0_2 x1_2))) > 0)) then (.ret [(.int .i64 (IntKind.wrap .i64 ((IntKind.wrap .i64 ((Wa x0_3 x1_3) - (Wb x0_0 x1_0))) * (IntKind.wrap .i64 ((Wa x0_5 x1_5) - (Wb x0_2 x1_2))))))]) else (bif (decide ((IntKind.wrap .i64 ((Wa x0_4 x1_4) - (Wb x0_1 x1_1))) > 0)) then (bif ((IntKind.wrap .i64 ((Wa x0_5 x1_5) - (Wb x0_2 x1_2))) == 0) then (.ret [(.int .i64 (IntKind.wrap .i64 ((IntKind.wrap .i64 ((Wa x0_3 x1_3) - (Wb x0_0 x1_0))) * (IntKind.wrap .i64 ((Wa x0_4 x1_4) - (Wb x0_1 x1_1))))))]) else (.ret [(.int .i64 0)])) else (.ret [(.int .i64 0)]))) else (bif (decide ((IntKind.wrap .i64 ((Wa x0_4 x1_4) - (Wb x0_1 x1_1))) > 0)) then (bif ((IntKind.wrap .i64 ((Wa x0_5 x1_5) - (Wb x0_2 x1_2))) == 0) then (.ret [(.int .i64 (IntKind.wrap .i64 ((IntKind.wrap .i64 ((Wa x0_3 x1_3) - (Wb x0_0 x1_0))) * (IntKind.wrap .i64 ((Wa x0_4 x1_4) - (Wb x0_1 x1_1))))))]) else (.ret [(.int .i64 0)])) else (.ret [(.int .i64 0)]))) else (.ret [(.int .i64 0)])))
theorem x8b (x0_0 : Int) (x0_1 : Int) (x0_2 : Int) (x0_3 : Int) (x0_4 : Int) (x0_5 : Int) (x1_0 : Int) (x1_1 : Int) (x1_2 : Int) (x1_3 : Int) (x1_4 : Int) (x1_5 : Int) : ∀ s, Xn Tryz.prog (Zy Tryz.prog 87) (kntC x0_0 x0_1 x0_2 x0_3 x0_4 x0_5 x1_0 x1_1 x1_2 x1_3 x1_4 x1_5) (kntC x0_0 x0_1 x0_2 x0_3 x0_4 x0_5 x1_0 x1_1 x1_2 x1_3 x1_4 x1_5 s) (x1x x0_0 x0_1 x0_2 x0_3 x0_4 x0_5 x1_0 x1_1 x1_2 x1_3 x1_4 x1_5 s)
 := nofun
theorem x1y (x0_0 : Int) (x0_1 : Int) (x0_2 : Int) (x0_3 : Int) (x0_4 : Int) (x0_5 : Int) (x1_0 : Int) (x1_1 : Int) (x1_2 : Int) (x1_3 : Int) (x1_4 : Int) (x1_5 : Int) : Xn Tryz.prog (Zy Tryz.prog 87) (kntC x0_0 x0_1 x0_2 x0_3 x0_4 x0_5 x1_0 x1_1 x1_2 x1_3 x1_4 x1_5) (Zf Tryz.prog 87 [(.agg [(.int .i64 x0_0), (.int .i64 x0_1), (.int .i64 x0_2), (.int .i64 x0_3), (.int .i64 x0_4), (.int .i64 x0_5)]), (.agg [(.int .i64 x1_0), (.int .i64 x1_1), (.int .i64 x1_2), (.int .i64 x1_3), (.int .i64 x1_4), (.int .i64 x1_5)])] true []) (z9k x0_0 x0_1 x0_2 x0_3 x0_4 x0_5 x1_0 x1_1 x1_2 x1_3 x1_4 x1_5) := (lb (fun k0 => (lb (fun k1 => (lb (fun k2 => (lr 95 87 [1, 1, 1, 1, 0, 0, 1, 0, 0] 1 5 [(4, (ii (wr ((wr ((Wa x0_4 x1_4) - (Wb x0_1 x1_1))) * (wr ((Wa x0_5 x1_5) - (Wb x0_2 x1_2)))))))] (sl Wg 87 [] ⟨[], [], [some [4]], []⟩ ⟨[], [], []⟩ (trs 5 []) (tt k2 (tt k1 (tt k0 nn)))))) (fun k2 => (lb (fun k3 => (lb (fun k4 => (lb (fun k5 => (lr 95 87 [1, 1, 1, 1, 0, 0, 1, 0, 0] 1 5 [(4, (ii (wr ((wr ((Wa x0_3 x1_3) - (Wb x0_0 x1_0))) * (wr ((Wa x0_4 x1_4) - (Wb x0_1 x1_1)))))))] (sl Wg 117 [] ⟨[], [], [some [4]], []⟩ ⟨[], [], []⟩ (trs 4 [false, true, true, true, true, false, true, true, true, true, true]) (tt k5 (tt k1 (tt k3 (tt k2 (tt k4 (tt k3 (tt k2 (tt k1 (tt k0 nn)))))))))))) (fun k5 => (lr 95 3 [1, 1, 1, 1, 1, 1, 1, 0] 1 5 [(4, (ii 0))] (sl Wg 116 [] ⟨[], [], [some [4]], []⟩ ⟨[], [], []⟩ (trs 4 [false, true, true, true, true, false, true, true, true, true, false]) (tt k5 (tt k1 (tt k3 (tt k2 (tt k4 (tt k3 (tt k2 (tt k1 (tt k0 nn)))))))))))))) (fun k4 => (lb (fun k5 => (lr 95 87 [1, 1, 1, 1, 0, 0, 1, 0, 0] 1 5 [(4, (ii (wr ((wr ((Wa x0_3 x1_3) - (Wb x0_0 x1_0))) * (wr ((Wa x0_4 x1_4) - (Wb x0_1 x1_1)))))))] (sl Wg 117 [] ⟨[], [], [some [4]], []⟩ ⟨[], [], []⟩ (trs 4 [false, true, true, false, false, false, true, true, true, true, true]) (tt k5 (tt k1 (tt k3 (tt k4 (tt k3 (tt k2 (tt k1 (tt k0 nn))))))))))) (fun k5 => (lr 95 3 [1, 1, 1, 1, 1, 1, 1, 0] 1 5 [(4, (ii 0))] (sl Wg 116 [] ⟨[], [], [some [4]], []⟩ ⟨[], [], []⟩ (trs 4 [false, true, true, false, false, false, true, true, true, true, false]) (tt k5 (tt k1 (tt k3 (tt k4 (tt k3 (tt k2 (tt k1 (tt k0 nn))))))))))))))) (fun k3 => (lr 95 3 [1, 1, 1, 1, 1, 1, 1, 0] 1 5 [(4, (ii 0))] (sl Wg 116 [] ⟨[], [], [some [4]], []⟩ ⟨[], [], []⟩ (trs 4 [false, false, false, false, false, false, false, false, false, false, false]) (tt k3 (tt k3 (tt k2 (tt k1 (tt k0 nn)))))))))))) (fun k1 => (lb (fun k2 => (lb (fun k3 => (lb (fun k4 => (lr 95 87 [1, 1, 1, 1, 0, 0, 1, 0, 0] 1 5 [(4, (ii (wr ((wr ((Wa x0_3 x1_3) - (Wb x0_0 x1_0))) * (wr ((Wa x0_5 x1_5) - (Wb x0_2 x1_2)))))))] (sl Wg 102 [] ⟨[], [], [some [4]], []⟩ ⟨[], [], []⟩ [true, true, false, false, false, true, true, true, true, true] (tt k4 (tt k3 (tt k2 (tt k1 (tt k0 nn)))))))) (fun k4 => (lr 95 3 [1, 1, 1, 1, 1, 1, 1, 0] 1 5 [(4, (ii 0))] (sl Wg 116 [] ⟨[], [], [some [4]], []⟩ ⟨[], [], []⟩ [true, true, false, false, false, true, true, true, true, false, true, true, false, false, false] (tt k1 (tt k2 (tt k4 (tt k3 (tt k2 (tt k1 (tt k0 nn)))))))))))) (fun k3 => (lr 95 3 [1, 1, 1, 1, 1, 1, 1, 0] 1 5 [(4, (ii 0))] (sl Wg 116 [] ⟨[], [], [some [4]], []⟩ ⟨[], [], []⟩ [true, true, false, false, false, true, true, false, false, false, true, true, false, false, false] (tt k1 (tt k2 (tt k3 (tt k2 (tt k1 (tt k0 nn))))))))))) (fun k2 => (lr 95 3 [1, 1, 1, 1, 1, 1, 1, 0] 1 5 [(4, (ii 0))] (sl Wg 116 [] ⟨[], [], [some [4]], []⟩ ⟨[], [], []⟩ [true, true, false, false, false, false, false, false, false, false, false, false, false, false, false] (tt k2 (tt k2 (tt k1 (tt k0 nn))))))))))) (fun k0 => (lb (fun k1 => (lb (fun k2 => (lb (fun k3 => (lr 95 87 [1, 1, 1, 1, 0, 0, 1, 0, 0] 1 5 [(4, (ii (wr ((wr ((Wa x0_3 x1_3) - (Wb x0_0 x1_0))) * (wr ((Wa x0_5 x1_5) - (Wb x0_2 x1_2)))))))] (sl Wg 102 [] ⟨[], [], [some [4]], []⟩ ⟨[], [], []⟩ [false, false, false, false, false, true, true, true, true, true] (tt k3 (tt k2 (tt k1 (tt k0 nn))))))) (fun k3 => (lb (fun k4 => (lb (fun k5 => (lr 95 87 [1, 1, 1, 1, 0, 0, 1, 0, 0] 1 5 [(4, (ii (wr ((wr ((Wa x0_3 x1_3) - (Wb x0_0 x1_0))) * (wr ((Wa x0_4 x1_4) - (Wb x0_1 x1_1)))))))] (sl Wg 117 [] ⟨[], [], [some [4]], []⟩ ⟨[], [], []⟩ [false, false, false, false, false, true, true, true, true, false, true, true, true, true, true] (tt k5 (tt k4 (tt k1 (tt k3 (tt k2 (tt k1 (tt k0 nn)))))))))) (fun k5 => (lr 95 3 [1, 1, 1, 1, 1, 1, 1, 0] 1 5 [(4, (ii 0))] (sl Wg 116 [] ⟨[], [], [some [4]], []⟩ ⟨[], [], []⟩ [false, false, false, false, false, true, true, true, true, false, true, true, true, true, false] (tt k5 (tt k4 (tt k1 (tt k3 (tt k2 (tt k1 (tt k0 nn)))))))))))) (fun k4 => (lr 95 3 [1, 1, 1, 1, 1, 1, 1, 0] 1 5 [(4, (ii 0))] (sl Wg 116 [] ⟨[], [], [some [4]], []⟩ ⟨[], [], []⟩ [false, false, false, false, false, true, true, true, true, false, true, true, false, false, false] (tt k4 (tt k1 (tt k3 (tt k2 (tt k1 (tt k0 nn))))))))))))) (fun k2 => (lb (fun k3 => (lb (fun k4 => (lr 95 87 [1, 1, 1, 1, 0, 0, 1, 0, 0] 1 5 [(4, (ii (wr ((wr ((Wa x0_3 x1_3) - (Wb x0_0 x1_0))) * (wr ((Wa x0_4 x1_4) - (Wb x0_1 x1_1)))))))] (sl Wg 117 [] ⟨[], [], [some [4]], []⟩ ⟨[], [], []⟩ [false, false, false, false, false, true, true, false, false, false, true, true, true, true, true] (tt k4 (tt k3 (tt k1 (tt k2 (tt k1 (tt k0 nn))))))))) (fun k4 => (lr 95 3 [1, 1, 1, 1, 1, 1, 1, 0] 1 5 [(4, (ii 0))] (sl Wg 116 [] ⟨[], [], [some [4]], []⟩ ⟨[], [], []⟩ [false, false, false, false, false, true, true, false, false, false, true, true, true, true, false] (tt k4 (tt k3 (tt k1 (tt k2 (tt k1 (tt k0 nn))))))))))) (fun k3 => (lr 95 3 [1, 1, 1, 1, 1, 1, 1, 0] 1 5 [(4, (ii 0))] (sl Wg 116 [] ⟨[], [], [some [4]], []⟩ ⟨[], [], []⟩ [false, false, false, false, false, true, true, false, false, false, true, true, false, false, false] (tt k3 (tt k1 (tt k2 (tt k1 (tt k0 nn)))))))))))) (fun k1 => (lr 95 3 [1, 1, 1, 1, 1, 1, 1, 0] 1 5 [(4, (ii 0))] (sl Wg 116 [] ⟨[], [], [some [4]], []⟩ ⟨[], [], []⟩ [false, false, false, false, false, false, false, false, false, false, false, false, false, false, false] (tt k1 (tt k1 (tt k0 nn)))))))))
theorem w8o (x0_0 : Int) (x0_1 : Int) (x0_2 : Int) (x0_3 : Int) (x0_4 : Int) (x0_5 : Int) (x1_0 : Int) (x1_1 : Int) (x1_2 : Int) (x1_3 : Int) (x1_4 : Int) (x1_5 : Int) (n : Nat) (vs : List AVal) (h : Ya (x1x x0_0 x0_1 x0_2 x0_3 x0_4 x0_5 x1_0 x1_1 x1_2 x1_3 x1_4 x1_5) n (z9k x0_0 x0_1 x0_2 x0_3 x0_4 x0_5 x1_0 x1_1 x1_2 x1_3 x1_4 x1_5) = .ret vs) : Je Tryz.prog (Zy Tryz.prog 87) (Zf Tryz.prog 87 [(.agg [(.int .i64 x0_0), (.int .i64 x0_1), (.int .i64 x0_2), (.int .i64 x0_3), (.int .i64 x0_4), (.int .i64 x0_5)]), (.agg [(.int .i64 x1_0), (.int .i64 x1_1), (.int .i64 x1_2), (.int .i64 x1_3), (.int .i64 x1_4), (.int .i64 x1_5)])] true []) vs := by
 have := Zn (x8b x0_0 x0_1 x0_2 x0_3 x0_4 x0_5 x1_0 x1_1 x1_2 x1_3 x1_4 x1_5) n _ (x1y x0_0 x0_1 x0_2 x0_3 x0_4 x0_5 x1_0 x1_1 x1_2 x1_3 x1_4 x1_5)
 rwa [h] at this
end Go.Am
namespace Go.Am
open Go.Proofs
open Go.Sort Go.Shelf Go.RowKit Go.Lib
def kX (a d a' d' : Int) : Int := IntKind.wrap .i64 (Wa d d' - Wb a a')
def kT (x y z : Int) : Int := bif x == 0 && (decide (y > 0) && decide (z > 0)) then IntKind.wrap .i64 (y * z) else bif decide (x > 0) && (y == 0 && decide (z > 0)) then IntKind.wrap .i64 (x * z) else bif decide (x > 0) && (decide (y > 0) && z == 0) then IntKind.wrap .i64 (x * y) else 0
def kntV (a b c d e f a' b' c' d' e' f' : Int) : Int := kT (kX a d a' d') (kX b e b' e') (kX c f c' f')
theorem triI (t : Int) : ((t == 0) = true ∧ decide (t > 0) = false) ∨ ((t == 0) = false ∧ decide (t > 0) = true) ∨ ((t == 0) = false ∧ decide (t > 0) = false) := by
 rcases Int.lt_trichotomy t 0 with h | h | h
 ·exact .inr (.inr ⟨v3f (by omega), decide_eq_false (by omega)⟩)
 ·exact .inl ⟨w4q h, decide_eq_false (by omega)⟩
 ·exact .inr (.inl ⟨v3f (by omega), decide_eq_true (by omega)⟩)
theorem v6j (a b c d e f a' b' c' d' e' f' : Int) : ∃ N, Ya (x1x a b c d e f a' b' c' d' e' f') N (z9k a b c d e f a' b' c' d' e' f') = .ret [.int .i64 (kntV a b c d e f a' b' c' d' e' f')] := ⟨0, by
 unfold z9k kntV
 show Ya _ 0 _ = Xo.ret [.int .i64 (kT (IntKind.wrap .i64 (Wa d d' - Wb a a')) (IntKind.wrap .i64 (Wa e e' - Wb b b')) (IntKind.wrap .i64 (Wa f f' - Wb c c')))]
 generalize IntKind.wrap .i64 (Wa d d' - Wb a a') = x
 generalize IntKind.wrap .i64 (Wa e e' - Wb b b') = y
 generalize IntKind.wrap .i64 (Wa f f' - Wb c c') = z
 unfold kT
 rcases triI x with ⟨h1, h2⟩ | ⟨h1, h2⟩ | ⟨h1, h2⟩ <;> rcases triI y with ⟨h3, h4⟩ | ⟨h3, h4⟩ | ⟨h3, h4⟩ <;> rcases triI z with ⟨h5, h6⟩ | ⟨h5, h6⟩ | ⟨h5, h6⟩ <;> rw [h1, h2, h3, h4, h5, h6] <;> rfl⟩
def fKnt : List AVal → Option (AVal × Bool)
 | [.agg [.int .i64 x0_0, .int .i64 x0_1, .int .i64 x0_2, .int .i64 x0_3, .int .i64 x0_4, .int .i64 x0_5], .agg [.int .i64 x1_0, .int .i64 x1_1, .int .i64 x1_2, .int .i64 x1_3, .int .i64 x1_4, .int .i64 x1_5]] => some (.int .i64 (kntV x0_0 x0_1 x0_2 x0_3 x0_4 x0_5 x1_0 x1_1 x1_2 x1_3 x1_4 x1_5), true)
 | _ => none
theorem v7m {S : Specs} (hS : Zk Tryz.prog S) : Zk Tryz.prog (S.with w2p fKnt) := by
 refine z1b hS (by kernel_rfl) fun args v h => ?_
 unfold fKnt at h
 split at h
 ·rename_i x0_0 x0_1 x0_2 x0_3 x0_4 x0_5 x1_0 x1_1 x1_2 x1_3 x1_4 x1_5
  simp only [Option.some.injEq, Prod.mk.injEq, and_true] at h
  subst h
  obtain ⟨N, hN⟩ := v6j x0_0 x0_1 x0_2 x0_3 x0_4 x0_5 x1_0 x1_1 x1_2 x1_3 x1_4 x1_5
  exact ⟨_, _, (.cons (.refl _) (.cons (.refl _) .nil)), rfl, w8o x0_0 x0_1 x0_2 x0_3 x0_4 x0_5 x1_0 x1_1 x1_2 x1_3 x1_4 x1_5 N _ hN, 3, rfl⟩
 ·cases h
def Ue : Specs := (Ud.with w2p fKnt)
theorem x9k : Zk Tryz.prog Ue := (v7m Wg)
end Go.Am
namespace Go.Am
open Go.Proofs
inductive slsS where
 | h0 (v5 : Int) (v20 : Int)
 | h1 (v5 : Int) (v20 : Int) (v47 : List R6) (v48 : Int) (v49 : Int) (v_0_0 : Int) (v_0_1 : Int) (v_0_2 : Int) (v_0_3 : Int) (v_0_4 : Int) (v_0_5 : Int)
def slsC (l0 : List R6) : slsS → Cfg
 | .h0 v5 v20 => ⟨⟨62, 0, true⟩, none, (Za Tryz.prog 33 [1, 1, 1, 0, 1, 0, 0] 0), none, (Zy Tryz.prog 15), ⟨Ym [(0, (.dat l0.length (Zz l0))), (5, (ii v5)), (18, (.dat l0.length (Zz l0))), (19, (ii (l0.length : Int))), (20, (ii v20))], Jw [] 0, 0, [], true⟩, [], .leaf⟩
 | .h1 v5 v20 v47 v48 v49 v_0_0 v_0_1 v_0_2 v_0_3 v_0_4 v_0_5 => ⟨⟨62, 0, true⟩, none, (Za Tryz.prog 33 [1, 1, 1, 0, 1, 0, 0, 1, 1, 0, 0, 1, 1, 1, 1, 0, 0] 0), none, (Zy Tryz.prog 15), ⟨Ym [(0, (.dat l0.length (Zz l0))), (5, (ii v5)), (7, (.ptr 0 0)), (18, (.dat l0.length (Zz l0))), (19, (ii (l0.length : Int))), (20, (ii v20)), (47, (.dat v47.length (Zz v47))), (48, (ii v48)), (49, (ii v49))], Jw [⟨[(ii v_0_0), (ii v_0_1), (ii v_0_2), (ii v_0_3), (ii v_0_4), (ii v_0_5)], 67, none⟩] 0, 1, [], true⟩, [], .leaf⟩
def slsN0 : List (Option (List Nat)) := [some [0, 5, 18, 19, 20]]
def slsM0 : List (Option (List Nat)) := []
def slsN1 : List (Option (List Nat)) := [some [0, 5, 7, 18, 19, 20, 47, 48, 49]]
def slsM1 : List (Option (List Nat)) := []
def Kh (l0 : List R6) : slsS → Xo slsS
 | .h0 v5 v20 => (bif (decide (v20 < (l0.length : Int))) then (bif ((decide (0 ≤ v20 ∧ v20 < (l0.length : Int))) && true) then (bif (decide (0 ≤ v20.toNat)) then (bif (decide (v20.toNat ≤ l0.length)) then (bif (decide (0 ≤ v20)) then (.to (.h1 (IntKind.wrap .i64 (v5 + (IntKind.wrap .i64 (2 * (IntKind.wrap .i64 ((IntKind.wrap .i64 ((IntKind.wrap .i64 ((IntKind.wrap .i64 ((rd l0 v20.toNat).d - (rd l0 v20.toNat).a)) * (IntKind.wrap .i64 ((rd l0 v20.toNat).e - (rd l0 v20.toNat).b)))) + (IntKind.wrap .i64 ((IntKind.wrap .i64 ((rd l0 v20.toNat).d - (rd l0 v20.toNat).a)) * (IntKind.wrap .i64 ((rd l0 v20.toNat).f - (rd l0 v20.toNat).c)))))) + (IntKind.wrap .i64 ((IntKind.wrap .i64 ((rd l0 v20.toNat).e - (rd l0 v20.toNat).b)) * (IntKind.wrap .i64 ((rd l0 v20.toNat).f - (rd l0 v20.toNat).c)))))))))) v20 (Xe l0 0 v20.toNat) ((v20.toNat : Nat) : Int) 0 (rd l0 v20.toNat).a (rd l0 v20.toNat).b (rd l0 v20.toNat).c (rd l0 v20.toNat).d (rd l0 v20.toNat).e (rd l0 v20.toNat).f)) else .stuck) else .stuck) else .stuck) else .stuck) else (.ret [(.int .i64 v5), (.int .i64 0)]))
 | .h1 v5 v20 v47 v48 v49 v_0_0 v_0_1 v_0_2 v_0_3 v_0_4 v_0_5 => (bif (decide (v49 < v48)) then (bif ((decide (0 ≤ v49 ∧ v49 < (v47.length : Int))) && true) then (.to (.h1 (IntKind.wrap .i64 (v5 - (IntKind.wrap .i64 (2 * (kntV v_0_0 v_0_1 v_0_2 v_0_3 v_0_4 v_0_5 (rd v47 v49.toNat).a (rd v47 v49.toNat).b (rd v47 v49.toNat).c (rd v47 v49.toNat).d (rd v47 v49.toNat).e (rd v47 v49.toNat).f))))) v20 v47 v48 (IntKind.wrap .i64 (v49 + 1)) v_0_0 v_0_1 v_0_2 v_0_3 v_0_4 v_0_5)) else .stuck) else (.to (.h0 v5 (IntKind.wrap .i64 (v20 + 1)))))
def z8p (l0 : List R6) : Xo slsS := (bif (Xp (cvT l0)) then (bif ((Zi (cvT l0)) != 0) then (.ret [(.int .i64 0), (.int .i64 (Zi (cvT l0)))]) else (.to (.h0 0 0))) else .stuck)
theorem x6q (l0 : List R6) : ∀ s, Xn Tryz.prog (Zy Tryz.prog 33) (slsC l0) (slsC l0 s) (Kh l0 s)
 | .h0 v5 v20 => (lb (fun k0 => (lo fun o0 => (lo fun o1 => (lo fun o2 => (lo fun o3 => (sl x9k 68 [] ⟨[0], [], slsN1, slsM1⟩ ⟨[(47, .list (Xe l0 0 (tn v20)).length (Zz (Xe l0 0 (tn v20))))], [], []⟩ [true] (pp (xL (tn v20) (Xe l0 0 (tn v20)).length) (pp (xS (tn v20) (fun k => (Zz l0) (0 + k)) (Zz (Xe l0 0 (tn v20)))) (pp (pp (xw o3) (pp nn (pp (xG (decide ((tn v20) ≤ l0.length))) (pp (xG (decide (0 ≤ (tn v20)))) (xG (lenR l0.length (Zz l0) 6)))))) (ww o0 (tt k0 nn))))))))))) (fun k0 => (lr 62 3 [1, 1, 1, 1, 1, 1, 1, 0] 1 15 [(2, (ii v5)), (3, (ii 0))] (sl x9k 13 [] ⟨[], [], [some [2, 3]], []⟩ ⟨[], [], []⟩ [false] (tt k0 nn)))))
 | .h1 v5 v20 v47 v48 v49 v_0_0 v_0_1 v_0_2 v_0_3 v_0_4 v_0_5 => (lb (fun k0 => (lo fun o0 => (sl x9k 31 [] ⟨[0], [], slsN1, slsM1⟩ ⟨[], [], []⟩ [true] (ww o0 (tt k0 nn))))) (fun k0 => (sl x9k 13 [] ⟨[], [], slsN0, slsM0⟩ ⟨[], [], []⟩ [false] (tt k0 nn))))
theorem y9y (l0 : List R6) : Xn Tryz.prog (Zy Tryz.prog 33) (slsC l0) (Zf Tryz.prog 33 [(.dat l0.length (Zz l0))] true []) (z8p l0) := (lo fun o0_0 => (lb (fun k0 => (lr 62 33 [1, 0, 1, 1, 0, 0] 1 15 [(2, (ii 0)), (3, (ii (Zi (cvT l0))))] (sl x9k 24 [] ⟨[], [], [some [2, 3]], []⟩ ⟨[], [], []⟩ [true] (tt k0 (pp (pp (xr l0) (xw o0_0)) nn))))) (fun k0 => (sl x9k 32 [] ⟨[], [], slsN0, slsM0⟩ ⟨[], [], []⟩ [false] (tt k0 (pp (pp (xr l0) (xw o0_0)) nn))))))
theorem w5u (l0 : List R6) (n : Nat) (vs : List AVal) (h : Ya (Kh l0) n (z8p l0) = .ret vs) : Je Tryz.prog (Zy Tryz.prog 33) (Zf Tryz.prog 33 [(.dat l0.length (Zz l0))] true []) vs := by
 have := Zn (x6q l0) n _ (y9y l0)
 rwa [h] at this
end Go.Am
namespace Go.Am
open Go.Proofs
open Go.Sort Go.Shelf Go.RowKit Go.Lib
def sfA (r : R6) : Int := 2 * ((r.d - r.a) * (r.e - r.b) + (r.d - r.a) * (r.f - r.c) + (r.e - r.b) * (r.f - r.c))
def kR (r s : R6) : Int := kntV r.a r.b r.c r.d r.e r.f s.a s.b s.c s.d s.e s.f
def rowS (l : List R6) (i : Nat) : Int := sfA (rd l i) - sm (Xe l 0 i) fun s => 2 * kR (rd l i) s
def sfS (l : List R6) : Nat → Int
 | 0 => 0
 | k + 1 => sfS l k + rowS l k
theorem v0k (l : List R6) (hl : l.length ≤ 400) (i : Nat) (hi : i < l.length) (r : R6) : ∀ (k j : Nat) (S : Int), j + k = (Xe l 0 i).length →
  ∃ n, ∀ N, Ya (Kh l) (N + n) (.to (.h1 (IntKind.wrap .i64 S) (i : Int) (Xe l 0 i) (i : Int) (j : Int) r.a r.b r.c r.d r.e r.f)) = Ya (Kh l) N (.to (.h0 (IntKind.wrap .i64 (S - sm ((Xe l 0 i).drop j) fun s => 2 * kR r s)) ((i + 1 : Nat) : Int)))
 | 0, j, S, h => by
  refine ⟨1, fun N => ?_⟩
  have e : (Xe l 0 i).length = i := Uf ..
  rw [List.drop_eq_nil_of_le (by omega), Zv, y0i, Int.sub_zero]
  simp (disch := omega) only [Kh, Yx, Zj, Zx, cond_false]
 | k + 1, j, S, h => by
  have e : (Xe l 0 i).length = i := Uf ..
  obtain ⟨n, hn⟩ := v0k l hl i hi r k (j + 1) (S - 2 * kR r (rd (Xe l 0 i) j)) (by omega)
  refine ⟨n + 1, fun N => ?_⟩
  have hn := hn N
  rw [Yi (show j < (Xe l 0 i).length by omega), Vx, ← Nat.add_assoc, Zv]
  have w : IntKind.wrap .i64 (IntKind.wrap .i64 S - IntKind.wrap .i64 (2 * kR r (rd (Xe l 0 i) j))) = IntKind.wrap .i64 (S - 2 * kR r (rd (Xe l 0 i) j)) := Cg.eq ((Cg.wrap S).sub (Cg.wrap _))
  have k' : kntV r.a r.b r.c r.d r.e r.f (rd (Xe l 0 i) j).a (rd (Xe l 0 i) j).b (rd (Xe l 0 i) j).c (rd (Xe l 0 i) j).d (rd (Xe l 0 i) j).e (rd (Xe l 0 i) j).f = kR r (rd (Xe l 0 i) j) := rfl
  have g1 : decide ((j : Int) < (i : Int)) = true := decide_eq_true (by omega)
  have g2 : decide (0 ≤ (j : Int) ∧ (j : Int) < (((Xe l 0 i).length : Nat) : Int)) = true := decide_eq_true (by omega)
  have w3 : IntKind.wrap .i64 ((j : Int) + 1) = ((j + 1 : Nat) : Int) := by rw [Zj (by omega)]; rfl
  simp only [Kh, g1, g2, w3, Zu, k', w, Bool.and_true, cond_true]
  rw [show S - (2 * kR r (rd (Xe l 0 i) j) + sm ((Xe l 0 i).drop (j + 1)) fun s => 2 * kR r s) = S - 2 * kR r (rd (Xe l 0 i) j) - sm ((Xe l 0 i).drop (j + 1)) fun s => 2 * kR r s by omega]
  exact hn
theorem v0l (l : List R6) (hl : l.length ≤ 400) : ∀ (k i : Nat), i + k = l.length → ∃ n, Ya (Kh l) n (.to (.h0 (IntKind.wrap .i64 (sfS l i)) (i : Int))) = .ret [.int .i64 (IntKind.wrap .i64 (sfS l l.length)), .int .i64 0]
 | 0, i, h => by
  refine ⟨1, ?_⟩
  have : i = l.length := by omega
  subst this
  rw [Zv]
  simp (disch := omega) only [Kh, Yx, cond_false, Zp]
 | k + 1, i, h => by
  have hi : i < l.length := by omega
  have e : (Xe l 0 i).length = i := Uf ..
  obtain ⟨n, hn⟩ := v0l l hl k (i + 1) (by omega)
  obtain ⟨n1, h1⟩ := v0k l hl i hi (rd l i) i 0 (sfS l i + sfA (rd l i)) (by omega)
  refine ⟨n + n1 + 1, ?_⟩
  rw [Zv]
  have w : IntKind.wrap .i64 (IntKind.wrap .i64 (sfS l i) + IntKind.wrap .i64 (2 * IntKind.wrap .i64 (IntKind.wrap .i64 (IntKind.wrap .i64 (IntKind.wrap .i64 ((rd l i).d - (rd l i).a) * IntKind.wrap .i64 ((rd l i).e - (rd l i).b)) + IntKind.wrap .i64 (IntKind.wrap .i64 ((rd l i).d - (rd l i).a) * IntKind.wrap .i64 ((rd l i).f - (rd l i).c))) + IntKind.wrap .i64 (IntKind.wrap .i64 ((rd l i).e - (rd l i).b) * IntKind.wrap .i64 ((rd l i).f - (rd l i).c))))) = IntKind.wrap .i64 (sfS l i + sfA (rd l i)) :=
   Cg.eq ((Cg.wrap _).add (Cg.w ((Cg.refl 2).mul (Cg.w ((Cg.w ((Cg.w ((Cg.wrap _).mul (Cg.wrap _))).add (Cg.w ((Cg.wrap _).mul (Cg.wrap _))))).add (Cg.w ((Cg.wrap _).mul (Cg.wrap _))))))))
  have hs : Kh l (.h0 (IntKind.wrap .i64 (sfS l i)) (i : Int)) = .to (.h1 (IntKind.wrap .i64 (sfS l i + sfA (rd l i))) (i : Int) (Xe l 0 i) (i : Int) 0 (rd l i).a (rd l i).b (rd l i).c (rd l i).d (rd l i).e (rd l i).f) := by
   have g1 : decide ((i : Int) < (l.length : Int)) = true := decide_eq_true (by omega)
   have g2 : decide (0 ≤ (i : Int) ∧ (i : Int) < (l.length : Int)) = true := decide_eq_true (by omega)
   have g3 : decide (0 ≤ i) = true := decide_eq_true (by omega)
   have g4 : decide (i ≤ l.length) = true := decide_eq_true (by omega)
   have g5 : decide (0 ≤ (i : Int)) = true := decide_eq_true (by omega)
   simp only [Kh, g1, g2, g3, g4, g5, Zu, w, Bool.and_true, cond_true]
  rw [hs]
  have h1 := h1 n
  rw [z2n] at h1
  rw [h1, List.drop_zero, show sfS l i + sfA (rd l i) - (sm (Xe l 0 i) fun s => 2 * kR (rd l i) s) = sfS l (i + 1) from Int.add_sub_assoc ..]
  exact hn
def z4m (l : List R6) : Int := bif Zi l != 0 then 0 else IntKind.wrap .i64 (sfS l l.length)
def y0k (l : List R6) : Int := Zi l
def z0g (l : List R6) : Bool := true
theorem v4a (l : List R6) (h : z0g l = true) : ∃ n, Ya (Kh l) n (z8p l) = .ret [.int .i64 (z4m l), .int .i64 (y0k l)] := by
 unfold z8p z4m y0k
 simp only [Zg, show Xp l = true from rfl, cond_true]
 rcases Yc (Zi l != 0) with q1 | q1
 ·exact ⟨0, by simp only [q1, cond_true]; rfl⟩
 ·obtain ⟨n, hn⟩ := v0l l (z6e q1) l.length 0 (Nat.zero_add _)
  refine ⟨n, ?_⟩
  simp only [q1, cond_false]
  rw [show Zi l = 0 by simpa using q1]
  exact hn
def fSls : List AVal → Option (AVal × Bool)
 | [a0] => match asL R6 a0 with
  | some (L0, g0, n0) => some (.tup [.int .i64 (z4m L0), .int .i64 (y0k L0)], isT R6 n0 g0 && (z0g L0))
  | _ => none
 | _ => none
theorem v6z {S : Specs} (hS : Zk Tryz.prog S) : Zk Tryz.prog (S.with w2o fSls) := by
 refine z1b hS (by kernel_rfl) fun args v h => ?_
 unfold fSls at h
 split at h
 ·rename_i a0
  split at h
  ·rename_i L0 g0 n0 e0
   simp only [Option.some.injEq, Prod.mk.injEq, Bool.and_eq_true] at h
   obtain ⟨rfl, ho0, hw⟩ := h
   obtain ⟨N, hN⟩ := v4a L0 hw
   exact ⟨_, _, (.cons (asL_le e0 ho0) .nil), rfl, w5u L0 N _ hN, 3, rfl⟩
  ·cases h
 ·cases h
end Go.Am
namespace Go.Am
open Go.Proofs
def Tw : Specs := Tv.with w2o fSls
theorem Qu : Zk Tryz.prog Tw := v6z Tv_ok
end Go.Am
namespace Go.Am
open Go.Proofs
inductive srfS where
 | h0 (v5 : Int) (v6 : Int) (v7 : Int)
def srfC (l0 : List R6) (l1 : List R6) : srfS → Cfg
 | .h0 v5 v6 v7 => ⟨⟨170, 0, true⟩, none, (Za Tryz.prog 6 [1, 1, 1, 0, 1, 0, 0] 0), none, (Zy Tryz.prog 5), ⟨Ym [(0, (.dat l0.length (Zz l0))), (1, (.dat l1.length (Zz l1))), (5, (ii v5)), (6, (ii v6)), (7, (ii v7))], Jw [] 0, 0, [], true⟩, [], .leaf⟩
def srfN0 : List (Option (List Nat)) := [some [0, 1, 5, 6, 7]]
def srfM0 : List (Option (List Nat)) := []
def z0t (l0 : List R6) (l1 : List R6) : srfS → Xo srfS
 | .h0 v5 v6 v7 => (bif (decide (v7 < 6)) then (bif (Xt (cvT l0) v7) then (bif (Xt (cvT l0) (IntKind.wrap .i64 ((IntKind.wrap .i64 (v7 + 1)) - (IntKind.wrap .i64 (2 * (Int.tmod v7 2)))))) then (bif (Kt (cvT l0) (cvT l1) v7) then (bif ((Vm (cvT l0) v7) != 0) then (.ret [(.bool false)]) else (bif ((Vm (cvT l0) (IntKind.wrap .i64 ((IntKind.wrap .i64 (v7 + 1)) - (IntKind.wrap .i64 (2 * (Int.tmod v7 2)))))) != 0) then (.ret [(.bool false)]) else (bif ((z5f (cvT l0) (cvT l1) v7) != 0) then (.ret [(.bool false)]) else (bif ((Vw (cvT l0) v7) != (Vw (cvT l0) (IntKind.wrap .i64 ((IntKind.wrap .i64 (v7 + 1)) - (IntKind.wrap .i64 (2 * (Int.tmod v7 2))))))) then (.ret [(.bool false)]) else (bif (decide ((z2f (cvT l0) (cvT l1) v7) < 0)) then (.ret [(.bool false)]) else (bif (decide ((z2f (cvT l0) (cvT l1) v7) > (Vw (cvT l0) v7))) then (.ret [(.bool false)]) else (.to (.h0 (IntKind.wrap .i64 (v5 + (Vw (cvT l0) v7))) (IntKind.wrap .i64 (v6 + (z2f (cvT l0) (cvT l1) v7))) (IntKind.wrap .i64 (v7 + 1)))))))))) else .stuck) else .stuck) else .stuck) else (bif (z0g (cvT l0)) then (bif (z0g (cvT l1)) then (bif ((y0k (cvT l0)) != 0) then (.ret [(.bool false)]) else (bif ((y0k (cvT l1)) != 0) then (.ret [(.bool false)]) else (bif ((z4m (cvT l0)) != v5) then (.ret [(.bool false)]) else (bif ((z4n Op.e) (cvT l0) (cvT l1)) then (bif ((z4n Op.u) (cvT l0) (cvT l1)) then (bif (((x0a Op.e) (cvT l0) (cvT l1)) != 0) then (.ret [(.bool true)]) else (bif (((x0a Op.u) (cvT l0) (cvT l1)) != 0) then (.ret [(.bool true)]) else (bif (decide (((((Qt Op.e) (cvT l0) (cvT l1)).length : Nat) : Int) > 0)) then (.ret [(.bool true)]) else (bif (z0g (cvT ((Qt Op.u) (cvT l0) (cvT l1)))) then (bif (Xi (cvT l0) (cvT l1)) then (bif ((y0k (cvT ((Qt Op.u) (cvT l0) (cvT l1)))) == 0) then (bif ((Uh (cvT l0) (cvT l1)) == 0) then (bif ((IntKind.wrap .i64 ((z4m (cvT l0)) + (z4m (cvT l1)))) == (IntKind.wrap .i64 ((z4m (cvT ((Qt Op.u) (cvT l0) (cvT l1)))) + (IntKind.wrap .i64 (2 * (Jt (cvT l0) (cvT l1))))))) then (bif ((Jt (cvT l0) (cvT l1)) == v6) then (.ret [(.bool true)]) else (.ret [(.bool false)])) else (.ret [(.bool false)])) else (.ret [(.bool false)])) else (.ret [(.bool false)])) else .stuck) else .stuck)))) else .stuck) else .stuck)))) else .stuck) else .stuck))
def z8m (l0 : List R6) (l1 : List R6) : Xo srfS := (bif (z2k (cvT l0)) then (bif (v2v (cvT l0)) then (.ret [(.bool true)]) else (bif (z3y (cvT l0)) then (bif ((z3m (cvT l0)) != 0) then (.ret [(.bool true)]) else (bif (z2k (cvT l1)) then (bif (v2v (cvT l1)) then (.ret [(.bool true)]) else (bif (z3y (cvT l1)) then (bif ((z3m (cvT l1)) != 0) then (.ret [(.bool true)]) else (.to (.h0 0 0 0))) else .stuck)) else .stuck)) else .stuck)) else .stuck)
theorem x6k (l0 : List R6) (l1 : List R6) : ∀ s, Xn Tryz.prog (Zy Tryz.prog 6) (srfC l0 l1) (srfC l0 l1 s) (z0t l0 l1 s)
 | .h0 v5 v6 v7 => (lb (fun k0 => (lo fun o1_0 => (lo fun o1_1 => (lo fun o1_2 => (lb (fun k1 => (lr 170 6 [1, 1, 1, 0, 1, 0, 0, 1, 0, 0, 1, 1, 1, 0, 1, 0, 0] 1 5 [(4, (.bool false))] (sl Qu 82 [] ⟨[], [], [some [4]], []⟩ ⟨[], [], []⟩ (trs 14 []) (tt k1 (pp (pp (xr l0) (pp (xr l1) (xw o1_2))) (pp (pp (xr l0) (xw o1_1)) (pp (pp (xr l0) (xw o1_0)) (tt k0 nn)))))))) (fun k1 => (lb (fun k2 => (lr 170 6 [1, 1, 1, 0, 1, 0, 0, 1, 0, 0, 1, 1, 1, 0, 1, 0, 0] 1 5 [(4, (.bool false))] (sl Qu 82 [] ⟨[], [], [some [4]], []⟩ ⟨[], [], []⟩ [true, false, false, true, true, true, true, true, true, true, true, true, true, true] (tt k2 (tt k1 (pp (pp (xr l0) (pp (xr l1) (xw o1_2))) (pp (pp (xr l0) (xw o1_1)) (pp (pp (xr l0) (xw o1_0)) (tt k0 nn))))))))) (fun k2 => (lb (fun k3 => (lr 170 6 [1, 1, 1, 0, 1, 0, 0, 1, 0, 0, 1, 1, 1, 0, 1, 0, 0] 1 5 [(4, (.bool false))] (sl Qu 82 [] ⟨[], [], [some [4]], []⟩ ⟨[], [], []⟩ [true, false, false, false, false, true, true, true, true, true, true, true, true, true] (tt k3 (tt k2 (tt k1 (pp (pp (xr l0) (pp (xr l1) (xw o1_2))) (pp (pp (xr l0) (xw o1_1)) (pp (pp (xr l0) (xw o1_0)) (tt k0 nn)))))))))) (fun k3 => (lb (fun k4 => (lr 170 6 [1, 1, 1, 0, 1, 0, 0, 1, 0, 0, 1, 1, 1, 0, 1, 0, 0] 1 5 [(4, (.bool false))] (sl Qu 82 [] ⟨[], [], [some [4]], []⟩ ⟨[], [], []⟩ [true, false, false, false, false, false, false, false, true, true, true, true, true, true] (tt k4 (tt k3 (tt k2 (tt k1 (pp (pp (xr l0) (pp (xr l1) (xw o1_2))) (pp (pp (xr l0) (xw o1_1)) (pp (pp (xr l0) (xw o1_0)) (tt k0 nn))))))))))) (fun k4 => (lb (fun k5 => (lr 170 6 [1, 1, 1, 0, 1, 0, 0, 1, 0, 0, 1, 1, 1, 0, 1, 0, 0] 1 5 [(4, (.bool false))] (sl Qu 82 [] ⟨[], [], [some [4]], []⟩ ⟨[], [], []⟩ [true, false, false, false, false, false, false, false, false, false, true, true, true, true] (tt k5 (tt k4 (tt k3 (tt k2 (tt k1 (pp (pp (xr l0) (pp (xr l1) (xw o1_2))) (pp (pp (xr l0) (xw o1_1)) (pp (pp (xr l0) (xw o1_0)) (tt k0 nn)))))))))))) (fun k5 => (lb (fun k6 => (lr 170 6 [1, 1, 1, 0, 1, 0, 0, 1, 0, 0, 1, 1, 1, 0, 1, 0, 0] 1 5 [(4, (.bool false))] (sl Qu 82 [] ⟨[], [], [some [4]], []⟩ ⟨[], [], []⟩ [true, false, false, false, false, false, false, false, false, false, false, false, false, true] (tt k6 (tt k5 (tt k4 (tt k3 (tt k2 (tt k1 (pp (pp (xr l0) (pp (xr l1) (xw o1_2))) (pp (pp (xr l0) (xw o1_1)) (pp (pp (xr l0) (xw o1_0)) (tt k0 nn))))))))))))) (fun k6 => (sl Qu 99 [] ⟨[], [], srfN0, srfM0⟩ ⟨[], [], []⟩ [true, false, false, false, false, false, false, false, false, false, false, false, false, false] (tt k6 (tt k5 (tt k4 (tt k3 (tt k2 (tt k1 (pp (pp (xr l0) (pp (xr l1) (xw o1_2))) (pp (pp (xr l0) (xw o1_1)) (pp (pp (xr l0) (xw o1_0)) (tt k0 nn))))))))))))))))))))))))))) (fun k0 => (lo fun o1_0 => (lo fun o1_1 => (lb (fun k1 => (lr 170 6 [1, 1, 1, 1, 1, 1, 0, 1, 0, 0] 1 5 [(4, (.bool false))] (sl Qu 48 [] ⟨[], [], [some [4]], []⟩ ⟨[], [], []⟩ [false, true, true, true, true, true, true] (tt k1 (pp (pp (xr l1) (xw o1_1)) (pp (pp (xr l0) (xw o1_0)) (tt k0 nn))))))) (fun k1 => (lb (fun k2 => (lr 170 6 [1, 1, 1, 1, 1, 1, 0, 1, 0, 0] 1 5 [(4, (.bool false))] (sl Qu 48 [] ⟨[], [], [some [4]], []⟩ ⟨[], [], []⟩ [false, false, false, true, true, true, true] (tt k2 (tt k1 (pp (pp (xr l1) (xw o1_1)) (pp (pp (xr l0) (xw o1_0)) (tt k0 nn)))))))) (fun k2 => (lb (fun k3 => (lr 170 6 [1, 1, 1, 1, 1, 1, 0, 1, 0, 0] 1 5 [(4, (.bool false))] (sl Qu 48 [] ⟨[], [], [some [4]], []⟩ ⟨[], [], []⟩ [false, false, false, false, false, false, true] (tt k3 (tt k2 (tt k1 (pp (pp (xr l1) (xw o1_1)) (pp (pp (xr l0) (xw o1_0)) (tt k0 nn))))))))) (fun k3 => (lo fun o4_0 => (lo fun o4_1 => (lb (fun k4 => (lr 170 6 [1, 1, 1, 1, 1, 1, 1, 1, 1, 0, 1, 0, 0] 1 5 [(4, (.bool true))] (sl Qu 88 [] ⟨[], [], [some [4]], []⟩ ⟨[], [], []⟩ [false, false, false, false, false, false, false, true, true, true, true, true, true] (tt k4 (pp (pp (xr l0) (pp (xr l1) (xw o4_1))) (pp (pp (xr l0) (pp (xr l1) (xw o4_0))) (tt k3 (tt k2 (tt k1 (pp (pp (xr l1) (xw o1_1)) (pp (pp (xr l0) (xw o1_0)) (tt k0 nn)))))))))))) (fun k4 => (lb (fun k5 => (lr 170 6 [1, 1, 1, 1, 1, 1, 1, 1, 1, 0, 1, 0, 0] 1 5 [(4, (.bool true))] (sl Qu 88 [] ⟨[], [], [some [4]], []⟩ ⟨[], [], []⟩ [false, false, false, false, false, false, false, false, false, true, true, true, true] (tt k5 (tt k4 (pp (pp (xr l0) (pp (xr l1) (xw o4_1))) (pp (pp (xr l0) (pp (xr l1) (xw o4_0))) (tt k3 (tt k2 (tt k1 (pp (pp (xr l1) (xw o1_1)) (pp (pp (xr l0) (xw o1_0)) (tt k0 nn))))))))))))) (fun k5 => (lb (fun k6 => (lr 170 6 [1, 1, 1, 1, 1, 1, 1, 1, 1, 0, 1, 0, 0] 1 5 [(4, (.bool true))] (sl Qu 88 [] ⟨[], [], [some [4]], []⟩ ⟨[], [], []⟩ [false, false, false, false, false, false, false, false, false, false, false, false, true] (tt k6 (tt k5 (tt k4 (pp (pp (xr l0) (pp (xr l1) (xw o4_1))) (pp (pp (xr l0) (pp (xr l1) (xw o4_0))) (tt k3 (tt k2 (tt k1 (pp (pp (xr l1) (xw o1_1)) (pp (pp (xr l0) (xw o1_0)) (tt k0 nn)))))))))))))) (fun k6 => (lo fun o7_0 => (lo fun o7_1 => (lb (fun k7 => (lb (fun k8 => (lb (fun k9 => (lb (fun k10 => (lr 170 3 [1, 1, 1, 1, 1, 1, 1, 0] 1 5 [(4, (.bool true))] (sl Qu 133 [] ⟨[], [], [some [4]], []⟩ ⟨[], [], []⟩ [false, false, false, false, false, false, false, false, false, false, false, false, false, true, true, true, true, true, true, true, true, true, true, true, true, true, true] (tt k10 (tt k9 (tt k8 (tt k7 (pp (pp (xr l0) (pp (xr l1) (xw o7_1))) (pp (pp (xI R6 ((Qt Op.u) (cvT l0) (cvT l1)).length (Zz ((Qt Op.u) (cvT l0) (cvT l1)))) (xw o7_0)) (tt k6 (tt k5 (tt k4 (pp (pp (xr l0) (pp (xr l1) (xw o4_1))) (pp (pp (xr l0) (pp (xr l1) (xw o4_0))) (tt k3 (tt k2 (tt k1 (pp (pp (xr l1) (xw o1_1)) (pp (pp (xr l0) (xw o1_0)) (tt k0 nn)))))))))))))))))))) (fun k10 => (lr 170 3 [1, 1, 1, 1, 1, 1, 1, 0] 1 5 [(4, (.bool false))] (sl Qu 133 [] ⟨[], [], [some [4]], []⟩ ⟨[], [], []⟩ [false, false, false, false, false, false, false, false, false, false, false, false, false, true, true, true, true, true, true, true, true, true, true, true, true, true, false] (tt k10 (tt k9 (tt k8 (tt k7 (pp (pp (xr l0) (pp (xr l1) (xw o7_1))) (pp (pp (xI R6 ((Qt Op.u) (cvT l0) (cvT l1)).length (Zz ((Qt Op.u) (cvT l0) (cvT l1)))) (xw o7_0)) (tt k6 (tt k5 (tt k4 (pp (pp (xr l0) (pp (xr l1) (xw o4_1))) (pp (pp (xr l0) (pp (xr l1) (xw o4_0))) (tt k3 (tt k2 (tt k1 (pp (pp (xr l1) (xw o1_1)) (pp (pp (xr l0) (xw o1_0)) (tt k0 nn)))))))))))))))))))))) (fun k9 => (lr 170 3 [1, 1, 1, 1, 1, 1, 1, 0] 1 5 [(4, (.bool false))] (sl Qu 133 [] ⟨[], [], [some [4]], []⟩ ⟨[], [], []⟩ [false, false, false, false, false, false, false, false, false, false, false, false, false, true, true, true, true, true, true, true, true, true, true, false, false, false, false] (tt k9 (tt k8 (tt k7 (pp (pp (xr l0) (pp (xr l1) (xw o7_1))) (pp (pp (xI R6 ((Qt Op.u) (cvT l0) (cvT l1)).length (Zz ((Qt Op.u) (cvT l0) (cvT l1)))) (xw o7_0)) (tt k6 (tt k5 (tt k4 (pp (pp (xr l0) (pp (xr l1) (xw o4_1))) (pp (pp (xr l0) (pp (xr l1) (xw o4_0))) (tt k3 (tt k2 (tt k1 (pp (pp (xr l1) (xw o1_1)) (pp (pp (xr l0) (xw o1_0)) (tt k0 nn))))))))))))))))))))) (fun k8 => (lr 170 3 [1, 1, 1, 1, 1, 1, 1, 0] 1 5 [(4, (.bool false))] (sl Qu 133 [] ⟨[], [], [some [4]], []⟩ ⟨[], [], []⟩ [false, false, false, false, false, false, false, false, false, false, false, false, false, true, true, false, false, false, false, false, false, false, false, false, false, false, false] (tt k8 (tt k7 (pp (pp (xr l0) (pp (xr l1) (xw o7_1))) (pp (pp (xI R6 ((Qt Op.u) (cvT l0) (cvT l1)).length (Zz ((Qt Op.u) (cvT l0) (cvT l1)))) (xw o7_0)) (tt k6 (tt k5 (tt k4 (pp (pp (xr l0) (pp (xr l1) (xw o4_1))) (pp (pp (xr l0) (pp (xr l1) (xw o4_0))) (tt k3 (tt k2 (tt k1 (pp (pp (xr l1) (xw o1_1)) (pp (pp (xr l0) (xw o1_0)) (tt k0 nn)))))))))))))))))))) (fun k7 => (lr 170 3 [1, 1, 1, 1, 1, 1, 1, 0] 1 5 [(4, (.bool false))] (sl Qu 133 [] ⟨[], [], [some [4]], []⟩ ⟨[], [], []⟩ [false, false, false, false, false, false, false, false, false, false, false, false, false, false, false, false, false, false, false, false, false, false, false, false, false, false, false] (tt k7 (pp (pp (xr l0) (pp (xr l1) (xw o7_1))) (pp (pp (xI R6 ((Qt Op.u) (cvT l0) (cvT l1)).length (Zz ((Qt Op.u) (cvT l0) (cvT l1)))) (xw o7_0)) (tt k6 (tt k5 (tt k4 (pp (pp (xr l0) (pp (xr l1) (xw o4_1))) (pp (pp (xr l0) (pp (xr l1) (xw o4_0))) (tt k3 (tt k2 (tt k1 (pp (pp (xr l1) (xw o1_1)) (pp (pp (xr l0) (xw o1_0)) (tt k0 nn))))))))))))))))))))))))))))))))))))))
theorem y9t (l0 : List R6) (l1 : List R6) : Xn Tryz.prog (Zy Tryz.prog 6) (srfC l0 l1) (Zf Tryz.prog 6 [(.dat l0.length (Zz l0)), (.dat l1.length (Zz l1))] true []) (z8m l0 l1) := (lo fun o0_0 => (lb (fun k0 => (lr 170 6 [1, 0, 1, 0, 0] 1 5 [(4, (.bool true))] (sl Qu 64 [] ⟨[], [], [some [4]], []⟩ ⟨[], [], []⟩ (trs 9 []) (tt k0 (pp (pp (xr l0) (xw o0_0)) nn))))) (fun k0 => (lo fun o1_0 => (lb (fun k1 => (lr 170 6 [1, 0, 1, 0, 0] 1 5 [(4, (.bool true))] (sl Qu 64 [] ⟨[], [], [some [4]], []⟩ ⟨[], [], []⟩ [true, false, false, false, false, false, false, true, true] (tt k1 (pp (pp (xr l0) (xw o1_0)) (tt k0 (pp (pp (xr l0) (xw o0_0)) nn))))))) (fun k1 => (lo fun o2_0 => (lb (fun k2 => (lr 170 6 [1, 0, 1, 0, 0] 1 5 [(4, (.bool true))] (sl Qu 101 [] ⟨[], [], [some [4]], []⟩ ⟨[], [], []⟩ [true, false, false, false, false, false, false, false, true, true, true, true, true, true, true, true, true] (tt k2 (pp (pp (xr l1) (xw o2_0)) (tt k1 (pp (pp (xr l0) (xw o1_0)) (tt k0 (pp (pp (xr l0) (xw o0_0)) nn))))))))) (fun k2 => (lo fun o3_0 => (lb (fun k3 => (lr 170 6 [1, 0, 1, 0, 0] 1 5 [(4, (.bool true))] (sl Qu 101 [] ⟨[], [], [some [4]], []⟩ ⟨[], [], []⟩ [true, false, false, false, false, false, false, false, true, false, false, false, false, false, false, true, true] (tt k3 (pp (pp (xr l1) (xw o3_0)) (tt k2 (pp (pp (xr l1) (xw o2_0)) (tt k1 (pp (pp (xr l0) (xw o1_0)) (tt k0 (pp (pp (xr l0) (xw o0_0)) nn))))))))))) (fun k3 => (sl Qu 127 [] ⟨[], [], srfN0, srfM0⟩ ⟨[], [], []⟩ [true, false, false, false, false, false, false, false, true, false, false, false, false, false, false, false, false, false] (tt k3 (pp (pp (xr l1) (xw o3_0)) (tt k2 (pp (pp (xr l1) (xw o2_0)) (tt k1 (pp (pp (xr l0) (xw o1_0)) (tt k0 (pp (pp (xr l0) (xw o0_0)) nn)))))))))))))))))))))
theorem srf_ends (l0 : List R6) (l1 : List R6) (n : Nat) (vs : List AVal) (h : Ya (z0t l0 l1) n (z8m l0 l1) = .ret vs) : Je Tryz.prog (Zy Tryz.prog 6) (Zf Tryz.prog 6 [(.dat l0.length (Zz l0)), (.dat l1.length (Zz l1))] true []) vs := by
 have := Zn (x6k l0 l1) n _ (y9t l0 l1)
 rwa [h] at this
end Go.Am
namespace Go.Am
open Go.Proofs Go.Sort Go.Shelf Go.RowKit Go.Lib
def ind (a b t : Int) : Int := if a ≤ t ∧ t < b then 1 else 0
def ptsN (lo : Int) (n : Nat) : List Int := (List.range n).map fun (k : Nat) => lo + (k : Int)
theorem w3c (a b lo : Int) : ∀ n : Nat, sm (ptsN lo n) (ind a b) = ovl a b lo (lo + n)
 | 0 => by show (0 : Int) = _; unfold ovl; omega
 | n + 1 => by
  unfold ptsN
  rw [List.range_succ, List.map_append, Us]
  have := w3c a b lo n
  unfold ptsN at this
  rw [this, List.map_cons, List.map_nil, Vx, y0i]
  unfold ind ovl
  split <;> omega
theorem z6o (a b c d t : Int) : ind a b t * ind c d t = ind (max a c) (min b d) t := by
 unfold ind
 by_cases h1 : a ≤ t ∧ t < b
 ·by_cases h2 : c ≤ t ∧ t < d
  ·rw [if_pos h1, if_pos h2, if_pos (by omega)]; rfl
  ·rw [if_pos h1, if_neg h2, if_neg (by omega)]; rfl
 ·rw [if_neg h1, Int.zero_mul, if_neg (by omega)]
theorem z6n (a b t : Int) : 0 ≤ ind a b t := by unfold ind; split <;> omega
theorem ind_le (a b t : Int) : ind a b t ≤ 1 := by unfold ind; split <;> omega
def Pts (p : List Int) : Prop := (∀ a b, -1000005 ≤ a ∧ b ≤ 1000005 → sm p (ind a b) = max 0 (b - a)) ∧ p.length = 2000010
theorem x4t : ∃ p, Pts p := by
 refine ⟨ptsN (-1000005) 2000010, fun a b h => ?_, by simp only [ptsN, List.length_map, List.length_range]⟩
 rw [w3c]
 show ovl a b (-1000005) (-1000005 + 2000010) = _
 unfold ovl; omega
def S3 (p : List Int) (f : Int → Int → Int → Int) : Int := sm p fun x => sm p fun y => sm p fun z => f x y z
theorem x5y {p : List Int} {f g : Int → Int → Int → Int} (h : ∀ x y z, f x y z = g x y z) : S3 p f = S3 p g := by
 have : f = g := by funext x y z; exact h x y z
 rw [this]
theorem w9x {p : List Int} {α : Type} (l : List α) (f : α → Int → Int → Int → Int) : S3 p (fun x y z => sm l fun a => f a x y z) = sm l fun a => S3 p (f a) := by
 unfold S3
 rw [y4m l p]
 refine Xu fun x _ => ?_
 rw [y4m l p]
 exact Xu fun y _ => y4m _ _ _
theorem v3i {p : List Int} (f g : Int → Int → Int → Int) : S3 p (fun x y z => f x y z - g x y z) = S3 p f - S3 p g := by
 unfold S3; simp only [w0i]
theorem w5d {p : List Int} {f g : Int → Int → Int → Int} (h : ∀ x y z, f x y z ≤ g x y z) : S3 p f ≤ S3 p g :=
 y4n fun x _ => y4n fun y _ => y4n fun z _ => h x y z
theorem y9f {p : List Int} {f : Int → Int → Int → Int} (h : ∀ x y z, 0 ≤ f x y z) : 0 ≤ S3 p f :=
 Vr fun x _ => Vr fun y _ => Vr fun z _ => h x y z
theorem x5x {p : List Int} (f g h : Int → Int) : S3 p (fun x y z => f x * g y * h z) = sm p f * sm p g * sm p h := by
 unfold S3
 simp only [y0j, Int.mul_assoc]
 rw [← x4d]
 refine Xu fun x _ => ?_
 rw [← x4d]
theorem S3_one {p : List Int} (hp : Pts p) : S3 p (fun _ _ _ => 1) ≤ 8000120000600001000 := by
 have h : sm p (fun _ => 1) ≤ (p.length : Int) * 1 := sm_le fun _ _ => Int.le_refl _
 have hl := hp.2
 have h0 : 0 ≤ sm p (fun _ => 1) := Vr fun _ _ => by omega
 have e : S3 p (fun _ _ _ => 1) = sm p (fun _ => 1) * sm p (fun _ => 1) * sm p (fun _ => 1) := x5x (fun _ => 1) (fun _ => 1) (fun _ => 1)
 rw [e]
 have h1 : sm p (fun _ => 1) ≤ 2000010 := by omega
 have h2 := Int.mul_le_mul (Int.mul_le_mul h1 h1 h0 (by omega)) h1 h0 (by omega)
 have h3 : (2000010 : Int) * 2000010 * 2000010 = 8000120000600001000 := by decide
 rw [h3] at h2
 exact h2
def inR (r : R6) (x y z : Int) : Int := ind r.a r.d x * ind r.b r.e y * ind r.c r.f z
theorem y3q (r : R6) (x y z : Int) : 0 ≤ inR r x y z := Int.mul_nonneg (Int.mul_nonneg (z6n ..) (z6n ..)) (z6n ..)
theorem y8e (r : R6) (x y z : Int) : inR r x y z = if (r.a ≤ x ∧ x < r.d) ∧ (r.b ≤ y ∧ y < r.e) ∧ (r.c ≤ z ∧ z < r.f) then 1 else 0 := by
 unfold inR ind
 by_cases h1 : r.a ≤ x ∧ x < r.d <;> by_cases h2 : r.b ≤ y ∧ y < r.e <;> by_cases h3 : r.c ≤ z ∧ z < r.f <;> simp [h1, h2, h3]
def x7u (r : R6) : Prop := -1000002 ≤ r.a ∧ r.d ≤ 1000002 ∧ -1000002 ≤ r.b ∧ r.e ≤ 1000002 ∧ -1000002 ≤ r.c ∧ r.f ≤ 1000002
theorem ov_S3 {p : List Int} (hp : Pts p) (r s : R6) (hr : x7u r) : S3 p (fun x y z => inR r x y z * inR s x y z) = ov r s := by
 obtain ⟨h1, h2, h3, h4, h5, h6⟩ := hr
 have e : (fun x y z => inR r x y z * inR s x y z) = fun x y z => ind (max r.a s.a) (min r.d s.d) x * ind (max r.b s.b) (min r.e s.e) y * ind (max r.c s.c) (min r.f s.f) z := by
  funext x y z
  rw [← z6o, ← z6o, ← z6o]
  unfold inR
  simp only [Int.mul_comm, Int.mul_left_comm, Int.mul_assoc]
 rw [e, x5x, hp.1 _ _ (by omega), hp.1 _ _ (by omega), hp.1 _ _ (by omega)]
 rfl
def cnt (X : List R6) (x y z : Int) : Int := sm X fun r => inR r x y z
theorem Un (X : List R6) (x y z : Int) : 0 ≤ cnt X x y z := Vr fun r _ => y3q r x y z
theorem y8o : ∀ (X : List R6), X.Pairwise Ap6 → ∀ x y z, cnt X x y z ≤ 1
 | [], _, x, y, z => by show (0 : Int) ≤ 1; omega
 | r :: X, h, x, y, z => by
  obtain ⟨h1, h2⟩ := List.pairwise_cons.1 h
  have ih := y8o X h2 x y z
  have e : cnt (r :: X) x y z = inR r x y z + cnt X x y z := Vx _ _ _
  rw [e, y8e]
  split
  ·rename_i hp
   have : cnt X x y z = 0 := by
    have : cnt X x y z = sm X fun _ => 0 := Xu fun s hs => by
     rw [y8e]
     refine if_neg fun hq => ?_
     have := h1 s hs
     unfold Ap6 at this
     omega
    rw [this, Qs]
   omega
  ·omega
theorem S2_S3 {p : List Int} (hp : Pts p) (X Y : List R6) (hX : ∀ r ∈ X, x7u r) : S2 X Y = S3 p fun x y z => cnt X x y z * cnt Y x y z := by
 have e : (fun x y z => cnt X x y z * cnt Y x y z) = fun x y z => sm X fun r => sm Y fun s => inR r x y z * inR s x y z := by
  funext x y z
  unfold cnt
  rw [← x4d]
  exact Xu fun r _ => (y0j _ _ _).symm
 rw [e, w9x]
 unfold S2
 refine Xu fun r hr => ?_
 rw [w9x]
 exact Xu fun s _ => (ov_S3 hp r s (hX r hr)).symm
theorem w8d {r : R6} (h : z0f r = true) : x7u r := by
 have := Vo h
 unfold x7u; omega
theorem v5w {r : R6} (h : z0f r = true) : okB r = true := by
 have := Vo h
 exact decide_eq_true (by omega)
theorem zero3 {p q r : Int} (h : p * q * r = 0) : p = 0 ∨ q = 0 ∨ r = 0 := by
 rcases Int.mul_eq_zero.1 h with h | h
 ·rcases Int.mul_eq_zero.1 h with h | h
  ·exact .inl h
  ·exact .inr (.inl h)
 ·exact .inr (.inr h)
theorem w2u {r s : R6} (h : ov r s = 0) : z0b r s = none := by
 unfold z0b
 cases hc : (decide (max r.a s.a < min r.d s.d) && (decide (max r.b s.b < min r.e s.e) && decide (max r.c s.c < min r.f s.f))) with
 | false => rfl
 | true =>
  simp only [Bool.and_eq_true, decide_eq_true_eq] at hc
  have := zero3 h
  unfold ovl at this
  omega
theorem v8i {X Y : List R6} (h : ∀ r ∈ X, ∀ s ∈ Y, ov r s = 0) : Ye X Y = [] := by
 unfold Ye
 refine List.flatMap_eq_nil_iff.2 fun r hr => ?_
 rw [List.filterMap_eq_nil_iff]
 exact fun s hs => w2u (h r hr s hs)
end Go.Am
namespace Go.Am
open Go.Proofs Go.Sort Go.Shelf Go.RowKit Go.Lib
theorem y8f {X : List R6} (h : v2v X = false) : decide (X.length ≤ 100 ∨ 400 < X.length) = true := by
 have := of_decide_eq_false h
 exact decide_eq_true (by omega)
theorem z9y {X : List R6} (h : Zi X = 0) : ∀ r ∈ X, okB r = true := fun r hr => v5w ((z8s h).2.1 r hr)
end Go.Am
namespace Go.Am
open Go.Proofs Go.Sort Go.Shelf Go.RowKit Go.Lib
theorem sm_pos {α : Type} {l : List α} {f : α → Int} (h : sm l f ≠ 0) : ∃ x ∈ l, f x ≠ 0 := Classical.byContradiction fun hn => h (by
 have : sm l f = sm l fun _ => 0 := Xu fun x hx => Classical.byContradiction fun e => hn ⟨x, hx, e⟩
 rw [this, Qs])
theorem x1c {p : List Int} (hp : Pts p) {t : Int} (h : -1000005 ≤ t ∧ t < 1000005) : t ∈ p := by
 have h1 := hp.1 t (t + 1) (by omega)
 have h2 : sm p (ind t (t + 1)) ≠ 0 := by rw [h1]; omega
 obtain ⟨x, hx, hn⟩ := sm_pos h2
 unfold ind at hn
 split at hn
 ·have : x = t := by omega
  rwa [← this]
 ·exact absurd rfl hn
def inS (X : List R6) (x y z : Int) : Prop := ∃ r ∈ X, (r.a ≤ x ∧ x < r.d) ∧ (r.b ≤ y ∧ y < r.e) ∧ (r.c ≤ z ∧ z < r.f)
theorem y5o (X : List R6) (x y z : Int) : inS X x y z ↔ ptL z6a.inB X (z, x, y) := by
 constructor
 ·rintro ⟨r, hr, h1, h2, h3⟩
  exact ⟨r, hr, h3.1, h3.2, h1.1, h1.2, h2.1, h2.2⟩
 ·rintro ⟨r, hr, h1, h2, h3, h4, h5, h6⟩
  exact ⟨r, hr, ⟨h3, h4⟩, ⟨h5, h6⟩, h1, h2⟩
theorem y1v (X : List R6) (hX : X.Pairwise Ap6) (x y z : Int) : (inS X x y z → cnt X x y z = 1) ∧ (¬ inS X x y z → cnt X x y z = 0) := by
 have h0 := Un X x y z
 have h1 := y8o X hX x y z
 constructor
 ·rintro ⟨r, hr, hp⟩
  have : cnt X x y z ≠ 0 := fun e => by
   have := Kd (fun r _ => y3q r x y z) e r hr
   rw [y8e, if_pos hp] at this
   cases this
  omega
 ·intro hn
  have : cnt X x y z = sm X fun _ => 0 := Xu fun r hr => by
   rw [y8e]
   exact if_neg fun hp => hn ⟨r, hr, hp⟩
  rw [this, Qs]
structure Sol (X : List R6) : Prop where
 len : X.length ≤ 400
 val : ∀ r ∈ X, z0f r = true
 ap : X.Pairwise Ap6
theorem Sol.of {X : List R6} (h : Zi X = 0) : Sol X := ⟨(z8s h).1, (z8s h).2.1, (z8s h).2.2.2⟩
theorem Sol.near {X : List R6} (h : Sol X) : ∀ r ∈ X, x7u r := fun r hr => w8d (h.val r hr)
theorem Sol.bnd {X : List R6} (h : Sol X) {x y z : Int} (hp : inS X x y z) : (-1000000 ≤ x ∧ x < 1000000) ∧ (-1000000 ≤ y ∧ y < 1000000) ∧ (-1000000 ≤ z ∧ z < 1000000) := by
 obtain ⟨r, hr, h1, h2, h3⟩ := hp
 have := Vo (h.val r hr)
 omega
theorem bx_S3 {p : List Int} (hp : Pts p) (r : R6) (hr : z0f r = true) : S3 p (inR r) = bxV r := by
 have hv := Vo hr
 show S3 p (fun x y z => ind r.a r.d x * ind r.b r.e y * ind r.c r.f z) = _
 rw [x5x, hp.1 _ _ (by omega), hp.1 _ _ (by omega), hp.1 _ _ (by omega)]
 unfold bxV
 rw [show max 0 (r.d - r.a) = r.d - r.a by omega, show max 0 (r.e - r.b) = r.e - r.b by omega, show max 0 (r.f - r.c) = r.f - r.c by omega]
theorem v8w {p : List Int} {f : Int → Int → Int → Int} (h0 : ∀ x y z, 0 ≤ f x y z) : S3 p f = 0 ↔ ∀ x ∈ p, ∀ y ∈ p, ∀ z ∈ p, f x y z = 0 := by
 constructor
 ·intro h x hx y hy z hz
  have h1 := Kd (fun x _ => Vr fun y _ => Vr fun z _ => h0 x y z) h x hx
  have h2 := Kd (fun y _ => Vr fun z _ => h0 x y z) h1 y hy
  exact Kd (fun z _ => h0 x y z) h2 z hz
 ·intro h
  have : S3 p f = sm p fun _ => 0 := Xu fun x hx => by
   have : sm p (fun y => sm p fun z => f x y z) = sm p fun _ => 0 := Xu fun y hy => by
    have : sm p (fun z => f x y z) = sm p fun _ => 0 := Xu fun z hz => h x hx y hy z hz
    rw [this, Qs]
   rw [this, Qs]
  rw [this, Qs]
theorem Sol.pts {p : List Int} (hp : Pts p) {X : List R6} (h : Sol X) {x y z : Int} (hq : inS X x y z) : x ∈ p ∧ y ∈ p ∧ z ∈ p := by
 have := h.bnd hq
 exact ⟨x1c hp (by omega), x1c hp (by omega), x1c hp (by omega)⟩
theorem v8x {X Y : List R6} (hX : Sol X) (hY : Sol Y) : S2 X Y = 0 ↔ ∀ x y z, ¬ (inS X x y z ∧ inS Y x y z) := by
 obtain ⟨p, hp⟩ := x4t
 rw [S2_S3 hp X Y hX.near, v8w fun x y z => Int.mul_nonneg (Un X x y z) (Un Y x y z)]
 constructor
 ·rintro h x y z ⟨h1, h2⟩
  obtain ⟨q1, q2, q3⟩ := hX.pts hp h1
  have := h x q1 y q2 z q3
  rw [(y1v X hX.ap x y z).1 h1, (y1v Y hY.ap x y z).1 h2] at this
  cases this
 ·intro h x _ y _ z _
  by_cases h1 : inS X x y z
  ·rw [(y1v Y hY.ap x y z).2 fun h2 => h x y z ⟨h1, h2⟩, Int.mul_zero]
  ·rw [(y1v X hX.ap x y z).2 h1, Int.zero_mul]
end Go.Am
namespace Go.Am
open Go.Proofs Go.Sort Go.Shelf Go.RowKit Go.Lib
theorem y8k (E : Int → Int) (cs : List Int) : ∀ (k i : Nat), y2o E cs k i = 0 → ∀ j, i ≤ j → j < i + k → E (rd cs j) = 0
 | 0, i, _, j, h1, h2 => by omega
 | k + 1, i, h, j, h1, h2 => by
  change (bif E (rd cs i) != 0 then E (rd cs i) else y2o E cs k (i + 1)) = 0 at h
  cases g : (E (rd cs i) != 0) with
  | true => rw [g, cond_true] at h; rw [h] at g; cases g
  | false =>
   rw [g, cond_false] at h
   rcases Nat.eq_or_lt_of_le h1 with e | e
   ·rw [← e]; simpa using g
   ·exact y8k E cs k (i + 1) h j e (by omega)
theorem Dim.goS_congr {α β : Type} (D : Dim α β) (f g : Int → List β) (cs : List Int) : ∀ (k i : Nat) (s : Sw α β), (∀ j, i ≤ j → j < i + k → f (rd cs j) = g (rd cs j)) → D.goS f cs k i s = D.goS g cs k i s
 | 0, i, s, _ => rfl
 | k + 1, i, s, h => by
  show D.goS f cs k (i + 1) (D.oneS (f (rd cs i)) _ _ s) = D.goS g cs k (i + 1) (D.oneS (g (rd cs i)) _ _ s)
  rw [h i (Nat.le_refl _) (by omega)]
  exact goS_congr D f g cs k (i + 1) _ fun j h1 h2 => h j (by omega) (by omega)
theorem x4e {q : Op} {a b : List R6} (h : slE q a b = 0) : Zi a = 0 ∧ Zi b = 0 ∧ y2o (slA q a b) (D6.cuts (a ++ b)) ((D6.cuts (a ++ b)).length - 1) 0 = 0 := by
 unfold slE at h
 cases g1 : (Zi a != 0) with
 | true => rw [g1, cond_true] at h; rw [h] at g1; cases g1
 | false =>
  cases g2 : (Zi b != 0) with
  | true => rw [g1, g2, cond_false, cond_true] at h; rw [h] at g2; cases g2
  | false =>
   rw [g1, g2, cond_false, cond_false] at h
   unfold eJ at h
   refine ⟨by simpa using g1, by simpa using g2, ?_⟩
   cases g3 : (y2o (slA q a b) (D6.cuts (a ++ b)) ((D6.cuts (a ++ b)).length - 1) 0 != 0) with
   | true => rw [g3, cond_true] at h; rw [h] at g3; cases g3
   | false => simpa using g3
theorem w1n {l : List R4} (h : z9a l = 0) : ∀ r ∈ l, Kw r = true := by
 unfold z9a at h
 cases g1 : decide (400 < l.length) with
 | true => rw [g1] at h; cases h
 | false =>
  cases g2 : l.all Kw with
  | false => rw [g1, g2] at h; cases h
  | true => exact List.all_eq_true.1 g2
theorem w1l {l : List R4} (h : Xh l = 0) : l.length ≤ 400 ∧ (∀ r ∈ l, Kw r = true) ∧ Zb l = D4.out l := by
 unfold Xh at h
 cases g1 : decide (400 < l.length) with
 | true => rw [g1] at h; cases h
 | false =>
  cases g2 : l.all Kw with
  | false => rw [g1, g2] at h; cases h
  | true =>
   rw [g1, g2, cond_false, cond_true] at h
   have hl : l.length ≤ 400 := by have := of_decide_eq_false g1; omega
   refine ⟨hl, List.all_eq_true.1 g2, ?_⟩
   have h2 : (D4.out l).length ≤ 400 := z9s h
   exact (y4y (List.all_eq_true.1 g2) hl h2).1
instance ptDec6 (l : List R6) (p : Int × Int × Int) : Decidable (ptL z6a.inB l p) := Classical.propDecidable _
theorem w0l {q : Op} {a b : List R6} {x : Int} (h : slA q a b x = 0) : z1w.can (slS q a b x) ∧ ∀ p, ptL z1w.inB (slS q a b x) p ↔ opB q.k (decide (ptL z6a.inB a (x, p))) (decide (ptL z6a.inB b (x, p))) = true := by
 obtain ⟨h1, h2, h3⟩ := y4o h
 obtain ⟨c1, c2, _⟩ := x4n h3
 obtain ⟨k1, k2, _⟩ := v5k q.k (w1n c1) (w1n c2)
 refine ⟨k1, fun p => ?_⟩
 have e : ∀ l : List R6, Xh (D6.inn l x) = 0 → decide (ptL z1w.inB (Zb (D6.inn l x)) p) = decide (ptL z6a.inB l (x, p)) := fun l hl => by
  obtain ⟨m1, m2, m3⟩ := w1l hl
  have : ptL z1w.inB (Zb (D6.inn l x)) p ↔ ptL z6a.inB l (x, p) := by
   rw [m3, (x0t m2 m1).2 p]
   exact Dim.pt_inn (D := D6) z1w.inB l x p
  exact decide_eq_decide.2 this
 rw [show ptL z1w.inB (slS q a b x) p ↔ _ from k2 p, e a h1, e b h2]
theorem w0m {q : Op} {a b : List R6} (h : slE q a b = 0) : z6a.can (slJ q a b) ∧ ∀ p, ptL z6a.inB (slJ q a b) p ↔ opB q.k (decide (ptL z6a.inB a p)) (decide (ptL z6a.inB b p)) = true := by
 have hf := y8k _ _ _ _ (x4e h).2.2
 have hc : (D6.cuts (a ++ b)).Pairwise (· < ·) := by
  show (Jk (D6.ends (a ++ b))).Pairwise (· < ·)
  rw [Qy]; exact (Vy _).1
 have eS : slJ q a b = (D6.goS (fun x => bif slA q a b x != 0 then [] else slS q a b x) (D6.cuts (a ++ b)) ((D6.cuts (a ++ b)).length - 1) 0 ⟨[], [], 0, 0⟩).out := by
  unfold slJ
  rw [D6.goS_congr (slS q a b) (fun x => bif slA q a b x != 0 then [] else slS q a b x)]
  intro j h1 h2
  show _ = bif slA q a b _ != 0 then _ else _
  rw [hf j h1 h2]; rfl
 have hs : ∀ x, z1w.can (bif slA q a b x != 0 then [] else slS q a b x) := fun x => by
  cases g : (slA q a b x != 0) with
  | true => exact z1w.nil
  | false => exact (w0l (by simpa using g)).1
 obtain ⟨h1, h2⟩ := Dim.goS_can y2n y6v z1w (cs := D6.cuts (a ++ b)) hc hs
 rw [eS]
 refine ⟨h1, fun ⟨x, p⟩ => ?_⟩
 rw [show ptL z6a.inB _ (x, p) ↔ _ from h2 x p]
 have ia : ∀ j, j + 1 < (D6.cuts (a ++ b)).length → rd (D6.cuts (a ++ b)) j ≤ x → x < rd (D6.cuts (a ++ b)) (j + 1) → (ptL z1w.inB (bif slA q a b (rd (D6.cuts (a ++ b)) j) != 0 then [] else slS q a b (rd (D6.cuts (a ++ b)) j)) p ↔ opB q.k (decide (ptL z6a.inB a (x, p))) (decide (ptL z6a.inB b (x, p))) = true) := fun j j1 j2 j3 => by
  have z := hf j (Nat.zero_le _) (by omega)
  have e : ∀ l : List R6, (∀ r ∈ l, r ∈ a ++ b) → decide (ptL z6a.inB l (rd (D6.cuts (a ++ b)) j, p)) = decide (ptL z6a.inB l (x, p)) := fun l hl => by
   have : ptL z6a.inB l (rd (D6.cuts (a ++ b)) j, p) ↔ ptL z6a.inB l (x, p) := by
    rw [show ptL z6a.inB l (rd (D6.cuts (a ++ b)) j, p) ↔ _ from (Dim.pt_inn (D := D6) z1w.inB l _ p).symm, Dim.inn_slab (a ++ b) l hl j1 j2 j3]
    exact Dim.pt_inn (D := D6) z1w.inB l x p
   exact decide_eq_decide.2 this
  rw [z, show ((0 : Int) != 0) = false from rfl, cond_false, (w0l z).2, e a fun r hr => List.mem_append.2 (.inl hr), e b fun r hr => List.mem_append.2 (.inr hr)]
 constructor
 ·rintro ⟨j, j1, j2, j3, j4⟩
  exact (ia j j1 j2 j3).1 j4
 ·intro hp
  refine Classical.byContradiction fun hn => ?_
  have hx : ∀ j, j + 1 < (D6.cuts (a ++ b)).length → ¬ (rd (D6.cuts (a ++ b)) j ≤ x ∧ x < rd (D6.cuts (a ++ b)) (j + 1)) := fun j j1 j2 => hn ⟨j, j1, j2.1, j2.2, (ia j j1 j2.1 j2.2).2 hp⟩
  have e : ∀ l : List R6, (∀ r ∈ l, r ∈ a ++ b) → decide (ptL z6a.inB l (x, p)) = false := fun l hl => decide_eq_false fun g => by
   have g := (Dim.pt_inn (D := D6) z1w.inB l x p).2 g
   rw [Dim.inn_out (a ++ b) l hl hx] at g
   exact y0o _ _ g
  rw [e a fun r hr => List.mem_append.2 (.inl hr), e b fun r hr => List.mem_append.2 (.inr hr), v2d] at hp
  cases hp
instance inSDec (l : List R6) (x y z : Int) : Decidable (inS l x y z) := Classical.propDecidable _
theorem w6c {q : Op} {a b : List R6} (h : slE q a b = 0) : (Qt q a b).length = 0 ↔ ∀ x y z, ¬ opB q.k (decide (inS a x y z)) (decide (inS b x y z)) = true := by
 obtain ⟨h1, h2⟩ := w0m h
 have e : Qt q a b = slJ q a b := z5m _ (by rw [h]; rfl)
 have ei : ∀ (l : List R6) (x y z : Int) [Decidable (inS l x y z)], decide (inS l x y z) = decide (ptL z6a.inB l (z, x, y)) := fun l x y z _ => decide_eq_decide.2 (y5o l x y z)
 rw [e]
 constructor
 ·intro hl x y z hp
  rw [ei, ei] at hp
  rw [List.eq_nil_of_length_eq_zero hl] at h2
  exact y0o _ _ ((h2 (z, x, y)).2 hp)
 ·intro hn
  rw [y3m z6a h1 fun ⟨z, x, y⟩ hp => hn x y z (by rw [ei, ei]; exact (h2 (z, x, y)).1 hp)]
  rfl
end Go.Am
namespace Go.Am
open Go.Proofs Go.Sort Go.Shelf Go.RowKit Go.Lib
def F6 (r s : R6) : Int := ov (nx 0 r) s + ov (nx 1 r) s + ov (nx 2 r) s + ov (nx 3 r) s + ov (nx 4 r) s + ov (nx 5 r) s
theorem v9a (r s : R6) : F6 r s = F6 s r := by
 unfold F6
 rw [x1g 0 (by omega), x1g 1 (by omega), x1g 2 (by omega), x1g 3 (by omega), x1g 4 (by omega), x1g 5 (by omega)]
 show ov (nx 1 s) r + ov (nx 0 s) r + ov (nx 3 s) r + ov (nx 2 s) r + ov (nx 5 s) r + ov (nx 4 s) r = _
 omega
theorem y5f {a d a' d' : Int} (h : a < d) (h' : a' < d') (hx : min d d' - max a a' ≤ 0) : ovl (a + 1) (d + 1) a' d' + ovl (a + -1) (d + -1) a' d' = if min d d' - max a a' = 0 then 1 else 0 := by
 unfold ovl
 split <;> omega
theorem F6_eq (r s : R6) : F6 r s = (ovl (r.a + 1) (r.d + 1) s.a s.d + ovl (r.a + -1) (r.d + -1) s.a s.d) * ovl r.b r.e s.b s.e * ovl r.c r.f s.c s.f + ovl r.a r.d s.a s.d * (ovl (r.b + 1) (r.e + 1) s.b s.e + ovl (r.b + -1) (r.e + -1) s.b s.e) * ovl r.c r.f s.c s.f + ovl r.a r.d s.a s.d * ovl r.b r.e s.b s.e * (ovl (r.c + 1) (r.f + 1) s.c s.f + ovl (r.c + -1) (r.f + -1) s.c s.f) := by
 rw [Int.add_mul, Int.add_mul, Int.mul_add, Int.add_mul, Int.mul_add]
 show ovl (r.a + 1) (r.d + 1) s.a s.d * ovl r.b r.e s.b s.e * ovl r.c r.f s.c s.f + ovl (r.a + -1) (r.d + -1) s.a s.d * ovl r.b r.e s.b s.e * ovl r.c r.f s.c s.f + ovl r.a r.d s.a s.d * ovl (r.b + 1) (r.e + 1) s.b s.e * ovl r.c r.f s.c s.f + ovl r.a r.d s.a s.d * ovl (r.b + -1) (r.e + -1) s.b s.e * ovl r.c r.f s.c s.f + ovl r.a r.d s.a s.d * ovl r.b r.e s.b s.e * ovl (r.c + 1) (r.f + 1) s.c s.f + ovl r.a r.d s.a s.d * ovl r.b r.e s.b s.e * ovl (r.c + -1) (r.f + -1) s.c s.f = _
 omega
theorem x1e {y z : Int} (hy : 0 < y ∧ y ≤ 2000000) (hz : 0 < z ∧ z ≤ 2000000) : IntKind.wrap .i64 (y * z) = y * z := by
 have h1 : y * z ≤ 2000000 * 2000000 := Int.mul_le_mul hy.2 hz.2 (by omega) (by omega)
 have h2 : 0 < y * z := Int.mul_pos hy.1 hz.1
 exact Zj (by omega)
theorem F6_kR {r s : R6} (hr : z0f r = true) (hs : z0f s = true) (h : Ap6 r s) : F6 r s = kR r s := by
 have v1 := Vo hr
 have v2 := Vo hs
 have ex : kX r.a r.d s.a s.d = min r.d s.d - max r.a s.a := by unfold kX; rw [z2i, z2j]; exact Zj (by omega)
 have ey : kX r.b r.e s.b s.e = min r.e s.e - max r.b s.b := by unfold kX; rw [z2i, z2j]; exact Zj (by omega)
 have ez : kX r.c r.f s.c s.f = min r.f s.f - max r.c s.c := by unfold kX; rw [z2i, z2j]; exact Zj (by omega)
 have hk : kR r s = kT (kX r.a r.d s.a s.d) (kX r.b r.e s.b s.e) (kX r.c r.f s.c s.f) := rfl
 rw [hk, ex, ey, ez, F6_eq]
 have hap : min r.d s.d - max r.a s.a ≤ 0 ∨ min r.e s.e - max r.b s.b ≤ 0 ∨ min r.f s.f - max r.c s.c ≤ 0 := by unfold Ap6 at h; omega
 have bx : min r.d s.d - max r.a s.a ≤ 2000000 := by omega
 have bY : min r.e s.e - max r.b s.b ≤ 2000000 := by omega
 have bz : min r.f s.f - max r.c s.c ≤ 2000000 := by omega
 have sx := y5f (a := r.a) (d := r.d) (a' := s.a) (d' := s.d) (by omega) (by omega)
 have sy := y5f (a := r.b) (d := r.e) (a' := s.b) (d' := s.e) (by omega) (by omega)
 have sz := y5f (a := r.c) (d := r.f) (a' := s.c) (d' := s.f) (by omega) (by omega)
 have ox : ovl r.a r.d s.a s.d = max 0 (min r.d s.d - max r.a s.a) := rfl
 have oy : ovl r.b r.e s.b s.e = max 0 (min r.e s.e - max r.b s.b) := rfl
 have oz : ovl r.c r.f s.c s.f = max 0 (min r.f s.f - max r.c s.c) := rfl
 rw [ox, oy, oz]
 generalize ovl (r.a + 1) (r.d + 1) s.a s.d + ovl (r.a + -1) (r.d + -1) s.a s.d = X at *
 generalize ovl (r.b + 1) (r.e + 1) s.b s.e + ovl (r.b + -1) (r.e + -1) s.b s.e = Y at *
 generalize ovl (r.c + 1) (r.f + 1) s.c s.f + ovl (r.c + -1) (r.f + -1) s.c s.f = Z at *
 clear ox oy oz ex ey ez hk
 generalize min r.d s.d - max r.a s.a = x at *
 generalize min r.e s.e - max r.b s.b = y at *
 generalize min r.f s.f - max r.c s.c = z at *
 have pos : ∀ t : Int, 0 < t → max 0 t = t := fun t ht => by omega
 have neg : ∀ t : Int, ¬ 0 < t → max 0 t = 0 := fun t ht => by omega
 unfold kT
 rcases triI x with ⟨h1, h2⟩ | ⟨h1, h2⟩ | ⟨h1, h2⟩ <;> rcases triI y with ⟨h3, h4⟩ | ⟨h3, h4⟩ | ⟨h3, h4⟩ <;> rcases triI z with ⟨h5, h6⟩ | ⟨h5, h6⟩ | ⟨h5, h6⟩ <;> rw [h1, h2, h3, h4, h5, h6] <;>
  simp only [beq_iff_eq, beq_eq_false_iff_ne, decide_eq_true_eq, decide_eq_false_iff_not] at h1 h2 h3 h4 h5 h6 <;>
  simp only [Bool.and_true, Bool.and_false, Bool.true_and, Bool.false_and, cond_true, cond_false]
 all_goals first
  | omega
  | (rw [neg x (by omega), neg y (by omega)]; simp only [Int.mul_zero, Int.zero_mul, Int.add_zero]; done)
  | (rw [neg x (by omega), neg z (by omega)]; simp only [Int.mul_zero, Int.zero_mul, Int.add_zero]; done)
  | (rw [neg y (by omega), neg z (by omega)]; simp only [Int.mul_zero, Int.zero_mul, Int.add_zero]; done)
  | (rw [neg x (by omega), sx (by omega), pos y (by omega), pos z (by omega), if_pos (by omega), x1e (by omega) (by omega)]; simp only [Int.one_mul, Int.zero_mul, Int.add_zero]; done)
  | (rw [neg x (by omega), sx (by omega), if_neg (by omega)]; simp only [Int.mul_zero, Int.zero_mul, Int.add_zero]; done)
  | (rw [neg y (by omega), sy (by omega), pos x (by omega), pos z (by omega), if_pos (by omega), x1e (by omega) (by omega)]; simp only [Int.mul_one, Int.mul_zero, Int.zero_mul, Int.add_zero, Int.zero_add]; done)
  | (rw [neg y (by omega), sy (by omega), if_neg (by omega)]; simp only [Int.mul_zero, Int.zero_mul, Int.add_zero]; done)
  | (rw [neg z (by omega), sz (by omega), pos x (by omega), pos y (by omega), if_pos (by omega), x1e (by omega) (by omega)]; simp only [Int.mul_one, Int.mul_zero, Int.zero_mul, Int.add_zero, Int.zero_add]; done)
  | (rw [neg z (by omega), sz (by omega), if_neg (by omega)]; simp only [Int.mul_zero, Int.zero_mul, Int.add_zero]; done)
theorem v8z {r : R6} (hr : z0f r = true) : 6 * bxV r - F6 r r = sfA r := by
 have v := Vo hr
 rw [F6_eq]
 have e : ∀ a d : Int, a < d → ovl (a + 1) (d + 1) a d + ovl (a + -1) (d + -1) a d = 2 * (d - a) - 2 := fun a d h => by unfold ovl; omega
 have e0 : ∀ a d : Int, a < d → ovl a d a d = d - a := fun a d h => by unfold ovl; omega
 rw [e _ _ v.1, e _ _ v.2.1, e _ _ v.2.2.1, e0 _ _ v.1, e0 _ _ v.2.1, e0 _ _ v.2.2.1]
 unfold bxV sfA
 generalize r.d - r.a = x
 generalize r.e - r.b = y
 generalize r.f - r.c = z
 simp only [Int.sub_mul, Int.mul_sub, Int.mul_add, Int.add_mul]
 have a1 : 6 * (x * y * z) - (2 * x * y * z - 2 * y * z + (x * (2 * y) * z - x * 2 * z) + (x * y * (2 * z) - x * y * 2)) = 2 * (x * y) + 2 * (x * z) + 2 * (y * z) := by
  rw [show 2 * x * y * z = 2 * (x * y * z) by simp only [Int.mul_assoc], show x * (2 * y) * z = 2 * (x * y * z) by rw [Int.mul_left_comm, Int.mul_assoc], show x * y * (2 * z) = 2 * (x * y * z) by rw [Int.mul_left_comm], show x * y * 2 = 2 * (x * y) by rw [Int.mul_comm], show x * 2 * z = 2 * (x * z) by rw [Int.mul_comm x 2, Int.mul_assoc], Int.mul_assoc 2 y z]
  omega
 exact a1
def T6s (l : List R6) : Int := sm l fun r => 6 * bxV r - sm l fun s => F6 r s
theorem w9v (l : List R6) (r : R6) : T6s (l ++ [r]) = T6s l + (6 * bxV r - F6 r r) - sm l (fun s => 2 * F6 r s) := by
 unfold T6s
 rw [Us, Vx, y0i, Us, Vx, y0i]
 have e : sm l (fun x => 6 * bxV x - sm (l ++ [r]) fun s => F6 x s) = sm l (fun x => 6 * bxV x - sm l fun s => F6 x s) - sm l fun x => F6 r x := by
  rw [← w0i]
  refine Xu fun x _ => ?_
  rw [Us, Vx, y0i, v9a x r]; omega
 have ee : (sm l fun x => F6 r x) = sm l (F6 r) := rfl
 rw [e, y0j]
 omega
theorem w0n {X : List R6} (hv : ∀ r ∈ X, z0f r = true) (ha : X.Pairwise Ap6) : ∀ k, k ≤ X.length → sfS X k = T6s (X.take k)
 | 0, _ => rfl
 | k + 1, h => by
  have hk : k < X.length := by omega
  have e : X.take (k + 1) = X.take k ++ [rd X k] := by
   rw [List.take_add_one, List.getElem?_eq_getElem hk, Xj hk]; rfl
  have er : rd X k ∈ X := by rw [Xj hk]; exact List.getElem_mem hk
  rw [e, w9v, ← w0n hv ha k (by omega)]
  show sfS X k + (sfA (rd X k) - sm (Xe X 0 k) fun s => 2 * kR (rd X k) s) = _
  rw [w7t (show 0 + k ≤ X.length by omega), List.drop_zero, v8z (hv _ er)]
  have : (sm (X.take k) fun s => 2 * kR (rd X k) s) = sm (X.take k) fun s => 2 * F6 (rd X k) s := Xu fun s hs => by
   obtain ⟨j, hj, rfl⟩ := List.getElem_of_mem hs
   rw [List.getElem_take]
   have hj' : j < k := by have := hj; rw [List.length_take] at this; omega
   rw [F6_kR (hv _ er) (hv _ (List.getElem_mem _))]
   have := List.pairwise_iff_getElem.1 ha j k (by omega) hk hj'
   rw [Xj hk]
   unfold Ap6 at this ⊢
   omega
  rw [this]; omega
def z6d (X : List R6) : Int := (sm X bxV - E2 0 X X) + (sm X bxV - E2 1 X X) + (sm X bxV - E2 2 X X) + (sm X bxV - E2 3 X X) + (sm X bxV - E2 4 X X) + (sm X bxV - E2 5 X X)
theorem w5c (X : List R6) : T6s X = z6d X := by
 unfold T6s z6d
 rw [w0i, y0j]
 have e : (sm X fun x => sm X fun s => F6 x s) = E2 0 X X + E2 1 X X + E2 2 X X + E2 3 X X + E2 4 X X + E2 5 X X := by
  unfold E2
  rw [← z1p, ← z1p, ← z1p, ← z1p, ← z1p]
  refine Xu fun x _ => ?_
  rw [← z1p, ← z1p, ← z1p, ← z1p, ← z1p]
  rfl
 rw [e]; omega
theorem Ku {X : List R6} (h : Sol X) : sfS X X.length = z6d X := by
 rw [w0n h.val h.ap X.length (Nat.le_refl _), List.take_of_length_le (Nat.le_refl _), w5c]
end Go.Am
namespace Go.Am
open Go.Proofs Go.Sort Go.Shelf Go.RowKit Go.Lib
namespace Dim
variable {α β : Type} {D : Dim α β}
theorem v6m (hD : D.Fair) (s : List β) (a b x : Int) : D.inn (s.map (D.put a b)) x = if a ≤ x ∧ x < b then s else [] := by
 unfold inn
 have e : (s.map (D.put a b)).filter (fun r => decide (D.lo r ≤ x) && decide (x < D.hi r)) = if a ≤ x ∧ x < b then s.map (D.put a b) else [] := by
  split
  ·rename_i h
   refine List.filter_eq_self.2 fun r hr => ?_
   obtain ⟨c, _, rfl⟩ := List.mem_map.1 hr
   rw [hD.lo_put, hD.hi_put, decide_eq_true h.1, decide_eq_true h.2]; rfl
  ·rename_i h
   refine List.filter_eq_nil_iff.2 fun r hr hq => h ?_
   obtain ⟨c, _, rfl⟩ := List.mem_map.1 hr
   rw [hD.lo_put, hD.hi_put, Bool.and_eq_true] at hq
   exact ⟨of_decide_eq_true hq.1, of_decide_eq_true hq.2⟩
 rw [e]
 split
 ·rw [List.map_map]
  exact (List.map_congr_left fun c _ => hD.pr_put a b c).trans (List.map_id _)
 ·rfl
theorem inn_can (hD : D.Fair) {γ : Type} (M : Sem β γ) (x : Int) : ∀ G : List (z0d β), z1u M G → M.can (D.inn (D.flat G) x)
 | [], _ => M.nil
 | g :: r, h => by
  rw [show D.flat (g :: r) = g.s.map (D.put g.a g.b) ++ D.flat r from rfl, D.inn_append, v6m hD]
  split
  ·rename_i hx
   have e : D.inn (D.flat r) x = [] := by
    unfold inn
    rw [List.map_eq_nil_iff, List.filter_eq_nil_iff]
    intro a ha hq
    obtain ⟨k, hk, ha⟩ := List.mem_flatMap.1 ha
    obtain ⟨c, _, rfl⟩ := List.mem_map.1 ha
    rw [hD.lo_put, Bool.and_eq_true] at hq
    have h1 := of_decide_eq_true hq.1
    have := h.later k hk
    omega
   rw [e, List.append_nil]
   exact h.head.2.1
  ·rw [List.nil_append]
   exact inn_can hD M x r h.tail
end Dim
theorem w6d {L : List R6} (hl : L.length ≤ 400) (hv : ∀ r ∈ L, z0f r = true) (hc : z6a.can L) : Zi L = 0 := by
 have hi : ∀ z, D4.out (D6.inn L z) = D6.inn L z := fun z => by
  obtain ⟨h1, h2⟩ := x0t (y6d hv z) (Nat.le_trans (D6.inn_length L z) hl)
  obtain ⟨G, hG, e⟩ := hc
  exact z1w.uniq _ _ h1 (by rw [e]; exact Dim.inn_can y2n z1w z G hG) h2
 have hs : Secs L := fun z => by rw [hi z]; exact Nat.le_trans (D6.inn_length L z) hl
 obtain ⟨h1, h2⟩ := v3z hv hl hs
 have e := z6a.uniq _ _ h1 hc h2
 have ok : ∀ k i, okF L k i = true := fun k => by
  induction k with
  | zero => intro i; rfl
  | succ k ih =>
   intro i
   show (bif Xh (D6.inn L (rd (D6.cuts L) i)) != 0 then false else okF L k (i + 1)) = true
   rw [(y4y (y6d hv _) (Nat.le_trans (D6.inn_length L _) hl) (hs _)).2]
   exact ih (i + 1)
 unfold Zi
 rw [decide_eq_false (by omega), List.all_eq_true.2 hv, ok, e, decide_eq_false (by omega), show Jo L L = true from decide_eq_true rfl]
 rfl
theorem v8p {L : List R6} (hc : z6a.can L) (hb : ∀ x y z, inS L x y z → (-1000000 ≤ x ∧ x < 1000000) ∧ (-1000000 ≤ y ∧ y < 1000000) ∧ (-1000000 ≤ z ∧ z < 1000000)) : ∀ r ∈ L, z0f r = true := fun r hr => by
 have hp : r.a < r.d ∧ r.b < r.e ∧ r.c < r.f := by
  obtain ⟨G, hG, e⟩ := hc
  rw [e] at hr
  obtain ⟨g, hg, hr⟩ := List.mem_flatMap.1 hr
  obtain ⟨b, hb, rfl⟩ := List.mem_map.1 hr
  obtain ⟨h1, ⟨H, hH, e2⟩, _⟩ := hG.all g hg
  rw [e2] at hb
  obtain ⟨k, hk, hb⟩ := List.mem_flatMap.1 hb
  obtain ⟨c, hc, rfl⟩ := List.mem_map.1 hb
  obtain ⟨h2, h3, _⟩ := hH.all k hk
  exact ⟨h2, Can.pos h3 c hc, h1⟩
 have h1 := hb r.a r.b r.c ⟨r, hr, by omega, by omega, by omega⟩
 have h2 := hb (r.d - 1) (r.e - 1) (r.f - 1) ⟨r, hr, by omega, by omega, by omega⟩
 rw [x3y]
 simp only [x3z, Bool.and_eq_true, decide_eq_true_eq]
 omega
theorem y3p (a b t x : Int) : ind (a + t) (b + t) x = ind a b (x - t) := by
 unfold ind
 by_cases h : a ≤ x - t ∧ x - t < b
 ·rw [if_pos h, if_pos (by omega)]
 ·rw [if_neg h, if_neg (by omega)]
theorem inR_nx (d : Int) (hd : 0 ≤ d ∧ d ≤ 5) : ∃ u v w : Int, ∀ r x y z, inR (nx d r) x y z = inR r (x - u) (y - v) (z - w) := by
 have : d = 0 ∨ d = 1 ∨ d = 2 ∨ d = 3 ∨ d = 4 ∨ d = 5 := by omega
 rcases this with rfl | rfl | rfl | rfl | rfl | rfl
 ·exact ⟨1, 0, 0, fun r x y z => by show ind (r.a + 1) (r.d + 1) x * _ * _ = _; rw [y3p, inR, Int.sub_zero, Int.sub_zero]; rfl⟩
 ·exact ⟨-1, 0, 0, fun r x y z => by show ind (r.a + -1) (r.d + -1) x * _ * _ = _; rw [y3p, inR, Int.sub_zero, Int.sub_zero]; rfl⟩
 ·exact ⟨0, 1, 0, fun r x y z => by show _ * ind (r.b + 1) (r.e + 1) y * _ = _; rw [y3p, inR, Int.sub_zero, Int.sub_zero]; rfl⟩
 ·exact ⟨0, -1, 0, fun r x y z => by show _ * ind (r.b + -1) (r.e + -1) y * _ = _; rw [y3p, inR, Int.sub_zero, Int.sub_zero]; rfl⟩
 ·exact ⟨0, 0, 1, fun r x y z => by show _ * _ * ind (r.c + 1) (r.f + 1) z = _; rw [y3p, inR, Int.sub_zero, Int.sub_zero]; rfl⟩
 ·exact ⟨0, 0, -1, fun r x y z => by show _ * _ * ind (r.c + -1) (r.f + -1) z = _; rw [y3p, inR, Int.sub_zero, Int.sub_zero]; rfl⟩
theorem w2m (d : Int) (hd : 0 ≤ d ∧ d ≤ 5) {r : R6} (h : z0f r = true) : x7u (nx d r) := by
 have v := Vo h
 have : d = 0 ∨ d = 1 ∨ d = 2 ∨ d = 3 ∨ d = 4 ∨ d = 5 := by omega
 rcases this with rfl | rfl | rfl | rfl | rfl | rfl
 ·refine ⟨?_, ?_, ?_, ?_, ?_, ?_⟩ <;> first | (show _ ≤ r.a + 1; omega) | (show r.d + 1 ≤ _; omega) | (show _ ≤ r.b; omega) | (show r.e ≤ _; omega) | (show _ ≤ r.c; omega) | (show r.f ≤ _; omega)
 ·refine ⟨?_, ?_, ?_, ?_, ?_, ?_⟩ <;> first | (show _ ≤ r.a + -1; omega) | (show r.d + -1 ≤ _; omega) | (show _ ≤ r.b; omega) | (show r.e ≤ _; omega) | (show _ ≤ r.c; omega) | (show r.f ≤ _; omega)
 ·refine ⟨?_, ?_, ?_, ?_, ?_, ?_⟩ <;> first | (show _ ≤ r.b + 1; omega) | (show r.e + 1 ≤ _; omega) | (show _ ≤ r.a; omega) | (show r.d ≤ _; omega) | (show _ ≤ r.c; omega) | (show r.f ≤ _; omega)
 ·refine ⟨?_, ?_, ?_, ?_, ?_, ?_⟩ <;> first | (show _ ≤ r.b + -1; omega) | (show r.e + -1 ≤ _; omega) | (show _ ≤ r.a; omega) | (show r.d ≤ _; omega) | (show _ ≤ r.c; omega) | (show r.f ≤ _; omega)
 ·refine ⟨?_, ?_, ?_, ?_, ?_, ?_⟩ <;> first | (show _ ≤ r.c + 1; omega) | (show r.f + 1 ≤ _; omega) | (show _ ≤ r.a; omega) | (show r.d ≤ _; omega) | (show _ ≤ r.b; omega) | (show r.e ≤ _; omega)
 ·refine ⟨?_, ?_, ?_, ?_, ?_, ?_⟩ <;> first | (show _ ≤ r.c + -1; omega) | (show r.f + -1 ≤ _; omega) | (show _ ≤ r.a; omega) | (show r.d ≤ _; omega) | (show _ ≤ r.b; omega) | (show r.e ≤ _; omega)
theorem w5g {p : List Int} (hp : Pts p) (d : Int) (hd : 0 ≤ d ∧ d ≤ 5) {X : List R6} (Y : List R6) (hX : ∀ r ∈ X, z0f r = true) : E2 d X Y = S3 p fun x y z => cnt (X.map (nx d)) x y z * cnt Y x y z := by
 rw [← v3k, S2_S3 hp]
 intro r hr
 obtain ⟨s, hs, rfl⟩ := List.mem_map.1 hr
 exact w2m d hd (hX s hs)
theorem v3b (d : Int) (hd : 0 ≤ d ∧ d ≤ 5) : ∃ u v w : Int, ∀ X x y z, cnt (X.map (nx d)) x y z = cnt X (x - u) (y - v) (z - w) := by
 obtain ⟨u, v, w, h⟩ := inR_nx d hd
 exact ⟨u, v, w, fun X x y z => by unfold cnt; rw [w0j]; exact Xu fun r _ => h r x y z⟩
theorem y4h (d : Int) (hd : 0 ≤ d ∧ d ≤ 5) {U V : List R6} (hU : ∀ r ∈ U, z0f r = true) (hV : ∀ r ∈ V, z0f r = true) (h : ∀ x y z, cnt U x y z = cnt V x y z) : E2 d U U = E2 d V V := by
 obtain ⟨p, hp⟩ := x4t
 obtain ⟨u, v, w, hn⟩ := v3b d hd
 rw [w5g hp d hd _ hU, w5g hp d hd _ hV]
 exact x5y fun x y z => by rw [hn, hn, h, h]
theorem v3n {U V : List R6} (hU : ∀ r ∈ U, z0f r = true) (hV : ∀ r ∈ V, z0f r = true) (h : ∀ x y z, cnt U x y z = cnt V x y z) : sm U bxV = sm V bxV := by
 obtain ⟨p, hp⟩ := x4t
 have e : ∀ X : List R6, (∀ r ∈ X, z0f r = true) → sm X bxV = S3 p (cnt X) := fun X hX => by
  show _ = S3 p (fun x y z => sm X fun r => inR r x y z)
  rw [w9x]
  exact Xu fun r hr => (bx_S3 hp r (hX r hr)).symm
 rw [e U hU, e V hV]
 exact x5y h
theorem E2_app (d : Int) (A B Y : List R6) : E2 d (A ++ B) Y = E2 d A Y + E2 d B Y := Us ..
theorem v9b (d : Int) (A X Y : List R6) : E2 d A (X ++ Y) = E2 d A X + E2 d A Y := by
 unfold E2
 rw [← z1p]
 exact Xu fun r _ => Us ..
def y9r (X Y : List R6) : Int := E2 0 X Y + E2 1 X Y + E2 2 X Y + E2 3 X Y + E2 4 X Y + E2 5 X Y
theorem x0b {X Y U : List R6} (hX : Sol X) (hY : Sol Y) (hU : ∀ r ∈ U, z0f r = true) (h : ∀ x y z, cnt U x y z = cnt (X ++ Y) x y z) : z6d X + z6d Y = z6d U + 2 * y9r X Y := by
 have hV : ∀ r ∈ X ++ Y, z0f r = true := fun r hr => (List.mem_append.1 hr).elim (hX.val r) (hY.val r)
 have e : z6d U = z6d (X ++ Y) := by
  unfold z6d
  rw [v3n hU hV h, y4h 0 (by omega) hU hV h, y4h 1 (by omega) hU hV h, y4h 2 (by omega) hU hV h, y4h 3 (by omega) hU hV h, y4h 4 (by omega) hU hV h, y4h 5 (by omega) hU hV h]
 rw [e]
 have c0 : E2 0 Y X = E2 1 X Y := z4i 0 (by omega) Y X
 have c1 : E2 1 Y X = E2 0 X Y := z4i 1 (by omega) Y X
 have c2 : E2 2 Y X = E2 3 X Y := z4i 2 (by omega) Y X
 have c3 : E2 3 Y X = E2 2 X Y := z4i 3 (by omega) Y X
 have c4 : E2 4 Y X = E2 5 X Y := z4i 4 (by omega) Y X
 have c5 : E2 5 Y X = E2 4 X Y := z4i 5 (by omega) Y X
 unfold z6d y9r
 simp only [E2_app, v9b, Us, c0, c1, c2, c3, c4, c5]
 omega
theorem z3e (d : Int) (hd : 0 ≤ d ∧ d ≤ 5) {X Y : List R6} (hX : Sol X) (hY : Sol Y) : 0 ≤ E2 d X Y - E2 d X (Ye X Y) ∧ E2 d X Y - E2 d X (Ye X Y) ≤ sm X bxV - E2 d X X ∧ sm X bxV - E2 d X X ≤ 8000120000600001000 ∧ 0 ≤ E2 d X X := by
 obtain ⟨p, hp⟩ := x4t
 obtain ⟨u, v, w, hn⟩ := v3b d hd
 have hc : ∀ x y z, cnt (Ye X Y) x y z = cnt X x y z * cnt Y x y z := fun x y z => by
  unfold cnt
  rw [v0j, ← x4d]
  refine Xu fun r _ => ?_
  rw [← y0j]
  refine Xu fun s _ => ?_
  unfold z0b
  have hm : inR r x y z * inR s x y z = inR ⟨max r.a s.a, max r.b s.b, max r.c s.c, min r.d s.d, min r.e s.e, min r.f s.f⟩ x y z := by
   unfold inR
   rw [← z6o, ← z6o, ← z6o]
   simp only [Int.mul_comm, Int.mul_left_comm, Int.mul_assoc]
  rw [hm]
  cases hq : decide (max r.a s.a < min r.d s.d) && (decide (max r.b s.b < min r.e s.e) && decide (max r.c s.c < min r.f s.f)) with
  | true => rfl
  | false =>
   show 0 = _
   rw [y8e]
   refine (if_neg fun hp => ?_).symm
   have : (decide (max r.a s.a < min r.d s.d) && (decide (max r.b s.b < min r.e s.e) && decide (max r.c s.c < min r.f s.f))) = true := by
    simp only [Bool.and_eq_true, decide_eq_true_eq]
    simp only at hp
    omega
   rw [this] at hq; cases hq
 have hA : sm X bxV = S3 p (cnt (X.map (nx d))) := by
  have : sm X bxV = sm (X.map (nx d)) bxV := by
   rw [w0j]
   refine Xu fun r _ => ?_
   have : d = 0 ∨ d = 1 ∨ d = 2 ∨ d = 3 ∨ d = 4 ∨ d = 5 := by omega
   have e : ∀ a b t : Int, b + t - (a + t) = b - a := fun a b t => by omega
   rcases this with rfl | rfl | rfl | rfl | rfl | rfl
   ·show _ = (r.d + 1 - (r.a + 1)) * _ * _; rw [e]; rfl
   ·show _ = (r.d + -1 - (r.a + -1)) * _ * _; rw [e]; rfl
   ·show _ = _ * (r.e + 1 - (r.b + 1)) * _; rw [e]; rfl
   ·show _ = _ * (r.e + -1 - (r.b + -1)) * _; rw [e]; rfl
   ·show _ = _ * _ * (r.f + 1 - (r.c + 1)); rw [e]; rfl
   ·show _ = _ * _ * (r.f + -1 - (r.c + -1)); rw [e]; rfl
  rw [this]
  show _ = S3 p (fun x y z => sm (X.map (nx d)) fun r => inR r x y z)
  rw [w9x]
  refine Xu fun s hs => ?_
  obtain ⟨r, hr, rfl⟩ := List.mem_map.1 hs
  have v := Vo (hX.val r hr)
  have hnr := w2m d hd (hX.val r hr)
  have pos : (nx d r).a < (nx d r).d ∧ (nx d r).b < (nx d r).e ∧ (nx d r).c < (nx d r).f := by
   have : d = 0 ∨ d = 1 ∨ d = 2 ∨ d = 3 ∨ d = 4 ∨ d = 5 := by omega
   rcases this with rfl | rfl | rfl | rfl | rfl | rfl
   ·exact ⟨by show r.a + 1 < r.d + 1; omega, v.2.1, v.2.2.1⟩
   ·exact ⟨by show r.a + -1 < r.d + -1; omega, v.2.1, v.2.2.1⟩
   ·exact ⟨v.1, by show r.b + 1 < r.e + 1; omega, v.2.2.1⟩
   ·exact ⟨v.1, by show r.b + -1 < r.e + -1; omega, v.2.2.1⟩
   ·exact ⟨v.1, v.2.1, by show r.c + 1 < r.f + 1; omega⟩
   ·exact ⟨v.1, v.2.1, by show r.c + -1 < r.f + -1; omega⟩
  generalize nx d r = t at *
  obtain ⟨n1, n2, n3, n4, n5, n6⟩ := hnr
  show _ = S3 p (fun x y z => ind t.a t.d x * ind t.b t.e y * ind t.c t.f z)
  rw [x5x, hp.1 _ _ (by omega), hp.1 _ _ (by omega), hp.1 _ _ (by omega)]
  unfold bxV
  rw [show max 0 (t.d - t.a) = t.d - t.a by omega, show max 0 (t.e - t.b) = t.e - t.b by omega, show max 0 (t.f - t.c) = t.f - t.c by omega]
 have b1 : ∀ x y z, 0 ≤ cnt (X.map (nx d)) x y z ∧ cnt (X.map (nx d)) x y z ≤ 1 := fun x y z => ⟨Un .., by rw [hn]; exact y8o X hX.ap ..⟩
 rw [hA, w5g hp d hd Y hX.val, w5g hp d hd (Ye X Y) hX.val, w5g hp d hd X hX.val, ← v3i, ← v3i]
 refine ⟨y9f fun x y z => ?_, w5d fun x y z => ?_, Int.le_trans (w5d (g := fun _ _ _ => 1) fun x y z => ?_) (S3_one hp), y9f fun x y z => Int.mul_nonneg (Un ..) (Un ..)⟩
 all_goals
  have i1 := b1 x y z
  have i2 := Un X x y z
  have i3 := y8o X hX.ap x y z
  have i4 := Un Y x y z
  have i5 := y8o Y hY.ap x y z
  try rw [hc]
  generalize cnt (X.map (nx d)) x y z = m at *
  generalize cnt X x y z = n at *
  generalize cnt Y x y z = k at *
  have q1 : m = 0 ∨ m = 1 := by omega
  have q2 : n = 0 ∨ n = 1 := by omega
  have q3 : k = 0 ∨ k = 1 := by omega
  rcases q1 with rfl | rfl <;> rcases q2 with rfl | rfl <;> rcases q3 with rfl | rfl <;> decide
end Go.Am
namespace Go.Am
open Go.Proofs Go.Sort Go.Shelf Go.RowKit Go.Lib
def sd (X : List R6) (d : Int) : Int := sm X bxV - E2 d X X
def cd (X Y : List R6) (d : Int) : Int := E2 d X Y - E2 d X (Ye X Y)
theorem v4d {q : Op} {a b : List R6} (h : slE q a b = 0) : (slJ q a b).length ≤ 400 := by
 obtain ⟨h1, h2, h3⟩ := x4e h
 unfold slE at h
 rw [h1, h2, show ((0 : Int) != 0) = false from rfl, cond_false, cond_false, h3] at h
 exact z9s h
theorem v2c {X : List R6} (hX : Zi X = 0) (d : Int) (hd : 0 ≤ d ∧ d ≤ 5) : Vm X d = 0 ∧ Vw X d = sd X d := by
 have sX := Sol.of hX
 obtain ⟨_, _, c3, c4⟩ := z3e d hd sX sX
 have c5 : 0 ≤ sm X bxV - E2 d X X := by
  have := z3e d hd sX sX
  omega
 unfold Vw Vm sd
 rw [hX, show ((0 : Int) != 0) = false from rfl, decide_eq_false (by omega), decide_eq_false (by omega)]
 refine ⟨rfl, ?_⟩
 show IntKind.wrap .i64 _ = _
 have : Cg (z7f X - prV X X d) (sm X bxV - E2 d X X) := (x9s X).sub (y0p X X d hd (z9y hX))
 rw [this.eq]
 exact Zj (by omega)
theorem ocv_eq {X Y : List R6} (hX : Zi X = 0) (hY : Zi Y = 0) (d : Int) (hd : 0 ≤ d ∧ d ≤ 5) : z5f X Y d = 0 ∧ z2f X Y d = cd X Y d := by
 obtain ⟨c1, c2, c3, c4⟩ := z3e d hd (Sol.of hX) (Sol.of hY)
 unfold z2f z5f cd
 rw [hX, hY, show ((0 : Int) != 0) = false from rfl, decide_eq_false (by omega), decide_eq_false (by omega)]
 refine ⟨rfl, ?_⟩
 show IntKind.wrap .i64 _ = _
 have : Cg (prV X Y d - prV X (Ye X Y) d) (E2 d X Y - E2 d X (Ye X Y)) := (y0p X Y d hd (z9y hX)).sub (y0p X (Ye X Y) d hd (z9y hX))
 rw [this.eq]
 exact Zj (by omega)
theorem w0a {X Y : List R6} (hX : Zi X = 0) (hY : Zi Y = 0) (lX : decide (X.length ≤ 100 ∨ 400 < X.length) = true) (lY : decide (Y.length ≤ 100 ∨ 400 < Y.length) = true) (d : Int) (hd : 0 ≤ d ∧ d ≤ 5) (S C : Int) :
  z0t X Y (.h0 S C d) = .to (.h0 (IntKind.wrap .i64 (S + sd X d)) (IntKind.wrap .i64 (C + cd X Y d)) (d + 1)) := by
 have hm : 0 ≤ Int.tmod d 2 ∧ Int.tmod d 2 ≤ 1 := by
  have : d = 0 ∨ d = 1 ∨ d = 2 ∨ d = 3 ∨ d = 4 ∨ d = 5 := by omega
  rcases this with rfl | rfl | rfl | rfl | rfl | rfl <;> decide
 have hr : 0 ≤ rv d ∧ rv d ≤ 5 := by
  have : d = 0 ∨ d = 1 ∨ d = 2 ∨ d = 3 ∨ d = 4 ∨ d = 5 := by omega
  rcases this with rfl | rfl | rfl | rfl | rfl | rfl <;> decide
 have w : IntKind.wrap .i64 (IntKind.wrap .i64 (d + 1) - IntKind.wrap .i64 (2 * Int.tmod d 2)) = rv d := by
  rw [Zj (n := d + 1) (by omega), Zj (n := 2 * Int.tmod d 2) (by omega)]
  exact Zj (n := rv d) (by omega)
 have w1 : IntKind.wrap .i64 (d + 1) = d + 1 := Zj (by omega)
 obtain ⟨a1, a2⟩ := v2c hX d hd
 obtain ⟨b1, b2⟩ := v2c hX (rv d) hr
 obtain ⟨c1, c2⟩ := ocv_eq hX hY d hd
 obtain ⟨k1, k2, k3, k4⟩ := z3e d hd (Sol.of hX) (Sol.of hY)
 have e : sd X (rv d) = sd X d := by unfold sd; rw [← z4i d hd X X]
 have o1 : ∀ d, Xt X d = true := fun d => lX
 have o2 : Kt X Y d = true := by show Xi X Y = true; unfold Xi; rw [lX, lY]; rfl
 have g1 : decide (cd X Y d < 0) = false := decide_eq_false (by unfold cd; omega)
 have g2 : decide (cd X Y d > sd X d) = false := decide_eq_false (by unfold cd sd; omega)
 have g3 : decide (d < 6) = true := decide_eq_true (by omega)
 have nz : ((0 : Int) != 0) = false := rfl
 have ns : (sd X d != sd X d) = false := by simp
 simp only [z0t, Zg, g3, w, o1, o2, a1, b1, c1, a2, b2, c2, e, g1, g2, nz, ns, cond_true, cond_false]
 rw [w1]
theorem srf_run (X Y : List R6) : ∃ N, Ya (z0t X Y) N (z8m X Y) = .ret [.bool true] := by
 unfold z8m
 simp only [Zg, show ∀ l, z2k l = true from fun _ => rfl, show ∀ l, z3y l = true from fun _ => rfl, cond_true]
 rcases Yc (v2v X) with g1 | g1
 ·exact ⟨0, by simp only [g1, cond_true]; rfl⟩
 rcases Yc (z3m X != 0) with g2 | g2
 ·exact ⟨0, by simp only [g1, g2, cond_true, cond_false]; rfl⟩
 rcases Yc (v2v Y) with g3 | g3
 ·exact ⟨0, by simp only [g1, g2, g3, cond_true, cond_false]; rfl⟩
 rcases Yc (z3m Y != 0) with g4 | g4
 ·exact ⟨0, by simp only [g1, g2, g3, g4, cond_true, cond_false]; rfl⟩
 have hX : Zi X = 0 := by rw [y5x]; simpa using g2
 have hY : Zi Y = 0 := by rw [y5x]; simpa using g4
 have sX := Sol.of hX
 have sY := Sol.of hY
 have lX := y8f g1
 have lY := y8f g3
 have nz : ((0 : Int) != 0) = false := rfl
 refine ⟨7, ?_⟩
 simp only [g1, g2, g3, g4, cond_false]
 have r := w0a hX hY lX lY
 rw [Zv, r 0 (by omega), Zv, r _ (by omega), Zv, r _ (by omega), Zv, r _ (by omega), Zv, r _ (by omega), Zv, r _ (by omega)]
 have hS : ∀ x, Cg x (z6d X) → IntKind.wrap .i64 x = IntKind.wrap .i64 (sfS X X.length) := fun x hx => by rw [Ku sX]; exact hx.eq
 have v5 : IntKind.wrap .i64 (IntKind.wrap .i64 (IntKind.wrap .i64 (IntKind.wrap .i64 (IntKind.wrap .i64 (IntKind.wrap .i64 (0 + sd X 0) + sd X (0 + 1)) + sd X (0 + 1 + 1)) + sd X (0 + 1 + 1 + 1)) + sd X (0 + 1 + 1 + 1 + 1)) + sd X (0 + 1 + 1 + 1 + 1 + 1)) = IntKind.wrap .i64 (sfS X X.length) := by
  refine hS _ ?_
  have : Cg (IntKind.wrap .i64 (IntKind.wrap .i64 (IntKind.wrap .i64 (IntKind.wrap .i64 (IntKind.wrap .i64 (0 + sd X 0) + sd X (0 + 1)) + sd X (0 + 1 + 1)) + sd X (0 + 1 + 1 + 1)) + sd X (0 + 1 + 1 + 1 + 1)) + sd X (0 + 1 + 1 + 1 + 1 + 1)) (0 + sd X 0 + sd X 1 + sd X 2 + sd X 3 + sd X 4 + sd X 5) :=
   ((((((Cg.wrap _).add (Cg.refl (sd X 1))).w.add (Cg.refl (sd X 2))).w.add (Cg.refl (sd X 3))).w.add (Cg.refl (sd X 4))).w.add (Cg.refl (sd X 5)))
  rwa [show 0 + sd X 0 + sd X 1 + sd X 2 + sd X 3 + sd X 4 + sd X 5 = z6d X by unfold z6d sd; omega] at this
 rw [v5]
 have v6 : Cg (IntKind.wrap .i64 (IntKind.wrap .i64 (IntKind.wrap .i64 (IntKind.wrap .i64 (IntKind.wrap .i64 (IntKind.wrap .i64 (0 + cd X Y 0) + cd X Y (0 + 1)) + cd X Y (0 + 1 + 1)) + cd X Y (0 + 1 + 1 + 1)) + cd X Y (0 + 1 + 1 + 1 + 1)) + cd X Y (0 + 1 + 1 + 1 + 1 + 1))) (0 + cd X Y 0 + cd X Y 1 + cd X Y 2 + cd X Y 3 + cd X Y 4 + cd X Y 5) :=
  ((((((Cg.wrap _).add (Cg.refl (cd X Y 1))).w.add (Cg.refl (cd X Y 2))).w.add (Cg.refl (cd X Y 3))).w.add (Cg.refl (cd X Y 4))).w.add (Cg.refl (cd X Y 5))).w
 have v6i := x9q (IntKind.wrap .i64 (IntKind.wrap .i64 (IntKind.wrap .i64 (IntKind.wrap .i64 (IntKind.wrap .i64 (0 + cd X Y 0) + cd X Y (0 + 1)) + cd X Y (0 + 1 + 1)) + cd X Y (0 + 1 + 1 + 1)) + cd X Y (0 + 1 + 1 + 1 + 1)) + cd X Y (0 + 1 + 1 + 1 + 1 + 1))
 revert v6 v6i
 generalize IntKind.wrap .i64 (IntKind.wrap .i64 (IntKind.wrap .i64 (IntKind.wrap .i64 (IntKind.wrap .i64 (IntKind.wrap .i64 (0 + cd X Y 0) + cd X Y (0 + 1)) + cd X Y (0 + 1 + 1)) + cd X Y (0 + 1 + 1 + 1)) + cd X Y (0 + 1 + 1 + 1 + 1)) + cd X Y (0 + 1 + 1 + 1 + 1 + 1)) = W
 intro v6 v6i
 rw [show (0 : Int) + 1 + 1 + 1 + 1 + 1 + 1 = 6 from rfl, Zv]
 have i1 : ∀ l, Zi l = 0 → y0k l = 0 ∧ z4m l = IntKind.wrap .i64 (sfS l l.length) := fun l h => ⟨h, by unfold z4m; rw [h]; rfl⟩
 obtain ⟨x1, x2⟩ := i1 X hX
 obtain ⟨y1, y2⟩ := i1 Y hY
 have ns : (IntKind.wrap .i64 (sfS X X.length) != IntKind.wrap .i64 (sfS X X.length)) = false := by simp
 have o0 : ∀ l, z0g l = true := fun _ => rfl
 have o1 : ∀ q a b, z4n q a b = true := fun _ _ _ => rfl
 have o2 : Xi X Y = true := by unfold Xi; rw [lX, lY]; rfl
 have h6 : decide ((6 : Int) < 6) = false := rfl
 rcases Yc (x0a Op.e X Y != 0) with e1 | e1
 ·simp only [z0t, Zg, h6, o0, o1, x1, y1, x2, nz, ns, e1, cond_true, cond_false, Zp]
 rcases Yc (x0a Op.u X Y != 0) with e2 | e2
 ·simp only [z0t, Zg, h6, o0, o1, x1, y1, x2, nz, ns, e1, e2, cond_true, cond_false, Zp]
 rcases Yc (decide ((((Qt Op.e X Y).length : Nat) : Int) > 0)) with e3 | e3
 ·simp only [z0t, Zg, h6, o0, o1, x1, y1, x2, nz, ns, e1, e2, e3, cond_true, cond_false, Zp]
 have e3' : (Qt Op.e X Y).length = 0 := by have := of_decide_eq_false e3; omega
 have hno : ∀ x y z, ¬ (inS X x y z ∧ inS Y x y z) := fun x y z hp => by
  refine (w6c (show slE Op.e X Y = 0 from (by simpa using e1 : x0a Op.e X Y = 0))).1 e3' x y z ?_
  show (decide (inS X x y z) && decide (inS Y x y z)) = true
  rw [decide_eq_true hp.1, decide_eq_true hp.2]; rfl
 have hs2 : S2 X Y = 0 := (v8x sX sY).2 hno
 have hcom : Ye X Y = [] := v8i fun r hr s hs => Kd (fun s _ => y7n r s) (Kd (fun r _ => Vr fun s _ => y7n r s) hs2 r hr) s hs
 have ec : ∀ d, cd X Y d = E2 d X Y := fun d => by
  unfold cd
  rw [hcom]
  have a2 : E2 d X [] = 0 := by show sm X (fun _ => 0) = 0; exact Qs _
  omega
 have hu : slE Op.u X Y = 0 := (by simpa using e2 : x0a Op.u X Y = 0)
 obtain ⟨u1, u2⟩ := w0m hu
 have eU : Qt Op.u X Y = slJ Op.u X Y := z5m _ (by rw [hu]; rfl)
 have hp : ∀ x y z, inS (slJ Op.u X Y) x y z ↔ inS X x y z ∨ inS Y x y z := fun x y z => by
  rw [y5o, y5o, y5o, u2 (z, x, y)]
  show (decide _ || decide _) = true ↔ _
  rw [Bool.or_eq_true, decide_eq_true_eq, decide_eq_true_eq]
 have hv := v8p u1 fun x y z h => ((hp x y z).1 h).elim sX.bnd sY.bnd
 have hU : Zi (slJ Op.u X Y) = 0 := w6d (v4d hu) hv u1
 have sU := Sol.of hU
 have hcnt : ∀ x y z, cnt (slJ Op.u X Y) x y z = cnt (X ++ Y) x y z := fun x y z => by
  have ea : cnt (X ++ Y) x y z = cnt X x y z + cnt Y x y z := Us ..
  rw [ea]
  obtain ⟨a1, a2⟩ := y1v X sX.ap x y z
  obtain ⟨b1, b2⟩ := y1v Y sY.ap x y z
  obtain ⟨c1, c2⟩ := y1v _ sU.ap x y z
  by_cases p1 : inS X x y z
  ·have p2 : ¬ inS Y x y z := fun h => hno x y z ⟨p1, h⟩
   rw [a1 p1, b2 p2, c1 ((hp x y z).2 (.inl p1))]; rfl
  ·by_cases p2 : inS Y x y z
   ·rw [a2 p1, b1 p2, c1 ((hp x y z).2 (.inr p2))]; rfl
   ·rw [a2 p1, b2 p2, c2 fun h => ((hp x y z).1 h).elim p1 p2]; rfl
 have hsum := x0b sX sY hv hcnt
 rw [← Ku sX, ← Ku sY, ← Ku sU] at hsum
 obtain ⟨z1, z2⟩ := i1 _ hU
 have f1 : Uh X Y = 0 := by unfold Uh; rw [hX, hY]; rfl
 have f5 : Jt X Y = x2z X Y := by unfold Jt; rw [hX, hY]; rfl
 have hc := v8g X Y (z9y hX) (z9y hY)
 rw [hcom] at hc
 have hc6 : con6 X Y [] = y9r X Y := by
  have e : ∀ d, c1 d X Y [] = E2 d X Y := fun d => by
   unfold c1
   have a1 : E2 d [] Y = 0 := rfl
   have a2 : E2 d X [] = 0 := by show sm X (fun _ => 0) = 0; exact Qs _
   have a3 : E2 d [] [] = 0 := rfl
   omega
  unfold con6 y9r
  rw [e, e, e, e, e, e]
 rw [hc6] at hc
 rw [ec, ec, ec, ec, ec, ec, show 0 + E2 0 X Y + E2 1 X Y + E2 2 X Y + E2 3 X Y + E2 4 X Y + E2 5 X Y = y9r X Y by unfold y9r; omega] at v6
 have q1 : (x2z X Y == W) = true := w4q ((hc.trans v6.symm).is (v8f X Y) v6i)
 have q2 : (IntKind.wrap .i64 (IntKind.wrap .i64 (sfS X X.length) + IntKind.wrap .i64 (sfS Y Y.length)) == IntKind.wrap .i64 (IntKind.wrap .i64 (sfS (slJ Op.u X Y) (slJ Op.u X Y).length) + IntKind.wrap .i64 (2 * x2z X Y))) = true := by
  refine w4q (Cg.eq ?_)
  have l : Cg (IntKind.wrap .i64 (sfS X X.length) + IntKind.wrap .i64 (sfS Y Y.length)) (sfS X X.length + sfS Y Y.length) := (Cg.wrap _).add (Cg.wrap _)
  have m : Cg (IntKind.wrap .i64 (sfS (slJ Op.u X Y) (slJ Op.u X Y).length) + IntKind.wrap .i64 (2 * x2z X Y)) (sfS (slJ Op.u X Y) (slJ Op.u X Y).length + 2 * y9r X Y) := (Cg.wrap _).add ((Cg.refl 2).mul hc).w
  rw [hsum] at l
  exact l.trans m.symm
 have zz : ((0 : Int) == 0) = true := rfl
 simp only [z0t, Zg, h6, o0, o1, o2, x1, y1, x2, y2, nz, zz, ns, e1, e2, e3, eU, z1, z2, f1, f5, q1, q2, cond_true, cond_false, Zp]
end Go.Am
end
