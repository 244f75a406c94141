/- A part of a proof: several texts in one. -/
import Derived.Test.YtijpnpkolglajaaGreatKb4
set_option maxRecDepth 1000000
set_option maxHeartbeats 8000000
set_option linter.unusedVariables false
set_option linter.unusedSimpArgs false
noncomputable section
namespace Go.Am
open Go.Proofs Go.Sort Go.Shelf Go.RowKit Go.Lib
namespace Dim
variable {α β : Type} (D : Dim α β)
def goX (S : Int → Int → List β) (cs : List Int) : Nat → Nat → Sw α β → Sw α β
 | 0, _, s => s
 | k + 1, i, s => goX S cs k (i + 1) (D.oneS (S (rd cs i) (rd cs (i + 1))) (rd cs i) (rd cs (i + 1)) s)
theorem oneS_length (q : List β) (x x' : Int) (s : Sw α β) : (D.oneS q x x' s).out.length ≤ s.out.length + q.length := by
 unfold oneS
 cases (decide (0 < q.length) && ((s.fin == x) && D.same s.last q)) <;> simp [grow_length]
end Dim
def okX {β : Type} (S : Int → Int → List β) (cs : List Int) : Nat → Nat → Bool
 | 0, _ => true
 | k + 1, i => bif decide (((S (rd cs i) (rd cs (i + 1))).length : Int) > 400) then false else okX S cs k (i + 1)
theorem y0n (L : List R6) (a b e f : Int) (cs : List Int) : ∀ (k i : Nat) (o : List R2), (v7e L a b e f cs k i o).length ≤ o.length + k
 | 0, _, _ => Nat.le_refl _
 | k + 1, i, o => by
  unfold v7e
  have h1 := y0n L a b e f cs k (i + 1) (bif w2u (crS R6.b R6.e L (rd cs i) (rd cs (i + 1))) a b (rd cs i) (rd cs (i + 1)) e f then v7g o (rd cs i) (rd cs (i + 1)) else o)
  have h2 := y0o o (rd cs i) (rd cs (i + 1))
  revert h1
  cases w2u (crS R6.b R6.e L (rd cs i) (rd cs (i + 1))) a b (rd cs i) (rd cs (i + 1)) e f <;> simp only [cond_true, cond_false] <;> omega
theorem x1a (L : List R6) (a b e f n : Int) : (Qe L a b e f n).length ≤ (rnC R6.b R6.e n L).length := by
 have := y0n L a b e f (rnC R6.b R6.e n L) ((rnC R6.b R6.e n L).length - 1) 0 []
 unfold Qe
 simp only [List.length_nil] at this; omega
theorem v0z {L : List R6} {a b n : Int} (hl : L.length ≤ 400) {i : Nat} (hi : i + 1 < (rnC R6.a R6.d n L).length) (out : List R4) (last : List R2) (first fin : Int) : ∀ (k j : Nat) (acc : List R6), j + k = L.length → acc.length ≤ j →
  ∃ N, ∀ M, Yw (Xg L a b n) (M + N) (.to (.h2 ((i + 1 : Nat) : Int) acc (j : Int) out last first fin (rnC R6.a R6.d n L).length (Xx (Yh (rnE R6.a R6.d n L))))) = Yw (Xg L a b n) M (.to (.h2 ((i + 1 : Nat) : Int) (acc ++ crS R6.a R6.d (L.drop j) (rd (rnC R6.a R6.d n L) i) (rd (rnC R6.a R6.d n L) (i + 1))) (L.length : Int) out last first fin (rnC R6.a R6.d n L).length (Xx (Yh (rnE R6.a R6.d n L)))))
 | 0, j, acc, h, ha => by
  refine ⟨0, fun M => ?_⟩
  rw [List.drop_eq_nil_of_le (by omega), show crS R6.a R6.d ([] : List R6) (rd (rnC R6.a R6.d n L) i) (rd (rnC R6.a R6.d n L) (i + 1)) = [] from rfl, List.append_nil, Nat.add_zero, show j = L.length by omega]
 | k + 1, j, acc, h, ha => by
  have hj : j < L.length := by omega
  have hc := Vx R6.a R6.d n L
  have hpl : (Xx (Yh (rnE R6.a R6.d n L))).length = 4 * L.length := by rw [Wc, Wv, Xr]
  have r0 : rd (Xx (Yh (rnE R6.a R6.d n L))) i = rd (rnC R6.a R6.d n L) i := Ui _ _ (by show i < (rnC R6.a R6.d n L).length; omega)
  have r1 : rd (Xx (Yh (rnE R6.a R6.d n L))) (i + 1) = rd (rnC R6.a R6.d n L) (i + 1) := Ui _ _ (by show i + 1 < (rnC R6.a R6.d n L).length; omega)
  have e1 : IntKind.wrap .i64 (((i + 1 : Nat) : Int) - 1) = (i : Int) := by rw [Zc]; exact Zk (by omega)
  have hw : IntKind.wrap .i64 ((j : Int) + 1) = ((j + 1 : Nat) : Int) := Zk (by omega)
  obtain ⟨N, hN⟩ := v0z hl hi out last first fin k (j + 1) (acc ++ crS R6.a R6.d [rd L j] (rd (rnC R6.a R6.d n L) i) (rd (rnC R6.a R6.d n L) (i + 1))) (by omega) (by have := Kv R6.a R6.d [rd L j] (rd (rnC R6.a R6.d n L) i) (rd (rnC R6.a R6.d n L) (i + 1)); simp only [List.length_append, List.length_singleton] at *; omega)
  refine ⟨N + 1, fun M => ?_⟩
  have e : crS R6.a R6.d (L.drop j) (rd (rnC R6.a R6.d n L) i) (rd (rnC R6.a R6.d n L) (i + 1)) = crS R6.a R6.d [rd L j] (rd (rnC R6.a R6.d n L) i) (rd (rnC R6.a R6.d n L) (i + 1)) ++ crS R6.a R6.d (L.drop (j + 1)) (rd (rnC R6.a R6.d n L) i) (rd (rnC R6.a R6.d n L) (i + 1)) := by
   rw [Ye hj, ← z6b]; rfl
  rw [e, ← Nat.add_assoc, Zv, ← List.append_assoc, ← hN M]
  by_cases h1 : (rd L j).a < rd (rnC R6.a R6.d n L) (i + 1)
  ·by_cases h2 : rd (rnC R6.a R6.d n L) i < (rd L j).d
   ·rw [v7b h1 h2]
    simp (disch := omega) only [Xg, e1, r0, r1, hw, Zb, Zq, Zo, Zs, Yz, Yu, Yk, Ze, Zk, Zx, Ya, Zj, Nat.zero_add, decide_true, Bool.and_true, Bool.true_and, cond_true, cond_false]
   ·rw [w1v h2, List.append_nil]
    simp (disch := omega) only [Xg, Zt, e1, r0, r1, hw, Zb, Zq, Zo, Zs, Yz, Yu, Yk, Ze, Zk, Zx, Ya, Zj, Nat.zero_add, decide_true, Bool.and_true, Bool.true_and, cond_true, cond_false]
  ·rw [w1w h1, List.append_nil]
   simp (disch := omega) only [Xg, Zt, e1, r0, r1, hw, Zb, Zq, Zo, Zs, Yz, Yu, Yk, Ze, Zk, Zx, Ya, Zj, Nat.zero_add, decide_true, Bool.and_true, Bool.true_and, cond_true, cond_false]
theorem v1a {L : List R6} {a b n : Int} (hl : L.length ≤ 400) (hn : n ≠ 0) {R : List AVal} (hR : ∃ N, Yw (Xg L a b n) N (.to (.h1 1 [] [] 0 0 (rnC R6.a R6.d n L).length (Xx (Yh (rnE R6.a R6.d n L))))) = .ret R) : ∀ (k i : Nat) (acc : List Int), i + k = L.length → acc = rnE R6.a R6.d n (L.take i) → ∃ N, Yw (Xg L a b n) N (.to (.h0 (i : Int) acc)) = .ret R
 | 0, i, acc, h, ha => by
  have e : acc = (rnE R6.a R6.d n L) := by rw [ha, List.take_of_length_le (by omega)]
  subst e
  have hle := Xr R6.a R6.d n L
  obtain ⟨N, hN⟩ := hR
  refine ⟨N + 1, ?_⟩
  rw [Zv]
  simp (disch := omega) only [Xg, Vr, Kx, z6c, Zt, Yu, Yk, decide_true, cond_true, cond_false]
  exact hN
 | k + 1, i, acc, h, ha => by
  have hle := Xr R6.a R6.d n (L.take i)
  have hacc : acc.length ≤ 4 * i := by rw [ha, hle]; simp; omega
  obtain ⟨N, hN⟩ := v1a hl hn hR k (i + 1) (acc ++ rnE R6.a R6.d n [rd L i]) (by omega) (by
   rw [ha, List.take_add_one]
   have : L[i]? = some (rd L i) := by rw [Xd (show i < L.length by omega)]; exact List.getElem?_eq_getElem _
   rw [this, z5o]; rfl)
  refine ⟨N + 1, ?_⟩
  rw [Zv]
  simp (disch := omega) only [Xg, w7d hn, Zb, Zq, Zo, Zs, Yz, Yu, Yk, Ze, Zk, Zx, Ya, Zj, Nat.zero_add, decide_true, Bool.and_true, Bool.true_and, cond_true, cond_false]
  exact hN
def layQ (L : List R6) (a b n : Int) (x x' : Int) : List R2 := (Qe (crS R6.a R6.d L x x') x x' a b n)
theorem v0y {L : List R6} {a b n : Int} (hl : L.length ≤ 400) (i : Nat) (hi : i ≤ 2000) (x x' : Int) (q : List R2) (first : Int) (inn : List R6) (hq : q.length ≤ 2000) : ∀ (k j : Nat) (out : List R4), j + k = q.length → out.length ≤ 10000000 + j →
  ∃ N, ∀ M, Yw (Xg L a b n) (M + N) (.to (.h3 q (q.length : Int) (j : Int) (i : Int) x x' inn out first (rnC R6.a R6.d n L).length (Xx (Yh (rnE R6.a R6.d n L))))) = Yw (Xg L a b n) M (.to (.h1 ((i + 1 : Nat) : Int) (out ++ (q.drop j).map (D4.put x x')) q first x' (rnC R6.a R6.d n L).length (Xx (Yh (rnE R6.a R6.d n L)))))
 | 0, j, out, h, ho => by
  refine ⟨1, fun M => ?_⟩
  rw [List.drop_eq_nil_of_le (by omega), Zv]
  simp (disch := omega) only [Xg, Zt, Zk, Zx, cond_false, List.map_nil, List.append_nil]
 | k + 1, j, out, h, ho => by
  obtain ⟨N, hN⟩ := v0y hl i hi x x' q first inn hq k (j + 1) (out ++ [D4.put x x' (rd q j)]) (by omega) (by simp; omega)
  refine ⟨N + 1, fun M => ?_⟩
  have := hN M
  rw [Ye (show j < q.length by omega), List.map_cons, ← Nat.add_assoc, Zv]
  simp (disch := omega) only [Xg, Zb, Zq, Zo, Zs, Yz, Yu, Yk, Ze, Zk, Zx, Ya, Zj, Nat.zero_add, decide_true, Bool.and_true, Bool.true_and, cond_true, cond_false]
  rw [List.append_assoc] at this
  exact this
theorem v0x {L : List R6} {a b n : Int} (hl : L.length ≤ 400) (i : Nat) (hi : i ≤ 2000) (x x' fin : Int) (last : List R2) (first : Int) (inn : List R6) : ∀ (k j : Nat) (out : List R4), j + k = out.length → out.length ≤ 10000000 →
  ∃ N, ∀ M, Yw (Xg L a b n) (M + N) (.to (.h4 (j : Int) (i : Int) x x' inn out last first fin (rnC R6.a R6.d n L).length (Xx (Yh (rnE R6.a R6.d n L))))) = Yw (Xg L a b n) M (.to (.h1 ((i + 1 : Nat) : Int) (D4.grow out j x') last first x' (rnC R6.a R6.d n L).length (Xx (Yh (rnE R6.a R6.d n L)))))
 | 0, j, out, h, ho => by
  refine ⟨1, fun M => ?_⟩
  rw [D4.grow_nil _ _ _ (by omega), Zv]
  simp (disch := omega) only [Xg, Zt, Zk, Zx, cond_false]
 | k + 1, j, out, h, ho => by
  obtain ⟨N, hN⟩ := v0x hl i hi x x' fin last first inn k (j + 1) (out.set j (D4.ext x' (rd out j))) (by simp; omega) (by simpa using ho)
  refine ⟨N + 1, fun M => ?_⟩
  have := hN M
  rw [D4.grow_set out j _ (by omega)] at this
  rw [← Nat.add_assoc, Zv]
  simp (disch := omega) only [Xg, Zb, Zq, Zo, Zs, Yz, Yu, Yk, Ze, Zk, Zx, Ya, Zj, Nat.zero_add, decide_true, Bool.and_true, Bool.true_and, cond_true, cond_false]
  exact this
theorem w0o {L : List R6} {a b n : Int} (hl : L.length ≤ 400) (hn : n ≠ 0) : ∀ (k i : Nat) (s : Sw R4 R2), k = (rnC R6.a R6.d n L).length - 1 - i → i ≤ (rnC R6.a R6.d n L).length → s.out.length ≤ i * 2000 → s.last.length ≤ 2000 → s.first ≤ s.out.length → ∃ N, Yw (Xg L a b n) N (.to (.h1 ((i + 1 : Nat) : Int) s.out s.last (s.first : Int) s.fin (rnC R6.a R6.d n L).length (Xx (Yh (rnE R6.a R6.d n L))))) = .ret [.dat (D4.goX (layQ L a b n) (rnC R6.a R6.d n L) k i s).out.length (Zz (D4.goX (layQ L a b n) (rnC R6.a R6.d n L) k i s).out)]
 | 0, i, s, h, hi, ho, hla, hf => by
  have hc := Vx R6.a R6.d n L
  refine ⟨1, ?_⟩
  rw [Zv]
  simp (disch := omega) only [Xg, Zt, cond_false, Zg]
  rfl
 | k + 1, i, s, h, hi, ho, hla, hf => by
  have hc := Vx R6.a R6.d n L
  have hi1 : i + 1 < (rnC R6.a R6.d n L).length := by omega
  have hpl : (Xx (Yh (rnE R6.a R6.d n L))).length = 4 * L.length := by rw [Wc, Wv, Xr]
  have r0 : rd (Xx (Yh (rnE R6.a R6.d n L))) i = rd (rnC R6.a R6.d n L) i := Ui _ _ (by show i < (rnC R6.a R6.d n L).length; omega)
  have r1 : rd (Xx (Yh (rnE R6.a R6.d n L))) (i + 1) = rd (rnC R6.a R6.d n L) (i + 1) := Ui _ _ (by show i + 1 < (rnC R6.a R6.d n L).length; omega)
  have e1 : IntKind.wrap .i64 (((i + 1 : Nat) : Int) - 1) = (i : Int) := by rw [Zc]; exact Zk (by omega)
  have hbig : i * 2000 ≤ 1600 * 2000 := Nat.mul_le_mul_right _ (by omega)
  obtain ⟨N2, h2⟩ := v0z (a := a) (b := b) (n := n) hl hi1 s.out s.last (s.first : Int) s.fin L.length 0 [] (Nat.zero_add _) (Nat.le_refl _)
  rw [List.drop_zero, List.nil_append, z0u] at h2
  have hin := Kv R6.a R6.d L (rd (rnC R6.a R6.d n L) i) (rd (rnC R6.a R6.d n L) (i + 1))
  have w1 : z0e (crS R6.a R6.d L (rd (rnC R6.a R6.d n L) i) (rd (rnC R6.a R6.d n L) (i + 1))) (rd (rnC R6.a R6.d n L) i) (rd (rnC R6.a R6.d n L) (i + 1)) a b n = true := by
   unfold z0e
   rw [Yz (by omega), decide_eq_false hn]; rfl
  have st0 : ∀ M, Yw (Xg L a b n) (M + N2 + 1) (.to (.h1 ((i + 1 : Nat) : Int) s.out s.last (s.first : Int) s.fin (rnC R6.a R6.d n L).length (Xx (Yh (rnE R6.a R6.d n L))))) = Yw (Xg L a b n) M (.to (.h2 ((i + 1 : Nat) : Int) (crS R6.a R6.d L (rd (rnC R6.a R6.d n L) i) (rd (rnC R6.a R6.d n L) (i + 1))) (L.length : Int) s.out s.last (s.first : Int) s.fin (rnC R6.a R6.d n L).length (Xx (Yh (rnE R6.a R6.d n L))))) := fun M => by
   rw [← h2 M, Zv]
   simp (disch := omega) only [Xg, Zo, cond_true]
  have hq : (layQ L a b n) (rd (rnC R6.a R6.d n L) i) (rd (rnC R6.a R6.d n L) (i + 1)) = (Qe (crS R6.a R6.d L (rd (rnC R6.a R6.d n L) i) (rd (rnC R6.a R6.d n L) (i + 1))) (rd (rnC R6.a R6.d n L) i) (rd (rnC R6.a R6.d n L) (i + 1)) a b n) := rfl
  have hsl : (Qe (crS R6.a R6.d L (rd (rnC R6.a R6.d n L) i) (rd (rnC R6.a R6.d n L) (i + 1))) (rd (rnC R6.a R6.d n L) i) (rd (rnC R6.a R6.d n L) (i + 1)) a b n).length ≤ 2000 := by have := x1a (crS R6.a R6.d L (rd (rnC R6.a R6.d n L) i) (rd (rnC R6.a R6.d n L) (i + 1))) (rd (rnC R6.a R6.d n L) i) (rd (rnC R6.a R6.d n L) (i + 1)) a b n ; have := Vx R6.b R6.e n (crS R6.a R6.d L (rd (rnC R6.a R6.d n L) i) (rd (rnC R6.a R6.d n L) (i + 1))); omega
  have w2 : Wo s.last (Qe (crS R6.a R6.d L (rd (rnC R6.a R6.d n L) i) (rd (rnC R6.a R6.d n L) (i + 1))) (rd (rnC R6.a R6.d n L) i) (rd (rnC R6.a R6.d n L) (i + 1)) a b n) = true := decide_eq_true (by omega)
  have ol := D4.oneS_length (Qe (crS R6.a R6.d L (rd (rnC R6.a R6.d n L) i) (rd (rnC R6.a R6.d n L) (i + 1))) (rd (rnC R6.a R6.d n L) i) (rd (rnC R6.a R6.d n L) (i + 1)) a b n) (rd (rnC R6.a R6.d n L) i) (rd (rnC R6.a R6.d n L) (i + 1)) s
  rcases Ym (decide (0 < (Qe (crS R6.a R6.d L (rd (rnC R6.a R6.d n L) i) (rd (rnC R6.a R6.d n L) (i + 1))) (rd (rnC R6.a R6.d n L) i) (rd (rnC R6.a R6.d n L) (i + 1)) a b n).length) && ((s.fin == (rd (rnC R6.a R6.d n L) i)) && D4.same s.last (Qe (crS R6.a R6.d L (rd (rnC R6.a R6.d n L) i) (rd (rnC R6.a R6.d n L) (i + 1))) (rd (rnC R6.a R6.d n L) i) (rd (rnC R6.a R6.d n L) (i + 1)) a b n))) with q | q
  ·obtain ⟨N4, h4⟩ := v0x (a := a) (b := b) (n := n) hl (i + 1) (by omega) (rd (rnC R6.a R6.d n L) i) (rd (rnC R6.a R6.d n L) (i + 1)) s.fin s.last (s.first : Int) (crS R6.a R6.d L (rd (rnC R6.a R6.d n L) i) (rd (rnC R6.a R6.d n L) (i + 1))) (s.out.length - s.first) s.first s.out (by omega) (by omega)
   have e : D4.oneS (Qe (crS R6.a R6.d L (rd (rnC R6.a R6.d n L) i) (rd (rnC R6.a R6.d n L) (i + 1))) (rd (rnC R6.a R6.d n L) i) (rd (rnC R6.a R6.d n L) (i + 1)) a b n) (rd (rnC R6.a R6.d n L) i) (rd (rnC R6.a R6.d n L) (i + 1)) s = ⟨D4.grow s.out s.first (rd (rnC R6.a R6.d n L) (i + 1)), s.last, s.first, (rd (rnC R6.a R6.d n L) (i + 1))⟩ := by unfold Dim.oneS; rw [q]; rfl
   obtain ⟨N0, h0⟩ := w0o hl hn k (i + 1) (D4.oneS (Qe (crS R6.a R6.d L (rd (rnC R6.a R6.d n L) i) (rd (rnC R6.a R6.d n L) (i + 1))) (rd (rnC R6.a R6.d n L) i) (rd (rnC R6.a R6.d n L) (i + 1)) a b n) (rd (rnC R6.a R6.d n L) i) (rd (rnC R6.a R6.d n L) (i + 1)) s) (by omega) (by omega) (by omega) (by rw [e]; exact hla) (by rw [e]; simpa [Dim.grow_length] using hf)
   refine ⟨N0 + N4 + 1 + N2 + 1, ?_⟩
   rw [st0 (N0 + N4 + 1), Zv]
   simp only [Bool.and_eq_true, decide_eq_true_eq] at q
   obtain ⟨q1, q2, q3⟩ := q
   have q3' : Jq s.last (Qe (crS R6.a R6.d L (rd (rnC R6.a R6.d n L) i) (rd (rnC R6.a R6.d n L) (i + 1))) (rd (rnC R6.a R6.d n L) i) (rd (rnC R6.a R6.d n L) (i + 1)) a b n) = true := q3
   simp (disch := omega) only [Xg, Zt, Yn, e1, r0, r1, q2, q3', w1, w2, Zb, Zq, Zo, Zs, Yz, Yu, Yk, Ze, Zk, Zx, Ya, Zj, Nat.zero_add, decide_true, Bool.and_true, Bool.true_and, cond_true, cond_false]
   rw [h4 N0]
   unfold Dim.goX
   rw [hq]
   rw [e] at h0 ⊢
   exact h0
  ·obtain ⟨N3, h3⟩ := v0y (a := a) (b := b) (n := n) hl (i + 1) (by omega) (rd (rnC R6.a R6.d n L) i) (rd (rnC R6.a R6.d n L) (i + 1)) (Qe (crS R6.a R6.d L (rd (rnC R6.a R6.d n L) i) (rd (rnC R6.a R6.d n L) (i + 1))) (rd (rnC R6.a R6.d n L) i) (rd (rnC R6.a R6.d n L) (i + 1)) a b n) (s.out.length : Int) (crS R6.a R6.d L (rd (rnC R6.a R6.d n L) i) (rd (rnC R6.a R6.d n L) (i + 1))) hsl (Qe (crS R6.a R6.d L (rd (rnC R6.a R6.d n L) i) (rd (rnC R6.a R6.d n L) (i + 1))) (rd (rnC R6.a R6.d n L) i) (rd (rnC R6.a R6.d n L) (i + 1)) a b n).length 0 s.out (Nat.zero_add _) (by omega)
   simp only [List.drop_zero, z0u] at h3
   have e : D4.oneS (Qe (crS R6.a R6.d L (rd (rnC R6.a R6.d n L) i) (rd (rnC R6.a R6.d n L) (i + 1))) (rd (rnC R6.a R6.d n L) i) (rd (rnC R6.a R6.d n L) (i + 1)) a b n) (rd (rnC R6.a R6.d n L) i) (rd (rnC R6.a R6.d n L) (i + 1)) s = ⟨s.out ++ (Qe (crS R6.a R6.d L (rd (rnC R6.a R6.d n L) i) (rd (rnC R6.a R6.d n L) (i + 1))) (rd (rnC R6.a R6.d n L) i) (rd (rnC R6.a R6.d n L) (i + 1)) a b n).map (D4.put (rd (rnC R6.a R6.d n L) i) (rd (rnC R6.a R6.d n L) (i + 1))), (Qe (crS R6.a R6.d L (rd (rnC R6.a R6.d n L) i) (rd (rnC R6.a R6.d n L) (i + 1))) (rd (rnC R6.a R6.d n L) i) (rd (rnC R6.a R6.d n L) (i + 1)) a b n), s.out.length, (rd (rnC R6.a R6.d n L) (i + 1))⟩ := by unfold Dim.oneS; rw [q]; rfl
   obtain ⟨N0, h0⟩ := w0o hl hn k (i + 1) (D4.oneS (Qe (crS R6.a R6.d L (rd (rnC R6.a R6.d n L) i) (rd (rnC R6.a R6.d n L) (i + 1))) (rd (rnC R6.a R6.d n L) i) (rd (rnC R6.a R6.d n L) (i + 1)) a b n) (rd (rnC R6.a R6.d n L) i) (rd (rnC R6.a R6.d n L) (i + 1)) s) (by omega) (by omega) (by omega) (by rw [e]; exact hsl) (by rw [e]; simp)
   have hg : Xg L a b n (.h2 ((i + 1 : Nat) : Int) (crS R6.a R6.d L (rd (rnC R6.a R6.d n L) i) (rd (rnC R6.a R6.d n L) (i + 1))) (L.length : Int) s.out s.last (s.first : Int) s.fin (rnC R6.a R6.d n L).length (Xx (Yh (rnE R6.a R6.d n L)))) = .to (.h3 (Qe (crS R6.a R6.d L (rd (rnC R6.a R6.d n L) i) (rd (rnC R6.a R6.d n L) (i + 1))) (rd (rnC R6.a R6.d n L) i) (rd (rnC R6.a R6.d n L) (i + 1)) a b n) ((Qe (crS R6.a R6.d L (rd (rnC R6.a R6.d n L) i) (rd (rnC R6.a R6.d n L) (i + 1))) (rd (rnC R6.a R6.d n L) i) (rd (rnC R6.a R6.d n L) (i + 1)) a b n).length : Int) 0 ((i + 1 : Nat) : Int) (rd (rnC R6.a R6.d n L) i) (rd (rnC R6.a R6.d n L) (i + 1)) (crS R6.a R6.d L (rd (rnC R6.a R6.d n L) i) (rd (rnC R6.a R6.d n L) (i + 1))) s.out (s.out.length : Int) (rnC R6.a R6.d n L).length (Xx (Yh (rnE R6.a R6.d n L)))) := by
    have e3 : D4.same s.last (Qe (crS R6.a R6.d L (rd (rnC R6.a R6.d n L) i) (rd (rnC R6.a R6.d n L) (i + 1))) (rd (rnC R6.a R6.d n L) i) (rd (rnC R6.a R6.d n L) (i + 1)) a b n) = Jq s.last (Qe (crS R6.a R6.d L (rd (rnC R6.a R6.d n L) i) (rd (rnC R6.a R6.d n L) (i + 1))) (rd (rnC R6.a R6.d n L) i) (rd (rnC R6.a R6.d n L) (i + 1)) a b n) := rfl
    rw [e3] at q
    by_cases q1 : 0 < (Qe (crS R6.a R6.d L (rd (rnC R6.a R6.d n L) i) (rd (rnC R6.a R6.d n L) (i + 1))) (rd (rnC R6.a R6.d n L) i) (rd (rnC R6.a R6.d n L) (i + 1)) a b n).length
    ·rw [decide_eq_true q1, Bool.true_and] at q
     rcases Ym (s.fin == (rd (rnC R6.a R6.d n L) i)) with q2 | q2
     ·rw [q2, Bool.true_and] at q
      simp (disch := omega) only [Xg, Zt, Yn, e1, r0, r1, q2, q, w1, w2, Zb, Zq, Zo, Zs, Yz, Yu, Yk, Ze, Zk, Zx, Ya, Zj, Nat.zero_add, decide_true, Bool.and_true, Bool.true_and, cond_true, cond_false]
     ·simp (disch := omega) only [Xg, Zt, Yn, e1, r0, r1, q2, w1, w2, Zb, Zq, Zo, Zs, Yz, Yu, Yk, Ze, Zk, Zx, Ya, Zj, Nat.zero_add, decide_true, Bool.and_true, Bool.true_and, cond_true, cond_false]
    ·simp (disch := omega) only [Xg, Zt, Xy, e1, r0, r1, w1, w2, Zb, Zq, Zo, Zs, Yz, Yu, Yk, Ze, Zk, Zx, Ya, Zj, Nat.zero_add, decide_true, Bool.and_true, Bool.true_and, cond_true, cond_false]
   refine ⟨N0 + N3 + 1 + N2 + 1, ?_⟩
   rw [st0 (N0 + N3 + 1), Zv, hg, h3 N0]
   unfold Dim.goX
   rw [hq]
   rw [e] at h0 ⊢
   exact h0
def Qt (L : List R6) (a b n : Int) : Bool := decide (L.length ≤ 400) && !decide (n = 0)
def Qd (L : List R6) (a b n : Int) : List R4 := (D4.goX (layQ L a b n) (rnC R6.a R6.d n L) ((rnC R6.a R6.d n L).length - 1) 0 ⟨[], [], 0, 0⟩).out
theorem v4o (L : List R6) (a b n : Int) (h : Qt L a b n = true) : ∃ N, Yw (Xg L a b n) N (y3s L a b n) = .ret [.dat (Qd L a b n).length (Zz (Qd L a b n))] := by
 simp only [Qt, Bool.and_eq_true, Bool.not_eq_true', decide_eq_true_eq, decide_eq_false_iff_not] at h
 exact v1a h.1 h.2 (w0o h.1 h.2 _ 0 ⟨[], [], 0, 0⟩ (by omega) (Nat.zero_le _) (Nat.zero_le _) (Nat.zero_le _) (Nat.le_refl _)) L.length 0 [] (Nat.zero_add _) rfl
def fLay : List AVal → Option (AVal × Bool)
 | [a0, .agg [.int .i64 x1_0, .int .i64 x1_1], .int .i64 x2] => match asL R6 a0 with
  | some (L0, g0, n0) => some (.dat (Qd L0 x1_0 x1_1 x2).length (Zz (Qd L0 x1_0 x1_1 x2)), isT R6 n0 g0 && (Qt L0 x1_0 x1_1 x2))
  | _ => none
 | _ => none
theorem v5z {S : Specs} (hS : Zu Tryz.prog S) : Zu Tryz.prog (S.with v0m fLay) := by
 refine z1j hS (by kernel_rfl) fun args v h => ?_
 unfold fLay at h
 split at h
 ·rename_i a0 x1_0 x1_1 x2
  split at h
  ·rename_i L0 g0 n0 e0
   simp only [Option.some.injEq, Prod.mk.injEq, Bool.and_eq_true] at h
   obtain ⟨rfl, ho0, hw⟩ := h
   obtain ⟨N, hN⟩ := v4o L0 x1_0 x1_1 x2 hw
   exact ⟨_, _, (.cons (asL_le e0 ho0) (.cons (.refl _) (.cons (.refl _) .nil))), rfl, w5p L0 x1_0 x1_1 x2 N _ hN, 3, rfl⟩
  ·cases h
 ·cases h
def Dg : Specs := (Df.with v0m fLay)
theorem Kd : Zu Tryz.prog Dg := (v5z z1h)
end Go.Am
namespace Go.Am
open Go.Proofs
inductive innS where
 | h0 (v14 : Int) (v_2_0 : List Int)
 | h1 (v5 : Int) (v_4_0 : List R6) (v_5_0 : List R4) (v_6_0 : Int) (v_7_0 : Int) (v_8_0_000 : Nat) (v09_9 : List Int)
 | h2 (v5 : Int) (v6 : List R6) (v19 : Int) (v_4_0 : List R6) (v_5_0 : List R4) (v_6_0 : Int) (v_7_0 : Int) (v_8_0_000 : Nat) (v09_9 : List Int)
 | h3 (v70 : List R4) (v71 : Int) (v72 : Int) (v000_5 : Int) (v000_59_0 : Int) (v000_59_1 : Int) (v000_60 : List R6) (v_4_0 : List R6) (v_6_0 : Int) (v_9_0_000 : Nat) (v09_10 : List Int)
 | h4 (v14 : Int) (v000_5 : Int) (v000_59_0 : Int) (v000_59_1 : Int) (v000_60 : List R6) (v_4_0 : List R6) (v_6_0 : List R4) (v_7_0 : Int) (v_8_0 : Int) (v_10_0_000 : Nat) (v09_11 : List Int)
def innC (l0 : List R6) (x1 : Int) : innS → Cfg
 | .h0 v14 v_2_0 => ⟨⟨45, 0, true⟩, none, (Za Tryz.prog 80 [1, 1, 0, 1, 0, 0] 0), none, (Zy Tryz.prog 4), ⟨Yp [(2, (ii x1)), (3, (.ptr 0 0)), (4, (.ptr 1 0)), (7, (.ptr 2 0)), (12, (.dat l0.length (Zz l0))), (13, (ii (l0.length : Int))), (14, (ii v14))], Ve [⟨[(.dat l0.length (Zz l0))], 22, none⟩, ⟨[(ii 2)], 3, none⟩, ⟨[(.sla 10 1 0 v_2_0.length (.un 1))], 47, none⟩, ⟨[(ii x1)], 3, none⟩, ⟨[.nils], 30, none⟩, ⟨[(ii 0)], 24, none⟩, ⟨[.nils], 30, none⟩, ⟨[.nils], 106, none⟩, ⟨[(ii 0)], 3, none⟩, ⟨[(ii 0)], 3, none⟩, ⟨rows v_2_0.length (Zz v_2_0), 3, some ⟨1, v_2_0.length, (Zz v_2_0)⟩⟩] 0, 11, [], true⟩, [⟨⟨99, 0, true⟩, (Vj Tryz.prog 36 [1, 1, 1, 1, 1, 0, 0] 2), (Za Tryz.prog 36 [1, 1, 1, 1, 1, 0, 0] 1), none, (Zy Tryz.prog 36), Yp [(3, (.ptr 3 0)), (4, (.ptr 4 0)), (5, (.ptr 5 0)), (7, (.ptr 6 0)), (8, (.ptr 7 0)), (9, (.ptr 8 0)), (10, (.ptr 9 0)), (23, (.dat l0.length (Zz l0))), (24, (ii x1))]⟩], .leaf⟩
 | .h1 v5 v_4_0 v_5_0 v_6_0 v_7_0 v_8_0_000 v09_9 => ⟨⟨63, 0, true⟩, none, (Za Tryz.prog 121 [1, 0, 0] 0), none, [], ⟨Yp [(0, (.yld 0)), (1, (.ptr 8 0)), (2, (.ptr 10 0)), (3, (.ptr 11 0)), (5, (ii v5))], z4o [(1, ⟨[(ii x1)], 3, none⟩), (2, ⟨[.nils], 30, none⟩), (3, ⟨[(ii 0)], 24, none⟩), (4, ⟨[(.sla 12 6 0 v_4_0.length (.un 6))], 30, none⟩), (5, ⟨[(.dat v_5_0.length (Zz v_5_0))], 106, none⟩), (6, ⟨[(ii v_6_0)], 3, none⟩), (7, ⟨[(ii v_7_0)], 3, none⟩), (8, ⟨[(.sla 9 1 0 v_8_0_000 (.un 1))], 47, none⟩), (9, ⟨rows v09_9.length (Zz v09_9), 3, some ⟨1, v09_9.length, (Zz v09_9)⟩⟩), (10, ⟨[(.dat l0.length (Zz l0))], 22, none⟩), (11, ⟨[(ii 2)], 3, none⟩), (12, ⟨rows v_4_0.length (Zz v_4_0), 68, some ⟨6, v_4_0.length, (Zz v_4_0)⟩⟩)], 13, [], true⟩, [⟨⟨99, 0, true⟩, none, (.inRangeFunc 0 :: (Za Tryz.prog 36 [1, 1, 1, 1, 1, 0, 1, 0] 1)), none, (Zy Tryz.prog 36), Yp [(4, (.ptr 2 0)), (5, (.ptr 3 0)), (7, (.ptr 4 0))]⟩], (z4q [(0, ⟨.ready, none, 99, Yp [(3, (.ptr 1 0)), (4, (.ptr 2 0)), (5, (.ptr 3 0)), (7, (.ptr 4 0)), (8, (.ptr 5 0)), (9, (.ptr 6 0)), (10, (.ptr 7 0))], [26, 27], (Xe Tryz.prog 36 [1, 1, 1, 1, 1, 0, 1, 0, 0]), (Xe Tryz.prog 36 [1, 1, 1, 1, 1, 0, 1, 0, 1])⟩)])⟩
 | .h2 v5 v6 v19 v_4_0 v_5_0 v_6_0 v_7_0 v_8_0_000 v09_9 => ⟨⟨63, 0, true⟩, none, (Za Tryz.prog 121 [1, 0, 0, 1, 0, 0, 1, 0, 1, 0, 0] 0), none, [], ⟨Yp [(0, (.yld 0)), (1, (.ptr 8 0)), (2, (.ptr 10 0)), (3, (.ptr 11 0)), (5, (ii v5)), (6, (.sla 12 6 0 v6.length (.un 6))), (17, (.dat l0.length (Zz l0))), (18, (ii (l0.length : Int))), (19, (ii v19))], z4o [(1, ⟨[(ii x1)], 3, none⟩), (2, ⟨[.nils], 30, none⟩), (3, ⟨[(ii 0)], 24, none⟩), (4, ⟨[(.sla 13 6 0 v_4_0.length (.un 6))], 30, none⟩), (5, ⟨[(.dat v_5_0.length (Zz v_5_0))], 106, none⟩), (6, ⟨[(ii v_6_0)], 3, none⟩), (7, ⟨[(ii v_7_0)], 3, none⟩), (8, ⟨[(.sla 9 1 0 v_8_0_000 (.un 1))], 47, none⟩), (9, ⟨rows v09_9.length (Zz v09_9), 3, some ⟨1, v09_9.length, (Zz v09_9)⟩⟩), (10, ⟨[(.dat l0.length (Zz l0))], 22, none⟩), (11, ⟨[(ii 2)], 3, none⟩), (12, ⟨rows v6.length (Zz v6), 68, some ⟨6, v6.length, (Zz v6)⟩⟩), (13, ⟨rows v_4_0.length (Zz v_4_0), 68, some ⟨6, v_4_0.length, (Zz v_4_0)⟩⟩)], 14, [], true⟩, [⟨⟨99, 0, true⟩, none, (.inRangeFunc 0 :: (Za Tryz.prog 36 [1, 1, 1, 1, 1, 0, 1, 0] 1)), none, (Zy Tryz.prog 36), Yp [(4, (.ptr 2 0)), (5, (.ptr 3 0)), (7, (.ptr 4 0))]⟩], (z4q [(0, ⟨.ready, none, 99, Yp [(3, (.ptr 1 0)), (4, (.ptr 2 0)), (5, (.ptr 3 0)), (7, (.ptr 4 0)), (8, (.ptr 5 0)), (9, (.ptr 6 0)), (10, (.ptr 7 0))], [26, 27], (Xe Tryz.prog 36 [1, 1, 1, 1, 1, 0, 1, 0, 0]), (Xe Tryz.prog 36 [1, 1, 1, 1, 1, 0, 1, 0, 1])⟩)])⟩
 | .h3 v70 v71 v72 v000_5 v000_59_0 v000_59_1 v000_60 v_4_0 v_6_0 v_9_0_000 v09_10 => ⟨⟨99, 0, true⟩, none, (Za Tryz.prog 36 [1, 1, 1, 1, 1, 0, 1, 0, 1, 0, 1, 1, 1, 1, 1, 0, 0] 0), (some 0), [], ⟨Yp [(7, (.ptr 4 0)), (11, (.ptr 8 0)), (70, (.dat v70.length (Zz v70))), (71, (ii v71)), (72, (ii v72))], z4o [(1, ⟨[(ii x1)], 3, none⟩), (2, ⟨[.nils], 30, none⟩), (3, ⟨[(ii 0)], 24, none⟩), (4, ⟨[(.sla 13 6 0 v_4_0.length (.un 6))], 30, none⟩), (5, ⟨[(.dat v70.length (Zz v70))], 106, none⟩), (6, ⟨[(ii v_6_0)], 3, none⟩), (7, ⟨[(ii v000_59_1)], 3, none⟩), (8, ⟨[(ii v000_59_0), (ii v000_59_1)], 110, none⟩), (9, ⟨[(.sla 10 1 0 v_9_0_000 (.un 1))], 47, none⟩), (10, ⟨rows v09_10.length (Zz v09_10), 3, some ⟨1, v09_10.length, (Zz v09_10)⟩⟩), (11, ⟨[(.dat l0.length (Zz l0))], 22, none⟩), (12, ⟨[(ii 2)], 3, none⟩), (13, ⟨rows v_4_0.length (Zz v_4_0), 68, some ⟨6, v_4_0.length, (Zz v_4_0)⟩⟩)], 14, [], true⟩, [⟨⟨63, 0, true⟩, (Vj Tryz.prog 121 [1, 0, 0, 1, 0, 0, 1, 1, 0] 12), (Za Tryz.prog 121 [1, 0, 0, 1, 0, 0, 1, 1, 0] 1), none, [], Yp [(0, (.yld 0)), (1, (.ptr 9 0)), (2, (.ptr 11 0)), (3, (.ptr 12 0)), (5, (ii v000_5)), (49, (.yld 0)), (59, (.agg [(ii v000_59_0), (ii v000_59_1)])), (60, (.dat v000_60.length (Zz v000_60)))]⟩, ⟨⟨99, 0, true⟩, none, (.inRangeFunc 0 :: (Za Tryz.prog 36 [1, 1, 1, 1, 1, 0, 1, 0] 1)), none, (Zy Tryz.prog 36), Yp [(4, (.ptr 2 0)), (5, (.ptr 3 0)), (7, (.ptr 4 0))]⟩], (z4q [(0, ⟨.busy, none, 99, Yp [(3, (.ptr 1 0)), (4, (.ptr 2 0)), (5, (.ptr 3 0)), (7, (.ptr 4 0)), (8, (.ptr 5 0)), (9, (.ptr 6 0)), (10, (.ptr 7 0))], [26, 27], (Xe Tryz.prog 36 [1, 1, 1, 1, 1, 0, 1, 0, 0]), (Xe Tryz.prog 36 [1, 1, 1, 1, 1, 0, 1, 0, 1])⟩)])⟩
 | .h4 v14 v000_5 v000_59_0 v000_59_1 v000_60 v_4_0 v_6_0 v_7_0 v_8_0 v_10_0_000 v09_11 => ⟨⟨99, 0, true⟩, none, (Za Tryz.prog 36 [1, 1, 1, 1, 1, 0, 1, 0, 1, 0, 1, 1, 0, 1, 0, 0, 1, 0, 0] 0), (some 0), [], ⟨Yp [(7, (.ptr 4 0)), (10, (.ptr 8 0)), (11, (.ptr 9 0)), (14, (ii v14))], z4o [(1, ⟨[(ii x1)], 3, none⟩), (2, ⟨[.nils], 30, none⟩), (3, ⟨[(ii 0)], 24, none⟩), (4, ⟨[(.sla 5 6 0 v_4_0.length (.un 6))], 30, none⟩), (5, ⟨rows v_4_0.length (Zz v_4_0), 68, some ⟨6, v_4_0.length, (Zz v_4_0)⟩⟩), (6, ⟨[(.dat v_6_0.length (Zz v_6_0))], 106, none⟩), (7, ⟨[(ii v_7_0)], 3, none⟩), (8, ⟨[(ii v_8_0)], 3, none⟩), (9, ⟨[(ii v000_59_0), (ii v000_59_1)], 110, none⟩), (10, ⟨[(.sla 11 1 0 v_10_0_000 (.un 1))], 47, none⟩), (11, ⟨rows v09_11.length (Zz v09_11), 3, some ⟨1, v09_11.length, (Zz v09_11)⟩⟩), (12, ⟨[(.dat l0.length (Zz l0))], 22, none⟩), (13, ⟨[(ii 2)], 3, none⟩)], 14, [], true⟩, [⟨⟨63, 0, true⟩, (Vj Tryz.prog 121 [1, 0, 0, 1, 0, 0, 1, 1, 0] 12), (Za Tryz.prog 121 [1, 0, 0, 1, 0, 0, 1, 1, 0] 1), none, [], Yp [(0, (.yld 0)), (1, (.ptr 10 0)), (2, (.ptr 12 0)), (3, (.ptr 13 0)), (5, (ii v000_5)), (49, (.yld 0)), (59, (.agg [(ii v000_59_0), (ii v000_59_1)])), (60, (.dat v000_60.length (Zz v000_60)))]⟩, ⟨⟨99, 0, true⟩, none, (.inRangeFunc 0 :: (Za Tryz.prog 36 [1, 1, 1, 1, 1, 0, 1, 0] 1)), none, (Zy Tryz.prog 36), Yp [(4, (.ptr 2 0)), (5, (.ptr 3 0)), (7, (.ptr 4 0))]⟩], (z4q [(0, ⟨.busy, none, 99, Yp [(3, (.ptr 1 0)), (4, (.ptr 2 0)), (5, (.ptr 3 0)), (7, (.ptr 4 0)), (8, (.ptr 6 0)), (9, (.ptr 7 0)), (10, (.ptr 8 0))], [26, 27], (Xe Tryz.prog 36 [1, 1, 1, 1, 1, 0, 1, 0, 0]), (Xe Tryz.prog 36 [1, 1, 1, 1, 1, 0, 1, 0, 1])⟩)])⟩
def innN0 : List (Option (List Nat)) := [some [2, 3, 4, 7, 12, 13, 14], some [3, 4, 5, 7, 8, 9, 10, 23, 24]]
def innM0 : List (Option (List Nat)) := []
def v4v : List (Option (List Nat)) := [some [0, 1, 2, 3, 5], some [4, 5, 7]]
def v4w : List (Option (List Nat)) := [some [3, 4, 5, 7, 8, 9, 10], none, none, none, none, none, none, none, none, none, none, none, none]
def w6c : List (Option (List Nat)) := [some [0, 1, 2, 3, 5, 6, 17, 18, 19], some [4, 5, 7]]
def w6e : List (Option (List Nat)) := [some [3, 4, 5, 7, 8, 9, 10], none, none, none, none, none, none, none, none, none, none, none, none, none]
def w6b : List (Option (List Nat)) := [some [7, 11, 70, 71, 72], some [0, 1, 2, 3, 5, 49, 59, 60], some [4, 5, 7]]
def w6d : List (Option (List Nat)) := [some [3, 4, 5, 7, 8, 9, 10], none, none, none, none, none, none, none, none, none, none, none, none, none]
def innN4 : List (Option (List Nat)) := [some [7, 10, 11, 14], some [0, 1, 2, 3, 5, 49, 59, 60], some [4, 5, 7]]
def innM4 : List (Option (List Nat)) := [some [3, 4, 5, 7, 8, 9, 10], none, none, none, none, none, none, none, none, none, none, none, none, none]
def Xk (l0 : List R6) (x1 : Int) : innS → Xc innS
 | .h0 v14 v_2_0 => (bif (decide (v14 < (l0.length : Int))) then (bif ((decide (0 ≤ v14 ∧ v14 < (l0.length : Int))) && true) then (bif (Xv (rd l0 v14.toNat).c x1) then (bif (Xv (IntKind.wrap .i64 (0 - (rd l0 v14.toNat).c)) x1) then (bif (Xv (rd l0 v14.toNat).f x1) then (bif (Xv (IntKind.wrap .i64 (0 - (rd l0 v14.toNat).f)) x1) then (bif (Nat.beq 1 1 && ((decide (0 + v_2_0.length = v_2_0.length)) && decide ((v_2_0.length + 4 + 1) * (8 + 1) ≤ Jv))) then (.to (.h0 (IntKind.wrap .i64 (v14 + 1)) (v_2_0 ++ [(Yd (rd l0 v14.toNat).c x1), (IntKind.wrap .i64 (0 - (Yd (IntKind.wrap .i64 (0 - (rd l0 v14.toNat).c)) x1))), (Yd (rd l0 v14.toNat).f x1), (IntKind.wrap .i64 (0 - (Yd (IntKind.wrap .i64 (0 - (rd l0 v14.toNat).f)) x1)))]))) else .stuck) else .stuck) else .stuck) else .stuck) else .stuck) else .stuck) else (bif (decide (v_2_0.length < 4611686018427387904)) then (bif (decide (v_2_0.length = v_2_0.length)) then (.to (.h1 1 ([] : List R6) ([] : List R4) 0 0 (w8c (Zm v_2_0.length (cOf (Zz (Yh (Zm v_2_0.length (cOf (Zz v_2_0)))))))) (Xx (Zm v_2_0.length (cOf (Zz (Yh (Zm v_2_0.length (cOf (Zz v_2_0)))))))))) else .stuck) else .stuck))
 | .h1 v5 v_4_0 v_5_0 v_6_0 v_7_0 v_8_0_000 v09_9 => (bif (decide (v5 < ((v_8_0_000 : Nat) : Int))) then (.to (.h2 v5 ([] : List R6) 0 v_4_0 v_5_0 v_6_0 v_7_0 v_8_0_000 v09_9)) else (bif (decide ((v_4_0.length : Int) > 400)) then (.ret [.nils, (.int .i64 4)]) else (.ret [(.dat v_4_0.length (Zz v_4_0)), (.int .i64 0)])))
 | .h2 v5 v6 v19 v_4_0 v_5_0 v_6_0 v_7_0 v_8_0_000 v09_9 => (bif (decide (v19 < (l0.length : Int))) then (bif ((decide (0 ≤ v19 ∧ v19 < (l0.length : Int))) && true) then (bif ((decide (0 ≤ v5 ∧ v5 < ((v_8_0_000 : Nat) : Int))) && true) then (bif (decide ((0 + v5.toNat) < v09_9.length)) then (bif (decide ((rd l0 v19.toNat).c < (rd v09_9 (0 + v5.toNat)))) then (bif ((decide (0 ≤ (IntKind.wrap .i64 (v5 - 1)) ∧ (IntKind.wrap .i64 (v5 - 1)) < ((v_8_0_000 : Nat) : Int))) && true) then (bif (decide ((0 + (Int.toNat (IntKind.wrap .i64 (v5 - 1)))) < v09_9.length)) then (bif (decide ((rd v09_9 (0 + (Int.toNat (IntKind.wrap .i64 (v5 - 1))))) < (rd l0 v19.toNat).f)) then (bif (Nat.beq 6 6 && ((decide (0 + v6.length = v6.length)) && decide ((v6.length + 1 + 1) * (48 + 1) ≤ Jv))) then (.to (.h2 v5 (v6 ++ [(R6.mk (rd l0 v19.toNat).a (rd l0 v19.toNat).b (rd l0 v19.toNat).c (rd l0 v19.toNat).d (rd l0 v19.toNat).e (rd l0 v19.toNat).f)]) (IntKind.wrap .i64 (v19 + 1)) v_4_0 v_5_0 v_6_0 v_7_0 v_8_0_000 v09_9)) else .stuck) else (.to (.h2 v5 v6 (IntKind.wrap .i64 (v19 + 1)) v_4_0 v_5_0 v_6_0 v_7_0 v_8_0_000 v09_9))) else .stuck) else .stuck) else (.to (.h2 v5 v6 (IntKind.wrap .i64 (v19 + 1)) v_4_0 v_5_0 v_6_0 v_7_0 v_8_0_000 v09_9))) else .stuck) else .stuck) else .stuck) else (bif ((decide (0 ≤ (IntKind.wrap .i64 (v5 - 1)) ∧ (IntKind.wrap .i64 (v5 - 1)) < ((v_8_0_000 : Nat) : Int))) && true) then (bif (decide ((0 + (Int.toNat (IntKind.wrap .i64 (v5 - 1)))) < v09_9.length)) then (bif ((decide (0 ≤ v5 ∧ v5 < ((v_8_0_000 : Nat) : Int))) && true) then (bif (decide ((0 + v5.toNat) < v09_9.length)) then (bif (Qt (cvT v6) (rd v09_9 (0 + (Int.toNat (IntKind.wrap .i64 (v5 - 1))))) (rd v09_9 (0 + v5.toNat)) x1) then (bif (decide ((((Qd (cvT v6) (rd v09_9 (0 + (Int.toNat (IntKind.wrap .i64 (v5 - 1))))) (rd v09_9 (0 + v5.toNat)) x1).length : Nat) : Int) > 400)) then (.ret [.nils, (.int .i64 4)]) else (bif (decide ((((Qd (cvT v6) (rd v09_9 (0 + (Int.toNat (IntKind.wrap .i64 (v5 - 1))))) (rd v09_9 (0 + v5.toNat)) x1).length : Nat) : Int) > 0)) then (bif (v_7_0 == (rd v09_9 (0 + (Int.toNat (IntKind.wrap .i64 (v5 - 1)))))) then (bif (Wu (cvT v_5_0) (cvT (Qd (cvT v6) (rd v09_9 (0 + (Int.toNat (IntKind.wrap .i64 (v5 - 1))))) (rd v09_9 (0 + v5.toNat)) x1))) then (bif (Uv (cvT v_5_0) (cvT (Qd (cvT v6) (rd v09_9 (0 + (Int.toNat (IntKind.wrap .i64 (v5 - 1))))) (rd v09_9 (0 + v5.toNat)) x1))) then (.to (.h4 v_6_0 v5 (rd v09_9 (0 + (Int.toNat (IntKind.wrap .i64 (v5 - 1))))) (rd v09_9 (0 + v5.toNat)) v6 v_4_0 v_5_0 v_6_0 v_7_0 v_8_0_000 v09_9)) else (.to (.h3 (Qd (cvT v6) (rd v09_9 (0 + (Int.toNat (IntKind.wrap .i64 (v5 - 1))))) (rd v09_9 (0 + v5.toNat)) x1) (((Qd (cvT v6) (rd v09_9 (0 + (Int.toNat (IntKind.wrap .i64 (v5 - 1))))) (rd v09_9 (0 + v5.toNat)) x1).length : Nat) : Int) 0 v5 (rd v09_9 (0 + (Int.toNat (IntKind.wrap .i64 (v5 - 1))))) (rd v09_9 (0 + v5.toNat)) v6 v_4_0 (v_4_0.length : Int) v_8_0_000 v09_9))) else .stuck) else (.to (.h3 (Qd (cvT v6) (rd v09_9 (0 + (Int.toNat (IntKind.wrap .i64 (v5 - 1))))) (rd v09_9 (0 + v5.toNat)) x1) (((Qd (cvT v6) (rd v09_9 (0 + (Int.toNat (IntKind.wrap .i64 (v5 - 1))))) (rd v09_9 (0 + v5.toNat)) x1).length : Nat) : Int) 0 v5 (rd v09_9 (0 + (Int.toNat (IntKind.wrap .i64 (v5 - 1))))) (rd v09_9 (0 + v5.toNat)) v6 v_4_0 (v_4_0.length : Int) v_8_0_000 v09_9))) else (.to (.h3 (Qd (cvT v6) (rd v09_9 (0 + (Int.toNat (IntKind.wrap .i64 (v5 - 1))))) (rd v09_9 (0 + v5.toNat)) x1) (((Qd (cvT v6) (rd v09_9 (0 + (Int.toNat (IntKind.wrap .i64 (v5 - 1))))) (rd v09_9 (0 + v5.toNat)) x1).length : Nat) : Int) 0 v5 (rd v09_9 (0 + (Int.toNat (IntKind.wrap .i64 (v5 - 1))))) (rd v09_9 (0 + v5.toNat)) v6 v_4_0 (v_4_0.length : Int) v_8_0_000 v09_9)))) else .stuck) else .stuck) else .stuck) else .stuck) else .stuck))
 | .h3 v70 v71 v72 v000_5 v000_59_0 v000_59_1 v000_60 v_4_0 v_6_0 v_9_0_000 v09_10 => (bif (decide (v72 < v71)) then (bif ((decide (0 ≤ v72 ∧ v72 < (v70.length : Int))) && true) then (bif (Nat.beq 6 6 && ((decide (0 + v_4_0.length = v_4_0.length)) && decide ((v_4_0.length + 1 + 1) * (48 + 1) ≤ Jv))) then (.to (.h3 v70 v71 (IntKind.wrap .i64 (v72 + 1)) v000_5 v000_59_0 v000_59_1 v000_60 (v_4_0 ++ [(R6.mk (rd v70 v72.toNat).a (rd v70 v72.toNat).b v000_59_0 (rd v70 v72.toNat).c (rd v70 v72.toNat).d v000_59_1)]) v_6_0 v_9_0_000 v09_10)) else .stuck) else .stuck) else (.to (.h1 (IntKind.wrap .i64 (v000_5 + 1)) v_4_0 v70 v_6_0 v000_59_1 v_9_0_000 v09_10)))
 | .h4 v14 v000_5 v000_59_0 v000_59_1 v000_60 v_4_0 v_6_0 v_7_0 v_8_0 v_10_0_000 v09_11 => (bif (decide (v14 < (v_4_0.length : Int))) then (bif ((decide (0 ≤ v14 ∧ v14 < (v_4_0.length : Int))) && true) then (bif (decide ((0 + v14.toNat) < v_4_0.length)) then (.to (.h4 (IntKind.wrap .i64 (v14 + 1)) v000_5 v000_59_0 v000_59_1 v000_60 (v_4_0.set (0 + v14.toNat) (R6.mk (rd v_4_0 (0 + v14.toNat)).a (rd v_4_0 (0 + v14.toNat)).b (rd v_4_0 (0 + v14.toNat)).c (rd v_4_0 (0 + v14.toNat)).d (rd v_4_0 (0 + v14.toNat)).e v000_59_1)) v_6_0 v_7_0 v_8_0 v_10_0_000 v09_11)) else .stuck) else .stuck) else (.to (.h1 (IntKind.wrap .i64 (v000_5 + 1)) v_4_0 v_6_0 v_7_0 v000_59_1 v_10_0_000 v09_11)))
def z8j (l0 : List R6) (x1 : Int) : Xc innS := (bif (Vo (cvT l0)) then (bif ((Yq (cvT l0)) != 0) then (.ret [.nils, (.int .i64 (Yq (cvT l0)))]) else (bif (decide (x1 < 1)) then (.ret [.nils, (.int .i64 2)]) else (bif (decide (x1 > 1000)) then (.ret [.nils, (.int .i64 2)]) else (.to (.h0 0 ([] : List Int)))))) else .stuck)
theorem x5m (l0 : List R6) (x1 : Int) : ∀ s, Wy Tryz.prog (Zy Tryz.prog 36) (innC l0 x1) (innC l0 x1 s) (Xk l0 x1 s)
 | .h0 v14 v_2_0 => (lb (fun k0 => (lo fun o0 => (lo fun o1 => (lo fun o2 => (lo fun o3 => (lo fun o4 => (lo fun o5 => (sl Kd 45 [] ⟨[0, 1, 2, 3, 4, 5, 6, 7, 8, 9, 16], [], innN0, innM0⟩ ⟨[], [.keep, .keep, .cells [.len (v_2_0 ++ [(Yd (rd l0 (tn v14)).c x1), (wr (0 - (Yd (wr (0 - (rd l0 (tn v14)).c)) x1))), (Yd (rd l0 (tn v14)).f x1), (wr (0 - (Yd (wr (0 - (rd l0 (tn v14)).f)) x1)))]).length], .keep, .keep, .keep, .keep, .keep, .keep, .keep, .rowed 1 (v_2_0 ++ [(Yd (rd l0 (tn v14)).c x1), (wr (0 - (Yd (wr (0 - (rd l0 (tn v14)).c)) x1))), (Yd (rd l0 (tn v14)).f x1), (wr (0 - (Yd (wr (0 - (rd l0 (tn v14)).f)) x1)))]).length (Zz (v_2_0 ++ [(Yd (rd l0 (tn v14)).c x1), (wr (0 - (Yd (wr (0 - (rd l0 (tn v14)).c)) x1))), (Yd (rd l0 (tn v14)).f x1), (wr (0 - (Yd (wr (0 - (rd l0 (tn v14)).f)) x1)))]))], []⟩ (trs 3 [false, true, true, false]) (pp (xL (v_2_0.length + 4) (v_2_0 ++ [(Yd (rd l0 (tn v14)).c x1), (wr (0 - (Yd (wr (0 - (rd l0 (tn v14)).c)) x1))), (Yd (rd l0 (tn v14)).f x1), (wr (0 - (Yd (wr (0 - (rd l0 (tn v14)).f)) x1)))]).length) (pp (xL (v_2_0.length + 4) (v_2_0 ++ [(Yd (rd l0 (tn v14)).c x1), (wr (0 - (Yd (wr (0 - (rd l0 (tn v14)).c)) x1))), (Yd (rd l0 (tn v14)).f x1), (wr (0 - (Yd (wr (0 - (rd l0 (tn v14)).f)) x1)))]).length) (pp (xS (v_2_0.length + 4) (Zd (Zz v_2_0) 0 v_2_0.length 1 [(ii (Yd (rd l0 (tn v14)).c x1)), (ii (wr (0 - (Yd (wr (0 - (rd l0 (tn v14)).c)) x1)))), (ii (Yd (rd l0 (tn v14)).f x1)), (ii (wr (0 - (Yd (wr (0 - (rd l0 (tn v14)).f)) x1))))]) (Zz (v_2_0 ++ [(Yd (rd l0 (tn v14)).c x1), (wr (0 - (Yd (wr (0 - (rd l0 (tn v14)).c)) x1))), (Yd (rd l0 (tn v14)).f x1), (wr (0 - (Yd (wr (0 - (rd l0 (tn v14)).f)) x1)))]))) (pp (pp (xF (Zd (Zz v_2_0) 0 v_2_0.length 1 [(ii (Yd (rd l0 (tn v14)).c x1)), (ii (wr (0 - (Yd (wr (0 - (rd l0 (tn v14)).c)) x1)))), (ii (Yd (rd l0 (tn v14)).f x1)), (ii (wr (0 - (Yd (wr (0 - (rd l0 (tn v14)).f)) x1))))])) nn) (ww o5 (ww o4 (ww o3 (ww o2 (ww o1 (ww o0 (tt k0 nn))))))))))))))))))) (fun k0 => (lo fun o0 => (lo fun o1 => (sl Kd 33 [(68, 6, Zz ([] : List R6))] ⟨[11, 3, 4, 5, 6, 7, 8, 9, 2, 10, 0, 1, 12], [], v4v, v4w⟩ ⟨[], (kpB 4 [.cells [.grow 12 6], .cells [.list 0 (Zz ([] : List R4))], .keep, .keep, .keep, .rowed 1 (Xx (Zm v_2_0.length (cOf (Zz (Yh (Zm v_2_0.length (cOf (Zz v_2_0)))))))).length (Zz (Xx (Zm v_2_0.length (cOf (Zz (Yh (Zm v_2_0.length (cOf (Zz v_2_0))))))))), .keep, .keep, .keep]), []⟩ [false] (pp (xL v_2_0.length (Xx (Zm v_2_0.length (cOf (Zz (Yh (Zm v_2_0.length (cOf (Zz v_2_0)))))))).length (by first | exact Qs _ _ | exact Vn rfl)) (pp (xS v_2_0.length (Zz (Xx (Zm v_2_0.length (cOf (Zz (Yh (Zm v_2_0.length (cOf (Zz v_2_0))))))))) (Zz (Xx (Zm v_2_0.length (cOf (Zz (Yh (Zm v_2_0.length (cOf (Zz v_2_0)))))))))) (pp (fl (Xx (Zm v_2_0.length (cOf (Zz (Yh (Zm v_2_0.length (cOf (Zz v_2_0)))))))) (fl ([] : List R6) nn)) (pp (pp (xG (Nat.beq 1 1)) (pp (xG (Nat.beq 1 1)) (pp (xG (Nat.beq 0 0)) (pp (xG (decide (v_2_0.length = v_2_0.length))) (pp (xG (isI (Zz (Yh (Zm v_2_0.length (cOf (Zz v_2_0))))))) (xG (decide (v_2_0.length < 4611686018427387904)))))))) (pp (pp (xG (Nat.beq 1 1)) (pp (xG (Nat.beq 1 1)) (pp (xG (Nat.beq 0 0)) (pp (xG (decide (v_2_0.length = v_2_0.length))) (pp (xG (isI (Zz v_2_0))) (xG (decide (v_2_0.length < 4611686018427387904)))))))) (tt k0 nn)))))))))))
 | .h1 v5 v_4_0 v_5_0 v_6_0 v_7_0 v_8_0_000 v09_9 => (lb (fun k0 => (sl Kd 25 [(68, 6, Zz ([] : List R6))] ⟨[0, 1, 2, 3, 4, 5, 6, 7, 8, 9, 10, 11, 13, 12], [], w6c, w6e⟩ ⟨[(6, .grow 12 6)], [], []⟩ [true] (pp (fl v09_9 (fl ([] : List R6) (fl v_4_0 nn))) (tt k0 nn)))) (fun k0 => (lb (fun k1 => (z0r ⟨⟨99, 0, true⟩, none, (Za Tryz.prog 36 [1, 1, 1, 1, 1, 1, 0, 1, 0, 0] 1), none, (Zy Tryz.prog 36), ⟨Yp [(4, (.ptr 0 0)), (5, (.ptr 1 0))], Ve [⟨[.nils], 30, none⟩, ⟨[(ii 4)], 24, none⟩] 0, 2, [], true⟩, [], .leaf⟩ (sl Kd 26 [] ⟨[2, 3], [], [some [4, 5]], []⟩ ⟨[], [], []⟩ [false, true] (tt k1 (tt k0 nn))) rfl (by kernel_rfl))) (fun k1 => (z0r ⟨⟨99, 0, true⟩, none, (Za Tryz.prog 3 [1, 1, 1, 1, 1, 1, 0] 1), none, (Zy Tryz.prog 36), ⟨Yp [(4, (.ptr 0 0)), (5, (.ptr 1 0))], Ve [⟨[(.dat v_4_0.length (Zz v_4_0))], 30, none⟩, ⟨[(ii 0)], 24, none⟩] 0, 2, [], true⟩, [], .leaf⟩ (sl Kd 28 [] ⟨[2, 3], [12], [some [4, 5]], []⟩ ⟨[], [.cells [.frz v_4_0.length v_4_0.length (Zz v_4_0) (Zz v_4_0)], .keep], []⟩ [false, false] (pp (xZ (z4u 6 6 0 v_4_0.length v_4_0.length (Zz v_4_0)) v_4_0.length (Zz v_4_0)) (pp (xL v_4_0.length v_4_0.length) (pp (xS v_4_0.length (Zz v_4_0) (Zz v_4_0)) (pp (fl v_4_0 nn) (tt k1 (tt k0 nn))))))) rfl (by kernel_rfl))))))
 | .h2 v5 v6 v19 v_4_0 v_5_0 v_6_0 v_7_0 v_8_0_000 v09_9 => (lb (fun k0 => (lo fun o1_0 => (lo fun o1_1 => (lo fun o1_2 => (lb (fun k1 => (lo fun o2_0 => (lo fun o2_1 => (lb (fun k2 => (lo fun o0 => (sl Kd 70 [] ⟨[0, 1, 2, 3, 4, 5, 6, 7, 8, 9, 10, 11, 19, 13], [], w6c, w6e⟩ ⟨[(6, .len (v6 ++ [(R6.mk (rd l0 (tn v19)).a (rd l0 (tn v19)).b (rd l0 (tn v19)).c (rd l0 (tn v19)).d (rd l0 (tn v19)).e (rd l0 (tn v19)).f)]).length)], (kpB 12 [.rowed 6 (v6 ++ [(R6.mk (rd l0 (tn v19)).a (rd l0 (tn v19)).b (rd l0 (tn v19)).c (rd l0 (tn v19)).d (rd l0 (tn v19)).e (rd l0 (tn v19)).f)]).length (Zz (v6 ++ [(R6.mk (rd l0 (tn v19)).a (rd l0 (tn v19)).b (rd l0 (tn v19)).c (rd l0 (tn v19)).d (rd l0 (tn v19)).e (rd l0 (tn v19)).f)])), .keep]), []⟩ (trs 3 [false, true, true, false, true, true, true, true, true, true, true, true]) (pp (xL (v6.length + 1) (v6 ++ [(R6.mk (rd l0 (tn v19)).a (rd l0 (tn v19)).b (rd l0 (tn v19)).c (rd l0 (tn v19)).d (rd l0 (tn v19)).e (rd l0 (tn v19)).f)]).length) (pp (xL (v6.length + 1) (v6 ++ [(R6.mk (rd l0 (tn v19)).a (rd l0 (tn v19)).b (rd l0 (tn v19)).c (rd l0 (tn v19)).d (rd l0 (tn v19)).e (rd l0 (tn v19)).f)]).length) (pp (xS (v6.length + 1) (Zd (Zz v6) 0 v6.length 6 [(ii (rd l0 (tn v19)).a), (ii (rd l0 (tn v19)).b), (ii (rd l0 (tn v19)).c), (ii (rd l0 (tn v19)).d), (ii (rd l0 (tn v19)).e), (ii (rd l0 (tn v19)).f)]) (Zz (v6 ++ [(R6.mk (rd l0 (tn v19)).a (rd l0 (tn v19)).b (rd l0 (tn v19)).c (rd l0 (tn v19)).d (rd l0 (tn v19)).e (rd l0 (tn v19)).f)]))) (pp (fl v09_9 (pp (xF (Zd (Zz v6) 0 v6.length 6 [(ii (rd l0 (tn v19)).a), (ii (rd l0 (tn v19)).b), (ii (rd l0 (tn v19)).c), (ii (rd l0 (tn v19)).d), (ii (rd l0 (tn v19)).e), (ii (rd l0 (tn v19)).f)])) (fl v_4_0 nn))) (ww o0 (tt k2 (ww o2_1 (ww o2_0 (tt k1 (ww o1_2 (ww o1_1 (ww o1_0 (tt k0 nn)))))))))))))))) (fun k2 => (sl Kd 64 [] ⟨(List.range 14), [], w6c, w6e⟩ ⟨[], [], []⟩ (trs 3 [false, true, true, false, true, true, true, true, true, true, true, false]) (pp (fl v09_9 (fl v6 (fl v_4_0 nn))) (tt k2 (ww o2_1 (ww o2_0 (tt k1 (ww o1_2 (ww o1_1 (ww o1_0 (tt k0 nn))))))))))))))) (fun k1 => (sl Kd 64 [] ⟨(List.range 14), [], w6c, w6e⟩ ⟨[], [], []⟩ (trs 3 [false, true, true, false, false, false, false, false, false, false, false, false]) (pp (fl v09_9 (fl v6 (fl v_4_0 nn))) (tt k1 (ww o1_2 (ww o1_1 (ww o1_0 (tt k0 nn))))))))))))) (fun k0 => (lo fun q1_0 => (lo fun q1_1 => (lo fun q1_2 => (lo fun q1_3 => (Wm (sl Kd (C' := ⟨⟨99, 0, true⟩, (Vj Tryz.prog 36 [1, 1, 1, 1, 1, 0, 1, 0, 1, 0, 0] 3), (Za Tryz.prog 36 [1, 1, 1, 1, 1, 0, 1, 0, 1, 0, 0] 1), (some 0), [], ⟨Yp [(4, (.ptr 2 0)), (5, (.ptr 3 0)), (7, (.ptr 4 0)), (8, (.ptr 6 0)), (9, (.ptr 7 0)), (10, (.ptr 8 0)), (11, (.ptr 9 0)), (28, (.dat v6.length (Zz v6))), (29, (.agg [(ii (rd v09_9 (0 + (tn (wr (v5 - 1)))))), (ii (rd v09_9 (0 + (tn v5))))])), (30, (ii x1))], z4o [(1, ⟨[(ii x1)], 3, none⟩), (2, ⟨[.nils], 30, none⟩), (3, ⟨[(ii 0)], 24, none⟩), (4, ⟨[(.sla 5 6 0 v_4_0.length (.un 6))], 30, none⟩), (5, ⟨rows v_4_0.length (Zz v_4_0), 68, some ⟨6, v_4_0.length, (Zz v_4_0)⟩⟩), (6, ⟨[(.dat v_5_0.length (Zz v_5_0))], 106, none⟩), (7, ⟨[(ii v_6_0)], 3, none⟩), (8, ⟨[(ii v_7_0)], 3, none⟩), (9, ⟨[(ii (rd v09_9 (0 + (tn (wr (v5 - 1)))))), (ii (rd v09_9 (0 + (tn v5))))], 110, none⟩), (10, ⟨[(.sla 11 1 0 v_8_0_000 (.un 1))], 47, none⟩), (11, ⟨rows v09_9.length (Zz v09_9), 3, some ⟨1, v09_9.length, (Zz v09_9)⟩⟩), (12, ⟨[(.dat l0.length (Zz l0))], 22, none⟩), (13, ⟨[(ii 2)], 3, none⟩)], 14, [], true⟩, [⟨⟨63, 0, true⟩, (Vj Tryz.prog 121 [1, 0, 0, 1, 0, 0, 1, 1, 0] 12), (Za Tryz.prog 121 [1, 0, 0, 1, 0, 0, 1, 1, 0] 1), none, [], Yp [(0, (.yld 0)), (1, (.ptr 10 0)), (2, (.ptr 12 0)), (3, (.ptr 13 0)), (5, (ii v5)), (49, (.yld 0)), (59, (.agg [(ii (rd v09_9 (0 + (tn (wr (v5 - 1)))))), (ii (rd v09_9 (0 + (tn v5))))])), (60, (.dat v6.length (Zz v6)))]⟩, ⟨⟨99, 0, true⟩, none, (.inRangeFunc 0 :: (Za Tryz.prog 36 [1, 1, 1, 1, 1, 0, 1, 0] 1)), none, (Zy Tryz.prog 36), Yp [(4, (.ptr 2 0)), (5, (.ptr 3 0)), (7, (.ptr 4 0))]⟩], (z4q [(0, ⟨.busy, none, 99, Yp [(3, (.ptr 1 0)), (4, (.ptr 2 0)), (5, (.ptr 3 0)), (7, (.ptr 4 0)), (8, (.ptr 6 0)), (9, (.ptr 7 0)), (10, (.ptr 8 0))], [26, 27], (Xe Tryz.prog 36 [1, 1, 1, 1, 1, 0, 1, 0, 0]), (Xe Tryz.prog 36 [1, 1, 1, 1, 1, 0, 1, 0, 1])⟩)])⟩) 25 [] ⟨[0, 1, 2, 3, 4, 13, 5, 6, 7, 14, 8, 9, 10, 11], [12], [some [4, 5, 7, 8, 9, 10, 11, 28, 29, 30], some [0, 1, 2, 3, 5, 49, 59, 60], some [4, 5, 7]], [some [3, 4, 5, 7, 8, 9, 10], none, none, none, none, none, none, none, none, none, none, none, none, none]⟩ ⟨[(28, .frz v6.length v6.length (Zz v6) (Zz v6))], [], [[(60, .frz v6.length v6.length (Zz v6) (Zz v6))], []]⟩ [false] (pp (xZ (z4u 6 6 0 v6.length v6.length (Zz v6)) v6.length (Zz v6)) (pp (xL v6.length v6.length) (pp (xS v6.length (Zz v6) (Zz v6)) (pp (xZ (z4u 6 6 0 v6.length v6.length (Zz v6)) v6.length (Zz v6)) (pp (xL v6.length v6.length) (pp (xS v6.length (Zz v6) (Zz v6)) (pp (fl v_4_0 (fl v09_9 nn)) (pp (fl v6 nn) (ww q1_3 (ww q1_2 (ww q1_1 (ww q1_0 (tt k0 nn)))))))))))))) (lo fun o1_0 => (lb (fun k1 => (z0r ⟨⟨99, 0, true⟩, none, (.code .ret :: (Za Tryz.prog 36 [1, 1, 1, 1, 1, 0, 1, 0] 1)), none, (Zy Tryz.prog 36), ⟨Yp [(4, (.ptr 0 0)), (5, (.ptr 1 0))], Ve [⟨[.nils], 30, none⟩, ⟨[(ii 4)], 24, none⟩] 0, 2, [], true⟩, [], .leaf⟩ (sl Kd 22 [] ⟨[2, 3], [], [some [4, 5]], []⟩ ⟨[], [], []⟩ [true, true] (tt k1 (pp (pp (xr v6) (xw o1_0)) nn))) rfl (by kernel_rfl))) (fun k1 => (lb (fun k2 => (lb (fun k3 => (lo fun o4_0 => (lb (fun k4 => (sl Kd 39 [] ⟨(List.range 14), [], innN4, innM4⟩ ⟨[], [], []⟩ [false, true, true, true, true, true, true, true, true] (pp (fl v_4_0 (fl v09_9 nn)) (tt k4 (pp (pp (xr v_5_0) (pp (xI R4 (Qd (cvT v6) (rd v09_9 (0 + (tn (wr (v5 - 1))))) (rd v09_9 (0 + (tn v5))) x1).length (Zz (Qd (cvT v6) (rd v09_9 (0 + (tn (wr (v5 - 1))))) (rd v09_9 (0 + (tn v5))) x1))) (xw o4_0))) (tt k3 (tt k2 (tt k1 (pp (pp (xr v6) (xw o1_0)) nn))))))))) (fun k4 => (sl Kd 42 [] ⟨[0, 1, 2, 3, 4, 6, 7, 8, 9, 10, 11, 12, 13, 5], [], w6b, w6d⟩ ⟨[], [], []⟩ [false, true, true, true, true, true, true, true, false] (pp (fl v09_9 (fl v_4_0 nn)) (tt k4 (pp (pp (xr v_5_0) (pp (xI R4 (Qd (cvT v6) (rd v09_9 (0 + (tn (wr (v5 - 1))))) (rd v09_9 (0 + (tn v5))) x1).length (Zz (Qd (cvT v6) (rd v09_9 (0 + (tn (wr (v5 - 1))))) (rd v09_9 (0 + (tn v5))) x1))) (xw o4_0))) (tt k3 (tt k2 (tt k1 (pp (pp (xr v6) (xw o1_0)) nn)))))))))))) (fun k3 => (sl Kd 42 [] ⟨[0, 1, 2, 3, 4, 6, 7, 8, 9, 10, 11, 12, 13, 5], [], w6b, w6d⟩ ⟨[], [], []⟩ [false, true, true, true, true, false, false, false, false] (pp (fl v09_9 (fl v_4_0 nn)) (tt k3 (tt k2 (tt k1 (pp (pp (xr v6) (xw o1_0)) nn))))))))) (fun k2 => (sl Kd 42 [] ⟨[0, 1, 2, 3, 4, 6, 7, 8, 9, 10, 11, 12, 13, 5], [], w6b, w6d⟩ ⟨[], [], []⟩ [false, false, false, false, false, false, false, false, false] (pp (fl v09_9 (fl v_4_0 nn)) (tt k2 (tt k1 (pp (pp (xr v6) (xw o1_0)) nn)))))))))))))))))
 | .h3 v70 v71 v72 v000_5 v000_59_0 v000_59_1 v000_60 v_4_0 v_6_0 v_9_0_000 v09_10 => (lb (fun k0 => (lo fun o0 => (lo fun o1 => (sl Kd 43 [] ⟨[0, 1, 2, 3, 4, 5, 6, 7, 8, 9, 10, 11, 12, 16], [], w6b, w6d⟩ ⟨[], (kpB 4 [.cells [.len (v_4_0 ++ [(R6.mk (rd v70 (tn v72)).a (rd v70 (tn v72)).b v000_59_0 (rd v70 (tn v72)).c (rd v70 (tn v72)).d v000_59_1)]).length], .keep, .keep, .keep, .keep, .keep, .keep, .keep, .keep, .rowed 6 (v_4_0 ++ [(R6.mk (rd v70 (tn v72)).a (rd v70 (tn v72)).b v000_59_0 (rd v70 (tn v72)).c (rd v70 (tn v72)).d v000_59_1)]).length (Zz (v_4_0 ++ [(R6.mk (rd v70 (tn v72)).a (rd v70 (tn v72)).b v000_59_0 (rd v70 (tn v72)).c (rd v70 (tn v72)).d v000_59_1)]))]), []⟩ [true] (pp (xL (v_4_0.length + 1) (v_4_0 ++ [(R6.mk (rd v70 (tn v72)).a (rd v70 (tn v72)).b v000_59_0 (rd v70 (tn v72)).c (rd v70 (tn v72)).d v000_59_1)]).length) (pp (xL (v_4_0.length + 1) (v_4_0 ++ [(R6.mk (rd v70 (tn v72)).a (rd v70 (tn v72)).b v000_59_0 (rd v70 (tn v72)).c (rd v70 (tn v72)).d v000_59_1)]).length) (pp (xS (v_4_0.length + 1) (Zd (Zz v_4_0) 0 v_4_0.length 6 [(ii (rd v70 (tn v72)).a), (ii (rd v70 (tn v72)).b), (ii v000_59_0), (ii (rd v70 (tn v72)).c), (ii (rd v70 (tn v72)).d), (ii v000_59_1)]) (Zz (v_4_0 ++ [(R6.mk (rd v70 (tn v72)).a (rd v70 (tn v72)).b v000_59_0 (rd v70 (tn v72)).c (rd v70 (tn v72)).d v000_59_1)]))) (pp (fl v09_10 (pp (xF (Zd (Zz v_4_0) 0 v_4_0.length 6 [(ii (rd v70 (tn v72)).a), (ii (rd v70 (tn v72)).b), (ii v000_59_0), (ii (rd v70 (tn v72)).c), (ii (rd v70 (tn v72)).d), (ii v000_59_1)])) nn)) (ww o1 (ww o0 (tt k0 nn))))))))))) (fun k0 => (sl Kd 20 [] ⟨[0, 1, 2, 3, 4, 5, 6, 7, 9, 10, 11, 12, 13], [], v4v, v4w⟩ ⟨[], [], []⟩ [false, false] (pp (fl v09_10 (fl v_4_0 nn)) (tt k0 nn)))))
 | .h4 v14 v000_5 v000_59_0 v000_59_1 v000_60 v_4_0 v_6_0 v_7_0 v_8_0 v_10_0_000 v09_11 => (lb (fun k0 => (lo fun o0 => (lo fun o1 => (sl Kd 29 [] ⟨(List.range 14), [], innN4, innM4⟩ ⟨[], (kpB 4 [.cells [.len (v_4_0.set (0 + (tn v14)) (R6.mk (rd v_4_0 (0 + (tn v14))).a (rd v_4_0 (0 + (tn v14))).b (rd v_4_0 (0 + (tn v14))).c (rd v_4_0 (0 + (tn v14))).d (rd v_4_0 (0 + (tn v14))).e v000_59_1)).length], .rowed 6 (v_4_0.set (0 + (tn v14)) (R6.mk (rd v_4_0 (0 + (tn v14))).a (rd v_4_0 (0 + (tn v14))).b (rd v_4_0 (0 + (tn v14))).c (rd v_4_0 (0 + (tn v14))).d (rd v_4_0 (0 + (tn v14))).e v000_59_1)).length (Zz (v_4_0.set (0 + (tn v14)) (R6.mk (rd v_4_0 (0 + (tn v14))).a (rd v_4_0 (0 + (tn v14))).b (rd v_4_0 (0 + (tn v14))).c (rd v_4_0 (0 + (tn v14))).d (rd v_4_0 (0 + (tn v14))).e v000_59_1))), .keep, .keep, .keep, .keep, .keep, .keep, .keep, .keep]), []⟩ [true] (pp (xL v_4_0.length (v_4_0.set (0 + (tn v14)) (R6.mk (rd v_4_0 (0 + (tn v14))).a (rd v_4_0 (0 + (tn v14))).b (rd v_4_0 (0 + (tn v14))).c (rd v_4_0 (0 + (tn v14))).d (rd v_4_0 (0 + (tn v14))).e v000_59_1)).length) (pp (xL v_4_0.length (v_4_0.set (0 + (tn v14)) (R6.mk (rd v_4_0 (0 + (tn v14))).a (rd v_4_0 (0 + (tn v14))).b (rd v_4_0 (0 + (tn v14))).c (rd v_4_0 (0 + (tn v14))).d (rd v_4_0 (0 + (tn v14))).e v000_59_1)).length) (pp (xS v_4_0.length (Xa (Zz v_4_0) (0 + (tn v14)) 5 [(ii v000_59_1)]) (Zz (v_4_0.set (0 + (tn v14)) (R6.mk (rd v_4_0 (0 + (tn v14))).a (rd v_4_0 (0 + (tn v14))).b (rd v_4_0 (0 + (tn v14))).c (rd v_4_0 (0 + (tn v14))).d (rd v_4_0 (0 + (tn v14))).e v000_59_1)))) (pp (pp (xF (Xa (Zz v_4_0) (0 + (tn v14)) 5 [(ii v000_59_1)])) (fl v09_11 nn)) (ww o1 (ww o0 (tt k0 nn))))))))))) (fun k0 => (sl Kd 29 [] ⟨[0, 1, 2, 3, 4, 6, 7, 8, 10, 11, 12, 13, 5], [], v4v, v4w⟩ ⟨[], [], []⟩ [false, false] (pp (fl v09_11 (fl v_4_0 nn)) (tt k0 nn)))))
theorem y9y (l0 : List R6) (x1 : Int) : Wy Tryz.prog (Zy Tryz.prog 36) (innC l0 x1) (Zh Tryz.prog 36 [(.dat l0.length (Zz l0)), (.int .i64 x1)] true []) (z8j l0 x1) := (lo fun o0_0 => (lb (fun k0 => (z0r ⟨⟨99, 0, true⟩, none, (Za Tryz.prog 36 [1, 0, 1, 1, 0, 0] 1), none, (Zy Tryz.prog 36), ⟨Yp [(4, (.ptr 0 0)), (5, (.ptr 1 0))], Ve [⟨[.nils], 30, none⟩, ⟨[(ii (Yq (cvT l0)))], 24, none⟩] 0, 2, [], true⟩, [], .leaf⟩ (sl Kd 49 [] ⟨[1, 2], [], [some [4, 5]], []⟩ ⟨[], [], []⟩ [true, true] (tt k0 (tt k0 (pp (pp (xr l0) (xw o0_0)) nn)))) rfl (by kernel_rfl))) (fun k0 => (lb (fun k1 => (z0r ⟨⟨99, 0, true⟩, none, (Za Tryz.prog 36 [1, 0, 1, 1, 0, 0] 1), none, (Zy Tryz.prog 36), ⟨Yp [(4, (.ptr 0 0)), (5, (.ptr 1 0))], Ve [⟨[.nils], 30, none⟩, ⟨[(ii 2)], 24, none⟩] 0, 2, [], true⟩, [], .leaf⟩ (sl Kd 60 [] ⟨[1, 2], [], [some [4, 5]], []⟩ ⟨[], [], []⟩ [false, true, true, true, true] (tt k1 (tt k0 (pp (pp (xr l0) (xw o0_0)) nn)))) rfl (by kernel_rfl))) (fun k1 => (lb (fun k2 => (z0r ⟨⟨99, 0, true⟩, none, (Za Tryz.prog 36 [1, 0, 1, 1, 0, 0] 1), none, (Zy Tryz.prog 36), ⟨Yp [(4, (.ptr 0 0)), (5, (.ptr 1 0))], Ve [⟨[.nils], 30, none⟩, ⟨[(ii 2)], 24, none⟩] 0, 2, [], true⟩, [], .leaf⟩ (sl Kd 60 [] ⟨[1, 2], [], [some [4, 5]], []⟩ ⟨[], [], []⟩ [false, false, false, true, true] (tt k2 (tt k1 (tt k0 (pp (pp (xr l0) (xw o0_0)) nn))))) rfl (by kernel_rfl))) (fun k2 => (sl Kd 96 [(3, 1, Zz ([] : List Int))] ⟨[7, 8, 9, 0, 1, 2, 3, 4, 5, 6, 10], [], innN0, innM0⟩ ⟨[], [.keep, .keep, .cells [.grow 10 1], .keep, .keep, .keep, .keep, .keep, .keep, .keep, .keep], []⟩ [false, false, false, false, false] (pp (fl ([] : List Int) nn) (tt k2 (tt k1 (tt k0 (pp (pp (xr l0) (xw o0_0)) nn)))))))))))))
theorem w5z (l0 : List R6) (x1 : Int) (n : Nat) (vs : List AVal) (h : Yw (Xk l0 x1) n (z8j l0 x1) = .ret vs) : Jd Tryz.prog (Zy Tryz.prog 36) (Zh Tryz.prog 36 [(.dat l0.length (Zz l0)), (.int .i64 x1)] true []) vs := by
 have := Zn (x5m l0 x1) n _ (y9y l0 x1)
 rwa [h] at this
end Go.Am
namespace Go.Am
open Go.Proofs Go.Sort Go.Shelf Go.RowKit Go.Lib
theorem v1e {L : List R6} {n : Int} (hl : L.length ≤ 400) {i : Nat} (hi : i + 1 < (rnC R6.c R6.f n L).length) (out : List R6) (last : List R4) (first fin : Int) : ∀ (k j : Nat) (acc : List R6), j + k = L.length → acc.length ≤ j →
  ∃ N, ∀ M, Yw (Xk L n) (M + N) (.to (.h2 ((i + 1 : Nat) : Int) acc (j : Int) out last first fin (rnC R6.c R6.f n L).length (Xx (Yh (rnE R6.c R6.f n L))))) = Yw (Xk L n) M (.to (.h2 ((i + 1 : Nat) : Int) (acc ++ crS R6.c R6.f (L.drop j) (rd (rnC R6.c R6.f n L) i) (rd (rnC R6.c R6.f n L) (i + 1))) (L.length : Int) out last first fin (rnC R6.c R6.f n L).length (Xx (Yh (rnE R6.c R6.f n L)))))
 | 0, j, acc, h, ha => by
  refine ⟨0, fun M => ?_⟩
  rw [List.drop_eq_nil_of_le (by omega), show crS R6.c R6.f ([] : List R6) (rd (rnC R6.c R6.f n L) i) (rd (rnC R6.c R6.f n L) (i + 1)) = [] from rfl, List.append_nil, Nat.add_zero, show j = L.length by omega]
 | k + 1, j, acc, h, ha => by
  have hj : j < L.length := by omega
  have hc := Vx R6.c R6.f n L
  have hpl : (Xx (Yh (rnE R6.c R6.f n L))).length = 4 * L.length := by rw [Wc, Wv, Xr]
  have r0 : rd (Xx (Yh (rnE R6.c R6.f n L))) i = rd (rnC R6.c R6.f n L) i := Ui _ _ (by show i < (rnC R6.c R6.f n L).length; omega)
  have r1 : rd (Xx (Yh (rnE R6.c R6.f n L))) (i + 1) = rd (rnC R6.c R6.f n L) (i + 1) := Ui _ _ (by show i + 1 < (rnC R6.c R6.f n L).length; omega)
  have e1 : IntKind.wrap .i64 (((i + 1 : Nat) : Int) - 1) = (i : Int) := by rw [Zc]; exact Zk (by omega)
  have hw : IntKind.wrap .i64 ((j : Int) + 1) = ((j + 1 : Nat) : Int) := Zk (by omega)
  obtain ⟨N, hN⟩ := v1e hl hi out last first fin k (j + 1) (acc ++ crS R6.c R6.f [rd L j] (rd (rnC R6.c R6.f n L) i) (rd (rnC R6.c R6.f n L) (i + 1))) (by omega) (by have := Kv R6.c R6.f [rd L j] (rd (rnC R6.c R6.f n L) i) (rd (rnC R6.c R6.f n L) (i + 1)); simp only [List.length_append, List.length_singleton] at *; omega)
  refine ⟨N + 1, fun M => ?_⟩
  have e : crS R6.c R6.f (L.drop j) (rd (rnC R6.c R6.f n L) i) (rd (rnC R6.c R6.f n L) (i + 1)) = crS R6.c R6.f [rd L j] (rd (rnC R6.c R6.f n L) i) (rd (rnC R6.c R6.f n L) (i + 1)) ++ crS R6.c R6.f (L.drop (j + 1)) (rd (rnC R6.c R6.f n L) i) (rd (rnC R6.c R6.f n L) (i + 1)) := by
   rw [Ye hj, ← z6b]; rfl
  rw [e, ← Nat.add_assoc, Zv, ← List.append_assoc, ← hN M]
  by_cases h1 : (rd L j).c < rd (rnC R6.c R6.f n L) (i + 1)
  ·by_cases h2 : rd (rnC R6.c R6.f n L) i < (rd L j).f
   ·rw [v7b h1 h2]
    simp (disch := omega) only [Xk, e1, r0, r1, hw, Zb, Zq, Zo, Zs, Yz, Yu, Yk, Ze, Zk, Zx, Ya, Zj, Nat.zero_add, decide_true, Bool.and_true, Bool.true_and, cond_true, cond_false]
   ·rw [w1v h2, List.append_nil]
    simp (disch := omega) only [Xk, Zt, e1, r0, r1, hw, Zb, Zq, Zo, Zs, Yz, Yu, Yk, Ze, Zk, Zx, Ya, Zj, Nat.zero_add, decide_true, Bool.and_true, Bool.true_and, cond_true, cond_false]
  ·rw [w1w h1, List.append_nil]
   simp (disch := omega) only [Xk, Zt, e1, r0, r1, hw, Zb, Zq, Zo, Zs, Yz, Yu, Yk, Ze, Zk, Zx, Ya, Zj, Nat.zero_add, decide_true, Bool.and_true, Bool.true_and, cond_true, cond_false]
theorem v1f {L : List R6} {n : Int} (hl : L.length ≤ 400) (hn : n ≠ 0) {R : List AVal} (hR : ∃ N, Yw (Xk L n) N (.to (.h1 1 [] [] 0 0 (rnC R6.c R6.f n L).length (Xx (Yh (rnE R6.c R6.f n L))))) = .ret R) : ∀ (k i : Nat) (acc : List Int), i + k = L.length → acc = rnE R6.c R6.f n (L.take i) → ∃ N, Yw (Xk L n) N (.to (.h0 (i : Int) acc)) = .ret R
 | 0, i, acc, h, ha => by
  have e : acc = (rnE R6.c R6.f n L) := by rw [ha, List.take_of_length_le (by omega)]
  subst e
  have hle := Xr R6.c R6.f n L
  obtain ⟨N, hN⟩ := hR
  refine ⟨N + 1, ?_⟩
  rw [Zv]
  simp (disch := omega) only [Xk, Vr, Kx, z6c, Zt, Yu, Yk, decide_true, cond_true, cond_false]
  exact hN
 | k + 1, i, acc, h, ha => by
  have hle := Xr R6.c R6.f n (L.take i)
  have hacc : acc.length ≤ 4 * i := by rw [ha, hle]; simp; omega
  obtain ⟨N, hN⟩ := v1f hl hn hR k (i + 1) (acc ++ rnE R6.c R6.f n [rd L i]) (by omega) (by
   rw [ha, List.take_add_one]
   have : L[i]? = some (rd L i) := by rw [Xd (show i < L.length by omega)]; exact List.getElem?_eq_getElem _
   rw [this, z5o]; rfl)
  refine ⟨N + 1, ?_⟩
  rw [Zv]
  simp (disch := omega) only [Xk, w7d hn, Zb, Zq, Zo, Zs, Yz, Yu, Yk, Ze, Zk, Zx, Ya, Zj, Nat.zero_add, decide_true, Bool.and_true, Bool.true_and, cond_true, cond_false]
  exact hN
def w6a (L : List R6) (n : Int) (x x' : Int) : List R4 := (Qd (crS R6.c R6.f L x x') x x' n)
theorem v1d {L : List R6} {n : Int} (hl : L.length ≤ 400) (i : Nat) (hi : i ≤ 2000) (x x' : Int) (q : List R4) (first : Int) (inn : List R6) (hq : q.length ≤ 2000) : ∀ (k j : Nat) (out : List R6), j + k = q.length → out.length ≤ 10000000 + j →
  ∃ N, ∀ M, Yw (Xk L n) (M + N) (.to (.h3 q (q.length : Int) (j : Int) (i : Int) x x' inn out first (rnC R6.c R6.f n L).length (Xx (Yh (rnE R6.c R6.f n L))))) = Yw (Xk L n) M (.to (.h1 ((i + 1 : Nat) : Int) (out ++ (q.drop j).map (D6.put x x')) q first x' (rnC R6.c R6.f n L).length (Xx (Yh (rnE R6.c R6.f n L)))))
 | 0, j, out, h, ho => by
  refine ⟨1, fun M => ?_⟩
  rw [List.drop_eq_nil_of_le (by omega), Zv]
  simp (disch := omega) only [Xk, Zt, Zk, Zx, cond_false, List.map_nil, List.append_nil]
 | k + 1, j, out, h, ho => by
  obtain ⟨N, hN⟩ := v1d hl i hi x x' q first inn hq k (j + 1) (out ++ [D6.put x x' (rd q j)]) (by omega) (by simp; omega)
  refine ⟨N + 1, fun M => ?_⟩
  have := hN M
  rw [Ye (show j < q.length by omega), List.map_cons, ← Nat.add_assoc, Zv]
  simp (disch := omega) only [Xk, Zb, Zq, Zo, Zs, Yz, Yu, Yk, Ze, Zk, Zx, Ya, Zj, Nat.zero_add, decide_true, Bool.and_true, Bool.true_and, cond_true, cond_false]
  rw [List.append_assoc] at this
  exact this
theorem v1c {L : List R6} {n : Int} (hl : L.length ≤ 400) (i : Nat) (hi : i ≤ 2000) (x x' fin : Int) (last : List R4) (first : Int) (inn : List R6) : ∀ (k j : Nat) (out : List R6), j + k = out.length → out.length ≤ 10000000 →
  ∃ N, ∀ M, Yw (Xk L n) (M + N) (.to (.h4 (j : Int) (i : Int) x x' inn out last first fin (rnC R6.c R6.f n L).length (Xx (Yh (rnE R6.c R6.f n L))))) = Yw (Xk L n) M (.to (.h1 ((i + 1 : Nat) : Int) (D6.grow out j x') last first x' (rnC R6.c R6.f n L).length (Xx (Yh (rnE R6.c R6.f n L)))))
 | 0, j, out, h, ho => by
  refine ⟨1, fun M => ?_⟩
  rw [D6.grow_nil _ _ _ (by omega), Zv]
  simp (disch := omega) only [Xk, Zt, Zk, Zx, cond_false]
 | k + 1, j, out, h, ho => by
  obtain ⟨N, hN⟩ := v1c hl i hi x x' fin last first inn k (j + 1) (out.set j (D6.ext x' (rd out j))) (by simp; omega) (by simpa using ho)
  refine ⟨N + 1, fun M => ?_⟩
  have := hN M
  rw [D6.grow_set out j _ (by omega)] at this
  rw [← Nat.add_assoc, Zv]
  simp (disch := omega) only [Xk, Zb, Zq, Zo, Zs, Yz, Yu, Yk, Ze, Zk, Zx, Ya, Zj, Nat.zero_add, decide_true, Bool.and_true, Bool.true_and, cond_true, cond_false]
  exact this
theorem w0w {L : List R6} {n : Int} (hl : L.length ≤ 400) (hn : n ≠ 0) : ∀ (k i : Nat) (s : Sw R6 R4), k = (rnC R6.c R6.f n L).length - 1 - i → i ≤ (rnC R6.c R6.f n L).length → s.out.length ≤ i * 2000 → s.last.length ≤ 2000 → s.first ≤ s.out.length → ∃ N, Yw (Xk L n) N (.to (.h1 ((i + 1 : Nat) : Int) s.out s.last (s.first : Int) s.fin (rnC R6.c R6.f n L).length (Xx (Yh (rnE R6.c R6.f n L))))) = .ret (bif okX (w6a L n) (rnC R6.c R6.f n L) k i then z1d (D6.goX (w6a L n) (rnC R6.c R6.f n L) k i s).out else [.nils, .int .i64 4])
 | 0, i, s, h, hi, ho, hla, hf => by
  have hc := Vx R6.c R6.f n L
  refine ⟨1, ?_⟩
  rw [Zv]
  rw [show okX (w6a L n) (rnC R6.c R6.f n L) 0 i = true from rfl, cond_true, show D6.goX (w6a L n) (rnC R6.c R6.f n L) 0 i s = s from rfl]
  unfold z1d
  by_cases q : (s.out.length : Int) > 400
  ·simp (disch := omega) only [Xk, Zt, Yn, cond_true, cond_false, Zg]
  ·simp (disch := omega) only [Xk, Zt, Xy, cond_true, cond_false, Zg]
 | k + 1, i, s, h, hi, ho, hla, hf => by
  have hc := Vx R6.c R6.f n L
  have hi1 : i + 1 < (rnC R6.c R6.f n L).length := by omega
  have hpl : (Xx (Yh (rnE R6.c R6.f n L))).length = 4 * L.length := by rw [Wc, Wv, Xr]
  have r0 : rd (Xx (Yh (rnE R6.c R6.f n L))) i = rd (rnC R6.c R6.f n L) i := Ui _ _ (by show i < (rnC R6.c R6.f n L).length; omega)
  have r1 : rd (Xx (Yh (rnE R6.c R6.f n L))) (i + 1) = rd (rnC R6.c R6.f n L) (i + 1) := Ui _ _ (by show i + 1 < (rnC R6.c R6.f n L).length; omega)
  have e1 : IntKind.wrap .i64 (((i + 1 : Nat) : Int) - 1) = (i : Int) := by rw [Zc]; exact Zk (by omega)
  have hbig : i * 2000 ≤ 1600 * 2000 := Nat.mul_le_mul_right _ (by omega)
  obtain ⟨N2, h2⟩ := v1e (n := n) hl hi1 s.out s.last (s.first : Int) s.fin L.length 0 [] (Nat.zero_add _) (Nat.le_refl _)
  rw [List.drop_zero, List.nil_append, z0u] at h2
  have hin := Kv R6.c R6.f L (rd (rnC R6.c R6.f n L) i) (rd (rnC R6.c R6.f n L) (i + 1))
  have w1 : Qt (crS R6.c R6.f L (rd (rnC R6.c R6.f n L) i) (rd (rnC R6.c R6.f n L) (i + 1))) (rd (rnC R6.c R6.f n L) i) (rd (rnC R6.c R6.f n L) (i + 1)) n = true := by
   unfold Qt
   rw [Yz (by omega), decide_eq_false hn]; rfl
  have st0 : ∀ M, Yw (Xk L n) (M + N2 + 1) (.to (.h1 ((i + 1 : Nat) : Int) s.out s.last (s.first : Int) s.fin (rnC R6.c R6.f n L).length (Xx (Yh (rnE R6.c R6.f n L))))) = Yw (Xk L n) M (.to (.h2 ((i + 1 : Nat) : Int) (crS R6.c R6.f L (rd (rnC R6.c R6.f n L) i) (rd (rnC R6.c R6.f n L) (i + 1))) (L.length : Int) s.out s.last (s.first : Int) s.fin (rnC R6.c R6.f n L).length (Xx (Yh (rnE R6.c R6.f n L))))) := fun M => by
   rw [← h2 M, Zv]
   simp (disch := omega) only [Xk, Zo, cond_true]
  have hq : (w6a L n) (rd (rnC R6.c R6.f n L) i) (rd (rnC R6.c R6.f n L) (i + 1)) = (Qd (crS R6.c R6.f L (rd (rnC R6.c R6.f n L) i) (rd (rnC R6.c R6.f n L) (i + 1))) (rd (rnC R6.c R6.f n L) i) (rd (rnC R6.c R6.f n L) (i + 1)) n) := rfl
  rcases Ym (decide (((Qd (crS R6.c R6.f L (rd (rnC R6.c R6.f n L) i) (rd (rnC R6.c R6.f n L) (i + 1))) (rd (rnC R6.c R6.f n L) i) (rd (rnC R6.c R6.f n L) (i + 1)) n).length : Int) > 400)) with q0 | q0
  ·refine ⟨1 + N2 + 1, ?_⟩
   rw [st0 1, Zv]
   unfold okX
   rw [hq, q0, cond_true, cond_false]
   simp (disch := omega) only [Xk, Zt, e1, r0, r1, w1, q0, Zb, Zq, Zo, Zs, Yz, Yu, Yk, Ze, Zk, Zx, Ya, Zj, Nat.zero_add, decide_true, Bool.and_true, Bool.true_and, cond_true, cond_false, Zg]
  have hsl : (Qd (crS R6.c R6.f L (rd (rnC R6.c R6.f n L) i) (rd (rnC R6.c R6.f n L) (i + 1))) (rd (rnC R6.c R6.f n L) i) (rd (rnC R6.c R6.f n L) (i + 1)) n).length ≤ 2000 := by have := of_decide_eq_false q0; omega
  have w2 : Wu s.last (Qd (crS R6.c R6.f L (rd (rnC R6.c R6.f n L) i) (rd (rnC R6.c R6.f n L) (i + 1))) (rd (rnC R6.c R6.f n L) i) (rd (rnC R6.c R6.f n L) (i + 1)) n) = true := decide_eq_true (by omega)
  have ol := D6.oneS_length (Qd (crS R6.c R6.f L (rd (rnC R6.c R6.f n L) i) (rd (rnC R6.c R6.f n L) (i + 1))) (rd (rnC R6.c R6.f n L) i) (rd (rnC R6.c R6.f n L) (i + 1)) n) (rd (rnC R6.c R6.f n L) i) (rd (rnC R6.c R6.f n L) (i + 1)) s
  rcases Ym (decide (0 < (Qd (crS R6.c R6.f L (rd (rnC R6.c R6.f n L) i) (rd (rnC R6.c R6.f n L) (i + 1))) (rd (rnC R6.c R6.f n L) i) (rd (rnC R6.c R6.f n L) (i + 1)) n).length) && ((s.fin == (rd (rnC R6.c R6.f n L) i)) && D6.same s.last (Qd (crS R6.c R6.f L (rd (rnC R6.c R6.f n L) i) (rd (rnC R6.c R6.f n L) (i + 1))) (rd (rnC R6.c R6.f n L) i) (rd (rnC R6.c R6.f n L) (i + 1)) n))) with q | q
  ·obtain ⟨N4, h4⟩ := v1c (n := n) hl (i + 1) (by omega) (rd (rnC R6.c R6.f n L) i) (rd (rnC R6.c R6.f n L) (i + 1)) s.fin s.last (s.first : Int) (crS R6.c R6.f L (rd (rnC R6.c R6.f n L) i) (rd (rnC R6.c R6.f n L) (i + 1))) (s.out.length - s.first) s.first s.out (by omega) (by omega)
   have e : D6.oneS (Qd (crS R6.c R6.f L (rd (rnC R6.c R6.f n L) i) (rd (rnC R6.c R6.f n L) (i + 1))) (rd (rnC R6.c R6.f n L) i) (rd (rnC R6.c R6.f n L) (i + 1)) n) (rd (rnC R6.c R6.f n L) i) (rd (rnC R6.c R6.f n L) (i + 1)) s = ⟨D6.grow s.out s.first (rd (rnC R6.c R6.f n L) (i + 1)), s.last, s.first, (rd (rnC R6.c R6.f n L) (i + 1))⟩ := by unfold Dim.oneS; rw [q]; rfl
   obtain ⟨N0, h0⟩ := w0w hl hn k (i + 1) (D6.oneS (Qd (crS R6.c R6.f L (rd (rnC R6.c R6.f n L) i) (rd (rnC R6.c R6.f n L) (i + 1))) (rd (rnC R6.c R6.f n L) i) (rd (rnC R6.c R6.f n L) (i + 1)) n) (rd (rnC R6.c R6.f n L) i) (rd (rnC R6.c R6.f n L) (i + 1)) s) (by omega) (by omega) (by omega) (by rw [e]; exact hla) (by rw [e]; simpa [Dim.grow_length] using hf)
   refine ⟨N0 + N4 + 1 + N2 + 1, ?_⟩
   rw [st0 (N0 + N4 + 1), Zv]
   simp only [Bool.and_eq_true, decide_eq_true_eq] at q
   obtain ⟨q1, q2, q3⟩ := q
   have q3' : Uv s.last (Qd (crS R6.c R6.f L (rd (rnC R6.c R6.f n L) i) (rd (rnC R6.c R6.f n L) (i + 1))) (rd (rnC R6.c R6.f n L) i) (rd (rnC R6.c R6.f n L) (i + 1)) n) = true := q3
   simp (disch := omega) only [Xk, Zt, Yn, e1, r0, r1, q0, q2, q3', w1, w2, Zb, Zq, Zo, Zs, Yz, Yu, Yk, Ze, Zk, Zx, Ya, Zj, Nat.zero_add, decide_true, Bool.and_true, Bool.true_and, cond_true, cond_false]
   rw [h4 N0]
   unfold okX; rw [hq, q0, cond_false]; unfold Dim.goX
   rw [hq]
   rw [e] at h0 ⊢
   exact h0
  ·obtain ⟨N3, h3⟩ := v1d (n := n) hl (i + 1) (by omega) (rd (rnC R6.c R6.f n L) i) (rd (rnC R6.c R6.f n L) (i + 1)) (Qd (crS R6.c R6.f L (rd (rnC R6.c R6.f n L) i) (rd (rnC R6.c R6.f n L) (i + 1))) (rd (rnC R6.c R6.f n L) i) (rd (rnC R6.c R6.f n L) (i + 1)) n) (s.out.length : Int) (crS R6.c R6.f L (rd (rnC R6.c R6.f n L) i) (rd (rnC R6.c R6.f n L) (i + 1))) hsl (Qd (crS R6.c R6.f L (rd (rnC R6.c R6.f n L) i) (rd (rnC R6.c R6.f n L) (i + 1))) (rd (rnC R6.c R6.f n L) i) (rd (rnC R6.c R6.f n L) (i + 1)) n).length 0 s.out (Nat.zero_add _) (by omega)
   simp only [List.drop_zero, z0u] at h3
   have e : D6.oneS (Qd (crS R6.c R6.f L (rd (rnC R6.c R6.f n L) i) (rd (rnC R6.c R6.f n L) (i + 1))) (rd (rnC R6.c R6.f n L) i) (rd (rnC R6.c R6.f n L) (i + 1)) n) (rd (rnC R6.c R6.f n L) i) (rd (rnC R6.c R6.f n L) (i + 1)) s = ⟨s.out ++ (Qd (crS R6.c R6.f L (rd (rnC R6.c R6.f n L) i) (rd (rnC R6.c R6.f n L) (i + 1))) (rd (rnC R6.c R6.f n L) i) (rd (rnC R6.c R6.f n L) (i + 1)) n).map (D6.put (rd (rnC R6.c R6.f n L) i) (rd (rnC R6.c R6.f n L) (i + 1))), (Qd (crS R6.c R6.f L (rd (rnC R6.c R6.f n L) i) (rd (rnC R6.c R6.f n L) (i + 1))) (rd (rnC R6.c R6.f n L) i) (rd (rnC R6.c R6.f n L) (i + 1)) n), s.out.length, (rd (rnC R6.c R6.f n L) (i + 1))⟩ := by unfold Dim.oneS; rw [q]; rfl
   obtain ⟨N0, h0⟩ := w0w hl hn k (i + 1) (D6.oneS (Qd (crS R6.c R6.f L (rd (rnC R6.c R6.f n L) i) (rd (rnC R6.c R6.f n L) (i + 1))) (rd (rnC R6.c R6.f n L) i) (rd (rnC R6.c R6.f n L) (i + 1)) n) (rd (rnC R6.c R6.f n L) i) (rd (rnC R6.c R6.f n L) (i + 1)) s) (by omega) (by omega) (by omega) (by rw [e]; exact hsl) (by rw [e]; simp)
   have hg : Xk L n (.h2 ((i + 1 : Nat) : Int) (crS R6.c R6.f L (rd (rnC R6.c R6.f n L) i) (rd (rnC R6.c R6.f n L) (i + 1))) (L.length : Int) s.out s.last (s.first : Int) s.fin (rnC R6.c R6.f n L).length (Xx (Yh (rnE R6.c R6.f n L)))) = .to (.h3 (Qd (crS R6.c R6.f L (rd (rnC R6.c R6.f n L) i) (rd (rnC R6.c R6.f n L) (i + 1))) (rd (rnC R6.c R6.f n L) i) (rd (rnC R6.c R6.f n L) (i + 1)) n) ((Qd (crS R6.c R6.f L (rd (rnC R6.c R6.f n L) i) (rd (rnC R6.c R6.f n L) (i + 1))) (rd (rnC R6.c R6.f n L) i) (rd (rnC R6.c R6.f n L) (i + 1)) n).length : Int) 0 ((i + 1 : Nat) : Int) (rd (rnC R6.c R6.f n L) i) (rd (rnC R6.c R6.f n L) (i + 1)) (crS R6.c R6.f L (rd (rnC R6.c R6.f n L) i) (rd (rnC R6.c R6.f n L) (i + 1))) s.out (s.out.length : Int) (rnC R6.c R6.f n L).length (Xx (Yh (rnE R6.c R6.f n L)))) := by
    have e3 : D6.same s.last (Qd (crS R6.c R6.f L (rd (rnC R6.c R6.f n L) i) (rd (rnC R6.c R6.f n L) (i + 1))) (rd (rnC R6.c R6.f n L) i) (rd (rnC R6.c R6.f n L) (i + 1)) n) = Uv s.last (Qd (crS R6.c R6.f L (rd (rnC R6.c R6.f n L) i) (rd (rnC R6.c R6.f n L) (i + 1))) (rd (rnC R6.c R6.f n L) i) (rd (rnC R6.c R6.f n L) (i + 1)) n) := rfl
    rw [e3] at q
    by_cases q1 : 0 < (Qd (crS R6.c R6.f L (rd (rnC R6.c R6.f n L) i) (rd (rnC R6.c R6.f n L) (i + 1))) (rd (rnC R6.c R6.f n L) i) (rd (rnC R6.c R6.f n L) (i + 1)) n).length
    ·rw [decide_eq_true q1, Bool.true_and] at q
     rcases Ym (s.fin == (rd (rnC R6.c R6.f n L) i)) with q2 | q2
     ·rw [q2, Bool.true_and] at q
      simp (disch := omega) only [Xk, Zt, Yn, e1, r0, r1, q0, q2, q, w1, w2, Zb, Zq, Zo, Zs, Yz, Yu, Yk, Ze, Zk, Zx, Ya, Zj, Nat.zero_add, decide_true, Bool.and_true, Bool.true_and, cond_true, cond_false]
     ·simp (disch := omega) only [Xk, Zt, Yn, e1, r0, r1, q0, q2, w1, w2, Zb, Zq, Zo, Zs, Yz, Yu, Yk, Ze, Zk, Zx, Ya, Zj, Nat.zero_add, decide_true, Bool.and_true, Bool.true_and, cond_true, cond_false]
    ·simp (disch := omega) only [Xk, Zt, Xy, e1, r0, r1, q0, w1, w2, Zb, Zq, Zo, Zs, Yz, Yu, Yk, Ze, Zk, Zx, Ya, Zj, Nat.zero_add, decide_true, Bool.and_true, Bool.true_and, cond_true, cond_false]
   refine ⟨N0 + N3 + 1 + N2 + 1, ?_⟩
   rw [st0 (N0 + N3 + 1), Zv, hg, h3 N0]
   unfold okX; rw [hq, q0, cond_false]; unfold Dim.goX
   rw [hq]
   rw [e] at h0 ⊢
   exact h0
def innO (L : List R6) (n : Int) : List R6 := (D6.goX (w6a L n) (rnC R6.c R6.f n L) ((rnC R6.c R6.f n L).length - 1) 0 ⟨[], [], 0, 0⟩).out
def z2w (L : List R6) (n : Int) : Int := bif Yq L != 0 then Yq L else bif decide (n < 1) || decide (n > 1000) then 2 else bif okX (w6a L n) (rnC R6.c R6.f n L) ((rnC R6.c R6.f n L).length - 1) 0 then w2z (innO L n).length else 4
def z1u (L : List R6) (n : Int) : List R6 := v1k (z2w L n) (innO L n)
def z9w (L : List R6) (n : Int) : Bool := true
theorem v4u (L : List R6) (n : Int) : ∃ N, Yw (Xk L n) N (z8j L n) = .ret (x6s (z2w L n) (innO L n)) := by
 have hk : (Yq L != 0) = !(Yq L == 0) := rfl
 unfold z8j z2w
 simp only [Zb, z7v, cond_true, hk]
 rcases Ym (Yq L == 0) with a | a
 ·rcases Ym (decide (n < 1)) with b | b
  ·refine ⟨0, ?_⟩
   rw [a, b]; rfl
  ·rcases Ym (decide (n > 1000)) with c | c
   ·refine ⟨0, ?_⟩
    rw [a, b, c]; rfl
   ·have hb := of_decide_eq_false b
    have hl := (Vk (eq_of_beq a)).1
    obtain ⟨N, hN⟩ := v1f (L := L) (n := n) hl (by omega) (w0w hl (by omega) ((rnC R6.c R6.f n L).length - 1) 0 ⟨[], [], 0, 0⟩ (by omega) (Nat.zero_le _) (Nat.zero_le _) (Nat.zero_le _) (Nat.le_refl _)) L.length 0 [] (Nat.zero_add _) rfl
    refine ⟨N, ?_⟩
    rw [a, b, c]
    simp only [Bool.not_true, Bool.not_false, Bool.true_and, Bool.or_false, cond_true, cond_false]
    rw [z0u] at hN
    rw [hN]
    rcases Ym (okX (w6a L n) (rnC R6.c R6.f n L) ((rnC R6.c R6.f n L).length - 1) 0) with q | q
    ·rw [q, cond_true, cond_true, y0p]; rfl
    ·rw [q]; rfl
 ·refine ⟨0, ?_⟩
  rw [a]
  simp only [Bool.not_false, cond_true]
  rw [x2c _ (show (Yq L != 0) = true by rw [hk, a]; rfl)]; rfl
def fInn : List AVal → Option (AVal × Bool)
 | [a0, .int .i64 x1] => match asL R6 a0 with
  | some (L0, g0, n0) => some (.tup [.dat (z1u L0 x1).length (Zz (z1u L0 x1)), .int .i64 (z2w L0 x1)], isT R6 n0 g0 && z9w L0 x1)
  | _ => none
 | _ => none
theorem v6a {S : Specs} (hS : Zu Tryz.prog S) : Zu Tryz.prog (S.with w0j fInn) := by
 refine v5l hS (by kernel_rfl) fun args v h => ?_
 unfold fInn at h
 split at h
 ·rename_i a0 x1
  split at h
  ·rename_i L0 g0 n0 e0
   simp only [Option.some.injEq, Prod.mk.injEq, Bool.and_eq_true] at h
   obtain ⟨rfl, ho0, hw⟩ := h
   obtain ⟨N, hN⟩ := v4u L0 x1
   exact ⟨_, _, (.cons (asL_le e0 ho0) (.cons (.refl _) .nil)), y3d _ _, w5z L0 x1 N _ hN, 3, y8y _ _⟩
  ·cases h
 ·cases h
def Dh : Specs := (Dg.with w0j fInn)
theorem z1g : Zu Tryz.prog Dh := (v6a Kd)
end Go.Am
namespace Go.Am
open Go.Proofs
inductive al39S where
def v7j : al39S → Cfg
 := nofun
def y4k : al39S → Xc al39S
 := nofun
def z5i : Xc al39S := (bif (z9g (cvT ([(R6.mk 1 1 1 3 3 3)] : List R6)) 2) then (bif (z9w (cvT ([(R6.mk 1 1 1 3 3 3)] : List R6)) 2) then (bif (Ub (cvT ([(R6.mk 1 1 1 3 3 3)] : List R6)) (cvT (Xw (cvT ([(R6.mk 1 1 1 3 3 3)] : List R6)) 2))) then (bif (Jm (cvT ([(R6.mk 0 0 0 5 1 1)] : List R6)) (cvT ([(R6.mk 0 0 0 1 1 1)] : List R6))) then (bif (Jm (cvT ([(R6.mk 0 0 0 1 1 1)] : List R6)) (cvT ([(R6.mk 0 0 0 5 1 1)] : List R6))) then (bif ((z4l (cvT ([(R6.mk 1 1 1 3 3 3)] : List R6)) 2) == 0) then (bif (Wa (cvT (Xw (cvT ([(R6.mk 1 1 1 3 3 3)] : List R6)) 2)) (cvT ([(R6.mk 0 0 0 4 4 4)] : List R6))) then (bif (Uw (cvT (Xw (cvT ([(R6.mk 1 1 1 3 3 3)] : List R6)) 2)) (cvT ([(R6.mk 0 0 0 4 4 4)] : List R6))) then (bif ((z2w (cvT ([(R6.mk 1 1 1 3 3 3)] : List R6)) 2) == 0) then (bif ((((z1u (cvT ([(R6.mk 1 1 1 3 3 3)] : List R6)) 2).length : Nat) : Int) == 0) then (bif ((Qk (cvT ([(R6.mk 1 1 1 3 3 3)] : List R6)) (cvT (Xw (cvT ([(R6.mk 1 1 1 3 3 3)] : List R6)) 2))) == 0) then (bif ((Uc (cvT ([(R6.mk 1 1 1 3 3 3)] : List R6)) (cvT (Xw (cvT ([(R6.mk 1 1 1 3 3 3)] : List R6)) 2))) == 1) then (bif ((Kg (cvT ([(R6.mk 0 0 0 5 1 1)] : List R6)) (cvT ([(R6.mk 0 0 0 1 1 1)] : List R6))) == 0) then (bif ((Ua (cvT ([(R6.mk 0 0 0 5 1 1)] : List R6)) (cvT ([(R6.mk 0 0 0 1 1 1)] : List R6))) == 4) then (bif ((Kg (cvT ([(R6.mk 0 0 0 1 1 1)] : List R6)) (cvT ([(R6.mk 0 0 0 5 1 1)] : List R6))) == 0) then (.ret [(.bool ((Ua (cvT ([(R6.mk 0 0 0 1 1 1)] : List R6)) (cvT ([(R6.mk 0 0 0 5 1 1)] : List R6))) == 0))]) else (.ret [(.bool false)])) else (.ret [(.bool false)])) else (.ret [(.bool false)])) else (.ret [(.bool false)])) else (.ret [(.bool false)])) else (.ret [(.bool false)])) else (.ret [(.bool false)])) else (.ret [(.bool false)])) else .stuck) else (.ret [(.bool false)])) else .stuck) else .stuck) else .stuck) else .stuck) else .stuck)
theorem x1g : ∀ s, Wy Tryz.prog (Zy Tryz.prog 41) (v7j) (v7j s) (y4k s)
 := nofun
theorem y6y : Wy Tryz.prog (Zy Tryz.prog 41) (v7j) (Zh Tryz.prog 41 [] true []) (z5i) := (Wm (sl z1g (C' := ⟨⟨87, 0, true⟩, (Vj Tryz.prog 41 [1, 1, 0] 1), (Za Tryz.prog 41 [1, 1, 0] 1), none, (Zy Tryz.prog 13), ⟨Yp [(1, (.dat ([(R6.mk 1 1 1 3 3 3)] : List R6).length (Zz ([(R6.mk 1 1 1 3 3 3)] : List R6)))), (15, (.dat ([(R6.mk 1 1 1 3 3 3)] : List R6).length (Zz ([(R6.mk 1 1 1 3 3 3)] : List R6))))], Ve [] 0, 0, [], true⟩, [], .leaf⟩) 31 [] ⟨[], [1], [some [1, 15]], []⟩ ⟨[(1, .frz 1 ([(R6.mk 1 1 1 3 3 3)] : List R6).length (Vf [(ii 1), (ii 1), (ii 1), (ii 3), (ii 3), (ii 3)] 0 6) (Zz ([(R6.mk 1 1 1 3 3 3)] : List R6))), (15, .frz 1 ([(R6.mk 1 1 1 3 3 3)] : List R6).length (Vf [(ii 1), (ii 1), (ii 1), (ii 3), (ii 3), (ii 3)] 0 6) (Zz ([(R6.mk 1 1 1 3 3 3)] : List R6)))], [], []⟩ [] (pp (xZ (.dat 1 (Vf [(ii 1), (ii 1), (ii 1), (ii 3), (ii 3), (ii 3)] 0 6)) 1 (Vf [(ii 1), (ii 1), (ii 1), (ii 3), (ii 3), (ii 3)] 0 6)) (pp (xL 1 ([(R6.mk 1 1 1 3 3 3)] : List R6).length) (pp (xS 1 (Vf [(ii 1), (ii 1), (ii 1), (ii 3), (ii 3), (ii 3)] 0 6) (Zz ([(R6.mk 1 1 1 3 3 3)] : List R6))) (pp (xZ (.dat 1 (Vf [(ii 1), (ii 1), (ii 1), (ii 3), (ii 3), (ii 3)] 0 6)) 1 (Vf [(ii 1), (ii 1), (ii 1), (ii 3), (ii 3), (ii 3)] 0 6)) (pp (xL 1 ([(R6.mk 1 1 1 3 3 3)] : List R6).length) (pp (xS 1 (Vf [(ii 1), (ii 1), (ii 1), (ii 3), (ii 3), (ii 3)] 0 6) (Zz ([(R6.mk 1 1 1 3 3 3)] : List R6))) nn))))))) (lo fun q0_0 => (lo fun q0_1 => (lo fun q0_2 => (Wm (sl z1g (C' := ⟨⟨87, 0, true⟩, (Vj Tryz.prog 41 [1, 1, 1, 1, 1, 0] 4), (Za Tryz.prog 41 [1, 1, 1, 1, 1, 0] 1), none, (Zy Tryz.prog 13), ⟨Yp [(2, (.dat (Xw (cvT ([(R6.mk 1 1 1 3 3 3)] : List R6)) 2).length (Zz (Xw (cvT ([(R6.mk 1 1 1 3 3 3)] : List R6)) 2)))), (3, (ii (z4l (cvT ([(R6.mk 1 1 1 3 3 3)] : List R6)) 2))), (4, (.dat (z1u (cvT ([(R6.mk 1 1 1 3 3 3)] : List R6)) 2).length (Zz (z1u (cvT ([(R6.mk 1 1 1 3 3 3)] : List R6)) 2)))), (5, (ii (z2w (cvT ([(R6.mk 1 1 1 3 3 3)] : List R6)) 2))), (6, (ii (Uc (cvT ([(R6.mk 1 1 1 3 3 3)] : List R6)) (cvT (Xw (cvT ([(R6.mk 1 1 1 3 3 3)] : List R6)) 2))))), (7, (ii (Qk (cvT ([(R6.mk 1 1 1 3 3 3)] : List R6)) (cvT (Xw (cvT ([(R6.mk 1 1 1 3 3 3)] : List R6)) 2))))), (32, (.dat ([(R6.mk 0 0 0 5 1 1)] : List R6).length (Zz ([(R6.mk 0 0 0 5 1 1)] : List R6)))), (34, (.dat ([(R6.mk 0 0 0 1 1 1)] : List R6).length (Zz ([(R6.mk 0 0 0 1 1 1)] : List R6))))], Ve [] 0, 0, [], true⟩, [], .leaf⟩) 70 [] ⟨[], [1, 3], [some [2, 3, 4, 5, 6, 7, 32, 34]], []⟩ ⟨[(32, .frz 1 ([(R6.mk 0 0 0 5 1 1)] : List R6).length (Vf [(ii 0), (ii 0), (ii 0), (ii 5), (ii 1), (ii 1)] 0 6) (Zz ([(R6.mk 0 0 0 5 1 1)] : List R6))), (34, .frz 1 ([(R6.mk 0 0 0 1 1 1)] : List R6).length (Vf [(ii 0), (ii 0), (ii 0), (ii 1), (ii 1), (ii 1)] 0 6) (Zz ([(R6.mk 0 0 0 1 1 1)] : List R6)))], [], []⟩ [] (pp (xZ (.dat 1 (Vf [(ii 0), (ii 0), (ii 0), (ii 5), (ii 1), (ii 1)] 0 6)) 1 (Vf [(ii 0), (ii 0), (ii 0), (ii 5), (ii 1), (ii 1)] 0 6)) (pp (xL 1 ([(R6.mk 0 0 0 5 1 1)] : List R6).length) (pp (xS 1 (Vf [(ii 0), (ii 0), (ii 0), (ii 5), (ii 1), (ii 1)] 0 6) (Zz ([(R6.mk 0 0 0 5 1 1)] : List R6))) (pp (xZ (.dat 1 (Vf [(ii 0), (ii 0), (ii 0), (ii 1), (ii 1), (ii 1)] 0 6)) 1 (Vf [(ii 0), (ii 0), (ii 0), (ii 1), (ii 1), (ii 1)] 0 6)) (pp (xL 1 ([(R6.mk 0 0 0 1 1 1)] : List R6).length) (pp (xS 1 (Vf [(ii 0), (ii 0), (ii 0), (ii 1), (ii 1), (ii 1)] 0 6) (Zz ([(R6.mk 0 0 0 1 1 1)] : List R6))) (pp (pp (xI R6 ([(R6.mk 1 1 1 3 3 3)] : List R6).length (Zz ([(R6.mk 1 1 1 3 3 3)] : List R6))) (pp (xI R6 (Xw (cvT ([(R6.mk 1 1 1 3 3 3)] : List R6)) 2).length (Zz (Xw (cvT ([(R6.mk 1 1 1 3 3 3)] : List R6)) 2))) (xw q0_2))) (pp (pp (xI R6 ([(R6.mk 1 1 1 3 3 3)] : List R6).length (Zz ([(R6.mk 1 1 1 3 3 3)] : List R6))) (xw q0_1)) (pp (pp (xI R6 ([(R6.mk 1 1 1 3 3 3)] : List R6).length (Zz ([(R6.mk 1 1 1 3 3 3)] : List R6))) (xw q0_0)) nn)))))))))) (lo fun q0_0 => (Wm (sl z1g (C' := ⟨⟨87, 0, true⟩, (Vj Tryz.prog 41 [1, 1, 1, 1, 1, 1, 0] 4), (Za Tryz.prog 41 [1, 1, 1, 1, 1, 1, 0] 1), none, (Zy Tryz.prog 13), ⟨Yp [(2, (.dat (Xw (cvT ([(R6.mk 1 1 1 3 3 3)] : List R6)) 2).length (Zz (Xw (cvT ([(R6.mk 1 1 1 3 3 3)] : List R6)) 2)))), (3, (ii (z4l (cvT ([(R6.mk 1 1 1 3 3 3)] : List R6)) 2))), (4, (.dat (z1u (cvT ([(R6.mk 1 1 1 3 3 3)] : List R6)) 2).length (Zz (z1u (cvT ([(R6.mk 1 1 1 3 3 3)] : List R6)) 2)))), (5, (ii (z2w (cvT ([(R6.mk 1 1 1 3 3 3)] : List R6)) 2))), (6, (ii (Uc (cvT ([(R6.mk 1 1 1 3 3 3)] : List R6)) (cvT (Xw (cvT ([(R6.mk 1 1 1 3 3 3)] : List R6)) 2))))), (7, (ii (Qk (cvT ([(R6.mk 1 1 1 3 3 3)] : List R6)) (cvT (Xw (cvT ([(R6.mk 1 1 1 3 3 3)] : List R6)) 2))))), (8, (ii (Ua (cvT ([(R6.mk 0 0 0 5 1 1)] : List R6)) (cvT ([(R6.mk 0 0 0 1 1 1)] : List R6))))), (9, (ii (Kg (cvT ([(R6.mk 0 0 0 5 1 1)] : List R6)) (cvT ([(R6.mk 0 0 0 1 1 1)] : List R6))))), (40, (.dat ([(R6.mk 0 0 0 1 1 1)] : List R6).length (Zz ([(R6.mk 0 0 0 1 1 1)] : List R6)))), (42, (.dat ([(R6.mk 0 0 0 5 1 1)] : List R6).length (Zz ([(R6.mk 0 0 0 5 1 1)] : List R6))))], Ve [] 0, 0, [], true⟩, [], .leaf⟩) 49 [] ⟨[], [1, 3], [some [2, 3, 4, 5, 6, 7, 8, 9, 40, 42]], []⟩ ⟨[(40, .frz 1 ([(R6.mk 0 0 0 1 1 1)] : List R6).length (Vf [(ii 0), (ii 0), (ii 0), (ii 1), (ii 1), (ii 1)] 0 6) (Zz ([(R6.mk 0 0 0 1 1 1)] : List R6))), (42, .frz 1 ([(R6.mk 0 0 0 5 1 1)] : List R6).length (Vf [(ii 0), (ii 0), (ii 0), (ii 5), (ii 1), (ii 1)] 0 6) (Zz ([(R6.mk 0 0 0 5 1 1)] : List R6)))], [], []⟩ [] (pp (xZ (.dat 1 (Vf [(ii 0), (ii 0), (ii 0), (ii 1), (ii 1), (ii 1)] 0 6)) 1 (Vf [(ii 0), (ii 0), (ii 0), (ii 1), (ii 1), (ii 1)] 0 6)) (pp (xL 1 ([(R6.mk 0 0 0 1 1 1)] : List R6).length) (pp (xS 1 (Vf [(ii 0), (ii 0), (ii 0), (ii 1), (ii 1), (ii 1)] 0 6) (Zz ([(R6.mk 0 0 0 1 1 1)] : List R6))) (pp (xZ (.dat 1 (Vf [(ii 0), (ii 0), (ii 0), (ii 5), (ii 1), (ii 1)] 0 6)) 1 (Vf [(ii 0), (ii 0), (ii 0), (ii 5), (ii 1), (ii 1)] 0 6)) (pp (xL 1 ([(R6.mk 0 0 0 5 1 1)] : List R6).length) (pp (xS 1 (Vf [(ii 0), (ii 0), (ii 0), (ii 5), (ii 1), (ii 1)] 0 6) (Zz ([(R6.mk 0 0 0 5 1 1)] : List R6))) (pp (pp (xI R6 ([(R6.mk 0 0 0 5 1 1)] : List R6).length (Zz ([(R6.mk 0 0 0 5 1 1)] : List R6))) (pp (xI R6 ([(R6.mk 0 0 0 1 1 1)] : List R6).length (Zz ([(R6.mk 0 0 0 1 1 1)] : List R6))) (xw q0_0))) nn)))))))) (lo fun o0_0 => (lb (fun k0 => (Wm (sl z1g (C' := ⟨⟨87, 0, true⟩, (Vj Tryz.prog 41 [1, 1, 1, 1, 1, 1, 1, 0] 6), (Za Tryz.prog 41 [1, 1, 1, 1, 1, 1, 1, 0] 1), none, (Zy Tryz.prog 13), ⟨Yp [(4, (.dat (z1u (cvT ([(R6.mk 1 1 1 3 3 3)] : List R6)) 2).length (Zz (z1u (cvT ([(R6.mk 1 1 1 3 3 3)] : List R6)) 2)))), (5, (ii (z2w (cvT ([(R6.mk 1 1 1 3 3 3)] : List R6)) 2))), (6, (ii (Uc (cvT ([(R6.mk 1 1 1 3 3 3)] : List R6)) (cvT (Xw (cvT ([(R6.mk 1 1 1 3 3 3)] : List R6)) 2))))), (7, (ii (Qk (cvT ([(R6.mk 1 1 1 3 3 3)] : List R6)) (cvT (Xw (cvT ([(R6.mk 1 1 1 3 3 3)] : List R6)) 2))))), (8, (ii (Ua (cvT ([(R6.mk 0 0 0 5 1 1)] : List R6)) (cvT ([(R6.mk 0 0 0 1 1 1)] : List R6))))), (9, (ii (Kg (cvT ([(R6.mk 0 0 0 5 1 1)] : List R6)) (cvT ([(R6.mk 0 0 0 1 1 1)] : List R6))))), (10, (ii (Ua (cvT ([(R6.mk 0 0 0 1 1 1)] : List R6)) (cvT ([(R6.mk 0 0 0 5 1 1)] : List R6))))), (11, (ii (Kg (cvT ([(R6.mk 0 0 0 1 1 1)] : List R6)) (cvT ([(R6.mk 0 0 0 5 1 1)] : List R6))))), (48, (.bool true)), (49, (.dat (Xw (cvT ([(R6.mk 1 1 1 3 3 3)] : List R6)) 2).length (Zz (Xw (cvT ([(R6.mk 1 1 1 3 3 3)] : List R6)) 2)))), (51, (.dat ([(R6.mk 0 0 0 4 4 4)] : List R6).length (Zz ([(R6.mk 0 0 0 4 4 4)] : List R6))))], Ve [] 0, 0, [], true⟩, [], .leaf⟩) 33 [] ⟨[], [1], [some [4, 5, 6, 7, 8, 9, 10, 11, 48, 49, 51]], []⟩ ⟨[(51, .frz 1 ([(R6.mk 0 0 0 4 4 4)] : List R6).length (Vf [(ii 0), (ii 0), (ii 0), (ii 4), (ii 4), (ii 4)] 0 6) (Zz ([(R6.mk 0 0 0 4 4 4)] : List R6)))], [], []⟩ (trs 3 []) (pp (xZ (.dat 1 (Vf [(ii 0), (ii 0), (ii 0), (ii 4), (ii 4), (ii 4)] 0 6)) 1 (Vf [(ii 0), (ii 0), (ii 0), (ii 4), (ii 4), (ii 4)] 0 6)) (pp (xL 1 ([(R6.mk 0 0 0 4 4 4)] : List R6).length) (pp (xS 1 (Vf [(ii 0), (ii 0), (ii 0), (ii 4), (ii 4), (ii 4)] 0 6) (Zz ([(R6.mk 0 0 0 4 4 4)] : List R6))) (tt k0 (pp (pp (xI R6 ([(R6.mk 0 0 0 1 1 1)] : List R6).length (Zz ([(R6.mk 0 0 0 1 1 1)] : List R6))) (pp (xI R6 ([(R6.mk 0 0 0 5 1 1)] : List R6).length (Zz ([(R6.mk 0 0 0 5 1 1)] : List R6))) (xw o0_0))) nn)))))) (lo fun o1_0 => (lb (fun k1 => (lb (fun k2 => (lb (fun k3 => (lb (fun k4 => (lb (fun k5 => (lb (fun k6 => (lb (fun k7 => (lb (fun k8 => (lr 87 3 [1, 1, 1, 1, 1, 1, 0] 1 13 [(0, (.bool ((Ua (cvT ([(R6.mk 0 0 0 1 1 1)] : List R6)) (cvT ([(R6.mk 0 0 0 5 1 1)] : List R6))) == 0)))] (sl z1g 37 [] ⟨[], [], [some [0]], []⟩ ⟨[], [], []⟩ (trs 18 []) (tt k8 (tt k7 (tt k6 (tt k5 (tt k4 (tt k3 (tt k2 (tt k1 (pp (pp (xI R6 (Xw (cvT ([(R6.mk 1 1 1 3 3 3)] : List R6)) 2).length (Zz (Xw (cvT ([(R6.mk 1 1 1 3 3 3)] : List R6)) 2))) (pp (xI R6 ([(R6.mk 0 0 0 4 4 4)] : List R6).length (Zz ([(R6.mk 0 0 0 4 4 4)] : List R6))) (xw o1_0))) nn)))))))))))) (fun k8 => (lr 87 3 [1, 1, 1, 1, 1, 1, 0] 1 13 [(0, (.bool false))] (sl z1g 37 [] ⟨[], [], [some [0]], []⟩ ⟨[], [], []⟩ (trs 16 [false, false]) (tt k8 (tt k7 (tt k6 (tt k5 (tt k4 (tt k3 (tt k2 (tt k1 (pp (pp (xI R6 (Xw (cvT ([(R6.mk 1 1 1 3 3 3)] : List R6)) 2).length (Zz (Xw (cvT ([(R6.mk 1 1 1 3 3 3)] : List R6)) 2))) (pp (xI R6 ([(R6.mk 0 0 0 4 4 4)] : List R6).length (Zz ([(R6.mk 0 0 0 4 4 4)] : List R6))) (xw o1_0))) nn)))))))))))))) (fun k7 => (lr 87 3 [1, 1, 1, 1, 1, 1, 0] 1 13 [(0, (.bool false))] (sl z1g 37 [] ⟨[], [], [some [0]], []⟩ ⟨[], [], []⟩ (trs 14 [false, false, false, false]) (tt k7 (tt k6 (tt k5 (tt k4 (tt k3 (tt k2 (tt k1 (pp (pp (xI R6 (Xw (cvT ([(R6.mk 1 1 1 3 3 3)] : List R6)) 2).length (Zz (Xw (cvT ([(R6.mk 1 1 1 3 3 3)] : List R6)) 2))) (pp (xI R6 ([(R6.mk 0 0 0 4 4 4)] : List R6).length (Zz ([(R6.mk 0 0 0 4 4 4)] : List R6))) (xw o1_0))) nn))))))))))))) (fun k6 => (lr 87 3 [1, 1, 1, 1, 1, 1, 0] 1 13 [(0, (.bool false))] (sl z1g 37 [] ⟨[], [], [some [0]], []⟩ ⟨[], [], []⟩ (trs 12 [false, false, false, false, false, false]) (tt k6 (tt k5 (tt k4 (tt k3 (tt k2 (tt k1 (pp (pp (xI R6 (Xw (cvT ([(R6.mk 1 1 1 3 3 3)] : List R6)) 2).length (Zz (Xw (cvT ([(R6.mk 1 1 1 3 3 3)] : List R6)) 2))) (pp (xI R6 ([(R6.mk 0 0 0 4 4 4)] : List R6).length (Zz ([(R6.mk 0 0 0 4 4 4)] : List R6))) (xw o1_0))) nn)))))))))))) (fun k5 => (lr 87 3 [1, 1, 1, 1, 1, 1, 0] 1 13 [(0, (.bool false))] (sl z1g 37 [] ⟨[], [], [some [0]], []⟩ ⟨[], [], []⟩ (trs 10 [false, false, false, false, false, false, false, false]) (tt k5 (tt k4 (tt k3 (tt k2 (tt k1 (pp (pp (xI R6 (Xw (cvT ([(R6.mk 1 1 1 3 3 3)] : List R6)) 2).length (Zz (Xw (cvT ([(R6.mk 1 1 1 3 3 3)] : List R6)) 2))) (pp (xI R6 ([(R6.mk 0 0 0 4 4 4)] : List R6).length (Zz ([(R6.mk 0 0 0 4 4 4)] : List R6))) (xw o1_0))) nn))))))))))) (fun k4 => (lr 87 3 [1, 1, 1, 1, 1, 1, 0] 1 13 [(0, (.bool false))] (sl z1g 37 [] ⟨[], [], [some [0]], []⟩ ⟨[], [], []⟩ (trs 8 [false, false, false, false, false, false, false, false, false, false]) (tt k4 (tt k3 (tt k2 (tt k1 (pp (pp (xI R6 (Xw (cvT ([(R6.mk 1 1 1 3 3 3)] : List R6)) 2).length (Zz (Xw (cvT ([(R6.mk 1 1 1 3 3 3)] : List R6)) 2))) (pp (xI R6 ([(R6.mk 0 0 0 4 4 4)] : List R6).length (Zz ([(R6.mk 0 0 0 4 4 4)] : List R6))) (xw o1_0))) nn)))))))))) (fun k3 => (lr 87 3 [1, 1, 1, 1, 1, 1, 0] 1 13 [(0, (.bool false))] (sl z1g 37 [] ⟨[], [], [some [0]], []⟩ ⟨[], [], []⟩ (trs 6 [false, false, false, false, false, false, false, false, false, false, false, false]) (tt k3 (tt k2 (tt k1 (pp (pp (xI R6 (Xw (cvT ([(R6.mk 1 1 1 3 3 3)] : List R6)) 2).length (Zz (Xw (cvT ([(R6.mk 1 1 1 3 3 3)] : List R6)) 2))) (pp (xI R6 ([(R6.mk 0 0 0 4 4 4)] : List R6).length (Zz ([(R6.mk 0 0 0 4 4 4)] : List R6))) (xw o1_0))) nn))))))))) (fun k2 => (lr 87 3 [1, 1, 1, 1, 1, 1, 0] 1 13 [(0, (.bool false))] (sl z1g 37 [] ⟨[], [], [some [0]], []⟩ ⟨[], [], []⟩ (trs 3 [false, false, false, false, false, false, false, false, false, false, false, false, false, false, false]) (tt k2 (tt k1 (pp (pp (xI R6 (Xw (cvT ([(R6.mk 1 1 1 3 3 3)] : List R6)) 2).length (Zz (Xw (cvT ([(R6.mk 1 1 1 3 3 3)] : List R6)) 2))) (pp (xI R6 ([(R6.mk 0 0 0 4 4 4)] : List R6).length (Zz ([(R6.mk 0 0 0 4 4 4)] : List R6))) (xw o1_0))) nn)))))))) (fun k1 => (lr 87 3 [1, 1, 1, 1, 1, 1, 0] 1 13 [(0, (.bool false))] (sl z1g 37 [] ⟨[], [], [some [0]], []⟩ ⟨[], [], []⟩ [true, false, false, false, false, false, false, false, false, false, false, false, false, false, false, false, false, false] (tt k1 (pp (pp (xI R6 (Xw (cvT ([(R6.mk 1 1 1 3 3 3)] : List R6)) 2).length (Zz (Xw (cvT ([(R6.mk 1 1 1 3 3 3)] : List R6)) 2))) (pp (xI R6 ([(R6.mk 0 0 0 4 4 4)] : List R6).length (Zz ([(R6.mk 0 0 0 4 4 4)] : List R6))) (xw o1_0))) nn))))))))) (fun k0 => (lr 87 3 [1, 1, 1, 1, 1, 1, 0] 1 13 [(0, (.bool false))] (sl z1g 52 [] ⟨[], [], [some [0]], []⟩ ⟨[], [], []⟩ [false, false, false, false, false, false, false, false, false, false, false, false, false, false, false, false, false, false, false, false, false] (tt k0 (pp (pp (xI R6 ([(R6.mk 0 0 0 1 1 1)] : List R6).length (Zz ([(R6.mk 0 0 0 1 1 1)] : List R6))) (pp (xI R6 ([(R6.mk 0 0 0 5 1 1)] : List R6).length (Zz ([(R6.mk 0 0 0 5 1 1)] : List R6))) (xw o0_0))) nn))))))))))))))
theorem w2i (n : Nat) (vs : List AVal) (h : Yw (y4k) n (z5i) = .ret vs) : Jd Tryz.prog (Zy Tryz.prog 41) (Zh Tryz.prog 41 [] true []) vs := by
 have := Zn (x1g) n _ (y6y)
 rwa [h] at this
inductive fitS where
def fitC (l0 : List R6) : fitS → Cfg
 := nofun
def x0i (l0 : List R6) : fitS → Xc fitS
 := nofun
def z8n (l0 : List R6) : Xc fitS := (bif (decide ((l0.length : Int) ≤ 6)) then (bif (z2i (cvT l0)) then (bif (x4x (cvT l0)) then (bif (Us (cvT l0)) then (.ret [(.bool ((Xn (cvT l0)) == 0))]) else .stuck) else (.ret [(.bool false)])) else .stuck) else (.ret [(.bool false)]))
theorem x5u (l0 : List R6) : ∀ s, Wy Tryz.prog (Zy Tryz.prog 42) (fitC l0) (fitC l0 s) (x0i l0 s)
 := nofun
theorem x0j (l0 : List R6) : Wy Tryz.prog (Zy Tryz.prog 42) (fitC l0) (Zh Tryz.prog 42 [(.dat l0.length (Zz l0))] true []) (z8n l0) := (lb (fun k0 => (lo fun o1_0 => (lb (fun k1 => (lo fun o0 => (lr 15 3 [1, 1, 1, 1, 1, 1, 0] 1 15 [(2, (.bool ((Xn (cvT l0)) == 0)))] (sl z1g 20 [] ⟨[], [], [some [2]], []⟩ ⟨[], [], []⟩ (trs 5 []) (pp (pp (xr l0) (xw o0)) (tt k1 (pp (pp (xr l0) (xw o1_0)) (tt k0 nn)))))))) (fun k1 => (lr 15 3 [1, 1, 1, 1, 1, 1, 0] 1 15 [(2, (.bool false))] (sl z1g 20 [] ⟨[], [], [some [2]], []⟩ ⟨[], [], []⟩ [true, true, false, false, false] (tt k1 (pp (pp (xr l0) (xw o1_0)) (tt k0 nn))))))))) (fun k0 => (lr 15 3 [1, 1, 1, 1, 1, 1, 0] 1 15 [(2, (.bool false))] (sl z1g 20 [] ⟨[], [], [some [2]], []⟩ ⟨[], [], []⟩ [false, false, false, false, false] (tt k0 nn)))))
theorem w6o (l0 : List R6) (n : Nat) (vs : List AVal) (h : Yw (x0i l0) n (z8n l0) = .ret vs) : Jd Tryz.prog (Zy Tryz.prog 42) (Zh Tryz.prog 42 [(.dat l0.length (Zz l0))] true []) vs := by
 have := Zn (x5u l0) n _ (x0j l0)
 rwa [h] at this
end Go.Am
namespace Go.Am
open Go.Proofs Go.Sort Go.Shelf Go.RowKit Go.Lib
def w3m : Sem R2 Int where
 can := Can
 inB s y := s.a ≤ y ∧ y < s.b
 uniq := w2a
 some s hs hn := by
  cases s with
  | nil => exact absurd rfl hn
  | cons r l => exact ⟨r.a, r, by simp, Int.le_refl _, hs.pos r (by simp)⟩
 nil := .nil
def x7q : Sem R4 (Int × Int) := Dim.sem x1s w3m
def sem3 : Sem R6 (Int × Int × Int) := Dim.sem x1r x7q
namespace Dim
variable {α β : Type} {D : Dim α β}
theorem inn_slab (l m : List α) (hl : ∀ r ∈ m, r ∈ l) {j : Nat} (hj : j + 1 < (D.cuts l).length) {x : Int} (h1 : rd (D.cuts l) j ≤ x) (h2 : x < rd (D.cuts l) (j + 1)) : D.inn m (rd (D.cuts l) j) = D.inn m x := by
 have hc : (D.cuts l).Pairwise (· < ·) := by
  show (Jg (D.ends l)).Pairwise (· < ·)
  rw [Qb]; exact (Vp _).1
 have hmem : ∀ r ∈ m, D.lo r ∈ D.cuts l ∧ D.hi r ∈ D.cuts l := fun r hr => by
  show D.lo r ∈ Jg (D.ends l) ∧ D.hi r ∈ Jg (D.ends l)
  rw [Qb, (Vp _).2, (Vp _).2]
  exact ⟨List.mem_flatMap.2 ⟨r, hl r hr, by simp⟩, List.mem_flatMap.2 ⟨r, hl r hr, by simp⟩⟩
 have side : ∀ c, c ∈ D.cuts l → (c ≤ rd (D.cuts l) j ↔ c ≤ x) := fun c hcm => by
  obtain ⟨i, hi, rfl⟩ := List.getElem_of_mem hcm
  rw [← Xd hi]
  rcases Nat.lt_or_ge j i with h | h
  ·have : rd (D.cuts l) (j + 1) ≤ rd (D.cuts l) i := by
    rcases Nat.eq_or_lt_of_le (show j + 1 ≤ i from h) with e | e
    ·rw [e]; exact Int.le_refl _
    ·exact Int.le_of_lt (y3n hc e hi)
   have := y3n hc (Nat.lt_succ_self j) hj
   constructor <;> intro <;> omega
  ·have : rd (D.cuts l) i ≤ rd (D.cuts l) j := by
    rcases Nat.eq_or_lt_of_le h with e | e
    ·rw [e]; exact Int.le_refl _
    ·exact Int.le_of_lt (y3n hc e (by omega))
   constructor <;> intro <;> omega
 unfold inn
 congr 1
 refine List.filter_congr fun r hr => ?_
 obtain ⟨m1, m2⟩ := hmem r hr
 have s1 := side _ m1
 have s2 := side _ m2
 have e1 : decide (D.lo r ≤ rd (D.cuts l) j) = decide (D.lo r ≤ x) := decide_eq_decide.2 s1
 have e2 : decide (rd (D.cuts l) j < D.hi r) = decide (x < D.hi r) := decide_eq_decide.2 (by constructor <;> intro <;> omega)
 rw [e1, e2]
theorem inn_out (l m : List α) (hl : ∀ r ∈ m, r ∈ l) {x : Int} (h : ∀ j, j + 1 < (D.cuts l).length → ¬ (rd (D.cuts l) j ≤ x ∧ x < rd (D.cuts l) (j + 1))) : D.inn m x = [] := by
 unfold inn
 rw [List.map_eq_nil_iff, List.filter_eq_nil_iff]
 intro r hr hb
 simp only [Bool.and_eq_true, decide_eq_true_eq] at hb
 have hmem : D.lo r ∈ D.cuts l ∧ D.hi r ∈ D.cuts l := by
  show D.lo r ∈ Jg (D.ends l) ∧ D.hi r ∈ Jg (D.ends l)
  rw [Qb, (Vp _).2, (Vp _).2]
  exact ⟨List.mem_flatMap.2 ⟨r, hl r hr, by simp⟩, List.mem_flatMap.2 ⟨r, hl r hr, by simp⟩⟩
 have hc : (D.cuts l).Pairwise (· < ·) := by
  show (Jg (D.ends l)).Pairwise (· < ·)
  rw [Qb]; exact (Vp _).1
 obtain ⟨i, hi, e1⟩ := List.getElem_of_mem hmem.1
 obtain ⟨k, hk, e2⟩ := List.getElem_of_mem hmem.2
 rw [← Xd hi] at e1
 rw [← Xd hk] at e2
 have h0 : rd (D.cuts l) 0 ≤ rd (D.cuts l) i := by
  rcases Nat.eq_or_lt_of_le (Nat.zero_le i) with e | e
  ·rw [← e]; exact Int.le_refl _
  ·exact Int.le_of_lt (y3n hc e hi)
 obtain ⟨j, j1, j2, j3⟩ := x1b k hk x (by omega) (by omega)
 exact h j (by omega) ⟨j2, j3⟩
theorem goJ_can (hD : D.Fair) (hs : ∀ a b, D.same a b = true ↔ a = b) {γ : Type} (M : Sem β γ) (a b : List α) (J : List β → List β → List β) (hJ : ∀ x, M.can (J (D.inn a x) (D.inn b x))) (h0 : J [] [] = []) :
  (D.sem hD M).can (D.goS (fun x => J (D.inn a x) (D.inn b x)) (D.cuts (a ++ b)) ((D.cuts (a ++ b)).length - 1) 0 ⟨[], [], 0, 0⟩).out ∧
  ∀ x q, ptL (D.sem hD M).inB (D.goS (fun x => J (D.inn a x) (D.inn b x)) (D.cuts (a ++ b)) ((D.cuts (a ++ b)).length - 1) 0 ⟨[], [], 0, 0⟩).out (x, q) ↔ ptL M.inB (J (D.inn a x) (D.inn b x)) q := by
 have hc : (D.cuts (a ++ b)).Pairwise (· < ·) := by
  show (Jg (D.ends (a ++ b))).Pairwise (· < ·)
  rw [Qb]; exact (Vp _).1
 obtain ⟨h1, h2⟩ := goS_can hD hs M (cs := D.cuts (a ++ b)) hc hJ
 refine ⟨h1, fun x q => ?_⟩
 rw [h2]
 constructor
 ·rintro ⟨j, j1, j2, j3, j4⟩
  rwa [inn_slab (a ++ b) a (fun r hr => List.mem_append.2 (.inl hr)) j1 j2 j3, inn_slab (a ++ b) b (fun r hr => List.mem_append.2 (.inr hr)) j1 j2 j3] at j4
 ·intro hp
  by_cases hx : ∃ j, j + 1 < (D.cuts (a ++ b)).length ∧ rd (D.cuts (a ++ b)) j ≤ x ∧ x < rd (D.cuts (a ++ b)) (j + 1)
  ·obtain ⟨j, j1, j2, j3⟩ := hx
   refine ⟨j, j1, j2, j3, ?_⟩
   rwa [inn_slab (a ++ b) a (fun r hr => List.mem_append.2 (.inl hr)) j1 j2 j3, inn_slab (a ++ b) b (fun r hr => List.mem_append.2 (.inr hr)) j1 j2 j3]
  ·have hx' : ∀ j, j + 1 < (D.cuts (a ++ b)).length → ¬ (rd (D.cuts (a ++ b)) j ≤ x ∧ x < rd (D.cuts (a ++ b)) (j + 1)) := fun j j1 j2 => hx ⟨j, j1, j2⟩
   rw [inn_out (a ++ b) a (fun r hr => List.mem_append.2 (.inl hr)) hx', inn_out (a ++ b) b (fun r hr => List.mem_append.2 (.inr hr)) hx', h0] at hp
   exact absurd hp (y3j _ _)
theorem pt_inn {γ : Type} (inB : β → γ → Prop) (l : List α) (x : Int) (q : γ) : ptL inB (D.inn l x) q ↔ ptL (D.inA inB) l (x, q) := by
 constructor
 ·rintro ⟨b, hb, h⟩
  obtain ⟨r, hr, rfl⟩ := List.mem_map.1 hb
  obtain ⟨h1, h2⟩ := List.mem_filter.1 hr
  simp only [Bool.and_eq_true, decide_eq_true_eq] at h2
  exact ⟨r, h1, h2.1, h2.2, h⟩
 ·rintro ⟨r, hr, h1, h2, h3⟩
  refine ⟨D.pr r, List.mem_map.2 ⟨r, List.mem_filter.2 ⟨hr, ?_⟩, rfl⟩, h3⟩
  simp only [Bool.and_eq_true, decide_eq_true_eq]
  exact ⟨h1, h2⟩
theorem out_goJ (l : List α) : D.out l = (D.goS (fun x => D.mak (D.inn l x)) (D.cuts (l ++ [])) ((D.cuts (l ++ [])).length - 1) 0 ⟨[], [], 0, 0⟩).out := by
 rw [List.append_nil]
 unfold out
 rw [go_goS]
 rfl
end Dim
theorem x7z (a b : List R4) : D6.same a b = true ↔ a = b := decide_eq_true_iff
theorem x8a (a b : List R2) : D4.same a b = true ↔ a = b := decide_eq_true_iff
theorem w5y {l : List R4} (h : ∀ r ∈ l, z3d r = true) (x : Int) : (D4.inn l x).all z7d = true := List.all_eq_true.2 fun s hs => by
 obtain ⟨r, hr, _, _, rfl⟩ := y3u hs
 have := h r hr
 simp only [z3d, z7d, Bool.and_eq_true, decide_eq_true_eq] at this ⊢
 omega
theorem x7i {l : List R2} (hv : l.all z7d = true) (hl : l.length ≤ 400) : w3m.can (Xp l) ∧ ∀ y, ptL w3m.inB (Xp l) y ↔ ptL w3m.inB l y := by
 obtain ⟨c1, c2⟩ := y7w l hv
 have e : Xp l = swV l := by unfold Xp; rw [decide_eq_false (by omega), hv]; rfl
 rw [e]
 exact ⟨c1, c2⟩
theorem x4z {β γ : Type} (M : Sem β γ) {l : List β} (h : M.can l) (hp : ∀ q, ¬ ptL M.inB l q) : l = [] := Classical.byContradiction fun hn => by
 obtain ⟨q, hq⟩ := M.some l h hn
 exact hp q hq
theorem v2n : Xp [] = [] := by
 obtain ⟨h1, h2⟩ := x7i (l := []) rfl (Nat.zero_le _)
 exact x4z w3m h1 fun q hq => y3j _ _ ((h2 q).1 hq)
theorem x8u {l : List R4} (hv : ∀ r ∈ l, z3d r = true) (hl : l.length ≤ 400) : x7q.can (D4.out l) ∧ ∀ p, ptL x7q.inB (D4.out l) p ↔ ptL x7q.inB l p := by
 rw [Dim.out_goJ]
 have hs : ∀ x, w3m.can (D4.mak (D4.inn l x)) ∧ ∀ y, ptL w3m.inB (D4.mak (D4.inn l x)) y ↔ ptL w3m.inB (D4.inn l x) y := fun x => x7i (w5y hv x) (Nat.le_trans (D4.inn_length l x) hl)
 obtain ⟨h1, h2⟩ := Dim.goJ_can x1s x8a w3m l [] (fun s _ => D4.mak s) (fun x => (hs x).1) v2n
 refine ⟨h1, fun ⟨x, y⟩ => ?_⟩
 rw [show ptL x7q.inB _ (x, y) ↔ _ from h2 x y, (hs x).2, Dim.pt_inn]
 rfl
theorem w4k {l : List R4} (hv : ∀ r ∈ l, z3d r = true) (hl : l.length ≤ 400) (h : (D4.out l).length ≤ 400) : Yj l = D4.out l ∧ We l = 0 := by
 have hv' : l.all z3d = true := List.all_eq_true.2 hv
 unfold Yj We
 rw [decide_eq_false (by omega), hv', decide_eq_false (by omega)]
 exact ⟨rfl, rfl⟩
end Go.Am
namespace Go.Am
open Go.Proofs Go.Sort Go.Shelf Go.RowKit Go.Lib
def ind (a b t : Int) : Int := if a ≤ t ∧ t < b then 1 else 0
def Pts (p : List Int) : Prop := (∀ a b, -1000005 ≤ a ∧ b ≤ 1000005 → sm p (ind a b) = max 0 (b - a)) ∧ p.length = 2000010
def inR (r : R6) (x y z : Int) : Int := ind r.a r.d x * ind r.b r.e y * ind r.c r.f z
end Go.Am
namespace Go.Am
open Go.Proofs Go.Sort Go.Shelf Go.RowKit Go.Lib
theorem sm_pos {α : Type} {l : List α} {f : α → Int} (h : sm l f ≠ 0) : ∃ x ∈ l, f x ≠ 0 := Classical.byContradiction fun hn => h (by
 have : sm l f = sm l fun _ => 0 := w3f fun x hx => Classical.byContradiction fun e => hn ⟨x, hx, e⟩
 rw [this, v2o])
theorem y9h {p : List Int} (hp : Pts p) {t : Int} (h : -1000005 ≤ t ∧ t < 1000005) : t ∈ p := by
 have h1 := hp.1 t (t + 1) (by omega)
 have h2 : sm p (ind t (t + 1)) ≠ 0 := by rw [h1]; omega
 obtain ⟨x, hx, hn⟩ := sm_pos h2
 unfold ind at hn
 split at hn
 ·have : x = t := by omega
  rwa [← this]
 ·exact absurd rfl hn
def inS (X : List R6) (x y z : Int) : Prop := ∃ r ∈ X, (r.a ≤ x ∧ x < r.d) ∧ (r.b ≤ y ∧ y < r.e) ∧ (r.c ≤ z ∧ z < r.f)
theorem y3v (X : List R6) (x y z : Int) : inS X x y z ↔ ptL sem3.inB X (z, x, y) := by
 constructor
 ·rintro ⟨r, hr, h1, h2, h3⟩
  exact ⟨r, hr, h3.1, h3.2, h1.1, h1.2, h2.1, h2.2⟩
 ·rintro ⟨r, hr, h1, h2, h3, h4, h5, h6⟩
  exact ⟨r, hr, ⟨h3, h4⟩, ⟨h5, h6⟩, h1, h2⟩
structure Sol (X : List R6) : Prop where
 len : X.length ≤ 400
 val : ∀ r ∈ X, Jb r = true
 ap : X.Pairwise Ap6
theorem Sol.of {X : List R6} (h : Yq X = 0) : Sol X := ⟨(Vk h).1, (Vk h).2.1, (Vk h).2.2.2⟩
theorem Sol.bnd {X : List R6} (h : Sol X) {x y z : Int} (hp : inS X x y z) : (-1000000 ≤ x ∧ x < 1000000) ∧ (-1000000 ≤ y ∧ y < 1000000) ∧ (-1000000 ≤ z ∧ z < 1000000) := by
 obtain ⟨r, hr, h1, h2, h3⟩ := hp
 have := Vq (h.val r hr)
 omega
theorem Sol.pts {p : List Int} (hp : Pts p) {X : List R6} (h : Sol X) {x y z : Int} (hq : inS X x y z) : x ∈ p ∧ y ∈ p ∧ z ∈ p := by
 have := h.bnd hq
 exact ⟨y9h hp (by omega), y9h hp (by omega), y9h hp (by omega)⟩
end Go.Am
namespace Go.Am
open Go.Proofs Go.Sort Go.Shelf Go.RowKit Go.Lib
theorem Dim.goS_cg {α β : Type} (D : Dim α β) (f g : Int → List β) (cs : List Int) : ∀ (k i : Nat) (s : Sw α β), (∀ j, i ≤ j → j < i + k → f (rd cs j) = g (rd cs j)) → D.goS f cs k i s = D.goS g cs k i s
 | 0, i, s, _ => rfl
 | k + 1, i, s, h => by
  show D.goS f cs k (i + 1) (D.oneS (f (rd cs i)) _ _ s) = D.goS g cs k (i + 1) (D.oneS (g (rd cs i)) _ _ s)
  rw [h i (Nat.le_refl _) (by omega)]
  exact goS_cg D f g cs k (i + 1) _ fun j h1 h2 => h j (by omega) (by omega)
theorem y6u {n : Nat} (h : w2z n = 0) : n ≤ 400 := by
 unfold w2z at h
 by_cases q : (n : Int) > 400
 ·rw [decide_eq_true q] at h; cases h
 ·omega
theorem x8v {l : List R4} (h : We l = 0) : l.length ≤ 400 ∧ (∀ r ∈ l, z3d r = true) ∧ Yj l = D4.out l := by
 unfold We at h
 cases g1 : decide (400 < l.length) with
 | true => rw [g1] at h; cases h
 | false =>
  cases g2 : l.all z3d with
  | false => rw [g1, g2] at h; cases h
  | true =>
   rw [g1, g2, cond_false, cond_true] at h
   have hl : l.length ≤ 400 := by have := of_decide_eq_false g1; omega
   refine ⟨hl, List.all_eq_true.1 g2, ?_⟩
   exact (w4k (List.all_eq_true.1 g2) hl (y6u h)).1
theorem x2i {l : List R6} : ∀ (k i : Nat), okF l k i = true → ∀ j, i ≤ j → j < i + k → We (D6.inn l (rd (D6.cuts l) j)) = 0
 | 0, i, h, j, h1, h2 => by omega
 | k + 1, i, h, j, h1, h2 => by
  unfold okF at h
  rcases Ym (w2d l (rd (D6.cuts l) i)) with q | q
  ·rw [q] at h; cases h
  ·rw [q, cond_false] at h
   rcases Nat.eq_or_lt_of_le h1 with e | e
   ·rw [← e]
    unfold w2d at q
    simpa using q
   ·exact x2i k (i + 1) h j e (by omega)
theorem w3g {l : List R6} (h : Ku l = 0) : l.length ≤ 400 ∧ (∀ r ∈ l, Jb r = true) ∧ okF l ((D6.cuts l).length - 1) 0 = true ∧ (D6.out l).length ≤ 400 := by
 unfold Ku at h
 cases g1 : decide (400 < l.length) with
 | true => rw [g1] at h; cases h
 | false =>
  cases g2 : l.all Jb with
  | false => rw [g1, g2] at h; cases h
  | true =>
   rw [g1, g2, cond_false, cond_true] at h
   cases g3 : okF l ((D6.cuts l).length - 1) 0 with
   | false =>
    rw [g3, cond_false] at h
    have := v6v _ _ g3
    rw [h] at this; cases this
   | true =>
    rw [g3, cond_true] at h
    exact ⟨by have := of_decide_eq_false g1; omega, List.all_eq_true.1 g2, rfl, y6u h⟩
theorem x7o {l : List R6} (h : Ku l = 0) : Kt l = D6.out l := by
 unfold Kt v1k; rw [h]; rfl
theorem v2q {l : List R6} (h : Ku l = 0) : sem3.can (Kt l) ∧ ∀ x y z, inS (Kt l) x y z ↔ inS l x y z := by
 obtain ⟨hl, hv, hok, ho⟩ := w3g h
 have hf := x2i _ _ hok
 rw [x7o h]
 have hc : (D6.cuts l).Pairwise (· < ·) := by
  show (Jg (D6.ends l)).Pairwise (· < ·)
  rw [Qb]; exact (Vp _).1
 have eS : D6.out l = (D6.goS (fun x => bif We (D6.inn l x) != 0 then [] else Yj (D6.inn l x)) (D6.cuts l) ((D6.cuts l).length - 1) 0 ⟨[], [], 0, 0⟩).out := by
  unfold Dim.out
  rw [D6.go_goS, D6.goS_cg (D6.sec l) (fun x => bif We (D6.inn l x) != 0 then [] else Yj (D6.inn l x))]
  intro j h1 h2
  show _ = bif We (D6.inn l _) != 0 then _ else _
  rw [hf j h1 h2]; rfl
 have hs : ∀ x, x7q.can (bif We (D6.inn l x) != 0 then [] else Yj (D6.inn l x)) := fun x => by
  cases g : (We (D6.inn l x) != 0) with
  | true => exact x7q.nil
  | false =>
   obtain ⟨m1, m2, m3⟩ := x8v (show We (D6.inn l x) = 0 by simpa using g)
   rw [cond_false, m3]; exact (x8u m2 m1).1
 obtain ⟨h1, h2⟩ := Dim.goS_can x1r x7z x7q (cs := D6.cuts l) hc hs
 rw [eS]
 refine ⟨h1, fun x y z => ?_⟩
 rw [y3v, y3v, show ptL sem3.inB _ (z, x, y) ↔ _ from h2 z (x, y)]
 have ia : ∀ j, j + 1 < (D6.cuts l).length → rd (D6.cuts l) j ≤ z → z < rd (D6.cuts l) (j + 1) → (ptL x7q.inB (bif We (D6.inn l (rd (D6.cuts l) j)) != 0 then [] else Yj (D6.inn l (rd (D6.cuts l) j))) (x, y) ↔ ptL sem3.inB l (z, x, y)) := fun j j1 j2 j3 => by
  have q := hf j (Nat.zero_le _) (by omega)
  obtain ⟨m1, m2, m3⟩ := x8v q
  rw [q, show ((0 : Int) != 0) = false from rfl, cond_false, m3, (x8u m2 m1).2, Dim.inn_slab l l (fun r hr => hr) j1 j2 j3]
  exact Dim.pt_inn (D := D6) x7q.inB l z (x, y)
 constructor
 ·rintro ⟨j, j1, j2, j3, j4⟩
  exact (ia j j1 j2 j3).1 j4
 ·intro hp
  refine Classical.byContradiction fun hn => ?_
  have hx : ∀ j, j + 1 < (D6.cuts l).length → ¬ (rd (D6.cuts l) j ≤ z ∧ z < rd (D6.cuts l) (j + 1)) := fun j j1 j2 => hn ⟨j, j1, j2.1, j2.2, (ia j j1 j2.1 j2.2).2 hp⟩
  have g := (Dim.pt_inn (D := D6) x7q.inB l z (x, y)).2 hp
  rw [Dim.inn_out l l (fun r hr => hr) hx] at g
  exact y3j _ _ g
theorem y2t {L : List R6} (h : Yq L = 0) : Ku L = 0 ∧ Kt L = L := by
 have hs := Vk h
 have key : Ku L = 0 := by
  unfold Yq at h
  unfold Ku
  cases g1 : decide (400 < L.length) with
  | true => rw [g1] at h; cases h
  | false =>
   cases g2 : L.all Jb with
   | false => rw [g1, g2] at h; cases h
   | true =>
    rw [g1, g2, cond_false, cond_true] at h
    cases g3 : okF L ((D6.cuts L).length - 1) 0 with
    | false => rw [g3] at h; cases h
    | true =>
     rw [cond_false, cond_true, cond_true]
     unfold w2z
     rw [← hs.2.2.1, Xy (by have := hs.1; omega)]; rfl
 exact ⟨key, (x7o key).trans hs.2.2.1.symm⟩
theorem x7t {L : List R6} (h : Yq L = 0) : sem3.can L := by
 obtain ⟨h1, h2⟩ := y2t h
 have := (v2q h1).1
 rwa [h2] at this
theorem w3n {L M : List R6} (hL : Yq L = 0) (hM : Yq M = 0) (h : ∀ x y z, inS L x y z ↔ inS M x y z) : L = M :=
 sem3.uniq L M (x7t hL) (x7t hM) fun ⟨z, x, y⟩ => by rw [← y3v, ← y3v]; exact h x y z
end Go.Am
namespace Go.Am
open Go.Proofs Go.Sort Go.Shelf Go.RowKit Go.Lib
theorem x7r {l : List R6} (h : Xn l = 0) : Yq l = 0 := (x3k l).trans h
theorem lA : Yq ([(R6.mk 1 1 1 3 3 3)] : List R6) = 0 := x7r (by kernel_rfl)
theorem lB : Yq ([(R6.mk 0 0 0 4 4 4)] : List R6) = 0 := x7r (by kernel_rfl)
theorem lC : Yq ([(R6.mk 0 0 0 5 1 1)] : List R6) = 0 := x7r (by kernel_rfl)
theorem lE : Yq ([(R6.mk 0 0 0 1 1 1)] : List R6) = 0 := x7r (by kernel_rfl)
theorem aO0 : Xw ([(R6.mk 1 1 1 3 3 3)] : List R6) 2 = [(R6.mk 0 0 0 4 4 4)] := by
 unfold Xw outP
 rw [lA, show ([(R6.mk 1 1 1 3 3 3)] : List R6).map (oB 2) = [(R6.mk 0 0 0 4 4 4)] by kernel_rfl, (y2t lB).2]
 kernel_rfl
theorem aO1 : z4l ([(R6.mk 1 1 1 3 3 3)] : List R6) 2 = 0 := by
 unfold z4l
 rw [lA, show ([(R6.mk 1 1 1 3 3 3)] : List R6).map (oB 2) = [(R6.mk 0 0 0 4 4 4)] by kernel_rfl, (y2t lB).1]
 kernel_rfl
def rnK (lo hi : R6 → Int) (n : Int) (L : List R6) : List Int := z0j (rnE lo hi n L)
theorem x2b (lo hi : R6 → Int) (n : Int) (L : List R6) : rnC lo hi n L = rnK lo hi n L := Qb _
def colK (L : List R6) (a b e f n : Int) : List R2 := v7e L a b e f (rnK R6.b R6.e n L) ((rnK R6.b R6.e n L).length - 1) 0 []
theorem v7d (L : List R6) (a b e f n : Int) : Qe L a b e f n = colK L a b e f n := by unfold Qe colK; rw [x2b]
def layK (L : List R6) (a b n : Int) : List R4 := (D4.goX (fun x x' => colK (crS R6.a R6.d L x x') x x' a b n) (rnK R6.a R6.d n L) ((rnK R6.a R6.d n L).length - 1) 0 ⟨[], [], 0, 0⟩).out
theorem v4p (L : List R6) (a b n : Int) : Qd L a b n = layK L a b n := by
 unfold Qd layK
 rw [x2b, show layQ L a b n = fun x x' => colK (crS R6.a R6.d L x x') x x' a b n from funext fun x => funext fun x' => v7d _ _ _ _ _ _]
theorem w0x (L : List R6) (n : Int) : w6a L n = fun x x' => layK (crS R6.c R6.f L x x') x x' n := funext fun x => funext fun x' => v4p _ _ _ _
theorem aIO : innO ([(R6.mk 1 1 1 3 3 3)] : List R6) 2 = [] := by
 unfold innO
 rw [x2b, w0x]
 kernel_rfl
theorem aI1 : z2w ([(R6.mk 1 1 1 3 3 3)] : List R6) 2 = 0 := by
 unfold z2w
 rw [lA, x2b, w0x, aIO]
 kernel_rfl
theorem aI0 : z1u ([(R6.mk 1 1 1 3 3 3)] : List R6) 2 = [] := by
 unfold z1u
 rw [aI1, aIO]; rfl
theorem aD1 : Qk ([(R6.mk 1 1 1 3 3 3)] : List R6) ([(R6.mk 0 0 0 4 4 4)] : List R6) = 0 := by
 unfold Qk eDi
 rw [lA, lB]; kernel_rfl
theorem aD0 : Uc ([(R6.mk 1 1 1 3 3 3)] : List R6) ([(R6.mk 0 0 0 4 4 4)] : List R6) = 1 := by
 unfold Uc eDi
 rw [lA, lB]; kernel_rfl
theorem aR1 : Kg ([(R6.mk 0 0 0 5 1 1)] : List R6) ([(R6.mk 0 0 0 1 1 1)] : List R6) = 0 := by
 unfold Kg eRe
 rw [lC, lE]; kernel_rfl
theorem aR0 : Ua ([(R6.mk 0 0 0 5 1 1)] : List R6) ([(R6.mk 0 0 0 1 1 1)] : List R6) = 4 := by
 unfold Ua eRe
 rw [lC, lE]; kernel_rfl
theorem aS1 : Kg ([(R6.mk 0 0 0 1 1 1)] : List R6) ([(R6.mk 0 0 0 5 1 1)] : List R6) = 0 := by
 unfold Kg eRe
 rw [lE, lC]; kernel_rfl
theorem aS0 : Ua ([(R6.mk 0 0 0 1 1 1)] : List R6) ([(R6.mk 0 0 0 5 1 1)] : List R6) = 0 := by
 unfold Ua eRe
 rw [lE, lC]; kernel_rfl
theorem w8g : ∃ N, Yw y4k N z5i = .ret [.bool true] := ⟨0, by
 unfold z5i
 simp only [Zb, show ∀ l n, z9g l n = true from fun _ _ => rfl, show ∀ l n, z9w l n = true from fun _ _ => rfl, show ∀ l m, Jm l m = true from fun _ _ => rfl, show ∀ l m, Ub l m = true from fun _ _ => rfl, aO0, aO1, aI0, aI1, aD0, aD1, aR0, aR1, aS0, aS1, cond_true]
 kernel_rfl⟩
def v6n : List AVal → Option (AVal × Bool)
 | [] => some (.bool true, true)
 | _ => none
theorem w6t {S : Specs} (hS : Zu Tryz.prog S) : Zu Tryz.prog (S.with x2r v6n) := by
 refine z1j hS (by kernel_rfl) fun args v h => ?_
 unfold v6n at h
 split at h
 ·simp only [Option.some.injEq, Prod.mk.injEq, and_true] at h
  subst h
  obtain ⟨N, hN⟩ := w8g
  exact ⟨_, _, .nil, rfl, w2i N _ hN, 3, rfl⟩
 ·cases h
def w1j (L : List R6) : Bool := decide ((L.length : Int) ≤ 6) && (x4x L && (Xn L == 0))
def z0d (L : List R6) : Bool := true
theorem v5i (L : List R6) (h : z0d L = true) : ∃ N, Yw (x0i L) N (z8n L) = .ret [.bool (w1j L)] := ⟨0, by
 unfold z8n w1j
 simp only [Zb, show ∀ l, z2i l = true from fun _ => rfl, y3g, cond_true]
 cases decide ((L.length : Int) ≤ 6) <;> cases x4x L <;> rfl⟩
def fFit : List AVal → Option (AVal × Bool)
 | [a0] => match asL R6 a0 with
  | some (L0, g0, n0) => some (.bool (w1j L0), isT R6 n0 g0 && (z0d L0))
  | _ => none
 | _ => none
theorem v6f {S : Specs} (hS : Zu Tryz.prog S) : Zu Tryz.prog (S.with v0q fFit) := by
 refine z1j hS (by kernel_rfl) fun args v h => ?_
 unfold fFit at h
 split at h
 ·rename_i a0
  split at h
  ·rename_i L0 g0 n0 e0
   simp only [Option.some.injEq, Prod.mk.injEq, Bool.and_eq_true] at h
   obtain ⟨rfl, ho0, hw⟩ := h
   obtain ⟨N, hN⟩ := v5i L0 hw
   exact ⟨_, _, (.cons (asL_le e0 ho0) .nil), rfl, w6o L0 N _ hN, 3, rfl⟩
  ·cases h
 ·cases h
def Di : Specs := ((Dh.with x2r v6n).with v0q fFit)
theorem z2u : Zu Tryz.prog Di := (v6f (w6t z1g))
end Go.Am
namespace Go.Am
open Go.Proofs
inductive metS where
def metC (l0 : List R6) (l1 : List R6) (l2 : List R6) : metS → Cfg
 := nofun
def y9m (l0 : List R6) (l1 : List R6) (l2 : List R6) : metS → Xc metS
 := nofun
def z8f (l0 : List R6) (l1 : List R6) (l2 : List R6) : Xc metS := (bif (z0d (cvT l0)) then (bif (!(w1j (cvT l0))) then (.ret [(.bool true)]) else (bif (z0d (cvT l1)) then (bif (!(w1j (cvT l1))) then (.ret [(.bool true)]) else (bif (z0d (cvT l2)) then (bif (!(w1j (cvT l2))) then (.ret [(.bool true)]) else (bif ((l0.length : Int) == 0) then (.ret [(.bool true)]) else (bif ((l1.length : Int) == 0) then (.ret [(.bool true)]) else (bif ((l2.length : Int) == 0) then (.ret [(.bool true)]) else (bif (Ub (cvT l0) (cvT l1)) then (bif (Ub (cvT l1) (cvT l0)) then (bif (Ub (cvT l1) (cvT l2)) then (bif (Ub (cvT l0) (cvT l2)) then (bif (Jm (cvT l0) (cvT l1)) then (bif (Jm (cvT l1) (cvT l0)) then (bif ((Qk (cvT l0) (cvT l1)) != 0) then (.ret [(.bool false)]) else (bif ((Qk (cvT l1) (cvT l0)) != 0) then (.ret [(.bool false)]) else (bif ((Qk (cvT l1) (cvT l2)) != 0) then (.ret [(.bool false)]) else (bif ((Qk (cvT l0) (cvT l2)) != 0) then (.ret [(.bool false)]) else (bif ((Kg (cvT l0) (cvT l1)) != 0) then (.ret [(.bool false)]) else (bif ((Kg (cvT l1) (cvT l0)) != 0) then (.ret [(.bool false)]) else (bif ((Uc (cvT l0) (cvT l1)) == (Uc (cvT l1) (cvT l0))) then (bif (Wa (cvT l0) (cvT l1)) then (bif (((Uc (cvT l0) (cvT l1)) == 0) == (Uw (cvT l0) (cvT l1))) then (bif (decide ((Uc (cvT l0) (cvT l2)) ≤ (IntKind.wrap .i64 ((Uc (cvT l0) (cvT l1)) + (Uc (cvT l1) (cvT l2)))))) then (.ret [(.bool ((Uc (cvT l0) (cvT l1)) == (Wx (Ua (cvT l0) (cvT l1)) (Ua (cvT l1) (cvT l0)))))]) else (.ret [(.bool false)])) else (.ret [(.bool false)])) else .stuck) else (.ret [(.bool false)])))))))) else .stuck) else .stuck) else .stuck) else .stuck) else .stuck) else .stuck))))) else .stuck)) else .stuck)) else .stuck)
theorem x5a (l0 : List R6) (l1 : List R6) (l2 : List R6) : ∀ s, Wy Tryz.prog (Zy Tryz.prog 10) (metC l0 l1 l2) (metC l0 l1 l2 s) (y9m l0 l1 l2 s)
 := nofun
theorem y9n (l0 : List R6) (l1 : List R6) (l2 : List R6) : Wy Tryz.prog (Zy Tryz.prog 10) (metC l0 l1 l2) (Zh Tryz.prog 10 [(.dat l0.length (Zz l0)), (.dat l1.length (Zz l1)), (.dat l2.length (Zz l2))] true []) (z8f l0 l1 l2) := (lo fun o0_0 => (lb (fun k0 => (lr 140 10 [1, 1, 0, 1, 0, 0] 1 4 [(6, (.bool true))] (sl z2u 51 [] ⟨[], [], [some [6]], []⟩ ⟨[], [], []⟩ (trs 18 []) (tt k0 (pp (pp (xr l0) (xw o0_0)) nn))))) (fun k0 => (lo fun o1_0 => (lb (fun k1 => (lr 140 10 [1, 1, 0, 1, 0, 0] 1 4 [(6, (.bool true))] (sl z2u 51 [] ⟨[], [], [some [6]], []⟩ ⟨[], [], []⟩ [false, false, false, true, true, true, true, true, true, true, true, true, true, true, true, true, true, true] (tt k1 (pp (pp (xr l1) (xw o1_0)) (tt k0 (pp (pp (xr l0) (xw o0_0)) nn))))))) (fun k1 => (lo fun o2_0 => (lb (fun k2 => (lr 140 10 [1, 1, 0, 1, 0, 0] 1 4 [(6, (.bool true))] (sl z2u 51 [] ⟨[], [], [some [6]], []⟩ ⟨[], [], []⟩ [false, false, false, false, false, false, true, true, true, true, true, true, true, true, true, true, true, true] (tt k2 (pp (pp (xr l2) (xw o2_0)) (tt k1 (pp (pp (xr l1) (xw o1_0)) (tt k0 (pp (pp (xr l0) (xw o0_0)) nn))))))))) (fun k2 => (lb (fun k3 => (lr 140 10 [1, 1, 0, 1, 0, 0] 1 4 [(6, (.bool true))] (sl z2u 51 [] ⟨[], [], [some [6]], []⟩ ⟨[], [], []⟩ [false, false, false, false, false, false, false, false, false, true, true, true, true, true, true, true, true, true] (tt k3 (tt k2 (pp (pp (xr l2) (xw o2_0)) (tt k1 (pp (pp (xr l1) (xw o1_0)) (tt k0 (pp (pp (xr l0) (xw o0_0)) nn)))))))))) (fun k3 => (lb (fun k4 => (lr 140 10 [1, 1, 0, 1, 0, 0] 1 4 [(6, (.bool true))] (sl z2u 51 [] ⟨[], [], [some [6]], []⟩ ⟨[], [], []⟩ [false, false, false, false, false, false, false, false, false, false, false, false, true, true, true, true, true, true] (tt k4 (tt k3 (tt k2 (pp (pp (xr l2) (xw o2_0)) (tt k1 (pp (pp (xr l1) (xw o1_0)) (tt k0 (pp (pp (xr l0) (xw o0_0)) nn))))))))))) (fun k4 => (lb (fun k5 => (lr 140 10 [1, 1, 0, 1, 0, 0] 1 4 [(6, (.bool true))] (sl z2u 51 [] ⟨[], [], [some [6]], []⟩ ⟨[], [], []⟩ [false, false, false, false, false, false, false, false, false, false, false, false, false, false, false, true, true, true] (tt k5 (tt k4 (tt k3 (tt k2 (pp (pp (xr l2) (xw o2_0)) (tt k1 (pp (pp (xr l1) (xw o1_0)) (tt k0 (pp (pp (xr l0) (xw o0_0)) nn)))))))))))) (fun k5 => (lo fun o6_0 => (lo fun o6_1 => (lo fun o6_2 => (lo fun o6_3 => (lo fun o6_4 => (lo fun o6_5 => (lb (fun k6 => (lr 140 10 [1, 1, 1, 1, 1, 1, 1, 1, 1, 0, 1, 0, 0] 1 4 [(6, (.bool false))] (sl z2u 144 [] ⟨[], [], [some [6]], []⟩ ⟨[], [], []⟩ [false, false, false, false, false, false, false, false, false, false, false, false, false, false, false, false, false, false, true, true, true, true, true, true, true, true, true, true, true] (tt k6 (pp (pp (xr l1) (pp (xr l0) (xw o6_5))) (pp (pp (xr l0) (pp (xr l1) (xw o6_4))) (pp (pp (xr l0) (pp (xr l2) (xw o6_3))) (pp (pp (xr l1) (pp (xr l2) (xw o6_2))) (pp (pp (xr l1) (pp (xr l0) (xw o6_1))) (pp (pp (xr l0) (pp (xr l1) (xw o6_0))) (tt k5 (tt k4 (tt k3 (tt k2 (pp (pp (xr l2) (xw o2_0)) (tt k1 (pp (pp (xr l1) (xw o1_0)) (tt k0 (pp (pp (xr l0) (xw o0_0)) nn))))))))))))))))))) (fun k6 => (lb (fun k7 => (lr 140 10 [1, 1, 1, 1, 1, 1, 1, 1, 1, 0, 1, 0, 0] 1 4 [(6, (.bool false))] (sl z2u 144 [] ⟨[], [], [some [6]], []⟩ ⟨[], [], []⟩ [false, false, false, false, false, false, false, false, false, false, false, false, false, false, false, false, false, false, false, false, true, true, true, true, true, true, true, true, true] (tt k7 (tt k6 (pp (pp (xr l1) (pp (xr l0) (xw o6_5))) (pp (pp (xr l0) (pp (xr l1) (xw o6_4))) (pp (pp (xr l0) (pp (xr l2) (xw o6_3))) (pp (pp (xr l1) (pp (xr l2) (xw o6_2))) (pp (pp (xr l1) (pp (xr l0) (xw o6_1))) (pp (pp (xr l0) (pp (xr l1) (xw o6_0))) (tt k5 (tt k4 (tt k3 (tt k2 (pp (pp (xr l2) (xw o2_0)) (tt k1 (pp (pp (xr l1) (xw o1_0)) (tt k0 (pp (pp (xr l0) (xw o0_0)) nn)))))))))))))))))))) (fun k7 => (lb (fun k8 => (lr 140 10 [1, 1, 1, 1, 1, 1, 1, 1, 1, 0, 1, 0, 0] 1 4 [(6, (.bool false))] (sl z2u 144 [] ⟨[], [], [some [6]], []⟩ ⟨[], [], []⟩ [false, false, false, false, false, false, false, false, false, false, false, false, false, false, false, false, false, false, false, false, false, false, true, true, true, true, true, true, true] (tt k8 (tt k7 (tt k6 (pp (pp (xr l1) (pp (xr l0) (xw o6_5))) (pp (pp (xr l0) (pp (xr l1) (xw o6_4))) (pp (pp (xr l0) (pp (xr l2) (xw o6_3))) (pp (pp (xr l1) (pp (xr l2) (xw o6_2))) (pp (pp (xr l1) (pp (xr l0) (xw o6_1))) (pp (pp (xr l0) (pp (xr l1) (xw o6_0))) (tt k5 (tt k4 (tt k3 (tt k2 (pp (pp (xr l2) (xw o2_0)) (tt k1 (pp (pp (xr l1) (xw o1_0)) (tt k0 (pp (pp (xr l0) (xw o0_0)) nn))))))))))))))))))))) (fun k8 => (lb (fun k9 => (lr 140 10 [1, 1, 1, 1, 1, 1, 1, 1, 1, 0, 1, 0, 0] 1 4 [(6, (.bool false))] (sl z2u 144 [] ⟨[], [], [some [6]], []⟩ ⟨[], [], []⟩ [false, false, false, false, false, false, false, false, false, false, false, false, false, false, false, false, false, false, false, false, false, false, false, false, true, true, true, true, true] (tt k9 (tt k8 (tt k7 (tt k6 (pp (pp (xr l1) (pp (xr l0) (xw o6_5))) (pp (pp (xr l0) (pp (xr l1) (xw o6_4))) (pp (pp (xr l0) (pp (xr l2) (xw o6_3))) (pp (pp (xr l1) (pp (xr l2) (xw o6_2))) (pp (pp (xr l1) (pp (xr l0) (xw o6_1))) (pp (pp (xr l0) (pp (xr l1) (xw o6_0))) (tt k5 (tt k4 (tt k3 (tt k2 (pp (pp (xr l2) (xw o2_0)) (tt k1 (pp (pp (xr l1) (xw o1_0)) (tt k0 (pp (pp (xr l0) (xw o0_0)) nn)))))))))))))))))))))) (fun k9 => (lb (fun k10 => (lr 140 10 [1, 1, 1, 1, 1, 1, 1, 1, 1, 0, 1, 0, 0] 1 4 [(6, (.bool false))] (sl z2u 144 [] ⟨[], [], [some [6]], []⟩ ⟨[], [], []⟩ [false, false, false, false, false, false, false, false, false, false, false, false, false, false, false, false, false, false, false, false, false, false, false, false, false, false, true, true, true] (tt k10 (tt k9 (tt k8 (tt k7 (tt k6 (pp (pp (xr l1) (pp (xr l0) (xw o6_5))) (pp (pp (xr l0) (pp (xr l1) (xw o6_4))) (pp (pp (xr l0) (pp (xr l2) (xw o6_3))) (pp (pp (xr l1) (pp (xr l2) (xw o6_2))) (pp (pp (xr l1) (pp (xr l0) (xw o6_1))) (pp (pp (xr l0) (pp (xr l1) (xw o6_0))) (tt k5 (tt k4 (tt k3 (tt k2 (pp (pp (xr l2) (xw o2_0)) (tt k1 (pp (pp (xr l1) (xw o1_0)) (tt k0 (pp (pp (xr l0) (xw o0_0)) nn))))))))))))))))))))))) (fun k10 => (lb (fun k11 => (lr 140 10 [1, 1, 1, 1, 1, 1, 1, 1, 1, 0, 1, 0, 0] 1 4 [(6, (.bool false))] (sl z2u 144 [] ⟨[], [], [some [6]], []⟩ ⟨[], [], []⟩ [false, false, false, false, false, false, false, false, false, false, false, false, false, false, false, false, false, false, false, false, false, false, false, false, false, false, false, false, true] (tt k11 (tt k10 (tt k9 (tt k8 (tt k7 (tt k6 (pp (pp (xr l1) (pp (xr l0) (xw o6_5))) (pp (pp (xr l0) (pp (xr l1) (xw o6_4))) (pp (pp (xr l0) (pp (xr l2) (xw o6_3))) (pp (pp (xr l1) (pp (xr l2) (xw o6_2))) (pp (pp (xr l1) (pp (xr l0) (xw o6_1))) (pp (pp (xr l0) (pp (xr l1) (xw o6_0))) (tt k5 (tt k4 (tt k3 (tt k2 (pp (pp (xr l2) (xw o2_0)) (tt k1 (pp (pp (xr l1) (xw o1_0)) (tt k0 (pp (pp (xr l0) (xw o0_0)) nn)))))))))))))))))))))))) (fun k11 => (lb (fun k12 => (lo fun o13_0 => (lb (fun k13 => (lb (fun k14 => (lr 140 3 [1, 1, 1, 1, 1, 1, 0] 1 4 [(6, (.bool ((Uc (cvT l0) (cvT l1)) == (Wx (Ua (cvT l0) (cvT l1)) (Ua (cvT l1) (cvT l0))))))] (sl z2u 173 [] ⟨[], [], [some [6]], []⟩ ⟨[], [], []⟩ [false, false, false, false, false, false, false, false, false, false, false, false, false, false, false, false, false, false, false, false, false, false, false, false, false, false, false, false, false, true, true, true, true, true, true, true, true, true, true, true, true, true, true, true, true, true, true, true] (tt k14 (tt k13 (pp (pp (xr l0) (pp (xr l1) (xw o13_0))) (tt k12 (tt k11 (tt k10 (tt k9 (tt k8 (tt k7 (tt k6 (pp (pp (xr l1) (pp (xr l0) (xw o6_5))) (pp (pp (xr l0) (pp (xr l1) (xw o6_4))) (pp (pp (xr l0) (pp (xr l2) (xw o6_3))) (pp (pp (xr l1) (pp (xr l2) (xw o6_2))) (pp (pp (xr l1) (pp (xr l0) (xw o6_1))) (pp (pp (xr l0) (pp (xr l1) (xw o6_0))) (tt k5 (tt k4 (tt k3 (tt k2 (pp (pp (xr l2) (xw o2_0)) (tt k1 (pp (pp (xr l1) (xw o1_0)) (tt k0 (pp (pp (xr l0) (xw o0_0)) nn)))))))))))))))))))))))))))) (fun k14 => (lr 140 3 [1, 1, 1, 1, 1, 1, 0] 1 4 [(6, (.bool false))] (sl z2u 173 [] ⟨[], [], [some [6]], []⟩ ⟨[], [], []⟩ [false, false, false, false, false, false, false, false, false, false, false, false, false, false, false, false, false, false, false, false, false, false, false, false, false, false, false, false, false, true, true, true, true, true, true, true, true, true, true, true, true, true, true, false, false, false, false, false] (tt k14 (tt k13 (pp (pp (xr l0) (pp (xr l1) (xw o13_0))) (tt k12 (tt k11 (tt k10 (tt k9 (tt k8 (tt k7 (tt k6 (pp (pp (xr l1) (pp (xr l0) (xw o6_5))) (pp (pp (xr l0) (pp (xr l1) (xw o6_4))) (pp (pp (xr l0) (pp (xr l2) (xw o6_3))) (pp (pp (xr l1) (pp (xr l2) (xw o6_2))) (pp (pp (xr l1) (pp (xr l0) (xw o6_1))) (pp (pp (xr l0) (pp (xr l1) (xw o6_0))) (tt k5 (tt k4 (tt k3 (tt k2 (pp (pp (xr l2) (xw o2_0)) (tt k1 (pp (pp (xr l1) (xw o1_0)) (tt k0 (pp (pp (xr l0) (xw o0_0)) nn)))))))))))))))))))))))))))))) (fun k13 => (lr 140 3 [1, 1, 1, 1, 1, 1, 0] 1 4 [(6, (.bool false))] (sl z2u 173 [] ⟨[], [], [some [6]], []⟩ ⟨[], [], []⟩ [false, false, false, false, false, false, false, false, false, false, false, false, false, false, false, false, false, false, false, false, false, false, false, false, false, false, false, false, false, true, true, true, true, true, true, true, true, true, false, false, false, false, false, false, false, false, false, false] (tt k13 (pp (pp (xr l0) (pp (xr l1) (xw o13_0))) (tt k12 (tt k11 (tt k10 (tt k9 (tt k8 (tt k7 (tt k6 (pp (pp (xr l1) (pp (xr l0) (xw o6_5))) (pp (pp (xr l0) (pp (xr l1) (xw o6_4))) (pp (pp (xr l0) (pp (xr l2) (xw o6_3))) (pp (pp (xr l1) (pp (xr l2) (xw o6_2))) (pp (pp (xr l1) (pp (xr l0) (xw o6_1))) (pp (pp (xr l0) (pp (xr l1) (xw o6_0))) (tt k5 (tt k4 (tt k3 (tt k2 (pp (pp (xr l2) (xw o2_0)) (tt k1 (pp (pp (xr l1) (xw o1_0)) (tt k0 (pp (pp (xr l0) (xw o0_0)) nn)))))))))))))))))))))))))))))) (fun k12 => (lr 140 3 [1, 1, 1, 1, 1, 1, 0] 1 4 [(6, (.bool false))] (sl z2u 173 [] ⟨[], [], [some [6]], []⟩ ⟨[], [], []⟩ [false, false, false, false, false, false, false, false, false, false, false, false, false, false, false, false, false, false, false, false, false, false, false, false, false, false, false, false, false, true, true, true, false, false, false, false, false, false, false, false, false, false, false, false, false, false, false, false] (tt k12 (tt k11 (tt k10 (tt k9 (tt k8 (tt k7 (tt k6 (pp (pp (xr l1) (pp (xr l0) (xw o6_5))) (pp (pp (xr l0) (pp (xr l1) (xw o6_4))) (pp (pp (xr l0) (pp (xr l2) (xw o6_3))) (pp (pp (xr l1) (pp (xr l2) (xw o6_2))) (pp (pp (xr l1) (pp (xr l0) (xw o6_1))) (pp (pp (xr l0) (pp (xr l1) (xw o6_0))) (tt k5 (tt k4 (tt k3 (tt k2 (pp (pp (xr l2) (xw o2_0)) (tt k1 (pp (pp (xr l1) (xw o1_0)) (tt k0 (pp (pp (xr l0) (xw o0_0)) nn)))))))))))))))))))))))))))))))))))))))))))))))))))))))))))
theorem met_ends (l0 : List R6) (l1 : List R6) (l2 : List R6) (n : Nat) (vs : List AVal) (h : Yw (y9m l0 l1 l2) n (z8f l0 l1 l2) = .ret vs) : Jd Tryz.prog (Zy Tryz.prog 10) (Zh Tryz.prog 10 [(.dat l0.length (Zz l0)), (.dat l1.length (Zz l1)), (.dat l2.length (Zz l2))] true []) vs := by
 have := Zn (x5a l0 l1 l2) n _ (y9n l0 l1 l2)
 rwa [h] at this
end Go.Am
namespace Go.Am
open Go.Proofs
def pin (r : R6) (x y z : Int) : Prop := (r.a ≤ x ∧ x < r.d) ∧ (r.b ≤ y ∧ y < r.e) ∧ r.c ≤ z ∧ z < r.f
def nrp (r : R6) (D x y z : Int) : Prop := (r.a - D ≤ x ∧ x < r.d + D) ∧ (r.b - D ≤ y ∧ y < r.e + D) ∧ r.c - D ≤ z ∧ z < r.f + D
def bdd (r : R6) : Prop := (-1000000000 ≤ r.a ∧ r.a ≤ 1000000000) ∧ (-1000000000 ≤ r.b ∧ r.b ≤ 1000000000) ∧ (-1000000000 ≤ r.c ∧ r.c ≤ 1000000000) ∧ (-1000000000 ≤ r.d ∧ r.d ≤ 1000000000) ∧ (-1000000000 ≤ r.e ∧ r.e ≤ 1000000000) ∧ (-1000000000 ≤ r.f ∧ r.f ≤ 1000000000)
theorem z4s (x y : Int) : x ≤ Wx x y ∧ y ≤ Wx x y ∧ (Wx x y = x ∨ Wx x y = y) := by
 unfold Wx; split <;> omega
theorem x3b (x y : Int) : Un x y ≤ x ∧ Un x y ≤ y ∧ (Un x y = x ∨ Un x y = y) := by
 unfold Un; split <;> omega
theorem w0y {x y m : Int} : Wx x y ≤ m ↔ x ≤ m ∧ y ≤ m := by
 have := z4s x y; omega
theorem v4x {x y m : Int} : Un x y ≤ m ↔ x ≤ m ∨ y ≤ m := by
 have := x3b x y; omega
structure GA (G c B : R6) (D : Int) : Prop where
 ga : c.a - D ≤ G.a ∧ B.a ≤ G.a ∧ (G.a = c.a - D ∨ G.a = B.a)
 gb : c.b - D ≤ G.b ∧ B.b ≤ G.b ∧ (G.b = c.b - D ∨ G.b = B.b)
 gc : c.c - D ≤ G.c ∧ B.c ≤ G.c ∧ (G.c = c.c - D ∨ G.c = B.c)
 gd : G.d ≤ c.d + D ∧ G.d ≤ B.d ∧ (G.d = c.d + D ∨ G.d = B.d)
 ge : G.e ≤ c.e + D ∧ G.e ≤ B.e ∧ (G.e = c.e + D ∨ G.e = B.e)
 gf : G.f ≤ c.f + D ∧ G.f ≤ B.f ∧ (G.f = c.f + D ∨ G.f = B.f)
theorem v5c {c B : R6} {D : Int} (hc : bdd c) (hD : 0 ≤ D ∧ D ≤ 1000000000) : GA (gA D c B) c B D := by
 obtain ⟨h1, h2, h3, h4, h5, h6⟩ := hc
 refine ⟨?_, ?_, ?_, ?_, ?_, ?_⟩ <;> unfold gA <;> simp only <;> (rw [Zk (by omega)])
 ·exact z4s _ _
 ·exact z4s _ _
 ·exact z4s _ _
 ·exact x3b _ _
 ·exact x3b _ _
 ·exact x3b _ _
theorem z2l {r : R6} : z5a r = false ↔ r.a < r.d ∧ r.b < r.e ∧ r.c < r.f := by
 unfold z5a
 simp only [Bool.or_eq_false_iff, decide_eq_false_iff_not]
 omega
theorem w7a {r : R6} (h : z5a r = true) {x y z : Int} : ¬ pin r x y z := fun ⟨p, q, s⟩ => by
 have : z5a r = false := z2l.2 (by omega)
 rw [h] at this; cases this
theorem z8r {D : Int} (hD : 0 ≤ D ∧ D ≤ 1000000000) : ∀ (l : List R6) (B : R6), bdd B → z5a B = false → (∀ c ∈ l, bdd c) → (covB D l B = true ↔ ∀ x y z, pin B x y z → ∃ c ∈ l, nrp c D x y z)
 | [], B, hB, hne, hl => by
  have h := z2l.1 hne
  constructor
  ·intro h; cases h
  ·intro k
   obtain ⟨c, hc, _⟩ := k B.a B.b B.c ⟨⟨Int.le_refl _, h.1⟩, ⟨Int.le_refl _, h.2.1⟩, Int.le_refl _, h.2.2⟩
   cases hc
 | c :: l, B, hB, hne, hl => by
  have hc := hl c (List.mem_cons_self ..)
  have hl' : ∀ c ∈ l, bdd c := fun c h => hl c (List.mem_cons_of_mem _ h)
  have G := v5c (B := B) hc hD
  have hcov : covB D (c :: l) B = bif z5a (gA D c B) then covB D l B else
   (z5a (v1p (gA D c B) B) || covB D l (v1p (gA D c B) B)) && ((z5a (v1o (gA D c B) B) || covB D l (v1o (gA D c B) B)) && ((z5a (w2y (gA D c B) B) || covB D l (w2y (gA D c B) B)) &&
   ((z5a (w2x (gA D c B) B) || covB D l (w2x (gA D c B) B)) && ((z5a (x6v (gA D c B) B) || covB D l (x6v (gA D c B) B)) && (z5a (x6u (gA D c B) B) || covB D l (x6u (gA D c B) B)))))) := rfl
  rw [hcov]
  generalize gA D c B = g at G
  obtain ⟨G1, G2, G3, G4, G5, G6⟩ := G
  have part : ∀ p, bdd p → ((z5a p || covB D l p) = true ↔ ∀ x y z, pin p x y z → ∃ c ∈ l, nrp c D x y z) := fun p hp => by
   cases he : z5a p with
   | true => exact ⟨fun _ x y z k => absurd k (w7a he), fun _ => rfl⟩
   | false => rw [Bool.false_or]; exact z8r hD l p hp he hl'
  cases he : z5a g with
  | true =>
   rw [cond_true, z8r hD l B hB hne hl']
   constructor
   ·intro k x y z hp
    obtain ⟨c', hc', q⟩ := k x y z hp
    exact ⟨c', List.mem_cons_of_mem _ hc', q⟩
   ·intro k x y z hp
    obtain ⟨c', hc', q⟩ := k x y z hp
    rcases List.mem_cons.1 hc' with rfl | hc'
    ·exfalso
     have : z5a g = false := z2l.2 (by obtain ⟨q1, q2, q3⟩ := q; obtain ⟨p1, p2, p3⟩ := hp; omega)
     rw [he] at this; cases this
    ·exact ⟨c', hc', q⟩
  | false =>
   have hg := z2l.1 he
   have hb := z2l.1 hne
   obtain ⟨b1, b2, b3, b4, b5, b6⟩ := hB
   rw [cond_false, Bool.and_eq_true, Bool.and_eq_true, Bool.and_eq_true, Bool.and_eq_true, Bool.and_eq_true]
   rw [part (v1p g B) (by unfold bdd v1p; simp only; omega), part (v1o g B) (by unfold bdd v1o; simp only; omega), part (w2y g B) (by unfold bdd w2y; simp only; omega), part (w2x g B) (by unfold bdd w2x; simp only; omega), part (x6v g B) (by unfold bdd x6v; simp only; omega), part (x6u g B) (by unfold bdd x6u; simp only; omega)]
   have out : ∀ {p : R6}, (∀ x y z, pin p x y z → pin B x y z ∧ ¬ nrp c D x y z) → (∀ x y z, pin B x y z → ∃ c' ∈ c :: l, nrp c' D x y z) → ∀ x y z, pin p x y z → ∃ c' ∈ l, nrp c' D x y z := fun h k x y z hp => by
    obtain ⟨h1, h2⟩ := h x y z hp
    obtain ⟨c', hc', q⟩ := k x y z h1
    rcases List.mem_cons.1 hc' with rfl | hc'
    ·exact absurd q h2
    ·exact ⟨c', hc', q⟩
   constructor
   ·intro ⟨k1, k2, k3, k4, k5, k6⟩ x y z ⟨⟨p1, p2⟩, ⟨p3, p4⟩, p5, p6⟩
    have up : (∃ c' ∈ l, nrp c' D x y z) → ∃ c' ∈ c :: l, nrp c' D x y z := fun ⟨c', h, q⟩ => ⟨c', List.mem_cons_of_mem _ h, q⟩
    by_cases q1 : x < g.a
    ·exact up (k1 x y z ⟨⟨p1, q1⟩, ⟨p3, p4⟩, p5, p6⟩)
    by_cases q2 : g.d ≤ x
    ·exact up (k2 x y z ⟨⟨q2, p2⟩, ⟨p3, p4⟩, p5, p6⟩)
    by_cases q3 : y < g.b
    ·exact up (k3 x y z ⟨⟨by simp only [w2y]; omega, by simp only [w2y]; omega⟩, ⟨p3, q3⟩, p5, p6⟩)
    by_cases q4 : g.e ≤ y
    ·exact up (k4 x y z ⟨⟨by simp only [w2x]; omega, by simp only [w2x]; omega⟩, ⟨q4, p4⟩, p5, p6⟩)
    by_cases q5 : z < g.c
    ·exact up (k5 x y z ⟨⟨by simp only [x6v]; omega, by simp only [x6v]; omega⟩, ⟨by simp only [x6v]; omega, by simp only [x6v]; omega⟩, p5, q5⟩)
    by_cases q6 : g.f ≤ z
    ·exact up (k6 x y z ⟨⟨by simp only [x6u]; omega, by simp only [x6u]; omega⟩, ⟨by simp only [x6u]; omega, by simp only [x6u]; omega⟩, q6, p6⟩)
    exact ⟨c, List.mem_cons_self .., by unfold nrp; omega⟩
   ·intro k
    refine ⟨out (fun x y z hp => ?_) k, out (fun x y z hp => ?_) k, out (fun x y z hp => ?_) k, out (fun x y z hp => ?_) k, out (fun x y z hp => ?_) k, out (fun x y z hp => ?_) k⟩ <;> (unfold pin at hp ⊢; unfold nrp) <;> simp only [v1p, v1o, w2y, w2x, x6v, x6u] at hp <;> omega
theorem y0f {r : R6} (hr : bdd r) {x y z D : Int} (hD : 0 ≤ D) (hx : -1000000000 ≤ x ∧ x ≤ 1000000000) (hy : -1000000000 ≤ y ∧ y ≤ 1000000000) (hz : -1000000000 ≤ z ∧ z ≤ 1000000000) : w6p x y z r ≤ D ↔ nrp r D x y z := by
 obtain ⟨h1, h2, h3, h4, h5, h6⟩ := hr
 unfold w6p nrp
 rw [Zk (n := r.a - x) (by omega), Zk (n := x - r.d) (by omega), Zk (n := x - r.d + 1) (by omega), Zk (n := r.b - y) (by omega), Zk (n := y - r.e) (by omega), Zk (n := y - r.e + 1) (by omega), Zk (n := r.c - z) (by omega), Zk (n := z - r.f) (by omega), Zk (n := z - r.f + 1) (by omega)]
 simp only [w0y]
 omega
theorem w1c {x y z m : Int} : ∀ (l : List R6) (d : Int), v1j x y z l d ≤ m ↔ d ≤ m ∨ ∃ c ∈ l, w6p x y z c ≤ m
 | [], d => by unfold v1j; simp
 | r :: l, d => by
  unfold v1j
  rw [w1c l, v4x]
  constructor
  ·rintro ((h | h) | ⟨c, hc, h⟩)
   ·exact .inl h
   ·exact .inr ⟨r, List.mem_cons_self .., h⟩
   ·exact .inr ⟨c, List.mem_cons_of_mem _ hc, h⟩
  ·rintro (h | ⟨c, hc, h⟩)
   ·exact .inl (.inl h)
   ·rcases List.mem_cons.1 hc with rfl | hc
    ·exact .inl (.inr h)
    ·exact .inr ⟨c, hc, h⟩
theorem y0c {x y z m : Int} {L : List R6} (hL : L ≠ []) : y7p x y z L ≤ m ↔ ∃ c ∈ L, w6p x y z c ≤ m := by
 cases L with
 | nil => exact absurd rfl hL
 | cons r l =>
  have e : y7p x y z (r :: l) = v1j x y z l (w6p x y z r) := rfl
  rw [e, w1c]
  constructor
  ·rintro (h | ⟨c, hc, h⟩)
   ·exact ⟨r, List.mem_cons_self .., h⟩
   ·exact ⟨c, List.mem_cons_of_mem _ hc, h⟩
  ·rintro ⟨c, hc, h⟩
   rcases List.mem_cons.1 hc with rfl | hc
   ·exact .inl h
   ·exact .inr ⟨c, hc, h⟩
theorem x2s {g : Int → Int → Int} {m : Int} {p : Int → Prop} (hg : ∀ z d, g z d ≤ m ↔ d ≤ m ∧ p z) : ∀ (n : Nat) (z d : Int), lpI g n z d ≤ m ↔ d ≤ m ∧ ∀ k, z ≤ k → k < z + n → p k
 | 0, z, d => by
  unfold lpI
  exact ⟨fun h => ⟨h, fun k h1 h2 => by omega⟩, fun h => h.1⟩
 | n + 1, z, d => by
  unfold lpI
  rw [x2s hg n, hg]
  constructor
  ·rintro ⟨⟨h1, h2⟩, h3⟩
   refine ⟨h1, fun k hk hk' => ?_⟩
   by_cases e : k = z
   ·subst e; exact h2
   ·exact h3 k (by omega) (by omega)
  ·rintro ⟨h1, h2⟩
   exact ⟨⟨h1, h2 z (Int.le_refl _) (by omega)⟩, fun k hk hk' => h2 k (by omega) (by omega)⟩
theorem rgX_le {L1 : List R6} {r : R6} {d m : Int} : rgX L1 r d ≤ m ↔ d ≤ m ∧ ∀ x y z, pin r x y z → y7p x y z L1 ≤ m := by
 have hz : ∀ x y d, rgZ L1 r x y d ≤ m ↔ d ≤ m ∧ ∀ z, r.c ≤ z → z < r.f → y7p x y z L1 ≤ m := fun x y d => by
  unfold rgZ
  rw [x2s (p := fun z => y7p x y z L1 ≤ m) (fun z d => w0y)]
  exact and_congr_right fun _ => ⟨fun h k h1 h2 => h k h1 (by omega), fun h k h1 h2 => h k h1 (by omega)⟩
 have hy : ∀ x d, rgY L1 r x d ≤ m ↔ d ≤ m ∧ ∀ y, r.b ≤ y → y < r.e → ∀ z, r.c ≤ z → z < r.f → y7p x y z L1 ≤ m := fun x d => by
  unfold rgY
  rw [x2s (p := fun y => ∀ z, r.c ≤ z → z < r.f → y7p x y z L1 ≤ m) (fun y d => hz x y d)]
  exact and_congr_right fun _ => ⟨fun h k h1 h2 => h k h1 (by omega), fun h k h1 h2 => h k h1 (by omega)⟩
 unfold rgX
 rw [x2s (p := fun x => ∀ y, r.b ≤ y → y < r.e → ∀ z, r.c ≤ z → z < r.f → y7p x y z L1 ≤ m) (fun x d => hy x d)]
 exact and_congr_right fun _ => ⟨fun h x y z ⟨p1, p2, p3⟩ => h x p1.1 (by omega) y p2.1 p2.2 z p3.1 p3.2, fun h x h1 h2 y h3 h4 z h5 h6 => h x y z ⟨⟨h1, by omega⟩, ⟨h3, h4⟩, h5, h6⟩⟩
theorem x8k {L1 : List R6} {m : Int} : ∀ (L0 : List R6) (d : Int), rrcF L1 L0 d ≤ m ↔ d ≤ m ∧ ∀ r ∈ L0, ∀ x y z, pin r x y z → y7p x y z L1 ≤ m
 | [], d => by
  unfold rrcF
  exact ⟨fun h => ⟨h, fun r hr => by cases hr⟩, fun h => h.1⟩
 | r :: l, d => by
  unfold rrcF
  rw [x8k l, rgX_le]
  constructor
  ·rintro ⟨⟨h1, h2⟩, h3⟩
   refine ⟨h1, fun q hq => ?_⟩
   rcases List.mem_cons.1 hq with rfl | hq
   ·exact h2
   ·exact h3 q hq
  ·rintro ⟨h1, h2⟩
   exact ⟨⟨h1, h2 r (List.mem_cons_self ..)⟩, fun q hq => h2 q (List.mem_cons_of_mem _ hq)⟩
theorem y3b {L0 L1 : List R6} {m : Int} : Qm L0 L1 ≤ m ↔ 0 ≤ m ∧ ∀ r ∈ L0, ∀ x y z, pin r x y z → y7p x y z L1 ≤ m := x8k L0 0
theorem z0h {r : R6} (h : Jb r = true) : bdd r := by
 obtain ⟨h1, h2, h3, h4, h5, h6, h7, h8, h9⟩ := Vq h
 unfold bdd; omega
theorem w8m {r : R6} (h : Jb r = true) : z5a r = false := by
 obtain ⟨h1, h2, h3, _⟩ := Vq h
 exact z2l.2 ⟨h1, h2, h3⟩
theorem w8f {L0 L1 : List R6} (h0 : ∀ r ∈ L0, Jb r = true) (h1 : ∀ r ∈ L1, Jb r = true) (hne : L0 = [] ∨ L1 ≠ []) {d : Int} (hd : 0 ≤ d ∧ d ≤ 1000000000) : v2a L1 d L0 = true ↔ Qm L0 L1 ≤ d := by
 rw [y3b]
 unfold v2a
 rw [List.all_eq_true]
 constructor
 ·intro h
  refine ⟨hd.1, fun r hr x y z hp => ?_⟩
  have hL : L1 ≠ [] := by
   rcases hne with e | e
   ·subst e; cases hr
   ·exact e
  obtain ⟨c, hc, q⟩ := (z8r hd L1 r (z0h (h0 r hr)) (w8m (h0 r hr)) fun c hc => z0h (h1 c hc)).1 (h r hr) x y z hp
  obtain ⟨v1, v2, v3, v4, v5, v6, v7, v8, v9⟩ := Vq (h0 r hr)
  obtain ⟨p1, p2, p3⟩ := hp
  exact (y0c hL).2 ⟨c, hc, (y0f (z0h (h1 c hc)) hd.1 (by omega) (by omega) (by omega)).2 q⟩
 ·rintro ⟨_, h⟩ r hr
  refine (z8r hd L1 ⟨r.a, r.b, r.c, r.d, r.e, r.f⟩ (z0h (h0 r hr)) (w8m (h0 r hr)) fun c hc => z0h (h1 c hc)).2 fun x y z hp => ?_
  have hL : L1 ≠ [] := by
   rcases hne with e | e
   ·subst e; cases hr
   ·exact e
  obtain ⟨c, hc, q⟩ := (y0c hL).1 (h r hr x y z hp)
  obtain ⟨v1, v2, v3, v4, v5, v6, v7, v8, v9⟩ := Vq (h0 r hr)
  obtain ⟨p1, p2, p3⟩ := hp
  simp only at p1 p2 p3
  exact ⟨c, hc, (y0f (z0h (h1 c hc)) hd.1 (by omega) (by omega) (by omega)).1 q⟩
theorem Kj {L0 L1 : List R6} (h0 : ∀ r ∈ L0, Jb r = true) (h1 : ∀ r ∈ L1, Jb r = true) (hne : L0 = [] ∨ L1 ≠ []) : 0 ≤ Qm L0 L1 ∧ Qm L0 L1 ≤ 1999999 := by
 refine ⟨(y3b.1 (Int.le_refl _)).1, y3b.2 ⟨by omega, fun r hr x y z hp => ?_⟩⟩
 have hL : L1 ≠ [] := by
  rcases hne with e | e
  ·subst e; cases hr
  ·exact e
 obtain ⟨c, hc⟩ := List.exists_mem_of_ne_nil L1 hL
 obtain ⟨v1, v2, v3, v4, v5, v6, v7, v8, v9⟩ := Vq (h0 r hr)
 obtain ⟨w1, w2, w3, w4, w5, w6, w7, w8, w9⟩ := Vq (h1 c hc)
 obtain ⟨p1, p2, p3⟩ := hp
 refine (y0c hL).2 ⟨c, hc, (y0f (z0h (h1 c hc)) (by omega) (by omega) (by omega) (by omega)).2 ?_⟩
 unfold nrp; omega
theorem y7z {F : Int → Bool} {R : Int} (hF : ∀ d, 0 ≤ d → d < 2000000 → (F d = true ↔ R ≤ d)) : ∀ (n : Nat) (i j : Int), 0 ≤ i → i ≤ R → R ≤ j → j ≤ 2000000 → j - i < 2 ^ n → w2t F n i j = R
 | 0, i, j, h1, h2, h3, h4, h5 => by unfold w2t; simp at h5; omega
 | n + 1, i, j, h1, h2, h3, h4, h5 => by
  have hp : (2 : Int) ^ (n + 1) = 2 * 2 ^ n := by rw [Int.pow_succ, Int.mul_comm]
  rw [hp] at h5
  generalize hP : (2 : Int) ^ n = p at h5
  unfold w2t
  by_cases hlt : i < j
  ·rw [Zo hlt, cond_true]
   rcases Ym (F ((i + j) / 2)) with q | q
   ·rw [q, cond_true]
    have := (hF ((i + j) / 2) (by omega) (by omega)).1 q
    exact y7z hF n i _ h1 h2 this (by omega) (by rw [hP]; omega)
   ·rw [q, cond_false]
    have : ¬ R ≤ (i + j) / 2 := fun e => by rw [(hF _ (by omega) (by omega)).2 e] at q; cases q
    exact y7z hF n _ j (by omega) (by omega) h3 h4 (by rw [hP]; omega)
  ·rw [Zt hlt, cond_false]; omega
theorem x9l {L0 L1 : List R6} (h0 : ∀ r ∈ L0, Jb r = true) (h1 : ∀ r ∈ L1, Jb r = true) (hne : L0 = [] ∨ L1 ≠ []) : x2g L0 L1 = Qm L0 L1 := by
 obtain ⟨m1, m2⟩ := Kj h0 h1 hne
 exact y7z (fun d hd hd' => w8f h0 h1 hne ⟨hd, by omega⟩) 22 0 2000000 (Int.le_refl _) m1 (by omega) (Int.le_refl _) (by decide)
end Go.Am
namespace Go.Am
open Go.Proofs Go.Sort Go.Shelf Go.RowKit Go.Lib
theorem w4c {p q : List R6} (hp : ∀ r ∈ p, Jb r = true) (hq : ∀ r ∈ q, Jb r = true) (hne : q ≠ []) {m : Int} (hm : 0 ≤ m) : Qm p q ≤ m ↔ ∀ x y z, inS p x y z → ∃ c ∈ q, nrp c m x y z := by
 rw [y3b]
 constructor
 ·rintro ⟨_, h⟩ x y z ⟨r, hr, hpt⟩
  obtain ⟨c, hc, q⟩ := (y0c hne).1 (h r hr x y z hpt)
  obtain ⟨v1, v2, v3, v4, v5, v6, v7, v8, v9⟩ := Vq (hp r hr)
  obtain ⟨p1, p2, p3⟩ := hpt
  exact ⟨c, hc, (y0f (z0h (hq c hc)) hm (by omega) (by omega) (by omega)).1 q⟩
 ·intro h
  refine ⟨hm, fun r hr x y z hpt => ?_⟩
  obtain ⟨c, hc, q⟩ := h x y z ⟨r, hr, hpt⟩
  obtain ⟨v1, v2, v3, v4, v5, v6, v7, v8, v9⟩ := Vq (hp r hr)
  obtain ⟨p1, p2, p3⟩ := hpt
  exact (y0c hne).2 ⟨c, hc, (y0f (z0h (hq c hc)) hm (by omega) (by omega) (by omega)).2 q⟩
theorem y8p {p q : List R6} (hp : ∀ r ∈ p, Jb r = true) (hq : ∀ r ∈ q, Jb r = true) (hne : q ≠ []) : Qm p q ≤ 0 ↔ ∀ x y z, inS p x y z → inS q x y z := by
 rw [w4c hp hq hne (Int.le_refl 0)]
 have e : ∀ c x y z, nrp c 0 x y z ↔ pin c x y z := fun c x y z => by unfold nrp pin; omega
 constructor
 ·intro h x y z k
  obtain ⟨c, hc, q⟩ := h x y z k
  exact ⟨c, hc, (e c x y z).1 q⟩
 ·intro h x y z k
  obtain ⟨c, hc, q⟩ := h x y z k
  exact ⟨c, hc, (e c x y z).2 q⟩
theorem w4z {c : R6} (hc : Jb c = true) {m x y z : Int} (hm : 0 ≤ m) (h : nrp c m x y z) : ∃ u v w, pin c u v w ∧ (u - m ≤ x ∧ x ≤ u + m) ∧ (v - m ≤ y ∧ y ≤ v + m) ∧ (w - m ≤ z ∧ z ≤ w + m) := by
 obtain ⟨v1, v2, v3, _⟩ := Vq hc
 obtain ⟨h1, h2, h3⟩ := h
 have cl : ∀ a d t : Int, a < d → a - m ≤ t → t < d + m → ∃ u, (a ≤ u ∧ u < d) ∧ u - m ≤ t ∧ t ≤ u + m := fun a d t h1 h2 h3 => by
  by_cases e : t < a
  ·exact ⟨a, by omega, by omega, by omega⟩
  ·by_cases e2 : t < d
   ·exact ⟨t, by omega, by omega, by omega⟩
   ·exact ⟨d - 1, by omega, by omega, by omega⟩
 obtain ⟨u, hu, hu'⟩ := cl c.a c.d x v1 h1.1 h1.2
 obtain ⟨v, hv, hv'⟩ := cl c.b c.e y v2 h2.1 h2.2
 obtain ⟨w, hw, hw'⟩ := cl c.c c.f z v3 h3.1 h3.2
 exact ⟨u, v, w, ⟨hu, hv, hw⟩, hu', hv', hw'⟩
theorem w9n {p q r : List R6} (hp : ∀ s ∈ p, Jb s = true) (hq : ∀ s ∈ q, Jb s = true) (hr : ∀ s ∈ r, Jb s = true) (nq : q ≠ []) (nr : r ≠ []) : Qm p r ≤ Qm p q + Qm q r := by
 have m1 := (Kj hp hq (.inr nq)).1
 have m2 := (Kj hq hr (.inr nr)).1
 refine (w4c hp hr nr (by omega)).2 fun x y z k => ?_
 obtain ⟨c, hc, h1⟩ := (w4c hp hq nq m1).1 (Int.le_refl _) x y z k
 obtain ⟨u, v, w, hin, hu, hv, hw⟩ := w4z (hq c hc) m1 h1
 obtain ⟨d, hd, h2⟩ := (w4c hq hr nr m2).1 (Int.le_refl _) u v w ⟨c, hc, hin⟩
 refine ⟨d, hd, ?_⟩
 obtain ⟨g1, g2, g3⟩ := h2
 unfold nrp; omega
theorem w1i {L : List R6} (h : w1j L = true) : L.length ≤ 6 ∧ Yq L = 0 ∧ ∀ r ∈ L, Jb r = true := by
 simp only [w1j, Bool.and_eq_true, decide_eq_true_eq] at h
 have hk := x7r (eq_of_beq h.2.2)
 exact ⟨by omega, hk, (Vk hk).2.1⟩
theorem w0m {L : List R6} (h : ((L.length : Int) == 0) = false) : L ≠ [] := fun e => by subst e; cases h
theorem w7c {L M : List R6} (hL : Yq L = 0) (hM : Yq M = 0) (lL : L.length ≤ 40) (lM : M.length ≤ 40) (nL : L ≠ []) (nM : M ≠ []) : eDi Yq L M = 0 := by
 have l0 : 0 < L.length := List.length_pos_iff.2 nL
 have l1 : 0 < M.length := List.length_pos_iff.2 nM
 unfold eDi
 rw [hL, hM, y6w (show (L.length : Int) ≠ 0 by omega), y6w (show (M.length : Int) ≠ 0 by omega), Xy (by omega), Xy (by omega)]; rfl
theorem w7b {L M : List R6} (hL : Yq L = 0) (hM : Yq M = 0) (lL : L.length ≤ 40) (lM : M.length ≤ 40) (nM : M ≠ []) : eRe Yq L M = 0 := by
 have l1 : 0 < M.length := List.length_pos_iff.2 nM
 unfold eRe
 rw [hL, hM, y6w (show (M.length : Int) ≠ 0 by omega), Bool.and_false, Xy (show ¬ (L.length : Int) > 40 by omega), Xy (show ¬ (M.length : Int) > 40 by omega)]; rfl
theorem v5a (x y : Int) : Wx x y = Wx y x := by
 have := z4s x y
 have := z4s y x
 omega
theorem met_run (p q r : List R6) : ∃ N, Yw (y9m p q r) N (z8f p q r) = .ret [.bool true] := ⟨0, by
 unfold z8f
 simp only [Zb, show ∀ l, z0d l = true from fun _ => rfl, show ∀ l m, Jm l m = true from fun _ _ => rfl, show ∀ l m, Ub l m = true from fun _ _ => rfl, cond_true]
 rcases (Ym (w1j p)).symm with fp | fp
 ·rw [fp]; rfl
 rcases (Ym (w1j q)).symm with fq | fq
 ·rw [fp, fq]; rfl
 rcases (Ym (w1j r)).symm with fr | fr
 ·rw [fp, fq, fr]; rfl
 rcases Ym ((p.length : Int) == 0) with ep | ep
 ·rw [fp, fq, fr, ep]; rfl
 rcases Ym ((q.length : Int) == 0) with eq | eq
 ·rw [fp, fq, fr, ep, eq]; rfl
 rcases Ym ((r.length : Int) == 0) with er | er
 ·rw [fp, fq, fr, ep, eq, er]; rfl
 obtain ⟨lp, kp, vp⟩ := w1i fp
 obtain ⟨lq, kq, vq⟩ := w1i fq
 obtain ⟨lr, kr, vr⟩ := w1i fr
 have np := w0m ep
 have nq := w0m eq
 have nr := w0m er
 have d1 : ∀ {L M : List R6}, Yq L = 0 → Yq M = 0 → L.length ≤ 6 → M.length ≤ 6 → L ≠ [] → M ≠ [] → Qk L M = 0 ∧ Uc L M = Wx (Qm L M) (Qm M L) := fun {L M} a b c d e f => by
  have z := w7c a b (by omega) (by omega) e f
  refine ⟨z, ?_⟩
  unfold Uc
  rw [z, x9l (Vk a).2.1 (Vk b).2.1 (.inr f), x9l (Vk b).2.1 (Vk a).2.1 (.inr e)]; rfl
 have e1 : ∀ {L M : List R6}, Yq L = 0 → Yq M = 0 → L.length ≤ 6 → M.length ≤ 6 → M ≠ [] → Kg L M = 0 ∧ Ua L M = Qm L M := fun {L M} a b c d f => by
  have z := w7b a b (by omega) (by omega) f
  refine ⟨z, ?_⟩
  unfold Ua
  rw [z, x9l (Vk a).2.1 (Vk b).2.1 (.inr f)]; rfl
 rw [fp, fq, fr, ep, eq, er, (d1 kp kq lp lq np nq).1, (d1 kq kp lq lp nq np).1, (d1 kq kr lq lr nq nr).1, (d1 kp kr lp lr np nr).1, (e1 kp kq lp lq nq).1, (e1 kq kp lq lp np).1, (d1 kp kq lp lq np nq).2, (d1 kq kp lq lp nq np).2, (d1 kq kr lq lr nq nr).2, (d1 kp kr lp lr np nr).2, (e1 kp kq lp lq nq).2, (e1 kq kp lq lp np).2]
 have s1 := z4s (Qm p q) (Qm q p)
 have s2 := z4s (Qm q r) (Qm r q)
 have s3 := z4s (Qm p r) (Qm r p)
 have t1 := w9n vp vq vr nq nr
 have t2 := w9n vr vq vp nq np
 have b1 := Kj vp vq (.inr nq)
 have b2 := Kj vq vp (.inr np)
 have b3 := Kj vq vr (.inr nr)
 have b4 := Kj vr vq (.inr nq)
 have hz : (Wx (Qm p q) (Qm q p) == 0) = Uw p q := by
  unfold Uw
  by_cases e : p = q
  ·subst e
   have : Qm p p ≤ 0 := (y8p vp vp np).2 fun _ _ _ h => h
   rw [decide_eq_true rfl, v1x (by omega)]
  ·rw [decide_eq_false e]
   refine y6w fun h => e ?_
   have h1 := (y8p vp vq nq).1 (by omega)
   have h2 := (y8p vq vp np).1 (by omega)
   exact w3n kp kq fun x y z => ⟨h1 x y z, h2 x y z⟩
 have hso : Wa p q = true := decide_eq_true (by omega)
 have hd : decide (Wx (Qm p r) (Qm r p) ≤ IntKind.wrap .i64 (Wx (Qm p q) (Qm q p) + Wx (Qm q r) (Qm r q))) = true := by
  rw [Zk (by omega)]
  exact decide_eq_true (by omega)
 rw [v5a (Qm q p) (Qm p q), beq_self_eq_true, hso, hz, hd, beq_self_eq_true]
 simp only [Bool.not_true, cond_true, cond_false, show ((0 : Int) != 0) = false from rfl, BEq.rfl]
 rfl⟩
end Go.Am
end
