/- A part of a proof: several texts in one. -/
import Derived.Test.YtmanggcjimaehaaGreatKt2
import Derived.Shelf.SlSortCmp.NoneTotal
set_option maxRecDepth 1000000
set_option maxHeartbeats 8000000
set_option linter.unusedVariables false
set_option linter.unusedSimpArgs false
noncomputable section
namespace Go.Am
open Go.Proofs
theorem Ja (l m : List R6) : (Yt l m).length ≤ 2 * l.length + 2 * m.length := by
 refine Nat.le_trans (z3t _) ?_
 rw [List.length_append, Qg, Qg]; omega
theorem z0p (l : List R6) (z : Int) : (atV l z).length ≤ l.length := by
 unfold atV
 rw [List.length_map]
 exact List.length_filter_le _ _
def w5k (out : List R6) (first : Nat) (z : Int) : List R6 := out.take first ++ (out.drop first).map fun r => ⟨r.a, r.b, r.c, r.d, r.e, z⟩
def v5q (z z' : Int) (s : List R4) : List R6 := s.map fun p => ⟨p.a, p.b, z, p.c, p.d, z'⟩
section
variable (kind : Int) (l m : List R6)
def y6m (z : Int) : List R4 := joV kind (atV l z) (atV m z)
def z7z (z : Int) : Bool := decide (400 < (y6m kind l m z).length) || (decide (400 < (joV 2 (atV l z) []).length) || decide (400 < (joV 2 (atV m z) []).length))
def jsF : Nat → Nat → List R6 → List R4 → Nat → Option (List R6)
 | 0, _, out, _, _ => some out
 | k + 1, i, out, last, first =>
  bif z7z kind l m (rd (Yt l m) i) then none
  else bif decide (0 < i) && Vs (y6m kind l m (rd (Yt l m) i)) last then jsF k (i + 1) (w5k out first (rd (Yt l m) (i + 1))) last first
  else jsF k (i + 1) (out ++ v5q (rd (Yt l m) i) (rd (Yt l m) (i + 1)) (y6m kind l m (rd (Yt l m) i))) (y6m kind l m (rd (Yt l m) i)) out.length
def jsO : Option (List R6) := jsF kind l m ((Yt l m).length - 1) 0 [] [] 0
def x2c : Option (List R6) → List AVal
 | none => [.nils, .bool false]
 | some out => [.dat out.length (Zz out), .bool (decide ((out.length : Int) ≤ 400))]
def z4d : List R6 := (jsO kind l m).getD []
def y8a : Bool := match jsO kind l m with
 | none => false
 | some out => decide ((out.length : Int) ≤ 400)
end
def z9l (_ : Int) (l m : List R6) : Bool := decide (l.length ≤ 5000 ∧ m.length ≤ 5000)
section
variable (kind : Int) (l m : List R6) (hl : l.length ≤ 5000) (hm : m.length ≤ 5000)
include hl hm
theorem v1h (last : List R4) (first : Int) (i : Nat) (hi : i + 1 < (Yt l m).length) (s : List R4) (hs : s.length ≤ 1000000) : ∀ (k j : Nat) (out : List R6), j + k = s.length → out.length ≤ 10000000000 + j →
  ∃ n, ∀ N, Ya (Vk kind l m) (N + n) (.to (.h1 out last first (i : Int) s (j : Int))) = Ya (Vk kind l m) N (.to (.h0 (out ++ v5q (rd (Yt l m) i) (rd (Yt l m) (i + 1)) (s.drop j)) last first ((i + 1 : Nat) : Int)))
 | 0, j, out, h, ho => by
  have hx := Ja l m
  refine ⟨1, fun N => ?_⟩
  rw [List.drop_eq_nil_of_le (by omega), Zv]
  simp (disch := omega) only [Vk, Zg, Zq, Yx, Zj, Zx, cond_false, v5q, List.map_nil, List.append_nil]
 | k + 1, j, out, h, ho => by
  have hx := Ja l m
  obtain ⟨n, hn⟩ := v1h last first i hi s hs k (j + 1) (out ++ v5q (rd (Yt l m) i) (rd (Yt l m) (i + 1)) [rd s j]) (by omega) (by simp [v5q]; omega)
  refine ⟨n + 1, fun N => ?_⟩
  have := hn N
  rw [Yi (show j < s.length by omega), ← Nat.add_assoc, Zv]
  simp (disch := omega) only [Vk, Zg, Zq, Zs, Zr, Yq, Yw, Zc, Zj, Zx, Yu, Zu, Nat.zero_add, decide_true, Bool.and_true, Bool.true_and, cond_true]
  rw [List.append_assoc] at this
  exact this
omit hl hm in
theorem w9d (out : List R6) (j : Nat) (x : Int) (h : j < out.length) : w5k (out.set j ⟨(rd out j).a, (rd out j).b, (rd out j).c, (rd out j).d, (rd out j).e, x⟩) (j + 1) x = w5k out j x := by
 unfold w5k
 rw [Yi h, List.map_cons]
 have e1 : (out.set j ⟨(rd out j).a, (rd out j).b, (rd out j).c, (rd out j).d, (rd out j).e, x⟩).take (j + 1) = out.take j ++ [⟨(rd out j).a, (rd out j).b, (rd out j).c, (rd out j).d, (rd out j).e, x⟩] := by
  apply List.ext_getElem
  ·simp; omega
  ·intro n h1 h2
   simp only [List.getElem_take, List.getElem_set]
   by_cases e : j = n
   ·subst e
    rw [if_pos rfl, List.getElem_append_right (by simp only [List.length_take]; omega)]
    simp
   ·rw [if_neg e, List.getElem_append_left (by simp at h1 ⊢; omega), List.getElem_take]
 have e2 : (out.set j ⟨(rd out j).a, (rd out j).b, (rd out j).c, (rd out j).d, (rd out j).e, x⟩).drop (j + 1) = out.drop (j + 1) := by
  rw [List.drop_set]; rw [if_pos (by omega)]
 rw [e1, e2, List.append_assoc]; rfl
theorem v1g (last : List R4) (first : Int) (i : Nat) (hi : i + 1 < (Yt l m).length) : ∀ (k j : Nat) (out : List R6), j + k = out.length → out.length ≤ 10000000000 →
  ∃ n, ∀ N, Ya (Vk kind l m) (N + n) (.to (.h2 out last first (i : Int) (j : Int))) = Ya (Vk kind l m) N (.to (.h0 (w5k out j (rd (Yt l m) (i + 1))) last first ((i + 1 : Nat) : Int)))
 | 0, j, out, h, ho => by
  have hx := Ja l m
  refine ⟨1, fun N => ?_⟩
  have e : w5k out j (rd (Yt l m) (i + 1)) = out := by
   unfold w5k; rw [List.drop_eq_nil_of_le (by omega), List.map_nil, List.append_nil, List.take_of_length_le (by omega)]
  rw [e, Zv]
  simp (disch := omega) only [Vk, Zg, Zq, Yx, Zj, Zx, cond_false]
 | k + 1, j, out, h, ho => by
  have hx := Ja l m
  obtain ⟨n, hn⟩ := v1g last first i hi k (j + 1) (out.set j ⟨(rd out j).a, (rd out j).b, (rd out j).c, (rd out j).d, (rd out j).e, rd (Yt l m) (i + 1)⟩) (by simp; omega) (by simpa using ho)
  refine ⟨n + 1, fun N => ?_⟩
  have := hn N
  rw [w9d out j _ (by omega)] at this
  rw [← Nat.add_assoc, Zv]
  simp (disch := omega) only [Vk, Zg, Zq, Zs, Zr, Yy, Yq, Yw, Zc, Zj, Zx, Yu, Zu, Nat.zero_add, decide_true, Bool.and_true, Bool.true_and, cond_true]
  exact this
theorem w1g : ∀ (k i : Nat) (out : List R6) (last : List R4) (first : Nat), k = (Yt l m).length - 1 - i → i ≤ (Yt l m).length → out.length ≤ i * 400 → last.length ≤ 400 → first ≤ out.length →
  ∃ n, Ya (Vk kind l m) n (.to (.h0 out last (first : Int) (i : Int))) = .ret (x2c (jsF kind l m k i out last first))
 | 0, i, out, last, first, h, hi, ho, hla, hf => by
  have hx := Ja l m
  refine ⟨1, ?_⟩
  rw [Zv]
  simp (disch := omega) only [Vk, Zg, Zq, Yx, Zj, Zx, cond_false, Zp, jsF, x2c]
 | k + 1, i, out, last, first, h, hi, ho, hla, hf => by
  have hx := Ja l m
  have hi1 : i + 1 < (Yt l m).length := by omega
  have hbig : i * 400 ≤ 20000 * 400 := Nat.mul_le_mul_right _ (by omega)
  have a1 := fun z => z0p l z
  have a2 := fun z => z0p m z
  have w1 : ∀ z, z3h l z = true := fun z => decide_eq_true (by omega)
  have w2 : ∀ z, z3h m z = true := fun z => decide_eq_true (by omega)
  have w3 : ∀ k z, Qi k (atV l z) (atV m z) = true := fun k z => decide_eq_true (by have := a1 z; have := a2 z; omega)
  have w4 : ∀ k z, Qi k (atV l z) ([] : List R4) = true := fun k z => decide_eq_true (by have := a1 z; simp; omega)
  have w5 : ∀ k z, Qi k (atV m z) ([] : List R4) = true := fun k z => decide_eq_true (by have := a2 z; simp; omega)
  unfold jsF
  have hsec : y6m kind l m (rd (Yt l m) i) = joV kind (atV l (rd (Yt l m) i)) (atV m (rd (Yt l m) i)) := rfl
  by_cases c1 : 400 < (y6m kind l m (rd (Yt l m) i)).length
  ·refine ⟨1, ?_⟩
   have hb : z7z kind l m (rd (Yt l m) i) = true := by unfold z7z; rw [decide_eq_true c1]; rfl
   rw [hb, cond_true, Zv]
   rw [hsec] at c1
   simp (disch := omega) only [Vk, Zg, Zq, Zs, Yf, Zr, Zj, Zx, Zu, w1, w2, w3, w4, w5, Bool.and_true, cond_true, Zp, x2c]
  by_cases c2 : 400 < (joV 2 (atV l (rd (Yt l m) i)) []).length
  ·refine ⟨1, ?_⟩
   have hb : z7z kind l m (rd (Yt l m) i) = true := by unfold z7z; rw [decide_eq_true c2, Bool.true_or, Bool.or_true]
   rw [hb, cond_true, Zv]
   rw [hsec] at c1
   simp (disch := omega) only [Vk, Zg, Zq, Zs, Yf, Xy, Zr, Zj, Zx, Zu, w1, w2, w3, w4, w5, Bool.and_true, cond_true, cond_false, Zp, x2c]
  by_cases c3 : 400 < (joV 2 (atV m (rd (Yt l m) i)) []).length
  ·refine ⟨1, ?_⟩
   have hb : z7z kind l m (rd (Yt l m) i) = true := by unfold z7z; rw [decide_eq_true c3, Bool.or_true, Bool.or_true]
   rw [hb, cond_true, Zv]
   rw [hsec] at c1
   simp (disch := omega) only [Vk, Zg, Zq, Zs, Yf, Xy, Zr, Zj, Zx, Zu, w1, w2, w3, w4, w5, Bool.and_true, cond_true, cond_false, Zp, x2c]
  have hb : z7z kind l m (rd (Yt l m) i) = false := by unfold z7z; rw [decide_eq_false c1, decide_eq_false c2, decide_eq_false c3]; rfl
  rw [hb, cond_false]
  have w6 : Ww (joV kind (atV l (rd (Yt l m) i)) (atV m (rd (Yt l m) i))) last = true := decide_eq_true (by rw [← hsec]; omega)
  rcases Yc (decide (0 < i) && Vs (y6m kind l m (rd (Yt l m) i)) last) with q | q
  ·obtain ⟨n3, h3⟩ := v1g kind l m hl hm last first i hi1 (out.length - first) first out (by omega) (by omega)
   obtain ⟨n0, h0⟩ := w1g k (i + 1) (w5k out first (rd (Yt l m) (i + 1))) last first (by omega) (by omega) (by simp [w5k]; omega) hla (by simp [w5k]; omega)
   refine ⟨n0 + n3 + 1, ?_⟩
   rw [q, cond_true, Zv]
   simp only [Bool.and_eq_true, decide_eq_true_eq] at q
   obtain ⟨q1, q2⟩ := q
   rw [hsec] at c1 q2
   simp (disch := omega) only [Vk, Zg, Zq, Zs, Yf, Xy, Zr, Zj, Zx, Zu, w1, w2, w3, w4, w5, w6, q2, Bool.and_true, cond_true, cond_false]
   rw [h3 n0, h0]
  ·obtain ⟨n2, h2⟩ := v1h kind l m hl hm (y6m kind l m (rd (Yt l m) i)) (out.length : Int) i hi1 (y6m kind l m (rd (Yt l m) i)) (by omega) (y6m kind l m (rd (Yt l m) i)).length 0 out (Nat.zero_add _) (by omega)
   obtain ⟨n0, h0⟩ := w1g k (i + 1) (out ++ v5q (rd (Yt l m) i) (rd (Yt l m) (i + 1)) (y6m kind l m (rd (Yt l m) i))) (y6m kind l m (rd (Yt l m) i)) out.length (by omega) (by omega) (by simp [v5q]; omega) (by omega) (by simp)
   refine ⟨n0 + n2 + 1, ?_⟩
   rw [q, cond_false, Zv]
   have h2' := h2 n0
   simp only [List.drop_zero, z2n] at h2'
   have c1' := c1
   rw [hsec] at c1'
   by_cases hi0 : 0 < i
   ·rw [decide_eq_true hi0, Bool.true_and, hsec] at q
    simp (disch := omega) only [Vk, Zg, Zq, Zs, Yf, Xy, Zr, Zj, Zx, Zu, w1, w2, w3, w4, w5, w6, q, Bool.and_true, cond_true, cond_false]
    rw [← h0]; exact h2'
   ·simp (disch := omega) only [Vk, Zg, Zq, Zs, Yf, Xy, Zr, Zj, Zx, Zu, w1, w2, w3, w4, w5, w6, Bool.and_true, cond_true, cond_false]
    rw [← h0]; exact h2'
end
theorem v4u (kind : Int) (l m : List R6) (h : z9l kind l m = true) : ∃ N, Ya (Vk kind l m) N (z8x kind l m) = .ret (x2c (jsO kind l m)) := by
 obtain ⟨hl, hm⟩ := of_decide_eq_true h
 obtain ⟨N, hN⟩ := w1g kind l m hl hm ((Yt l m).length - 1) 0 [] [] 0 rfl (Nat.zero_le _) (Nat.zero_le _) (Nat.zero_le _) (Nat.le_refl _)
 refine ⟨N, ?_⟩
 have w1 : z5v l m = true := decide_eq_true ⟨by omega, by omega⟩
 simp only [z8x, Zg, Zq, w1, cond_true]
 exact hN
def fJs : List AVal → Option (AVal × Bool)
 | [.int .i64 x0, a1, a2] => match asL R6 a1, asL R6 a2 with
  | some (L1, g1, n1), some (L2, g2, n2) => some (.tup [.dat (z4d x0 L1 L2).length (Zz (z4d x0 L1 L2)), .bool (y8a x0 L1 L2)], isT R6 n1 g1 && (isT R6 n2 g2 && (z9l x0 L1 L2)))
  | _, _ => none
 | _ => none
theorem fJs_ok {S : Specs} (hS : Zk Tryz.prog S) : Zk Tryz.prog (S.with v2m fJs) := by
 refine v6v hS (by kernel_rfl) fun args v h => ?_
 unfold fJs at h
 split at h
 ·rename_i x0 a1 a2
  split at h
  ·rename_i L1 g1 n1 L2 g2 n2 e1 e2
   simp only [Option.some.injEq, Prod.mk.injEq, Bool.and_eq_true] at h
   obtain ⟨rfl, ho1, ho2, hw⟩ := h
   obtain ⟨N, hN⟩ := v4u x0 L1 L2 hw
   refine ⟨_, x2c (jsO x0 L1 L2), (.cons (.refl _) (.cons (asL_le e1 ho1) (.cons (asL_le e2 ho2) .nil))), ?_, w6t x0 L1 L2 N _ hN, 3, ?_⟩
   ·unfold z4d y8a
    cases jsO x0 L1 L2 with
    | none => exact fun ρ u hu => z9z (.cons (z4c R6) (RLe.refl _)) ρ u hu
    | some out => exact fun ρ u hu => hu
   ·cases jsO x0 L1 L2 <;> rfl
  ·cases h
 ·cases h
def T4 : Specs := T3.with v2m fJs
theorem T4_ok : Zk Tryz.prog T4 := fJs_ok z7a
end Go.Am
namespace Go.Am
open Go.Proofs Go.Sort Go.Shelf Go.RowKit Go.Lib
def v7z (x : E3) : List Value := y4a x.1
theorem v7y (l : List R3) (h : z8b l = true) : Go.Sort.flatK v7z 3 (y6n l h).toArray = Go.Sort.flatK y4a 3 l.toArray := by
 have hl := Jc l h
 unfold Go.Sort.flatK
 rw [show (y6n l h).toArray.size = l.toArray.size by simpa using hl]
 apply Array.ext
 ·simp
 ·intro t h1 h2
  simp only [Array.getElem_map, Array.getElem_range]
  have ht : t < l.length * 3 := by simpa using h1
  have hq : t / 3 < l.length := by omega
  congr 1
  rw [getElem!_pos (y6n l h).toArray (t / 3) (by simpa [hl] using hq), getElem!_pos l.toArray (t / 3) (by simpa using hq)]
  unfold v7z
  congr 1
  have := z9t l h
  have e := congrArg (fun z : List R3 => z[t / 3]?) this
  simp only [List.getElem?_map] at e
  rw [List.getElem?_eq_getElem (by rw [hl]; exact hq), List.getElem?_eq_getElem hq] at e
  simpa using e
theorem w8x (d : Array E3) : Go.Sort.flatK v7z 3 d = Go.Sort.flatK y4a 3 (d.toList.map Subtype.val).toArray := by
 unfold Go.Sort.flatK
 rw [show d.size = (d.toList.map Subtype.val).toArray.size by simp]
 apply Array.ext
 ·simp
 ·intro t h1 h2
  simp only [Array.getElem_map, Array.getElem_range]
  have ht : t < d.size * 3 := by simpa using h1
  have hq : t / 3 < d.size := by omega
  congr 1
  rw [getElem!_pos d (t / 3) hq, getElem!_pos (d.toList.map Subtype.val).toArray (t / 3) (by simpa using hq)]
  simp [v7z]
theorem z5g (l : List R3) : y5l l.length (Qc (cvT l)).length = true := Ux (by
 rw [Zg]
 by_cases h : z8b l = true
 ·exact (Jn l h).1.length_eq.symm
 ·unfold Qc; rw [dif_neg h])
theorem isAgg3 : ∀ w, (isAgg (Tryz.sortEnd_ren.t 24)).run Tryz.prog w = .ok true w := fun w => by rfl
theorem size3 : ∀ w, (Go.sizeOf (Tryz.sortEnd_ren.t 24)).run Tryz.prog w = .ok 3 w := fun w => by rfl
theorem w0h : y9i Tryz.prog v2e (x5s R3 Qc z8b x5d) := by
 refine w3w (fun L => ?_) (fun blk off cap L w hb hH hblk hsz => ?_) fun p cap fv w => AnyF.slices_SortFunc_none Tryz.sortEnd p cap fv w
 ·by_cases h : z8b L = true
  ·exact (Jn L h).1.length_eq
  ·unfold Qc; rw [dif_neg h]
 ·have eg : ∀ args w, (callFunc 201 args).run Tryz.prog w = .ok (.enter 201 args) w := enters_of Tryz.func201 (by kernel_rfl) rfl
  have hcmp : CmpLays Tryz.prog 201 #[] v7z 3 cf3 blk off (y6n L hb).toArray.size w := fun m os dk _ x y => by
   have hx := of_decide_eq_true x.2
   have hy := of_decide_eq_true y.2
   exact Tryz.cmpEnd x.1.a x.1.b x.1.c y.1.a y.1.b y.1.c hx hy _
  have hH' : HoldsK v7z 3 w blk off (y6n L hb).toArray := by
   unfold HoldsK
   rw [v7y L hb]; exact hH
  have hcon := AnyQ.slices_SortFunc_eq Tryz.sortEnd 3 isAgg3 size3 v7z (fun x => y1s x.1) (fun x v hv => by
   obtain ⟨a, ha, rfl⟩ := List.mem_map.1 hv
   have : x2e a = true := List.all_eq_true.1 (v3j.num x.1) a ha
   cases a <;> first | rfl | (simp [x2e] at this; done)) cf3 swo3 201 #[] blk off cap (y6n L hb).toArray w eg hcmp hH' hblk (by simpa [Jc] using hsz)
  have hs : (y6n L hb).toArray.size = L.length := by simp [Jc]
  rw [hs] at hcon
  refine Calls.mono hcon fun e w' ⟨he, n, os, hw⟩ => ⟨he, n, os, ?_⟩
  rw [hw]
  unfold sortWorldK putRowK
  rw [w8x]
  unfold Qc
  rw [dif_pos hb]
  rfl
def Xd (zs : List Int) : List Int := zs.mergeSort fun x y => decide (x ≤ y)
theorem w0g : y9i Tryz.prog nSort (fRow Xd) :=
 v8a (fun zs => List.length_mergeSort zs) (fun blk off cap zs w hH hb hz => Tryz.slices_Sort_int blk off cap zs w hH hb hz) fun p cap w => Tryz.slices_Sort_int_none p cap w
def Wc (zs : List Int) : List Int := compact zs ++ List.replicate (zs.length - (compact zs).length) 0
def v8m (zs : List Int) : Nat := (compact zs).length
theorem Kr (zs : List Int) : (Wc zs).length = zs.length := by have := compact_length_le zs; simp [Wc]; omega
theorem z5h (n : Nat) (c : Nat → Int) : y5l n (Wc (Zt n c)).length = true := Ux (by rw [Kr]; simp [Zt])
theorem w3e (w : World) : grow w #[] = w := by simp [grow]
theorem x3b : y9i Tryz.prog x5e (fCut Wc v8m) :=
 v8b (fun zs => by have := compact_length_le zs; simp [Wc]; omega) (fun zs => compact_length_le zs)
  (fun blk off cap zs w hH hb hz hcap => (Tryz.slices_Compact_int blk off cap zs w hH (by omega) hcap).mono fun e w' ⟨he, q, hw⟩ => ⟨he, q, #[], by rw [hw, w3e]; rfl⟩)
  fun p cap w => Tryz.slices_Compact_int_empty p cap w
def T5 : Specs := ((T4.withE v2e (x5s R3 Qc z8b x5d)).withE nSort (fRow Xd)).withE x5e (fCut Wc v8m)
theorem Kc : Zk Tryz.prog T5 := y4i (y4i (y4i T4_ok (by kernel_rfl) w0h) (by kernel_rfl) w0g) (by kernel_rfl) x3b
end Go.Am
namespace Go.Am
open Go.Proofs
-- h2: index into an array (choices [true, true, false, false])
-- h2: index into an array (choices [true, false, true, false, false])
-- h2: index into an array (choices [true, false, false, true, true, false, false])
-- h2: index into an array (choices [true, false, false, true, false, false, false])
-- h2: index into an array (choices [true, false, false, false, false, false])
inductive spmS where
 | h0 (v8 : Int)
 | h1 (v3 : List R3) (v17 : Int)
 | h2 (v5 : List R3) (v6 : Int) (v7 : Int) (v_2_0 : Int) (v_2_1 : Int) (v_3_0 : Int) (v_4_0 : Bool) (v_6_0 : List R2)
def spmC (l0 : List R2) : spmS → Cfg
 | .h0 v8 => ⟨⟨19, 0, true⟩, none, (Za Tryz.prog 195 [1, 0, 1, 0, 0] 0), none, (Zy Tryz.prog 5), ⟨Ym [(0, (.dat l0.length (Zz l0))), (1, (.fn 184 [])), (7, (ii (l0.length : Int))), (8, (ii v8))], Jw [] 0, 0, [], true⟩, [⟨⟨9, 0, true⟩, (We Tryz.prog 183 [1, 0] 2), (Za Tryz.prog 183 [1, 0] 1), none, (Zy Tryz.prog 5), Ym [(5, (.dat l0.length (Zz l0))), (6, (.fn 184 []))]⟩, ⟨⟨11, 0, true⟩, (We Tryz.prog 157 [1, 1, 0, 0] 1), (Za Tryz.prog 157 [1, 1, 0, 0] 1), none, (Zy Tryz.prog 15), Ym [(0, (.dat l0.length (Zz l0))), (7, (.dat l0.length (Zz l0)))]⟩], .leaf⟩
 | .h1 v3 v17 => ⟨⟨38, 0, true⟩, none, (Za Tryz.prog 197 [1, 1, 0, 1, 0, 0, 1, 1, 0, 0, 1, 1, 0, 0] 0), none, (Zy Tryz.prog 3), ⟨Ym [(3, (.sla 7 3 0 v3.length (.un 3))), (4, (ii 0)), (8, (.sl 0 0 2 (.un 1))), (9, (ii 2)), (10, (ii 0)), (15, (.dat l0.length (Zz l0))), (16, (ii (l0.length : Int))), (17, (ii v17))], Jw [⟨[(.dat l0.length (Zz l0)), .nils], 180, none⟩, ⟨[(.fn 187 [])], 213, none⟩, ⟨[(ii 0), (ii 0)], 142, none⟩, ⟨[.nils], 180, none⟩, ⟨[(ii 0)], 3, none⟩, ⟨[(.bool false)], 4, none⟩, ⟨[(.fn 196 [(.ptr 5 0), (.ptr 4 0), (.ptr 3 0)])], 242, none⟩, ⟨Yg v3.length (Zz v3), 246, some ⟨3, v3.length, (Zz v3)⟩⟩] 0, 8, [], true⟩, [⟨⟨42, 0, true⟩, (We Tryz.prog 186 [1, 1, 1, 1, 1, 0, 0] 3), (Za Tryz.prog 186 [1, 1, 1, 1, 1, 0, 0] 1), none, (Zy Tryz.prog 8), Ym [(5, (.ptr 1 0)), (6, .nils), (7, (.ptr 2 0)), (8, (.ptr 3 0)), (9, (.ptr 4 0)), (10, (.ptr 5 0)), (11, (.ptr 6 0)), (16, (.sl 0 0 2 (.un 1)))]⟩, ⟨⟨11, 0, true⟩, (We Tryz.prog 157 [1, 1, 1, 0] 1), (Za Tryz.prog 157 [1, 1, 1, 0] 1), none, (Zy Tryz.prog 15), Ym [(9, (.dat l0.length (Zz l0)))]⟩], .leaf⟩
 | .h2 v5 v6 v7 v_2_0 v_2_1 v_3_0 v_4_0 v_6_0 => ⟨⟨16, 0, true⟩, none, (Za Tryz.prog 205 [1, 0, 0] 0), none, [], ⟨Ym [(0, (.yld 0)), (5, (.sla 7 3 0 v5.length (.un 3))), (6, (ii v6)), (7, (ii v7))], z7l [(1, ⟨[(.fn 187 [])], 213, none⟩), (2, ⟨[(ii v_2_0), (ii v_2_1)], 142, none⟩), (3, ⟨[(ii v_3_0)], 3, none⟩), (4, ⟨[(.bool v_4_0)], 4, none⟩), (5, ⟨[(.fn 196 [(.ptr 4 0), (.ptr 3 0), (.ptr 6 0)])], 242, none⟩), (6, ⟨[(.sla 8 2 0 v_6_0.length (.un 2))], 180, none⟩), (7, ⟨Yg v5.length (Zz v5), 246, some ⟨3, v5.length, (Zz v5)⟩⟩), (8, ⟨Yg v_6_0.length (Zz v_6_0), 183, some ⟨2, v_6_0.length, (Zz v_6_0)⟩⟩)], 9, [], true⟩, [⟨⟨42, 0, true⟩, none, (.inRangeFunc 0 :: (Za Tryz.prog 186 [1, 1, 1, 1, 1, 0, 1, 0] 1)), none, (Zy Tryz.prog 8), Ym [(6, .nils), (8, (.ptr 6 0))]⟩, ⟨⟨11, 0, true⟩, (We Tryz.prog 157 [1, 1, 1, 0] 1), (Za Tryz.prog 157 [1, 1, 1, 0] 1), none, (Zy Tryz.prog 15), Ym [(9, (.dat l0.length (Zz l0)))]⟩], (z7m [(0, ⟨.ready, none, 42, Ym [(5, (.ptr 1 0)), (7, (.ptr 2 0)), (9, (.ptr 3 0)), (10, (.ptr 4 0)), (11, (.ptr 5 0))], [18], (Wv Tryz.prog 186 [1, 1, 1, 1, 1, 0, 1, 0, 0]), (Wv Tryz.prog 186 [1, 1, 1, 1, 1, 0, 1, 0, 1])⟩)])⟩
def spmN0 : List (Option (List Nat)) := [some [0, 1, 7, 8], some [5, 6], some [0, 7]]
def spmM0 : List (Option (List Nat)) := []
def w0d : List (Option (List Nat)) := [some [3, 4, 8, 9, 10, 15, 16, 17], some [5, 6, 7, 8, 9, 10, 11, 16], some [9]]
def w0e : List (Option (List Nat)) := []
def y0e : List (Option (List Nat)) := [some [0, 5, 6, 7], some [6, 8], some [9]]
def y0f : List (Option (List Nat)) := [some [5, 7, 9, 10, 11], none, none, none, none, none, none, none, none]
def Vd (l0 : List R2) : spmS → Xo spmS
 | .h0 v8 => (bif (decide (v8 < (l0.length : Int))) then (bif ((decide (0 ≤ v8 ∧ v8 < (l0.length : Int))) && true) then (bif (decide ((rd l0 v8.toNat).a < (rd l0 v8.toNat).b)) then (bif (decide ((rd l0 v8.toNat).a ≥ (-1000000))) then (bif (!(decide ((rd l0 v8.toNat).b ≤ 1000000))) then (bif (decide (v8 ≥ 0)) then (.ret [.nils, (.int .i64 8)]) else (.to (.h1 ([] : List R3) 0))) else (.to (.h0 (IntKind.wrap .i64 (v8 + 1))))) else (bif (decide (v8 ≥ 0)) then (.ret [.nils, (.int .i64 8)]) else (.to (.h1 ([] : List R3) 0)))) else (bif (decide (v8 ≥ 0)) then (.ret [.nils, (.int .i64 8)]) else (.to (.h1 ([] : List R3) 0)))) else .stuck) else (.to (.h1 ([] : List R3) 0)))
 | .h1 v3 v17 => (bif (decide (v17 < (l0.length : Int))) then (bif ((decide (0 ≤ v17 ∧ v17 < (l0.length : Int))) && true) then (bif (Nat.beq 3 3 && ((decide (0 + v3.length = v3.length)) && decide ((v3.length + 2 + 1) * (24 + 1) ≤ Ur))) then (.to (.h1 (v3 ++ [(R3.mk (rd l0 v17.toNat).a 0 1), (R3.mk (rd l0 v17.toNat).b 0 (-1))]) (IntKind.wrap .i64 (v17 + 1)))) else .stuck) else .stuck) else (bif (z8b (cvT v3)) then (bif (decide (v3.length < 4611686018427387904)) then (bif (decide (v3.length = v3.length)) then (.to (.h2 (Qc (cvT v3)) (v3.length : Int) 0 0 0 0 false ([] : List R2))) else .stuck) else .stuck) else .stuck))
 | .h2 v5 v6 v7 v_2_0 v_2_1 v_3_0 v_4_0 v_6_0 => (bif (decide (v7 < v6)) then (bif ((decide (0 ≤ v7 ∧ v7 < (v5.length : Int))) && true) then (bif (decide ((0 + v7.toNat) < v5.length)) then (bif (!v_4_0) then (bif (decide ((rd v5 (0 + v7.toNat)).b = Int.ofNat 0)) then (.to (.h2 v5 v6 (IntKind.wrap .i64 (v7 + 1)) (IntKind.wrap .i64 (v_2_0 + (rd v5 (0 + v7.toNat)).c)) v_2_1 (rd v5 (0 + v7.toNat)).a (x5o (decide ((IntKind.wrap .i64 (v_2_0 + (rd v5 (0 + v7.toNat)).c)) > 0)) (decide (v_2_1 > 0))) v_6_0)) else (bif (decide ((rd v5 (0 + v7.toNat)).b = Int.ofNat 1)) then (.to (.h2 v5 v6 (IntKind.wrap .i64 (v7 + 1)) v_2_0 (IntKind.wrap .i64 (v_2_1 + (rd v5 (0 + v7.toNat)).c)) (rd v5 (0 + v7.toNat)).a (x5o (decide (v_2_0 > 0)) (decide ((IntKind.wrap .i64 (v_2_1 + (rd v5 (0 + v7.toNat)).c)) > 0))) v_6_0)) else .stuck)) else (bif (v_3_0 == (rd v5 (0 + v7.toNat)).a) then (bif (decide ((rd v5 (0 + v7.toNat)).b = Int.ofNat 0)) then (.to (.h2 v5 v6 (IntKind.wrap .i64 (v7 + 1)) (IntKind.wrap .i64 (v_2_0 + (rd v5 (0 + v7.toNat)).c)) v_2_1 (rd v5 (0 + v7.toNat)).a (x5o (decide ((IntKind.wrap .i64 (v_2_0 + (rd v5 (0 + v7.toNat)).c)) > 0)) (decide (v_2_1 > 0))) v_6_0)) else (bif (decide ((rd v5 (0 + v7.toNat)).b = Int.ofNat 1)) then (.to (.h2 v5 v6 (IntKind.wrap .i64 (v7 + 1)) v_2_0 (IntKind.wrap .i64 (v_2_1 + (rd v5 (0 + v7.toNat)).c)) (rd v5 (0 + v7.toNat)).a (x5o (decide (v_2_0 > 0)) (decide ((IntKind.wrap .i64 (v_2_1 + (rd v5 (0 + v7.toNat)).c)) > 0))) v_6_0)) else .stuck)) else (bif (decide ((v_6_0.length : Int) > 0)) then (bif ((decide (0 ≤ (IntKind.wrap .i64 ((v_6_0.length : Int) - 1)) ∧ (IntKind.wrap .i64 ((v_6_0.length : Int) - 1)) < (v_6_0.length : Int))) && true) then (bif (decide ((0 + (Int.toNat (IntKind.wrap .i64 ((v_6_0.length : Int) - 1)))) < v_6_0.length)) then (bif ((rd v_6_0 (0 + (Int.toNat (IntKind.wrap .i64 ((v_6_0.length : Int) - 1))))).b == v_3_0) then (bif (decide ((rd v5 (0 + v7.toNat)).b = Int.ofNat 0)) then (.to (.h2 v5 v6 (IntKind.wrap .i64 (v7 + 1)) (IntKind.wrap .i64 (v_2_0 + (rd v5 (0 + v7.toNat)).c)) v_2_1 (rd v5 (0 + v7.toNat)).a (x5o (decide ((IntKind.wrap .i64 (v_2_0 + (rd v5 (0 + v7.toNat)).c)) > 0)) (decide (v_2_1 > 0))) (v_6_0.set (0 + (Int.toNat (IntKind.wrap .i64 ((v_6_0.length : Int) - 1)))) (R2.mk (rd v_6_0 (0 + (Int.toNat (IntKind.wrap .i64 ((v_6_0.length : Int) - 1))))).a (rd v5 (0 + v7.toNat)).a)))) else (bif (decide ((rd v5 (0 + v7.toNat)).b = Int.ofNat 1)) then (.to (.h2 v5 v6 (IntKind.wrap .i64 (v7 + 1)) v_2_0 (IntKind.wrap .i64 (v_2_1 + (rd v5 (0 + v7.toNat)).c)) (rd v5 (0 + v7.toNat)).a (x5o (decide (v_2_0 > 0)) (decide ((IntKind.wrap .i64 (v_2_1 + (rd v5 (0 + v7.toNat)).c)) > 0))) (v_6_0.set (0 + (Int.toNat (IntKind.wrap .i64 ((v_6_0.length : Int) - 1)))) (R2.mk (rd v_6_0 (0 + (Int.toNat (IntKind.wrap .i64 ((v_6_0.length : Int) - 1))))).a (rd v5 (0 + v7.toNat)).a)))) else .stuck)) else (bif (Nat.beq 2 2 && ((decide (0 + v_6_0.length = v_6_0.length)) && decide ((v_6_0.length + 1 + 1) * (16 + 1) ≤ Ur))) then (bif (decide ((rd v5 (0 + v7.toNat)).b = Int.ofNat 0)) then (.to (.h2 v5 v6 (IntKind.wrap .i64 (v7 + 1)) (IntKind.wrap .i64 (v_2_0 + (rd v5 (0 + v7.toNat)).c)) v_2_1 (rd v5 (0 + v7.toNat)).a (x5o (decide ((IntKind.wrap .i64 (v_2_0 + (rd v5 (0 + v7.toNat)).c)) > 0)) (decide (v_2_1 > 0))) (v_6_0 ++ [(R2.mk v_3_0 (rd v5 (0 + v7.toNat)).a)]))) else (bif (decide ((rd v5 (0 + v7.toNat)).b = Int.ofNat 1)) then (.to (.h2 v5 v6 (IntKind.wrap .i64 (v7 + 1)) v_2_0 (IntKind.wrap .i64 (v_2_1 + (rd v5 (0 + v7.toNat)).c)) (rd v5 (0 + v7.toNat)).a (x5o (decide (v_2_0 > 0)) (decide ((IntKind.wrap .i64 (v_2_1 + (rd v5 (0 + v7.toNat)).c)) > 0))) (v_6_0 ++ [(R2.mk v_3_0 (rd v5 (0 + v7.toNat)).a)]))) else .stuck)) else .stuck)) else .stuck) else .stuck) else (bif (Nat.beq 2 2 && ((decide (0 + v_6_0.length = v_6_0.length)) && decide ((v_6_0.length + 1 + 1) * (16 + 1) ≤ Ur))) then (bif (decide ((rd v5 (0 + v7.toNat)).b = Int.ofNat 0)) then (.to (.h2 v5 v6 (IntKind.wrap .i64 (v7 + 1)) (IntKind.wrap .i64 (v_2_0 + (rd v5 (0 + v7.toNat)).c)) v_2_1 (rd v5 (0 + v7.toNat)).a (x5o (decide ((IntKind.wrap .i64 (v_2_0 + (rd v5 (0 + v7.toNat)).c)) > 0)) (decide (v_2_1 > 0))) (v_6_0 ++ [(R2.mk v_3_0 (rd v5 (0 + v7.toNat)).a)]))) else (bif (decide ((rd v5 (0 + v7.toNat)).b = Int.ofNat 1)) then (.to (.h2 v5 v6 (IntKind.wrap .i64 (v7 + 1)) v_2_0 (IntKind.wrap .i64 (v_2_1 + (rd v5 (0 + v7.toNat)).c)) (rd v5 (0 + v7.toNat)).a (x5o (decide (v_2_0 > 0)) (decide ((IntKind.wrap .i64 (v_2_1 + (rd v5 (0 + v7.toNat)).c)) > 0))) (v_6_0 ++ [(R2.mk v_3_0 (rd v5 (0 + v7.toNat)).a)]))) else .stuck)) else .stuck)))) else .stuck) else .stuck) else (.ret [(.dat v_6_0.length (Zz v_6_0)), (.int .i64 0)]))
def z8n (l0 : List R2) : Xo spmS := (bif (decide ((l0.length : Int) > 400)) then (.ret [.nils, (.int .i64 4)]) else (.to (.h0 0)))
theorem x6l (l0 : List R2) : ∀ s, Xn Tryz.prog (Zy Tryz.prog 157) (spmC l0) (spmC l0 s) (Vd l0 s)
 | .h0 v8 => (lb (fun k0 => (lo fun o1_0 => (lb (fun k1 => (lb (fun k2 => (lb (fun k3 => (lb (fun k4 => (lr 11 157 [1, 1, 0, 1, 0, 0] 1 15 [(2, .nils), (3, (ii 8))] (sl Kc 79 [] ⟨[], [], [some [2, 3]], []⟩ ⟨[], [], []⟩ (trs 9 []) (tt k4 (tt k3 (tt k2 (tt k1 (ww o1_0 (tt k0 nn))))))))) (fun k4 => (sl Kc 154 [(246, 3, Zz ([] : List R3))] ⟨[8, 2, 3, 4, 5, 6, 7, 9], [], w0d, w0e⟩ ⟨[(3, .grow 7 3)], [], []⟩ (trs 8 [false, true]) (pp (fl ([] : List R3) nn) (tt k4 (tt k3 (tt k2 (tt k1 (ww o1_0 (tt k0 nn))))))))))) (fun k3 => (sl Kc 69 [] ⟨[], [], spmN0, spmM0⟩ ⟨[], [], []⟩ (trs 7 [false]) (tt k3 (tt k2 (tt k1 (ww o1_0 (tt k0 nn))))))))) (fun k2 => (lb (fun k3 => (lr 11 157 [1, 1, 0, 1, 0, 0] 1 15 [(2, .nils), (3, (ii 8))] (sl Kc 79 [] ⟨[], [], [some [2, 3]], []⟩ ⟨[], [], []⟩ (trs 4 [false, false, false, true, true]) (tt k3 (tt k2 (tt k1 (ww o1_0 (tt k0 nn)))))))) (fun k3 => (sl Kc 154 [(246, 3, Zz ([] : List R3))] ⟨[8, 2, 3, 4, 5, 6, 7, 9], [], w0d, w0e⟩ ⟨[(3, .grow 7 3)], [], []⟩ (trs 4 [false, false, false, true, false, true]) (pp (fl ([] : List R3) nn) (tt k3 (tt k2 (tt k1 (ww o1_0 (tt k0 nn)))))))))))) (fun k1 => (lb (fun k2 => (lr 11 157 [1, 1, 0, 1, 0, 0] 1 15 [(2, .nils), (3, (ii 8))] (sl Kc 79 [] ⟨[], [], [some [2, 3]], []⟩ ⟨[], [], []⟩ [true, false, false, false, false, false, false, true, true] (tt k2 (tt k1 (ww o1_0 (tt k0 nn))))))) (fun k2 => (sl Kc 154 [(246, 3, Zz ([] : List R3))] ⟨[8, 2, 3, 4, 5, 6, 7, 9], [], w0d, w0e⟩ ⟨[(3, .grow 7 3)], [], []⟩ [true, false, false, false, false, false, false, true, false, true] (pp (fl ([] : List R3) nn) (tt k2 (tt k1 (ww o1_0 (tt k0 nn)))))))))))) (fun k0 => (sl Kc 98 [(246, 3, Zz ([] : List R3))] ⟨[6, 0, 1, 2, 3, 4, 5, 7], [], w0d, w0e⟩ ⟨[(3, .grow 7 3)], [], []⟩ [false, false, true] (pp (fl ([] : List R3) nn) (tt k0 nn)))))
 | .h1 v3 v17 => (lb (fun k0 => (lo fun o0 => (lo fun o1 => (sl Kc 36 [] ⟨[0, 1, 2, 3, 4, 5, 6, 10], [], w0d, w0e⟩ ⟨[(3, .len (v3 ++ [(R3.mk (rd l0 (tn v17)).a 0 1), (R3.mk (rd l0 (tn v17)).b 0 (-1))]).length)], (kpB 7 [.rowed 3 (v3 ++ [(R3.mk (rd l0 (tn v17)).a 0 1), (R3.mk (rd l0 (tn v17)).b 0 (-1))]).length (Zz (v3 ++ [(R3.mk (rd l0 (tn v17)).a 0 1), (R3.mk (rd l0 (tn v17)).b 0 (-1))]))]), []⟩ [true] (pp (xL (v3.length + 2) (v3 ++ [(R3.mk (rd l0 (tn v17)).a 0 1), (R3.mk (rd l0 (tn v17)).b 0 (-1))]).length) (pp (xL (v3.length + 2) (v3 ++ [(R3.mk (rd l0 (tn v17)).a 0 1), (R3.mk (rd l0 (tn v17)).b 0 (-1))]).length) (pp (xS (v3.length + 2) (Zd (Zz v3) 0 v3.length 3 [(ii (rd l0 (tn v17)).a), (ii 0), (ii 1), (ii (rd l0 (tn v17)).b), (ii 0), (ii (-1))]) (Zz (v3 ++ [(R3.mk (rd l0 (tn v17)).a 0 1), (R3.mk (rd l0 (tn v17)).b 0 (-1))]))) (pp (pp (xF (Zd (Zz v3) 0 v3.length 3 [(ii (rd l0 (tn v17)).a), (ii 0), (ii 1), (ii (rd l0 (tn v17)).b), (ii 0), (ii (-1))])) nn) (ww o1 (ww o0 (tt k0 nn))))))))))) (fun k0 => (lo fun o0 => (lo fun o1 => (lo fun o2 => (sl Kc 92 [(183, 2, Zz ([] : List R2))] ⟨[9, 1, 2, 4, 5, 6, 3, 7, 10], [], y0e, y0f⟩ ⟨[(5, .len (Qc (cvT v3)).length)], (kpB 6 [.cells [.grow 8 2], .rowed 3 (Qc (cvT v3)).length (Zz (Qc (cvT v3))), .keep]), []⟩ [false, true, false, false] (pp (xL v3.length (Qc (cvT v3)).length (by first | exact z5g _ | exact Ux rfl)) (pp (xL v3.length (Qc (cvT v3)).length (by first | exact z5g _ | exact Ux rfl)) (pp (xS v3.length (Zz (Qc (cvT v3))) (Zz (Qc (cvT v3)))) (pp (fl (Qc (cvT v3)) (fl ([] : List R2) nn)) (pp (pp (xG (Nat.beq 3 3)) (pp (xG (Nat.beq 3 3)) (pp (xG (Nat.beq 0 0)) (pp (pp (xG (decide (v3.length = v3.length))) (pp (xr v3) (xG (decide (v3.length < 4611686018427387904))))) (xG (z8b (cvT v3))))))) (tt k0 nn))))))))))))
 | .h2 v5 v6 v7 v_2_0 v_2_1 v_3_0 v_4_0 v_6_0 => (lb (fun k0 => (lo fun o1_0 => (lo fun o1_1 => (lb (fun k1 => (lb (fun k2 => (sl Kc 62 [] ⟨(List.range 9), [], y0e, y0f⟩ ⟨[], [], []⟩ (trs 5 [false, false, false]) (pp (fl v5 (fl v_6_0 nn)) (ww k2 (tt k1 (ww o1_1 (ww o1_0 (tt k0 nn)))))))) (fun k2 => (lb (fun k3 => (sl Kc 62 [] ⟨(List.range 9), [], y0e, y0f⟩ ⟨[], [], []⟩ (trs 6 [false, true, false, false]) (pp (fl v5 (fl v_6_0 nn)) (ww k3 (tt k1 (ww o1_1 (ww o1_0 (tt k0 nn)))))))) (fun k3 => trivial))))) (fun k1 => (lb (fun k2 => (lb (fun k3 => (sl Kc 62 [] ⟨(List.range 9), [], y0e, y0f⟩ ⟨[], [], []⟩ [true, false, false, false, true, false, false, false] (pp (fl v5 (fl v_6_0 nn)) (ww k3 (tt k2 (tt k1 (ww o1_1 (ww o1_0 (tt k0 nn))))))))) (fun k3 => (lb (fun k4 => (sl Kc 62 [] ⟨(List.range 9), [], y0e, y0f⟩ ⟨[], [], []⟩ [true, false, false, false, true, true, false, true, false, false] (pp (fl v5 (fl v_6_0 nn)) (ww k4 (tt k2 (tt k1 (ww o1_1 (ww o1_0 (tt k0 nn))))))))) (fun k4 => trivial))))) (fun k2 => (lb (fun k3 => (lo fun o4_0 => (lo fun o4_1 => (lb (fun k4 => (lb (fun k5 => (sl Kc 81 [] ⟨(List.range 9), [], y0e, y0f⟩ ⟨[], (kpB 6 [.cells [.len (v_6_0.set (0 + (tn (wr ((v_6_0.length : Int) - 1)))) (R2.mk (rd v_6_0 (0 + (tn (wr ((v_6_0.length : Int) - 1))))).a (rd v5 (0 + (tn v7))).a)).length], .keep, .rowed 2 (v_6_0.set (0 + (tn (wr ((v_6_0.length : Int) - 1)))) (R2.mk (rd v_6_0 (0 + (tn (wr ((v_6_0.length : Int) - 1))))).a (rd v5 (0 + (tn v7))).a)).length (Zz (v_6_0.set (0 + (tn (wr ((v_6_0.length : Int) - 1)))) (R2.mk (rd v_6_0 (0 + (tn (wr ((v_6_0.length : Int) - 1))))).a (rd v5 (0 + (tn v7))).a)))]), []⟩ [true, false, false, false, false, true, true, true, true, true, true, true, true, true, false, false, false] (pp (xL v_6_0.length (v_6_0.set (0 + (tn (wr ((v_6_0.length : Int) - 1)))) (R2.mk (rd v_6_0 (0 + (tn (wr ((v_6_0.length : Int) - 1))))).a (rd v5 (0 + (tn v7))).a)).length) (pp (xL v_6_0.length (v_6_0.set (0 + (tn (wr ((v_6_0.length : Int) - 1)))) (R2.mk (rd v_6_0 (0 + (tn (wr ((v_6_0.length : Int) - 1))))).a (rd v5 (0 + (tn v7))).a)).length) (pp (xS v_6_0.length (Xb (Zz v_6_0) (0 + (tn (wr ((v_6_0.length : Int) - 1)))) 1 [(ii (rd v5 (0 + (tn v7))).a)]) (Zz (v_6_0.set (0 + (tn (wr ((v_6_0.length : Int) - 1)))) (R2.mk (rd v_6_0 (0 + (tn (wr ((v_6_0.length : Int) - 1))))).a (rd v5 (0 + (tn v7))).a)))) (pp (fl v5 (pp (xF (Xb (Zz v_6_0) (0 + (tn (wr ((v_6_0.length : Int) - 1)))) 1 [(ii (rd v5 (0 + (tn v7))).a)])) nn)) (ww k5 (ww o4_1 (ww o4_0 (tt k4 (ww o4_1 (ww o4_0 (tt k3 (tt k2 (tt k1 (ww o1_1 (ww o1_0 (tt k0 nn)))))))))))))))))) (fun k5 => (lb (fun k6 => (sl Kc 81 [] ⟨(List.range 9), [], y0e, y0f⟩ ⟨[], (kpB 6 [.cells [.len (v_6_0.set (0 + (tn (wr ((v_6_0.length : Int) - 1)))) (R2.mk (rd v_6_0 (0 + (tn (wr ((v_6_0.length : Int) - 1))))).a (rd v5 (0 + (tn v7))).a)).length], .keep, .rowed 2 (v_6_0.set (0 + (tn (wr ((v_6_0.length : Int) - 1)))) (R2.mk (rd v_6_0 (0 + (tn (wr ((v_6_0.length : Int) - 1))))).a (rd v5 (0 + (tn v7))).a)).length (Zz (v_6_0.set (0 + (tn (wr ((v_6_0.length : Int) - 1)))) (R2.mk (rd v_6_0 (0 + (tn (wr ((v_6_0.length : Int) - 1))))).a (rd v5 (0 + (tn v7))).a)))]), []⟩ [true, false, false, false, false, true, true, true, true, true, true, true, true, true, true, false, true, false, false] (pp (xL v_6_0.length (v_6_0.set (0 + (tn (wr ((v_6_0.length : Int) - 1)))) (R2.mk (rd v_6_0 (0 + (tn (wr ((v_6_0.length : Int) - 1))))).a (rd v5 (0 + (tn v7))).a)).length) (pp (xL v_6_0.length (v_6_0.set (0 + (tn (wr ((v_6_0.length : Int) - 1)))) (R2.mk (rd v_6_0 (0 + (tn (wr ((v_6_0.length : Int) - 1))))).a (rd v5 (0 + (tn v7))).a)).length) (pp (xS v_6_0.length (Xb (Zz v_6_0) (0 + (tn (wr ((v_6_0.length : Int) - 1)))) 1 [(ii (rd v5 (0 + (tn v7))).a)]) (Zz (v_6_0.set (0 + (tn (wr ((v_6_0.length : Int) - 1)))) (R2.mk (rd v_6_0 (0 + (tn (wr ((v_6_0.length : Int) - 1))))).a (rd v5 (0 + (tn v7))).a)))) (pp (fl v5 (pp (xF (Xb (Zz v_6_0) (0 + (tn (wr ((v_6_0.length : Int) - 1)))) 1 [(ii (rd v5 (0 + (tn v7))).a)])) nn)) (ww k6 (ww o4_1 (ww o4_0 (tt k4 (ww o4_1 (ww o4_0 (tt k3 (tt k2 (tt k1 (ww o1_1 (ww o1_0 (tt k0 nn)))))))))))))))))) (fun k6 => trivial))))) (fun k4 => (lo fun o5_0 => (lb (fun k5 => (sl Kc 81 [] ⟨[0, 1, 2, 3, 4, 5, 6, 7, 12], [], y0e, y0f⟩ ⟨[], (kpB 6 [.cells [.len (v_6_0 ++ [(R2.mk v_3_0 (rd v5 (0 + (tn v7))).a)]).length], .keep, .rowed 2 (v_6_0 ++ [(R2.mk v_3_0 (rd v5 (0 + (tn v7))).a)]).length (Zz (v_6_0 ++ [(R2.mk v_3_0 (rd v5 (0 + (tn v7))).a)]))]), []⟩ [true, false, false, false, false, true, true, true, true, true, true, true, true, false, false, false, false] (pp (xL (v_6_0.length + 1) (v_6_0 ++ [(R2.mk v_3_0 (rd v5 (0 + (tn v7))).a)]).length) (pp (xL (v_6_0.length + 1) (v_6_0 ++ [(R2.mk v_3_0 (rd v5 (0 + (tn v7))).a)]).length) (pp (xS (v_6_0.length + 1) (Zd (Zz v_6_0) 0 v_6_0.length 2 [(ii v_3_0), (ii (rd v5 (0 + (tn v7))).a)]) (Zz (v_6_0 ++ [(R2.mk v_3_0 (rd v5 (0 + (tn v7))).a)]))) (pp (fl v5 (pp (xF (Zd (Zz v_6_0) 0 v_6_0.length 2 [(ii v_3_0), (ii (rd v5 (0 + (tn v7))).a)])) nn)) (ww k5 (ww o5_0 (tt k4 (ww o4_1 (ww o4_0 (tt k3 (tt k2 (tt k1 (ww o1_1 (ww o1_0 (tt k0 nn))))))))))))))))) (fun k5 => (lb (fun k6 => (sl Kc 81 [] ⟨[0, 1, 2, 3, 4, 5, 6, 7, 12], [], y0e, y0f⟩ ⟨[], (kpB 6 [.cells [.len (v_6_0 ++ [(R2.mk v_3_0 (rd v5 (0 + (tn v7))).a)]).length], .keep, .rowed 2 (v_6_0 ++ [(R2.mk v_3_0 (rd v5 (0 + (tn v7))).a)]).length (Zz (v_6_0 ++ [(R2.mk v_3_0 (rd v5 (0 + (tn v7))).a)]))]), []⟩ [true, false, false, false, false, true, true, true, true, true, true, true, true, false, true, false, true, false, false] (pp (xL (v_6_0.length + 1) (v_6_0 ++ [(R2.mk v_3_0 (rd v5 (0 + (tn v7))).a)]).length) (pp (xL (v_6_0.length + 1) (v_6_0 ++ [(R2.mk v_3_0 (rd v5 (0 + (tn v7))).a)]).length) (pp (xS (v_6_0.length + 1) (Zd (Zz v_6_0) 0 v_6_0.length 2 [(ii v_3_0), (ii (rd v5 (0 + (tn v7))).a)]) (Zz (v_6_0 ++ [(R2.mk v_3_0 (rd v5 (0 + (tn v7))).a)]))) (pp (fl v5 (pp (xF (Zd (Zz v_6_0) 0 v_6_0.length 2 [(ii v_3_0), (ii (rd v5 (0 + (tn v7))).a)])) nn)) (ww k6 (ww o5_0 (tt k4 (ww o4_1 (ww o4_0 (tt k3 (tt k2 (tt k1 (ww o1_1 (ww o1_0 (tt k0 nn))))))))))))))))) (fun k6 => trivial)))))))))) (fun k3 => (lo fun o4_0 => (lb (fun k4 => (sl Kc 81 [] ⟨[0, 1, 2, 3, 4, 5, 6, 7, 12], [], y0e, y0f⟩ ⟨[], (kpB 6 [.cells [.len (v_6_0 ++ [(R2.mk v_3_0 (rd v5 (0 + (tn v7))).a)]).length], .keep, .rowed 2 (v_6_0 ++ [(R2.mk v_3_0 (rd v5 (0 + (tn v7))).a)]).length (Zz (v_6_0 ++ [(R2.mk v_3_0 (rd v5 (0 + (tn v7))).a)]))]), []⟩ [true, false, false, false, false, false, false, false, false, false, false, false, false, false, false, false, false] (pp (xL (v_6_0.length + 1) (v_6_0 ++ [(R2.mk v_3_0 (rd v5 (0 + (tn v7))).a)]).length) (pp (xL (v_6_0.length + 1) (v_6_0 ++ [(R2.mk v_3_0 (rd v5 (0 + (tn v7))).a)]).length) (pp (xS (v_6_0.length + 1) (Zd (Zz v_6_0) 0 v_6_0.length 2 [(ii v_3_0), (ii (rd v5 (0 + (tn v7))).a)]) (Zz (v_6_0 ++ [(R2.mk v_3_0 (rd v5 (0 + (tn v7))).a)]))) (pp (fl v5 (pp (xF (Zd (Zz v_6_0) 0 v_6_0.length 2 [(ii v_3_0), (ii (rd v5 (0 + (tn v7))).a)])) nn)) (ww k4 (ww o4_0 (tt k3 (tt k2 (tt k1 (ww o1_1 (ww o1_0 (tt k0 nn)))))))))))))) (fun k4 => (lb (fun k5 => (sl Kc 81 [] ⟨[0, 1, 2, 3, 4, 5, 6, 7, 12], [], y0e, y0f⟩ ⟨[], (kpB 6 [.cells [.len (v_6_0 ++ [(R2.mk v_3_0 (rd v5 (0 + (tn v7))).a)]).length], .keep, .rowed 2 (v_6_0 ++ [(R2.mk v_3_0 (rd v5 (0 + (tn v7))).a)]).length (Zz (v_6_0 ++ [(R2.mk v_3_0 (rd v5 (0 + (tn v7))).a)]))]), []⟩ [true, false, false, false, false, false, false, false, false, false, false, false, false, false, true, false, true, false, false] (pp (xL (v_6_0.length + 1) (v_6_0 ++ [(R2.mk v_3_0 (rd v5 (0 + (tn v7))).a)]).length) (pp (xL (v_6_0.length + 1) (v_6_0 ++ [(R2.mk v_3_0 (rd v5 (0 + (tn v7))).a)]).length) (pp (xS (v_6_0.length + 1) (Zd (Zz v_6_0) 0 v_6_0.length 2 [(ii v_3_0), (ii (rd v5 (0 + (tn v7))).a)]) (Zz (v_6_0 ++ [(R2.mk v_3_0 (rd v5 (0 + (tn v7))).a)]))) (pp (fl v5 (pp (xF (Zd (Zz v_6_0) 0 v_6_0.length 2 [(ii v_3_0), (ii (rd v5 (0 + (tn v7))).a)])) nn)) (ww k5 (ww o4_0 (tt k3 (tt k2 (tt k1 (ww o1_1 (ww o1_0 (tt k0 nn)))))))))))))) (fun k5 => trivial)))))))))))))) (fun k0 => (lr 11 3 [1, 1, 1, 1, 1, 1, 1, 0] 1 15 [(2, (.dat v_6_0.length (Zz v_6_0))), (3, (ii 0))] (sl Kc 19 [] ⟨[], [8], [some [2, 3]], []⟩ ⟨[(2, .frz v_6_0.length v_6_0.length (Zz v_6_0) (Zz v_6_0))], [], []⟩ [false] (pp (xZ (z4k 2 2 0 v_6_0.length v_6_0.length (Zz v_6_0)) v_6_0.length (Zz v_6_0)) (pp (xL v_6_0.length v_6_0.length) (pp (xS v_6_0.length (Zz v_6_0) (Zz v_6_0)) (pp (fl v_6_0 nn) (tt k0 nn)))))))))
theorem y9v (l0 : List R2) : Xn Tryz.prog (Zy Tryz.prog 157) (spmC l0) (Zf Tryz.prog 157 [(.dat l0.length (Zz l0))] true []) (z8n l0) := (lb (fun k0 => (lr 11 157 [1, 0, 1, 0, 0] 1 15 [(2, .nils), (3, (ii 4))] (sl Kc 18 [] ⟨[], [], [some [2, 3]], []⟩ ⟨[], [], []⟩ [true] (tt k0 nn)))) (fun k0 => (sl Kc 41 [] ⟨[], [], spmN0, spmM0⟩ ⟨[], [], []⟩ [false] (tt k0 nn))))
theorem w5s (l0 : List R2) (n : Nat) (vs : List AVal) (h : Ya (Vd l0) n (z8n l0) = .ret vs) : Je Tryz.prog (Zy Tryz.prog 157) (Zf Tryz.prog 157 [(.dat l0.length (Zz l0))] true []) vs := by
 have := Zn (x6l l0) n _ (y9v l0)
 rwa [h] at this
end Go.Am
namespace Go.Am
open Go.Proofs
def z0e (s : R2) : Bool := decide (s.a < s.b) && (decide (s.a ≥ -1000000) && decide (s.b ≤ 1000000))
def Ju (l : List R2) : List R3 := l.flatMap fun s => [⟨s.a, 0, 1⟩, ⟨s.b, 0, -1⟩]
def Vv (out : List R2) (last : Int) (inn : Bool) (at' : Int) : List R2 :=
 bif !inn then out else bif last == at' then out else
 bif decide (0 < out.length) && ((rd out (out.length - 1)).b == last) then out.set (out.length - 1) ⟨(rd out (out.length - 1)).a, at'⟩ else out ++ [⟨last, at'⟩]
def swF : List R3 → Int → Int → Bool → List R2 → List R2
 | [], _, _, _, out => out
 | e :: r, o, last, inn, out => swF r (o + e.c) e.a (decide (o + e.c > 0)) (Vv out last inn e.a)
def swV (l : List R2) : List R2 := swF (Qc (Ju l)) 0 0 false []
def Xg (l : List R2) : List R2 := bif decide (400 < l.length) then [] else bif l.all z0e then swV l else []
def v0f (l : List R2) : Int := bif decide (400 < l.length) then 4 else bif l.all z0e then 0 else 8
def y0d (l : List R2) : Bool := true
def y6s (l : List R2) : List AVal := bif decide (400 < l.length) then [.nils, .int .i64 4] else bif l.all z0e then [.dat (swV l).length (Zz (swV l)), .int .i64 0] else [.nils, .int .i64 8]
theorem z2m (l : List R2) : (Ju l).length = 2 * l.length := by
 induction l with
 | nil => rfl
 | cons r l ih => show (_ :: _ :: Ju l).length = _; simp only [List.length_cons, ih]; omega
theorem z1e (out : List R2) (last : Int) (inn : Bool) (a : Int) : (Vv out last inn a).length ≤ out.length + 1 := by
 unfold Vv
 cases inn <;> simp only [Bool.not_true, Bool.not_false, cond_true, cond_false]
 ·omega
 ·cases (last == a) <;> simp only [cond_true, cond_false]
  ·cases (decide (0 < out.length) && ((rd out (out.length - 1)).b == last)) <;> simp
  ·omega
theorem z8l (e : R3) (r : List R3) (o last : Int) (inn : Bool) (out : List R2) : swF (e :: r) o last inn out = swF r (o + e.c) e.a (decide (o + e.c > 0)) (Vv out last inn e.a) := rfl
theorem v5y {a : Int} (k : Nat) (h : a = (k : Int)) : decide (a = Int.ofNat k) = true := decide_eq_true h
section
variable (l : List R2) (hl : l.length ≤ 400)
include hl
theorem v0c (L : List R3) (hL : L.length ≤ 800) (hE : ∀ i, i < L.length → (rd L i).b = 0 ∧ ((rd L i).c = 1 ∨ (rd L i).c = -1)) : ∀ (k i : Nat) (o last : Int) (inn : Bool) (out : List R2), i + k = L.length → -(i : Int) ≤ o → o ≤ i → out.length ≤ i →
  ∃ n, Ya (Vd l) n (.to (.h2 L (L.length : Int) (i : Int) o 0 last inn out)) = .ret [.dat (swF (L.drop i) o last inn out).length (Zz (swF (L.drop i) o last inn out)), .int .i64 0]
 | 0, i, o, last, inn, out, h, ho1, ho2, hout => by
  have _uhl := hl
  refine ⟨1, ?_⟩
  rw [Zv, List.drop_eq_nil_of_le (by omega)]
  simp (disch := omega) only [Vd, Yx, cond_false, Zp, swF]
 | k + 1, i, o, last, inn, out, h, ho1, ho2, hout => by
  obtain ⟨hb, hc⟩ := hE i (by omega)
  have hcl := z1e out last inn (rd L i).a
  obtain ⟨n, hn⟩ := v0c L hL hE k (i + 1) (o + (rd L i).c) (rd L i).a (decide (o + (rd L i).c > 0)) (Vv out last inn (rd L i).a) (by omega) (by rcases hc with hc | hc <;> omega) (by rcases hc with hc | hc <;> omega) (by omega)
  refine ⟨n + 1, ?_⟩
  rw [Yi (show i < L.length by omega), Zv]
  have hf : ∀ b, x5o b (decide ((0 : Int) > 0)) = b := fun b => rfl
  have hw : IntKind.wrap .i64 (o + (rd L i).c) = o + (rd L i).c := Zj (by rcases hc with hc | hc <;> omega)
  rw [z8l]
  have hf' : ∀ b, x5o b false = b := fun b => rfl
  have hz := v5y 0 hb
  unfold Vv at hn ⊢
  cases inn with
  | false =>
   simp only [Bool.not_false, cond_true] at hn ⊢
   simp (disch := omega) only [Vd, Bool.not_false, hz, hw, hf, hf', Zs, Zr, Yy, Zj, Zx, Zu, Nat.zero_add, Bool.and_true, cond_true]
   exact hn
  | true =>
   simp only [Bool.not_true, cond_false] at hn ⊢
   rcases Yc (last == (rd L i).a) with q | q
   ·rw [q] at hn ⊢
    simp only [cond_true] at hn ⊢
    simp (disch := omega) only [Vd, Bool.not_true, q, hz, hw, hf, hf', Zs, Zr, Yy, Zj, Zx, Zu, Nat.zero_add, Bool.and_true, cond_true, cond_false]
    exact hn
   ·rw [q] at hn ⊢
    simp only [cond_false] at hn ⊢
    by_cases h0 : 0 < out.length
    ·rw [decide_eq_true h0, Bool.true_and] at hn ⊢
     rcases Yc ((rd out (out.length - 1)).b == last) with q2 | q2
     ·rw [q2] at hn ⊢
      simp only [cond_true] at hn ⊢
      simp (disch := omega) only [Vd, Bool.not_true, q, q2, hz, hw, hf, hf', Zs, Yf, Zr, Yy, Zj, Zx, Zu, Ze, Nat.zero_add, Bool.and_true, cond_true, cond_false]
      exact hn
     ·rw [q2] at hn ⊢
      simp only [cond_false] at hn ⊢
      simp (disch := omega) only [Vd, Bool.not_true, q, q2, hz, hw, hf, hf', Zs, Yf, Zr, Yy, Yw, Zc, Yu, decide_true, Zj, Zx, Zu, Ze, Nat.zero_add, Bool.and_true, Bool.true_and, cond_true, cond_false]
      exact hn
    ·rw [decide_eq_false h0, Bool.false_and] at hn ⊢
     simp only [cond_false] at hn ⊢
     simp (disch := omega) only [Vd, Bool.not_true, q, hz, hw, hf, hf', Zs, Xy, Zr, Yy, Yw, Zc, Yu, decide_true, Zj, Zx, Zu, Nat.zero_add, Bool.and_true, Bool.true_and, cond_true, cond_false]
     exact hn
theorem w3v (h : l.all z0e = true) : ∀ e ∈ Ju l, bnd3 e = true ∧ e.b = 0 ∧ (e.c = 1 ∨ e.c = -1) := by
 have _uhl := hl
 intro e he
 obtain ⟨s, hs, h1⟩ := List.mem_flatMap.1 he
 have hv := List.all_eq_true.1 h s hs
 simp only [z0e, Bool.and_eq_true, decide_eq_true_eq] at hv
 simp only [List.mem_cons, List.not_mem_nil, or_false] at h1
 rcases h1 with rfl | rfl
 ·exact ⟨decide_eq_true (by simp only; omega), rfl, .inl rfl⟩
 ·exact ⟨decide_eq_true (by simp only; omega), rfl, .inr rfl⟩
theorem v0d (hv : l.all z0e = true) : ∀ (k i : Nat) (acc : List R3), i + k = l.length → acc = Ju (l.take i) → ∃ n, Ya (Vd l) n (.to (.h1 acc (i : Int))) = .ret [.dat (swV l).length (Zz (swV l)), .int .i64 0]
 | 0, i, acc, h, ha => by
  have e : acc = Ju l := by rw [ha, List.take_of_length_le (by omega)]
  subst e
  have hle := z2m l
  have hall := w3v l hl hv
  have hb : z8b (Ju l) = true := List.all_eq_true.2 fun e he => (hall e he).1
  obtain ⟨hp, _⟩ := Jn (Ju l) hb
  have hpl := hp.length_eq
  obtain ⟨n, hn⟩ := v0c l hl (Qc (Ju l)) (by omega) (fun i hi => by
   rw [Xj hi]
   exact (hall _ (hp.mem_iff.1 (List.getElem_mem hi))).2) (Qc (Ju l)).length 0 0 0 false [] (Nat.zero_add _) (by omega) (by omega) (Nat.zero_le _)
  refine ⟨n + 1, ?_⟩
  rw [Zv]
  simp (disch := omega) only [Vd, Zg, Zq, hb, Yx, Yy, Yw, decide_true, cond_true, cond_false]
  rw [← hpl]
  simp only [z2n, List.drop_zero] at hn
  exact hn
 | k + 1, i, acc, h, ha => by
  have hle := z2m (l.take i)
  have hacc : acc.length ≤ 2 * i := by rw [ha, hle]; simp; omega
  obtain ⟨n, hn⟩ := v0d hv k (i + 1) (acc ++ Ju [rd l i]) (by omega) (by
   rw [ha, List.take_add_one]
   have : l[i]? = some (rd l i) := by rw [Xj (show i < l.length by omega)]; exact List.getElem?_eq_getElem _
   rw [this]
   simp [Ju])
  refine ⟨n + 1, ?_⟩
  rw [Zv]
  simp (disch := omega) only [Vd, Zs, Zr, Yq, Yw, Zc, Yu, decide_true, Zj, Zx, Zu, Nat.zero_add, Bool.and_true, Bool.true_and, cond_true]
  exact hn
theorem v0e : ∀ (k i : Nat), i + k = l.length → (∀ s ∈ l.take i, z0e s = true) → ∃ n, Ya (Vd l) n (.to (.h0 (i : Int))) = .ret (bif l.all z0e then [.dat (swV l).length (Zz (swV l)), .int .i64 0] else [.nils, .int .i64 8])
 | 0, i, h, ht => by
  have hv : l.all z0e = true := List.all_eq_true.2 fun s hs => ht s (by rw [List.take_of_length_le (by omega)]; exact hs)
  obtain ⟨n, hn⟩ := v0d l hl hv l.length 0 [] (Nat.zero_add _) rfl
  refine ⟨n + 1, ?_⟩
  rw [Zv, hv, cond_true]
  simp (disch := omega) only [Vd, Yx, cond_false]
  exact hn
 | k + 1, i, h, ht => by
  have hi : i < l.length := by omega
  rcases Yc (z0e (rd l i)) with q | q
  ·obtain ⟨n, hn⟩ := v0e k (i + 1) (by omega) (fun s hs => by
    rw [List.take_add_one] at hs
    have e : l[i]? = some (rd l i) := by rw [Xj hi]; exact List.getElem?_eq_getElem _
    rw [e] at hs
    simp only [Option.toList_some, List.mem_append, List.mem_singleton] at hs
    rcases hs with hs | rfl
    ·exact ht s hs
    ·exact q)
   refine ⟨n + 1, ?_⟩
   rw [Zv]
   simp only [z0e, Bool.and_eq_true, decide_eq_true_eq] at q
   simp (disch := omega) only [Vd, Zs, Xq, w3y, Zr, Zj, Zx, Zu, Bool.not_true, Bool.and_true, cond_true, cond_false]
   exact hn
  ·have hv : l.all z0e = false := Bool.eq_false_iff.2 fun e => by
    have := List.all_eq_true.1 e (rd l i) (by rw [Xj hi]; exact List.getElem_mem hi)
    rw [this] at q; cases q
   refine ⟨1, ?_⟩
   rw [Zv, hv, cond_false]
   unfold z0e at q
   rcases Yc (decide ((rd l i).a < (rd l i).b)) with q1 | q1 <;> rcases Yc (decide ((rd l i).a ≥ -1000000)) with q2 | q2 <;> rcases Yc (decide ((rd l i).b ≤ 1000000)) with q3 | q3 <;>
    rw [q1, q2, q3] at q <;> first
    | (exfalso; revert q; decide)
    | simp (disch := omega) only [Vd, q1, q2, q3, Zs, w3y, Zr, Zj, Zx, Zu, Bool.not_true, Bool.not_false, Bool.and_true, cond_true, cond_false, Zp]
end
theorem v3v (l : List R2) : ∃ n, Ya (Vd l) n (z8n l) = .ret (y6s l) := by
 unfold z8n y6s
 by_cases h : 400 < l.length
 ·refine ⟨0, ?_⟩
  rw [decide_eq_true h, Yf (show (l.length : Int) > 400 by omega)]; rfl
 ·obtain ⟨n, hn⟩ := v0e l (by omega) l.length 0 (Nat.zero_add _) (fun s hs => by simp at hs)
  refine ⟨n, ?_⟩
  rw [decide_eq_false h, Xy (show ¬ (l.length : Int) > 400 by omega), cond_false, cond_false]
  exact hn
end Go.Am
namespace Go.Am
open Go.Proofs
def fSpm : List AVal → Option (AVal × Bool)
 | [a1] => match asL R2 a1 with
  | some (L1, g1, n1) => some (.tup [.dat (Xg L1).length (Zz (Xg L1)), .int .i64 (v0f L1)], isT R2 n1 g1 && y0d L1)
  | _ => none
 | _ => none
theorem v6y {S : Specs} (hS : Zk Tryz.prog S) : Zk Tryz.prog (S.with y7s fSpm) := by
 refine v6v hS (by kernel_rfl) fun args v h => ?_
 unfold fSpm at h
 split at h
 ·rename_i a1
  split at h
  ·rename_i L1 g1 n1 e1
   simp only [Option.some.injEq, Prod.mk.injEq, Bool.and_eq_true] at h
   obtain ⟨rfl, ho1, hw⟩ := h
   obtain ⟨N, hN⟩ := v3v L1
   refine ⟨_, y6s L1, (.cons (asL_le e1 ho1) .nil), ?_, w5s L1 N _ hN, 3, ?_⟩
   ·unfold Xg v0f y6s
    cases decide (400 < L1.length) <;> simp only [cond_true, cond_false]
    ·cases L1.all z0e <;> simp only [cond_true, cond_false]
     ·exact fun ρ u hu => z9z (.cons (z4c R2) (RLe.refl _)) ρ u hu
     ·exact fun ρ u hu => hu
    ·exact fun ρ u hu => z9z (.cons (z4c R2) (RLe.refl _)) ρ u hu
   ·unfold y6s
    cases decide (400 < L1.length) <;> simp only [cond_true, cond_false]
    ·cases L1.all z0e <;> rfl
    ·rfl
  ·cases h
 ·cases h
def T6 : Specs := T5.with y7s fSpm
theorem Jx : Zk Tryz.prog T6 := v6y Kc
end Go.Am
namespace Go.Am
open Go.Proofs Go.Sort Go.Shelf Go.RowKit Go.Lib
theorem y1z {γ : Type} (a b : Bool) (x y : γ) : (bif a && b then x else y) = bif a then (bif b then x else y) else y := by cases a <;> rfl
theorem z6v {γ : Type} (a : Bool) (x y : γ) : (bif !a then x else y) = bif a then y else x := by cases a <;> rfl
structure Dim (α β : Type) where
 lo : α → Int
 hi : α → Int
 pr : α → β
 put : Int → Int → β → α
 ext : Int → α → α
 mak : List β → List β
 same : List β → List β → Bool
structure Sw (α β : Type) where
 out : List α
 last : List β
 first : Nat
 fin : Int
def Jk (zs : List Int) : List Int := compact (Xd zs)
theorem y5w (zs : List Int) : v8m (Xd zs) = (Jk zs).length := rfl
theorem Jm (zs : List Int) : (Xd zs).length = zs.length := List.length_mergeSort zs
theorem y5t (zs : List Int) : (Jk zs).length ≤ zs.length := by
 have := compact_length_le (Xd zs)
 rw [Jm] at this
 exact this
theorem z7i (zs : List Int) (i : Nat) (h : i < (Jk zs).length) : rd (Wc (Xd zs)) i = rd (Jk zs) i := by
 change i < (compact (Xd zs)).length at h
 show rd (compact (Xd zs) ++ _) i = rd (compact (Xd zs)) i
 rw [Xj (by rw [List.length_append]; exact Nat.lt_add_right _ h), Xj h, List.getElem_append_left h]
theorem z3a (zs : List Int) : Zt zs.length (cOf (Zz (Xd zs))) = Xd zs := by
 have := Qz (Xd zs)
 rw [Jm] at this
 exact this
namespace Dim
variable {α β : Type} (D : Dim α β) (l : List α)
def ends : List Int := l.flatMap fun r => [D.lo r, D.hi r]
def cuts : List Int := Jk (D.ends l)
def inn (x : Int) : List β := (l.filter fun r => decide (D.lo r ≤ x) && decide (x < D.hi r)).map D.pr
def sec (x : Int) : List β := D.mak (D.inn l x)
def grow (out : List α) (k : Nat) (x : Int) : List α := out.take k ++ (out.drop k).map (D.ext x)
def one (x x' : Int) (s : Sw α β) : Sw α β :=
 bif decide (0 < (D.sec l x).length) && ((s.fin == x) && D.same s.last (D.sec l x)) then ⟨D.grow s.out s.first x', s.last, s.first, x'⟩
 else ⟨s.out ++ (D.sec l x).map (D.put x x'), D.sec l x, s.out.length, x'⟩
def go : Nat → Nat → Sw α β → Sw α β
 | 0, _, s => s
 | k + 1, i, s => go k (i + 1) (D.one l (rd (D.cuts l) i) (rd (D.cuts l) (i + 1)) s)
def out : List α := (D.go l ((D.cuts l).length - 1) 0 ⟨[], [], 0, 0⟩).out
theorem ends_length : (D.ends l).length = 2 * l.length := by
 induction l with
 | nil => rfl
 | cons r l ih => show (_ :: _ :: D.ends l).length = _; simp only [List.length_cons, ih]; omega
theorem cuts_length : (D.cuts l).length ≤ 2 * l.length := by
 have := y5t (D.ends l)
 rw [D.ends_length] at this
 exact this
theorem ends_append (m : List α) : D.ends (l ++ m) = D.ends l ++ D.ends m := by simp [ends]
theorem inn_append (m : List α) (x : Int) : D.inn (l ++ m) x = D.inn l x ++ D.inn m x := by simp [inn]
theorem inn_length (x : Int) : (D.inn l x).length ≤ l.length := by simpa [inn] using List.length_filter_le _ l
theorem inn_t (r : α) (x : Int) (h1 : D.lo r ≤ x) (h2 : x < D.hi r) : D.inn [r] x = [D.pr r] := by simp [inn, h1, h2]
theorem inn_f1 (r : α) (x : Int) (h1 : ¬ D.lo r ≤ x) : D.inn [r] x = [] := by simp [inn, h1]
theorem inn_f2 (r : α) (x : Int) (h1 : ¬ x < D.hi r) : D.inn [r] x = [] := by simp [inn, h1]
theorem grow_nil (out : List α) (k : Nat) (x : Int) (h : out.length ≤ k) : D.grow out k x = out := by
 unfold grow; rw [List.drop_eq_nil_of_le h, List.map_nil, List.append_nil, List.take_of_length_le h]
theorem grow_length (out : List α) (k : Nat) (x : Int) : (D.grow out k x).length = out.length := by
 unfold grow; simp; omega
theorem grow_set [Xw α] (out : List α) (j : Nat) (x : Int) (h : j < out.length) : D.grow (out.set j (D.ext x (rd out j))) (j + 1) x = D.grow out j x := by
 unfold grow
 rw [Yi h, List.map_cons]
 have e1 : (out.set j (D.ext x (rd out j))).take (j + 1) = out.take j ++ [D.ext x (rd out j)] := by
  apply List.ext_getElem
  ·simp; omega
  ·intro n h1 h2
   simp only [List.getElem_take, List.getElem_set]
   by_cases e : j = n
   ·subst e
    rw [if_pos rfl, List.getElem_append_right (by simp only [List.length_take]; omega)]
    simp
   ·rw [if_neg e, List.getElem_append_left (by simp at h1 ⊢; omega), List.getElem_take]
 have e2 : (out.set j (D.ext x (rd out j))).drop (j + 1) = out.drop (j + 1) := by
  rw [List.drop_set]; rw [if_pos (by omega)]
 rw [e1, e2, List.append_assoc]; rfl
theorem one_length (x x' : Int) (s : Sw α β) : (D.one l x x' s).out.length ≤ s.out.length + (D.sec l x).length := by
 unfold one
 cases (decide (0 < (D.sec l x).length) && ((s.fin == x) && D.same s.last (D.sec l x))) <;> simp [grow_length]
end Dim
end Go.Am
namespace Go.Am
open Go.Proofs
inductive vl4S where
def vl4C (x0_0 : Int) (x0_1 : Int) (x0_2 : Int) (x0_3 : Int) : vl4S → Cfg
 := nofun
def y9n (x0_0 : Int) (x0_1 : Int) (x0_2 : Int) (x0_3 : Int) : vl4S → Xo vl4S
 := nofun
def z8k (x0_0 : Int) (x0_1 : Int) (x0_2 : Int) (x0_3 : Int) : Xo vl4S := (bif (decide (x0_0 < x0_2)) then (bif (decide (x0_1 < x0_3)) then (bif (decide (x0_0 ≥ (-1000000))) then (bif (decide (x0_0 ≤ 1000000)) then (bif (decide (x0_2 ≥ (-1000000))) then (bif (decide (x0_2 ≤ 1000000)) then (bif (decide (x0_1 ≥ (-1000000))) then (bif (decide (x0_1 ≤ 1000000)) then (bif (decide (x0_3 ≥ (-1000000))) then (.ret [(.bool (decide (x0_3 ≤ 1000000)))]) else (.ret [(.bool false)])) else (.ret [(.bool false)])) else (.ret [(.bool false)])) else (.ret [(.bool false)])) else (.ret [(.bool false)])) else (.ret [(.bool false)])) else (.ret [(.bool false)])) else (.ret [(.bool false)])) else (.ret [(.bool false)]))
theorem x6e (x0_0 : Int) (x0_1 : Int) (x0_2 : Int) (x0_3 : Int) : ∀ s, Xn Tryz.prog (Zy Tryz.prog 120) (vl4C x0_0 x0_1 x0_2 x0_3) (vl4C x0_0 x0_1 x0_2 x0_3 s) (y9n x0_0 x0_1 x0_2 x0_3 s)
 := nofun
theorem y9o (x0_0 : Int) (x0_1 : Int) (x0_2 : Int) (x0_3 : Int) : Xn Tryz.prog (Zy Tryz.prog 120) (vl4C x0_0 x0_1 x0_2 x0_3) (Zf Tryz.prog 120 [(.agg [(.int .i64 x0_0), (.int .i64 x0_1), (.int .i64 x0_2), (.int .i64 x0_3)])] true []) (z8k x0_0 x0_1 x0_2 x0_3) := (lb (fun k0 => (lb (fun k1 => (lb (fun k2 => (lb (fun k3 => (lb (fun k4 => (lb (fun k5 => (lb (fun k6 => (lb (fun k7 => (lb (fun k8 => (lr 35 3 [1, 1, 1, 1, 1, 1, 1, 0] 1 3 [(2, (.bool (decide (x0_3 ≤ 1000000))))] (sl Jx 101 [] ⟨[], [], [some [2]], []⟩ ⟨[], [], []⟩ (trs 25 []) (tt k8 (tt k7 (tt k6 (tt k5 (tt k4 (tt k3 (tt k2 (tt k1 (tt k0 nn)))))))))))) (fun k8 => (lr 35 3 [1, 1, 1, 1, 1, 1, 1, 0] 1 3 [(2, (.bool false))] (sl Jx 101 [] ⟨[], [], [some [2]], []⟩ ⟨[], [], []⟩ (trs 23 [false, false]) (tt k8 (tt k7 (tt k6 (tt k5 (tt k4 (tt k3 (tt k2 (tt k1 (tt k0 nn)))))))))))))) (fun k7 => (lr 35 3 [1, 1, 1, 1, 1, 1, 1, 0] 1 3 [(2, (.bool false))] (sl Jx 86 [] ⟨[], [], [some [2]], []⟩ ⟨[], [], []⟩ (trs 20 [false, false, false]) (tt k7 (tt k6 (tt k5 (tt k4 (tt k3 (tt k2 (tt k1 (tt k0 nn))))))))))))) (fun k6 => (lr 35 3 [1, 1, 1, 1, 1, 1, 1, 0] 1 3 [(2, (.bool false))] (sl Jx 86 [] ⟨[], [], [some [2]], []⟩ ⟨[], [], []⟩ (trs 18 [false, false, false, false, false]) (tt k6 (tt k5 (tt k4 (tt k3 (tt k2 (tt k1 (tt k0 nn)))))))))))) (fun k5 => (lr 35 3 [1, 1, 1, 1, 1, 1, 1, 0] 1 3 [(2, (.bool false))] (sl Jx 71 [] ⟨[], [], [some [2]], []⟩ ⟨[], [], []⟩ (trs 15 [false, false, false, false, false, false]) (tt k5 (tt k4 (tt k3 (tt k2 (tt k1 (tt k0 nn))))))))))) (fun k4 => (lr 35 3 [1, 1, 1, 1, 1, 1, 1, 0] 1 3 [(2, (.bool false))] (sl Jx 71 [] ⟨[], [], [some [2]], []⟩ ⟨[], [], []⟩ (trs 13 [false, false, false, false, false, false, false, false]) (tt k4 (tt k3 (tt k2 (tt k1 (tt k0 nn)))))))))) (fun k3 => (lr 35 3 [1, 1, 1, 1, 1, 1, 1, 0] 1 3 [(2, (.bool false))] (sl Jx 56 [] ⟨[], [], [some [2]], []⟩ ⟨[], [], []⟩ (trs 10 [false, false, false, false, false, false, false, false, false]) (tt k3 (tt k2 (tt k1 (tt k0 nn))))))))) (fun k2 => (lr 35 3 [1, 1, 1, 1, 1, 1, 1, 0] 1 3 [(2, (.bool false))] (sl Jx 56 [] ⟨[], [], [some [2]], []⟩ ⟨[], [], []⟩ (trs 8 [false, false, false, false, false, false, false, false, false, false, false]) (tt k2 (tt k1 (tt k0 nn)))))))) (fun k1 => (lr 35 3 [1, 1, 1, 1, 1, 1, 1, 0] 1 3 [(2, (.bool false))] (sl Jx 41 [] ⟨[], [], [some [2]], []⟩ ⟨[], [], []⟩ (trs 5 [false, false, false, false, false, false, false, false, false, false, false, false]) (tt k1 (tt k0 nn))))))) (fun k0 => (lr 35 3 [1, 1, 1, 1, 1, 1, 1, 0] 1 3 [(2, (.bool false))] (sl Jx 41 [] ⟨[], [], [some [2]], []⟩ ⟨[], [], []⟩ [false, false, false, false, false, false, false, false, false, false, false, false, false, false, false, false, false] (tt k0 nn)))))
theorem w5q (x0_0 : Int) (x0_1 : Int) (x0_2 : Int) (x0_3 : Int) (n : Nat) (vs : List AVal) (h : Ya (y9n x0_0 x0_1 x0_2 x0_3) n (z8k x0_0 x0_1 x0_2 x0_3) = .ret vs) : Je Tryz.prog (Zy Tryz.prog 120) (Zf Tryz.prog 120 [(.agg [(.int .i64 x0_0), (.int .i64 x0_1), (.int .i64 x0_2), (.int .i64 x0_3)])] true []) vs := by
 have := Zn (x6e x0_0 x0_1 x0_2 x0_3) n _ (y9o x0_0 x0_1 x0_2 x0_3)
 rwa [h] at this
inductive madS where
 | h0 (v16 : Int) (v_2_0 : List Int)
 | h1 (v4 : Int) (v_1_0 : List R4) (v_1_1 : List R2) (v_1_2 : Int) (v_1_3 : Int) (v_2_0_000 : Nat) (v09_3 : List Int)
 | h2 (v4 : Int) (v38 : Int) (v_1_0 : List R4) (v_1_1 : List R2) (v_1_2 : Int) (v_1_3 : Int) (v_2_0_000 : Nat) (v09_3 : List Int) (v_6_0 : Int) (v_6_1 : Int) (v_7_0 : List R2)
 | h3 (v1 : Int) (v2 : Int) (v71 : List R2) (v72 : Int) (v73 : Int) (v000_24 : List R2) (v001_4 : Int) (v_0_0 : List R4) (v_0_1 : List R2) (v_0_2 : Int) (v_2_0_000 : Nat) (v09_3 : List Int) (v_6_0 : List R2)
 | h4 (v2 : Int) (v8 : Int) (v000_21 : Int) (v000_24 : List R2) (v001_4 : Int) (v_0_0 : List R4) (v_0_1 : List R2) (v_0_2 : Int) (v_0_3 : Int) (v_3_0_000 : Nat) (v09_4 : List Int) (v_7_0 : List R2)
def madC (l0 : List R4) : madS → Cfg
 | .h0 v16 v_2_0 => ⟨⟨34, 0, true⟩, none, (Za Tryz.prog 156 [1, 1, 0, 1, 0, 0, 1, 1, 0, 0, 1, 1, 0, 0] 0), none, (Zy Tryz.prog 3), ⟨Ym [(1, (.ptr 0 0)), (3, (.ptr 2 0)), (8, (.sl 1 0 1 (.un 1))), (9, (ii 1)), (10, (ii 0)), (14, (.dat l0.length (Zz l0))), (15, (ii (l0.length : Int))), (16, (ii v16))], Jw [⟨[(.sl 1 0 1 (.un 1))], 171, none⟩, ⟨[(.dat l0.length (Zz l0))], 99, none⟩, ⟨[(.sla 4 1 0 v_2_0.length (.un 1))], 93, none⟩, ⟨[.nils, .nils, (ii 0), (ii 0)], 200, none⟩, ⟨Yg v_2_0.length (Zz v_2_0), 3, some ⟨1, v_2_0.length, (Zz v_2_0)⟩⟩] 0, 5, [], true⟩, [⟨⟨29, 0, true⟩, (We Tryz.prog 121 [1, 1, 0, 0] 2), (Za Tryz.prog 121 [1, 1, 0, 0] 1), none, (Zy Tryz.prog 15), Ym [(2, .nils), (3, (ii 0)), (4, (.ptr 3 0)), (9, (.sl 1 0 1 (.un 1)))]⟩], .leaf⟩
 | .h1 v4 v_1_0 v_1_1 v_1_2 v_1_3 v_2_0_000 v09_3 => ⟨⟨76, 0, true⟩, none, (Za Tryz.prog 182 [1, 0, 0] 0), none, [], ⟨Ym [(0, (.yld 0)), (1, (.ptr 2 0)), (2, (.ptr 4 0)), (4, (ii v4))], z7l [(1, ⟨[(.sla 6 4 0 v_1_0.length (.un 4)), (.dat v_1_1.length (Zz v_1_1)), (ii v_1_2), (ii v_1_3)], 200, none⟩), (2, ⟨[(.sla 3 1 0 v_2_0_000 (.un 1))], 93, none⟩), (3, ⟨Yg v09_3.length (Zz v09_3), 3, some ⟨1, v09_3.length, (Zz v09_3)⟩⟩), (4, ⟨[(.sl 5 0 1 (.un 1))], 171, none⟩), (5, ⟨[(.dat l0.length (Zz l0))], 99, none⟩), (6, ⟨Yg v_1_0.length (Zz v_1_0), 88, some ⟨4, v_1_0.length, (Zz v_1_0)⟩⟩)], 7, [], true⟩, [⟨⟨29, 0, true⟩, none, (.inRangeFunc 0 :: (Za Tryz.prog 121 [1, 1, 0, 1, 0] 1)), none, (Zy Tryz.prog 15), Ym [(2, .nils), (3, (ii 0)), (4, (.ptr 1 0))]⟩], (z7m [(0, ⟨.ready, none, 29, Ym [(4, (.ptr 1 0))], [11], (Wv Tryz.prog 121 [1, 1, 0, 1, 0, 0]), (Wv Tryz.prog 121 [1, 1, 0, 1, 0, 1])⟩)])⟩
 | .h2 v4 v38 v_1_0 v_1_1 v_1_2 v_1_3 v_2_0_000 v09_3 v_6_0 v_6_1 v_7_0 => ⟨⟨76, 0, true⟩, none, (Za Tryz.prog 182 [1, 0, 0, 1, 0, 0, 1, 0, 1, 0, 0, 1, 1, 0, 0, 1, 1, 0, 0] 0), none, [], ⟨Ym [(0, (.yld 0)), (1, (.ptr 2 0)), (2, (.ptr 4 0)), (4, (ii v4)), (5, (.ptr 6 0)), (6, (ii 0)), (29, (.sl 5 0 1 (.un 1))), (30, (ii 1)), (31, (ii 0)), (36, (.dat l0.length (Zz l0))), (37, (ii (l0.length : Int))), (38, (ii v38))], z7l [(1, ⟨[(.sla 9 4 0 v_1_0.length (.un 4)), (.dat v_1_1.length (Zz v_1_1)), (ii v_1_2), (ii v_1_3)], 200, none⟩), (2, ⟨[(.sla 3 1 0 v_2_0_000 (.un 1))], 93, none⟩), (3, ⟨Yg v09_3.length (Zz v09_3), 3, some ⟨1, v09_3.length, (Zz v09_3)⟩⟩), (4, ⟨[(.sl 5 0 1 (.un 1))], 171, none⟩), (5, ⟨[(.dat l0.length (Zz l0))], 99, none⟩), (6, ⟨[(ii v_6_0), (ii v_6_1), (.sl 7 0 1 (.ex 1))], 205, none⟩), (7, ⟨[(.sla 8 2 0 v_7_0.length (.un 2))], 180, none⟩), (8, ⟨Yg v_7_0.length (Zz v_7_0), 183, some ⟨2, v_7_0.length, (Zz v_7_0)⟩⟩), (9, ⟨Yg v_1_0.length (Zz v_1_0), 88, some ⟨4, v_1_0.length, (Zz v_1_0)⟩⟩)], 10, [], true⟩, [⟨⟨29, 0, true⟩, none, (.inRangeFunc 0 :: (Za Tryz.prog 121 [1, 1, 0, 1, 0] 1)), none, (Zy Tryz.prog 15), Ym [(2, .nils), (3, (ii 0)), (4, (.ptr 1 0))]⟩], (z7m [(0, ⟨.ready, none, 29, Ym [(4, (.ptr 1 0))], [11], (Wv Tryz.prog 121 [1, 1, 0, 1, 0, 0]), (Wv Tryz.prog 121 [1, 1, 0, 1, 0, 1])⟩)])⟩
 | .h3 v1 v2 v71 v72 v73 v000_24 v001_4 v_0_0 v_0_1 v_0_2 v_2_0_000 v09_3 v_6_0 => ⟨⟨94, 0, true⟩, none, (Za Tryz.prog 158 [1, 1, 1, 0, 0] 0), none, [], ⟨Ym [(0, (.ptr 0 0)), (1, (ii v1)), (2, (ii v2)), (71, (.dat v71.length (Zz v71))), (72, (ii v72)), (73, (ii v73))], z7l [(0, ⟨[(.sla 7 4 0 v_0_0.length (.un 4)), (.dat v_0_1.length (Zz v_0_1)), (ii v_0_2), (ii v2)], 200, none⟩), (2, ⟨[(.sla 3 1 0 v_2_0_000 (.un 1))], 93, none⟩), (3, ⟨Yg v09_3.length (Zz v09_3), 3, some ⟨1, v09_3.length, (Zz v09_3)⟩⟩), (4, ⟨[(.sl 5 0 1 (.un 1))], 171, none⟩), (5, ⟨[(.dat l0.length (Zz l0))], 99, none⟩), (6, ⟨[(.dat v_6_0.length (Zz v_6_0))], 180, none⟩), (7, ⟨Yg v_0_0.length (Zz v_0_0), 88, some ⟨4, v_0_0.length, (Zz v_0_0)⟩⟩)], 8, [], true⟩, [⟨⟨29, 0, true⟩, (We Tryz.prog 121 [1, 1, 0, 1, 0, 1, 0, 1] 5), (Za Tryz.prog 121 [1, 1, 0, 1, 0, 1, 0, 1] 1), (some 1), [], Ym [(4, (.ptr 0 0)), (21, (ii v1)), (23, (ii v2)), (24, (.dat v000_24.length (Zz v000_24)))]⟩, ⟨⟨76, 0, true⟩, (We Tryz.prog 182 [1, 0, 0, 1, 0, 0, 1, 1, 0] 2), (Za Tryz.prog 182 [1, 0, 0, 1, 0, 0, 1, 1, 0] 1), none, [], Ym [(0, (.yld 1)), (1, (.ptr 2 0)), (2, (.ptr 4 0)), (4, (ii v001_4)), (72, (.yld 1)), (73, (.agg [(ii v1), (ii v2), (.sl 6 0 1 (.ex 1))]))]⟩, ⟨⟨29, 0, true⟩, none, (.inRangeFunc 1 :: (Za Tryz.prog 121 [1, 1, 0, 1, 0] 1)), none, (Zy Tryz.prog 15), Ym [(2, .nils), (3, (ii 0)), (4, (.ptr 0 0))]⟩], (z7m [(1, ⟨.busy, none, 29, Ym [(4, (.ptr 0 0))], [11], (Wv Tryz.prog 121 [1, 1, 0, 1, 0, 0]), (Wv Tryz.prog 121 [1, 1, 0, 1, 0, 1])⟩)])⟩
 | .h4 v2 v8 v000_21 v000_24 v001_4 v_0_0 v_0_1 v_0_2 v_0_3 v_3_0_000 v09_4 v_7_0 => ⟨⟨94, 0, true⟩, none, (Za Tryz.prog 158 [0, 1, 0, 0, 1, 0, 0] 0), none, [], ⟨Ym [(0, (.ptr 0 0)), (2, (ii v2)), (8, (ii v8))], z7l [(0, ⟨[(.sla 1 4 0 v_0_0.length (.un 4)), (.dat v_0_1.length (Zz v_0_1)), (ii v_0_2), (ii v_0_3)], 200, none⟩), (1, ⟨Yg v_0_0.length (Zz v_0_0), 88, some ⟨4, v_0_0.length, (Zz v_0_0)⟩⟩), (3, ⟨[(.sla 4 1 0 v_3_0_000 (.un 1))], 93, none⟩), (4, ⟨Yg v09_4.length (Zz v09_4), 3, some ⟨1, v09_4.length, (Zz v09_4)⟩⟩), (5, ⟨[(.sl 6 0 1 (.un 1))], 171, none⟩), (6, ⟨[(.dat l0.length (Zz l0))], 99, none⟩), (7, ⟨[(.dat v_7_0.length (Zz v_7_0))], 180, none⟩)], 8, [], true⟩, [⟨⟨29, 0, true⟩, (We Tryz.prog 121 [1, 1, 0, 1, 0, 1, 0, 1] 5), (Za Tryz.prog 121 [1, 1, 0, 1, 0, 1, 0, 1] 1), (some 2), [], Ym [(4, (.ptr 0 0)), (21, (ii v000_21)), (23, (ii v2)), (24, (.dat v000_24.length (Zz v000_24)))]⟩, ⟨⟨76, 0, true⟩, (We Tryz.prog 182 [1, 0, 0, 1, 0, 0, 1, 1, 0] 2), (Za Tryz.prog 182 [1, 0, 0, 1, 0, 0, 1, 1, 0] 1), none, [], Ym [(0, (.yld 2)), (1, (.ptr 3 0)), (2, (.ptr 5 0)), (4, (ii v001_4)), (72, (.yld 2)), (73, (.agg [(ii v000_21), (ii v2), (.sl 7 0 1 (.ex 1))]))]⟩, ⟨⟨29, 0, true⟩, none, (.inRangeFunc 2 :: (Za Tryz.prog 121 [1, 1, 0, 1, 0] 1)), none, (Zy Tryz.prog 15), Ym [(2, .nils), (3, (ii 0)), (4, (.ptr 0 0))]⟩], (z7m [(2, ⟨.busy, none, 29, Ym [(4, (.ptr 0 0))], [11], (Wv Tryz.prog 121 [1, 1, 0, 1, 0, 0]), (Wv Tryz.prog 121 [1, 1, 0, 1, 0, 1])⟩)])⟩
def madN0 : List (Option (List Nat)) := [some [1, 3, 8, 9, 10, 14, 15, 16], some [2, 3, 4, 9]]
def madM0 : List (Option (List Nat)) := []
def v6f : List (Option (List Nat)) := [some [0, 1, 2, 4], some [2, 3, 4]]
def v6g : List (Option (List Nat)) := [some [4], none, none, none, none, none, none]
def w8i : List (Option (List Nat)) := [some [0, 1, 2, 4, 5, 6, 29, 30, 31, 36, 37, 38], some [2, 3, 4]]
def w8k : List (Option (List Nat)) := [some [4], none, none, none, none, none, none, none, none, none]
def w8h : List (Option (List Nat)) := [some [0, 1, 2, 71, 72, 73], some [4, 21, 23, 24], some [0, 1, 2, 4, 72, 73], some [2, 3, 4]]
def w8j : List (Option (List Nat)) := [none, some [4], none, none, none, none, none, none]
def madN4 : List (Option (List Nat)) := [some [0, 2, 8], some [4, 21, 23, 24], some [0, 1, 2, 4, 72, 73], some [2, 3, 4]]
def madM4 : List (Option (List Nat)) := [none, none, some [4], none, none, none, none, none]
def Xa (l0 : List R4) : madS → Xo madS
 | .h0 v16 v_2_0 => (bif (decide (v16 < (l0.length : Int))) then (bif ((decide (0 ≤ v16 ∧ v16 < (l0.length : Int))) && true) then (bif (Nat.beq 1 1 && ((decide (0 + v_2_0.length = v_2_0.length)) && decide ((v_2_0.length + 2 + 1) * (8 + 1) ≤ Ur))) then (.to (.h0 (IntKind.wrap .i64 (v16 + 1)) (v_2_0 ++ [(rd l0 v16.toNat).a, (rd l0 v16.toNat).c]))) else .stuck) else .stuck) else (bif (decide (v_2_0.length < 4611686018427387904)) then (bif (decide (v_2_0.length = v_2_0.length)) then (.to (.h1 1 ([] : List R4) ([] : List R2) 0 0 (v8m (Zt v_2_0.length (cOf (Zz (Xd (Zt v_2_0.length (cOf (Zz v_2_0)))))))) (Wc (Zt v_2_0.length (cOf (Zz (Xd (Zt v_2_0.length (cOf (Zz v_2_0)))))))))) else .stuck) else .stuck))
 | .h1 v4 v_1_0 v_1_1 v_1_2 v_1_3 v_2_0_000 v09_3 => (bif (decide (v4 < ((v_2_0_000 : Nat) : Int))) then (bif ((decide (0 ≤ (IntKind.wrap .i64 (v4 - 1)) ∧ (IntKind.wrap .i64 (v4 - 1)) < ((v_2_0_000 : Nat) : Int))) && true) then (bif (decide ((0 + (Int.toNat (IntKind.wrap .i64 (v4 - 1)))) < v09_3.length)) then (bif ((decide (0 ≤ v4 ∧ v4 < ((v_2_0_000 : Nat) : Int))) && true) then (bif (decide ((0 + v4.toNat) < v09_3.length)) then (.to (.h2 v4 0 v_1_0 v_1_1 v_1_2 v_1_3 v_2_0_000 v09_3 (rd v09_3 (0 + (Int.toNat (IntKind.wrap .i64 (v4 - 1))))) (rd v09_3 (0 + v4.toNat)) ([] : List R2))) else .stuck) else .stuck) else .stuck) else .stuck) else (bif (decide ((v_1_0.length : Int) > 400)) then (.ret [.nils, (.int .i64 4)]) else (.ret [(.dat v_1_0.length (Zz v_1_0)), (.int .i64 0)])))
 | .h2 v4 v38 v_1_0 v_1_1 v_1_2 v_1_3 v_2_0_000 v09_3 v_6_0 v_6_1 v_7_0 => (bif (decide (v38 < (l0.length : Int))) then (bif ((decide (0 ≤ v38 ∧ v38 < (l0.length : Int))) && true) then (bif (decide ((rd l0 v38.toNat).a ≤ v_6_0)) then (bif (decide (v_6_0 < (rd l0 v38.toNat).c)) then (bif (Nat.beq 2 2 && ((decide (0 + v_7_0.length = v_7_0.length)) && decide ((v_7_0.length + 1 + 1) * (16 + 1) ≤ Ur))) then (.to (.h2 v4 (IntKind.wrap .i64 (v38 + 1)) v_1_0 v_1_1 v_1_2 v_1_3 v_2_0_000 v09_3 v_6_0 v_6_1 (v_7_0 ++ [(R2.mk (rd l0 v38.toNat).b (rd l0 v38.toNat).d)]))) else .stuck) else (.to (.h2 v4 (IntKind.wrap .i64 (v38 + 1)) v_1_0 v_1_1 v_1_2 v_1_3 v_2_0_000 v09_3 v_6_0 v_6_1 v_7_0))) else (.to (.h2 v4 (IntKind.wrap .i64 (v38 + 1)) v_1_0 v_1_1 v_1_2 v_1_3 v_2_0_000 v09_3 v_6_0 v_6_1 v_7_0))) else .stuck) else (bif (y0d (cvT v_7_0)) then (bif (decide ((((Xg (cvT v_7_0)).length : Nat) : Int) > 0)) then (bif (v_1_3 == v_6_0) then (bif (Vj (cvT v_1_1) (cvT (Xg (cvT v_7_0)))) then (bif (Jr (cvT v_1_1) (cvT (Xg (cvT v_7_0)))) then (.to (.h4 v_6_1 v_1_2 v_6_0 (Xg (cvT v_7_0)) v4 v_1_0 v_1_1 v_1_2 v_1_3 v_2_0_000 v09_3 v_7_0)) else (.to (.h3 v_6_0 v_6_1 (Xg (cvT v_7_0)) (((Xg (cvT v_7_0)).length : Nat) : Int) 0 (Xg (cvT v_7_0)) v4 v_1_0 (Xg (cvT v_7_0)) (v_1_0.length : Int) v_2_0_000 v09_3 v_7_0))) else .stuck) else (.to (.h3 v_6_0 v_6_1 (Xg (cvT v_7_0)) (((Xg (cvT v_7_0)).length : Nat) : Int) 0 (Xg (cvT v_7_0)) v4 v_1_0 (Xg (cvT v_7_0)) (v_1_0.length : Int) v_2_0_000 v09_3 v_7_0))) else (.to (.h3 v_6_0 v_6_1 (Xg (cvT v_7_0)) (((Xg (cvT v_7_0)).length : Nat) : Int) 0 (Xg (cvT v_7_0)) v4 v_1_0 (Xg (cvT v_7_0)) (v_1_0.length : Int) v_2_0_000 v09_3 v_7_0))) else .stuck))
 | .h3 v1 v2 v71 v72 v73 v000_24 v001_4 v_0_0 v_0_1 v_0_2 v_2_0_000 v09_3 v_6_0 => (bif (decide (v73 < v72)) then (bif ((decide (0 ≤ v73 ∧ v73 < (v71.length : Int))) && true) then (bif (Nat.beq 4 4 && ((decide (0 + v_0_0.length = v_0_0.length)) && decide ((v_0_0.length + 1 + 1) * (32 + 1) ≤ Ur))) then (.to (.h3 v1 v2 v71 v72 (IntKind.wrap .i64 (v73 + 1)) v000_24 v001_4 (v_0_0 ++ [(R4.mk v1 (rd v71 v73.toNat).a v2 (rd v71 v73.toNat).b)]) v_0_1 v_0_2 v_2_0_000 v09_3 v_6_0)) else .stuck) else .stuck) else (.to (.h1 (IntKind.wrap .i64 (v001_4 + 1)) v_0_0 v_0_1 v_0_2 v2 v_2_0_000 v09_3)))
 | .h4 v2 v8 v000_21 v000_24 v001_4 v_0_0 v_0_1 v_0_2 v_0_3 v_3_0_000 v09_4 v_7_0 => (bif (decide (v8 < (v_0_0.length : Int))) then (bif ((decide (0 ≤ v8 ∧ v8 < (v_0_0.length : Int))) && true) then (bif (decide ((0 + v8.toNat) < v_0_0.length)) then (.to (.h4 v2 (IntKind.wrap .i64 (v8 + 1)) v000_21 v000_24 v001_4 (v_0_0.set (0 + v8.toNat) (R4.mk (rd v_0_0 (0 + v8.toNat)).a (rd v_0_0 (0 + v8.toNat)).b v2 (rd v_0_0 (0 + v8.toNat)).d)) v_0_1 v_0_2 v_0_3 v_3_0_000 v09_4 v_7_0)) else .stuck) else .stuck) else (.to (.h1 (IntKind.wrap .i64 (v001_4 + 1)) v_0_0 v_0_1 v_0_2 v2 v_3_0_000 v09_4)))
def y5h (l0 : List R4) : Xo madS := (.to (.h0 0 ([] : List Int)))
theorem x7v (l0 : List R4) : ∀ s, Xn Tryz.prog (Zy Tryz.prog 121) (madC l0) (madC l0 s) (Xa l0 s)
 | .h0 v16 v_2_0 => (lb (fun k0 => (lo fun o0 => (lo fun o1 => (sl Jx 32 [] ⟨[0, 1, 2, 3, 7], [], madN0, madM0⟩ ⟨[], [.keep, .keep, .cells [.len (v_2_0 ++ [(rd l0 (tn v16)).a, (rd l0 (tn v16)).c]).length], .keep, .rowed 1 (v_2_0 ++ [(rd l0 (tn v16)).a, (rd l0 (tn v16)).c]).length (Zz (v_2_0 ++ [(rd l0 (tn v16)).a, (rd l0 (tn v16)).c]))], []⟩ [true] (pp (xL (v_2_0.length + 2) (v_2_0 ++ [(rd l0 (tn v16)).a, (rd l0 (tn v16)).c]).length) (pp (xL (v_2_0.length + 2) (v_2_0 ++ [(rd l0 (tn v16)).a, (rd l0 (tn v16)).c]).length) (pp (xS (v_2_0.length + 2) (Zd (Zz v_2_0) 0 v_2_0.length 1 [(ii (rd l0 (tn v16)).a), (ii (rd l0 (tn v16)).c)]) (Zz (v_2_0 ++ [(rd l0 (tn v16)).a, (rd l0 (tn v16)).c]))) (pp (pp (xF (Zd (Zz v_2_0) 0 v_2_0.length 1 [(ii (rd l0 (tn v16)).a), (ii (rd l0 (tn v16)).c)])) nn) (ww o1 (ww o0 (tt k0 nn))))))))))) (fun k0 => (lo fun o0 => (lo fun o1 => (sl Jx 46 [(88, 4, Zz ([] : List R4))] ⟨[5, 3, 2, 4, 0, 1, 6], [], v6f, v6g⟩ ⟨[], [.keep, .cells [.grow 6 4, .list 0 (Zz ([] : List R2)), .keep, .keep], .keep, .rowed 1 (Wc (Zt v_2_0.length (cOf (Zz (Xd (Zt v_2_0.length (cOf (Zz v_2_0)))))))).length (Zz (Wc (Zt v_2_0.length (cOf (Zz (Xd (Zt v_2_0.length (cOf (Zz v_2_0))))))))), .keep, .keep, .keep], []⟩ [false, false] (pp (xL v_2_0.length (Wc (Zt v_2_0.length (cOf (Zz (Xd (Zt v_2_0.length (cOf (Zz v_2_0)))))))).length (by first | exact z5h _ _ | exact Ux rfl)) (pp (xS v_2_0.length (Zz (Wc (Zt v_2_0.length (cOf (Zz (Xd (Zt v_2_0.length (cOf (Zz v_2_0))))))))) (Zz (Wc (Zt v_2_0.length (cOf (Zz (Xd (Zt v_2_0.length (cOf (Zz v_2_0)))))))))) (pp (fl (Wc (Zt v_2_0.length (cOf (Zz (Xd (Zt v_2_0.length (cOf (Zz v_2_0)))))))) (fl ([] : List R4) nn)) (pp (pp (xG (Nat.beq 1 1)) (pp (xG (Nat.beq 1 1)) (pp (xG (Nat.beq 0 0)) (pp (xG (decide (v_2_0.length = v_2_0.length))) (pp (xG (isI (Zz (Xd (Zt v_2_0.length (cOf (Zz v_2_0))))))) (xG (decide (v_2_0.length < 4611686018427387904)))))))) (pp (pp (xG (Nat.beq 1 1)) (pp (xG (Nat.beq 1 1)) (pp (xG (Nat.beq 0 0)) (pp (xG (decide (v_2_0.length = v_2_0.length))) (pp (xG (isI (Zz v_2_0))) (xG (decide (v_2_0.length < 4611686018427387904)))))))) (tt k0 nn)))))))))))
 | .h1 v4 v_1_0 v_1_1 v_1_2 v_1_3 v_2_0_000 v09_3 => (lb (fun k0 => (lo fun o0 => (lo fun o1 => (lo fun o2 => (lo fun o3 => (sl Jx 48 [(183, 2, Zz ([] : List R2))] ⟨[0, 1, 2, 3, 4, 5, 7, 8, 9, 6], [], w8i, w8k⟩ ⟨[], (kpB 7 [.cells [.grow 8 2], .keep, .keep]), []⟩ (trs 3 []) (pp (fl v09_3 (fl ([] : List R2) (fl v_1_0 nn))) (ww o3 (ww o2 (ww o1 (ww o0 (tt k0 nn)))))))))))) (fun k0 => (lb (fun k1 => (lr 29 3 [1, 1, 1, 1, 1, 1, 1, 0] 1 15 [(2, .nils), (3, (ii 4))] (sl Jx 43 [] ⟨[], [], [some [2, 3]], []⟩ ⟨[], [], []⟩ [false, true] (tt k1 (tt k0 nn))))) (fun k1 => (lr 29 3 [1, 1, 1, 1, 1, 1, 1, 0] 1 15 [(2, (.dat v_1_0.length (Zz v_1_0))), (3, (ii 0))] (sl Jx 48 [] ⟨[], [6], [some [2, 3]], []⟩ ⟨[(2, .frz v_1_0.length v_1_0.length (Zz v_1_0) (Zz v_1_0))], [], []⟩ [false, false] (pp (xZ (z4k 4 4 0 v_1_0.length v_1_0.length (Zz v_1_0)) v_1_0.length (Zz v_1_0)) (pp (xL v_1_0.length v_1_0.length) (pp (xS v_1_0.length (Zz v_1_0) (Zz v_1_0)) (pp (fl v_1_0 nn) (tt k1 (tt k0 nn))))))))))))
 | .h2 v4 v38 v_1_0 v_1_1 v_1_2 v_1_3 v_2_0_000 v09_3 v_6_0 v_6_1 v_7_0 => (lb (fun k0 => (lo fun o1_0 => (lb (fun k1 => (lb (fun k2 => (lo fun o0 => (sl Jx 39 [] ⟨[0, 1, 2, 3, 4, 5, 6, 7, 12, 9], [], w8i, w8k⟩ ⟨[], (kpB 7 [.cells [.len (v_7_0 ++ [(R2.mk (rd l0 (tn v38)).b (rd l0 (tn v38)).d)]).length], .rowed 2 (v_7_0 ++ [(R2.mk (rd l0 (tn v38)).b (rd l0 (tn v38)).d)]).length (Zz (v_7_0 ++ [(R2.mk (rd l0 (tn v38)).b (rd l0 (tn v38)).d)])), .keep]), []⟩ (trs 7 []) (pp (xL (v_7_0.length + 1) (v_7_0 ++ [(R2.mk (rd l0 (tn v38)).b (rd l0 (tn v38)).d)]).length) (pp (xL (v_7_0.length + 1) (v_7_0 ++ [(R2.mk (rd l0 (tn v38)).b (rd l0 (tn v38)).d)]).length) (pp (xS (v_7_0.length + 1) (Zd (Zz v_7_0) 0 v_7_0.length 2 [(ii (rd l0 (tn v38)).b), (ii (rd l0 (tn v38)).d)]) (Zz (v_7_0 ++ [(R2.mk (rd l0 (tn v38)).b (rd l0 (tn v38)).d)]))) (pp (fl v09_3 (pp (xF (Zd (Zz v_7_0) 0 v_7_0.length 2 [(ii (rd l0 (tn v38)).b), (ii (rd l0 (tn v38)).d)])) (fl v_1_0 nn))) (ww o0 (tt k2 (tt k1 (ww o1_0 (tt k0 nn)))))))))))) (fun k2 => (sl Jx 39 [] ⟨(List.range 10), [], w8i, w8k⟩ ⟨[], [], []⟩ (trs 6 [false]) (pp (fl v09_3 (fl v_7_0 (fl v_1_0 nn))) (tt k2 (tt k1 (ww o1_0 (tt k0 nn))))))))) (fun k1 => (sl Jx 39 [] ⟨(List.range 10), [], w8i, w8k⟩ ⟨[], [], []⟩ [true, false, false, false, false, false, false] (pp (fl v09_3 (fl v_7_0 (fl v_1_0 nn))) (tt k1 (ww o1_0 (tt k0 nn))))))))) (fun k0 => (Wn (sl Jx (C' := ⟨⟨29, 0, true⟩, (We Tryz.prog 121 [1, 1, 0, 1, 0, 1, 0, 0] 4), (Za Tryz.prog 121 [1, 1, 0, 1, 0, 1, 0, 0] 1), (some 0), [], ⟨Ym [(4, (.ptr 1 0)), (5, (.ptr 3 0)), (16, (.dat v_7_0.length (Zz v_7_0)))], z7l [(1, ⟨[(.sla 2 4 0 v_1_0.length (.un 4)), (.dat v_1_1.length (Zz v_1_1)), (ii v_1_2), (ii v_1_3)], 200, none⟩), (2, ⟨Yg v_1_0.length (Zz v_1_0), 88, some ⟨4, v_1_0.length, (Zz v_1_0)⟩⟩), (3, ⟨[(ii v_6_0), (ii v_6_1), (.sl 4 0 1 (.ex 1))], 205, none⟩), (4, ⟨[(.dat v_7_0.length (Zz v_7_0))], 180, none⟩), (5, ⟨[(.sla 6 1 0 v_2_0_000 (.un 1))], 93, none⟩), (6, ⟨Yg v09_3.length (Zz v09_3), 3, some ⟨1, v09_3.length, (Zz v09_3)⟩⟩), (7, ⟨[(.sl 8 0 1 (.un 1))], 171, none⟩), (8, ⟨[(.dat l0.length (Zz l0))], 99, none⟩)], 9, [], true⟩, [⟨⟨76, 0, true⟩, (We Tryz.prog 182 [1, 0, 0, 1, 0, 0, 1, 1, 0] 2), (Za Tryz.prog 182 [1, 0, 0, 1, 0, 0, 1, 1, 0] 1), none, [], Ym [(0, (.yld 0)), (1, (.ptr 5 0)), (2, (.ptr 7 0)), (4, (ii v4)), (72, (.yld 0)), (73, (.agg [(ii v_6_0), (ii v_6_1), (.sl 4 0 1 (.ex 1))]))]⟩, ⟨⟨29, 0, true⟩, none, (.inRangeFunc 0 :: (Za Tryz.prog 121 [1, 1, 0, 1, 0] 1)), none, (Zy Tryz.prog 15), Ym [(2, .nils), (3, (ii 0)), (4, (.ptr 1 0))]⟩], (z7m [(0, ⟨.busy, none, 29, Ym [(4, (.ptr 1 0))], [11], (Wv Tryz.prog 121 [1, 1, 0, 1, 0, 0]), (Wv Tryz.prog 121 [1, 1, 0, 1, 0, 1])⟩)])⟩) 37 [] ⟨[0, 1, 9, 10, 7, 2, 3, 4, 5], [8], [some [4, 5, 16], some [0, 1, 2, 4, 72, 73], some [2, 3, 4]], [some [4], none, none, none, none, none, none, none, none]⟩ ⟨[(16, .frz v_7_0.length v_7_0.length (Zz v_7_0) (Zz v_7_0))], [.keep, .keep, .keep, .keep, .cells [.frz v_7_0.length v_7_0.length (Zz v_7_0) (Zz v_7_0)], .keep, .keep, .keep, .keep], []⟩ [false, false] (pp (xZ (z4k 2 2 0 v_7_0.length v_7_0.length (Zz v_7_0)) v_7_0.length (Zz v_7_0)) (pp (xL v_7_0.length v_7_0.length) (pp (xS v_7_0.length (Zz v_7_0) (Zz v_7_0)) (pp (xZ (z4k 2 2 0 v_7_0.length v_7_0.length (Zz v_7_0)) v_7_0.length (Zz v_7_0)) (pp (xL v_7_0.length v_7_0.length) (pp (xS v_7_0.length (Zz v_7_0) (Zz v_7_0)) (pp (fl v_1_0 (fl v09_3 nn)) (pp (fl v_7_0 nn) (tt k0 nn)))))))))) (lo fun o1_0 => (lb (fun k1 => (lb (fun k2 => (lo fun o3_0 => (lb (fun k3 => (sl Jx 49 [] ⟨[1, 2, 0, 5, 6, 7, 8, 4], [], madN4, madM4⟩ ⟨[], [], []⟩ (trs 13 []) (pp (fl v_1_0 (fl v09_3 nn)) (tt k3 (pp (pp (xr v_1_1) (pp (xI R2 (Xg (cvT v_7_0)).length (Zz (Xg (cvT v_7_0)))) (xw o3_0))) (tt k2 (tt k1 (pp (pp (xr v_7_0) (xw o1_0)) nn)))))))) (fun k3 => (sl Jx 69 [] ⟨[1, 0, 5, 6, 7, 8, 4, 2], [], w8h, w8j⟩ ⟨[], [], []⟩ (trs 12 [false]) (pp (fl v09_3 (fl v_1_0 nn)) (tt k3 (pp (pp (xr v_1_1) (pp (xI R2 (Xg (cvT v_7_0)).length (Zz (Xg (cvT v_7_0)))) (xw o3_0))) (tt k2 (tt k1 (pp (pp (xr v_7_0) (xw o1_0)) nn))))))))))) (fun k2 => (sl Jx 69 [] ⟨[1, 0, 5, 6, 7, 8, 4, 2], [], w8h, w8j⟩ ⟨[], [], []⟩ (trs 6 [false, false, false, false, false, false, false]) (pp (fl v09_3 (fl v_1_0 nn)) (tt k2 (tt k1 (pp (pp (xr v_7_0) (xw o1_0)) nn)))))))) (fun k1 => (sl Jx 69 [] ⟨[1, 0, 5, 6, 7, 8, 4, 2], [], w8h, w8j⟩ ⟨[], [], []⟩ [false, false, false, false, false, false, false, false, false, false, false, false, false] (pp (fl v09_3 (fl v_1_0 nn)) (tt k1 (pp (pp (xr v_7_0) (xw o1_0)) nn))))))))))
 | .h3 v1 v2 v71 v72 v73 v000_24 v001_4 v_0_0 v_0_1 v_0_2 v_2_0_000 v09_3 v_6_0 => (lb (fun k0 => (lo fun o0 => (lo fun o1 => (sl Jx 23 [] ⟨[0, 1, 2, 3, 4, 5, 6, 10], [], w8h, w8j⟩ ⟨[], [.cells [.len (v_0_0 ++ [(R4.mk v1 (rd v71 (tn v73)).a v2 (rd v71 (tn v73)).b)]).length, .keep, .keep, .keep], .keep, .keep, .keep, .keep, .keep, .keep, .rowed 4 (v_0_0 ++ [(R4.mk v1 (rd v71 (tn v73)).a v2 (rd v71 (tn v73)).b)]).length (Zz (v_0_0 ++ [(R4.mk v1 (rd v71 (tn v73)).a v2 (rd v71 (tn v73)).b)]))], []⟩ [true] (pp (xL (v_0_0.length + 1) (v_0_0 ++ [(R4.mk v1 (rd v71 (tn v73)).a v2 (rd v71 (tn v73)).b)]).length) (pp (xL (v_0_0.length + 1) (v_0_0 ++ [(R4.mk v1 (rd v71 (tn v73)).a v2 (rd v71 (tn v73)).b)]).length) (pp (xS (v_0_0.length + 1) (Zd (Zz v_0_0) 0 v_0_0.length 4 [(ii v1), (ii (rd v71 (tn v73)).a), (ii v2), (ii (rd v71 (tn v73)).b)]) (Zz (v_0_0 ++ [(R4.mk v1 (rd v71 (tn v73)).a v2 (rd v71 (tn v73)).b)]))) (pp (fl v09_3 (pp (xF (Zd (Zz v_0_0) 0 v_0_0.length 4 [(ii v1), (ii (rd v71 (tn v73)).a), (ii v2), (ii (rd v71 (tn v73)).b)])) nn)) (ww o1 (ww o0 (tt k0 nn))))))))))) (fun k0 => (sl Jx 22 [] ⟨[1, 0, 2, 3, 4, 5, 7], [], v6f, v6g⟩ ⟨[], [], []⟩ [false, false] (pp (fl v09_3 (fl v_0_0 nn)) (tt k0 nn)))))
 | .h4 v2 v8 v000_21 v000_24 v001_4 v_0_0 v_0_1 v_0_2 v_0_3 v_3_0_000 v09_4 v_7_0 => (lb (fun k0 => (lo fun o0 => (lo fun o1 => (sl Jx 33 [] ⟨(List.range 8), [], madN4, madM4⟩ ⟨[], [.cells [.len (v_0_0.set (0 + (tn v8)) (R4.mk (rd v_0_0 (0 + (tn v8))).a (rd v_0_0 (0 + (tn v8))).b v2 (rd v_0_0 (0 + (tn v8))).d)).length, .keep, .keep, .keep], .rowed 4 (v_0_0.set (0 + (tn v8)) (R4.mk (rd v_0_0 (0 + (tn v8))).a (rd v_0_0 (0 + (tn v8))).b v2 (rd v_0_0 (0 + (tn v8))).d)).length (Zz (v_0_0.set (0 + (tn v8)) (R4.mk (rd v_0_0 (0 + (tn v8))).a (rd v_0_0 (0 + (tn v8))).b v2 (rd v_0_0 (0 + (tn v8))).d))), .keep, .keep, .keep, .keep, .keep, .keep], []⟩ [true] (pp (xL v_0_0.length (v_0_0.set (0 + (tn v8)) (R4.mk (rd v_0_0 (0 + (tn v8))).a (rd v_0_0 (0 + (tn v8))).b v2 (rd v_0_0 (0 + (tn v8))).d)).length) (pp (xL v_0_0.length (v_0_0.set (0 + (tn v8)) (R4.mk (rd v_0_0 (0 + (tn v8))).a (rd v_0_0 (0 + (tn v8))).b v2 (rd v_0_0 (0 + (tn v8))).d)).length) (pp (xS v_0_0.length (Xb (Zz v_0_0) (0 + (tn v8)) 2 [(ii v2)]) (Zz (v_0_0.set (0 + (tn v8)) (R4.mk (rd v_0_0 (0 + (tn v8))).a (rd v_0_0 (0 + (tn v8))).b v2 (rd v_0_0 (0 + (tn v8))).d)))) (pp (pp (xF (Xb (Zz v_0_0) (0 + (tn v8)) 2 [(ii v2)])) (fl v09_4 nn)) (ww o1 (ww o0 (tt k0 nn))))))))))) (fun k0 => (sl Jx 36 [] ⟨[2, 0, 3, 4, 5, 6, 1], [], v6f, v6g⟩ ⟨[], [], []⟩ [false, false] (pp (fl v09_4 (fl v_0_0 nn)) (tt k0 nn)))))
theorem x1t (l0 : List R4) : Xn Tryz.prog (Zy Tryz.prog 121) (madC l0) (Zf Tryz.prog 121 [(.dat l0.length (Zz l0))] true []) (y5h l0) := (sl Jx 56 [(3, 1, Zz ([] : List Int))] ⟨[2, 1, 3, 0, 4], [], madN0, madM0⟩ ⟨[], [.keep, .keep, .cells [.grow 4 1], .keep, .keep], []⟩ [true] (pp (fl ([] : List Int) nn) nn))
theorem w8g (l0 : List R4) (n : Nat) (vs : List AVal) (h : Ya (Xa l0) n (y5h l0) = .ret vs) : Je Tryz.prog (Zy Tryz.prog 121) (Zf Tryz.prog 121 [(.dat l0.length (Zz l0))] true []) vs := by
 have := Zn (x7v l0) n _ (x1t l0)
 rwa [h] at this
end Go.Am
namespace Go.Am
open Go.Proofs Go.Sort Go.Shelf Go.RowKit Go.Lib
theorem x5u {i n : Nat} (h : i < n) : decide ((i : Int) < (n : Int)) = true := decide_eq_true (by omega)
theorem z5k {σ : Type} (step : σ → Xo σ) (a b : Nat) (s : Xo σ) : Ya step (a + b) s = Ya step a (Ya step b s) := by
 induction b generalizing s with
 | zero => cases s <;> simp [Ya]
 | succ b ih => cases s with
  | to s => exact ih (step s)
  | ret vs => simp only [Zp]
  | stuck => cases a <;> cases b <;> rfl
theorem w3z {i : Nat} : decide ((i : Int) ≥ 0) = true := decide_eq_true (by omega)
def Qo {α : Type} [Xw α] (out : List α) : List AVal := bif decide ((out.length : Int) > 400) then [.nils, .int .i64 4] else [.dat out.length (Zz out), .int .i64 0]
def y3f {α : Type} [Xw α] (e : Int) (L : List α) : List AVal := bif e != 0 then [.nils, .int .i64 e] else [.dat L.length (Zz L), .int .i64 0]
def w3u {α : Type} (e : Int) (L : List α) : List α := bif e != 0 then [] else L
theorem z9c {α : Type} [Xw α] (e : Int) (L : List α) (ρ : Rho) (u : Value) (hu : Yv ρ (Ks (y3f e L)) u) : Yv ρ (.tup [.dat (w3u e L).length (Zz (w3u e L)), .int .i64 e]) u := by
 unfold y3f at hu
 unfold w3u
 by_cases h : e = 0
 ·subst h; exact hu
 ·have h : (e != 0) = true := by simpa using h
  rw [h] at hu ⊢
  exact z9z (.cons (z4c α) (RLe.refl _)) ρ u hu
theorem y4z {α : Type} [Xw α] (e : Int) (L : List α) : pf 3 (Ks (y3f e L)) = true := by
 unfold y3f
 cases (e != 0) <;> rfl
def w5m (n : Nat) : Int := bif decide ((n : Int) > 400) then 4 else 0
theorem y1w {α : Type} [Xw α] (L : List α) : Qo L = y3f (w5m L.length) L := by
 unfold Qo y3f w5m
 cases decide ((L.length : Int) > 400) <;> rfl
theorem Qd {α : Type} [Xw α] {e : Int} (L : List α) (h : (e != 0) = true) : y3f e L = [.nils, .int .i64 e] := by unfold y3f; rw [h]; rfl
theorem y3c : ∀ (L : List R3) (o last : Int) (inn : Bool) (out : List R2), (swF L o last inn out).length ≤ out.length + L.length
 | [], _, _, _, out => Nat.le_refl _
 | e :: r, o, last, inn, out => by
  rw [z8l]
  have := y3c r (o + e.c) e.a (decide (o + e.c > 0)) (Vv out last inn e.a)
  have := z1e out last inn e.a
  simp only [List.length_cons]; omega
theorem y0c (l : List R3) : (Qc l).length = l.length := by
 by_cases h : z8b l = true
 ·exact (Jn l h).1.length_eq
 ·unfold Qc; rw [dif_neg h]
theorem y9w (l : List R2) : (Xg l).length ≤ 800 := by
 unfold Xg
 by_cases h : 400 < l.length
 ·rw [decide_eq_true h]; exact Nat.zero_le _
 ·rw [decide_eq_false h]
  cases l.all z0e
  ·exact Nat.zero_le _
  ·show (swV l).length ≤ 800
   have h1 := y3c (Qc (Ju l)) 0 0 false []
   rw [y0c, z2m] at h1
   simp only [List.length_nil] at h1
   unfold swV; omega
def Kw (r : R4) : Bool := decide (r.a < r.c) && (decide (r.b < r.d) && (decide (r.a ≥ -1000000) && (decide (r.a ≤ 1000000) && (decide (r.c ≥ -1000000) && (decide (r.c ≤ 1000000) && (decide (r.b ≥ -1000000) && (decide (r.b ≤ 1000000) && (decide (r.d ≥ -1000000) && decide (r.d ≤ 1000000)))))))))
def D4 : Dim R4 R2 := ⟨R4.a, R4.c, fun r => ⟨r.b, r.d⟩, fun x x' s => ⟨x, s.a, x', s.b⟩, fun x r => ⟨r.a, r.b, x, r.d⟩, Xg, Jr⟩
theorem D4_sec (l : List R4) (x : Int) : (D4.sec l x).length ≤ 1000 := Nat.le_trans (y9w _) (by omega)
section
variable (l : List R4) (hl : l.length ≤ 400)
include hl
theorem v2s (i : Nat) (out : List R4) (last : List R2) (first fin x x' : Int) : ∀ (k j : Nat) (acc : List R2), j + k = l.length → acc.length ≤ j →
  ∃ n, ∀ N, Ya (Xa l) (N + n) (.to (.h2 (i : Int) (j : Int) out last first fin ((D4.cuts l).length) (Wc (Xd (D4.ends l))) x x' acc)) = Ya (Xa l) N (.to (.h2 (i : Int) (l.length : Int) out last first fin ((D4.cuts l).length) (Wc (Xd (D4.ends l))) x x' (acc ++ D4.inn (l.drop j) x)))
 | 0, j, acc, h, ha => by
  refine ⟨0, fun N => ?_⟩
  rw [List.drop_eq_nil_of_le (by omega), show D4.inn ([] : List R4) x = [] from rfl, List.append_nil, Nat.add_zero, show j = l.length by omega]
 | k + 1, j, acc, h, ha => by
  have hj : j < l.length := by omega
  obtain ⟨n, hn⟩ := v2s i out last first fin x x' k (j + 1) (acc ++ D4.inn [rd l j] x) (by omega) (by have := D4.inn_length [rd l j] x; simp only [List.length_append, List.length_singleton] at *; omega)
  refine ⟨n + 1, fun N => ?_⟩
  have e : D4.inn (l.drop j) x = D4.inn [rd l j] x ++ D4.inn (l.drop (j + 1)) x := by
   rw [Yi hj, ← D4.inn_append]; rfl
  rw [e, ← Nat.add_assoc, Zv, ← List.append_assoc, ← hn N]
  by_cases h1 : D4.lo (rd l j) ≤ x
  ·by_cases h2 : x < D4.hi (rd l j)
   ·rw [D4.inn_t _ _ h1 h2]
    simp only [D4] at h1 h2 ⊢
    simp (disch := omega) only [Xa, Xq, Zg, Zq, Zs, Zr, Yq, Yy, Yw, Zc, Zj, Zx, Yu, Zu, Nat.zero_add, decide_true, Bool.and_true, Bool.true_and, cond_true, cond_false]
   ·rw [D4.inn_f2 _ _ h2, List.append_nil]
    simp only [D4] at h1 h2
    simp (disch := omega) only [Xa, Xq, Yx, Zg, Zq, Zs, Zr, Yq, Yy, Yw, Zc, Zj, Zx, Yu, Zu, Nat.zero_add, decide_true, Bool.and_true, Bool.true_and, cond_true, cond_false]
  ·rw [D4.inn_f1 _ _ h1, List.append_nil]
   simp only [D4] at h1
   simp (disch := omega) only [Xa, x8q, Zg, Zq, Zs, Zr, Yq, Yy, Yw, Zc, Zj, Zx, Yu, Zu, Nat.zero_add, decide_true, Bool.and_true, Bool.true_and, cond_true, cond_false]
theorem v2r (i : Nat) (hi : i ≤ 1000) (x x' : Int) (s last : List R2) (first : Int) (inn : List R2) (hs : s.length ≤ 1000) : ∀ (k j : Nat) (out : List R4), j + k = s.length → out.length ≤ 10000000 + j →
  ∃ n, ∀ N, Ya (Xa l) (N + n) (.to (.h3 x x' s (s.length : Int) (j : Int) s (i : Int) out last first ((D4.cuts l).length) (Wc (Xd (D4.ends l))) inn)) = Ya (Xa l) N (.to (.h1 ((i + 1 : Nat) : Int) (out ++ (s.drop j).map (D4.put x x')) last first x' ((D4.cuts l).length) (Wc (Xd (D4.ends l)))))
 | 0, j, out, h, ho => by
  have _u := hl
  refine ⟨1, fun N => ?_⟩
  rw [List.drop_eq_nil_of_le (by omega), Zv]
  simp (disch := omega) only [Xa, Yx, Zj, Zx, cond_false, List.map_nil, List.append_nil]
 | k + 1, j, out, h, ho => by
  obtain ⟨n, hn⟩ := v2r i hi x x' s last first inn hs k (j + 1) (out ++ [D4.put x x' (rd s j)]) (by omega) (by simp; omega)
  refine ⟨n + 1, fun N => ?_⟩
  have := hn N
  rw [Yi (show j < s.length by omega), List.map_cons, ← Nat.add_assoc, Zv]
  simp (disch := omega) only [Xa, Zg, Zq, Zs, Zr, Yq, Yy, Yw, Zc, Zj, Zx, Yu, Zu, Nat.zero_add, decide_true, Bool.and_true, Bool.true_and, cond_true, cond_false]
  rw [List.append_assoc] at this
  exact this
theorem v2q (i : Nat) (hi : i ≤ 1000) (x x' fin : Int) (s last : List R2) (first : Int) (inn : List R2) : ∀ (k j : Nat) (out : List R4), j + k = out.length → out.length ≤ 10000000 →
  ∃ n, ∀ N, Ya (Xa l) (N + n) (.to (.h4 x' (j : Int) x s (i : Int) out last first fin ((D4.cuts l).length) (Wc (Xd (D4.ends l))) inn)) = Ya (Xa l) N (.to (.h1 ((i + 1 : Nat) : Int) (D4.grow out j x') last first x' ((D4.cuts l).length) (Wc (Xd (D4.ends l)))))
 | 0, j, out, h, ho => by
  have _u := hl
  refine ⟨1, fun N => ?_⟩
  rw [D4.grow_nil _ _ _ (by omega), Zv]
  simp (disch := omega) only [Xa, Yx, Zj, Zx, cond_false]
 | k + 1, j, out, h, ho => by
  obtain ⟨n, hn⟩ := v2q i hi x x' fin s last first inn k (j + 1) (out.set j (D4.ext x' (rd out j))) (by simp; omega) (by simpa using ho)
  refine ⟨n + 1, fun N => ?_⟩
  have := hn N
  rw [D4.grow_set out j _ (by omega)] at this
  rw [← Nat.add_assoc, Zv]
  simp (disch := omega) only [Xa, Zg, Zq, Zs, Zr, Yq, Yy, Yw, Zc, Zj, Zx, Yu, Zu, Nat.zero_add, decide_true, Bool.and_true, Bool.true_and, cond_true, cond_false]
  exact this
theorem w2v : ∀ (k i : Nat) (s : Sw R4 R2), k = (D4.cuts l).length - 1 - i → i ≤ (D4.cuts l).length → s.out.length ≤ i * 1000 → s.last.length ≤ 1000 → s.first ≤ s.out.length →
  ∃ n, Ya (Xa l) n (.to (.h1 ((i + 1 : Nat) : Int) s.out s.last (s.first : Int) s.fin ((D4.cuts l).length) (Wc (Xd (D4.ends l))))) = .ret (Qo (D4.go l k i s).out)
 | 0, i, s, h, hi, ho, hla, hf => by
  have hc := D4.cuts_length l
  refine ⟨1, ?_⟩
  rw [Zv, show D4.go l 0 i s = s from rfl]
  unfold Qo
  by_cases q : (s.out.length : Int) > 400
  ·simp (disch := omega) only [Xa, Yx, Yf, cond_true, cond_false, Zp]
  ·simp (disch := omega) only [Xa, Yx, Xy, cond_true, cond_false, Zp]
 | k + 1, i, s, h, hi, ho, hla, hf => by
  have hc := D4.cuts_length l
  have hi1 : i + 1 < (D4.cuts l).length := by omega
  have hpl : (Wc (Xd (D4.ends l))).length = 2 * l.length := by rw [Kr, Jm, D4.ends_length]
  have r0 : rd (Wc (Xd (D4.ends l))) i = rd (D4.cuts l) i := z7i _ _ (by show i < (D4.cuts l).length; omega)
  have r1 : rd (Wc (Xd (D4.ends l))) (i + 1) = rd (D4.cuts l) (i + 1) := z7i _ _ (by show i + 1 < (D4.cuts l).length; omega)
  have hbig : i * 1000 ≤ 1000 * 1000 := Nat.mul_le_mul_right _ (by omega)
  have hsl := D4_sec l (rd (D4.cuts l) i)
  have hsd : D4.sec l (rd (D4.cuts l) i) = Xg (D4.inn l (rd (D4.cuts l) i)) := rfl
  obtain ⟨n3, h3⟩ := v2s l hl (i + 1) s.out s.last (s.first : Int) s.fin (rd (D4.cuts l) i) (rd (D4.cuts l) (i + 1)) l.length 0 [] (Nat.zero_add _) (Nat.le_refl _)
  simp only [List.drop_zero, List.nil_append, z2n] at h3
  have w1 : y0d (D4.inn l (rd (D4.cuts l) i)) = true := rfl
  have w2 : Vj s.last (Xg (D4.inn l (rd (D4.cuts l) i))) = true := decide_eq_true (by omega)
  have ol := D4.one_length l (rd (D4.cuts l) i) (rd (D4.cuts l) (i + 1)) s
  have st0 : ∀ N, Ya (Xa l) (N + n3 + 1) (.to (.h1 ((i + 1 : Nat) : Int) s.out s.last (s.first : Int) s.fin ((D4.cuts l).length) (Wc (Xd (D4.ends l))))) = Ya (Xa l) N (.to (.h2 ((i + 1 : Nat) : Int) (l.length : Int) s.out s.last (s.first : Int) s.fin ((D4.cuts l).length) (Wc (Xd (D4.ends l))) (rd (D4.cuts l) i) (rd (D4.cuts l) (i + 1)) (D4.inn l (rd (D4.cuts l) i)))) := fun N => by
   rw [← h3 N, Zv]
   have e1 : IntKind.wrap .i64 (((i + 1 : Nat) : Int) - 1) = (i : Int) := by rw [Zo]; exact Zj (by omega)
   simp (disch := omega) only [Xa, e1, r0, r1, Zg, Zq, Zs, Zr, Yq, Yy, Yw, Zc, Zj, Zx, Yu, Zu, Nat.zero_add, decide_true, Bool.and_true, Bool.true_and, cond_true, cond_false]
  rcases Yc (decide (0 < (D4.sec l (rd (D4.cuts l) i)).length) && ((s.fin == rd (D4.cuts l) i) && D4.same s.last (D4.sec l (rd (D4.cuts l) i)))) with q | q
  ·obtain ⟨n5, h5⟩ := v2q l hl (i + 1) (by omega) (rd (D4.cuts l) i) (rd (D4.cuts l) (i + 1)) s.fin (D4.sec l (rd (D4.cuts l) i)) s.last (s.first : Int) (D4.inn l (rd (D4.cuts l) i)) (s.out.length - s.first) s.first s.out (by omega) (by omega)
   have e : D4.one l (rd (D4.cuts l) i) (rd (D4.cuts l) (i + 1)) s = ⟨D4.grow s.out s.first (rd (D4.cuts l) (i + 1)), s.last, s.first, rd (D4.cuts l) (i + 1)⟩ := by unfold Dim.one; rw [q]; rfl
   obtain ⟨n0, h0⟩ := w2v k (i + 1) (D4.one l (rd (D4.cuts l) i) (rd (D4.cuts l) (i + 1)) s) (by omega) (by omega) (by omega) (by rw [e]; exact hla) (by rw [e]; simpa [Dim.grow_length] using hf)
   refine ⟨n0 + n5 + 1 + n3 + 1, ?_⟩
   rw [st0 (n0 + n5 + 1), Zv]
   simp only [Bool.and_eq_true, decide_eq_true_eq] at q
   obtain ⟨q1, q2, q3⟩ := q
   have q3' : Jr s.last (Xg (D4.inn l (rd (D4.cuts l) i))) = true := q3
   rw [hsd] at q1
   simp (disch := omega) only [Xa, Zg, Zq, Yx, Yf, q2, q3', w1, w2, cond_true, cond_false]
   rw [← hsd, h5 n0]
   simp only [Dim.go]
   rw [e] at h0 ⊢
   exact h0
  ·obtain ⟨n4, h4⟩ := v2r l hl (i + 1) (by omega) (rd (D4.cuts l) i) (rd (D4.cuts l) (i + 1)) (D4.sec l (rd (D4.cuts l) i)) (D4.sec l (rd (D4.cuts l) i)) (s.out.length : Int) (D4.inn l (rd (D4.cuts l) i)) hsl (D4.sec l (rd (D4.cuts l) i)).length 0 s.out (Nat.zero_add _) (by omega)
   simp only [List.drop_zero, z2n] at h4
   have e : D4.one l (rd (D4.cuts l) i) (rd (D4.cuts l) (i + 1)) s = ⟨s.out ++ (D4.sec l (rd (D4.cuts l) i)).map (D4.put (rd (D4.cuts l) i) (rd (D4.cuts l) (i + 1))), D4.sec l (rd (D4.cuts l) i), s.out.length, rd (D4.cuts l) (i + 1)⟩ := by unfold Dim.one; rw [q]; rfl
   obtain ⟨n0, h0⟩ := w2v k (i + 1) (D4.one l (rd (D4.cuts l) i) (rd (D4.cuts l) (i + 1)) s) (by omega) (by omega) (by omega) (by rw [e]; exact hsl) (by rw [e]; simp)
   have hg : Ya (Xa l) 1 (.to (.h2 ((i + 1 : Nat) : Int) (l.length : Int) s.out s.last (s.first : Int) s.fin ((D4.cuts l).length) (Wc (Xd (D4.ends l))) (rd (D4.cuts l) i) (rd (D4.cuts l) (i + 1)) (D4.inn l (rd (D4.cuts l) i)))) = .to (.h3 (rd (D4.cuts l) i) (rd (D4.cuts l) (i + 1)) (D4.sec l (rd (D4.cuts l) i)) ((D4.sec l (rd (D4.cuts l) i)).length : Int) 0 (D4.sec l (rd (D4.cuts l) i)) ((i + 1 : Nat) : Int) s.out (D4.sec l (rd (D4.cuts l) i)) (s.out.length : Int) ((D4.cuts l).length) (Wc (Xd (D4.ends l))) (D4.inn l (rd (D4.cuts l) i))) := by
    rw [show (1 : Nat) = 0 + 1 from rfl, Zv]
    rw [hsd] at q ⊢
    have e3 : D4.same s.last (Xg (D4.inn l (rd (D4.cuts l) i))) = Jr s.last (Xg (D4.inn l (rd (D4.cuts l) i))) := rfl
    rw [e3] at q
    by_cases q1 : 0 < (Xg (D4.inn l (rd (D4.cuts l) i))).length
    ·rw [decide_eq_true q1, Bool.true_and] at q
     rcases Yc (s.fin == rd (D4.cuts l) i) with q2 | q2
     ·rw [q2, Bool.true_and] at q
      simp (disch := omega) only [Xa, Zg, Zq, Yx, Yf, q2, q, w1, w2, cond_true, cond_false]
      rfl
     ·simp (disch := omega) only [Xa, Zg, Zq, Yx, Yf, q2, w1, w2, cond_true, cond_false]
      rfl
    ·simp (disch := omega) only [Xa, Zg, Zq, Yx, Xy, w1, w2, cond_true, cond_false]
     rfl
   refine ⟨n0 + n4 + 1 + n3 + 1, ?_⟩
   rw [st0 (n0 + n4 + 1), z5k _ (n0 + n4) 1, hg, h4 n0]
   simp only [Dim.go]
   rw [e] at h0 ⊢
   exact h0
theorem v2t : ∀ (k i : Nat) (acc : List Int), i + k = l.length → acc = D4.ends (l.take i) → ∃ n, Ya (Xa l) n (.to (.h0 (i : Int) acc)) = .ret (Qo (D4.go l ((D4.cuts l).length - 1) 0 ⟨[], [], 0, 0⟩).out)
 | 0, i, acc, h, ha => by
  have e : acc = D4.ends l := by rw [ha, List.take_of_length_le (by omega)]
  subst e
  have hle := D4.ends_length l
  obtain ⟨n, hn⟩ := w2v l hl ((D4.cuts l).length - 1) 0 ⟨[], [], 0, 0⟩ (by omega) (Nat.zero_le _) (Nat.zero_le _) (Nat.zero_le _) (Nat.zero_le _)
  refine ⟨n + 1, ?_⟩
  rw [Zv]
  simp (disch := omega) only [Xa, Qz, z3a, y5w, Yx, Yy, Yw, decide_true, cond_true, cond_false]
  exact hn
 | k + 1, i, acc, h, ha => by
  have hle := D4.ends_length (l.take i)
  have hacc : acc.length ≤ 2 * i := by rw [ha, hle]; simp; omega
  obtain ⟨n, hn⟩ := v2t k (i + 1) (acc ++ D4.ends [rd l i]) (by omega) (by
   rw [ha, List.take_add_one]
   have : l[i]? = some (rd l i) := by rw [Xj (show i < l.length by omega)]; exact List.getElem?_eq_getElem _
   rw [this, D4.ends_append]; rfl)
  refine ⟨n + 1, ?_⟩
  rw [Zv]
  simp (disch := omega) only [Xa, Zg, Zq, Zs, Zr, Yq, Yy, Yw, Zc, Zj, Zx, Yu, Zu, Nat.zero_add, decide_true, Bool.and_true, Bool.true_and, cond_true, cond_false]
  exact hn
end
def v6h (l : List R4) : Int := w5m (D4.out l).length
def Wj (l : List R4) : List R4 := w3u (v6h l) (D4.out l)
def z0k (l : List R4) : Int := v6h l
def Kz (l : List R4) : Bool := decide (l.length ≤ 400)
theorem v6e (l : List R4) (h : Kz l = true) : ∃ n, Ya (Xa l) n (y5h l) = .ret (y3f (v6h l) (D4.out l)) := by
 rw [show y3f (v6h l) (D4.out l) = Qo (D4.out l) from (y1w _).symm]
 exact v2t l (of_decide_eq_true h) l.length 0 [] (Nat.zero_add _) rfl
def v3r (a b c d : Int) : Bool := Kw ⟨a, b, c, d⟩
theorem v3q (a b c d : Int) : ∃ N, Ya (y9n a b c d) N (z8k a b c d) = .ret [.bool (v3r a b c d)] := ⟨0, by
 unfold z8k v3r Kw
 simp only [y1z]
 cases decide (a < c) <;> cases decide (b < d) <;> cases decide (a ≥ -1000000) <;> cases decide (a ≤ 1000000) <;> cases decide (c ≥ -1000000) <;> cases decide (c ≤ 1000000) <;> cases decide (b ≥ -1000000) <;> cases decide (b ≤ 1000000) <;> cases decide (d ≥ -1000000) <;> rfl⟩
def fVl4 : List AVal → Option (AVal × Bool)
 | [.agg [.int .i64 x0_0, .int .i64 x0_1, .int .i64 x0_2, .int .i64 x0_3]] => some (.bool (v3r x0_0 x0_1 x0_2 x0_3), true)
 | _ => none
theorem v6u {S : Specs} (hS : Zk Tryz.prog S) : Zk Tryz.prog (S.with x4z fVl4) := by
 refine z1b hS (by kernel_rfl) fun args v h => ?_
 unfold fVl4 at h
 split at h
 ·rename_i x0_0 x0_1 x0_2 x0_3
  simp only [Option.some.injEq, Prod.mk.injEq, and_true] at h
  subst h
  obtain ⟨N, hN⟩ := v3q x0_0 x0_1 x0_2 x0_3
  exact ⟨_, _, (.cons (.refl _) .nil), rfl, w5q x0_0 x0_1 x0_2 x0_3 N _ hN, 3, rfl⟩
 ·cases h
def fMad : List AVal → Option (AVal × Bool)
 | [a0] => match asL R4 a0 with
  | some (L0, g0, n0) => some (.tup [.dat (Wj L0).length (Zz (Wj L0)), .int .i64 (z0k L0)], isT R4 n0 g0 && (Kz L0))
  | _ => none
 | _ => none
theorem v7l {S : Specs} (hS : Zk Tryz.prog S) : Zk Tryz.prog (S.with w2q fMad) := by
 refine v6v hS (by kernel_rfl) fun args v h => ?_
 unfold fMad at h
 split at h
 ·rename_i a0
  split at h
  ·rename_i L0 g0 n0 e0
   simp only [Option.some.injEq, Prod.mk.injEq, Bool.and_eq_true] at h
   obtain ⟨rfl, ho0, hw⟩ := h
   obtain ⟨N, hN⟩ := v6e L0 hw
   exact ⟨_, _, (.cons (asL_le e0 ho0) .nil), z9c _ _, w8g L0 N _ hN, 3, y4z _ _⟩
  ·cases h
 ·cases h
def T6v : Specs := (T6.with x4z fVl4)
theorem T6v_ok : Zk Tryz.prog T6v := (v6u Jx)
def T6m : Specs := (T6v.with w2q fMad)
theorem y2m : Zk Tryz.prog T6m := (v7l T6v_ok)
end Go.Am
namespace Go.Am
open Go.Proofs
inductive rgmS where
 | h0 (v8 : Int)
def rgmC (l0 : List R4) : rgmS → Cfg
 | .h0 v8 => ⟨⟨19, 0, true⟩, none, (Za Tryz.prog 154 [1, 0, 1, 0, 0] 0), none, (Zy Tryz.prog 5), ⟨Ym [(0, (.dat l0.length (Zz l0))), (1, (.fn 119 [])), (7, (ii (l0.length : Int))), (8, (ii v8))], Jw [] 0, 0, [], true⟩, [⟨⟨9, 0, true⟩, (We Tryz.prog 118 [1, 0] 2), (Za Tryz.prog 118 [1, 0] 1), none, (Zy Tryz.prog 5), Ym [(5, (.dat l0.length (Zz l0))), (6, (.fn 119 []))]⟩, ⟨⟨13, 0, true⟩, (We Tryz.prog 65 [1, 1, 0, 0] 1), (Za Tryz.prog 65 [1, 1, 0, 0] 1), none, (Zy Tryz.prog 15), Ym [(0, (.dat l0.length (Zz l0))), (7, (.dat l0.length (Zz l0)))]⟩], .leaf⟩
def rgmN0 : List (Option (List Nat)) := [some [0, 1, 7, 8], some [5, 6], some [0, 7]]
def rgmM0 : List (Option (List Nat)) := []
def z2a (l0 : List R4) : rgmS → Xo rgmS
 | .h0 v8 => (bif (decide (v8 < (l0.length : Int))) then (bif ((decide (0 ≤ v8 ∧ v8 < (l0.length : Int))) && true) then (bif (!(v3r (rd l0 v8.toNat).a (rd l0 v8.toNat).b (rd l0 v8.toNat).c (rd l0 v8.toNat).d)) then (bif (decide (v8 ≥ 0)) then (.ret [.nils, (.int .i64 8)]) else (bif (Kz (cvT l0)) then (.ret [(.dat (Wj (cvT l0)).length (Zz (Wj (cvT l0)))), (.int .i64 (z0k (cvT l0)))]) else .stuck)) else (.to (.h0 (IntKind.wrap .i64 (v8 + 1))))) else .stuck) else (bif (Kz (cvT l0)) then (.ret [(.dat (Wj (cvT l0)).length (Zz (Wj (cvT l0)))), (.int .i64 (z0k (cvT l0)))]) else .stuck))
def z4w (l0 : List R4) : Xo rgmS := (bif (decide ((l0.length : Int) > 400)) then (.ret [.nils, (.int .i64 4)]) else (.to (.h0 0)))
theorem x7f (l0 : List R4) : ∀ s, Xn Tryz.prog (Zy Tryz.prog 65) (rgmC l0) (rgmC l0 s) (z2a l0 s)
 | .h0 v8 => (lb (fun k0 => (lo fun o1_0 => (lb (fun k1 => (lb (fun k2 => (lr 13 65 [1, 1, 0, 1, 0, 0] 1 15 [(2, .nils), (3, (ii 8))] (sl y2m 54 [] ⟨[], [], [some [2, 3]], []⟩ ⟨[], [], []⟩ (trs 3 []) (tt k2 (tt k1 (ww o1_0 (tt k0 nn))))))) (fun k2 => (lo fun o0 => (lr 13 3 [1, 1, 1, 1, 1, 1, 1, 0] 1 15 [(2, (.dat (Wj (cvT l0)).length (Zz (Wj (cvT l0))))), (3, (ii (z0k (cvT l0))))] (sl y2m 59 [] ⟨[], [], [some [2, 3]], []⟩ ⟨[], [], []⟩ [true, true, false] (pp (pp (xr l0) (xw o0)) (tt k2 (tt k1 (ww o1_0 (tt k0 nn))))))))))) (fun k1 => (sl y2m 44 [] ⟨[], [], rgmN0, rgmM0⟩ ⟨[], [], []⟩ [true, false] (tt k1 (ww o1_0 (tt k0 nn)))))))) (fun k0 => (lo fun o0 => (lr 13 3 [1, 1, 1, 1, 1, 1, 1, 0] 1 15 [(2, (.dat (Wj (cvT l0)).length (Zz (Wj (cvT l0))))), (3, (ii (z0k (cvT l0))))] (sl y2m 28 [] ⟨[], [], [some [2, 3]], []⟩ ⟨[], [], []⟩ [false, false] (pp (pp (xr l0) (xw o0)) (tt k0 nn)))))))
theorem x0s (l0 : List R4) : Xn Tryz.prog (Zy Tryz.prog 65) (rgmC l0) (Zf Tryz.prog 65 [(.dat l0.length (Zz l0))] true []) (z4w l0) := (lb (fun k0 => (lr 13 65 [1, 0, 1, 0, 0] 1 15 [(2, .nils), (3, (ii 4))] (sl y2m 18 [] ⟨[], [], [some [2, 3]], []⟩ ⟨[], [], []⟩ [true] (tt k0 nn)))) (fun k0 => (sl y2m 41 [] ⟨[], [], rgmN0, rgmM0⟩ ⟨[], [], []⟩ [false] (tt k0 nn))))
theorem w6x (l0 : List R4) (n : Nat) (vs : List AVal) (h : Ya (z2a l0) n (z4w l0) = .ret vs) : Je Tryz.prog (Zy Tryz.prog 65) (Zf Tryz.prog 65 [(.dat l0.length (Zz l0))] true []) vs := by
 have := Zn (x7f l0) n _ (x0s l0)
 rwa [h] at this
end Go.Am
namespace Go.Am
open Go.Proofs
open Go.Sort Go.Shelf Go.RowKit Go.Lib
theorem v1l (l : List R4) (hl : l.length ≤ 400) : ∀ (k i : Nat), i + k = l.length → (∀ s ∈ l.take i, Kw s = true) → ∃ n, Ya (z2a l) n (.to (.h0 (i : Int))) = .ret (bif l.all Kw then [.dat (Wj l).length (Zz (Wj l)), .int .i64 (z0k l)] else [.nils, .int .i64 8])
 | 0, i, h, ht => by
  have hv : l.all Kw = true := List.all_eq_true.2 fun s hs => ht s (by rw [List.take_of_length_le (by omega)]; exact hs)
  have w : Kz l = true := decide_eq_true hl
  refine ⟨1, ?_⟩
  rw [Zv, hv, cond_true]
  simp (disch := omega) only [z2a, Zg, w, Yx, cond_true, cond_false, Zp]
 | k + 1, i, h, ht => by
  have hi : i < l.length := by omega
  have hs : z2a l (.h0 (i : Int)) = bif Kw (rd l i) then .to (.h0 ((i + 1 : Nat) : Int)) else .ret [.nils, .int .i64 8] := by
   have e : v3r (rd l i).a (rd l i).b (rd l i).c (rd l i).d = Kw (rd l i) := rfl
   simp (disch := omega) only [z2a, e, z6v, x5u, w3z, Zr, Zj, Zx, Zu, Bool.and_true, cond_true, cond_false]
  rcases Yc (Kw (rd l i)) with q | q
  ·obtain ⟨n, hn⟩ := v1l l hl k (i + 1) (by omega) (fun s hs => by
    rw [List.take_add_one] at hs
    have e : l[i]? = some (rd l i) := by rw [Xj hi]; exact List.getElem?_eq_getElem _
    rw [e] at hs
    simp only [Option.toList_some, List.mem_append, List.mem_singleton] at hs
    rcases hs with hs | rfl
    ·exact ht s hs
    ·exact q)
   refine ⟨n + 1, ?_⟩
   rw [Zv, hs, q, cond_true]
   exact hn
  ·have hv : l.all Kw = false := Bool.eq_false_iff.2 fun e => by
    have := List.all_eq_true.1 e (rd l i) (by rw [Xj hi]; exact List.getElem_mem hi)
    rw [this] at q; cases q
   refine ⟨1, ?_⟩
   rw [Zv, hv, cond_false, hs, q, cond_false, Zp]
theorem w6w (l : List R4) : ∃ n, Ya (z2a l) n (z4w l) = .ret (bif decide (400 < l.length) then [.nils, .int .i64 4] else bif l.all Kw then [.dat (Wj l).length (Zz (Wj l)), .int .i64 (z0k l)] else [.nils, .int .i64 8]) := by
 unfold z4w
 by_cases h : 400 < l.length
 ·refine ⟨0, ?_⟩
  rw [decide_eq_true h, Yf (show (l.length : Int) > 400 by omega)]; rfl
 ·obtain ⟨n, hn⟩ := v1l l (by omega) l.length 0 (Nat.zero_add _) (fun s hs => by simp at hs)
  refine ⟨n, ?_⟩
  rw [decide_eq_false h, Xy (show ¬ (l.length : Int) > 400 by omega), cond_false, cond_false]
  exact hn
def Zb (l : List R4) : List R4 := bif decide (400 < l.length) then [] else bif l.all Kw then (bif decide (((D4.out l).length : Int) > 400) then [] else D4.out l) else []
def Xh (l : List R4) : Int := bif decide (400 < l.length) then 4 else bif l.all Kw then (bif decide (((D4.out l).length : Int) > 400) then 4 else 0) else 8
def Js (l : List R4) : Bool := true
theorem v5f (l : List R4) (h : Js l = true) : ∃ n, Ya (z2a l) n (z4w l) = .ret (bif decide (400 < l.length) then [.nils, .int .i64 4] else bif l.all Kw then [.dat (Zb l).length (Zz (Zb l)), .int .i64 (Xh l)] else [.nils, .int .i64 8]) := by
 obtain ⟨n, hn⟩ := w6w l
 refine ⟨n, hn.trans ?_⟩
 cases h1 : decide (400 < l.length) <;> cases h2 : l.all Kw <;> simp only [cond_true, cond_false]
 have e0 : Wj l = Zb l := by
  unfold Wj v6h w3u w5m Zb
  rw [h1, h2]
  cases decide (((D4.out l).length : Int) > 400) <;> rfl
 have e1 : z0k l = Xh l := by
  unfold z0k v6h w5m Xh
  rw [h1, h2]; rfl
 rw [e0, e1]
def fRgm : List AVal → Option (AVal × Bool)
 | [a0] => match asL R4 a0 with
  | some (L0, g0, n0) => some (.tup [.dat (Zb L0).length (Zz (Zb L0)), .int .i64 (Xh L0)], isT R4 n0 g0 && (Js L0))
  | _ => none
 | _ => none
theorem v7c {S : Specs} (hS : Zk Tryz.prog S) : Zk Tryz.prog (S.with x5b fRgm) := by
 refine v6v hS (by kernel_rfl) fun args v h => ?_
 unfold fRgm at h
 split at h
 ·rename_i a0
  split at h
  ·rename_i L0 g0 n0 e0
   simp only [Option.some.injEq, Prod.mk.injEq, Bool.and_eq_true] at h
   obtain ⟨rfl, ho0, hw⟩ := h
   obtain ⟨N, hN⟩ := v5f L0 hw
   refine ⟨_, _, (.cons (asL_le e0 ho0) .nil), ?_, w6x L0 N _ hN, 3, ?_⟩
   ·cases h1 : decide (400 < L0.length) <;> cases h2 : L0.all Kw <;> simp only [Zb, Xh, h1, h2, cond_true, cond_false]
    ·exact fun ρ u hu => z9z (.cons (z4c R4) (RLe.refl _)) ρ u hu
    ·exact fun ρ u hu => hu
    ·exact fun ρ u hu => z9z (.cons (z4c R4) (RLe.refl _)) ρ u hu
    ·exact fun ρ u hu => z9z (.cons (z4c R4) (RLe.refl _)) ρ u hu
   ·cases decide (400 < L0.length) <;> cases L0.all Kw <;> rfl
  ·cases h
 ·cases h
def T7 : Specs := (T6m.with x5b fRgm)
theorem y9e : Zk Tryz.prog T7 := (v7c y2m)
end Go.Am
namespace Go.Am
open Go.Proofs
inductive vl6S where
def vl6C (x0_0 : Int) (x0_1 : Int) (x0_2 : Int) (x0_3 : Int) (x0_4 : Int) (x0_5 : Int) : vl6S → Cfg
 := nofun
def y9l (x0_0 : Int) (x0_1 : Int) (x0_2 : Int) (x0_3 : Int) (x0_4 : Int) (x0_5 : Int) : vl6S → Xo vl6S
 := nofun
def z8j (x0_0 : Int) (x0_1 : Int) (x0_2 : Int) (x0_3 : Int) (x0_4 : Int) (x0_5 : Int) : Xo vl6S := (bif (decide (x0_0 < x0_3)) then (bif (decide (x0_1 < x0_4)) then (bif (decide (x0_2 < x0_5)) then (bif (decide ((Wa (Wa x0_0 x0_1) x0_2) ≥ (-1000000))) then (bif (decide ((Wb (Wb x0_0 x0_1) x0_2) ≤ 1000000)) then (bif (decide ((Wa (Wa x0_3 x0_4) x0_5) ≥ (-1000000))) then (.ret [(.bool (decide ((Wb (Wb x0_3 x0_4) x0_5) ≤ 1000000)))]) else (.ret [(.bool false)])) else (.ret [(.bool false)])) else (.ret [(.bool false)])) else (.ret [(.bool false)])) else (.ret [(.bool false)])) else (.ret [(.bool false)]))
theorem x6d (x0_0 : Int) (x0_1 : Int) (x0_2 : Int) (x0_3 : Int) (x0_4 : Int) (x0_5 : Int) : ∀ s, Xn Tryz.prog (Zy Tryz.prog 94) (vl6C x0_0 x0_1 x0_2 x0_3 x0_4 x0_5) (vl6C x0_0 x0_1 x0_2 x0_3 x0_4 x0_5 s) (y9l x0_0 x0_1 x0_2 x0_3 x0_4 x0_5 s)
 := nofun
theorem y9m (x0_0 : Int) (x0_1 : Int) (x0_2 : Int) (x0_3 : Int) (x0_4 : Int) (x0_5 : Int) : Xn Tryz.prog (Zy Tryz.prog 94) (vl6C x0_0 x0_1 x0_2 x0_3 x0_4 x0_5) (Zf Tryz.prog 94 [(.agg [(.int .i64 x0_0), (.int .i64 x0_1), (.int .i64 x0_2), (.int .i64 x0_3), (.int .i64 x0_4), (.int .i64 x0_5)])] true []) (z8j x0_0 x0_1 x0_2 x0_3 x0_4 x0_5) := (lb (fun k0 => (lb (fun k1 => (lb (fun k2 => (lb (fun k3 => (lb (fun k4 => (lb (fun k5 => (lr 38 3 [1, 1, 1, 1, 1, 1, 1, 0] 1 3 [(2, (.bool (decide ((Wb (Wb x0_3 x0_4) x0_5) ≤ 1000000))))] (sl y9e 100 [] ⟨[], [], [some [2]], []⟩ ⟨[], [], []⟩ (trs 36 []) (tt k5 (tt k4 (tt k3 (tt k2 (tt k1 (tt k0 nn))))))))) (fun k5 => (lr 38 3 [1, 1, 1, 1, 1, 1, 1, 0] 1 3 [(2, (.bool false))] (sl y9e 100 [] ⟨[], [], [some [2]], []⟩ ⟨[], [], []⟩ (trs 28 [false, false, false, false, false, false, false, false]) (tt k5 (tt k4 (tt k3 (tt k2 (tt k1 (tt k0 nn))))))))))) (fun k4 => (lr 38 3 [1, 1, 1, 1, 1, 1, 1, 0] 1 3 [(2, (.bool false))] (sl y9e 72 [] ⟨[], [], [some [2]], []⟩ ⟨[], [], []⟩ (trs 25 [false, false, false]) (tt k4 (tt k3 (tt k2 (tt k1 (tt k0 nn)))))))))) (fun k3 => (lr 38 3 [1, 1, 1, 1, 1, 1, 1, 0] 1 3 [(2, (.bool false))] (sl y9e 72 [] ⟨[], [], [some [2]], []⟩ ⟨[], [], []⟩ (trs 17 [false, false, false, false, false, false, false, false, false, false, false]) (tt k3 (tt k2 (tt k1 (tt k0 nn))))))))) (fun k2 => (lr 38 3 [1, 1, 1, 1, 1, 1, 1, 0] 1 3 [(2, (.bool false))] (sl y9e 44 [] ⟨[], [], [some [2]], []⟩ ⟨[], [], []⟩ (trs 14 [false, false, false, false, false, false]) (tt k2 (tt k1 (tt k0 nn)))))))) (fun k1 => (lr 38 3 [1, 1, 1, 1, 1, 1, 1, 0] 1 3 [(2, (.bool false))] (sl y9e 44 [] ⟨[], [], [some [2]], []⟩ ⟨[], [], []⟩ (trs 7 [false, false, false, false, false, false, false, false, false, false, false, false, false]) (tt k1 (tt k0 nn))))))) (fun k0 => (lr 38 3 [1, 1, 1, 1, 1, 1, 1, 0] 1 3 [(2, (.bool false))] (sl y9e 44 [] ⟨[], [], [some [2]], []⟩ ⟨[], [], []⟩ [false, false, false, false, false, false, false, false, false, false, false, false, false, false, false, false, false, false, false, false] (tt k0 nn)))))
theorem w5p (x0_0 : Int) (x0_1 : Int) (x0_2 : Int) (x0_3 : Int) (x0_4 : Int) (x0_5 : Int) (n : Nat) (vs : List AVal) (h : Ya (y9l x0_0 x0_1 x0_2 x0_3 x0_4 x0_5) n (z8j x0_0 x0_1 x0_2 x0_3 x0_4 x0_5) = .ret vs) : Je Tryz.prog (Zy Tryz.prog 94) (Zf Tryz.prog 94 [(.agg [(.int .i64 x0_0), (.int .i64 x0_1), (.int .i64 x0_2), (.int .i64 x0_3), (.int .i64 x0_4), (.int .i64 x0_5)])] true []) vs := by
 have := Zn (x6d x0_0 x0_1 x0_2 x0_3 x0_4 x0_5) n _ (y9m x0_0 x0_1 x0_2 x0_3 x0_4 x0_5)
 rwa [h] at this
end Go.Am
namespace Go.Am
open Go.Proofs
open Go.Sort Go.Shelf Go.RowKit Go.Lib
def z0f (r : R6) : Bool := decide (r.a < r.d) && (decide (r.b < r.e) && (decide (r.c < r.f) && (decide ((Wa (Wa r.a r.b) r.c) ≥ (-1000000)) && (decide ((Wb (Wb r.a r.b) r.c) ≤ 1000000) && (decide ((Wa (Wa r.d r.e) r.f) ≥ (-1000000)) && decide ((Wb (Wb r.d r.e) r.f) ≤ 1000000))))))
def vl6V (a b c d e f : Int) : Bool := z0f ⟨a, b, c, d, e, f⟩
theorem v3p (a b c d e f : Int) : ∃ N, Ya (y9l a b c d e f) N (z8j a b c d e f) = .ret [.bool (vl6V a b c d e f)] := ⟨0, by
 unfold z8j vl6V z0f
 simp only [y1z]
 cases decide (a < d) <;> cases decide (b < e) <;> cases decide (c < f) <;> cases decide ((Wa (Wa a b) c) ≥ (-1000000)) <;> cases decide ((Wb (Wb a b) c) ≤ 1000000) <;> cases decide ((Wa (Wa d e) f) ≥ (-1000000)) <;> rfl⟩
def fVl6 : List AVal → Option (AVal × Bool)
 | [.agg [.int .i64 x0_0, .int .i64 x0_1, .int .i64 x0_2, .int .i64 x0_3, .int .i64 x0_4, .int .i64 x0_5]] => some (.bool (vl6V x0_0 x0_1 x0_2 x0_3 x0_4 x0_5), true)
 | _ => none
theorem v6t {S : Specs} (hS : Zk Tryz.prog S) : Zk Tryz.prog (S.with x4y fVl6) := by
 refine z1b hS (by kernel_rfl) fun args v h => ?_
 unfold fVl6 at h
 split at h
 ·rename_i x0_0 x0_1 x0_2 x0_3 x0_4 x0_5
  simp only [Option.some.injEq, Prod.mk.injEq, and_true] at h
  subst h
  obtain ⟨N, hN⟩ := v3p x0_0 x0_1 x0_2 x0_3 x0_4 x0_5
  exact ⟨_, _, (.cons (.refl _) .nil), rfl, w5p x0_0 x0_1 x0_2 x0_3 x0_4 x0_5 N _ hN, 3, rfl⟩
 ·cases h
def T7v : Specs := (T7.with x4y fVl6)
theorem Vu : Zk Tryz.prog T7v := (v6t y9e)
end Go.Am
namespace Go.Am
open Go.Proofs
inductive sckS where
 | h0 (v8 : Int)
 | h1 (v16 : Int) (v_2_0 : List Int)
 | h2 (v4 : Int) (v_4_0 : List R6) (v_4_1 : List R4) (v_4_2 : Int) (v_4_3 : Int) (v_5_0_000 : Nat) (v09_6 : List Int)
 | h3 (v4 : Int) (v38 : Int) (v_4_0 : List R6) (v_4_1 : List R4) (v_4_2 : Int) (v_4_3 : Int) (v_5_0_000 : Nat) (v09_6 : List Int) (v_9_0 : Int) (v_9_1 : Int) (v_10_0 : List R4)
 | h4 (v1 : Int) (v2 : Int) (v72 : List R4) (v73 : Int) (v74 : Int) (v000_57 : List R4) (v001_4 : Int) (v_0_0 : List R6) (v_0_1 : List R4) (v_0_2 : Int) (v_5_0_000 : Nat) (v09_6 : List Int) (v_9_0 : List R4)
 | h5 (v2 : Int) (v8 : Int) (v000_54 : Int) (v000_57 : List R4) (v001_4 : Int) (v_0_0 : List R6) (v_0_1 : List R4) (v_0_2 : Int) (v_0_3 : Int) (v_6_0_000 : Nat) (v09_7 : List Int) (v_10_0 : List R4)
def sckC (l0 : List R6) : sckS → Cfg
 | .h0 v8 => ⟨⟨19, 0, true⟩, none, (Za Tryz.prog 133 [1, 0, 1, 0, 0] 0), none, (Zy Tryz.prog 5), ⟨Ym [(0, (.dat l0.length (Zz l0))), (1, (.fn 98 [])), (7, (ii (l0.length : Int))), (8, (ii v8))], Jw [] 0, 0, [], true⟩, [⟨⟨9, 0, true⟩, (We Tryz.prog 89 [1, 0] 2), (Za Tryz.prog 89 [1, 0] 1), none, (Zy Tryz.prog 5), Ym [(5, (.dat l0.length (Zz l0))), (6, (.fn 98 []))]⟩, ⟨⟨25, 0, true⟩, (We Tryz.prog 51 [1, 1, 0, 0] 1), (Za Tryz.prog 51 [1, 1, 0, 0] 1), none, (Zy Tryz.prog 3), Ym [(0, (.dat l0.length (Zz l0))), (8, (.dat l0.length (Zz l0)))]⟩], .leaf⟩
 | .h1 v16 v_2_0 => ⟨⟨36, 0, true⟩, none, (Za Tryz.prog 136 [1, 1, 0, 1, 0, 0, 1, 1, 0, 0, 1, 1, 0, 0] 0), none, (Zy Tryz.prog 3), ⟨Ym [(1, (.ptr 0 0)), (3, (.ptr 2 0)), (8, (.sl 1 0 1 (.un 1))), (9, (ii 1)), (10, (ii 0)), (14, (.dat l0.length (Zz l0))), (15, (ii (l0.length : Int))), (16, (ii v16))], Jw [⟨[(.sl 1 0 1 (.un 1))], 166, none⟩, ⟨[(.dat l0.length (Zz l0))], 22, none⟩, ⟨[(.sla 7 1 0 v_2_0.length (.un 1))], 93, none⟩, ⟨[.nilf], 117, none⟩, ⟨[.nils], 38, none⟩, ⟨[(ii 0)], 26, none⟩, ⟨[.nils, .nils, (ii 0), (ii 0)], 168, none⟩, ⟨Yg v_2_0.length (Zz v_2_0), 3, some ⟨1, v_2_0.length, (Zz v_2_0)⟩⟩] 0, 8, [], true⟩, [⟨⟨65, 0, true⟩, (We Tryz.prog 95 [1, 1, 0, 0] 1), (Za Tryz.prog 95 [1, 1, 0, 0] 1), none, (Zy Tryz.prog 95), Ym [(2, (.ptr 3 0)), (4, (.ptr 4 0)), (5, (.ptr 5 0)), (6, (.ptr 6 0)), (13, (.sl 1 0 1 (.un 1)))]⟩, ⟨⟨25, 0, true⟩, (We Tryz.prog 51 [1, 1, 1, 0, 0] 3), (Za Tryz.prog 51 [1, 1, 1, 0, 0] 1), none, (Zy Tryz.prog 3), Ym [(0, (.dat l0.length (Zz l0))), (11, (.agg [.nilf])), (13, (.sl 1 0 1 (.un 1)))]⟩], .leaf⟩
 | .h2 v4 v_4_0 v_4_1 v_4_2 v_4_3 v_5_0_000 v09_6 => ⟨⟨86, 0, true⟩, none, (Za Tryz.prog 171 [1, 0, 0] 0), none, [], ⟨Ym [(0, (.yld 0)), (1, (.ptr 5 0)), (2, (.ptr 7 0)), (4, (ii v4))], z7l [(1, ⟨[.nilf], 117, none⟩), (2, ⟨[.nils], 38, none⟩), (3, ⟨[(ii 0)], 26, none⟩), (4, ⟨[(.sla 9 6 0 v_4_0.length (.un 6)), (.dat v_4_1.length (Zz v_4_1)), (ii v_4_2), (ii v_4_3)], 168, none⟩), (5, ⟨[(.sla 6 1 0 v_5_0_000 (.un 1))], 93, none⟩), (6, ⟨Yg v09_6.length (Zz v09_6), 3, some ⟨1, v09_6.length, (Zz v09_6)⟩⟩), (7, ⟨[(.sl 8 0 1 (.un 1))], 166, none⟩), (8, ⟨[(.dat l0.length (Zz l0))], 22, none⟩), (9, ⟨Yg v_4_0.length (Zz v_4_0), 67, some ⟨6, v_4_0.length, (Zz v_4_0)⟩⟩)], 10, [], true⟩, [⟨⟨65, 0, true⟩, none, (.inRangeFunc 0 :: (Za Tryz.prog 95 [1, 1, 0, 1, 0] 1)), none, (Zy Tryz.prog 95), Ym [(4, (.ptr 2 0)), (5, (.ptr 3 0)), (6, (.ptr 4 0))]⟩, ⟨⟨25, 0, true⟩, (We Tryz.prog 51 [1, 1, 1, 0, 0] 3), (Za Tryz.prog 51 [1, 1, 1, 0, 0] 1), none, (Zy Tryz.prog 3), Ym [(0, (.dat l0.length (Zz l0))), (11, (.agg [.nilf])), (13, (.sl 8 0 1 (.un 1)))]⟩], (z7m [(0, ⟨.ready, none, 65, Ym [(2, (.ptr 1 0)), (4, (.ptr 2 0)), (5, (.ptr 3 0)), (6, (.ptr 4 0))], [15], (Wv Tryz.prog 95 [1, 1, 0, 1, 0, 0]), (Wv Tryz.prog 95 [1, 1, 0, 1, 0, 1])⟩)])⟩
 | .h3 v4 v38 v_4_0 v_4_1 v_4_2 v_4_3 v_5_0_000 v09_6 v_9_0 v_9_1 v_10_0 => ⟨⟨86, 0, true⟩, none, (Za Tryz.prog 171 [1, 0, 0, 1, 0, 0, 1, 0, 1, 0, 0, 1, 1, 0, 0, 1, 1, 0, 0] 0), none, [], ⟨Ym [(0, (.yld 0)), (1, (.ptr 5 0)), (2, (.ptr 7 0)), (4, (ii v4)), (5, (.ptr 9 0)), (6, (ii 0)), (29, (.sl 8 0 1 (.un 1))), (30, (ii 1)), (31, (ii 0)), (36, (.dat l0.length (Zz l0))), (37, (ii (l0.length : Int))), (38, (ii v38))], z7l [(1, ⟨[.nilf], 117, none⟩), (2, ⟨[.nils], 38, none⟩), (3, ⟨[(ii 0)], 26, none⟩), (4, ⟨[(.sla 12 6 0 v_4_0.length (.un 6)), (.dat v_4_1.length (Zz v_4_1)), (ii v_4_2), (ii v_4_3)], 168, none⟩), (5, ⟨[(.sla 6 1 0 v_5_0_000 (.un 1))], 93, none⟩), (6, ⟨Yg v09_6.length (Zz v09_6), 3, some ⟨1, v09_6.length, (Zz v09_6)⟩⟩), (7, ⟨[(.sl 8 0 1 (.un 1))], 166, none⟩), (8, ⟨[(.dat l0.length (Zz l0))], 22, none⟩), (9, ⟨[(ii v_9_0), (ii v_9_1), (.sl 10 0 1 (.ex 1))], 173, none⟩), (10, ⟨[(.sla 11 4 0 v_10_0.length (.un 4))], 99, none⟩), (11, ⟨Yg v_10_0.length (Zz v_10_0), 88, some ⟨4, v_10_0.length, (Zz v_10_0)⟩⟩), (12, ⟨Yg v_4_0.length (Zz v_4_0), 67, some ⟨6, v_4_0.length, (Zz v_4_0)⟩⟩)], 13, [], true⟩, [⟨⟨65, 0, true⟩, none, (.inRangeFunc 0 :: (Za Tryz.prog 95 [1, 1, 0, 1, 0] 1)), none, (Zy Tryz.prog 95), Ym [(4, (.ptr 2 0)), (5, (.ptr 3 0)), (6, (.ptr 4 0))]⟩, ⟨⟨25, 0, true⟩, (We Tryz.prog 51 [1, 1, 1, 0, 0] 3), (Za Tryz.prog 51 [1, 1, 1, 0, 0] 1), none, (Zy Tryz.prog 3), Ym [(0, (.dat l0.length (Zz l0))), (11, (.agg [.nilf])), (13, (.sl 8 0 1 (.un 1)))]⟩], (z7m [(0, ⟨.ready, none, 65, Ym [(2, (.ptr 1 0)), (4, (.ptr 2 0)), (5, (.ptr 3 0)), (6, (.ptr 4 0))], [15], (Wv Tryz.prog 95 [1, 1, 0, 1, 0, 0]), (Wv Tryz.prog 95 [1, 1, 0, 1, 0, 1])⟩)])⟩
 | .h4 v1 v2 v72 v73 v74 v000_57 v001_4 v_0_0 v_0_1 v_0_2 v_5_0_000 v09_6 v_9_0 => ⟨⟨101, 0, true⟩, none, (Za Tryz.prog 137 [1, 1, 1, 0, 0] 0), none, [], ⟨Ym [(0, (.ptr 0 0)), (1, (ii v1)), (2, (ii v2)), (72, (.dat v72.length (Zz v72))), (73, (ii v73)), (74, (ii v74))], z7l [(0, ⟨[(.sla 10 6 0 v_0_0.length (.un 6)), (.dat v_0_1.length (Zz v_0_1)), (ii v_0_2), (ii v2)], 168, none⟩), (2, ⟨[.nilf], 117, none⟩), (3, ⟨[.nils], 38, none⟩), (4, ⟨[(ii 0)], 26, none⟩), (5, ⟨[(.sla 6 1 0 v_5_0_000 (.un 1))], 93, none⟩), (6, ⟨Yg v09_6.length (Zz v09_6), 3, some ⟨1, v09_6.length, (Zz v09_6)⟩⟩), (7, ⟨[(.sl 8 0 1 (.un 1))], 166, none⟩), (8, ⟨[(.dat l0.length (Zz l0))], 22, none⟩), (9, ⟨[(.dat v_9_0.length (Zz v_9_0))], 99, none⟩), (10, ⟨Yg v_0_0.length (Zz v_0_0), 67, some ⟨6, v_0_0.length, (Zz v_0_0)⟩⟩)], 11, [], true⟩, [⟨⟨65, 0, true⟩, (We Tryz.prog 95 [1, 1, 0, 1, 0, 1, 0, 1, 1, 1] 5), (Za Tryz.prog 95 [1, 1, 0, 1, 0, 1, 0, 1, 1, 1] 1), (some 1), [], Ym [(6, (.ptr 0 0)), (54, (ii v1)), (56, (ii v2)), (57, (.dat v000_57.length (Zz v000_57)))]⟩, ⟨⟨86, 0, true⟩, (We Tryz.prog 171 [1, 0, 0, 1, 0, 0, 1, 1, 0] 2), (Za Tryz.prog 171 [1, 0, 0, 1, 0, 0, 1, 1, 0] 1), none, [], Ym [(0, (.yld 1)), (1, (.ptr 5 0)), (2, (.ptr 7 0)), (4, (ii v001_4)), (82, (.yld 1)), (83, (.agg [(ii v1), (ii v2), (.sl 9 0 1 (.ex 1))]))]⟩, ⟨⟨65, 0, true⟩, none, (.inRangeFunc 1 :: (Za Tryz.prog 95 [1, 1, 0, 1, 0] 1)), none, (Zy Tryz.prog 95), Ym [(4, (.ptr 3 0)), (5, (.ptr 4 0)), (6, (.ptr 0 0))]⟩, ⟨⟨25, 0, true⟩, (We Tryz.prog 51 [1, 1, 1, 0, 0] 3), (Za Tryz.prog 51 [1, 1, 1, 0, 0] 1), none, (Zy Tryz.prog 3), Ym [(0, (.dat l0.length (Zz l0))), (11, (.agg [.nilf])), (13, (.sl 8 0 1 (.un 1)))]⟩], (z7m [(1, ⟨.busy, none, 65, Ym [(2, (.ptr 2 0)), (4, (.ptr 3 0)), (5, (.ptr 4 0)), (6, (.ptr 0 0))], [15], (Wv Tryz.prog 95 [1, 1, 0, 1, 0, 0]), (Wv Tryz.prog 95 [1, 1, 0, 1, 0, 1])⟩)])⟩
 | .h5 v2 v8 v000_54 v000_57 v001_4 v_0_0 v_0_1 v_0_2 v_0_3 v_6_0_000 v09_7 v_10_0 => ⟨⟨101, 0, true⟩, none, (Za Tryz.prog 137 [0, 1, 0, 0, 1, 0, 0] 0), none, [], ⟨Ym [(0, (.ptr 0 0)), (2, (ii v2)), (8, (ii v8))], z7l [(0, ⟨[(.sla 1 6 0 v_0_0.length (.un 6)), (.dat v_0_1.length (Zz v_0_1)), (ii v_0_2), (ii v_0_3)], 168, none⟩), (1, ⟨Yg v_0_0.length (Zz v_0_0), 67, some ⟨6, v_0_0.length, (Zz v_0_0)⟩⟩), (3, ⟨[.nilf], 117, none⟩), (4, ⟨[.nils], 38, none⟩), (5, ⟨[(ii 0)], 26, none⟩), (6, ⟨[(.sla 7 1 0 v_6_0_000 (.un 1))], 93, none⟩), (7, ⟨Yg v09_7.length (Zz v09_7), 3, some ⟨1, v09_7.length, (Zz v09_7)⟩⟩), (8, ⟨[(.sl 9 0 1 (.un 1))], 166, none⟩), (9, ⟨[(.dat l0.length (Zz l0))], 22, none⟩), (10, ⟨[(.dat v_10_0.length (Zz v_10_0))], 99, none⟩)], 11, [], true⟩, [⟨⟨65, 0, true⟩, (We Tryz.prog 95 [1, 1, 0, 1, 0, 1, 0, 1, 1, 1] 5), (Za Tryz.prog 95 [1, 1, 0, 1, 0, 1, 0, 1, 1, 1] 1), (some 2), [], Ym [(6, (.ptr 0 0)), (54, (ii v000_54)), (56, (ii v2)), (57, (.dat v000_57.length (Zz v000_57)))]⟩, ⟨⟨86, 0, true⟩, (We Tryz.prog 171 [1, 0, 0, 1, 0, 0, 1, 1, 0] 2), (Za Tryz.prog 171 [1, 0, 0, 1, 0, 0, 1, 1, 0] 1), none, [], Ym [(0, (.yld 2)), (1, (.ptr 6 0)), (2, (.ptr 8 0)), (4, (ii v001_4)), (82, (.yld 2)), (83, (.agg [(ii v000_54), (ii v2), (.sl 10 0 1 (.ex 1))]))]⟩, ⟨⟨65, 0, true⟩, none, (.inRangeFunc 2 :: (Za Tryz.prog 95 [1, 1, 0, 1, 0] 1)), none, (Zy Tryz.prog 95), Ym [(4, (.ptr 4 0)), (5, (.ptr 5 0)), (6, (.ptr 0 0))]⟩, ⟨⟨25, 0, true⟩, (We Tryz.prog 51 [1, 1, 1, 0, 0] 3), (Za Tryz.prog 51 [1, 1, 1, 0, 0] 1), none, (Zy Tryz.prog 3), Ym [(0, (.dat l0.length (Zz l0))), (11, (.agg [.nilf])), (13, (.sl 9 0 1 (.un 1)))]⟩], (z7m [(2, ⟨.busy, none, 65, Ym [(2, (.ptr 3 0)), (4, (.ptr 4 0)), (5, (.ptr 5 0)), (6, (.ptr 0 0))], [15], (Wv Tryz.prog 95 [1, 1, 0, 1, 0, 0]), (Wv Tryz.prog 95 [1, 1, 0, 1, 0, 1])⟩)])⟩
def sckN0 : List (Option (List Nat)) := [some [0, 1, 7, 8], some [5, 6], some [0, 8]]
def sckM0 : List (Option (List Nat)) := []
def v4i : List (Option (List Nat)) := [some [1, 3, 8, 9, 10, 14, 15, 16], some [2, 4, 5, 6, 13], some [0, 11, 13]]
def v4k : List (Option (List Nat)) := []
def v4h : List (Option (List Nat)) := [some [0, 1, 2, 4], some [4, 5, 6], some [0, 11, 13]]
def v4j : List (Option (List Nat)) := [some [2, 4, 5, 6], none, none, none, none, none, none, none, none, none]
def w6g : List (Option (List Nat)) := [some [0, 1, 2, 4, 5, 6, 29, 30, 31, 36, 37, 38], some [4, 5, 6], some [0, 11, 13]]
def w6i : List (Option (List Nat)) := [some [2, 4, 5, 6], none, none, none, none, none, none, none, none, none, none, none, none]
def w6f : List (Option (List Nat)) := [some [0, 1, 2, 72, 73, 74], some [6, 54, 56, 57], some [0, 1, 2, 4, 82, 83], some [4, 5, 6], some [0, 11, 13]]
def w6h : List (Option (List Nat)) := [none, some [2, 4, 5, 6], none, none, none, none, none, none, none, none, none]
def sckN5 : List (Option (List Nat)) := [some [0, 2, 8], some [6, 54, 56, 57], some [0, 1, 2, 4, 82, 83], some [4, 5, 6], some [0, 11, 13]]
def sckM5 : List (Option (List Nat)) := [none, none, some [2, 4, 5, 6], none, none, none, none, none, none, none, none]
def Xv (l0 : List R6) : sckS → Xo sckS
 | .h0 v8 => (bif (decide (v8 < (l0.length : Int))) then (bif ((decide (0 ≤ v8 ∧ v8 < (l0.length : Int))) && true) then (bif (!(vl6V (rd l0 v8.toNat).a (rd l0 v8.toNat).b (rd l0 v8.toNat).c (rd l0 v8.toNat).d (rd l0 v8.toNat).e (rd l0 v8.toNat).f)) then (bif (decide (v8 ≥ 0)) then (.ret [(.int .i64 8)]) else (.to (.h1 0 ([] : List Int)))) else (.to (.h0 (IntKind.wrap .i64 (v8 + 1))))) else .stuck) else (.to (.h1 0 ([] : List Int))))
 | .h1 v16 v_2_0 => (bif (decide (v16 < (l0.length : Int))) then (bif ((decide (0 ≤ v16 ∧ v16 < (l0.length : Int))) && true) then (bif (Nat.beq 1 1 && ((decide (0 + v_2_0.length = v_2_0.length)) && decide ((v_2_0.length + 2 + 1) * (8 + 1) ≤ Ur))) then (.to (.h1 (IntKind.wrap .i64 (v16 + 1)) (v_2_0 ++ [(rd l0 v16.toNat).c, (rd l0 v16.toNat).f]))) else .stuck) else .stuck) else (bif (decide (v_2_0.length < 4611686018427387904)) then (bif (decide (v_2_0.length = v_2_0.length)) then (.to (.h2 1 ([] : List R6) ([] : List R4) 0 0 (v8m (Zt v_2_0.length (cOf (Zz (Xd (Zt v_2_0.length (cOf (Zz v_2_0)))))))) (Wc (Zt v_2_0.length (cOf (Zz (Xd (Zt v_2_0.length (cOf (Zz v_2_0)))))))))) else .stuck) else .stuck))
 | .h2 v4 v_4_0 v_4_1 v_4_2 v_4_3 v_5_0_000 v09_6 => (bif (decide (v4 < ((v_5_0_000 : Nat) : Int))) then (bif ((decide (0 ≤ (IntKind.wrap .i64 (v4 - 1)) ∧ (IntKind.wrap .i64 (v4 - 1)) < ((v_5_0_000 : Nat) : Int))) && true) then (bif (decide ((0 + (Int.toNat (IntKind.wrap .i64 (v4 - 1)))) < v09_6.length)) then (bif ((decide (0 ≤ v4 ∧ v4 < ((v_5_0_000 : Nat) : Int))) && true) then (bif (decide ((0 + v4.toNat) < v09_6.length)) then (.to (.h3 v4 0 v_4_0 v_4_1 v_4_2 v_4_3 v_5_0_000 v09_6 (rd v09_6 (0 + (Int.toNat (IntKind.wrap .i64 (v4 - 1))))) (rd v09_6 (0 + v4.toNat)) ([] : List R4))) else .stuck) else .stuck) else .stuck) else .stuck) else (bif (decide ((v_4_0.length : Int) > 400)) then (.ret [(.int .i64 8)]) else (bif (Nat.beq 6 6 && (decide (0 + v_4_0.length ≤ v_4_0.length) && Qq (Zz v_4_0))) then (bif (Uw (lst R6 (v_4_0.length) (fun k => (Zz v_4_0) (0 + k))) (cvT l0)) then (bif (!(Jo (lst R6 (v_4_0.length) (fun k => (Zz v_4_0) (0 + k))) (cvT l0))) then (.ret [(.int .i64 8)]) else (.ret [(.int .i64 0)])) else .stuck) else .stuck)))
 | .h3 v4 v38 v_4_0 v_4_1 v_4_2 v_4_3 v_5_0_000 v09_6 v_9_0 v_9_1 v_10_0 => (bif (decide (v38 < (l0.length : Int))) then (bif ((decide (0 ≤ v38 ∧ v38 < (l0.length : Int))) && true) then (bif (decide ((rd l0 v38.toNat).c ≤ v_9_0)) then (bif (decide (v_9_0 < (rd l0 v38.toNat).f)) then (bif (Nat.beq 4 4 && ((decide (0 + v_10_0.length = v_10_0.length)) && decide ((v_10_0.length + 1 + 1) * (32 + 1) ≤ Ur))) then (.to (.h3 v4 (IntKind.wrap .i64 (v38 + 1)) v_4_0 v_4_1 v_4_2 v_4_3 v_5_0_000 v09_6 v_9_0 v_9_1 (v_10_0 ++ [(R4.mk (rd l0 v38.toNat).a (rd l0 v38.toNat).b (rd l0 v38.toNat).d (rd l0 v38.toNat).e)]))) else .stuck) else (.to (.h3 v4 (IntKind.wrap .i64 (v38 + 1)) v_4_0 v_4_1 v_4_2 v_4_3 v_5_0_000 v09_6 v_9_0 v_9_1 v_10_0))) else (.to (.h3 v4 (IntKind.wrap .i64 (v38 + 1)) v_4_0 v_4_1 v_4_2 v_4_3 v_5_0_000 v09_6 v_9_0 v_9_1 v_10_0))) else .stuck) else (bif (Js (cvT v_10_0)) then (bif ((Xh (cvT v_10_0)) != 0) then (.ret [(.int .i64 8)]) else (bif (decide ((((Zb (cvT v_10_0)).length : Nat) : Int) > 0)) then (bif (v_4_3 == v_9_0) then (bif (Ww (cvT v_4_1) (cvT (Zb (cvT v_10_0)))) then (bif (Vs (cvT v_4_1) (cvT (Zb (cvT v_10_0)))) then (.to (.h5 v_9_1 v_4_2 v_9_0 (Zb (cvT v_10_0)) v4 v_4_0 v_4_1 v_4_2 v_4_3 v_5_0_000 v09_6 v_10_0)) else (.to (.h4 v_9_0 v_9_1 (Zb (cvT v_10_0)) (((Zb (cvT v_10_0)).length : Nat) : Int) 0 (Zb (cvT v_10_0)) v4 v_4_0 (Zb (cvT v_10_0)) (v_4_0.length : Int) v_5_0_000 v09_6 v_10_0))) else .stuck) else (.to (.h4 v_9_0 v_9_1 (Zb (cvT v_10_0)) (((Zb (cvT v_10_0)).length : Nat) : Int) 0 (Zb (cvT v_10_0)) v4 v_4_0 (Zb (cvT v_10_0)) (v_4_0.length : Int) v_5_0_000 v09_6 v_10_0))) else (.to (.h4 v_9_0 v_9_1 (Zb (cvT v_10_0)) (((Zb (cvT v_10_0)).length : Nat) : Int) 0 (Zb (cvT v_10_0)) v4 v_4_0 (Zb (cvT v_10_0)) (v_4_0.length : Int) v_5_0_000 v09_6 v_10_0)))) else .stuck))
 | .h4 v1 v2 v72 v73 v74 v000_57 v001_4 v_0_0 v_0_1 v_0_2 v_5_0_000 v09_6 v_9_0 => (bif (decide (v74 < v73)) then (bif ((decide (0 ≤ v74 ∧ v74 < (v72.length : Int))) && true) then (bif (Nat.beq 6 6 && ((decide (0 + v_0_0.length = v_0_0.length)) && decide ((v_0_0.length + 1 + 1) * (48 + 1) ≤ Ur))) then (.to (.h4 v1 v2 v72 v73 (IntKind.wrap .i64 (v74 + 1)) v000_57 v001_4 (v_0_0 ++ [(R6.mk (rd v72 v74.toNat).a (rd v72 v74.toNat).b v1 (rd v72 v74.toNat).c (rd v72 v74.toNat).d v2)]) v_0_1 v_0_2 v_5_0_000 v09_6 v_9_0)) else .stuck) else .stuck) else (.to (.h2 (IntKind.wrap .i64 (v001_4 + 1)) v_0_0 v_0_1 v_0_2 v2 v_5_0_000 v09_6)))
 | .h5 v2 v8 v000_54 v000_57 v001_4 v_0_0 v_0_1 v_0_2 v_0_3 v_6_0_000 v09_7 v_10_0 => (bif (decide (v8 < (v_0_0.length : Int))) then (bif ((decide (0 ≤ v8 ∧ v8 < (v_0_0.length : Int))) && true) then (bif (decide ((0 + v8.toNat) < v_0_0.length)) then (.to (.h5 v2 (IntKind.wrap .i64 (v8 + 1)) v000_54 v000_57 v001_4 (v_0_0.set (0 + v8.toNat) (R6.mk (rd v_0_0 (0 + v8.toNat)).a (rd v_0_0 (0 + v8.toNat)).b (rd v_0_0 (0 + v8.toNat)).c (rd v_0_0 (0 + v8.toNat)).d (rd v_0_0 (0 + v8.toNat)).e v2)) v_0_1 v_0_2 v_0_3 v_6_0_000 v09_7 v_10_0)) else .stuck) else .stuck) else (.to (.h2 (IntKind.wrap .i64 (v001_4 + 1)) v_0_0 v_0_1 v_0_2 v2 v_6_0_000 v09_7)))
def z8r (l0 : List R6) : Xo sckS := (bif (decide ((l0.length : Int) > 400)) then (.ret [(.int .i64 4)]) else (.to (.h0 0)))
theorem x6s (l0 : List R6) : ∀ s, Xn Tryz.prog (Zy Tryz.prog 51) (sckC l0) (sckC l0 s) (Xv l0 s)
 | .h0 v8 => (lb (fun k0 => (lo fun o1_0 => (lb (fun k1 => (lb (fun k2 => (lr 25 51 [1, 1, 0, 1, 0, 0] 1 3 [(2, (ii 8))] (sl Vu 53 [] ⟨[], [], [some [2]], []⟩ ⟨[], [], []⟩ (trs 3 []) (tt k2 (tt k1 (ww o1_0 (tt k0 nn))))))) (fun k2 => (sl Vu 113 [(3, 1, Zz ([] : List Int))] ⟨[6, 1, 7, 2, 3, 4, 5, 8], [], v4i, v4k⟩ ⟨[], [.keep, .keep, .cells [.grow 7 1], .keep, .keep, .keep, .keep, .keep], []⟩ [true, true, false, true] (pp (fl ([] : List Int) nn) (tt k2 (tt k1 (ww o1_0 (tt k0 nn))))))))) (fun k1 => (sl Vu 44 [] ⟨[], [], sckN0, sckM0⟩ ⟨[], [], []⟩ [true, false] (tt k1 (ww o1_0 (tt k0 nn)))))))) (fun k0 => (sl Vu 82 [(3, 1, Zz ([] : List Int))] ⟨[5, 0, 6, 1, 2, 3, 4, 7], [], v4i, v4k⟩ ⟨[], [.keep, .keep, .cells [.grow 7 1], .keep, .keep, .keep, .keep, .keep], []⟩ [false, false, true] (pp (fl ([] : List Int) nn) (tt k0 nn)))))
 | .h1 v16 v_2_0 => (lb (fun k0 => (lo fun o0 => (lo fun o1 => (sl Vu 34 [] ⟨[0, 1, 2, 3, 4, 5, 6, 10], [], v4i, v4k⟩ ⟨[], [.keep, .keep, .cells [.len (v_2_0 ++ [(rd l0 (tn v16)).c, (rd l0 (tn v16)).f]).length], .keep, .keep, .keep, .keep, .rowed 1 (v_2_0 ++ [(rd l0 (tn v16)).c, (rd l0 (tn v16)).f]).length (Zz (v_2_0 ++ [(rd l0 (tn v16)).c, (rd l0 (tn v16)).f]))], []⟩ [true] (pp (xL (v_2_0.length + 2) (v_2_0 ++ [(rd l0 (tn v16)).c, (rd l0 (tn v16)).f]).length) (pp (xL (v_2_0.length + 2) (v_2_0 ++ [(rd l0 (tn v16)).c, (rd l0 (tn v16)).f]).length) (pp (xS (v_2_0.length + 2) (Zd (Zz v_2_0) 0 v_2_0.length 1 [(ii (rd l0 (tn v16)).c), (ii (rd l0 (tn v16)).f)]) (Zz (v_2_0 ++ [(rd l0 (tn v16)).c, (rd l0 (tn v16)).f]))) (pp (pp (xF (Zd (Zz v_2_0) 0 v_2_0.length 1 [(ii (rd l0 (tn v16)).c), (ii (rd l0 (tn v16)).f)])) nn) (ww o1 (ww o0 (tt k0 nn))))))))))) (fun k0 => (lo fun o0 => (lo fun o1 => (sl Vu 46 [(67, 6, Zz ([] : List R6))] ⟨[8, 3, 4, 5, 6, 2, 7, 0, 1, 9], [], v4h, v4j⟩ ⟨[], (kpB 4 [.cells [.grow 9 6, .list 0 (Zz ([] : List R4)), .keep, .keep], .keep, .rowed 1 (Wc (Zt v_2_0.length (cOf (Zz (Xd (Zt v_2_0.length (cOf (Zz v_2_0)))))))).length (Zz (Wc (Zt v_2_0.length (cOf (Zz (Xd (Zt v_2_0.length (cOf (Zz v_2_0))))))))), .keep, .keep, .keep]), []⟩ [false, false] (pp (xL v_2_0.length (Wc (Zt v_2_0.length (cOf (Zz (Xd (Zt v_2_0.length (cOf (Zz v_2_0)))))))).length (by first | exact z5h _ _ | exact Ux rfl)) (pp (xS v_2_0.length (Zz (Wc (Zt v_2_0.length (cOf (Zz (Xd (Zt v_2_0.length (cOf (Zz v_2_0))))))))) (Zz (Wc (Zt v_2_0.length (cOf (Zz (Xd (Zt v_2_0.length (cOf (Zz v_2_0)))))))))) (pp (fl (Wc (Zt v_2_0.length (cOf (Zz (Xd (Zt v_2_0.length (cOf (Zz v_2_0)))))))) (fl ([] : List R6) nn)) (pp (pp (xG (Nat.beq 1 1)) (pp (xG (Nat.beq 1 1)) (pp (xG (Nat.beq 0 0)) (pp (xG (decide (v_2_0.length = v_2_0.length))) (pp (xG (isI (Zz (Xd (Zt v_2_0.length (cOf (Zz v_2_0))))))) (xG (decide (v_2_0.length < 4611686018427387904)))))))) (pp (pp (xG (Nat.beq 1 1)) (pp (xG (Nat.beq 1 1)) (pp (xG (Nat.beq 0 0)) (pp (xG (decide (v_2_0.length = v_2_0.length))) (pp (xG (isI (Zz v_2_0))) (xG (decide (v_2_0.length < 4611686018427387904)))))))) (tt k0 nn)))))))))))
 | .h2 v4 v_4_0 v_4_1 v_4_2 v_4_3 v_5_0_000 v09_6 => (lb (fun k0 => (lo fun o0 => (lo fun o1 => (lo fun o2 => (lo fun o3 => (sl Vu 48 [(88, 4, Zz ([] : List R4))] ⟨[0, 1, 2, 3, 4, 5, 6, 7, 8, 10, 11, 12, 9], [], w6g, w6i⟩ ⟨[], (kpB 10 [.cells [.grow 11 4], .keep, .keep]), []⟩ (trs 3 []) (pp (fl v09_6 (fl ([] : List R4) (fl v_4_0 nn))) (ww o3 (ww o2 (ww o1 (ww o0 (tt k0 nn)))))))))))) (fun k0 => (lb (fun k1 => (lr 25 51 [1, 1, 1, 0, 1, 1, 0, 0] 1 3 [(2, (ii 8))] (sl Vu 50 [] ⟨[], [], [some [2]], []⟩ ⟨[], [], []⟩ [false, true, true, true, true, true, true] (tt k1 (tt k0 nn))))) (fun k1 => (lo fun o2_0 => (lo fun o2_1 => (lb (fun k2 => (lr 25 51 [1, 1, 1, 0, 1, 1, 0, 0] 1 3 [(2, (ii 8))] (sl Vu 53 [] ⟨[], [], [some [2]], []⟩ ⟨[], [], []⟩ [false, false, false, false, false, false, true] (tt k2 (pp (pp (pp (xw o2_0) (pp nn nn)) (pp (xI R6 (v_4_0.length) (fun k => (Zz v_4_0) (0 + k))) (pp (xr l0) (xw o2_1)))) (tt k1 (tt k0 nn))))))) (fun k2 => (lr 25 3 [1, 1, 1, 1, 1, 1, 1, 0] 1 3 [(2, (ii 0))] (sl Vu 54 [] ⟨[], [], [some [2]], []⟩ ⟨[], [], []⟩ [false, false, false, false, false, false, false] (tt k2 (pp (pp (pp (xw o2_0) (pp nn nn)) (pp (xI R6 (v_4_0.length) (fun k => (Zz v_4_0) (0 + k))) (pp (xr l0) (xw o2_1)))) (tt k1 (tt k0 nn))))))))))))))
 | .h3 v4 v38 v_4_0 v_4_1 v_4_2 v_4_3 v_5_0_000 v09_6 v_9_0 v_9_1 v_10_0 => (lb (fun k0 => (lo fun o1_0 => (lb (fun k1 => (lb (fun k2 => (lo fun o0 => (sl Vu 41 [] ⟨[0, 1, 2, 3, 4, 5, 6, 7, 8, 9, 10, 15, 12], [], w6g, w6i⟩ ⟨[], (kpB 10 [.cells [.len (v_10_0 ++ [(R4.mk (rd l0 (tn v38)).a (rd l0 (tn v38)).b (rd l0 (tn v38)).d (rd l0 (tn v38)).e)]).length], .rowed 4 (v_10_0 ++ [(R4.mk (rd l0 (tn v38)).a (rd l0 (tn v38)).b (rd l0 (tn v38)).d (rd l0 (tn v38)).e)]).length (Zz (v_10_0 ++ [(R4.mk (rd l0 (tn v38)).a (rd l0 (tn v38)).b (rd l0 (tn v38)).d (rd l0 (tn v38)).e)])), .keep]), []⟩ (trs 8 []) (pp (xL (v_10_0.length + 1) (v_10_0 ++ [(R4.mk (rd l0 (tn v38)).a (rd l0 (tn v38)).b (rd l0 (tn v38)).d (rd l0 (tn v38)).e)]).length) (pp (xL (v_10_0.length + 1) (v_10_0 ++ [(R4.mk (rd l0 (tn v38)).a (rd l0 (tn v38)).b (rd l0 (tn v38)).d (rd l0 (tn v38)).e)]).length) (pp (xS (v_10_0.length + 1) (Zd (Zz v_10_0) 0 v_10_0.length 4 [(ii (rd l0 (tn v38)).a), (ii (rd l0 (tn v38)).b), (ii (rd l0 (tn v38)).d), (ii (rd l0 (tn v38)).e)]) (Zz (v_10_0 ++ [(R4.mk (rd l0 (tn v38)).a (rd l0 (tn v38)).b (rd l0 (tn v38)).d (rd l0 (tn v38)).e)]))) (pp (fl v09_6 (pp (xF (Zd (Zz v_10_0) 0 v_10_0.length 4 [(ii (rd l0 (tn v38)).a), (ii (rd l0 (tn v38)).b), (ii (rd l0 (tn v38)).d), (ii (rd l0 (tn v38)).e)])) (fl v_4_0 nn))) (ww o0 (tt k2 (tt k1 (ww o1_0 (tt k0 nn)))))))))))) (fun k2 => (sl Vu 41 [] ⟨(List.range 13), [], w6g, w6i⟩ ⟨[], [], []⟩ (trs 7 [false]) (pp (fl v09_6 (fl v_10_0 (fl v_4_0 nn))) (tt k2 (tt k1 (ww o1_0 (tt k0 nn))))))))) (fun k1 => (sl Vu 41 [] ⟨(List.range 13), [], w6g, w6i⟩ ⟨[], [], []⟩ [true, false, false, false, false, false, false, false] (pp (fl v09_6 (fl v_10_0 (fl v_4_0 nn))) (tt k1 (ww o1_0 (tt k0 nn))))))))) (fun k0 => (Wn (sl Vu (C' := ⟨⟨65, 0, true⟩, (We Tryz.prog 95 [1, 1, 0, 1, 0, 1, 0, 0] 4), (Za Tryz.prog 95 [1, 1, 0, 1, 0, 1, 0, 0] 1), (some 0), [], ⟨Ym [(2, (.ptr 1 0)), (4, (.ptr 2 0)), (5, (.ptr 3 0)), (6, (.ptr 4 0)), (7, (.ptr 6 0)), (20, (.dat v_10_0.length (Zz v_10_0)))], z7l [(1, ⟨[.nilf], 117, none⟩), (2, ⟨[.nils], 38, none⟩), (3, ⟨[(ii 0)], 26, none⟩), (4, ⟨[(.sla 5 6 0 v_4_0.length (.un 6)), (.dat v_4_1.length (Zz v_4_1)), (ii v_4_2), (ii v_4_3)], 168, none⟩), (5, ⟨Yg v_4_0.length (Zz v_4_0), 67, some ⟨6, v_4_0.length, (Zz v_4_0)⟩⟩), (6, ⟨[(ii v_9_0), (ii v_9_1), (.sl 7 0 1 (.ex 1))], 173, none⟩), (7, ⟨[(.dat v_10_0.length (Zz v_10_0))], 99, none⟩), (8, ⟨[(.sla 9 1 0 v_5_0_000 (.un 1))], 93, none⟩), (9, ⟨Yg v09_6.length (Zz v09_6), 3, some ⟨1, v09_6.length, (Zz v09_6)⟩⟩), (10, ⟨[(.sl 11 0 1 (.un 1))], 166, none⟩), (11, ⟨[(.dat l0.length (Zz l0))], 22, none⟩)], 12, [], true⟩, [⟨⟨86, 0, true⟩, (We Tryz.prog 171 [1, 0, 0, 1, 0, 0, 1, 1, 0] 2), (Za Tryz.prog 171 [1, 0, 0, 1, 0, 0, 1, 1, 0] 1), none, [], Ym [(0, (.yld 0)), (1, (.ptr 8 0)), (2, (.ptr 10 0)), (4, (ii v4)), (82, (.yld 0)), (83, (.agg [(ii v_9_0), (ii v_9_1), (.sl 7 0 1 (.ex 1))]))]⟩, ⟨⟨65, 0, true⟩, none, (.inRangeFunc 0 :: (Za Tryz.prog 95 [1, 1, 0, 1, 0] 1)), none, (Zy Tryz.prog 95), Ym [(4, (.ptr 2 0)), (5, (.ptr 3 0)), (6, (.ptr 4 0))]⟩, ⟨⟨25, 0, true⟩, (We Tryz.prog 51 [1, 1, 1, 0, 0] 3), (Za Tryz.prog 51 [1, 1, 1, 0, 0] 1), none, (Zy Tryz.prog 3), Ym [(0, (.dat l0.length (Zz l0))), (11, (.agg [.nilf])), (13, (.sl 11 0 1 (.un 1)))]⟩], (z7m [(0, ⟨.busy, none, 65, Ym [(2, (.ptr 1 0)), (4, (.ptr 2 0)), (5, (.ptr 3 0)), (6, (.ptr 4 0))], [15], (Wv Tryz.prog 95 [1, 1, 0, 1, 0, 0]), (Wv Tryz.prog 95 [1, 1, 0, 1, 0, 1])⟩)])⟩) 37 [] ⟨[0, 1, 2, 3, 4, 12, 13, 10, 5, 6, 7, 8], [11], [some [2, 4, 5, 6, 7, 20], some [0, 1, 2, 4, 82, 83], some [4, 5, 6], some [0, 11, 13]], [some [2, 4, 5, 6], none, none, none, none, none, none, none, none, none, none, none]⟩ ⟨[(20, .frz v_10_0.length v_10_0.length (Zz v_10_0) (Zz v_10_0))], [.keep, .keep, .keep, .keep, .keep, .keep, .keep, .cells [.frz v_10_0.length v_10_0.length (Zz v_10_0) (Zz v_10_0)], .keep, .keep, .keep, .keep], []⟩ [false, false] (pp (xZ (z4k 4 4 0 v_10_0.length v_10_0.length (Zz v_10_0)) v_10_0.length (Zz v_10_0)) (pp (xL v_10_0.length v_10_0.length) (pp (xS v_10_0.length (Zz v_10_0) (Zz v_10_0)) (pp (xZ (z4k 4 4 0 v_10_0.length v_10_0.length (Zz v_10_0)) v_10_0.length (Zz v_10_0)) (pp (xL v_10_0.length v_10_0.length) (pp (xS v_10_0.length (Zz v_10_0) (Zz v_10_0)) (pp (fl v_4_0 (fl v09_6 nn)) (pp (fl v_10_0 nn) (tt k0 nn)))))))))) (lo fun o1_0 => (lb (fun k1 => (lr 25 51 [1, 1, 1, 0, 1, 1, 0, 0] 1 3 [(2, (ii 8))] (sl Vu 67 [] ⟨[], [], [some [2]], []⟩ ⟨[], [], []⟩ [false, true, true, true, true, true, true, true] (tt k1 (tt k1 (pp (pp (xr v_10_0) (xw o1_0)) nn)))))) (fun k1 => (lb (fun k2 => (lb (fun k3 => (lo fun o4_0 => (lb (fun k4 => (sl Vu 75 [] ⟨[4, 5, 0, 1, 2, 3, 8, 9, 10, 11, 7], [], sckN5, sckM5⟩ ⟨[], [], []⟩ [false, false, true, true, true, true, true, true, true, true, true, true, true, true, true] (pp (fl v_4_0 (fl v09_6 nn)) (tt k4 (pp (pp (xr v_4_1) (pp (xI R4 (Zb (cvT v_10_0)).length (Zz (Zb (cvT v_10_0)))) (xw o4_0))) (tt k3 (tt k2 (tt k1 (pp (pp (xr v_10_0) (xw o1_0)) nn))))))))) (fun k4 => (sl Vu 95 [] ⟨[4, 0, 1, 2, 3, 8, 9, 10, 11, 7, 5], [], w6f, w6h⟩ ⟨[], [], []⟩ [false, false, true, true, true, true, true, true, true, true, true, true, true, true, false] (pp (fl v09_6 (fl v_4_0 nn)) (tt k4 (pp (pp (xr v_4_1) (pp (xI R4 (Zb (cvT v_10_0)).length (Zz (Zb (cvT v_10_0)))) (xw o4_0))) (tt k3 (tt k2 (tt k1 (pp (pp (xr v_10_0) (xw o1_0)) nn)))))))))))) (fun k3 => (sl Vu 95 [] ⟨[4, 0, 1, 2, 3, 8, 9, 10, 11, 7, 5], [], w6f, w6h⟩ ⟨[], [], []⟩ [false, false, true, true, true, true, true, true, false, false, false, false, false, false, false] (pp (fl v09_6 (fl v_4_0 nn)) (tt k3 (tt k2 (tt k1 (pp (pp (xr v_10_0) (xw o1_0)) nn))))))))) (fun k2 => (sl Vu 95 [] ⟨[4, 0, 1, 2, 3, 8, 9, 10, 11, 7, 5], [], w6f, w6h⟩ ⟨[], [], []⟩ [false, false, false, false, false, false, false, false, false, false, false, false, false, false, false] (pp (fl v09_6 (fl v_4_0 nn)) (tt k2 (tt k1 (pp (pp (xr v_10_0) (xw o1_0)) nn)))))))))))))
 | .h4 v1 v2 v72 v73 v74 v000_57 v001_4 v_0_0 v_0_1 v_0_2 v_5_0_000 v09_6 v_9_0 => (lb (fun k0 => (lo fun o0 => (lo fun o1 => (sl Vu 23 [] ⟨[0, 1, 2, 3, 4, 5, 6, 7, 8, 9, 13], [], w6f, w6h⟩ ⟨[], [.cells [.len (v_0_0 ++ [(R6.mk (rd v72 (tn v74)).a (rd v72 (tn v74)).b v1 (rd v72 (tn v74)).c (rd v72 (tn v74)).d v2)]).length, .keep, .keep, .keep], .keep, .keep, .keep, .keep, .keep, .keep, .keep, .keep, .keep, .rowed 6 (v_0_0 ++ [(R6.mk (rd v72 (tn v74)).a (rd v72 (tn v74)).b v1 (rd v72 (tn v74)).c (rd v72 (tn v74)).d v2)]).length (Zz (v_0_0 ++ [(R6.mk (rd v72 (tn v74)).a (rd v72 (tn v74)).b v1 (rd v72 (tn v74)).c (rd v72 (tn v74)).d v2)]))], []⟩ [true] (pp (xL (v_0_0.length + 1) (v_0_0 ++ [(R6.mk (rd v72 (tn v74)).a (rd v72 (tn v74)).b v1 (rd v72 (tn v74)).c (rd v72 (tn v74)).d v2)]).length) (pp (xL (v_0_0.length + 1) (v_0_0 ++ [(R6.mk (rd v72 (tn v74)).a (rd v72 (tn v74)).b v1 (rd v72 (tn v74)).c (rd v72 (tn v74)).d v2)]).length) (pp (xS (v_0_0.length + 1) (Zd (Zz v_0_0) 0 v_0_0.length 6 [(ii (rd v72 (tn v74)).a), (ii (rd v72 (tn v74)).b), (ii v1), (ii (rd v72 (tn v74)).c), (ii (rd v72 (tn v74)).d), (ii v2)]) (Zz (v_0_0 ++ [(R6.mk (rd v72 (tn v74)).a (rd v72 (tn v74)).b v1 (rd v72 (tn v74)).c (rd v72 (tn v74)).d v2)]))) (pp (fl v09_6 (pp (xF (Zd (Zz v_0_0) 0 v_0_0.length 6 [(ii (rd v72 (tn v74)).a), (ii (rd v72 (tn v74)).b), (ii v1), (ii (rd v72 (tn v74)).c), (ii (rd v72 (tn v74)).d), (ii v2)])) nn)) (ww o1 (ww o0 (tt k0 nn))))))))))) (fun k0 => (sl Vu 22 [] ⟨[1, 2, 3, 4, 0, 5, 6, 7, 8, 10], [], v4h, v4j⟩ ⟨[], [], []⟩ [false, false] (pp (fl v09_6 (fl v_0_0 nn)) (tt k0 nn)))))
 | .h5 v2 v8 v000_54 v000_57 v001_4 v_0_0 v_0_1 v_0_2 v_0_3 v_6_0_000 v09_7 v_10_0 => (lb (fun k0 => (lo fun o0 => (lo fun o1 => (sl Vu 34 [] ⟨(List.range 11), [], sckN5, sckM5⟩ ⟨[], [.cells [.len (v_0_0.set (0 + (tn v8)) (R6.mk (rd v_0_0 (0 + (tn v8))).a (rd v_0_0 (0 + (tn v8))).b (rd v_0_0 (0 + (tn v8))).c (rd v_0_0 (0 + (tn v8))).d (rd v_0_0 (0 + (tn v8))).e v2)).length, .keep, .keep, .keep], .rowed 6 (v_0_0.set (0 + (tn v8)) (R6.mk (rd v_0_0 (0 + (tn v8))).a (rd v_0_0 (0 + (tn v8))).b (rd v_0_0 (0 + (tn v8))).c (rd v_0_0 (0 + (tn v8))).d (rd v_0_0 (0 + (tn v8))).e v2)).length (Zz (v_0_0.set (0 + (tn v8)) (R6.mk (rd v_0_0 (0 + (tn v8))).a (rd v_0_0 (0 + (tn v8))).b (rd v_0_0 (0 + (tn v8))).c (rd v_0_0 (0 + (tn v8))).d (rd v_0_0 (0 + (tn v8))).e v2))), .keep, .keep, .keep, .keep, .keep, .keep, .keep, .keep, .keep], []⟩ [true] (pp (xL v_0_0.length (v_0_0.set (0 + (tn v8)) (R6.mk (rd v_0_0 (0 + (tn v8))).a (rd v_0_0 (0 + (tn v8))).b (rd v_0_0 (0 + (tn v8))).c (rd v_0_0 (0 + (tn v8))).d (rd v_0_0 (0 + (tn v8))).e v2)).length) (pp (xL v_0_0.length (v_0_0.set (0 + (tn v8)) (R6.mk (rd v_0_0 (0 + (tn v8))).a (rd v_0_0 (0 + (tn v8))).b (rd v_0_0 (0 + (tn v8))).c (rd v_0_0 (0 + (tn v8))).d (rd v_0_0 (0 + (tn v8))).e v2)).length) (pp (xS v_0_0.length (Xb (Zz v_0_0) (0 + (tn v8)) 5 [(ii v2)]) (Zz (v_0_0.set (0 + (tn v8)) (R6.mk (rd v_0_0 (0 + (tn v8))).a (rd v_0_0 (0 + (tn v8))).b (rd v_0_0 (0 + (tn v8))).c (rd v_0_0 (0 + (tn v8))).d (rd v_0_0 (0 + (tn v8))).e v2)))) (pp (pp (xF (Xb (Zz v_0_0) (0 + (tn v8)) 5 [(ii v2)])) (fl v09_7 nn)) (ww o1 (ww o0 (tt k0 nn))))))))))) (fun k0 => (sl Vu 36 [] ⟨[2, 3, 4, 5, 0, 6, 7, 8, 9, 1], [], v4h, v4j⟩ ⟨[], [], []⟩ [false, false] (pp (fl v09_7 (fl v_0_0 nn)) (tt k0 nn)))))
theorem x0d (l0 : List R6) : Xn Tryz.prog (Zy Tryz.prog 51) (sckC l0) (Zf Tryz.prog 51 [(.dat l0.length (Zz l0))] true []) (z8r l0) := (lb (fun k0 => (lr 25 51 [1, 0, 1, 0, 0] 1 3 [(2, (ii 4))] (sl Vu 16 [] ⟨[], [], [some [2]], []⟩ ⟨[], [], []⟩ [true] (tt k0 nn)))) (fun k0 => (sl Vu 40 [] ⟨[], [], sckN0, sckM0⟩ ⟨[], [], []⟩ [false] (tt k0 nn))))
theorem w6e (l0 : List R6) (n : Nat) (vs : List AVal) (h : Ya (Xv l0) n (z8r l0) = .ret vs) : Je Tryz.prog (Zy Tryz.prog 51) (Zf Tryz.prog 51 [(.dat l0.length (Zz l0))] true []) vs := by
 have := Zn (x6s l0) n _ (x0d l0)
 rwa [h] at this
end Go.Am
namespace Go.Am
open Go.Proofs Go.Sort Go.Shelf Go.RowKit Go.Lib
theorem x0u (l : List R4) : (Zb l).length ≤ 400 := by
 unfold Zb
 by_cases h : 400 < l.length
 ·rw [decide_eq_true h]; exact Nat.zero_le _
 ·rw [decide_eq_false h]
  cases l.all Kw
  ·exact Nat.zero_le _
  ·show (bif decide (((D4.out l).length : Int) > 400) then [] else D4.out l).length ≤ 400
   by_cases h2 : ((D4.out l).length : Int) > 400
   ·rw [decide_eq_true h2]; exact Nat.zero_le _
   ·rw [decide_eq_false h2]; show (D4.out l).length ≤ 400; omega
def D6 : Dim R6 R4 := ⟨R6.c, R6.f, fun r => ⟨r.a, r.b, r.d, r.e⟩, fun x x' s => ⟨s.a, s.b, x, s.c, s.d, x'⟩, fun x r => ⟨r.a, r.b, r.c, r.d, r.e, x⟩, Zb, Vs⟩
theorem D6_sec (l : List R6) (x : Int) : (D6.sec l x).length ≤ 1000 := Nat.le_trans (x0u _) (by omega)
def sckErr : List AVal := [.int .i64 8]
def y6u (l out : List R6) : List AVal := bif decide ((out.length : Int) > 400) then [.int .i64 8] else bif Jo out l then [.int .i64 0] else [.int .i64 8]
def badS (l : List R6) (x : Int) : Bool := Xh (D6.inn l x) != 0
def okF (l : List R6) : Nat → Nat → Bool
 | 0, _ => true
 | k + 1, i => bif badS l (rd (D6.cuts l) i) then false else okF l k (i + 1)
section
variable (l : List R6) (hl : l.length ≤ 400)
include hl
theorem v0u (i : Nat) (out : List R6) (last : List R4) (first fin x x' : Int) : ∀ (k j : Nat) (acc : List R4), j + k = l.length → acc.length ≤ j →
  ∃ n, ∀ N, Ya (Xv l) (N + n) (.to (.h3 (i : Int) (j : Int) out last first fin ((D6.cuts l).length) (Wc (Xd (D6.ends l))) x x' acc)) = Ya (Xv l) N (.to (.h3 (i : Int) (l.length : Int) out last first fin ((D6.cuts l).length) (Wc (Xd (D6.ends l))) x x' (acc ++ D6.inn (l.drop j) x)))
 | 0, j, acc, h, ha => by
  refine ⟨0, fun N => ?_⟩
  rw [List.drop_eq_nil_of_le (by omega), show D6.inn ([] : List R6) x = [] from rfl, List.append_nil, Nat.add_zero, show j = l.length by omega]
 | k + 1, j, acc, h, ha => by
  have hj : j < l.length := by omega
  obtain ⟨n, hn⟩ := v0u i out last first fin x x' k (j + 1) (acc ++ D6.inn [rd l j] x) (by omega) (by have := D6.inn_length [rd l j] x; simp only [List.length_append, List.length_singleton] at *; omega)
  refine ⟨n + 1, fun N => ?_⟩
  have e : D6.inn (l.drop j) x = D6.inn [rd l j] x ++ D6.inn (l.drop (j + 1)) x := by
   rw [Yi hj, ← D6.inn_append]; rfl
  rw [e, ← Nat.add_assoc, Zv, ← List.append_assoc, ← hn N]
  by_cases h1 : D6.lo (rd l j) ≤ x
  ·by_cases h2 : x < D6.hi (rd l j)
   ·rw [D6.inn_t _ _ h1 h2]
    simp only [D6] at h1 h2 ⊢
    simp (disch := omega) only [Xv, Xq, Zg, Zq, Zs, Zr, Yq, Yy, Yw, Zc, Zj, Zx, Yu, Zu, Nat.zero_add, decide_true, Bool.and_true, Bool.true_and, cond_true, cond_false]
   ·rw [D6.inn_f2 _ _ h2, List.append_nil]
    simp only [D6] at h1 h2
    simp (disch := omega) only [Xv, Xq, Yx, Zg, Zq, Zs, Zr, Yq, Yy, Yw, Zc, Zj, Zx, Yu, Zu, Nat.zero_add, decide_true, Bool.and_true, Bool.true_and, cond_true, cond_false]
  ·rw [D6.inn_f1 _ _ h1, List.append_nil]
   simp only [D6] at h1
   simp (disch := omega) only [Xv, x8q, Zg, Zq, Zs, Zr, Yq, Yy, Yw, Zc, Zj, Zx, Yu, Zu, Nat.zero_add, decide_true, Bool.and_true, Bool.true_and, cond_true, cond_false]
theorem v0t (i : Nat) (hi : i ≤ 1000) (x x' : Int) (s last : List R4) (first : Int) (inn : List R4) (hs : s.length ≤ 1000) : ∀ (k j : Nat) (out : List R6), j + k = s.length → out.length ≤ 10000000 + j →
  ∃ n, ∀ N, Ya (Xv l) (N + n) (.to (.h4 x x' s (s.length : Int) (j : Int) s (i : Int) out last first ((D6.cuts l).length) (Wc (Xd (D6.ends l))) inn)) = Ya (Xv l) N (.to (.h2 ((i + 1 : Nat) : Int) (out ++ (s.drop j).map (D6.put x x')) last first x' ((D6.cuts l).length) (Wc (Xd (D6.ends l)))))
 | 0, j, out, h, ho => by
  have _u := hl
  refine ⟨1, fun N => ?_⟩
  rw [List.drop_eq_nil_of_le (by omega), Zv]
  simp (disch := omega) only [Xv, Yx, Zj, Zx, cond_false, List.map_nil, List.append_nil]
 | k + 1, j, out, h, ho => by
  obtain ⟨n, hn⟩ := v0t i hi x x' s last first inn hs k (j + 1) (out ++ [D6.put x x' (rd s j)]) (by omega) (by simp; omega)
  refine ⟨n + 1, fun N => ?_⟩
  have := hn N
  rw [Yi (show j < s.length by omega), List.map_cons, ← Nat.add_assoc, Zv]
  simp (disch := omega) only [Xv, Zg, Zq, Zs, Zr, Yq, Yy, Yw, Zc, Zj, Zx, Yu, Zu, Nat.zero_add, decide_true, Bool.and_true, Bool.true_and, cond_true, cond_false]
  rw [List.append_assoc] at this
  exact this
theorem v0s (i : Nat) (hi : i ≤ 1000) (x x' fin : Int) (s last : List R4) (first : Int) (inn : List R4) : ∀ (k j : Nat) (out : List R6), j + k = out.length → out.length ≤ 10000000 →
  ∃ n, ∀ N, Ya (Xv l) (N + n) (.to (.h5 x' (j : Int) x s (i : Int) out last first fin ((D6.cuts l).length) (Wc (Xd (D6.ends l))) inn)) = Ya (Xv l) N (.to (.h2 ((i + 1 : Nat) : Int) (D6.grow out j x') last first x' ((D6.cuts l).length) (Wc (Xd (D6.ends l)))))
 | 0, j, out, h, ho => by
  have _u := hl
  refine ⟨1, fun N => ?_⟩
  rw [D6.grow_nil _ _ _ (by omega), Zv]
  simp (disch := omega) only [Xv, Yx, Zj, Zx, cond_false]
 | k + 1, j, out, h, ho => by
  obtain ⟨n, hn⟩ := v0s i hi x x' fin s last first inn k (j + 1) (out.set j (D6.ext x' (rd out j))) (by simp; omega) (by simpa using ho)
  refine ⟨n + 1, fun N => ?_⟩
  have := hn N
  rw [D6.grow_set out j _ (by omega)] at this
  rw [← Nat.add_assoc, Zv]
  simp (disch := omega) only [Xv, Zg, Zq, Zs, Zr, Yq, Yy, Yw, Zc, Zj, Zx, Yu, Zu, Nat.zero_add, decide_true, Bool.and_true, Bool.true_and, cond_true, cond_false]
  exact this
theorem w0o : ∀ (k i : Nat) (s : Sw R6 R4), k = (D6.cuts l).length - 1 - i → i ≤ (D6.cuts l).length → s.out.length ≤ i * 1000 → s.last.length ≤ 1000 → s.first ≤ s.out.length →
  ∃ n, Ya (Xv l) n (.to (.h2 ((i + 1 : Nat) : Int) s.out s.last (s.first : Int) s.fin ((D6.cuts l).length) (Wc (Xd (D6.ends l))))) = .ret ((bif okF l k i then y6u l (D6.go l k i s).out else sckErr))
 | 0, i, s, h, hi, ho, hla, hf => by
  have hc := D6.cuts_length l
  refine ⟨1, ?_⟩
  rw [Zv, show D6.go l 0 i s = s from rfl, show okF l 0 i = true from rfl, cond_true]
  unfold y6u
  by_cases q : (s.out.length : Int) > 400
  ·simp (disch := omega) only [Xv, Yx, Yf, cond_true, cond_false, Zp]
  ·have e : lst R6 s.out.length (fun k => (Zz s.out) k) = s.out := Zq s.out
   have w : Uw s.out l = true := decide_eq_true (by omega)
   have f : Qq (Zz s.out) = true := Xk _
   rcases Yc (Jo s.out l) with q2 | q2 <;>
   simp (disch := omega) only [Xv, Zg, e, w, f, q2, Yx, Xy, Yq, Yu, Nat.zero_add, Bool.not_true, Bool.not_false, Bool.and_true, cond_true, cond_false, Zp]
 | k + 1, i, s, h, hi, ho, hla, hf => by
  have hc := D6.cuts_length l
  have hi1 : i + 1 < (D6.cuts l).length := by omega
  have hpl : (Wc (Xd (D6.ends l))).length = 2 * l.length := by rw [Kr, Jm, D6.ends_length]
  have r0 : rd (Wc (Xd (D6.ends l))) i = rd (D6.cuts l) i := z7i _ _ (by show i < (D6.cuts l).length; omega)
  have r1 : rd (Wc (Xd (D6.ends l))) (i + 1) = rd (D6.cuts l) (i + 1) := z7i _ _ (by show i + 1 < (D6.cuts l).length; omega)
  have hbig : i * 1000 ≤ 1000 * 1000 := Nat.mul_le_mul_right _ (by omega)
  have hsl := D6_sec l (rd (D6.cuts l) i)
  have hsd : D6.sec l (rd (D6.cuts l) i) = Zb (D6.inn l (rd (D6.cuts l) i)) := rfl
  obtain ⟨n3, h3⟩ := v0u l hl (i + 1) s.out s.last (s.first : Int) s.fin (rd (D6.cuts l) i) (rd (D6.cuts l) (i + 1)) l.length 0 [] (Nat.zero_add _) (Nat.le_refl _)
  simp only [List.drop_zero, List.nil_append, z2n] at h3
  have w1 : Js (D6.inn l (rd (D6.cuts l) i)) = true := rfl
  have w2 : Ww s.last (Zb (D6.inn l (rd (D6.cuts l) i))) = true := decide_eq_true (by omega)
  have ol := D6.one_length l (rd (D6.cuts l) i) (rd (D6.cuts l) (i + 1)) s
  have st0 : ∀ N, Ya (Xv l) (N + n3 + 1) (.to (.h2 ((i + 1 : Nat) : Int) s.out s.last (s.first : Int) s.fin ((D6.cuts l).length) (Wc (Xd (D6.ends l))))) = Ya (Xv l) N (.to (.h3 ((i + 1 : Nat) : Int) (l.length : Int) s.out s.last (s.first : Int) s.fin ((D6.cuts l).length) (Wc (Xd (D6.ends l))) (rd (D6.cuts l) i) (rd (D6.cuts l) (i + 1)) (D6.inn l (rd (D6.cuts l) i)))) := fun N => by
   rw [← h3 N, Zv]
   have e1 : IntKind.wrap .i64 (((i + 1 : Nat) : Int) - 1) = (i : Int) := by rw [Zo]; exact Zj (by omega)
   simp (disch := omega) only [Xv, e1, r0, r1, Zg, Zq, Zs, Zr, Yq, Yy, Yw, Zc, Zj, Zx, Yu, Zu, Nat.zero_add, decide_true, Bool.and_true, Bool.true_and, cond_true, cond_false]
  rcases Yc (badS l (rd (D6.cuts l) i)) with q0 | q0
  ·refine ⟨1 + n3 + 1, ?_⟩
   rw [st0 1, Zv]
   simp only [okF, q0, cond_true, cond_false]
   have q0' : (Xh (D6.inn l (rd (D6.cuts l) i)) != 0) = true := q0
   simp (disch := omega) only [Xv, Zg, Zq, Yx, q0', w1, cond_true, cond_false, Zp]
   rfl
  have q0' : (Xh (D6.inn l (rd (D6.cuts l) i)) != 0) = false := q0
  rcases Yc (decide (0 < (D6.sec l (rd (D6.cuts l) i)).length) && ((s.fin == rd (D6.cuts l) i) && D6.same s.last (D6.sec l (rd (D6.cuts l) i)))) with q | q
  ·obtain ⟨n5, h5⟩ := v0s l hl (i + 1) (by omega) (rd (D6.cuts l) i) (rd (D6.cuts l) (i + 1)) s.fin (D6.sec l (rd (D6.cuts l) i)) s.last (s.first : Int) (D6.inn l (rd (D6.cuts l) i)) (s.out.length - s.first) s.first s.out (by omega) (by omega)
   have e : D6.one l (rd (D6.cuts l) i) (rd (D6.cuts l) (i + 1)) s = ⟨D6.grow s.out s.first (rd (D6.cuts l) (i + 1)), s.last, s.first, rd (D6.cuts l) (i + 1)⟩ := by unfold Dim.one; rw [q]; rfl
   obtain ⟨n0, h0⟩ := w0o k (i + 1) (D6.one l (rd (D6.cuts l) i) (rd (D6.cuts l) (i + 1)) s) (by omega) (by omega) (by omega) (by rw [e]; exact hla) (by rw [e]; simpa [Dim.grow_length] using hf)
   refine ⟨n0 + n5 + 1 + n3 + 1, ?_⟩
   rw [st0 (n0 + n5 + 1), Zv]
   simp only [Bool.and_eq_true, decide_eq_true_eq] at q
   obtain ⟨q1, q2, q3⟩ := q
   have q3' : Vs s.last (Zb (D6.inn l (rd (D6.cuts l) i))) = true := q3
   rw [hsd] at q1
   simp (disch := omega) only [Xv, Zg, Zq, Yx, Yf, q0', q2, q3', w1, w2, cond_true, cond_false]
   rw [← hsd, h5 n0]
   simp only [okF, q0, cond_false]; simp only [Dim.go]
   rw [e] at h0 ⊢
   exact h0
  ·obtain ⟨n4, h4⟩ := v0t l hl (i + 1) (by omega) (rd (D6.cuts l) i) (rd (D6.cuts l) (i + 1)) (D6.sec l (rd (D6.cuts l) i)) (D6.sec l (rd (D6.cuts l) i)) (s.out.length : Int) (D6.inn l (rd (D6.cuts l) i)) hsl (D6.sec l (rd (D6.cuts l) i)).length 0 s.out (Nat.zero_add _) (by omega)
   simp only [List.drop_zero, z2n] at h4
   have e : D6.one l (rd (D6.cuts l) i) (rd (D6.cuts l) (i + 1)) s = ⟨s.out ++ (D6.sec l (rd (D6.cuts l) i)).map (D6.put (rd (D6.cuts l) i) (rd (D6.cuts l) (i + 1))), D6.sec l (rd (D6.cuts l) i), s.out.length, rd (D6.cuts l) (i + 1)⟩ := by unfold Dim.one; rw [q]; rfl
   obtain ⟨n0, h0⟩ := w0o k (i + 1) (D6.one l (rd (D6.cuts l) i) (rd (D6.cuts l) (i + 1)) s) (by omega) (by omega) (by omega) (by rw [e]; exact hsl) (by rw [e]; simp)
   have hg : Ya (Xv l) 1 (.to (.h3 ((i + 1 : Nat) : Int) (l.length : Int) s.out s.last (s.first : Int) s.fin ((D6.cuts l).length) (Wc (Xd (D6.ends l))) (rd (D6.cuts l) i) (rd (D6.cuts l) (i + 1)) (D6.inn l (rd (D6.cuts l) i)))) = .to (.h4 (rd (D6.cuts l) i) (rd (D6.cuts l) (i + 1)) (D6.sec l (rd (D6.cuts l) i)) ((D6.sec l (rd (D6.cuts l) i)).length : Int) 0 (D6.sec l (rd (D6.cuts l) i)) ((i + 1 : Nat) : Int) s.out (D6.sec l (rd (D6.cuts l) i)) (s.out.length : Int) ((D6.cuts l).length) (Wc (Xd (D6.ends l))) (D6.inn l (rd (D6.cuts l) i))) := by
    rw [show (1 : Nat) = 0 + 1 from rfl, Zv]
    rw [hsd] at q ⊢
    have e3 : D6.same s.last (Zb (D6.inn l (rd (D6.cuts l) i))) = Vs s.last (Zb (D6.inn l (rd (D6.cuts l) i))) := rfl
    rw [e3] at q
    by_cases q1 : 0 < (Zb (D6.inn l (rd (D6.cuts l) i))).length
    ·rw [decide_eq_true q1, Bool.true_and] at q
     rcases Yc (s.fin == rd (D6.cuts l) i) with q2 | q2
     ·rw [q2, Bool.true_and] at q
      simp (disch := omega) only [Xv, Zg, Zq, Yx, Yf, q0', q2, q, w1, w2, cond_true, cond_false]
      rfl
     ·simp (disch := omega) only [Xv, Zg, Zq, Yx, Yf, q0', q2, w1, w2, cond_true, cond_false]
      rfl
    ·simp (disch := omega) only [Xv, Zg, Zq, Yx, Xy, q0', w1, w2, cond_true, cond_false]
     rfl
   refine ⟨n0 + n4 + 1 + n3 + 1, ?_⟩
   rw [st0 (n0 + n4 + 1), z5k _ (n0 + n4) 1, hg, h4 n0]
   simp only [okF, q0, cond_false]; simp only [Dim.go]
   rw [e] at h0 ⊢
   exact h0
theorem v0v : ∀ (k i : Nat) (acc : List Int), i + k = l.length → acc = D6.ends (l.take i) → ∃ n, Ya (Xv l) n (.to (.h1 (i : Int) acc)) = .ret ((bif okF l ((D6.cuts l).length - 1) 0 then y6u l (D6.go l ((D6.cuts l).length - 1) 0 ⟨[], [], 0, 0⟩).out else sckErr))
 | 0, i, acc, h, ha => by
  have e : acc = D6.ends l := by rw [ha, List.take_of_length_le (by omega)]
  subst e
  have hle := D6.ends_length l
  obtain ⟨n, hn⟩ := w0o l hl ((D6.cuts l).length - 1) 0 ⟨[], [], 0, 0⟩ (by omega) (Nat.zero_le _) (Nat.zero_le _) (Nat.zero_le _) (Nat.zero_le _)
  refine ⟨n + 1, ?_⟩
  rw [Zv]
  simp (disch := omega) only [Xv, Qz, z3a, y5w, Yx, Yy, Yw, decide_true, cond_true, cond_false]
  exact hn
 | k + 1, i, acc, h, ha => by
  have hle := D6.ends_length (l.take i)
  have hacc : acc.length ≤ 2 * i := by rw [ha, hle]; simp; omega
  obtain ⟨n, hn⟩ := v0v k (i + 1) (acc ++ D6.ends [rd l i]) (by omega) (by
   rw [ha, List.take_add_one]
   have : l[i]? = some (rd l i) := by rw [Xj (show i < l.length by omega)]; exact List.getElem?_eq_getElem _
   rw [this, D6.ends_append]; rfl)
  refine ⟨n + 1, ?_⟩
  rw [Zv]
  simp (disch := omega) only [Xv, Zg, Zq, Zs, Zr, Yq, Yy, Yw, Zc, Zj, Zx, Yu, Zu, Nat.zero_add, decide_true, Bool.and_true, Bool.true_and, cond_true, cond_false]
  exact hn
theorem v0w : ∀ (k i : Nat), i + k = l.length → (∀ s ∈ l.take i, z0f s = true) → ∃ n, Ya (Xv l) n (.to (.h0 (i : Int))) = .ret (bif l.all z0f then (bif okF l ((D6.cuts l).length - 1) 0 then y6u l (D6.go l ((D6.cuts l).length - 1) 0 ⟨[], [], 0, 0⟩).out else sckErr) else sckErr)
 | 0, i, h, ht => by
  have hv : l.all z0f = true := List.all_eq_true.2 fun s hs => ht s (by rw [List.take_of_length_le (by omega)]; exact hs)
  obtain ⟨n, hn⟩ := v0v l hl l.length 0 [] (Nat.zero_add _) rfl
  refine ⟨n + 1, ?_⟩
  rw [Zv, hv, cond_true]
  simp (disch := omega) only [Xv, Yx, cond_false]
  exact hn
 | k + 1, i, h, ht => by
  have hi : i < l.length := by omega
  have hs : Xv l (.h0 (i : Int)) = bif z0f (rd l i) then .to (.h0 ((i + 1 : Nat) : Int)) else .ret sckErr := by
   have e : vl6V (rd l i).a (rd l i).b (rd l i).c (rd l i).d (rd l i).e (rd l i).f = z0f (rd l i) := rfl
   simp (disch := omega) only [Xv, e, z6v, x5u, w3z, Zr, Zj, Zx, Zu, Bool.and_true, cond_true, cond_false]
   rfl
  rcases Yc (z0f (rd l i)) with q | q
  ·obtain ⟨n, hn⟩ := v0w k (i + 1) (by omega) (fun s hs => by
    rw [List.take_add_one] at hs
    have e : l[i]? = some (rd l i) := by rw [Xj hi]; exact List.getElem?_eq_getElem _
    rw [e] at hs
    simp only [Option.toList_some, List.mem_append, List.mem_singleton] at hs
    rcases hs with hs | rfl
    ·exact ht s hs
    ·exact q)
   refine ⟨n + 1, ?_⟩
   rw [Zv, hs, q, cond_true]
   exact hn
  ·have hv : l.all z0f = false := Bool.eq_false_iff.2 fun e => by
    have := List.all_eq_true.1 e (rd l i) (by rw [Xj hi]; exact List.getElem_mem hi)
    rw [this] at q; cases q
   refine ⟨1, ?_⟩
   rw [Zv, hv, cond_false, hs, q, cond_false, Zp]
end
def Zi (l : List R6) : Int := bif decide (400 < l.length) then 4 else bif l.all z0f then (bif okF l ((D6.cuts l).length - 1) 0 then (bif decide (((D6.out l).length : Int) > 400) then 8 else bif Jo (D6.out l) l then 0 else 8) else 8) else 8
def w0q (l : List R6) : Bool := true
theorem v4g (l : List R6) : ∃ n, Ya (Xv l) n (z8r l) = .ret [.int .i64 (Zi l)] := by
 unfold z8r Zi
 by_cases h : 400 < l.length
 ·refine ⟨0, ?_⟩
  rw [decide_eq_true h, Yf (show (l.length : Int) > 400 by omega)]; rfl
 ·obtain ⟨n, hn⟩ := v0w l (by omega) l.length 0 (Nat.zero_add _) (fun s hs => by simp at hs)
  refine ⟨n, ?_⟩
  rw [decide_eq_false h, Xy (show ¬ (l.length : Int) > 400 by omega), cond_false, cond_false]
  rw [z2n] at hn
  rw [hn]
  unfold sckErr y6u
  cases l.all z0f <;> simp only [cond_true, cond_false]
  cases okF l ((D6.cuts l).length - 1) 0 <;> simp only [cond_true, cond_false]
  show Xo.ret (bif decide (((D6.out l).length : Int) > 400) then _ else bif Jo (D6.out l) l then _ else _) = _
  cases decide (((D6.out l).length : Int) > 400) <;> simp only [cond_true, cond_false]
  cases Jo (D6.out l) l <;> rfl
def fSck : List AVal → Option (AVal × Bool)
 | [a1] => match asL R6 a1 with
  | some (L1, g1, n1) => some (.int .i64 (Zi L1), isT R6 n1 g1 && w0q L1)
  | _ => none
 | _ => none
theorem v7a {S : Specs} (hS : Zk Tryz.prog S) : Zk Tryz.prog (S.with y7t fSck) := by
 refine z1b hS (by kernel_rfl) fun args v h => ?_
 unfold fSck at h
 split at h
 ·rename_i a1
  split at h
  ·rename_i L1 g1 n1 e1
   simp only [Option.some.injEq, Prod.mk.injEq, Bool.and_eq_true] at h
   obtain ⟨rfl, ho1, hw⟩ := h
   obtain ⟨N, hN⟩ := v4g L1
   exact ⟨_, _, (.cons (asL_le e1 ho1) .nil), rfl, w6e L1 N _ hN, 3, rfl⟩
  ·cases h
 ·cases h
def T8 : Specs := T7v.with y7t fSck
theorem Qp : Zk Tryz.prog T8 := v7a Vu
end Go.Am
namespace Go.Am
open Go.Proofs
inductive rchkS where
 | h0 (v3 : Int)
def v5n (l0 : List R6) : rchkS → Cfg
 | .h0 v3 => ⟨⟨34, 0, true⟩, none, (Za Tryz.prog 53 [1, 1, 0, 1, 0, 0] 0), none, (Zy Tryz.prog 3), ⟨Ym [(0, (.dat l0.length (Zz l0))), (3, (ii v3))], Jw [] 0, 0, [], true⟩, [], .leaf⟩
def v1z : List (Option (List Nat)) := [some [0, 3]]
def v2a : List (Option (List Nat)) := []
def Qe (l0 : List R6) : rchkS → Xo rchkS
 | .h0 v3 => (bif (decide (v3 < (l0.length : Int))) then (bif ((decide (0 ≤ v3 ∧ v3 < (l0.length : Int))) && true) then (bif (decide ((rd l0 v3.toNat).a ≥ (-1000000))) then (bif (decide ((rd l0 v3.toNat).b ≥ (-1000000))) then (bif (decide ((rd l0 v3.toNat).c ≥ (-1000000))) then (bif (decide ((rd l0 v3.toNat).a ≤ 1000000)) then (bif (decide ((rd l0 v3.toNat).b ≤ 1000000)) then (bif (decide ((rd l0 v3.toNat).c ≤ 1000000)) then (bif (decide ((rd l0 v3.toNat).d ≥ (-1000000))) then (bif (decide ((rd l0 v3.toNat).e ≥ (-1000000))) then (bif (decide ((rd l0 v3.toNat).f ≥ (-1000000))) then (bif (decide ((rd l0 v3.toNat).d ≤ 1000000)) then (bif (decide ((rd l0 v3.toNat).e ≤ 1000000)) then (bif (decide ((rd l0 v3.toNat).f ≤ 1000000)) then (bif (decide ((rd l0 v3.toNat).a < (rd l0 v3.toNat).d)) then (bif (decide ((rd l0 v3.toNat).b < (rd l0 v3.toNat).e)) then (bif (!(decide ((rd l0 v3.toNat).c < (rd l0 v3.toNat).f))) then (.ret [(.int .i64 8)]) else (.to (.h0 (IntKind.wrap .i64 (v3 + 1))))) else (.ret [(.int .i64 8)])) else (.ret [(.int .i64 8)])) else (.ret [(.int .i64 8)])) else (.ret [(.int .i64 8)])) else (.ret [(.int .i64 8)])) else (.ret [(.int .i64 8)])) else (.ret [(.int .i64 8)])) else (.ret [(.int .i64 8)])) else (.ret [(.int .i64 8)])) else (.ret [(.int .i64 8)])) else (.ret [(.int .i64 8)])) else (.ret [(.int .i64 8)])) else (.ret [(.int .i64 8)])) else (.ret [(.int .i64 8)])) else .stuck) else (bif (z9l 2 (cvT l0) ([] : List R6)) then (bif (!(y8a 2 (cvT l0) ([] : List R6))) then (.ret [(.int .i64 8)]) else (bif (Uw (cvT (z4d 2 (cvT l0) ([] : List R6))) (cvT l0)) then (bif (!(Jo (cvT (z4d 2 (cvT l0) ([] : List R6))) (cvT l0))) then (.ret [(.int .i64 8)]) else (.ret [(.int .i64 0)])) else .stuck)) else .stuck))
def z5a (l0 : List R6) : Xo rchkS := (bif (decide ((l0.length : Int) > 400)) then (.ret [(.int .i64 4)]) else (.to (.h0 0)))
theorem x0z (l0 : List R6) : ∀ s, Xn Tryz.prog (Zy Tryz.prog 53) (v5n l0) (v5n l0 s) (Qe l0 s)
 | .h0 v3 => (lb (fun k0 => (lo fun o1_0 => (lb (fun k1 => (lb (fun k2 => (lb (fun k3 => (lb (fun k4 => (lb (fun k5 => (lb (fun k6 => (lb (fun k7 => (lb (fun k8 => (lb (fun k9 => (lb (fun k10 => (lb (fun k11 => (lb (fun k12 => (lb (fun k13 => (lb (fun k14 => (lb (fun k15 => (lr 34 53 [1, 1, 0, 1, 0, 0, 1, 0, 0, 1, 0, 0] 1 3 [(2, (ii 8))] (sl Qp 158 [] ⟨[], [], [some [2]], []⟩ ⟨[], [], []⟩ (trs 60 []) (tt k15 (tt k14 (tt k13 (tt k12 (tt k11 (tt k10 (tt k9 (tt k8 (tt k7 (tt k6 (tt k5 (tt k4 (tt k3 (tt k2 (tt k1 (ww o1_0 (tt k0 nn)))))))))))))))))))) (fun k15 => (sl Qp 162 [] ⟨[], [], v1z, v2a⟩ ⟨[], [], []⟩ (trs 59 [false]) (tt k15 (tt k14 (tt k13 (tt k12 (tt k11 (tt k10 (tt k9 (tt k8 (tt k7 (tt k6 (tt k5 (tt k4 (tt k3 (tt k2 (tt k1 (ww o1_0 (tt k0 nn))))))))))))))))))))) (fun k14 => (lr 34 53 [1, 1, 0, 1, 0, 0, 1, 0, 0, 1, 0, 0] 1 3 [(2, (ii 8))] (sl Qp 158 [] ⟨[], [], [some [2]], []⟩ ⟨[], [], []⟩ (trs 52 [false, false, false, false, false, false, false, true]) (tt k14 (tt k13 (tt k12 (tt k11 (tt k10 (tt k9 (tt k8 (tt k7 (tt k6 (tt k5 (tt k4 (tt k3 (tt k2 (tt k1 (ww o1_0 (tt k0 nn))))))))))))))))))))) (fun k13 => (lr 34 53 [1, 1, 0, 1, 0, 0, 1, 0, 0, 1, 0, 0] 1 3 [(2, (ii 8))] (sl Qp 158 [] ⟨[], [], [some [2]], []⟩ ⟨[], [], []⟩ (trs 45 [false, false, false, false, false, false, false, false, false, false, false, false, false, false, true]) (tt k13 (tt k12 (tt k11 (tt k10 (tt k9 (tt k8 (tt k7 (tt k6 (tt k5 (tt k4 (tt k3 (tt k2 (tt k1 (ww o1_0 (tt k0 nn)))))))))))))))))))) (fun k12 => (lr 34 53 [1, 1, 0, 1, 0, 0, 1, 0, 0, 1, 0, 0] 1 3 [(2, (ii 8))] (sl Qp 158 [] ⟨[], [], [some [2]], []⟩ ⟨[], [], []⟩ (trs 38 [false, false, false, false, false, false, false, false, false, false, false, false, false, false, false, false, false, false, false, false, false, true]) (tt k12 (tt k11 (tt k10 (tt k9 (tt k8 (tt k7 (tt k6 (tt k5 (tt k4 (tt k3 (tt k2 (tt k1 (ww o1_0 (tt k0 nn))))))))))))))))))) (fun k11 => (lr 34 53 [1, 1, 0, 1, 0, 0, 1, 0, 0, 1, 0, 0] 1 3 [(2, (ii 8))] (sl Qp 158 [] ⟨[], [], [some [2]], []⟩ ⟨[], [], []⟩ (trs 35 [false, false, false, false, false, false, false, false, false, false, false, false, false, false, false, false, false, false, false, false, false, false, false, false, true]) (tt k11 (tt k10 (tt k9 (tt k8 (tt k7 (tt k6 (tt k5 (tt k4 (tt k3 (tt k2 (tt k1 (ww o1_0 (tt k0 nn)))))))))))))))))) (fun k10 => (lr 34 53 [1, 1, 0, 1, 0, 0, 1, 0, 0, 1, 0, 0] 1 3 [(2, (ii 8))] (sl Qp 158 [] ⟨[], [], [some [2]], []⟩ ⟨[], [], []⟩ (trs 32 [false, false, false, false, false, false, false, false, false, false, false, false, false, false, false, false, false, false, false, false, false, false, false, false, false, false, false, true]) (tt k10 (tt k9 (tt k8 (tt k7 (tt k6 (tt k5 (tt k4 (tt k3 (tt k2 (tt k1 (ww o1_0 (tt k0 nn))))))))))))))))) (fun k9 => (lr 34 53 [1, 1, 0, 1, 0, 0, 1, 0, 0, 1, 0, 0] 1 3 [(2, (ii 8))] (sl Qp 158 [] ⟨[], [], [some [2]], []⟩ ⟨[], [], []⟩ (trs 29 [false, false, false, false, false, false, false, false, false, false, false, false, false, false, false, false, false, false, false, false, false, false, false, false, false, false, false, false, false, false, true]) (tt k9 (tt k8 (tt k7 (tt k6 (tt k5 (tt k4 (tt k3 (tt k2 (tt k1 (ww o1_0 (tt k0 nn)))))))))))))))) (fun k8 => (lr 34 53 [1, 1, 0, 1, 0, 0, 1, 0, 0, 1, 0, 0] 1 3 [(2, (ii 8))] (sl Qp 158 [] ⟨[], [], [some [2]], []⟩ ⟨[], [], []⟩ (trs 25 [false, false, false, false, false, false, false, false, false, false, false, false, false, false, false, false, false, false, false, false, false, false, false, false, false, false, false, false, false, false, false, false, false, false, true]) (tt k8 (tt k7 (tt k6 (tt k5 (tt k4 (tt k3 (tt k2 (tt k1 (ww o1_0 (tt k0 nn))))))))))))))) (fun k7 => (lr 34 53 [1, 1, 0, 1, 0, 0, 1, 0, 0, 1, 0, 0] 1 3 [(2, (ii 8))] (sl Qp 158 [] ⟨[], [], [some [2]], []⟩ ⟨[], [], []⟩ (trs 21 [false, false, false, false, false, false, false, false, false, false, false, false, false, false, false, false, false, false, false, false, false, false, false, false, false, false, false, false, false, false, false, false, false, false, false, false, false, false, true]) (tt k7 (tt k6 (tt k5 (tt k4 (tt k3 (tt k2 (tt k1 (ww o1_0 (tt k0 nn)))))))))))))) (fun k6 => (lr 34 53 [1, 1, 0, 1, 0, 0, 1, 0, 0, 1, 0, 0] 1 3 [(2, (ii 8))] (sl Qp 117 [] ⟨[], [], [some [2]], []⟩ ⟨[], [], []⟩ (trs 18 [false, false, false, false, false, false, false, false, false, false, false, false, false, false, false, false, false, false, false, false, false, false, false, false, true]) (tt k6 (tt k5 (tt k4 (tt k3 (tt k2 (tt k1 (ww o1_0 (tt k0 nn))))))))))))) (fun k5 => (lr 34 53 [1, 1, 0, 1, 0, 0, 1, 0, 0, 1, 0, 0] 1 3 [(2, (ii 8))] (sl Qp 117 [] ⟨[], [], [some [2]], []⟩ ⟨[], [], []⟩ (trs 15 [false, false, false, false, false, false, false, false, false, false, false, false, false, false, false, false, false, false, false, false, false, false, false, false, false, false, false, true]) (tt k5 (tt k4 (tt k3 (tt k2 (tt k1 (ww o1_0 (tt k0 nn)))))))))))) (fun k4 => (lr 34 53 [1, 1, 0, 1, 0, 0, 1, 0, 0, 1, 0, 0] 1 3 [(2, (ii 8))] (sl Qp 117 [] ⟨[], [], [some [2]], []⟩ ⟨[], [], []⟩ (trs 12 [false, false, false, false, false, false, false, false, false, false, false, false, false, false, false, false, false, false, false, false, false, false, false, false, false, false, false, false, false, false, true]) (tt k4 (tt k3 (tt k2 (tt k1 (ww o1_0 (tt k0 nn))))))))))) (fun k3 => (lr 34 53 [1, 1, 0, 1, 0, 0, 1, 0, 0, 1, 0, 0] 1 3 [(2, (ii 8))] (sl Qp 117 [] ⟨[], [], [some [2]], []⟩ ⟨[], [], []⟩ (trs 9 [false, false, false, false, false, false, false, false, false, false, false, false, false, false, false, false, false, false, false, false, false, false, false, false, false, false, false, false, false, false, false, false, false, true]) (tt k3 (tt k2 (tt k1 (ww o1_0 (tt k0 nn)))))))))) (fun k2 => (lr 34 53 [1, 1, 0, 1, 0, 0, 1, 0, 0, 1, 0, 0] 1 3 [(2, (ii 8))] (sl Qp 117 [] ⟨[], [], [some [2]], []⟩ ⟨[], [], []⟩ (trs 5 [false, false, false, false, false, false, false, false, false, false, false, false, false, false, false, false, false, false, false, false, false, false, false, false, false, false, false, false, false, false, false, false, false, false, false, false, false, true]) (tt k2 (tt k1 (ww o1_0 (tt k0 nn))))))))) (fun k1 => (lr 34 53 [1, 1, 0, 1, 0, 0, 1, 0, 0, 1, 0, 0] 1 3 [(2, (ii 8))] (sl Qp 117 [] ⟨[], [], [some [2]], []⟩ ⟨[], [], []⟩ [true, false, false, false, false, false, false, false, false, false, false, false, false, false, false, false, false, false, false, false, false, false, false, false, false, false, false, false, false, false, false, false, false, false, false, false, false, false, false, false, false, false, true] (tt k1 (ww o1_0 (tt k0 nn))))))))) (fun k0 => (lo fun o1_0 => (lb (fun k1 => (lr 34 53 [1, 1, 1, 1, 0, 1, 0, 0] 1 3 [(2, (ii 8))] (sl Qp 37 [] ⟨[], [], [some [2]], []⟩ ⟨[], [], []⟩ [false, true, true, true, true, true] (tt k1 (pp (pp (xr l0) (pp (xI R6 0 (fun _ => [])) (xw o1_0))) (tt k0 nn)))))) (fun k1 => (lo fun o2_0 => (lb (fun k2 => (lr 34 53 [1, 1, 1, 1, 0, 1, 0, 0] 1 3 [(2, (ii 8))] (sl Qp 37 [] ⟨[], [], [some [2]], []⟩ ⟨[], [], []⟩ [false, false, false, false, false, true] (tt k2 (pp (pp (xI R6 (z4d 2 (cvT l0) ([] : List R6)).length (Zz (z4d 2 (cvT l0) ([] : List R6)))) (pp (xr l0) (xw o2_0))) (tt k1 (pp (pp (xr l0) (pp (xI R6 0 (fun _ => [])) (xw o1_0))) (tt k0 nn)))))))) (fun k2 => (lr 34 3 [1, 1, 1, 1, 1, 1, 1, 0] 1 3 [(2, (ii 0))] (sl Qp 38 [] ⟨[], [], [some [2]], []⟩ ⟨[], [], []⟩ [false, false, false, false, false, false] (tt k2 (pp (pp (xI R6 (z4d 2 (cvT l0) ([] : List R6)).length (Zz (z4d 2 (cvT l0) ([] : List R6)))) (pp (xr l0) (xw o2_0))) (tt k1 (pp (pp (xr l0) (pp (xI R6 0 (fun _ => [])) (xw o1_0))) (tt k0 nn)))))))))))))))
theorem y7h (l0 : List R6) : Xn Tryz.prog (Zy Tryz.prog 53) (v5n l0) (Zf Tryz.prog 53 [(.dat l0.length (Zz l0))] true []) (z5a l0) := (lb (fun k0 => (lr 34 53 [1, 0, 1, 0, 0] 1 3 [(2, (ii 4))] (sl Qp 16 [] ⟨[], [], [some [2]], []⟩ ⟨[], [], []⟩ [true] (tt k0 nn)))) (fun k0 => (sl Qp 20 [] ⟨[], [], v1z, v2a⟩ ⟨[], [], []⟩ [false] (tt k0 nn))))
theorem w1y (l0 : List R6) (n : Nat) (vs : List AVal) (h : Ya (Qe l0) n (z5a l0) = .ret vs) : Je Tryz.prog (Zy Tryz.prog 53) (Zf Tryz.prog 53 [(.dat l0.length (Zz l0))] true []) vs := by
 have := Zn (x0z l0) n _ (y7h l0)
 rwa [h] at this
end Go.Am
namespace Go.Am
open Go.Proofs
def x3z (r : R6) : Bool := decide (r.a ≥ -1000000) && (decide (r.b ≥ -1000000) && (decide (r.c ≥ -1000000) && (decide (r.a ≤ 1000000) && (decide (r.b ≤ 1000000) && (decide (r.c ≤ 1000000) && (decide (r.d ≥ -1000000) && (decide (r.e ≥ -1000000) && (decide (r.f ≥ -1000000) && (decide (r.d ≤ 1000000) && (decide (r.e ≤ 1000000) && (decide (r.f ≤ 1000000) && (decide (r.a < r.d) && (decide (r.b < r.e) && decide (r.c < r.f))))))))))))))
def rckF (l : List R6) : Int := bif y8a 2 l [] then (bif Jo (z4d 2 l []) l then 0 else 8) else 8
def z3m (l : List R6) : Int := bif decide (400 < l.length) then 4 else bif l.all x3z then rckF l else 8
def w1w (l : List R6) : Bool := true
theorem x8d (k : Int) (l m : List R6) : (z4d k l m).length ≤ 400 ∨ y8a k l m = false := by
 unfold z4d y8a
 cases jsO k l m with
 | none => exact .inl (Nat.zero_le _)
 | some out =>
  by_cases h : (out.length : Int) ≤ 400
  ·left; show out.length ≤ 400; omega
  ·right; exact decide_eq_false h
section
variable (l : List R6) (hl : l.length ≤ 400)
include hl
theorem w1x : ∀ (k i : Nat), i + k = l.length → (∀ s ∈ l.take i, x3z s = true) → ∃ n, Ya (Qe l) n (.to (.h0 (i : Int))) = .ret [.int .i64 (bif l.all x3z then rckF l else 8)]
 | 0, i, h, ht => by
  have hv : l.all x3z = true := List.all_eq_true.2 fun s hs => ht s (by rw [List.take_of_length_le (by omega)]; exact hs)
  have w1 : z9l 2 l [] = true := decide_eq_true ⟨by omega, by simp⟩
  refine ⟨1, ?_⟩
  rw [Zv, hv, cond_true]
  unfold rckF
  rcases Yc (y8a 2 l []) with q | q
  ·have w2 : Uw (z4d 2 l []) l = true := decide_eq_true (by
    rcases x8d 2 l [] with h | h
    ·omega
    ·rw [h] at q; cases q)
   rcases Yc (Jo (z4d 2 l []) l) with q2 | q2 <;>
   simp (disch := omega) only [Qe, Zg, Yx, q, q2, w1, w2, Bool.not_true, Bool.not_false, cond_true, cond_false, Zp]
  ·simp (disch := omega) only [Qe, Zg, Yx, q, w1, Bool.not_true, Bool.not_false, cond_true, cond_false, Zp]
 | k + 1, i, h, ht => by
  have hi : i < l.length := by omega
  have hs : Qe l (.h0 (i : Int)) = bif x3z (rd l i) then .to (.h0 ((i + 1 : Nat) : Int)) else .ret [.int .i64 8] := by
   simp (disch := omega) only [Qe, x3z, y1z, z6v, x5u, Zr, Zj, Zx, Zu, Bool.and_true, cond_true, cond_false]
  rcases Yc (x3z (rd l i)) with q | q
  ·obtain ⟨n, hn⟩ := w1x k (i + 1) (by omega) (fun s hs => by
    rw [List.take_add_one] at hs
    have e : l[i]? = some (rd l i) := by rw [Xj hi]; exact List.getElem?_eq_getElem _
    rw [e] at hs
    simp only [Option.toList_some, List.mem_append, List.mem_singleton] at hs
    rcases hs with hs | rfl
    ·exact ht s hs
    ·exact q)
   refine ⟨n + 1, ?_⟩
   rw [Zv, hs, q, cond_true]
   exact hn
  ·have hv : l.all x3z = false := Bool.eq_false_iff.2 fun e => by
    have := List.all_eq_true.1 e (rd l i) (by rw [Xj hi]; exact List.getElem_mem hi)
    rw [this] at q; cases q
   refine ⟨1, ?_⟩
   rw [Zv, hv, cond_false, hs, q, cond_false, Zp]
end
theorem w7i (l : List R6) : ∃ n, Ya (Qe l) n (z5a l) = .ret [.int .i64 (z3m l)] := by
 unfold z5a z3m
 by_cases h : 400 < l.length
 ·refine ⟨0, ?_⟩
  rw [decide_eq_true h, Yf (show (l.length : Int) > 400 by omega)]; rfl
 ·obtain ⟨n, hn⟩ := w1x l (by omega) l.length 0 (Nat.zero_add _) (fun s hs => by simp at hs)
  refine ⟨n, ?_⟩
  rw [decide_eq_false h, Xy (show ¬ (l.length : Int) > 400 by omega), cond_false, cond_false]
  exact hn
def fRck : List AVal → Option (AVal × Bool)
 | [a1] => match asL R6 a1 with
  | some (L1, g1, n1) => some (.int .i64 (z3m L1), isT R6 n1 g1 && w1w L1)
  | _ => none
 | _ => none
theorem v7e {S : Specs} (hS : Zk Tryz.prog S) : Zk Tryz.prog (S.with w2r fRck) := by
 refine z1b hS (by kernel_rfl) fun args v h => ?_
 unfold fRck at h
 split at h
 ·rename_i a1
  split at h
  ·rename_i L1 g1 n1 e1
   simp only [Option.some.injEq, Prod.mk.injEq, Bool.and_eq_true] at h
   obtain ⟨rfl, ho1, hw⟩ := h
   obtain ⟨N, hN⟩ := w7i L1
   exact ⟨_, _, (.cons (asL_le e1 ho1) .nil), rfl, w1y L1 N _ hN, 3, rfl⟩
  ·cases h
 ·cases h
def T9 : Specs := T8.with w2r fRck
theorem Uq : Zk Tryz.prog T9 := v7e Qp
end Go.Am
namespace Go.Am
open Go.Proofs Go.Sort Go.Shelf Go.RowKit Go.Lib
def pt (L : List R2) (y : Int) : Prop := ∃ s ∈ L, s.a ≤ y ∧ y < s.b
structure Can (L : List R2) : Prop where
 pos : ∀ s ∈ L, s.a < s.b
 sep : L.Pairwise fun s t => s.b < t.a
theorem Can.nil : Can [] := ⟨by simp, .nil⟩
theorem Can.tail {s : R2} {L : List R2} (h : Can (s :: L)) : Can L := ⟨fun t ht => h.pos t (List.mem_cons_of_mem _ ht), (List.pairwise_cons.1 h.sep).2⟩
theorem Can.head {s : R2} {L : List R2} (h : Can (s :: L)) : ∀ t ∈ L, s.b < t.a := (List.pairwise_cons.1 h.sep).1
theorem v3c {s : R2} {L : List R2} (h : Can (s :: L)) {y : Int} (hy : pt (s :: L) y) : s.a ≤ y := by
 obtain ⟨t, ht, h1, h2⟩ := hy
 rcases List.mem_cons.1 ht with rfl | ht
 ·exact h1
 ·have := h.head t ht; have := h.pos s (by simp); omega
theorem w4n : ∀ (L M : List R2), Can L → Can M → (∀ y, pt L y ↔ pt M y) → L = M
 | [], [], _, _, _ => rfl
 | [], t :: M, _, hM, h => by
  have := (h t.a).2 ⟨t, by simp, Int.le_refl _, hM.pos t (by simp)⟩
  obtain ⟨s, hs, _⟩ := this; cases hs
 | s :: L, [], hL, _, h => by
  have := (h s.a).1 ⟨s, by simp, Int.le_refl _, hL.pos s (by simp)⟩
  obtain ⟨s, hs, _⟩ := this; cases hs
 | s :: L, t :: M, hL, hM, h => by
  have p1 := hL.pos s (by simp)
  have p2 := hM.pos t (by simp)
  have a1 : t.a ≤ s.a := v3c hM ((h s.a).1 ⟨s, by simp, Int.le_refl _, p1⟩)
  have a2 : s.a ≤ t.a := v3c hL ((h t.a).2 ⟨t, by simp, Int.le_refl _, p2⟩)
  have b1 : ¬ s.b < t.b := fun hb => by
   obtain ⟨u, hu, h1, h2⟩ := (h s.b).2 ⟨t, by simp, by omega, hb⟩
   rcases List.mem_cons.1 hu with rfl | hu
   ·omega
   ·have := hL.head u hu; omega
  have b2 : ¬ t.b < s.b := fun hb => by
   obtain ⟨u, hu, h1, h2⟩ := (h t.b).1 ⟨s, by simp, by omega, hb⟩
   rcases List.mem_cons.1 hu with rfl | hu
   ·omega
   ·have := hM.head u hu; omega
  have e : s = t := by
   obtain ⟨sa, sb⟩ := s; obtain ⟨ta, tb⟩ := t
   simp only at a1 a2 b1 b2
   have : sa = ta := by omega
   have : sb = tb := by omega
   subst_vars; rfl
  subst e
  congr 1
  refine w4n L M hL.tail hM.tail fun y => ⟨fun hy => ?_, fun hy => ?_⟩
  ·obtain ⟨u, hu, h1, h2⟩ := hy
   have g := hL.head u hu
   obtain ⟨v, hv, h3, h4⟩ := (h y).1 ⟨u, by simp [hu], h1, h2⟩
   rcases List.mem_cons.1 hv with rfl | hv
   ·omega
   ·exact ⟨v, hv, h3, h4⟩
  ·obtain ⟨u, hu, h1, h2⟩ := hy
   have g := hM.head u hu
   obtain ⟨v, hv, h3, h4⟩ := (h y).2 ⟨u, by simp [hu], h1, h2⟩
   rcases List.mem_cons.1 hv with rfl | hv
   ·omega
   ·exact ⟨v, hv, h3, h4⟩
def push (out : List R2) (x x' : Int) : List R2 :=
 bif decide (0 < out.length) && ((rd out (out.length - 1)).b == x) then out.set (out.length - 1) ⟨(rd out (out.length - 1)).a, x'⟩ else out ++ [⟨x, x'⟩]
theorem w2b (out : List R2) (s : R2) (x x' : Int) : push (out ++ [s]) x x' = bif s.b == x then out ++ [⟨s.a, x'⟩] else out ++ [s] ++ [⟨x, x'⟩] := by
 have e : rd (out ++ [s]) ((out ++ [s]).length - 1) = s := by
  rw [Ve (by simp)]; simp [rd]
 unfold push
 rw [e, decide_eq_true (by simp), Bool.true_and]
 cases (s.b == x)
 ·rfl
 ·simp
theorem x4s {out : List R2} {x x' : Int} (hc : Can out) (hb : ∀ s ∈ out, s.b ≤ x) (hx : x < x') :
  Can (push out x x') ∧ (∀ s ∈ push out x x', s.b ≤ x') ∧ ∀ y, pt (push out x x') y ↔ pt out y ∨ (x ≤ y ∧ y < x') := by
 rcases List.eq_nil_or_concat out with rfl | ⟨L, s, rfl⟩
 ·refine ⟨⟨?_, ?_⟩, ?_, fun y => ?_⟩
  ·intro s hs; simp [push] at hs; subst hs; exact hx
  ·simp [push]
  ·intro s hs; simp [push] at hs; subst hs; exact Int.le_refl _
  ·simp [push, pt]
 ·rw [List.concat_eq_append] at *
  rw [w2b]
  have hs := hb s (by simp)
  have hp := hc.pos s (by simp)
  have sep := List.pairwise_append.1 hc.sep
  rcases Yc (s.b == x) with q | q
  ·rw [q, cond_true]
   have q : s.b = x := by simpa using q
   refine ⟨⟨?_, ?_⟩, ?_, fun y => ?_⟩
   ·intro t ht
    rcases List.mem_append.1 ht with ht | ht
    ·exact hc.pos t (by simp [ht])
    ·rw [List.mem_singleton.1 ht]; show s.a < x'; omega
   ·refine List.pairwise_append.2 ⟨sep.1, List.pairwise_singleton _ _, fun t ht u hu => ?_⟩
    rw [List.mem_singleton.1 hu]
    exact sep.2.2 t ht s (by simp)
   ·intro t ht
    rcases List.mem_append.1 ht with ht | ht
    ·have := hb t (by simp [ht]); omega
    ·rw [List.mem_singleton.1 ht]; exact Int.le_refl _
   ·constructor
    ·rintro ⟨t, ht, h1, h2⟩
     rcases List.mem_append.1 ht with ht | ht
     ·exact .inl ⟨t, by simp [ht], h1, h2⟩
     ·rw [List.mem_singleton.1 ht] at h1 h2
      by_cases hy : y < s.b
      ·exact .inl ⟨s, by simp, h1, hy⟩
      ·exact .inr ⟨by omega, h2⟩
    ·rintro (⟨t, ht, h1, h2⟩ | ⟨h1, h2⟩)
     ·rcases List.mem_append.1 ht with ht | ht
      ·exact ⟨t, by simp [ht], h1, h2⟩
      ·rw [List.mem_singleton.1 ht] at h1 h2
       exact ⟨⟨s.a, x'⟩, by simp, h1, by show y < x'; omega⟩
     ·exact ⟨⟨s.a, x'⟩, by simp, by show s.a ≤ y; omega, h2⟩
  ·rw [q, cond_false]
   have q : s.b ≠ x := by simpa using q
   refine ⟨⟨?_, ?_⟩, ?_, fun y => ?_⟩
   ·intro t ht
    rcases List.mem_append.1 ht with ht | ht
    ·exact hc.pos t ht
    ·rw [List.mem_singleton.1 ht]; exact hx
   ·refine List.pairwise_append.2 ⟨hc.sep, List.pairwise_singleton _ _, fun t ht u hu => ?_⟩
    rw [List.mem_singleton.1 hu]
    show t.b < x
    rcases List.mem_append.1 ht with h | h
    ·have h1 := sep.2.2 t h s (by simp); omega
    ·rw [List.mem_singleton.1 h]; omega
   ·intro t ht
    rcases List.mem_append.1 ht with ht | ht
    ·have := hb t ht; omega
    ·rw [List.mem_singleton.1 ht]; exact Int.le_refl _
   ·constructor
    ·rintro ⟨t, ht, h1, h2⟩
     rcases List.mem_append.1 ht with ht | ht
     ·exact .inl ⟨t, ht, h1, h2⟩
     ·rw [List.mem_singleton.1 ht] at h1 h2
      exact .inr ⟨h1, h2⟩
    ·rintro (⟨t, ht, h1, h2⟩ | ⟨h1, h2⟩)
     ·exact ⟨t, List.mem_append.2 (.inl ht), h1, h2⟩
     ·exact ⟨⟨x, x'⟩, by simp, h1, h2⟩
theorem y2t {l : List Int} (h : l.Pairwise (· < ·)) {i j : Nat} (hij : i < j) (hj : j < l.length) : rd l i < rd l j := by
 rw [Xj (by omega), Xj hj]
 exact List.pairwise_iff_getElem.1 h i j (by omega) hj hij
theorem y5y (cuts : List Int) (ins : List Bool) (hc : cuts.Pairwise (· < ·)) : ∀ (k i : Nat) (out : List R2), i + k < cuts.length ∨ k = 0 → Can out → (∀ s ∈ out, s.b ≤ rd cuts i) →
  Can (x9n cuts ins k i out) ∧ ∀ y, pt (x9n cuts ins k i out) y ↔ pt out y ∨ ∃ j, i ≤ j ∧ j < i + k ∧ rd ins j = true ∧ rd cuts j ≤ y ∧ y < rd cuts (j + 1)
 | 0, i, out, h, ho, hb => ⟨ho, fun y => ⟨.inl, fun hy => hy.elim id fun ⟨j, h1, h2, _⟩ => by omega⟩⟩
 | k + 1, i, out, h, ho, hb => by
  have hlt : rd cuts i < rd cuts (i + 1) := y2t hc (Nat.lt_succ_self _) (by omega)
  obtain ⟨p1, p2, p3⟩ := x4s ho hb hlt
  have e : x9n cuts ins (k + 1) i out = x9n cuts ins k (i + 1) (bif rd ins i then push out (rd cuts i) (rd cuts (i + 1)) else out) := rfl
  rw [e]
  rcases Yc (rd ins i) with q | q
  ·rw [q, cond_true]
   obtain ⟨r1, r2⟩ := y5y cuts ins hc k (i + 1) (push out (rd cuts i) (rd cuts (i + 1))) (by omega) p1 p2
   refine ⟨r1, fun y => ?_⟩
   rw [r2, p3]
   constructor
   ·rintro ((h | h) | ⟨j, h1, h2, h3⟩)
    ·exact .inl h
    ·exact .inr ⟨i, Nat.le_refl _, by omega, q, h⟩
    ·exact .inr ⟨j, by omega, by omega, h3⟩
   ·rintro (h | ⟨j, h1, h2, h3⟩)
    ·exact .inl (.inl h)
    ·rcases Nat.eq_or_lt_of_le h1 with rfl | h1
     ·exact .inl (.inr h3.2)
     ·exact .inr ⟨j, h1, by omega, h3⟩
  ·rw [q, cond_false]
   obtain ⟨r1, r2⟩ := y5y cuts ins hc k (i + 1) out (by omega) ho (fun s hs => by have := hb s hs; omega)
   refine ⟨r1, fun y => ?_⟩
   rw [r2]
   constructor
   ·rintro (h | ⟨j, h1, h2, h3⟩)
    ·exact .inl h
    ·exact .inr ⟨j, by omega, by omega, h3⟩
   ·rintro (h | ⟨j, h1, h2, h3⟩)
    ·exact .inl h
    ·rcases Nat.eq_or_lt_of_le h1 with rfl | h1
     ·rw [q] at h3; cases h3.1
     ·exact .inr ⟨j, h1, by omega, h3⟩
theorem x3d {cuts : List Int} : ∀ (k : Nat), k < cuts.length → ∀ y, rd cuts 0 ≤ y → y < rd cuts k → ∃ j, j < k ∧ rd cuts j ≤ y ∧ y < rd cuts (j + 1)
 | 0, _, y, h1, h2 => by omega
 | k + 1, hk, y, h1, h2 => by
  by_cases h : rd cuts k ≤ y
  ·exact ⟨k, Nat.lt_succ_self _, h, h2⟩
  ·obtain ⟨j, h3, h4⟩ := x3d k (by omega) y h1 (by omega)
   exact ⟨j, by omega, h4⟩
theorem w9q (cuts : List Int) (hc : cuts.Pairwise (· < ·)) (P : Int → Bool) (S : List R2) (hS : ∀ s ∈ S, s.a ∈ cuts ∧ s.b ∈ cuts) (hP : ∀ y, P y = true ↔ pt S y) :
  Can (z8a cuts (cuts.map P)) ∧ ∀ y, pt (z8a cuts (cuts.map P)) y ↔ pt S y := by
 obtain ⟨r1, r2⟩ := y5y cuts (cuts.map P) hc (cuts.length - 1) 0 [] (by omega) .nil (by simp)
 refine ⟨r1, fun y => ?_⟩
 unfold z8a
 rw [r2]
 have hin : ∀ x, x ∈ cuts → ∃ i, i < cuts.length ∧ rd cuts i = x := fun x hx => by
  obtain ⟨i, hi, h⟩ := List.getElem_of_mem hx
  exact ⟨i, hi, by rw [Xj hi]; exact h⟩
 have hmap : ∀ j, j < cuts.length → rd (cuts.map P) j = P (rd cuts j) := fun j hj => by
  rw [Xj (by simpa using hj), Xj hj, List.getElem_map]
 have le_of : ∀ i j, i < cuts.length → j < cuts.length → i ≤ j → rd cuts i ≤ rd cuts j := fun i j hi hj hij => by
  rcases Nat.eq_or_lt_of_le hij with rfl | h
  ·exact Int.le_refl _
  ·exact Int.le_of_lt (y2t hc h hj)
 constructor
 ·rintro (⟨s, hs, _⟩ | ⟨j, h1, h2, h3, h4, h5⟩)
  ·cases hs
  ·have hj : j + 1 < cuts.length := by omega
   rw [hmap j (by omega)] at h3
   obtain ⟨s, hs, a1, a2⟩ := (hP _).1 h3
   obtain ⟨ca, cb⟩ := hS s hs
   obtain ⟨m, hm, em⟩ := hin s.b cb
   refine ⟨s, hs, by omega, ?_⟩
   have : j < m := by
    rcases Nat.lt_or_ge j m with h | h
    ·exact h
    ·have := le_of m j hm (by omega) h; omega
   have := le_of (j + 1) m hj hm this
   omega
 ·rintro ⟨s, hs, a1, a2⟩
  right
  obtain ⟨ca, cb⟩ := hS s hs
  obtain ⟨n, hn, en⟩ := hin s.a ca
  obtain ⟨m, hm, em⟩ := hin s.b cb
  have h0 := le_of 0 n (by omega) hn (Nat.zero_le _)
  obtain ⟨j, h1, h2, h3⟩ := x3d m hm y (by omega) (by omega)
  refine ⟨j, Nat.zero_le _, by omega, ?_, h2, h3⟩
  rw [hmap j (by omega), hP]
  refine ⟨s, hs, ?_, ?_⟩
  ·have : n ≤ j := by
    rcases Nat.lt_or_ge j n with h | h
    ·have := le_of (j + 1) n (by omega) hn h; omega
    ·exact h
   have := le_of n j hn (by omega) this
   omega
  ·omega
end Go.Am
namespace Go.Am
open Go.Proofs Go.Sort Go.Shelf Go.RowKit Go.Lib
def net (E : List R3) (y : Int) : Int := (E.map fun e => if e.a ≤ y then e.c else 0).sum
theorem Kg (e : R3) (E : List R3) (y : Int) : net (e :: E) y = (if e.a ≤ y then e.c else 0) + net E y := by simp [net]
theorem w8b {E F : List R3} (h : E.Perm F) (y : Int) : net E y = net F y := by
 induction h with
 | nil => rfl
 | cons e _ ih => rw [Kg, Kg, ih]
 | swap a b l => simp only [Kg]; omega
 | trans _ _ i1 i2 => rw [i1, i2]
theorem x4w (E : List R3) (y : Int) (h : ∀ e ∈ E, y < e.a) : net E y = 0 := by
 induction E with
 | nil => rfl
 | cons e E ih =>
  rw [Kg, if_neg (by have := h e (by simp); omega), ih fun f hf => h f (by simp [hf])]; rfl
theorem w4i (out : List R2) (last : Int) (inn : Bool) (x : Int) : Vv out last inn x = bif inn && !(last == x) then push out last x else out := by
 unfold Vv push
 cases inn
 ·rfl
 ·cases (last == x) <;> rfl
theorem y4b {out : List R2} {last x : Int} (inn : Bool) (hc : Can out) (hb : ∀ s ∈ out, s.b ≤ last) (hx : last ≤ x) :
  Can (Vv out last inn x) ∧ (∀ s ∈ Vv out last inn x, s.b ≤ x) ∧ ∀ y, pt (Vv out last inn x) y ↔ pt out y ∨ (inn = true ∧ last ≤ y ∧ y < x) := by
 rw [w4i]
 rcases Yc (inn && !(last == x)) with q | q
 ·rw [q, cond_true]
  simp only [Bool.and_eq_true, Bool.not_eq_true', beq_eq_false_iff_ne, ne_eq] at q
  obtain ⟨p1, p2, p3⟩ := x4s hc hb (show last < x by omega)
  refine ⟨p1, p2, fun y => ?_⟩
  rw [p3]; simp [q.1]
 ·rw [q, cond_false]
  refine ⟨hc, fun s hs => by have := hb s hs; omega, fun y => ⟨.inl, fun h => h.elim id fun ⟨h1, h2, h3⟩ => ?_⟩⟩
  rw [h1, Bool.true_and] at q
  have : last = x := by simpa using q
  omega
def Asc (E : List R3) : Prop := E.Pairwise fun e f => e.a ≤ f.a
theorem x9x : ∀ (E : List R3) (o last : Int) (out : List R2), Asc E → (∀ e ∈ E, last ≤ e.a) → Can out → (∀ s ∈ out, s.b ≤ last) →
  Can (swF E o last (decide (o > 0)) out) ∧ ∀ y, pt (swF E o last (decide (o > 0)) out) y ↔ pt out y ∨ (last ≤ y ∧ 0 < o + net E y ∧ ∃ e ∈ E, y < e.a)
 | [], o, last, out, _, _, hc, _ => ⟨hc, fun y => ⟨.inl, fun h => h.elim id fun ⟨_, _, e, he, _⟩ => by cases he⟩⟩
 | e :: r, o, last, out, hE, hl, hc, hb => by
  have he := hl e (by simp)
  have hr := List.pairwise_cons.1 hE
  obtain ⟨p1, p2, p3⟩ := y4b (decide (o > 0)) hc hb he
  obtain ⟨q1, q2⟩ := x9x r (o + e.c) e.a (Vv out last (decide (o > 0)) e.a) hr.2 hr.1 p1 p2
  rw [z8l]
  refine ⟨q1, fun y => ?_⟩
  rw [q2, p3, Kg]
  constructor
  ·rintro ((h | ⟨h1, h2, h3⟩) | ⟨h1, h2, f, hf, h3⟩)
   ·exact .inl h
   ·right
    have h1 := of_decide_eq_true h1
    refine ⟨h2, ?_, e, by simp, h3⟩
    rw [if_neg (by omega), x4w r y fun f hf => by have := hr.1 f hf; omega]
    omega
   ·right
    refine ⟨by omega, ?_, f, by simp [hf], h3⟩
    rw [if_pos h1]; omega
  ·rintro (h | ⟨h1, h2, f, hf, h3⟩)
   ·exact .inl (.inl h)
   ·by_cases hy : e.a ≤ y
    ·right
     rw [if_pos hy] at h2
     refine ⟨hy, by omega, f, ?_, h3⟩
     rcases List.mem_cons.1 hf with rfl | hf
     ·omega
     ·exact hf
    ·left; right
     rw [if_neg hy, x4w r y fun f hf => by have := hr.1 f hf; omega] at h2
     exact ⟨decide_eq_true (by omega), h1, by omega⟩
theorem w8c (l : List R2) (hv : ∀ s ∈ l, s.a < s.b) (y : Int) : 0 ≤ net (Ju l) y ∧ (0 < net (Ju l) y ↔ pt l y) := by
 induction l with
 | nil => exact ⟨Int.le_refl _, by simp [net, Ju, pt]⟩
 | cons s l ih =>
  obtain ⟨i1, i2⟩ := ih fun t ht => hv t (by simp [ht])
  have hs := hv s (by simp)
  have e : net (Ju (s :: l)) y = (if s.a ≤ y ∧ y < s.b then 1 else 0) + net (Ju l) y := by
   show net (⟨s.a, 0, 1⟩ :: ⟨s.b, 0, -1⟩ :: Ju l) y = _
   rw [Kg, Kg]
   show (if s.a ≤ y then (1 : Int) else 0) + ((if s.b ≤ y then (-1 : Int) else 0) + net (Ju l) y) = _
   by_cases h1 : s.a ≤ y
   ·by_cases h2 : s.b ≤ y
    ·rw [if_pos h1, if_pos h2, if_neg (show ¬ (s.a ≤ y ∧ y < s.b) by omega)]; omega
    ·rw [if_pos h1, if_neg h2, if_pos (show s.a ≤ y ∧ y < s.b by omega)]; omega
   ·rw [if_neg h1, if_neg (show ¬ s.b ≤ y by omega), if_neg (show ¬ (s.a ≤ y ∧ y < s.b) by omega)]; omega
  rw [e]
  by_cases h : s.a ≤ y ∧ y < s.b
  ·rw [if_pos h]
   exact ⟨by omega, ⟨fun _ => ⟨s, by simp, h⟩, fun _ => by omega⟩⟩
  ·rw [if_neg h]
   refine ⟨by omega, ?_⟩
   rw [Int.zero_add, i2]
   constructor
   ·rintro ⟨t, ht, h2⟩; exact ⟨t, by simp [ht], h2⟩
   ·rintro ⟨t, ht, h2⟩
    rcases List.mem_cons.1 ht with rfl | ht
    ·exact absurd h2 h
    ·exact ⟨t, ht, h2⟩
theorem y1q {l : List R2} {s : R2} (h : s ∈ l) : (⟨s.b, 0, -1⟩ : R3) ∈ Ju l ∧ (⟨s.a, 0, 1⟩ : R3) ∈ Ju l :=
 ⟨List.mem_flatMap.2 ⟨s, h, by simp⟩, List.mem_flatMap.2 ⟨s, h, by simp⟩⟩
theorem x4c (l : List R3) (h : z8b l = true) : Asc (Qc l) := by
 refine List.pairwise_iff_getElem.2 fun i j hi hj hij => ?_
 have := (Jn l h).2 i j hij hj
 rwa [Xj hi, Xj hj] at this
theorem y9s (l : List R2) (hv : l.all z0e = true) : Can (swV l) ∧ ∀ y, pt (swV l) y ↔ pt l y := by
 have hb : z8b (Ju l) = true := List.all_eq_true.2 fun e he => by
  obtain ⟨s, hs, h1⟩ := List.mem_flatMap.1 he
  have hv := List.all_eq_true.1 hv s hs
  simp only [z0e, Bool.and_eq_true, decide_eq_true_eq] at hv
  simp only [List.mem_cons, List.not_mem_nil, or_false] at h1
  rcases h1 with rfl | rfl <;> exact decide_eq_true (by simp only; omega)
 have hpos : ∀ s ∈ l, s.a < s.b := fun s hs => by
  have := List.all_eq_true.1 hv s hs
  simp only [z0e, Bool.and_eq_true, decide_eq_true_eq] at this
  exact this.1
 obtain ⟨hp, _⟩ := Jn (Ju l) hb
 have ha := x4c (Ju l) hb
 have hn : ∀ y, net (Qc (Ju l)) y = net (Ju l) y := fun y => w8b hp y
 unfold swV
 generalize Qc (Ju l) = E at hp ha hn
 cases E with
 | nil =>
  refine ⟨.nil, fun y => ⟨fun ⟨s, hs, _⟩ => (by cases hs), fun ⟨s, hs, _⟩ => ?_⟩⟩
  have := hp.mem_iff.2 (y1q hs).1
  cases this
 | cons e r =>
  have hr := List.pairwise_cons.1 ha
  rw [z8l, Int.zero_add]
  have e0 : Vv [] 0 false e.a = [] := rfl
  rw [e0]
  obtain ⟨q1, q2⟩ := x9x r e.c e.a [] hr.2 hr.1 .nil (by simp)
  refine ⟨q1, fun y => ?_⟩
  rw [q2]
  obtain ⟨n1, n2⟩ := w8c l hpos y
  rw [← n2, ← hn, Kg]
  constructor
  ·rintro (⟨s, hs, _⟩ | ⟨h1, h2, _⟩)
   ·cases hs
   ·rw [if_pos h1]; omega
  ·intro h
   have hpt := n2.1 (by rw [← hn, Kg]; exact h)
   obtain ⟨s, hs, s1, s2⟩ := hpt
   have m1 := hp.mem_iff.2 (y1q hs).1
   have m2 := hp.mem_iff.2 (y1q hs).2
   have hea : e.a ≤ y := by
    rcases List.mem_cons.1 m2 with h' | h'
    ·rw [← h']; exact s1
    ·have h'' : e.a ≤ s.a := hr.1 _ h'
     omega
   right
   rw [if_pos hea] at h
   refine ⟨hea, h, ⟨s.b, 0, -1⟩, ?_, s2⟩
   rcases List.mem_cons.1 m1 with h' | h'
   ·have h'' : e.a = s.b := by rw [← h']
    omega
   ·exact h'
theorem y7l (out : List Int) (hs : out.Pairwise (· < ·)) (x : Int) : ∀ k, k ≤ out.length → x1f out x k ≤ k ∧ (∀ i, x1f out x k ≤ i → i < k → x < rd out i) ∧ (0 < x1f out x k → rd out (x1f out x k - 1) ≤ x)
 | 0, _ => ⟨Nat.le_refl _, fun i h1 h2 => by omega, fun h => by simp [x1f] at h⟩
 | k + 1, hk => by
  unfold x1f
  rcases Yc (decide (rd out k > x)) with q | q
  ·rw [q, cond_true]
   obtain ⟨h1, h2, h3⟩ := y7l out hs x k (by omega)
   refine ⟨by omega, fun i a b => ?_, h3⟩
   rcases Nat.eq_or_lt_of_le (Nat.le_of_lt_succ b) with rfl | b
   ·exact of_decide_eq_true q
   ·exact h2 i a b
  ·rw [q, cond_false]
   exact ⟨Nat.le_refl _, fun i a b => by omega, fun _ => by have := of_decide_eq_false q; simp only [Nat.add_sub_cancel]; omega⟩
theorem w3b (out : List Int) (hs : out.Pairwise (· < ·)) (x : Int) : (y1h out x).Pairwise (· < ·) ∧ ∀ y, y ∈ y1h out x ↔ y ∈ out ∨ y = x := by
 obtain ⟨h1, h2, h3⟩ := y7l out hs x out.length (Nat.le_refl _)
 unfold y1h
 split
 ·rename_i h0
  rw [h0] at h2
  refine ⟨List.pairwise_cons.2 ⟨fun y hy => ?_, hs⟩, fun y => by simp [or_comm]⟩
  obtain ⟨i, hi, rfl⟩ := List.getElem_of_mem hy
  have := h2 i (Nat.zero_le _) hi
  rwa [Xj hi] at this
 ·rename_i k hk
  rw [hk] at h1 h2 h3
  have h3 : rd out k ≤ x := h3 (Nat.succ_pos _)
  have hkl : k < out.length := by omega
  rcases Yc (rd out k == x) with q | q
  ·rw [q, cond_true]
   have q : rd out k = x := by simpa using q
   refine ⟨hs, fun y => ⟨.inl, fun h => h.elim id fun e => ?_⟩⟩
   rw [e, ← q, Xj hkl]; exact List.getElem_mem hkl
  ·rw [q, cond_false]
   have q : rd out k ≠ x := by simpa using q
   refine ⟨?_, fun y => ?_⟩
   ·have st : (out.take (k + 1)).Pairwise (· < ·) := hs.sublist (List.take_sublist _ _)
    have sd : (out.drop (k + 1)).Pairwise (· < ·) := hs.sublist (List.drop_sublist _ _)
    have ht : ∀ y ∈ out.take (k + 1), y < x := fun y hy => by
     obtain ⟨i, hi, rfl⟩ := List.getElem_of_mem hy
     have hi' : i < k + 1 := by simp at hi; omega
     rw [List.getElem_take]
     have : rd out i ≤ rd out k := by
      rcases Nat.eq_or_lt_of_le (Nat.le_of_lt_succ hi') with rfl | h
      ·exact Int.le_refl _
      ·exact Int.le_of_lt (y2t hs h hkl)
     rw [Xj (show i < out.length by omega)] at this
     omega
    have hd : ∀ y ∈ out.drop (k + 1), x < y := fun y hy => by
     obtain ⟨i, hi, rfl⟩ := List.getElem_of_mem hy
     have hi' : k + 1 + i < out.length := by simp at hi; omega
     rw [List.getElem_drop, ← Xj hi']
     exact h2 _ (by omega) hi'
    refine List.pairwise_append.2 ⟨st, List.pairwise_cons.2 ⟨hd, sd⟩, fun a ha b hb => ?_⟩
    rcases List.mem_cons.1 hb with rfl | hb
    ·exact ht a ha
    ·exact Int.lt_trans (ht a ha) (hd b hb)
   ·rw [List.mem_append, List.mem_cons]
    constructor
    ·rintro (h | h | h)
     ·exact .inl (List.mem_of_mem_take h)
     ·exact .inr h
     ·exact .inl (List.mem_of_mem_drop h)
    ·rintro (h | h)
     ·rw [← List.take_append_drop (k + 1) out, List.mem_append] at h
      exact h.elim .inl fun h => .inr (.inr h)
     ·exact .inr (.inl h)
theorem Vy (l : List Int) : (z1o l).Pairwise (· < ·) ∧ ∀ y, y ∈ z1o l ↔ y ∈ l := by
 have : ∀ (l out : List Int), out.Pairwise (· < ·) → (l.foldl y1h out).Pairwise (· < ·) ∧ ∀ y, y ∈ l.foldl y1h out ↔ y ∈ out ∨ y ∈ l := by
  intro l
  induction l with
  | nil => intro out h; exact ⟨h, fun y => by simp⟩
  | cons x l ih =>
   intro out h
   obtain ⟨a, b⟩ := w3b out h x
   obtain ⟨c, d⟩ := ih (y1h out x) a
   refine ⟨c, fun y => ?_⟩
   show y ∈ l.foldl y1h (y1h out x) ↔ _
   rw [d, b, List.mem_cons, or_assoc]
 obtain ⟨a, b⟩ := this l [] .nil
 exact ⟨a, fun y => by rw [z1o, b]; simp⟩
theorem z7q : ∀ (l m : List Int), l.Pairwise (· < ·) → m.Pairwise (· < ·) → (∀ x, x ∈ l ↔ x ∈ m) → l = m
 | [], [], _, _, _ => rfl
 | [], b :: m, _, _, h => by have := (h b).2 (by simp); cases this
 | a :: l, [], _, _, h => by have := (h a).1 (by simp); cases this
 | a :: l, b :: m, hl, hm, h => by
  obtain ⟨a1, a2⟩ := List.pairwise_cons.1 hl
  obtain ⟨b1, b2⟩ := List.pairwise_cons.1 hm
  have e : a = b := by
   have x1 := (h a).1 (by simp)
   have x2 := (h b).2 (by simp)
   rcases List.mem_cons.1 x1 with x1 | x1
   ·exact x1
   rcases List.mem_cons.1 x2 with x2 | x2
   ·exact x2.symm
   have := b1 a x1
   have := a1 b x2
   omega
  subst e
  congr 1
  refine z7q l m a2 b2 fun x => ⟨fun hx => ?_, fun hx => ?_⟩
  ·rcases List.mem_cons.1 ((h x).1 (by simp [hx])) with e | e
   ·have := a1 x hx; omega
   ·exact e
  ·rcases List.mem_cons.1 ((h x).2 (by simp [hx])) with e | e
   ·have := b1 x hx; omega
   ·exact e
theorem z7s (zs : List Int) (hs : zs.Pairwise (· ≤ ·)) : ∀ m, m ≤ zs.length → (compactUpTo zs.toArray m).Pairwise (· < ·) ∧ ∀ x, x ∈ compactUpTo zs.toArray m ↔ x ∈ zs.take m
 | 0, _ => by simp [compactUpTo]
 | m + 1, h => by
  obtain ⟨h1, h2⟩ := z7s zs hs m (by omega)
  have hg : ∀ j (hj : j < zs.length), zs.toArray[j]! = zs[j] := fun j hj => by simp [hj]
  have hle : ∀ i j (hi : i < zs.length) (hj : j < zs.length), i < j → zs[i] ≤ zs[j] := fun i j hi hj hij => List.pairwise_iff_getElem.1 hs i j hi hj hij
  have hm : m < zs.length := by omega
  rw [compactUpTo_succ, hg m hm, List.take_succ_eq_append_getElem hm]
  by_cases hk : keeps zs.toArray m = true
  ·rw [if_pos hk]
   refine ⟨List.pairwise_append.2 ⟨h1, List.pairwise_singleton _ _, fun x hx y hy => ?_⟩, fun x => by rw [List.mem_append, List.mem_append, h2 x]⟩
   rw [List.mem_singleton.1 hy]
   obtain ⟨i, hi, rfl⟩ := List.getElem_of_mem ((h2 x).1 hx)
   have hi' : i < m := by simp at hi; omega
   rw [List.getElem_take]
   simp only [keeps, decide_eq_true_eq] at hk
   rcases hk with hk | hk
   ·omega
   ·rw [hg m hm, hg (m - 1) (by omega)] at hk
    have k1 : zs[i] ≤ zs[m - 1] := by
     rcases Nat.lt_or_ge i (m - 1) with q | q
     ·exact hle i (m - 1) _ _ q
     ·have e : i = m - 1 := by omega
      subst e; exact Int.le_refl _
    have k2 := hle (m - 1) m (by omega) hm (by omega)
    omega
  ·rw [if_neg hk, List.append_nil]
   refine ⟨h1, fun x => ?_⟩
   rw [h2 x, List.mem_append, List.mem_singleton]
   refine ⟨.inl, fun hx => hx.elim id fun e => ?_⟩
   simp only [keeps, decide_eq_true_eq, not_or, Decidable.not_not] at hk
   rw [hg m hm, hg (m - 1) (by omega)] at hk
   rw [e, hk.2]
   have : m - 1 < (zs.take m).length := by simp; omega
   have e2 : (zs.take m)[m - 1] = zs[m - 1] := List.getElem_take
   rw [← e2]
   exact List.getElem_mem this
theorem srt_le (zs : List Int) : (Xd zs).Pairwise (· ≤ ·) := by
 have := List.pairwise_mergeSort (le := fun x y : Int => decide (x ≤ y)) (fun a b c h1 h2 => by simp at *; omega) (fun a b => by simp; omega) zs
 exact this.imp fun h => by simpa using h
theorem v3u (zs : List Int) (x : Int) : x ∈ Xd zs ↔ x ∈ zs := List.mem_mergeSort
theorem Qy (zs : List Int) : Jk zs = z1o zs := by
 obtain ⟨h1, h2⟩ := z7s (Xd zs) (srt_le zs) (Xd zs).length (Nat.le_refl _)
 obtain ⟨s1, s2⟩ := Vy zs
 refine z7q _ _ h1 s1 fun x => ?_
 rw [show Jk zs = compactUpTo (Xd zs).toArray (Xd zs).length from rfl, h2 x, List.take_length, v3u, s2]
end Go.Am
namespace Go.Am
open Go.Proofs Go.Sort Go.Shelf Go.RowKit Go.Lib
namespace Dim
variable {α β : Type} (D : Dim α β)
def ref (sec : Int → List β) (cs : List Int) : Nat → Nat → List α → List β → Nat → List α
 | 0, _, out, _, _ => out
 | k + 1, i, out, last, first =>
  bif decide (0 < i) && D.same (sec (rd cs i)) last then ref sec cs k (i + 1) (D.grow out first (rd cs (i + 1))) last first
  else ref sec cs k (i + 1) (out ++ (sec (rd cs i)).map (D.put (rd cs i) (rd cs (i + 1)))) (sec (rd cs i)) out.length
theorem ref_eq (hs : ∀ a b, D.same a b = true ↔ a = b) (l : List α) : ∀ (k i : Nat) (s : Sw α β) (out : List α) (last : List β) (first : Nat),
  s.out = out → s.last = last → (last ≠ [] → s.first = first) → (last = [] → out.length ≤ first) → (0 < i → s.fin = rd (D.cuts l) i) → (i = 0 → last = []) →
  (D.go l k i s).out = D.ref (D.sec l) (D.cuts l) k i out last first
 | 0, i, s, out, last, first, h1, h2, h3, h4, h5, h6 => h1
 | k + 1, i, s, out, last, first, h1, h2, h3, h4, h5, h6 => by
  subst h1 h2
  have e1 : D.go l (k + 1) i s = D.go l k (i + 1) (D.one l (rd (D.cuts l) i) (rd (D.cuts l) (i + 1)) s) := rfl
  rw [e1]
  unfold ref
  rcases Yc (decide (0 < (D.sec l (rd (D.cuts l) i)).length) && ((s.fin == rd (D.cuts l) i) && D.same s.last (D.sec l (rd (D.cuts l) i)))) with q | q
  ·have e : D.one l (rd (D.cuts l) i) (rd (D.cuts l) (i + 1)) s = ⟨D.grow s.out s.first (rd (D.cuts l) (i + 1)), s.last, s.first, rd (D.cuts l) (i + 1)⟩ := by unfold one; rw [q]; rfl
   simp only [Bool.and_eq_true, decide_eq_true_eq] at q
   obtain ⟨q1, q2, q3⟩ := q
   have q3 := (hs _ _).1 q3
   have hne : s.last ≠ [] := fun h => by rw [h] at q3; rw [← q3] at q1; exact Nat.lt_irrefl _ q1
   have hi : 0 < i := Nat.pos_of_ne_zero fun h => hne (h6 h)
   have e2 : (decide (0 < i) && D.same (D.sec l (rd (D.cuts l) i)) s.last) = true := by
    rw [decide_eq_true hi, Bool.true_and, hs, q3]
   rw [e2, cond_true, e]
   refine ref_eq hs l k (i + 1) _ _ _ _ ?_ rfl h3 (fun h => absurd h hne) (fun _ => rfl) (fun h => by omega)
   rw [h3 hne]
  ·have e : D.one l (rd (D.cuts l) i) (rd (D.cuts l) (i + 1)) s = ⟨s.out ++ (D.sec l (rd (D.cuts l) i)).map (D.put (rd (D.cuts l) i) (rd (D.cuts l) (i + 1))), D.sec l (rd (D.cuts l) i), s.out.length, rd (D.cuts l) (i + 1)⟩ := by unfold one; rw [q]; rfl
   rcases Yc (decide (0 < i) && D.same (D.sec l (rd (D.cuts l) i)) s.last) with q2 | q2
   ·rw [q2, cond_true, e]
    simp only [Bool.and_eq_true, decide_eq_true_eq] at q2
    obtain ⟨hi, q3⟩ := q2
    have q3 := (hs _ _).1 q3
    rw [(hs s.last (D.sec l (rd (D.cuts l) i))).2 q3.symm, Bool.and_true, h5 hi] at q
    have hz : D.sec l (rd (D.cuts l) i) = [] := by
     cases h : D.sec l (rd (D.cuts l) i) with
     | nil => rfl
     | cons a b => rw [h] at q; simp at q
    have hl : s.last = [] := by rw [← q3, hz]
    have hf := h4 hl
    rw [hz, List.map_nil, List.append_nil]
    refine ref_eq hs l k (i + 1) _ _ _ _ ?_ hl.symm (fun h => absurd hl h) (fun _ => ?_) (fun _ => rfl) (fun h => by omega)
    ·exact (D.grow_nil _ _ _ hf).symm
    ·rw [D.grow_length]; exact hf
   ·rw [q2, cond_false, e]
    exact ref_eq hs l k (i + 1) _ _ _ _ rfl rfl (fun _ => rfl) (fun h => by rw [h]; simp) (fun _ => rfl) (fun h => by omega)
theorem out_eq (hs : ∀ a b, D.same a b = true ↔ a = b) (l : List α) : D.out l = D.ref (D.sec l) (D.cuts l) ((D.cuts l).length - 1) 0 [] [] 0 :=
 D.ref_eq hs l _ 0 _ [] [] 0 rfl rfl (fun _ => rfl) (fun _ => Nat.le_refl _) (fun h => absurd h (Nat.lt_irrefl _)) (fun _ => rfl)
end Dim
theorem v9c (l : List R4) : D4.cuts l = xsV l [] := by
 unfold Dim.cuts xsV
 rw [Qy, show z1t ([] : List R4) = [] from rfl, List.append_nil]; rfl
theorem v8j (l : List R4) (x y : Int) : w9p 2 l [] x y = has4V l x y := by
 unfold w9p Qn
 show (has4V l x y || has4V [] x y) = _
 rw [show has4V [] x y = false from rfl, Bool.or_false]
theorem y5n {l : List R4} {x : Int} {s : R2} (h : s ∈ D4.inn l x) : ∃ r ∈ l, r.a ≤ x ∧ x < r.c ∧ s = ⟨r.b, r.d⟩ := by
 obtain ⟨r, hr, e⟩ := List.mem_map.1 h
 obtain ⟨h1, h2⟩ := List.mem_filter.1 hr
 simp only [Bool.and_eq_true, decide_eq_true_eq] at h2
 exact ⟨r, h1, h2.1, h2.2, e.symm⟩
theorem v6b {l : List R4} {x : Int} {r : R4} (h : r ∈ l) (h1 : r.a ≤ x) (h2 : x < r.c) : (⟨r.b, r.d⟩ : R2) ∈ D4.inn l x := by
 refine List.mem_map.2 ⟨r, List.mem_filter.2 ⟨h, ?_⟩, rfl⟩
 simp only [Bool.and_eq_true, decide_eq_true_eq]
 exact ⟨h1, h2⟩
theorem sec_eq (l : List R4) (hv : l.all Kw = true) (hl : l.length ≤ 400) (x : Int) : D4.sec l x = x4f 2 l [] x := by
 have hin := D4.inn_length l x
 have hvi : (D4.inn l x).all z0e = true := List.all_eq_true.2 fun s hs => by
  obtain ⟨r, hr, _, _, rfl⟩ := y5n hs
  have := List.all_eq_true.1 hv r hr
  simp only [Kw, z0e, Bool.and_eq_true, decide_eq_true_eq] at this ⊢
  omega
 have e1 : D4.sec l x = swV (D4.inn l x) := by
  show Xg (D4.inn l x) = _
  unfold Xg
  rw [decide_eq_false (by omega), hvi]; rfl
 obtain ⟨c1, c2⟩ := y9s _ hvi
 obtain ⟨y1, y2⟩ := Vy (z0r l ++ z0r [])
 have e2 : x4f 2 l [] x = z8a (ysV l []) ((ysV l []).map fun y => has4V l x y) := by
  unfold x4f
  congr 1
  exact List.map_congr_left fun y _ => v8j l x y
 obtain ⟨d1, d2⟩ := w9q (ysV l []) y1 (fun y => has4V l x y) (D4.inn l x) (fun s hs => by
  obtain ⟨r, hr, _, _, rfl⟩ := y5n hs
  unfold ysV
  exact ⟨(y2 _).2 (List.mem_append.2 (.inl (List.mem_flatMap.2 ⟨r, hr, by simp⟩))), (y2 _).2 (List.mem_append.2 (.inl (List.mem_flatMap.2 ⟨r, hr, by simp⟩)))⟩) (fun y => by
  unfold has4V
  rw [List.any_eq_true]
  constructor
  ·rintro ⟨r, hr, h⟩
   simp only [in4, Bool.and_eq_true, decide_eq_true_eq] at h
   exact ⟨_, v6b hr h.1 h.2.1, h.2.2.1, h.2.2.2⟩
  ·rintro ⟨s, hs, h1, h2⟩
   obtain ⟨r, hr, r1, r2, rfl⟩ := y5n hs
   refine ⟨r, hr, ?_⟩
   simp only [in4, Bool.and_eq_true, decide_eq_true_eq]
   exact ⟨r1, r2, h1, h2⟩)
 rw [e1, e2]
 exact w4n _ _ c1 d1 fun y => by rw [c2, d2]
theorem w2y (l : List R4) : ∀ (k i : Nat) (out : List R4) (last : List R2) (first : Nat), jF 2 l [] k i out last first = D4.ref (x4f 2 l []) (xsV l []) k i out last first
 | 0, _, _, _, _ => rfl
 | k + 1, i, out, last, first => by
  unfold jF Dim.ref
  rw [w2y l k, w2y l k]
  rfl
theorem joV_eq (l : List R4) (hv : l.all Kw = true) (hl : l.length ≤ 400) : D4.out l = joV 2 l [] := by
 rw [D4.out_eq (fun a b => decide_eq_true_iff) l, joV, w2y, ← v9c]
 congr 1
 funext x
 exact sec_eq l hv hl x
theorem w5h (l : List R6) : D6.cuts l = Yt l [] := by
 unfold Dim.cuts Yt
 rw [Qy, show z1s ([] : List R6) = [] from rfl, List.append_nil]; rfl
theorem v3l (l : List R6) (z : Int) : D6.inn l z = atV l z := rfl
theorem x3y (r : R6) : z0f r = x3z r := by
 unfold z0f x3z
 simp only [z2i, z2j]
 rw [Bool.eq_iff_iff]
 simp only [Bool.and_eq_true, decide_eq_true_eq]
 have m1 : ∀ x y z : Int, x ≤ min y z ↔ x ≤ y ∧ x ≤ z := fun x y z => by omega
 have m2 : ∀ x y z : Int, max y z ≤ x ↔ y ≤ x ∧ z ≤ x := fun x y z => by omega
 simp only [ge_iff_le, m1, m2]
 constructor <;> intro h <;> (repeat' apply And.intro) <;> omega
theorem w4r (l : List R6) (hv : l.all z0f = true) (z : Int) : (atV l z).all Kw = true := List.all_eq_true.2 fun s hs => by
 obtain ⟨r, hr, rfl⟩ := List.mem_map.1 hs
 have := List.all_eq_true.1 hv r (List.mem_filter.1 hr).1
 rw [x3y] at this
 simp only [x3z, Bool.and_eq_true, decide_eq_true_eq] at this
 show Kw ⟨r.a, r.b, r.d, r.e⟩ = true
 simp only [Kw, Bool.and_eq_true, decide_eq_true_eq]
 (repeat' apply And.intro) <;> omega
section
variable (l : List R6) (hv : l.all z0f = true) (hl : l.length ≤ 400)
include hv hl
theorem v3h (z : Int) : D4.out (atV l z) = joV 2 (atV l z) [] := joV_eq _ (w4r l hv z) (Nat.le_trans (z0p l z) hl)
theorem v3g (z : Int) : badS l z = z7z 2 l [] z := by
 have h1 := v3h l hv hl z
 have h2 := z0p l z
 have e : joV 2 (atV [] z) [] = [] := rfl
 unfold badS z7z y6m
 rw [e, show atV ([] : List R6) z = [] from rfl, v3l]
 unfold Xh
 rw [decide_eq_false (by omega), w4r l hv z, h1, cond_false, cond_true]
 by_cases h : 400 < (joV 2 (atV l z) []).length
 ·rw [decide_eq_true (show ((joV 2 (atV l z) []).length : Int) > 400 by omega), decide_eq_true h]; rfl
 ·rw [decide_eq_false (show ¬ ((joV 2 (atV l z) []).length : Int) > 400 by omega), decide_eq_false h]; rfl
theorem v4f (z : Int) (h : badS l z = false) : D6.sec l z = y6m 2 l [] z := by
 have h1 := v3h l hv hl z
 have h2 := z0p l z
 rw [v3g l hv hl] at h
 show Zb (D6.inn l z) = joV 2 (atV l z) (atV [] z)
 rw [v3l]
 unfold Zb
 have h3 : ¬ 400 < (joV 2 (atV l z) []).length := fun hh => by
  unfold z7z y6m at h
  rw [show atV ([] : List R6) z = [] from rfl, decide_eq_true hh] at h
  cases h
 rw [decide_eq_false (by omega), w4r l hv z, h1, cond_false, cond_true, decide_eq_false (by omega)]
 rfl
theorem x2d : ∀ (k i : Nat) (out : List R6) (last : List R4) (first : Nat), jsF 2 l [] k i out last first = bif okF l k i then some (D6.ref (D6.sec l) (D6.cuts l) k i out last first) else none
 | 0, _, _, _, _ => rfl
 | k + 1, i, out, last, first => by
  unfold jsF okF Dim.ref
  rw [← w5h, ← v3g l hv hl]
  rcases Yc (badS l (rd (D6.cuts l) i)) with q | q
  ·rw [q]; rfl
  ·have := v4f l hv hl _ q
   rw [q, cond_false, cond_false, this, x2d k, x2d k]
   have e : D6.same (y6m 2 l [] (rd (D6.cuts l) i)) last = Vs (y6m 2 l [] (rd (D6.cuts l) i)) last := rfl
   rw [e]
   cases (decide (0 < i) && Vs (y6m 2 l [] (rd (D6.cuts l) i)) last) <;> rfl
theorem jsO_eq : jsO 2 l [] = bif okF l ((D6.cuts l).length - 1) 0 then some (D6.out l) else none := by
 unfold jsO
 rw [x2d l hv hl, ← w5h, D6.out_eq (fun a b => decide_eq_true_iff) l]
end
theorem y5x (l : List R6) : Zi l = z3m l := by
 unfold Zi z3m
 by_cases h : 400 < l.length
 ·rw [decide_eq_true h]; rfl
 ·rw [decide_eq_false h, cond_false, cond_false, show l.all x3z = l.all z0f from by congr 1; funext r; exact (x3y r).symm]
  rcases Yc (l.all z0f) with hv | hv
  ·rw [hv, cond_true, cond_true]
   unfold rckF y8a z4d
   rw [jsO_eq l hv (by omega)]
   rcases Yc (okF l ((D6.cuts l).length - 1) 0) with q | q
   ·rw [q, cond_true, cond_true]
    show _ = bif decide (((D6.out l).length : Int) ≤ 400) then (bif Jo (D6.out l) l then 0 else 8) else 8
    by_cases h2 : ((D6.out l).length : Int) > 400
    ·rw [decide_eq_true h2, decide_eq_false (by omega)]; rfl
    ·rw [decide_eq_false h2, decide_eq_true (by omega)]; rfl
   ·rw [q]; rfl
  ·rw [hv]; rfl
end Go.Am
namespace Go.Am
def Cg (x y : Int) : Prop := (18446744073709551616 : Int) ∣ x - y
theorem Cg.refl (x : Int) : Cg x x := by unfold Cg; rw [Int.sub_self]; exact Int.dvd_zero _
theorem Cg.symm {x y : Int} (h : Cg x y) : Cg y x := by unfold Cg at *; omega
theorem Cg.trans {x y z : Int} (h : Cg x y) (k : Cg y z) : Cg x z := by unfold Cg at *; omega
theorem Cg.add {x y u v : Int} (h : Cg x y) (k : Cg u v) : Cg (x + u) (y + v) := by unfold Cg at *; omega
theorem Cg.sub {x y u v : Int} (h : Cg x y) (k : Cg u v) : Cg (x - u) (y - v) := by unfold Cg at *; omega
theorem Cg.mul {x y u v : Int} (h : Cg x y) (k : Cg u v) : Cg (x * u) (y * v) := by
 unfold Cg at *
 have : x * u - y * v = (x - y) * u + y * (u - v) := by rw [Int.sub_mul, Int.mul_sub]; omega
 rw [this]
 exact Int.dvd_add (Int.dvd_mul_of_dvd_left h) (Int.dvd_mul_of_dvd_right k)
theorem Cg.wrap (x : Int) : Cg (IntKind.wrap .i64 x) x := by rw [w64]; unfold Cg; omega
theorem Cg.eq {x y : Int} (h : Cg x y) : IntKind.wrap .i64 x = IntKind.wrap .i64 y := by rw [w64, w64]; unfold Cg at h; omega
theorem Cg.w {x y : Int} (h : Cg x y) : Cg (IntKind.wrap .i64 x) y := (Cg.wrap x).trans h
theorem Cg.is {x y : Int} (h : Cg x y) (hx : -9223372036854775808 ≤ x ∧ x ≤ 9223372036854775807) (hy : -9223372036854775808 ≤ y ∧ y ≤ 9223372036854775807) : x = y := by unfold Cg at h; omega
theorem x9q (x : Int) : -9223372036854775808 ≤ IntKind.wrap .i64 x ∧ IntKind.wrap .i64 x ≤ 9223372036854775807 := by rw [w64]; omega
def bxV (r : R6) : Int := (r.d - r.a) * (r.e - r.b) * (r.f - r.c)
def ovl (a b c d : Int) : Int := max 0 (min b d - max a c)
def ov (r s : R6) : Int := ovl r.a r.d s.a s.d * ovl r.b r.e s.b s.e * ovl r.c r.f s.c s.f
theorem Uy (a b c d : Int) : ovl a b c d = ovl c d a b := by unfold ovl; omega
theorem z6i (a b c d : Int) : 0 ≤ ovl a b c d := by unfold ovl; omega
theorem y7n (r s : R6) : 0 ≤ ov r s := Int.mul_nonneg (Int.mul_nonneg (z6i ..) (z6i ..)) (z6i ..)
def z0b (r s : R6) : Option R6 :=
 bif decide (max r.a s.a < min r.d s.d) && (decide (max r.b s.b < min r.e s.e) && decide (max r.c s.c < min r.f s.f)) then
  some ⟨max r.a s.a, max r.b s.b, max r.c s.c, min r.d s.d, min r.e s.e, min r.f s.f⟩ else none
def optS (o : Option R6) (f : R6 → Int) : Int := match o with | some b => f b | none => 0
theorem v6c (r s : R6) : optS (z0b r s) bxV = ov r s := by
 unfold z0b
 by_cases h1 : max r.a s.a < min r.d s.d
 ·by_cases h2 : max r.b s.b < min r.e s.e
  ·by_cases h3 : max r.c s.c < min r.f s.f
   ·rw [decide_eq_true h1, decide_eq_true h2, decide_eq_true h3]
    show (min r.d s.d - max r.a s.a) * (min r.e s.e - max r.b s.b) * (min r.f s.f - max r.c s.c) = ov r s
    unfold ov ovl
    congr 1
    ·congr 1 <;> omega
    ·omega
   ·rw [decide_eq_false h3]
    have : ovl r.c r.f s.c s.f = 0 := by unfold ovl; omega
    simp only [Bool.and_false, cond_false, optS, ov, this, Int.mul_zero]
  ·rw [decide_eq_false h2]
   have : ovl r.b r.e s.b s.e = 0 := by unfold ovl; omega
   simp only [Bool.false_and, Bool.and_false, cond_false, optS, ov, this, Int.mul_zero, Int.zero_mul]
 ·rw [decide_eq_false h1]
  have : ovl r.a r.d s.a s.d = 0 := by unfold ovl; omega
  simp only [Bool.false_and, cond_false, optS, ov, this, Int.mul_zero, Int.zero_mul]
def nx (d : Int) (r : R6) : R6 :=
 let t := 1 - 2 * Int.tmod d 2
 bif Int.tdiv d 2 == 0 then ⟨r.a + t, r.b, r.c, r.d + t, r.e, r.f⟩ else bif Int.tdiv d 2 == 1 then ⟨r.a, r.b + t, r.c, r.d, r.e + t, r.f⟩ else ⟨r.a, r.b, r.c + t, r.d, r.e, r.f + t⟩
def rv (d : Int) : Int := d + 1 - 2 * Int.tmod d 2
theorem x1g (d : Int) (h : 0 ≤ d ∧ d ≤ 5) (r s : R6) : ov (nx d r) s = ov (nx (rv d) s) r := by
 have : d = 0 ∨ d = 1 ∨ d = 2 ∨ d = 3 ∨ d = 4 ∨ d = 5 := by omega
 have e : ∀ (t a b c d : Int), ovl (a + t) (b + t) c d = ovl (c + -t) (d + -t) a b := fun t a b c d => by unfold ovl; omega
 rcases this with rfl | rfl | rfl | rfl | rfl | rfl
 ·show ovl (r.a + 1) (r.d + 1) s.a s.d * ovl r.b r.e s.b s.e * ovl r.c r.f s.c s.f = ovl (s.a + -1) (s.d + -1) r.a r.d * ovl s.b s.e r.b r.e * ovl s.c s.f r.c r.f
  rw [e, Uy r.b, Uy r.c]
 ·show ovl (r.a + -1) (r.d + -1) s.a s.d * ovl r.b r.e s.b s.e * ovl r.c r.f s.c s.f = ovl (s.a + 1) (s.d + 1) r.a r.d * ovl s.b s.e r.b r.e * ovl s.c s.f r.c r.f
  rw [e, Uy r.b, Uy r.c]; rfl
 ·show ovl r.a r.d s.a s.d * ovl (r.b + 1) (r.e + 1) s.b s.e * ovl r.c r.f s.c s.f = ovl s.a s.d r.a r.d * ovl (s.b + -1) (s.e + -1) r.b r.e * ovl s.c s.f r.c r.f
  rw [e, Uy r.a, Uy r.c]
 ·show ovl r.a r.d s.a s.d * ovl (r.b + -1) (r.e + -1) s.b s.e * ovl r.c r.f s.c s.f = ovl s.a s.d r.a r.d * ovl (s.b + 1) (s.e + 1) r.b r.e * ovl s.c s.f r.c r.f
  rw [e, Uy r.a, Uy r.c]; rfl
 ·show ovl r.a r.d s.a s.d * ovl r.b r.e s.b s.e * ovl (r.c + 1) (r.f + 1) s.c s.f = ovl s.a s.d r.a r.d * ovl s.b s.e r.b r.e * ovl (s.c + -1) (s.f + -1) r.c r.f
  rw [e, Uy r.a, Uy r.b]
 ·show ovl r.a r.d s.a s.d * ovl r.b r.e s.b s.e * ovl (r.c + -1) (r.f + -1) s.c s.f = ovl s.a s.d r.a r.d * ovl s.b s.e r.b r.e * ovl (s.c + 1) (s.f + 1) r.c r.f
  rw [e, Uy r.a, Uy r.b]; rfl
def sm {α : Type} (l : List α) (f : α → Int) : Int := (l.map f).sum
theorem y0i {α : Type} (f : α → Int) : sm ([] : List α) f = 0 := rfl
theorem Vx {α : Type} (x : α) (l : List α) (f : α → Int) : sm (x :: l) f = f x + sm l f := by simp [sm]
theorem Us {α : Type} (l m : List α) (f : α → Int) : sm (l ++ m) f = sm l f + sm m f := by simp [sm]
theorem Xu {α : Type} {l : List α} {f g : α → Int} (h : ∀ x ∈ l, f x = g x) : sm l f = sm l g := by
 unfold sm; rw [List.map_congr_left h]
theorem z1p {α : Type} (l : List α) (f g : α → Int) : sm l (fun x => f x + g x) = sm l f + sm l g := by
 induction l with
 | nil => rfl
 | cons x l ih => simp only [Vx, ih]; omega
theorem w0i {α : Type} (l : List α) (f g : α → Int) : sm l (fun x => f x - g x) = sm l f - sm l g := by
 induction l with
 | nil => rfl
 | cons x l ih => simp only [Vx, ih]; omega
theorem x4d {α : Type} (l : List α) (f : α → Int) (c : Int) : sm l (fun x => f x * c) = sm l f * c := by
 induction l with
 | nil => simp [sm]
 | cons x l ih => simp only [Vx, ih, Int.add_mul]
theorem y0j {α : Type} (l : List α) (f : α → Int) (c : Int) : sm l (fun x => c * f x) = c * sm l f := by
 induction l with
 | nil => simp [sm]
 | cons x l ih => simp only [Vx, ih, Int.mul_add]
theorem Qs {α : Type} (l : List α) : sm l (fun _ => 0) = 0 := by
 induction l with
 | nil => rfl
 | cons x l ih => rw [Vx, ih]; rfl
theorem y4m {α β : Type} (l : List α) (m : List β) (f : α → β → Int) : sm l (fun x => sm m (f x)) = sm m (fun y => sm l fun x => f x y) := by
 induction l with
 | nil => simp only [y0i, Qs]
 | cons x l ih => simp only [Vx, ih, z1p]
theorem y4n {α : Type} {l : List α} {f g : α → Int} (h : ∀ x ∈ l, f x ≤ g x) : sm l f ≤ sm l g := by
 induction l with
 | nil => exact Int.le_refl _
 | cons x l ih => rw [Vx, Vx]; exact Int.add_le_add (h x (by simp)) (ih fun y hy => h y (by simp [hy]))
theorem Vr {α : Type} {l : List α} {f : α → Int} (h : ∀ x ∈ l, 0 ≤ f x) : 0 ≤ sm l f := by
 have := y4n h; rwa [Qs] at this
theorem sm_le {α : Type} {l : List α} {f : α → Int} {c : Int} (h : ∀ x ∈ l, f x ≤ c) : sm l f ≤ l.length * c := by
 induction l with
 | nil => simp [sm]
 | cons x l ih =>
  rw [Vx, List.length_cons]
  have h1 := h x (by simp)
  have h2 := ih fun y hy => h y (by simp [hy])
  have : ((l.length + 1 : Nat) : Int) * c = l.length * c + c := by rw [show ((l.length + 1 : Nat) : Int) = (l.length : Int) + 1 from rfl, Int.add_mul, Int.one_mul]
  omega
theorem Kd {α : Type} {l : List α} {f : α → Int} (h : ∀ x ∈ l, 0 ≤ f x) (h0 : sm l f = 0) : ∀ x ∈ l, f x = 0 := by
 induction l with
 | nil => intro x hx; cases hx
 | cons y l ih =>
  rw [Vx] at h0
  have h1 := h y (by simp)
  have h2 := Vr fun x hx => h x (List.mem_cons_of_mem y hx)
  intro x hx
  rcases List.mem_cons.1 hx with rfl | hx
  ·omega
  ·exact ih (fun z hz => h z (by simp [hz])) (by omega) x hx
theorem x6p {α β : Type} (l : List α) (g : α → List β) (f : β → Int) : sm (l.flatMap g) f = sm l fun x => sm (g x) f := by
 induction l with
 | nil => rfl
 | cons x l ih => rw [List.flatMap_cons, Us, Vx, ih]
theorem w0j {α β : Type} (l : List α) (g : α → β) (f : β → Int) : sm (l.map g) f = sm l fun x => f (g x) := by simp [sm, Function.comp_def]
theorem y6t {α : Type} (l : List α) (g : α → Option R6) (f : R6 → Int) : sm (l.filterMap g) f = sm l fun x => optS (g x) f := by
 induction l with
 | nil => rfl
 | cons x l ih =>
  rw [List.filterMap_cons, Vx]
  cases h : g x with
  | none => show _ = (0 : Int) + _; rw [Int.zero_add]; exact ih
  | some b => show sm (b :: _) f = f b + _; rw [Vx, ih]
def Ye (X Y : List R6) : List R6 := X.flatMap fun x => Y.filterMap (z0b x)
theorem v0j (X Y : List R6) (f : R6 → Int) : sm (Ye X Y) f = sm X fun x => sm Y fun y => optS (z0b x y) f := by
 unfold Ye
 rw [x6p]
 exact Xu fun x _ => y6t _ _ _
def S2 (X Y : List R6) : Int := sm X fun x => sm Y fun y => ov x y
theorem com_bx (X Y : List R6) : sm (Ye X Y) bxV = S2 X Y := by
 rw [v0j]
 exact Xu fun x _ => Xu fun y _ => v6c x y
def E2 (d : Int) (X Y : List R6) : Int := sm X fun x => sm Y fun y => ov (nx d x) y
theorem v3k (d : Int) (X Y : List R6) : S2 (X.map (nx d)) Y = E2 d X Y := by unfold S2 E2; rw [w0j]
theorem z4i (d : Int) (h : 0 ≤ d ∧ d ≤ 5) (X Y : List R6) : E2 d X Y = E2 (rv d) Y X := by
 unfold E2
 rw [y4m]
 exact Xu fun y _ => Xu fun x _ => x1g d h x y
def c1 (d : Int) (X Y B : List R6) : Int := (E2 d X Y - E2 d B Y) - (E2 d X B - E2 d B B)
def con6 (X Y B : List R6) : Int := c1 0 X Y B + c1 1 X Y B + c1 2 X Y B + c1 3 X Y B + c1 4 X Y B + c1 5 X Y B
end Go.Am
namespace Go.Am
open Go.Proofs Go.Sort Go.Shelf Go.RowKit Go.Lib
namespace Dim
variable {α β : Type} (D : Dim α β)
structure Fair : Prop where
 lo_put : ∀ x x' b, D.lo (D.put x x' b) = x
 hi_put : ∀ x x' b, D.hi (D.put x x' b) = x'
 pr_put : ∀ x x' b, D.pr (D.put x x' b) = b
 ext_put : ∀ x x' x'' b, D.ext x'' (D.put x x' b) = D.put x x'' b
def Ap (R : β → β → Prop) (a b : α) : Prop := D.hi a ≤ D.lo b ∨ D.hi b ≤ D.lo a ∨ R (D.pr a) (D.pr b)
theorem w1q {D : Dim α β} (hD : D.Fair) (R : β → β → Prop) (sec : Int → List β) (cs : List Int) (hc : cs.Pairwise (· < ·)) (hsec : ∀ x, (sec x).Pairwise R) :
  ∀ (k i : Nat) (pre : List α) (last : List β) (x0 : Int), (i + k < cs.length ∨ k = 0) → pre.Pairwise (D.Ap R) → (∀ a ∈ pre, D.hi a ≤ x0) → (last ≠ [] → x0 ≤ rd cs i) → (last = [] → x0 ≤ rd cs i) → last.Pairwise R →
  (D.ref sec cs k i (pre ++ last.map (D.put x0 (rd cs i))) last pre.length).Pairwise (D.Ap R) := by
 have fin : ∀ (pre : List α) (last : List β) (x0 x' : Int), pre.Pairwise (D.Ap R) → (∀ a ∈ pre, D.hi a ≤ x0) → last.Pairwise R → (pre ++ last.map (D.put x0 x')).Pairwise (D.Ap R) := fun pre last x0 x' h1 h2 h3 => by
  refine List.pairwise_append.2 ⟨h1, ?_, fun a ha b hb => ?_⟩
  ·refine List.pairwise_map.2 (h3.imp fun {a b} h => .inr (.inr ?_))
   rw [hD.pr_put, hD.pr_put]; exact h
  ·obtain ⟨c, _, rfl⟩ := List.mem_map.1 hb
   exact .inl (by rw [hD.lo_put]; exact h2 a ha)
 intro k
 induction k with
 | zero => intro i pre last x0 _ h1 h2 _ _ h3; exact fin pre last x0 _ h1 h2 h3
 | succ k ih =>
  intro i pre last x0 hk h1 h2 h4 h5 h3
  have hlt : rd cs i < rd cs (i + 1) := y2t hc (Nat.lt_succ_self _) (by omega)
  unfold ref
  cases hq : (decide (0 < i) && D.same (sec (rd cs i)) last) with
  | true =>
   rw [cond_true]
   have e : D.grow (pre ++ last.map (D.put x0 (rd cs i))) pre.length (rd cs (i + 1)) = pre ++ last.map (D.put x0 (rd cs (i + 1))) := by
    unfold grow
    rw [List.take_left, List.drop_left, List.map_map]
    congr 1
    exact List.map_congr_left fun b _ => hD.ext_put _ _ _ _
   rw [e]
   exact ih (i + 1) pre last x0 (by omega) h1 h2 (fun h => by have := h4 h; omega) (fun h => by have := h5 h; omega) h3
  | false =>
   rw [cond_false]
   refine ih (i + 1) (pre ++ last.map (D.put x0 (rd cs i))) (sec (rd cs i)) (rd cs i) (by omega) (fin pre last x0 _ h1 h2 h3) (fun a ha => ?_) (fun _ => by omega) (fun _ => by omega) (hsec _)
   rcases List.mem_append.1 ha with ha | ha
   ·have := h2 a ha
    by_cases e : last = []
    ·have := h5 e; omega
    ·have := h4 e; omega
   ·obtain ⟨c, _, rfl⟩ := List.mem_map.1 ha
    rw [hD.hi_put]; exact Int.le_refl _
theorem out_apart {D : Dim α β} (hD : D.Fair) (R : β → β → Prop) (hs : ∀ a b, D.same a b = true ↔ a = b) (l : List α) (hsec : ∀ x, (D.sec l x).Pairwise R) : (D.out l).Pairwise (D.Ap R) := by
 rw [D.out_eq hs l]
 have hc : (D.cuts l).Pairwise (· < ·) := by
  show (Jk (D.ends l)).Pairwise (· < ·)
  rw [Qy]; exact (Vy _).1
 have := w1q hD R (D.sec l) (D.cuts l) hc hsec ((D.cuts l).length - 1) 0 [] [] (rd (D.cuts l) 0) (by omega) .nil (by simp) (fun _ => Int.le_refl _) (fun _ => Int.le_refl _) .nil
 exact this
end Dim
theorem y6l : D4.Fair := ⟨fun _ _ _ => rfl, fun _ _ _ => rfl, fun _ _ _ => rfl, fun _ _ _ _ => rfl⟩
theorem y2n : D6.Fair := ⟨fun _ _ _ => rfl, fun _ _ _ => rfl, fun _ _ _ => rfl, fun _ _ _ _ => rfl⟩
def Ap2 (s t : R2) : Prop := s.b ≤ t.a ∨ t.b ≤ s.a
def Ap4 (s t : R4) : Prop := s.c ≤ t.a ∨ t.c ≤ s.a ∨ s.d ≤ t.b ∨ t.d ≤ s.b
def Ap6 (s t : R6) : Prop := s.d ≤ t.a ∨ t.d ≤ s.a ∨ s.e ≤ t.b ∨ t.e ≤ s.b ∨ s.f ≤ t.c ∨ t.f ≤ s.c
theorem w0c (l : List R2) : (Xg l).Pairwise Ap2 := by
 unfold Xg
 by_cases h : 400 < l.length
 ·rw [decide_eq_true h]; exact .nil
 ·rw [decide_eq_false h, cond_false]
  cases hv : l.all z0e with
  | false => exact .nil
  | true =>
   rw [cond_true]
   exact (y9s l hv).1.sep.imp fun {s t} h => .inl (by omega)
theorem w1k (l : List R4) : (Zb l).Pairwise Ap4 := by
 have key : (D4.out l).Pairwise Ap4 := (Dim.out_apart y6l Ap2 (fun a b => decide_eq_true_iff) l fun x => w0c _).imp fun {s t} h => by
  rcases h with h | h | h | h
  ·exact .inl h
  ·exact .inr (.inl h)
  ·exact .inr (.inr (.inl h))
  ·exact .inr (.inr (.inr h))
 unfold Zb
 by_cases h : 400 < l.length
 ·rw [decide_eq_true h]; exact .nil
 ·rw [decide_eq_false h, cond_false]
  cases l.all Kw with
  | false => exact .nil
  | true =>
   rw [cond_true]
   cases decide (((D4.out l).length : Int) > 400) with
   | true => exact .nil
   | false => exact key
theorem z8s {l : List R6} (h : Zi l = 0) : l.length ≤ 400 ∧ (∀ r ∈ l, z0f r = true) ∧ l = D6.out l ∧ l.Pairwise Ap6 := by
 unfold Zi at h
 by_cases h1 : 400 < l.length
 ·rw [decide_eq_true h1] at h; cases h
 ·rw [decide_eq_false h1, cond_false] at h
  cases hv : l.all z0f with
  | false => rw [hv] at h; cases h
  | true =>
   rw [hv, cond_true] at h
   cases ho : okF l ((D6.cuts l).length - 1) 0 with
   | false => rw [ho] at h; cases h
   | true =>
    rw [ho, cond_true] at h
    cases h2 : decide (((D6.out l).length : Int) > 400) with
    | true => rw [h2] at h; cases h
    | false =>
     rw [h2, cond_false] at h
     cases h3 : Jo (D6.out l) l with
     | false => rw [h3] at h; cases h
     | true =>
      have e : D6.out l = l := of_decide_eq_true h3
      refine ⟨by omega, fun r hr => List.all_eq_true.1 hv r hr, e.symm, ?_⟩
      have := (Dim.out_apart y2n Ap4 (fun a b => decide_eq_true_iff) l fun x => w1k _).imp (S := Ap6) fun {s t} h => by
       rcases h with h | h | h | h | h | h
       ·exact .inr (.inr (.inr (.inr (.inl h))))
       ·exact .inr (.inr (.inr (.inr (.inr h))))
       ·exact .inl h
       ·exact .inr (.inl h)
       ·exact .inr (.inr (.inl h))
       ·exact .inr (.inr (.inr (.inl h)))
      rwa [e] at this
theorem Vo {r : R6} (h : z0f r = true) : r.a < r.d ∧ r.b < r.e ∧ r.c < r.f ∧ -1000000 ≤ r.a ∧ -1000000 ≤ r.b ∧ -1000000 ≤ r.c ∧ r.d ≤ 1000000 ∧ r.e ≤ 1000000 ∧ r.f ≤ 1000000 := by
 rw [x3y] at h
 simp only [x3z, Bool.and_eq_true, decide_eq_true_eq] at h
 omega
end Go.Am
namespace Go.Am
open Go.Proofs Go.Sort Go.Shelf Go.RowKit Go.Lib
structure z0d (β : Type) where
 a : Int
 b : Int
 s : List β
def ptL {β γ : Type} (inB : β → γ → Prop) (s : List β) (q : γ) : Prop := ∃ r ∈ s, inB r q
theorem y0o {β γ : Type} (inB : β → γ → Prop) (q : γ) : ¬ ptL inB [] q := fun ⟨_, h, _⟩ => by cases h
structure Sem (β γ : Type) where
 can : List β → Prop
 inB : β → γ → Prop
 uniq : ∀ s t, can s → can t → (∀ q, ptL inB s q ↔ ptL inB t q) → s = t
 some : ∀ s, can s → s ≠ [] → ∃ q, ptL inB s q
 nil : can []
section
variable {β γ : Type} (M : Sem β γ)
def OkS (g : z0d β) : Prop := g.a < g.b ∧ M.can g.s ∧ g.s ≠ []
def Nxt (g h : z0d β) : Prop := g.b ≤ h.a ∧ (g.b = h.a → g.s ≠ h.s)
inductive z1u : List (z0d β) → Prop
 | nil : z1u []
 | one (g : z0d β) (h : OkS M g) : z1u [g]
 | cons (g h : z0d β) (r : List (z0d β)) (ok : OkS M g) (nx : Nxt g h) (k : z1u (h :: r)) : z1u (g :: h :: r)
def ptG (G : List (z0d β)) (x : Int) (q : γ) : Prop := ∃ g ∈ G, g.a ≤ x ∧ x < g.b ∧ ptL M.inB g.s q
variable {M}
theorem z1u.head {g : z0d β} {r : List (z0d β)} (h : z1u M (g :: r)) : OkS M g := by cases h <;> assumption
theorem z1u.tail {g : z0d β} {r : List (z0d β)} (h : z1u M (g :: r)) : z1u M r := by
 cases h with
 | one => exact .nil
 | cons _ _ _ _ _ k => exact k
theorem z1u.later {g : z0d β} {r : List (z0d β)} (h : z1u M (g :: r)) : ∀ k ∈ r, g.b ≤ k.a := by
 induction r generalizing g with
 | nil => intro k hk; cases hk
 | cons k r ih =>
  cases h with
  | cons _ _ _ ok nx kk =>
   intro m hm
   rcases List.mem_cons.1 hm with rfl | hm
   ·exact nx.1
   ·have h1 := ih kk m hm
    have h2 := kk.head.1
    have h3 := nx.1
    omega
theorem z1u.all {G : List (z0d β)} (h : z1u M G) : ∀ g ∈ G, OkS M g := by
 induction G with
 | nil => intro g hg; cases hg
 | cons k r ih =>
  intro g hg
  rcases List.mem_cons.1 hg with rfl | hg
  ·exact h.head
  ·exact ih h.tail g hg
theorem z1u.before {G : List (z0d β)} {g : z0d β} (k : z1u M (G ++ [g])) : ∀ m ∈ G, m.b ≤ g.a := by
 induction G with
 | nil => intro m hm; cases hm
 | cons m r ih =>
  intro n hn
  rcases List.mem_cons.1 hn with rfl | hn
  ·exact k.later g (by simp)
  ·exact ih k.tail n hn
theorem z1u.snoc {G : List (z0d β)} {g h : z0d β} (k : z1u M (G ++ [g])) (ok : OkS M h) (nx : Nxt g h) : z1u M (G ++ [g] ++ [h]) := by
 induction G with
 | nil => exact .cons g h [] k.head nx (.one h ok)
 | cons m r ih =>
  have i := ih k.tail
  cases r with
  | nil =>
   cases k with
   | cons _ _ _ ok1 nx1 k1 => exact .cons m g [h] ok1 nx1 i
  | cons m2 r =>
   cases k with
   | cons _ _ _ ok1 nx1 k1 => exact .cons m m2 _ ok1 nx1 i
theorem z1u.stretch {G : List (z0d β)} {g : z0d β} {x : Int} (k : z1u M (G ++ [g])) (hx : g.b ≤ x) : z1u M (G ++ [⟨g.a, x, g.s⟩]) := by
 induction G with
 | nil =>
  have := k.head
  exact .one _ ⟨by have := this.1; show g.a < x; omega, this.2⟩
 | cons m r ih =>
  have i := ih k.tail
  cases r with
  | nil =>
   cases k with
   | cons _ _ _ ok1 nx1 k1 => exact .cons m _ [] ok1 nx1 i
  | cons m2 r =>
   cases k with
   | cons _ _ _ ok1 nx1 k1 => exact .cons m m2 _ ok1 nx1 i
theorem z5c (g : z0d β) (G : List (z0d β)) (x : Int) (q : γ) : ptG M (g :: G) x q ↔ (g.a ≤ x ∧ x < g.b ∧ ptL M.inB g.s q) ∨ ptG M G x q := by
 constructor
 ·rintro ⟨k, hk, h⟩
  rcases List.mem_cons.1 hk with rfl | hk
  ·exact .inl h
  ·exact .inr ⟨k, hk, h⟩
 ·rintro (h | ⟨k, hk, h⟩)
  ·exact ⟨g, by simp, h⟩
  ·exact ⟨k, by simp [hk], h⟩
theorem y3i (G H : List (z0d β)) (x : Int) (q : γ) : ptG M (G ++ H) x q ↔ ptG M G x q ∨ ptG M H x q := by
 constructor
 ·rintro ⟨k, hk, h⟩
  rcases List.mem_append.1 hk with hk | hk
  ·exact .inl ⟨k, hk, h⟩
  ·exact .inr ⟨k, hk, h⟩
 ·rintro (⟨k, hk, h⟩ | ⟨k, hk, h⟩)
  ·exact ⟨k, List.mem_append.2 (.inl hk), h⟩
  ·exact ⟨k, List.mem_append.2 (.inr hk), h⟩
theorem z1u.low {g : z0d β} {r : List (z0d β)} (h : z1u M (g :: r)) {x : Int} {q : γ} (hp : ptG M (g :: r) x q) : g.a ≤ x := by
 rcases (z5c g r x q).1 hp with hp | ⟨k, hk, h1, _⟩
 ·exact hp.1
 ·have := h.later k hk
  have := h.head.1
  omega
theorem z1u.rest {g : z0d β} {r : List (z0d β)} (h : z1u M (g :: r)) (x : Int) (q : γ) : ptG M r x q ↔ g.b ≤ x ∧ ptG M (g :: r) x q := by
 constructor
 ·rintro ⟨k, hk, h1, h2⟩
  have := h.later k hk
  exact ⟨by omega, k, by simp [hk], h1, h2⟩
 ·rintro ⟨hx, hp⟩
  rcases (z5c g r x q).1 hp with hp | hp
  ·omega
  ·exact hp
theorem z1u.sec0 {g : z0d β} {r : List (z0d β)} (h : z1u M (g :: r)) {x : Int} (hx : g.a ≤ x ∧ x < g.b) (q : γ) : ptG M (g :: r) x q ↔ ptL M.inB g.s q := by
 rw [z5c]
 constructor
 ·rintro (h1 | ⟨k, hk, h1, _⟩)
  ·exact h1.2.2
  ·have := h.later k hk; omega
 ·exact fun h1 => .inl ⟨hx.1, hx.2, h1⟩
theorem y8p : ∀ (G H : List (z0d β)), z1u M G → z1u M H → (∀ x q, ptG M G x q ↔ ptG M H x q) → G = H
 | [], [], _, _, _ => rfl
 | [], h :: H, _, hH, e => by
  obtain ⟨q, hq⟩ := M.some _ hH.head.2.1 hH.head.2.2
  have := (e h.a q).2 ((hH.sec0 ⟨Int.le_refl _, hH.head.1⟩ q).2 hq)
  obtain ⟨k, hk, _⟩ := this; cases hk
 | g :: G, [], hG, _, e => by
  obtain ⟨q, hq⟩ := M.some _ hG.head.2.1 hG.head.2.2
  have := (e g.a q).1 ((hG.sec0 ⟨Int.le_refl _, hG.head.1⟩ q).2 hq)
  obtain ⟨k, hk, _⟩ := this; cases hk
 | g :: G, h :: H, hG, hH, e => by
  have og := hG.head
  have oh := hH.head
  obtain ⟨q, hq⟩ := M.some _ og.2.1 og.2.2
  obtain ⟨p, hp⟩ := M.some _ oh.2.1 oh.2.2
  have a1 : h.a ≤ g.a := hH.low ((e g.a q).1 ((hG.sec0 ⟨Int.le_refl _, og.1⟩ q).2 hq))
  have a2 : g.a ≤ h.a := hG.low ((e h.a p).2 ((hH.sec0 ⟨Int.le_refl _, oh.1⟩ p).2 hp))
  have a3 : g.a = h.a := by omega
  have s1 : g.s = h.s := M.uniq _ _ og.2.1 oh.2.1 fun q => by
   rw [← hG.sec0 (x := g.a) ⟨Int.le_refl _, og.1⟩, e, hH.sec0 (x := g.a) ⟨by omega, by have := oh.1; omega⟩]
  have key : ∀ (g h : z0d β) (G H : List (z0d β)), z1u M (g :: G) → z1u M (h :: H) → (∀ x q, ptG M (g :: G) x q ↔ ptG M (h :: H) x q) → g.a = h.a → g.s = h.s → ¬ g.b < h.b := fun g h G H hG hH e ea es hlt => by
   have og := hG.head
   have oh := hH.head
   have at_ : ∀ q, ptG M (g :: G) g.b q ↔ ptL M.inB h.s q := fun q => by
    rw [e, hH.sec0 ⟨by have := og.1; omega, hlt⟩]
   obtain ⟨q, hq⟩ := M.some _ oh.2.1 oh.2.2
   have := (hG.rest g.b q).2 ⟨Int.le_refl _, (at_ q).2 hq⟩
   cases hG with
   | one => obtain ⟨k, hk, _⟩ := this; cases hk
   | cons _ k r ok nx kk =>
    have hk : k.a ≤ g.b := kk.low this
    have hk2 : g.b = k.a := by have := nx.1; omega
    refine nx.2 hk2 ?_
    rw [es]
    refine M.uniq _ _ oh.2.1 kk.head.2.1 fun p => ?_
    rw [← at_, ← kk.sec0 (x := g.b) ⟨by omega, by have := kk.head.1; omega⟩]
    constructor
    ·exact fun hp => ((z1u.cons g k r ok nx kk).rest g.b p).2 ⟨Int.le_refl _, hp⟩
    ·exact fun hp => (((z1u.cons g k r ok nx kk).rest g.b p).1 hp).2
  have b1 := key g h G H hG hH e a3 s1
  have b2 := key h g H G hH hG (fun x q => (e x q).symm) a3.symm s1.symm
  have b3 : g.b = h.b := by omega
  have eg : g = h := by
   obtain ⟨ga, gb, gs⟩ := g
   obtain ⟨ha, hb, hs⟩ := h
   simp only at a3 b3 s1
   subst_vars; rfl
  subst eg
  congr 1
  exact y8p G H hG.tail hH.tail fun x q => by rw [hG.rest, hH.rest, e]
end
namespace Dim
variable {α β : Type} (D : Dim α β)
def flat (G : List (z0d β)) : List α := G.flatMap fun g => g.s.map (D.put g.a g.b)
theorem flat_append (G H : List (z0d β)) : D.flat (G ++ H) = D.flat G ++ D.flat H := by simp [flat]
theorem flat_one (g : z0d β) : D.flat [g] = g.s.map (D.put g.a g.b) := by simp [flat]
def inA {γ : Type} (inB : β → γ → Prop) (r : α) (p : Int × γ) : Prop := D.lo r ≤ p.1 ∧ p.1 < D.hi r ∧ inB (D.pr r) p.2
variable {D}
theorem y5q (hD : D.Fair) {γ : Type} (M : Sem β γ) (G : List (z0d β)) (x : Int) (q : γ) : ptL (D.inA M.inB) (D.flat G) (x, q) ↔ ptG M G x q := by
 constructor
 ·rintro ⟨r, hr, h⟩
  obtain ⟨g, hg, hr⟩ := List.mem_flatMap.1 hr
  obtain ⟨b, hb, rfl⟩ := List.mem_map.1 hr
  unfold inA at h
  rw [hD.lo_put, hD.hi_put, hD.pr_put] at h
  exact ⟨g, hg, h.1, h.2.1, b, hb, h.2.2⟩
 ·rintro ⟨g, hg, h1, h2, b, hb, h3⟩
  refine ⟨D.put g.a g.b b, List.mem_flatMap.2 ⟨g, hg, List.mem_map.2 ⟨b, hb, rfl⟩⟩, ?_⟩
  unfold inA
  rw [hD.lo_put, hD.hi_put, hD.pr_put]
  exact ⟨h1, h2, h3⟩
def can {γ : Type} (M : Sem β γ) (l : List α) : Prop := ∃ G, z1u M G ∧ l = D.flat G
def sem (hD : D.Fair) {γ : Type} (M : Sem β γ) : Sem α (Int × γ) where
 can := D.can M
 inB := D.inA M.inB
 uniq := fun s t ⟨G, hG, e1⟩ ⟨H, hH, e2⟩ h => by
  subst e1 e2
  rw [y8p G H hG hH fun x q => by rw [← y5q hD, ← y5q hD]; exact h (x, q)]
 some := fun s ⟨G, hG, e1⟩ hs => by
  subst e1
  cases G with
  | nil => exact absurd rfl hs
  | cons g G =>
   obtain ⟨q, hq⟩ := M.some _ hG.head.2.1 hG.head.2.2
   exact ⟨(g.a, q), (y5q hD M _ _ _).2 ((hG.sec0 ⟨Int.le_refl _, hG.head.1⟩ q).2 hq)⟩
 nil := ⟨[], .nil, rfl⟩
variable (D)
def oneS (sec : List β) (x x' : Int) (s : Sw α β) : Sw α β :=
 bif decide (0 < sec.length) && ((s.fin == x) && D.same s.last sec) then ⟨D.grow s.out s.first x', s.last, s.first, x'⟩
 else ⟨s.out ++ sec.map (D.put x x'), sec, s.out.length, x'⟩
def goS (sec : Int → List β) (cs : List Int) : Nat → Nat → Sw α β → Sw α β
 | 0, _, s => s
 | k + 1, i, s => goS sec cs k (i + 1) (D.oneS (sec (rd cs i)) (rd cs i) (rd cs (i + 1)) s)
theorem v2w (l : List α) : ∀ (k i : Nat) (s : Sw α β), D.go l k i s = D.goS (D.sec l) (D.cuts l) k i s
 | 0, _, _ => rfl
 | k + 1, i, s => v2w l k (i + 1) _
variable {D}
structure Inv {γ : Type} (M : Sem β γ) (sec : Int → List β) (cs : List Int) (i : Nat) (s : Sw α β) (G : List (z0d β)) : Prop where
 can : z1u M G
 out : s.out = D.flat G
 gap : s.last = [] → ∀ g ∈ G, g.b < rd cs i
 end_ : s.last ≠ [] → ∃ Gp g, G = Gp ++ [g] ∧ g.s = s.last ∧ g.b = rd cs i ∧ s.fin = rd cs i ∧ s.first = (D.flat Gp).length
 pts : ∀ x q, ptG M G x q ↔ ∃ j, j < i ∧ rd cs j ≤ x ∧ x < rd cs (j + 1) ∧ ptL M.inB (sec (rd cs j)) q
theorem w8s (hD : D.Fair) (hs : ∀ a b, D.same a b = true ↔ a = b) {γ : Type} (M : Sem β γ) {sec : Int → List β} {cs : List Int} (hc : cs.Pairwise (· < ·)) (hsec : ∀ x, M.can (sec x)) {i : Nat} (hi : i + 1 < cs.length) {s : Sw α β} {G : List (z0d β)} (h : Inv (D := D) M sec cs i s G) :
  ∃ G', Inv (D := D) M sec cs (i + 1) (D.oneS (sec (rd cs i)) (rd cs i) (rd cs (i + 1)) s) G' := by
 have hlt : rd cs i < rd cs (i + 1) := y2t hc (Nat.lt_succ_self _) hi
 unfold oneS
 rcases Yc (decide (0 < (sec (rd cs i)).length) && ((s.fin == rd cs i) && D.same s.last (sec (rd cs i)))) with q | q
 ·rw [q, cond_true]
  simp only [Bool.and_eq_true, decide_eq_true_eq] at q
  obtain ⟨q1, q2, q3⟩ := q
  have q3 := (hs _ _).1 q3
  have hne : s.last ≠ [] := fun e => by rw [e] at q3; rw [← q3] at q1; exact Nat.lt_irrefl _ q1
  obtain ⟨Gp, g, e1, e2, e3, e4, e5⟩ := h.end_ hne
  subst e1
  refine ⟨Gp ++ [⟨g.a, rd cs (i + 1), g.s⟩], h.can.stretch (by omega), ?_, fun e => absurd e hne, fun _ => ⟨Gp, _, rfl, e2, rfl, rfl, e5⟩, fun x p => ?_⟩
  ·show D.grow s.out s.first (rd cs (i + 1)) = _
   rw [h.out, e5]
   unfold grow
   rw [D.flat_append, D.flat_append, D.flat_one, D.flat_one, List.take_left, List.drop_left, List.map_map]
   congr 1
   exact List.map_congr_left fun b _ => hD.ext_put _ _ _ _
  ·have hp := h.pts x p
   rw [y3i, z5c] at hp ⊢
   have z : ¬ ptG M ([] : List (z0d β)) x p := fun ⟨_, hk, _⟩ => by cases hk
   constructor
   ·rintro (h1 | h1 | h1)
    ·obtain ⟨j, j1, j2⟩ := hp.1 (.inl h1)
     exact ⟨j, by omega, j2⟩
    ·simp only at h1
     by_cases hx : x < g.b
     ·obtain ⟨j, j1, j2⟩ := hp.1 (.inr (.inl ⟨h1.1, hx, h1.2.2⟩))
      exact ⟨j, by omega, j2⟩
     ·exact ⟨i, Nat.lt_succ_self _, by omega, h1.2.1, by rw [← q3, ← e2]; exact h1.2.2⟩
    ·exact absurd h1 z
   ·rintro ⟨j, j1, j2, j3, j4⟩
    rcases Nat.eq_or_lt_of_le (Nat.le_of_lt_succ j1) with rfl | j1
    ·refine .inr (.inl ⟨?_, j3, ?_⟩)
     ·have := (h.can.all g (by simp)).1; show g.a ≤ x; omega
     ·show ptL M.inB g.s p
      rw [e2, q3]; exact j4
    ·rcases hp.2 ⟨j, j1, j2, j3, j4⟩ with h1 | h1 | h1
     ·exact .inl h1
     ·exact .inr (.inl ⟨h1.1, by show x < rd cs (i + 1); omega, h1.2.2⟩)
     ·exact absurd h1 z
 ·rw [q, cond_false]
  by_cases he : sec (rd cs i) = []
  ·rw [he]
   refine ⟨G, h.can, ?_, fun _ g hg => ?_, fun e => absurd rfl e, fun x p => ?_⟩
   ·show s.out ++ [].map _ = _
    rw [List.map_nil, List.append_nil, h.out]
   ·by_cases hl : s.last = []
    ·have := h.gap hl g hg; omega
    ·obtain ⟨Gp, g', e1, e2, e3, _⟩ := h.end_ hl
     subst e1
     rcases List.mem_append.1 hg with hg | hg
     ·have := h.can.before g hg
      have := (h.can.all g' (by simp)).1
      omega
     ·rw [List.mem_singleton.1 hg]; omega
   ·rw [h.pts]
    constructor
    ·rintro ⟨j, j1, j2⟩; exact ⟨j, by omega, j2⟩
    ·rintro ⟨j, j1, j2, j3, j4⟩
     rcases Nat.eq_or_lt_of_le (Nat.le_of_lt_succ j1) with rfl | j1
     ·rw [he] at j4; exact absurd j4 (y0o _ _)
     ·exact ⟨j, j1, j2, j3, j4⟩
  ·have ok : OkS M (⟨rd cs i, rd cs (i + 1), sec (rd cs i)⟩ : z0d β) := ⟨hlt, hsec _, he⟩
   have hcan : z1u M (G ++ [⟨rd cs i, rd cs (i + 1), sec (rd cs i)⟩]) := by
    rcases List.eq_nil_or_concat G with rfl | ⟨Gp, g, rfl⟩
    ·exact .one _ ok
    ·rw [List.concat_eq_append] at *
     refine h.can.snoc ok ?_
     by_cases hl : s.last = []
     ·have := h.gap hl g (by simp)
      exact ⟨by show g.b ≤ rd cs i; omega, fun e => by simp only at e; omega⟩
     ·obtain ⟨Gp', g', e1, e2, e3, e4, _⟩ := h.end_ hl
      obtain ⟨rfl, e⟩ := List.append_inj' e1 rfl
      obtain rfl : g = g' := by simpa using e
      refine ⟨by show g.b ≤ rd cs i; omega, fun _ e => ?_⟩
      rw [decide_eq_true (show 0 < (sec (rd cs i)).length from List.length_pos_iff.2 he), e4, (hs _ _).2 (e2.symm.trans e)] at q
      simp at q
   refine ⟨_, hcan, ?_, fun e => absurd e he, fun _ => ⟨G, _, rfl, rfl, rfl, rfl, by show s.out.length = _; rw [h.out]⟩, fun x p => ?_⟩
   ·show s.out ++ _ = _
    rw [D.flat_append, D.flat_one, h.out]
   ·rw [y3i, z5c, h.pts]
    have z : ¬ ptG M ([] : List (z0d β)) x p := fun ⟨_, hk, _⟩ => by cases hk
    constructor
    ·rintro (⟨j, j1, j2⟩ | h1 | h1)
     ·exact ⟨j, by omega, j2⟩
     ·exact ⟨i, Nat.lt_succ_self _, h1⟩
     ·exact absurd h1 z
    ·rintro ⟨j, j1, j2, j3, j4⟩
     rcases Nat.eq_or_lt_of_le (Nat.le_of_lt_succ j1) with rfl | j1
     ·exact .inr (.inl ⟨j2, j3, j4⟩)
     ·exact .inl ⟨j, j1, j2, j3, j4⟩
theorem v2u (hD : D.Fair) (hs : ∀ a b, D.same a b = true ↔ a = b) {γ : Type} (M : Sem β γ) {sec : Int → List β} {cs : List Int} (hc : cs.Pairwise (· < ·)) (hsec : ∀ x, M.can (sec x)) : ∀ (k i : Nat) (s : Sw α β) (G : List (z0d β)), i + k < cs.length ∨ k = 0 → Inv (D := D) M sec cs i s G →
  ∃ G', Inv (D := D) M sec cs (i + k) (D.goS sec cs k i s) G'
 | 0, i, s, G, _, h => ⟨G, h⟩
 | k + 1, i, s, G, hk, h => by
  obtain ⟨G1, h1⟩ := w8s hD hs M hc hsec (show i + 1 < cs.length by omega) h
  obtain ⟨G2, h2⟩ := v2u hD hs M hc hsec k (i + 1) _ G1 (by omega) h1
  exact ⟨G2, by rw [show i + (k + 1) = i + 1 + k by omega]; exact h2⟩
theorem goS_can (hD : D.Fair) (hs : ∀ a b, D.same a b = true ↔ a = b) {γ : Type} (M : Sem β γ) {sec : Int → List β} {cs : List Int} (hc : cs.Pairwise (· < ·)) (hsec : ∀ x, M.can (sec x)) :
  (D.sem hD M).can (D.goS sec cs (cs.length - 1) 0 ⟨[], [], 0, 0⟩).out ∧ ∀ x q, ptL (D.sem hD M).inB (D.goS sec cs (cs.length - 1) 0 ⟨[], [], 0, 0⟩).out (x, q) ↔ ∃ j, j + 1 < cs.length ∧ rd cs j ≤ x ∧ x < rd cs (j + 1) ∧ ptL M.inB (sec (rd cs j)) q := by
 obtain ⟨G, h⟩ := v2u hD hs M hc hsec (cs.length - 1) 0 ⟨[], [], 0, 0⟩ [] (by omega) ⟨.nil, rfl, fun _ g hg => by (cases hg), fun e => absurd rfl e, fun x q => ⟨fun ⟨_, hg, _⟩ => (by cases hg), fun ⟨j, hj, _⟩ => absurd hj (Nat.not_lt_zero _)⟩⟩
 refine ⟨⟨G, h.can, h.out⟩, fun x q => ?_⟩
 rw [h.out]
 rw [show ptL (D.sem hD M).inB (D.flat G) (x, q) ↔ ptG M G x q from y5q hD M G x q, h.pts]
 constructor
 ·rintro ⟨j, h1, h2⟩; exact ⟨j, by omega, h2⟩
 ·rintro ⟨j, h1, h2⟩; exact ⟨j, by omega, h2⟩
end Dim
end Go.Am
namespace Go.Am
open Go.Proofs Go.Sort Go.Shelf Go.RowKit Go.Lib
def x0c : Sem R2 Int where
 can := Can
 inB s y := s.a ≤ y ∧ y < s.b
 uniq := w4n
 some s hs hn := by
  cases s with
  | nil => exact absurd rfl hn
  | cons r l => exact ⟨r.a, r, by simp, Int.le_refl _, hs.pos r (by simp)⟩
 nil := .nil
def z1w : Sem R4 (Int × Int) := Dim.sem y6l x0c
def z6a : Sem R6 (Int × Int × Int) := Dim.sem y2n z1w
namespace Dim
variable {α β : Type} {D : Dim α β}
theorem inn_slab (l m : List α) (hl : ∀ r ∈ m, r ∈ l) {j : Nat} (hj : j + 1 < (D.cuts l).length) {x : Int} (h1 : rd (D.cuts l) j ≤ x) (h2 : x < rd (D.cuts l) (j + 1)) : D.inn m (rd (D.cuts l) j) = D.inn m x := by
 have hc : (D.cuts l).Pairwise (· < ·) := by
  show (Jk (D.ends l)).Pairwise (· < ·)
  rw [Qy]; exact (Vy _).1
 have hmem : ∀ r ∈ m, D.lo r ∈ D.cuts l ∧ D.hi r ∈ D.cuts l := fun r hr => by
  show D.lo r ∈ Jk (D.ends l) ∧ D.hi r ∈ Jk (D.ends l)
  rw [Qy, (Vy _).2, (Vy _).2]
  exact ⟨List.mem_flatMap.2 ⟨r, hl r hr, by simp⟩, List.mem_flatMap.2 ⟨r, hl r hr, by simp⟩⟩
 have side : ∀ c, c ∈ D.cuts l → (c ≤ rd (D.cuts l) j ↔ c ≤ x) := fun c hcm => by
  obtain ⟨i, hi, rfl⟩ := List.getElem_of_mem hcm
  rw [← Xj hi]
  rcases Nat.lt_or_ge j i with h | h
  ·have : rd (D.cuts l) (j + 1) ≤ rd (D.cuts l) i := by
    rcases Nat.eq_or_lt_of_le (show j + 1 ≤ i from h) with e | e
    ·rw [e]; exact Int.le_refl _
    ·exact Int.le_of_lt (y2t hc e hi)
   have := y2t hc (Nat.lt_succ_self j) hj
   constructor <;> intro <;> omega
  ·have : rd (D.cuts l) i ≤ rd (D.cuts l) j := by
    rcases Nat.eq_or_lt_of_le h with e | e
    ·rw [e]; exact Int.le_refl _
    ·exact Int.le_of_lt (y2t hc e (by omega))
   constructor <;> intro <;> omega
 unfold inn
 congr 1
 refine List.filter_congr fun r hr => ?_
 obtain ⟨m1, m2⟩ := hmem r hr
 have s1 := side _ m1
 have s2 := side _ m2
 have e1 : decide (D.lo r ≤ rd (D.cuts l) j) = decide (D.lo r ≤ x) := decide_eq_decide.2 s1
 have e2 : decide (rd (D.cuts l) j < D.hi r) = decide (x < D.hi r) := decide_eq_decide.2 (by constructor <;> intro <;> omega)
 rw [e1, e2]
theorem inn_out (l m : List α) (hl : ∀ r ∈ m, r ∈ l) {x : Int} (h : ∀ j, j + 1 < (D.cuts l).length → ¬ (rd (D.cuts l) j ≤ x ∧ x < rd (D.cuts l) (j + 1))) : D.inn m x = [] := by
 unfold inn
 rw [List.map_eq_nil_iff, List.filter_eq_nil_iff]
 intro r hr hb
 simp only [Bool.and_eq_true, decide_eq_true_eq] at hb
 have hmem : D.lo r ∈ D.cuts l ∧ D.hi r ∈ D.cuts l := by
  show D.lo r ∈ Jk (D.ends l) ∧ D.hi r ∈ Jk (D.ends l)
  rw [Qy, (Vy _).2, (Vy _).2]
  exact ⟨List.mem_flatMap.2 ⟨r, hl r hr, by simp⟩, List.mem_flatMap.2 ⟨r, hl r hr, by simp⟩⟩
 have hc : (D.cuts l).Pairwise (· < ·) := by
  show (Jk (D.ends l)).Pairwise (· < ·)
  rw [Qy]; exact (Vy _).1
 obtain ⟨i, hi, e1⟩ := List.getElem_of_mem hmem.1
 obtain ⟨k, hk, e2⟩ := List.getElem_of_mem hmem.2
 rw [← Xj hi] at e1
 rw [← Xj hk] at e2
 have h0 : rd (D.cuts l) 0 ≤ rd (D.cuts l) i := by
  rcases Nat.eq_or_lt_of_le (Nat.zero_le i) with e | e
  ·rw [← e]; exact Int.le_refl _
  ·exact Int.le_of_lt (y2t hc e hi)
 obtain ⟨j, j1, j2, j3⟩ := x3d k hk x (by omega) (by omega)
 exact h j (by omega) ⟨j2, j3⟩
theorem goJ_can (hD : D.Fair) (hs : ∀ a b, D.same a b = true ↔ a = b) {γ : Type} (M : Sem β γ) (a b : List α) (J : List β → List β → List β) (hJ : ∀ x, M.can (J (D.inn a x) (D.inn b x))) (h0 : J [] [] = []) :
  (D.sem hD M).can (D.goS (fun x => J (D.inn a x) (D.inn b x)) (D.cuts (a ++ b)) ((D.cuts (a ++ b)).length - 1) 0 ⟨[], [], 0, 0⟩).out ∧
  ∀ x q, ptL (D.sem hD M).inB (D.goS (fun x => J (D.inn a x) (D.inn b x)) (D.cuts (a ++ b)) ((D.cuts (a ++ b)).length - 1) 0 ⟨[], [], 0, 0⟩).out (x, q) ↔ ptL M.inB (J (D.inn a x) (D.inn b x)) q := by
 have hc : (D.cuts (a ++ b)).Pairwise (· < ·) := by
  show (Jk (D.ends (a ++ b))).Pairwise (· < ·)
  rw [Qy]; exact (Vy _).1
 obtain ⟨h1, h2⟩ := goS_can hD hs M (cs := D.cuts (a ++ b)) hc hJ
 refine ⟨h1, fun x q => ?_⟩
 rw [h2]
 constructor
 ·rintro ⟨j, j1, j2, j3, j4⟩
  rwa [inn_slab (a ++ b) a (fun r hr => List.mem_append.2 (.inl hr)) j1 j2 j3, inn_slab (a ++ b) b (fun r hr => List.mem_append.2 (.inr hr)) j1 j2 j3] at j4
 ·intro hp
  by_cases hx : ∃ j, j + 1 < (D.cuts (a ++ b)).length ∧ rd (D.cuts (a ++ b)) j ≤ x ∧ x < rd (D.cuts (a ++ b)) (j + 1)
  ·obtain ⟨j, j1, j2, j3⟩ := hx
   refine ⟨j, j1, j2, j3, ?_⟩
   rwa [inn_slab (a ++ b) a (fun r hr => List.mem_append.2 (.inl hr)) j1 j2 j3, inn_slab (a ++ b) b (fun r hr => List.mem_append.2 (.inr hr)) j1 j2 j3]
  ·have hx' : ∀ j, j + 1 < (D.cuts (a ++ b)).length → ¬ (rd (D.cuts (a ++ b)) j ≤ x ∧ x < rd (D.cuts (a ++ b)) (j + 1)) := fun j j1 j2 => hx ⟨j, j1, j2⟩
   rw [inn_out (a ++ b) a (fun r hr => List.mem_append.2 (.inl hr)) hx', inn_out (a ++ b) b (fun r hr => List.mem_append.2 (.inr hr)) hx', h0] at hp
   exact absurd hp (y0o _ _)
theorem pt_inn {γ : Type} (inB : β → γ → Prop) (l : List α) (x : Int) (q : γ) : ptL inB (D.inn l x) q ↔ ptL (D.inA inB) l (x, q) := by
 constructor
 ·rintro ⟨b, hb, h⟩
  obtain ⟨r, hr, rfl⟩ := List.mem_map.1 hb
  obtain ⟨h1, h2⟩ := List.mem_filter.1 hr
  simp only [Bool.and_eq_true, decide_eq_true_eq] at h2
  exact ⟨r, h1, h2.1, h2.2, h⟩
 ·rintro ⟨r, hr, h1, h2, h3⟩
  refine ⟨D.pr r, List.mem_map.2 ⟨r, List.mem_filter.2 ⟨hr, ?_⟩, rfl⟩, h3⟩
  simp only [Bool.and_eq_true, decide_eq_true_eq]
  exact ⟨h1, h2⟩
theorem out_goJ (l : List α) : D.out l = (D.goS (fun x => D.mak (D.inn l x)) (D.cuts (l ++ [])) ((D.cuts (l ++ [])).length - 1) 0 ⟨[], [], 0, 0⟩).out := by
 rw [List.append_nil]
 unfold out
 rw [v2w]
 rfl
end Dim
theorem y6v (a b : List R4) : D6.same a b = true ↔ a = b := decide_eq_true_iff
theorem y6w (a b : List R2) : D4.same a b = true ↔ a = b := decide_eq_true_iff
theorem z5j {l : List R4} (h : ∀ r ∈ l, Kw r = true) (x : Int) : (D4.inn l x).all z0e = true := List.all_eq_true.2 fun s hs => by
 obtain ⟨r, hr, _, _, rfl⟩ := y5n hs
 have := h r hr
 simp only [Kw, z0e, Bool.and_eq_true, decide_eq_true_eq] at this ⊢
 omega
theorem w0b {l : List R2} (hv : l.all z0e = true) (hl : l.length ≤ 400) : x0c.can (Xg l) ∧ ∀ y, ptL x0c.inB (Xg l) y ↔ ptL x0c.inB l y := by
 obtain ⟨c1, c2⟩ := y9s l hv
 have e : Xg l = swV l := by unfold Xg; rw [decide_eq_false (by omega), hv]; rfl
 rw [e]
 exact ⟨c1, c2⟩
theorem y3m {β γ : Type} (M : Sem β γ) {l : List β} (h : M.can l) (hp : ∀ q, ¬ ptL M.inB l q) : l = [] := Classical.byContradiction fun hn => by
 obtain ⟨q, hq⟩ := M.some l h hn
 exact hp q hq
theorem v3w : Xg [] = [] := by
 obtain ⟨h1, h2⟩ := w0b (l := []) rfl (Nat.zero_le _)
 exact y3m x0c h1 fun q hq => y0o _ _ ((h2 q).1 hq)
theorem Dim.out_nil {α β : Type} (D : Dim α β) : D.out [] = [] := by
 have h : (D.cuts []).length ≤ 2 * 0 := D.cuts_length []
 have e : (D.cuts []).length - 1 = 0 := by omega
 unfold Dim.out
 rw [e]; rfl
theorem v5g : Zb [] = [] := by
 unfold Zb
 rw [Dim.out_nil]
 cases decide (400 < ([] : List R4).length) <;> cases ([] : List R4).all Kw <;> rfl
theorem x0t {l : List R4} (hv : ∀ r ∈ l, Kw r = true) (hl : l.length ≤ 400) : z1w.can (D4.out l) ∧ ∀ p, ptL z1w.inB (D4.out l) p ↔ ptL z1w.inB l p := by
 rw [Dim.out_goJ]
 have hs : ∀ x, x0c.can (D4.mak (D4.inn l x)) ∧ ∀ y, ptL x0c.inB (D4.mak (D4.inn l x)) y ↔ ptL x0c.inB (D4.inn l x) y := fun x => w0b (z5j hv x) (Nat.le_trans (D4.inn_length l x) hl)
 obtain ⟨h1, h2⟩ := Dim.goJ_can y6l y6w x0c l [] (fun s _ => D4.mak s) (fun x => (hs x).1) v3w
 refine ⟨h1, fun ⟨x, y⟩ => ?_⟩
 rw [show ptL z1w.inB _ (x, y) ↔ _ from h2 x y, (hs x).2, Dim.pt_inn]
 rfl
theorem y6d {l : List R6} (hv : ∀ r ∈ l, z0f r = true) (z : Int) : ∀ r ∈ D6.inn l z, Kw r = true := fun r hr => by
 obtain ⟨s, hs, rfl⟩ := List.mem_map.1 hr
 have := Vo (hv s (List.mem_filter.1 hs).1)
 show Kw ⟨s.a, s.b, s.d, s.e⟩ = true
 simp only [Kw, Bool.and_eq_true, decide_eq_true_eq]
 (repeat' apply And.intro) <;> omega
def Secs (l : List R6) : Prop := ∀ z, (D4.out (D6.inn l z)).length ≤ 400
theorem y4y {l : List R4} (hv : ∀ r ∈ l, Kw r = true) (hl : l.length ≤ 400) (h : (D4.out l).length ≤ 400) : Zb l = D4.out l ∧ Xh l = 0 := by
 have hv' : l.all Kw = true := List.all_eq_true.2 hv
 unfold Zb Xh
 rw [decide_eq_false (by omega), hv', decide_eq_false (by omega)]
 exact ⟨rfl, rfl⟩
theorem v3z {l : List R6} (hv : ∀ r ∈ l, z0f r = true) (hl : l.length ≤ 400) (hs : Secs l) : z6a.can (D6.out l) ∧ ∀ p, ptL z6a.inB (D6.out l) p ↔ ptL z6a.inB l p := by
 rw [Dim.out_goJ]
 have hq : ∀ z, z1w.can (D6.mak (D6.inn l z)) ∧ ∀ p, ptL z1w.inB (D6.mak (D6.inn l z)) p ↔ ptL z1w.inB (D6.inn l z) p := fun z => by
  show z1w.can (Zb (D6.inn l z)) ∧ ∀ p, ptL z1w.inB (Zb (D6.inn l z)) p ↔ _
  rw [(y4y (y6d hv z) (Nat.le_trans (D6.inn_length l z) hl) (hs z)).1]
  exact x0t (y6d hv z) (Nat.le_trans (D6.inn_length l z) hl)
 obtain ⟨h1, h2⟩ := Dim.goJ_can y2n y6v z1w l [] (fun s _ => D6.mak s) (fun x => (hq x).1) v5g
 refine ⟨h1, fun ⟨z, p⟩ => ?_⟩
 rw [show ptL z6a.inB _ (z, p) ↔ _ from h2 z p, (hq z).2, Dim.pt_inn]
 rfl
end Go.Am
namespace Go.Am
open Go.Proofs Go.Sort Go.Shelf Go.RowKit Go.Lib
def opB (k : Nat) (a b : Bool) : Bool := match k with
 | 0 => a || b
 | 1 => a && b
 | _ => a && !b
theorem v2d (k : Nat) : opB k false false = false := by
 match k with
 | 0 => rfl
 | 1 => rfl
 | _ + 2 => rfl
def Wy (i : Int) (l : List R2) : List R3 := l.flatMap fun s => [⟨s.a, i, 1⟩, ⟨s.b, i, -1⟩]
def z2y (i : Int) (E : List R3) (y : Int) : Int := (E.map fun e => if e.b = i ∧ e.a ≤ y then e.c else 0).sum
theorem Vg (i : Int) (e : R3) (E : List R3) (y : Int) : z2y i (e :: E) y = (if e.b = i ∧ e.a ≤ y then e.c else 0) + z2y i E y := by simp [z2y]
theorem y0v (i : Int) (E F : List R3) (y : Int) : z2y i (E ++ F) y = z2y i E y + z2y i F y := by simp [z2y]
theorem y7p (i : Int) {E F : List R3} (h : E.Perm F) (y : Int) : z2y i E y = z2y i F y := by
 induction h with
 | nil => rfl
 | cons e _ ih => rw [Vg, Vg, ih]
 | swap a b l => simp only [Vg]; omega
 | trans _ _ i1 i2 => rw [i1, i2]
theorem w2k (i : Int) (E : List R3) (y : Int) (h : ∀ e ∈ E, y < e.a) : z2y i E y = 0 := by
 induction E with
 | nil => rfl
 | cons e E ih =>
  rw [Vg, if_neg (by have := h e (by simp); omega), ih fun f hf => h f (by simp [hf])]; rfl
theorem y7q (i : Int) (l : List R2) (hv : ∀ s ∈ l, s.a < s.b) (y : Int) : 0 ≤ z2y i (Wy i l) y ∧ (0 < z2y i (Wy i l) y ↔ pt l y) := by
 induction l with
 | nil => exact ⟨Int.le_refl _, by simp [z2y, Wy, pt]⟩
 | cons s l ih =>
  obtain ⟨i1, i2⟩ := ih fun t ht => hv t (by simp [ht])
  have hs := hv s (by simp)
  have e : z2y i (Wy i (s :: l)) y = (if s.a ≤ y ∧ y < s.b then 1 else 0) + z2y i (Wy i l) y := by
   show z2y i (⟨s.a, i, 1⟩ :: ⟨s.b, i, -1⟩ :: Wy i l) y = _
   rw [Vg, Vg]
   show (if i = i ∧ s.a ≤ y then (1 : Int) else 0) + ((if i = i ∧ s.b ≤ y then (-1 : Int) else 0) + z2y i (Wy i l) y) = _
   by_cases h1 : s.a ≤ y
   ·by_cases h2 : s.b ≤ y
    ·rw [if_pos ⟨rfl, h1⟩, if_pos ⟨rfl, h2⟩, if_neg (show ¬ (s.a ≤ y ∧ y < s.b) by omega)]; omega
    ·rw [if_pos ⟨rfl, h1⟩, if_neg (fun h => h2 h.2), if_pos (show s.a ≤ y ∧ y < s.b by omega)]; omega
   ·rw [if_neg (fun h => h1 h.2), if_neg (fun h => by have := h.2; omega), if_neg (show ¬ (s.a ≤ y ∧ y < s.b) by omega)]; omega
  rw [e]
  by_cases h : s.a ≤ y ∧ y < s.b
  ·rw [if_pos h]
   exact ⟨by omega, ⟨fun _ => ⟨s, by simp, h⟩, fun _ => by omega⟩⟩
  ·rw [if_neg h]
   refine ⟨by omega, ?_⟩
   rw [Int.zero_add, i2]
   constructor
   ·rintro ⟨t, ht, h2⟩; exact ⟨t, by simp [ht], h2⟩
   ·rintro ⟨t, ht, h2⟩
    rcases List.mem_cons.1 ht with rfl | ht
    ·exact absurd h2 h
    ·exact ⟨t, ht, h2⟩
theorem y3n (i j : Int) (hij : i ≠ j) (l : List R2) (y : Int) : z2y i (Wy j l) y = 0 := by
 induction l with
 | nil => rfl
 | cons s l ih =>
  show z2y i (⟨s.a, j, 1⟩ :: ⟨s.b, j, -1⟩ :: Wy j l) y = 0
  rw [Vg, Vg, if_neg (fun h => hij h.1.symm), if_neg (fun h => hij h.1.symm), ih]; rfl
def sw2 (f : Bool → Bool → Bool) : List R3 → Int → Int → Int → Bool → List R2 → List R2
 | [], _, _, _, _, out => out
 | e :: r, o, p, last, inn, out =>
  sw2 f r (bif e.b == 0 then o + e.c else o) (bif e.b == 0 then p else p + e.c) e.a (f (decide ((bif e.b == 0 then o + e.c else o) > 0)) (decide ((bif e.b == 0 then p else p + e.c) > 0))) (Vv out last inn e.a)
def Two (E : List R3) : Prop := ∀ e ∈ E, e.b = 0 ∨ e.b = 1
theorem x9y (f : Bool → Bool → Bool) : ∀ (E : List R3) (o p last : Int) (out : List R2), Asc E → Two E → (∀ e ∈ E, last ≤ e.a) → Can out → (∀ s ∈ out, s.b ≤ last) →
  Can (sw2 f E o p last (f (decide (o > 0)) (decide (p > 0))) out) ∧ ∀ y, pt (sw2 f E o p last (f (decide (o > 0)) (decide (p > 0))) out) y ↔ pt out y ∨ (last ≤ y ∧ f (decide (o + z2y 0 E y > 0)) (decide (p + z2y 1 E y > 0)) = true ∧ ∃ e ∈ E, y < e.a)
 | [], o, p, last, out, _, _, _, hc, _ => ⟨hc, fun y => ⟨.inl, fun h => h.elim id fun ⟨_, _, e, he, _⟩ => by cases he⟩⟩
 | e :: r, o, p, last, out, hE, ht, hl, hc, hb => by
  have he := hl e (by simp)
  have hr := List.pairwise_cons.1 hE
  obtain ⟨p1, p2, p3⟩ := y4b (f (decide (o > 0)) (decide (p > 0))) hc hb he
  have hz : ∀ y, y < e.a → ∀ i, z2y i (e :: r) y = 0 := fun y hy i => w2k i _ _ fun g hg => by
   rcases List.mem_cons.1 hg with rfl | hg
   ·exact hy
   ·have := hr.1 g hg; omega
  have main : ∀ (o' p' : Int), (∀ y, e.a ≤ y → o' + z2y 0 r y = o + z2y 0 (e :: r) y ∧ p' + z2y 1 r y = p + z2y 1 (e :: r) y) →
    Can (sw2 f r o' p' e.a (f (decide (o' > 0)) (decide (p' > 0))) (Vv out last (f (decide (o > 0)) (decide (p > 0))) e.a)) ∧
    ∀ y, pt (sw2 f r o' p' e.a (f (decide (o' > 0)) (decide (p' > 0))) (Vv out last (f (decide (o > 0)) (decide (p > 0))) e.a)) y ↔ pt out y ∨ (last ≤ y ∧ f (decide (o + z2y 0 (e :: r) y > 0)) (decide (p + z2y 1 (e :: r) y > 0)) = true ∧ ∃ g ∈ e :: r, y < g.a) := fun o' p' hop => by
   obtain ⟨q1, q2⟩ := x9y f r o' p' e.a (Vv out last (f (decide (o > 0)) (decide (p > 0))) e.a) hr.2 (fun g hg => ht g (by simp [hg])) hr.1 p1 p2
   refine ⟨q1, fun y => ?_⟩
   rw [q2, p3]
   constructor
   ·rintro ((h | ⟨h1, h2, h3⟩) | ⟨h1, h2, g, hg, h3⟩)
    ·exact .inl h
    ·refine .inr ⟨h2, ?_, e, by simp, h3⟩
     rw [hz y h3, hz y h3, Int.add_zero, Int.add_zero]; exact h1
    ·refine .inr ⟨by omega, ?_, g, by simp [hg], h3⟩
     obtain ⟨e1, e2⟩ := hop y h1
     rw [← e1, ← e2]; exact h2
   ·rintro (h | ⟨h1, h2, g, hg, h3⟩)
    ·exact .inl (.inl h)
    ·by_cases hy : e.a ≤ y
     ·right
      obtain ⟨e1, e2⟩ := hop y hy
      refine ⟨hy, by rw [e1, e2]; exact h2, g, ?_, h3⟩
      rcases List.mem_cons.1 hg with rfl | hg
      ·omega
      ·exact hg
     ·left; right
      rw [hz y (by omega), hz y (by omega), Int.add_zero, Int.add_zero] at h2
      exact ⟨h2, h1, by omega⟩
  show Can (sw2 f r _ _ _ _ _) ∧ ∀ y, pt (sw2 f r _ _ _ _ _) y ↔ _
  rcases ht e (by simp) with h0 | h0
  ·have hb0 : (e.b == 0) = true := by rw [h0]; rfl
   rw [hb0, cond_true, cond_true]
   refine main _ _ fun y hy => ⟨?_, ?_⟩
   ·rw [Vg, if_pos ⟨h0, hy⟩]; omega
   ·rw [Vg, if_neg (fun h => by have := h.1; omega)]; omega
  ·have hb0 : (e.b == 0) = false := by rw [h0]; rfl
   rw [hb0, cond_false, cond_false]
   refine main _ _ fun y hy => ⟨?_, ?_⟩
   ·rw [Vg, if_neg (fun h => by have := h.1; omega)]; omega
   ·rw [Vg, if_pos ⟨h0, hy⟩]; omega
instance ptDec (l : List R2) (y : Int) : Decidable (pt l y) := Classical.propDecidable _
theorem v3t (f : Bool → Bool → Bool) (hf : f false false = false) (a b : List R2) (ha : ∀ s ∈ a, s.a < s.b) (hb : ∀ s ∈ b, s.a < s.b) (E : List R3) (hp : E.Perm (Wy 0 a ++ Wy 1 b)) (hE : Asc E) :
  Can (sw2 f E 0 0 0 false []) ∧ ∀ y, pt (sw2 f E 0 0 0 false []) y ↔ f (decide (pt a y)) (decide (pt b y)) = true := by
 have hn : ∀ y, z2y 0 E y = z2y 0 (Wy 0 a) y ∧ z2y 1 E y = z2y 1 (Wy 1 b) y := fun y => by
  rw [y7p 0 hp, y7p 1 hp, y0v, y0v, y3n 0 1 (by decide), y3n 1 0 (by decide)]
  omega
 have hd : ∀ y, decide (z2y 0 E y > 0) = decide (pt a y) ∧ decide (z2y 1 E y > 0) = decide (pt b y) := fun y => by
  obtain ⟨e1, e2⟩ := hn y
  exact ⟨decide_eq_decide.2 (by rw [e1]; exact (y7q 0 a ha y).2), decide_eq_decide.2 (by rw [e2]; exact (y7q 1 b hb y).2)⟩
 have ht : Two E := fun e he => by
  rcases List.mem_append.1 (hp.mem_iff.1 he) with h | h
  ·obtain ⟨s, _, h⟩ := List.mem_flatMap.1 h
   simp only [List.mem_cons, List.not_mem_nil, or_false] at h
   rcases h with rfl | rfl <;> exact .inl rfl
  ·obtain ⟨s, _, h⟩ := List.mem_flatMap.1 h
   simp only [List.mem_cons, List.not_mem_nil, or_false] at h
   rcases h with rfl | rfl <;> exact .inr rfl
 have cover : ∀ y, f (decide (pt a y)) (decide (pt b y)) = true → ∃ e ∈ E, y < e.a ∧ ∃ g ∈ E, g.a ≤ y := fun y hy => by
  by_cases h1 : pt a y
  ·obtain ⟨s, hs, s1, s2⟩ := h1
   exact ⟨⟨s.b, 0, -1⟩, hp.mem_iff.2 (List.mem_append.2 (.inl (List.mem_flatMap.2 ⟨s, hs, by simp⟩))), s2, ⟨s.a, 0, 1⟩, hp.mem_iff.2 (List.mem_append.2 (.inl (List.mem_flatMap.2 ⟨s, hs, by simp⟩))), s1⟩
  ·by_cases h2 : pt b y
   ·obtain ⟨s, hs, s1, s2⟩ := h2
    exact ⟨⟨s.b, 1, -1⟩, hp.mem_iff.2 (List.mem_append.2 (.inr (List.mem_flatMap.2 ⟨s, hs, by simp⟩))), s2, ⟨s.a, 1, 1⟩, hp.mem_iff.2 (List.mem_append.2 (.inr (List.mem_flatMap.2 ⟨s, hs, by simp⟩))), s1⟩
   ·rw [decide_eq_false h1, decide_eq_false h2, hf] at hy; cases hy
 cases E with
 | nil =>
  refine ⟨.nil, fun y => ⟨fun ⟨s, hs, _⟩ => (by cases hs), fun hy => ?_⟩⟩
  obtain ⟨e, he, _⟩ := cover y hy
  cases he
 | cons e r =>
  have hr := List.pairwise_cons.1 hE
  have hz0 : f (decide ((0 : Int) > 0)) (decide ((0 : Int) > 0)) = false := hf
  have e0 : sw2 f (e :: r) 0 0 0 false [] = sw2 f (e :: r) 0 0 e.a (f (decide ((0 : Int) > 0)) (decide ((0 : Int) > 0))) [] := by
   rw [hz0]
   show sw2 f r _ _ _ _ (Vv [] 0 false e.a) = sw2 f r _ _ _ _ (Vv [] e.a false e.a)
   rfl
  rw [e0]
  obtain ⟨q1, q2⟩ := x9y f (e :: r) 0 0 e.a [] hE ht (fun g hg => by
   rcases List.mem_cons.1 hg with rfl | hg
   ·exact Int.le_refl _
   ·exact hr.1 g hg) .nil (by simp)
  refine ⟨q1, fun y => ?_⟩
  rw [q2, Int.zero_add, Int.zero_add, (hd y).1, (hd y).2]
  constructor
  ·rintro (⟨s, hs, _⟩ | ⟨_, h2, _⟩)
   ·cases hs
   ·exact h2
  ·intro hy
   obtain ⟨g, hg, h1, k, hk, h2⟩ := cover y hy
   refine .inr ⟨?_, hy, g, hg, h1⟩
   rcases List.mem_cons.1 hk with rfl | hk
   ·exact h2
   ·have h3 : e.a ≤ k.a := hr.1 k hk
    omega
end Go.Am
end
