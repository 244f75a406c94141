/- A part of a proof: several texts in one. -/
import Derived.Test.YtijpnpkolglajaaGreatKi4
set_option maxRecDepth 1000000
set_option maxHeartbeats 8000000
set_option linter.unusedVariables false
set_option linter.unusedSimpArgs false
noncomputable section
namespace Go.Am
open Go.Proofs Go.Sort Go.Shelf Go.RowKit Go.Lib
namespace Dim
variable {α β : Type} (D : Dim α β)
def ref (sec : Int → List β) (cs : List Int) : Nat → Nat → List α → List β → Nat → List α
 | 0, _, out, _, _ => out
 | k + 1, i, out, last, first =>
  bif decide (0 < i) && D.same (sec (rd cs i)) last then ref sec cs k (i + 1) (D.grow out first (rd cs (i + 1))) last first
  else ref sec cs k (i + 1) (out ++ (sec (rd cs i)).map (D.put (rd cs i) (rd cs (i + 1)))) (sec (rd cs i)) out.length
theorem ref_eq (hs : ∀ a b, D.same a b = true ↔ a = b) (l : List α) : ∀ (k i : Nat) (s : Sw α β) (out : List α) (last : List β) (first : Nat),
  s.out = out → s.last = last → (last ≠ [] → s.first = first) → (last = [] → out.length ≤ first) → (0 < i → s.fin = rd (D.cuts l) i) → (i = 0 → last = []) →
  (D.go l k i s).out = D.ref (D.sec l) (D.cuts l) k i out last first
 | 0, i, s, out, last, first, h1, h2, h3, h4, h5, h6 => h1
 | k + 1, i, s, out, last, first, h1, h2, h3, h4, h5, h6 => by
  subst h1 h2
  have e1 : D.go l (k + 1) i s = D.go l k (i + 1) (D.one l (rd (D.cuts l) i) (rd (D.cuts l) (i + 1)) s) := rfl
  rw [e1]
  unfold ref
  rcases Yr (decide (0 < (D.sec l (rd (D.cuts l) i)).length) && ((s.fin == rd (D.cuts l) i) && D.same s.last (D.sec l (rd (D.cuts l) i)))) with q | q
  ·have e : D.one l (rd (D.cuts l) i) (rd (D.cuts l) (i + 1)) s = ⟨D.grow s.out s.first (rd (D.cuts l) (i + 1)), s.last, s.first, rd (D.cuts l) (i + 1)⟩ := by unfold one; rw [q]; rfl
   simp only [Bool.and_eq_true, decide_eq_true_eq] at q
   obtain ⟨q1, q2, q3⟩ := q
   have q3 := (hs _ _).1 q3
   have hne : s.last ≠ [] := fun h => by rw [h] at q3; rw [← q3] at q1; exact Nat.lt_irrefl _ q1
   have hi : 0 < i := Nat.pos_of_ne_zero fun h => hne (h6 h)
   have e2 : (decide (0 < i) && D.same (D.sec l (rd (D.cuts l) i)) s.last) = true := by
    rw [decide_eq_true hi, Bool.true_and, hs, q3]
   rw [e2, cond_true, e]
   refine ref_eq hs l k (i + 1) _ _ _ _ ?_ rfl h3 (fun h => absurd h hne) (fun _ => rfl) (fun h => by omega)
   rw [h3 hne]
  ·have e : D.one l (rd (D.cuts l) i) (rd (D.cuts l) (i + 1)) s = ⟨s.out ++ (D.sec l (rd (D.cuts l) i)).map (D.put (rd (D.cuts l) i) (rd (D.cuts l) (i + 1))), D.sec l (rd (D.cuts l) i), s.out.length, rd (D.cuts l) (i + 1)⟩ := by unfold one; rw [q]; rfl
   rcases Yr (decide (0 < i) && D.same (D.sec l (rd (D.cuts l) i)) s.last) with q2 | q2
   ·rw [q2, cond_true, e]
    simp only [Bool.and_eq_true, decide_eq_true_eq] at q2
    obtain ⟨hi, q3⟩ := q2
    have q3 := (hs _ _).1 q3
    rw [(hs s.last (D.sec l (rd (D.cuts l) i))).2 q3.symm, Bool.and_true, h5 hi] at q
    have hz : D.sec l (rd (D.cuts l) i) = [] := by
     cases h : D.sec l (rd (D.cuts l) i) with
     | nil => rfl
     | cons a b => rw [h] at q; simp at q
    have hl : s.last = [] := by rw [← q3, hz]
    have hf := h4 hl
    rw [hz, List.map_nil, List.append_nil]
    refine ref_eq hs l k (i + 1) _ _ _ _ ?_ hl.symm (fun h => absurd hl h) (fun _ => ?_) (fun _ => rfl) (fun h => by omega)
    ·exact (D.grow_nil _ _ _ hf).symm
    ·rw [D.grow_length]; exact hf
   ·rw [q2, cond_false, e]
    exact ref_eq hs l k (i + 1) _ _ _ _ rfl rfl (fun _ => rfl) (fun h => by rw [h]; simp) (fun _ => rfl) (fun h => by omega)
theorem out_eq (hs : ∀ a b, D.same a b = true ↔ a = b) (l : List α) : D.out l = D.ref (D.sec l) (D.cuts l) ((D.cuts l).length - 1) 0 [] [] 0 :=
 D.ref_eq hs l _ 0 _ [] [] 0 rfl rfl (fun _ => rfl) (fun _ => Nat.le_refl _) (fun h => absurd h (Nat.lt_irrefl _)) (fun _ => rfl)
end Dim
theorem u1t (l : List R4) : D4.cuts l = xsV l [] := by
 unfold Dim.cuts xsV
 rw [x3t, show z1y ([] : List R4) = [] from rfl, List.append_nil]; rfl
theorem u1f (l : List R4) (x y : Int) : v1l 2 l [] x y = has4V l x y := by
 unfold v1l z0d
 show (has4V l x y || has4V [] x y) = _
 rw [show has4V [] x y = false from rfl, Bool.or_false]
theorem x2r {l : List R4} {x : Int} {s : R2} (h : s ∈ D4.inn l x) : ∃ r ∈ l, r.a ≤ x ∧ x < r.c ∧ s = ⟨r.b, r.d⟩ := by
 obtain ⟨r, hr, e⟩ := List.mem_map.1 h
 obtain ⟨h1, h2⟩ := List.mem_filter.1 hr
 simp only [Bool.and_eq_true, decide_eq_true_eq] at h2
 exact ⟨r, h1, h2.1, h2.2, e.symm⟩
theorem v7z {l : List R4} {x : Int} {r : R4} (h : r ∈ l) (h1 : r.a ≤ x) (h2 : x < r.c) : (⟨r.b, r.d⟩ : R2) ∈ D4.inn l x := by
 refine List.mem_map.2 ⟨r, List.mem_filter.2 ⟨h, ?_⟩, rfl⟩
 simp only [Bool.and_eq_true, decide_eq_true_eq]
 exact ⟨h1, h2⟩
theorem sec_eq (l : List R4) (hv : l.all z8x = true) (hl : l.length ≤ 400) (x : Int) : D4.sec l x = x5b 2 l [] x := by
 have hin := D4.inn_length l x
 have hvi : (D4.inn l x).all y2t = true := List.all_eq_true.2 fun s hs => by
  obtain ⟨r, hr, _, _, rfl⟩ := x2r hs
  have := List.all_eq_true.1 hv r hr
  simp only [z8x, y2t, Bool.and_eq_true, decide_eq_true_eq] at this ⊢
  omega
 have e1 : D4.sec l x = swV (D4.inn l x) := by
  show Wz (D4.inn l x) = _
  unfold Wz
  rw [decide_eq_false (by omega), hvi]; rfl
 obtain ⟨c1, c2⟩ := w1o _ hvi
 obtain ⟨y1, y2⟩ := y0f (z0y l ++ z0y [])
 have e2 : x5b 2 l [] x = z8o (ysV l []) ((ysV l []).map fun y => has4V l x y) := by
  unfold x5b
  congr 1
  exact List.map_congr_left fun y _ => u1f l x y
 obtain ⟨d1, d2⟩ := v1n (ysV l []) y1 (fun y => has4V l x y) (D4.inn l x) (fun s hs => by
  obtain ⟨r, hr, _, _, rfl⟩ := x2r hs
  unfold ysV
  exact ⟨(y2 _).2 (List.mem_append.2 (.inl (List.mem_flatMap.2 ⟨r, hr, by simp⟩))), (y2 _).2 (List.mem_append.2 (.inl (List.mem_flatMap.2 ⟨r, hr, by simp⟩)))⟩) (fun y => by
  unfold has4V
  rw [List.any_eq_true]
  constructor
  ·rintro ⟨r, hr, h⟩
   simp only [in4, Bool.and_eq_true, decide_eq_true_eq] at h
   exact ⟨_, v7z hr h.1 h.2.1, h.2.2.1, h.2.2.2⟩
  ·rintro ⟨s, hs, h1, h2⟩
   obtain ⟨r, hr, r1, r2, rfl⟩ := x2r hs
   refine ⟨r, hr, ?_⟩
   simp only [in4, Bool.and_eq_true, decide_eq_true_eq]
   exact ⟨r1, r2, h1, h2⟩)
 rw [e1, e2]
 exact v5l _ _ c1 d1 fun y => by rw [c2, d2]
theorem w4q (l : List R4) : ∀ (k i : Nat) (out : List R4) (last : List R2) (first : Nat), jF 2 l [] k i out last first = D4.ref (x5b 2 l []) (xsV l []) k i out last first
 | 0, _, _, _, _ => rfl
 | k + 1, i, out, last, first => by
  unfold jF Dim.ref
  rw [w4q l k, w4q l k]
  rfl
theorem joV_eq (l : List R4) (hv : l.all z8x = true) (hl : l.length ≤ 400) : D4.out l = joV 2 l [] := by
 rw [D4.out_eq (fun a b => decide_eq_true_iff) l, joV, w4q, ← u1t]
 congr 1
 funext x
 exact sec_eq l hv hl x
theorem w6y (l : List R6) : D6.cuts l = Yn l [] := by
 unfold Dim.cuts Yn
 rw [x3t, show z1x ([] : List R6) = [] from rfl, List.append_nil]; rfl
theorem v5u (l : List R6) (z : Int) : D6.inn l z = atV l z := rfl
theorem w1j (r : R6) : z6w r = x7k r := by
 unfold z6w x7k
 simp only [y1k, y1l]
 rw [Bool.eq_iff_iff]
 simp only [Bool.and_eq_true, decide_eq_true_eq]
 have m1 : ∀ x y z : Int, x ≤ min y z ↔ x ≤ y ∧ x ≤ z := fun x y z => by omega
 have m2 : ∀ x y z : Int, max y z ≤ x ↔ y ≤ x ∧ z ≤ x := fun x y z => by omega
 simp only [ge_iff_le, m1, m2]
 constructor <;> intro h <;> (repeat' apply And.intro) <;> omega
theorem w6h (l : List R6) (hv : l.all z6w = true) (z : Int) : (atV l z).all z8x = true := List.all_eq_true.2 fun s hs => by
 obtain ⟨r, hr, rfl⟩ := List.mem_map.1 hs
 have := List.all_eq_true.1 hv r (List.mem_filter.1 hr).1
 rw [w1j] at this
 simp only [x7k, Bool.and_eq_true, decide_eq_true_eq] at this
 show z8x ⟨r.a, r.b, r.d, r.e⟩ = true
 simp only [z8x, Bool.and_eq_true, decide_eq_true_eq]
 (repeat' apply And.intro) <;> omega
section
variable (l : List R6) (hv : l.all z6w = true) (hl : l.length ≤ 400)
include hv hl
theorem v5p (z : Int) : D4.out (atV l z) = joV 2 (atV l z) [] := joV_eq _ (w6h l hv z) (Nat.le_trans (z0x l z) hl)
theorem v5o (z : Int) : badS l z = z8n 2 l [] z := by
 have h1 := v5p l hv hl z
 have h2 := z0x l z
 have e : joV 2 (atV [] z) [] = [] := rfl
 unfold badS z8n y7e
 rw [e, show atV ([] : List R6) z = [] from rfl, v5u]
 unfold z3p
 rw [decide_eq_false (by omega), w6h l hv z, h1, cond_false, cond_true]
 by_cases h : 400 < (joV 2 (atV l z) []).length
 ·rw [decide_eq_true (show ((joV 2 (atV l z) []).length : Int) > 400 by omega), decide_eq_true h]; rfl
 ·rw [decide_eq_false (show ¬ ((joV 2 (atV l z) []).length : Int) > 400 by omega), decide_eq_false h]; rfl
theorem v6h (z : Int) (h : badS l z = false) : D6.sec l z = y7e 2 l [] z := by
 have h1 := v5p l hv hl z
 have h2 := z0x l z
 rw [v5o l hv hl] at h
 show Xd (D6.inn l z) = joV 2 (atV l z) (atV [] z)
 rw [v5u]
 unfold Xd
 have h3 : ¬ 400 < (joV 2 (atV l z) []).length := fun hh => by
  unfold z8n y7e at h
  rw [show atV ([] : List R6) z = [] from rfl, decide_eq_true hh] at h
  cases h
 rw [decide_eq_false (by omega), w6h l hv z, h1, cond_false, cond_true, decide_eq_false (by omega)]
 rfl
theorem x2n : ∀ (k i : Nat) (out : List R6) (last : List R4) (first : Nat), jsF 2 l [] k i out last first = bif okF l k i then some (D6.ref (D6.sec l) (D6.cuts l) k i out last first) else none
 | 0, _, _, _, _ => rfl
 | k + 1, i, out, last, first => by
  unfold jsF okF Dim.ref
  rw [← w6y, ← v5o l hv hl]
  rcases Yr (badS l (rd (D6.cuts l) i)) with q | q
  ·rw [q]; rfl
  ·have := v6h l hv hl _ q
   rw [q, cond_false, cond_false, this, x2n k, x2n k]
   have e : D6.same (y7e 2 l [] (rd (D6.cuts l) i)) last = Qi (y7e 2 l [] (rd (D6.cuts l) i)) last := rfl
   rw [e]
   cases (decide (0 < i) && Qi (y7e 2 l [] (rd (D6.cuts l) i)) last) <;> rfl
theorem jsO_eq : jsO 2 l [] = bif okF l ((D6.cuts l).length - 1) 0 then some (D6.out l) else none := by
 unfold jsO
 rw [x2n l hv hl, ← w6y, D6.out_eq (fun a b => decide_eq_true_iff) l]
end
theorem v1m (l : List R6) : Xn l = Xg l := by
 unfold Xn Xg
 by_cases h : 400 < l.length
 ·rw [decide_eq_true h]; rfl
 ·rw [decide_eq_false h, cond_false, cond_false, show l.all x7k = l.all z6w from by congr 1; funext r; exact (w1j r).symm]
  rcases Yr (l.all z6w) with hv | hv
  ·rw [hv, cond_true, cond_true]
   unfold rckF y9c z4h
   rw [jsO_eq l hv (by omega)]
   rcases Yr (okF l ((D6.cuts l).length - 1) 0) with q | q
   ·rw [q, cond_true, cond_true]
    show _ = bif decide (((D6.out l).length : Int) ≤ 400) then (bif Ky (D6.out l) l then 0 else 8) else 8
    by_cases h2 : ((D6.out l).length : Int) > 400
    ·rw [decide_eq_true h2, decide_eq_false (by omega)]; rfl
    ·rw [decide_eq_false h2, decide_eq_true (by omega)]; rfl
   ·rw [q]; rfl
  ·rw [hv]; rfl
end Go.Am
namespace Go.Am
open Go.Proofs.Tryz
open Go.Proofs
inductive blkS where
 | h0 (v3 : List R6) (v8 : Int)
def blkC (l0 : List R6) : blkS → Cfg
 | .h0 v3 v8 => ⟨⟨38, 0, true⟩, none, (Yw prog 61 [1, 1, 0, 1, 0, 0] 0), none, (Zy prog 15), ⟨Xp [(3, (.sla 0 6 0 v3.length (.un 6))), (6, (.dat l0.length (Zz l0))), (7, (ii (l0.length : Int))), (8, (ii v8))], Ux [⟨rows v3.length (Zz v3), 130, some ⟨6, v3.length, (Zz v3)⟩⟩] 0, 1, [], true⟩, [], .leaf⟩
def blkN0 : List (Option (List Nat)) := [some [3, 6, 7, 8]]
def blkM0 : List (Option (List Nat)) := []
def z7q (l0 : List R6) : blkS → Wu blkS
 | .h0 v3 v8 => (bif (decide (v8 < (l0.length : Int))) then (bif ((decide (0 ≤ v8 ∧ v8 < (l0.length : Int))) && true) then (bif (Nat.beq 6 6 && ((decide (0 + v3.length = v3.length)) && decide ((v3.length + 1 + 1) * (48 + 1) ≤ Uq))) then (.to (.h0 (v3 ++ [(R6.mk (rd l0 v8.toNat).a (rd l0 v8.toNat).b (rd l0 v8.toNat).c (rd l0 v8.toNat).d (rd l0 v8.toNat).e (rd l0 v8.toNat).f)]) (IntKind.wrap .i64 (v8 + 1)))) else .stuck) else .stuck) else (.ret [(.dat v3.length (Zz v3))]))
def y6p (l0 : List R6) : Wu blkS := (.to (.h0 ([] : List R6) 0))
theorem w0j (l0 : List R6) : ∀ s, Wm prog (Zy prog 61) (blkC l0) (blkC l0 s) (z7q l0 s)
 | .h0 v3 v8 => (lb (fun k0 => (lo fun o0 => (lo fun o1 => (sl Vk 49 [] ⟨[3], [], blkN0, blkM0⟩ ⟨[(3, .len (v3 ++ [(R6.mk (rd l0 (tn v8)).a (rd l0 (tn v8)).b (rd l0 (tn v8)).c (rd l0 (tn v8)).d (rd l0 (tn v8)).e (rd l0 (tn v8)).f)]).length)], [.rowed 6 (v3 ++ [(R6.mk (rd l0 (tn v8)).a (rd l0 (tn v8)).b (rd l0 (tn v8)).c (rd l0 (tn v8)).d (rd l0 (tn v8)).e (rd l0 (tn v8)).f)]).length (Zz (v3 ++ [(R6.mk (rd l0 (tn v8)).a (rd l0 (tn v8)).b (rd l0 (tn v8)).c (rd l0 (tn v8)).d (rd l0 (tn v8)).e (rd l0 (tn v8)).f)]))], []⟩ [true] (pp (xL (v3.length + 1) (v3 ++ [(R6.mk (rd l0 (tn v8)).a (rd l0 (tn v8)).b (rd l0 (tn v8)).c (rd l0 (tn v8)).d (rd l0 (tn v8)).e (rd l0 (tn v8)).f)]).length) (pp (xL (v3.length + 1) (v3 ++ [(R6.mk (rd l0 (tn v8)).a (rd l0 (tn v8)).b (rd l0 (tn v8)).c (rd l0 (tn v8)).d (rd l0 (tn v8)).e (rd l0 (tn v8)).f)]).length) (pp (xS (v3.length + 1) (Za (Zz v3) 0 v3.length 6 [(ii (rd l0 (tn v8)).a), (ii (rd l0 (tn v8)).b), (ii (rd l0 (tn v8)).c), (ii (rd l0 (tn v8)).d), (ii (rd l0 (tn v8)).e), (ii (rd l0 (tn v8)).f)]) (Zz (v3 ++ [(R6.mk (rd l0 (tn v8)).a (rd l0 (tn v8)).b (rd l0 (tn v8)).c (rd l0 (tn v8)).d (rd l0 (tn v8)).e (rd l0 (tn v8)).f)]))) (pp (pp (xF (Za (Zz v3) 0 v3.length 6 [(ii (rd l0 (tn v8)).a), (ii (rd l0 (tn v8)).b), (ii (rd l0 (tn v8)).c), (ii (rd l0 (tn v8)).d), (ii (rd l0 (tn v8)).e), (ii (rd l0 (tn v8)).f)])) nn) (ww o1 (ww o0 (tt k0 nn))))))))))) (fun k0 => (lr 38 3 [1, 1, 1, 1, 1, 1, 0] 1 15 [(2, (.dat v3.length (Zz v3)))] (sl Vk 12 [] ⟨[], [0], [some [2]], []⟩ ⟨[(2, .frz v3.length v3.length (Zz v3) (Zz v3))], [], []⟩ [false] (pp (xZ (z6s 6 6 0 v3.length v3.length (Zz v3)) v3.length (Zz v3)) (pp (xL v3.length v3.length) (pp (xS v3.length (Zz v3) (Zz v3)) (pp (fl v3 nn) (tt k0 nn)))))))))
theorem x4e (l0 : List R6) : Wm prog (Zy prog 61) (blkC l0) (Zd prog 61 [(.dat l0.length (Zz l0))] true []) (y6p l0) := (sl Vk 17 [(130, 6, Zz ([] : List R6))] ⟨[0], [], blkN0, blkM0⟩ ⟨[(3, .grow 0 6)], [], []⟩ [] (pp (fl ([] : List R6) nn) nn))
theorem v1q (l0 : List R6) (n : Nat) (vs : List AVal) (h : Yj (z7q l0) n (y6p l0) = .ret vs) : Kv prog (Zy prog 61) (Zd prog 61 [(.dat l0.length (Zz l0))] true []) vs := by
 have := Zn (w0j l0) n _ (x4e l0)
 rwa [h] at this
inductive volS where
 | h0 (v3 : Int) (v10 : Int)
def volC (l0 : List R6) : volS → Cfg
 | .h0 v3 v10 => ⟨⟨35, 0, true⟩, none, (Yw prog 62 [1, 1, 0, 1, 0, 0] 0), none, (Zy prog 15), ⟨Xp [(3, (ii v3)), (8, (.dat l0.length (Zz l0))), (9, (ii (l0.length : Int))), (10, (ii v10))], Ux [] 0, 0, [], true⟩, [], .leaf⟩
def volN0 : List (Option (List Nat)) := [some [3, 8, 9, 10]]
def volM0 : List (Option (List Nat)) := []
def z6v (l0 : List R6) : volS → Wu volS
 | .h0 v3 v10 => (bif (decide (v10 < (l0.length : Int))) then (bif ((decide (0 ≤ v10 ∧ v10 < (l0.length : Int))) && true) then (.to (.h0 (IntKind.wrap .i64 (v3 + (IntKind.wrap .i64 ((IntKind.wrap .i64 ((IntKind.wrap .i64 (1 * (IntKind.wrap .i64 ((rd l0 v10.toNat).d - (rd l0 v10.toNat).a)))) * (IntKind.wrap .i64 ((rd l0 v10.toNat).e - (rd l0 v10.toNat).b)))) * (IntKind.wrap .i64 ((rd l0 v10.toNat).f - (rd l0 v10.toNat).c)))))) (IntKind.wrap .i64 (v10 + 1)))) else .stuck) else (.ret [(.int .i64 v3)]))
def y4w (l0 : List R6) : Wu volS := (.to (.h0 0 0))
theorem x7h (l0 : List R6) : ∀ s, Wm prog (Zy prog 62) (volC l0) (volC l0 s) (z6v l0 s)
 | .h0 v3 v10 => (lb (fun k0 => (lo fun o0 => (sl Vk 221 [] ⟨[], [], volN0, volM0⟩ ⟨[], [], []⟩ [true, true, false, false, false, true, true, false, true, false, true, false, true, true, true, false, true, true, false, true, true, false, false, true, true, true, false] (ww o0 (tt k0 nn))))) (fun k0 => (lr 35 3 [1, 1, 1, 1, 1, 1, 0] 1 15 [(2, (ii v3))] (sl Vk 12 [] ⟨[], [], [some [2]], []⟩ ⟨[], [], []⟩ [false] (tt k0 nn)))))
theorem x0g (l0 : List R6) : Wm prog (Zy prog 62) (volC l0) (Zd prog 62 [(.dat l0.length (Zz l0))] true []) (y4w l0) := (sl Vk 17 [] ⟨[], [], volN0, volM0⟩ ⟨[], [], []⟩ [] nn)
theorem w7g (l0 : List R6) (n : Nat) (vs : List AVal) (h : Yj (z6v l0) n (y4w l0) = .ret vs) : Kv prog (Zy prog 62) (Zd prog 62 [(.dat l0.length (Zz l0))] true []) vs := by
 have := Zn (x7h l0) n _ (x0g l0)
 rwa [h] at this
inductive comS where
 | h0 (v5 : List R6) (v14 : Int)
 | h1 (v5 : List R6) (v14 : Int) (v20 : Int) (aA : Int) (aD : Int) (aF : Int) (aH : Int) (aJ : Int) (bL : Int)
def comC (l0 : List R6) (l1 : List R6) : comS → Cfg
 | .h0 v5 v14 => ⟨⟨38, 0, true⟩, none, (Yw prog 67 [1, 1, 0, 1, 0, 0] 0), none, (Zy prog 3), ⟨Xp [(1, (.dat l1.length (Zz l1))), (5, (.sla 0 6 0 v5.length (.un 6))), (12, (.dat l0.length (Zz l0))), (13, (ii (l0.length : Int))), (14, (ii v14))], Ux [⟨rows v5.length (Zz v5), 130, some ⟨6, v5.length, (Zz v5)⟩⟩] 0, 1, [], true⟩, [], .leaf⟩
 | .h1 v5 v14 v20 aA aD aF aH aJ bL => ⟨⟨38, 0, true⟩, none, (Yw prog 67 [1, 1, 0, 1, 0, 0, 1, 1, 0, 0, 1, 1, 0, 0] 0), none, (Zy prog 3), ⟨Xp [(1, (.dat l1.length (Zz l1))), (5, (.sla 1 6 0 v5.length (.un 6))), (7, (.ptr 0 0)), (12, (.dat l0.length (Zz l0))), (13, (ii (l0.length : Int))), (14, (ii v14)), (18, (.dat l1.length (Zz l1))), (19, (ii (l1.length : Int))), (20, (ii v20))], Ux [⟨[(ii aA), (ii aD), (ii aF), (ii aH), (ii aJ), (ii bL)], 130, none⟩, ⟨rows v5.length (Zz v5), 130, some ⟨6, v5.length, (Zz v5)⟩⟩] 0, 2, [], true⟩, [], .leaf⟩
def comN0 : List (Option (List Nat)) := [some [1, 5, 12, 13, 14]]
def comM0 : List (Option (List Nat)) := []
def w5w : List (Option (List Nat)) := [some [1, 5, 7, 12, 13, 14, 18, 19, 20]]
def w5x : List (Option (List Nat)) := []
def Ja (l0 : List R6) (l1 : List R6) : comS → Wu comS
 | .h0 v5 v14 => (bif (decide (v14 < (l0.length : Int))) then (bif ((decide (0 ≤ v14 ∧ v14 < (l0.length : Int))) && true) then (.to (.h1 v5 v14 0 (rd l0 v14.toNat).a (rd l0 v14.toNat).b (rd l0 v14.toNat).c (rd l0 v14.toNat).d (rd l0 v14.toNat).e (rd l0 v14.toNat).f)) else .stuck) else (.ret [(.dat v5.length (Zz v5))]))
 | .h1 v5 v14 v20 aA aD aF aH aJ bL => (bif (decide (v20 < (l1.length : Int))) then (bif ((decide (0 ≤ v20 ∧ v20 < (l1.length : Int))) && true) then (bif (decide ((Qm aA (rd l1 v20.toNat).a) ≥ (Qp aH (rd l1 v20.toNat).d))) then (.to (.h1 v5 v14 (IntKind.wrap .i64 (v20 + 1)) aA aD aF aH aJ bL)) else (bif (decide ((Qm aD (rd l1 v20.toNat).b) ≥ (Qp aJ (rd l1 v20.toNat).e))) then (.to (.h1 v5 v14 (IntKind.wrap .i64 (v20 + 1)) aA aD aF aH aJ bL)) else (bif (decide ((Qm aF (rd l1 v20.toNat).c) ≥ (Qp bL (rd l1 v20.toNat).f))) then (.to (.h1 v5 v14 (IntKind.wrap .i64 (v20 + 1)) aA aD aF aH aJ bL)) else (bif (Nat.beq 6 6 && ((decide (0 + v5.length = v5.length)) && decide ((v5.length + 1 + 1) * (48 + 1) ≤ Uq))) then (.to (.h1 (v5 ++ [(R6.mk (Qm aA (rd l1 v20.toNat).a) (Qm aD (rd l1 v20.toNat).b) (Qm aF (rd l1 v20.toNat).c) (Qp aH (rd l1 v20.toNat).d) (Qp aJ (rd l1 v20.toNat).e) (Qp bL (rd l1 v20.toNat).f))]) v14 (IntKind.wrap .i64 (v20 + 1)) aA aD aF aH aJ bL)) else .stuck)))) else .stuck) else (.to (.h0 v5 (IntKind.wrap .i64 (v14 + 1)))))
def y6m (l0 : List R6) (l1 : List R6) : Wu comS := (.to (.h0 ([] : List R6) 0))
theorem w0g (l0 : List R6) (l1 : List R6) : ∀ s, Wm prog (Zy prog 67) (comC l0 l1) (comC l0 l1 s) (Ja l0 l1 s)
 | .h0 v5 v14 => (lb (fun k0 => (lo fun o0 => (sl Vk 24 [] ⟨[1, 0], [], w5w, w5x⟩ ⟨[], [], []⟩ [true] (pp (fl v5 nn) (ww o0 (tt k0 nn)))))) (fun k0 => (lr 38 3 [1, 1, 1, 1, 1, 1, 0] 1 3 [(4, (.dat v5.length (Zz v5)))] (sl Vk 12 [] ⟨[], [0], [some [4]], []⟩ ⟨[(4, .frz v5.length v5.length (Zz v5) (Zz v5))], [], []⟩ [false] (pp (xZ (z6s 6 6 0 v5.length v5.length (Zz v5)) v5.length (Zz v5)) (pp (xL v5.length v5.length) (pp (xS v5.length (Zz v5) (Zz v5)) (pp (fl v5 nn) (tt k0 nn)))))))))
 | .h1 v5 v14 v20 aA aD aF aH aJ bL => (lb (fun k0 => (lo fun aG => (lb (fun k1 => (sl Vk 82 [] ⟨[0, 1], [], w5w, w5x⟩ ⟨[], [], []⟩ [true, true, false, false, false, false, false, false, false, false, true, false] (pp (fl v5 nn) (tt k1 (ww aG (tt k0 nn)))))) (fun k1 => (lb (fun k2 => (sl Vk 110 [] ⟨[0, 1], [], w5w, w5x⟩ ⟨[], [], []⟩ [true, true, false, false, false, false, false, false, false, false, false, true, true, false, true, false, true, false, true, false, true, false, true, false, true, false, true, false, true, false] (pp (fl v5 nn) (tt k2 (tt k1 (ww aG (tt k0 nn))))))) (fun k2 => (lb (fun k3 => (sl Vk 138 [] ⟨[0, 1], [], w5w, w5x⟩ ⟨[], [], []⟩ [true, true, false, false, false, false, false, false, false, false, false, true, true, false, true, false, true, false, true, false, true, false, true, false, true, false, true, false, false, true, true, true, false, true, true, false, true, true, false, true, true, false, true, true, false, true, true, false, true, true, false, true, true, false, true, false] (pp (fl v5 nn) (tt k3 (tt k2 (tt k1 (ww aG (tt k0 nn)))))))) (fun k3 => (lo fun o0 => (sl Vk 158 [] ⟨[0, 8], [], w5w, w5x⟩ ⟨[(5, .len (v5 ++ [(R6.mk (Qm aA (rd l1 (tn v20)).a) (Qm aD (rd l1 (tn v20)).b) (Qm aF (rd l1 (tn v20)).c) (Qp aH (rd l1 (tn v20)).d) (Qp aJ (rd l1 (tn v20)).e) (Qp bL (rd l1 (tn v20)).f))]).length)], [.keep, .rowed 6 (v5 ++ [(R6.mk (Qm aA (rd l1 (tn v20)).a) (Qm aD (rd l1 (tn v20)).b) (Qm aF (rd l1 (tn v20)).c) (Qp aH (rd l1 (tn v20)).d) (Qp aJ (rd l1 (tn v20)).e) (Qp bL (rd l1 (tn v20)).f))]).length (Zz (v5 ++ [(R6.mk (Qm aA (rd l1 (tn v20)).a) (Qm aD (rd l1 (tn v20)).b) (Qm aF (rd l1 (tn v20)).c) (Qp aH (rd l1 (tn v20)).d) (Qp aJ (rd l1 (tn v20)).e) (Qp bL (rd l1 (tn v20)).f))]))], []⟩ [true, true, false, false, false, false, false, false, false, false, false, true, true, false, true, false, true, false, true, false, true, false, true, false, true, false, true, false, false, true, true, true, false, true, true, false, true, true, false, true, true, false, true, true, false, true, true, false, true, true, false, true, true, false, false, false, true] (pp (xL (v5.length + 1) (v5 ++ [(R6.mk (Qm aA (rd l1 (tn v20)).a) (Qm aD (rd l1 (tn v20)).b) (Qm aF (rd l1 (tn v20)).c) (Qp aH (rd l1 (tn v20)).d) (Qp aJ (rd l1 (tn v20)).e) (Qp bL (rd l1 (tn v20)).f))]).length) (pp (xL (v5.length + 1) (v5 ++ [(R6.mk (Qm aA (rd l1 (tn v20)).a) (Qm aD (rd l1 (tn v20)).b) (Qm aF (rd l1 (tn v20)).c) (Qp aH (rd l1 (tn v20)).d) (Qp aJ (rd l1 (tn v20)).e) (Qp bL (rd l1 (tn v20)).f))]).length) (pp (xS (v5.length + 1) (Za (Zz v5) 0 v5.length 6 [(ii (Qm aA (rd l1 (tn v20)).a)), (ii (Qm aD (rd l1 (tn v20)).b)), (ii (Qm aF (rd l1 (tn v20)).c)), (ii (Qp aH (rd l1 (tn v20)).d)), (ii (Qp aJ (rd l1 (tn v20)).e)), (ii (Qp bL (rd l1 (tn v20)).f))]) (Zz (v5 ++ [(R6.mk (Qm aA (rd l1 (tn v20)).a) (Qm aD (rd l1 (tn v20)).b) (Qm aF (rd l1 (tn v20)).c) (Qp aH (rd l1 (tn v20)).d) (Qp aJ (rd l1 (tn v20)).e) (Qp bL (rd l1 (tn v20)).f))]))) (pp (pp (xF (Za (Zz v5) 0 v5.length 6 [(ii (Qm aA (rd l1 (tn v20)).a)), (ii (Qm aD (rd l1 (tn v20)).b)), (ii (Qm aF (rd l1 (tn v20)).c)), (ii (Qp aH (rd l1 (tn v20)).d)), (ii (Qp aJ (rd l1 (tn v20)).e)), (ii (Qp bL (rd l1 (tn v20)).f))])) nn) (ww o0 (tt k3 (tt k2 (tt k1 (ww aG (tt k0 nn)))))))))))))))))))) (fun k0 => (sl Vk 13 [] ⟨[1], [], comN0, comM0⟩ ⟨[], [], []⟩ [false] (pp (fl v5 nn) (tt k0 nn)))))
theorem x3z (l0 : List R6) (l1 : List R6) : Wm prog (Zy prog 67) (comC l0 l1) (Zd prog 67 [(.dat l0.length (Zz l0)), (.dat l1.length (Zz l1))] true []) (y6m l0 l1) := (sl Vk 17 [(130, 6, Zz ([] : List R6))] ⟨[0], [], comN0, comM0⟩ ⟨[(5, .grow 0 6)], [], []⟩ [] (pp (fl ([] : List R6) nn) nn))
theorem v1j (l0 : List R6) (l1 : List R6) (n : Nat) (vs : List AVal) (h : Yj (Ja l0 l1) n (y6m l0 l1) = .ret vs) : Kv prog (Zy prog 67) (Zd prog 67 [(.dat l0.length (Zz l0)), (.dat l1.length (Zz l1))] true []) vs := by
 have := Zn (w0g l0 l1) n _ (x3z l0 l1)
 rwa [h] at this
end Go.Am
namespace Go.Am
open Go.Proofs.Tryz
open Go.Proofs
def Wj (l : List R6) : List R6 := l
def z0w (l : List R6) : Bool := decide (l.length ≤ 10000)
theorem v5n (l : List R6) (hl : l.length ≤ 10000) : ∀ (k i : Nat) (out : List R6), i + k = l.length → out = l.take i → ∃ N, Yj (z7q l) N (.to (.h0 out (i : Int))) = .ret [.dat l.length (Zz l)]
 | 0, i, out, h, ho => by
  refine ⟨1, ?_⟩
  rw [List.take_of_length_le (by omega)] at ho
  subst ho
  rw [Zv]
  simp (disch := omega) only [z7q, Xx, Yf, Zt, Zo, Xe, Ym, Ye, Yg, Yy, Zj, Zr, decide_true, Zw, Ya, Zk, Nat.zero_add, Bool.and_true, Bool.true_and, cond_true, cond_false, Bool.not_true, Bool.not_false, Zp, Zg, Zm]
 | k + 1, i, out, h, ho => by
  have hi : i < l.length := by omega
  have dA : out.length = i := by rw [ho, List.length_take]; omega
  obtain ⟨N, hN⟩ := v5n l hl k (i + 1) (out ++ [rd l i]) (by omega) (by rw [ho, Xi hi, List.take_append_getElem])
  refine ⟨N + 1, ?_⟩
  rw [Zv]
  simp (disch := omega) only [z7q, Xx, Yf, Zt, Zo, Xe, Ym, Ye, Yg, Yy, Zj, Zr, decide_true, Zw, Ya, Zk, Nat.zero_add, Bool.and_true, Bool.true_and, cond_true, cond_false, Bool.not_true, Bool.not_false, Zp, Zg, Zm]
  exact hN
theorem u1g (l : List R6) (h : z0w l = true) : ∃ N, Yj (z7q l) N (y6p l) = .ret [.dat (Wj l).length (Zz (Wj l))] :=
 v5n l (of_decide_eq_true h) l.length 0 [] (Nat.zero_add _) rfl
def vol1 (r : R6) : Int := IntKind.wrap .i64 (IntKind.wrap .i64 (IntKind.wrap .i64 (1 * IntKind.wrap .i64 (r.d - r.a)) * IntKind.wrap .i64 (r.e - r.b)) * IntKind.wrap .i64 (r.f - r.c))
def v2a : List R6 → Int → Int
 | [], s => s
 | r :: l, s => v2a l (IntKind.wrap .i64 (s + vol1 r))
def z2a (l : List R6) : Int := v2a l 0
def Vd (l : List R6) : Bool := decide (l.length ≤ 100000000)
theorem v1z (l : List R6) (hl : l.length ≤ 100000000) : ∀ (k i : Nat) (s : Int), i + k = l.length → ∃ N, Yj (z6v l) N (.to (.h0 s (i : Int))) = .ret [.int .i64 (v2a (l.drop i) s)]
 | 0, i, s, h => by
  refine ⟨1, ?_⟩
  rw [Zv, List.drop_eq_nil_of_le (by omega)]
  simp (disch := omega) only [z6v, v2a, Xx, Yf, Zt, Zo, Xe, Ym, Ye, Yg, Yy, Zj, Zr, decide_true, Zw, Ya, Zk, Nat.zero_add, Bool.and_true, Bool.true_and, cond_true, cond_false, Bool.not_true, Bool.not_false, Zp, Zg, Zm]
 | k + 1, i, s, h => by
  have hi : i < l.length := by omega
  obtain ⟨N, hN⟩ := v1z l hl k (i + 1) (IntKind.wrap .i64 (s + vol1 (rd l i))) (by omega)
  refine ⟨N + 1, ?_⟩
  rw [Zv, Yi hi]
  simp (disch := omega) only [z6v, v2a, Zt, Yy, Zw, Zk, Bool.and_true, cond_true]
  rw [Zj (n := ((i + 1 : Nat) : Int)) (by omega)]
  exact hN
theorem v5v (l : List R6) (h : Vd l = true) : ∃ N, Yj (z6v l) N (y4w l) = .ret [.int .i64 (z2a l)] :=
 v1z l (of_decide_eq_true h) l.length 0 0 (Nat.zero_add _)
theorem v5y (r : R6) : Cg (vol1 r) (bxV r) := by
 unfold vol1 bxV
 refine (((Cg.mul ?_ (Cg.wrap _)).w.mul (Cg.wrap _)).w)
 have h : Cg (1 * IntKind.wrap .i64 (r.d - r.a)) (1 * (r.d - r.a)) := Cg.mul (Cg.refl 1) (Cg.wrap _)
 exact h.w.trans (by rw [Int.one_mul]; exact Cg.refl _)
theorem w1h : ∀ (l : List R6) (s s' : Int), Cg s s' → Cg (v2a l s) (s' + sm l bxV)
 | [], s, s', h => by rw [w2a, Int.add_zero]; exact h
 | r :: l, s, s', h => by
  rw [Uy, ← Int.add_assoc]
  exact w1h l _ _ (h.add (v5y r)).w
theorem w1f (l : List R6) : Cg (z2a l) (sm l bxV) := by
 have := w1h l 0 0 (Cg.refl 0)
 rwa [Int.zero_add] at this
theorem w1g : ∀ (l : List R6) (s : Int), (-9223372036854775808 ≤ s ∧ s ≤ 9223372036854775807) → -9223372036854775808 ≤ v2a l s ∧ v2a l s ≤ 9223372036854775807
 | [], s, h => h
 | r :: l, s, h => w1g l _ (w1c _)
theorem v5w (l : List R6) : -9223372036854775808 ≤ z2a l ∧ z2a l ≤ 9223372036854775807 := w1g l 0 (by omega)
theorem w1e {l : List R6} {n : Int} (h : sm l bxV = n) (hn : -9223372036854775808 ≤ n ∧ n ≤ 9223372036854775807) : z2a l = n := by
 subst h; exact (w1f l).is (v5w l) hn
def Ji (X Y : List R6) : Bool := decide (X.length ≤ 10000 ∧ Y.length ≤ 10000)
theorem z7o (X Y : List R6) : (Yq X Y).length ≤ X.length * Y.length := by
 unfold Yq
 induction X with
 | nil => simp
 | cons x X ih =>
  rw [List.flatMap_cons, List.length_append, List.length_cons, Nat.add_mul, Nat.one_mul]
  have := List.length_filterMap_le (Qx x) Y
  omega
section
variable (X Y : List R6) (hX : X.length ≤ 10000) (hY : Y.length ≤ 10000)
include hX hY
omit hX in
theorem y9n (i : Nat) (x : R6) : ∀ (k j : Nat) (out : List R6), j + k = Y.length → out.length ≤ i * 10000 + j → i ≤ 10000 →
  ∃ n, ∀ N, Yj (Ja X Y) (N + n) (.to (.h1 out (i : Int) (j : Int) x.a x.b x.c x.d x.e x.f)) = Yj (Ja X Y) N (.to (.h0 (out ++ (Y.drop j).filterMap (Qx x)) ((i + 1 : Nat) : Int)))
 | 0, j, out, h, ho, hi => by
  refine ⟨1, fun N => ?_⟩
  rw [Zv, List.drop_eq_nil_of_le (by omega), List.filterMap_nil, List.append_nil]
  simp (disch := omega) only [Ja, Xx, Yf, Zt, Zo, Xe, Ym, Ye, Yg, Yy, Zj, Zr, decide_true, Zw, Ya, Zk, Nat.zero_add, Bool.and_true, Bool.true_and, cond_true, cond_false, Bool.not_true, Bool.not_false, Zp, Zg, Zm]
 | k + 1, j, out, h, ho, hi => by
  have hj : j < Y.length := by omega
  rw [Yi hj, List.filterMap_cons]
  have hin : decide (0 ≤ (j : Int) ∧ (j : Int) < (Y.length : Int)) = true := decide_eq_true (by omega)
  have hlt : decide ((j : Int) < (Y.length : Int)) = true := decide_eq_true (by omega)
  have dE : decide ((out.length + 1 + 1) * (48 + 1) ≤ Uq) = true := Zr (by omega)
  by_cases h1 : max x.a (rd Y j).a < min x.d (rd Y j).d
  ·by_cases h2 : max x.b (rd Y j).b < min x.e (rd Y j).e
   ·by_cases h3 : max x.c (rd Y j).c < min x.f (rd Y j).f
    ·have hm : Qx x (rd Y j) = some ⟨max x.a (rd Y j).a, max x.b (rd Y j).b, max x.c (rd Y j).c, min x.d (rd Y j).d, min x.e (rd Y j).e, min x.f (rd Y j).f⟩ := by
      unfold Qx; rw [decide_eq_true h1, decide_eq_true h2, decide_eq_true h3]; rfl
     obtain ⟨n, hn⟩ := y9n i x k (j + 1) (out ++ [⟨max x.a (rd Y j).a, max x.b (rd Y j).b, max x.c (rd Y j).c, min x.d (rd Y j).d, min x.e (rd Y j).e, min x.f (rd Y j).f⟩]) (by omega) (by simp; omega) hi
     refine ⟨n + 1, fun N => ?_⟩
     have := hn N
     rw [hm]
     simp only []
     rw [← Nat.add_assoc, Zv]
     simp (disch := omega) only [Ja, hin, hlt, dE, y1l, y1k, z7n, Xx, Yf, Zt, Zo, Xe, Ym, Ye, Yg, Yy, Zj, Zr, decide_true, Zw, Ya, Zk, Nat.zero_add, Bool.and_true, Bool.true_and, cond_true, cond_false, Bool.not_true, Bool.not_false, Zp, Zg, Zm]
     rw [List.append_assoc] at this
     exact this
    ·have hm : Qx x (rd Y j) = none := by
      unfold Qx; rw [decide_eq_true h1, decide_eq_true h2, decide_eq_false h3]; rfl
     obtain ⟨n, hn⟩ := y9n i x k (j + 1) out (by omega) (by omega) hi
     refine ⟨n + 1, fun N => ?_⟩
     have := hn N
     rw [hm]
     simp only []
     rw [← Nat.add_assoc, Zv]
     simp (disch := omega) only [Ja, hin, hlt, dE, y1l, y1k, z7n, z6e, Xx, Yf, Zt, Zo, Xe, Ym, Ye, Yg, Yy, Zj, Zr, decide_true, Zw, Ya, Zk, Nat.zero_add, Bool.and_true, Bool.true_and, cond_true, cond_false, Bool.not_true, Bool.not_false, Zp, Zg, Zm]
     exact this
   ·have hm : Qx x (rd Y j) = none := by
     unfold Qx; rw [decide_eq_true h1, decide_eq_false h2]; rfl
    obtain ⟨n, hn⟩ := y9n i x k (j + 1) out (by omega) (by omega) hi
    refine ⟨n + 1, fun N => ?_⟩
    have := hn N
    rw [hm]
    simp only []
    rw [← Nat.add_assoc, Zv]
    simp (disch := omega) only [Ja, hin, hlt, dE, y1l, y1k, z7n, z6e, Xx, Yf, Zt, Zo, Xe, Ym, Ye, Yg, Yy, Zj, Zr, decide_true, Zw, Ya, Zk, Nat.zero_add, Bool.and_true, Bool.true_and, cond_true, cond_false, Bool.not_true, Bool.not_false, Zp, Zg, Zm]
    exact this
  ·have hm : Qx x (rd Y j) = none := by
    unfold Qx; rw [decide_eq_false h1]; rfl
   obtain ⟨n, hn⟩ := y9n i x k (j + 1) out (by omega) (by omega) hi
   refine ⟨n + 1, fun N => ?_⟩
   have := hn N
   rw [hm]
   simp only []
   rw [← Nat.add_assoc, Zv]
   simp (disch := omega) only [Ja, hin, hlt, dE, y1l, y1k, z7n, z6e, Xx, Yf, Zt, Zo, Xe, Ym, Ye, Yg, Yy, Zj, Zr, decide_true, Zw, Ya, Zk, Nat.zero_add, Bool.and_true, Bool.true_and, cond_true, cond_false, Bool.not_true, Bool.not_false, Zp, Zg, Zm]
   exact this
theorem v5i : ∀ (k i : Nat) (out : List R6), i + k = X.length → out.length ≤ i * 10000 → ∃ n, Yj (Ja X Y) n (.to (.h0 out (i : Int))) = .ret [.dat (out ++ Yq (X.drop i) Y).length (Zz (out ++ Yq (X.drop i) Y))]
 | 0, i, out, h, ho => by
  refine ⟨1, ?_⟩
  rw [Zv, List.drop_eq_nil_of_le (by omega), show Yq [] Y = [] from rfl, List.append_nil]
  simp (disch := omega) only [Ja, Xx, Yf, Zt, Zo, Xe, Ym, Ye, Yg, Yy, Zj, Zr, decide_true, Zw, Ya, Zk, Nat.zero_add, Bool.and_true, Bool.true_and, cond_true, cond_false, Bool.not_true, Bool.not_false, Zp, Zg, Zm]
 | k + 1, i, out, h, ho => by
  have hi : i < X.length := by omega
  obtain ⟨n1, h1⟩ := y9n X Y hY i (rd X i) Y.length 0 out (Nat.zero_add _) (by omega) (by omega)
  rw [List.drop_zero, y3e] at h1
  obtain ⟨n2, h2⟩ := v5i k (i + 1) (out ++ Y.filterMap (Qx (rd X i))) (by omega) (by
   rw [List.length_append]
   have := List.length_filterMap_le (Qx (rd X i)) Y
   omega)
  refine ⟨n2 + n1 + 1, ?_⟩
  rw [Zv]
  simp (disch := omega) only [Ja, Xx, Yf, Zt, Zo, Xe, Ym, Ye, Yg, Yy, Zj, Zr, decide_true, Zw, Ya, Zk, Nat.zero_add, Bool.and_true, Bool.true_and, cond_true, cond_false, Bool.not_true, Bool.not_false, Zp, Zg, Zm]
  rw [h1 n2, h2, Yi hi, show Yq (rd X i :: X.drop (i + 1)) Y = Y.filterMap (Qx (rd X i)) ++ Yq (X.drop (i + 1)) Y from List.flatMap_cons, List.append_assoc]
end
theorem u1d (X Y : List R6) (h : Ji X Y = true) : ∃ N, Yj (Ja X Y) N (y6m X Y) = .ret [.dat (Yq X Y).length (Zz (Yq X Y))] := by
 obtain ⟨h1, h2⟩ := of_decide_eq_true h
 have := v5i X Y h1 h2 X.length 0 [] (Nat.zero_add _) (Nat.zero_le _)
 rwa [List.drop_zero, List.nil_append] at this
def fBlk : List AVal → Option (AVal × Bool)
 | [a0] => match asL R6 a0 with
  | some (L0, g0, n0) => some (.dat (Wj L0).length (Zz (Wj L0)), isT R6 n0 g0 && (z0w L0))
  | _ => none
 | _ => none
theorem u0i {S : Specs} (hS : Zu prog S) : Zu prog (S.with w4i fBlk) := by
 refine z2m hS (by kernel_rfl) fun args v h => ?_
 unfold fBlk at h
 split at h
 ·rename_i a0
  split at h
  ·rename_i L0 g0 n0 e0
   simp only [Option.some.injEq, Prod.mk.injEq, Bool.and_eq_true] at h
   obtain ⟨rfl, ho0, hw⟩ := h
   obtain ⟨N, hN⟩ := u1g L0 hw
   exact ⟨_, _, (.cons (Yx e0 ho0) .nil), rfl, v1q L0 N _ hN, 3, rfl⟩
  ·cases h
 ·cases h
def fVol : List AVal → Option (AVal × Bool)
 | [a0] => match asL R6 a0 with
  | some (L0, g0, n0) => some (.int .i64 (z2a L0), isT R6 n0 g0 && (Vd L0))
  | _ => none
 | _ => none
theorem v9f {S : Specs} (hS : Zu prog S) : Zu prog (S.with v4c fVol) := by
 refine z2m hS (by kernel_rfl) fun args v h => ?_
 unfold fVol at h
 split at h
 ·rename_i a0
  split at h
  ·rename_i L0 g0 n0 e0
   simp only [Option.some.injEq, Prod.mk.injEq, Bool.and_eq_true] at h
   obtain ⟨rfl, ho0, hw⟩ := h
   obtain ⟨N, hN⟩ := v5v L0 hw
   exact ⟨_, _, (.cons (Yx e0 ho0) .nil), rfl, w7g L0 N _ hN, 3, rfl⟩
  ·cases h
 ·cases h
def fCom : List AVal → Option (AVal × Bool)
 | [a0, a1] => match asL R6 a0, asL R6 a1 with
  | some (L0, g0, n0), some (L1, g1, n1) => some (.dat (Yq L0 L1).length (Zz (Yq L0 L1)), isT R6 n0 g0 && (isT R6 n1 g1 && (Ji L0 L1)))
  | _, _ => none
 | _ => none
theorem u0g {S : Specs} (hS : Zu prog S) : Zu prog (S.with w4h fCom) := by
 refine z2m hS (by kernel_rfl) fun args v h => ?_
 unfold fCom at h
 split at h
 ·rename_i a0 a1
  split at h
  ·rename_i L0 g0 n0 L1 g1 n1 e0 e1
   simp only [Option.some.injEq, Prod.mk.injEq, Bool.and_eq_true] at h
   obtain ⟨rfl, ho0, ho1, hw⟩ := h
   obtain ⟨N, hN⟩ := u1d L0 L1 hw
   exact ⟨_, _, (.cons (Yx e0 ho0) (.cons (Yx e1 ho1) .nil)), rfl, v1j L0 L1 N _ hN, 3, rfl⟩
  ·cases h
 ·cases h
def Ta : Specs := (((T9.with w4i fBlk).with v4c fVol).with w4h fCom)
theorem x4v : Zu prog Ta := (u0g (v9f (u0i Vk)))
end Go.Am
namespace Go.Am
open Go.Proofs.Tryz
open Go.Proofs
-- h0: index into an array (choices [true, false, false, false])
inductive prsS where
 | h0 (v7 : List R6) (v13 : Int)
def prsC (l0 : List R6) (l1 : List R6) (x2 : Int) : prsS → Cfg
 | .h0 v7 v13 => ⟨⟨30, 0, true⟩, none, (Yw prog 63 [1, 1, 0, 1, 0, 0] 0), none, (Zy prog 4), ⟨Xp [(1, (.dat l1.length (Zz l1))), (2, (ii x2)), (7, (.sla 0 6 0 v7.length (.un 6))), (11, (.dat l0.length (Zz l0))), (12, (ii (l0.length : Int))), (13, (ii v13))], Ux [⟨rows v7.length (Zz v7), 130, some ⟨6, v7.length, (Zz v7)⟩⟩] 0, 1, [], true⟩, [], .leaf⟩
def w9a : List (Option (List Nat)) := [some [1, 2, 7, 11, 12, 13]]
def w9b : List (Option (List Nat)) := []
def z4d (l0 : List R6) (l1 : List R6) (x2 : Int) : prsS → Wu prsS
 | .h0 v7 v13 => (bif (decide (v13 < (l0.length : Int))) then (bif ((decide (0 ≤ v13 ∧ v13 < (l0.length : Int))) && true) then (bif (decide ((IntKind.wrap .i64 (Int.tdiv x2 2)) = Int.ofNat 0)) then (bif (Nat.beq 6 6 && ((decide (0 + v7.length = v7.length)) && decide ((v7.length + 1 + 1) * (48 + 1) ≤ Uq))) then (.to (.h0 (v7 ++ [(R6.mk (IntKind.wrap .i64 ((rd l0 v13.toNat).a + (IntKind.wrap .i64 (1 - (IntKind.wrap .i64 (2 * (Int.tmod x2 2))))))) (rd l0 v13.toNat).b (rd l0 v13.toNat).c (IntKind.wrap .i64 ((rd l0 v13.toNat).d + (IntKind.wrap .i64 (1 - (IntKind.wrap .i64 (2 * (Int.tmod x2 2))))))) (rd l0 v13.toNat).e (rd l0 v13.toNat).f)]) (IntKind.wrap .i64 (v13 + 1)))) else .stuck) else (bif (decide ((IntKind.wrap .i64 (Int.tdiv x2 2)) = Int.ofNat 1)) then (bif (Nat.beq 6 6 && ((decide (0 + v7.length = v7.length)) && decide ((v7.length + 1 + 1) * (48 + 1) ≤ Uq))) then (.to (.h0 (v7 ++ [(R6.mk (rd l0 v13.toNat).a (IntKind.wrap .i64 ((rd l0 v13.toNat).b + (IntKind.wrap .i64 (1 - (IntKind.wrap .i64 (2 * (Int.tmod x2 2))))))) (rd l0 v13.toNat).c (rd l0 v13.toNat).d (IntKind.wrap .i64 ((rd l0 v13.toNat).e + (IntKind.wrap .i64 (1 - (IntKind.wrap .i64 (2 * (Int.tmod x2 2))))))) (rd l0 v13.toNat).f)]) (IntKind.wrap .i64 (v13 + 1)))) else .stuck) else (bif (decide ((IntKind.wrap .i64 (Int.tdiv x2 2)) = Int.ofNat 2)) then (bif (Nat.beq 6 6 && ((decide (0 + v7.length = v7.length)) && decide ((v7.length + 1 + 1) * (48 + 1) ≤ Uq))) then (.to (.h0 (v7 ++ [(R6.mk (rd l0 v13.toNat).a (rd l0 v13.toNat).b (IntKind.wrap .i64 ((rd l0 v13.toNat).c + (IntKind.wrap .i64 (1 - (IntKind.wrap .i64 (2 * (Int.tmod x2 2))))))) (rd l0 v13.toNat).d (rd l0 v13.toNat).e (IntKind.wrap .i64 ((rd l0 v13.toNat).f + (IntKind.wrap .i64 (1 - (IntKind.wrap .i64 (2 * (Int.tmod x2 2))))))))]) (IntKind.wrap .i64 (v13 + 1)))) else .stuck) else .stuck))) else .stuck) else (bif (Ji (cvT v7) (cvT l1)) then (bif (Vd (cvT (Yq (cvT v7) (cvT l1)))) then (.ret [(.int .i64 (z2a (cvT (Yq (cvT v7) (cvT l1)))))]) else .stuck) else .stuck))
def y5m (l0 : List R6) (l1 : List R6) (x2 : Int) : Wu prsS := (.to (.h0 ([] : List R6) 0))
theorem x8s (l0 : List R6) (l1 : List R6) (x2 : Int) : ∀ s, Wm prog (Zy prog 63) (prsC l0 l1 x2) (prsC l0 l1 x2 s) (z4d l0 l1 x2 s)
 | .h0 v7 v13 => (lb (fun k0 => (lo fun aG => (lb (fun k1 => (lo fun o0 => (sl x4v 82 [] ⟨[5], [], w9a, w9b⟩ ⟨[(7, .len (v7 ++ [(R6.mk (wr ((rd l0 (tn v13)).a + (wr (1 - (wr (2 * (Int.tmod x2 2))))))) (rd l0 (tn v13)).b (rd l0 (tn v13)).c (wr ((rd l0 (tn v13)).d + (wr (1 - (wr (2 * (Int.tmod x2 2))))))) (rd l0 (tn v13)).e (rd l0 (tn v13)).f)]).length)], [.rowed 6 (v7 ++ [(R6.mk (wr ((rd l0 (tn v13)).a + (wr (1 - (wr (2 * (Int.tmod x2 2))))))) (rd l0 (tn v13)).b (rd l0 (tn v13)).c (wr ((rd l0 (tn v13)).d + (wr (1 - (wr (2 * (Int.tmod x2 2))))))) (rd l0 (tn v13)).e (rd l0 (tn v13)).f)]).length (Zz (v7 ++ [(R6.mk (wr ((rd l0 (tn v13)).a + (wr (1 - (wr (2 * (Int.tmod x2 2))))))) (rd l0 (tn v13)).b (rd l0 (tn v13)).c (wr ((rd l0 (tn v13)).d + (wr (1 - (wr (2 * (Int.tmod x2 2))))))) (rd l0 (tn v13)).e (rd l0 (tn v13)).f)]))], []⟩ [true, false, false, false, false] (pp (xL (v7.length + 1) (v7 ++ [(R6.mk (wr ((rd l0 (tn v13)).a + (wr (1 - (wr (2 * (Int.tmod x2 2))))))) (rd l0 (tn v13)).b (rd l0 (tn v13)).c (wr ((rd l0 (tn v13)).d + (wr (1 - (wr (2 * (Int.tmod x2 2))))))) (rd l0 (tn v13)).e (rd l0 (tn v13)).f)]).length) (pp (xL (v7.length + 1) (v7 ++ [(R6.mk (wr ((rd l0 (tn v13)).a + (wr (1 - (wr (2 * (Int.tmod x2 2))))))) (rd l0 (tn v13)).b (rd l0 (tn v13)).c (wr ((rd l0 (tn v13)).d + (wr (1 - (wr (2 * (Int.tmod x2 2))))))) (rd l0 (tn v13)).e (rd l0 (tn v13)).f)]).length) (pp (xS (v7.length + 1) (Za (Zz v7) 0 v7.length 6 [(ii (wr ((rd l0 (tn v13)).a + (wr (1 - (wr (2 * (Int.tmod x2 2)))))))), (ii (rd l0 (tn v13)).b), (ii (rd l0 (tn v13)).c), (ii (wr ((rd l0 (tn v13)).d + (wr (1 - (wr (2 * (Int.tmod x2 2)))))))), (ii (rd l0 (tn v13)).e), (ii (rd l0 (tn v13)).f)]) (Zz (v7 ++ [(R6.mk (wr ((rd l0 (tn v13)).a + (wr (1 - (wr (2 * (Int.tmod x2 2))))))) (rd l0 (tn v13)).b (rd l0 (tn v13)).c (wr ((rd l0 (tn v13)).d + (wr (1 - (wr (2 * (Int.tmod x2 2))))))) (rd l0 (tn v13)).e (rd l0 (tn v13)).f)]))) (pp (pp (xF (Za (Zz v7) 0 v7.length 6 [(ii (wr ((rd l0 (tn v13)).a + (wr (1 - (wr (2 * (Int.tmod x2 2)))))))), (ii (rd l0 (tn v13)).b), (ii (rd l0 (tn v13)).c), (ii (wr ((rd l0 (tn v13)).d + (wr (1 - (wr (2 * (Int.tmod x2 2)))))))), (ii (rd l0 (tn v13)).e), (ii (rd l0 (tn v13)).f)])) nn) (ww o0 (ww k1 (ww k1 (ww aG (tt k0 nn)))))))))))) (fun k1 => (lb (fun k2 => (lo fun o0 => (sl x4v 82 [] ⟨[5], [], w9a, w9b⟩ ⟨[(7, .len (v7 ++ [(R6.mk (rd l0 (tn v13)).a (wr ((rd l0 (tn v13)).b + (wr (1 - (wr (2 * (Int.tmod x2 2))))))) (rd l0 (tn v13)).c (rd l0 (tn v13)).d (wr ((rd l0 (tn v13)).e + (wr (1 - (wr (2 * (Int.tmod x2 2))))))) (rd l0 (tn v13)).f)]).length)], [.rowed 6 (v7 ++ [(R6.mk (rd l0 (tn v13)).a (wr ((rd l0 (tn v13)).b + (wr (1 - (wr (2 * (Int.tmod x2 2))))))) (rd l0 (tn v13)).c (rd l0 (tn v13)).d (wr ((rd l0 (tn v13)).e + (wr (1 - (wr (2 * (Int.tmod x2 2))))))) (rd l0 (tn v13)).f)]).length (Zz (v7 ++ [(R6.mk (rd l0 (tn v13)).a (wr ((rd l0 (tn v13)).b + (wr (1 - (wr (2 * (Int.tmod x2 2))))))) (rd l0 (tn v13)).c (rd l0 (tn v13)).d (wr ((rd l0 (tn v13)).e + (wr (1 - (wr (2 * (Int.tmod x2 2))))))) (rd l0 (tn v13)).f)]))], []⟩ [true, true, false, true, false, true, false, true, false] (pp (xL (v7.length + 1) (v7 ++ [(R6.mk (rd l0 (tn v13)).a (wr ((rd l0 (tn v13)).b + (wr (1 - (wr (2 * (Int.tmod x2 2))))))) (rd l0 (tn v13)).c (rd l0 (tn v13)).d (wr ((rd l0 (tn v13)).e + (wr (1 - (wr (2 * (Int.tmod x2 2))))))) (rd l0 (tn v13)).f)]).length) (pp (xL (v7.length + 1) (v7 ++ [(R6.mk (rd l0 (tn v13)).a (wr ((rd l0 (tn v13)).b + (wr (1 - (wr (2 * (Int.tmod x2 2))))))) (rd l0 (tn v13)).c (rd l0 (tn v13)).d (wr ((rd l0 (tn v13)).e + (wr (1 - (wr (2 * (Int.tmod x2 2))))))) (rd l0 (tn v13)).f)]).length) (pp (xS (v7.length + 1) (Za (Zz v7) 0 v7.length 6 [(ii (rd l0 (tn v13)).a), (ii (wr ((rd l0 (tn v13)).b + (wr (1 - (wr (2 * (Int.tmod x2 2)))))))), (ii (rd l0 (tn v13)).c), (ii (rd l0 (tn v13)).d), (ii (wr ((rd l0 (tn v13)).e + (wr (1 - (wr (2 * (Int.tmod x2 2)))))))), (ii (rd l0 (tn v13)).f)]) (Zz (v7 ++ [(R6.mk (rd l0 (tn v13)).a (wr ((rd l0 (tn v13)).b + (wr (1 - (wr (2 * (Int.tmod x2 2))))))) (rd l0 (tn v13)).c (rd l0 (tn v13)).d (wr ((rd l0 (tn v13)).e + (wr (1 - (wr (2 * (Int.tmod x2 2))))))) (rd l0 (tn v13)).f)]))) (pp (pp (xF (Za (Zz v7) 0 v7.length 6 [(ii (rd l0 (tn v13)).a), (ii (wr ((rd l0 (tn v13)).b + (wr (1 - (wr (2 * (Int.tmod x2 2)))))))), (ii (rd l0 (tn v13)).c), (ii (rd l0 (tn v13)).d), (ii (wr ((rd l0 (tn v13)).e + (wr (1 - (wr (2 * (Int.tmod x2 2)))))))), (ii (rd l0 (tn v13)).f)])) nn) (ww o0 (ww k2 (ww k2 (ww aG (tt k0 nn)))))))))))) (fun k2 => (lb (fun k3 => (lo fun o0 => (sl x4v 82 [] ⟨[5], [], w9a, w9b⟩ ⟨[(7, .len (v7 ++ [(R6.mk (rd l0 (tn v13)).a (rd l0 (tn v13)).b (wr ((rd l0 (tn v13)).c + (wr (1 - (wr (2 * (Int.tmod x2 2))))))) (rd l0 (tn v13)).d (rd l0 (tn v13)).e (wr ((rd l0 (tn v13)).f + (wr (1 - (wr (2 * (Int.tmod x2 2))))))))]).length)], [.rowed 6 (v7 ++ [(R6.mk (rd l0 (tn v13)).a (rd l0 (tn v13)).b (wr ((rd l0 (tn v13)).c + (wr (1 - (wr (2 * (Int.tmod x2 2))))))) (rd l0 (tn v13)).d (rd l0 (tn v13)).e (wr ((rd l0 (tn v13)).f + (wr (1 - (wr (2 * (Int.tmod x2 2))))))))]).length (Zz (v7 ++ [(R6.mk (rd l0 (tn v13)).a (rd l0 (tn v13)).b (wr ((rd l0 (tn v13)).c + (wr (1 - (wr (2 * (Int.tmod x2 2))))))) (rd l0 (tn v13)).d (rd l0 (tn v13)).e (wr ((rd l0 (tn v13)).f + (wr (1 - (wr (2 * (Int.tmod x2 2))))))))]))], []⟩ (trs 3 [false, true, true, false, true, true, false, true, true, false]) (pp (xL (v7.length + 1) (v7 ++ [(R6.mk (rd l0 (tn v13)).a (rd l0 (tn v13)).b (wr ((rd l0 (tn v13)).c + (wr (1 - (wr (2 * (Int.tmod x2 2))))))) (rd l0 (tn v13)).d (rd l0 (tn v13)).e (wr ((rd l0 (tn v13)).f + (wr (1 - (wr (2 * (Int.tmod x2 2))))))))]).length) (pp (xL (v7.length + 1) (v7 ++ [(R6.mk (rd l0 (tn v13)).a (rd l0 (tn v13)).b (wr ((rd l0 (tn v13)).c + (wr (1 - (wr (2 * (Int.tmod x2 2))))))) (rd l0 (tn v13)).d (rd l0 (tn v13)).e (wr ((rd l0 (tn v13)).f + (wr (1 - (wr (2 * (Int.tmod x2 2))))))))]).length) (pp (xS (v7.length + 1) (Za (Zz v7) 0 v7.length 6 [(ii (rd l0 (tn v13)).a), (ii (rd l0 (tn v13)).b), (ii (wr ((rd l0 (tn v13)).c + (wr (1 - (wr (2 * (Int.tmod x2 2)))))))), (ii (rd l0 (tn v13)).d), (ii (rd l0 (tn v13)).e), (ii (wr ((rd l0 (tn v13)).f + (wr (1 - (wr (2 * (Int.tmod x2 2))))))))]) (Zz (v7 ++ [(R6.mk (rd l0 (tn v13)).a (rd l0 (tn v13)).b (wr ((rd l0 (tn v13)).c + (wr (1 - (wr (2 * (Int.tmod x2 2))))))) (rd l0 (tn v13)).d (rd l0 (tn v13)).e (wr ((rd l0 (tn v13)).f + (wr (1 - (wr (2 * (Int.tmod x2 2))))))))]))) (pp (pp (xF (Za (Zz v7) 0 v7.length 6 [(ii (rd l0 (tn v13)).a), (ii (rd l0 (tn v13)).b), (ii (wr ((rd l0 (tn v13)).c + (wr (1 - (wr (2 * (Int.tmod x2 2)))))))), (ii (rd l0 (tn v13)).d), (ii (rd l0 (tn v13)).e), (ii (wr ((rd l0 (tn v13)).f + (wr (1 - (wr (2 * (Int.tmod x2 2))))))))])) nn) (ww o0 (ww k3 (ww k3 (ww aG (tt k0 nn)))))))))))) (fun k3 => trivial)))))))) (fun k0 => (Jh (sl x4v (C' := ⟨⟨30, 0, true⟩, (z2e prog 63 [1, 1, 1, 0] 2), (Yw prog 63 [1, 1, 1, 0] 1), none, (Zy prog 4), ⟨Xp [(26, (.dat v7.length (Zz v7))), (27, (.dat l1.length (Zz l1)))], Ux [] 0, 0, [], true⟩, [], .leaf⟩) 11 [] ⟨[], [0], [some [26, 27]], []⟩ ⟨[(26, .frz v7.length v7.length (Zz v7) (Zz v7))], [], []⟩ [false] (pp (xZ (z6s 6 6 0 v7.length v7.length (Zz v7)) v7.length (Zz v7)) (pp (xL v7.length v7.length) (pp (xS v7.length (Zz v7) (Zz v7)) (pp (fl v7 nn) (tt k0 nn)))))) (lo fun o0 => (lo fun o1 => (lr 30 3 [1, 1, 1, 1, 1, 1, 0] 1 4 [(6, (ii (z2a (cvT (Yq (cvT v7) (cvT l1))))))] (sl x4v 4 [] ⟨[], [], [some [6]], []⟩ ⟨[], [], []⟩ [] (pp (pp (xI R6 (Yq (cvT v7) (cvT l1)).length (Zz (Yq (cvT v7) (cvT l1)))) (xw o1)) (pp (pp (xr v7) (pp (xr l1) (xw o0))) nn)))))))))
theorem x1u (l0 : List R6) (l1 : List R6) (x2 : Int) : Wm prog (Zy prog 63) (prsC l0 l1 x2) (Zd prog 63 [(.dat l0.length (Zz l0)), (.dat l1.length (Zz l1)), (.int .i64 x2)] true []) (y5m l0 l1 x2) := (sl x4v 17 [(130, 6, Zz ([] : List R6))] ⟨[0], [], w9a, w9b⟩ ⟨[(7, .grow 0 6)], [], []⟩ [] (pp (fl ([] : List R6) nn) nn))
theorem w8z (l0 : List R6) (l1 : List R6) (x2 : Int) (n : Nat) (vs : List AVal) (h : Yj (z4d l0 l1 x2) n (y5m l0 l1 x2) = .ret vs) : Kv prog (Zy prog 63) (Zd prog 63 [(.dat l0.length (Zz l0)), (.dat l1.length (Zz l1)), (.int .i64 x2)] true []) vs := by
 have := Zn (x8s l0 l1 x2) n _ (x1u l0 l1 x2)
 rwa [h] at this
end Go.Am
namespace Go.Am
open Go.Proofs.Tryz
open Go.Proofs
def x7q (d : Int) : Int := IntKind.wrap .i64 (1 - IntKind.wrap .i64 (2 * Int.tmod d 2))
def w4b (d : Int) (r : R6) : R6 :=
 bif decide (Int.tdiv d 2 = 0) then ⟨IntKind.wrap .i64 (r.a + x7q d), r.b, r.c, IntKind.wrap .i64 (r.d + x7q d), r.e, r.f⟩
 else bif decide (Int.tdiv d 2 = 1) then ⟨r.a, IntKind.wrap .i64 (r.b + x7q d), r.c, r.d, IntKind.wrap .i64 (r.e + x7q d), r.f⟩
 else ⟨r.a, r.b, IntKind.wrap .i64 (r.c + x7q d), r.d, r.e, IntKind.wrap .i64 (r.f + x7q d)⟩
def prV (X Y : List R6) (d : Int) : Int := z2a (Yq (X.map (w4b d)) Y)
def Xv (X Y : List R6) (d : Int) : Bool := decide (X.length ≤ 10000 ∧ Y.length ≤ 10000 ∧ 0 ≤ d ∧ d ≤ 5)
theorem v3s (X Y : List R6) (d : Int) (hX : X.length ≤ 10000) (hY : Y.length ≤ 10000) (hd : 0 ≤ d ∧ d ≤ 5) : ∀ (k i : Nat) (out : List R6), i + k = X.length → out.length = i → ∃ N, Yj (z4d X Y d) N (.to (.h0 out (i : Int))) = .ret [.int .i64 (z2a (Yq (out ++ (X.drop i).map (w4b d)) Y))]
 | 0, i, out, h, ho => by
  refine ⟨1, ?_⟩
  rw [Zv, List.drop_eq_nil_of_le (by omega), List.map_nil, List.append_nil]
  have h1 : Ji out Y = true := decide_eq_true (by omega)
  have hl := z7o out Y
  have hm : out.length * Y.length ≤ 10000 * 10000 := Nat.mul_le_mul (by omega) hY
  have h2 : Vd (Yq out Y) = true := decide_eq_true (by omega)
  simp (disch := omega) only [z4d, h1, h2, Xx, Yf, Zt, Zo, Xe, Ym, Ye, Yg, Yy, Zj, Zr, decide_true, Zw, Ya, Zk, Nat.zero_add, Bool.and_true, Bool.true_and, cond_true, cond_false, Bool.not_true, Bool.not_false, Zp, Zg, Zm]
 | k + 1, i, out, h, ho => by
  have hi : i < X.length := by omega
  obtain ⟨N, hN⟩ := v3s X Y d hX hY hd k (i + 1) (out ++ [w4b d (rd X i)]) (by omega) (by simp; omega)
  refine ⟨N + 1, ?_⟩
  rw [List.append_assoc] at hN
  rw [Zv, Yi hi, List.map_cons]
  have dE : decide ((out.length + 1 + 1) * (48 + 1) ≤ Uq) = true := Zr (by omega)
  have c : d = 0 ∨ d = 1 ∨ d = 2 ∨ d = 3 ∨ d = 4 ∨ d = 5 := by omega
  have e : ∃ r, w4b d (rd X i) = r ∧ z4d X Y d (.h0 out (i : Int)) = .to (.h0 (out ++ [r]) ((i + 1 : Nat) : Int)) := by
   refine ⟨_, rfl, ?_⟩
   rcases c with rfl | rfl | rfl | rfl | rfl | rfl <;>
   simp (disch := omega) only [z4d, Zt, Yy, dE, Zk, Zw, Nat.zero_add, decide_true, Bool.and_true, Ya, cond_true] <;> (try rw [Zj (n := ((i + 1 : Nat) : Int)) (by omega)]) <;> rfl
  obtain ⟨r, hr, e⟩ := e
  rw [e]
  rw [hr] at hN ⊢
  exact hN
theorem v7p (X Y : List R6) (d : Int) (h : Xv X Y d = true) : ∃ N, Yj (z4d X Y d) N (y5m X Y d) = .ret [.int .i64 (prV X Y d)] := by
 obtain ⟨h1, h2, h3⟩ := of_decide_eq_true h
 exact v3s X Y d h1 h2 h3 X.length 0 [] (Nat.zero_add _) rfl
def okB (r : R6) : Bool := decide (-2000000 ≤ r.a ∧ r.a ≤ 2000000 ∧ -2000000 ≤ r.b ∧ r.b ≤ 2000000 ∧ -2000000 ≤ r.c ∧ r.c ≤ 2000000 ∧ -2000000 ≤ r.d ∧ r.d ≤ 2000000 ∧ -2000000 ≤ r.e ∧ r.e ≤ 2000000 ∧ -2000000 ≤ r.f ∧ r.f ≤ 2000000)
theorem w9g (d : Int) (hd : 0 ≤ d ∧ d ≤ 5) (r : R6) (h : okB r = true) : w4b d r = nx d r := by
 have h := of_decide_eq_true h
 have c : d = 0 ∨ d = 1 ∨ d = 2 ∨ d = 3 ∨ d = 4 ∨ d = 5 := by omega
 rcases c with rfl | rfl | rfl | rfl | rfl | rfl
 ·show (⟨IntKind.wrap .i64 (r.a + 1), r.b, r.c, IntKind.wrap .i64 (r.d + 1), r.e, r.f⟩ : R6) = ⟨r.a + 1, r.b, r.c, r.d + 1, r.e, r.f⟩
  rw [Zj (by omega), Zj (by omega)]
 ·show (⟨IntKind.wrap .i64 (r.a + -1), r.b, r.c, IntKind.wrap .i64 (r.d + -1), r.e, r.f⟩ : R6) = ⟨r.a + -1, r.b, r.c, r.d + -1, r.e, r.f⟩
  rw [Zj (by omega), Zj (by omega)]
 ·show (⟨r.a, IntKind.wrap .i64 (r.b + 1), r.c, r.d, IntKind.wrap .i64 (r.e + 1), r.f⟩ : R6) = ⟨r.a, r.b + 1, r.c, r.d, r.e + 1, r.f⟩
  rw [Zj (by omega), Zj (by omega)]
 ·show (⟨r.a, IntKind.wrap .i64 (r.b + -1), r.c, r.d, IntKind.wrap .i64 (r.e + -1), r.f⟩ : R6) = ⟨r.a, r.b + -1, r.c, r.d, r.e + -1, r.f⟩
  rw [Zj (by omega), Zj (by omega)]
 ·show (⟨r.a, r.b, IntKind.wrap .i64 (r.c + 1), r.d, r.e, IntKind.wrap .i64 (r.f + 1)⟩ : R6) = ⟨r.a, r.b, r.c + 1, r.d, r.e, r.f + 1⟩
  rw [Zj (by omega), Zj (by omega)]
 ·show (⟨r.a, r.b, IntKind.wrap .i64 (r.c + -1), r.d, r.e, IntKind.wrap .i64 (r.f + -1)⟩ : R6) = ⟨r.a, r.b, r.c + -1, r.d, r.e, r.f + -1⟩
  rw [Zj (by omega), Zj (by omega)]
theorem x5q (X Y : List R6) (d : Int) (hd : 0 ≤ d ∧ d ≤ 5) (hX : ∀ x ∈ X, okB x = true) : Cg (prV X Y d) (E2 d X Y) := by
 unfold prV
 rw [List.map_congr_left fun x hx => w9g d hd x (hX x hx)]
 have := w1f (Yq (X.map (nx d)) Y)
 rwa [v5j, v5t] at this
theorem v7u (X Y : List R6) (hX : ∀ x ∈ X, okB x = true) (hY : ∀ x ∈ Y, okB x = true) : ∀ x ∈ Yq X Y, okB x = true := fun b hb => by
 obtain ⟨x, hx, hb⟩ := List.mem_flatMap.1 hb
 obtain ⟨y, hy, hb⟩ := List.mem_filterMap.1 hb
 have h1 := of_decide_eq_true (hX x hx)
 have h2 := of_decide_eq_true (hY y hy)
 unfold Qx at hb
 cases hc : (decide (max x.a y.a < min x.d y.d) && (decide (max x.b y.b < min x.e y.e) && decide (max x.c y.c < min x.f y.f))) with
 | false => rw [hc] at hb; cases hb
 | true =>
  rw [hc, cond_true] at hb
  obtain rfl := Option.some.inj hb
  exact decide_eq_true (by simp only; omega)
def fPrs : List AVal → Option (AVal × Bool)
 | [a0, a1, .int .i64 x2] => match asL R6 a0, asL R6 a1 with
  | some (L0, g0, n0), some (L1, g1, n1) => some (.int .i64 (prV L0 L1 x2), isT R6 n0 g0 && (isT R6 n1 g1 && (Xv L0 L1 x2)))
  | _, _ => none
 | _ => none
theorem v9p {S : Specs} (hS : Zu prog S) : Zu prog (S.with v4b fPrs) := by
 refine z2m hS (by kernel_rfl) fun args v h => ?_
 unfold fPrs at h
 split at h
 ·rename_i a0 a1 x2
  split at h
  ·rename_i L0 g0 n0 L1 g1 n1 e0 e1
   simp only [Option.some.injEq, Prod.mk.injEq, Bool.and_eq_true] at h
   obtain ⟨rfl, ho0, ho1, hw⟩ := h
   obtain ⟨N, hN⟩ := v7p L0 L1 x2 hw
   exact ⟨_, _, (.cons (Yx e0 ho0) (.cons (Yx e1 ho1) (.cons (.refl _) .nil))), rfl, w8z L0 L1 x2 N _ hN, 3, rfl⟩
  ·cases h
 ·cases h
def Tb : Specs := (Ta.with v4b fPrs)
theorem Tb_ok : Zu prog Tb := (v9p x4v)
end Go.Am
namespace Go.Am
open Go.Proofs.Tryz
open Go.Proofs
inductive conS where
def conC (l0 : List R6) (l1 : List R6) : conS → Cfg
 := nofun
def x3x (l0 : List R6) (l1 : List R6) : conS → Wu conS
 := nofun
def z9y (l0 : List R6) (l1 : List R6) : Wu conS := (bif (Ji (cvT l0) (cvT l1)) then (bif (Xv (cvT l0) (cvT l1) 0) then (bif (Xv (cvT (Yq (cvT l0) (cvT l1))) (cvT l1) 0) then (bif (Xv (cvT l0) (cvT (Yq (cvT l0) (cvT l1))) 0) then (bif (Xv (cvT (Yq (cvT l0) (cvT l1))) (cvT (Yq (cvT l0) (cvT l1))) 0) then (bif (Xv (cvT l0) (cvT l1) 1) then (bif (Xv (cvT (Yq (cvT l0) (cvT l1))) (cvT l1) 1) then (bif (Xv (cvT l0) (cvT (Yq (cvT l0) (cvT l1))) 1) then (bif (Xv (cvT (Yq (cvT l0) (cvT l1))) (cvT (Yq (cvT l0) (cvT l1))) 1) then (bif (Xv (cvT l0) (cvT l1) 2) then (bif (Xv (cvT (Yq (cvT l0) (cvT l1))) (cvT l1) 2) then (bif (Xv (cvT l0) (cvT (Yq (cvT l0) (cvT l1))) 2) then (bif (Xv (cvT (Yq (cvT l0) (cvT l1))) (cvT (Yq (cvT l0) (cvT l1))) 2) then (bif (Xv (cvT l0) (cvT l1) 3) then (bif (Xv (cvT (Yq (cvT l0) (cvT l1))) (cvT l1) 3) then (bif (Xv (cvT l0) (cvT (Yq (cvT l0) (cvT l1))) 3) then (bif (Xv (cvT (Yq (cvT l0) (cvT l1))) (cvT (Yq (cvT l0) (cvT l1))) 3) then (bif (Xv (cvT l0) (cvT l1) 4) then (bif (Xv (cvT (Yq (cvT l0) (cvT l1))) (cvT l1) 4) then (bif (Xv (cvT l0) (cvT (Yq (cvT l0) (cvT l1))) 4) then (bif (Xv (cvT (Yq (cvT l0) (cvT l1))) (cvT (Yq (cvT l0) (cvT l1))) 4) then (bif (Xv (cvT l0) (cvT l1) 5) then (bif (Xv (cvT (Yq (cvT l0) (cvT l1))) (cvT l1) 5) then (bif (Xv (cvT l0) (cvT (Yq (cvT l0) (cvT l1))) 5) then (bif (Xv (cvT (Yq (cvT l0) (cvT l1))) (cvT (Yq (cvT l0) (cvT l1))) 5) then (.ret [(.int .i64 (IntKind.wrap .i64 ((IntKind.wrap .i64 ((IntKind.wrap .i64 ((IntKind.wrap .i64 ((IntKind.wrap .i64 ((IntKind.wrap .i64 (0 + (IntKind.wrap .i64 ((IntKind.wrap .i64 ((prV (cvT l0) (cvT l1) 0) - (prV (cvT (Yq (cvT l0) (cvT l1))) (cvT l1) 0))) - (IntKind.wrap .i64 ((prV (cvT l0) (cvT (Yq (cvT l0) (cvT l1))) 0) - (prV (cvT (Yq (cvT l0) (cvT l1))) (cvT (Yq (cvT l0) (cvT l1))) 0))))))) + (IntKind.wrap .i64 ((IntKind.wrap .i64 ((prV (cvT l0) (cvT l1) 1) - (prV (cvT (Yq (cvT l0) (cvT l1))) (cvT l1) 1))) - (IntKind.wrap .i64 ((prV (cvT l0) (cvT (Yq (cvT l0) (cvT l1))) 1) - (prV (cvT (Yq (cvT l0) (cvT l1))) (cvT (Yq (cvT l0) (cvT l1))) 1))))))) + (IntKind.wrap .i64 ((IntKind.wrap .i64 ((prV (cvT l0) (cvT l1) 2) - (prV (cvT (Yq (cvT l0) (cvT l1))) (cvT l1) 2))) - (IntKind.wrap .i64 ((prV (cvT l0) (cvT (Yq (cvT l0) (cvT l1))) 2) - (prV (cvT (Yq (cvT l0) (cvT l1))) (cvT (Yq (cvT l0) (cvT l1))) 2))))))) + (IntKind.wrap .i64 ((IntKind.wrap .i64 ((prV (cvT l0) (cvT l1) 3) - (prV (cvT (Yq (cvT l0) (cvT l1))) (cvT l1) 3))) - (IntKind.wrap .i64 ((prV (cvT l0) (cvT (Yq (cvT l0) (cvT l1))) 3) - (prV (cvT (Yq (cvT l0) (cvT l1))) (cvT (Yq (cvT l0) (cvT l1))) 3))))))) + (IntKind.wrap .i64 ((IntKind.wrap .i64 ((prV (cvT l0) (cvT l1) 4) - (prV (cvT (Yq (cvT l0) (cvT l1))) (cvT l1) 4))) - (IntKind.wrap .i64 ((prV (cvT l0) (cvT (Yq (cvT l0) (cvT l1))) 4) - (prV (cvT (Yq (cvT l0) (cvT l1))) (cvT (Yq (cvT l0) (cvT l1))) 4))))))) + (IntKind.wrap .i64 ((IntKind.wrap .i64 ((prV (cvT l0) (cvT l1) 5) - (prV (cvT (Yq (cvT l0) (cvT l1))) (cvT l1) 5))) - (IntKind.wrap .i64 ((prV (cvT l0) (cvT (Yq (cvT l0) (cvT l1))) 5) - (prV (cvT (Yq (cvT l0) (cvT l1))) (cvT (Yq (cvT l0) (cvT l1))) 5))))))))]) else .stuck) else .stuck) else .stuck) else .stuck) else .stuck) else .stuck) else .stuck) else .stuck) else .stuck) else .stuck) else .stuck) else .stuck) else .stuck) else .stuck) else .stuck) else .stuck) else .stuck) else .stuck) else .stuck) else .stuck) else .stuck) else .stuck) else .stuck) else .stuck) else .stuck)
theorem w0f (l0 : List R6) (l1 : List R6) : ∀ s, Wm prog (Zy prog 69) (conC l0 l1) (conC l0 l1 s) (x3x l0 l1 s)
 := nofun
theorem x3y (l0 : List R6) (l1 : List R6) : Wm prog (Zy prog 69) (conC l0 l1) (Zd prog 69 [(.dat l0.length (Zz l0)), (.dat l1.length (Zz l1))] true []) (z9y l0 l1) := (lo fun o0 => (lo fun o1 => (lo fun o2 => (lo fun o3 => (lo fun o4 => (lo fun o5 => (lo fun o6 => (lo fun o7 => (lo fun o8 => (lo fun o9 => (lo fun o10 => (lo fun o11 => (lo fun o12 => (lo fun o13 => (lo fun o14 => (lo fun o15 => (lo fun o16 => (lo fun o17 => (lo fun o18 => (lo fun o19 => (lo fun o20 => (lo fun o21 => (lo fun o22 => (lo fun o23 => (lo fun o24 => (lr 37 3 [1, 1, 1, 1, 1, 1, 0] 1 3 [(4, (ii (wr ((wr ((wr ((wr ((wr ((wr (0 + (wr ((wr ((prV (cvT l0) (cvT l1) 0) - (prV (cvT (Yq (cvT l0) (cvT l1))) (cvT l1) 0))) - (wr ((prV (cvT l0) (cvT (Yq (cvT l0) (cvT l1))) 0) - (prV (cvT (Yq (cvT l0) (cvT l1))) (cvT (Yq (cvT l0) (cvT l1))) 0))))))) + (wr ((wr ((prV (cvT l0) (cvT l1) 1) - (prV (cvT (Yq (cvT l0) (cvT l1))) (cvT l1) 1))) - (wr ((prV (cvT l0) (cvT (Yq (cvT l0) (cvT l1))) 1) - (prV (cvT (Yq (cvT l0) (cvT l1))) (cvT (Yq (cvT l0) (cvT l1))) 1))))))) + (wr ((wr ((prV (cvT l0) (cvT l1) 2) - (prV (cvT (Yq (cvT l0) (cvT l1))) (cvT l1) 2))) - (wr ((prV (cvT l0) (cvT (Yq (cvT l0) (cvT l1))) 2) - (prV (cvT (Yq (cvT l0) (cvT l1))) (cvT (Yq (cvT l0) (cvT l1))) 2))))))) + (wr ((wr ((prV (cvT l0) (cvT l1) 3) - (prV (cvT (Yq (cvT l0) (cvT l1))) (cvT l1) 3))) - (wr ((prV (cvT l0) (cvT (Yq (cvT l0) (cvT l1))) 3) - (prV (cvT (Yq (cvT l0) (cvT l1))) (cvT (Yq (cvT l0) (cvT l1))) 3))))))) + (wr ((wr ((prV (cvT l0) (cvT l1) 4) - (prV (cvT (Yq (cvT l0) (cvT l1))) (cvT l1) 4))) - (wr ((prV (cvT l0) (cvT (Yq (cvT l0) (cvT l1))) 4) - (prV (cvT (Yq (cvT l0) (cvT l1))) (cvT (Yq (cvT l0) (cvT l1))) 4))))))) + (wr ((wr ((prV (cvT l0) (cvT l1) 5) - (prV (cvT (Yq (cvT l0) (cvT l1))) (cvT l1) 5))) - (wr ((prV (cvT l0) (cvT (Yq (cvT l0) (cvT l1))) 5) - (prV (cvT (Yq (cvT l0) (cvT l1))) (cvT (Yq (cvT l0) (cvT l1))) 5)))))))))] (sl Tb_ok 298 [] ⟨[], [], [some [4]], []⟩ ⟨[], [], []⟩ (trs 6 [false]) (pp (pp (xI R6 (Yq (cvT l0) (cvT l1)).length (Zz (Yq (cvT l0) (cvT l1)))) (pp (xI R6 (Yq (cvT l0) (cvT l1)).length (Zz (Yq (cvT l0) (cvT l1)))) (xw o24))) (pp (pp (xr l0) (pp (xI R6 (Yq (cvT l0) (cvT l1)).length (Zz (Yq (cvT l0) (cvT l1)))) (xw o23))) (pp (pp (xI R6 (Yq (cvT l0) (cvT l1)).length (Zz (Yq (cvT l0) (cvT l1)))) (pp (xr l1) (xw o22))) (pp (pp (xr l0) (pp (xr l1) (xw o21))) (pp (pp (xI R6 (Yq (cvT l0) (cvT l1)).length (Zz (Yq (cvT l0) (cvT l1)))) (pp (xI R6 (Yq (cvT l0) (cvT l1)).length (Zz (Yq (cvT l0) (cvT l1)))) (xw o20))) (pp (pp (xr l0) (pp (xI R6 (Yq (cvT l0) (cvT l1)).length (Zz (Yq (cvT l0) (cvT l1)))) (xw o19))) (pp (pp (xI R6 (Yq (cvT l0) (cvT l1)).length (Zz (Yq (cvT l0) (cvT l1)))) (pp (xr l1) (xw o18))) (pp (pp (xr l0) (pp (xr l1) (xw o17))) (pp (pp (xI R6 (Yq (cvT l0) (cvT l1)).length (Zz (Yq (cvT l0) (cvT l1)))) (pp (xI R6 (Yq (cvT l0) (cvT l1)).length (Zz (Yq (cvT l0) (cvT l1)))) (xw o16))) (pp (pp (xr l0) (pp (xI R6 (Yq (cvT l0) (cvT l1)).length (Zz (Yq (cvT l0) (cvT l1)))) (xw o15))) (pp (pp (xI R6 (Yq (cvT l0) (cvT l1)).length (Zz (Yq (cvT l0) (cvT l1)))) (pp (xr l1) (xw o14))) (pp (pp (xr l0) (pp (xr l1) (xw o13))) (pp (pp (xI R6 (Yq (cvT l0) (cvT l1)).length (Zz (Yq (cvT l0) (cvT l1)))) (pp (xI R6 (Yq (cvT l0) (cvT l1)).length (Zz (Yq (cvT l0) (cvT l1)))) (xw o12))) (pp (pp (xr l0) (pp (xI R6 (Yq (cvT l0) (cvT l1)).length (Zz (Yq (cvT l0) (cvT l1)))) (xw o11))) (pp (pp (xI R6 (Yq (cvT l0) (cvT l1)).length (Zz (Yq (cvT l0) (cvT l1)))) (pp (xr l1) (xw o10))) (pp (pp (xr l0) (pp (xr l1) (xw o9))) (pp (pp (xI R6 (Yq (cvT l0) (cvT l1)).length (Zz (Yq (cvT l0) (cvT l1)))) (pp (xI R6 (Yq (cvT l0) (cvT l1)).length (Zz (Yq (cvT l0) (cvT l1)))) (xw o8))) (pp (pp (xr l0) (pp (xI R6 (Yq (cvT l0) (cvT l1)).length (Zz (Yq (cvT l0) (cvT l1)))) (xw o7))) (pp (pp (xI R6 (Yq (cvT l0) (cvT l1)).length (Zz (Yq (cvT l0) (cvT l1)))) (pp (xr l1) (xw o6))) (pp (pp (xr l0) (pp (xr l1) (xw o5))) (pp (pp (xI R6 (Yq (cvT l0) (cvT l1)).length (Zz (Yq (cvT l0) (cvT l1)))) (pp (xI R6 (Yq (cvT l0) (cvT l1)).length (Zz (Yq (cvT l0) (cvT l1)))) (xw o4))) (pp (pp (xr l0) (pp (xI R6 (Yq (cvT l0) (cvT l1)).length (Zz (Yq (cvT l0) (cvT l1)))) (xw o3))) (pp (pp (xI R6 (Yq (cvT l0) (cvT l1)).length (Zz (Yq (cvT l0) (cvT l1)))) (pp (xr l1) (xw o2))) (pp (pp (xr l0) (pp (xr l1) (xw o1))) (pp (pp (xr l0) (pp (xr l1) (xw o0))) nn))))))))))))))))))))))))))))))))))))))))))))))))))))
theorem v1i (l0 : List R6) (l1 : List R6) (n : Nat) (vs : List AVal) (h : Yj (x3x l0 l1) n (z9y l0 l1) = .ret vs) : Kv prog (Zy prog 69) (Zd prog 69 [(.dat l0.length (Zz l0)), (.dat l1.length (Zz l1))] true []) vs := by
 have := Zn (w0f l0 l1) n _ (x3y l0 l1)
 rwa [h] at this
end Go.Am
namespace Go.Am
open Go.Proofs.Tryz
open Go.Proofs
def c1W (d : Int) (X Y B : List R6) : Int := IntKind.wrap .i64 (IntKind.wrap .i64 (prV X Y d - prV B Y d) - IntKind.wrap .i64 (prV X B d - prV B B d))
def conW (X Y B : List R6) : Int := IntKind.wrap .i64 (IntKind.wrap .i64 (IntKind.wrap .i64 (IntKind.wrap .i64 (IntKind.wrap .i64 (IntKind.wrap .i64 (0 + c1W 0 X Y B) + c1W 1 X Y B) + c1W 2 X Y B) + c1W 3 X Y B) + c1W 4 X Y B) + c1W 5 X Y B)
def w7d (X Y : List R6) : Int := conW X Y (Yq X Y)
def z6h (X Y : List R6) : Bool := decide (X.length ≤ 100 ∧ Y.length ≤ 100)
theorem u0z (X Y : List R6) (h : z6h X Y = true) : ∃ N, Yj (x3x X Y) N (z9y X Y) = .ret [.int .i64 (w7d X Y)] := by
 obtain ⟨h1, h2⟩ := of_decide_eq_true h
 have hl := z7o X Y
 have hm : X.length * Y.length ≤ 100 * 100 := Nat.mul_le_mul h1 h2
 have p : ∀ (A B : List R6) (d : Int), A.length ≤ 10000 → B.length ≤ 10000 → 0 ≤ d ∧ d ≤ 5 → Xv A B d = true := fun A B d a b c => decide_eq_true ⟨a, b, c⟩
 have hc : Ji X Y = true := decide_eq_true (by omega)
 refine ⟨0, ?_⟩
 unfold z9y
 simp (disch := omega) only [Zg, hc, p, cond_true]
 rfl
theorem c1W_cg (d : Int) (hd : 0 ≤ d ∧ d ≤ 5) (X Y B : List R6) (hX : ∀ x ∈ X, okB x = true) (hB : ∀ x ∈ B, okB x = true) : Cg (c1W d X Y B) (c1 d X Y B) :=
 (Cg.sub ((x5q X Y d hd hX).sub (x5q B Y d hd hB)).w ((x5q X B d hd hX).sub (x5q B B d hd hB)).w).w
theorem u1a (X Y B : List R6) (hX : ∀ x ∈ X, okB x = true) (hB : ∀ x ∈ B, okB x = true) : Cg (conW X Y B) (con6 X Y B) := by
 have h := fun d hd => c1W_cg d hd X Y B hX hB
 unfold conW con6
 have := ((((((Cg.refl 0).add (h 0 (by omega))).w.add (h 1 (by omega))).w.add (h 2 (by omega))).w.add (h 3 (by omega))).w.add (h 4 (by omega))).w.add (h 5 (by omega))
 rw [show 0 + c1 0 X Y B = c1 0 X Y B from Int.zero_add _] at this
 exact this.w
theorem u1c (X Y : List R6) (hX : ∀ x ∈ X, okB x = true) (hY : ∀ x ∈ Y, okB x = true) : Cg (w7d X Y) (con6 X Y (Yq X Y)) := u1a X Y _ hX (v7u X Y hX hY)
theorem u1b (X Y : List R6) : -9223372036854775808 ≤ w7d X Y ∧ w7d X Y ≤ 9223372036854775807 := w1c _
def fCon : List AVal → Option (AVal × Bool)
 | [a0, a1] => match asL R6 a0, asL R6 a1 with
  | some (L0, g0, n0), some (L1, g1, n1) => some (.int .i64 (w7d L0 L1), isT R6 n0 g0 && (isT R6 n1 g1 && (z6h L0 L1)))
  | _, _ => none
 | _ => none
theorem u0f {S : Specs} (hS : Zu prog S) : Zu prog (S.with nCont fCon) := by
 refine z2m hS (by kernel_rfl) fun args v h => ?_
 unfold fCon at h
 split at h
 ·rename_i a0 a1
  split at h
  ·rename_i L0 g0 n0 L1 g1 n1 e0 e1
   simp only [Option.some.injEq, Prod.mk.injEq, Bool.and_eq_true] at h
   obtain ⟨rfl, ho0, ho1, hw⟩ := h
   obtain ⟨N, hN⟩ := u0z L0 L1 hw
   exact ⟨_, _, (.cons (Yx e0 ho0) (.cons (Yx e1 ho1) .nil)), rfl, v1i L0 L1 N _ hN, 3, rfl⟩
  ·cases h
 ·cases h
def Tc : Specs := (Tb.with nCont fCon)
theorem x4u : Zu prog Tc := (u0f Tb_ok)
end Go.Am
namespace Go.Am
open Go.Proofs.Tryz
open Go.Proofs
inductive orlS where
def orlC (l0 : List R6) (l1 : List R6) : orlS → Cfg
 := nofun
def x1w (l0 : List R6) (l1 : List R6) : orlS → Wu orlS
 := nofun
def z9l (l0 : List R6) (l1 : List R6) : Wu orlS := (bif (z0w (cvT l0)) then (bif (z0w (cvT l1)) then (bif (Ji (cvT (Wj (cvT l0))) (cvT (Wj (cvT l1)))) then (bif (Vd (cvT (Yq (cvT (Wj (cvT l0))) (cvT (Wj (cvT l1)))))) then (bif (decide ((z2a (cvT (Yq (cvT (Wj (cvT l0))) (cvT (Wj (cvT l1)))))) > 0)) then (bif (Vd (cvT (Wj (cvT l0)))) then (bif ((z2a (cvT (Yq (cvT (Wj (cvT l0))) (cvT (Wj (cvT l1)))))) == (z2a (cvT (Wj (cvT l0))))) then (bif (Vd (cvT (Wj (cvT l1)))) then (bif ((z2a (cvT (Yq (cvT (Wj (cvT l0))) (cvT (Wj (cvT l1)))))) == (z2a (cvT (Wj (cvT l1))))) then (.ret [(.int .u8 6)]) else (.ret [(.int .u8 4)])) else .stuck) else (bif (Vd (cvT (Wj (cvT l1)))) then (bif ((z2a (cvT (Yq (cvT (Wj (cvT l0))) (cvT (Wj (cvT l1)))))) == (z2a (cvT (Wj (cvT l1))))) then (.ret [(.int .u8 5)]) else (.ret [(.int .u8 3)])) else .stuck)) else .stuck) else (bif (z6h (cvT (Wj (cvT l0))) (cvT (Wj (cvT l1)))) then (bif (decide ((w7d (cvT (Wj (cvT l0))) (cvT (Wj (cvT l1)))) > 0)) then (.ret [(.int .u8 2)]) else (.ret [(.int .u8 1)])) else .stuck)) else .stuck) else .stuck) else .stuck) else .stuck)
theorem x8t (l0 : List R6) (l1 : List R6) : ∀ s, Wm prog (Zy prog 70) (orlC l0 l1) (orlC l0 l1 s) (x1w l0 l1 s)
 := nofun
theorem x1x (l0 : List R6) (l1 : List R6) : Wm prog (Zy prog 70) (orlC l0 l1) (Zd prog 70 [(.dat l0.length (Zz l0)), (.dat l1.length (Zz l1))] true []) (z9l l0 l1) := (lo fun bM => (lo fun cL => (lo fun cM => (lo fun cN => (lb (fun k0 => (lo fun aG => (lb (fun k1 => (lo fun aU => (lb (fun k2 => (lr 57 70 [1, 1, 1, 0, 0, 1, 0, 0] 1 3 [(4, (.int .u8 6))] (sl x4u 46 [] ⟨[], [], [some [4]], []⟩ ⟨[], [], []⟩ (trs 9 []) (tt k2 (pp (pp (xI R6 (Wj (cvT l1)).length (Zz (Wj (cvT l1)))) (xw aU)) (tt k1 (pp (pp (xI R6 (Wj (cvT l0)).length (Zz (Wj (cvT l0)))) (xw aG)) (tt k0 (pp (pp (xI R6 (Yq (cvT (Wj (cvT l0))) (cvT (Wj (cvT l1)))).length (Zz (Yq (cvT (Wj (cvT l0))) (cvT (Wj (cvT l1)))))) (xw cN)) (pp (pp (xI R6 (Wj (cvT l0)).length (Zz (Wj (cvT l0)))) (pp (xI R6 (Wj (cvT l1)).length (Zz (Wj (cvT l1)))) (xw cM))) (pp (pp (xr l1) (xw cL)) (pp (pp (xr l0) (xw bM)) nn)))))))))))) (fun k2 => (lr 57 70 [1, 1, 1, 0, 0, 1, 0, 0] 1 3 [(4, (.int .u8 4))] (sl x4u 59 [] ⟨[], [], [some [4]], []⟩ ⟨[], [], []⟩ (trs 8 [false, true, true, true, true, true]) (tt k1 (pp (pp (xI R6 (Wj (cvT l0)).length (Zz (Wj (cvT l0)))) (xw aG)) (tt k0 (tt k2 (pp (pp (xI R6 (Wj (cvT l1)).length (Zz (Wj (cvT l1)))) (xw aU)) (tt k1 (pp (pp (xI R6 (Wj (cvT l0)).length (Zz (Wj (cvT l0)))) (xw aG)) (tt k0 (pp (pp (xI R6 (Yq (cvT (Wj (cvT l0))) (cvT (Wj (cvT l1)))).length (Zz (Yq (cvT (Wj (cvT l0))) (cvT (Wj (cvT l1)))))) (xw cN)) (pp (pp (xI R6 (Wj (cvT l0)).length (Zz (Wj (cvT l0)))) (pp (xI R6 (Wj (cvT l1)).length (Zz (Wj (cvT l1)))) (xw cM))) (pp (pp (xr l1) (xw cL)) (pp (pp (xr l0) (xw bM)) nn)))))))))))))))))) (fun k1 => (lo fun aU => (lb (fun k2 => (lr 57 70 [1, 1, 1, 0, 0, 1, 0, 0] 1 3 [(4, (.int .u8 5))] (sl x4u 72 [] ⟨[], [], [some [4]], []⟩ ⟨[], [], []⟩ (trs 4 [false, false, false, false, false, true, true, true, true, false, true, true, true, true, true]) (tt k2 (pp (pp (xI R6 (Wj (cvT l1)).length (Zz (Wj (cvT l1)))) (xw aU)) (tt k0 (tt k1 (pp (pp (xI R6 (Wj (cvT l0)).length (Zz (Wj (cvT l0)))) (xw aG)) (tt k0 (tt k1 (pp (pp (xI R6 (Wj (cvT l0)).length (Zz (Wj (cvT l0)))) (xw aG)) (tt k0 (pp (pp (xI R6 (Yq (cvT (Wj (cvT l0))) (cvT (Wj (cvT l1)))).length (Zz (Yq (cvT (Wj (cvT l0))) (cvT (Wj (cvT l1)))))) (xw cN)) (pp (pp (xI R6 (Wj (cvT l0)).length (Zz (Wj (cvT l0)))) (pp (xI R6 (Wj (cvT l1)).length (Zz (Wj (cvT l1)))) (xw cM))) (pp (pp (xr l1) (xw cL)) (pp (pp (xr l0) (xw bM)) nn)))))))))))))))) (fun k2 => (lr 57 70 [1, 1, 1, 0, 0, 1, 0, 0] 1 3 [(4, (.int .u8 3))] (sl x4u 79 [] ⟨[], [], [some [4]], []⟩ ⟨[], [], []⟩ (trs 4 [false, false, false, false, false, true, true, true, true, false, true, true, true, true, false, true]) (tt k0 (tt k2 (pp (pp (xI R6 (Wj (cvT l1)).length (Zz (Wj (cvT l1)))) (xw aU)) (tt k0 (tt k1 (pp (pp (xI R6 (Wj (cvT l0)).length (Zz (Wj (cvT l0)))) (xw aG)) (tt k0 (tt k1 (pp (pp (xI R6 (Wj (cvT l0)).length (Zz (Wj (cvT l0)))) (xw aG)) (tt k0 (pp (pp (xI R6 (Yq (cvT (Wj (cvT l0))) (cvT (Wj (cvT l1)))).length (Zz (Yq (cvT (Wj (cvT l0))) (cvT (Wj (cvT l1)))))) (xw cN)) (pp (pp (xI R6 (Wj (cvT l0)).length (Zz (Wj (cvT l0)))) (pp (xI R6 (Wj (cvT l1)).length (Zz (Wj (cvT l1)))) (xw cM))) (pp (pp (xr l1) (xw cL)) (pp (pp (xr l0) (xw bM)) nn))))))))))))))))))))))) (fun k0 => (lo fun aG => (lb (fun k1 => (lr 57 70 [1, 1, 1, 0, 0, 1, 0, 0] 1 3 [(4, (.int .u8 2))] (sl x4u 88 [] ⟨[], [], [some [4]], []⟩ ⟨[], [], []⟩ [false, false, false, false, false, false, false, false, false, false, false, false, false, false, false, false, false, false, false, false, true] (tt k1 (pp (pp (xI R6 (Wj (cvT l0)).length (Zz (Wj (cvT l0)))) (pp (xI R6 (Wj (cvT l1)).length (Zz (Wj (cvT l1)))) (xw aG))) (tt k0 (tt k0 (tt k0 (tt k0 (pp (pp (xI R6 (Yq (cvT (Wj (cvT l0))) (cvT (Wj (cvT l1)))).length (Zz (Yq (cvT (Wj (cvT l0))) (cvT (Wj (cvT l1)))))) (xw cN)) (pp (pp (xI R6 (Wj (cvT l0)).length (Zz (Wj (cvT l0)))) (pp (xI R6 (Wj (cvT l1)).length (Zz (Wj (cvT l1)))) (xw cM))) (pp (pp (xr l1) (xw cL)) (pp (pp (xr l0) (xw bM)) nn))))))))))))) (fun k1 => (lr 57 3 [1, 1, 1, 1, 1, 1, 0] 1 3 [(4, (.int .u8 1))] (sl x4u 90 [] ⟨[], [], [some [4]], []⟩ ⟨[], [], []⟩ [false, false, false, false, false, false, false, false, false, false, false, false, false, false, false, false, false, false, false, false, false] (tt k1 (pp (pp (xI R6 (Wj (cvT l0)).length (Zz (Wj (cvT l0)))) (pp (xI R6 (Wj (cvT l1)).length (Zz (Wj (cvT l1)))) (xw aG))) (tt k0 (tt k0 (tt k0 (tt k0 (pp (pp (xI R6 (Yq (cvT (Wj (cvT l0))) (cvT (Wj (cvT l1)))).length (Zz (Yq (cvT (Wj (cvT l0))) (cvT (Wj (cvT l1)))))) (xw cN)) (pp (pp (xI R6 (Wj (cvT l0)).length (Zz (Wj (cvT l0)))) (pp (xI R6 (Wj (cvT l1)).length (Zz (Wj (cvT l1)))) (xw cM))) (pp (pp (xr l1) (xw cL)) (pp (pp (xr l0) (xw bM)) nn)))))))))))))))))))))
theorem w9d (l0 : List R6) (l1 : List R6) (n : Nat) (vs : List AVal) (h : Yj (x1w l0 l1) n (z9l l0 l1) = .ret vs) : Kv prog (Zy prog 70) (Zd prog 70 [(.dat l0.length (Zz l0)), (.dat l1.length (Zz l1))] true []) vs := by
 have := Zn (x8t l0 l1) n _ (x1x l0 l1)
 rwa [h] at this
end Go.Am
namespace Go.Am
open Go.Proofs.Tryz
open Go.Proofs
def relN (n v u c : Int) : Int := bif decide (n > 0) then (bif n == v then (bif n == u then 6 else 4) else (bif n == u then 5 else 3)) else (bif decide (c > 0) then 2 else 1)
def v3t (X Y : List R6) : Int := relN (z2a (Yq X Y)) (z2a X) (z2a Y) (w7d X Y)
def z5n (X Y : List R6) : Bool := decide (X.length ≤ 100 ∧ Y.length ≤ 100)
theorem v7t (X Y : List R6) (h : z5n X Y = true) : ∃ N, Yj (x1w X Y) N (z9l X Y) = .ret [.int .u8 (v3t X Y)] := by
 obtain ⟨h1, h2⟩ := of_decide_eq_true h
 have hl := z7o X Y
 have hm : X.length * Y.length ≤ 100 * 100 := Nat.mul_le_mul h1 h2
 have hc : Ji X Y = true := decide_eq_true (by omega)
 have hk : z6h X Y = true := decide_eq_true (by omega)
 have b1 : z0w X = true := decide_eq_true (by omega)
 have b2 : z0w Y = true := decide_eq_true (by omega)
 have v1 : Vd X = true := decide_eq_true (by omega)
 have v2 : Vd Y = true := decide_eq_true (by omega)
 have v3 : Vd (Yq X Y) = true := decide_eq_true (by omega)
 refine ⟨0, ?_⟩
 unfold z9l v3t relN
 simp only [Zg, Wj, hc, hk, b1, b2, v1, v2, v3, cond_true]
 rcases Yr (decide (z2a (Yq X Y) > 0)) with q1 | q1
 ·rcases Yr (z2a (Yq X Y) == z2a X) with q2 | q2 <;> rcases Yr (z2a (Yq X Y) == z2a Y) with q3 | q3 <;> simp only [q1, q2, q3, cond_true, cond_false] <;> rfl
 ·rcases Yr (decide (w7d X Y > 0)) with q2 | q2 <;> simp only [q1, q2, cond_true, cond_false] <;> rfl
def fOrl : List AVal → Option (AVal × Bool)
 | [a0, a1] => match asL R6 a0, asL R6 a1 with
  | some (L0, g0, n0), some (L1, g1, n1) => some (.int .u8 (v3t L0 L1), isT R6 n0 g0 && (isT R6 n1 g1 && (z5n L0 L1)))
  | _, _ => none
 | _ => none
theorem v9q {S : Specs} (hS : Zu prog S) : Zu prog (S.with nRel fOrl) := by
 refine z2m hS (by kernel_rfl) fun args v h => ?_
 unfold fOrl at h
 split at h
 ·rename_i a0 a1
  split at h
  ·rename_i L0 g0 n0 L1 g1 n1 e0 e1
   simp only [Option.some.injEq, Prod.mk.injEq, Bool.and_eq_true] at h
   obtain ⟨rfl, ho0, ho1, hw⟩ := h
   obtain ⟨N, hN⟩ := v7t L0 L1 hw
   exact ⟨_, _, (.cons (Yx e0 ho0) (.cons (Yx e1 ho1) .nil)), rfl, w9d L0 L1 N _ hN, 3, rfl⟩
  ·cases h
 ·cases h
def z3y (l : List R6) : Bool := true
def Vx (l : List R6) : Bool := true
def Td : Specs := (Tc.with nRel fOrl)
theorem z6o : Zu prog Td := (v9q x4u)
end Go.Am
namespace Go.Am
open Go.Proofs.Tryz
open Go.Proofs
inductive rcvS where
def v7i (l0 : List R6) (l1 : List R6) (x2 : Int) : rcvS → Wu rcvS
 := nofun
def x5l (l0 : List R6) (l1 : List R6) (x2 : Int) : Wu rcvS := (bif (Vx (cvT l0)) then (bif ((Xg (cvT l0)) != 0) then (.ret [(.int .i64 0), (.int .i64 (Xg (cvT l0)))]) else (bif (Vx (cvT l1)) then (bif ((Xg (cvT l1)) != 0) then (.ret [(.int .i64 0), (.int .i64 (Xg (cvT l1)))]) else (bif (decide (x2 < 0)) then (.ret [(.int .i64 0), (.int .i64 2)]) else (bif (decide (x2 > 5)) then (.ret [(.int .i64 0), (.int .i64 2)]) else (bif (z0v (cvT l0) (cvT l1)) then (bif (z0u (cvT (Xo (cvT l0) (cvT l1))) (cvT (Wv (cvT l0) (cvT l1))) (cvT (Wg (cvT l0) (cvT l1))) (cvT (Yv (cvT l0) (cvT l1))) (cvT (Yp (cvT l0) (cvT l1))) 1 x2) then (.ret [(.int .i64 (v4w (cvT (Xo (cvT l0) (cvT l1))) (cvT (Wv (cvT l0) (cvT l1))) (cvT (Wg (cvT l0) (cvT l1))) (cvT (Yv (cvT l0) (cvT l1))) (cvT (Yp (cvT l0) (cvT l1))) 1 x2)), (.int .i64 0)]) else .stuck) else .stuck)))) else .stuck)) else .stuck)
inductive rcoS where
 | h0 (v7 : Int) (v8 : Int)
def y5k (l0 : List R6) (l1 : List R6) : rcoS → Wu rcoS
 | .h0 v7 v8 => (bif (decide (v8 < 6)) then (bif (z0u (cvT (Xo (cvT l0) (cvT l1))) (cvT (Wv (cvT l0) (cvT l1))) (cvT (Wg (cvT l0) (cvT l1))) (cvT (Yv (cvT l0) (cvT l1))) (cvT (Yp (cvT l0) (cvT l1))) 2 v8) then (.to (.h0 (IntKind.wrap .i64 (v7 + (v4w (cvT (Xo (cvT l0) (cvT l1))) (cvT (Wv (cvT l0) (cvT l1))) (cvT (Wg (cvT l0) (cvT l1))) (cvT (Yv (cvT l0) (cvT l1))) (cvT (Yp (cvT l0) (cvT l1))) 2 v8))) (IntKind.wrap .i64 (v8 + 1)))) else .stuck) else (.ret [(.int .i64 v7), (.int .i64 0)]))
def x5m (l0 : List R6) (l1 : List R6) : Wu rcoS := (bif (Vx (cvT l0)) then (bif ((Xg (cvT l0)) != 0) then (.ret [(.int .i64 0), (.int .i64 (Xg (cvT l0)))]) else (bif (Vx (cvT l1)) then (bif ((Xg (cvT l1)) != 0) then (.ret [(.int .i64 0), (.int .i64 (Xg (cvT l1)))]) else (bif (z0v (cvT l0) (cvT l1)) then (.to (.h0 0 0)) else .stuck)) else .stuck)) else .stuck)
inductive rrlS where
 | h0 (v6 : Bool) (v7 : Bool) (v8 : Bool) (v9 : Int)
 | h1 (v10 : Int)
def rrlC (l0 : List R6) (l1 : List R6) : rrlS → Cfg
 | .h0 v6 v7 v8 v9 => ⟨⟨114, 0, true⟩, none, (Yw prog 71 [1, 1, 1, 0, 1, 0, 0] 0), none, (Zy prog 3), ⟨Xp [(5, (.dptr [(.dat (Xo (cvT l0) (cvT l1)).length (Zz (Xo (cvT l0) (cvT l1)))), (.dat (Wv (cvT l0) (cvT l1)).length (Zz (Wv (cvT l0) (cvT l1)))), (.dat (Wg (cvT l0) (cvT l1)).length (Zz (Wg (cvT l0) (cvT l1)))), (.dat (Yv (cvT l0) (cvT l1)).length (Zz (Yv (cvT l0) (cvT l1)))), (.dat (Yp (cvT l0) (cvT l1)).length (Zz (Yp (cvT l0) (cvT l1))))])), (6, (.bool v6)), (7, (.bool v7)), (8, (.bool v8)), (9, (ii v9))], Ux [] 0, 0, [], true⟩, [], .leaf⟩
 | .h1 v10 => ⟨⟨114, 0, true⟩, none, (Yw prog 71 [1, 1, 1, 1, 1, 0, 1, 0, 0] 0), none, (Zy prog 3), ⟨Xp [(5, (.dptr [(.dat (Xo (cvT l0) (cvT l1)).length (Zz (Xo (cvT l0) (cvT l1)))), (.dat (Wv (cvT l0) (cvT l1)).length (Zz (Wv (cvT l0) (cvT l1)))), (.dat (Wg (cvT l0) (cvT l1)).length (Zz (Wg (cvT l0) (cvT l1)))), (.dat (Yv (cvT l0) (cvT l1)).length (Zz (Yv (cvT l0) (cvT l1)))), (.dat (Yp (cvT l0) (cvT l1)).length (Zz (Yp (cvT l0) (cvT l1))))])), (10, (ii v10))], Ux [] 0, 0, [], true⟩, [], .leaf⟩
def Qg : List (Option (List Nat)) := [some [5, 6, 7, 8, 9]]
def Qa : List (Option (List Nat)) := []
def rrlN1 : List (Option (List Nat)) := [some [5, 10]]
def rrlM1 : List (Option (List Nat)) := []
def Ko (l0 : List R6) (l1 : List R6) : rrlS → Wu rrlS
 | .h0 v6 v7 v8 v9 => (bif (decide (v9 < (((Yv (cvT l0) (cvT l1)).length : Nat) : Int))) then (bif v6 then (bif v7 then (bif v8 then (.to (.h0 true true true (IntKind.wrap .i64 (v9 + 1)))) else (bif ((decide (0 ≤ v9 ∧ v9 < (((Yv (cvT l0) (cvT l1)).length : Nat) : Int))) && true) then (bif (rd (Yv (cvT l0) (cvT l1)) v9.toNat) then (bif ((decide (0 ≤ v9 ∧ v9 < (((Yp (cvT l0) (cvT l1)).length : Nat) : Int))) && true) then (.to (.h0 true true (rd (Yp (cvT l0) (cvT l1)) v9.toNat) (IntKind.wrap .i64 (v9 + 1)))) else .stuck) else (.to (.h0 true true false (IntKind.wrap .i64 (v9 + 1))))) else .stuck)) else (bif ((decide (0 ≤ v9 ∧ v9 < (((Yp (cvT l0) (cvT l1)).length : Nat) : Int))) && true) then (bif (rd (Yp (cvT l0) (cvT l1)) v9.toNat) then (bif ((decide (0 ≤ v9 ∧ v9 < (((Yv (cvT l0) (cvT l1)).length : Nat) : Int))) && true) then (bif v8 then (.to (.h0 true (!(rd (Yv (cvT l0) (cvT l1)) v9.toNat)) true (IntKind.wrap .i64 (v9 + 1)))) else (bif (rd (Yv (cvT l0) (cvT l1)) v9.toNat) then (.to (.h0 true (!(rd (Yv (cvT l0) (cvT l1)) v9.toNat)) (rd (Yp (cvT l0) (cvT l1)) v9.toNat) (IntKind.wrap .i64 (v9 + 1)))) else (.to (.h0 true (!(rd (Yv (cvT l0) (cvT l1)) v9.toNat)) false (IntKind.wrap .i64 (v9 + 1)))))) else .stuck) else (bif v8 then (.to (.h0 true false true (IntKind.wrap .i64 (v9 + 1)))) else (bif ((decide (0 ≤ v9 ∧ v9 < (((Yv (cvT l0) (cvT l1)).length : Nat) : Int))) && true) then (bif (rd (Yv (cvT l0) (cvT l1)) v9.toNat) then (.to (.h0 true false (rd (Yp (cvT l0) (cvT l1)) v9.toNat) (IntKind.wrap .i64 (v9 + 1)))) else (.to (.h0 true false false (IntKind.wrap .i64 (v9 + 1))))) else .stuck))) else .stuck)) else (bif ((decide (0 ≤ v9 ∧ v9 < (((Yv (cvT l0) (cvT l1)).length : Nat) : Int))) && true) then (bif (rd (Yv (cvT l0) (cvT l1)) v9.toNat) then (bif ((decide (0 ≤ v9 ∧ v9 < (((Yp (cvT l0) (cvT l1)).length : Nat) : Int))) && true) then (bif v7 then (bif v8 then (.to (.h0 (!(rd (Yp (cvT l0) (cvT l1)) v9.toNat)) true true (IntKind.wrap .i64 (v9 + 1)))) else (.to (.h0 (!(rd (Yp (cvT l0) (cvT l1)) v9.toNat)) true (rd (Yp (cvT l0) (cvT l1)) v9.toNat) (IntKind.wrap .i64 (v9 + 1))))) else (bif (rd (Yp (cvT l0) (cvT l1)) v9.toNat) then (bif v8 then (.to (.h0 (!(rd (Yp (cvT l0) (cvT l1)) v9.toNat)) (!(rd (Yv (cvT l0) (cvT l1)) v9.toNat)) true (IntKind.wrap .i64 (v9 + 1)))) else (.to (.h0 (!(rd (Yp (cvT l0) (cvT l1)) v9.toNat)) (!(rd (Yv (cvT l0) (cvT l1)) v9.toNat)) (rd (Yp (cvT l0) (cvT l1)) v9.toNat) (IntKind.wrap .i64 (v9 + 1))))) else (bif v8 then (.to (.h0 (!(rd (Yp (cvT l0) (cvT l1)) v9.toNat)) false true (IntKind.wrap .i64 (v9 + 1)))) else (.to (.h0 (!(rd (Yp (cvT l0) (cvT l1)) v9.toNat)) false (rd (Yp (cvT l0) (cvT l1)) v9.toNat) (IntKind.wrap .i64 (v9 + 1))))))) else .stuck) else (bif v7 then (bif v8 then (.to (.h0 false true true (IntKind.wrap .i64 (v9 + 1)))) else (.to (.h0 false true false (IntKind.wrap .i64 (v9 + 1))))) else (bif ((decide (0 ≤ v9 ∧ v9 < (((Yp (cvT l0) (cvT l1)).length : Nat) : Int))) && true) then (bif (rd (Yp (cvT l0) (cvT l1)) v9.toNat) then (bif v8 then (.to (.h0 false (!(rd (Yv (cvT l0) (cvT l1)) v9.toNat)) true (IntKind.wrap .i64 (v9 + 1)))) else (.to (.h0 false (!(rd (Yv (cvT l0) (cvT l1)) v9.toNat)) false (IntKind.wrap .i64 (v9 + 1))))) else (bif v8 then (.to (.h0 false false true (IntKind.wrap .i64 (v9 + 1)))) else (.to (.h0 false false false (IntKind.wrap .i64 (v9 + 1)))))) else .stuck))) else .stuck)) else (bif v8 then (bif (!v6) then (bif (!v7) then (.ret [(.int .u8 6)]) else (.ret [(.int .u8 4)])) else (bif (!v7) then (.ret [(.int .u8 5)]) else (.ret [(.int .u8 3)]))) else (.to (.h1 0))))
 | .h1 v10 => (bif (decide (v10 < 6)) then (bif (z0u (cvT (Xo (cvT l0) (cvT l1))) (cvT (Wv (cvT l0) (cvT l1))) (cvT (Wg (cvT l0) (cvT l1))) (cvT (Yv (cvT l0) (cvT l1))) (cvT (Yp (cvT l0) (cvT l1))) 2 v10) then (bif (decide ((v4w (cvT (Xo (cvT l0) (cvT l1))) (cvT (Wv (cvT l0) (cvT l1))) (cvT (Wg (cvT l0) (cvT l1))) (cvT (Yv (cvT l0) (cvT l1))) (cvT (Yp (cvT l0) (cvT l1))) 2 v10) > 0)) then (.ret [(.int .u8 2)]) else (.to (.h1 (IntKind.wrap .i64 (v10 + 1))))) else .stuck) else (.ret [(.int .u8 1)]))
def z9e (l0 : List R6) (l1 : List R6) : Wu rrlS := (bif (z0v (cvT l0) (cvT l1)) then (.to (.h0 false false false 0)) else .stuck)
theorem x8i (l0 : List R6) (l1 : List R6) : ∀ s, Wm prog (Zy prog 71) (rrlC l0 l1) (rrlC l0 l1 s) (Ko l0 l1 s)
 | .h0 v6 v7 v8 v9 => (lb (fun k0 => (lb (fun k1 => (lb (fun k2 => (lb (fun k3 => (sl Uc 92 [] ⟨[], [], Qg, Qa⟩ ⟨[], [], []⟩ (trs 28 []) (tt k3 (tt k2 (tt k1 (tt k0 nn)))))) (fun k3 => (lo fun bF => (lb (fun k4 => (lo fun o0 => (sl Uc 92 [] ⟨[], [], Qg, Qa⟩ ⟨[], [], []⟩ (trs 19 [false, false, false, false, false, false, false, false, true, true, true, true, true, true, true, false]) (ww o0 (tt k4 (ww bF (tt k3 (tt k2 (tt k1 (tt k0 nn)))))))))) (fun k4 => (sl Uc 92 [] ⟨[], [], Qg, Qa⟩ ⟨[], [], []⟩ (trs 19 [false, false, false, false, false, false, false, false, false, false, false, false, false, false, false, false]) (tt k4 (ww bF (tt k3 (tt k2 (tt k1 (tt k0 nn))))))))))))) (fun k2 => (lo fun bA => (lb (fun k3 => (lo fun bF => (lb (fun k4 => (sl Uc 92 [] ⟨[], [], Qg, Qa⟩ ⟨[], [], []⟩ (trs 10 [false, false, false, false, false, false, false, false, true, true, true, true, true, true, true, true, false, true, true, true, true, true, true, true, true, true]) (tt k4 (ww bF (tt k3 (ww bA (tt k2 (tt k1 (tt k0 nn))))))))) (fun k4 => (lb (fun k5 => (sl Uc 92 [] ⟨[], [], Qg, Qa⟩ ⟨[], [], []⟩ (trs 10 [false, false, false, false, false, false, false, false, true, true, true, true, true, true, true, true, false, false, false, false, false, false, false, false, false, true, true, true, true, true, true, true, false]) (ww bA (tt k5 (ww bF (tt k4 (ww bF (tt k3 (ww bA (tt k2 (tt k1 (tt k0 nn)))))))))))) (fun k5 => (sl Uc 92 [] ⟨[], [], Qg, Qa⟩ ⟨[], [], []⟩ (trs 10 [false, false, false, false, false, false, false, false, true, true, true, true, true, true, true, true, false, false, false, false, false, false, false, false, false, false, false, false, false, false, false, false, false]) (tt k5 (ww bF (tt k4 (ww bF (tt k3 (ww bA (tt k2 (tt k1 (tt k0 nn)))))))))))))))) (fun k3 => (lb (fun k4 => (sl Uc 92 [] ⟨[], [], Qg, Qa⟩ ⟨[], [], []⟩ (trs 10 [false, false, false, false, false, false, false, false, false, false, false, false, false, false, false, false, false, true, true, true, true, true, true, true, true, true]) (tt k4 (tt k3 (ww bA (tt k2 (tt k1 (tt k0 nn)))))))) (fun k4 => (lo fun cG => (lb (fun k5 => (sl Uc 92 [] ⟨[], [], Qg, Qa⟩ ⟨[], [], []⟩ (trs 10 [false, false, false, false, false, false, false, false, false, false, false, false, false, false, false, false, false, false, false, false, false, false, false, false, false, true, true, true, true, true, true, true, false]) (ww bA (tt k5 (ww cG (tt k4 (tt k3 (ww bA (tt k2 (tt k1 (tt k0 nn))))))))))) (fun k5 => (sl Uc 92 [] ⟨[], [], Qg, Qa⟩ ⟨[], [], []⟩ (trs 10 [false, false, false, false, false, false, false, false, false, false, false, false, false, false, false, false, false, false, false, false, false, false, false, false, false, false, false, false, false, false, false, false, false]) (tt k5 (ww cG (tt k4 (tt k3 (ww bA (tt k2 (tt k1 (tt k0 nn)))))))))))))))))))) (fun k1 => (lo fun aU => (lb (fun k2 => (lo fun bA => (lb (fun k3 => (lb (fun k4 => (sl Uc 92 [] ⟨[], [], Qg, Qa⟩ ⟨[], [], []⟩ [true, false, false, false, false, false, false, false, false, true, true, true, true, true, true, true, true, false, true, true, true, true, true, true, true, true, true, true, true, true, true, true, true, true, true, true] (tt k4 (tt k3 (ww bA (tt k2 (ww aU (tt k1 (tt k0 nn))))))))) (fun k4 => (sl Uc 92 [] ⟨[], [], Qg, Qa⟩ ⟨[], [], []⟩ [true, false, false, false, false, false, false, false, false, true, true, true, true, true, true, true, true, false, true, true, true, true, true, true, true, true, true, false, false, false, false, false, false, false, false, true, true, true, true, true, true, true, false] (ww bA (tt k2 (ww aU (tt k4 (tt k3 (ww bA (tt k2 (ww aU (tt k1 (tt k0 nn)))))))))))))) (fun k3 => (lb (fun k4 => (lb (fun k5 => (sl Uc 92 [] ⟨[], [], Qg, Qa⟩ ⟨[], [], []⟩ [true, false, false, false, false, false, false, false, false, true, true, true, true, true, true, true, true, false, false, false, false, false, false, false, false, false, true, true, true, true, true, true, true, true, false, true, true, true, true, true, true, true, true, true] (tt k5 (ww aU (tt k4 (ww bA (tt k3 (ww bA (tt k2 (ww aU (tt k1 (tt k0 nn)))))))))))) (fun k5 => (sl Uc 92 [] ⟨[], [], Qg, Qa⟩ ⟨[], [], []⟩ [true, false, false, false, false, false, false, false, false, true, true, true, true, true, true, true, true, false, false, false, false, false, false, false, false, false, true, true, true, true, true, true, true, true, false, false, false, false, false, false, false, false, false, true, true, true, true, true, true, true, false] (ww bA (tt k2 (ww aU (tt k5 (ww aU (tt k4 (ww bA (tt k3 (ww bA (tt k2 (ww aU (tt k1 (tt k0 nn))))))))))))))))) (fun k4 => (lb (fun k5 => (sl Uc 92 [] ⟨[], [], Qg, Qa⟩ ⟨[], [], []⟩ [true, false, false, false, false, false, false, false, false, true, true, true, true, true, true, true, true, false, false, false, false, false, false, false, false, false, false, false, false, false, false, false, false, false, false, true, true, true, true, true, true, true, true, true] (tt k5 (tt k4 (ww bA (tt k3 (ww bA (tt k2 (ww aU (tt k1 (tt k0 nn))))))))))) (fun k5 => (sl Uc 92 [] ⟨[], [], Qg, Qa⟩ ⟨[], [], []⟩ [true, false, false, false, false, false, false, false, false, true, true, true, true, true, true, true, true, false, false, false, false, false, false, false, false, false, false, false, false, false, false, false, false, false, false, false, false, false, false, false, false, false, false, true, true, true, true, true, true, true, false] (ww bA (tt k2 (ww aU (tt k5 (tt k4 (ww bA (tt k3 (ww bA (tt k2 (ww aU (tt k1 (tt k0 nn))))))))))))))))))))) (fun k2 => (lb (fun k3 => (lb (fun k4 => (sl Uc 92 [] ⟨[], [], Qg, Qa⟩ ⟨[], [], []⟩ [true, false, false, false, false, false, false, false, false, false, false, false, false, false, false, false, false, false, true, true, true, true, true, true, true, true, true, true, true, true, true, true, true, true, true, true] (tt k4 (tt k3 (tt k2 (ww aU (tt k1 (tt k0 nn)))))))) (fun k4 => (sl Uc 92 [] ⟨[], [], Qg, Qa⟩ ⟨[], [], []⟩ [true, false, false, false, false, false, false, false, false, false, false, false, false, false, false, false, false, false, true, true, true, true, true, true, true, true, true, false, false, false, false, false, false, false, false, false, false, false, false, false, false, false, false] (tt k2 (ww aU (tt k4 (tt k3 (tt k2 (ww aU (tt k1 (tt k0 nn)))))))))))) (fun k3 => (lo fun bF => (lb (fun k4 => (lb (fun k5 => (sl Uc 92 [] ⟨[], [], Qg, Qa⟩ ⟨[], [], []⟩ [true, false, false, false, false, false, false, false, false, false, false, false, false, false, false, false, false, false, false, false, false, false, false, false, false, false, true, true, true, true, true, true, true, true, false, true, true, true, true, true, true, true, true, true] (tt k5 (ww aU (tt k4 (ww bF (tt k3 (tt k2 (ww aU (tt k1 (tt k0 nn))))))))))) (fun k5 => (sl Uc 92 [] ⟨[], [], Qg, Qa⟩ ⟨[], [], []⟩ [true, false, false, false, false, false, false, false, false, false, false, false, false, false, false, false, false, false, false, false, false, false, false, false, false, false, true, true, true, true, true, true, true, true, false, false, false, false, false, false, false, false, false, false, false, false, false, false, false, false, false] (tt k2 (ww aU (tt k5 (ww aU (tt k4 (ww bF (tt k3 (tt k2 (ww aU (tt k1 (tt k0 nn))))))))))))))) (fun k4 => (lb (fun k5 => (sl Uc 92 [] ⟨[], [], Qg, Qa⟩ ⟨[], [], []⟩ [true, false, false, false, false, false, false, false, false, false, false, false, false, false, false, false, false, false, false, false, false, false, false, false, false, false, false, false, false, false, false, false, false, false, false, true, true, true, true, true, true, true, true, true] (tt k5 (tt k4 (ww bF (tt k3 (tt k2 (ww aU (tt k1 (tt k0 nn)))))))))) (fun k5 => (sl Uc 92 [] ⟨[], [], Qg, Qa⟩ ⟨[], [], []⟩ [true, false, false, false, false, false, false, false, false, false, false, false, false, false, false, false, false, false, false, false, false, false, false, false, false, false, false, false, false, false, false, false, false, false, false, false, false, false, false, false, false, false, false, false, false, false, false, false, false, false, false] (tt k2 (ww aU (tt k5 (tt k4 (ww bF (tt k3 (tt k2 (ww aU (tt k1 (tt k0 nn)))))))))))))))))))))))) (fun k0 => (lb (fun k1 => (lb (fun k2 => (lb (fun k3 => (lr 114 71 [1, 1, 1, 1, 0, 0, 1, 0, 0] 1 3 [(4, (.int .u8 6))] (sl Uc 33 [] ⟨[], [], [some [4]], []⟩ ⟨[], [], []⟩ [false, true, true, true, true, true] (tt k3 (tt k2 (tt k1 (tt k0 nn))))))) (fun k3 => (lr 114 71 [1, 1, 1, 1, 0, 0, 1, 0, 0] 1 3 [(4, (.int .u8 4))] (sl Uc 43 [] ⟨[], [], [some [4]], []⟩ ⟨[], [], []⟩ [false, true, true, true, true, false, true, true, true] (tt k2 (tt k1 (tt k3 (tt k2 (tt k1 (tt k0 nn))))))))))) (fun k2 => (lb (fun k3 => (lr 114 71 [1, 1, 1, 1, 0, 0, 1, 0, 0] 1 3 [(4, (.int .u8 5))] (sl Uc 53 [] ⟨[], [], [some [4]], []⟩ ⟨[], [], []⟩ [false, true, true, false, false, false, true, true, false, true, true, true] (tt k3 (tt k1 (tt k2 (tt k1 (tt k2 (tt k1 (tt k0 nn)))))))))) (fun k3 => (lr 114 71 [1, 1, 1, 1, 0, 0, 1, 0, 0] 1 3 [(4, (.int .u8 3))] (sl Uc 59 [] ⟨[], [], [some [4]], []⟩ ⟨[], [], []⟩ [false, true, true, false, false, false, true, true, false, true, true, false, true] (tt k1 (tt k3 (tt k1 (tt k2 (tt k1 (tt k2 (tt k1 (tt k0 nn))))))))))))))) (fun k1 => (sl Uc 64 [] ⟨[], [], rrlN1, rrlM1⟩ ⟨[], [], []⟩ [false, false, false, false, false, false, false, false, false, false, false, false, false] (tt k1 (tt k1 (tt k1 (tt k1 (tt k0 nn))))))))))
 | .h1 v10 => (lb (fun k0 => (lo fun aG => (lb (fun k1 => (lr 114 71 [1, 1, 1, 1, 1, 0, 1, 0, 0, 1, 0, 0, 1, 0, 0] 1 3 [(4, (.int .u8 2))] (sl Uc 22 [] ⟨[], [], [some [4]], []⟩ ⟨[], [], []⟩ [true, true] (tt k1 (pp (pp (xI Int (Xo (cvT l0) (cvT l1)).length (Zz (Xo (cvT l0) (cvT l1)))) (pp (xI Int (Wv (cvT l0) (cvT l1)).length (Zz (Wv (cvT l0) (cvT l1)))) (pp (xI Int (Wg (cvT l0) (cvT l1)).length (Zz (Wg (cvT l0) (cvT l1)))) (pp (xI Bool (Yv (cvT l0) (cvT l1)).length (Zz (Yv (cvT l0) (cvT l1)))) (pp (xI Bool (Yp (cvT l0) (cvT l1)).length (Zz (Yp (cvT l0) (cvT l1)))) (xw aG)))))) (tt k0 nn)))))) (fun k1 => (sl Uc 26 [] ⟨[], [], rrlN1, rrlM1⟩ ⟨[], [], []⟩ [true, false] (tt k1 (pp (pp (xI Int (Xo (cvT l0) (cvT l1)).length (Zz (Xo (cvT l0) (cvT l1)))) (pp (xI Int (Wv (cvT l0) (cvT l1)).length (Zz (Wv (cvT l0) (cvT l1)))) (pp (xI Int (Wg (cvT l0) (cvT l1)).length (Zz (Wg (cvT l0) (cvT l1)))) (pp (xI Bool (Yv (cvT l0) (cvT l1)).length (Zz (Yv (cvT l0) (cvT l1)))) (pp (xI Bool (Yp (cvT l0) (cvT l1)).length (Zz (Yp (cvT l0) (cvT l1)))) (xw aG)))))) (tt k0 nn)))))))) (fun k0 => (lr 114 3 [1, 1, 1, 1, 1, 1, 0] 1 3 [(4, (.int .u8 1))] (sl Uc 12 [] ⟨[], [], [some [4]], []⟩ ⟨[], [], []⟩ [false] (tt k0 nn)))))
theorem x1b (l0 : List R6) (l1 : List R6) : Wm prog (Zy prog 71) (rrlC l0 l1) (Zd prog 71 [(.dat l0.length (Zz l0)), (.dat l1.length (Zz l1))] true []) (z9e l0 l1) := (lo fun o0 => (sl Uc 24 [] ⟨[], [], Qg, Qa⟩ ⟨[], [], []⟩ [] (pp (pp (xr l0) (pp (xr l1) (xw o0))) nn)))
theorem w8c (l0 : List R6) (l1 : List R6) (n : Nat) (vs : List AVal) (h : Yj (Ko l0 l1) n (z9e l0 l1) = .ret vs) : Kv prog (Zy prog 71) (Zd prog 71 [(.dat l0.length (Zz l0)), (.dat l1.length (Zz l1))] true []) vs := by
 have := Zn (x8i l0 l1) n _ (x1b l0 l1)
 rwa [h] at this
end Go.Am
namespace Go.Am
open Go.Proofs Go.Sort Go.Shelf Go.RowKit Go.Lib
namespace Dim
variable {α β : Type} (D : Dim α β)
structure Fair : Prop where
 lo_put : ∀ x x' b, D.lo (D.put x x' b) = x
 hi_put : ∀ x x' b, D.hi (D.put x x' b) = x'
 pr_put : ∀ x x' b, D.pr (D.put x x' b) = b
 ext_put : ∀ x x' x'' b, D.ext x'' (D.put x x' b) = D.put x x'' b
def Ap (R : β → β → Prop) (a b : α) : Prop := D.hi a ≤ D.lo b ∨ D.hi b ≤ D.lo a ∨ R (D.pr a) (D.pr b)
theorem w3b {D : Dim α β} (hD : D.Fair) (R : β → β → Prop) (sec : Int → List β) (cs : List Int) (hc : cs.Pairwise (· < ·)) (fI : ∀ x, (sec x).Pairwise R) :
  ∀ (k i : Nat) (pre : List α) (last : List β) (x0 : Int), (i + k < cs.length ∨ k = 0) → pre.Pairwise (D.Ap R) → (∀ a ∈ pre, D.hi a ≤ x0) → (last ≠ [] → x0 ≤ rd cs i) → (last = [] → x0 ≤ rd cs i) → last.Pairwise R →
  (D.ref sec cs k i (pre ++ last.map (D.put x0 (rd cs i))) last pre.length).Pairwise (D.Ap R) := by
 have fin : ∀ (pre : List α) (last : List β) (x0 x' : Int), pre.Pairwise (D.Ap R) → (∀ a ∈ pre, D.hi a ≤ x0) → last.Pairwise R → (pre ++ last.map (D.put x0 x')).Pairwise (D.Ap R) := fun pre last x0 x' h1 h2 h3 => by
  refine List.pairwise_append.2 ⟨h1, ?_, fun a ha b hb => ?_⟩
  ·refine List.pairwise_map.2 (h3.imp fun {a b} h => .inr (.inr ?_))
   rw [hD.pr_put, hD.pr_put]; exact h
  ·obtain ⟨c, _, rfl⟩ := List.mem_map.1 hb
   exact .inl (by rw [hD.lo_put]; exact h2 a ha)
 intro k
 induction k with
 | zero => intro i pre last x0 _ h1 h2 _ _ h3; exact fin pre last x0 _ h1 h2 h3
 | succ k ih =>
  intro i pre last x0 hk h1 h2 h4 h5 h3
  have hlt : rd cs i < rd cs (i + 1) := w9v hc (Nat.lt_succ_self _) (by omega)
  unfold ref
  cases hq : (decide (0 < i) && D.same (sec (rd cs i)) last) with
  | true =>
   rw [cond_true]
   have e : D.grow (pre ++ last.map (D.put x0 (rd cs i))) pre.length (rd cs (i + 1)) = pre ++ last.map (D.put x0 (rd cs (i + 1))) := by
    unfold grow
    rw [List.take_left, List.drop_left, List.map_map]
    congr 1
    exact List.map_congr_left fun b _ => hD.ext_put _ _ _ _
   rw [e]
   exact ih (i + 1) pre last x0 (by omega) h1 h2 (fun h => by have := h4 h; omega) (fun h => by have := h5 h; omega) h3
  | false =>
   rw [cond_false]
   refine ih (i + 1) (pre ++ last.map (D.put x0 (rd cs i))) (sec (rd cs i)) (rd cs i) (by omega) (fin pre last x0 _ h1 h2 h3) (fun a ha => ?_) (fun _ => by omega) (fun _ => by omega) (fI _)
   rcases List.mem_append.1 ha with ha | ha
   ·have := h2 a ha
    by_cases e : last = []
    ·have := h5 e; omega
    ·have := h4 e; omega
   ·obtain ⟨c, _, rfl⟩ := List.mem_map.1 ha
    rw [hD.hi_put]; exact Int.le_refl _
theorem out_apart {D : Dim α β} (hD : D.Fair) (R : β → β → Prop) (hs : ∀ a b, D.same a b = true ↔ a = b) (l : List α) (fI : ∀ x, (D.sec l x).Pairwise R) : (D.out l).Pairwise (D.Ap R) := by
 rw [D.out_eq hs l]
 have hc : (D.cuts l).Pairwise (· < ·) := by
  show (z8h (D.ends l)).Pairwise (· < ·)
  rw [x3t]; exact (y0f _).1
 have := w3b hD R (D.sec l) (D.cuts l) hc fI ((D.cuts l).length - 1) 0 [] [] (rd (D.cuts l) 0) (by omega) .nil (by simp) (fun _ => Int.le_refl _) (fun _ => Int.le_refl _) .nil
 exact this
end Dim
theorem u1s : D4.Fair := ⟨fun _ _ _ => rfl, fun _ _ _ => rfl, fun _ _ _ => rfl, fun _ _ _ _ => rfl⟩
theorem u1r : D6.Fair := ⟨fun _ _ _ => rfl, fun _ _ _ => rfl, fun _ _ _ => rfl, fun _ _ _ _ => rfl⟩
def Ap2 (s t : R2) : Prop := s.b ≤ t.a ∨ t.b ≤ s.a
def Ap4 (s t : R4) : Prop := s.c ≤ t.a ∨ t.c ≤ s.a ∨ s.d ≤ t.b ∨ t.d ≤ s.b
def Ap6 (s t : R6) : Prop := s.d ≤ t.a ∨ t.d ≤ s.a ∨ s.e ≤ t.b ∨ t.e ≤ s.b ∨ s.f ≤ t.c ∨ t.f ≤ s.c
theorem w1v (l : List R2) : (Wz l).Pairwise Ap2 := by
 unfold Wz
 by_cases h : 400 < l.length
 ·rw [decide_eq_true h]; exact .nil
 ·rw [decide_eq_false h, cond_false]
  cases hv : l.all y2t with
  | false => exact .nil
  | true =>
   rw [cond_true]
   exact (w1o l hv).1.sep.imp fun {s t} h => .inl (by omega)
theorem w2y (l : List R4) : (Xd l).Pairwise Ap4 := by
 have key : (D4.out l).Pairwise Ap4 := (Dim.out_apart u1s Ap2 (fun a b => decide_eq_true_iff) l fun x => w1v _).imp fun {s t} h => by
  rcases h with h | h | h | h
  ·exact .inl h
  ·exact .inr (.inl h)
  ·exact .inr (.inr (.inl h))
  ·exact .inr (.inr (.inr h))
 unfold Xd
 by_cases h : 400 < l.length
 ·rw [decide_eq_true h]; exact .nil
 ·rw [decide_eq_false h, cond_false]
  cases l.all z8x with
  | false => exact .nil
  | true =>
   rw [cond_true]
   cases decide (((D4.out l).length : Int) > 400) with
   | true => exact .nil
   | false => exact key
theorem z1d {l : List R6} (h : Xn l = 0) : l.length ≤ 400 ∧ (∀ r ∈ l, z6w r = true) ∧ l = D6.out l ∧ l.Pairwise Ap6 := by
 unfold Xn at h
 by_cases h1 : 400 < l.length
 ·rw [decide_eq_true h1] at h; cases h
 ·rw [decide_eq_false h1, cond_false] at h
  cases hv : l.all z6w with
  | false => rw [hv] at h; cases h
  | true =>
   rw [hv, cond_true] at h
   cases ho : okF l ((D6.cuts l).length - 1) 0 with
   | false => rw [ho] at h; cases h
   | true =>
    rw [ho, cond_true] at h
    cases h2 : decide (((D6.out l).length : Int) > 400) with
    | true => rw [h2] at h; cases h
    | false =>
     rw [h2, cond_false] at h
     cases h3 : Ky (D6.out l) l with
     | false => rw [h3] at h; cases h
     | true =>
      have e : D6.out l = l := of_decide_eq_true h3
      refine ⟨by omega, fun r hr => List.all_eq_true.1 hv r hr, e.symm, ?_⟩
      have := (Dim.out_apart u1r Ap4 (fun a b => decide_eq_true_iff) l fun x => w2y _).imp (S := Ap6) fun {s t} h => by
       rcases h with h | h | h | h | h | h
       ·exact .inr (.inr (.inr (.inr (.inl h))))
       ·exact .inr (.inr (.inr (.inr (.inr h))))
       ·exact .inl h
       ·exact .inr (.inl h)
       ·exact .inr (.inr (.inl h))
       ·exact .inr (.inr (.inr (.inl h)))
      rwa [e] at this
theorem Ki {r : R6} (h : z6w r = true) : r.a < r.d ∧ r.b < r.e ∧ r.c < r.f ∧ -1000000 ≤ r.a ∧ -1000000 ≤ r.b ∧ -1000000 ≤ r.c ∧ r.d ≤ 1000000 ∧ r.e ≤ 1000000 ∧ r.f ≤ 1000000 := by
 rw [w1j] at h
 simp only [x7k, Bool.and_eq_true, decide_eq_true_eq] at h
 omega
end Go.Am
namespace Go.Am
open Go.Proofs Go.Sort Go.Shelf Go.RowKit Go.Lib
structure y3h (β : Type) where
 a : Int
 b : Int
 s : List β
def ptL {β γ : Type} (inB : β → γ → Prop) (s : List β) (q : γ) : Prop := ∃ r ∈ s, inB r q
structure Sem (β γ : Type) where
 can : List β → Prop
 inB : β → γ → Prop
 uniq : ∀ s t, can s → can t → (∀ q, ptL inB s q ↔ ptL inB t q) → s = t
 some : ∀ s, can s → s ≠ [] → ∃ q, ptL inB s q
 nil : can []
section
variable {β γ : Type} (M : Sem β γ)
def OkS (g : y3h β) : Prop := g.a < g.b ∧ M.can g.s ∧ g.s ≠ []
def Nxt (g h : y3h β) : Prop := g.b ≤ h.a ∧ (g.b = h.a → g.s ≠ h.s)
inductive x0f : List (y3h β) → Prop
 | nil : x0f []
 | one (g : y3h β) (h : OkS M g) : x0f [g]
 | cons (g h : y3h β) (r : List (y3h β)) (ok : OkS M g) (nx : Nxt g h) (k : x0f (h :: r)) : x0f (g :: h :: r)
def ptG (G : List (y3h β)) (x : Int) (q : γ) : Prop := ∃ g ∈ G, g.a ≤ x ∧ x < g.b ∧ ptL M.inB g.s q
variable {M}
theorem x0f.head {g : y3h β} {r : List (y3h β)} (h : x0f M (g :: r)) : OkS M g := by cases h <;> assumption
theorem x0f.tail {g : y3h β} {r : List (y3h β)} (h : x0f M (g :: r)) : x0f M r := by
 cases h with
 | one => exact .nil
 | cons _ _ _ _ _ k => exact k
theorem x0f.later {g : y3h β} {r : List (y3h β)} (h : x0f M (g :: r)) : ∀ k ∈ r, g.b ≤ k.a := by
 induction r generalizing g with
 | nil => intro k hk; cases hk
 | cons k r ih =>
  cases h with
  | cons _ _ _ ok nx kk =>
   intro m hm
   rcases List.mem_cons.1 hm with rfl | hm
   ·exact nx.1
   ·have h1 := ih kk m hm
    have h2 := kk.head.1
    have h3 := nx.1
    omega
theorem x0f.before {G : List (y3h β)} {g : y3h β} (k : x0f M (G ++ [g])) : ∀ m ∈ G, m.b ≤ g.a := by
 induction G with
 | nil => intro m hm; cases hm
 | cons m r ih =>
  intro n hn
  rcases List.mem_cons.1 hn with rfl | hn
  ·exact k.later g (by simp)
  ·exact ih k.tail n hn
theorem x5p (g : y3h β) (G : List (y3h β)) (x : Int) (q : γ) : ptG M (g :: G) x q ↔ (g.a ≤ x ∧ x < g.b ∧ ptL M.inB g.s q) ∨ ptG M G x q := by
 constructor
 ·rintro ⟨k, hk, h⟩
  rcases List.mem_cons.1 hk with rfl | hk
  ·exact .inl h
  ·exact .inr ⟨k, hk, h⟩
 ·rintro (h | ⟨k, hk, h⟩)
  ·exact ⟨g, by simp, h⟩
  ·exact ⟨k, by simp [hk], h⟩
theorem x0f.low {g : y3h β} {r : List (y3h β)} (h : x0f M (g :: r)) {x : Int} {q : γ} (hp : ptG M (g :: r) x q) : g.a ≤ x := by
 rcases (x5p g r x q).1 hp with hp | ⟨k, hk, h1, _⟩
 ·exact hp.1
 ·have := h.later k hk
  have := h.head.1
  omega
theorem x0f.rest {g : y3h β} {r : List (y3h β)} (h : x0f M (g :: r)) (x : Int) (q : γ) : ptG M r x q ↔ g.b ≤ x ∧ ptG M (g :: r) x q := by
 constructor
 ·rintro ⟨k, hk, h1, h2⟩
  have := h.later k hk
  exact ⟨by omega, k, by simp [hk], h1, h2⟩
 ·rintro ⟨hx, hp⟩
  rcases (x5p g r x q).1 hp with hp | hp
  ·omega
  ·exact hp
end
namespace Dim
variable {α β : Type} (D : Dim α β)
def flat (G : List (y3h β)) : List α := G.flatMap fun g => g.s.map (D.put g.a g.b)
variable {D}
def can {γ : Type} (M : Sem β γ) (l : List α) : Prop := ∃ G, x0f M G ∧ l = D.flat G
variable (D)
variable {D}
structure Inv {γ : Type} (M : Sem β γ) (sec : Int → List β) (cs : List Int) (i : Nat) (s : Sw α β) (G : List (y3h β)) : Prop where
 can : x0f M G
 out : s.out = D.flat G
 gap : s.last = [] → ∀ g ∈ G, g.b < rd cs i
 end_ : s.last ≠ [] → ∃ Gp g, G = Gp ++ [g] ∧ g.s = s.last ∧ g.b = rd cs i ∧ s.fin = rd cs i ∧ s.first = (D.flat Gp).length
 pts : ∀ x q, ptG M G x q ↔ ∃ j, j < i ∧ rd cs j ≤ x ∧ x < rd cs (j + 1) ∧ ptL M.inB (sec (rd cs j)) q
end Dim
end Go.Am
namespace Go.Am
open Go.Proofs Go.Sort Go.Shelf Go.RowKit Go.Lib
namespace Dim
variable {α β : Type} {D : Dim α β}
end Dim
end Go.Am
namespace Go.Am
open Go.Proofs Go.Sort Go.Shelf Go.RowKit Go.Lib
def ind (a b t : Int) : Int := if a ≤ t ∧ t < b then 1 else 0
def ptsN (lo : Int) (n : Nat) : List Int := (List.range n).map fun (k : Nat) => lo + (k : Int)
theorem w4w (a b lo : Int) : ∀ n : Nat, sm (ptsN lo n) (ind a b) = ovl a b lo (lo + n)
 | 0 => by show (0 : Int) = _; unfold ovl; omega
 | n + 1 => by
  unfold ptsN
  rw [List.range_succ, List.map_append, y7q]
  have := w4w a b lo n
  unfold ptsN at this
  rw [this, List.map_cons, List.map_nil, Uy, w2a]
  unfold ind ovl
  split <;> omega
theorem z7h (a b c d t : Int) : ind a b t * ind c d t = ind (max a c) (min b d) t := by
 unfold ind
 by_cases h1 : a ≤ t ∧ t < b
 ·by_cases h2 : c ≤ t ∧ t < d
  ·rw [if_pos h1, if_pos h2, if_pos (by omega)]; rfl
  ·rw [if_pos h1, if_neg h2, if_neg (by omega)]; rfl
 ·rw [if_neg h1, Int.zero_mul, if_neg (by omega)]
theorem z7g (a b t : Int) : 0 ≤ ind a b t := by unfold ind; split <;> omega
theorem ind_le (a b t : Int) : ind a b t ≤ 1 := by unfold ind; split <;> omega
def Pts (p : List Int) : Prop := (∀ a b, -1000005 ≤ a ∧ b ≤ 1000005 → sm p (ind a b) = max 0 (b - a)) ∧ p.length = 2000010
theorem x5o : ∃ p, Pts p := by
 refine ⟨ptsN (-1000005) 2000010, fun a b h => ?_, by simp only [ptsN, List.length_map, List.length_range]⟩
 rw [w4w]
 show ovl a b (-1000005) (-1000005 + 2000010) = _
 unfold ovl; omega
def S3 (p : List Int) (f : Int → Int → Int → Int) : Int := sm p fun x => sm p fun y => sm p fun z => f x y z
theorem x7c {p : List Int} {f g : Int → Int → Int → Int} (h : ∀ x y z, f x y z = g x y z) : S3 p f = S3 p g := by
 have : f = g := by funext x y z; exact h x y z
 rw [this]
theorem u1m {p : List Int} {α : Type} (l : List α) (f : α → Int → Int → Int → Int) : S3 p (fun x y z => sm l fun a => f a x y z) = sm l fun a => S3 p (f a) := by
 unfold S3
 rw [y5a l p]
 refine Yh fun x _ => ?_
 rw [y5a l p]
 exact Yh fun y _ => y5a _ _ _
theorem x7b {p : List Int} (f g : Int → Int → Int → Int) : S3 p (fun x y z => f x y z - g x y z) = S3 p f - S3 p g := by
 unfold S3; simp only [sm_sub]
theorem w6v {p : List Int} {f g : Int → Int → Int → Int} (h : ∀ x y z, f x y z ≤ g x y z) : S3 p f ≤ S3 p g :=
 y5c fun x _ => y5c fun y _ => y5c fun z _ => h x y z
theorem w6t {p : List Int} {f : Int → Int → Int → Int} (h : ∀ x y z, 0 ≤ f x y z) : 0 ≤ S3 p f :=
 Wf fun x _ => Wf fun y _ => Wf fun z _ => h x y z
theorem w6u {p : List Int} (f g h : Int → Int) : S3 p (fun x y z => f x * g y * h z) = sm p f * sm p g * sm p h := by
 unfold S3
 simp only [y5b, Int.mul_assoc]
 rw [← x4z]
 refine Yh fun x _ => ?_
 rw [← x4z]
theorem v5q {p : List Int} (hp : Pts p) : S3 p (fun _ _ _ => 1) ≤ 8000120000600001000 := by
 have h : sm p (fun _ => 1) ≤ (p.length : Int) * 1 := v6g fun _ _ => Int.le_refl _
 have hl := hp.2
 have h0 : 0 ≤ sm p (fun _ => 1) := Wf fun _ _ => by omega
 have e : S3 p (fun _ _ _ => 1) = sm p (fun _ => 1) * sm p (fun _ => 1) * sm p (fun _ => 1) := w6u (fun _ => 1) (fun _ => 1) (fun _ => 1)
 rw [e]
 have h1 : sm p (fun _ => 1) ≤ 2000010 := by omega
 have h2 := Int.mul_le_mul (Int.mul_le_mul h1 h1 h0 (by omega)) h1 h0 (by omega)
 have h3 : (2000010 : Int) * 2000010 * 2000010 = 8000120000600001000 := by decide
 rw [h3] at h2
 exact h2
def inR (r : R6) (x y z : Int) : Int := ind r.a r.d x * ind r.b r.e y * ind r.c r.f z
theorem y4d (r : R6) (x y z : Int) : 0 ≤ inR r x y z := Int.mul_nonneg (Int.mul_nonneg (z7g ..) (z7g ..)) (z7g ..)
theorem x6k (r : R6) (x y z : Int) : inR r x y z = if (r.a ≤ x ∧ x < r.d) ∧ (r.b ≤ y ∧ y < r.e) ∧ (r.c ≤ z ∧ z < r.f) then 1 else 0 := by
 unfold inR ind
 by_cases h1 : r.a ≤ x ∧ x < r.d <;> by_cases h2 : r.b ≤ y ∧ y < r.e <;> by_cases h3 : r.c ≤ z ∧ z < r.f <;> simp [h1, h2, h3]
def x2c (r : R6) : Prop := -1000002 ≤ r.a ∧ r.d ≤ 1000002 ∧ -1000002 ≤ r.b ∧ r.e ≤ 1000002 ∧ -1000002 ≤ r.c ∧ r.f ≤ 1000002
theorem ov_S3 {p : List Int} (hp : Pts p) (r s : R6) (hr : x2c r) : S3 p (fun x y z => inR r x y z * inR s x y z) = ov r s := by
 obtain ⟨h1, h2, h3, h4, h5, h6⟩ := hr
 have e : (fun x y z => inR r x y z * inR s x y z) = fun x y z => ind (max r.a s.a) (min r.d s.d) x * ind (max r.b s.b) (min r.e s.e) y * ind (max r.c s.c) (min r.f s.f) z := by
  funext x y z
  rw [← z7h, ← z7h, ← z7h]
  unfold inR
  simp only [Int.mul_comm, Int.mul_left_comm, Int.mul_assoc]
 rw [e, w6u, hp.1 _ _ (by omega), hp.1 _ _ (by omega), hp.1 _ _ (by omega)]
 rfl
def cnt (X : List R6) (x y z : Int) : Int := sm X fun r => inR r x y z
theorem Kh (X : List R6) (x y z : Int) : 0 ≤ cnt X x y z := Wf fun r _ => y4d r x y z
theorem y4m : ∀ (X : List R6), X.Pairwise Ap6 → ∀ x y z, cnt X x y z ≤ 1
 | [], _, x, y, z => by show (0 : Int) ≤ 1; omega
 | r :: X, h, x, y, z => by
  obtain ⟨h1, h2⟩ := List.pairwise_cons.1 h
  have ih := y4m X h2 x y z
  have e : cnt (r :: X) x y z = inR r x y z + cnt X x y z := Uy _ _ _
  rw [e, x6k]
  split
  ·rename_i hp
   have : cnt X x y z = 0 := by
    have : cnt X x y z = sm X fun _ => 0 := Yh fun s hs => by
     rw [x6k]
     refine if_neg fun hq => ?_
     have := h1 s hs
     unfold Ap6 at this
     omega
    rw [this, Ui]
   omega
  ·omega
theorem v1v {p : List Int} (hp : Pts p) (X Y : List R6) (hX : ∀ r ∈ X, x2c r) : S2 X Y = S3 p fun x y z => cnt X x y z * cnt Y x y z := by
 have e : (fun x y z => cnt X x y z * cnt Y x y z) = fun x y z => sm X fun r => sm Y fun s => inR r x y z * inR s x y z := by
  funext x y z
  unfold cnt
  rw [← x4z]
  exact Yh fun r _ => (y5b _ _ _).symm
 rw [e, u1m]
 unfold S2
 refine Yh fun r hr => ?_
 rw [u1m]
 exact Yh fun s _ => (ov_S3 hp r s (hX r hr)).symm
theorem y2r (X Y : List R6) : 0 ≤ S2 X Y := Wf fun r _ => Wf fun s _ => z5m r s
theorem S2_le (X Y : List R6) (hX : ∀ r ∈ X, x2c r) (pX : X.Pairwise Ap6) (pY : Y.Pairwise Ap6) : S2 X Y ≤ 8000120000600001000 := by
 obtain ⟨p, hp⟩ := x5o
 rw [v1v hp X Y hX]
 refine Int.le_trans (w6v (g := fun _ _ _ => 1) fun x y z => ?_) (v5q hp)
 have h1 := y4m X pX x y z
 have h2 := y4m Y pY x y z
 have := Int.mul_le_mul h1 h2 (Kh Y x y z) (by omega)
 simpa using this
theorem x5v {r : R6} (h : z6w r = true) : x2c r := by
 have := Ki h
 unfold x2c; omega
theorem w3w {r : R6} (h : z6w r = true) : okB r = true := by
 have := Ki h
 exact decide_eq_true (by omega)
theorem y4x {X Y : List R6} (hX : Xn X = 0) (hY : Xn Y = 0) : z2a (Yq X Y) = S2 X Y := by
 obtain ⟨_, v1, _, p1⟩ := z1d hX
 obtain ⟨_, v2, _, p2⟩ := z1d hY
 have h1 := y2r X Y
 have h2 := S2_le X Y (fun r hr => x5v (v1 r hr)) p1 p2
 exact w1e (v5j X Y) (by omega)
theorem w3r (a b c d : Int) (h : -1000000 ≤ c ∧ d ≤ 1000000) : ovl a b c d ≤ 2000000 := by unfold ovl; omega
theorem w3s {p q r : Int} (hp : 0 ≤ p ∧ p ≤ 1) (hq : 0 ≤ q ∧ q ≤ 2000000) (hr : 0 ≤ r ∧ r ≤ 2000000) : p * q * r ≤ 4000000000000 := by
 have h1 := Int.mul_le_mul hp.2 hq.2 hq.1 (by omega)
 have h2 := Int.mul_le_mul h1 hr.2 hr.1 (by omega)
 omega
theorem w7e {p q r : Int} (h : p * q * r = 0) : p = 0 ∨ q = 0 ∨ r = 0 := by
 rcases Int.mul_eq_zero.1 h with h | h
 ·rcases Int.mul_eq_zero.1 h with h | h
  ·exact .inl h
  ·exact .inr (.inl h)
 ·exact .inr (.inr h)
theorem w9c (d : Int) (hd : 0 ≤ d ∧ d ≤ 5) {r s : R6} (hs : z6w s = true) (h : ov r s = 0) : ov (nx d r) s ≤ 4000000000000 := by
 have hv := Ki hs
 have c : d = 0 ∨ d = 1 ∨ d = 2 ∨ d = 3 ∨ d = 4 ∨ d = 5 := by omega
 have st : ∀ (t a b c d : Int), (t = 1 ∨ t = -1) → ovl a b c d = 0 → ovl (a + t) (b + t) c d ≤ 1 := fun t a b c d ht h => by unfold ovl at *; omega
 have la := w3r r.a r.d s.a s.d (by omega)
 have lb := w3r r.b r.e s.b s.e (by omega)
 have lc := w3r r.c r.f s.c s.f (by omega)
 have na := Vt r.a r.d s.a s.d
 have nb := Vt r.b r.e s.b s.e
 have nc := Vt r.c r.f s.c s.f
 have X : ∀ t, (t = 1 ∨ t = -1) → ovl (r.a + t) (r.d + t) s.a s.d * ovl r.b r.e s.b s.e * ovl r.c r.f s.c s.f ≤ 4000000000000 := fun t ht => by
  rcases w7e h with h | h | h
  ·exact w3s ⟨Vt .., st t _ _ _ _ ht h⟩ ⟨nb, lb⟩ ⟨nc, lc⟩
  ·rw [h, Int.mul_zero, Int.zero_mul]; omega
  ·rw [h, Int.mul_zero]; omega
 have Y : ∀ t, (t = 1 ∨ t = -1) → ovl r.a r.d s.a s.d * ovl (r.b + t) (r.e + t) s.b s.e * ovl r.c r.f s.c s.f ≤ 4000000000000 := fun t ht => by
  rcases w7e h with h | h | h
  ·rw [h, Int.zero_mul, Int.zero_mul]; omega
  ·rw [Int.mul_comm (ovl r.a r.d s.a s.d)]
   exact w3s ⟨Vt .., st t _ _ _ _ ht h⟩ ⟨na, la⟩ ⟨nc, lc⟩
  ·rw [h, Int.mul_zero]; omega
 have Z : ∀ t, (t = 1 ∨ t = -1) → ovl r.a r.d s.a s.d * ovl r.b r.e s.b s.e * ovl (r.c + t) (r.f + t) s.c s.f ≤ 4000000000000 := fun t ht => by
  rcases w7e h with h | h | h
  ·rw [h, Int.zero_mul, Int.zero_mul]; omega
  ·rw [h, Int.mul_zero, Int.zero_mul]; omega
  ·rw [Int.mul_comm, ← Int.mul_assoc]
   exact w3s ⟨Vt .., st t _ _ _ _ ht h⟩ ⟨na, la⟩ ⟨nb, lb⟩
 rcases c with rfl | rfl | rfl | rfl | rfl | rfl
 ·rw [show ov (nx 0 r) s = ovl (r.a + 1) (r.d + 1) s.a s.d * ovl r.b r.e s.b s.e * ovl r.c r.f s.c s.f from rfl]
  exact X 1 (.inl rfl)
 ·rw [show ov (nx 1 r) s = ovl (r.a + -1) (r.d + -1) s.a s.d * ovl r.b r.e s.b s.e * ovl r.c r.f s.c s.f from rfl]
  exact X (-1) (.inr rfl)
 ·rw [show ov (nx 2 r) s = ovl r.a r.d s.a s.d * ovl (r.b + 1) (r.e + 1) s.b s.e * ovl r.c r.f s.c s.f from rfl]
  exact Y 1 (.inl rfl)
 ·rw [show ov (nx 3 r) s = ovl r.a r.d s.a s.d * ovl (r.b + -1) (r.e + -1) s.b s.e * ovl r.c r.f s.c s.f from rfl]
  exact Y (-1) (.inr rfl)
 ·rw [show ov (nx 4 r) s = ovl r.a r.d s.a s.d * ovl r.b r.e s.b s.e * ovl (r.c + 1) (r.f + 1) s.c s.f from rfl]
  exact Z 1 (.inl rfl)
 ·rw [show ov (nx 5 r) s = ovl r.a r.d s.a s.d * ovl r.b r.e s.b s.e * ovl (r.c + -1) (r.f + -1) s.c s.f from rfl]
  exact Z (-1) (.inr rfl)
theorem w6x (d : Int) (X Y : List R6) : 0 ≤ E2 d X Y := Wf fun r _ => Wf fun s _ => z5m _ _
theorem E2_le (d : Int) (hd : 0 ≤ d ∧ d ≤ 5) {X Y : List R6} (lX : X.length ≤ 100) (lY : Y.length ≤ 100) (vY : ∀ s ∈ Y, z6w s = true) (h : ∀ r ∈ X, ∀ s ∈ Y, ov r s = 0) : E2 d X Y ≤ 40000000000000000 := by
 have h1 : ∀ r ∈ X, sm Y (fun s => ov (nx d r) s) ≤ 400000000000000 := fun r hr => by
  have := v6g (l := Y) (f := fun s => ov (nx d r) s) (c := 4000000000000) fun s hs => w9c d hd (vY s hs) (h r hr s hs)
  have h2 : (Y.length : Int) * 4000000000000 ≤ 100 * 4000000000000 := by omega
  omega
 have := v6g (l := X) (f := fun r => sm Y fun s => ov (nx d r) s) h1
 show sm X _ ≤ _
 omega
theorem w4k {r s : R6} (h : ov r s = 0) : Qx r s = none := by
 unfold Qx
 cases hc : (decide (max r.a s.a < min r.d s.d) && (decide (max r.b s.b < min r.e s.e) && decide (max r.c s.c < min r.f s.f))) with
 | false => rfl
 | true =>
  simp only [Bool.and_eq_true, decide_eq_true_eq] at hc
  have := w7e h
  unfold ovl at this
  omega
theorem u1e {X Y : List R6} (h : ∀ r ∈ X, ∀ s ∈ Y, ov r s = 0) : Yq X Y = [] := by
 unfold Yq
 refine List.flatMap_eq_nil_iff.2 fun r hr => ?_
 rw [List.filterMap_eq_nil_iff]
 exact fun s hs => w4k (h r hr s hs)
end Go.Am
namespace Go.Am
open Go.Proofs Go.Sort Go.Shelf Go.RowKit Go.Lib
theorem sm_pos {α : Type} {l : List α} {f : α → Int} (h : sm l f ≠ 0) : ∃ x ∈ l, f x ≠ 0 := Classical.byContradiction fun hn => h (by
 have : sm l f = sm l fun _ => 0 := Yh fun x hx => Classical.byContradiction fun e => hn ⟨x, hx, e⟩
 rw [this, Ui])
theorem x1t {p : List Int} (hp : Pts p) {t : Int} (h : -1000005 ≤ t ∧ t < 1000005) : t ∈ p := by
 have h1 := hp.1 t (t + 1) (by omega)
 have h2 : sm p (ind t (t + 1)) ≠ 0 := by rw [h1]; omega
 obtain ⟨x, hx, hn⟩ := sm_pos h2
 unfold ind at hn
 split at hn
 ·have : x = t := by omega
  rwa [← this]
 ·exact absurd rfl hn
def inS (X : List R6) (x y z : Int) : Prop := ∃ r ∈ X, (r.a ≤ x ∧ x < r.d) ∧ (r.b ≤ y ∧ y < r.e) ∧ (r.c ≤ z ∧ z < r.f)
theorem z3s (X : List R6) (hX : X.Pairwise Ap6) (x y z : Int) : (inS X x y z → cnt X x y z = 1) ∧ (¬ inS X x y z → cnt X x y z = 0) := by
 have h0 := Kh X x y z
 have h1 := y4m X hX x y z
 constructor
 ·rintro ⟨r, hr, hp⟩
  have : cnt X x y z ≠ 0 := fun e => by
   have := Kd (fun r _ => y4d r x y z) e r hr
   rw [x6k, if_pos hp] at this
   cases this
  omega
 ·intro hn
  have : cnt X x y z = sm X fun _ => 0 := Yh fun r hr => by
   rw [x6k]
   exact if_neg fun hp => hn ⟨r, hr, hp⟩
  rw [this, Ui]
structure Sol (X : List R6) : Prop where
 len : X.length ≤ 400
 val : ∀ r ∈ X, z6w r = true
 ap : X.Pairwise Ap6
theorem Sol.of {X : List R6} (h : Xn X = 0) : Sol X := ⟨(z1d h).1, (z1d h).2.1, (z1d h).2.2.2⟩
theorem Sol.near {X : List R6} (h : Sol X) : ∀ r ∈ X, x2c r := fun r hr => x5v (h.val r hr)
theorem Sol.bnd {X : List R6} (h : Sol X) {x y z : Int} (hp : inS X x y z) : (-1000000 ≤ x ∧ x < 1000000) ∧ (-1000000 ≤ y ∧ y < 1000000) ∧ (-1000000 ≤ z ∧ z < 1000000) := by
 obtain ⟨r, hr, h1, h2, h3⟩ := hp
 have := Ki (h.val r hr)
 omega
theorem bx_S3 {p : List Int} (hp : Pts p) (r : R6) (hr : z6w r = true) : S3 p (inR r) = bxV r := by
 have hv := Ki hr
 show S3 p (fun x y z => ind r.a r.d x * ind r.b r.e y * ind r.c r.f z) = _
 rw [w6u, hp.1 _ _ (by omega), hp.1 _ _ (by omega), hp.1 _ _ (by omega)]
 unfold bxV
 rw [show max 0 (r.d - r.a) = r.d - r.a by omega, show max 0 (r.e - r.b) = r.e - r.b by omega, show max 0 (r.f - r.c) = r.f - r.c by omega]
theorem vol_S3 {p : List Int} (hp : Pts p) {X : List R6} (h : Sol X) : sm X bxV = S3 p (cnt X) := by
 show _ = S3 p (fun x y z => sm X fun r => inR r x y z)
 rw [u1m]
 exact Yh fun r hr => (bx_S3 hp r (h.val r hr)).symm
theorem cnt_S3 {p : List Int} (hp : Pts p) {X : List R6} (h : Sol X) : 0 ≤ S3 p (cnt X) ∧ S3 p (cnt X) ≤ 8000120000600001000 :=
 ⟨w6t fun x y z => Kh X x y z, Int.le_trans (w6v (g := fun _ _ _ => 1) fun x y z => y4m X h.ap x y z) (v5q hp)⟩
theorem v5x {p : List Int} (hp : Pts p) {X : List R6} (h : Sol X) : z2a X = S3 p (cnt X) := by
 have := cnt_S3 hp h
 exact w1e (vol_S3 hp h) (by omega)
theorem x4w {p : List Int} {f : Int → Int → Int → Int} (h0 : ∀ x y z, 0 ≤ f x y z) : S3 p f = 0 ↔ ∀ x ∈ p, ∀ y ∈ p, ∀ z ∈ p, f x y z = 0 := by
 constructor
 ·intro h x hx y hy z hz
  have h1 := Kd (fun x _ => Wf fun y _ => Wf fun z _ => h0 x y z) h x hx
  have h2 := Kd (fun y _ => Wf fun z _ => h0 x y z) h1 y hy
  exact Kd (fun z _ => h0 x y z) h2 z hz
 ·intro h
  have : S3 p f = sm p fun _ => 0 := Yh fun x hx => by
   have : sm p (fun y => sm p fun z => f x y z) = sm p fun _ => 0 := Yh fun y hy => by
    have : sm p (fun z => f x y z) = sm p fun _ => 0 := Yh fun z hz => h x hx y hy z hz
    rw [this, Ui]
   rw [this, Ui]
  rw [this, Ui]
theorem Sol.pts {p : List Int} (hp : Pts p) {X : List R6} (h : Sol X) {x y z : Int} (hq : inS X x y z) : x ∈ p ∧ y ∈ p ∧ z ∈ p := by
 have := h.bnd hq
 exact ⟨x1t hp (by omega), x1t hp (by omega), x1t hp (by omega)⟩
theorem u1n {X Y : List R6} (hX : Sol X) (hY : Sol Y) : S2 X Y = 0 ↔ ∀ x y z, ¬ (inS X x y z ∧ inS Y x y z) := by
 obtain ⟨p, hp⟩ := x5o
 rw [v1v hp X Y hX.near, x4w fun x y z => Int.mul_nonneg (Kh X x y z) (Kh Y x y z)]
 constructor
 ·rintro h x y z ⟨h1, h2⟩
  obtain ⟨q1, q2, q3⟩ := hX.pts hp h1
  have := h x q1 y q2 z q3
  rw [(z3s X hX.ap x y z).1 h1, (z3s Y hY.ap x y z).1 h2] at this
  cases this
 ·intro h x _ y _ z _
  by_cases h1 : inS X x y z
  ·rw [(z3s Y hY.ap x y z).2 fun h2 => h x y z ⟨h1, h2⟩, Int.mul_zero]
  ·rw [(z3s X hX.ap x y z).2 h1, Int.zero_mul]
theorem v5r {X Y : List R6} (hX : Sol X) (hY : Sol Y) : S2 X Y = z2a X ↔ ∀ x y z, inS X x y z → inS Y x y z := by
 obtain ⟨p, hp⟩ := x5o
 have e : S3 p (cnt X) - S2 X Y = S3 p fun x y z => cnt X x y z - cnt X x y z * cnt Y x y z := by
  rw [x7b, ← v1v hp X Y hX.near]
 have h0 : ∀ x y z, 0 ≤ cnt X x y z - cnt X x y z * cnt Y x y z := fun x y z => by
  have h1 := Kh X x y z
  have h2 := y4m Y hY.ap x y z
  have := Int.mul_le_mul_of_nonneg_left h2 h1
  omega
 rw [v5x hp hX]
 constructor
 ·intro h x y z h1
  obtain ⟨q1, q2, q3⟩ := hX.pts hp h1
  have h2 := (x4w h0).1 (by rw [← e]; omega) x q1 y q2 z q3
  rw [(z3s X hX.ap x y z).1 h1] at h2
  exact Classical.byContradiction fun h3 => by
   rw [(z3s Y hY.ap x y z).2 h3] at h2
   cases h2
 ·intro h
  have := (x4w (p := p) h0).2 fun x _ y _ z _ => by
   by_cases h1 : inS X x y z
   ·rw [(z3s X hX.ap x y z).1 h1, (z3s Y hY.ap x y z).1 (h x y z h1)]; rfl
   ·rw [(z3s X hX.ap x y z).2 h1, Int.zero_mul]; rfl
  omega
end Go.Am
namespace Go.Am
open Go.Proofs
def hiC : Int → List Int → Int
 | a, [] => a
 | _, b :: l => hiC b l
def Up : Int → List Int → Prop
 | _, [] => True
 | a, b :: l => a < b ∧ Up b l
def PC {γ : Type} (G : Int → γ) : Int → List Int → Prop
 | _, [] => True
 | a, b :: l => (∀ t, a ≤ t → t < b → G t = G a) ∧ PC G b l
def mS (g : Int → Int) : Int → List Int → Int
 | _, [] => 0
 | a, b :: l => g a * (b - a) + mS g b l
def tS {γ : Type} (f : γ → γ → Int) (G : Int → γ) : Int → List Int → Int
 | _, [] => 0
 | _, [_] => 0
 | a, b :: c :: l => f (G a) (G b) + tS f G b (c :: l)
theorem y2v : ∀ (l : List Int) (a : Int), Up a l → a ≤ hiC a l
 | [], a, _ => Int.le_refl _
 | b :: l, a, h => by have := y2v l b h.2; have := h.1; show a ≤ hiC b l; omega
theorem z3q {ι γ : Type} {F : Int → ι → γ} : ∀ (l : List Int) (a : Int), (∀ i, PC (fun t => F t i) a l) → PC F a l
 | [], _, _ => trivial
 | b :: l, a, h => ⟨fun t h1 h2 => funext fun i => (h i).1 t h1 h2, z3q l b fun i => (h i).2⟩
theorem x5t {γ δ : Type} {F : Int → γ} (Φ : γ → δ) : ∀ (l : List Int) (a : Int), PC F a l → PC (fun t => Φ (F t)) a l
 | [], _, _ => trivial
 | b :: l, a, h => ⟨fun t h1 h2 => congrArg Φ (h.1 t h1 h2), x5t Φ l b h.2⟩
theorem x5s {γ δ ε : Type} {F : Int → γ} {H : Int → δ} (Φ : γ → δ → ε) : ∀ (l : List Int) (a : Int), PC F a l → PC H a l → PC (fun t => Φ (F t) (H t)) a l
 | [], _, _, _ => trivial
 | b :: l, a, h, k => ⟨fun t h1 h2 => by show Φ (F t) (H t) = Φ (F a) (H a); rw [h.1 t h1 h2, k.1 t h1 h2], x5s Φ l b h.2 k.2⟩
section
variable {p : List Int} (hp : Pts p)
include hp
theorem w2b {a b c : Int} (h : a ≤ b) (ha : -1000005 ≤ a) (hb : b ≤ 1000005) : sm p (fun t => c * ind a b t) = c * (b - a) := by
 rw [y5b, hp.1 a b ⟨ha, hb⟩]
 congr 1; omega
theorem w4m {g : Int → Int} : ∀ (l : List Int) (a : Int), Up a l → PC g a l → -1000005 ≤ a → hiC a l ≤ 1000005 → sm p (fun t => if a ≤ t ∧ t < hiC a l then g t else 0) = mS g a l
 | [], a, _, _, _, _ => by
  rw [Yh (g := fun _ => 0) fun t _ => if_neg (by show ¬ (a ≤ t ∧ t < a); omega)]
  exact Ui p
 | b :: l, a, hu, hc, ha, hb => by
  have hb : hiC b l ≤ 1000005 := hb
  show sm p (fun t => if a ≤ t ∧ t < hiC b l then g t else 0) = _
  have k := y2v l b hu.2
  have ih := w4m l b hu.2 hc.2 (by have := hu.1; omega) hb
  show _ = g a * (b - a) + mS g b l
  rw [← ih, ← w2b hp (c := g a) (by have := hu.1; omega) ha (by omega), ← x5a]
  refine Yh fun t _ => ?_
  have := hu.1
  unfold ind
  by_cases h1 : a ≤ t ∧ t < b
  ·rw [if_pos h1, if_pos (by omega), if_neg (by omega), hc.1 t h1.1 h1.2]; omega
  ·rw [if_neg h1]
   by_cases h2 : b ≤ t ∧ t < hiC b l
   ·rw [if_pos h2, if_pos (by omega)]; omega
   ·rw [if_neg h2, if_neg (by omega)]; omega
theorem y3x {g : Int → Int} {a : Int} {l : List Int} (hu : Up a l) (hc : PC g a l) (ha : -1000005 ≤ a) (hb : hiC a l ≤ 1000005) (ho : ∀ t, t < a ∨ hiC a l ≤ t → g t = 0) : sm p g = mS g a l := by
 rw [← w4m hp l a hu hc ha hb]
 refine Yh fun t _ => ?_
 by_cases h : a ≤ t ∧ t < hiC a l
 ·rw [if_pos h]
 ·rw [if_neg h]; exact ho t (by omega)
variable {γ : Type} {f : γ → γ → Int} (hf : ∀ u, f u u = 0) {G : Int → γ}
include hf
theorem tr_up : ∀ (l : List Int) (a : Int), Up a l → PC G a l → -1000005 ≤ a → hiC a l ≤ 1000005 → sm p (fun t => if a < t ∧ t < hiC a l then f (G (t - 1)) (G t) else 0) = tS f G a l
 | [], a, _, _, _, _ => by
  rw [Yh (g := fun _ => 0) fun t _ => if_neg (by show ¬ (a < t ∧ t < a); omega)]
  exact Ui p
 | [b], a, hu, hc, _, _ => by
  rw [Yh (g := fun _ => 0) fun t _ => ?_]
  ·exact Ui p
  ·show (if a < t ∧ t < b then _ else _) = _
   by_cases h : a < t ∧ t < b
   ·rw [if_pos h, hc.1 (t - 1) (by omega) (by omega), hc.1 t (by omega) h.2]; exact hf _
   ·exact if_neg h
 | b :: c :: l, a, hu, hc, ha, hb => by
  have hb : hiC b (c :: l) ≤ 1000005 := hb
  show sm p (fun t => if a < t ∧ t < hiC b (c :: l) then f (G (t - 1)) (G t) else 0) = _
  have k := y2v (c :: l) b hu.2
  have k2 := y2v l c hu.2.2
  have k3 : hiC b (c :: l) = hiC c l := rfl
  have hbc := hu.2.1
  have hab := hu.1
  have ih := tr_up (c :: l) b hu.2 hc.2 (by omega) hb
  show _ = f (G a) (G b) + tS f G b (c :: l)
  have e := w2b hp (c := f (G a) (G b)) (a := b) (b := b + 1) (by omega) (by omega) (by omega)
  rw [show b + 1 - b = 1 by omega, Int.mul_one] at e
  rw [← ih, ← e, ← x5a]
  refine Yh fun t _ => ?_
  unfold ind
  by_cases h0 : t = b
  ·subst h0
   rw [if_pos (by omega), if_pos (by omega), if_neg (by omega), hc.1 (t - 1) (by omega) (by omega)]; omega
  ·by_cases h1 : a < t ∧ t < b
   ·rw [if_pos (by omega), if_neg (by omega), if_neg (by omega), hc.1 (t - 1) (by omega) (by omega), hc.1 t (by omega) h1.2, hf]; omega
   ·rw [if_neg (c := b ≤ t ∧ t < b + 1) (by omega)]
    by_cases h2 : b < t ∧ t < hiC b (c :: l)
    ·rw [if_pos h2, if_pos (by omega)]; omega
    ·rw [if_neg h2, if_neg (by omega)]; omega
theorem tr_dn : ∀ (l : List Int) (a : Int), Up a l → PC G a l → -1000005 ≤ a → hiC a l ≤ 1000005 → sm p (fun t => if a ≤ t ∧ t + 1 < hiC a l then f (G (t + 1)) (G t) else 0) = tS (fun u v => f v u) G a l
 | [], a, _, _, _, _ => by
  rw [Yh (g := fun _ => 0) fun t _ => if_neg (by show ¬ (a ≤ t ∧ t + 1 < a); omega)]
  exact Ui p
 | [b], a, hu, hc, _, _ => by
  rw [Yh (g := fun _ => 0) fun t _ => ?_]
  ·exact Ui p
  ·show (if a ≤ t ∧ t + 1 < b then _ else _) = _
   by_cases h : a ≤ t ∧ t + 1 < b
   ·rw [if_pos h, hc.1 (t + 1) (by omega) (by omega), hc.1 t (by omega) (by omega)]; exact hf _
   ·exact if_neg h
 | b :: c :: l, a, hu, hc, ha, hb => by
  have hb : hiC b (c :: l) ≤ 1000005 := hb
  show sm p (fun t => if a ≤ t ∧ t + 1 < hiC b (c :: l) then f (G (t + 1)) (G t) else 0) = _
  have k := y2v (c :: l) b hu.2
  have k2 := y2v l c hu.2.2
  have k3 : hiC b (c :: l) = hiC c l := rfl
  have hbc := hu.2.1
  have hab := hu.1
  have ih := tr_dn (c :: l) b hu.2 hc.2 (by omega) hb
  show _ = f (G b) (G a) + tS (fun u v => f v u) G b (c :: l)
  have e := w2b hp (c := f (G b) (G a)) (a := b - 1) (b := b) (by omega) (by omega) (by omega)
  rw [show b - (b - 1) = 1 by omega, Int.mul_one] at e
  rw [← ih, ← e, ← x5a]
  refine Yh fun t _ => ?_
  unfold ind
  by_cases h0 : t + 1 = b
  ·rw [if_pos (by omega), if_pos (by omega), if_neg (by omega), h0, hc.1 t (by omega) (by omega)]; omega
  ·by_cases h1 : a ≤ t ∧ t + 1 < b
   ·rw [if_pos (by omega), if_neg (by omega), if_neg (by omega), hc.1 (t + 1) (by omega) (by omega), hc.1 t (by omega) (by omega), hf]; omega
   ·rw [if_neg (c := b - 1 ≤ t ∧ t < b) (by omega)]
    by_cases h2 : b ≤ t ∧ t + 1 < hiC b (c :: l)
    ·rw [if_pos h2, if_pos (by omega)]; omega
    ·rw [if_neg h2, if_neg (by omega)]; omega
def sh (s : Bool) (t : Int) : Int := bif s then t - 1 else t + 1
def sw {γ : Type} (s : Bool) (f : γ → γ → Int) : γ → γ → Int := bif s then f else fun u v => f v u
omit hp hf in
theorem x0n (s : Bool) (hf : ∀ u, f u u = 0) (u : γ) : sw s f u u = 0 := by cases s <;> exact hf u
theorem w1m (s : Bool) {o : γ} {a : Int} {l : List Int} (hu : Up a l) (hc : PC G a l) (ha : -1000005 ≤ a) (hb : hiC a l ≤ 1000005) (ho : ∀ t, t ≤ a ∨ hiC a l ≤ t + 1 → G t = o) : sm p (fun t => f (G (sh s t)) (G t)) = tS (sw s f) G a l := by
 cases s
 ·show _ = tS (fun u v => f v u) G a l
  rw [← tr_dn hp hf l a hu hc ha hb]
  refine Yh fun t _ => ?_
  show f (G (t + 1)) (G t) = _
  by_cases h : a ≤ t ∧ t + 1 < hiC a l
  ·rw [if_pos h]
  ·rw [if_neg h, ho t (by omega), ho (t + 1) (by omega)]; exact hf o
 ·show _ = tS f G a l
  rw [← tr_up hp hf l a hu hc ha hb]
  refine Yh fun t _ => ?_
  show f (G (t - 1)) (G t) = _
  by_cases h : a < t ∧ t < hiC a l
  ·rw [if_pos h]
  ·rw [if_neg h, ho t (by omega), ho (t - 1) (by omega)]; exact hf o
end
theorem z8y {γ : Type} {f : γ → γ → Int} {o : γ} (h : f o o = 0) : ∀ (l : List Int) (a : Int), tS f (fun _ => o) a l = 0
 | [], _ => rfl
 | [_], _ => rfl
 | b :: c :: l, a => by show f o o + tS f (fun _ => o) b (c :: l) = 0; rw [h, z8y h (c :: l) b]; rfl
theorem z5r : ∀ (l : List Int) (a : Int), mS (fun _ => 0) a l = 0
 | [], _ => rfl
 | b :: l, a => by show 0 * (b - a) + mS (fun _ => 0) b l = 0; rw [z5r l b]; omega
structure Cel {γ : Type} (G : Int → Int → Int → γ) (o : γ) (a : Int) (l : List Int) (b : Int) (m : List Int) (c : Int) (n : List Int) : Prop where
 ux : Up a l
 uy : Up b m
 uz : Up c n
 bx : -1000005 ≤ a ∧ hiC a l ≤ 1000005
 hy : -1000005 ≤ b ∧ hiC b m ≤ 1000005
 bz : -1000005 ≤ c ∧ hiC c n ≤ 1000005
 px : ∀ y z, PC (fun x => G x y z) a l
 py : ∀ x z, PC (fun y => G x y z) b m
 pz : ∀ x y, PC (fun z => G x y z) c n
 ox : ∀ x y z, (x ≤ a ∨ hiC a l ≤ x + 1) → G x y z = o
 oy : ∀ x y z, (y ≤ b ∨ hiC b m ≤ y + 1) → G x y z = o
 oz : ∀ x y z, (z ≤ c ∨ hiC c n ≤ z + 1) → G x y z = o
section
variable {γ : Type} {G : Int → Int → Int → γ} {o : γ} {a b c : Int} {l m n : List Int} (h : Cel G o a l b m c n) {p : List Int} (hp : Pts p) {f : γ → γ → Int} (hf : ∀ u, f u u = 0)
include h hp hf
theorem cel_z (s : Bool) : S3 p (fun x y z => f (G x y (sh s z)) (G x y z)) = mS (fun x => mS (fun y => tS (sw s f) (G x y) c n) b m) a l := by
 have hx : ∀ y, PC (fun x => G x y) a l := fun y => z3q l a fun z => h.px y z
 have hxx : PC G a l := z3q l a hx
 have hy : ∀ x, PC (G x) b m := fun x => z3q m b fun z => h.py x z
 have e1 : ∀ x y, sm p (fun z => f (G x y (sh s z)) (G x y z)) = tS (sw s f) (G x y) c n := fun x y => w1m hp hf s h.uz (h.pz x y) h.bz.1 h.bz.2 (h.oz x y)
 have e2 : ∀ x, sm p (fun y => tS (sw s f) (G x y) c n) = mS (fun y => tS (sw s f) (G x y) c n) b m := fun x =>
  y3x hp h.uy (x5t (fun v => tS (sw s f) v c n) m b (hy x)) h.hy.1 h.hy.2 fun y q => by
   rw [show G x y = fun _ => o from funext fun z => h.oy x y z (by omega)]
   exact z8y (x0n s hf o) n c
 unfold S3
 simp only [e1, e2]
 refine y3x hp h.ux (x5t (fun v : Int → Int → γ => mS (fun y => tS (sw s f) (v y) c n) b m) l a hxx) h.bx.1 h.bx.2 fun x q => ?_
 rw [show G x = fun _ _ => o from funext fun y => funext fun z => h.ox x y z (by omega)]
 simp only [z8y (x0n s hf o)]
 exact z5r m b
theorem cel_y (s : Bool) : S3 p (fun x y z => f (G x (sh s y) z) (G x y z)) = mS (fun x => tS (sw s fun u v => mS (fun z => f (u z) (v z)) c n) (G x) b m) a l := by
 have hxx : PC G a l := z3q l a fun y => z3q l a fun z => h.px y z
 have hy : ∀ x, PC (G x) b m := fun x => z3q m b fun z => h.py x z
 have e1 : ∀ x y y', sm p (fun z => f (G x y' z) (G x y z)) = mS (fun z => f (G x y' z) (G x y z)) c n := fun x y y' =>
  y3x hp h.uz (x5s f n c (h.pz x y') (h.pz x y)) h.bz.1 h.bz.2 fun z q => by rw [h.oz x y z (by omega), h.oz x y' z (by omega)]; exact hf o
 have hF : ∀ u : Int → γ, (fun u v : Int → γ => mS (fun z => f (u z) (v z)) c n) u u = 0 := fun u => by
  show mS (fun z => f (u z) (u z)) c n = 0
  simp only [hf]; exact z5r n c
 have e2 : ∀ x, sm p (fun y => mS (fun z => f (G x (sh s y) z) (G x y z)) c n) = tS (sw s fun u v => mS (fun z => f (u z) (v z)) c n) (G x) b m := fun x =>
  w1m hp (f := fun u v : Int → γ => mS (fun z => f (u z) (v z)) c n) hF s (o := fun _ => o) h.uy (hy x) h.hy.1 h.hy.2 fun y q => funext fun z => h.oy x y z q
 unfold S3
 simp only [e1, e2]
 refine y3x hp h.ux (x5t (fun v : Int → Int → γ => tS (sw s fun u v => mS (fun z => f (u z) (v z)) c n) v b m) l a hxx) h.bx.1 h.bx.2 fun x q => ?_
 rw [show G x = fun _ _ => o from funext fun y => funext fun z => h.ox x y z (by omega)]
 exact z8y (x0n s hF fun _ => o) m b
theorem cel_x (s : Bool) : S3 p (fun x y z => f (G (sh s x) y z) (G x y z)) = tS (sw s fun u v => mS (fun y => mS (fun z => f (u y z) (v y z)) c n) b m) G a l := by
 have hxx : PC G a l := z3q l a fun y => z3q l a fun z => h.px y z
 have hy : ∀ x, PC (G x) b m := fun x => z3q m b fun z => h.py x z
 have e1 : ∀ x x' y, sm p (fun z => f (G x' y z) (G x y z)) = mS (fun z => f (G x' y z) (G x y z)) c n := fun x x' y =>
  y3x hp h.uz (x5s f n c (h.pz x' y) (h.pz x y)) h.bz.1 h.bz.2 fun z q => by rw [h.oz x y z (by omega), h.oz x' y z (by omega)]; exact hf o
 have e2 : ∀ x x', sm p (fun y => mS (fun z => f (G x' y z) (G x y z)) c n) = mS (fun y => mS (fun z => f (G x' y z) (G x y z)) c n) b m := fun x x' =>
  y3x hp h.uy (x5s (fun u v : Int → γ => mS (fun z => f (u z) (v z)) c n) m b (hy x') (hy x)) h.hy.1 h.hy.2 fun y q => by
   rw [show G x y = fun _ => o from funext fun z => h.oy x y z (by omega), show G x' y = fun _ => o from funext fun z => h.oy x' y z (by omega)]
   simp only [hf]; exact z5r n c
 have hF : ∀ u : Int → Int → γ, (fun u v : Int → Int → γ => mS (fun y => mS (fun z => f (u y z) (v y z)) c n) b m) u u = 0 := fun u => by
  show mS (fun y => mS (fun z => f (u y z) (u y z)) c n) b m = 0
  simp only [hf, z5r]
 unfold S3
 simp only [e1, e2]
 exact w1m hp (f := fun u v : Int → Int → γ => mS (fun y => mS (fun z => f (u y z) (v y z)) c n) b m) hF s (o := fun _ _ => o) h.ux hxx h.bx.1 h.bx.2 fun x q => funext fun y => funext fun z => h.ox x y z q
end
end Go.Am
namespace Go.Am
open Go.Proofs
theorem Xm {f g : Nat → Int} : ∀ (n k : Nat), (∀ j, k ≤ j → j < k + n → f j = g j) → Jo f k n = Jo g k n
 | 0, _, _ => rfl
 | n + 1, k, h => by
  show f k + Jo f (k + 1) n = g k + Jo g (k + 1) n
  rw [h k (Nat.le_refl _) (by omega), Xm n (k + 1) fun j h1 h2 => h j (by omega) (by omega)]
theorem z2r (f : Nat → Int) : ∀ (n k : Nat), Jo (fun j => f (j + 1)) k n = Jo f (k + 1) n
 | 0, _ => rfl
 | n + 1, k => by
  show f (k + 1) + Jo (fun j => f (j + 1)) (k + 1) n = f (k + 1) + Jo f (k + 1 + 1) n
  rw [z2r f n (k + 1)]
theorem z1a (f : Nat → Int) (c : Int) : ∀ (n k : Nat), Jo f k n * c = Jo (fun j => f j * c) k n
 | 0, _ => Int.zero_mul c
 | n + 1, k => by
  show (f k + Jo f (k + 1) n) * c = f k * c + Jo (fun j => f j * c) (k + 1) n
  rw [Int.add_mul, z1a f c n (k + 1)]
theorem z4v : ∀ (n k : Nat), Jo (fun _ => 0) k n = 0
 | 0, _ => rfl
 | n + 1, k => by show 0 + Jo (fun _ => 0) (k + 1) n = 0; rw [z4v n (k + 1)]; rfl
theorem Qo (a : Int) (l : List Int) (k : Nat) : rd (a :: l) (k + 1) = rd l k := by
 unfold rd; simp
theorem y0y (g : Int → Int) : ∀ (l : List Int) (a : Int), mS g a l = Jo (fun j => g (rd (a :: l) j) * (rd (a :: l) (j + 1) - rd (a :: l) j)) 0 l.length
 | [], _ => rfl
 | b :: l, a => by
  show g a * (b - a) + mS g b l = _ + Jo _ 1 l.length
  rw [y0y g l b, ← z2r]
  rfl
def nxI (s : Bool) (i : Nat) : Nat := bif s then i + 1 else i - 1
def okI (s : Bool) (i n : Nat) : Bool := bif s then decide (i + 1 < n) else decide (0 < i)
theorem tS_up {γ : Type} (f : γ → γ → Int) (G : Int → γ) : ∀ (l : List Int) (a : Int), tS f G a l = Jo (fun i => if i + 1 < l.length then f (G (rd (a :: l) i)) (G (rd (a :: l) (i + 1))) else 0) 0 l.length
 | [], _ => rfl
 | [b], _ => by show (0 : Int) = (if 0 + 1 < 1 then _ else 0) + 0; rw [if_neg (by omega)]; rfl
 | b :: c :: l, a => by
  show f (G a) (G b) + tS f G b (c :: l) = (if 0 + 1 < (b :: c :: l).length then _ else 0) + Jo _ 1 (c :: l).length
  rw [if_pos (by simp), tS_up f G (c :: l) b, ← z2r]
  congr 1
  refine Xm _ _ fun j _ _ => ?_
  simp only [List.length_cons, Qo, Nat.add_lt_add_iff_right]
theorem tS_dn {γ : Type} (f : γ → γ → Int) (G : Int → γ) : ∀ (l : List Int) (a : Int), tS (fun u v => f v u) G a l = Jo (fun i => if 0 < i then f (G (rd (a :: l) i)) (G (rd (a :: l) (i - 1))) else 0) 0 l.length
 | [], _ => rfl
 | [b], _ => by show (0 : Int) = (if 0 < 0 then _ else 0) + 0; rw [if_neg (by omega)]; rfl
 | b :: c :: l, a => by
  show f (G b) (G a) + tS (fun u v => f v u) G b (c :: l) = (if 0 < 0 then _ else 0) + ((if 0 < 1 then f (G b) (G a) else 0) + Jo _ 2 l.length)
  rw [if_neg (by omega), if_pos (by omega), tS_dn f G (c :: l) b]
  show _ + ((if 0 < 0 then _ else 0) + Jo _ 1 l.length) = _
  rw [if_neg (by omega)]
  have : Jo (fun i => if 0 < i then f (G (rd (b :: c :: l) i)) (G (rd (b :: c :: l) (i - 1))) else 0) 1 l.length = Jo (fun j => if 0 < j + 1 then f (G (rd (a :: b :: c :: l) (j + 1))) (G (rd (a :: b :: c :: l) (j + 1 - 1))) else 0) 1 l.length := by
   refine Xm _ _ fun j h1 _ => ?_
   rw [if_pos (by omega), if_pos (by omega), Qo]
   obtain ⟨i, rfl⟩ : ∃ i, j = i + 1 := ⟨j - 1, by omega⟩
   rfl
  rw [this, z2r (fun i => if 0 < i then f (G (rd (a :: b :: c :: l) i)) (G (rd (a :: b :: c :: l) (i - 1))) else 0)]
  show _ + (0 + Jo _ 2 l.length) = 0 + (_ + Jo _ 2 l.length)
  omega
theorem w1n {γ : Type} (s : Bool) (f : γ → γ → Int) (G : Int → γ) (l : List Int) (a : Int) : tS (sw s f) G a l = Jo (fun i => if okI s i l.length = true then f (G (rd (a :: l) i)) (G (rd (a :: l) (nxI s i))) else 0) 0 l.length := by
 cases s
 ·show tS (fun u v => f v u) G a l = _
  rw [tS_dn]
  refine Xm _ _ fun j _ _ => ?_
  simp only [okI, nxI, cond_false, decide_eq_true_eq]
 ·show tS f G a l = _
  rw [tS_up]
  refine Xm _ _ fun j _ _ => ?_
  simp only [okI, nxI, cond_true, decide_eq_true_eq]
theorem z9q (z : Int) : ∀ (l : List Int) (x : Int), z ∈ Wb l x ↔ z = x ∨ z ∈ l
 | [], x => by simp [Wb]
 | y :: l, x => by
  unfold Wb
  split
  ·simp only [List.mem_cons, z9q z l x]
   constructor
   ·rintro (h | h | h)
    ·exact .inr (.inl h)
    ·exact .inl h
    ·exact .inr (.inr h)
   ·rintro (h | h | h)
    ·exact .inr (.inl h)
    ·exact .inl h
    ·exact .inr (.inr h)
  ·split
   ·rename_i h; subst h; simp
   ·simp
theorem y6d : ∀ (l : List Int) (x : Int), l.Pairwise (· < ·) → (Wb l x).Pairwise (· < ·)
 | [], x, _ => List.pairwise_singleton _ _
 | y :: l, x, h => by
  have h' := List.pairwise_cons.1 h
  unfold Wb
  split
  ·rename_i hlt
   refine List.pairwise_cons.2 ⟨fun z hz => ?_, y6d l x h'.2⟩
   rcases (z9q z l x).1 hz with rfl | hz
   ·exact hlt
   ·exact h'.1 z hz
  ·split
   ·exact h
   ·rename_i h1 h2
    refine List.pairwise_cons.2 ⟨fun z hz => ?_, h⟩
    rcases List.mem_cons.1 hz with rfl | hz
    ·omega
    ·have := h'.1 z hz; omega
theorem x6v (f g : R6 → Int) : ∀ (L : List R6) (acc : List Int), acc.Pairwise (· < ·) → (z6t f g L acc).Pairwise (· < ·)
 | [], _, h => h
 | r :: L, acc, h => x6v f g L _ (y6d _ _ (y6d _ _ h))
theorem z9x (f g : R6 → Int) (z : Int) : ∀ (L : List R6) (acc : List Int), z ∈ z6t f g L acc ↔ z ∈ acc ∨ ∃ r ∈ L, z = f r ∨ z = g r
 | [], acc => by simp [z6t]
 | r :: L, acc => by
  show z ∈ z6t f g L (Wb (Wb acc (f r)) (g r)) ↔ _
  rw [z9x f g z L, z9q, z9q]
  constructor
  ·rintro ((h | h | h) | ⟨q, h1, h2⟩)
   ·exact .inr ⟨r, List.mem_cons_self .., .inr h⟩
   ·exact .inr ⟨r, List.mem_cons_self .., .inl h⟩
   ·exact .inl h
   ·exact .inr ⟨q, List.mem_cons_of_mem _ h1, h2⟩
  ·rintro (h | ⟨q, h1, h2⟩)
   ·exact .inl (.inr (.inr h))
   ·rcases List.mem_cons.1 h1 with rfl | h1
    ·rcases h2 with h2 | h2
     ·exact .inl (.inr (.inl h2))
     ·exact .inl (.inl h2)
    ·exact .inr ⟨q, h1, h2⟩
structure Brk {γ : Type} (C : List Int) (G : Int → γ) (o : γ) : Prop where
 step : ∀ t, t ∉ C → G t = G (t - 1)
 low : ∀ t, (∀ c ∈ C, t < c) → G t = o
 high : ∀ t, (∀ c ∈ C, c ≤ t) → G t = o
theorem x4x : ∀ (l : List Int) (a : Int), Up a l → ∀ c ∈ l, a < c ∧ c ≤ hiC a l
 | [], _, _, c, h => by cases h
 | b :: l, a, h, c, hc => by
  have hh : hiC a (b :: l) = hiC b l := rfl
  have h1 := h.1
  have h2 := y2v l b h.2
  rcases List.mem_cons.1 hc with rfl | hc
  ·rw [hh]; exact ⟨h1, h2⟩
  ·have := x4x l b h.2 c hc
   rw [hh]; omega
theorem v7r {γ : Type} {G : Int → γ} : ∀ (l : List Int) (a : Int), Up a l → (∀ t, a < t → t < hiC a l → t ∉ l → G t = G (t - 1)) → PC G a l
 | [], _, _, _ => trivial
 | b :: l, a, h, k => by
  have hh : hiC a (b :: l) = hiC b l := rfl
  have h1 := h.1
  have h2 := y2v l b h.2
  refine ⟨fun t ht1 ht2 => ?_, v7r l b h.2 fun t e1 e2 e3 => k t (by omega) (by rw [hh]; exact e2) fun hm => ?_⟩
  ·have key : ∀ n : Nat, a + n < b → G (a + n) = G a := by
    intro n
    induction n with
    | zero => intro _; rw [show a + ((0 : Nat) : Int) = a by omega]
    | succ n ih =>
     intro hn
     rw [k (a + ((n + 1 : Nat) : Int)) (by omega) (by rw [hh]; omega) fun hm => ?_]
     ·rw [show a + ((n + 1 : Nat) : Int) - 1 = a + (n : Int) by omega]; exact ih (by omega)
     ·rcases List.mem_cons.1 hm with e | e
      ·omega
      ·have := x4x l b h.2 _ e; omega
   have := key (t - a).toNat (by omega)
   rwa [show a + ((t - a).toNat : Int) = t by omega] at this
  ·rcases List.mem_cons.1 hm with e | e
   ·omega
   ·exact e3 e
theorem w1l : ∀ (l : List Int) (a x : Int), Up a l → hiC a l < x → Up a (l ++ [x]) ∧ hiC a (l ++ [x]) = x
 | [], a, x, _, h => ⟨⟨h, trivial⟩, rfl⟩
 | b :: l, a, x, h, k => by
  have := w1l l b x h.2 k
  exact ⟨⟨h.1, this.1⟩, this.2⟩
theorem y7k : ∀ (l : List Int) (a : Int), (a :: l).Pairwise (· < ·) → Up a l
 | [], _, _ => trivial
 | b :: l, a, h => by
  have h' := List.pairwise_cons.1 h
  exact ⟨h'.1 b (List.mem_cons_self ..), y7k l b h'.2⟩
theorem w4x : ∀ (l : List Int) (a : Int), hiC a l = rd (a :: l) l.length
 | [], a => rfl
 | b :: l, a => by
  show hiC b l = rd (a :: b :: l) (l.length + 1)
  rw [Qo]; exact w4x l b
theorem x2x {C : List Int} (hs : C.Pairwise (· < ·)) (hb : ∀ c ∈ C, -1000000 ≤ c ∧ c ≤ 1000000) : ∃ a l, y9i C = a :: l ∧ Up a l ∧ (-1000005 ≤ a ∧ hiC a l ≤ 1000005) ∧
  ∀ {γ : Type} {G : Int → γ} {o : γ}, Brk C G o → PC G a l ∧ ∀ t, (t ≤ a ∨ hiC a l ≤ t + 1) → G t = o := by
 cases C with
 | nil =>
  refine ⟨-1, [0, 1, 2], rfl, by unfold Up; exact ⟨by omega, by unfold Up; exact ⟨by omega, by unfold Up; exact ⟨by omega, trivial⟩⟩⟩, by show -1000005 ≤ (-1 : Int) ∧ (2 : Int) ≤ 1000005; omega, fun h => ?_⟩
  have hc : ∀ t, _ = _ := fun t => h.low t (fun c hc => by cases hc)
  exact ⟨v7r _ _ (by unfold Up; exact ⟨by omega, by unfold Up; exact ⟨by omega, by unfold Up; exact ⟨by omega, trivial⟩⟩⟩) fun t _ _ _ => (hc t).trans (hc (t - 1)).symm, fun t _ => hc t⟩
 | cons c C =>
  have hu := y7k C c hs
  have hh := y2v C c hu
  have hm : ∀ x ∈ C, c < x ∧ x ≤ hiC c C := x4x C c hu
  have hhm : hiC c C ∈ c :: C := by
   have : ∀ (l : List Int) (a : Int), hiC a l ∈ a :: l := fun l => by
    induction l with
    | nil => exact fun a => List.mem_singleton_self _
    | cons b l ih => exact fun a => List.mem_cons_of_mem _ (ih b)
   exact this C c
  have b1 := hb c (List.mem_cons_self ..)
  have b2 := hb _ hhm
  have e : y9i (c :: C) = (c - 1) :: (c :: C ++ [hiC c C + 1]) := by
   unfold y9i
   have hl : (((c :: C).length : Int) == 0) = false := z6k (by simp only [List.length_cons]; omega)
   rw [hl, cond_false]
   have e1 : rd (c :: C) 0 = c := rfl
   have e2 : rd (c :: C) ((c :: C).length - 1) = hiC c C := (w4x C c).symm
   rw [e1, e2, Zj (by omega), Zj (by omega)]; rfl
  obtain ⟨u1, u2⟩ := w1l (c :: C) (c - 1) (hiC c C + 1) ⟨by omega, hu⟩ (by show hiC c C < _; omega)
  refine ⟨c - 1, c :: C ++ [hiC c C + 1], e, u1, by rw [u2]; omega, fun h => ⟨v7r _ _ u1 fun t e1 e2 e3 => h.step t fun hm => e3 (List.mem_append_left _ hm), fun t ht => ?_⟩⟩
  rw [u2] at ht
  rcases ht with ht | ht
  ·refine h.low t fun x hx => ?_
   rcases List.mem_cons.1 hx with rfl | hx
   ·omega
   ·have := hm x hx; omega
  ·refine h.high t fun x hx => ?_
   rcases List.mem_cons.1 hx with rfl | hx
   ·omega
   ·have := hm x hx; omega
theorem x1m {α : Type} [Ys α] {g : Nat → List α} {m : Nat} (h : ∀ k, (g k).length = m) : ∀ (n k i j : Nat), i < n → j < m → rd (y2a g k n) (i * m + j) = rd (g (k + i)) j
 | 0, _, _, _, hi, _ => by omega
 | n + 1, k, 0, j, _, hj => by
  show rd (g k ++ y2a g (k + 1) n) (0 * m + j) = rd (g (k + 0)) j
  rw [Nat.zero_mul, Nat.zero_add, Vp (by rw [h]; exact hj)]; rfl
 | n + 1, k, i + 1, j, hi, hj => by
  show rd (g k ++ y2a g (k + 1) n) ((i + 1) * m + j) = rd (g (k + (i + 1))) j
  rw [Ws (by rw [h, Nat.succ_mul]; omega), h, show (i + 1) * m + j - m = i * m + j by rw [Nat.succ_mul]; omega, x1m h n (k + 1) i j (by omega) hj, show k + 1 + i = k + (i + 1) by omega]
theorem v3k {α : Type} [Ys α] (g : Nat → α) : ∀ (n k i : Nat), i < n → rd (lsF g k n) i = g (k + i)
 | 0, _, _, h => by omega
 | n + 1, k, 0, _ => rfl
 | n + 1, k, i + 1, h => by
  have e : rd (lsF g k (n + 1)) (i + 1) = rd (lsF g (k + 1) n) i := by
   show rd (g k :: lsF g (k + 1) n) (i + 1) = _
   unfold rd; simp
  rw [e, v3k g n (k + 1) i (by omega), show k + 1 + i = k + (i + 1) by omega]
theorem y0p (L : List R6) (X Y Z : List Int) {i j k : Nat} (hi : i + 1 < X.length) (hj : j + 1 < Y.length) (hk : k + 1 < Z.length) : rd (Jr L X Y Z) (i * ((Y.length - 1) * (Z.length - 1)) + (j * (Z.length - 1) + k)) = Xr L (rd X i) (rd Y j) (rd Z k) := by
 have hjk : j * (Z.length - 1) + k < (Y.length - 1) * (Z.length - 1) := by
  have := Nat.mul_le_mul_right (Z.length - 1) (show j + 1 ≤ Y.length - 1 by omega)
  rw [Nat.succ_mul] at this; omega
 unfold Jr
 rw [x1m (fun i => Qu (fun j => Jp _ _ _) _ _) _ _ i _ (by omega) hjk, Nat.zero_add, x1m (fun j => Jp _ _ _) _ _ j k (by omega) (by omega), Nat.zero_add, v3k _ _ _ k (by omega), Nat.zero_add]
end Go.Am
namespace Go.Am
open Go.Proofs
def Rng (L : List R6) : Prop := ∀ r ∈ L, ((-1000000 ≤ r.a ∧ r.a ≤ 1000000) ∧ (-1000000 ≤ r.b ∧ r.b ≤ 1000000) ∧ (-1000000 ≤ r.c ∧ r.c ≤ 1000000)) ∧ (-1000000 ≤ r.d ∧ r.d ≤ 1000000) ∧ (-1000000 ≤ r.e ∧ r.e ≤ 1000000) ∧ (-1000000 ≤ r.f ∧ r.f ≤ 1000000)
def G2 (L M : List R6) (x y z : Int) : Bool × Bool := (Xr L x y z, Xr M x y z)
theorem y4o {α : Type} {l : List α} {f g : α → Bool} (h : ∀ x ∈ l, f x = g x) : l.any f = l.any g := by
 induction l with
 | nil => rfl
 | cons a l ih => rw [List.any_cons, List.any_cons, h a (List.mem_cons_self ..), ih fun x hx => h x (List.mem_cons_of_mem _ hx)]
theorem z3i {α : Type} {l : List α} {f : α → Bool} (h : ∀ x ∈ l, f x = false) : l.any f = false := by
 induction l with
 | nil => rfl
 | cons a l ih => rw [List.any_cons, h a (List.mem_cons_self ..), ih fun x hx => h x (List.mem_cons_of_mem _ hx)]; rfl
theorem v5g {p q : Prop} [Decidable p] [Decidable q] (h : p ↔ q) : decide p = decide q := by
 by_cases hp : p
 ·rw [decide_eq_true hp, decide_eq_true (h.1 hp)]
 ·rw [decide_eq_false hp, decide_eq_false fun hq => hp (h.2 hq)]
theorem x4c {L M : List R6} {f g : R6 → Int} {P : R6 → Bool} {T : R6 → Int → Bool} (hT : ∀ r t, T r t = (decide (f r ≤ t) && decide (t < g r) && P r)) : Brk (z6t f g (L ++ M) []) (fun t => (L.any fun r => T r t, M.any fun r => T r t)) (false, false) := by
 have hm : ∀ r, (r ∈ L ∨ r ∈ M) → f r ∈ z6t f g (L ++ M) [] ∧ g r ∈ z6t f g (L ++ M) [] := fun r hr => by
  have : r ∈ L ++ M := List.mem_append.2 hr
  exact ⟨(z9x f g _ _ _).2 (.inr ⟨r, this, .inl rfl⟩), (z9x f g _ _ _).2 (.inr ⟨r, this, .inr rfl⟩)⟩
 have one : ∀ r t, (r ∈ L ∨ r ∈ M) → t ∉ z6t f g (L ++ M) [] → T r t = T r (t - 1) := fun r t hr ht => by
  obtain ⟨h1, h2⟩ := hm r hr
  have n1 : t ≠ f r := fun e => ht (e ▸ h1)
  have n2 : t ≠ g r := fun e => ht (e ▸ h2)
  rw [hT, hT, v5g (p := f r ≤ t) (q := f r ≤ t - 1) (by omega), v5g (p := t < g r) (q := t - 1 < g r) (by omega)]
 have lo : ∀ r t, (r ∈ L ∨ r ∈ M) → (∀ c ∈ z6t f g (L ++ M) [], t < c) → T r t = false := fun r t hr ht => by
  have := ht _ (hm r hr).1
  rw [hT, u0q (by omega)]; rfl
 have hi : ∀ r t, (r ∈ L ∨ r ∈ M) → (∀ c ∈ z6t f g (L ++ M) [], c ≤ t) → T r t = false := fun r t hr ht => by
  have := ht _ (hm r hr).2
  rw [hT, Zo (a := t) (by omega), Bool.and_false]; rfl
 refine ⟨fun t ht => ?_, fun t ht => ?_, fun t ht => ?_⟩
 ·show (_, _) = (_, _)
  rw [y4o (l := L) fun r hr => one r t (.inl hr) ht, y4o (l := M) fun r hr => one r t (.inr hr) ht]
 ·show (_, _) = (_, _)
  rw [z3i (l := L) fun r hr => lo r t (.inl hr) ht, z3i (l := M) fun r hr => lo r t (.inr hr) ht]
 ·show (_, _) = (_, _)
  rw [z3i (l := L) fun r hr => hi r t (.inl hr) ht, z3i (l := M) fun r hr => hi r t (.inr hr) ht]
section
variable {L M : List R6} (hr : Rng (L ++ M))
theorem brk_x (L M : List R6) (y z : Int) : Brk (z6t (·.a) (·.d) (L ++ M) []) (fun x => G2 L M x y z) (false, false) :=
 x4c (f := (·.a)) (g := (·.d)) (P := fun r => decide (r.b ≤ y) && (decide (y < r.e) && (decide (r.c ≤ z) && decide (z < r.f)))) (T := fun r x => haR x y z r) fun r t => by
  unfold haR
  cases decide (r.a ≤ t) <;> cases decide (t < r.d) <;> rfl
theorem brk_y (L M : List R6) (x z : Int) : Brk (z6t (·.b) (·.e) (L ++ M) []) (fun y => G2 L M x y z) (false, false) :=
 x4c (f := (·.b)) (g := (·.e)) (P := fun r => decide (r.a ≤ x) && (decide (x < r.d) && (decide (r.c ≤ z) && decide (z < r.f)))) (T := fun r y => haR x y z r) fun r t => by
  unfold haR
  cases decide (r.a ≤ x) <;> cases decide (x < r.d) <;> cases decide (r.b ≤ t) <;> cases decide (t < r.e) <;> rfl
theorem brk_z (L M : List R6) (x y : Int) : Brk (z6t (·.c) (·.f) (L ++ M) []) (fun z => G2 L M x y z) (false, false) :=
 x4c (f := (·.c)) (g := (·.f)) (P := fun r => decide (r.a ≤ x) && (decide (x < r.d) && (decide (r.b ≤ y) && decide (y < r.e)))) (T := fun r z => haR x y z r) fun r t => by
  unfold haR
  cases decide (r.a ≤ x) <;> cases decide (x < r.d) <;> cases decide (r.b ≤ y) <;> cases decide (y < r.e) <;> cases decide (r.c ≤ t) <;> cases decide (t < r.f) <;> rfl
include hr
theorem w5s : ∃ a l b m c n, Xo L M = a :: l ∧ Wv L M = b :: m ∧ Wg L M = c :: n ∧ Cel (G2 L M) (false, false) a l b m c n := by
 have srt : ∀ f g : R6 → Int, (z6t f g (L ++ M) []).Pairwise (· < ·) := fun f g => x6v f g _ _ .nil
 have bd : ∀ f g : R6 → Int, (∀ r ∈ L ++ M, (-1000000 ≤ f r ∧ f r ≤ 1000000) ∧ (-1000000 ≤ g r ∧ g r ≤ 1000000)) → ∀ c ∈ z6t f g (L ++ M) [], -1000000 ≤ c ∧ c ≤ 1000000 := fun f g h c hc => by
  rcases (z9x f g c _ _).1 hc with hc | ⟨r, h1, rfl | rfl⟩
  ·cases hc
  ·exact (h r h1).1
  ·exact (h r h1).2
 obtain ⟨a, l, e1, u1, v1, w1⟩ := x2x (srt (·.a) (·.d)) (bd _ _ fun r h => ⟨(hr r h).1.1, (hr r h).2.1⟩)
 obtain ⟨b, m, e2, u2, v2, w2⟩ := x2x (srt (·.b) (·.e)) (bd _ _ fun r h => ⟨(hr r h).1.2.1, (hr r h).2.2.1⟩)
 obtain ⟨c, n, e3, u3, v3, w3⟩ := x2x (srt (·.c) (·.f)) (bd _ _ fun r h => ⟨(hr r h).1.2.2, (hr r h).2.2.2⟩)
 exact ⟨a, l, b, m, c, n, e1, e2, e3, u1, u2, u3, v1, v2, v3, fun y z => (w1 (brk_x L M y z)).1, fun x z => (w2 (brk_y L M x z)).1, fun x y => (w3 (brk_z L M x y)).1, fun x y z => (w1 (brk_x L M y z)).2 x, fun x y z => (w2 (brk_y L M x z)).2 y, fun x y z => (w3 (brk_z L M x y)).2 z⟩
end
def fK (kd : Int) (u v : Bool × Bool) : Int := if cntB kd u.1 u.2 v.1 v.2 = true then 1 else 0
theorem v9t (kd : Int) (u : Bool × Bool) : fK kd u u = 0 := by
 obtain ⟨a, b⟩ := u
 unfold fK cntB
 cases (kd == 0) <;> cases (kd == 1) <;> cases a <;> cases b <;> rfl
def y2y {γ : Type} (d : Int) (G : Int → Int → Int → γ) (x y z : Int) : γ :=
 if d = 0 then G (x - 1) y z else if d = 1 then G (x + 1) y z else if d = 2 then G x (y - 1) z else if d = 3 then G x (y + 1) z else if d = 4 then G x y (z - 1) else G x y (z + 1)
end Go.Am
namespace Go.Am
open Go.Proofs
theorem v3j {C : List Int} {i : Nat} (h : i < C.length) : rd C i ∈ C := by rw [Xi h]; exact List.getElem_mem h
def bdC (C : List Int) : Prop := ∀ x ∈ C, -1000005 ≤ x ∧ x ≤ 1000005
def dC (C : List Int) (i : Nat) : Int := rd C (i + 1) - rd C i
theorem z7c {C : List Int} (hb : bdC C) (hl : C.length ≤ 5000) {i : Nat} (hi : i + 1 < C.length) : v4q C i = dC C i ∧ -2000010 ≤ dC C i ∧ dC C i ≤ 2000010 := by
 have h1 := hb _ (v3j hi)
 have h2 := hb _ (v3j (show i < C.length by omega))
 have hw : IntKind.wrap .i64 ((i : Int) + 1) = ((i + 1 : Nat) : Int) := Zj (by omega)
 unfold v4q dC
 rw [hw, Zk, Zk, Zj (by omega)]
 exact ⟨rfl, by omega, by omega⟩
section
variable {L M : List R6} {X Y Z : List Int} (kd : Int) (bX : 1 ≤ X.length ∧ X.length ≤ 5000) (bY : 1 ≤ Y.length ∧ Y.length ≤ 5000) (bZ : 1 ≤ Z.length ∧ Z.length ≤ 5000) (cX : bdC X) (cY : bdC Y) (cZ : bdC Z)
include bX bY bZ
theorem gcn_eq {i j k i' j' k' : Nat} (hi : i + 1 < X.length) (hj : j + 1 < Y.length) (hk : k + 1 < Z.length) (hi' : i' + 1 < X.length) (hj' : j' + 1 < Y.length) (hk' : k' + 1 < Z.length) :
  x9p X Y Z (Jr L X Y Z) (Jr M X Y Z) kd (z1m X Y Z (Jr L X Y Z) (Jr M X Y Z) i j k) (z1m X Y Z (Jr L X Y Z) (Jr M X Y Z) i' j' k') = cntB kd (Xr L (rd X i) (rd Y j) (rd Z k)) (Xr M (rd X i) (rd Y j) (rd Z k)) (Xr L (rd X i') (rd Y j') (rd Z k')) (Xr M (rd X i') (rd Y j') (rd Z k')) := by
 unfold x9p
 rw [(x6m (A := Jr L X Y Z) (B := Jr M X Y Z) bX bY bZ hi hj hk).1, (x6m (A := Jr L X Y Z) (B := Jr M X Y Z) bX bY bZ hi' hj' hk').1, Zk, Zk, y0p L X Y Z hi hj hk, y0p M X Y Z hi hj hk, y0p L X Y Z hi' hj' hk', y0p M X Y Z hi' hj' hk']
theorem x3v {i j k i' j' k' : Nat} (hi : i + 1 < X.length) (hj : j + 1 < Y.length) (hk : k + 1 < Z.length) (hi' : i' + 1 < X.length) (hj' : j' + 1 < Y.length) (hk' : k' + 1 < Z.length) {p q P Q : Int} (h1 : p = P ∧ -2000010 ≤ P ∧ P ≤ 2000010) (h2 : q = Q ∧ -2000010 ≤ Q ∧ Q ≤ 2000010) :
  (bif x9p X Y Z (Jr L X Y Z) (Jr M X Y Z) kd (z1m X Y Z (Jr L X Y Z) (Jr M X Y Z) i j k) (z1m X Y Z (Jr L X Y Z) (Jr M X Y Z) i' j' k') then IntKind.wrap .i64 (p * q) else 0) = fK kd (G2 L M (rd X i) (rd Y j) (rd Z k)) (G2 L M (rd X i') (rd Y j') (rd Z k')) * (P * Q) := by
 obtain ⟨rfl, h1⟩ := h1
 obtain ⟨rfl, h2⟩ := h2
 rw [gcn_eq kd bX bY bZ hi hj hk hi' hj' hk']
 have hb : -4000040000100 ≤ p * q ∧ p * q ≤ 4000040000100 := by
  have a1 := Int.mul_nonneg (show 0 ≤ p + 2000010 by omega) (show 0 ≤ q + 2000010 by omega)
  have a2 := Int.mul_nonneg (show 0 ≤ 2000010 - p by omega) (show 0 ≤ 2000010 - q by omega)
  have a3 := Int.mul_nonneg (show 0 ≤ p + 2000010 by omega) (show 0 ≤ 2000010 - q by omega)
  have a4 := Int.mul_nonneg (show 0 ≤ 2000010 - p by omega) (show 0 ≤ q + 2000010 by omega)
  simp only [Int.mul_add, Int.add_mul, Int.mul_sub, Int.sub_mul] at a1 a2 a3 a4
  omega
 unfold fK G2
 cases cntB kd (Xr L (rd X i) (rd Y j) (rd Z k)) (Xr M (rd X i) (rd Y j) (rd Z k)) (Xr L (rd X i') (rd Y j') (rd Z k')) (Xr M (rd X i') (rd Y j') (rd Z k')) with
 | false => rw [cond_false, if_neg (by simp), Int.zero_mul]
 | true => rw [cond_true, if_pos rfl, Int.one_mul, Zj (by omega)]
include cX cY cZ
theorem x1z {C : List Int} (hC : C.length ≤ 5000) {s : Bool} {d : Int} (hs : stp d = if s = true then 1 else -1) {i : Nat} (hi : i + 1 < C.length) : 
  (okI s i (C.length - 1) = true → IntKind.wrap .i64 ((i : Int) + stp d) = ((nxI s i : Nat) : Int) ∧ nxI s i + 1 < C.length) ∧ (okI s i (C.length - 1) = false → IntKind.wrap .i64 ((i : Int) + stp d) < 0 ∨ IntKind.wrap .i64 ((i : Int) + stp d) ≥ ((C.length - 1 : Nat) : Int)) := by
 have _u := bX; have _v := bY; have _w := bZ; have _p := cX; have _q := cY; have _r := cZ
 rw [hs]
 cases s
 ·rw [if_neg (by simp), Zj (by omega)]
  unfold okI nxI
  rw [cond_false, cond_false]
  refine ⟨fun h => ?_, fun h => ?_⟩
  ·have := of_decide_eq_true h; omega
  ·have := of_decide_eq_false h; omega
 ·rw [if_pos rfl, Zj (by omega)]
  unfold okI nxI
  rw [cond_true, cond_true]
  refine ⟨fun h => ?_, fun h => ?_⟩
  ·have := of_decide_eq_true h; omega
  ·have := of_decide_eq_false h; omega
theorem tm_0 {d : Int} {s : Bool} (hax : axs d = 0) (hs : stp d = if s = true then 1 else -1) {i j k : Nat} (hi : i + 1 < X.length) (hj : j + 1 < Y.length) (hk : k + 1 < Z.length) :
  tmF X Y Z (Jr L X Y Z) (Jr M X Y Z) kd d i j k = if okI s i (X.length - 1) = true then fK kd (G2 L M (rd X i) (rd Y j) (rd Z k)) (G2 L M (rd X (nxI s i)) (rd Y j) (rd Z k)) * (dC Y j * dC Z k) else 0 := by
 have g0 : z5u X Y Z (Jr L X Y Z) (Jr M X Y Z) 0 = ((X.length - 1 : Nat) : Int) := x6g bX
 have l1 : y6f X Y Z (Jr L X Y Z) (Jr M X Y Z) i j k (Int.tmod (IntKind.wrap .i64 ((0 : Int) + 1)) 3) = dC Y j ∧ -2000010 ≤ dC Y j ∧ dC Y j ≤ 2000010 := z7c cY bY.2 hj
 have l2 : y6f X Y Z (Jr L X Y Z) (Jr M X Y Z) i j k (Int.tmod (IntKind.wrap .i64 ((0 : Int) + 2)) 3) = dC Z k ∧ -2000010 ≤ dC Z k ∧ dC Z k ≤ 2000010 := z7c cZ bZ.2 hk
 obtain ⟨n1, nf⟩ := x1z bX bY bZ cX cY cZ bX.2 hs hi
 unfold tmF tm1
 rw [hax, g0]
 rw [show decide ((0 : Int) = 0) = true from rfl, cond_true]
 rcases Yr (okI s i (X.length - 1)) with q | q
 ·obtain ⟨e, n2⟩ := n1 q
  rw [if_pos q, e, Zo (by omega), z7n (by omega), cond_false, cond_false]
  exact x3v kd bX bY bZ hi hj hk n2 hj hk l1 l2
 ·rw [if_neg (by rw [q]; simp)]
  by_cases h1 : IntKind.wrap .i64 ((i : Int) + stp d) < 0
  ·rw [Zt h1, cond_true]
  ·rw [Zo h1, cond_false, z6e ((nf q).resolve_left h1), cond_true]
theorem tm_1 {d : Int} {s : Bool} (hax : axs d = 1) (hs : stp d = if s = true then 1 else -1) {i j k : Nat} (hi : i + 1 < X.length) (hj : j + 1 < Y.length) (hk : k + 1 < Z.length) :
  tmF X Y Z (Jr L X Y Z) (Jr M X Y Z) kd d i j k = if okI s j (Y.length - 1) = true then fK kd (G2 L M (rd X i) (rd Y j) (rd Z k)) (G2 L M (rd X i) (rd Y (nxI s j)) (rd Z k)) * (dC Z k * dC X i) else 0 := by
 have g0 : z5u X Y Z (Jr L X Y Z) (Jr M X Y Z) 1 = ((Y.length - 1 : Nat) : Int) := x6g bY
 have l1 : y6f X Y Z (Jr L X Y Z) (Jr M X Y Z) i j k (Int.tmod (IntKind.wrap .i64 ((1 : Int) + 1)) 3) = dC Z k ∧ -2000010 ≤ dC Z k ∧ dC Z k ≤ 2000010 := z7c cZ bZ.2 hk
 have l2 : y6f X Y Z (Jr L X Y Z) (Jr M X Y Z) i j k (Int.tmod (IntKind.wrap .i64 ((1 : Int) + 2)) 3) = dC X i ∧ -2000010 ≤ dC X i ∧ dC X i ≤ 2000010 := z7c cX bX.2 hi
 obtain ⟨n1, nf⟩ := x1z bX bY bZ cX cY cZ bY.2 hs hj
 unfold tmF tm1
 rw [hax, g0]
 rw [show decide ((1 : Int) = 0) = false from rfl, show decide ((1 : Int) = 1) = true from rfl, cond_false, cond_true]
 rcases Yr (okI s j (Y.length - 1)) with q | q
 ·obtain ⟨e, n2⟩ := n1 q
  rw [if_pos q, e, Zo (by omega), z7n (by omega), cond_false, cond_false]
  exact x3v kd bX bY bZ hi hj hk hi n2 hk l1 l2
 ·rw [if_neg (by rw [q]; simp)]
  by_cases h1 : IntKind.wrap .i64 ((j : Int) + stp d) < 0
  ·rw [Zt h1, cond_true]
  ·rw [Zo h1, cond_false, z6e ((nf q).resolve_left h1), cond_true]
theorem tm_2 {d : Int} {s : Bool} (hax : axs d = 2) (hs : stp d = if s = true then 1 else -1) {i j k : Nat} (hi : i + 1 < X.length) (hj : j + 1 < Y.length) (hk : k + 1 < Z.length) :
  tmF X Y Z (Jr L X Y Z) (Jr M X Y Z) kd d i j k = if okI s k (Z.length - 1) = true then fK kd (G2 L M (rd X i) (rd Y j) (rd Z k)) (G2 L M (rd X i) (rd Y j) (rd Z (nxI s k))) * (dC X i * dC Y j) else 0 := by
 have g0 : z5u X Y Z (Jr L X Y Z) (Jr M X Y Z) 2 = ((Z.length - 1 : Nat) : Int) := x6g bZ
 have l1 : y6f X Y Z (Jr L X Y Z) (Jr M X Y Z) i j k (Int.tmod (IntKind.wrap .i64 ((2 : Int) + 1)) 3) = dC X i ∧ -2000010 ≤ dC X i ∧ dC X i ≤ 2000010 := z7c cX bX.2 hi
 have l2 : y6f X Y Z (Jr L X Y Z) (Jr M X Y Z) i j k (Int.tmod (IntKind.wrap .i64 ((2 : Int) + 2)) 3) = dC Y j ∧ -2000010 ≤ dC Y j ∧ dC Y j ≤ 2000010 := z7c cY bY.2 hj
 obtain ⟨n1, nf⟩ := x1z bX bY bZ cX cY cZ bZ.2 hs hk
 unfold tmF tm1
 rw [hax, g0]
 rw [show decide ((2 : Int) = 0) = false from rfl, show decide ((2 : Int) = 1) = false from rfl, cond_false, cond_false]
 rcases Yr (okI s k (Z.length - 1)) with q | q
 ·obtain ⟨e, n2⟩ := n1 q
  rw [if_pos q, e, Zo (by omega), z7n (by omega), cond_false, cond_false]
  exact x3v kd bX bY bZ hi hj hk hi hj n2 l1 l2
 ·rw [if_neg (by rw [q]; simp)]
  by_cases h1 : IntKind.wrap .i64 ((k : Int) + stp d) < 0
  ·rw [Zt h1, cond_true]
  ·rw [Zo h1, cond_false, z6e ((nf q).resolve_left h1), cond_true]
end
section
variable {L M : List R6} {a b c : Int} {l m n : List Int} (kd : Int) (bX : (a :: l).length ≤ 5000) (bY : (b :: m).length ≤ 5000) (bZ : (c :: n).length ≤ 5000) (cX : bdC (a :: l)) (cY : bdC (b :: m)) (cZ : bdC (c :: n))
include bX bY bZ cX cY cZ
theorem fac_0 {d : Int} {s : Bool} (hax : axs d = 0) (hs : stp d = if s = true then 1 else -1) :
  v0u (a :: l) (b :: m) (c :: n) (Jr L (a :: l) (b :: m) (c :: n)) (Jr M (a :: l) (b :: m) (c :: n)) kd d = tS (sw s fun (u v : Int → Int → Bool × Bool) => mS (fun y => mS (fun z => fK kd (u y z) (v y z)) c n) b m) (G2 L M) a l := by
 have p : ∀ {x : Int} {l : List Int}, (x :: l).length ≤ 5000 → 1 ≤ (x :: l).length ∧ (x :: l).length ≤ 5000 := fun h => ⟨by simp, h⟩
 have h1 : ∀ {x : Int} {l : List Int} {i : Nat}, i < 0 + l.length → i + 1 < (x :: l).length := fun h => by simp only [List.length_cons]; omega
 unfold v0u
 show Jo (fun i => Jo (fun j => Jo (fun k => _) 0 n.length) 0 m.length) 0 l.length = _
 rw [w1n]
 refine Xm _ _ fun i _ hi => ?_
 rcases Yr (okI s i l.length) with q | q
 ·rw [if_pos q, y0y]
  refine Xm _ _ fun j _ hj => ?_
  rw [y0y, z1a]
  refine Xm _ _ fun k _ hk => ?_
  rw [tm_0 kd (p bX) (p bY) (p bZ) cX cY cZ hax hs (h1 hi) (h1 hj) (h1 hk)]
  show (if okI s i l.length = true then _ else _) = _
  rw [if_pos q, Int.mul_assoc, Int.mul_comm (dC (b :: m) j)]; rfl
 ·rw [if_neg (by rw [q]; simp), ← z4v m.length 0]
  refine Xm _ _ fun j _ hj => ?_
  rw [← z4v n.length 0]
  refine Xm _ _ fun k _ hk => ?_
  rw [tm_0 kd (p bX) (p bY) (p bZ) cX cY cZ hax hs (h1 hi) (h1 hj) (h1 hk)]
  exact if_neg (by show ¬ okI s i l.length = true; rw [q]; simp)
theorem fac_1 {d : Int} {s : Bool} (hax : axs d = 1) (hs : stp d = if s = true then 1 else -1) :
  v0u (a :: l) (b :: m) (c :: n) (Jr L (a :: l) (b :: m) (c :: n)) (Jr M (a :: l) (b :: m) (c :: n)) kd d = mS (fun x => tS (sw s fun (u v : Int → Bool × Bool) => mS (fun z => fK kd (u z) (v z)) c n) (G2 L M x) b m) a l := by
 have p : ∀ {x : Int} {l : List Int}, (x :: l).length ≤ 5000 → 1 ≤ (x :: l).length ∧ (x :: l).length ≤ 5000 := fun h => ⟨by simp, h⟩
 have h1 : ∀ {x : Int} {l : List Int} {i : Nat}, i < 0 + l.length → i + 1 < (x :: l).length := fun h => by simp only [List.length_cons]; omega
 unfold v0u
 show Jo (fun i => Jo (fun j => Jo (fun k => _) 0 n.length) 0 m.length) 0 l.length = _
 rw [y0y]
 refine Xm _ _ fun i _ hi => ?_
 rw [w1n, z1a]
 refine Xm _ _ fun j _ hj => ?_
 rcases Yr (okI s j m.length) with q | q
 ·rw [if_pos q, y0y, z1a]
  refine Xm _ _ fun k _ hk => ?_
  rw [tm_1 kd (p bX) (p bY) (p bZ) cX cY cZ hax hs (h1 hi) (h1 hj) (h1 hk)]
  show (if okI s j m.length = true then _ else _) = _
  rw [if_pos q, Int.mul_assoc]; rfl
 ·rw [if_neg (by rw [q]; simp), Int.zero_mul, ← z4v n.length 0]
  refine Xm _ _ fun k _ hk => ?_
  rw [tm_1 kd (p bX) (p bY) (p bZ) cX cY cZ hax hs (h1 hi) (h1 hj) (h1 hk)]
  exact if_neg (by show ¬ okI s j m.length = true; rw [q]; simp)
theorem fac_2 {d : Int} {s : Bool} (hax : axs d = 2) (hs : stp d = if s = true then 1 else -1) :
  v0u (a :: l) (b :: m) (c :: n) (Jr L (a :: l) (b :: m) (c :: n)) (Jr M (a :: l) (b :: m) (c :: n)) kd d = mS (fun x => mS (fun y => tS (sw s (fK kd)) (G2 L M x y) c n) b m) a l := by
 have p : ∀ {x : Int} {l : List Int}, (x :: l).length ≤ 5000 → 1 ≤ (x :: l).length ∧ (x :: l).length ≤ 5000 := fun h => ⟨by simp, h⟩
 have h1 : ∀ {x : Int} {l : List Int} {i : Nat}, i < 0 + l.length → i + 1 < (x :: l).length := fun h => by simp only [List.length_cons]; omega
 unfold v0u
 show Jo (fun i => Jo (fun j => Jo (fun k => _) 0 n.length) 0 m.length) 0 l.length = _
 rw [y0y]
 refine Xm _ _ fun i _ hi => ?_
 rw [y0y, z1a]
 refine Xm _ _ fun j _ hj => ?_
 rw [w1n, z1a, z1a]
 refine Xm _ _ fun k _ hk => ?_
 rw [tm_2 kd (p bX) (p bY) (p bZ) cX cY cZ hax hs (h1 hi) (h1 hj) (h1 hk)]
 show (if okI s k n.length = true then _ else _) = _
 rcases Yr (okI s k n.length) with q | q
 ·rw [if_pos q, if_pos q, Int.mul_assoc, Int.mul_comm (dC (a :: l) i)]; rfl
 ·rw [if_neg (by rw [q]; simp), if_neg (by rw [q]; simp), Int.zero_mul, Int.zero_mul]
end
theorem fac_S3 {L M : List R6} (hr : Rng (L ++ M)) (hl : L.length + M.length ≤ 1000) (kd : Int) {d : Int} (hd : 0 ≤ d ∧ d ≤ 5) {p : List Int} (hp : Pts p) :
  v0u (Xo L M) (Wv L M) (Wg L M) (Yv L M) (Yp L M) kd d = S3 p (fun x y z => fK kd (y2y d (G2 L M) x y z) (G2 L M x y z)) := by
 obtain ⟨a, l, b, m, c, n, e1, e2, e3, h⟩ := w5s hr
 obtain ⟨b0, b1, b2⟩ := x6t hl
 have bd : ∀ (l : List Int) (a : Int), Up a l → -1000005 ≤ a ∧ hiC a l ≤ 1000005 → bdC (a :: l) := fun l a hu hb x hx => by
  have := y2v l a hu
  rcases List.mem_cons.1 hx with rfl | hx
  ·omega
  ·have := x4x l a hu x hx; omega
 unfold Yv Yp
 rw [e1] at b0
 rw [e2] at b1
 rw [e3] at b2
 rw [e1, e2, e3]
 have cX := bd l a h.ux h.bx
 have cY := bd m b h.uy h.hy
 have cZ := bd n c h.uz h.bz
 have hf := v9t kd
 have lX : (a :: l).length ≤ 5000 := by omega
 have lY : (b :: m).length ≤ 5000 := by omega
 have lZ : (c :: n).length ≤ 5000 := by omega
 obtain rfl | rfl | rfl | rfl | rfl | rfl : d = 0 ∨ d = 1 ∨ d = 2 ∨ d = 3 ∨ d = 4 ∨ d = 5 := by omega
 ·exact (fac_0 kd lX lY lZ cX cY cZ (s := true) (by decide) (by decide)).trans (cel_x h hp hf true).symm
 ·exact (fac_0 kd lX lY lZ cX cY cZ (s := false) (by decide) (by decide)).trans (cel_x h hp hf false).symm
 ·exact (fac_1 kd lX lY lZ cX cY cZ (s := true) (by decide) (by decide)).trans (cel_y h hp hf true).symm
 ·exact (fac_1 kd lX lY lZ cX cY cZ (s := false) (by decide) (by decide)).trans (cel_y h hp hf false).symm
 ·exact (fac_2 kd lX lY lZ cX cY cZ (s := true) (by decide) (by decide)).trans (cel_z h hp hf true).symm
 ·exact (fac_2 kd lX lY lZ cX cY cZ (s := false) (by decide) (by decide)).trans (cel_z h hp hf false).symm
end Go.Am
namespace Go.Am
open Go.Proofs
theorem Wi {L : List R6} {x y z : Int} : Xr L x y z = true ↔ inS L x y z := by
 unfold Xr inS
 rw [List.any_eq_true]
 constructor
 ·rintro ⟨r, h1, h2⟩
  unfold haR at h2
  simp only [Bool.and_eq_true, decide_eq_true_eq] at h2
  exact ⟨r, h1, ⟨h2.1, h2.2.1⟩, ⟨h2.2.2.1, h2.2.2.2.1⟩, h2.2.2.2.2⟩
 ·rintro ⟨r, h1, ⟨a1, a2⟩, ⟨a3, a4⟩, a5, a6⟩
  refine ⟨r, h1, ?_⟩
  unfold haR
  simp only [Bool.and_eq_true, decide_eq_true_eq]
  exact ⟨a1, a2, a3, a4, a5, a6⟩
def b2i (b : Bool) : Int := bif b then 1 else 0
theorem z4q {X : List R6} (h : Sol X) (x y z : Int) : cnt X x y z = b2i (Xr X x y z) := by
 have := z3s X h.ap x y z
 rcases Yr (Xr X x y z) with q | q
 ·rw [q, this.1 (Wi.1 q)]; rfl
 ·rw [q, this.2 fun k => by rw [Wi.2 k] at q; cases q]; rfl
theorem w7n {γ δ : Type} (f : γ → δ) (d : Int) (G : Int → Int → Int → γ) (x y z : Int) : y2y d (fun x y z => f (G x y z)) x y z = f (y2y d G x y z) := by
 unfold y2y
 split
 ·rfl
 split
 ·rfl
 split
 ·rfl
 split
 ·rfl
 split <;> rfl
theorem inR_nx {d : Int} (hd : 0 ≤ d ∧ d ≤ 5) (r : R6) (x y z : Int) : inR (nx d r) x y z = y2y d (inR r) x y z := by
 have e1 : ∀ a b t : Int, ind (a + 1) (b + 1) t = ind a b (t - 1) := fun a b t => by
  unfold ind
  by_cases h : a ≤ t - 1 ∧ t - 1 < b
  ·rw [if_pos h, if_pos (by omega)]
  ·rw [if_neg h, if_neg (by omega)]
 have e2 : ∀ a b t : Int, ind (a + -1) (b + -1) t = ind a b (t + 1) := fun a b t => by
  unfold ind
  by_cases h : a ≤ t + 1 ∧ t + 1 < b
  ·rw [if_pos h, if_pos (by omega)]
  ·rw [if_neg h, if_neg (by omega)]
 obtain rfl | rfl | rfl | rfl | rfl | rfl : d = 0 ∨ d = 1 ∨ d = 2 ∨ d = 3 ∨ d = 4 ∨ d = 5 := by omega
 ·show ind (r.a + 1) (r.d + 1) x * _ * _ = ind r.a r.d (x - 1) * _ * _; rw [e1]; rfl
 ·show ind (r.a + -1) (r.d + -1) x * _ * _ = ind r.a r.d (x + 1) * _ * _; rw [e2]; rfl
 ·show _ * ind (r.b + 1) (r.e + 1) y * _ = _ * ind r.b r.e (y - 1) * _; rw [e1]; rfl
 ·show _ * ind (r.b + -1) (r.e + -1) y * _ = _ * ind r.b r.e (y + 1) * _; rw [e2]; rfl
 ·show _ * _ * ind (r.c + 1) (r.f + 1) z = _ * _ * ind r.c r.f (z - 1); rw [e1]; rfl
 ·show _ * _ * ind (r.c + -1) (r.f + -1) z = _ * _ * ind r.c r.f (z + 1); rw [e2]; rfl
theorem cnt_nx {d : Int} (hd : 0 ≤ d ∧ d ≤ 5) (X : List R6) (x y z : Int) : cnt (X.map (nx d)) x y z = y2y d (cnt X) x y z := by
 unfold cnt
 rw [v2g]
 have : ∀ x y z, sm X (fun r => y2y d (inR r) x y z) = y2y d (fun x y z => sm X fun r => inR r x y z) x y z := fun x y z => by
  unfold y2y
  split
  ·rfl
  split
  ·rfl
  split
  ·rfl
  split
  ·rfl
  split <;> rfl
 rw [← this]
 exact Yh fun r _ => inR_nx hd r x y z
theorem v7w {d : Int} (hd : 0 ≤ d ∧ d ≤ 5) {r : R6} (h : -1000001 ≤ r.a ∧ r.d ≤ 1000001 ∧ -1000001 ≤ r.b ∧ r.e ≤ 1000001 ∧ -1000001 ≤ r.c ∧ r.f ≤ 1000001) : x2c (nx d r) := by
 obtain rfl | rfl | rfl | rfl | rfl | rfl : d = 0 ∨ d = 1 ∨ d = 2 ∨ d = 3 ∨ d = 4 ∨ d = 5 := by omega
 ·show -1000002 ≤ r.a + 1 ∧ r.d + 1 ≤ 1000002 ∧ _ ≤ r.b ∧ r.e ≤ _ ∧ _ ≤ r.c ∧ r.f ≤ _; omega
 ·show -1000002 ≤ r.a + -1 ∧ r.d + -1 ≤ 1000002 ∧ _ ≤ r.b ∧ r.e ≤ _ ∧ _ ≤ r.c ∧ r.f ≤ _; omega
 ·show _ ≤ r.a ∧ r.d ≤ _ ∧ -1000002 ≤ r.b + 1 ∧ r.e + 1 ≤ 1000002 ∧ _ ≤ r.c ∧ r.f ≤ _; omega
 ·show _ ≤ r.a ∧ r.d ≤ _ ∧ -1000002 ≤ r.b + -1 ∧ r.e + -1 ≤ 1000002 ∧ _ ≤ r.c ∧ r.f ≤ _; omega
 ·show _ ≤ r.a ∧ r.d ≤ _ ∧ _ ≤ r.b ∧ r.e ≤ _ ∧ -1000002 ≤ r.c + 1 ∧ r.f + 1 ≤ 1000002; omega
 ·show _ ≤ r.a ∧ r.d ≤ _ ∧ _ ≤ r.b ∧ r.e ≤ _ ∧ -1000002 ≤ r.c + -1 ∧ r.f + -1 ≤ 1000002; omega
def inB1 (r : R6) : Prop := -1000001 ≤ r.a ∧ r.d ≤ 1000001 ∧ -1000001 ≤ r.b ∧ r.e ≤ 1000001 ∧ -1000001 ≤ r.c ∧ r.f ≤ 1000001
theorem v1y {p : List Int} (hp : Pts p) {d : Int} (hd : 0 ≤ d ∧ d ≤ 5) (X Y : List R6) (hX : ∀ r ∈ X, inB1 r) : E2 d X Y = S3 p fun x y z => y2y d (cnt X) x y z * cnt Y x y z := by
 rw [← v5t, v1v hp _ _ fun r hr => ?_]
 ·exact x7c fun x y z => by rw [cnt_nx hd]
 ·obtain ⟨s, h1, rfl⟩ := List.mem_map.1 hr
  exact v7w hd (hX s h1)
theorem w9p (r s : R6) (x y z : Int) : w7a (Qx r s) (fun b => inR b x y z) = inR r x y z * inR s x y z := by
 have e : inR r x y z * inR s x y z = ind (max r.a s.a) (min r.d s.d) x * ind (max r.b s.b) (min r.e s.e) y * ind (max r.c s.c) (min r.f s.f) z := by
  rw [← z7h, ← z7h, ← z7h]
  unfold inR
  simp only [Int.mul_comm, Int.mul_left_comm, Int.mul_assoc]
 rw [e]
 have z0 : ∀ a b t : Int, ¬ a < b → ind a b t = 0 := fun a b t h => by unfold ind; exact if_neg (by omega)
 unfold Qx
 by_cases h1 : max r.a s.a < min r.d s.d
 ·by_cases h2 : max r.b s.b < min r.e s.e
  ·by_cases h3 : max r.c s.c < min r.f s.f
   ·rw [decide_eq_true h1, decide_eq_true h2, decide_eq_true h3]; rfl
   ·rw [decide_eq_false h3, z0 _ _ z h3, Int.mul_zero]; simp only [Bool.and_false, cond_false, w7a]
  ·rw [decide_eq_false h2, z0 _ _ y h2, Int.mul_zero, Int.zero_mul]; simp only [Bool.false_and, Bool.and_false, cond_false, w7a]
 ·rw [decide_eq_false h1, z0 _ _ x h1, Int.zero_mul, Int.zero_mul]; simp only [Bool.false_and, cond_false, w7a]
theorem w5y (X Y : List R6) (x y z : Int) : cnt (Yq X Y) x y z = cnt X x y z * cnt Y x y z := by
 unfold cnt
 rw [v2h, ← x4z]
 refine Yh fun r _ => ?_
 rw [← y5b]
 exact Yh fun s _ => w9p r s x y z
theorem x6w {X Y : List R6} (hX : ∀ r ∈ X, inB1 r) : ∀ r ∈ Yq X Y, inB1 r := fun b hb => by
 unfold Yq at hb
 obtain ⟨r, h1, h2⟩ := List.mem_flatMap.1 hb
 obtain ⟨s, h3, h4⟩ := List.mem_filterMap.1 h2
 have := hX r h1
 unfold Qx at h4
 cases hc : (decide (max r.a s.a < min r.d s.d) && (decide (max r.b s.b < min r.e s.e) && decide (max r.c s.c < min r.f s.f))) with
 | false => rw [hc] at h4; cases h4
 | true =>
  rw [hc] at h4
  obtain rfl := Option.some.inj h4
  unfold inB1 at this ⊢
  dsimp only
  omega
theorem Sol.inB1 {X : List R6} (h : Sol X) : ∀ r ∈ X, inB1 r := fun r hr => by
 have := Ki (h.val r hr)
 unfold Go.Am.inB1; omega
theorem Sol.rng {X Y : List R6} (h : Sol X) (k : Sol Y) : Rng (X ++ Y) := fun r hr => by
 have : z6w r = true := (List.mem_append.1 hr).elim (h.val r) (k.val r)
 have := Ki this
 omega
theorem Sol.nil : Sol [] := ⟨by simp, fun r hr => (by cases hr), .nil⟩
theorem fK_num (kd : Int) (hk : kd = 0 ∨ kd = 1 ∨ kd = 2) (u v : Bool × Bool) : fK kd u v =
  (if kd = 0 then b2i u.1 - b2i u.1 * b2i v.1 else if kd = 1 then b2i u.1 * b2i v.2 - b2i u.1 * (b2i v.1 * b2i v.2) else
   (b2i u.1 * b2i v.2 - b2i u.1 * b2i u.2 * b2i v.2) - (b2i u.1 * (b2i v.1 * b2i v.2) - b2i u.1 * b2i u.2 * (b2i v.1 * b2i v.2))) := by
 obtain ⟨a, b⟩ := u
 obtain ⟨a', b'⟩ := v
 obtain rfl | rfl | rfl := hk <;> cases a <;> cases b <;> cases a' <;> cases b' <;> decide
section
variable {X Y : List R6} (hX : Sol X) (hY : Sol Y) {d : Int} (hd : 0 ≤ d ∧ d ≤ 5) (hl : X.length + Y.length ≤ 1000)
theorem src_G (X Y : List R6) (d x y z : Int) : y2y d (G2 X Y) x y z = (y2y d (Xr X) x y z, y2y d (Xr Y) x y z) := by
 unfold y2y
 split
 ·rfl
 split
 ·rfl
 split
 ·rfl
 split
 ·rfl
 split <;> rfl
include hX in
theorem w1u (d x y z : Int) : y2y d (cnt X) x y z = b2i (y2y d (Xr X) x y z) := by
 rw [← w7n b2i]
 unfold y2y
 split
 ·exact z4q hX _ _ _
 split
 ·exact z4q hX _ _ _
 split
 ·exact z4q hX _ _ _
 split
 ·exact z4q hX _ _ _
 split <;> exact z4q hX _ _ _
include hX hd
include hY hl
theorem con_eq : v0u (Xo X Y) (Wv X Y) (Wg X Y) (Yv X Y) (Yp X Y) 2 d = c1 d X Y (Yq X Y) := by
 obtain ⟨p, hp⟩ := x5o
 unfold c1
 rw [fac_S3 (hX.rng hY) hl 2 hd hp, v1y hp hd X Y hX.inB1, v1y hp hd X (Yq X Y) hX.inB1, v1y hp hd (Yq X Y) Y (x6w hX.inB1), v1y hp hd (Yq X Y) (Yq X Y) (x6w hX.inB1), ← x7b, ← x7b, ← x7b]
 refine x7c fun x y z => ?_
 have e : y2y d (cnt (Yq X Y)) x y z = y2y d (cnt X) x y z * y2y d (cnt Y) x y z := by
  have : cnt (Yq X Y) = fun x y z => cnt X x y z * cnt Y x y z := by funext x y z; exact w5y X Y x y z
  rw [this]
  unfold y2y
  split
  ·rfl
  split
  ·rfl
  split
  ·rfl
  split
  ·rfl
  split <;> rfl
 rw [fK_num 2 (.inr (.inr rfl)), if_neg (by decide), if_neg (by decide), src_G, e, w1u hX, w1u hY, w5y, z4q hX, z4q hY]; rfl
end
end Go.Am
namespace Go.Am
open Go.Proofs.Tryz
open Go.Proofs
def dvF (X Y : List R6) (kd d : Int) : Int := v4w (Xo X Y) (Wv X Y) (Wg X Y) (Yv X Y) (Yp X Y) kd d
theorem u0s {X Y : List R6} (h : X.length + Y.length ≤ 1000) : z0v X Y = true := decide_eq_true h
theorem v9e {X Y : List R6} (h : X.length + Y.length ≤ 1000) (kd : Int) {d : Int} (hd : 0 ≤ d ∧ d ≤ 5) : z0u (Xo X Y) (Wv X Y) (Wg X Y) (Yv X Y) (Yp X Y) kd d = true := by
 obtain ⟨b0, b1, b2⟩ := x6t h
 exact decide_eq_true ⟨hd, by omega, by omega, by omega, Jb _ _ _ _, Jb _ _ _ _⟩
def rsdV_0 (X : List R6) (d : Int) : Int := bif Xg X != 0 then 0 else bif decide (d < 0) then 0 else bif decide (d > 5) then 0 else dvF X [] 0 d
def rsdV_1 (X : List R6) (d : Int) : Int := bif Xg X != 0 then Xg X else bif decide (d < 0) then 2 else bif decide (d > 5) then 2 else 0
def w2o (X : List R6) (d : Int) : Bool := decide (X.length ≤ 420)
def w3e (X Y : List R6) (d : Int) : Int := bif Xg X != 0 then 0 else bif Xg Y != 0 then 0 else bif decide (d < 0) then 0 else bif decide (d > 5) then 0 else dvF X Y 1 d
def w3d (X Y : List R6) (d : Int) : Int := bif Xg X != 0 then Xg X else bif Xg Y != 0 then Xg Y else bif decide (d < 0) then 2 else bif decide (d > 5) then 2 else 0
def y8e (X Y : List R6) (d : Int) : Bool := decide (X.length ≤ 420 ∧ Y.length ≤ 420)
theorem rcv_run (X Y : List R6) (d : Int) (h : y8e X Y d = true) : ∃ N, Yj (v7i X Y d) N (x5l X Y d) = .ret [.int .i64 (w3e X Y d), .int .i64 (w3d X Y d)] := ⟨0, by
 have h : X.length ≤ 420 ∧ Y.length ≤ 420 := of_decide_eq_true h
 unfold x5l w3e w3d
 simp only [Zg, show ∀ l, Vx l = true from fun _ => rfl, cond_true, u0s (X := X) (Y := Y) (by omega)]
 cases (Xg X != 0)
 ·cases (Xg Y != 0)
  ·by_cases h1 : d < 0
   ·rw [Zt h1]; rfl
   ·by_cases h2 : d > 5
    ·rw [Zo h1, Yf h2]; rfl
    ·rw [Zo h1, Xx h2, v9e (X := X) (Y := Y) (by omega) 1 (by omega)]; rfl
  ·rfl
 ·rfl⟩
def dv6 (X Y : List R6) : Nat → Int → Int → Int
 | 0, _, s => s
 | n + 1, d, s => dv6 X Y n (d + 1) (IntKind.wrap .i64 (s + dvF X Y 2 d))
def w3j (X Y : List R6) : Int := bif Xg X != 0 then 0 else bif Xg Y != 0 then 0 else dv6 X Y 6 0 0
def w3i (X Y : List R6) : Int := bif Xg X != 0 then Xg X else bif Xg Y != 0 then Xg Y else 0
def y8g (X Y : List R6) : Bool := decide (X.length ≤ 420 ∧ Y.length ≤ 420)
theorem v3p {X Y : List R6} (h : X.length ≤ 420 ∧ Y.length ≤ 420) : ∀ (n : Nat) (d s : Int), 0 ≤ d → d + n = 6 → ∃ N, Yj (y5k X Y) N (.to (.h0 s d)) = .ret [.int .i64 (dv6 X Y n d s), .int .i64 0]
 | 0, d, s, h0, h1 => by
  refine ⟨1, ?_⟩
  rw [Zv]
  simp (disch := omega) only [y5k, Zo, cond_false, Zp, dv6]
 | n + 1, d, s, h0, h1 => by
  obtain ⟨N, hN⟩ := v3p h n (d + 1) (IntKind.wrap .i64 (s + dvF X Y 2 d)) (by omega) (by omega)
  have hw : IntKind.wrap .i64 (d + 1) = d + 1 := Zj (by omega)
  refine ⟨N + 1, ?_⟩
  rw [Zv]
  simp (disch := omega) only [y5k, Zt, cond_true, Zg, v9e (X := X) (Y := Y) (by omega) 2 (show 0 ≤ d ∧ d ≤ 5 by omega), hw]
  exact hN
theorem rco_run (X Y : List R6) (h : y8g X Y = true) : ∃ N, Yj (y5k X Y) N (x5m X Y) = .ret [.int .i64 (w3j X Y), .int .i64 (w3i X Y)] := by
 have h : X.length ≤ 420 ∧ Y.length ≤ 420 := of_decide_eq_true h
 obtain ⟨N, hN⟩ := v3p h 6 0 0 (by omega) (by omega)
 unfold x5m w3j w3i
 simp only [Zg, show ∀ l, Vx l = true from fun _ => rfl, cond_true, u0s (X := X) (Y := Y) (by omega)]
 cases (Xg X != 0)
 ·cases (Xg Y != 0)
  ·exact ⟨N, hN⟩
  ·exact ⟨0, rfl⟩
 ·exact ⟨0, rfl⟩
def anyL (f : Bool → Bool → Bool) : List Bool → List Bool → Nat → Nat → Bool
 | _, _, _, 0 => false
 | A, B, i, n + 1 => f (rd A i) (rd B i) || anyL f A B (i + 1) n
def y0b (X Y : List R6) : Nat → Int → Int
 | 0, _ => 1
 | n + 1, d => bif decide (dvF X Y 2 d > 0) then 2 else y0b X Y n (d + 1)
def oneF (X Y : List R6) : Bool := anyL (fun a b => a && !b) (Yv X Y) (Yp X Y) 0 (Yv X Y).length
def twoF (X Y : List R6) : Bool := anyL (fun a b => b && !a) (Yv X Y) (Yp X Y) 0 (Yv X Y).length
def comF (X Y : List R6) : Bool := anyL (fun a b => a && b) (Yv X Y) (Yp X Y) 0 (Yv X Y).length
def v2w (X Y : List R6) : Int := bif comF X Y then (bif oneF X Y then (bif twoF X Y then 3 else 5) else (bif twoF X Y then 4 else 6)) else y0b X Y 6 0
def z5b (X Y : List R6) : Bool := decide (X.length ≤ 420 ∧ Y.length ≤ 420)
theorem v2u {X Y : List R6} (h : X.length ≤ 420 ∧ Y.length ≤ 420) : ∀ (n : Nat) (d : Int), 0 ≤ d → d + n = 6 → ∃ N, Yj (Ko X Y) N (.to (.h1 d)) = .ret [.int .u8 (y0b X Y n d)]
 | 0, d, h0, h1 => by
  refine ⟨1, ?_⟩
  rw [Zv]
  simp (disch := omega) only [Ko, Zo, cond_false, Zp, y0b]
 | n + 1, d, h0, h1 => by
  obtain ⟨N, hN⟩ := v2u h n (d + 1) (by omega) (by omega)
  have hw : IntKind.wrap .i64 (d + 1) = d + 1 := Zj (by omega)
  have hf : v4w (Xo X Y) (Wv X Y) (Wg X Y) (Yv X Y) (Yp X Y) 2 d = dvF X Y 2 d := rfl
  refine ⟨N + 1, ?_⟩
  rw [Zv]
  simp (disch := omega) only [Ko, Zt, cond_true, Zg, v9e (X := X) (Y := Y) (by omega) 2 (show 0 ≤ d ∧ d ≤ 5 by omega), hw, hf]
  unfold y0b
  cases decide (dvF X Y 2 d > 0)
  ·exact hN
  ·exact Zp _ _ _
theorem v2v {X Y : List R6} (h : X.length ≤ 420 ∧ Y.length ≤ 420) (hn : (Yv X Y).length ≤ 400000000000) : ∀ (n i : Nat) (u v w : Bool), i + n = (Yv X Y).length → ∃ N, ∀ R, Yj (Ko X Y) (R + N) (.to (.h0 u v w (i : Int))) =
  Yj (Ko X Y) R (bif w || anyL (fun a b => a && b) (Yv X Y) (Yp X Y) i n then .ret [.int .u8 (bif u || anyL (fun a b => a && !b) (Yv X Y) (Yp X Y) i n then (bif v || anyL (fun a b => b && !a) (Yv X Y) (Yp X Y) i n then 3 else 5) else (bif v || anyL (fun a b => b && !a) (Yv X Y) (Yp X Y) i n then 4 else 6))] else .to (.h1 0))
 | 0, i, u, v, w, hi => by
  refine ⟨1, fun R => ?_⟩
  rw [Zv]
  simp (disch := omega) only [Ko, Zg, Zo, cond_false, anyL, Bool.or_false]
  cases u <;> cases v <;> cases w <;> rfl
 | n + 1, i, u, v, w, hi => by
  have hw : IntKind.wrap .i64 ((i : Int) + 1) = ((i + 1 : Nat) : Int) := Zj (by omega)
  have hB : (Yp X Y).length = (Yv X Y).length := (Jb _ _ _ _).trans (Jb _ _ _ _).symm
  obtain ⟨N, hN⟩ := v2v h hn n (i + 1) (u || (rd (Yv X Y) i && !rd (Yp X Y) i)) (v || (rd (Yp X Y) i && !rd (Yv X Y) i)) (w || (rd (Yv X Y) i && rd (Yp X Y) i)) (by omega)
  refine ⟨N + 1, fun R => ?_⟩
  have e : Ko X Y (.h0 u v w (i : Int)) = .to (.h0 (u || (rd (Yv X Y) i && !rd (Yp X Y) i)) (v || (rd (Yp X Y) i && !rd (Yv X Y) i)) (w || (rd (Yv X Y) i && rd (Yp X Y) i)) ((i + 1 : Nat) : Int)) := by
   simp (disch := omega) only [Ko, Zg, Zt, Yy, cond_true, Bool.and_true, hw, Zk]
   cases u <;> cases v <;> cases w <;> cases rd (Yv X Y) i <;> cases rd (Yp X Y) i <;> rfl
  rw [← Nat.add_assoc, Zv, e, hN R]
  simp only [anyL, Bool.or_assoc]
theorem v6t (X Y : List R6) (h : z5b X Y = true) : ∃ N, Yj (Ko X Y) N (z9e X Y) = .ret [.int .u8 (v2w X Y)] := by
 have h : X.length ≤ 420 ∧ Y.length ≤ 420 := of_decide_eq_true h
 have hn : (Yv X Y).length ≤ 400000000000 := by
  obtain ⟨b0, b1, b2⟩ := x6t (L := X) (M := Y) (by omega)
  have q := Nat.mul_le_mul (show (Wv X Y).length - 1 ≤ 2003 by omega) (show (Wg X Y).length - 1 ≤ 2003 by omega)
  have q2 := Nat.mul_le_mul (show (Xo X Y).length - 1 ≤ 2003 by omega) q
  rw [show (Yv X Y).length = _ from Jb _ _ _ _]; omega
 obtain ⟨N1, h1⟩ := v2u h 6 0 (by omega) (by omega)
 obtain ⟨N0, h0⟩ := v2v h hn (Yv X Y).length 0 false false false (Nat.zero_add _)
 refine ⟨N1 + N0, ?_⟩
 unfold z9e
 simp only [Zg, cond_true, u0s (X := X) (Y := Y) (by omega)]
 rw [show (0 : Int) = ((0 : Nat) : Int) from rfl, h0 N1]
 unfold v2w comF oneF twoF
 simp only [Bool.false_or]
 cases anyL (fun a b => a && b) (Yv X Y) (Yp X Y) 0 (Yv X Y).length
 ·rw [cond_false, cond_false]; exact h1
 ·rw [cond_true, cond_true]; exact Zp _ _ _
def fRsd : List AVal → Option (AVal × Bool)
 | [a0, .int .i64 x1] => match asL R6 a0 with
  | some (L0, g0, n0) => some (.tup [.int .i64 (rsdV_0 L0 x1), .int .i64 (rsdV_1 L0 x1)], isT R6 n0 g0 && (w2o L0 x1))
  | _ => none
 | _ => none
def fRcv : List AVal → Option (AVal × Bool)
 | [a0, a1, .int .i64 x2] => match asL R6 a0, asL R6 a1 with
  | some (L0, g0, n0), some (L1, g1, n1) => some (.tup [.int .i64 (w3e L0 L1 x2), .int .i64 (w3d L0 L1 x2)], isT R6 n0 g0 && (isT R6 n1 g1 && (y8e L0 L1 x2)))
  | _, _ => none
 | _ => none
def fRco : List AVal → Option (AVal × Bool)
 | [a0, a1] => match asL R6 a0, asL R6 a1 with
  | some (L0, g0, n0), some (L1, g1, n1) => some (.tup [.int .i64 (w3j L0 L1), .int .i64 (w3i L0 L1)], isT R6 n0 g0 && (isT R6 n1 g1 && (y8g L0 L1)))
  | _, _ => none
 | _ => none
def fRrl : List AVal → Option (AVal × Bool)
 | [a0, a1] => match asL R6 a0, asL R6 a1 with
  | some (L0, g0, n0), some (L1, g1, n1) => some (.int .u8 (v2w L0 L1), isT R6 n0 g0 && (isT R6 n1 g1 && (z5b L0 L1)))
  | _, _ => none
 | _ => none
theorem v9l {S : Specs} (hS : Zu prog S) : Zu prog (S.with nRRel fRrl) := by
 refine z2m hS (by kernel_rfl) fun args v h => ?_
 unfold fRrl at h
 split at h
 ·rename_i a0 a1
  split at h
  ·rename_i L0 g0 n0 L1 g1 n1 e0 e1
   simp only [Option.some.injEq, Prod.mk.injEq, Bool.and_eq_true] at h
   obtain ⟨rfl, ho0, ho1, hw⟩ := h
   obtain ⟨N, hN⟩ := v6t L0 L1 hw
   exact ⟨_, _, (.cons (Yx e0 ho0) (.cons (Yx e1 ho1) .nil)), rfl, w8c L0 L1 N _ hN, 3, rfl⟩
  ·cases h
 ·cases h
def Re : Specs := (Rd.with nRRel fRrl)
theorem y2s : Zu prog Re := (v9l Uc)
end Go.Am
namespace Go.Am
open Go.Proofs.Tryz
open Go.Proofs
inductive rneS where
 | h0 (v6 : Int)
 | h1 (v7 : List Int) (v8 : Int)
def rneC (l0 : List (List R6)) (x1 : Int) : rneS → Cfg
 | .h0 v6 => ⟨⟨63, 0, true⟩, none, (Yw prog 30 [1, 1, 0, 1, 0, 0] 0), none, (Zy prog 16), ⟨Xp [(0, (.dat l0.length (Zz l0))), (1, (ii x1)), (6, (ii v6))], Ux [] 0, 0, [], true⟩, [], .leaf⟩
 | .h1 v7 v8 => ⟨⟨63, 0, true⟩, none, (Yw prog 30 [1, 1, 1, 1, 1, 0, 1, 0, 0] 0), none, (Zy prog 16), ⟨Xp [(0, (.dat l0.length (Zz l0))), (1, (ii x1)), (7, (.sla 0 1 0 v7.length (.un 1))), (8, (ii v8))], Ux [⟨rows v7.length (Zz v7), 3, some ⟨1, v7.length, (Zz v7)⟩⟩] 0, 1, [], true⟩, [], .leaf⟩
def rneN0 : List (Option (List Nat)) := [some [0, 1, 6]]
def rneM0 : List (Option (List Nat)) := []
def w8g : List (Option (List Nat)) := [some [0, 1, 7, 8]]
def w8h : List (Option (List Nat)) := []
def Uo (l0 : List (List R6)) (x1 : Int) : rneS → Wu rneS
 | .h0 v6 => (bif (decide (v6 < (l0.length : Int))) then (bif ((decide (0 ≤ v6 ∧ v6 < (l0.length : Int))) && true) then (bif (Vx (cvT (rd l0 v6.toNat))) then (bif ((Xg (cvT (rd l0 v6.toNat))) != 0) then (.ret [.nils, (.int .i64 (Xg (cvT (rd l0 v6.toNat))))]) else (.to (.h0 (IntKind.wrap .i64 (v6 + 1))))) else .stuck) else .stuck) else (bif (decide (x1 < 0)) then (.ret [.nils, (.int .i64 6)]) else (bif (decide (x1 ≥ (l0.length : Int))) then (.ret [.nils, (.int .i64 6)]) else (.to (.h1 ([] : List Int) 0)))))
 | .h1 v7 v8 => (bif (decide (v8 < (l0.length : Int))) then (bif (v8 != x1) then (bif ((decide (0 ≤ x1 ∧ x1 < (l0.length : Int))) && true) then (bif ((decide (0 ≤ v8 ∧ v8 < (l0.length : Int))) && true) then (bif (z5b (cvT (rd l0 x1.toNat)) (cvT (rd l0 v8.toNat))) then (bif ((v2w (cvT (rd l0 x1.toNat)) (cvT (rd l0 v8.toNat))) != 1) then (bif (Nat.beq 1 1 && ((decide (0 + v7.length = v7.length)) && decide ((v7.length + 1 + 1) * (8 + 1) ≤ Uq))) then (.to (.h1 (v7 ++ [v8]) (IntKind.wrap .i64 (v8 + 1)))) else .stuck) else (.to (.h1 v7 (IntKind.wrap .i64 (v8 + 1))))) else .stuck) else .stuck) else .stuck) else (.to (.h1 v7 (IntKind.wrap .i64 (v8 + 1))))) else (.ret [(.dat v7.length (Zz v7)), (.int .i64 0)]))
def z9h (l0 : List (List R6)) (x1 : Int) : Wu rneS := (bif (decide ((l0.length : Int) > 60)) then (.ret [.nils, (.int .i64 4)]) else (.to (.h0 0)))
theorem x8j (l0 : List (List R6)) (x1 : Int) : ∀ s, Wm prog (Zy prog 30) (rneC l0 x1) (rneC l0 x1 s) (Uo l0 x1 s)
 | .h0 v6 => (lb (fun k0 => (lo fun aG => (lo fun aT => (lb (fun k1 => (lr 63 30 [1, 1, 0, 1, 0, 0, 1, 0, 0, 1, 0, 0] 1 16 [(4, .nils), (5, (ii (Xg (cvT (rd l0 (tn v6))))))] (sl y2s 32 [] ⟨[], [], [some [4, 5]], []⟩ ⟨[], [], []⟩ [true, true] (pp (pp (xI R6 (rd l0 (tn v6)).length (Zz (rd l0 (tn v6)))) (xw aT)) (ww aG (tt k1 (pp (pp (xI R6 (rd l0 (tn v6)).length (Zz (rd l0 (tn v6)))) (xw aT)) (ww aG (tt k0 nn))))))))) (fun k1 => (sl y2s 30 [] ⟨[], [], rneN0, rneM0⟩ ⟨[], [], []⟩ [true, false] (tt k1 (pp (pp (xI R6 (rd l0 (tn v6)).length (Zz (rd l0 (tn v6)))) (xw aT)) (ww aG (tt k0 nn)))))))))) (fun k0 => (lb (fun k1 => (lr 63 30 [1, 1, 1, 0, 1, 0, 0] 1 16 [(4, .nils), (5, (ii 6))] (sl y2s 28 [] ⟨[], [], [some [4, 5]], []⟩ ⟨[], [], []⟩ [false, true, true, true, true, true] (tt k1 (tt k0 nn))))) (fun k1 => (lb (fun k2 => (lr 63 30 [1, 1, 1, 0, 1, 0, 0] 1 16 [(4, .nils), (5, (ii 6))] (sl y2s 28 [] ⟨[], [], [some [4, 5]], []⟩ ⟨[], [], []⟩ [false, false, false, false, false, true] (tt k2 (tt k1 (tt k0 nn)))))) (fun k2 => (sl y2s 35 [(3, 1, Zz ([] : List Int))] ⟨[0], [], w8g, w8h⟩ ⟨[(7, .grow 0 1)], [], []⟩ [false, false, false, false, false, false] (pp (fl ([] : List Int) nn) (tt k2 (tt k1 (tt k0 nn)))))))))))
 | .h1 v7 v8 => (lb (fun k0 => (lb (fun k1 => (lo fun aU => (lo fun cD => (lo fun cO => (lb (fun k2 => (lo fun o0 => (sl y2s 29 [] ⟨[2], [], w8g, w8h⟩ ⟨[(7, .len (v7 ++ [v8]).length)], [.rowed 1 (v7 ++ [v8]).length (Zz (v7 ++ [v8]))], []⟩ (trs 12 []) (pp (xL (v7.length + 1) (v7 ++ [v8]).length) (pp (xL (v7.length + 1) (v7 ++ [v8]).length) (pp (xS (v7.length + 1) (Za (Zz v7) 0 v7.length 1 [(ii v8)]) (Zz (v7 ++ [v8]))) (pp (pp (xF (Za (Zz v7) 0 v7.length 1 [(ii v8)])) nn) (ww o0 (tt k2 (pp (pp (xI R6 (rd l0 (tn x1)).length (Zz (rd l0 (tn x1)))) (pp (xI R6 (rd l0 (tn v8)).length (Zz (rd l0 (tn v8)))) (xw cO))) (ww cD (ww aU (tt k1 (tt k0 nn)))))))))))))) (fun k2 => (sl y2s 23 [] ⟨[0], [], w8g, w8h⟩ ⟨[], [], []⟩ (trs 11 [false]) (pp (fl v7 nn) (tt k2 (pp (pp (xI R6 (rd l0 (tn x1)).length (Zz (rd l0 (tn x1)))) (pp (xI R6 (rd l0 (tn v8)).length (Zz (rd l0 (tn v8)))) (xw cO))) (ww cD (ww aU (tt k1 (tt k0 nn)))))))))))))) (fun k1 => (sl y2s 23 [] ⟨[0], [], w8g, w8h⟩ ⟨[], [], []⟩ [true, false, false, false, false, false, false, false, false, false, false, false] (pp (fl v7 nn) (tt k1 (tt k0 nn))))))) (fun k0 => (lr 63 3 [1, 1, 1, 1, 1, 1, 0] 1 16 [(4, (.dat v7.length (Zz v7))), (5, (ii 0))] (sl y2s 16 [] ⟨[], [0], [some [4, 5]], []⟩ ⟨[(4, .frz v7.length v7.length (Zz v7) (Zz v7))], [], []⟩ [false] (pp (xZ (z6s 1 1 0 v7.length v7.length (Zz v7)) v7.length (Zz v7)) (pp (xL v7.length v7.length) (pp (xS v7.length (Zz v7) (Zz v7)) (pp (fl v7 nn) (tt k0 nn)))))))))
theorem x1e (l0 : List (List R6)) (x1 : Int) : Wm prog (Zy prog 30) (rneC l0 x1) (Zd prog 30 [(.dat l0.length (Zz l0)), (.int .i64 x1)] true []) (z9h l0 x1) := (lb (fun k0 => (lr 63 30 [1, 0, 1, 0, 0] 1 16 [(4, .nils), (5, (ii 4))] (sl y2s 18 [] ⟨[], [], [some [4, 5]], []⟩ ⟨[], [], []⟩ [true] (tt k0 nn)))) (fun k0 => (sl y2s 21 [] ⟨[], [], rneN0, rneM0⟩ ⟨[], [], []⟩ [false] (tt k0 nn))))
theorem w8f (l0 : List (List R6)) (x1 : Int) (n : Nat) (vs : List AVal) (h : Yj (Uo l0 x1) n (z9h l0 x1) = .ret vs) : Kv prog (Zy prog 30) (Zd prog 30 [(.dat l0.length (Zz l0)), (.int .i64 x1)] true []) vs := by
 have := Zn (x8j l0 x1) n _ (x1e l0 x1)
 rwa [h] at this
inductive neaS where
 | h0 (v8 : Int)
 | h1 (v7 : List Int) (v27 : Int)
def neaC (l0 : List (List R6)) (x1 : Int) : neaS → Cfg
 | .h0 v8 => ⟨⟨18, 0, true⟩, none, (Yw prog 60 [1, 0, 1, 0, 0] 0), none, (Zy prog 15), ⟨Xp [(6, (.dat l0.length (Zz l0))), (7, (ii (l0.length : Int))), (8, (ii v8))], Ux [] 0, 0, [], true⟩, [⟨⟨51, 0, true⟩, (z2e prog 29 [1, 1, 0, 0] 1), (Yw prog 29 [1, 1, 0, 0] 1), none, (Zy prog 16), Xp [(0, (.dat l0.length (Zz l0))), (1, (ii x1)), (12, (.dat l0.length (Zz l0)))]⟩], .leaf⟩
 | .h1 v7 v27 => ⟨⟨51, 0, true⟩, none, (Yw prog 29 [1, 1, 1, 1, 1, 0, 1, 0, 0] 0), none, (Zy prog 16), ⟨Xp [(0, (.dat l0.length (Zz l0))), (1, (ii x1)), (7, (.sla 0 1 0 v7.length (.un 1))), (26, (ii (l0.length : Int))), (27, (ii v27))], Ux [⟨rows v7.length (Zz v7), 3, some ⟨1, v7.length, (Zz v7)⟩⟩] 0, 1, [], true⟩, [], .leaf⟩
def neaN0 : List (Option (List Nat)) := [some [6, 7, 8], some [0, 1, 12]]
def neaM0 : List (Option (List Nat)) := []
def w9k : List (Option (List Nat)) := [some [0, 1, 7, 26, 27]]
def w9l : List (Option (List Nat)) := []
def Ut (l0 : List (List R6)) (x1 : Int) : neaS → Wu neaS
 | .h0 v8 => (bif (decide (v8 < (l0.length : Int))) then (bif ((decide (0 ≤ v8 ∧ v8 < (l0.length : Int))) && true) then (bif (z3y (cvT (rd l0 v8.toNat))) then (bif ((Xn (cvT (rd l0 v8.toNat))) != 0) then (.ret [.nils, (.int .i64 (Xn (cvT (rd l0 v8.toNat))))]) else (.to (.h0 (IntKind.wrap .i64 (v8 + 1))))) else .stuck) else .stuck) else (bif (decide (x1 < 0)) then (.ret [.nils, (.int .i64 6)]) else (bif (decide (x1 ≥ (l0.length : Int))) then (.ret [.nils, (.int .i64 6)]) else (.to (.h1 ([] : List Int) 0)))))
 | .h1 v7 v27 => (bif (decide (v27 < (l0.length : Int))) then (bif (v27 != x1) then (bif ((decide (0 ≤ x1 ∧ x1 < (l0.length : Int))) && true) then (bif ((decide (0 ≤ v27 ∧ v27 < (l0.length : Int))) && true) then (bif (z5n (cvT (rd l0 x1.toNat)) (cvT (rd l0 v27.toNat))) then (bif ((v3t (cvT (rd l0 x1.toNat)) (cvT (rd l0 v27.toNat))) != 1) then (bif (Nat.beq 1 1 && ((decide (0 + v7.length = v7.length)) && decide ((v7.length + 1 + 1) * (8 + 1) ≤ Uq))) then (.to (.h1 (v7 ++ [v27]) (IntKind.wrap .i64 (v27 + 1)))) else .stuck) else (.to (.h1 v7 (IntKind.wrap .i64 (v27 + 1))))) else .stuck) else .stuck) else .stuck) else (.to (.h1 v7 (IntKind.wrap .i64 (v27 + 1))))) else (.ret [(.dat v7.length (Zz v7)), (.int .i64 0)]))
def z9m (l0 : List (List R6)) (x1 : Int) : Wu neaS := (bif (decide ((l0.length : Int) > 60)) then (.ret [.nils, (.int .i64 4)]) else (.to (.h0 0)))
theorem x8v (l0 : List (List R6)) (x1 : Int) : ∀ s, Wm prog (Zy prog 29) (neaC l0 x1) (neaC l0 x1 s) (Ut l0 x1 s)
 | .h0 v8 => (lb (fun k0 => (lo fun aG => (lo fun aT => (lb (fun k1 => (lr 51 29 [1, 1, 0, 1, 1, 0, 0] 1 16 [(4, .nils), (5, (ii (Xn (cvT (rd l0 (tn v8))))))] (sl z6o 47 [] ⟨[], [], [some [4, 5]], []⟩ ⟨[], [], []⟩ (trs 3 []) (tt k1 (tt k1 (pp (pp (xI R6 (rd l0 (tn v8)).length (Zz (rd l0 (tn v8)))) (xw aT)) (ww aG (tt k0 nn)))))))) (fun k1 => (sl z6o 34 [] ⟨[], [], neaN0, neaM0⟩ ⟨[], [], []⟩ [true, false] (tt k1 (pp (pp (xI R6 (rd l0 (tn v8)).length (Zz (rd l0 (tn v8)))) (xw aT)) (ww aG (tt k0 nn)))))))))) (fun k0 => (lb (fun k1 => (lr 51 29 [1, 1, 1, 0, 1, 0, 0] 1 16 [(4, .nils), (5, (ii 6))] (sl z6o 39 [] ⟨[], [], [some [4, 5]], []⟩ ⟨[], [], []⟩ [false, false, true, true, true, true, true] (tt k1 (tt k0 nn))))) (fun k1 => (lb (fun k2 => (lr 51 29 [1, 1, 1, 0, 1, 0, 0] 1 16 [(4, .nils), (5, (ii 6))] (sl z6o 39 [] ⟨[], [], [some [4, 5]], []⟩ ⟨[], [], []⟩ [false, false, false, false, false, false, true] (tt k2 (tt k1 (tt k0 nn)))))) (fun k2 => (sl z6o 48 [(3, 1, Zz ([] : List Int))] ⟨[0], [], w9k, w9l⟩ ⟨[(7, .grow 0 1)], [], []⟩ [false, false, false, false, false, false, false] (pp (fl ([] : List Int) nn) (tt k2 (tt k1 (tt k0 nn)))))))))))
 | .h1 v7 v27 => (lb (fun k0 => (lb (fun k1 => (lo fun aU => (lo fun cD => (lo fun cO => (lb (fun k2 => (lo fun o0 => (sl z6o 30 [] ⟨[2], [], w9k, w9l⟩ ⟨[(7, .len (v7 ++ [v27]).length)], [.rowed 1 (v7 ++ [v27]).length (Zz (v7 ++ [v27]))], []⟩ (trs 12 []) (pp (xL (v7.length + 1) (v7 ++ [v27]).length) (pp (xL (v7.length + 1) (v7 ++ [v27]).length) (pp (xS (v7.length + 1) (Za (Zz v7) 0 v7.length 1 [(ii v27)]) (Zz (v7 ++ [v27]))) (pp (pp (xF (Za (Zz v7) 0 v7.length 1 [(ii v27)])) nn) (ww o0 (tt k2 (pp (pp (xI R6 (rd l0 (tn x1)).length (Zz (rd l0 (tn x1)))) (pp (xI R6 (rd l0 (tn v27)).length (Zz (rd l0 (tn v27)))) (xw cO))) (ww cD (ww aU (tt k1 (tt k0 nn)))))))))))))) (fun k2 => (sl z6o 24 [] ⟨[0], [], w9k, w9l⟩ ⟨[], [], []⟩ (trs 11 [false]) (pp (fl v7 nn) (tt k2 (pp (pp (xI R6 (rd l0 (tn x1)).length (Zz (rd l0 (tn x1)))) (pp (xI R6 (rd l0 (tn v27)).length (Zz (rd l0 (tn v27)))) (xw cO))) (ww cD (ww aU (tt k1 (tt k0 nn)))))))))))))) (fun k1 => (sl z6o 24 [] ⟨[0], [], w9k, w9l⟩ ⟨[], [], []⟩ [true, false, false, false, false, false, false, false, false, false, false, false] (pp (fl v7 nn) (tt k1 (tt k0 nn))))))) (fun k0 => (lr 51 3 [1, 1, 1, 1, 1, 1, 0] 1 16 [(4, (.dat v7.length (Zz v7))), (5, (ii 0))] (sl z6o 13 [] ⟨[], [0], [some [4, 5]], []⟩ ⟨[(4, .frz v7.length v7.length (Zz v7) (Zz v7))], [], []⟩ [false] (pp (xZ (z6s 1 1 0 v7.length v7.length (Zz v7)) v7.length (Zz v7)) (pp (xL v7.length v7.length) (pp (xS v7.length (Zz v7) (Zz v7)) (pp (fl v7 nn) (tt k0 nn)))))))))
theorem x2b (l0 : List (List R6)) (x1 : Int) : Wm prog (Zy prog 29) (neaC l0 x1) (Zd prog 29 [(.dat l0.length (Zz l0)), (.int .i64 x1)] true []) (z9m l0 x1) := (lb (fun k0 => (lr 51 29 [1, 0, 1, 0, 0] 1 16 [(4, .nils), (5, (ii 4))] (sl z6o 18 [] ⟨[], [], [some [4, 5]], []⟩ ⟨[], [], []⟩ [true] (tt k0 nn)))) (fun k0 => (sl z6o 32 [] ⟨[], [], neaN0, neaM0⟩ ⟨[], [], []⟩ [false] (tt k0 nn))))
theorem w9j (l0 : List (List R6)) (x1 : Int) (n : Nat) (vs : List AVal) (h : Yj (Ut l0 x1) n (z9m l0 x1) = .ret vs) : Kv prog (Zy prog 29) (Zd prog 29 [(.dat l0.length (Zz l0)), (.int .i64 x1)] true []) vs := by
 have := Zn (x8v l0 x1) n _ (x2b l0 x1)
 rwa [h] at this
end Go.Am
namespace Go.Am
open Go.Proofs.Tryz
open Go.Proofs
inductive grtS where
def grtC (l0 : List R6) : grtS → Cfg
 := nofun
def x2v (l0 : List R6) : grtS → Wu grtS
 := nofun
def z9t (l0 : List R6) : Wu grtS := (bif (decide ((l0.length : Int) > 8)) then (bif (decide ((l0.length : Int) ≤ 400)) then (.ret [(.bool true)]) else (.ret [(.bool (decide ((l0.length : Int) > 420)))])) else (.ret [(.bool (decide ((l0.length : Int) > 420)))]))
theorem x9k (l0 : List R6) : ∀ s, Wm prog (Zy prog 20) (grtC l0) (grtC l0 s) (x2v l0 s)
 := nofun
theorem x2w (l0 : List R6) : Wm prog (Zy prog 20) (grtC l0) (Zd prog 20 [(.dat l0.length (Zz l0))] true []) (z9t l0) := (lb (fun k0 => (lb (fun k1 => (lr 16 3 [1, 1, 1, 1, 1, 1, 0] 1 15 [(2, (.bool true))] (sl z6o 21 [] ⟨[], [], [some [2]], []⟩ ⟨[], [], []⟩ (trs 6 []) (tt k1 (tt k0 nn))))) (fun k1 => (lr 16 3 [1, 1, 1, 1, 1, 1, 0] 1 15 [(2, (.bool (decide ((l0.length : Int) > 420))))] (sl z6o 21 [] ⟨[], [], [some [2]], []⟩ ⟨[], [], []⟩ (trs 3 [false, false, false]) (tt k1 (tt k0 nn))))))) (fun k0 => (lr 16 3 [1, 1, 1, 1, 1, 1, 0] 1 15 [(2, (.bool (decide ((l0.length : Int) > 420))))] (sl z6o 21 [] ⟨[], [], [some [2]], []⟩ ⟨[], [], []⟩ [false, false, false, false, false, false] (tt k0 nn)))))
theorem v0i (l0 : List R6) (n : Nat) (vs : List AVal) (h : Yj (x2v l0) n (z9t l0) = .ret vs) : Kv prog (Zy prog 20) (Zd prog 20 [(.dat l0.length (Zz l0))] true []) vs := by
 have := Zn (x9k l0) n _ (x2w l0)
 rwa [h] at this
end Go.Am
namespace Go.Am
open Go.Proofs.Tryz
open Go.Proofs
def ocoV_0 (X Y : List R6) : Int := bif Xn X != 0 then 0 else bif Xn Y != 0 then 0 else w7d X Y
def ocoV_1 (X Y : List R6) : Int := bif Xn X != 0 then Xn X else bif Xn Y != 0 then Xn Y else 0
def w3z (X Y : List R6) : Bool := decide (X.length ≤ 100 ∨ 400 < X.length) && decide (Y.length ≤ 100 ∨ 400 < Y.length)
theorem w2e {X : List R6} (h : 400 < X.length) : (Xn X != 0) = true := by
 unfold Xn; rw [decide_eq_true h]; rfl
theorem w2c {X : List R6} (h : decide (X.length ≤ 100 ∨ 400 < X.length) = true) (h0 : (Xn X != 0) = false) : X.length ≤ 100 := by
 rcases of_decide_eq_true h with h | h
 ·exact h
 ·rw [w2e h] at h0; cases h0
def osiV_0 (X : List R6) (d : Int) : Int := bif Xn X != 0 then 0 else bif decide (d < 0) then 0 else bif decide (d > 5) then 0 else IntKind.wrap .i64 (z2a X - prV X X d)
def osiV_1 (X : List R6) (d : Int) : Int := bif Xn X != 0 then Xn X else bif decide (d < 0) then 2 else bif decide (d > 5) then 2 else 0
def w3t (X : List R6) (d : Int) : Bool := decide (X.length ≤ 100 ∨ 400 < X.length)
def grtV (X : List R6) : Bool := decide (8 < X.length ∧ X.length ≤ 400 ∨ 420 < X.length)
def Qw (X : List R6) : Bool := true
theorem v8t (X : List R6) (h : Qw X = true) : ∃ N, Yj (x2v X) N (z9t X) = .ret [.bool (grtV X)] := by
 refine ⟨0, ?_⟩
 unfold z9t grtV
 by_cases h1 : (X.length : Int) > 8
 ·by_cases h2 : (X.length : Int) ≤ 400
  ·rw [decide_eq_true h1, decide_eq_true h2, decide_eq_true (show 8 < X.length ∧ X.length ≤ 400 ∨ 420 < X.length by omega)]; rfl
  ·rw [decide_eq_true h1, decide_eq_false h2]
   by_cases h3 : (X.length : Int) > 420
   ·rw [decide_eq_true h3, decide_eq_true (show 8 < X.length ∧ X.length ≤ 400 ∨ 420 < X.length by omega)]; rfl
   ·rw [decide_eq_false h3, decide_eq_false (show ¬ (8 < X.length ∧ X.length ≤ 400 ∨ 420 < X.length) by omega)]; rfl
 ·rw [decide_eq_false h1, decide_eq_false (show ¬ (X.length : Int) > 420 by omega), decide_eq_false (show ¬ (8 < X.length ∧ X.length ≤ 400 ∨ 420 < X.length) by omega)]; rfl
def fOco : List AVal → Option (AVal × Bool)
 | [a0, a1] => match asL R6 a0, asL R6 a1 with
  | some (L0, g0, n0), some (L1, g1, n1) => some (.tup [.int .i64 (ocoV_0 L0 L1), .int .i64 (ocoV_1 L0 L1)], isT R6 n0 g0 && (isT R6 n1 g1 && (w3z L0 L1)))
  | _, _ => none
 | _ => none
def fOsi : List AVal → Option (AVal × Bool)
 | [a0, .int .i64 x1] => match asL R6 a0 with
  | some (L0, g0, n0) => some (.tup [.int .i64 (osiV_0 L0 x1), .int .i64 (osiV_1 L0 x1)], isT R6 n0 g0 && (w3t L0 x1))
  | _ => none
 | _ => none
def fGrt : List AVal → Option (AVal × Bool)
 | [a0] => match asL R6 a0 with
  | some (L0, g0, n0) => some (.bool (grtV L0), isT R6 n0 g0 && (Qw L0))
  | _ => none
 | _ => none
theorem v9w {S : Specs} (hS : Zu prog S) : Zu prog (S.with x5z fGrt) := by
 refine z2m hS (by kernel_rfl) fun args v h => ?_
 unfold fGrt at h
 split at h
 ·rename_i a0
  split at h
  ·rename_i L0 g0 n0 e0
   simp only [Option.some.injEq, Prod.mk.injEq, Bool.and_eq_true] at h
   obtain ⟨rfl, ho0, hw⟩ := h
   obtain ⟨N, hN⟩ := v8t L0 hw
   exact ⟨_, _, (.cons (Yx e0 ho0) .nil), rfl, v0i L0 N _ hN, 3, rfl⟩
  ·cases h
 ·cases h
end Go.Am
namespace Go.Am
open Go.Proofs
theorem x6y (f : Bool → Bool → Bool) (A B : List Bool) : ∀ (n i : Nat), anyL f A B i n = true ↔ ∃ j, i ≤ j ∧ j < i + n ∧ f (rd A j) (rd B j) = true
 | 0, i => by
  constructor
  ·intro h; cases h
  ·rintro ⟨j, h1, h2, _⟩; omega
 | n + 1, i => by
  unfold anyL
  rw [Bool.or_eq_true, x6y f A B n (i + 1)]
  constructor
  ·rintro (h | ⟨j, h1, h2, h3⟩)
   ·exact ⟨i, Nat.le_refl _, by omega, h⟩
   ·exact ⟨j, by omega, by omega, h3⟩
  ·rintro ⟨j, h1, h2, h3⟩
   by_cases e : j = i
   ·subst e; exact .inl h3
   ·exact .inr ⟨j, by omega, by omega, h3⟩
theorem y5o {γ : Type} {G : Int → γ} : ∀ (l : List Int) (a : Int), PC G a l → ∀ t, a ≤ t → t < hiC a l → ∃ i, i < l.length ∧ G t = G (rd (a :: l) i)
 | [], a, _, t, h1, h2 => by
  have : hiC a [] = a := rfl
  omega
 | b :: l, a, h, t, h1, h2 => by
  by_cases hb : t < b
  ·exact ⟨0, by simp, h.1 t h1 hb⟩
  ·obtain ⟨i, e1, e2⟩ := y5o l b h.2 t (by omega) h2
   exact ⟨i + 1, by simpa using e1, by rw [Qo]; exact e2⟩
theorem y2e {X Y : List R6} (hr : Rng (X ++ Y)) (f : Bool → Bool → Bool) (hf : f false false = false) : anyL f (Yv X Y) (Yp X Y) 0 (Yv X Y).length = true ↔ ∃ x y z, f (Xr X x y z) (Xr Y x y z) = true := by
 obtain ⟨a, l, b, m, c, n, e1, e2, e3, h⟩ := w5s hr
 rw [x6y]
 unfold Yv Yp
 rw [e1, e2, e3]
 have dA := Jb X (a :: l) (b :: m) (c :: n)
 constructor
 ·rintro ⟨q, _, h2, h3⟩
  rw [Nat.zero_add, dA] at h2
  have hx : (a :: l).length - 1 = l.length := rfl
  have hy : (b :: m).length - 1 = m.length := rfl
  have hz : (c :: n).length - 1 = n.length := rfl
  rw [hx, hy, hz] at h2
  have p1 : 0 < m.length * n.length := Nat.pos_of_ne_zero fun e => by rw [e, Nat.mul_zero] at h2; omega
  have p2 : 0 < n.length := Nat.pos_of_ne_zero fun e => by rw [e, Nat.mul_zero] at p1; omega
  have hi : q / (m.length * n.length) < l.length := Nat.div_lt_of_lt_mul (by rw [Nat.mul_comm]; exact h2)
  have hr0 : q % (m.length * n.length) < m.length * n.length := Nat.mod_lt _ p1
  have hj : q % (m.length * n.length) / n.length < m.length := Nat.div_lt_of_lt_mul (by rw [Nat.mul_comm n.length]; exact hr0)
  have hk : q % (m.length * n.length) % n.length < n.length := Nat.mod_lt _ p2
  have eq : q / (m.length * n.length) * (m.length * n.length) + (q % (m.length * n.length) / n.length * n.length + q % (m.length * n.length) % n.length) = q := by
   rw [Nat.mul_comm (q % (m.length * n.length) / n.length), Nat.div_add_mod, Nat.mul_comm, Nat.div_add_mod]
  have r1 := fun K => y0p K (a :: l) (b :: m) (c :: n) (i := q / (m.length * n.length)) (j := q % (m.length * n.length) / n.length) (k := q % (m.length * n.length) % n.length) (by simp only [List.length_cons]; omega) (by simp only [List.length_cons]; omega) (by simp only [List.length_cons]; omega)
  rw [hy, hz, eq] at r1
  rw [r1, r1] at h3
  exact ⟨_, _, _, h3⟩
 ·rintro ⟨x, y, z, h3⟩
  have hne : G2 X Y x y z ≠ (false, false) := fun e => by
   unfold G2 at e
   injection e with g1 g2
   rw [g1, g2, hf] at h3; cases h3
  have bx : a ≤ x ∧ x < hiC a l := Classical.byContradiction fun k => hne (h.ox x y z (by omega))
  have b2 : b ≤ y ∧ y < hiC b m := Classical.byContradiction fun k => hne (h.oy x y z (by omega))
  have bz : c ≤ z ∧ z < hiC c n := Classical.byContradiction fun k => hne (h.oz x y z (by omega))
  obtain ⟨i, hi, f1⟩ := y5o l a (h.px y z) x bx.1 bx.2
  obtain ⟨j, hj, f2⟩ := y5o m b (h.py (rd (a :: l) i) z) y b2.1 b2.2
  obtain ⟨k, hk, f3⟩ := y5o n c (h.pz (rd (a :: l) i) (rd (b :: m) j)) z bz.1 bz.2
  have f4 := f1.trans (f2.trans f3)
  unfold G2 at f4
  injection f4 with g1 g2
  refine ⟨i * (((b :: m).length - 1) * ((c :: n).length - 1)) + (j * ((c :: n).length - 1) + k), Nat.zero_le _, ?_, ?_⟩
  ·rw [Nat.zero_add, dA]
   have m1 := Nat.mul_le_mul_right ((c :: n).length - 1) (show j + 1 ≤ (b :: m).length - 1 from hj)
   have m2 := Nat.mul_le_mul_right (((b :: m).length - 1) * ((c :: n).length - 1)) (show i + 1 ≤ (a :: l).length - 1 from hi)
   have hk : k < (c :: n).length - 1 := hk
   rw [Nat.succ_mul] at m1 m2
   omega
  ·rw [y0p X _ _ _ (i := i) (j := j) (k := k) (by simp only [List.length_cons]; omega) (by simp only [List.length_cons]; omega) (by simp only [List.length_cons]; omega), y0p Y _ _ _ (i := i) (j := j) (k := k) (by simp only [List.length_cons]; omega) (by simp only [List.length_cons]; omega) (by simp only [List.length_cons]; omega), ← g1, ← g2]
   exact h3
theorem v1p {b : Bool} (h : ¬ b = true) : b = false := by cases b <;> simp_all
section
variable {X Y : List R6} (hX : Xn X = 0) (hY : Xn Y = 0) (lX : X.length ≤ 100) (lY : Y.length ≤ 100)
include hX hY
theorem v1k : comF X Y = true ↔ z2a (Yq X Y) > 0 := by
 rw [y4x hX hY]
 have h0 := y2r X Y
 have := u1n (Sol.of hX) (Sol.of hY)
 unfold comF
 rw [y2e ((Sol.of hX).rng (Sol.of hY)) _ rfl]
 constructor
 ·rintro ⟨x, y, z, h⟩
  rw [Bool.and_eq_true] at h
  have : S2 X Y ≠ 0 := fun e => this.1 e x y z ⟨Wi.1 h.1, Wi.1 h.2⟩
  omega
 ·intro h
  refine Classical.byContradiction fun hn => ?_
  have : S2 X Y = 0 := this.2 fun x y z ⟨h1, h2⟩ => hn ⟨x, y, z, by rw [Bool.and_eq_true]; exact ⟨Wi.2 h1, Wi.2 h2⟩⟩
  omega
theorem w9e : oneF X Y = false ↔ z2a (Yq X Y) = z2a X := by
 rw [y4x hX hY, v5r (Sol.of hX) (Sol.of hY)]
 unfold oneF
 constructor
 ·intro h x y z hx
  refine Classical.byContradiction fun hn => ?_
  have := (y2e ((Sol.of hX).rng (Sol.of hY)) (fun a b => a && !b) rfl).2 ⟨x, y, z, by
   rw [Wi.2 hx, v1p fun k => hn (Wi.1 k)]; rfl⟩
  rw [h] at this; cases this
 ·intro h
  refine v1p fun hn => ?_
  obtain ⟨x, y, z, hp⟩ := (y2e ((Sol.of hX).rng (Sol.of hY)) (fun a b => a && !b) rfl).1 hn
  rw [Bool.and_eq_true] at hp
  have := Wi.2 (h x y z (Wi.1 hp.1))
  rw [this] at hp; exact absurd hp.2 (by simp)
theorem w7j : twoF X Y = false ↔ z2a (Yq X Y) = z2a Y := by
 rw [y4x hX hY, u1o, v5r (Sol.of hY) (Sol.of hX)]
 unfold twoF
 constructor
 ·intro h x y z hx
  refine Classical.byContradiction fun hn => ?_
  have := (y2e ((Sol.of hX).rng (Sol.of hY)) (fun a b => b && !a) rfl).2 ⟨x, y, z, by
   rw [Wi.2 hx, v1p fun k => hn (Wi.1 k)]; rfl⟩
  rw [h] at this; cases this
 ·intro h
  refine v1p fun hn => ?_
  obtain ⟨x, y, z, hp⟩ := (y2e ((Sol.of hX).rng (Sol.of hY)) (fun a b => b && !a) rfl).1 hn
  rw [Bool.and_eq_true] at hp
  have := Wi.2 (h x y z (Wi.1 hp.1))
  rw [this] at hp; exact absurd hp.2 (by simp)
include lX lY
theorem w7k (hn : ¬ z2a (Yq X Y) > 0) : y0b X Y 6 0 = bif decide (w7d X Y > 0) then 2 else 1 := by
 obtain ⟨_, v1, _, p1⟩ := z1d hX
 obtain ⟨_, v2, _, p2⟩ := z1d hY
 rw [y4x hX hY] at hn
 have h0 : S2 X Y = 0 := by have := y2r X Y; omega
 have h1 : ∀ r ∈ X, ∀ s ∈ Y, ov r s = 0 := fun r hr s hs =>
  Kd (fun s _ => z5m r s) (Kd (fun r _ => Wf fun s _ => z5m r s) h0 r hr) s hs
 have hc := u1c X Y (fun r hr => w3w (v1 r hr)) (fun r hr => w3w (v2 r hr))
 have hnil := u1e h1
 have e : ∀ d, c1 d X Y (Yq X Y) = E2 d X Y := fun d => by
  rw [hnil]
  unfold c1
  have a1 : E2 d [] Y = 0 := rfl
  have a2 : E2 d X [] = 0 := by show sm X (fun _ => 0) = 0; exact Ui _
  have a3 : E2 d [] [] = 0 := rfl
  omega
 unfold con6 at hc
 rw [e, e, e, e, e, e] at hc
 have m := fun (d : Int) (hd : 0 ≤ d ∧ d ≤ 5) => E2_le d hd lX lY v2 h1
 have k := fun (d : Int) => w6x d X Y
 have dv : ∀ d : Int, 0 ≤ d ∧ d ≤ 5 → dvF X Y 2 d = E2 d X Y := fun d hd => by
  unfold dvF v4w
  rw [con_eq (Sol.of hX) (Sol.of hY) hd (by omega), e, Zj (by have := m d hd; have := k d; omega)]
 have n0 := k 0; have n1 := k 1; have n2 := k 2; have n3 := k 3; have n4 := k 4; have n5 := k 5
 have m0 := m 0 (by omega); have m1 := m 1 (by omega); have m2 := m 2 (by omega); have m3 := m 3 (by omega); have m4 := m 4 (by omega); have m5 := m 5 (by omega)
 have hs := hc.is (u1b X Y) (by omega)
 have t : y0b X Y 6 0 = bif decide (E2 0 X Y > 0) then 2 else bif decide (E2 1 X Y > 0) then 2 else bif decide (E2 2 X Y > 0) then 2 else bif decide (E2 3 X Y > 0) then 2 else bif decide (E2 4 X Y > 0) then 2 else bif decide (E2 5 X Y > 0) then 2 else 1 := by
  show (bif decide (dvF X Y 2 0 > 0) then 2 else bif decide (dvF X Y 2 1 > 0) then 2 else bif decide (dvF X Y 2 2 > 0) then 2 else bif decide (dvF X Y 2 3 > 0) then 2 else bif decide (dvF X Y 2 4 > 0) then 2 else bif decide (dvF X Y 2 5 > 0) then 2 else (1 : Int)) = _
  rw [dv 0 (by omega), dv 1 (by omega), dv 2 (by omega), dv 3 (by omega), dv 4 (by omega), dv 5 (by omega)]
 rw [t, hs]
 by_cases g0 : E2 0 X Y > 0
 ·have P : E2 0 X Y + E2 1 X Y + E2 2 X Y + E2 3 X Y + E2 4 X Y + E2 5 X Y > 0 := by omega
  simp only [decide_eq_true P, decide_eq_true g0, cond_true, cond_false]
 by_cases g1 : E2 1 X Y > 0
 ·have P : E2 0 X Y + E2 1 X Y + E2 2 X Y + E2 3 X Y + E2 4 X Y + E2 5 X Y > 0 := by omega
  simp only [decide_eq_true P, decide_eq_true g1, decide_eq_false g0, cond_true, cond_false]
 by_cases g2 : E2 2 X Y > 0
 ·have P : E2 0 X Y + E2 1 X Y + E2 2 X Y + E2 3 X Y + E2 4 X Y + E2 5 X Y > 0 := by omega
  simp only [decide_eq_true P, decide_eq_true g2, decide_eq_false g0, decide_eq_false g1, cond_true, cond_false]
 by_cases g3 : E2 3 X Y > 0
 ·have P : E2 0 X Y + E2 1 X Y + E2 2 X Y + E2 3 X Y + E2 4 X Y + E2 5 X Y > 0 := by omega
  simp only [decide_eq_true P, decide_eq_true g3, decide_eq_false g0, decide_eq_false g1, decide_eq_false g2, cond_true, cond_false]
 by_cases g4 : E2 4 X Y > 0
 ·have P : E2 0 X Y + E2 1 X Y + E2 2 X Y + E2 3 X Y + E2 4 X Y + E2 5 X Y > 0 := by omega
  simp only [decide_eq_true P, decide_eq_true g4, decide_eq_false g0, decide_eq_false g1, decide_eq_false g2, decide_eq_false g3, cond_true, cond_false]
 by_cases g5 : E2 5 X Y > 0
 ·have P : E2 0 X Y + E2 1 X Y + E2 2 X Y + E2 3 X Y + E2 4 X Y + E2 5 X Y > 0 := by omega
  simp only [decide_eq_true P, decide_eq_true g5, decide_eq_false g0, decide_eq_false g1, decide_eq_false g2, decide_eq_false g3, decide_eq_false g4, cond_true, cond_false]
 have P : ¬ E2 0 X Y + E2 1 X Y + E2 2 X Y + E2 3 X Y + E2 4 X Y + E2 5 X Y > 0 := by omega
 simp only [decide_eq_false P, decide_eq_false g0, decide_eq_false g1, decide_eq_false g2, decide_eq_false g3, decide_eq_false g4, decide_eq_false g5, cond_false]
theorem rrl_eq : v2w X Y = v3t X Y := by
 unfold v2w v3t relN
 have hc := v1k hX hY
 have h1 := w9e hX hY
 have h2 := w7j hX hY
 rcases Yr (comF X Y) with q | q
 ·rw [q, Yf (hc.1 q), cond_true, cond_true]
  rcases Yr (oneF X Y) with q1 | q1 <;> rcases Yr (twoF X Y) with q2 | q2
  ·rw [q1, q2, z6k (fun e => by rw [h1.2 e] at q1; cases q1), z6k (fun e => by rw [h2.2 e] at q2; cases q2)]; rfl
  ·rw [q1, q2, z6k (fun e => by rw [h1.2 e] at q1; cases q1), x6x (h2.1 q2)]; rfl
  ·rw [q1, q2, x6x (h1.1 q1), z6k (fun e => by rw [h2.2 e] at q2; cases q2)]; rfl
  ·rw [q1, q2, x6x (h1.1 q1), x6x (h2.1 q2)]; rfl
 ·have hn : ¬ z2a (Yq X Y) > 0 := fun k => by rw [hc.2 k] at q; cases q
  rw [q, Xx hn, cond_false, cond_false]
  exact w7k hX hY lX lY hn
omit lX lY
end
end Go.Am
namespace Go.Am
open Go.Proofs.Tryz
open Go.Proofs
def y3d : List (List R6) → Int
 | [] => 0
 | s :: r => bif Xn s != 0 then Xn s else y3d r
def y8p (l : List (List R6)) (i : Int) (j : Nat) : Bool := ((j : Int) != i) && (v3t (rd l i.toNat) (rd l j) != 1)
def neL (l : List (List R6)) (i : Int) (n : Nat) : List Int := ((List.range n).filter (y8p l i)).map fun (j : Nat) => (j : Int)
def Jz (l : List (List R6)) (i : Int) : List Int := bif decide ((l.length : Int) > 60) then [] else bif y3d l != 0 then [] else bif decide (i < 0) then [] else bif decide (i ≥ (l.length : Int)) then [] else neL l i l.length
def y0t (l : List (List R6)) (i : Int) : Int := bif decide ((l.length : Int) > 60) then 4 else bif y3d l != 0 then y3d l else bif decide (i < 0) then 6 else bif decide (i ≥ (l.length : Int)) then 6 else 0
def Qy (l : List (List R6)) (i : Int) : Bool := l.all fun s => decide (s.length ≤ 100 ∨ 400 < s.length)
def y8q (l : List (List R6)) (i : Int) : List AVal := bif decide ((l.length : Int) > 60) then [.nils, .int .i64 4] else bif y3d l != 0 then [.nils, .int .i64 (y3d l)] else bif decide (i < 0) then [.nils, .int .i64 6] else bif decide (i ≥ (l.length : Int)) then [.nils, .int .i64 6] else [.dat (neL l i l.length).length (Zz (neL l i l.length)), .int .i64 0]
theorem y3w (l : List (List R6)) (i : Int) (n : Nat) : (neL l i n).length ≤ n := by
 unfold neL
 rw [List.length_map]
 exact Nat.le_trans (List.length_filter_le _ _) (by simp)
theorem w9n (l : List (List R6)) (i : Int) (n : Nat) : neL l i (n + 1) = bif y8p l i n then neL l i n ++ [(n : Int)] else neL l i n := by
 unfold neL
 rw [List.range_succ, List.filter_append, List.map_append]
 rcases Yr (y8p l i n) with q | q
 ·rw [q, cond_true, List.filter_cons_of_pos (by rw [q])]; rfl
 ·rw [q, cond_false, List.filter_cons_of_neg (by rw [q]; simp)]; simp
section
variable (l : List (List R6)) (i : Int) (hl : l.length ≤ 60)
include hl
theorem v3u (hi : 0 ≤ i ∧ i < (l.length : Int)) (hs : ∀ s ∈ l, s.length ≤ 100) : ∀ (k j : Nat), j + k = l.length → ∃ n, Yj (Ut l i) n (.to (.h1 (neL l i j) (j : Int))) = .ret [.dat (neL l i l.length).length (Zz (neL l i l.length)), .int .i64 0]
 | 0, j, h => by
  refine ⟨1, ?_⟩
  obtain rfl : j = l.length := by omega
  rw [Zv]
  simp (disch := omega) only [Ut, Zo, cond_false, Zp]
 | k + 1, j, h => by
  obtain ⟨n, hn⟩ := v3u hi hs k (j + 1) (by omega)
  refine ⟨n + 1, ?_⟩
  have dA := y3w l i j
  have hj : j < l.length := by omega
  have o : z5n (rd l i.toNat) (rd l j) = true := decide_eq_true ⟨hs _ (by rw [Xi (show i.toNat < l.length by omega)]; exact List.getElem_mem _), hs _ (by rw [Xi hj]; exact List.getElem_mem _)⟩
  have hlt : decide ((j : Int) < (l.length : Int)) = true := decide_eq_true (by omega)
  have hin : decide (0 ≤ (j : Int) ∧ (j : Int) < (l.length : Int)) = true := decide_eq_true (by omega)
  have hii : decide (0 ≤ i ∧ i < (l.length : Int)) = true := decide_eq_true hi
  have dE : decide (((neL l i j).length + 1 + 1) * (8 + 1) ≤ Uq) = true := Zr (by omega)
  rw [w9n] at hn
  unfold y8p at hn
  rw [Zv]
  rcases Yr ((j : Int) != i) with q1 | q1
  ·rcases Yr (v3t (rd l i.toNat) (rd l j) != 1) with q2 | q2
   ·rw [q1, q2, Bool.and_true, cond_true] at hn
    simp (disch := omega) only [Ut, Zg, o, hlt, hin, hii, dE, q1, q2, Yg, Zj, Ya, Nat.zero_add, decide_true, Zw, Zk, Bool.and_true, Bool.true_and, cond_true, cond_false]
    exact hn
   ·rw [q1, q2, Bool.and_false, cond_false] at hn
    simp (disch := omega) only [Ut, Zg, o, hlt, hin, hii, q1, q2, Zj, Zw, Zk, Bool.and_true, cond_true, cond_false]
    exact hn
  ·rw [q1, Bool.false_and, cond_false] at hn
   simp (disch := omega) only [Ut, Zg, hlt, hin, q1, Zj, Zw, Zk, Bool.and_true, cond_true, cond_false]
   exact hn
theorem v3v (ho : Qy l i = true) : ∀ (k j : Nat), j + k = l.length → (∀ s ∈ l.take j, (Xn s != 0) = false) → y3d l = y3d (l.drop j) → ∃ n, Yj (Ut l i) n (.to (.h0 (j : Int))) = .ret (bif y3d l != 0 then [.nils, .int .i64 (y3d l)] else bif decide (i < 0) then [.nils, .int .i64 6] else bif decide (i ≥ (l.length : Int)) then [.nils, .int .i64 6] else [.dat (neL l i l.length).length (Zz (neL l i l.length)), .int .i64 0])
 | 0, j, h, ht, hc => by
  have e : y3d l = 0 := by rw [hc, List.drop_eq_nil_of_le (by omega)]; rfl
  have hs : ∀ s ∈ l, s.length ≤ 100 := fun s hs => by
   have h1 := ht s (by rw [List.take_of_length_le (by omega)]; exact hs)
   exact w2c (List.all_eq_true.1 ho s hs) h1
  rw [e, show ((0 : Int) != 0) = false from rfl, cond_false]
  by_cases h1 : i < 0
  ·refine ⟨1, ?_⟩
   rw [Zv, decide_eq_true h1]
   simp (disch := omega) only [Ut, Zo, decide_eq_true h1, cond_true, cond_false, Zp]
  ·by_cases h2 : i ≥ (l.length : Int)
   ·refine ⟨1, ?_⟩
    rw [Zv, decide_eq_false h1, decide_eq_true h2]
    simp (disch := omega) only [Ut, Zo, z6e, cond_true, cond_false, Zp]
   ·obtain ⟨n, hn⟩ := v3u l i hl (by omega) hs l.length 0 (Nat.zero_add _)
    refine ⟨n + 1, ?_⟩
    rw [Zv, decide_eq_false h1, decide_eq_false h2]
    simp (disch := omega) only [Ut, Zo, z7n, cond_true, cond_false]
    exact hn
 | k + 1, j, h, ht, hc => by
  have hj : j < l.length := by omega
  have hlt : decide ((j : Int) < (l.length : Int)) = true := decide_eq_true (by omega)
  have hin : decide (0 ≤ (j : Int) ∧ (j : Int) < (l.length : Int)) = true := decide_eq_true (by omega)
  have hd : y3d l = bif Xn (rd l j) != 0 then Xn (rd l j) else y3d (l.drop (j + 1)) := by rw [hc, Yi hj]; rfl
  rcases Yr (Xn (rd l j) != 0) with q | q
  ·refine ⟨1, ?_⟩
   rw [q, cond_true] at hd
   rw [Zv, hd, q, cond_true]
   simp (disch := omega) only [Ut, Zg, hlt, hin, Zk, show ∀ l, z3y l = true from fun _ => rfl, q, Bool.and_true, cond_true, Zp]
  ·rw [q, cond_false] at hd
   obtain ⟨n, hn⟩ := v3v ho k (j + 1) (by omega) (fun s hs => by
    rw [List.take_add_one] at hs
    have e : l[j]? = some (rd l j) := by rw [Xi hj]; exact List.getElem?_eq_getElem _
    rw [e] at hs
    simp only [Option.toList_some, List.mem_append, List.mem_singleton] at hs
    rcases hs with hs | rfl
    ·exact ht s hs
    ·exact q) hd
   refine ⟨n + 1, ?_⟩
   rw [Zv]
   simp (disch := omega) only [Ut, Zg, hlt, hin, Zk, show ∀ l, z3y l = true from fun _ => rfl, q, Zj, Zw, Bool.and_true, cond_true, cond_false]
   exact hn
end
theorem v7x (l : List (List R6)) (i : Int) (ho : Qy l i = true) : ∃ n, Yj (Ut l i) n (z9m l i) = .ret (y8q l i) := by
 unfold z9m y8q
 by_cases h : (l.length : Int) > 60
 ·exact ⟨0, by rw [decide_eq_true h]; rfl⟩
 ·obtain ⟨n, hn⟩ := v3v l i (by omega) ho l.length 0 (Nat.zero_add _) (fun s hs => by simp at hs) rfl
  refine ⟨n, ?_⟩
  rw [decide_eq_false h]
  exact hn
def fNea : List AVal → Option (AVal × Bool)
 | [a1, .int .i64 x2] => match asL (List R6) a1 with
  | some (L1, g1, n1) => some (.tup [.dat (Jz L1 x2).length (Zz (Jz L1 x2)), .int .i64 (y0t L1 x2)], isT (List R6) n1 g1 && Qy L1 x2)
  | _ => none
 | _ => none
theorem v9r {S : Specs} (hS : Zu prog S) : Zu prog (S.with v4d fNea) := by
 refine fTwo hS (by kernel_rfl) fun args v h => ?_
 unfold fNea at h
 split at h
 ·rename_i a1 x2
  split at h
  ·rename_i L1 g1 n1 e1
   simp only [Option.some.injEq, Prod.mk.injEq, Bool.and_eq_true] at h
   obtain ⟨rfl, ho1, hw⟩ := h
   obtain ⟨N, hN⟩ := v7x L1 x2 hw
   refine ⟨_, y8q L1 x2, (.cons (Yx e1 ho1) (.cons (.refl _) .nil)), ?_, w9j L1 x2 N _ hN, 3, ?_⟩
   ·unfold Jz y0t y8q
    cases decide ((L1.length : Int) > 60) <;> simp only [cond_true, cond_false]
    ·cases (y3d L1 != 0) <;> simp only [cond_true, cond_false]
     ·cases decide (x2 < 0) <;> simp only [cond_true, cond_false]
      ·cases decide (x2 ≥ (L1.length : Int)) <;> simp only [cond_true, cond_false]
       ·exact fun ρ u hu => hu
       ·exact fun ρ u hu => Kn (.cons (Um Int) (RLe.refl _)) ρ u hu
      ·exact fun ρ u hu => Kn (.cons (Um Int) (RLe.refl _)) ρ u hu
     ·exact fun ρ u hu => Kn (.cons (Um Int) (RLe.refl _)) ρ u hu
    ·exact fun ρ u hu => Kn (.cons (Um Int) (RLe.refl _)) ρ u hu
   ·unfold y8q
    cases decide ((L1.length : Int) > 60) <;> simp only [cond_true, cond_false]
    ·cases (y3d L1 != 0) <;> simp only [cond_true, cond_false]
     ·cases decide (x2 < 0) <;> simp only [cond_true, cond_false]
      ·cases decide (x2 ≥ (L1.length : Int)) <;> rfl
      ·rfl
     ·rfl
    ·rfl
  ·cases h
 ·cases h
def y7f : List (List R6) → Int
 | [] => 0
 | s :: r => bif Xg s != 0 then Xg s else y7f r
def y8o (l : List (List R6)) (i : Int) (j : Nat) : Bool := ((j : Int) != i) && (v2w (rd l i.toNat) (rd l j) != 1)
def rnL (l : List (List R6)) (i : Int) (n : Nat) : List Int := ((List.range n).filter (y8o l i)).map fun (j : Nat) => (j : Int)
def z0o (l : List (List R6)) (i : Int) : List Int := bif decide ((l.length : Int) > 60) then [] else bif y7f l != 0 then [] else bif decide (i < 0) then [] else bif decide (i ≥ (l.length : Int)) then [] else rnL l i l.length
def y0l (l : List (List R6)) (i : Int) : Int := bif decide ((l.length : Int) > 60) then 4 else bif y7f l != 0 then y7f l else bif decide (i < 0) then 6 else bif decide (i ≥ (l.length : Int)) then 6 else 0
def Kr (l : List (List R6)) (i : Int) : Bool := l.all fun s => decide (s.length ≤ 420)
def y7w (l : List (List R6)) (i : Int) : List AVal := bif decide ((l.length : Int) > 60) then [.nils, .int .i64 4] else bif y7f l != 0 then [.nils, .int .i64 (y7f l)] else bif decide (i < 0) then [.nils, .int .i64 6] else bif decide (i ≥ (l.length : Int)) then [.nils, .int .i64 6] else [.dat (rnL l i l.length).length (Zz (rnL l i l.length)), .int .i64 0]
theorem x8k (l : List (List R6)) (i : Int) (n : Nat) : (rnL l i n).length ≤ n := by
 unfold rnL
 rw [List.length_map]
 exact Nat.le_trans (List.length_filter_le _ _) (by simp)
theorem w8i (l : List (List R6)) (i : Int) (n : Nat) : rnL l i (n + 1) = bif y8o l i n then rnL l i n ++ [(n : Int)] else rnL l i n := by
 unfold rnL
 rw [List.range_succ, List.filter_append, List.map_append]
 rcases Yr (y8o l i n) with q | q
 ·rw [q, cond_true, List.filter_cons_of_pos (by rw [q])]; rfl
 ·rw [q, cond_false, List.filter_cons_of_neg (by rw [q]; simp)]; simp
section
variable (l : List (List R6)) (i : Int) (hl : l.length ≤ 60)
include hl
theorem v2y (hi : 0 ≤ i ∧ i < (l.length : Int)) (hs : ∀ s ∈ l, s.length ≤ 420) : ∀ (k j : Nat), j + k = l.length → ∃ n, Yj (Uo l i) n (.to (.h1 (rnL l i j) (j : Int))) = .ret [.dat (rnL l i l.length).length (Zz (rnL l i l.length)), .int .i64 0]
 | 0, j, h => by
  refine ⟨1, ?_⟩
  obtain rfl : j = l.length := by omega
  rw [Zv]
  simp (disch := omega) only [Uo, Zo, cond_false, Zp]
 | k + 1, j, h => by
  obtain ⟨n, hn⟩ := v2y hi hs k (j + 1) (by omega)
  refine ⟨n + 1, ?_⟩
  have dA := x8k l i j
  have hj : j < l.length := by omega
  have o : z5b (rd l i.toNat) (rd l j) = true := decide_eq_true ⟨hs _ (by rw [Xi (show i.toNat < l.length by omega)]; exact List.getElem_mem _), hs _ (by rw [Xi hj]; exact List.getElem_mem _)⟩
  have hlt : decide ((j : Int) < (l.length : Int)) = true := decide_eq_true (by omega)
  have hin : decide (0 ≤ (j : Int) ∧ (j : Int) < (l.length : Int)) = true := decide_eq_true (by omega)
  have hii : decide (0 ≤ i ∧ i < (l.length : Int)) = true := decide_eq_true hi
  have dE : decide (((rnL l i j).length + 1 + 1) * (8 + 1) ≤ Uq) = true := Zr (by omega)
  rw [w8i] at hn
  unfold y8o at hn
  rw [Zv]
  rcases Yr ((j : Int) != i) with q1 | q1
  ·rcases Yr (v2w (rd l i.toNat) (rd l j) != 1) with q2 | q2
   ·rw [q1, q2, Bool.and_true, cond_true] at hn
    simp (disch := omega) only [Uo, Zg, o, hlt, hin, hii, dE, q1, q2, Yg, Zj, Ya, Nat.zero_add, decide_true, Zw, Zk, Bool.and_true, Bool.true_and, cond_true, cond_false]
    exact hn
   ·rw [q1, q2, Bool.and_false, cond_false] at hn
    simp (disch := omega) only [Uo, Zg, o, hlt, hin, hii, q1, q2, Zj, Zw, Zk, Bool.and_true, cond_true, cond_false]
    exact hn
  ·rw [q1, Bool.false_and, cond_false] at hn
   simp (disch := omega) only [Uo, Zg, hlt, hin, q1, Zj, Zw, Zk, Bool.and_true, cond_true, cond_false]
   exact hn
theorem v2z (ho : Kr l i = true) : ∀ (k j : Nat), j + k = l.length → (∀ s ∈ l.take j, (Xg s != 0) = false) → y7f l = y7f (l.drop j) → ∃ n, Yj (Uo l i) n (.to (.h0 (j : Int))) = .ret (bif y7f l != 0 then [.nils, .int .i64 (y7f l)] else bif decide (i < 0) then [.nils, .int .i64 6] else bif decide (i ≥ (l.length : Int)) then [.nils, .int .i64 6] else [.dat (rnL l i l.length).length (Zz (rnL l i l.length)), .int .i64 0])
 | 0, j, h, ht, hc => by
  have e : y7f l = 0 := by rw [hc, List.drop_eq_nil_of_le (by omega)]; rfl
  have hs : ∀ s ∈ l, s.length ≤ 420 := fun s hs => by
   exact of_decide_eq_true (List.all_eq_true.1 ho s hs)
  rw [e, show ((0 : Int) != 0) = false from rfl, cond_false]
  by_cases h1 : i < 0
  ·refine ⟨1, ?_⟩
   rw [Zv, decide_eq_true h1]
   simp (disch := omega) only [Uo, Zo, decide_eq_true h1, cond_true, cond_false, Zp]
  ·by_cases h2 : i ≥ (l.length : Int)
   ·refine ⟨1, ?_⟩
    rw [Zv, decide_eq_false h1, decide_eq_true h2]
    simp (disch := omega) only [Uo, Zo, z6e, cond_true, cond_false, Zp]
   ·obtain ⟨n, hn⟩ := v2y l i hl (by omega) hs l.length 0 (Nat.zero_add _)
    refine ⟨n + 1, ?_⟩
    rw [Zv, decide_eq_false h1, decide_eq_false h2]
    simp (disch := omega) only [Uo, Zo, z7n, cond_true, cond_false]
    exact hn
 | k + 1, j, h, ht, hc => by
  have hj : j < l.length := by omega
  have hlt : decide ((j : Int) < (l.length : Int)) = true := decide_eq_true (by omega)
  have hin : decide (0 ≤ (j : Int) ∧ (j : Int) < (l.length : Int)) = true := decide_eq_true (by omega)
  have hd : y7f l = bif Xg (rd l j) != 0 then Xg (rd l j) else y7f (l.drop (j + 1)) := by rw [hc, Yi hj]; rfl
  rcases Yr (Xg (rd l j) != 0) with q | q
  ·refine ⟨1, ?_⟩
   rw [q, cond_true] at hd
   rw [Zv, hd, q, cond_true]
   simp (disch := omega) only [Uo, Zg, hlt, hin, Zk, show ∀ l, Vx l = true from fun _ => rfl, q, Bool.and_true, cond_true, Zp]
  ·rw [q, cond_false] at hd
   obtain ⟨n, hn⟩ := v2z ho k (j + 1) (by omega) (fun s hs => by
    rw [List.take_add_one] at hs
    have e : l[j]? = some (rd l j) := by rw [Xi hj]; exact List.getElem?_eq_getElem _
    rw [e] at hs
    simp only [Option.toList_some, List.mem_append, List.mem_singleton] at hs
    rcases hs with hs | rfl
    ·exact ht s hs
    ·exact q) hd
   refine ⟨n + 1, ?_⟩
   rw [Zv]
   simp (disch := omega) only [Uo, Zg, hlt, hin, Zk, show ∀ l, Vx l = true from fun _ => rfl, q, Zj, Zw, Bool.and_true, cond_true, cond_false]
   exact hn
end
theorem v6u (l : List (List R6)) (i : Int) (ho : Kr l i = true) : ∃ n, Yj (Uo l i) n (z9h l i) = .ret (y7w l i) := by
 unfold z9h y7w
 by_cases h : (l.length : Int) > 60
 ·exact ⟨0, by rw [decide_eq_true h]; rfl⟩
 ·obtain ⟨n, hn⟩ := v2z l i (by omega) ho l.length 0 (Nat.zero_add _) (fun s hs => by simp at hs) rfl
  refine ⟨n, ?_⟩
  rw [decide_eq_false h]
  exact hn
def fRne : List AVal → Option (AVal × Bool)
 | [a1, .int .i64 x2] => match asL (List R6) a1 with
  | some (L1, g1, n1) => some (.tup [.dat (z0o L1 x2).length (Zz (z0o L1 x2)), .int .i64 (y0l L1 x2)], isT (List R6) n1 g1 && Kr L1 x2)
  | _ => none
 | _ => none
theorem v9m {S : Specs} (hS : Zu prog S) : Zu prog (S.with v4a fRne) := by
 refine fTwo hS (by kernel_rfl) fun args v h => ?_
 unfold fRne at h
 split at h
 ·rename_i a1 x2
  split at h
  ·rename_i L1 g1 n1 e1
   simp only [Option.some.injEq, Prod.mk.injEq, Bool.and_eq_true] at h
   obtain ⟨rfl, ho1, hw⟩ := h
   obtain ⟨N, hN⟩ := v6u L1 x2 hw
   refine ⟨_, y7w L1 x2, (.cons (Yx e1 ho1) (.cons (.refl _) .nil)), ?_, w8f L1 x2 N _ hN, 3, ?_⟩
   ·unfold z0o y0l y7w
    cases decide ((L1.length : Int) > 60) <;> simp only [cond_true, cond_false]
    ·cases (y7f L1 != 0) <;> simp only [cond_true, cond_false]
     ·cases decide (x2 < 0) <;> simp only [cond_true, cond_false]
      ·cases decide (x2 ≥ (L1.length : Int)) <;> simp only [cond_true, cond_false]
       ·exact fun ρ u hu => hu
       ·exact fun ρ u hu => Kn (.cons (Um Int) (RLe.refl _)) ρ u hu
      ·exact fun ρ u hu => Kn (.cons (Um Int) (RLe.refl _)) ρ u hu
     ·exact fun ρ u hu => Kn (.cons (Um Int) (RLe.refl _)) ρ u hu
    ·exact fun ρ u hu => Kn (.cons (Um Int) (RLe.refl _)) ρ u hu
   ·unfold y7w
    cases decide ((L1.length : Int) > 60) <;> simp only [cond_true, cond_false]
    ·cases (y7f L1 != 0) <;> simp only [cond_true, cond_false]
     ·cases decide (x2 < 0) <;> simp only [cond_true, cond_false]
      ·cases decide (x2 ≥ (L1.length : Int)) <;> rfl
      ·rfl
     ·rfl
    ·rfl
  ·cases h
 ·cases h
def Rh : Specs := (((T9.with x5z fGrt).with v4d fNea).with v4a fRne)
theorem z3n : Zu prog Rh := (v9m (v9r (v9w Vk)))
end Go.Am
namespace Go.Am
open Go.Proofs.Tryz
open Go.Proofs
inductive lonS where
 | h0 (v5 : Int)
 | h1 (v10 : Int)
def lonC (l0 : List (List R6)) (x1 : Int) : lonS → Cfg
 | .h0 v5 => ⟨⟨79, 0, true⟩, none, (Yw prog 6 [1, 0, 1, 0, 0] 0), none, (Zy prog 3), ⟨Xp [(0, (.dat l0.length (Zz l0))), (1, (ii x1)), (5, (ii v5))], Ux [] 0, 0, [], true⟩, [], .leaf⟩
 | .h1 v10 => ⟨⟨79, 0, true⟩, none, (Yw prog 6 [1, 1, 1, 1, 1, 1, 0, 1, 0, 0] 0), none, (Zy prog 3), ⟨Xp [(6, (.dat (Jz (cvT l0) x1).length (Zz (Jz (cvT l0) x1)))), (8, (.dat (z0o (cvT l0) x1).length (Zz (z0o (cvT l0) x1)))), (10, (ii v10))], Ux [] 0, 0, [], true⟩, [], .leaf⟩
def v8h : List (Option (List Nat)) := [some [0, 1, 5]]
def v8j : List (Option (List Nat)) := []
def v8g : List (Option (List Nat)) := [some [6, 8, 10]]
def v8i : List (Option (List Nat)) := []
def Jy (l0 : List (List R6)) (x1 : Int) : lonS → Wu lonS
 | .h0 v5 => (bif (decide (v5 < (l0.length : Int))) then (bif (decide (v5 < 70)) then (bif ((decide (0 ≤ v5 ∧ v5 < (l0.length : Int))) && true) then (bif (Qw (cvT (rd l0 v5.toNat))) then (bif (grtV (cvT (rd l0 v5.toNat))) then (.ret [(.bool true)]) else (bif (decide ((l0.length : Int) > 8)) then (bif (decide ((((rd l0 v5.toNat).length : Nat) : Int) > 0)) then (.ret [(.bool true)]) else (.to (.h0 (IntKind.wrap .i64 (v5 + 1))))) else (.to (.h0 (IntKind.wrap .i64 (v5 + 1)))))) else .stuck) else .stuck) else (bif (decide ((l0.length : Int) > 70)) then (.ret [(.bool true)]) else (bif (Qy (cvT l0) x1) then (bif (Kr (cvT l0) x1) then (bif ((((Jz (cvT l0) x1).length : Nat) : Int) != (((z0o (cvT l0) x1).length : Nat) : Int)) then (.ret [(.bool false)]) else (bif ((y0t (cvT l0) x1) != (y0l (cvT l0) x1)) then (.ret [(.bool false)]) else (.to (.h1 0)))) else .stuck) else .stuck))) else (bif (decide ((l0.length : Int) > 70)) then (.ret [(.bool true)]) else (bif (Qy (cvT l0) x1) then (bif (Kr (cvT l0) x1) then (bif ((((Jz (cvT l0) x1).length : Nat) : Int) != (((z0o (cvT l0) x1).length : Nat) : Int)) then (.ret [(.bool false)]) else (bif ((y0t (cvT l0) x1) != (y0l (cvT l0) x1)) then (.ret [(.bool false)]) else (.to (.h1 0)))) else .stuck) else .stuck)))
 | .h1 v10 => (bif (decide (v10 < (((Jz (cvT l0) x1).length : Nat) : Int))) then (bif ((decide (0 ≤ v10 ∧ v10 < (((Jz (cvT l0) x1).length : Nat) : Int))) && true) then (bif ((decide (0 ≤ v10 ∧ v10 < (((z0o (cvT l0) x1).length : Nat) : Int))) && true) then (bif ((rd (Jz (cvT l0) x1) v10.toNat) != (rd (z0o (cvT l0) x1) v10.toNat)) then (.ret [(.bool false)]) else (.to (.h1 (IntKind.wrap .i64 (v10 + 1))))) else .stuck) else .stuck) else (.ret [(.bool true)]))
def y5v (l0 : List (List R6)) (x1 : Int) : Wu lonS := (.to (.h0 0))
theorem x8x (l0 : List (List R6)) (x1 : Int) : ∀ s, Wm prog (Zy prog 6) (lonC l0 x1) (lonC l0 x1 s) (Jy l0 x1 s)
 | .h0 v5 => (lb (fun k0 => (lb (fun k1 => (lo fun aU => (lo fun cD => (lb (fun k2 => (lr 79 6 [1, 0, 1, 0, 0, 1, 0, 0, 1, 0, 0] 1 3 [(4, (.bool true))] (sl z3n 42 [] ⟨[], [], [some [4]], []⟩ ⟨[], [], []⟩ (trs 9 []) (tt k2 (pp (pp (xI R6 (rd l0 (tn v5)).length (Zz (rd l0 (tn v5)))) (xw cD)) (ww aU (tt k1 (tt k0 nn)))))))) (fun k2 => (lb (fun k3 => (lb (fun k4 => (lr 79 6 [1, 0, 1, 0, 0, 1, 0, 0, 1, 0, 0] 1 3 [(4, (.bool true))] (sl z3n 42 [] ⟨[], [], [some [4]], []⟩ ⟨[], [], []⟩ (trs 3 [false, false, false, false, true, true, true, true, true, true, false, true]) (tt k4 (ww aU (tt k3 (tt k2 (pp (pp (xI R6 (rd l0 (tn v5)).length (Zz (rd l0 (tn v5)))) (xw cD)) (ww aU (tt k1 (tt k0 nn))))))))))) (fun k4 => (sl z3n 46 [] ⟨[], [], v8h, v8j⟩ ⟨[], [], []⟩ (trs 3 [false, false, false, false, true, true, true, true, true, true, false, false]) (tt k4 (ww aU (tt k3 (tt k2 (pp (pp (xI R6 (rd l0 (tn v5)).length (Zz (rd l0 (tn v5)))) (xw cD)) (ww aU (tt k1 (tt k0 nn)))))))))))) (fun k3 => (sl z3n 46 [] ⟨[], [], v8h, v8j⟩ ⟨[], [], []⟩ (trs 3 [false, false, false, false, false, false, false, false, false, false, false, false]) (tt k3 (tt k2 (pp (pp (xI R6 (rd l0 (tn v5)).length (Zz (rd l0 (tn v5)))) (xw cD)) (ww aU (tt k1 (tt k0 nn)))))))))))))) (fun k1 => (lb (fun k2 => (lr 79 6 [1, 1, 0, 1, 0, 0] 1 3 [(4, (.bool true))] (sl z3n 26 [] ⟨[], [], [some [4]], []⟩ ⟨[], [], []⟩ [true, true, false, true] (tt k2 (tt k1 (tt k0 nn)))))) (fun k2 => (lo fun bA => (lo fun cJ => (lb (fun k3 => (lr 79 6 [1, 1, 1, 1, 1, 0, 1, 0, 0] 1 3 [(4, (.bool false))] (sl z3n 64 [] ⟨[], [], [some [4]], []⟩ ⟨[], [], []⟩ [true, true, false, false, true, true, true, true] (tt k3 (pp (pp (xr l0) (xw cJ)) (pp (pp (xr l0) (xw bA)) (tt k2 (tt k1 (tt k0 nn))))))))) (fun k3 => (lb (fun k4 => (lr 79 6 [1, 1, 1, 1, 1, 0, 1, 0, 0] 1 3 [(4, (.bool false))] (sl z3n 64 [] ⟨[], [], [some [4]], []⟩ ⟨[], [], []⟩ [true, true, false, false, false, false, false, true] (tt k4 (tt k3 (pp (pp (xr l0) (xw cJ)) (pp (pp (xr l0) (xw bA)) (tt k2 (tt k1 (tt k0 nn)))))))))) (fun k4 => (sl z3n 68 [] ⟨[], [], v8g, v8i⟩ ⟨[], [], []⟩ [true, true, false, false, false, false, false, false] (tt k4 (tt k3 (pp (pp (xr l0) (xw cJ)) (pp (pp (xr l0) (xw bA)) (tt k2 (tt k1 (tt k0 nn))))))))))))))))))) (fun k0 => (lb (fun k1 => (lr 79 6 [1, 1, 0, 1, 0, 0] 1 3 [(4, (.bool true))] (sl z3n 26 [] ⟨[], [], [some [4]], []⟩ ⟨[], [], []⟩ [false, false, false, true] (tt k1 (tt k0 nn))))) (fun k1 => (lo fun aU => (lo fun cD => (lb (fun k2 => (lr 79 6 [1, 1, 1, 1, 1, 0, 1, 0, 0] 1 3 [(4, (.bool false))] (sl z3n 64 [] ⟨[], [], [some [4]], []⟩ ⟨[], [], []⟩ [false, false, false, false, true, true, true, true] (tt k2 (pp (pp (xr l0) (xw cD)) (pp (pp (xr l0) (xw aU)) (tt k1 (tt k0 nn)))))))) (fun k2 => (lb (fun k3 => (lr 79 6 [1, 1, 1, 1, 1, 0, 1, 0, 0] 1 3 [(4, (.bool false))] (sl z3n 64 [] ⟨[], [], [some [4]], []⟩ ⟨[], [], []⟩ [false, false, false, false, false, false, false, true] (tt k3 (tt k2 (pp (pp (xr l0) (xw cD)) (pp (pp (xr l0) (xw aU)) (tt k1 (tt k0 nn))))))))) (fun k3 => (sl z3n 68 [] ⟨[], [], v8g, v8i⟩ ⟨[], [], []⟩ [false, false, false, false, false, false, false, false] (tt k3 (tt k2 (pp (pp (xr l0) (xw cD)) (pp (pp (xr l0) (xw aU)) (tt k1 (tt k0 nn)))))))))))))))))
 | .h1 v10 => (lb (fun k0 => (lo fun aG => (lo fun aT => (lb (fun k1 => (lr 79 6 [1, 1, 1, 1, 1, 1, 0, 1, 0, 0, 1, 0, 0, 1, 0, 0] 1 3 [(4, (.bool false))] (sl z3n 19 [] ⟨[], [], [some [4]], []⟩ ⟨[], [], []⟩ [true, true] (tt k1 (ww aT (ww aG (tt k0 nn))))))) (fun k1 => (sl z3n 23 [] ⟨[], [], v8g, v8i⟩ ⟨[], [], []⟩ [true, false] (tt k1 (ww aT (ww aG (tt k0 nn)))))))))) (fun k0 => (lr 79 3 [1, 1, 1, 1, 1, 1, 0] 1 3 [(4, (.bool true))] (sl z3n 14 [] ⟨[], [], [some [4]], []⟩ ⟨[], [], []⟩ [false] (tt k0 nn)))))
theorem x2e (l0 : List (List R6)) (x1 : Int) : Wm prog (Zy prog 6) (lonC l0 x1) (Zd prog 6 [(.dat l0.length (Zz l0)), (.int .i64 x1)] true []) (y5v l0 x1) := (sl z3n 11 [] ⟨[], [], v8h, v8j⟩ ⟨[], [], []⟩ [] nn)
theorem lon_ends (l0 : List (List R6)) (x1 : Int) (n : Nat) (vs : List AVal) (h : Yj (Jy l0 x1) n (y5v l0 x1) = .ret vs) : Kv prog (Zy prog 6) (Zd prog 6 [(.dat l0.length (Zz l0)), (.int .i64 x1)] true []) vs := by
 have := Zn (x8x l0 x1) n _ (x2e l0 x1)
 rwa [h] at this
end Go.Am
namespace Go.Am
open Go.Proofs
theorem v8u {X : List R6} (h : grtV X = false) : X.length ≤ 8 ∨ (400 < X.length ∧ X.length ≤ 420) := by
 have := of_decide_eq_false h
 omega
theorem sck_z {X : List R6} (h : (Xn X != 0) = false) : Xn X = 0 := by simpa using h
theorem sck_l {X : List R6} (h : Xn X = 0) (k : X.length ≤ 8 ∨ (400 < X.length ∧ X.length ≤ 420)) : X.length ≤ 8 := by
 have := (Sol.of h).len; omega
theorem w6b : ∀ l : List (List R6), y3d l = y7f l
 | [] => rfl
 | s :: r => by unfold y3d y7f; rw [v1m, w6b r]
theorem y6n : ∀ l : List (List R6), y3d l = 0 → ∀ s ∈ l, Xn s = 0
 | [], _, s, h => by cases h
 | t :: r, h, s, hs => by
  unfold y3d at h
  rcases Yr (Xn t != 0) with q | q
  ·rw [q, cond_true] at h; rw [h] at q; cases q
  ·rw [q, cond_false] at h
   rcases List.mem_cons.1 hs with rfl | hs
   ·exact sck_z q
   ·exact y6n r h s hs
theorem v7y {l : List (List R6)} (hl : ∀ s ∈ l, s.length ≤ 8 ∨ (400 < s.length ∧ s.length ≤ 420)) (i : Int) : Jz l i = z0o l i ∧ y0t l i = y0l l i := by
 unfold Jz z0o y0t y0l
 rw [w6b]
 refine ⟨?_, rfl⟩
 cases decide ((l.length : Int) > 60) with
 | true => rfl
 | false =>
  rw [cond_false, cond_false]
  rcases Yr (y7f l != 0) with q | q
  ·rw [q]; rfl
  ·rw [q, cond_false, cond_false]
   by_cases h1 : i < 0
   ·rw [Zt h1]; rfl
   ·by_cases h2 : i ≥ (l.length : Int)
    ·rw [Zo h1, z6e h2]; rfl
    ·rw [Zo h1, z7n h2, cond_false, cond_false, cond_false, cond_false]
     unfold neL rnL
     have hz : y3d l = 0 := by rw [w6b]; simpa using q
     congr 1
     refine List.filter_congr fun j hj => ?_
     have hj := List.mem_range.1 hj
     unfold y8p y8o
     have m1 : rd l i.toNat ∈ l := by rw [Xi (show i.toNat < l.length by omega)]; exact List.getElem_mem _
     have m2 : rd l j ∈ l := by rw [Xi hj]; exact List.getElem_mem _
     have z1 := y6n l hz _ m1
     have z2 := y6n l hz _ m2
     have l1 := sck_l z1 (hl _ m1)
     have l2 := sck_l z2 (hl _ m2)
     rw [rrl_eq z1 z2 (by omega) (by omega)]
theorem v4o {l : List (List R6)} {i : Int} (e : Jz l i = z0o l i) (hn : (Jz l i).length ≤ 1000) : ∀ (k j : Nat), j + k = (Jz l i).length → ∃ N, Yj (Jy l i) N (.to (.h1 (j : Int))) = .ret [.bool true]
 | 0, j, h => by
  refine ⟨1, ?_⟩
  rw [Zv]
  simp (disch := omega) only [Jy, Zg, Zo, cond_false, Zp]
 | k + 1, j, h => by
  obtain ⟨N, hN⟩ := v4o e hn k (j + 1) (by omega)
  have hw : IntKind.wrap .i64 ((j : Int) + 1) = ((j + 1 : Nat) : Int) := Zj (by omega)
  refine ⟨N + 1, ?_⟩
  rw [Zv]
  simp (disch := omega) only [Jy, Zg, ← e, Zt, Yy, Bool.and_true, cond_true, bne_self_eq_false, cond_false, hw]
  exact hN
theorem v8f {l : List (List R6)} {i : Int} (h : l.length ≤ 70 → ∀ s ∈ l, s.length ≤ 8 ∨ (400 < s.length ∧ s.length ≤ 420)) : ∃ N, Yj (Jy l i) N (bif decide ((l.length : Int) > 70) then (.ret [(.bool true)]) else (bif (Qy l i) then (bif (Kr l i) then (bif ((((Jz l i).length : Nat) : Int) != (((z0o l i).length : Nat) : Int)) then (.ret [(.bool false)]) else (bif ((y0t l i) != (y0l l i)) then (.ret [(.bool false)]) else (.to (.h1 0)))) else .stuck) else .stuck)) = .ret [.bool true] := by
 by_cases hl : (l.length : Int) > 70
 ·exact ⟨0, by rw [Yf hl]; rfl⟩
 ·have h := h (by omega)
  obtain ⟨e1, e2⟩ := v7y h i
  have o1 : Qy l i = true := List.all_eq_true.2 fun s hs => decide_eq_true (by have := h s hs; omega)
  have o2 : Kr l i = true := List.all_eq_true.2 fun s hs => decide_eq_true (by have := h s hs; omega)
  have hn : (Jz l i).length ≤ 1000 := by
   unfold Jz
   cases decide ((l.length : Int) > 60)
   ·cases (y3d l != 0)
    ·cases decide (i < 0)
     ·cases decide (i ≥ (l.length : Int))
      ·have := y3w l i l.length
       show (neL l i l.length).length ≤ 1000
       omega
      ·exact Nat.zero_le _
     ·exact Nat.zero_le _
    ·exact Nat.zero_le _
   ·exact Nat.zero_le _
  obtain ⟨N, hN⟩ := v4o e1 hn (Jz l i).length 0 (Nat.zero_add _)
  refine ⟨N, ?_⟩
  rw [Xx hl, cond_false, o1, cond_true, o2, cond_true, ← e1, ← e2, bne_self_eq_false, cond_false, bne_self_eq_false, cond_false]
  exact hN
theorem v4p {l : List (List R6)} {i : Int} : ∀ (k j : Nat), j + k = min l.length 70 → (∀ s ∈ l.take j, s.length ≤ 8 ∨ (400 < s.length ∧ s.length ≤ 420)) → ∃ N, Yj (Jy l i) N (.to (.h0 (j : Int))) = .ret [.bool true]
 | 0, j, h, ht => by
  obtain ⟨N, hN⟩ := v8f (l := l) (i := i) fun hl s hs => ht s (by rw [List.take_of_length_le (by omega)]; exact hs)
  refine ⟨N + 1, ?_⟩
  rw [Zv]
  by_cases hj : (j : Int) < (l.length : Int)
  ·simp only [Jy, Zg, Zt hj, Zo (show ¬ (j : Int) < 70 by omega), cond_true, cond_false]
   exact hN
  ·simp only [Jy, Zg, Zo hj, cond_false]
   exact hN
 | k + 1, j, h, ht => by
  have hj : j < l.length := by omega
  have hw : IntKind.wrap .i64 ((j : Int) + 1) = ((j + 1 : Nat) : Int) := Zj (by omega)
  rcases Yr (grtV (rd l j)) with q | q
  ·refine ⟨1, ?_⟩
   rw [Zv]
   simp (disch := omega) only [Jy, Zg, Zt, Yy, Bool.and_true, cond_true, Zk, show ∀ l, Qw l = true from fun _ => rfl, q, Zp]
  ·obtain ⟨N, hN⟩ := v4p (l := l) (i := i) k (j + 1) (by omega) fun s hs => by
    rw [List.take_add_one] at hs
    have e : l[j]? = some (rd l j) := by rw [Xi hj]; exact List.getElem?_eq_getElem _
    rw [e] at hs
    simp only [Option.toList_some, List.mem_append, List.mem_singleton] at hs
    rcases hs with hs | rfl
    ·exact ht s hs
    ·exact v8u q
   by_cases h1 : (l.length : Int) > 8
   ·by_cases h2 : (((rd l j).length : Nat) : Int) > 0
    ·refine ⟨1, ?_⟩
     rw [Zv]
     simp (disch := omega) only [Jy, Zg, Zt, Yy, Bool.and_true, cond_true, cond_false, Zk, show ∀ l, Qw l = true from fun _ => rfl, q, Yf h1, Yf h2, Zp]
    ·refine ⟨N + 1, ?_⟩
     rw [Zv]
     simp (disch := omega) only [Jy, Zg, Zt, Yy, Bool.and_true, cond_true, cond_false, Zk, show ∀ l, Qw l = true from fun _ => rfl, q, Yf h1, Xx h2, hw]
     exact hN
   ·refine ⟨N + 1, ?_⟩
    rw [Zv]
    simp (disch := omega) only [Jy, Zg, Zt, Yy, Bool.and_true, cond_true, cond_false, Zk, show ∀ l, Qw l = true from fun _ => rfl, q, Xx h1, hw]
    exact hN
theorem lon_run (l : List (List R6)) (i : Int) : ∃ N, Yj (Jy l i) N (y5v l i) = .ret [.bool true] := v4p (min l.length 70) 0 (Nat.zero_add _) fun s hs => by simp at hs
end Go.Am
namespace Go.Am
theorem rows_rel {α : Type} [Ys α] {ρ : Rho} {n : Nat} {m : Nat → Nat} {g : Nat → Nat → List AVal} (hg : ∀ i j, g i j = Ys.cells (Ys.of (g i j) : α)) {v : Value} (h : Zi ρ (.dat n fun i => [.dat (m i) (g i)]) v) :
  ∃ X : List (List α), Zi ρ (.dat X.length (Zz X)) v := by
 refine ⟨(List.range n).map fun i => lst α (m i) (g i), ?_⟩
 have dA : ((List.range n).map fun i => lst α (m i) (g i)).length = n := by simp
 have fP : ∀ i, i < n → Zz ((List.range n).map fun i => lst α (m i) (g i)) i = [.dat (lst α (m i) (g i)).length (Zz (lst α (m i) (g i)))] := fun i hi => by
  show Ys.cells (rd _ i) = _
  rw [Xi (by rw [dA]; exact hi)]
  simp only [List.getElem_map, List.getElem_range]
  rfl
 rw [dA]
 cases h with
 | datn => exact .datn _
 | datz _ a c => exact .datz _ _ _
 | dat _ _ blk base sz cap val dH hsz hv hh =>
  refine .dat n _ blk base sz cap val dH (fun i hi => by rw [fP i hi, ← hsz i hi]; rfl) (fun i j hi hj => ?_) hh
  have hj0 : j = 0 := by rw [fP i hi] at hj; simp at hj; omega
  subst hj0
  have h1 := hv i 0 hi (by simp)
  simp only [List.getElem_cons_zero] at h1
  have h2 := (Yx (α := α) (v := .dat (m i) (g i)) rfl (Yc fun k _ => hg i k)).sound h1
  simp only [fP i hi, List.getElem_cons_zero]
  exact h2
end Go.Am
end
