/- A part of a proof: several texts in one. -/
import Derived.Test.YtijpnpkolglajaaGreatKg4
set_option maxRecDepth 1000000
set_option maxHeartbeats 8000000
set_option linter.unusedVariables false
set_option linter.unusedSimpArgs false
noncomputable section
namespace Go.Am
open Go.Proofs Go.Sort Go.Shelf Go.RowKit Go.Lib
namespace Dim
variable {α β : Type} (D : Dim α β)
def ref (sec : Int → List β) (cs : List Int) : Nat → Nat → List α → List β → Nat → List α
 | 0, _, out, _, _ => out
 | k + 1, i, out, last, first =>
  bif decide (0 < i) && D.same (sec (rd cs i)) last then ref sec cs k (i + 1) (D.grow out first (rd cs (i + 1))) last first
  else ref sec cs k (i + 1) (out ++ (sec (rd cs i)).map (D.put (rd cs i) (rd cs (i + 1)))) (sec (rd cs i)) out.length
theorem ref_eq (hs : ∀ a b, D.same a b = true ↔ a = b) (l : List α) : ∀ (k i : Nat) (s : Sw α β) (out : List α) (last : List β) (first : Nat),
  s.out = out → s.last = last → (last ≠ [] → s.first = first) → (last = [] → out.length ≤ first) → (0 < i → s.fin = rd (D.cuts l) i) → (i = 0 → last = []) →
  (D.go l k i s).out = D.ref (D.sec l) (D.cuts l) k i out last first
 | 0, i, s, out, last, first, h1, h2, h3, h4, h5, h6 => h1
 | k + 1, i, s, out, last, first, h1, h2, h3, h4, h5, h6 => by
  subst h1 h2
  have e1 : D.go l (k + 1) i s = D.go l k (i + 1) (D.one l (rd (D.cuts l) i) (rd (D.cuts l) (i + 1)) s) := rfl
  rw [e1]
  unfold ref
  rcases Yn (decide (0 < (D.sec l (rd (D.cuts l) i)).length) && ((s.fin == rd (D.cuts l) i) && D.same s.last (D.sec l (rd (D.cuts l) i)))) with q | q
  ·have e : D.one l (rd (D.cuts l) i) (rd (D.cuts l) (i + 1)) s = ⟨D.grow s.out s.first (rd (D.cuts l) (i + 1)), s.last, s.first, rd (D.cuts l) (i + 1)⟩ := by unfold one; rw [q]; rfl
   simp only [Bool.and_eq_true, decide_eq_true_eq] at q
   obtain ⟨q1, q2, q3⟩ := q
   have q3 := (hs _ _).1 q3
   have hne : s.last ≠ [] := fun h => by rw [h] at q3; rw [← q3] at q1; exact Nat.lt_irrefl _ q1
   have hi : 0 < i := Nat.pos_of_ne_zero fun h => hne (h6 h)
   have e2 : (decide (0 < i) && D.same (D.sec l (rd (D.cuts l) i)) s.last) = true := by
    rw [decide_eq_true hi, Bool.true_and, hs, q3]
   rw [e2, cond_true, e]
   refine ref_eq hs l k (i + 1) _ _ _ _ ?_ rfl h3 (fun h => absurd h hne) (fun _ => rfl) (fun h => by omega)
   rw [h3 hne]
  ·have e : D.one l (rd (D.cuts l) i) (rd (D.cuts l) (i + 1)) s = ⟨s.out ++ (D.sec l (rd (D.cuts l) i)).map (D.put (rd (D.cuts l) i) (rd (D.cuts l) (i + 1))), D.sec l (rd (D.cuts l) i), s.out.length, rd (D.cuts l) (i + 1)⟩ := by unfold one; rw [q]; rfl
   rcases Yn (decide (0 < i) && D.same (D.sec l (rd (D.cuts l) i)) s.last) with q2 | q2
   ·rw [q2, cond_true, e]
    simp only [Bool.and_eq_true, decide_eq_true_eq] at q2
    obtain ⟨hi, q3⟩ := q2
    have q3 := (hs _ _).1 q3
    rw [(hs s.last (D.sec l (rd (D.cuts l) i))).2 q3.symm, Bool.and_true, h5 hi] at q
    have hz : D.sec l (rd (D.cuts l) i) = [] := by
     cases h : D.sec l (rd (D.cuts l) i) with
     | nil => rfl
     | cons a b => rw [h] at q; simp at q
    have hl : s.last = [] := by rw [← q3, hz]
    have hf := h4 hl
    rw [hz, List.map_nil, List.append_nil]
    refine ref_eq hs l k (i + 1) _ _ _ _ ?_ hl.symm (fun h => absurd hl h) (fun _ => ?_) (fun _ => rfl) (fun h => by omega)
    ·exact (D.grow_nil _ _ _ hf).symm
    ·rw [D.grow_length]; exact hf
   ·rw [q2, cond_false, e]
    exact ref_eq hs l k (i + 1) _ _ _ _ rfl rfl (fun _ => rfl) (fun h => by rw [h]; simp) (fun _ => rfl) (fun h => by omega)
theorem out_eq (hs : ∀ a b, D.same a b = true ↔ a = b) (l : List α) : D.out l = D.ref (D.sec l) (D.cuts l) ((D.cuts l).length - 1) 0 [] [] 0 :=
 D.ref_eq hs l _ 0 _ [] [] 0 rfl rfl (fun _ => rfl) (fun _ => Nat.le_refl _) (fun h => absurd h (Nat.lt_irrefl _)) (fun _ => rfl)
end Dim
theorem v8w (l : List R4) : D4.cuts l = xsV l [] := by
 unfold Dim.cuts xsV
 rw [x2z, show z1b ([] : List R4) = [] from rfl, List.append_nil]; rfl
theorem v8i (l : List R4) (x y : Int) : w9j 2 l [] x y = has4V l x y := by
 unfold w9j Qu
 show (has4V l x y || has4V [] x y) = _
 rw [show has4V [] x y = false from rfl, Bool.or_false]
theorem x1x {l : List R4} {x : Int} {s : R2} (h : s ∈ D4.inn l x) : ∃ r ∈ l, r.a ≤ x ∧ x < r.c ∧ s = ⟨r.b, r.d⟩ := by
 obtain ⟨r, hr, e⟩ := List.mem_map.1 h
 obtain ⟨h1, h2⟩ := List.mem_filter.1 hr
 simp only [Bool.and_eq_true, decide_eq_true_eq] at h2
 exact ⟨r, h1, h2.1, h2.2, e.symm⟩
theorem v5l {l : List R4} {x : Int} {r : R4} (h : r ∈ l) (h1 : r.a ≤ x) (h2 : x < r.c) : (⟨r.b, r.d⟩ : R2) ∈ D4.inn l x := by
 refine List.mem_map.2 ⟨r, List.mem_filter.2 ⟨h, ?_⟩, rfl⟩
 simp only [Bool.and_eq_true, decide_eq_true_eq]
 exact ⟨h1, h2⟩
theorem sec_eq (l : List R4) (hv : l.all z7z = true) (hl : l.length ≤ 400) (x : Int) : D4.sec l x = x4g 2 l [] x := by
 have hin := D4.inn_length l x
 have hvi : (D4.inn l x).all y1x = true := List.all_eq_true.2 fun s hs => by
  obtain ⟨r, hr, _, _, rfl⟩ := x1x hs
  have := List.all_eq_true.1 hv r hr
  simp only [z7z, y1x, Bool.and_eq_true, decide_eq_true_eq] at this ⊢
  omega
 have e1 : D4.sec l x = swV (D4.inn l x) := by
  show Xh (D4.inn l x) = _
  unfold Xh
  rw [decide_eq_false (by omega), hvi]; rfl
 obtain ⟨c1, c2⟩ := w0j _ hvi
 obtain ⟨y1, y2⟩ := z9k (z0a l ++ z0a [])
 have e2 : x4g 2 l [] x = z7p (ysV l []) ((ysV l []).map fun y => has4V l x y) := by
  unfold x4g
  congr 1
  exact List.map_congr_left fun y _ => v8i l x y
 obtain ⟨d1, d2⟩ := w9k (ysV l []) y1 (fun y => has4V l x y) (D4.inn l x) (fun s hs => by
  obtain ⟨r, hr, _, _, rfl⟩ := x1x hs
  unfold ysV
  exact ⟨(y2 _).2 (List.mem_append.2 (.inl (List.mem_flatMap.2 ⟨r, hr, by simp⟩))), (y2 _).2 (List.mem_append.2 (.inl (List.mem_flatMap.2 ⟨r, hr, by simp⟩)))⟩) (fun y => by
  unfold has4V
  rw [List.any_eq_true]
  constructor
  ·rintro ⟨r, hr, h⟩
   simp only [in4, Bool.and_eq_true, decide_eq_true_eq] at h
   exact ⟨_, v5l hr h.1 h.2.1, h.2.2.1, h.2.2.2⟩
  ·rintro ⟨s, hs, h1, h2⟩
   obtain ⟨r, hr, r1, r2, rfl⟩ := x1x hs
   refine ⟨r, hr, ?_⟩
   simp only [in4, Bool.and_eq_true, decide_eq_true_eq]
   exact ⟨r1, r2, h1, h2⟩)
 rw [e1, e2]
 exact v2w _ _ c1 d1 fun y => by rw [c2, d2]
theorem w3e (l : List R4) : ∀ (k i : Nat) (out : List R4) (last : List R2) (first : Nat), jF 2 l [] k i out last first = D4.ref (x4g 2 l []) (xsV l []) k i out last first
 | 0, _, _, _, _ => rfl
 | k + 1, i, out, last, first => by
  unfold jF Dim.ref
  rw [w3e l k, w3e l k]
  rfl
theorem joV_eq (l : List R4) (hv : l.all z7z = true) (hl : l.length ≤ 400) : D4.out l = joV 2 l [] := by
 rw [D4.out_eq (fun a b => decide_eq_true_iff) l, joV, w3e, ← v8w]
 congr 1
 funext x
 exact sec_eq l hv hl x
theorem w5h (l : List R6) : D6.cuts l = Yd l [] := by
 unfold Dim.cuts Yd
 rw [x2z, show z1a ([] : List R6) = [] from rfl, List.append_nil]; rfl
theorem v3e (l : List R6) (z : Int) : D6.inn l z = atV l z := rfl
theorem w0e (r : R6) : z9f r = x6f r := by
 unfold z9f x6f
 simp only [y0p, y0q]
 rw [Bool.eq_iff_iff]
 simp only [Bool.and_eq_true, decide_eq_true_eq]
 have m1 : ∀ x y z : Int, x ≤ min y z ↔ x ≤ y ∧ x ≤ z := fun x y z => by omega
 have m2 : ∀ x y z : Int, max y z ≤ x ↔ y ≤ x ∧ z ≤ x := fun x y z => by omega
 simp only [ge_iff_le, m1, m2]
 constructor <;> intro h <;> (repeat' apply And.intro) <;> omega
theorem w4u (l : List R6) (hv : l.all z9f = true) (z : Int) : (atV l z).all z7z = true := List.all_eq_true.2 fun s hs => by
 obtain ⟨r, hr, rfl⟩ := List.mem_map.1 hs
 have := List.all_eq_true.1 hv r (List.mem_filter.1 hr).1
 rw [w0e] at this
 simp only [x6f, Bool.and_eq_true, decide_eq_true_eq] at this
 show z7z ⟨r.a, r.b, r.d, r.e⟩ = true
 simp only [z7z, Bool.and_eq_true, decide_eq_true_eq]
 (repeat' apply And.intro) <;> omega
section
variable (l : List R6) (hv : l.all z9f = true) (hl : l.length ≤ 400)
include hv hl
theorem v3a (z : Int) : D4.out (atV l z) = joV 2 (atV l z) [] := joV_eq _ (w4u l hv z) (Nat.le_trans (Qt l z) hl)
theorem v2z (z : Int) : badS l z = z7o 2 l [] z := by
 have h1 := v3a l hv hl z
 have h2 := Qt l z
 have e : joV 2 (atV [] z) [] = [] := rfl
 unfold badS z7o y6f
 rw [e, show atV ([] : List R6) z = [] from rfl, v3e]
 unfold z2z
 rw [decide_eq_false (by omega), w4u l hv z, h1, cond_false, cond_true]
 by_cases h : 400 < (joV 2 (atV l z) []).length
 ·rw [decide_eq_true (show ((joV 2 (atV l z) []).length : Int) > 400 by omega), decide_eq_true h]; rfl
 ·rw [decide_eq_false (show ¬ ((joV 2 (atV l z) []).length : Int) > 400 by omega), decide_eq_false h]; rfl
theorem v3r (z : Int) (h : badS l z = false) : D6.sec l z = y6f 2 l [] z := by
 have h1 := v3a l hv hl z
 have h2 := Qt l z
 rw [v2z l hv hl] at h
 show Xg (D6.inn l z) = joV 2 (atV l z) (atV [] z)
 rw [v3e]
 unfold Xg
 have h3 : ¬ 400 < (joV 2 (atV l z) []).length := fun hh => by
  unfold z7o y6f at h
  rw [show atV ([] : List R6) z = [] from rfl, decide_eq_true hh] at h
  cases h
 rw [decide_eq_false (by omega), w4u l hv z, h1, cond_false, cond_true, decide_eq_false (by omega)]
 rfl
theorem x1t : ∀ (k i : Nat) (out : List R6) (last : List R4) (first : Nat), jsF 2 l [] k i out last first = bif okF l k i then some (D6.ref (D6.sec l) (D6.cuts l) k i out last first) else none
 | 0, _, _, _, _ => rfl
 | k + 1, i, out, last, first => by
  unfold jsF okF Dim.ref
  rw [← w5h, ← v2z l hv hl]
  rcases Yn (badS l (rd (D6.cuts l) i)) with q | q
  ·rw [q]; rfl
  ·have := v3r l hv hl _ q
   rw [q, cond_false, cond_false, this, x1t k, x1t k]
   have e : D6.same (y6f 2 l [] (rd (D6.cuts l) i)) last = Kr (y6f 2 l [] (rd (D6.cuts l) i)) last := rfl
   rw [e]
   cases (decide (0 < i) && Kr (y6f 2 l [] (rd (D6.cuts l) i)) last) <;> rfl
theorem jsO_eq : jsO 2 l [] = bif okF l ((D6.cuts l).length - 1) 0 then some (D6.out l) else none := by
 unfold jsO
 rw [x1t l hv hl, ← w5h, D6.out_eq (fun a b => decide_eq_true_iff) l]
end
theorem z2q (l : List R6) : Ye l = Wa l := by
 unfold Ye Wa
 by_cases h : 400 < l.length
 ·rw [decide_eq_true h]; rfl
 ·rw [decide_eq_false h, cond_false, cond_false, show l.all x6f = l.all z9f from by congr 1; funext r; exact (w0e r).symm]
  rcases Yn (l.all z9f) with hv | hv
  ·rw [hv, cond_true, cond_true]
   unfold rckF y7z z3p
   rw [jsO_eq l hv (by omega)]
   rcases Yn (okF l ((D6.cuts l).length - 1) 0) with q | q
   ·rw [q, cond_true, cond_true]
    show _ = bif decide (((D6.out l).length : Int) ≤ 400) then (bif Jd (D6.out l) l then 0 else 8) else 8
    by_cases h2 : ((D6.out l).length : Int) > 400
    ·rw [decide_eq_true h2, decide_eq_false (by omega)]; rfl
    ·rw [decide_eq_false h2, decide_eq_true (by omega)]; rfl
   ·rw [q]; rfl
  ·rw [hv]; rfl
end Go.Am
namespace Go.Am
open Go.Proofs.Tryz
open Go.Proofs
inductive blkS where
 | h0 (v3 : List R6) (v8 : Int)
def blkC (l0 : List R6) : blkS → Cfg
 | .h0 v3 v8 => ⟨⟨38, 0, true⟩, none, (Yx prog 61 [1, 1, 0, 1, 0, 0] 0), none, (Zy prog 15), ⟨Xb [(3, (.sla 0 6 0 v3.length (.un 6))), (6, (.dat l0.length (Zz l0))), (7, (ii (l0.length : Int))), (8, (ii v8))], Ue [⟨rows v3.length (Zz v3), 130, some ⟨6, v3.length, (Zz v3)⟩⟩] 0, 1, [], true⟩, [], .leaf⟩
def blkN0 : List (Option (List Nat)) := [some [3, 6, 7, 8]]
def blkM0 : List (Option (List Nat)) := []
def z6p (l0 : List R6) : blkS → Xs blkS
 | .h0 v3 v8 => (bif (decide (v8 < (l0.length : Int))) then (bif ((decide (0 ≤ v8 ∧ v8 < (l0.length : Int))) && true) then (bif (Nat.beq 6 6 && ((decide (0 + v3.length = v3.length)) && decide ((v3.length + 1 + 1) * (48 + 1) ≤ Ub))) then (.to (.h0 (v3 ++ [(R6.mk (rd l0 v8.toNat).a (rd l0 v8.toNat).b (rd l0 v8.toNat).c (rd l0 v8.toNat).d (rd l0 v8.toNat).e (rd l0 v8.toNat).f)]) (IntKind.wrap .i64 (v8 + 1)))) else .stuck) else .stuck) else (.ret [(.dat v3.length (Zz v3))]))
def y5o (l0 : List R6) : Xs blkS := (.to (.h0 ([] : List R6) 0))
theorem x9g (l0 : List R6) : ∀ s, Xt prog (Zy prog 61) (blkC l0) (blkC l0 s) (z6p l0 s)
 | .h0 v3 v8 => (lb (fun k0 => (lo fun o0 => (lo fun o1 => (sl Vx 49 [] ⟨[3], [], blkN0, blkM0⟩ ⟨[(3, .len (v3 ++ [(R6.mk (rd l0 (tn v8)).a (rd l0 (tn v8)).b (rd l0 (tn v8)).c (rd l0 (tn v8)).d (rd l0 (tn v8)).e (rd l0 (tn v8)).f)]).length)], [.rowed 6 (v3 ++ [(R6.mk (rd l0 (tn v8)).a (rd l0 (tn v8)).b (rd l0 (tn v8)).c (rd l0 (tn v8)).d (rd l0 (tn v8)).e (rd l0 (tn v8)).f)]).length (Zz (v3 ++ [(R6.mk (rd l0 (tn v8)).a (rd l0 (tn v8)).b (rd l0 (tn v8)).c (rd l0 (tn v8)).d (rd l0 (tn v8)).e (rd l0 (tn v8)).f)]))], []⟩ [true] (pp (xL (v3.length + 1) (v3 ++ [(R6.mk (rd l0 (tn v8)).a (rd l0 (tn v8)).b (rd l0 (tn v8)).c (rd l0 (tn v8)).d (rd l0 (tn v8)).e (rd l0 (tn v8)).f)]).length) (pp (xL (v3.length + 1) (v3 ++ [(R6.mk (rd l0 (tn v8)).a (rd l0 (tn v8)).b (rd l0 (tn v8)).c (rd l0 (tn v8)).d (rd l0 (tn v8)).e (rd l0 (tn v8)).f)]).length) (pp (xS (v3.length + 1) (Zg (Zz v3) 0 v3.length 6 [(ii (rd l0 (tn v8)).a), (ii (rd l0 (tn v8)).b), (ii (rd l0 (tn v8)).c), (ii (rd l0 (tn v8)).d), (ii (rd l0 (tn v8)).e), (ii (rd l0 (tn v8)).f)]) (Zz (v3 ++ [(R6.mk (rd l0 (tn v8)).a (rd l0 (tn v8)).b (rd l0 (tn v8)).c (rd l0 (tn v8)).d (rd l0 (tn v8)).e (rd l0 (tn v8)).f)]))) (pp (pp (xF (Zg (Zz v3) 0 v3.length 6 [(ii (rd l0 (tn v8)).a), (ii (rd l0 (tn v8)).b), (ii (rd l0 (tn v8)).c), (ii (rd l0 (tn v8)).d), (ii (rd l0 (tn v8)).e), (ii (rd l0 (tn v8)).f)])) nn) (ww o1 (ww o0 (tt k0 nn))))))))))) (fun k0 => (lr 38 3 [1, 1, 1, 1, 1, 1, 0] 1 15 [(2, (.dat v3.length (Zz v3)))] (sl Vx 12 [] ⟨[], [0], [some [2]], []⟩ ⟨[(2, .frz v3.length v3.length (Zz v3) (Zz v3))], [], []⟩ [false] (pp (xZ (z7f 6 6 0 v3.length v3.length (Zz v3)) v3.length (Zz v3)) (pp (xL v3.length v3.length) (pp (xS v3.length (Zz v3) (Zz v3)) (pp (fl v3 nn) (tt k0 nn)))))))))
theorem x3k (l0 : List R6) : Xt prog (Zy prog 61) (blkC l0) (Zb prog 61 [(.dat l0.length (Zz l0))] true []) (y5o l0) := (sl Vx 17 [(130, 6, Zz ([] : List R6))] ⟨[0], [], blkN0, blkM0⟩ ⟨[(3, .grow 0 6)], [], []⟩ [] (pp (fl ([] : List R6) nn) nn))
theorem w9m (l0 : List R6) (n : Nat) (vs : List AVal) (h : Yu (z6p l0) n (y5o l0) = .ret vs) : Jb prog (Zy prog 61) (Zb prog 61 [(.dat l0.length (Zz l0))] true []) vs := by
 have := Zh (x9g l0) n _ (x3k l0)
 rwa [h] at this
inductive volS where
 | h0 (v3 : Int) (v10 : Int)
def volC (l0 : List R6) : volS → Cfg
 | .h0 v3 v10 => ⟨⟨35, 0, true⟩, none, (Yx prog 62 [1, 1, 0, 1, 0, 0] 0), none, (Zy prog 15), ⟨Xb [(3, (ii v3)), (8, (.dat l0.length (Zz l0))), (9, (ii (l0.length : Int))), (10, (ii v10))], Ue [] 0, 0, [], true⟩, [], .leaf⟩
def volN0 : List (Option (List Nat)) := [some [3, 8, 9, 10]]
def volM0 : List (Option (List Nat)) := []
def z5x (l0 : List R6) : volS → Xs volS
 | .h0 v3 v10 => (bif (decide (v10 < (l0.length : Int))) then (bif ((decide (0 ≤ v10 ∧ v10 < (l0.length : Int))) && true) then (.to (.h0 (IntKind.wrap .i64 (v3 + (IntKind.wrap .i64 ((IntKind.wrap .i64 ((IntKind.wrap .i64 (1 * (IntKind.wrap .i64 ((rd l0 v10.toNat).d - (rd l0 v10.toNat).a)))) * (IntKind.wrap .i64 ((rd l0 v10.toNat).e - (rd l0 v10.toNat).b)))) * (IntKind.wrap .i64 ((rd l0 v10.toNat).f - (rd l0 v10.toNat).c)))))) (IntKind.wrap .i64 (v10 + 1)))) else .stuck) else (.ret [(.int .i64 v3)]))
def y4c (l0 : List R6) : Xs volS := (.to (.h0 0 0))
theorem x6c (l0 : List R6) : ∀ s, Xt prog (Zy prog 62) (volC l0) (volC l0 s) (z5x l0 s)
 | .h0 v3 v10 => (lb (fun k0 => (lo fun o0 => (sl Vx 221 [] ⟨[], [], volN0, volM0⟩ ⟨[], [], []⟩ [true, true, false, false, false, true, true, false, true, false, true, false, true, true, true, false, true, true, false, true, true, false, false, true, true, true, false] (ww o0 (tt k0 nn))))) (fun k0 => (lr 35 3 [1, 1, 1, 1, 1, 1, 0] 1 15 [(2, (ii v3))] (sl Vx 12 [] ⟨[], [], [some [2]], []⟩ ⟨[], [], []⟩ [false] (tt k0 nn)))))
theorem y9g (l0 : List R6) : Xt prog (Zy prog 62) (volC l0) (Zb prog 62 [(.dat l0.length (Zz l0))] true []) (y4c l0) := (sl Vx 17 [] ⟨[], [], volN0, volM0⟩ ⟨[], [], []⟩ [] nn)
theorem w5o (l0 : List R6) (n : Nat) (vs : List AVal) (h : Yu (z5x l0) n (y4c l0) = .ret vs) : Jb prog (Zy prog 62) (Zb prog 62 [(.dat l0.length (Zz l0))] true []) vs := by
 have := Zh (x6c l0) n _ (y9g l0)
 rwa [h] at this
inductive comS where
 | h0 (v5 : List R6) (v14 : Int)
 | h1 (v5 : List R6) (v14 : Int) (v20 : Int) (aA : Int) (aD : Int) (aF : Int) (aH : Int) (aJ : Int) (bK : Int)
def comC (l0 : List R6) (l1 : List R6) : comS → Cfg
 | .h0 v5 v14 => ⟨⟨38, 0, true⟩, none, (Yx prog 67 [1, 1, 0, 1, 0, 0] 0), none, (Zy prog 3), ⟨Xb [(1, (.dat l1.length (Zz l1))), (5, (.sla 0 6 0 v5.length (.un 6))), (12, (.dat l0.length (Zz l0))), (13, (ii (l0.length : Int))), (14, (ii v14))], Ue [⟨rows v5.length (Zz v5), 130, some ⟨6, v5.length, (Zz v5)⟩⟩] 0, 1, [], true⟩, [], .leaf⟩
 | .h1 v5 v14 v20 aA aD aF aH aJ bK => ⟨⟨38, 0, true⟩, none, (Yx prog 67 [1, 1, 0, 1, 0, 0, 1, 1, 0, 0, 1, 1, 0, 0] 0), none, (Zy prog 3), ⟨Xb [(1, (.dat l1.length (Zz l1))), (5, (.sla 1 6 0 v5.length (.un 6))), (7, (.ptr 0 0)), (12, (.dat l0.length (Zz l0))), (13, (ii (l0.length : Int))), (14, (ii v14)), (18, (.dat l1.length (Zz l1))), (19, (ii (l1.length : Int))), (20, (ii v20))], Ue [⟨[(ii aA), (ii aD), (ii aF), (ii aH), (ii aJ), (ii bK)], 130, none⟩, ⟨rows v5.length (Zz v5), 130, some ⟨6, v5.length, (Zz v5)⟩⟩] 0, 2, [], true⟩, [], .leaf⟩
def comN0 : List (Option (List Nat)) := [some [1, 5, 12, 13, 14]]
def comM0 : List (Option (List Nat)) := []
def w4l : List (Option (List Nat)) := [some [1, 5, 7, 12, 13, 14, 18, 19, 20]]
def w4m : List (Option (List Nat)) := []
def Jx (l0 : List R6) (l1 : List R6) : comS → Xs comS
 | .h0 v5 v14 => (bif (decide (v14 < (l0.length : Int))) then (bif ((decide (0 ≤ v14 ∧ v14 < (l0.length : Int))) && true) then (.to (.h1 v5 v14 0 (rd l0 v14.toNat).a (rd l0 v14.toNat).b (rd l0 v14.toNat).c (rd l0 v14.toNat).d (rd l0 v14.toNat).e (rd l0 v14.toNat).f)) else .stuck) else (.ret [(.dat v5.length (Zz v5))]))
 | .h1 v5 v14 v20 aA aD aF aH aJ bK => (bif (decide (v20 < (l1.length : Int))) then (bif ((decide (0 ≤ v20 ∧ v20 < (l1.length : Int))) && true) then (bif (decide ((Kd aA (rd l1 v20.toNat).a) ≥ (Kc aH (rd l1 v20.toNat).d))) then (.to (.h1 v5 v14 (IntKind.wrap .i64 (v20 + 1)) aA aD aF aH aJ bK)) else (bif (decide ((Kd aD (rd l1 v20.toNat).b) ≥ (Kc aJ (rd l1 v20.toNat).e))) then (.to (.h1 v5 v14 (IntKind.wrap .i64 (v20 + 1)) aA aD aF aH aJ bK)) else (bif (decide ((Kd aF (rd l1 v20.toNat).c) ≥ (Kc bK (rd l1 v20.toNat).f))) then (.to (.h1 v5 v14 (IntKind.wrap .i64 (v20 + 1)) aA aD aF aH aJ bK)) else (bif (Nat.beq 6 6 && ((decide (0 + v5.length = v5.length)) && decide ((v5.length + 1 + 1) * (48 + 1) ≤ Ub))) then (.to (.h1 (v5 ++ [(R6.mk (Kd aA (rd l1 v20.toNat).a) (Kd aD (rd l1 v20.toNat).b) (Kd aF (rd l1 v20.toNat).c) (Kc aH (rd l1 v20.toNat).d) (Kc aJ (rd l1 v20.toNat).e) (Kc bK (rd l1 v20.toNat).f))]) v14 (IntKind.wrap .i64 (v20 + 1)) aA aD aF aH aJ bK)) else .stuck)))) else .stuck) else (.to (.h0 v5 (IntKind.wrap .i64 (v14 + 1)))))
def y5m (l0 : List R6) (l1 : List R6) : Xs comS := (.to (.h0 ([] : List R6) 0))
theorem x9c (l0 : List R6) (l1 : List R6) : ∀ s, Xt prog (Zy prog 67) (comC l0 l1) (comC l0 l1 s) (Jx l0 l1 s)
 | .h0 v5 v14 => (lb (fun k0 => (lo fun o0 => (sl Vx 24 [] ⟨[1, 0], [], w4l, w4m⟩ ⟨[], [], []⟩ [true] (pp (fl v5 nn) (ww o0 (tt k0 nn)))))) (fun k0 => (lr 38 3 [1, 1, 1, 1, 1, 1, 0] 1 3 [(4, (.dat v5.length (Zz v5)))] (sl Vx 12 [] ⟨[], [0], [some [4]], []⟩ ⟨[(4, .frz v5.length v5.length (Zz v5) (Zz v5))], [], []⟩ [false] (pp (xZ (z7f 6 6 0 v5.length v5.length (Zz v5)) v5.length (Zz v5)) (pp (xL v5.length v5.length) (pp (xS v5.length (Zz v5) (Zz v5)) (pp (fl v5 nn) (tt k0 nn)))))))))
 | .h1 v5 v14 v20 aA aD aF aH aJ bK => (lb (fun k0 => (lo fun aG => (lb (fun k1 => (sl Vx 82 [] ⟨[0, 1], [], w4l, w4m⟩ ⟨[], [], []⟩ [true, true, false, false, false, false, false, false, false, false, true, false] (pp (fl v5 nn) (tt k1 (ww aG (tt k0 nn)))))) (fun k1 => (lb (fun k2 => (sl Vx 110 [] ⟨[0, 1], [], w4l, w4m⟩ ⟨[], [], []⟩ [true, true, false, false, false, false, false, false, false, false, false, true, true, false, true, false, true, false, true, false, true, false, true, false, true, false, true, false, true, false] (pp (fl v5 nn) (tt k2 (tt k1 (ww aG (tt k0 nn))))))) (fun k2 => (lb (fun k3 => (sl Vx 138 [] ⟨[0, 1], [], w4l, w4m⟩ ⟨[], [], []⟩ [true, true, false, false, false, false, false, false, false, false, false, true, true, false, true, false, true, false, true, false, true, false, true, false, true, false, true, false, false, true, true, true, false, true, true, false, true, true, false, true, true, false, true, true, false, true, true, false, true, true, false, true, true, false, true, false] (pp (fl v5 nn) (tt k3 (tt k2 (tt k1 (ww aG (tt k0 nn)))))))) (fun k3 => (lo fun o0 => (sl Vx 158 [] ⟨[0, 8], [], w4l, w4m⟩ ⟨[(5, .len (v5 ++ [(R6.mk (Kd aA (rd l1 (tn v20)).a) (Kd aD (rd l1 (tn v20)).b) (Kd aF (rd l1 (tn v20)).c) (Kc aH (rd l1 (tn v20)).d) (Kc aJ (rd l1 (tn v20)).e) (Kc bK (rd l1 (tn v20)).f))]).length)], [.keep, .rowed 6 (v5 ++ [(R6.mk (Kd aA (rd l1 (tn v20)).a) (Kd aD (rd l1 (tn v20)).b) (Kd aF (rd l1 (tn v20)).c) (Kc aH (rd l1 (tn v20)).d) (Kc aJ (rd l1 (tn v20)).e) (Kc bK (rd l1 (tn v20)).f))]).length (Zz (v5 ++ [(R6.mk (Kd aA (rd l1 (tn v20)).a) (Kd aD (rd l1 (tn v20)).b) (Kd aF (rd l1 (tn v20)).c) (Kc aH (rd l1 (tn v20)).d) (Kc aJ (rd l1 (tn v20)).e) (Kc bK (rd l1 (tn v20)).f))]))], []⟩ [true, true, false, false, false, false, false, false, false, false, false, true, true, false, true, false, true, false, true, false, true, false, true, false, true, false, true, false, false, true, true, true, false, true, true, false, true, true, false, true, true, false, true, true, false, true, true, false, true, true, false, true, true, false, false, false, true] (pp (xL (v5.length + 1) (v5 ++ [(R6.mk (Kd aA (rd l1 (tn v20)).a) (Kd aD (rd l1 (tn v20)).b) (Kd aF (rd l1 (tn v20)).c) (Kc aH (rd l1 (tn v20)).d) (Kc aJ (rd l1 (tn v20)).e) (Kc bK (rd l1 (tn v20)).f))]).length) (pp (xL (v5.length + 1) (v5 ++ [(R6.mk (Kd aA (rd l1 (tn v20)).a) (Kd aD (rd l1 (tn v20)).b) (Kd aF (rd l1 (tn v20)).c) (Kc aH (rd l1 (tn v20)).d) (Kc aJ (rd l1 (tn v20)).e) (Kc bK (rd l1 (tn v20)).f))]).length) (pp (xS (v5.length + 1) (Zg (Zz v5) 0 v5.length 6 [(ii (Kd aA (rd l1 (tn v20)).a)), (ii (Kd aD (rd l1 (tn v20)).b)), (ii (Kd aF (rd l1 (tn v20)).c)), (ii (Kc aH (rd l1 (tn v20)).d)), (ii (Kc aJ (rd l1 (tn v20)).e)), (ii (Kc bK (rd l1 (tn v20)).f))]) (Zz (v5 ++ [(R6.mk (Kd aA (rd l1 (tn v20)).a) (Kd aD (rd l1 (tn v20)).b) (Kd aF (rd l1 (tn v20)).c) (Kc aH (rd l1 (tn v20)).d) (Kc aJ (rd l1 (tn v20)).e) (Kc bK (rd l1 (tn v20)).f))]))) (pp (pp (xF (Zg (Zz v5) 0 v5.length 6 [(ii (Kd aA (rd l1 (tn v20)).a)), (ii (Kd aD (rd l1 (tn v20)).b)), (ii (Kd aF (rd l1 (tn v20)).c)), (ii (Kc aH (rd l1 (tn v20)).d)), (ii (Kc aJ (rd l1 (tn v20)).e)), (ii (Kc bK (rd l1 (tn v20)).f))])) nn) (ww o0 (tt k3 (tt k2 (tt k1 (ww aG (tt k0 nn)))))))))))))))))))) (fun k0 => (sl Vx 13 [] ⟨[1], [], comN0, comM0⟩ ⟨[], [], []⟩ [false] (pp (fl v5 nn) (tt k0 nn)))))
theorem x3f (l0 : List R6) (l1 : List R6) : Xt prog (Zy prog 67) (comC l0 l1) (Zb prog 67 [(.dat l0.length (Zz l0)), (.dat l1.length (Zz l1))] true []) (y5m l0 l1) := (sl Vx 17 [(130, 6, Zz ([] : List R6))] ⟨[0], [], comN0, comM0⟩ ⟨[(5, .grow 0 6)], [], []⟩ [] (pp (fl ([] : List R6) nn) nn))
theorem w9i (l0 : List R6) (l1 : List R6) (n : Nat) (vs : List AVal) (h : Yu (Jx l0 l1) n (y5m l0 l1) = .ret vs) : Jb prog (Zy prog 67) (Zb prog 67 [(.dat l0.length (Zz l0)), (.dat l1.length (Zz l1))] true []) vs := by
 have := Zh (x9c l0 l1) n _ (x3f l0 l1)
 rwa [h] at this
end Go.Am
namespace Go.Am
open Go.Proofs.Tryz
open Go.Proofs
def Yf (l : List R6) : List R6 := l
def Wv (l : List R6) : Bool := decide (l.length ≤ 10000)
theorem v2y (l : List R6) (hl : l.length ≤ 10000) : ∀ (k i : Nat) (out : List R6), i + k = l.length → out = l.take i → ∃ N, Yu (z6p l) N (.to (.h0 out (i : Int))) = .ret [.dat l.length (Zz l)]
 | 0, i, out, h, ho => by
  refine ⟨1, ?_⟩
  rw [List.take_of_length_le (by omega)] at ho
  subst ho
  rw [Zu]
  simp (disch := omega) only [z6p, Xx, Yc, Zt, Zs, Xa, Yj, Yb, Yp, Yy, Zj, Zo, decide_true, Zw, Ym, Zq, Nat.zero_add, Bool.and_true, Bool.true_and, cond_true, cond_false, Bool.not_true, Bool.not_false, Zm, Ze, Zp]
 | k + 1, i, out, h, ho => by
  have hi : i < l.length := by omega
  have dB : out.length = i := by rw [ho, List.length_take]; omega
  obtain ⟨N, hN⟩ := v2y l hl k (i + 1) (out ++ [rd l i]) (by omega) (by rw [ho, Wj hi, List.take_append_getElem])
  refine ⟨N + 1, ?_⟩
  rw [Zu]
  simp (disch := omega) only [z6p, Xx, Yc, Zt, Zs, Xa, Yj, Yb, Yp, Yy, Zj, Zo, decide_true, Zw, Ym, Zq, Nat.zero_add, Bool.and_true, Bool.true_and, cond_true, cond_false, Bool.not_true, Bool.not_false, Zm, Ze, Zp]
  exact hN
theorem v8k (l : List R6) (h : Wv l = true) : ∃ N, Yu (z6p l) N (y5o l) = .ret [.dat (Yf l).length (Zz (Yf l))] :=
 v2y l (of_decide_eq_true h) l.length 0 [] (Nat.zero_add _) rfl
def vol1 (r : R6) : Int := IntKind.wrap .i64 (IntKind.wrap .i64 (IntKind.wrap .i64 (1 * IntKind.wrap .i64 (r.d - r.a)) * IntKind.wrap .i64 (r.e - r.b)) * IntKind.wrap .i64 (r.f - r.c))
def volF : List R6 → Int → Int
 | [], s => s
 | r :: l, s => volF l (IntKind.wrap .i64 (s + vol1 r))
def z7n (l : List R6) : Int := volF l 0
def Wh (l : List R6) : Bool := decide (l.length ≤ 100000000)
theorem w9t (l : List R6) (hl : l.length ≤ 100000000) : ∀ (k i : Nat) (s : Int), i + k = l.length → ∃ N, Yu (z5x l) N (.to (.h0 s (i : Int))) = .ret [.int .i64 (volF (l.drop i) s)]
 | 0, i, s, h => by
  refine ⟨1, ?_⟩
  rw [Zu, List.drop_eq_nil_of_le (by omega)]
  simp (disch := omega) only [z5x, volF, Xx, Yc, Zt, Zs, Xa, Yj, Yb, Yp, Yy, Zj, Zo, decide_true, Zw, Ym, Zq, Nat.zero_add, Bool.and_true, Bool.true_and, cond_true, cond_false, Bool.not_true, Bool.not_false, Zm, Ze, Zp]
 | k + 1, i, s, h => by
  have hi : i < l.length := by omega
  obtain ⟨N, hN⟩ := w9t l hl k (i + 1) (IntKind.wrap .i64 (s + vol1 (rd l i))) (by omega)
  refine ⟨N + 1, ?_⟩
  rw [Zu, Yh hi]
  simp (disch := omega) only [z5x, volF, Zt, Yy, Zw, Zq, Bool.and_true, cond_true]
  rw [Zj (n := ((i + 1 : Nat) : Int)) (by omega)]
  exact hN
theorem v3g (l : List R6) (h : Wh l = true) : ∃ N, Yu (z5x l) N (y4c l) = .ret [.int .i64 (z7n l)] :=
 w9t l (of_decide_eq_true h) l.length 0 0 (Nat.zero_add _)
theorem v3h (r : R6) : Cg (vol1 r) (bxV r) := by
 unfold vol1 bxV
 refine (((Cg.mul ?_ (Cg.wrap _)).w.mul (Cg.wrap _)).w)
 have h : Cg (1 * IntKind.wrap .i64 (r.d - r.a)) (1 * (r.d - r.a)) := Cg.mul (Cg.refl 1) (Cg.wrap _)
 exact h.w.trans (by rw [Int.one_mul]; exact Cg.refl _)
theorem w0c : ∀ (l : List R6) (s s' : Int), Cg s s' → Cg (volF l s) (s' + sm l bxV)
 | [], s, s', h => by rw [w0v, Int.add_zero]; exact h
 | r :: l, s, s', h => by
  rw [Vs, ← Int.add_assoc]
  exact w0c l _ _ (h.add (v3h r)).w
theorem w0b (l : List R6) : Cg (z7n l) (sm l bxV) := by
 have := w0c l 0 0 (Cg.refl 0)
 rwa [Int.zero_add] at this
def Vr (X Y : List R6) : Bool := decide (X.length ≤ 10000 ∧ Y.length ≤ 10000)
theorem z2p (X Y : List R6) : (Yk X Y).length ≤ X.length * Y.length := by
 unfold Yk
 induction X with
 | nil => simp
 | cons x X ih =>
  rw [List.flatMap_cons, List.length_append, List.length_cons, Nat.add_mul, Nat.one_mul]
  have := List.length_filterMap_le (z0l x) Y
  omega
section
variable (X Y : List R6) (hX : X.length ≤ 10000) (hY : Y.length ≤ 10000)
include hX hY
omit hX in
theorem y8m (i : Nat) (x : R6) : ∀ (k j : Nat) (out : List R6), j + k = Y.length → out.length ≤ i * 10000 + j → i ≤ 10000 →
  ∃ n, ∀ N, Yu (Jx X Y) (N + n) (.to (.h1 out (i : Int) (j : Int) x.a x.b x.c x.d x.e x.f)) = Yu (Jx X Y) N (.to (.h0 (out ++ (Y.drop j).filterMap (z0l x)) ((i + 1 : Nat) : Int)))
 | 0, j, out, h, ho, hi => by
  refine ⟨1, fun N => ?_⟩
  rw [Zu, List.drop_eq_nil_of_le (by omega), List.filterMap_nil, List.append_nil]
  simp (disch := omega) only [Jx, Xx, Yc, Zt, Zs, Xa, Yj, Yb, Yp, Yy, Zj, Zo, decide_true, Zw, Ym, Zq, Nat.zero_add, Bool.and_true, Bool.true_and, cond_true, cond_false, Bool.not_true, Bool.not_false, Zm, Ze, Zp]
 | k + 1, j, out, h, ho, hi => by
  have hj : j < Y.length := by omega
  rw [Yh hj, List.filterMap_cons]
  have hin : decide (0 ≤ (j : Int) ∧ (j : Int) < (Y.length : Int)) = true := decide_eq_true (by omega)
  have hlt : decide ((j : Int) < (Y.length : Int)) = true := decide_eq_true (by omega)
  have dF : decide ((out.length + 1 + 1) * (48 + 1) ≤ Ub) = true := Zo (by omega)
  by_cases h1 : max x.a (rd Y j).a < min x.d (rd Y j).d
  ·by_cases h2 : max x.b (rd Y j).b < min x.e (rd Y j).e
   ·by_cases h3 : max x.c (rd Y j).c < min x.f (rd Y j).f
    ·have hm : z0l x (rd Y j) = some ⟨max x.a (rd Y j).a, max x.b (rd Y j).b, max x.c (rd Y j).c, min x.d (rd Y j).d, min x.e (rd Y j).e, min x.f (rd Y j).f⟩ := by
      unfold z0l; rw [decide_eq_true h1, decide_eq_true h2, decide_eq_true h3]; rfl
     obtain ⟨n, hn⟩ := y8m i x k (j + 1) (out ++ [⟨max x.a (rd Y j).a, max x.b (rd Y j).b, max x.c (rd Y j).c, min x.d (rd Y j).d, min x.e (rd Y j).e, min x.f (rd Y j).f⟩]) (by omega) (by simp; omega) hi
     refine ⟨n + 1, fun N => ?_⟩
     have := hn N
     rw [hm]
     simp only []
     rw [← Nat.add_assoc, Zu]
     simp (disch := omega) only [Jx, hin, hlt, dF, y0q, y0p, y2f, Xx, Yc, Zt, Zs, Xa, Yj, Yb, Yp, Yy, Zj, Zo, decide_true, Zw, Ym, Zq, Nat.zero_add, Bool.and_true, Bool.true_and, cond_true, cond_false, Bool.not_true, Bool.not_false, Zm, Ze, Zp]
     rw [List.append_assoc] at this
     exact this
    ·have hm : z0l x (rd Y j) = none := by
      unfold z0l; rw [decide_eq_true h1, decide_eq_true h2, decide_eq_false h3]; rfl
     obtain ⟨n, hn⟩ := y8m i x k (j + 1) out (by omega) (by omega) hi
     refine ⟨n + 1, fun N => ?_⟩
     have := hn N
     rw [hm]
     simp only []
     rw [← Nat.add_assoc, Zu]
     simp (disch := omega) only [Jx, hin, hlt, dF, y0q, y0p, y2f, y1e, Xx, Yc, Zt, Zs, Xa, Yj, Yb, Yp, Yy, Zj, Zo, decide_true, Zw, Ym, Zq, Nat.zero_add, Bool.and_true, Bool.true_and, cond_true, cond_false, Bool.not_true, Bool.not_false, Zm, Ze, Zp]
     exact this
   ·have hm : z0l x (rd Y j) = none := by
     unfold z0l; rw [decide_eq_true h1, decide_eq_false h2]; rfl
    obtain ⟨n, hn⟩ := y8m i x k (j + 1) out (by omega) (by omega) hi
    refine ⟨n + 1, fun N => ?_⟩
    have := hn N
    rw [hm]
    simp only []
    rw [← Nat.add_assoc, Zu]
    simp (disch := omega) only [Jx, hin, hlt, dF, y0q, y0p, y2f, y1e, Xx, Yc, Zt, Zs, Xa, Yj, Yb, Yp, Yy, Zj, Zo, decide_true, Zw, Ym, Zq, Nat.zero_add, Bool.and_true, Bool.true_and, cond_true, cond_false, Bool.not_true, Bool.not_false, Zm, Ze, Zp]
    exact this
  ·have hm : z0l x (rd Y j) = none := by
    unfold z0l; rw [decide_eq_false h1]; rfl
   obtain ⟨n, hn⟩ := y8m i x k (j + 1) out (by omega) (by omega) hi
   refine ⟨n + 1, fun N => ?_⟩
   have := hn N
   rw [hm]
   simp only []
   rw [← Nat.add_assoc, Zu]
   simp (disch := omega) only [Jx, hin, hlt, dF, y0q, y0p, y2f, y1e, Xx, Yc, Zt, Zs, Xa, Yj, Yb, Yp, Yy, Zj, Zo, decide_true, Zw, Ym, Zq, Nat.zero_add, Bool.and_true, Bool.true_and, cond_true, cond_false, Bool.not_true, Bool.not_false, Zm, Ze, Zp]
   exact this
theorem v2s : ∀ (k i : Nat) (out : List R6), i + k = X.length → out.length ≤ i * 10000 → ∃ n, Yu (Jx X Y) n (.to (.h0 out (i : Int))) = .ret [.dat (out ++ Yk (X.drop i) Y).length (Zz (out ++ Yk (X.drop i) Y))]
 | 0, i, out, h, ho => by
  refine ⟨1, ?_⟩
  rw [Zu, List.drop_eq_nil_of_le (by omega), show Yk [] Y = [] from rfl, List.append_nil]
  simp (disch := omega) only [Jx, Xx, Yc, Zt, Zs, Xa, Yj, Yb, Yp, Yy, Zj, Zo, decide_true, Zw, Ym, Zq, Nat.zero_add, Bool.and_true, Bool.true_and, cond_true, cond_false, Bool.not_true, Bool.not_false, Zm, Ze, Zp]
 | k + 1, i, out, h, ho => by
  have hi : i < X.length := by omega
  obtain ⟨n1, h1⟩ := y8m X Y hY i (rd X i) Y.length 0 out (Nat.zero_add _) (by omega) (by omega)
  rw [List.drop_zero, y2g] at h1
  obtain ⟨n2, h2⟩ := v2s k (i + 1) (out ++ Y.filterMap (z0l (rd X i))) (by omega) (by
   rw [List.length_append]
   have := List.length_filterMap_le (z0l (rd X i)) Y
   omega)
  refine ⟨n2 + n1 + 1, ?_⟩
  rw [Zu]
  simp (disch := omega) only [Jx, Xx, Yc, Zt, Zs, Xa, Yj, Yb, Yp, Yy, Zj, Zo, decide_true, Zw, Ym, Zq, Nat.zero_add, Bool.and_true, Bool.true_and, cond_true, cond_false, Bool.not_true, Bool.not_false, Zm, Ze, Zp]
  rw [h1 n2, h2, Yh hi, show Yk (rd X i :: X.drop (i + 1)) Y = Y.filterMap (z0l (rd X i)) ++ Yk (X.drop (i + 1)) Y from List.flatMap_cons, List.append_assoc]
end
theorem v8h (X Y : List R6) (h : Vr X Y = true) : ∃ N, Yu (Jx X Y) N (y5m X Y) = .ret [.dat (Yk X Y).length (Zz (Yk X Y))] := by
 obtain ⟨h1, h2⟩ := of_decide_eq_true h
 have := v2s X Y h1 h2 X.length 0 [] (Nat.zero_add _) (Nat.zero_le _)
 rwa [List.drop_zero, List.nil_append] at this
def fBlk : List AVal → Option (AVal × Bool)
 | [a0] => match asL R6 a0 with
  | some (L0, g0, n0) => some (.dat (Yf L0).length (Zz (Yf L0)), isT R6 n0 g0 && (Wv L0))
  | _ => none
 | _ => none
theorem v7o {S : Specs} (hS : Zv prog S) : Zv prog (S.with w2x fBlk) := by
 refine z0z hS (by kernel_rfl) fun args v h => ?_
 unfold fBlk at h
 split at h
 ·rename_i a0
  split at h
  ·rename_i L0 g0 n0 e0
   simp only [Option.some.injEq, Prod.mk.injEq, Bool.and_eq_true] at h
   obtain ⟨rfl, ho0, hw⟩ := h
   obtain ⟨N, hN⟩ := v8k L0 hw
   exact ⟨_, _, (.cons (asL_le e0 ho0) .nil), rfl, w9m L0 N _ hN, 3, rfl⟩
  ·cases h
 ·cases h
def fVol : List AVal → Option (AVal × Bool)
 | [a0] => match asL R6 a0 with
  | some (L0, g0, n0) => some (.int .i64 (z7n L0), isT R6 n0 g0 && (Wh L0))
  | _ => none
 | _ => none
theorem v6k {S : Specs} (hS : Zv prog S) : Zv prog (S.with v1m fVol) := by
 refine z0z hS (by kernel_rfl) fun args v h => ?_
 unfold fVol at h
 split at h
 ·rename_i a0
  split at h
  ·rename_i L0 g0 n0 e0
   simp only [Option.some.injEq, Prod.mk.injEq, Bool.and_eq_true] at h
   obtain ⟨rfl, ho0, hw⟩ := h
   obtain ⟨N, hN⟩ := v3g L0 hw
   exact ⟨_, _, (.cons (asL_le e0 ho0) .nil), rfl, w5o L0 N _ hN, 3, rfl⟩
  ·cases h
 ·cases h
def fCom : List AVal → Option (AVal × Bool)
 | [a0, a1] => match asL R6 a0, asL R6 a1 with
  | some (L0, g0, n0), some (L1, g1, n1) => some (.dat (Yk L0 L1).length (Zz (Yk L0 L1)), isT R6 n0 g0 && (isT R6 n1 g1 && (Vr L0 L1)))
  | _, _ => none
 | _ => none
theorem v7m {S : Specs} (hS : Zv prog S) : Zv prog (S.with w2w fCom) := by
 refine z0z hS (by kernel_rfl) fun args v h => ?_
 unfold fCom at h
 split at h
 ·rename_i a0 a1
  split at h
  ·rename_i L0 g0 n0 L1 g1 n1 e0 e1
   simp only [Option.some.injEq, Prod.mk.injEq, Bool.and_eq_true] at h
   obtain ⟨rfl, ho0, ho1, hw⟩ := h
   obtain ⟨N, hN⟩ := v8h L0 L1 hw
   exact ⟨_, _, (.cons (asL_le e0 ho0) (.cons (asL_le e1 ho1) .nil)), rfl, w9i L0 L1 N _ hN, 3, rfl⟩
  ·cases h
 ·cases h
def Ta : Specs := (((T9.with w2x fBlk).with v1m fVol).with w2w fCom)
theorem x4b : Zv prog Ta := (v7m (v6k (v7o Vx)))
end Go.Am
namespace Go.Am
open Go.Proofs.Tryz
open Go.Proofs
-- h0: index into an array (choices [true, false, false, false])
inductive prsS where
 | h0 (v7 : List R6) (v13 : Int)
def prsC (l0 : List R6) (l1 : List R6) (x2 : Int) : prsS → Cfg
 | .h0 v7 v13 => ⟨⟨30, 0, true⟩, none, (Yx prog 63 [1, 1, 0, 1, 0, 0] 0), none, (Zy prog 4), ⟨Xb [(1, (.dat l1.length (Zz l1))), (2, (ii x2)), (7, (.sla 0 6 0 v7.length (.un 6))), (11, (.dat l0.length (Zz l0))), (12, (ii (l0.length : Int))), (13, (ii v13))], Ue [⟨rows v7.length (Zz v7), 130, some ⟨6, v7.length, (Zz v7)⟩⟩] 0, 1, [], true⟩, [], .leaf⟩
def w7d : List (Option (List Nat)) := [some [1, 2, 7, 11, 12, 13]]
def w7e : List (Option (List Nat)) := []
def z3l (l0 : List R6) (l1 : List R6) (x2 : Int) : prsS → Xs prsS
 | .h0 v7 v13 => (bif (decide (v13 < (l0.length : Int))) then (bif ((decide (0 ≤ v13 ∧ v13 < (l0.length : Int))) && true) then (bif (decide ((IntKind.wrap .i64 (Int.tdiv x2 2)) = Int.ofNat 0)) then (bif (Nat.beq 6 6 && ((decide (0 + v7.length = v7.length)) && decide ((v7.length + 1 + 1) * (48 + 1) ≤ Ub))) then (.to (.h0 (v7 ++ [(R6.mk (IntKind.wrap .i64 ((rd l0 v13.toNat).a + (IntKind.wrap .i64 (1 - (IntKind.wrap .i64 (2 * (Int.tmod x2 2))))))) (rd l0 v13.toNat).b (rd l0 v13.toNat).c (IntKind.wrap .i64 ((rd l0 v13.toNat).d + (IntKind.wrap .i64 (1 - (IntKind.wrap .i64 (2 * (Int.tmod x2 2))))))) (rd l0 v13.toNat).e (rd l0 v13.toNat).f)]) (IntKind.wrap .i64 (v13 + 1)))) else .stuck) else (bif (decide ((IntKind.wrap .i64 (Int.tdiv x2 2)) = Int.ofNat 1)) then (bif (Nat.beq 6 6 && ((decide (0 + v7.length = v7.length)) && decide ((v7.length + 1 + 1) * (48 + 1) ≤ Ub))) then (.to (.h0 (v7 ++ [(R6.mk (rd l0 v13.toNat).a (IntKind.wrap .i64 ((rd l0 v13.toNat).b + (IntKind.wrap .i64 (1 - (IntKind.wrap .i64 (2 * (Int.tmod x2 2))))))) (rd l0 v13.toNat).c (rd l0 v13.toNat).d (IntKind.wrap .i64 ((rd l0 v13.toNat).e + (IntKind.wrap .i64 (1 - (IntKind.wrap .i64 (2 * (Int.tmod x2 2))))))) (rd l0 v13.toNat).f)]) (IntKind.wrap .i64 (v13 + 1)))) else .stuck) else (bif (decide ((IntKind.wrap .i64 (Int.tdiv x2 2)) = Int.ofNat 2)) then (bif (Nat.beq 6 6 && ((decide (0 + v7.length = v7.length)) && decide ((v7.length + 1 + 1) * (48 + 1) ≤ Ub))) then (.to (.h0 (v7 ++ [(R6.mk (rd l0 v13.toNat).a (rd l0 v13.toNat).b (IntKind.wrap .i64 ((rd l0 v13.toNat).c + (IntKind.wrap .i64 (1 - (IntKind.wrap .i64 (2 * (Int.tmod x2 2))))))) (rd l0 v13.toNat).d (rd l0 v13.toNat).e (IntKind.wrap .i64 ((rd l0 v13.toNat).f + (IntKind.wrap .i64 (1 - (IntKind.wrap .i64 (2 * (Int.tmod x2 2))))))))]) (IntKind.wrap .i64 (v13 + 1)))) else .stuck) else .stuck))) else .stuck) else (bif (Vr (cvT v7) (cvT l1)) then (bif (Wh (cvT (Yk (cvT v7) (cvT l1)))) then (.ret [(.int .i64 (z7n (cvT (Yk (cvT v7) (cvT l1)))))]) else .stuck) else .stuck))
def y4p (l0 : List R6) (l1 : List R6) (x2 : Int) : Xs prsS := (.to (.h0 ([] : List R6) 0))
theorem x7n (l0 : List R6) (l1 : List R6) (x2 : Int) : ∀ s, Xt prog (Zy prog 63) (prsC l0 l1 x2) (prsC l0 l1 x2 s) (z3l l0 l1 x2 s)
 | .h0 v7 v13 => (lb (fun k0 => (lo fun aG => (lb (fun k1 => (lo fun o0 => (sl x4b 82 [] ⟨[5], [], w7d, w7e⟩ ⟨[(7, .len (v7 ++ [(R6.mk (wr ((rd l0 (tn v13)).a + (wr (1 - (wr (2 * (Int.tmod x2 2))))))) (rd l0 (tn v13)).b (rd l0 (tn v13)).c (wr ((rd l0 (tn v13)).d + (wr (1 - (wr (2 * (Int.tmod x2 2))))))) (rd l0 (tn v13)).e (rd l0 (tn v13)).f)]).length)], [.rowed 6 (v7 ++ [(R6.mk (wr ((rd l0 (tn v13)).a + (wr (1 - (wr (2 * (Int.tmod x2 2))))))) (rd l0 (tn v13)).b (rd l0 (tn v13)).c (wr ((rd l0 (tn v13)).d + (wr (1 - (wr (2 * (Int.tmod x2 2))))))) (rd l0 (tn v13)).e (rd l0 (tn v13)).f)]).length (Zz (v7 ++ [(R6.mk (wr ((rd l0 (tn v13)).a + (wr (1 - (wr (2 * (Int.tmod x2 2))))))) (rd l0 (tn v13)).b (rd l0 (tn v13)).c (wr ((rd l0 (tn v13)).d + (wr (1 - (wr (2 * (Int.tmod x2 2))))))) (rd l0 (tn v13)).e (rd l0 (tn v13)).f)]))], []⟩ [true, false, false, false, false] (pp (xL (v7.length + 1) (v7 ++ [(R6.mk (wr ((rd l0 (tn v13)).a + (wr (1 - (wr (2 * (Int.tmod x2 2))))))) (rd l0 (tn v13)).b (rd l0 (tn v13)).c (wr ((rd l0 (tn v13)).d + (wr (1 - (wr (2 * (Int.tmod x2 2))))))) (rd l0 (tn v13)).e (rd l0 (tn v13)).f)]).length) (pp (xL (v7.length + 1) (v7 ++ [(R6.mk (wr ((rd l0 (tn v13)).a + (wr (1 - (wr (2 * (Int.tmod x2 2))))))) (rd l0 (tn v13)).b (rd l0 (tn v13)).c (wr ((rd l0 (tn v13)).d + (wr (1 - (wr (2 * (Int.tmod x2 2))))))) (rd l0 (tn v13)).e (rd l0 (tn v13)).f)]).length) (pp (xS (v7.length + 1) (Zg (Zz v7) 0 v7.length 6 [(ii (wr ((rd l0 (tn v13)).a + (wr (1 - (wr (2 * (Int.tmod x2 2)))))))), (ii (rd l0 (tn v13)).b), (ii (rd l0 (tn v13)).c), (ii (wr ((rd l0 (tn v13)).d + (wr (1 - (wr (2 * (Int.tmod x2 2)))))))), (ii (rd l0 (tn v13)).e), (ii (rd l0 (tn v13)).f)]) (Zz (v7 ++ [(R6.mk (wr ((rd l0 (tn v13)).a + (wr (1 - (wr (2 * (Int.tmod x2 2))))))) (rd l0 (tn v13)).b (rd l0 (tn v13)).c (wr ((rd l0 (tn v13)).d + (wr (1 - (wr (2 * (Int.tmod x2 2))))))) (rd l0 (tn v13)).e (rd l0 (tn v13)).f)]))) (pp (pp (xF (Zg (Zz v7) 0 v7.length 6 [(ii (wr ((rd l0 (tn v13)).a + (wr (1 - (wr (2 * (Int.tmod x2 2)))))))), (ii (rd l0 (tn v13)).b), (ii (rd l0 (tn v13)).c), (ii (wr ((rd l0 (tn v13)).d + (wr (1 - (wr (2 * (Int.tmod x2 2)))))))), (ii (rd l0 (tn v13)).e), (ii (rd l0 (tn v13)).f)])) nn) (ww o0 (ww k1 (ww k1 (ww aG (tt k0 nn)))))))))))) (fun k1 => (lb (fun k2 => (lo fun o0 => (sl x4b 82 [] ⟨[5], [], w7d, w7e⟩ ⟨[(7, .len (v7 ++ [(R6.mk (rd l0 (tn v13)).a (wr ((rd l0 (tn v13)).b + (wr (1 - (wr (2 * (Int.tmod x2 2))))))) (rd l0 (tn v13)).c (rd l0 (tn v13)).d (wr ((rd l0 (tn v13)).e + (wr (1 - (wr (2 * (Int.tmod x2 2))))))) (rd l0 (tn v13)).f)]).length)], [.rowed 6 (v7 ++ [(R6.mk (rd l0 (tn v13)).a (wr ((rd l0 (tn v13)).b + (wr (1 - (wr (2 * (Int.tmod x2 2))))))) (rd l0 (tn v13)).c (rd l0 (tn v13)).d (wr ((rd l0 (tn v13)).e + (wr (1 - (wr (2 * (Int.tmod x2 2))))))) (rd l0 (tn v13)).f)]).length (Zz (v7 ++ [(R6.mk (rd l0 (tn v13)).a (wr ((rd l0 (tn v13)).b + (wr (1 - (wr (2 * (Int.tmod x2 2))))))) (rd l0 (tn v13)).c (rd l0 (tn v13)).d (wr ((rd l0 (tn v13)).e + (wr (1 - (wr (2 * (Int.tmod x2 2))))))) (rd l0 (tn v13)).f)]))], []⟩ [true, true, false, true, false, true, false, true, false] (pp (xL (v7.length + 1) (v7 ++ [(R6.mk (rd l0 (tn v13)).a (wr ((rd l0 (tn v13)).b + (wr (1 - (wr (2 * (Int.tmod x2 2))))))) (rd l0 (tn v13)).c (rd l0 (tn v13)).d (wr ((rd l0 (tn v13)).e + (wr (1 - (wr (2 * (Int.tmod x2 2))))))) (rd l0 (tn v13)).f)]).length) (pp (xL (v7.length + 1) (v7 ++ [(R6.mk (rd l0 (tn v13)).a (wr ((rd l0 (tn v13)).b + (wr (1 - (wr (2 * (Int.tmod x2 2))))))) (rd l0 (tn v13)).c (rd l0 (tn v13)).d (wr ((rd l0 (tn v13)).e + (wr (1 - (wr (2 * (Int.tmod x2 2))))))) (rd l0 (tn v13)).f)]).length) (pp (xS (v7.length + 1) (Zg (Zz v7) 0 v7.length 6 [(ii (rd l0 (tn v13)).a), (ii (wr ((rd l0 (tn v13)).b + (wr (1 - (wr (2 * (Int.tmod x2 2)))))))), (ii (rd l0 (tn v13)).c), (ii (rd l0 (tn v13)).d), (ii (wr ((rd l0 (tn v13)).e + (wr (1 - (wr (2 * (Int.tmod x2 2)))))))), (ii (rd l0 (tn v13)).f)]) (Zz (v7 ++ [(R6.mk (rd l0 (tn v13)).a (wr ((rd l0 (tn v13)).b + (wr (1 - (wr (2 * (Int.tmod x2 2))))))) (rd l0 (tn v13)).c (rd l0 (tn v13)).d (wr ((rd l0 (tn v13)).e + (wr (1 - (wr (2 * (Int.tmod x2 2))))))) (rd l0 (tn v13)).f)]))) (pp (pp (xF (Zg (Zz v7) 0 v7.length 6 [(ii (rd l0 (tn v13)).a), (ii (wr ((rd l0 (tn v13)).b + (wr (1 - (wr (2 * (Int.tmod x2 2)))))))), (ii (rd l0 (tn v13)).c), (ii (rd l0 (tn v13)).d), (ii (wr ((rd l0 (tn v13)).e + (wr (1 - (wr (2 * (Int.tmod x2 2)))))))), (ii (rd l0 (tn v13)).f)])) nn) (ww o0 (ww k2 (ww k2 (ww aG (tt k0 nn)))))))))))) (fun k2 => (lb (fun k3 => (lo fun o0 => (sl x4b 82 [] ⟨[5], [], w7d, w7e⟩ ⟨[(7, .len (v7 ++ [(R6.mk (rd l0 (tn v13)).a (rd l0 (tn v13)).b (wr ((rd l0 (tn v13)).c + (wr (1 - (wr (2 * (Int.tmod x2 2))))))) (rd l0 (tn v13)).d (rd l0 (tn v13)).e (wr ((rd l0 (tn v13)).f + (wr (1 - (wr (2 * (Int.tmod x2 2))))))))]).length)], [.rowed 6 (v7 ++ [(R6.mk (rd l0 (tn v13)).a (rd l0 (tn v13)).b (wr ((rd l0 (tn v13)).c + (wr (1 - (wr (2 * (Int.tmod x2 2))))))) (rd l0 (tn v13)).d (rd l0 (tn v13)).e (wr ((rd l0 (tn v13)).f + (wr (1 - (wr (2 * (Int.tmod x2 2))))))))]).length (Zz (v7 ++ [(R6.mk (rd l0 (tn v13)).a (rd l0 (tn v13)).b (wr ((rd l0 (tn v13)).c + (wr (1 - (wr (2 * (Int.tmod x2 2))))))) (rd l0 (tn v13)).d (rd l0 (tn v13)).e (wr ((rd l0 (tn v13)).f + (wr (1 - (wr (2 * (Int.tmod x2 2))))))))]))], []⟩ (trs 3 [false, true, true, false, true, true, false, true, true, false]) (pp (xL (v7.length + 1) (v7 ++ [(R6.mk (rd l0 (tn v13)).a (rd l0 (tn v13)).b (wr ((rd l0 (tn v13)).c + (wr (1 - (wr (2 * (Int.tmod x2 2))))))) (rd l0 (tn v13)).d (rd l0 (tn v13)).e (wr ((rd l0 (tn v13)).f + (wr (1 - (wr (2 * (Int.tmod x2 2))))))))]).length) (pp (xL (v7.length + 1) (v7 ++ [(R6.mk (rd l0 (tn v13)).a (rd l0 (tn v13)).b (wr ((rd l0 (tn v13)).c + (wr (1 - (wr (2 * (Int.tmod x2 2))))))) (rd l0 (tn v13)).d (rd l0 (tn v13)).e (wr ((rd l0 (tn v13)).f + (wr (1 - (wr (2 * (Int.tmod x2 2))))))))]).length) (pp (xS (v7.length + 1) (Zg (Zz v7) 0 v7.length 6 [(ii (rd l0 (tn v13)).a), (ii (rd l0 (tn v13)).b), (ii (wr ((rd l0 (tn v13)).c + (wr (1 - (wr (2 * (Int.tmod x2 2)))))))), (ii (rd l0 (tn v13)).d), (ii (rd l0 (tn v13)).e), (ii (wr ((rd l0 (tn v13)).f + (wr (1 - (wr (2 * (Int.tmod x2 2))))))))]) (Zz (v7 ++ [(R6.mk (rd l0 (tn v13)).a (rd l0 (tn v13)).b (wr ((rd l0 (tn v13)).c + (wr (1 - (wr (2 * (Int.tmod x2 2))))))) (rd l0 (tn v13)).d (rd l0 (tn v13)).e (wr ((rd l0 (tn v13)).f + (wr (1 - (wr (2 * (Int.tmod x2 2))))))))]))) (pp (pp (xF (Zg (Zz v7) 0 v7.length 6 [(ii (rd l0 (tn v13)).a), (ii (rd l0 (tn v13)).b), (ii (wr ((rd l0 (tn v13)).c + (wr (1 - (wr (2 * (Int.tmod x2 2)))))))), (ii (rd l0 (tn v13)).d), (ii (rd l0 (tn v13)).e), (ii (wr ((rd l0 (tn v13)).f + (wr (1 - (wr (2 * (Int.tmod x2 2))))))))])) nn) (ww o0 (ww k3 (ww k3 (ww aG (tt k0 nn)))))))))))) (fun k3 => trivial)))))))) (fun k0 => (Jk (sl x4b (C' := ⟨⟨30, 0, true⟩, (z2g prog 63 [1, 1, 1, 0] 2), (Yx prog 63 [1, 1, 1, 0] 1), none, (Zy prog 4), ⟨Xb [(26, (.dat v7.length (Zz v7))), (27, (.dat l1.length (Zz l1)))], Ue [] 0, 0, [], true⟩, [], .leaf⟩) 11 [] ⟨[], [0], [some [26, 27]], []⟩ ⟨[(26, .frz v7.length v7.length (Zz v7) (Zz v7))], [], []⟩ [false] (pp (xZ (z7f 6 6 0 v7.length v7.length (Zz v7)) v7.length (Zz v7)) (pp (xL v7.length v7.length) (pp (xS v7.length (Zz v7) (Zz v7)) (pp (fl v7 nn) (tt k0 nn)))))) (lo fun o0 => (lo fun o1 => (lr 30 3 [1, 1, 1, 1, 1, 1, 0] 1 4 [(6, (ii (z7n (cvT (Yk (cvT v7) (cvT l1))))))] (sl x4b 4 [] ⟨[], [], [some [6]], []⟩ ⟨[], [], []⟩ [] (pp (pp (xI R6 (Yk (cvT v7) (cvT l1)).length (Zz (Yk (cvT v7) (cvT l1)))) (xw o1)) (pp (pp (xr v7) (pp (xr l1) (xw o0))) nn)))))))))
theorem x0x (l0 : List R6) (l1 : List R6) (x2 : Int) : Xt prog (Zy prog 63) (prsC l0 l1 x2) (Zb prog 63 [(.dat l0.length (Zz l0)), (.dat l1.length (Zz l1)), (.int .i64 x2)] true []) (y4p l0 l1 x2) := (sl x4b 17 [(130, 6, Zz ([] : List R6))] ⟨[0], [], w7d, w7e⟩ ⟨[(7, .grow 0 6)], [], []⟩ [] (pp (fl ([] : List R6) nn) nn))
theorem w7c (l0 : List R6) (l1 : List R6) (x2 : Int) (n : Nat) (vs : List AVal) (h : Yu (z3l l0 l1 x2) n (y4p l0 l1 x2) = .ret vs) : Jb prog (Zy prog 63) (Zb prog 63 [(.dat l0.length (Zz l0)), (.dat l1.length (Zz l1)), (.int .i64 x2)] true []) vs := by
 have := Zh (x7n l0 l1 x2) n _ (x0x l0 l1 x2)
 rwa [h] at this
end Go.Am
namespace Go.Am
open Go.Proofs.Tryz
open Go.Proofs
def x6l (d : Int) : Int := IntKind.wrap .i64 (1 - IntKind.wrap .i64 (2 * Int.tmod d 2))
def w2p (d : Int) (r : R6) : R6 :=
 bif decide (Int.tdiv d 2 = 0) then ⟨IntKind.wrap .i64 (r.a + x6l d), r.b, r.c, IntKind.wrap .i64 (r.d + x6l d), r.e, r.f⟩
 else bif decide (Int.tdiv d 2 = 1) then ⟨r.a, IntKind.wrap .i64 (r.b + x6l d), r.c, r.d, IntKind.wrap .i64 (r.e + x6l d), r.f⟩
 else ⟨r.a, r.b, IntKind.wrap .i64 (r.c + x6l d), r.d, r.e, IntKind.wrap .i64 (r.f + x6l d)⟩
def prV (X Y : List R6) (d : Int) : Int := z7n (Yk (X.map (w2p d)) Y)
def Yg (X Y : List R6) (d : Int) : Bool := decide (X.length ≤ 10000 ∧ Y.length ≤ 10000 ∧ 0 ≤ d ∧ d ≤ 5)
theorem v1f (X Y : List R6) (d : Int) (hX : X.length ≤ 10000) (hY : Y.length ≤ 10000) (hd : 0 ≤ d ∧ d ≤ 5) : ∀ (k i : Nat) (out : List R6), i + k = X.length → out.length = i → ∃ N, Yu (z3l X Y d) N (.to (.h0 out (i : Int))) = .ret [.int .i64 (z7n (Yk (out ++ (X.drop i).map (w2p d)) Y))]
 | 0, i, out, h, ho => by
  refine ⟨1, ?_⟩
  rw [Zu, List.drop_eq_nil_of_le (by omega), List.map_nil, List.append_nil]
  have h1 : Vr out Y = true := decide_eq_true (by omega)
  have hl := z2p out Y
  have hm : out.length * Y.length ≤ 10000 * 10000 := Nat.mul_le_mul (by omega) hY
  have h2 : Wh (Yk out Y) = true := decide_eq_true (by omega)
  simp (disch := omega) only [z3l, h1, h2, Xx, Yc, Zt, Zs, Xa, Yj, Yb, Yp, Yy, Zj, Zo, decide_true, Zw, Ym, Zq, Nat.zero_add, Bool.and_true, Bool.true_and, cond_true, cond_false, Bool.not_true, Bool.not_false, Zm, Ze, Zp]
 | k + 1, i, out, h, ho => by
  have hi : i < X.length := by omega
  obtain ⟨N, hN⟩ := v1f X Y d hX hY hd k (i + 1) (out ++ [w2p d (rd X i)]) (by omega) (by simp; omega)
  refine ⟨N + 1, ?_⟩
  rw [List.append_assoc] at hN
  rw [Zu, Yh hi, List.map_cons]
  have dF : decide ((out.length + 1 + 1) * (48 + 1) ≤ Ub) = true := Zo (by omega)
  have c : d = 0 ∨ d = 1 ∨ d = 2 ∨ d = 3 ∨ d = 4 ∨ d = 5 := by omega
  have e : ∃ r, w2p d (rd X i) = r ∧ z3l X Y d (.h0 out (i : Int)) = .to (.h0 (out ++ [r]) ((i + 1 : Nat) : Int)) := by
   refine ⟨_, rfl, ?_⟩
   rcases c with rfl | rfl | rfl | rfl | rfl | rfl <;>
   simp (disch := omega) only [z3l, Zt, Yy, dF, Zq, Zw, Nat.zero_add, decide_true, Bool.and_true, Ym, cond_true] <;> (try rw [Zj (n := ((i + 1 : Nat) : Int)) (by omega)]) <;> rfl
  obtain ⟨r, hr, e⟩ := e
  rw [e]
  rw [hr] at hN ⊢
  exact hN
theorem v5a (X Y : List R6) (d : Int) (h : Yg X Y d = true) : ∃ N, Yu (z3l X Y d) N (y4p X Y d) = .ret [.int .i64 (prV X Y d)] := by
 obtain ⟨h1, h2, h3⟩ := of_decide_eq_true h
 exact v1f X Y d h1 h2 h3 X.length 0 [] (Nat.zero_add _) rfl
def okB (r : R6) : Bool := decide (-2000000 ≤ r.a ∧ r.a ≤ 2000000 ∧ -2000000 ≤ r.b ∧ r.b ≤ 2000000 ∧ -2000000 ≤ r.c ∧ r.c ≤ 2000000 ∧ -2000000 ≤ r.d ∧ r.d ≤ 2000000 ∧ -2000000 ≤ r.e ∧ r.e ≤ 2000000 ∧ -2000000 ≤ r.f ∧ r.f ≤ 2000000)
theorem w7j (d : Int) (hd : 0 ≤ d ∧ d ≤ 5) (r : R6) (h : okB r = true) : w2p d r = nx d r := by
 have h := of_decide_eq_true h
 have c : d = 0 ∨ d = 1 ∨ d = 2 ∨ d = 3 ∨ d = 4 ∨ d = 5 := by omega
 rcases c with rfl | rfl | rfl | rfl | rfl | rfl
 ·show (⟨IntKind.wrap .i64 (r.a + 1), r.b, r.c, IntKind.wrap .i64 (r.d + 1), r.e, r.f⟩ : R6) = ⟨r.a + 1, r.b, r.c, r.d + 1, r.e, r.f⟩
  rw [Zj (by omega), Zj (by omega)]
 ·show (⟨IntKind.wrap .i64 (r.a + -1), r.b, r.c, IntKind.wrap .i64 (r.d + -1), r.e, r.f⟩ : R6) = ⟨r.a + -1, r.b, r.c, r.d + -1, r.e, r.f⟩
  rw [Zj (by omega), Zj (by omega)]
 ·show (⟨r.a, IntKind.wrap .i64 (r.b + 1), r.c, r.d, IntKind.wrap .i64 (r.e + 1), r.f⟩ : R6) = ⟨r.a, r.b + 1, r.c, r.d, r.e + 1, r.f⟩
  rw [Zj (by omega), Zj (by omega)]
 ·show (⟨r.a, IntKind.wrap .i64 (r.b + -1), r.c, r.d, IntKind.wrap .i64 (r.e + -1), r.f⟩ : R6) = ⟨r.a, r.b + -1, r.c, r.d, r.e + -1, r.f⟩
  rw [Zj (by omega), Zj (by omega)]
 ·show (⟨r.a, r.b, IntKind.wrap .i64 (r.c + 1), r.d, r.e, IntKind.wrap .i64 (r.f + 1)⟩ : R6) = ⟨r.a, r.b, r.c + 1, r.d, r.e, r.f + 1⟩
  rw [Zj (by omega), Zj (by omega)]
 ·show (⟨r.a, r.b, IntKind.wrap .i64 (r.c + -1), r.d, r.e, IntKind.wrap .i64 (r.f + -1)⟩ : R6) = ⟨r.a, r.b, r.c + -1, r.d, r.e, r.f + -1⟩
  rw [Zj (by omega), Zj (by omega)]
theorem w2g (X Y : List R6) (d : Int) (hd : 0 ≤ d ∧ d ≤ 5) (hX : ∀ x ∈ X, okB x = true) : Cg (prV X Y d) (E2 d X Y) := by
 unfold prV
 rw [List.map_congr_left fun x hx => w7j d hd x (hX x hx)]
 have := w0b (Yk (X.map (nx d)) Y)
 rwa [com_bx, v3d] at this
def fPrs : List AVal → Option (AVal × Bool)
 | [a0, a1, .int .i64 x2] => match asL R6 a0, asL R6 a1 with
  | some (L0, g0, n0), some (L1, g1, n1) => some (.int .i64 (prV L0 L1 x2), isT R6 n0 g0 && (isT R6 n1 g1 && (Yg L0 L1 x2)))
  | _, _ => none
 | _ => none
theorem v6u {S : Specs} (hS : Zv prog S) : Zv prog (S.with v1l fPrs) := by
 refine z0z hS (by kernel_rfl) fun args v h => ?_
 unfold fPrs at h
 split at h
 ·rename_i a0 a1 x2
  split at h
  ·rename_i L0 g0 n0 L1 g1 n1 e0 e1
   simp only [Option.some.injEq, Prod.mk.injEq, Bool.and_eq_true] at h
   obtain ⟨rfl, ho0, ho1, hw⟩ := h
   obtain ⟨N, hN⟩ := v5a L0 L1 x2 hw
   exact ⟨_, _, (.cons (asL_le e0 ho0) (.cons (asL_le e1 ho1) (.cons (.refl _) .nil))), rfl, w7c L0 L1 x2 N _ hN, 3, rfl⟩
  ·cases h
 ·cases h
def Tb : Specs := (Ta.with v1l fPrs)
theorem Tb_ok : Zv prog Tb := (v6u x4b)
end Go.Am
namespace Go.Am
open Go.Proofs.Tryz
open Go.Proofs
inductive conS where
def conC (l0 : List R6) (l1 : List R6) : conS → Cfg
 := nofun
def x3d (l0 : List R6) (l1 : List R6) : conS → Xs conS
 := nofun
def z9c (l0 : List R6) (l1 : List R6) : Xs conS := (bif (Vr (cvT l0) (cvT l1)) then (bif (Yg (cvT l0) (cvT l1) 0) then (bif (Yg (cvT (Yk (cvT l0) (cvT l1))) (cvT l1) 0) then (bif (Yg (cvT l0) (cvT (Yk (cvT l0) (cvT l1))) 0) then (bif (Yg (cvT (Yk (cvT l0) (cvT l1))) (cvT (Yk (cvT l0) (cvT l1))) 0) then (bif (Yg (cvT l0) (cvT l1) 1) then (bif (Yg (cvT (Yk (cvT l0) (cvT l1))) (cvT l1) 1) then (bif (Yg (cvT l0) (cvT (Yk (cvT l0) (cvT l1))) 1) then (bif (Yg (cvT (Yk (cvT l0) (cvT l1))) (cvT (Yk (cvT l0) (cvT l1))) 1) then (bif (Yg (cvT l0) (cvT l1) 2) then (bif (Yg (cvT (Yk (cvT l0) (cvT l1))) (cvT l1) 2) then (bif (Yg (cvT l0) (cvT (Yk (cvT l0) (cvT l1))) 2) then (bif (Yg (cvT (Yk (cvT l0) (cvT l1))) (cvT (Yk (cvT l0) (cvT l1))) 2) then (bif (Yg (cvT l0) (cvT l1) 3) then (bif (Yg (cvT (Yk (cvT l0) (cvT l1))) (cvT l1) 3) then (bif (Yg (cvT l0) (cvT (Yk (cvT l0) (cvT l1))) 3) then (bif (Yg (cvT (Yk (cvT l0) (cvT l1))) (cvT (Yk (cvT l0) (cvT l1))) 3) then (bif (Yg (cvT l0) (cvT l1) 4) then (bif (Yg (cvT (Yk (cvT l0) (cvT l1))) (cvT l1) 4) then (bif (Yg (cvT l0) (cvT (Yk (cvT l0) (cvT l1))) 4) then (bif (Yg (cvT (Yk (cvT l0) (cvT l1))) (cvT (Yk (cvT l0) (cvT l1))) 4) then (bif (Yg (cvT l0) (cvT l1) 5) then (bif (Yg (cvT (Yk (cvT l0) (cvT l1))) (cvT l1) 5) then (bif (Yg (cvT l0) (cvT (Yk (cvT l0) (cvT l1))) 5) then (bif (Yg (cvT (Yk (cvT l0) (cvT l1))) (cvT (Yk (cvT l0) (cvT l1))) 5) then (.ret [(.int .i64 (IntKind.wrap .i64 ((IntKind.wrap .i64 ((IntKind.wrap .i64 ((IntKind.wrap .i64 ((IntKind.wrap .i64 ((IntKind.wrap .i64 (0 + (IntKind.wrap .i64 ((IntKind.wrap .i64 ((prV (cvT l0) (cvT l1) 0) - (prV (cvT (Yk (cvT l0) (cvT l1))) (cvT l1) 0))) - (IntKind.wrap .i64 ((prV (cvT l0) (cvT (Yk (cvT l0) (cvT l1))) 0) - (prV (cvT (Yk (cvT l0) (cvT l1))) (cvT (Yk (cvT l0) (cvT l1))) 0))))))) + (IntKind.wrap .i64 ((IntKind.wrap .i64 ((prV (cvT l0) (cvT l1) 1) - (prV (cvT (Yk (cvT l0) (cvT l1))) (cvT l1) 1))) - (IntKind.wrap .i64 ((prV (cvT l0) (cvT (Yk (cvT l0) (cvT l1))) 1) - (prV (cvT (Yk (cvT l0) (cvT l1))) (cvT (Yk (cvT l0) (cvT l1))) 1))))))) + (IntKind.wrap .i64 ((IntKind.wrap .i64 ((prV (cvT l0) (cvT l1) 2) - (prV (cvT (Yk (cvT l0) (cvT l1))) (cvT l1) 2))) - (IntKind.wrap .i64 ((prV (cvT l0) (cvT (Yk (cvT l0) (cvT l1))) 2) - (prV (cvT (Yk (cvT l0) (cvT l1))) (cvT (Yk (cvT l0) (cvT l1))) 2))))))) + (IntKind.wrap .i64 ((IntKind.wrap .i64 ((prV (cvT l0) (cvT l1) 3) - (prV (cvT (Yk (cvT l0) (cvT l1))) (cvT l1) 3))) - (IntKind.wrap .i64 ((prV (cvT l0) (cvT (Yk (cvT l0) (cvT l1))) 3) - (prV (cvT (Yk (cvT l0) (cvT l1))) (cvT (Yk (cvT l0) (cvT l1))) 3))))))) + (IntKind.wrap .i64 ((IntKind.wrap .i64 ((prV (cvT l0) (cvT l1) 4) - (prV (cvT (Yk (cvT l0) (cvT l1))) (cvT l1) 4))) - (IntKind.wrap .i64 ((prV (cvT l0) (cvT (Yk (cvT l0) (cvT l1))) 4) - (prV (cvT (Yk (cvT l0) (cvT l1))) (cvT (Yk (cvT l0) (cvT l1))) 4))))))) + (IntKind.wrap .i64 ((IntKind.wrap .i64 ((prV (cvT l0) (cvT l1) 5) - (prV (cvT (Yk (cvT l0) (cvT l1))) (cvT l1) 5))) - (IntKind.wrap .i64 ((prV (cvT l0) (cvT (Yk (cvT l0) (cvT l1))) 5) - (prV (cvT (Yk (cvT l0) (cvT l1))) (cvT (Yk (cvT l0) (cvT l1))) 5))))))))]) else .stuck) else .stuck) else .stuck) else .stuck) else .stuck) else .stuck) else .stuck) else .stuck) else .stuck) else .stuck) else .stuck) else .stuck) else .stuck) else .stuck) else .stuck) else .stuck) else .stuck) else .stuck) else .stuck) else .stuck) else .stuck) else .stuck) else .stuck) else .stuck) else .stuck)
theorem x9b (l0 : List R6) (l1 : List R6) : ∀ s, Xt prog (Zy prog 69) (conC l0 l1) (conC l0 l1 s) (x3d l0 l1 s)
 := nofun
theorem x3e (l0 : List R6) (l1 : List R6) : Xt prog (Zy prog 69) (conC l0 l1) (Zb prog 69 [(.dat l0.length (Zz l0)), (.dat l1.length (Zz l1))] true []) (z9c l0 l1) := (lo fun o0 => (lo fun o1 => (lo fun o2 => (lo fun o3 => (lo fun o4 => (lo fun o5 => (lo fun o6 => (lo fun o7 => (lo fun o8 => (lo fun o9 => (lo fun o10 => (lo fun o11 => (lo fun o12 => (lo fun o13 => (lo fun o14 => (lo fun o15 => (lo fun o16 => (lo fun o17 => (lo fun o18 => (lo fun o19 => (lo fun o20 => (lo fun o21 => (lo fun o22 => (lo fun o23 => (lo fun o24 => (lr 37 3 [1, 1, 1, 1, 1, 1, 0] 1 3 [(4, (ii (wr ((wr ((wr ((wr ((wr ((wr (0 + (wr ((wr ((prV (cvT l0) (cvT l1) 0) - (prV (cvT (Yk (cvT l0) (cvT l1))) (cvT l1) 0))) - (wr ((prV (cvT l0) (cvT (Yk (cvT l0) (cvT l1))) 0) - (prV (cvT (Yk (cvT l0) (cvT l1))) (cvT (Yk (cvT l0) (cvT l1))) 0))))))) + (wr ((wr ((prV (cvT l0) (cvT l1) 1) - (prV (cvT (Yk (cvT l0) (cvT l1))) (cvT l1) 1))) - (wr ((prV (cvT l0) (cvT (Yk (cvT l0) (cvT l1))) 1) - (prV (cvT (Yk (cvT l0) (cvT l1))) (cvT (Yk (cvT l0) (cvT l1))) 1))))))) + (wr ((wr ((prV (cvT l0) (cvT l1) 2) - (prV (cvT (Yk (cvT l0) (cvT l1))) (cvT l1) 2))) - (wr ((prV (cvT l0) (cvT (Yk (cvT l0) (cvT l1))) 2) - (prV (cvT (Yk (cvT l0) (cvT l1))) (cvT (Yk (cvT l0) (cvT l1))) 2))))))) + (wr ((wr ((prV (cvT l0) (cvT l1) 3) - (prV (cvT (Yk (cvT l0) (cvT l1))) (cvT l1) 3))) - (wr ((prV (cvT l0) (cvT (Yk (cvT l0) (cvT l1))) 3) - (prV (cvT (Yk (cvT l0) (cvT l1))) (cvT (Yk (cvT l0) (cvT l1))) 3))))))) + (wr ((wr ((prV (cvT l0) (cvT l1) 4) - (prV (cvT (Yk (cvT l0) (cvT l1))) (cvT l1) 4))) - (wr ((prV (cvT l0) (cvT (Yk (cvT l0) (cvT l1))) 4) - (prV (cvT (Yk (cvT l0) (cvT l1))) (cvT (Yk (cvT l0) (cvT l1))) 4))))))) + (wr ((wr ((prV (cvT l0) (cvT l1) 5) - (prV (cvT (Yk (cvT l0) (cvT l1))) (cvT l1) 5))) - (wr ((prV (cvT l0) (cvT (Yk (cvT l0) (cvT l1))) 5) - (prV (cvT (Yk (cvT l0) (cvT l1))) (cvT (Yk (cvT l0) (cvT l1))) 5)))))))))] (sl Tb_ok 298 [] ⟨[], [], [some [4]], []⟩ ⟨[], [], []⟩ (trs 6 [false]) (pp (pp (xI R6 (Yk (cvT l0) (cvT l1)).length (Zz (Yk (cvT l0) (cvT l1)))) (pp (xI R6 (Yk (cvT l0) (cvT l1)).length (Zz (Yk (cvT l0) (cvT l1)))) (xw o24))) (pp (pp (xr l0) (pp (xI R6 (Yk (cvT l0) (cvT l1)).length (Zz (Yk (cvT l0) (cvT l1)))) (xw o23))) (pp (pp (xI R6 (Yk (cvT l0) (cvT l1)).length (Zz (Yk (cvT l0) (cvT l1)))) (pp (xr l1) (xw o22))) (pp (pp (xr l0) (pp (xr l1) (xw o21))) (pp (pp (xI R6 (Yk (cvT l0) (cvT l1)).length (Zz (Yk (cvT l0) (cvT l1)))) (pp (xI R6 (Yk (cvT l0) (cvT l1)).length (Zz (Yk (cvT l0) (cvT l1)))) (xw o20))) (pp (pp (xr l0) (pp (xI R6 (Yk (cvT l0) (cvT l1)).length (Zz (Yk (cvT l0) (cvT l1)))) (xw o19))) (pp (pp (xI R6 (Yk (cvT l0) (cvT l1)).length (Zz (Yk (cvT l0) (cvT l1)))) (pp (xr l1) (xw o18))) (pp (pp (xr l0) (pp (xr l1) (xw o17))) (pp (pp (xI R6 (Yk (cvT l0) (cvT l1)).length (Zz (Yk (cvT l0) (cvT l1)))) (pp (xI R6 (Yk (cvT l0) (cvT l1)).length (Zz (Yk (cvT l0) (cvT l1)))) (xw o16))) (pp (pp (xr l0) (pp (xI R6 (Yk (cvT l0) (cvT l1)).length (Zz (Yk (cvT l0) (cvT l1)))) (xw o15))) (pp (pp (xI R6 (Yk (cvT l0) (cvT l1)).length (Zz (Yk (cvT l0) (cvT l1)))) (pp (xr l1) (xw o14))) (pp (pp (xr l0) (pp (xr l1) (xw o13))) (pp (pp (xI R6 (Yk (cvT l0) (cvT l1)).length (Zz (Yk (cvT l0) (cvT l1)))) (pp (xI R6 (Yk (cvT l0) (cvT l1)).length (Zz (Yk (cvT l0) (cvT l1)))) (xw o12))) (pp (pp (xr l0) (pp (xI R6 (Yk (cvT l0) (cvT l1)).length (Zz (Yk (cvT l0) (cvT l1)))) (xw o11))) (pp (pp (xI R6 (Yk (cvT l0) (cvT l1)).length (Zz (Yk (cvT l0) (cvT l1)))) (pp (xr l1) (xw o10))) (pp (pp (xr l0) (pp (xr l1) (xw o9))) (pp (pp (xI R6 (Yk (cvT l0) (cvT l1)).length (Zz (Yk (cvT l0) (cvT l1)))) (pp (xI R6 (Yk (cvT l0) (cvT l1)).length (Zz (Yk (cvT l0) (cvT l1)))) (xw o8))) (pp (pp (xr l0) (pp (xI R6 (Yk (cvT l0) (cvT l1)).length (Zz (Yk (cvT l0) (cvT l1)))) (xw o7))) (pp (pp (xI R6 (Yk (cvT l0) (cvT l1)).length (Zz (Yk (cvT l0) (cvT l1)))) (pp (xr l1) (xw o6))) (pp (pp (xr l0) (pp (xr l1) (xw o5))) (pp (pp (xI R6 (Yk (cvT l0) (cvT l1)).length (Zz (Yk (cvT l0) (cvT l1)))) (pp (xI R6 (Yk (cvT l0) (cvT l1)).length (Zz (Yk (cvT l0) (cvT l1)))) (xw o4))) (pp (pp (xr l0) (pp (xI R6 (Yk (cvT l0) (cvT l1)).length (Zz (Yk (cvT l0) (cvT l1)))) (xw o3))) (pp (pp (xI R6 (Yk (cvT l0) (cvT l1)).length (Zz (Yk (cvT l0) (cvT l1)))) (pp (xr l1) (xw o2))) (pp (pp (xr l0) (pp (xr l1) (xw o1))) (pp (pp (xr l0) (pp (xr l1) (xw o0))) nn))))))))))))))))))))))))))))))))))))))))))))))))))))
theorem w9h (l0 : List R6) (l1 : List R6) (n : Nat) (vs : List AVal) (h : Yu (x3d l0 l1) n (z9c l0 l1) = .ret vs) : Jb prog (Zy prog 69) (Zb prog 69 [(.dat l0.length (Zz l0)), (.dat l1.length (Zz l1))] true []) vs := by
 have := Zh (x9b l0 l1) n _ (x3e l0 l1)
 rwa [h] at this
end Go.Am
namespace Go.Am
open Go.Proofs.Tryz
open Go.Proofs
def c1W (d : Int) (X Y B : List R6) : Int := IntKind.wrap .i64 (IntKind.wrap .i64 (prV X Y d - prV B Y d) - IntKind.wrap .i64 (prV X B d - prV B B d))
def conW (X Y B : List R6) : Int := IntKind.wrap .i64 (IntKind.wrap .i64 (IntKind.wrap .i64 (IntKind.wrap .i64 (IntKind.wrap .i64 (IntKind.wrap .i64 (0 + c1W 0 X Y B) + c1W 1 X Y B) + c1W 2 X Y B) + c1W 3 X Y B) + c1W 4 X Y B) + c1W 5 X Y B)
def v8g (X Y : List R6) : Int := conW X Y (Yk X Y)
def Qs (X Y : List R6) : Bool := decide (X.length ≤ 100 ∧ Y.length ≤ 100)
theorem v8f (X Y : List R6) (h : Qs X Y = true) : ∃ N, Yu (x3d X Y) N (z9c X Y) = .ret [.int .i64 (v8g X Y)] := by
 obtain ⟨h1, h2⟩ := of_decide_eq_true h
 have hl := z2p X Y
 have hm : X.length * Y.length ≤ 100 * 100 := Nat.mul_le_mul h1 h2
 have p : ∀ (A B : List R6) (d : Int), A.length ≤ 10000 → B.length ≤ 10000 → 0 ≤ d ∧ d ≤ 5 → Yg A B d = true := fun A B d a b c => decide_eq_true ⟨a, b, c⟩
 have hc : Vr X Y = true := decide_eq_true (by omega)
 refine ⟨0, ?_⟩
 unfold z9c
 simp (disch := omega) only [Ze, hc, p, cond_true]
 rfl
def fCon : List AVal → Option (AVal × Bool)
 | [a0, a1] => match asL R6 a0, asL R6 a1 with
  | some (L0, g0, n0), some (L1, g1, n1) => some (.int .i64 (v8g L0 L1), isT R6 n0 g0 && (isT R6 n1 g1 && (Qs L0 L1)))
  | _, _ => none
 | _ => none
theorem v7l {S : Specs} (hS : Zv prog S) : Zv prog (S.with nCont fCon) := by
 refine z0z hS (by kernel_rfl) fun args v h => ?_
 unfold fCon at h
 split at h
 ·rename_i a0 a1
  split at h
  ·rename_i L0 g0 n0 L1 g1 n1 e0 e1
   simp only [Option.some.injEq, Prod.mk.injEq, Bool.and_eq_true] at h
   obtain ⟨rfl, ho0, ho1, hw⟩ := h
   obtain ⟨N, hN⟩ := v8f L0 L1 hw
   exact ⟨_, _, (.cons (asL_le e0 ho0) (.cons (asL_le e1 ho1) .nil)), rfl, w9h L0 L1 N _ hN, 3, rfl⟩
  ·cases h
 ·cases h
def Tc : Specs := (Tb.with nCont fCon)
theorem x4a : Zv prog Tc := (v7l Tb_ok)
end Go.Am
namespace Go.Am
open Go.Proofs.Tryz
open Go.Proofs
inductive orlS where
def orlC (l0 : List R6) (l1 : List R6) : orlS → Cfg
 := nofun
def x1b (l0 : List R6) (l1 : List R6) : orlS → Xs orlS
 := nofun
def z8o (l0 : List R6) (l1 : List R6) : Xs orlS := (bif (Wv (cvT l0)) then (bif (Wv (cvT l1)) then (bif (Vr (cvT (Yf (cvT l0))) (cvT (Yf (cvT l1)))) then (bif (Wh (cvT (Yk (cvT (Yf (cvT l0))) (cvT (Yf (cvT l1)))))) then (bif (decide ((z7n (cvT (Yk (cvT (Yf (cvT l0))) (cvT (Yf (cvT l1)))))) > 0)) then (bif (Wh (cvT (Yf (cvT l0)))) then (bif ((z7n (cvT (Yk (cvT (Yf (cvT l0))) (cvT (Yf (cvT l1)))))) == (z7n (cvT (Yf (cvT l0))))) then (bif (Wh (cvT (Yf (cvT l1)))) then (bif ((z7n (cvT (Yk (cvT (Yf (cvT l0))) (cvT (Yf (cvT l1)))))) == (z7n (cvT (Yf (cvT l1))))) then (.ret [(.int .u8 6)]) else (.ret [(.int .u8 4)])) else .stuck) else (bif (Wh (cvT (Yf (cvT l1)))) then (bif ((z7n (cvT (Yk (cvT (Yf (cvT l0))) (cvT (Yf (cvT l1)))))) == (z7n (cvT (Yf (cvT l1))))) then (.ret [(.int .u8 5)]) else (.ret [(.int .u8 3)])) else .stuck)) else .stuck) else (bif (Qs (cvT (Yf (cvT l0))) (cvT (Yf (cvT l1)))) then (bif (decide ((v8g (cvT (Yf (cvT l0))) (cvT (Yf (cvT l1)))) > 0)) then (.ret [(.int .u8 2)]) else (.ret [(.int .u8 1)])) else .stuck)) else .stuck) else .stuck) else .stuck) else .stuck)
theorem x7p (l0 : List R6) (l1 : List R6) : ∀ s, Xt prog (Zy prog 70) (orlC l0 l1) (orlC l0 l1 s) (x1b l0 l1 s)
 := nofun
theorem x1c (l0 : List R6) (l1 : List R6) : Xt prog (Zy prog 70) (orlC l0 l1) (Zb prog 70 [(.dat l0.length (Zz l0)), (.dat l1.length (Zz l1))] true []) (z8o l0 l1) := (lo fun aV => (lo fun cK => (lo fun cL => (lo fun cM => (lb (fun k0 => (lo fun aG => (lb (fun k1 => (lo fun bF => (lb (fun k2 => (lr 57 70 [1, 1, 1, 0, 0, 1, 0, 0] 1 3 [(4, (.int .u8 6))] (sl x4a 46 [] ⟨[], [], [some [4]], []⟩ ⟨[], [], []⟩ (trs 9 []) (tt k2 (pp (pp (xI R6 (Yf (cvT l1)).length (Zz (Yf (cvT l1)))) (xw bF)) (tt k1 (pp (pp (xI R6 (Yf (cvT l0)).length (Zz (Yf (cvT l0)))) (xw aG)) (tt k0 (pp (pp (xI R6 (Yk (cvT (Yf (cvT l0))) (cvT (Yf (cvT l1)))).length (Zz (Yk (cvT (Yf (cvT l0))) (cvT (Yf (cvT l1)))))) (xw cM)) (pp (pp (xI R6 (Yf (cvT l0)).length (Zz (Yf (cvT l0)))) (pp (xI R6 (Yf (cvT l1)).length (Zz (Yf (cvT l1)))) (xw cL))) (pp (pp (xr l1) (xw cK)) (pp (pp (xr l0) (xw aV)) nn)))))))))))) (fun k2 => (lr 57 70 [1, 1, 1, 0, 0, 1, 0, 0] 1 3 [(4, (.int .u8 4))] (sl x4a 59 [] ⟨[], [], [some [4]], []⟩ ⟨[], [], []⟩ (trs 8 [false, true, true, true, true, true]) (tt k1 (pp (pp (xI R6 (Yf (cvT l0)).length (Zz (Yf (cvT l0)))) (xw aG)) (tt k0 (tt k2 (pp (pp (xI R6 (Yf (cvT l1)).length (Zz (Yf (cvT l1)))) (xw bF)) (tt k1 (pp (pp (xI R6 (Yf (cvT l0)).length (Zz (Yf (cvT l0)))) (xw aG)) (tt k0 (pp (pp (xI R6 (Yk (cvT (Yf (cvT l0))) (cvT (Yf (cvT l1)))).length (Zz (Yk (cvT (Yf (cvT l0))) (cvT (Yf (cvT l1)))))) (xw cM)) (pp (pp (xI R6 (Yf (cvT l0)).length (Zz (Yf (cvT l0)))) (pp (xI R6 (Yf (cvT l1)).length (Zz (Yf (cvT l1)))) (xw cL))) (pp (pp (xr l1) (xw cK)) (pp (pp (xr l0) (xw aV)) nn)))))))))))))))))) (fun k1 => (lo fun bF => (lb (fun k2 => (lr 57 70 [1, 1, 1, 0, 0, 1, 0, 0] 1 3 [(4, (.int .u8 5))] (sl x4a 72 [] ⟨[], [], [some [4]], []⟩ ⟨[], [], []⟩ (trs 4 [false, false, false, false, false, true, true, true, true, false, true, true, true, true, true]) (tt k2 (pp (pp (xI R6 (Yf (cvT l1)).length (Zz (Yf (cvT l1)))) (xw bF)) (tt k0 (tt k1 (pp (pp (xI R6 (Yf (cvT l0)).length (Zz (Yf (cvT l0)))) (xw aG)) (tt k0 (tt k1 (pp (pp (xI R6 (Yf (cvT l0)).length (Zz (Yf (cvT l0)))) (xw aG)) (tt k0 (pp (pp (xI R6 (Yk (cvT (Yf (cvT l0))) (cvT (Yf (cvT l1)))).length (Zz (Yk (cvT (Yf (cvT l0))) (cvT (Yf (cvT l1)))))) (xw cM)) (pp (pp (xI R6 (Yf (cvT l0)).length (Zz (Yf (cvT l0)))) (pp (xI R6 (Yf (cvT l1)).length (Zz (Yf (cvT l1)))) (xw cL))) (pp (pp (xr l1) (xw cK)) (pp (pp (xr l0) (xw aV)) nn)))))))))))))))) (fun k2 => (lr 57 70 [1, 1, 1, 0, 0, 1, 0, 0] 1 3 [(4, (.int .u8 3))] (sl x4a 79 [] ⟨[], [], [some [4]], []⟩ ⟨[], [], []⟩ (trs 4 [false, false, false, false, false, true, true, true, true, false, true, true, true, true, false, true]) (tt k0 (tt k2 (pp (pp (xI R6 (Yf (cvT l1)).length (Zz (Yf (cvT l1)))) (xw bF)) (tt k0 (tt k1 (pp (pp (xI R6 (Yf (cvT l0)).length (Zz (Yf (cvT l0)))) (xw aG)) (tt k0 (tt k1 (pp (pp (xI R6 (Yf (cvT l0)).length (Zz (Yf (cvT l0)))) (xw aG)) (tt k0 (pp (pp (xI R6 (Yk (cvT (Yf (cvT l0))) (cvT (Yf (cvT l1)))).length (Zz (Yk (cvT (Yf (cvT l0))) (cvT (Yf (cvT l1)))))) (xw cM)) (pp (pp (xI R6 (Yf (cvT l0)).length (Zz (Yf (cvT l0)))) (pp (xI R6 (Yf (cvT l1)).length (Zz (Yf (cvT l1)))) (xw cL))) (pp (pp (xr l1) (xw cK)) (pp (pp (xr l0) (xw aV)) nn))))))))))))))))))))))) (fun k0 => (lo fun aG => (lb (fun k1 => (lr 57 70 [1, 1, 1, 0, 0, 1, 0, 0] 1 3 [(4, (.int .u8 2))] (sl x4a 88 [] ⟨[], [], [some [4]], []⟩ ⟨[], [], []⟩ [false, false, false, false, false, false, false, false, false, false, false, false, false, false, false, false, false, false, false, false, true] (tt k1 (pp (pp (xI R6 (Yf (cvT l0)).length (Zz (Yf (cvT l0)))) (pp (xI R6 (Yf (cvT l1)).length (Zz (Yf (cvT l1)))) (xw aG))) (tt k0 (tt k0 (tt k0 (tt k0 (pp (pp (xI R6 (Yk (cvT (Yf (cvT l0))) (cvT (Yf (cvT l1)))).length (Zz (Yk (cvT (Yf (cvT l0))) (cvT (Yf (cvT l1)))))) (xw cM)) (pp (pp (xI R6 (Yf (cvT l0)).length (Zz (Yf (cvT l0)))) (pp (xI R6 (Yf (cvT l1)).length (Zz (Yf (cvT l1)))) (xw cL))) (pp (pp (xr l1) (xw cK)) (pp (pp (xr l0) (xw aV)) nn))))))))))))) (fun k1 => (lr 57 3 [1, 1, 1, 1, 1, 1, 0] 1 3 [(4, (.int .u8 1))] (sl x4a 90 [] ⟨[], [], [some [4]], []⟩ ⟨[], [], []⟩ [false, false, false, false, false, false, false, false, false, false, false, false, false, false, false, false, false, false, false, false, false] (tt k1 (pp (pp (xI R6 (Yf (cvT l0)).length (Zz (Yf (cvT l0)))) (pp (xI R6 (Yf (cvT l1)).length (Zz (Yf (cvT l1)))) (xw aG))) (tt k0 (tt k0 (tt k0 (tt k0 (pp (pp (xI R6 (Yk (cvT (Yf (cvT l0))) (cvT (Yf (cvT l1)))).length (Zz (Yk (cvT (Yf (cvT l0))) (cvT (Yf (cvT l1)))))) (xw cM)) (pp (pp (xI R6 (Yf (cvT l0)).length (Zz (Yf (cvT l0)))) (pp (xI R6 (Yf (cvT l1)).length (Zz (Yf (cvT l1)))) (xw cL))) (pp (pp (xr l1) (xw cK)) (pp (pp (xr l0) (xw aV)) nn)))))))))))))))))))))
theorem w7g (l0 : List R6) (l1 : List R6) (n : Nat) (vs : List AVal) (h : Yu (x1b l0 l1) n (z8o l0 l1) = .ret vs) : Jb prog (Zy prog 70) (Zb prog 70 [(.dat l0.length (Zz l0)), (.dat l1.length (Zz l1))] true []) vs := by
 have := Zh (x7p l0 l1) n _ (x1c l0 l1)
 rwa [h] at this
end Go.Am
namespace Go.Am
open Go.Proofs.Tryz
open Go.Proofs
def relN (n v u c : Int) : Int := bif decide (n > 0) then (bif n == v then (bif n == u then 6 else 4) else (bif n == u then 5 else 3)) else (bif decide (c > 0) then 2 else 1)
def orlV (X Y : List R6) : Int := relN (z7n (Yk X Y)) (z7n X) (z7n Y) (v8g X Y)
def y7l (X Y : List R6) : Bool := decide (X.length ≤ 100 ∧ Y.length ≤ 100)
theorem v5f (X Y : List R6) (h : y7l X Y = true) : ∃ N, Yu (x1b X Y) N (z8o X Y) = .ret [.int .u8 (orlV X Y)] := by
 obtain ⟨h1, h2⟩ := of_decide_eq_true h
 have hl := z2p X Y
 have hm : X.length * Y.length ≤ 100 * 100 := Nat.mul_le_mul h1 h2
 have hc : Vr X Y = true := decide_eq_true (by omega)
 have hk : Qs X Y = true := decide_eq_true (by omega)
 have b1 : Wv X = true := decide_eq_true (by omega)
 have b2 : Wv Y = true := decide_eq_true (by omega)
 have v1 : Wh X = true := decide_eq_true (by omega)
 have v2 : Wh Y = true := decide_eq_true (by omega)
 have v3 : Wh (Yk X Y) = true := decide_eq_true (by omega)
 refine ⟨0, ?_⟩
 unfold z8o orlV relN
 simp only [Ze, Yf, hc, hk, b1, b2, v1, v2, v3, cond_true]
 rcases Yn (decide (z7n (Yk X Y) > 0)) with q1 | q1
 ·rcases Yn (z7n (Yk X Y) == z7n X) with q2 | q2 <;> rcases Yn (z7n (Yk X Y) == z7n Y) with q3 | q3 <;> simp only [q1, q2, q3, cond_true, cond_false] <;> rfl
 ·rcases Yn (decide (v8g X Y > 0)) with q2 | q2 <;> simp only [q1, q2, cond_true, cond_false] <;> rfl
def fOrl : List AVal → Option (AVal × Bool)
 | [a0, a1] => match asL R6 a0, asL R6 a1 with
  | some (L0, g0, n0), some (L1, g1, n1) => some (.int .u8 (orlV L0 L1), isT R6 n0 g0 && (isT R6 n1 g1 && (y7l L0 L1)))
  | _, _ => none
 | _ => none
theorem v6w {S : Specs} (hS : Zv prog S) : Zv prog (S.with nRel fOrl) := by
 refine z0z hS (by kernel_rfl) fun args v h => ?_
 unfold fOrl at h
 split at h
 ·rename_i a0 a1
  split at h
  ·rename_i L0 g0 n0 L1 g1 n1 e0 e1
   simp only [Option.some.injEq, Prod.mk.injEq, Bool.and_eq_true] at h
   obtain ⟨rfl, ho0, ho1, hw⟩ := h
   obtain ⟨N, hN⟩ := v5f L0 L1 hw
   exact ⟨_, _, (.cons (asL_le e0 ho0) (.cons (asL_le e1 ho1) .nil)), rfl, w7g L0 L1 N _ hN, 3, rfl⟩
  ·cases h
 ·cases h
def Vg (l : List R6) : Bool := true
def Kj (l : List R6) : Bool := true
def Td : Specs := (Tc.with nRel fOrl)
theorem z7u : Zv prog Td := (v6w x4a)
end Go.Am
namespace Go.Am
open Go.Proofs.Tryz
open Go.Proofs
inductive rsdS where
def rsdC (l0 : List R6) (x1 : Int) : rsdS → Cfg
 := nofun
def x0b (l0 : List R6) (x1 : Int) : rsdS → Xs rsdS
 := nofun
def z8g (l0 : List R6) (x1 : Int) : Xs rsdS := (bif (Kj (cvT l0)) then (bif ((Wa (cvT l0)) != 0) then (.ret [(.int .i64 0), (.int .i64 (Wa (cvT l0)))]) else (bif (decide (x1 < 0)) then (.ret [(.int .i64 0), (.int .i64 2)]) else (bif (decide (x1 > 5)) then (.ret [(.int .i64 0), (.int .i64 2)]) else (bif (z1u (cvT l0) ([] : List R6)) then (bif (z1s (cvT (Ww (cvT l0) ([] : List R6))) (cvT (Wm (cvT l0) ([] : List R6))) (cvT (We (cvT l0) ([] : List R6))) (cvT (Ug (cvT l0) ([] : List R6))) (cvT (Um (cvT l0) ([] : List R6))) 0 x1) then (.ret [(.int .i64 (w8t (cvT (Ww (cvT l0) ([] : List R6))) (cvT (Wm (cvT l0) ([] : List R6))) (cvT (We (cvT l0) ([] : List R6))) (cvT (Ug (cvT l0) ([] : List R6))) (cvT (Um (cvT l0) ([] : List R6))) 0 x1)), (.int .i64 0)]) else .stuck) else .stuck)))) else .stuck)
theorem x7d (l0 : List R6) (x1 : Int) : ∀ s, Xt prog (Zy prog 22) (rsdC l0 x1) (rsdC l0 x1 s) (x0b l0 x1 s)
 := nofun
theorem x0c (l0 : List R6) (x1 : Int) : Xt prog (Zy prog 22) (rsdC l0 x1) (Zb prog 22 [(.dat l0.length (Zz l0)), (.int .i64 x1)] true []) (z8g l0 x1) := (lo fun aV => (lb (fun k0 => (lr 21 22 [1, 0, 1, 0, 0] 1 16 [(4, (ii 0)), (5, (ii (Wa (cvT l0))))] (sl y6d 20 [] ⟨[], [], [some [4, 5]], []⟩ ⟨[], [], []⟩ [true] (pp (pp (xr l0) (xw aV)) (tt k0 (pp (pp (xr l0) (xw aV)) nn)))))) (fun k0 => (lb (fun k1 => (lr 21 22 [1, 1, 0, 1, 0, 0] 1 16 [(4, (ii 0)), (5, (ii 2))] (sl y6d 30 [] ⟨[], [], [some [4, 5]], []⟩ ⟨[], [], []⟩ [false, true, true, true] (tt k1 (tt k0 (pp (pp (xr l0) (xw aV)) nn)))))) (fun k1 => (lb (fun k2 => (lr 21 22 [1, 1, 0, 1, 0, 0] 1 16 [(4, (ii 0)), (5, (ii 2))] (sl y6d 30 [] ⟨[], [], [some [4, 5]], []⟩ ⟨[], [], []⟩ [false, false, false, true] (tt k2 (tt k1 (tt k0 (pp (pp (xr l0) (xw aV)) nn))))))) (fun k2 => (lo fun o0 => (lo fun o1 => (lr 21 3 [1, 1, 1, 1, 1, 1, 0] 1 16 [(4, (ii (w8t (cvT (Ww (cvT l0) ([] : List R6))) (cvT (Wm (cvT l0) ([] : List R6))) (cvT (We (cvT l0) ([] : List R6))) (cvT (Ug (cvT l0) ([] : List R6))) (cvT (Um (cvT l0) ([] : List R6))) 0 x1))), (5, (ii 0))] (sl y6d 35 [] ⟨[], [], [some [4, 5]], []⟩ ⟨[], [], []⟩ [false, false, false, false] (pp (pp (xI Int (Ww (cvT l0) ([] : List R6)).length (Zz (Ww (cvT l0) ([] : List R6)))) (pp (xI Int (Wm (cvT l0) ([] : List R6)).length (Zz (Wm (cvT l0) ([] : List R6)))) (pp (xI Int (We (cvT l0) ([] : List R6)).length (Zz (We (cvT l0) ([] : List R6)))) (pp (xI Bool (Ug (cvT l0) ([] : List R6)).length (Zz (Ug (cvT l0) ([] : List R6)))) (pp (xI Bool (Um (cvT l0) ([] : List R6)).length (Zz (Um (cvT l0) ([] : List R6)))) (xw o1)))))) (pp (pp (xr l0) (pp (xI R6 0 (fun _ => [])) (xw o0))) (tt k2 (tt k1 (tt k0 (pp (pp (xr l0) (xw aV)) nn)))))))))))))))))
theorem w6h (l0 : List R6) (x1 : Int) (n : Nat) (vs : List AVal) (h : Yu (x0b l0 x1) n (z8g l0 x1) = .ret vs) : Jb prog (Zy prog 22) (Zb prog 22 [(.dat l0.length (Zz l0)), (.int .i64 x1)] true []) vs := by
 have := Zh (x7d l0 x1) n _ (x0c l0 x1)
 rwa [h] at this
inductive rcvS where
def rcvC (l0 : List R6) (l1 : List R6) (x2 : Int) : rcvS → Cfg
 := nofun
def x0p (l0 : List R6) (l1 : List R6) (x2 : Int) : rcvS → Xs rcvS
 := nofun
def z8l (l0 : List R6) (l1 : List R6) (x2 : Int) : Xs rcvS := (bif (Kj (cvT l0)) then (bif ((Wa (cvT l0)) != 0) then (.ret [(.int .i64 0), (.int .i64 (Wa (cvT l0)))]) else (bif (Kj (cvT l1)) then (bif ((Wa (cvT l1)) != 0) then (.ret [(.int .i64 0), (.int .i64 (Wa (cvT l1)))]) else (bif (decide (x2 < 0)) then (.ret [(.int .i64 0), (.int .i64 2)]) else (bif (decide (x2 > 5)) then (.ret [(.int .i64 0), (.int .i64 2)]) else (bif (z1u (cvT l0) (cvT l1)) then (bif (z1s (cvT (Ww (cvT l0) (cvT l1))) (cvT (Wm (cvT l0) (cvT l1))) (cvT (We (cvT l0) (cvT l1))) (cvT (Ug (cvT l0) (cvT l1))) (cvT (Um (cvT l0) (cvT l1))) 1 x2) then (.ret [(.int .i64 (w8t (cvT (Ww (cvT l0) (cvT l1))) (cvT (Wm (cvT l0) (cvT l1))) (cvT (We (cvT l0) (cvT l1))) (cvT (Ug (cvT l0) (cvT l1))) (cvT (Um (cvT l0) (cvT l1))) 1 x2)), (.int .i64 0)]) else .stuck) else .stuck)))) else .stuck)) else .stuck)
theorem x7l (l0 : List R6) (l1 : List R6) (x2 : Int) : ∀ s, Xt prog (Zy prog 24) (rcvC l0 l1 x2) (rcvC l0 l1 x2 s) (x0p l0 l1 x2 s)
 := nofun
theorem x0q (l0 : List R6) (l1 : List R6) (x2 : Int) : Xt prog (Zy prog 24) (rcvC l0 l1 x2) (Zb prog 24 [(.dat l0.length (Zz l0)), (.dat l1.length (Zz l1)), (.int .i64 x2)] true []) (z8l l0 l1 x2) := (lo fun aV => (lb (fun k0 => (lr 26 24 [1, 0, 1, 0, 0] 1 23 [(6, (ii 0)), (7, (ii (Wa (cvT l0))))] (sl y6d 60 [] ⟨[], [], [some [6, 7]], []⟩ ⟨[], [], []⟩ (trs 3 []) (pp (pp (xr l0) (xw aV)) (tt k0 (pp (pp (xr l0) (xw aV)) (tt k0 (pp (pp (xr l0) (xw aV)) (tt k0 (pp (pp (xr l0) (xw aV)) nn)))))))))) (fun k0 => (lo fun aG => (lb (fun k1 => (lr 26 24 [1, 0, 1, 0, 0] 1 23 [(6, (ii 0)), (7, (ii (Wa (cvT l1))))] (sl y6d 62 [] ⟨[], [], [some [6, 7]], []⟩ ⟨[], [], []⟩ [false, true, false] (pp (pp (xr l1) (xw aG)) (tt k0 (pp (pp (xr l0) (xw aV)) (tt k1 (pp (pp (xr l1) (xw aG)) (tt k0 (pp (pp (xr l0) (xw aV)) nn)))))))))) (fun k1 => (lb (fun k2 => (lr 26 24 [1, 1, 0, 1, 0, 0] 1 23 [(6, (ii 0)), (7, (ii 2))] (sl y6d 51 [] ⟨[], [], [some [6, 7]], []⟩ ⟨[], [], []⟩ [false, false, true, true, true] (tt k2 (tt k1 (pp (pp (xr l1) (xw aG)) (tt k0 (pp (pp (xr l0) (xw aV)) nn)))))))) (fun k2 => (lb (fun k3 => (lr 26 24 [1, 1, 0, 1, 0, 0] 1 23 [(6, (ii 0)), (7, (ii 2))] (sl y6d 51 [] ⟨[], [], [some [6, 7]], []⟩ ⟨[], [], []⟩ [false, false, false, false, true] (tt k3 (tt k2 (tt k1 (pp (pp (xr l1) (xw aG)) (tt k0 (pp (pp (xr l0) (xw aV)) nn))))))))) (fun k3 => (lo fun o0 => (lo fun o1 => (lr 26 3 [1, 1, 1, 1, 1, 1, 0] 1 23 [(6, (ii (w8t (cvT (Ww (cvT l0) (cvT l1))) (cvT (Wm (cvT l0) (cvT l1))) (cvT (We (cvT l0) (cvT l1))) (cvT (Ug (cvT l0) (cvT l1))) (cvT (Um (cvT l0) (cvT l1))) 1 x2))), (7, (ii 0))] (sl y6d 57 [] ⟨[], [], [some [6, 7]], []⟩ ⟨[], [], []⟩ [false, false, false, false, false] (pp (pp (xI Int (Ww (cvT l0) (cvT l1)).length (Zz (Ww (cvT l0) (cvT l1)))) (pp (xI Int (Wm (cvT l0) (cvT l1)).length (Zz (Wm (cvT l0) (cvT l1)))) (pp (xI Int (We (cvT l0) (cvT l1)).length (Zz (We (cvT l0) (cvT l1)))) (pp (xI Bool (Ug (cvT l0) (cvT l1)).length (Zz (Ug (cvT l0) (cvT l1)))) (pp (xI Bool (Um (cvT l0) (cvT l1)).length (Zz (Um (cvT l0) (cvT l1)))) (xw o1)))))) (pp (pp (xr l0) (pp (xr l1) (xw o0))) (tt k3 (tt k2 (tt k1 (pp (pp (xr l1) (xw aG)) (tt k0 (pp (pp (xr l0) (xw aV)) nn))))))))))))))))))))))
theorem w6s (l0 : List R6) (l1 : List R6) (x2 : Int) (n : Nat) (vs : List AVal) (h : Yu (x0p l0 l1 x2) n (z8l l0 l1 x2) = .ret vs) : Jb prog (Zy prog 24) (Zb prog 24 [(.dat l0.length (Zz l0)), (.dat l1.length (Zz l1)), (.int .i64 x2)] true []) vs := by
 have := Zh (x7l l0 l1 x2) n _ (x0q l0 l1 x2)
 rwa [h] at this
end Go.Am
namespace Go.Am
open Go.Proofs Go.Sort Go.Shelf Go.RowKit Go.Lib
namespace Dim
variable {α β : Type} (D : Dim α β)
structure Fair : Prop where
 lo_put : ∀ x x' b, D.lo (D.put x x' b) = x
 hi_put : ∀ x x' b, D.hi (D.put x x' b) = x'
 pr_put : ∀ x x' b, D.pr (D.put x x' b) = b
 ext_put : ∀ x x' x'' b, D.ext x'' (D.put x x' b) = D.put x x'' b
def Ap (R : β → β → Prop) (a b : α) : Prop := D.hi a ≤ D.lo b ∨ D.hi b ≤ D.lo a ∨ R (D.pr a) (D.pr b)
theorem w1v {D : Dim α β} (hD : D.Fair) (R : β → β → Prop) (sec : Int → List β) (cs : List Int) (hc : cs.Pairwise (· < ·)) (fJ : ∀ x, (sec x).Pairwise R) :
  ∀ (k i : Nat) (pre : List α) (last : List β) (x0 : Int), (i + k < cs.length ∨ k = 0) → pre.Pairwise (D.Ap R) → (∀ a ∈ pre, D.hi a ≤ x0) → (last ≠ [] → x0 ≤ rd cs i) → (last = [] → x0 ≤ rd cs i) → last.Pairwise R →
  (D.ref sec cs k i (pre ++ last.map (D.put x0 (rd cs i))) last pre.length).Pairwise (D.Ap R) := by
 have fin : ∀ (pre : List α) (last : List β) (x0 x' : Int), pre.Pairwise (D.Ap R) → (∀ a ∈ pre, D.hi a ≤ x0) → last.Pairwise R → (pre ++ last.map (D.put x0 x')).Pairwise (D.Ap R) := fun pre last x0 x' h1 h2 h3 => by
  refine List.pairwise_append.2 ⟨h1, ?_, fun a ha b hb => ?_⟩
  ·refine List.pairwise_map.2 (h3.imp fun {a b} h => .inr (.inr ?_))
   rw [hD.pr_put, hD.pr_put]; exact h
  ·obtain ⟨c, _, rfl⟩ := List.mem_map.1 hb
   exact .inl (by rw [hD.lo_put]; exact h2 a ha)
 intro k
 induction k with
 | zero => intro i pre last x0 _ h1 h2 _ _ h3; exact fin pre last x0 _ h1 h2 h3
 | succ k ih =>
  intro i pre last x0 hk h1 h2 h4 h5 h3
  have hlt : rd cs i < rd cs (i + 1) := w7u hc (Nat.lt_succ_self _) (by omega)
  unfold ref
  cases hq : (decide (0 < i) && D.same (sec (rd cs i)) last) with
  | true =>
   rw [cond_true]
   have e : D.grow (pre ++ last.map (D.put x0 (rd cs i))) pre.length (rd cs (i + 1)) = pre ++ last.map (D.put x0 (rd cs (i + 1))) := by
    unfold grow
    rw [List.take_left, List.drop_left, List.map_map]
    congr 1
    exact List.map_congr_left fun b _ => hD.ext_put _ _ _ _
   rw [e]
   exact ih (i + 1) pre last x0 (by omega) h1 h2 (fun h => by have := h4 h; omega) (fun h => by have := h5 h; omega) h3
  | false =>
   rw [cond_false]
   refine ih (i + 1) (pre ++ last.map (D.put x0 (rd cs i))) (sec (rd cs i)) (rd cs i) (by omega) (fin pre last x0 _ h1 h2 h3) (fun a ha => ?_) (fun _ => by omega) (fun _ => by omega) (fJ _)
   rcases List.mem_append.1 ha with ha | ha
   ·have := h2 a ha
    by_cases e : last = []
    ·have := h5 e; omega
    ·have := h4 e; omega
   ·obtain ⟨c, _, rfl⟩ := List.mem_map.1 ha
    rw [hD.hi_put]; exact Int.le_refl _
theorem out_apart {D : Dim α β} (hD : D.Fair) (R : β → β → Prop) (hs : ∀ a b, D.same a b = true ↔ a = b) (l : List α) (fJ : ∀ x, (D.sec l x).Pairwise R) : (D.out l).Pairwise (D.Ap R) := by
 rw [D.out_eq hs l]
 have hc : (D.cuts l).Pairwise (· < ·) := by
  show (z7h (D.ends l)).Pairwise (· < ·)
  rw [x2z]; exact (z9k _).1
 have := w1v hD R (D.sec l) (D.cuts l) hc fJ ((D.cuts l).length - 1) 0 [] [] (rd (D.cuts l) 0) (by omega) .nil (by simp) (fun _ => Int.le_refl _) (fun _ => Int.le_refl _) .nil
 exact this
end Dim
theorem v8v : D4.Fair := ⟨fun _ _ _ => rfl, fun _ _ _ => rfl, fun _ _ _ => rfl, fun _ _ _ _ => rfl⟩
theorem v8u : D6.Fair := ⟨fun _ _ _ => rfl, fun _ _ _ => rfl, fun _ _ _ => rfl, fun _ _ _ _ => rfl⟩
def Ap2 (s t : R2) : Prop := s.b ≤ t.a ∨ t.b ≤ s.a
def Ap4 (s t : R4) : Prop := s.c ≤ t.a ∨ t.c ≤ s.a ∨ s.d ≤ t.b ∨ t.d ≤ s.b
def Ap6 (s t : R6) : Prop := s.d ≤ t.a ∨ t.d ≤ s.a ∨ s.e ≤ t.b ∨ t.e ≤ s.b ∨ s.f ≤ t.c ∨ t.f ≤ s.c
theorem w0q (l : List R2) : (Xh l).Pairwise Ap2 := by
 unfold Xh
 by_cases h : 400 < l.length
 ·rw [decide_eq_true h]; exact .nil
 ·rw [decide_eq_false h, cond_false]
  cases hv : l.all y1x with
  | false => exact .nil
  | true =>
   rw [cond_true]
   exact (w0j l hv).1.sep.imp fun {s t} h => .inl (by omega)
theorem w1s (l : List R4) : (Xg l).Pairwise Ap4 := by
 have key : (D4.out l).Pairwise Ap4 := (Dim.out_apart v8v Ap2 (fun a b => decide_eq_true_iff) l fun x => w0q _).imp fun {s t} h => by
  rcases h with h | h | h | h
  ·exact .inl h
  ·exact .inr (.inl h)
  ·exact .inr (.inr (.inl h))
  ·exact .inr (.inr (.inr h))
 unfold Xg
 by_cases h : 400 < l.length
 ·rw [decide_eq_true h]; exact .nil
 ·rw [decide_eq_false h, cond_false]
  cases l.all z7z with
  | false => exact .nil
  | true =>
   rw [cond_true]
   cases decide (((D4.out l).length : Int) > 400) with
   | true => exact .nil
   | false => exact key
theorem y4h {l : List R6} (h : Ye l = 0) : l.length ≤ 400 ∧ (∀ r ∈ l, z9f r = true) ∧ l = D6.out l ∧ l.Pairwise Ap6 := by
 unfold Ye at h
 by_cases h1 : 400 < l.length
 ·rw [decide_eq_true h1] at h; cases h
 ·rw [decide_eq_false h1, cond_false] at h
  cases hv : l.all z9f with
  | false => rw [hv] at h; cases h
  | true =>
   rw [hv, cond_true] at h
   cases ho : okF l ((D6.cuts l).length - 1) 0 with
   | false => rw [ho] at h; cases h
   | true =>
    rw [ho, cond_true] at h
    cases h2 : decide (((D6.out l).length : Int) > 400) with
    | true => rw [h2] at h; cases h
    | false =>
     rw [h2, cond_false] at h
     cases h3 : Jd (D6.out l) l with
     | false => rw [h3] at h; cases h
     | true =>
      have e : D6.out l = l := of_decide_eq_true h3
      refine ⟨by omega, fun r hr => List.all_eq_true.1 hv r hr, e.symm, ?_⟩
      have := (Dim.out_apart v8u Ap4 (fun a b => decide_eq_true_iff) l fun x => w1s _).imp (S := Ap6) fun {s t} h => by
       rcases h with h | h | h | h | h | h
       ·exact .inr (.inr (.inr (.inr (.inl h))))
       ·exact .inr (.inr (.inr (.inr (.inr h))))
       ·exact .inl h
       ·exact .inr (.inl h)
       ·exact .inr (.inr (.inl h))
       ·exact .inr (.inr (.inr (.inl h)))
      rwa [e] at this
theorem z1e {r : R6} (h : z9f r = true) : r.a < r.d ∧ r.b < r.e ∧ r.c < r.f ∧ -1000000 ≤ r.a ∧ -1000000 ≤ r.b ∧ -1000000 ≤ r.c ∧ r.d ≤ 1000000 ∧ r.e ≤ 1000000 ∧ r.f ≤ 1000000 := by
 rw [w0e] at h
 simp only [x6f, Bool.and_eq_true, decide_eq_true_eq] at h
 omega
end Go.Am
namespace Go.Am
open Go.Proofs Go.Sort Go.Shelf Go.RowKit Go.Lib
structure y2j (β : Type) where
 a : Int
 b : Int
 s : List β
def ptL {β γ : Type} (inB : β → γ → Prop) (s : List β) (q : γ) : Prop := ∃ r ∈ s, inB r q
structure Sem (β γ : Type) where
 can : List β → Prop
 inB : β → γ → Prop
 uniq : ∀ s t, can s → can t → (∀ q, ptL inB s q ↔ ptL inB t q) → s = t
 some : ∀ s, can s → s ≠ [] → ∃ q, ptL inB s q
 nil : can []
section
variable {β γ : Type} (M : Sem β γ)
def OkS (g : y2j β) : Prop := g.a < g.b ∧ M.can g.s ∧ g.s ≠ []
def Nxt (g h : y2j β) : Prop := g.b ≤ h.a ∧ (g.b = h.a → g.s ≠ h.s)
inductive y9f : List (y2j β) → Prop
 | nil : y9f []
 | one (g : y2j β) (h : OkS M g) : y9f [g]
 | cons (g h : y2j β) (r : List (y2j β)) (ok : OkS M g) (nx : Nxt g h) (k : y9f (h :: r)) : y9f (g :: h :: r)
def ptG (G : List (y2j β)) (x : Int) (q : γ) : Prop := ∃ g ∈ G, g.a ≤ x ∧ x < g.b ∧ ptL M.inB g.s q
variable {M}
theorem y9f.head {g : y2j β} {r : List (y2j β)} (h : y9f M (g :: r)) : OkS M g := by cases h <;> assumption
theorem y9f.tail {g : y2j β} {r : List (y2j β)} (h : y9f M (g :: r)) : y9f M r := by
 cases h with
 | one => exact .nil
 | cons _ _ _ _ _ k => exact k
theorem y9f.later {g : y2j β} {r : List (y2j β)} (h : y9f M (g :: r)) : ∀ k ∈ r, g.b ≤ k.a := by
 induction r generalizing g with
 | nil => intro k hk; cases hk
 | cons k r ih =>
  cases h with
  | cons _ _ _ ok nx kk =>
   intro m hm
   rcases List.mem_cons.1 hm with rfl | hm
   ·exact nx.1
   ·have h1 := ih kk m hm
    have h2 := kk.head.1
    have h3 := nx.1
    omega
theorem y9f.before {G : List (y2j β)} {g : y2j β} (k : y9f M (G ++ [g])) : ∀ m ∈ G, m.b ≤ g.a := by
 induction G with
 | nil => intro m hm; cases hm
 | cons m r ih =>
  intro n hn
  rcases List.mem_cons.1 hn with rfl | hn
  ·exact k.later g (by simp)
  ·exact ih k.tail n hn
theorem x4s (g : y2j β) (G : List (y2j β)) (x : Int) (q : γ) : ptG M (g :: G) x q ↔ (g.a ≤ x ∧ x < g.b ∧ ptL M.inB g.s q) ∨ ptG M G x q := by
 constructor
 ·rintro ⟨k, hk, h⟩
  rcases List.mem_cons.1 hk with rfl | hk
  ·exact .inl h
  ·exact .inr ⟨k, hk, h⟩
 ·rintro (h | ⟨k, hk, h⟩)
  ·exact ⟨g, by simp, h⟩
  ·exact ⟨k, by simp [hk], h⟩
theorem y9f.low {g : y2j β} {r : List (y2j β)} (h : y9f M (g :: r)) {x : Int} {q : γ} (hp : ptG M (g :: r) x q) : g.a ≤ x := by
 rcases (x4s g r x q).1 hp with hp | ⟨k, hk, h1, _⟩
 ·exact hp.1
 ·have := h.later k hk
  have := h.head.1
  omega
theorem y9f.rest {g : y2j β} {r : List (y2j β)} (h : y9f M (g :: r)) (x : Int) (q : γ) : ptG M r x q ↔ g.b ≤ x ∧ ptG M (g :: r) x q := by
 constructor
 ·rintro ⟨k, hk, h1, h2⟩
  have := h.later k hk
  exact ⟨by omega, k, by simp [hk], h1, h2⟩
 ·rintro ⟨hx, hp⟩
  rcases (x4s g r x q).1 hp with hp | hp
  ·omega
  ·exact hp
end
namespace Dim
variable {α β : Type} (D : Dim α β)
def flat (G : List (y2j β)) : List α := G.flatMap fun g => g.s.map (D.put g.a g.b)
variable {D}
def can {γ : Type} (M : Sem β γ) (l : List α) : Prop := ∃ G, y9f M G ∧ l = D.flat G
variable (D)
variable {D}
structure Inv {γ : Type} (M : Sem β γ) (sec : Int → List β) (cs : List Int) (i : Nat) (s : Sw α β) (G : List (y2j β)) : Prop where
 can : y9f M G
 out : s.out = D.flat G
 gap : s.last = [] → ∀ g ∈ G, g.b < rd cs i
 end_ : s.last ≠ [] → ∃ Gp g, G = Gp ++ [g] ∧ g.s = s.last ∧ g.b = rd cs i ∧ s.fin = rd cs i ∧ s.first = (D.flat Gp).length
 pts : ∀ x q, ptG M G x q ↔ ∃ j, j < i ∧ rd cs j ≤ x ∧ x < rd cs (j + 1) ∧ ptL M.inB (sec (rd cs j)) q
end Dim
end Go.Am
namespace Go.Am
open Go.Proofs Go.Sort Go.Shelf Go.RowKit Go.Lib
namespace Dim
variable {α β : Type} {D : Dim α β}
end Dim
end Go.Am
namespace Go.Am
open Go.Proofs Go.Sort Go.Shelf Go.RowKit Go.Lib
def ind (a b t : Int) : Int := if a ≤ t ∧ t < b then 1 else 0
def ptsN (lo : Int) (n : Nat) : List Int := (List.range n).map fun (k : Nat) => lo + (k : Int)
theorem w3k (a b lo : Int) : ∀ n : Nat, sm (ptsN lo n) (ind a b) = ovl a b lo (lo + n)
 | 0 => by show (0 : Int) = _; unfold ovl; omega
 | n + 1 => by
  unfold ptsN
  rw [List.range_succ, List.map_append, y6r]
  have := w3k a b lo n
  unfold ptsN at this
  rw [this, List.map_cons, List.map_nil, Vs, w0v]
  unfold ind ovl
  split <;> omega
theorem z6i (a b c d t : Int) : ind a b t * ind c d t = ind (max a c) (min b d) t := by
 unfold ind
 by_cases h1 : a ≤ t ∧ t < b
 ·by_cases h2 : c ≤ t ∧ t < d
  ·rw [if_pos h1, if_pos h2, if_pos (by omega)]; rfl
  ·rw [if_pos h1, if_neg h2, if_neg (by omega)]; rfl
 ·rw [if_neg h1, Int.zero_mul, if_neg (by omega)]
theorem z6h (a b t : Int) : 0 ≤ ind a b t := by unfold ind; split <;> omega
theorem ind_le (a b t : Int) : ind a b t ≤ 1 := by unfold ind; split <;> omega
def Pts (p : List Int) : Prop := (∀ a b, -1000005 ≤ a ∧ b ≤ 1000005 → sm p (ind a b) = max 0 (b - a)) ∧ p.length = 2000010
theorem v1e : ∃ p, Pts p := by
 refine ⟨ptsN (-1000005) 2000010, fun a b h => ?_, by simp only [ptsN, List.length_map, List.length_range]⟩
 rw [w3k]
 show ovl a b (-1000005) (-1000005 + 2000010) = _
 unfold ovl; omega
def S3 (p : List Int) (f : Int → Int → Int → Int) : Int := sm p fun x => sm p fun y => sm p fun z => f x y z
theorem y6b {p : List Int} {f g : Int → Int → Int → Int} (h : ∀ x y z, f x y z = g x y z) : S3 p f = S3 p g := by
 have : f = g := by funext x y z; exact h x y z
 rw [this]
theorem v8q {p : List Int} {α : Type} (l : List α) (f : α → Int → Int → Int → Int) : S3 p (fun x y z => sm l fun a => f a x y z) = sm l fun a => S3 p (f a) := by
 unfold S3
 rw [y9t l p]
 refine Xz fun x _ => ?_
 rw [y9t l p]
 exact Xz fun y _ => y9t _ _ _
theorem v3b {p : List Int} (f g : Int → Int → Int → Int) : S3 p (fun x y z => f x y z - g x y z) = S3 p f - S3 p g := by
 unfold S3; simp only [sm_sub]
theorem S3_mul {p : List Int} (f g h : Int → Int) : S3 p (fun x y z => f x * g y * h z) = sm p f * sm p g * sm p h := by
 unfold S3
 simp only [y4f, Int.mul_assoc]
 rw [← x4e]
 refine Xz fun x _ => ?_
 rw [← x4e]
def inR (r : R6) (x y z : Int) : Int := ind r.a r.d x * ind r.b r.e y * ind r.c r.f z
theorem y3k (r : R6) (x y z : Int) : 0 ≤ inR r x y z := Int.mul_nonneg (Int.mul_nonneg (z6h ..) (z6h ..)) (z6h ..)
theorem y8c (r : R6) (x y z : Int) : inR r x y z = if (r.a ≤ x ∧ x < r.d) ∧ (r.b ≤ y ∧ y < r.e) ∧ (r.c ≤ z ∧ z < r.f) then 1 else 0 := by
 unfold inR ind
 by_cases h1 : r.a ≤ x ∧ x < r.d <;> by_cases h2 : r.b ≤ y ∧ y < r.e <;> by_cases h3 : r.c ≤ z ∧ z < r.f <;> simp [h1, h2, h3]
def v5k (r : R6) : Prop := -1000002 ≤ r.a ∧ r.d ≤ 1000002 ∧ -1000002 ≤ r.b ∧ r.e ≤ 1000002 ∧ -1000002 ≤ r.c ∧ r.f ≤ 1000002
theorem ov_S3 {p : List Int} (hp : Pts p) (r s : R6) (hr : v5k r) : S3 p (fun x y z => inR r x y z * inR s x y z) = ov r s := by
 obtain ⟨h1, h2, h3, h4, h5, h6⟩ := hr
 have e : (fun x y z => inR r x y z * inR s x y z) = fun x y z => ind (max r.a s.a) (min r.d s.d) x * ind (max r.b s.b) (min r.e s.e) y * ind (max r.c s.c) (min r.f s.f) z := by
  funext x y z
  rw [← z6i, ← z6i, ← z6i]
  unfold inR
  simp only [Int.mul_comm, Int.mul_left_comm, Int.mul_assoc]
 rw [e, S3_mul, hp.1 _ _ (by omega), hp.1 _ _ (by omega), hp.1 _ _ (by omega)]
 rfl
def cnt (X : List R6) (x y z : Int) : Int := sm X fun r => inR r x y z
theorem x9d (X : List R6) (x y z : Int) : 0 ≤ cnt X x y z := y6p fun r _ => y3k r x y z
theorem v2u : ∀ (X : List R6), X.Pairwise Ap6 → ∀ x y z, cnt X x y z ≤ 1
 | [], _, x, y, z => by show (0 : Int) ≤ 1; omega
 | r :: X, h, x, y, z => by
  obtain ⟨h1, h2⟩ := List.pairwise_cons.1 h
  have ih := v2u X h2 x y z
  have e : cnt (r :: X) x y z = inR r x y z + cnt X x y z := Vs _ _ _
  rw [e, y8c]
  split
  ·rename_i hp
   have : cnt X x y z = 0 := by
    have : cnt X x y z = sm X fun _ => 0 := Xz fun s hs => by
     rw [y8c]
     refine if_neg fun hq => ?_
     have := h1 s hs
     unfold Ap6 at this
     omega
    rw [this, Qg]
   omega
  ·omega
theorem S2_S3 {p : List Int} (hp : Pts p) (X Y : List R6) (hX : ∀ r ∈ X, v5k r) : S2 X Y = S3 p fun x y z => cnt X x y z * cnt Y x y z := by
 have e : (fun x y z => cnt X x y z * cnt Y x y z) = fun x y z => sm X fun r => sm Y fun s => inR r x y z * inR s x y z := by
  funext x y z
  unfold cnt
  rw [← x4e]
  exact Xz fun r _ => (y4f _ _ _).symm
 rw [e, v8q]
 unfold S2
 refine Xz fun r hr => ?_
 rw [v8q]
 exact Xz fun s _ => (ov_S3 hp r s (hX r hr)).symm
theorem w2j {r : R6} (h : z9f r = true) : okB r = true := by
 have := z1e h
 exact decide_eq_true (by omega)
end Go.Am
namespace Go.Am
open Go.Proofs Go.Sort Go.Shelf Go.RowKit Go.Lib
theorem sm_pos {α : Type} {l : List α} {f : α → Int} (h : sm l f ≠ 0) : ∃ x ∈ l, f x ≠ 0 := Classical.byContradiction fun hn => h (by
 have : sm l f = sm l fun _ => 0 := Xz fun x hx => Classical.byContradiction fun e => hn ⟨x, hx, e⟩
 rw [this, Qg])
theorem x0w {p : List Int} (hp : Pts p) {t : Int} (h : -1000005 ≤ t ∧ t < 1000005) : t ∈ p := by
 have h1 := hp.1 t (t + 1) (by omega)
 have h2 : sm p (ind t (t + 1)) ≠ 0 := by rw [h1]; omega
 obtain ⟨x, hx, hn⟩ := sm_pos h2
 unfold ind at hn
 split at hn
 ·have : x = t := by omega
  rwa [← this]
 ·exact absurd rfl hn
def inS (X : List R6) (x y z : Int) : Prop := ∃ r ∈ X, (r.a ≤ x ∧ x < r.d) ∧ (r.b ≤ y ∧ y < r.e) ∧ (r.c ≤ z ∧ z < r.f)
theorem cnt_eq (X : List R6) (hX : X.Pairwise Ap6) (x y z : Int) : (inS X x y z → cnt X x y z = 1) ∧ (¬ inS X x y z → cnt X x y z = 0) := by
 have h0 := x9d X x y z
 have h1 := v2u X hX x y z
 constructor
 ·rintro ⟨r, hr, hp⟩
  have : cnt X x y z ≠ 0 := fun e => by
   have := x6s (fun r _ => y3k r x y z) e r hr
   rw [y8c, if_pos hp] at this
   cases this
  omega
 ·intro hn
  have : cnt X x y z = sm X fun _ => 0 := Xz fun r hr => by
   rw [y8c]
   exact if_neg fun hp => hn ⟨r, hr, hp⟩
  rw [this, Qg]
structure Sol (X : List R6) : Prop where
 len : X.length ≤ 400
 val : ∀ r ∈ X, z9f r = true
 ap : X.Pairwise Ap6
theorem Sol.of {X : List R6} (h : Ye X = 0) : Sol X := ⟨(y4h h).1, (y4h h).2.1, (y4h h).2.2.2⟩
theorem Sol.bnd {X : List R6} (h : Sol X) {x y z : Int} (hp : inS X x y z) : (-1000000 ≤ x ∧ x < 1000000) ∧ (-1000000 ≤ y ∧ y < 1000000) ∧ (-1000000 ≤ z ∧ z < 1000000) := by
 obtain ⟨r, hr, h1, h2, h3⟩ := hp
 have := z1e (h.val r hr)
 omega
theorem Sol.pts {p : List Int} (hp : Pts p) {X : List R6} (h : Sol X) {x y z : Int} (hq : inS X x y z) : x ∈ p ∧ y ∈ p ∧ z ∈ p := by
 have := h.bnd hq
 exact ⟨x0w hp (by omega), x0w hp (by omega), x0w hp (by omega)⟩
end Go.Am
namespace Go.Am
open Go.Proofs
def hiC : Int → List Int → Int
 | a, [] => a
 | _, b :: l => hiC b l
def Up : Int → List Int → Prop
 | _, [] => True
 | a, b :: l => a < b ∧ Up b l
def PC {γ : Type} (G : Int → γ) : Int → List Int → Prop
 | _, [] => True
 | a, b :: l => (∀ t, a ≤ t → t < b → G t = G a) ∧ PC G b l
def mS (g : Int → Int) : Int → List Int → Int
 | _, [] => 0
 | a, b :: l => g a * (b - a) + mS g b l
def tS {γ : Type} (f : γ → γ → Int) (G : Int → γ) : Int → List Int → Int
 | _, [] => 0
 | _, [_] => 0
 | a, b :: c :: l => f (G a) (G b) + tS f G b (c :: l)
theorem y1z : ∀ (l : List Int) (a : Int), Up a l → a ≤ hiC a l
 | [], a, _ => Int.le_refl _
 | b :: l, a, h => by have := y1z l b h.2; have := h.1; show a ≤ hiC b l; omega
theorem z3a {ι γ : Type} {F : Int → ι → γ} : ∀ (l : List Int) (a : Int), (∀ i, PC (fun t => F t i) a l) → PC F a l
 | [], _, _ => trivial
 | b :: l, a, h => ⟨fun t h1 h2 => funext fun i => (h i).1 t h1 h2, z3a l b fun i => (h i).2⟩
theorem x4v {γ δ : Type} {F : Int → γ} (Φ : γ → δ) : ∀ (l : List Int) (a : Int), PC F a l → PC (fun t => Φ (F t)) a l
 | [], _, _ => trivial
 | b :: l, a, h => ⟨fun t h1 h2 => congrArg Φ (h.1 t h1 h2), x4v Φ l b h.2⟩
theorem x4u {γ δ ε : Type} {F : Int → γ} {H : Int → δ} (Φ : γ → δ → ε) : ∀ (l : List Int) (a : Int), PC F a l → PC H a l → PC (fun t => Φ (F t) (H t)) a l
 | [], _, _, _ => trivial
 | b :: l, a, h, k => ⟨fun t h1 h2 => by show Φ (F t) (H t) = Φ (F a) (H a); rw [h.1 t h1 h2, k.1 t h1 h2], x4u Φ l b h.2 k.2⟩
section
variable {p : List Int} (hp : Pts p)
include hp
theorem w0x {a b c : Int} (h : a ≤ b) (ha : -1000005 ≤ a) (hb : b ≤ 1000005) : sm p (fun t => c * ind a b t) = c * (b - a) := by
 rw [y4f, hp.1 a b ⟨ha, hb⟩]
 congr 1; omega
theorem w3a {g : Int → Int} : ∀ (l : List Int) (a : Int), Up a l → PC g a l → -1000005 ≤ a → hiC a l ≤ 1000005 → sm p (fun t => if a ≤ t ∧ t < hiC a l then g t else 0) = mS g a l
 | [], a, _, _, _, _ => by
  rw [Xz (g := fun _ => 0) fun t _ => if_neg (by show ¬ (a ≤ t ∧ t < a); omega)]
  exact Qg p
 | b :: l, a, hu, hc, ha, hb => by
  have hb : hiC b l ≤ 1000005 := hb
  show sm p (fun t => if a ≤ t ∧ t < hiC b l then g t else 0) = _
  have k := y1z l b hu.2
  have ih := w3a l b hu.2 hc.2 (by have := hu.1; omega) hb
  show _ = g a * (b - a) + mS g b l
  rw [← ih, ← w0x hp (c := g a) (by have := hu.1; omega) ha (by omega), ← x4f]
  refine Xz fun t _ => ?_
  have := hu.1
  unfold ind
  by_cases h1 : a ≤ t ∧ t < b
  ·rw [if_pos h1, if_pos (by omega), if_neg (by omega), hc.1 t h1.1 h1.2]; omega
  ·rw [if_neg h1]
   by_cases h2 : b ≤ t ∧ t < hiC b l
   ·rw [if_pos h2, if_pos (by omega)]; omega
   ·rw [if_neg h2, if_neg (by omega)]; omega
theorem y3f {g : Int → Int} {a : Int} {l : List Int} (hu : Up a l) (hc : PC g a l) (ha : -1000005 ≤ a) (hb : hiC a l ≤ 1000005) (ho : ∀ t, t < a ∨ hiC a l ≤ t → g t = 0) : sm p g = mS g a l := by
 rw [← w3a hp l a hu hc ha hb]
 refine Xz fun t _ => ?_
 by_cases h : a ≤ t ∧ t < hiC a l
 ·rw [if_pos h]
 ·rw [if_neg h]; exact ho t (by omega)
variable {γ : Type} {f : γ → γ → Int} (hf : ∀ u, f u u = 0) {G : Int → γ}
include hf
theorem tr_up : ∀ (l : List Int) (a : Int), Up a l → PC G a l → -1000005 ≤ a → hiC a l ≤ 1000005 → sm p (fun t => if a < t ∧ t < hiC a l then f (G (t - 1)) (G t) else 0) = tS f G a l
 | [], a, _, _, _, _ => by
  rw [Xz (g := fun _ => 0) fun t _ => if_neg (by show ¬ (a < t ∧ t < a); omega)]
  exact Qg p
 | [b], a, hu, hc, _, _ => by
  rw [Xz (g := fun _ => 0) fun t _ => ?_]
  ·exact Qg p
  ·show (if a < t ∧ t < b then _ else _) = _
   by_cases h : a < t ∧ t < b
   ·rw [if_pos h, hc.1 (t - 1) (by omega) (by omega), hc.1 t (by omega) h.2]; exact hf _
   ·exact if_neg h
 | b :: c :: l, a, hu, hc, ha, hb => by
  have hb : hiC b (c :: l) ≤ 1000005 := hb
  show sm p (fun t => if a < t ∧ t < hiC b (c :: l) then f (G (t - 1)) (G t) else 0) = _
  have k := y1z (c :: l) b hu.2
  have k2 := y1z l c hu.2.2
  have k3 : hiC b (c :: l) = hiC c l := rfl
  have hbc := hu.2.1
  have hab := hu.1
  have ih := tr_up (c :: l) b hu.2 hc.2 (by omega) hb
  show _ = f (G a) (G b) + tS f G b (c :: l)
  have e := w0x hp (c := f (G a) (G b)) (a := b) (b := b + 1) (by omega) (by omega) (by omega)
  rw [show b + 1 - b = 1 by omega, Int.mul_one] at e
  rw [← ih, ← e, ← x4f]
  refine Xz fun t _ => ?_
  unfold ind
  by_cases h0 : t = b
  ·subst h0
   rw [if_pos (by omega), if_pos (by omega), if_neg (by omega), hc.1 (t - 1) (by omega) (by omega)]; omega
  ·by_cases h1 : a < t ∧ t < b
   ·rw [if_pos (by omega), if_neg (by omega), if_neg (by omega), hc.1 (t - 1) (by omega) (by omega), hc.1 t (by omega) h1.2, hf]; omega
   ·rw [if_neg (c := b ≤ t ∧ t < b + 1) (by omega)]
    by_cases h2 : b < t ∧ t < hiC b (c :: l)
    ·rw [if_pos h2, if_pos (by omega)]; omega
    ·rw [if_neg h2, if_neg (by omega)]; omega
theorem tr_dn : ∀ (l : List Int) (a : Int), Up a l → PC G a l → -1000005 ≤ a → hiC a l ≤ 1000005 → sm p (fun t => if a ≤ t ∧ t + 1 < hiC a l then f (G (t + 1)) (G t) else 0) = tS (fun u v => f v u) G a l
 | [], a, _, _, _, _ => by
  rw [Xz (g := fun _ => 0) fun t _ => if_neg (by show ¬ (a ≤ t ∧ t + 1 < a); omega)]
  exact Qg p
 | [b], a, hu, hc, _, _ => by
  rw [Xz (g := fun _ => 0) fun t _ => ?_]
  ·exact Qg p
  ·show (if a ≤ t ∧ t + 1 < b then _ else _) = _
   by_cases h : a ≤ t ∧ t + 1 < b
   ·rw [if_pos h, hc.1 (t + 1) (by omega) (by omega), hc.1 t (by omega) (by omega)]; exact hf _
   ·exact if_neg h
 | b :: c :: l, a, hu, hc, ha, hb => by
  have hb : hiC b (c :: l) ≤ 1000005 := hb
  show sm p (fun t => if a ≤ t ∧ t + 1 < hiC b (c :: l) then f (G (t + 1)) (G t) else 0) = _
  have k := y1z (c :: l) b hu.2
  have k2 := y1z l c hu.2.2
  have k3 : hiC b (c :: l) = hiC c l := rfl
  have hbc := hu.2.1
  have hab := hu.1
  have ih := tr_dn (c :: l) b hu.2 hc.2 (by omega) hb
  show _ = f (G b) (G a) + tS (fun u v => f v u) G b (c :: l)
  have e := w0x hp (c := f (G b) (G a)) (a := b - 1) (b := b) (by omega) (by omega) (by omega)
  rw [show b - (b - 1) = 1 by omega, Int.mul_one] at e
  rw [← ih, ← e, ← x4f]
  refine Xz fun t _ => ?_
  unfold ind
  by_cases h0 : t + 1 = b
  ·rw [if_pos (by omega), if_pos (by omega), if_neg (by omega), h0, hc.1 t (by omega) (by omega)]; omega
  ·by_cases h1 : a ≤ t ∧ t + 1 < b
   ·rw [if_pos (by omega), if_neg (by omega), if_neg (by omega), hc.1 (t + 1) (by omega) (by omega), hc.1 t (by omega) (by omega), hf]; omega
   ·rw [if_neg (c := b - 1 ≤ t ∧ t < b) (by omega)]
    by_cases h2 : b ≤ t ∧ t + 1 < hiC b (c :: l)
    ·rw [if_pos h2, if_pos (by omega)]; omega
    ·rw [if_neg h2, if_neg (by omega)]; omega
def sh (s : Bool) (t : Int) : Int := bif s then t - 1 else t + 1
def sw {γ : Type} (s : Bool) (f : γ → γ → Int) : γ → γ → Int := bif s then f else fun u v => f v u
omit hp hf in
theorem y9n (s : Bool) (hf : ∀ u, f u u = 0) (u : γ) : sw s f u u = 0 := by cases s <;> exact hf u
theorem w0h (s : Bool) {o : γ} {a : Int} {l : List Int} (hu : Up a l) (hc : PC G a l) (ha : -1000005 ≤ a) (hb : hiC a l ≤ 1000005) (ho : ∀ t, t ≤ a ∨ hiC a l ≤ t + 1 → G t = o) : sm p (fun t => f (G (sh s t)) (G t)) = tS (sw s f) G a l := by
 cases s
 ·show _ = tS (fun u v => f v u) G a l
  rw [← tr_dn hp hf l a hu hc ha hb]
  refine Xz fun t _ => ?_
  show f (G (t + 1)) (G t) = _
  by_cases h : a ≤ t ∧ t + 1 < hiC a l
  ·rw [if_pos h]
  ·rw [if_neg h, ho t (by omega), ho (t + 1) (by omega)]; exact hf o
 ·show _ = tS f G a l
  rw [← tr_up hp hf l a hu hc ha hb]
  refine Xz fun t _ => ?_
  show f (G (t - 1)) (G t) = _
  by_cases h : a < t ∧ t < hiC a l
  ·rw [if_pos h]
  ·rw [if_neg h, ho t (by omega), ho (t - 1) (by omega)]; exact hf o
end
theorem z8a {γ : Type} {f : γ → γ → Int} {o : γ} (h : f o o = 0) : ∀ (l : List Int) (a : Int), tS f (fun _ => o) a l = 0
 | [], _ => rfl
 | [_], _ => rfl
 | b :: c :: l, a => by show f o o + tS f (fun _ => o) b (c :: l) = 0; rw [h, z8a h (c :: l) b]; rfl
theorem z4y : ∀ (l : List Int) (a : Int), mS (fun _ => 0) a l = 0
 | [], _ => rfl
 | b :: l, a => by show 0 * (b - a) + mS (fun _ => 0) b l = 0; rw [z4y l b]; omega
structure Cel {γ : Type} (G : Int → Int → Int → γ) (o : γ) (a : Int) (l : List Int) (b : Int) (m : List Int) (c : Int) (n : List Int) : Prop where
 ux : Up a l
 uy : Up b m
 uz : Up c n
 bx : -1000005 ≤ a ∧ hiC a l ≤ 1000005
 hy : -1000005 ≤ b ∧ hiC b m ≤ 1000005
 bz : -1000005 ≤ c ∧ hiC c n ≤ 1000005
 px : ∀ y z, PC (fun x => G x y z) a l
 py : ∀ x z, PC (fun y => G x y z) b m
 pz : ∀ x y, PC (fun z => G x y z) c n
 ox : ∀ x y z, (x ≤ a ∨ hiC a l ≤ x + 1) → G x y z = o
 oy : ∀ x y z, (y ≤ b ∨ hiC b m ≤ y + 1) → G x y z = o
 oz : ∀ x y z, (z ≤ c ∨ hiC c n ≤ z + 1) → G x y z = o
section
variable {γ : Type} {G : Int → Int → Int → γ} {o : γ} {a b c : Int} {l m n : List Int} (h : Cel G o a l b m c n) {p : List Int} (hp : Pts p) {f : γ → γ → Int} (hf : ∀ u, f u u = 0)
include h hp hf
theorem cel_z (s : Bool) : S3 p (fun x y z => f (G x y (sh s z)) (G x y z)) = mS (fun x => mS (fun y => tS (sw s f) (G x y) c n) b m) a l := by
 have hx : ∀ y, PC (fun x => G x y) a l := fun y => z3a l a fun z => h.px y z
 have hxx : PC G a l := z3a l a hx
 have hy : ∀ x, PC (G x) b m := fun x => z3a m b fun z => h.py x z
 have e1 : ∀ x y, sm p (fun z => f (G x y (sh s z)) (G x y z)) = tS (sw s f) (G x y) c n := fun x y => w0h hp hf s h.uz (h.pz x y) h.bz.1 h.bz.2 (h.oz x y)
 have e2 : ∀ x, sm p (fun y => tS (sw s f) (G x y) c n) = mS (fun y => tS (sw s f) (G x y) c n) b m := fun x =>
  y3f hp h.uy (x4v (fun v => tS (sw s f) v c n) m b (hy x)) h.hy.1 h.hy.2 fun y q => by
   rw [show G x y = fun _ => o from funext fun z => h.oy x y z (by omega)]
   exact z8a (y9n s hf o) n c
 unfold S3
 simp only [e1, e2]
 refine y3f hp h.ux (x4v (fun v : Int → Int → γ => mS (fun y => tS (sw s f) (v y) c n) b m) l a hxx) h.bx.1 h.bx.2 fun x q => ?_
 rw [show G x = fun _ _ => o from funext fun y => funext fun z => h.ox x y z (by omega)]
 simp only [z8a (y9n s hf o)]
 exact z4y m b
theorem cel_y (s : Bool) : S3 p (fun x y z => f (G x (sh s y) z) (G x y z)) = mS (fun x => tS (sw s fun u v => mS (fun z => f (u z) (v z)) c n) (G x) b m) a l := by
 have hxx : PC G a l := z3a l a fun y => z3a l a fun z => h.px y z
 have hy : ∀ x, PC (G x) b m := fun x => z3a m b fun z => h.py x z
 have e1 : ∀ x y y', sm p (fun z => f (G x y' z) (G x y z)) = mS (fun z => f (G x y' z) (G x y z)) c n := fun x y y' =>
  y3f hp h.uz (x4u f n c (h.pz x y') (h.pz x y)) h.bz.1 h.bz.2 fun z q => by rw [h.oz x y z (by omega), h.oz x y' z (by omega)]; exact hf o
 have hF : ∀ u : Int → γ, (fun u v : Int → γ => mS (fun z => f (u z) (v z)) c n) u u = 0 := fun u => by
  show mS (fun z => f (u z) (u z)) c n = 0
  simp only [hf]; exact z4y n c
 have e2 : ∀ x, sm p (fun y => mS (fun z => f (G x (sh s y) z) (G x y z)) c n) = tS (sw s fun u v => mS (fun z => f (u z) (v z)) c n) (G x) b m := fun x =>
  w0h hp (f := fun u v : Int → γ => mS (fun z => f (u z) (v z)) c n) hF s (o := fun _ => o) h.uy (hy x) h.hy.1 h.hy.2 fun y q => funext fun z => h.oy x y z q
 unfold S3
 simp only [e1, e2]
 refine y3f hp h.ux (x4v (fun v : Int → Int → γ => tS (sw s fun u v => mS (fun z => f (u z) (v z)) c n) v b m) l a hxx) h.bx.1 h.bx.2 fun x q => ?_
 rw [show G x = fun _ _ => o from funext fun y => funext fun z => h.ox x y z (by omega)]
 exact z8a (y9n s hF fun _ => o) m b
theorem cel_x (s : Bool) : S3 p (fun x y z => f (G (sh s x) y z) (G x y z)) = tS (sw s fun u v => mS (fun y => mS (fun z => f (u y z) (v y z)) c n) b m) G a l := by
 have hxx : PC G a l := z3a l a fun y => z3a l a fun z => h.px y z
 have hy : ∀ x, PC (G x) b m := fun x => z3a m b fun z => h.py x z
 have e1 : ∀ x x' y, sm p (fun z => f (G x' y z) (G x y z)) = mS (fun z => f (G x' y z) (G x y z)) c n := fun x x' y =>
  y3f hp h.uz (x4u f n c (h.pz x' y) (h.pz x y)) h.bz.1 h.bz.2 fun z q => by rw [h.oz x y z (by omega), h.oz x' y z (by omega)]; exact hf o
 have e2 : ∀ x x', sm p (fun y => mS (fun z => f (G x' y z) (G x y z)) c n) = mS (fun y => mS (fun z => f (G x' y z) (G x y z)) c n) b m := fun x x' =>
  y3f hp h.uy (x4u (fun u v : Int → γ => mS (fun z => f (u z) (v z)) c n) m b (hy x') (hy x)) h.hy.1 h.hy.2 fun y q => by
   rw [show G x y = fun _ => o from funext fun z => h.oy x y z (by omega), show G x' y = fun _ => o from funext fun z => h.oy x' y z (by omega)]
   simp only [hf]; exact z4y n c
 have hF : ∀ u : Int → Int → γ, (fun u v : Int → Int → γ => mS (fun y => mS (fun z => f (u y z) (v y z)) c n) b m) u u = 0 := fun u => by
  show mS (fun y => mS (fun z => f (u y z) (u y z)) c n) b m = 0
  simp only [hf, z4y]
 unfold S3
 simp only [e1, e2]
 exact w0h hp (f := fun u v : Int → Int → γ => mS (fun y => mS (fun z => f (u y z) (v y z)) c n) b m) hF s (o := fun _ _ => o) h.ux hxx h.bx.1 h.bx.2 fun x q => funext fun y => funext fun z => h.ox x y z q
end
end Go.Am
namespace Go.Am
open Go.Proofs
theorem Xk {f g : Nat → Int} : ∀ (n k : Nat), (∀ j, k ≤ j → j < k + n → f j = g j) → Jp f k n = Jp g k n
 | 0, _, _ => rfl
 | n + 1, k, h => by
  show f k + Jp f (k + 1) n = g k + Jp g (k + 1) n
  rw [h k (Nat.le_refl _) (by omega), Xk n (k + 1) fun j h1 h2 => h j (by omega) (by omega)]
theorem z1z (f : Nat → Int) : ∀ (n k : Nat), Jp (fun j => f (j + 1)) k n = Jp f (k + 1) n
 | 0, _ => rfl
 | n + 1, k => by
  show f (k + 1) + Jp (fun j => f (j + 1)) (k + 1) n = f (k + 1) + Jp f (k + 1 + 1) n
  rw [z1z f n (k + 1)]
theorem z0c (f : Nat → Int) (c : Int) : ∀ (n k : Nat), Jp f k n * c = Jp (fun j => f j * c) k n
 | 0, _ => Int.zero_mul c
 | n + 1, k => by
  show (f k + Jp f (k + 1) n) * c = f k * c + Jp (fun j => f j * c) (k + 1) n
  rw [Int.add_mul, z0c f c n (k + 1)]
theorem z4c : ∀ (n k : Nat), Jp (fun _ => 0) k n = 0
 | 0, _ => rfl
 | n + 1, k => by show 0 + Jp (fun _ => 0) (k + 1) n = 0; rw [z4c n (k + 1)]; rfl
theorem z1j (a : Int) (l : List Int) (k : Nat) : rd (a :: l) (k + 1) = rd l k := by
 unfold rd; simp
theorem y0c (g : Int → Int) : ∀ (l : List Int) (a : Int), mS g a l = Jp (fun j => g (rd (a :: l) j) * (rd (a :: l) (j + 1) - rd (a :: l) j)) 0 l.length
 | [], _ => rfl
 | b :: l, a => by
  show g a * (b - a) + mS g b l = _ + Jp _ 1 l.length
  rw [y0c g l b, ← z1z]
  rfl
def nxI (s : Bool) (i : Nat) : Nat := bif s then i + 1 else i - 1
def okI (s : Bool) (i n : Nat) : Bool := bif s then decide (i + 1 < n) else decide (0 < i)
theorem tS_up {γ : Type} (f : γ → γ → Int) (G : Int → γ) : ∀ (l : List Int) (a : Int), tS f G a l = Jp (fun i => if i + 1 < l.length then f (G (rd (a :: l) i)) (G (rd (a :: l) (i + 1))) else 0) 0 l.length
 | [], _ => rfl
 | [b], _ => by show (0 : Int) = (if 0 + 1 < 1 then _ else 0) + 0; rw [if_neg (by omega)]; rfl
 | b :: c :: l, a => by
  show f (G a) (G b) + tS f G b (c :: l) = (if 0 + 1 < (b :: c :: l).length then _ else 0) + Jp _ 1 (c :: l).length
  rw [if_pos (by simp), tS_up f G (c :: l) b, ← z1z]
  congr 1
  refine Xk _ _ fun j _ _ => ?_
  simp only [List.length_cons, z1j, Nat.add_lt_add_iff_right]
theorem tS_dn {γ : Type} (f : γ → γ → Int) (G : Int → γ) : ∀ (l : List Int) (a : Int), tS (fun u v => f v u) G a l = Jp (fun i => if 0 < i then f (G (rd (a :: l) i)) (G (rd (a :: l) (i - 1))) else 0) 0 l.length
 | [], _ => rfl
 | [b], _ => by show (0 : Int) = (if 0 < 0 then _ else 0) + 0; rw [if_neg (by omega)]; rfl
 | b :: c :: l, a => by
  show f (G b) (G a) + tS (fun u v => f v u) G b (c :: l) = (if 0 < 0 then _ else 0) + ((if 0 < 1 then f (G b) (G a) else 0) + Jp _ 2 l.length)
  rw [if_neg (by omega), if_pos (by omega), tS_dn f G (c :: l) b]
  show _ + ((if 0 < 0 then _ else 0) + Jp _ 1 l.length) = _
  rw [if_neg (by omega)]
  have : Jp (fun i => if 0 < i then f (G (rd (b :: c :: l) i)) (G (rd (b :: c :: l) (i - 1))) else 0) 1 l.length = Jp (fun j => if 0 < j + 1 then f (G (rd (a :: b :: c :: l) (j + 1))) (G (rd (a :: b :: c :: l) (j + 1 - 1))) else 0) 1 l.length := by
   refine Xk _ _ fun j h1 _ => ?_
   rw [if_pos (by omega), if_pos (by omega), z1j]
   obtain ⟨i, rfl⟩ : ∃ i, j = i + 1 := ⟨j - 1, by omega⟩
   rfl
  rw [this, z1z (fun i => if 0 < i then f (G (rd (a :: b :: c :: l) i)) (G (rd (a :: b :: c :: l) (i - 1))) else 0)]
  show _ + (0 + Jp _ 2 l.length) = 0 + (_ + Jp _ 2 l.length)
  omega
theorem w0i {γ : Type} (s : Bool) (f : γ → γ → Int) (G : Int → γ) (l : List Int) (a : Int) : tS (sw s f) G a l = Jp (fun i => if okI s i l.length = true then f (G (rd (a :: l) i)) (G (rd (a :: l) (nxI s i))) else 0) 0 l.length := by
 cases s
 ·show tS (fun u v => f v u) G a l = _
  rw [tS_dn]
  refine Xk _ _ fun j _ _ => ?_
  simp only [okI, nxI, cond_false, decide_eq_true_eq]
 ·show tS f G a l = _
  rw [tS_up]
  refine Xk _ _ fun j _ _ => ?_
  simp only [okI, nxI, cond_true, decide_eq_true_eq]
theorem z8u (z : Int) : ∀ (l : List Int) (x : Int), z ∈ Wk l x ↔ z = x ∨ z ∈ l
 | [], x => by simp [Wk]
 | y :: l, x => by
  unfold Wk
  split
  ·simp only [List.mem_cons, z8u z l x]
   constructor
   ·rintro (h | h | h)
    ·exact .inr (.inl h)
    ·exact .inl h
    ·exact .inr (.inr h)
   ·rintro (h | h | h)
    ·exact .inr (.inl h)
    ·exact .inl h
    ·exact .inr (.inr h)
  ·split
   ·rename_i h; subst h; simp
   ·simp
theorem y5d : ∀ (l : List Int) (x : Int), l.Pairwise (· < ·) → (Wk l x).Pairwise (· < ·)
 | [], x, _ => List.pairwise_singleton _ _
 | y :: l, x, h => by
  have h' := List.pairwise_cons.1 h
  unfold Wk
  split
  ·rename_i hlt
   refine List.pairwise_cons.2 ⟨fun z hz => ?_, y5d l x h'.2⟩
   rcases (z8u z l x).1 hz with rfl | hz
   ·exact hlt
   ·exact h'.1 z hz
  ·split
   ·exact h
   ·rename_i h1 h2
    refine List.pairwise_cons.2 ⟨fun z hz => ?_, h⟩
    rcases List.mem_cons.1 hz with rfl | hz
    ·omega
    ·have := h'.1 z hz; omega
theorem x5v (f g : R6 → Int) : ∀ (L : List R6) (acc : List Int), acc.Pairwise (· < ·) → (z5v f g L acc).Pairwise (· < ·)
 | [], _, h => h
 | r :: L, acc, h => x5v f g L _ (y5d _ _ (y5d _ _ h))
theorem z9b (f g : R6 → Int) (z : Int) : ∀ (L : List R6) (acc : List Int), z ∈ z5v f g L acc ↔ z ∈ acc ∨ ∃ r ∈ L, z = f r ∨ z = g r
 | [], acc => by simp [z5v]
 | r :: L, acc => by
  show z ∈ z5v f g L (Wk (Wk acc (f r)) (g r)) ↔ _
  rw [z9b f g z L, z8u, z8u]
  constructor
  ·rintro ((h | h | h) | ⟨q, h1, h2⟩)
   ·exact .inr ⟨r, List.mem_cons_self .., .inr h⟩
   ·exact .inr ⟨r, List.mem_cons_self .., .inl h⟩
   ·exact .inl h
   ·exact .inr ⟨q, List.mem_cons_of_mem _ h1, h2⟩
  ·rintro (h | ⟨q, h1, h2⟩)
   ·exact .inl (.inr (.inr h))
   ·rcases List.mem_cons.1 h1 with rfl | h1
    ·rcases h2 with h2 | h2
     ·exact .inl (.inr (.inl h2))
     ·exact .inl (.inl h2)
    ·exact .inr ⟨q, h1, h2⟩
structure Brk {γ : Type} (C : List Int) (G : Int → γ) (o : γ) : Prop where
 step : ∀ t, t ∉ C → G t = G (t - 1)
 low : ∀ t, (∀ c ∈ C, t < c) → G t = o
 high : ∀ t, (∀ c ∈ C, c ≤ t) → G t = o
theorem x4c : ∀ (l : List Int) (a : Int), Up a l → ∀ c ∈ l, a < c ∧ c ≤ hiC a l
 | [], _, _, c, h => by cases h
 | b :: l, a, h, c, hc => by
  have hh : hiC a (b :: l) = hiC b l := rfl
  have h1 := h.1
  have h2 := y1z l b h.2
  rcases List.mem_cons.1 hc with rfl | hc
  ·rw [hh]; exact ⟨h1, h2⟩
  ·have := x4c l b h.2 c hc
   rw [hh]; omega
theorem v5c {γ : Type} {G : Int → γ} : ∀ (l : List Int) (a : Int), Up a l → (∀ t, a < t → t < hiC a l → t ∉ l → G t = G (t - 1)) → PC G a l
 | [], _, _, _ => trivial
 | b :: l, a, h, k => by
  have hh : hiC a (b :: l) = hiC b l := rfl
  have h1 := h.1
  have h2 := y1z l b h.2
  refine ⟨fun t ht1 ht2 => ?_, v5c l b h.2 fun t e1 e2 e3 => k t (by omega) (by rw [hh]; exact e2) fun hm => ?_⟩
  ·have key : ∀ n : Nat, a + n < b → G (a + n) = G a := by
    intro n
    induction n with
    | zero => intro _; rw [show a + ((0 : Nat) : Int) = a by omega]
    | succ n ih =>
     intro hn
     rw [k (a + ((n + 1 : Nat) : Int)) (by omega) (by rw [hh]; omega) fun hm => ?_]
     ·rw [show a + ((n + 1 : Nat) : Int) - 1 = a + (n : Int) by omega]; exact ih (by omega)
     ·rcases List.mem_cons.1 hm with e | e
      ·omega
      ·have := x4c l b h.2 _ e; omega
   have := key (t - a).toNat (by omega)
   rwa [show a + ((t - a).toNat : Int) = t by omega] at this
  ·rcases List.mem_cons.1 hm with e | e
   ·omega
   ·exact e3 e
theorem w0g : ∀ (l : List Int) (a x : Int), Up a l → hiC a l < x → Up a (l ++ [x]) ∧ hiC a (l ++ [x]) = x
 | [], a, x, _, h => ⟨⟨h, trivial⟩, rfl⟩
 | b :: l, a, x, h, k => by
  have := w0g l b x h.2 k
  exact ⟨⟨h.1, this.1⟩, this.2⟩
theorem y6k : ∀ (l : List Int) (a : Int), (a :: l).Pairwise (· < ·) → Up a l
 | [], _, _ => trivial
 | b :: l, a, h => by
  have h' := List.pairwise_cons.1 h
  exact ⟨h'.1 b (List.mem_cons_self ..), y6k l b h'.2⟩
theorem w3l : ∀ (l : List Int) (a : Int), hiC a l = rd (a :: l) l.length
 | [], a => rfl
 | b :: l, a => by
  show hiC b l = rd (a :: b :: l) (l.length + 1)
  rw [z1j]; exact w3l l b
theorem x2d {C : List Int} (hs : C.Pairwise (· < ·)) (hb : ∀ c ∈ C, -1000000 ≤ c ∧ c ≤ 1000000) : ∃ a l, y8h C = a :: l ∧ Up a l ∧ (-1000005 ≤ a ∧ hiC a l ≤ 1000005) ∧
  ∀ {γ : Type} {G : Int → γ} {o : γ}, Brk C G o → PC G a l ∧ ∀ t, (t ≤ a ∨ hiC a l ≤ t + 1) → G t = o := by
 cases C with
 | nil =>
  refine ⟨-1, [0, 1, 2], rfl, by unfold Up; exact ⟨by omega, by unfold Up; exact ⟨by omega, by unfold Up; exact ⟨by omega, trivial⟩⟩⟩, by show -1000005 ≤ (-1 : Int) ∧ (2 : Int) ≤ 1000005; omega, fun h => ?_⟩
  have hc : ∀ t, _ = _ := fun t => h.low t (fun c hc => by cases hc)
  exact ⟨v5c _ _ (by unfold Up; exact ⟨by omega, by unfold Up; exact ⟨by omega, by unfold Up; exact ⟨by omega, trivial⟩⟩⟩) fun t _ _ _ => (hc t).trans (hc (t - 1)).symm, fun t _ => hc t⟩
 | cons c C =>
  have hu := y6k C c hs
  have hh := y1z C c hu
  have hm : ∀ x ∈ C, c < x ∧ x ≤ hiC c C := x4c C c hu
  have hhm : hiC c C ∈ c :: C := by
   have : ∀ (l : List Int) (a : Int), hiC a l ∈ a :: l := fun l => by
    induction l with
    | nil => exact fun a => List.mem_singleton_self _
    | cons b l ih => exact fun a => List.mem_cons_of_mem _ (ih b)
   exact this C c
  have b1 := hb c (List.mem_cons_self ..)
  have b2 := hb _ hhm
  have e : y8h (c :: C) = (c - 1) :: (c :: C ++ [hiC c C + 1]) := by
   unfold y8h
   have hl : (((c :: C).length : Int) == 0) = false := y8n (by simp only [List.length_cons]; omega)
   rw [hl, cond_false]
   have e1 : rd (c :: C) 0 = c := rfl
   have e2 : rd (c :: C) ((c :: C).length - 1) = hiC c C := (w3l C c).symm
   rw [e1, e2, Zj (by omega), Zj (by omega)]; rfl
  obtain ⟨u1, u2⟩ := w0g (c :: C) (c - 1) (hiC c C + 1) ⟨by omega, hu⟩ (by show hiC c C < _; omega)
  refine ⟨c - 1, c :: C ++ [hiC c C + 1], e, u1, by rw [u2]; omega, fun h => ⟨v5c _ _ u1 fun t e1 e2 e3 => h.step t fun hm => e3 (List.mem_append_left _ hm), fun t ht => ?_⟩⟩
  rw [u2] at ht
  rcases ht with ht | ht
  ·refine h.low t fun x hx => ?_
   rcases List.mem_cons.1 hx with rfl | hx
   ·omega
   ·have := hm x hx; omega
  ·refine h.high t fun x hx => ?_
   rcases List.mem_cons.1 hx with rfl | hx
   ·omega
   ·have := hm x hx; omega
theorem x0n {α : Type} [Yt α] {g : Nat → List α} {m : Nat} (h : ∀ k, (g k).length = m) : ∀ (n k i j : Nat), i < n → j < m → rd (y1h g k n) (i * m + j) = rd (g (k + i)) j
 | 0, _, _, _, hi, _ => by omega
 | n + 1, k, 0, j, _, hj => by
  show rd (g k ++ y1h g (k + 1) n) (0 * m + j) = rd (g (k + 0)) j
  rw [Nat.zero_mul, Nat.zero_add, Vv (by rw [h]; exact hj)]; rfl
 | n + 1, k, i + 1, j, hi, hj => by
  show rd (g k ++ y1h g (k + 1) n) ((i + 1) * m + j) = rd (g (k + (i + 1))) j
  rw [Wi (by rw [h, Nat.succ_mul]; omega), h, show (i + 1) * m + j - m = i * m + j by rw [Nat.succ_mul]; omega, x0n h n (k + 1) i j (by omega) hj, show k + 1 + i = k + (i + 1) by omega]
theorem v0x {α : Type} [Yt α] (g : Nat → α) : ∀ (n k i : Nat), i < n → rd (lsF g k n) i = g (k + i)
 | 0, _, _, h => by omega
 | n + 1, k, 0, _ => rfl
 | n + 1, k, i + 1, h => by
  have e : rd (lsF g k (n + 1)) (i + 1) = rd (lsF g (k + 1) n) i := by
   show rd (g k :: lsF g (k + 1) n) (i + 1) = _
   unfold rd; simp
  rw [e, v0x g n (k + 1) i (by omega), show k + 1 + i = k + (i + 1) by omega]
theorem x4q (L : List R6) (X Y Z : List Int) {i j k : Nat} (hi : i + 1 < X.length) (hj : j + 1 < Y.length) (hk : k + 1 < Z.length) : rd (Jm L X Y Z) (i * ((Y.length - 1) * (Z.length - 1)) + (j * (Z.length - 1) + k)) = Xn L (rd X i) (rd Y j) (rd Z k) := by
 have hjk : j * (Z.length - 1) + k < (Y.length - 1) * (Z.length - 1) := by
  have := Nat.mul_le_mul_right (Z.length - 1) (show j + 1 ≤ Y.length - 1 by omega)
  rw [Nat.succ_mul] at this; omega
 unfold Jm
 rw [x0n (fun i => Km (fun j => Ut _ _ _) _ _) _ _ i _ (by omega) hjk, Nat.zero_add, x0n (fun j => Ut _ _ _) _ _ j k (by omega) (by omega), Nat.zero_add, v0x _ _ _ k (by omega), Nat.zero_add]
end Go.Am
namespace Go.Am
open Go.Proofs
def Rng (L : List R6) : Prop := ∀ r ∈ L, ((-1000000 ≤ r.a ∧ r.a ≤ 1000000) ∧ (-1000000 ≤ r.b ∧ r.b ≤ 1000000) ∧ (-1000000 ≤ r.c ∧ r.c ≤ 1000000)) ∧ (-1000000 ≤ r.d ∧ r.d ≤ 1000000) ∧ (-1000000 ≤ r.e ∧ r.e ≤ 1000000) ∧ (-1000000 ≤ r.f ∧ r.f ≤ 1000000)
def G2 (L M : List R6) (x y z : Int) : Bool × Bool := (Xn L x y z, Xn M x y z)
theorem y3u {α : Type} {l : List α} {f g : α → Bool} (h : ∀ x ∈ l, f x = g x) : l.any f = l.any g := by
 induction l with
 | nil => rfl
 | cons a l ih => rw [List.any_cons, List.any_cons, h a (List.mem_cons_self ..), ih fun x hx => h x (List.mem_cons_of_mem _ hx)]
theorem z2t {α : Type} {l : List α} {f : α → Bool} (h : ∀ x ∈ l, f x = false) : l.any f = false := by
 induction l with
 | nil => rfl
 | cons a l ih => rw [List.any_cons, h a (List.mem_cons_self ..), ih fun x hx => h x (List.mem_cons_of_mem _ hx)]; rfl
theorem v2q {p q : Prop} [Decidable p] [Decidable q] (h : p ↔ q) : decide p = decide q := by
 by_cases hp : p
 ·rw [decide_eq_true hp, decide_eq_true (h.1 hp)]
 ·rw [decide_eq_false hp, decide_eq_false fun hq => hp (h.2 hq)]
theorem x3i {L M : List R6} {f g : R6 → Int} {P : R6 → Bool} {T : R6 → Int → Bool} (hT : ∀ r t, T r t = (decide (f r ≤ t) && decide (t < g r) && P r)) : Brk (z5v f g (L ++ M) []) (fun t => (L.any fun r => T r t, M.any fun r => T r t)) (false, false) := by
 have hm : ∀ r, (r ∈ L ∨ r ∈ M) → f r ∈ z5v f g (L ++ M) [] ∧ g r ∈ z5v f g (L ++ M) [] := fun r hr => by
  have : r ∈ L ++ M := List.mem_append.2 hr
  exact ⟨(z9b f g _ _ _).2 (.inr ⟨r, this, .inl rfl⟩), (z9b f g _ _ _).2 (.inr ⟨r, this, .inr rfl⟩)⟩
 have one : ∀ r t, (r ∈ L ∨ r ∈ M) → t ∉ z5v f g (L ++ M) [] → T r t = T r (t - 1) := fun r t hr ht => by
  obtain ⟨h1, h2⟩ := hm r hr
  have n1 : t ≠ f r := fun e => ht (e ▸ h1)
  have n2 : t ≠ g r := fun e => ht (e ▸ h2)
  rw [hT, hT, v2q (p := f r ≤ t) (q := f r ≤ t - 1) (by omega), v2q (p := t < g r) (q := t - 1 < g r) (by omega)]
 have lo : ∀ r t, (r ∈ L ∨ r ∈ M) → (∀ c ∈ z5v f g (L ++ M) [], t < c) → T r t = false := fun r t hr ht => by
  have := ht _ (hm r hr).1
  rw [hT, v7w (by omega)]; rfl
 have hi : ∀ r t, (r ∈ L ∨ r ∈ M) → (∀ c ∈ z5v f g (L ++ M) [], c ≤ t) → T r t = false := fun r t hr ht => by
  have := ht _ (hm r hr).2
  rw [hT, Zs (a := t) (by omega), Bool.and_false]; rfl
 refine ⟨fun t ht => ?_, fun t ht => ?_, fun t ht => ?_⟩
 ·show (_, _) = (_, _)
  rw [y3u (l := L) fun r hr => one r t (.inl hr) ht, y3u (l := M) fun r hr => one r t (.inr hr) ht]
 ·show (_, _) = (_, _)
  rw [z2t (l := L) fun r hr => lo r t (.inl hr) ht, z2t (l := M) fun r hr => lo r t (.inr hr) ht]
 ·show (_, _) = (_, _)
  rw [z2t (l := L) fun r hr => hi r t (.inl hr) ht, z2t (l := M) fun r hr => hi r t (.inr hr) ht]
section
variable {L M : List R6} (hr : Rng (L ++ M))
theorem brk_x (L M : List R6) (y z : Int) : Brk (z5v (·.a) (·.d) (L ++ M) []) (fun x => G2 L M x y z) (false, false) :=
 x3i (f := (·.a)) (g := (·.d)) (P := fun r => decide (r.b ≤ y) && (decide (y < r.e) && (decide (r.c ≤ z) && decide (z < r.f)))) (T := fun r x => haR x y z r) fun r t => by
  unfold haR
  cases decide (r.a ≤ t) <;> cases decide (t < r.d) <;> rfl
theorem brk_y (L M : List R6) (x z : Int) : Brk (z5v (·.b) (·.e) (L ++ M) []) (fun y => G2 L M x y z) (false, false) :=
 x3i (f := (·.b)) (g := (·.e)) (P := fun r => decide (r.a ≤ x) && (decide (x < r.d) && (decide (r.c ≤ z) && decide (z < r.f)))) (T := fun r y => haR x y z r) fun r t => by
  unfold haR
  cases decide (r.a ≤ x) <;> cases decide (x < r.d) <;> cases decide (r.b ≤ t) <;> cases decide (t < r.e) <;> rfl
theorem brk_z (L M : List R6) (x y : Int) : Brk (z5v (·.c) (·.f) (L ++ M) []) (fun z => G2 L M x y z) (false, false) :=
 x3i (f := (·.c)) (g := (·.f)) (P := fun r => decide (r.a ≤ x) && (decide (x < r.d) && (decide (r.b ≤ y) && decide (y < r.e)))) (T := fun r z => haR x y z r) fun r t => by
  unfold haR
  cases decide (r.a ≤ x) <;> cases decide (x < r.d) <;> cases decide (r.b ≤ y) <;> cases decide (y < r.e) <;> cases decide (r.c ≤ t) <;> cases decide (t < r.f) <;> rfl
include hr
theorem v7y : ∃ a l b m c n, Ww L M = a :: l ∧ Wm L M = b :: m ∧ We L M = c :: n ∧ Cel (G2 L M) (false, false) a l b m c n := by
 have srt : ∀ f g : R6 → Int, (z5v f g (L ++ M) []).Pairwise (· < ·) := fun f g => x5v f g _ _ .nil
 have bd : ∀ f g : R6 → Int, (∀ r ∈ L ++ M, (-1000000 ≤ f r ∧ f r ≤ 1000000) ∧ (-1000000 ≤ g r ∧ g r ≤ 1000000)) → ∀ c ∈ z5v f g (L ++ M) [], -1000000 ≤ c ∧ c ≤ 1000000 := fun f g h c hc => by
  rcases (z9b f g c _ _).1 hc with hc | ⟨r, h1, rfl | rfl⟩
  ·cases hc
  ·exact (h r h1).1
  ·exact (h r h1).2
 obtain ⟨a, l, e1, u1, v1, w1⟩ := x2d (srt (·.a) (·.d)) (bd _ _ fun r h => ⟨(hr r h).1.1, (hr r h).2.1⟩)
 obtain ⟨b, m, e2, u2, v2, w2⟩ := x2d (srt (·.b) (·.e)) (bd _ _ fun r h => ⟨(hr r h).1.2.1, (hr r h).2.2.1⟩)
 obtain ⟨c, n, e3, u3, v3, w3⟩ := x2d (srt (·.c) (·.f)) (bd _ _ fun r h => ⟨(hr r h).1.2.2, (hr r h).2.2.2⟩)
 exact ⟨a, l, b, m, c, n, e1, e2, e3, u1, u2, u3, v1, v2, v3, fun y z => (w1 (brk_x L M y z)).1, fun x z => (w2 (brk_y L M x z)).1, fun x y => (w3 (brk_z L M x y)).1, fun x y z => (w1 (brk_x L M y z)).2 x, fun x y z => (w2 (brk_y L M x z)).2 y, fun x y z => (w3 (brk_z L M x y)).2 z⟩
end
def fK (kd : Int) (u v : Bool × Bool) : Int := if cntB kd u.1 u.2 v.1 v.2 = true then 1 else 0
theorem v6z (kd : Int) (u : Bool × Bool) : fK kd u u = 0 := by
 obtain ⟨a, b⟩ := u
 unfold fK cntB
 cases (kd == 0) <;> cases (kd == 1) <;> cases a <;> cases b <;> rfl
def y2t {γ : Type} (d : Int) (G : Int → Int → Int → γ) (x y z : Int) : γ :=
 if d = 0 then G (x - 1) y z else if d = 1 then G (x + 1) y z else if d = 2 then G x (y - 1) z else if d = 3 then G x (y + 1) z else if d = 4 then G x y (z - 1) else G x y (z + 1)
end Go.Am
namespace Go.Am
open Go.Proofs
theorem v0w {C : List Int} {i : Nat} (h : i < C.length) : rd C i ∈ C := by rw [Wj h]; exact List.getElem_mem h
def bdC (C : List Int) : Prop := ∀ x ∈ C, -1000005 ≤ x ∧ x ≤ 1000005
def dC (C : List Int) (i : Nat) : Int := rd C (i + 1) - rd C i
theorem z6d {C : List Int} (hb : bdC C) (hl : C.length ≤ 5000) {i : Nat} (hi : i + 1 < C.length) : v1y C i = dC C i ∧ -2000010 ≤ dC C i ∧ dC C i ≤ 2000010 := by
 have h1 := hb _ (v0w hi)
 have h2 := hb _ (v0w (show i < C.length by omega))
 have hw : IntKind.wrap .i64 ((i : Int) + 1) = ((i + 1 : Nat) : Int) := Zj (by omega)
 unfold v1y dC
 rw [hw, Zq, Zq, Zj (by omega)]
 exact ⟨rfl, by omega, by omega⟩
section
variable {L M : List R6} {X Y Z : List Int} (kd : Int) (bX : 1 ≤ X.length ∧ X.length ≤ 5000) (bY : 1 ≤ Y.length ∧ Y.length ≤ 5000) (bZ : 1 ≤ Z.length ∧ Z.length ≤ 5000) (cX : bdC X) (cY : bdC Y) (cZ : bdC Z)
include bX bY bZ
theorem gcn_eq {i j k i' j' k' : Nat} (hi : i + 1 < X.length) (hj : j + 1 < Y.length) (hk : k + 1 < Z.length) (hi' : i' + 1 < X.length) (hj' : j' + 1 < Y.length) (hk' : k' + 1 < Z.length) :
  x8l X Y Z (Jm L X Y Z) (Jm M X Y Z) kd (z0o X Y Z (Jm L X Y Z) (Jm M X Y Z) i j k) (z0o X Y Z (Jm L X Y Z) (Jm M X Y Z) i' j' k') = cntB kd (Xn L (rd X i) (rd Y j) (rd Z k)) (Xn M (rd X i) (rd Y j) (rd Z k)) (Xn L (rd X i') (rd Y j') (rd Z k')) (Xn M (rd X i') (rd Y j') (rd Z k')) := by
 unfold x8l
 rw [(x5n (A := Jm L X Y Z) (B := Jm M X Y Z) bX bY bZ hi hj hk).1, (x5n (A := Jm L X Y Z) (B := Jm M X Y Z) bX bY bZ hi' hj' hk').1, Zq, Zq, x4q L X Y Z hi hj hk, x4q M X Y Z hi hj hk, x4q L X Y Z hi' hj' hk', x4q M X Y Z hi' hj' hk']
theorem x3b {i j k i' j' k' : Nat} (hi : i + 1 < X.length) (hj : j + 1 < Y.length) (hk : k + 1 < Z.length) (hi' : i' + 1 < X.length) (hj' : j' + 1 < Y.length) (hk' : k' + 1 < Z.length) {p q P Q : Int} (h1 : p = P ∧ -2000010 ≤ P ∧ P ≤ 2000010) (h2 : q = Q ∧ -2000010 ≤ Q ∧ Q ≤ 2000010) :
  (bif x8l X Y Z (Jm L X Y Z) (Jm M X Y Z) kd (z0o X Y Z (Jm L X Y Z) (Jm M X Y Z) i j k) (z0o X Y Z (Jm L X Y Z) (Jm M X Y Z) i' j' k') then IntKind.wrap .i64 (p * q) else 0) = fK kd (G2 L M (rd X i) (rd Y j) (rd Z k)) (G2 L M (rd X i') (rd Y j') (rd Z k')) * (P * Q) := by
 obtain ⟨rfl, h1⟩ := h1
 obtain ⟨rfl, h2⟩ := h2
 rw [gcn_eq kd bX bY bZ hi hj hk hi' hj' hk']
 have hb : -4000040000100 ≤ p * q ∧ p * q ≤ 4000040000100 := by
  have a1 := Int.mul_nonneg (show 0 ≤ p + 2000010 by omega) (show 0 ≤ q + 2000010 by omega)
  have a2 := Int.mul_nonneg (show 0 ≤ 2000010 - p by omega) (show 0 ≤ 2000010 - q by omega)
  have a3 := Int.mul_nonneg (show 0 ≤ p + 2000010 by omega) (show 0 ≤ 2000010 - q by omega)
  have a4 := Int.mul_nonneg (show 0 ≤ 2000010 - p by omega) (show 0 ≤ q + 2000010 by omega)
  simp only [Int.mul_add, Int.add_mul, Int.mul_sub, Int.sub_mul] at a1 a2 a3 a4
  omega
 unfold fK G2
 cases cntB kd (Xn L (rd X i) (rd Y j) (rd Z k)) (Xn M (rd X i) (rd Y j) (rd Z k)) (Xn L (rd X i') (rd Y j') (rd Z k')) (Xn M (rd X i') (rd Y j') (rd Z k')) with
 | false => rw [cond_false, if_neg (by simp), Int.zero_mul]
 | true => rw [cond_true, if_pos rfl, Int.one_mul, Zj (by omega)]
include cX cY cZ
theorem x1g {C : List Int} (hC : C.length ≤ 5000) {s : Bool} {d : Int} (hs : stp d = if s = true then 1 else -1) {i : Nat} (hi : i + 1 < C.length) : 
  (okI s i (C.length - 1) = true → IntKind.wrap .i64 ((i : Int) + stp d) = ((nxI s i : Nat) : Int) ∧ nxI s i + 1 < C.length) ∧ (okI s i (C.length - 1) = false → IntKind.wrap .i64 ((i : Int) + stp d) < 0 ∨ IntKind.wrap .i64 ((i : Int) + stp d) ≥ ((C.length - 1 : Nat) : Int)) := by
 have _u := bX; have _v := bY; have _w := bZ; have _p := cX; have _q := cY; have _r := cZ
 rw [hs]
 cases s
 ·rw [if_neg (by simp), Zj (by omega)]
  unfold okI nxI
  rw [cond_false, cond_false]
  refine ⟨fun h => ?_, fun h => ?_⟩
  ·have := of_decide_eq_true h; omega
  ·have := of_decide_eq_false h; omega
 ·rw [if_pos rfl, Zj (by omega)]
  unfold okI nxI
  rw [cond_true, cond_true]
  refine ⟨fun h => ?_, fun h => ?_⟩
  ·have := of_decide_eq_true h; omega
  ·have := of_decide_eq_false h; omega
theorem tm_0 {d : Int} {s : Bool} (hax : axs d = 0) (hs : stp d = if s = true then 1 else -1) {i j k : Nat} (hi : i + 1 < X.length) (hj : j + 1 < Y.length) (hk : k + 1 < Z.length) :
  tmF X Y Z (Jm L X Y Z) (Jm M X Y Z) kd d i j k = if okI s i (X.length - 1) = true then fK kd (G2 L M (rd X i) (rd Y j) (rd Z k)) (G2 L M (rd X (nxI s i)) (rd Y j) (rd Z k)) * (dC Y j * dC Z k) else 0 := by
 have g0 : z5b X Y Z (Jm L X Y Z) (Jm M X Y Z) 0 = ((X.length - 1 : Nat) : Int) := x5i bX
 have l1 : y5f X Y Z (Jm L X Y Z) (Jm M X Y Z) i j k (Int.tmod (IntKind.wrap .i64 ((0 : Int) + 1)) 3) = dC Y j ∧ -2000010 ≤ dC Y j ∧ dC Y j ≤ 2000010 := z6d cY bY.2 hj
 have l2 : y5f X Y Z (Jm L X Y Z) (Jm M X Y Z) i j k (Int.tmod (IntKind.wrap .i64 ((0 : Int) + 2)) 3) = dC Z k ∧ -2000010 ≤ dC Z k ∧ dC Z k ≤ 2000010 := z6d cZ bZ.2 hk
 obtain ⟨n1, nf⟩ := x1g bX bY bZ cX cY cZ bX.2 hs hi
 unfold tmF tm1
 rw [hax, g0]
 rw [show decide ((0 : Int) = 0) = true from rfl, cond_true]
 rcases Yn (okI s i (X.length - 1)) with q | q
 ·obtain ⟨e, n2⟩ := n1 q
  rw [if_pos q, e, Zs (by omega), y2f (by omega), cond_false, cond_false]
  exact x3b kd bX bY bZ hi hj hk n2 hj hk l1 l2
 ·rw [if_neg (by rw [q]; simp)]
  by_cases h1 : IntKind.wrap .i64 ((i : Int) + stp d) < 0
  ·rw [Zt h1, cond_true]
  ·rw [Zs h1, cond_false, y1e ((nf q).resolve_left h1), cond_true]
theorem tm_1 {d : Int} {s : Bool} (hax : axs d = 1) (hs : stp d = if s = true then 1 else -1) {i j k : Nat} (hi : i + 1 < X.length) (hj : j + 1 < Y.length) (hk : k + 1 < Z.length) :
  tmF X Y Z (Jm L X Y Z) (Jm M X Y Z) kd d i j k = if okI s j (Y.length - 1) = true then fK kd (G2 L M (rd X i) (rd Y j) (rd Z k)) (G2 L M (rd X i) (rd Y (nxI s j)) (rd Z k)) * (dC Z k * dC X i) else 0 := by
 have g0 : z5b X Y Z (Jm L X Y Z) (Jm M X Y Z) 1 = ((Y.length - 1 : Nat) : Int) := x5i bY
 have l1 : y5f X Y Z (Jm L X Y Z) (Jm M X Y Z) i j k (Int.tmod (IntKind.wrap .i64 ((1 : Int) + 1)) 3) = dC Z k ∧ -2000010 ≤ dC Z k ∧ dC Z k ≤ 2000010 := z6d cZ bZ.2 hk
 have l2 : y5f X Y Z (Jm L X Y Z) (Jm M X Y Z) i j k (Int.tmod (IntKind.wrap .i64 ((1 : Int) + 2)) 3) = dC X i ∧ -2000010 ≤ dC X i ∧ dC X i ≤ 2000010 := z6d cX bX.2 hi
 obtain ⟨n1, nf⟩ := x1g bX bY bZ cX cY cZ bY.2 hs hj
 unfold tmF tm1
 rw [hax, g0]
 rw [show decide ((1 : Int) = 0) = false from rfl, show decide ((1 : Int) = 1) = true from rfl, cond_false, cond_true]
 rcases Yn (okI s j (Y.length - 1)) with q | q
 ·obtain ⟨e, n2⟩ := n1 q
  rw [if_pos q, e, Zs (by omega), y2f (by omega), cond_false, cond_false]
  exact x3b kd bX bY bZ hi hj hk hi n2 hk l1 l2
 ·rw [if_neg (by rw [q]; simp)]
  by_cases h1 : IntKind.wrap .i64 ((j : Int) + stp d) < 0
  ·rw [Zt h1, cond_true]
  ·rw [Zs h1, cond_false, y1e ((nf q).resolve_left h1), cond_true]
theorem tm_2 {d : Int} {s : Bool} (hax : axs d = 2) (hs : stp d = if s = true then 1 else -1) {i j k : Nat} (hi : i + 1 < X.length) (hj : j + 1 < Y.length) (hk : k + 1 < Z.length) :
  tmF X Y Z (Jm L X Y Z) (Jm M X Y Z) kd d i j k = if okI s k (Z.length - 1) = true then fK kd (G2 L M (rd X i) (rd Y j) (rd Z k)) (G2 L M (rd X i) (rd Y j) (rd Z (nxI s k))) * (dC X i * dC Y j) else 0 := by
 have g0 : z5b X Y Z (Jm L X Y Z) (Jm M X Y Z) 2 = ((Z.length - 1 : Nat) : Int) := x5i bZ
 have l1 : y5f X Y Z (Jm L X Y Z) (Jm M X Y Z) i j k (Int.tmod (IntKind.wrap .i64 ((2 : Int) + 1)) 3) = dC X i ∧ -2000010 ≤ dC X i ∧ dC X i ≤ 2000010 := z6d cX bX.2 hi
 have l2 : y5f X Y Z (Jm L X Y Z) (Jm M X Y Z) i j k (Int.tmod (IntKind.wrap .i64 ((2 : Int) + 2)) 3) = dC Y j ∧ -2000010 ≤ dC Y j ∧ dC Y j ≤ 2000010 := z6d cY bY.2 hj
 obtain ⟨n1, nf⟩ := x1g bX bY bZ cX cY cZ bZ.2 hs hk
 unfold tmF tm1
 rw [hax, g0]
 rw [show decide ((2 : Int) = 0) = false from rfl, show decide ((2 : Int) = 1) = false from rfl, cond_false, cond_false]
 rcases Yn (okI s k (Z.length - 1)) with q | q
 ·obtain ⟨e, n2⟩ := n1 q
  rw [if_pos q, e, Zs (by omega), y2f (by omega), cond_false, cond_false]
  exact x3b kd bX bY bZ hi hj hk hi hj n2 l1 l2
 ·rw [if_neg (by rw [q]; simp)]
  by_cases h1 : IntKind.wrap .i64 ((k : Int) + stp d) < 0
  ·rw [Zt h1, cond_true]
  ·rw [Zs h1, cond_false, y1e ((nf q).resolve_left h1), cond_true]
end
section
variable {L M : List R6} {a b c : Int} {l m n : List Int} (kd : Int) (bX : (a :: l).length ≤ 5000) (bY : (b :: m).length ≤ 5000) (bZ : (c :: n).length ≤ 5000) (cX : bdC (a :: l)) (cY : bdC (b :: m)) (cZ : bdC (c :: n))
include bX bY bZ cX cY cZ
theorem fac_0 {d : Int} {s : Bool} (hax : axs d = 0) (hs : stp d = if s = true then 1 else -1) :
  w5k (a :: l) (b :: m) (c :: n) (Jm L (a :: l) (b :: m) (c :: n)) (Jm M (a :: l) (b :: m) (c :: n)) kd d = tS (sw s fun (u v : Int → Int → Bool × Bool) => mS (fun y => mS (fun z => fK kd (u y z) (v y z)) c n) b m) (G2 L M) a l := by
 have p : ∀ {x : Int} {l : List Int}, (x :: l).length ≤ 5000 → 1 ≤ (x :: l).length ∧ (x :: l).length ≤ 5000 := fun h => ⟨by simp, h⟩
 have h1 : ∀ {x : Int} {l : List Int} {i : Nat}, i < 0 + l.length → i + 1 < (x :: l).length := fun h => by simp only [List.length_cons]; omega
 unfold w5k
 show Jp (fun i => Jp (fun j => Jp (fun k => _) 0 n.length) 0 m.length) 0 l.length = _
 rw [w0i]
 refine Xk _ _ fun i _ hi => ?_
 rcases Yn (okI s i l.length) with q | q
 ·rw [if_pos q, y0c]
  refine Xk _ _ fun j _ hj => ?_
  rw [y0c, z0c]
  refine Xk _ _ fun k _ hk => ?_
  rw [tm_0 kd (p bX) (p bY) (p bZ) cX cY cZ hax hs (h1 hi) (h1 hj) (h1 hk)]
  show (if okI s i l.length = true then _ else _) = _
  rw [if_pos q, Int.mul_assoc, Int.mul_comm (dC (b :: m) j)]; rfl
 ·rw [if_neg (by rw [q]; simp), ← z4c m.length 0]
  refine Xk _ _ fun j _ hj => ?_
  rw [← z4c n.length 0]
  refine Xk _ _ fun k _ hk => ?_
  rw [tm_0 kd (p bX) (p bY) (p bZ) cX cY cZ hax hs (h1 hi) (h1 hj) (h1 hk)]
  exact if_neg (by show ¬ okI s i l.length = true; rw [q]; simp)
theorem fac_1 {d : Int} {s : Bool} (hax : axs d = 1) (hs : stp d = if s = true then 1 else -1) :
  w5k (a :: l) (b :: m) (c :: n) (Jm L (a :: l) (b :: m) (c :: n)) (Jm M (a :: l) (b :: m) (c :: n)) kd d = mS (fun x => tS (sw s fun (u v : Int → Bool × Bool) => mS (fun z => fK kd (u z) (v z)) c n) (G2 L M x) b m) a l := by
 have p : ∀ {x : Int} {l : List Int}, (x :: l).length ≤ 5000 → 1 ≤ (x :: l).length ∧ (x :: l).length ≤ 5000 := fun h => ⟨by simp, h⟩
 have h1 : ∀ {x : Int} {l : List Int} {i : Nat}, i < 0 + l.length → i + 1 < (x :: l).length := fun h => by simp only [List.length_cons]; omega
 unfold w5k
 show Jp (fun i => Jp (fun j => Jp (fun k => _) 0 n.length) 0 m.length) 0 l.length = _
 rw [y0c]
 refine Xk _ _ fun i _ hi => ?_
 rw [w0i, z0c]
 refine Xk _ _ fun j _ hj => ?_
 rcases Yn (okI s j m.length) with q | q
 ·rw [if_pos q, y0c, z0c]
  refine Xk _ _ fun k _ hk => ?_
  rw [tm_1 kd (p bX) (p bY) (p bZ) cX cY cZ hax hs (h1 hi) (h1 hj) (h1 hk)]
  show (if okI s j m.length = true then _ else _) = _
  rw [if_pos q, Int.mul_assoc]; rfl
 ·rw [if_neg (by rw [q]; simp), Int.zero_mul, ← z4c n.length 0]
  refine Xk _ _ fun k _ hk => ?_
  rw [tm_1 kd (p bX) (p bY) (p bZ) cX cY cZ hax hs (h1 hi) (h1 hj) (h1 hk)]
  exact if_neg (by show ¬ okI s j m.length = true; rw [q]; simp)
theorem fac_2 {d : Int} {s : Bool} (hax : axs d = 2) (hs : stp d = if s = true then 1 else -1) :
  w5k (a :: l) (b :: m) (c :: n) (Jm L (a :: l) (b :: m) (c :: n)) (Jm M (a :: l) (b :: m) (c :: n)) kd d = mS (fun x => mS (fun y => tS (sw s (fK kd)) (G2 L M x y) c n) b m) a l := by
 have p : ∀ {x : Int} {l : List Int}, (x :: l).length ≤ 5000 → 1 ≤ (x :: l).length ∧ (x :: l).length ≤ 5000 := fun h => ⟨by simp, h⟩
 have h1 : ∀ {x : Int} {l : List Int} {i : Nat}, i < 0 + l.length → i + 1 < (x :: l).length := fun h => by simp only [List.length_cons]; omega
 unfold w5k
 show Jp (fun i => Jp (fun j => Jp (fun k => _) 0 n.length) 0 m.length) 0 l.length = _
 rw [y0c]
 refine Xk _ _ fun i _ hi => ?_
 rw [y0c, z0c]
 refine Xk _ _ fun j _ hj => ?_
 rw [w0i, z0c, z0c]
 refine Xk _ _ fun k _ hk => ?_
 rw [tm_2 kd (p bX) (p bY) (p bZ) cX cY cZ hax hs (h1 hi) (h1 hj) (h1 hk)]
 show (if okI s k n.length = true then _ else _) = _
 rcases Yn (okI s k n.length) with q | q
 ·rw [if_pos q, if_pos q, Int.mul_assoc, Int.mul_comm (dC (a :: l) i)]; rfl
 ·rw [if_neg (by rw [q]; simp), if_neg (by rw [q]; simp), Int.zero_mul, Int.zero_mul]
end
theorem v2f {L M : List R6} (hr : Rng (L ++ M)) (hl : L.length + M.length ≤ 1000) (kd : Int) {d : Int} (hd : 0 ≤ d ∧ d ≤ 5) {p : List Int} (hp : Pts p) :
  w5k (Ww L M) (Wm L M) (We L M) (Ug L M) (Um L M) kd d = S3 p (fun x y z => fK kd (y2t d (G2 L M) x y z) (G2 L M x y z)) := by
 obtain ⟨a, l, b, m, c, n, e1, e2, e3, h⟩ := v7y hr
 obtain ⟨b0, b1, b2⟩ := w4h hl
 have bd : ∀ (l : List Int) (a : Int), Up a l → -1000005 ≤ a ∧ hiC a l ≤ 1000005 → bdC (a :: l) := fun l a hu hb x hx => by
  have := y1z l a hu
  rcases List.mem_cons.1 hx with rfl | hx
  ·omega
  ·have := x4c l a hu x hx; omega
 unfold Ug Um
 rw [e1] at b0
 rw [e2] at b1
 rw [e3] at b2
 rw [e1, e2, e3]
 have cX := bd l a h.ux h.bx
 have cY := bd m b h.uy h.hy
 have cZ := bd n c h.uz h.bz
 have hf := v6z kd
 have lX : (a :: l).length ≤ 5000 := by omega
 have lY : (b :: m).length ≤ 5000 := by omega
 have lZ : (c :: n).length ≤ 5000 := by omega
 obtain rfl | rfl | rfl | rfl | rfl | rfl : d = 0 ∨ d = 1 ∨ d = 2 ∨ d = 3 ∨ d = 4 ∨ d = 5 := by omega
 ·exact (fac_0 kd lX lY lZ cX cY cZ (s := true) (by decide) (by decide)).trans (cel_x h hp hf true).symm
 ·exact (fac_0 kd lX lY lZ cX cY cZ (s := false) (by decide) (by decide)).trans (cel_x h hp hf false).symm
 ·exact (fac_1 kd lX lY lZ cX cY cZ (s := true) (by decide) (by decide)).trans (cel_y h hp hf true).symm
 ·exact (fac_1 kd lX lY lZ cX cY cZ (s := false) (by decide) (by decide)).trans (cel_y h hp hf false).symm
 ·exact (fac_2 kd lX lY lZ cX cY cZ (s := true) (by decide) (by decide)).trans (cel_z h hp hf true).symm
 ·exact (fac_2 kd lX lY lZ cX cY cZ (s := false) (by decide) (by decide)).trans (cel_z h hp hf false).symm
end Go.Am
namespace Go.Am
open Go.Proofs
theorem y8e {L : List R6} {x y z : Int} : Xn L x y z = true ↔ inS L x y z := by
 unfold Xn inS
 rw [List.any_eq_true]
 constructor
 ·rintro ⟨r, h1, h2⟩
  unfold haR at h2
  simp only [Bool.and_eq_true, decide_eq_true_eq] at h2
  exact ⟨r, h1, ⟨h2.1, h2.2.1⟩, ⟨h2.2.2.1, h2.2.2.2.1⟩, h2.2.2.2.2⟩
 ·rintro ⟨r, h1, ⟨a1, a2⟩, ⟨a3, a4⟩, a5, a6⟩
  refine ⟨r, h1, ?_⟩
  unfold haR
  simp only [Bool.and_eq_true, decide_eq_true_eq]
  exact ⟨a1, a2, a3, a4, a5, a6⟩
def b2i (b : Bool) : Int := bif b then 1 else 0
theorem z1v {X : List R6} (h : Sol X) (x y z : Int) : cnt X x y z = b2i (Xn X x y z) := by
 have := cnt_eq X h.ap x y z
 rcases Yn (Xn X x y z) with q | q
 ·rw [q, this.1 (y8e.1 q)]; rfl
 ·rw [q, this.2 fun k => by rw [y8e.2 k] at q; cases q]; rfl
theorem w5t {γ δ : Type} (f : γ → δ) (d : Int) (G : Int → Int → Int → γ) (x y z : Int) : y2t d (fun x y z => f (G x y z)) x y z = f (y2t d G x y z) := by
 unfold y2t
 split
 ·rfl
 split
 ·rfl
 split
 ·rfl
 split
 ·rfl
 split <;> rfl
theorem inR_nx {d : Int} (hd : 0 ≤ d ∧ d ≤ 5) (r : R6) (x y z : Int) : inR (nx d r) x y z = y2t d (inR r) x y z := by
 have e1 : ∀ a b t : Int, ind (a + 1) (b + 1) t = ind a b (t - 1) := fun a b t => by
  unfold ind
  by_cases h : a ≤ t - 1 ∧ t - 1 < b
  ·rw [if_pos h, if_pos (by omega)]
  ·rw [if_neg h, if_neg (by omega)]
 have e2 : ∀ a b t : Int, ind (a + -1) (b + -1) t = ind a b (t + 1) := fun a b t => by
  unfold ind
  by_cases h : a ≤ t + 1 ∧ t + 1 < b
  ·rw [if_pos h, if_pos (by omega)]
  ·rw [if_neg h, if_neg (by omega)]
 obtain rfl | rfl | rfl | rfl | rfl | rfl : d = 0 ∨ d = 1 ∨ d = 2 ∨ d = 3 ∨ d = 4 ∨ d = 5 := by omega
 ·show ind (r.a + 1) (r.d + 1) x * _ * _ = ind r.a r.d (x - 1) * _ * _; rw [e1]; rfl
 ·show ind (r.a + -1) (r.d + -1) x * _ * _ = ind r.a r.d (x + 1) * _ * _; rw [e2]; rfl
 ·show _ * ind (r.b + 1) (r.e + 1) y * _ = _ * ind r.b r.e (y - 1) * _; rw [e1]; rfl
 ·show _ * ind (r.b + -1) (r.e + -1) y * _ = _ * ind r.b r.e (y + 1) * _; rw [e2]; rfl
 ·show _ * _ * ind (r.c + 1) (r.f + 1) z = _ * _ * ind r.c r.f (z - 1); rw [e1]; rfl
 ·show _ * _ * ind (r.c + -1) (r.f + -1) z = _ * _ * ind r.c r.f (z + 1); rw [e2]; rfl
theorem v2t {d : Int} (hd : 0 ≤ d ∧ d ≤ 5) (X : List R6) (x y z : Int) : cnt (X.map (nx d)) x y z = y2t d (cnt X) x y z := by
 unfold cnt
 rw [w0w]
 have : ∀ x y z, sm X (fun r => y2t d (inR r) x y z) = y2t d (fun x y z => sm X fun r => inR r x y z) x y z := fun x y z => by
  unfold y2t
  split
  ·rfl
  split
  ·rfl
  split
  ·rfl
  split
  ·rfl
  split <;> rfl
 rw [← this]
 exact Xz fun r _ => inR_nx hd r x y z
theorem w2r {d : Int} (hd : 0 ≤ d ∧ d ≤ 5) {r : R6} (h : -1000001 ≤ r.a ∧ r.d ≤ 1000001 ∧ -1000001 ≤ r.b ∧ r.e ≤ 1000001 ∧ -1000001 ≤ r.c ∧ r.f ≤ 1000001) : v5k (nx d r) := by
 obtain rfl | rfl | rfl | rfl | rfl | rfl : d = 0 ∨ d = 1 ∨ d = 2 ∨ d = 3 ∨ d = 4 ∨ d = 5 := by omega
 ·show -1000002 ≤ r.a + 1 ∧ r.d + 1 ≤ 1000002 ∧ _ ≤ r.b ∧ r.e ≤ _ ∧ _ ≤ r.c ∧ r.f ≤ _; omega
 ·show -1000002 ≤ r.a + -1 ∧ r.d + -1 ≤ 1000002 ∧ _ ≤ r.b ∧ r.e ≤ _ ∧ _ ≤ r.c ∧ r.f ≤ _; omega
 ·show _ ≤ r.a ∧ r.d ≤ _ ∧ -1000002 ≤ r.b + 1 ∧ r.e + 1 ≤ 1000002 ∧ _ ≤ r.c ∧ r.f ≤ _; omega
 ·show _ ≤ r.a ∧ r.d ≤ _ ∧ -1000002 ≤ r.b + -1 ∧ r.e + -1 ≤ 1000002 ∧ _ ≤ r.c ∧ r.f ≤ _; omega
 ·show _ ≤ r.a ∧ r.d ≤ _ ∧ _ ≤ r.b ∧ r.e ≤ _ ∧ -1000002 ≤ r.c + 1 ∧ r.f + 1 ≤ 1000002; omega
 ·show _ ≤ r.a ∧ r.d ≤ _ ∧ _ ≤ r.b ∧ r.e ≤ _ ∧ -1000002 ≤ r.c + -1 ∧ r.f + -1 ≤ 1000002; omega
def inB1 (r : R6) : Prop := -1000001 ≤ r.a ∧ r.d ≤ 1000001 ∧ -1000001 ≤ r.b ∧ r.e ≤ 1000001 ∧ -1000001 ≤ r.c ∧ r.f ≤ 1000001
theorem v8t {p : List Int} (hp : Pts p) {d : Int} (hd : 0 ≤ d ∧ d ≤ 5) (X Y : List R6) (hX : ∀ r ∈ X, inB1 r) : E2 d X Y = S3 p fun x y z => y2t d (cnt X) x y z * cnt Y x y z := by
 rw [← v3d, S2_S3 hp _ _ fun r hr => ?_]
 ·exact y6b fun x y z => by rw [v2t hd]
 ·obtain ⟨s, h1, rfl⟩ := List.mem_map.1 hr
  exact w2r hd (hX s h1)
theorem w7o (r s : R6) (x y z : Int) : w5j (z0l r s) (fun b => inR b x y z) = inR r x y z * inR s x y z := by
 have e : inR r x y z * inR s x y z = ind (max r.a s.a) (min r.d s.d) x * ind (max r.b s.b) (min r.e s.e) y * ind (max r.c s.c) (min r.f s.f) z := by
  rw [← z6i, ← z6i, ← z6i]
  unfold inR
  simp only [Int.mul_comm, Int.mul_left_comm, Int.mul_assoc]
 rw [e]
 have z0 : ∀ a b t : Int, ¬ a < b → ind a b t = 0 := fun a b t h => by unfold ind; exact if_neg (by omega)
 unfold z0l
 by_cases h1 : max r.a s.a < min r.d s.d
 ·by_cases h2 : max r.b s.b < min r.e s.e
  ·by_cases h3 : max r.c s.c < min r.f s.f
   ·rw [decide_eq_true h1, decide_eq_true h2, decide_eq_true h3]; rfl
   ·rw [decide_eq_false h3, z0 _ _ z h3, Int.mul_zero]; simp only [Bool.and_false, cond_false, w5j]
  ·rw [decide_eq_false h2, z0 _ _ y h2, Int.mul_zero, Int.zero_mul]; simp only [Bool.false_and, Bool.and_false, cond_false, w5j]
 ·rw [decide_eq_false h1, z0 _ _ x h1, Int.zero_mul, Int.zero_mul]; simp only [Bool.false_and, cond_false, w5j]
theorem v8j (X Y : List R6) (x y z : Int) : cnt (Yk X Y) x y z = cnt X x y z * cnt Y x y z := by
 unfold cnt
 rw [w9z, ← x4e]
 refine Xz fun r _ => ?_
 rw [← y4f]
 exact Xz fun s _ => w7o r s x y z
theorem Sol.inB1 {X : List R6} (h : Sol X) : ∀ r ∈ X, inB1 r := fun r hr => by
 have := z1e (h.val r hr)
 unfold Go.Am.inB1; omega
theorem Sol.rng {X Y : List R6} (h : Sol X) (k : Sol Y) : Rng (X ++ Y) := fun r hr => by
 have : z9f r = true := (List.mem_append.1 hr).elim (h.val r) (k.val r)
 have := z1e this
 omega
theorem Sol.nil : Sol [] := ⟨by simp, fun r hr => (by cases hr), .nil⟩
theorem v2g (kd : Int) (hk : kd = 0 ∨ kd = 1 ∨ kd = 2) (u v : Bool × Bool) : fK kd u v =
  (if kd = 0 then b2i u.1 - b2i u.1 * b2i v.1 else if kd = 1 then b2i u.1 * b2i v.2 - b2i u.1 * (b2i v.1 * b2i v.2) else
   (b2i u.1 * b2i v.2 - b2i u.1 * b2i u.2 * b2i v.2) - (b2i u.1 * (b2i v.1 * b2i v.2) - b2i u.1 * b2i u.2 * (b2i v.1 * b2i v.2))) := by
 obtain ⟨a, b⟩ := u
 obtain ⟨a', b'⟩ := v
 obtain rfl | rfl | rfl := hk <;> cases a <;> cases b <;> cases a' <;> cases b' <;> decide
section
variable {X Y : List R6} (hX : Sol X) (hY : Sol Y) {d : Int} (hd : 0 ≤ d ∧ d ≤ 5) (hl : X.length + Y.length ≤ 1000)
theorem src_G (X Y : List R6) (d x y z : Int) : y2t d (G2 X Y) x y z = (y2t d (Xn X) x y z, y2t d (Xn Y) x y z) := by
 unfold y2t
 split
 ·rfl
 split
 ·rfl
 split
 ·rfl
 split
 ·rfl
 split <;> rfl
include hX in
theorem w0p (d x y z : Int) : y2t d (cnt X) x y z = b2i (y2t d (Xn X) x y z) := by
 rw [← w5t b2i]
 unfold y2t
 split
 ·exact z1v hX _ _ _
 split
 ·exact z1v hX _ _ _
 split
 ·exact z1v hX _ _ _
 split
 ·exact z1v hX _ _ _
 split <;> exact z1v hX _ _ _
include hX hd
theorem v3f {p : List Int} (hp : Pts p) : S3 p (y2t d (cnt X)) = sm X bxV := by
 have e : (fun x y z => y2t d (cnt X) x y z) = fun x y z => sm X fun r => inR (nx d r) x y z * inR (nx d r) x y z := by
  funext x y z
  rw [← v2t hd]
  unfold cnt
  rw [w0w]
  refine Xz fun r _ => ?_
  rw [y8c]
  split <;> rfl
 show S3 p (fun x y z => y2t d (cnt X) x y z) = _
 rw [e, v8q]
 refine Xz fun r hr => ?_
 rw [ov_S3 hp _ _ (w2r hd (hX.inB1 r hr))]
 have v := z1e (hX.val r hr)
 have o : ∀ a b t : Int, a < b → ovl (a + t) (b + t) (a + t) (b + t) = b - a := fun a b t h => by unfold ovl; omega
 have o0 : ∀ a b : Int, a < b → ovl a b a b = b - a := fun a b h => by unfold ovl; omega
 obtain rfl | rfl | rfl | rfl | rfl | rfl : d = 0 ∨ d = 1 ∨ d = 2 ∨ d = 3 ∨ d = 4 ∨ d = 5 := by omega
 ·show ovl (r.a + 1) (r.d + 1) (r.a + 1) (r.d + 1) * ovl r.b r.e r.b r.e * ovl r.c r.f r.c r.f = _; rw [o _ _ _ (by omega), o0 _ _ (by omega), o0 _ _ (by omega)]; rfl
 ·show ovl (r.a + -1) (r.d + -1) (r.a + -1) (r.d + -1) * ovl r.b r.e r.b r.e * ovl r.c r.f r.c r.f = _; rw [o _ _ _ (by omega), o0 _ _ (by omega), o0 _ _ (by omega)]; rfl
 ·show ovl r.a r.d r.a r.d * ovl (r.b + 1) (r.e + 1) (r.b + 1) (r.e + 1) * ovl r.c r.f r.c r.f = _; rw [o _ _ _ (by omega), o0 _ _ (by omega), o0 _ _ (by omega)]; rfl
 ·show ovl r.a r.d r.a r.d * ovl (r.b + -1) (r.e + -1) (r.b + -1) (r.e + -1) * ovl r.c r.f r.c r.f = _; rw [o _ _ _ (by omega), o0 _ _ (by omega), o0 _ _ (by omega)]; rfl
 ·show ovl r.a r.d r.a r.d * ovl r.b r.e r.b r.e * ovl (r.c + 1) (r.f + 1) (r.c + 1) (r.f + 1) = _; rw [o _ _ _ (by omega), o0 _ _ (by omega), o0 _ _ (by omega)]; rfl
 ·show ovl r.a r.d r.a r.d * ovl r.b r.e r.b r.e * ovl (r.c + -1) (r.f + -1) (r.c + -1) (r.f + -1) = _; rw [o _ _ _ (by omega), o0 _ _ (by omega), o0 _ _ (by omega)]; rfl
include hY hl
theorem v3q : w5k (Ww X Y) (Wm X Y) (We X Y) (Ug X Y) (Um X Y) 0 d = sm X bxV - E2 d X X := by
 obtain ⟨p, hp⟩ := v1e
 rw [v2f (hX.rng hY) hl 0 hd hp, ← v3f hX hd hp, v8t hp hd X X hX.inB1, ← v3b]
 refine y6b fun x y z => ?_
 rw [v2g 0 (.inl rfl), if_pos rfl, src_G, w0p hX, z1v hX]; rfl
theorem cov_eq : w5k (Ww X Y) (Wm X Y) (We X Y) (Ug X Y) (Um X Y) 1 d = E2 d X Y - E2 d X (Yk X Y) := by
 obtain ⟨p, hp⟩ := v1e
 rw [v2f (hX.rng hY) hl 1 hd hp, v8t hp hd X Y hX.inB1, v8t hp hd X (Yk X Y) hX.inB1, ← v3b]
 refine y6b fun x y z => ?_
 rw [v2g 1 (.inr (.inl rfl)), if_neg (by decide), if_pos rfl, src_G, w0p hX, v8j, z1v hX, z1v hY]; rfl
end
end Go.Am
namespace Go.Am
open Go.Proofs.Tryz
open Go.Proofs
def dvF (X Y : List R6) (kd d : Int) : Int := w8t (Ww X Y) (Wm X Y) (We X Y) (Ug X Y) (Um X Y) kd d
theorem div_o {X Y : List R6} (h : X.length + Y.length ≤ 1000) : z1u X Y = true := decide_eq_true h
theorem fac_o {X Y : List R6} (h : X.length + Y.length ≤ 1000) (kd : Int) {d : Int} (hd : 0 ≤ d ∧ d ≤ 5) : z1s (Ww X Y) (Wm X Y) (We X Y) (Ug X Y) (Um X Y) kd d = true := by
 obtain ⟨b0, b1, b2⟩ := w4h h
 exact decide_eq_true ⟨hd, by omega, by omega, by omega, y1g _ _ _ _, y1g _ _ _ _⟩
def y2v (X : List R6) (d : Int) : Int := bif Wa X != 0 then 0 else bif decide (d < 0) then 0 else bif decide (d > 5) then 0 else dvF X [] 0 d
def y2u (X : List R6) (d : Int) : Int := bif Wa X != 0 then Wa X else bif decide (d < 0) then 2 else bif decide (d > 5) then 2 else 0
def z4h (X : List R6) (d : Int) : Bool := decide (X.length ≤ 420)
theorem v4e (X : List R6) (d : Int) (h : z4h X d = true) : ∃ N, Yu (x0b X d) N (z8g X d) = .ret [.int .i64 (y2v X d), .int .i64 (y2u X d)] := ⟨0, by
 have h : X.length ≤ 420 := of_decide_eq_true h
 unfold z8g y2v y2u
 simp only [Ze, show ∀ l, Kj l = true from fun _ => rfl, cond_true, div_o (X := X) (Y := []) (by simp; omega)]
 cases (Wa X != 0)
 ·by_cases h1 : d < 0
  ·rw [Zt h1]; rfl
  ·by_cases h2 : d > 5
   ·rw [Zs h1, Yc h2]; rfl
   ·rw [Zs h1, Xx h2, fac_o (X := X) (Y := []) (by simp; omega) 0 (by omega)]; rfl
 ·rfl⟩
def y2w (X Y : List R6) (d : Int) : Int := bif Wa X != 0 then 0 else bif Wa Y != 0 then 0 else bif decide (d < 0) then 0 else bif decide (d > 5) then 0 else dvF X Y 1 d
def z9t (X Y : List R6) (d : Int) : Int := bif Wa X != 0 then Wa X else bif Wa Y != 0 then Wa Y else bif decide (d < 0) then 2 else bif decide (d > 5) then 2 else 0
def z4p (X Y : List R6) (d : Int) : Bool := decide (X.length ≤ 420 ∧ Y.length ≤ 420)
theorem v4t (X Y : List R6) (d : Int) (h : z4p X Y d = true) : ∃ N, Yu (x0p X Y d) N (z8l X Y d) = .ret [.int .i64 (y2w X Y d), .int .i64 (z9t X Y d)] := ⟨0, by
 have h : X.length ≤ 420 ∧ Y.length ≤ 420 := of_decide_eq_true h
 unfold z8l y2w z9t
 simp only [Ze, show ∀ l, Kj l = true from fun _ => rfl, cond_true, div_o (X := X) (Y := Y) (by omega)]
 cases (Wa X != 0)
 ·cases (Wa Y != 0)
  ·by_cases h1 : d < 0
   ·rw [Zt h1]; rfl
   ·by_cases h2 : d > 5
    ·rw [Zs h1, Yc h2]; rfl
    ·rw [Zs h1, Xx h2, fac_o (X := X) (Y := Y) (by omega) 1 (by omega)]; rfl
  ·rfl
 ·rfl⟩
def fRsd : List AVal → Option (AVal × Bool)
 | [a0, .int .i64 x1] => match asL R6 a0 with
  | some (L0, g0, n0) => some (.tup [.int .i64 (y2v L0 x1), .int .i64 (y2u L0 x1)], isT R6 n0 g0 && (z4h L0 x1))
  | _ => none
 | _ => none
theorem v6q {S : Specs} (hS : Zv prog S) : Zv prog (S.with v1k fRsd) := by
 refine z0z hS (by kernel_rfl) fun args v h => ?_
 unfold fRsd at h
 split at h
 ·rename_i a0 x1
  split at h
  ·rename_i L0 g0 n0 e0
   simp only [Option.some.injEq, Prod.mk.injEq, Bool.and_eq_true] at h
   obtain ⟨rfl, ho0, hw⟩ := h
   obtain ⟨N, hN⟩ := v4e L0 x1 hw
   exact ⟨_, _, (.cons (asL_le e0 ho0) (.cons (.refl _) .nil)), rfl, w6h L0 x1 N _ hN, 3, rfl⟩
  ·cases h
 ·cases h
def fRcv : List AVal → Option (AVal × Bool)
 | [a0, a1, .int .i64 x2] => match asL R6 a0, asL R6 a1 with
  | some (L0, g0, n0), some (L1, g1, n1) => some (.tup [.int .i64 (y2w L0 L1 x2), .int .i64 (z9t L0 L1 x2)], isT R6 n0 g0 && (isT R6 n1 g1 && (z4p L0 L1 x2)))
  | _, _ => none
 | _ => none
theorem v6s {S : Specs} (hS : Zv prog S) : Zv prog (S.with nRCov fRcv) := by
 refine z0z hS (by kernel_rfl) fun args v h => ?_
 unfold fRcv at h
 split at h
 ·rename_i a0 a1 x2
  split at h
  ·rename_i L0 g0 n0 L1 g1 n1 e0 e1
   simp only [Option.some.injEq, Prod.mk.injEq, Bool.and_eq_true] at h
   obtain ⟨rfl, ho0, ho1, hw⟩ := h
   obtain ⟨N, hN⟩ := v4t L0 L1 x2 hw
   exact ⟨_, _, (.cons (asL_le e0 ho0) (.cons (asL_le e1 ho1) (.cons (.refl _) .nil))), rfl, w6s L0 L1 x2 N _ hN, 3, rfl⟩
  ·cases h
 ·cases h
end Go.Am
namespace Go.Am
open Go.Proofs
end Go.Am
namespace Go.Am
open Go.Proofs.Tryz
open Go.Proofs
inductive ocoS where
def v5j (l0 : List R6) (l1 : List R6) : ocoS → Xs ocoS
 := nofun
def x4w (l0 : List R6) (l1 : List R6) : Xs ocoS := (bif (Vg (cvT l0)) then (bif ((Ye (cvT l0)) != 0) then (.ret [(.int .i64 0), (.int .i64 (Ye (cvT l0)))]) else (bif (Vg (cvT l1)) then (bif ((Ye (cvT l1)) != 0) then (.ret [(.int .i64 0), (.int .i64 (Ye (cvT l1)))]) else (bif (Wv (cvT l0)) then (bif (Wv (cvT l1)) then (bif (Qs (cvT (Yf (cvT l0))) (cvT (Yf (cvT l1)))) then (.ret [(.int .i64 (v8g (cvT (Yf (cvT l0))) (cvT (Yf (cvT l1))))), (.int .i64 0)]) else .stuck) else .stuck) else .stuck)) else .stuck)) else .stuck)
inductive osiS where
def osiC (l0 : List R6) (x1 : Int) : osiS → Cfg
 := nofun
def x0z (l0 : List R6) (x1 : Int) : osiS → Xs osiS
 := nofun
def z8n (l0 : List R6) (x1 : Int) : Xs osiS := (bif (Vg (cvT l0)) then (bif ((Ye (cvT l0)) != 0) then (.ret [(.int .i64 0), (.int .i64 (Ye (cvT l0)))]) else (bif (decide (x1 < 0)) then (.ret [(.int .i64 0), (.int .i64 2)]) else (bif (decide (x1 > 5)) then (.ret [(.int .i64 0), (.int .i64 2)]) else (bif (Wv (cvT l0)) then (bif (Wh (cvT (Yf (cvT l0)))) then (bif (Yg (cvT (Yf (cvT l0))) (cvT (Yf (cvT l0))) x1) then (.ret [(.int .i64 (IntKind.wrap .i64 ((z7n (cvT (Yf (cvT l0)))) - (prV (cvT (Yf (cvT l0))) (cvT (Yf (cvT l0))) x1)))), (.int .i64 0)]) else .stuck) else .stuck) else .stuck)))) else .stuck)
theorem x7o (l0 : List R6) (x1 : Int) : ∀ s, Xt prog (Zy prog 21) (osiC l0 x1) (osiC l0 x1 s) (x0z l0 x1 s)
 := nofun
theorem x1a (l0 : List R6) (x1 : Int) : Xt prog (Zy prog 21) (osiC l0 x1) (Zb prog 21 [(.dat l0.length (Zz l0)), (.int .i64 x1)] true []) (z8n l0 x1) := (lo fun aV => (lb (fun k0 => (lr 29 21 [1, 0, 1, 1, 0, 0] 1 16 [(4, (ii 0)), (5, (ii (Ye (cvT l0))))] (sl z7u 71 [] ⟨[], [], [some [4, 5]], []⟩ ⟨[], [], []⟩ (trs 3 []) (tt k0 (tt k0 (pp (pp (xr l0) (xw aV)) nn)))))) (fun k0 => (lb (fun k1 => (lr 29 21 [1, 1, 0, 1, 0, 0] 1 16 [(4, (ii 0)), (5, (ii 2))] (sl z7u 95 [] ⟨[], [], [some [4, 5]], []⟩ ⟨[], [], []⟩ [true, false, false, false, true, true, true] (tt k1 (tt k0 (pp (pp (xr l0) (xw aV)) nn)))))) (fun k1 => (lb (fun k2 => (lr 29 21 [1, 1, 0, 1, 0, 0] 1 16 [(4, (ii 0)), (5, (ii 2))] (sl z7u 95 [] ⟨[], [], [some [4, 5]], []⟩ ⟨[], [], []⟩ [true, false, false, false, false, false, true] (tt k2 (tt k1 (tt k0 (pp (pp (xr l0) (xw aV)) nn))))))) (fun k2 => (lo fun o0 => (lo fun o1 => (lo fun o2 => (lr 29 3 [1, 1, 1, 1, 1, 1, 0] 1 16 [(4, (ii (wr ((z7n (cvT (Yf (cvT l0)))) - (prV (cvT (Yf (cvT l0))) (cvT (Yf (cvT l0))) x1))))), (5, (ii 0))] (sl z7u 109 [] ⟨[], [], [some [4, 5]], []⟩ ⟨[], [], []⟩ [true, false, false, false, false, false, false] (pp (pp (xI R6 (Yf (cvT l0)).length (Zz (Yf (cvT l0)))) (pp (xI R6 (Yf (cvT l0)).length (Zz (Yf (cvT l0)))) (xw o2))) (pp (pp (xI R6 (Yf (cvT l0)).length (Zz (Yf (cvT l0)))) (xw o1)) (pp (pp (xr l0) (xw o0)) (tt k2 (tt k1 (tt k0 (pp (pp (xr l0) (xw aV)) nn)))))))))))))))))))
theorem w7f (l0 : List R6) (x1 : Int) (n : Nat) (vs : List AVal) (h : Yu (x0z l0 x1) n (z8n l0 x1) = .ret vs) : Jb prog (Zy prog 21) (Zb prog 21 [(.dat l0.length (Zz l0)), (.int .i64 x1)] true []) vs := by
 have := Zh (x7o l0 x1) n _ (x1a l0 x1)
 rwa [h] at this
inductive ocvS where
def ocvC (l0 : List R6) (l1 : List R6) (x2 : Int) : ocvS → Cfg
 := nofun
def x1e (l0 : List R6) (l1 : List R6) (x2 : Int) : ocvS → Xs ocvS
 := nofun
def z8p (l0 : List R6) (l1 : List R6) (x2 : Int) : Xs ocvS := (bif (Vg (cvT l0)) then (bif ((Ye (cvT l0)) != 0) then (.ret [(.int .i64 0), (.int .i64 (Ye (cvT l0)))]) else (bif (Vg (cvT l1)) then (bif ((Ye (cvT l1)) != 0) then (.ret [(.int .i64 0), (.int .i64 (Ye (cvT l1)))]) else (bif (decide (x2 < 0)) then (.ret [(.int .i64 0), (.int .i64 2)]) else (bif (decide (x2 > 5)) then (.ret [(.int .i64 0), (.int .i64 2)]) else (bif (Wv (cvT l0)) then (bif (Wv (cvT l1)) then (bif (Yg (cvT (Yf (cvT l0))) (cvT (Yf (cvT l1))) x2) then (bif (Vr (cvT (Yf (cvT l0))) (cvT (Yf (cvT l1)))) then (bif (Yg (cvT (Yf (cvT l0))) (cvT (Yk (cvT (Yf (cvT l0))) (cvT (Yf (cvT l1))))) x2) then (.ret [(.int .i64 (IntKind.wrap .i64 ((prV (cvT (Yf (cvT l0))) (cvT (Yf (cvT l1))) x2) - (prV (cvT (Yf (cvT l0))) (cvT (Yk (cvT (Yf (cvT l0))) (cvT (Yf (cvT l1))))) x2)))), (.int .i64 0)]) else .stuck) else .stuck) else .stuck) else .stuck) else .stuck)))) else .stuck)) else .stuck)
theorem x7q (l0 : List R6) (l1 : List R6) (x2 : Int) : ∀ s, Xt prog (Zy prog 23) (ocvC l0 l1 x2) (ocvC l0 l1 x2 s) (x1e l0 l1 x2 s)
 := nofun
theorem x1f (l0 : List R6) (l1 : List R6) (x2 : Int) : Xt prog (Zy prog 23) (ocvC l0 l1 x2) (Zb prog 23 [(.dat l0.length (Zz l0)), (.dat l1.length (Zz l1)), (.int .i64 x2)] true []) (z8p l0 l1 x2) := (lo fun aV => (lb (fun k0 => (lr 39 23 [1, 0, 1, 1, 0, 0] 1 23 [(6, (ii 0)), (7, (ii (Ye (cvT l0))))] (sl z7u 72 [] ⟨[], [], [some [6, 7]], []⟩ ⟨[], [], []⟩ (trs 3 []) (tt k0 (tt k0 (pp (pp (xr l0) (xw aV)) nn)))))) (fun k0 => (lo fun aG => (lb (fun k1 => (lr 39 23 [1, 0, 1, 1, 0, 0] 1 23 [(6, (ii 0)), (7, (ii (Ye (cvT l1))))] (sl z7u 106 [] ⟨[], [], [some [6, 7]], []⟩ ⟨[], [], []⟩ [true, false, true, true, true] (tt k1 (tt k1 (pp (pp (xr l1) (xw aG)) (tt k0 (pp (pp (xr l0) (xw aV)) nn)))))))) (fun k1 => (lb (fun k2 => (lr 39 23 [1, 1, 0, 1, 0, 0] 1 23 [(6, (ii 0)), (7, (ii 2))] (sl z7u 130 [] ⟨[], [], [some [6, 7]], []⟩ ⟨[], [], []⟩ [true, false, true, false, false, false, true, true, true] (tt k2 (tt k1 (pp (pp (xr l1) (xw aG)) (tt k0 (pp (pp (xr l0) (xw aV)) nn)))))))) (fun k2 => (lb (fun k3 => (lr 39 23 [1, 1, 0, 1, 0, 0] 1 23 [(6, (ii 0)), (7, (ii 2))] (sl z7u 130 [] ⟨[], [], [some [6, 7]], []⟩ ⟨[], [], []⟩ [true, false, true, false, false, false, false, false, true] (tt k3 (tt k2 (tt k1 (pp (pp (xr l1) (xw aG)) (tt k0 (pp (pp (xr l0) (xw aV)) nn))))))))) (fun k3 => (lo fun o0 => (lo fun o1 => (lo fun o2 => (lo fun o3 => (lo fun o4 => (lr 39 3 [1, 1, 1, 1, 1, 1, 0] 1 23 [(6, (ii (wr ((prV (cvT (Yf (cvT l0))) (cvT (Yf (cvT l1))) x2) - (prV (cvT (Yf (cvT l0))) (cvT (Yk (cvT (Yf (cvT l0))) (cvT (Yf (cvT l1))))) x2))))), (7, (ii 0))] (sl z7u 151 [] ⟨[], [], [some [6, 7]], []⟩ ⟨[], [], []⟩ [true, false, true, false, false, false, false, false, false] (pp (pp (xI R6 (Yf (cvT l0)).length (Zz (Yf (cvT l0)))) (pp (xI R6 (Yk (cvT (Yf (cvT l0))) (cvT (Yf (cvT l1)))).length (Zz (Yk (cvT (Yf (cvT l0))) (cvT (Yf (cvT l1)))))) (xw o4))) (pp (pp (xI R6 (Yf (cvT l0)).length (Zz (Yf (cvT l0)))) (pp (xI R6 (Yf (cvT l1)).length (Zz (Yf (cvT l1)))) (xw o3))) (pp (pp (xI R6 (Yf (cvT l0)).length (Zz (Yf (cvT l0)))) (pp (xI R6 (Yf (cvT l1)).length (Zz (Yf (cvT l1)))) (xw o2))) (pp (pp (xr l1) (xw o1)) (pp (pp (xr l0) (xw o0)) (tt k3 (tt k2 (tt k1 (pp (pp (xr l1) (xw aG)) (tt k0 (pp (pp (xr l0) (xw aV)) nn))))))))))))))))))))))))))))
theorem w7h (l0 : List R6) (l1 : List R6) (x2 : Int) (n : Nat) (vs : List AVal) (h : Yu (x1e l0 l1 x2) n (z8p l0 l1 x2) = .ret vs) : Jb prog (Zy prog 23) (Zb prog 23 [(.dat l0.length (Zz l0)), (.dat l1.length (Zz l1)), (.int .i64 x2)] true []) vs := by
 have := Zh (x7q l0 l1 x2) n _ (x1f l0 l1 x2)
 rwa [h] at this
inductive grtS where
def grtC (l0 : List R6) : grtS → Cfg
 := nofun
def x2b (l0 : List R6) : grtS → Xs grtS
 := nofun
def z8x (l0 : List R6) : Xs grtS := (bif (decide ((l0.length : Int) > 8)) then (bif (decide ((l0.length : Int) ≤ 400)) then (.ret [(.bool true)]) else (.ret [(.bool (decide ((l0.length : Int) > 420)))])) else (.ret [(.bool (decide ((l0.length : Int) > 420)))]))
theorem x8g (l0 : List R6) : ∀ s, Xt prog (Zy prog 20) (grtC l0) (grtC l0 s) (x2b l0 s)
 := nofun
theorem x2c (l0 : List R6) : Xt prog (Zy prog 20) (grtC l0) (Zb prog 20 [(.dat l0.length (Zz l0))] true []) (z8x l0) := (lb (fun k0 => (lb (fun k1 => (lr 16 3 [1, 1, 1, 1, 1, 1, 0] 1 15 [(2, (.bool true))] (sl z7u 21 [] ⟨[], [], [some [2]], []⟩ ⟨[], [], []⟩ (trs 6 []) (tt k1 (tt k0 nn))))) (fun k1 => (lr 16 3 [1, 1, 1, 1, 1, 1, 0] 1 15 [(2, (.bool (decide ((l0.length : Int) > 420))))] (sl z7u 21 [] ⟨[], [], [some [2]], []⟩ ⟨[], [], []⟩ (trs 3 [false, false, false]) (tt k1 (tt k0 nn))))))) (fun k0 => (lr 16 3 [1, 1, 1, 1, 1, 1, 0] 1 15 [(2, (.bool (decide ((l0.length : Int) > 420))))] (sl z7u 21 [] ⟨[], [], [some [2]], []⟩ ⟨[], [], []⟩ [false, false, false, false, false, false] (tt k0 nn)))))
theorem w8h (l0 : List R6) (n : Nat) (vs : List AVal) (h : Yu (x2b l0) n (z8x l0) = .ret vs) : Jb prog (Zy prog 20) (Zb prog 20 [(.dat l0.length (Zz l0))] true []) vs := by
 have := Zh (x8g l0) n _ (x2c l0)
 rwa [h] at this
end Go.Am
namespace Go.Am
open Go.Proofs.Tryz
open Go.Proofs
def w2n (X Y : List R6) : Int := bif Ye X != 0 then 0 else bif Ye Y != 0 then 0 else v8g X Y
def w2m (X Y : List R6) : Int := bif Ye X != 0 then Ye X else bif Ye Y != 0 then Ye Y else 0
def Qi (X Y : List R6) : Bool := decide (X.length ≤ 100 ∨ 400 < X.length) && decide (Y.length ≤ 100 ∨ 400 < Y.length)
theorem w0z {X : List R6} (h : 400 < X.length) : (Ye X != 0) = true := by
 unfold Ye; rw [decide_eq_true h]; rfl
theorem z1f {X : List R6} (h : decide (X.length ≤ 100 ∨ 400 < X.length) = true) (h0 : (Ye X != 0) = false) : X.length ≤ 100 := by
 rcases of_decide_eq_true h with h | h
 ·exact h
 ·rw [w0z h] at h0; cases h0
theorem oco_run (X Y : List R6) (h : Qi X Y = true) : ∃ N, Yu (v5j X Y) N (x4w X Y) = .ret [.int .i64 (w2n X Y), .int .i64 (w2m X Y)] := by
 unfold Qi at h
 simp only [Bool.and_eq_true] at h
 refine ⟨0, ?_⟩
 unfold x4w w2n w2m
 have o : ∀ l, Vg l = true := fun _ => rfl
 simp only [Ze, o, cond_true, Yf]
 rcases Yn (Ye X != 0) with q1 | q1
 ·simp only [q1, cond_true]; rfl
 ·rcases Yn (Ye Y != 0) with q2 | q2
  ·simp only [q1, q2, cond_true, cond_false]; rfl
  ·have s1 := z1f h.1 q1
   have s2 := z1f h.2 q2
   have b1 : Wv X = true := decide_eq_true (by omega)
   have b2 : Wv Y = true := decide_eq_true (by omega)
   have hk : Qs X Y = true := decide_eq_true (by omega)
   simp only [q1, q2, b1, b2, hk, cond_true, cond_false]; rfl
def y3a (X : List R6) (d : Int) : Int := bif Ye X != 0 then 0 else bif decide (d < 0) then 0 else bif decide (d > 5) then 0 else IntKind.wrap .i64 (z7n X - prV X X d)
def y2z (X : List R6) (d : Int) : Int := bif Ye X != 0 then Ye X else bif decide (d < 0) then 2 else bif decide (d > 5) then 2 else 0
def z4u (X : List R6) (d : Int) : Bool := decide (X.length ≤ 100 ∨ 400 < X.length)
theorem v5d (X : List R6) (d : Int) (h : z4u X d = true) : ∃ N, Yu (x0z X d) N (z8n X d) = .ret [.int .i64 (y3a X d), .int .i64 (y2z X d)] := by
 refine ⟨0, ?_⟩
 unfold z8n y3a y2z
 have o : ∀ l, Vg l = true := fun _ => rfl
 simp only [Ze, o, cond_true, Yf]
 rcases Yn (Ye X != 0) with q1 | q1
 ·simp only [q1, cond_true]; rfl
 ·have s1 := z1f h q1
  have b1 : Wv X = true := decide_eq_true (by omega)
  have v1 : Wh X = true := decide_eq_true (by omega)
  rcases Yn (decide (d < 0)) with q2 | q2
  ·simp only [q1, q2, cond_true, cond_false]; rfl
  ·rcases Yn (decide (d > 5)) with q3 | q3
   ·simp only [q1, q2, q3, cond_true, cond_false]; rfl
   ·have := of_decide_eq_false q2
    have := of_decide_eq_false q3
    have p1 : Yg X X d = true := decide_eq_true (by omega)
    simp only [q1, q2, q3, b1, v1, p1, cond_true, cond_false]; rfl
def y3e (X Y : List R6) (d : Int) : Int := bif Ye X != 0 then 0 else bif Ye Y != 0 then 0 else bif decide (d < 0) then 0 else bif decide (d > 5) then 0 else IntKind.wrap .i64 (prV X Y d - prV X (Yk X Y) d)
def z9w (X Y : List R6) (d : Int) : Int := bif Ye X != 0 then Ye X else bif Ye Y != 0 then Ye Y else bif decide (d < 0) then 2 else bif decide (d > 5) then 2 else 0
def Qh (X Y : List R6) (d : Int) : Bool := Qi X Y
theorem v5h (X Y : List R6) (d : Int) (h : Qh X Y d = true) : ∃ N, Yu (x1e X Y d) N (z8p X Y d) = .ret [.int .i64 (y3e X Y d), .int .i64 (z9w X Y d)] := by
 unfold Qh Qi at h
 simp only [Bool.and_eq_true] at h
 refine ⟨0, ?_⟩
 unfold z8p y3e z9w
 have o : ∀ l, Vg l = true := fun _ => rfl
 simp only [Ze, o, cond_true, Yf]
 rcases Yn (Ye X != 0) with q1 | q1
 ·simp only [q1, cond_true]; rfl
 ·rcases Yn (Ye Y != 0) with q4 | q4
  ·simp only [q1, q4, cond_true, cond_false]; rfl
  ·have s1 := z1f h.1 q1
   have s2 := z1f h.2 q4
   have hl := z2p X Y
   have hm : X.length * Y.length ≤ 100 * 100 := Nat.mul_le_mul s1 s2
   have b1 : Wv X = true := decide_eq_true (by omega)
   have b2 : Wv Y = true := decide_eq_true (by omega)
   have c1 : Vr X Y = true := decide_eq_true (by omega)
   rcases Yn (decide (d < 0)) with q2 | q2
   ·simp only [q1, q2, q4, cond_true, cond_false]; rfl
   ·rcases Yn (decide (d > 5)) with q3 | q3
    ·simp only [q1, q2, q3, q4, cond_true, cond_false]; rfl
    ·have := of_decide_eq_false q2
     have := of_decide_eq_false q3
     have p1 : Yg X Y d = true := decide_eq_true (by omega)
     have p2 : Yg X (Yk X Y) d = true := decide_eq_true (by omega)
     simp only [q1, q2, q3, q4, b1, b2, c1, p1, p2, cond_true, cond_false]; rfl
def v2b (X : List R6) : Bool := decide (8 < X.length ∧ X.length ≤ 400 ∨ 420 < X.length)
def z1q (X : List R6) : Bool := true
theorem v6a (X : List R6) (h : z1q X = true) : ∃ N, Yu (x2b X) N (z8x X) = .ret [.bool (v2b X)] := by
 refine ⟨0, ?_⟩
 unfold z8x v2b
 by_cases h1 : (X.length : Int) > 8
 ·by_cases h2 : (X.length : Int) ≤ 400
  ·rw [decide_eq_true h1, decide_eq_true h2, decide_eq_true (show 8 < X.length ∧ X.length ≤ 400 ∨ 420 < X.length by omega)]; rfl
  ·rw [decide_eq_true h1, decide_eq_false h2]
   by_cases h3 : (X.length : Int) > 420
   ·rw [decide_eq_true h3, decide_eq_true (show 8 < X.length ∧ X.length ≤ 400 ∨ 420 < X.length by omega)]; rfl
   ·rw [decide_eq_false h3, decide_eq_false (show ¬ (8 < X.length ∧ X.length ≤ 400 ∨ 420 < X.length) by omega)]; rfl
 ·rw [decide_eq_false h1, decide_eq_false (show ¬ (X.length : Int) > 420 by omega), decide_eq_false (show ¬ (8 < X.length ∧ X.length ≤ 400 ∨ 420 < X.length) by omega)]; rfl
def fOco : List AVal → Option (AVal × Bool)
 | [a0, a1] => match asL R6 a0, asL R6 a1 with
  | some (L0, g0, n0), some (L1, g1, n1) => some (.tup [.int .i64 (w2n L0 L1), .int .i64 (w2m L0 L1)], isT R6 n0 g0 && (isT R6 n1 g1 && (Qi L0 L1)))
  | _, _ => none
 | _ => none
def fOsi : List AVal → Option (AVal × Bool)
 | [a0, .int .i64 x1] => match asL R6 a0 with
  | some (L0, g0, n0) => some (.tup [.int .i64 (y3a L0 x1), .int .i64 (y2z L0 x1)], isT R6 n0 g0 && (z4u L0 x1))
  | _ => none
 | _ => none
theorem v6v {S : Specs} (hS : Zv prog S) : Zv prog (S.with v1n fOsi) := by
 refine z0z hS (by kernel_rfl) fun args v h => ?_
 unfold fOsi at h
 split at h
 ·rename_i a0 x1
  split at h
  ·rename_i L0 g0 n0 e0
   simp only [Option.some.injEq, Prod.mk.injEq, Bool.and_eq_true] at h
   obtain ⟨rfl, ho0, hw⟩ := h
   obtain ⟨N, hN⟩ := v5d L0 x1 hw
   exact ⟨_, _, (.cons (asL_le e0 ho0) (.cons (.refl _) .nil)), rfl, w7f L0 x1 N _ hN, 3, rfl⟩
  ·cases h
 ·cases h
def fOcv : List AVal → Option (AVal × Bool)
 | [a0, a1, .int .i64 x2] => match asL R6 a0, asL R6 a1 with
  | some (L0, g0, n0), some (L1, g1, n1) => some (.tup [.int .i64 (y3e L0 L1 x2), .int .i64 (z9w L0 L1 x2)], isT R6 n0 g0 && (isT R6 n1 g1 && (Qh L0 L1 x2)))
  | _, _ => none
 | _ => none
theorem v6x {S : Specs} (hS : Zv prog S) : Zv prog (S.with nOCov fOcv) := by
 refine z0z hS (by kernel_rfl) fun args v h => ?_
 unfold fOcv at h
 split at h
 ·rename_i a0 a1 x2
  split at h
  ·rename_i L0 g0 n0 L1 g1 n1 e0 e1
   simp only [Option.some.injEq, Prod.mk.injEq, Bool.and_eq_true] at h
   obtain ⟨rfl, ho0, ho1, hw⟩ := h
   obtain ⟨N, hN⟩ := v5h L0 L1 x2 hw
   exact ⟨_, _, (.cons (asL_le e0 ho0) (.cons (asL_le e1 ho1) (.cons (.refl _) .nil))), rfl, w7h L0 L1 x2 N _ hN, 3, rfl⟩
  ·cases h
 ·cases h
def fGrt : List AVal → Option (AVal × Bool)
 | [a0] => match asL R6 a0 with
  | some (L0, g0, n0) => some (.bool (v2b L0), isT R6 n0 g0 && (z1q L0))
  | _ => none
 | _ => none
theorem v7c {S : Specs} (hS : Zv prog S) : Zv prog (S.with x5b fGrt) := by
 refine z0z hS (by kernel_rfl) fun args v h => ?_
 unfold fGrt at h
 split at h
 ·rename_i a0
  split at h
  ·rename_i L0 g0 n0 e0
   simp only [Option.some.injEq, Prod.mk.injEq, Bool.and_eq_true] at h
   obtain ⟨rfl, ho0, hw⟩ := h
   obtain ⟨N, hN⟩ := v6a L0 hw
   exact ⟨_, _, (.cons (asL_le e0 ho0) .nil), rfl, w8h L0 N _ hN, 3, rfl⟩
  ·cases h
 ·cases h
end Go.Am
namespace Go.Am
open Go.Proofs
section
variable {X Y : List R6} (hX : Ye X = 0) (hY : Ye Y = 0) (lX : X.length ≤ 100) (lY : Y.length ≤ 100)
include hX hY
include lX lY
omit lX lY
theorem rcv_eq (hl : X.length + Y.length ≤ 1000) {d : Int} (hd : 0 ≤ d ∧ d ≤ 5) : IntKind.wrap .i64 (prV X Y d - prV X (Yk X Y) d) = dvF X Y 1 d := by
 unfold dvF w8t
 rw [cov_eq (Sol.of hX) (Sol.of hY) hd hl]
 have o := fun r hr => w2j ((Sol.of hX).val r hr)
 exact Cg.eq (Cg.sub (w2g X Y d hd o) (w2g X (Yk X Y) d hd o))
end
end Go.Am
namespace Go.Am
open Go.Proofs.Tryz
open Go.Proofs
section
variable (l : List (List R6)) (i : Int) (hl : l.length ≤ 60)
include hl
end
section
variable (l : List (List R6)) (i : Int) (hl : l.length ≤ 60)
include hl
end
def Rf : Specs := (((((T9.with x5b fGrt).with v1n fOsi).with nOCov fOcv).with v1k fRsd).with nRCov fRcv)
theorem x9r : Zv prog Rf := (v6s (v6q (v6x (v6v (v7c Vx)))))
end Go.Am
namespace Go.Am
open Go.Proofs.Tryz
open Go.Proofs
inductive losS where
def losC (l0 : List R6) (l1 : List R6) (x2 : Int) : losS → Cfg
 := nofun
def x1j (l0 : List R6) (l1 : List R6) (x2 : Int) : losS → Xs losS
 := nofun
def z8q (l0 : List R6) (l1 : List R6) (x2 : Int) : Xs losS := (bif (z1q (cvT l0)) then (bif (v2b (cvT l0)) then (.ret [(.bool true)]) else (bif (z1q (cvT l1)) then (bif (v2b (cvT l1)) then (.ret [(.bool true)]) else (bif (z4u (cvT l0) x2) then (bif (z4h (cvT l0) x2) then (bif (Qh (cvT l0) (cvT l1) x2) then (bif (z4p (cvT l0) (cvT l1) x2) then (bif ((y3a (cvT l0) x2) == (y2v (cvT l0) x2)) then (bif ((y2z (cvT l0) x2) == (y2u (cvT l0) x2)) then (bif ((y3e (cvT l0) (cvT l1) x2) == (y2w (cvT l0) (cvT l1) x2)) then (.ret [(.bool ((z9w (cvT l0) (cvT l1) x2) == (z9t (cvT l0) (cvT l1) x2)))]) else (.ret [(.bool false)])) else (.ret [(.bool false)])) else (.ret [(.bool false)])) else .stuck) else .stuck) else .stuck) else .stuck)) else .stuck)) else .stuck)
theorem x7t (l0 : List R6) (l1 : List R6) (x2 : Int) : ∀ s, Xt prog (Zy prog 4) (losC l0 l1 x2) (losC l0 l1 x2 s) (x1j l0 l1 x2 s)
 := nofun
theorem x1k (l0 : List R6) (l1 : List R6) (x2 : Int) : Xt prog (Zy prog 4) (losC l0 l1 x2) (Zb prog 4 [(.dat l0.length (Zz l0)), (.dat l1.length (Zz l1)), (.int .i64 x2)] true []) (z8q l0 l1 x2) := (lo fun aV => (lb (fun k0 => (lr 65 4 [1, 0, 1, 0, 0] 1 4 [(6, (.bool true))] (sl x9r 19 [] ⟨[], [], [some [6]], []⟩ ⟨[], [], []⟩ (trs 3 []) (tt k0 (pp (pp (xr l0) (xw aV)) nn))))) (fun k0 => (lo fun aG => (lb (fun k1 => (lr 65 4 [1, 0, 1, 0, 0] 1 4 [(6, (.bool true))] (sl x9r 19 [] ⟨[], [], [some [6]], []⟩ ⟨[], [], []⟩ [false, false, true] (tt k1 (pp (pp (xr l1) (xw aG)) (tt k0 (pp (pp (xr l0) (xw aV)) nn))))))) (fun k1 => (lo fun bF => (lo fun cI => (lo fun cN => (lo fun cO => (lb (fun k2 => (lb (fun k3 => (lb (fun k4 => (lr 65 3 [1, 1, 1, 1, 1, 1, 0] 1 4 [(6, (.bool ((z9w (cvT l0) (cvT l1) x2) == (z9t (cvT l0) (cvT l1) x2))))] (sl x9r 84 [] ⟨[], [], [some [6]], []⟩ ⟨[], [], []⟩ [false, false, false, true, true, true, true, true, true, true, true, true] (tt k4 (tt k3 (tt k2 (pp (pp (xr l0) (pp (xr l1) (xw cO))) (pp (pp (xr l0) (pp (xr l1) (xw cN))) (pp (pp (xr l0) (xw cI)) (pp (pp (xr l0) (xw bF)) (tt k1 (pp (pp (xr l1) (xw aG)) (tt k0 (pp (pp (xr l0) (xw aV)) nn)))))))))))))) (fun k4 => (lr 65 3 [1, 1, 1, 1, 1, 1, 0] 1 4 [(6, (.bool false))] (sl x9r 84 [] ⟨[], [], [some [6]], []⟩ ⟨[], [], []⟩ [false, false, false, true, true, true, true, true, true, false, false, false] (tt k4 (tt k3 (tt k2 (pp (pp (xr l0) (pp (xr l1) (xw cO))) (pp (pp (xr l0) (pp (xr l1) (xw cN))) (pp (pp (xr l0) (xw cI)) (pp (pp (xr l0) (xw bF)) (tt k1 (pp (pp (xr l1) (xw aG)) (tt k0 (pp (pp (xr l0) (xw aV)) nn)))))))))))))))) (fun k3 => (lr 65 3 [1, 1, 1, 1, 1, 1, 0] 1 4 [(6, (.bool false))] (sl x9r 84 [] ⟨[], [], [some [6]], []⟩ ⟨[], [], []⟩ [false, false, false, true, true, true, false, false, false, false, false, false] (tt k3 (tt k2 (pp (pp (xr l0) (pp (xr l1) (xw cO))) (pp (pp (xr l0) (pp (xr l1) (xw cN))) (pp (pp (xr l0) (xw cI)) (pp (pp (xr l0) (xw bF)) (tt k1 (pp (pp (xr l1) (xw aG)) (tt k0 (pp (pp (xr l0) (xw aV)) nn))))))))))))))) (fun k2 => (lr 65 3 [1, 1, 1, 1, 1, 1, 0] 1 4 [(6, (.bool false))] (sl x9r 84 [] ⟨[], [], [some [6]], []⟩ ⟨[], [], []⟩ [false, false, false, false, false, false, false, false, false, false, false, false] (tt k2 (pp (pp (xr l0) (pp (xr l1) (xw cO))) (pp (pp (xr l0) (pp (xr l1) (xw cN))) (pp (pp (xr l0) (xw cI)) (pp (pp (xr l0) (xw bF)) (tt k1 (pp (pp (xr l1) (xw aG)) (tt k0 (pp (pp (xr l0) (xw aV)) nn)))))))))))))))))))))))
theorem los_ends (l0 : List R6) (l1 : List R6) (x2 : Int) (n : Nat) (vs : List AVal) (h : Yu (x1j l0 l1 x2) n (z8q l0 l1 x2) = .ret vs) : Jb prog (Zy prog 4) (Zb prog 4 [(.dat l0.length (Zz l0)), (.dat l1.length (Zz l1)), (.int .i64 x2)] true []) vs := by
 have := Zh (x7t l0 l1 x2) n _ (x1k l0 l1 x2)
 rwa [h] at this
end Go.Am
namespace Go.Am
open Go.Proofs
theorem w3o {X : List R6} (h : v2b X = false) : X.length ≤ 8 ∨ (400 < X.length ∧ X.length ≤ 420) := by
 have := of_decide_eq_false h
 omega
theorem v3s {X : List R6} (h : (Ye X != 0) = false) : Ye X = 0 := by simpa using h
theorem v3u {X : List R6} (h : Ye X = 0) (k : X.length ≤ 8 ∨ (400 < X.length ∧ X.length ≤ 420)) : X.length ≤ 8 := by
 have := (Sol.of h).len; omega
theorem v5e {X : List R6} (k : X.length ≤ 8 ∨ (400 < X.length ∧ X.length ≤ 420)) (d : Int) : y3a X d = y2v X d ∧ y2z X d = y2u X d := by
 unfold y3a y2v y2z y2u
 rw [z2q]
 rcases Yn (Wa X != 0) with q | q
 ·rw [q]; exact ⟨rfl, rfl⟩
 ·have h0 : Ye X = 0 := v3s (by rw [z2q]; exact q)
  have hl := v3u h0 k
  rw [q]
  simp only [cond_false]
  by_cases h1 : d < 0
  ·rw [Zt h1]; exact ⟨rfl, trivial⟩
  ·by_cases h2 : d > 5
   ·rw [Zs h1, Yc h2]; exact ⟨rfl, trivial⟩
   ·rw [Zs h1, Xx h2]
    simp only [cond_false]
    refine ⟨?_, trivial⟩
    unfold dvF w8t
    rw [v3q (Sol.of h0) Sol.nil (show 0 ≤ d ∧ d ≤ 5 by omega) (by simp; omega)]
    exact Cg.eq (Cg.sub (w0b X) (w2g X X d (by omega) fun r hr => w2j ((Sol.of h0).val r hr)))
theorem v5i {X Y : List R6} (k : X.length ≤ 8 ∨ (400 < X.length ∧ X.length ≤ 420)) (k' : Y.length ≤ 8 ∨ (400 < Y.length ∧ Y.length ≤ 420)) (d : Int) : y3e X Y d = y2w X Y d ∧ z9w X Y d = z9t X Y d := by
 unfold y3e y2w z9w z9t
 rw [z2q, z2q]
 rcases Yn (Wa X != 0) with q | q
 ·rw [q]; exact ⟨rfl, rfl⟩
 ·rcases Yn (Wa Y != 0) with q2 | q2
  ·rw [q, q2]; exact ⟨rfl, rfl⟩
  ·have h0 : Ye X = 0 := v3s (by rw [z2q]; exact q)
   have h0' : Ye Y = 0 := v3s (by rw [z2q]; exact q2)
   have hl := v3u h0 k
   have hl' := v3u h0' k'
   rw [q, q2]
   simp only [cond_false]
   by_cases h1 : d < 0
   ·rw [Zt h1]; exact ⟨rfl, trivial⟩
   ·by_cases h2 : d > 5
    ·rw [Zs h1, Yc h2]; exact ⟨rfl, trivial⟩
    ·rw [Zs h1, Xx h2]
     simp only [cond_false]
     exact ⟨rcv_eq h0 h0' (by omega) (by omega), trivial⟩
theorem los_run (X Y : List R6) (d : Int) : ∃ N, Yu (x1j X Y d) N (z8q X Y d) = .ret [.bool true] := ⟨0, by
 unfold z8q
 simp only [Ze, show ∀ l, z1q l = true from fun _ => rfl, cond_true]
 rcases Yn (v2b X) with q | q
 ·rw [q]; rfl
 ·rcases Yn (v2b Y) with q2 | q2
  ·rw [q, q2]; rfl
  ·have k := w3o q
   have k' := w3o q2
   obtain ⟨e1, e2⟩ := v5e k d
   obtain ⟨e3, e4⟩ := v5i k k' d
   have o1 : z4u X d = true := decide_eq_true (by omega)
   have o2 : z4h X d = true := decide_eq_true (by omega)
   have o3 : Qh X Y d = true := by
    unfold Qh Qi
    rw [decide_eq_true (show X.length ≤ 100 ∨ 400 < X.length by omega), decide_eq_true (show Y.length ≤ 100 ∨ 400 < Y.length by omega)]; rfl
   have o4 : z4p X Y d = true := decide_eq_true (by omega)
   rw [q, q2]
   simp only [o1, o2, o3, o4, e1, e2, e3, e4, cond_true, cond_false, beq_self_eq_true]; rfl⟩
end Go.Am
end
