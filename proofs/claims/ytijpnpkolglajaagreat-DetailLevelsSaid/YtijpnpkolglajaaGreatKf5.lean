/- A part of a proof: several texts in one. -/
import Derived.Test.YtijpnpkolglajaaGreatKf4
set_option maxRecDepth 1000000
set_option maxHeartbeats 8000000
set_option linter.unusedVariables false
set_option linter.unusedSimpArgs false
noncomputable section
namespace Go.Am
open Go.Proofs Go.Sort Go.Shelf Go.RowKit Go.Lib
def w5e : Sem R2 Int where
 can := Can
 inB s y := s.a ≤ y ∧ y < s.b
 uniq := w3n
 some s hs hn := by
  cases s with
  | nil => exact absurd rfl hn
  | cons r l => exact ⟨r.a, r, by simp, Int.le_refl _, hs.pos r (by simp)⟩
 nil := .nil
def y3m : Sem R4 (Int × Int) := Dim.sem x2w w5e
def x8z : Sem R6 (Int × Int × Int) := Dim.sem y1q y3m
namespace Dim
variable {α β : Type} {D : Dim α β}
theorem inn_slab (l m : List α) (hl : ∀ r ∈ m, r ∈ l) {j : Nat} (hj : j + 1 < (D.cuts l).length) {x : Int} (h1 : rd (D.cuts l) j ≤ x) (h2 : x < rd (D.cuts l) (j + 1)) : D.inn m (rd (D.cuts l) j) = D.inn m x := by
 have hc : (D.cuts l).Pairwise (· < ·) := by
  show (Ja (D.ends l)).Pairwise (· < ·)
  rw [z0n]; exact (Xe _).1
 have fG : ∀ r ∈ m, D.lo r ∈ D.cuts l ∧ D.hi r ∈ D.cuts l := fun r hr => by
  show D.lo r ∈ Ja (D.ends l) ∧ D.hi r ∈ Ja (D.ends l)
  rw [z0n, (Xe _).2, (Xe _).2]
  exact ⟨List.mem_flatMap.2 ⟨r, hl r hr, by simp⟩, List.mem_flatMap.2 ⟨r, hl r hr, by simp⟩⟩
 have side : ∀ c, c ∈ D.cuts l → (c ≤ rd (D.cuts l) j ↔ c ≤ x) := fun c hcm => by
  obtain ⟨i, hi, rfl⟩ := List.getElem_of_mem hcm
  rw [← Xa hi]
  rcases Nat.lt_or_ge j i with h | h
  ·have : rd (D.cuts l) (j + 1) ≤ rd (D.cuts l) i := by
    rcases Nat.eq_or_lt_of_le (show j + 1 ≤ i from h) with e | e
    ·rw [e]; exact Int.le_refl _
    ·exact Int.le_of_lt (y4e hc e hi)
   have := y4e hc (Nat.lt_succ_self j) hj
   constructor <;> intro <;> omega
  ·have : rd (D.cuts l) i ≤ rd (D.cuts l) j := by
    rcases Nat.eq_or_lt_of_le h with e | e
    ·rw [e]; exact Int.le_refl _
    ·exact Int.le_of_lt (y4e hc e (by omega))
   constructor <;> intro <;> omega
 unfold inn
 congr 1
 refine List.filter_congr fun r hr => ?_
 obtain ⟨m1, m2⟩ := fG r hr
 have s1 := side _ m1
 have s2 := side _ m2
 have e1 : decide (D.lo r ≤ rd (D.cuts l) j) = decide (D.lo r ≤ x) := decide_eq_decide.2 s1
 have e2 : decide (rd (D.cuts l) j < D.hi r) = decide (x < D.hi r) := decide_eq_decide.2 (by constructor <;> intro <;> omega)
 rw [e1, e2]
theorem inn_out (l m : List α) (hl : ∀ r ∈ m, r ∈ l) {x : Int} (h : ∀ j, j + 1 < (D.cuts l).length → ¬ (rd (D.cuts l) j ≤ x ∧ x < rd (D.cuts l) (j + 1))) : D.inn m x = [] := by
 unfold inn
 rw [List.map_eq_nil_iff, List.filter_eq_nil_iff]
 intro r hr hb
 simp only [Bool.and_eq_true, decide_eq_true_eq] at hb
 have fG : D.lo r ∈ D.cuts l ∧ D.hi r ∈ D.cuts l := by
  show D.lo r ∈ Ja (D.ends l) ∧ D.hi r ∈ Ja (D.ends l)
  rw [z0n, (Xe _).2, (Xe _).2]
  exact ⟨List.mem_flatMap.2 ⟨r, hl r hr, by simp⟩, List.mem_flatMap.2 ⟨r, hl r hr, by simp⟩⟩
 have hc : (D.cuts l).Pairwise (· < ·) := by
  show (Ja (D.ends l)).Pairwise (· < ·)
  rw [z0n]; exact (Xe _).1
 obtain ⟨i, hi, e1⟩ := List.getElem_of_mem fG.1
 obtain ⟨k, hk, e2⟩ := List.getElem_of_mem fG.2
 rw [← Xa hi] at e1
 rw [← Xa hk] at e2
 have h0 : rd (D.cuts l) 0 ≤ rd (D.cuts l) i := by
  rcases Nat.eq_or_lt_of_le (Nat.zero_le i) with e | e
  ·rw [← e]; exact Int.le_refl _
  ·exact Int.le_of_lt (y4e hc e hi)
 obtain ⟨j, j1, j2, j3⟩ := x2g k hk x (by omega) (by omega)
 exact h j (by omega) ⟨j2, j3⟩
theorem goJ_can (hD : D.Fair) (hs : ∀ a b, D.same a b = true ↔ a = b) {γ : Type} (M : Sem β γ) (a b : List α) (J : List β → List β → List β) (hJ : ∀ x, M.can (J (D.inn a x) (D.inn b x))) (h0 : J [] [] = []) :
  (D.sem hD M).can (D.goS (fun x => J (D.inn a x) (D.inn b x)) (D.cuts (a ++ b)) ((D.cuts (a ++ b)).length - 1) 0 ⟨[], [], 0, 0⟩).out ∧
  ∀ x q, ptL (D.sem hD M).inB (D.goS (fun x => J (D.inn a x) (D.inn b x)) (D.cuts (a ++ b)) ((D.cuts (a ++ b)).length - 1) 0 ⟨[], [], 0, 0⟩).out (x, q) ↔ ptL M.inB (J (D.inn a x) (D.inn b x)) q := by
 have hc : (D.cuts (a ++ b)).Pairwise (· < ·) := by
  show (Ja (D.ends (a ++ b))).Pairwise (· < ·)
  rw [z0n]; exact (Xe _).1
 obtain ⟨h1, h2⟩ := goS_can hD hs M (cs := D.cuts (a ++ b)) hc hJ
 refine ⟨h1, fun x q => ?_⟩
 rw [h2]
 constructor
 ·rintro ⟨j, j1, j2, j3, j4⟩
  rwa [inn_slab (a ++ b) a (fun r hr => List.mem_append.2 (.inl hr)) j1 j2 j3, inn_slab (a ++ b) b (fun r hr => List.mem_append.2 (.inr hr)) j1 j2 j3] at j4
 ·intro hp
  by_cases hx : ∃ j, j + 1 < (D.cuts (a ++ b)).length ∧ rd (D.cuts (a ++ b)) j ≤ x ∧ x < rd (D.cuts (a ++ b)) (j + 1)
  ·obtain ⟨j, j1, j2, j3⟩ := hx
   refine ⟨j, j1, j2, j3, ?_⟩
   rwa [inn_slab (a ++ b) a (fun r hr => List.mem_append.2 (.inl hr)) j1 j2 j3, inn_slab (a ++ b) b (fun r hr => List.mem_append.2 (.inr hr)) j1 j2 j3]
  ·have hx' : ∀ j, j + 1 < (D.cuts (a ++ b)).length → ¬ (rd (D.cuts (a ++ b)) j ≤ x ∧ x < rd (D.cuts (a ++ b)) (j + 1)) := fun j j1 j2 => hx ⟨j, j1, j2⟩
   rw [inn_out (a ++ b) a (fun r hr => List.mem_append.2 (.inl hr)) hx', inn_out (a ++ b) b (fun r hr => List.mem_append.2 (.inr hr)) hx', h0] at hp
   exact absurd hp (y4a _ _)
theorem pt_inn {γ : Type} (inB : β → γ → Prop) (l : List α) (x : Int) (q : γ) : ptL inB (D.inn l x) q ↔ ptL (D.inA inB) l (x, q) := by
 constructor
 ·rintro ⟨b, hb, h⟩
  obtain ⟨r, hr, rfl⟩ := List.mem_map.1 hb
  obtain ⟨h1, h2⟩ := List.mem_filter.1 hr
  simp only [Bool.and_eq_true, decide_eq_true_eq] at h2
  exact ⟨r, h1, h2.1, h2.2, h⟩
 ·rintro ⟨r, hr, h1, h2, h3⟩
  refine ⟨D.pr r, List.mem_map.2 ⟨r, List.mem_filter.2 ⟨hr, ?_⟩, rfl⟩, h3⟩
  simp only [Bool.and_eq_true, decide_eq_true_eq]
  exact ⟨h1, h2⟩
theorem out_goJ (l : List α) : D.out l = (D.goS (fun x => D.mak (D.inn l x)) (D.cuts (l ++ [])) ((D.cuts (l ++ [])).length - 1) 0 ⟨[], [], 0, 0⟩).out := by
 rw [List.append_nil]
 unfold out
 rw [go_goS]
 rfl
end Dim
theorem y5s (a b : List R4) : D6.same a b = true ↔ a = b := decide_eq_true_iff
theorem x9h (a b : List R2) : D4.same a b = true ↔ a = b := decide_eq_true_iff
theorem w7w {l : List R4} (h : ∀ r ∈ l, z1a r = true) (x : Int) : (D4.inn l x).all z7e = true := List.all_eq_true.2 fun s hs => by
 obtain ⟨r, hr, _, _, rfl⟩ := y4k hs
 have := h r hr
 simp only [z1a, z7e, Bool.and_eq_true, decide_eq_true_eq] at this ⊢
 omega
theorem x8r {l : List R2} (hv : l.all z7e = true) (hl : l.length ≤ 400) : w5e.can (Xw l) ∧ ∀ y, ptL w5e.inB (Xw l) y ↔ ptL w5e.inB l y := by
 obtain ⟨c1, c2⟩ := y8y l hv
 have e : Xw l = swV l := by unfold Xw; rw [decide_eq_false (by omega), hv]; rfl
 rw [e]
 exact ⟨c1, c2⟩
theorem x6k {β γ : Type} (M : Sem β γ) {l : List β} (h : M.can l) (hp : ∀ q, ¬ ptL M.inB l q) : l = [] := Classical.byContradiction fun hn => by
 obtain ⟨q, hq⟩ := M.some l h hn
 exact hp q hq
theorem v4f : Xw [] = [] := by
 obtain ⟨h1, h2⟩ := x8r (l := []) rfl (Nat.zero_le _)
 exact x6k w5e h1 fun q hq => y4a _ _ ((h2 q).1 hq)
theorem Dim.out_nil {α β : Type} (D : Dim α β) : D.out [] = [] := by
 have h : (D.cuts []).length ≤ 2 * 0 := D.cuts_length []
 have e : (D.cuts []).length - 1 = 0 := by omega
 unfold Dim.out
 rw [e]; rfl
theorem v5u : Zr [] = [] := by
 unfold Zr
 rw [Dim.out_nil]
 cases decide (400 < ([] : List R4).length) <;> cases ([] : List R4).all z1a <;> rfl
theorem y3u {l : List R4} (hv : ∀ r ∈ l, z1a r = true) (hl : l.length ≤ 400) : y3m.can (D4.out l) ∧ ∀ p, ptL y3m.inB (D4.out l) p ↔ ptL y3m.inB l p := by
 rw [Dim.out_goJ]
 have hs : ∀ x, w5e.can (D4.mak (D4.inn l x)) ∧ ∀ y, ptL w5e.inB (D4.mak (D4.inn l x)) y ↔ ptL w5e.inB (D4.inn l x) y := fun x => x8r (w7w hv x) (Nat.le_trans (D4.inn_length l x) hl)
 obtain ⟨h1, h2⟩ := Dim.goJ_can x2w x9h w5e l [] (fun s _ => D4.mak s) (fun x => (hs x).1) v4f
 refine ⟨h1, fun ⟨x, y⟩ => ?_⟩
 rw [show ptL y3m.inB _ (x, y) ↔ _ from h2 x y, (hs x).2, Dim.pt_inn]
 rfl
theorem y1b {l : List R6} (hv : ∀ r ∈ l, Jk r = true) (z : Int) : ∀ r ∈ D6.inn l z, z1a r = true := fun r hr => by
 obtain ⟨s, hs, rfl⟩ := List.mem_map.1 hr
 have := Xq (hv s (List.mem_filter.1 hs).1)
 show z1a ⟨s.a, s.b, s.d, s.e⟩ = true
 simp only [z1a, Bool.and_eq_true, decide_eq_true_eq]
 (repeat' apply And.intro) <;> omega
def Secs (l : List R6) : Prop := ∀ z, (D4.out (D6.inn l z)).length ≤ 400
theorem y3v {l : List R4} (hv : ∀ r ∈ l, z1a r = true) (hl : l.length ≤ 400) (h : (D4.out l).length ≤ 400) : Zr l = D4.out l ∧ Xt l = 0 := by
 have hv' : l.all z1a = true := List.all_eq_true.2 hv
 unfold Zr Xt
 rw [decide_eq_false (by omega), hv', decide_eq_false (by omega)]
 exact ⟨rfl, rfl⟩
theorem v4g {l : List R6} (hv : ∀ r ∈ l, Jk r = true) (hl : l.length ≤ 400) (hs : Secs l) : x8z.can (D6.out l) ∧ ∀ p, ptL x8z.inB (D6.out l) p ↔ ptL x8z.inB l p := by
 rw [Dim.out_goJ]
 have hq : ∀ z, y3m.can (D6.mak (D6.inn l z)) ∧ ∀ p, ptL y3m.inB (D6.mak (D6.inn l z)) p ↔ ptL y3m.inB (D6.inn l z) p := fun z => by
  show y3m.can (Zr (D6.inn l z)) ∧ ∀ p, ptL y3m.inB (Zr (D6.inn l z)) p ↔ _
  rw [(y3v (y1b hv z) (Nat.le_trans (D6.inn_length l z) hl) (hs z)).1]
  exact y3u (y1b hv z) (Nat.le_trans (D6.inn_length l z) hl)
 obtain ⟨h1, h2⟩ := Dim.goJ_can y1q y5s y3m l [] (fun s _ => D6.mak s) (fun x => (hq x).1) v5u
 refine ⟨h1, fun ⟨z, p⟩ => ?_⟩
 rw [show ptL x8z.inB _ (z, p) ↔ _ from h2 z p, (hq z).2, Dim.pt_inn]
 rfl
end Go.Am
namespace Go.Am
open Go.Proofs Go.Sort Go.Shelf Go.RowKit Go.Lib
def ind (a b t : Int) : Int := if a ≤ t ∧ t < b then 1 else 0
def Pts (p : List Int) : Prop := (∀ a b, -1000005 ≤ a ∧ b ≤ 1000005 → sm p (ind a b) = max 0 (b - a)) ∧ p.length = 2000010
def inR (r : R6) (x y z : Int) : Int := ind r.a r.d x * ind r.b r.e y * ind r.c r.f z
end Go.Am
namespace Go.Am
open Go.Proofs Go.Sort Go.Shelf Go.RowKit Go.Lib
theorem sm_pos {α : Type} {l : List α} {f : α → Int} (h : sm l f ≠ 0) : ∃ x ∈ l, f x ≠ 0 := Classical.byContradiction fun hn => h (by
 have : sm l f = sm l fun _ => 0 := w4y fun x hx => Classical.byContradiction fun e => hn ⟨x, hx, e⟩
 rw [this, v4h])
theorem x0k {p : List Int} (hp : Pts p) {t : Int} (h : -1000005 ≤ t ∧ t < 1000005) : t ∈ p := by
 have h1 := hp.1 t (t + 1) (by omega)
 have h2 : sm p (ind t (t + 1)) ≠ 0 := by rw [h1]; omega
 obtain ⟨x, hx, hn⟩ := sm_pos h2
 unfold ind at hn
 split at hn
 ·have : x = t := by omega
  rwa [← this]
 ·exact absurd rfl hn
def inS (X : List R6) (x y z : Int) : Prop := ∃ r ∈ X, (r.a ≤ x ∧ x < r.d) ∧ (r.b ≤ y ∧ y < r.e) ∧ (r.c ≤ z ∧ z < r.f)
theorem w2j (X : List R6) (x y z : Int) : inS X x y z ↔ ptL x8z.inB X (z, x, y) := by
 constructor
 ·rintro ⟨r, hr, h1, h2, h3⟩
  exact ⟨r, hr, h3.1, h3.2, h1.1, h1.2, h2.1, h2.2⟩
 ·rintro ⟨r, hr, h1, h2, h3, h4, h5, h6⟩
  exact ⟨r, hr, ⟨h3, h4⟩, ⟨h5, h6⟩, h1, h2⟩
structure Sol (X : List R6) : Prop where
 len : X.length ≤ 400
 val : ∀ r ∈ X, Jk r = true
 ap : X.Pairwise Ap6
theorem Sol.of {X : List R6} (h : Yx X = 0) : Sol X := ⟨(Uv h).1, (Uv h).2.1, (Uv h).2.2.2⟩
theorem Sol.bnd {X : List R6} (h : Sol X) {x y z : Int} (hp : inS X x y z) : (-1000000 ≤ x ∧ x < 1000000) ∧ (-1000000 ≤ y ∧ y < 1000000) ∧ (-1000000 ≤ z ∧ z < 1000000) := by
 obtain ⟨r, hr, h1, h2, h3⟩ := hp
 have := Xq (h.val r hr)
 omega
theorem Sol.pts {p : List Int} (hp : Pts p) {X : List R6} (h : Sol X) {x y z : Int} (hq : inS X x y z) : x ∈ p ∧ y ∈ p ∧ z ∈ p := by
 have := h.bnd hq
 exact ⟨x0k hp (by omega), x0k hp (by omega), x0k hp (by omega)⟩
end Go.Am
namespace Go.Am
open Go.Proofs Go.Sort Go.Shelf Go.RowKit Go.Lib
theorem Dim.goS_cg {α β : Type} (D : Dim α β) (f g : Int → List β) (cs : List Int) : ∀ (k i : Nat) (s : Sw α β), (∀ j, i ≤ j → j < i + k → f (rd cs j) = g (rd cs j)) → D.goS f cs k i s = D.goS g cs k i s
 | 0, i, s, _ => rfl
 | k + 1, i, s, h => by
  show D.goS f cs k (i + 1) (D.oneS (f (rd cs i)) _ _ s) = D.goS g cs k (i + 1) (D.oneS (g (rd cs i)) _ _ s)
  rw [h i (Nat.le_refl _) (by omega)]
  exact goS_cg D f g cs k (i + 1) _ fun j h1 h2 => h j (by omega) (by omega)
theorem y7v {n : Nat} (h : x2h n = 0) : n ≤ 400 := by
 unfold x2h at h
 by_cases q : (n : Int) > 400
 ·rw [decide_eq_true q] at h; cases h
 ·omega
theorem w0c {l : List R4} (h : Xt l = 0) : l.length ≤ 400 ∧ (∀ r ∈ l, z1a r = true) ∧ Zr l = D4.out l := by
 unfold Xt at h
 cases g1 : decide (400 < l.length) with
 | true => rw [g1] at h; cases h
 | false =>
  cases g2 : l.all z1a with
  | false => rw [g1, g2] at h; cases h
  | true =>
   rw [g1, g2, cond_false, cond_true] at h
   have hl : l.length ≤ 400 := by have := of_decide_eq_false g1; omega
   refine ⟨hl, List.all_eq_true.1 g2, ?_⟩
   exact (y3v (List.all_eq_true.1 g2) hl (y7v h)).1
theorem x3m {l : List R6} : ∀ (k i : Nat), okF l k i = true → ∀ j, i ≤ j → j < i + k → Xt (D6.inn l (rd (D6.cuts l) j)) = 0
 | 0, i, h, j, h1, h2 => by omega
 | k + 1, i, h, j, h1, h2 => by
  unfold okF at h
  rcases Zn (x8h l (rd (D6.cuts l) i)) with q | q
  ·rw [q] at h; cases h
  ·rw [q, cond_false] at h
   rcases Nat.eq_or_lt_of_le h1 with e | e
   ·rw [← e]
    unfold x8h at q
    simpa using q
   ·exact x3m k (i + 1) h j e (by omega)
theorem x3a {l : List R6} (h : Vp l = 0) : l.length ≤ 400 ∧ (∀ r ∈ l, Jk r = true) ∧ okF l ((D6.cuts l).length - 1) 0 = true ∧ (D6.out l).length ≤ 400 := by
 unfold Vp at h
 cases g1 : decide (400 < l.length) with
 | true => rw [g1] at h; cases h
 | false =>
  cases g2 : l.all Jk with
  | false => rw [g1, g2] at h; cases h
  | true =>
   rw [g1, g2, cond_false, cond_true] at h
   cases g3 : okF l ((D6.cuts l).length - 1) 0 with
   | false =>
    rw [g3, cond_false] at h
    have := w8t _ _ g3
    rw [h] at this; cases this
   | true =>
    rw [g3, cond_true] at h
    exact ⟨by have := of_decide_eq_false g1; omega, List.all_eq_true.1 g2, rfl, y7v h⟩
theorem x8x {l : List R6} (h : Vp l = 0) : Jz l = D6.out l := by
 unfold Jz v3b; rw [h]; rfl
theorem v4j {l : List R6} (h : Vp l = 0) : x8z.can (Jz l) ∧ ∀ x y z, inS (Jz l) x y z ↔ inS l x y z := by
 obtain ⟨hl, hv, hok, ho⟩ := x3a h
 have hf := x3m _ _ hok
 rw [x8x h]
 have hc : (D6.cuts l).Pairwise (· < ·) := by
  show (Ja (D6.ends l)).Pairwise (· < ·)
  rw [z0n]; exact (Xe _).1
 have eS : D6.out l = (D6.goS (fun x => bif Xt (D6.inn l x) != 0 then [] else Zr (D6.inn l x)) (D6.cuts l) ((D6.cuts l).length - 1) 0 ⟨[], [], 0, 0⟩).out := by
  unfold Dim.out
  rw [D6.go_goS, D6.goS_cg (D6.sec l) (fun x => bif Xt (D6.inn l x) != 0 then [] else Zr (D6.inn l x))]
  intro j h1 h2
  show _ = bif Xt (D6.inn l _) != 0 then _ else _
  rw [hf j h1 h2]; rfl
 have hs : ∀ x, y3m.can (bif Xt (D6.inn l x) != 0 then [] else Zr (D6.inn l x)) := fun x => by
  cases g : (Xt (D6.inn l x) != 0) with
  | true => exact y3m.nil
  | false =>
   obtain ⟨m1, m2, m3⟩ := w0c (show Xt (D6.inn l x) = 0 by simpa using g)
   rw [cond_false, m3]; exact (y3u m2 m1).1
 obtain ⟨h1, h2⟩ := Dim.goS_can y1q y5s y3m (cs := D6.cuts l) hc hs
 rw [eS]
 refine ⟨h1, fun x y z => ?_⟩
 rw [w2j, w2j, show ptL x8z.inB _ (z, x, y) ↔ _ from h2 z (x, y)]
 have ia : ∀ j, j + 1 < (D6.cuts l).length → rd (D6.cuts l) j ≤ z → z < rd (D6.cuts l) (j + 1) → (ptL y3m.inB (bif Xt (D6.inn l (rd (D6.cuts l) j)) != 0 then [] else Zr (D6.inn l (rd (D6.cuts l) j))) (x, y) ↔ ptL x8z.inB l (z, x, y)) := fun j j1 j2 j3 => by
  have q := hf j (Nat.zero_le _) (by omega)
  obtain ⟨m1, m2, m3⟩ := w0c q
  rw [q, show ((0 : Int) != 0) = false from rfl, cond_false, m3, (y3u m2 m1).2, Dim.inn_slab l l (fun r hr => hr) j1 j2 j3]
  exact Dim.pt_inn (D := D6) y3m.inB l z (x, y)
 constructor
 ·rintro ⟨j, j1, j2, j3, j4⟩
  exact (ia j j1 j2 j3).1 j4
 ·intro hp
  refine Classical.byContradiction fun hn => ?_
  have hx : ∀ j, j + 1 < (D6.cuts l).length → ¬ (rd (D6.cuts l) j ≤ z ∧ z < rd (D6.cuts l) (j + 1)) := fun j j1 j2 => hn ⟨j, j1, j2.1, j2.2, (ia j j1 j2.1 j2.2).2 hp⟩
  have g := (Dim.pt_inn (D := D6) y3m.inB l z (x, y)).2 hp
  rw [Dim.inn_out l l (fun r hr => hr) hx] at g
  exact y4a _ _ g
end Go.Am
namespace Go.Am
open Go.Proofs Go.Sort Go.Shelf Go.RowKit Go.Lib
instance ptDec (l : List R2) (y : Int) : Decidable (pt l y) := Classical.propDecidable _
end Go.Am
namespace Go.Am
open Go.Proofs
def pin (r : R6) (x y z : Int) : Prop := (r.a ≤ x ∧ x < r.d) ∧ (r.b ≤ y ∧ y < r.e) ∧ r.c ≤ z ∧ z < r.f
def nrp (r : R6) (D x y z : Int) : Prop := (r.a - D ≤ x ∧ x < r.d + D) ∧ (r.b - D ≤ y ∧ y < r.e + D) ∧ r.c - D ≤ z ∧ z < r.f + D
def bdd (r : R6) : Prop := (-1000000000 ≤ r.a ∧ r.a ≤ 1000000000) ∧ (-1000000000 ≤ r.b ∧ r.b ≤ 1000000000) ∧ (-1000000000 ≤ r.c ∧ r.c ≤ 1000000000) ∧ (-1000000000 ≤ r.d ∧ r.d ≤ 1000000000) ∧ (-1000000000 ≤ r.e ∧ r.e ≤ 1000000000) ∧ (-1000000000 ≤ r.f ∧ r.f ≤ 1000000000)
theorem Jg (x y : Int) : x ≤ Xv x y ∧ y ≤ Xv x y ∧ (Xv x y = x ∨ Xv x y = y) := by
 unfold Xv; split <;> omega
theorem Km (x y : Int) : Wa x y ≤ x ∧ Wa x y ≤ y ∧ (Wa x y = x ∨ Wa x y = y) := by
 unfold Wa; split <;> omega
theorem x1c {x y m : Int} : Xv x y ≤ m ↔ x ≤ m ∧ y ≤ m := by
 have := Jg x y; omega
theorem v6y {x y m : Int} : Wa x y ≤ m ↔ x ≤ m ∨ y ≤ m := by
 have := Km x y; omega
structure GA (G c B : R6) (D : Int) : Prop where
 ga : c.a - D ≤ G.a ∧ B.a ≤ G.a ∧ (G.a = c.a - D ∨ G.a = B.a)
 gb : c.b - D ≤ G.b ∧ B.b ≤ G.b ∧ (G.b = c.b - D ∨ G.b = B.b)
 gc : c.c - D ≤ G.c ∧ B.c ≤ G.c ∧ (G.c = c.c - D ∨ G.c = B.c)
 gd : G.d ≤ c.d + D ∧ G.d ≤ B.d ∧ (G.d = c.d + D ∨ G.d = B.d)
 ge : G.e ≤ c.e + D ∧ G.e ≤ B.e ∧ (G.e = c.e + D ∨ G.e = B.e)
 gf : G.f ≤ c.f + D ∧ G.f ≤ B.f ∧ (G.f = c.f + D ∨ G.f = B.f)
theorem v7b {c B : R6} {D : Int} (hc : bdd c) (hD : 0 ≤ D ∧ D ≤ 1000000000) : GA (gA D c B) c B D := by
 obtain ⟨h1, h2, h3, h4, h5, h6⟩ := hc
 refine ⟨?_, ?_, ?_, ?_, ?_, ?_⟩ <;> unfold gA <;> simp only <;> (rw [Zj (by omega)])
 ·exact Jg _ _
 ·exact Jg _ _
 ·exact Jg _ _
 ·exact Km _ _
 ·exact Km _ _
 ·exact Km _ _
theorem z2f {r : R6} : z4y r = false ↔ r.a < r.d ∧ r.b < r.e ∧ r.c < r.f := by
 unfold z4y
 simp only [Bool.or_eq_false_iff, decide_eq_false_iff_not]
 omega
theorem w8s {r : R6} (h : z4y r = true) {x y z : Int} : ¬ pin r x y z := fun ⟨p, q, s⟩ => by
 have : z4y r = false := z2f.2 (by omega)
 rw [h] at this; cases this
theorem z8z {D : Int} (hD : 0 ≤ D ∧ D ≤ 1000000000) : ∀ (l : List R6) (B : R6), bdd B → z4y B = false → (∀ c ∈ l, bdd c) → (covB D l B = true ↔ ∀ x y z, pin B x y z → ∃ c ∈ l, nrp c D x y z)
 | [], B, hB, hne, hl => by
  have h := z2f.1 hne
  constructor
  ·intro h; cases h
  ·intro k
   obtain ⟨c, hc, _⟩ := k B.a B.b B.c ⟨⟨Int.le_refl _, h.1⟩, ⟨Int.le_refl _, h.2.1⟩, Int.le_refl _, h.2.2⟩
   cases hc
 | c :: l, B, hB, hne, hl => by
  have hc := hl c (List.mem_cons_self ..)
  have hl' : ∀ c ∈ l, bdd c := fun c h => hl c (List.mem_cons_of_mem _ h)
  have G := v7b (B := B) hc hD
  have hcov : covB D (c :: l) B = bif z4y (gA D c B) then covB D l B else
   (z4y (v3g (gA D c B) B) || covB D l (v3g (gA D c B) B)) && ((z4y (v3f (gA D c B) B) || covB D l (v3f (gA D c B) B)) && ((z4y (w4o (gA D c B) B) || covB D l (w4o (gA D c B) B)) &&
   ((z4y (w4n (gA D c B) B) || covB D l (w4n (gA D c B) B)) && ((z4y (x8e (gA D c B) B) || covB D l (x8e (gA D c B) B)) && (z4y (x8d (gA D c B) B) || covB D l (x8d (gA D c B) B)))))) := rfl
  rw [hcov]
  generalize gA D c B = g at G
  obtain ⟨G1, G2, G3, G4, G5, G6⟩ := G
  have part : ∀ p, bdd p → ((z4y p || covB D l p) = true ↔ ∀ x y z, pin p x y z → ∃ c ∈ l, nrp c D x y z) := fun p hp => by
   cases he : z4y p with
   | true => exact ⟨fun _ x y z k => absurd k (w8s he), fun _ => rfl⟩
   | false => rw [Bool.false_or]; exact z8z hD l p hp he hl'
  cases he : z4y g with
  | true =>
   rw [cond_true, z8z hD l B hB hne hl']
   constructor
   ·intro k x y z hp
    obtain ⟨c', hc', q⟩ := k x y z hp
    exact ⟨c', List.mem_cons_of_mem _ hc', q⟩
   ·intro k x y z hp
    obtain ⟨c', hc', q⟩ := k x y z hp
    rcases List.mem_cons.1 hc' with rfl | hc'
    ·exfalso
     have : z4y g = false := z2f.2 (by obtain ⟨q1, q2, q3⟩ := q; obtain ⟨p1, p2, p3⟩ := hp; omega)
     rw [he] at this; cases this
    ·exact ⟨c', hc', q⟩
  | false =>
   have hg := z2f.1 he
   have hb := z2f.1 hne
   obtain ⟨b1, b2, b3, b4, b5, b6⟩ := hB
   rw [cond_false, Bool.and_eq_true, Bool.and_eq_true, Bool.and_eq_true, Bool.and_eq_true, Bool.and_eq_true]
   rw [part (v3g g B) (by unfold bdd v3g; simp only; omega), part (v3f g B) (by unfold bdd v3f; simp only; omega), part (w4o g B) (by unfold bdd w4o; simp only; omega), part (w4n g B) (by unfold bdd w4n; simp only; omega), part (x8e g B) (by unfold bdd x8e; simp only; omega), part (x8d g B) (by unfold bdd x8d; simp only; omega)]
   have out : ∀ {p : R6}, (∀ x y z, pin p x y z → pin B x y z ∧ ¬ nrp c D x y z) → (∀ x y z, pin B x y z → ∃ c' ∈ c :: l, nrp c' D x y z) → ∀ x y z, pin p x y z → ∃ c' ∈ l, nrp c' D x y z := fun h k x y z hp => by
    obtain ⟨h1, h2⟩ := h x y z hp
    obtain ⟨c', hc', q⟩ := k x y z h1
    rcases List.mem_cons.1 hc' with rfl | hc'
    ·exact absurd q h2
    ·exact ⟨c', hc', q⟩
   constructor
   ·intro ⟨k1, k2, k3, k4, k5, k6⟩ x y z ⟨⟨p1, p2⟩, ⟨p3, p4⟩, p5, p6⟩
    have up : (∃ c' ∈ l, nrp c' D x y z) → ∃ c' ∈ c :: l, nrp c' D x y z := fun ⟨c', h, q⟩ => ⟨c', List.mem_cons_of_mem _ h, q⟩
    by_cases q1 : x < g.a
    ·exact up (k1 x y z ⟨⟨p1, q1⟩, ⟨p3, p4⟩, p5, p6⟩)
    by_cases q2 : g.d ≤ x
    ·exact up (k2 x y z ⟨⟨q2, p2⟩, ⟨p3, p4⟩, p5, p6⟩)
    by_cases q3 : y < g.b
    ·exact up (k3 x y z ⟨⟨by simp only [w4o]; omega, by simp only [w4o]; omega⟩, ⟨p3, q3⟩, p5, p6⟩)
    by_cases q4 : g.e ≤ y
    ·exact up (k4 x y z ⟨⟨by simp only [w4n]; omega, by simp only [w4n]; omega⟩, ⟨q4, p4⟩, p5, p6⟩)
    by_cases q5 : z < g.c
    ·exact up (k5 x y z ⟨⟨by simp only [x8e]; omega, by simp only [x8e]; omega⟩, ⟨by simp only [x8e]; omega, by simp only [x8e]; omega⟩, p5, q5⟩)
    by_cases q6 : g.f ≤ z
    ·exact up (k6 x y z ⟨⟨by simp only [x8d]; omega, by simp only [x8d]; omega⟩, ⟨by simp only [x8d]; omega, by simp only [x8d]; omega⟩, q6, p6⟩)
    exact ⟨c, List.mem_cons_self .., by unfold nrp; omega⟩
   ·intro k
    refine ⟨out (fun x y z hp => ?_) k, out (fun x y z hp => ?_) k, out (fun x y z hp => ?_) k, out (fun x y z hp => ?_) k, out (fun x y z hp => ?_) k, out (fun x y z hp => ?_) k⟩ <;> (unfold pin at hp ⊢; unfold nrp) <;> simp only [v3g, v3f, w4o, w4n, x8e, x8d] at hp <;> omega
theorem z6c {r : R6} (hr : bdd r) {x y z D : Int} (hD : 0 ≤ D) (hx : -1000000000 ≤ x ∧ x ≤ 1000000000) (hy : -1000000000 ≤ y ∧ y ≤ 1000000000) (hz : -1000000000 ≤ z ∧ z ≤ 1000000000) : w8h x y z r ≤ D ↔ nrp r D x y z := by
 obtain ⟨h1, h2, h3, h4, h5, h6⟩ := hr
 unfold w8h nrp
 rw [Zj (n := r.a - x) (by omega), Zj (n := x - r.d) (by omega), Zj (n := x - r.d + 1) (by omega), Zj (n := r.b - y) (by omega), Zj (n := y - r.e) (by omega), Zj (n := y - r.e + 1) (by omega), Zj (n := r.c - z) (by omega), Zj (n := z - r.f) (by omega), Zj (n := z - r.f + 1) (by omega)]
 simp only [x1c]
 omega
theorem w2q {x y z m : Int} : ∀ (l : List R6) (d : Int), v3a x y z l d ≤ m ↔ d ≤ m ∨ ∃ c ∈ l, w8h x y z c ≤ m
 | [], d => by unfold v3a; simp
 | r :: l, d => by
  unfold v3a
  rw [w2q l, v6y]
  constructor
  ·rintro ((h | h) | ⟨c, hc, h⟩)
   ·exact .inl h
   ·exact .inr ⟨r, List.mem_cons_self .., h⟩
   ·exact .inr ⟨c, List.mem_cons_of_mem _ hc, h⟩
  ·rintro (h | ⟨c, hc, h⟩)
   ·exact .inl (.inl h)
   ·rcases List.mem_cons.1 hc with rfl | hc
    ·exact .inl (.inr h)
    ·exact .inr ⟨c, hc, h⟩
theorem z6b {x y z m : Int} {L : List R6} (hL : L ≠ []) : z8t x y z L ≤ m ↔ ∃ c ∈ L, w8h x y z c ≤ m := by
 cases L with
 | nil => exact absurd rfl hL
 | cons r l =>
  have e : z8t x y z (r :: l) = v3a x y z l (w8h x y z r) := rfl
  rw [e, w2q]
  constructor
  ·rintro (h | ⟨c, hc, h⟩)
   ·exact ⟨r, List.mem_cons_self .., h⟩
   ·exact ⟨c, List.mem_cons_of_mem _ hc, h⟩
  ·rintro ⟨c, hc, h⟩
   rcases List.mem_cons.1 hc with rfl | hc
   ·exact .inl h
   ·exact .inr ⟨c, hc, h⟩
theorem x3y {g : Int → Int → Int} {m : Int} {p : Int → Prop} (hg : ∀ z d, g z d ≤ m ↔ d ≤ m ∧ p z) : ∀ (n : Nat) (z d : Int), lpI g n z d ≤ m ↔ d ≤ m ∧ ∀ k, z ≤ k → k < z + n → p k
 | 0, z, d => by
  unfold lpI
  exact ⟨fun h => ⟨h, fun k h1 h2 => by omega⟩, fun h => h.1⟩
 | n + 1, z, d => by
  unfold lpI
  rw [x3y hg n, hg]
  constructor
  ·rintro ⟨⟨h1, h2⟩, h3⟩
   refine ⟨h1, fun k hk hk' => ?_⟩
   by_cases e : k = z
   ·subst e; exact h2
   ·exact h3 k (by omega) (by omega)
  ·rintro ⟨h1, h2⟩
   exact ⟨⟨h1, h2 z (Int.le_refl _) (by omega)⟩, fun k hk hk' => h2 k (by omega) (by omega)⟩
theorem rgX_le {L1 : List R6} {r : R6} {d m : Int} : rgX L1 r d ≤ m ↔ d ≤ m ∧ ∀ x y z, pin r x y z → z8t x y z L1 ≤ m := by
 have hz : ∀ x y d, rgZ L1 r x y d ≤ m ↔ d ≤ m ∧ ∀ z, r.c ≤ z → z < r.f → z8t x y z L1 ≤ m := fun x y d => by
  unfold rgZ
  rw [x3y (p := fun z => z8t x y z L1 ≤ m) (fun z d => x1c)]
  exact and_congr_right fun _ => ⟨fun h k h1 h2 => h k h1 (by omega), fun h k h1 h2 => h k h1 (by omega)⟩
 have hy : ∀ x d, rgY L1 r x d ≤ m ↔ d ≤ m ∧ ∀ y, r.b ≤ y → y < r.e → ∀ z, r.c ≤ z → z < r.f → z8t x y z L1 ≤ m := fun x d => by
  unfold rgY
  rw [x3y (p := fun y => ∀ z, r.c ≤ z → z < r.f → z8t x y z L1 ≤ m) (fun y d => hz x y d)]
  exact and_congr_right fun _ => ⟨fun h k h1 h2 => h k h1 (by omega), fun h k h1 h2 => h k h1 (by omega)⟩
 unfold rgX
 rw [x3y (p := fun x => ∀ y, r.b ≤ y → y < r.e → ∀ z, r.c ≤ z → z < r.f → z8t x y z L1 ≤ m) (fun x d => hy x d)]
 exact and_congr_right fun _ => ⟨fun h x y z ⟨p1, p2, p3⟩ => h x p1.1 (by omega) y p2.1 p2.2 z p3.1 p3.2, fun h x h1 h2 y h3 h4 z h5 h6 => h x y z ⟨⟨h1, by omega⟩, ⟨h3, h4⟩, h5, h6⟩⟩
theorem x9r {L1 : List R6} {m : Int} : ∀ (L0 : List R6) (d : Int), rrcF L1 L0 d ≤ m ↔ d ≤ m ∧ ∀ r ∈ L0, ∀ x y z, pin r x y z → z8t x y z L1 ≤ m
 | [], d => by
  unfold rrcF
  exact ⟨fun h => ⟨h, fun r hr => by cases hr⟩, fun h => h.1⟩
 | r :: l, d => by
  unfold rrcF
  rw [x9r l, rgX_le]
  constructor
  ·rintro ⟨⟨h1, h2⟩, h3⟩
   refine ⟨h1, fun q hq => ?_⟩
   rcases List.mem_cons.1 hq with rfl | hq
   ·exact h2
   ·exact h3 q hq
  ·rintro ⟨h1, h2⟩
   exact ⟨⟨h1, h2 r (List.mem_cons_self ..)⟩, fun q hq => h2 q (List.mem_cons_of_mem _ hq)⟩
theorem z9l {L0 L1 : List R6} {m : Int} : z8a L0 L1 ≤ m ↔ 0 ≤ m ∧ ∀ r ∈ L0, ∀ x y z, pin r x y z → z8t x y z L1 ≤ m := x9r L0 0
theorem Qk {r : R6} (h : Jk r = true) : bdd r := by
 obtain ⟨h1, h2, h3, h4, h5, h6, h7, h8, h9⟩ := Xq h
 unfold bdd; omega
theorem v0c {r : R6} (h : Jk r = true) : z4y r = false := by
 obtain ⟨h1, h2, h3, _⟩ := Xq h
 exact z2f.2 ⟨h1, h2, h3⟩
theorem w9q {L0 L1 : List R6} (h0 : ∀ r ∈ L0, Jk r = true) (h1 : ∀ r ∈ L1, Jk r = true) (hne : L0 = [] ∨ L1 ≠ []) {d : Int} (hd : 0 ≤ d ∧ d ≤ 1000000000) : v3p L1 d L0 = true ↔ z8a L0 L1 ≤ d := by
 rw [z9l]
 unfold v3p
 rw [List.all_eq_true]
 constructor
 ·intro h
  refine ⟨hd.1, fun r hr x y z hp => ?_⟩
  have hL : L1 ≠ [] := by
   rcases hne with e | e
   ·subst e; cases hr
   ·exact e
  obtain ⟨c, hc, q⟩ := (z8z hd L1 r (Qk (h0 r hr)) (v0c (h0 r hr)) fun c hc => Qk (h1 c hc)).1 (h r hr) x y z hp
  obtain ⟨v1, v2, v3, v4, v5, v6, v7, v8, v9⟩ := Xq (h0 r hr)
  obtain ⟨p1, p2, p3⟩ := hp
  exact (z6b hL).2 ⟨c, hc, (z6c (Qk (h1 c hc)) hd.1 (by omega) (by omega) (by omega)).2 q⟩
 ·rintro ⟨_, h⟩ r hr
  refine (z8z hd L1 ⟨r.a, r.b, r.c, r.d, r.e, r.f⟩ (Qk (h0 r hr)) (v0c (h0 r hr)) fun c hc => Qk (h1 c hc)).2 fun x y z hp => ?_
  have hL : L1 ≠ [] := by
   rcases hne with e | e
   ·subst e; cases hr
   ·exact e
  obtain ⟨c, hc, q⟩ := (z6b hL).1 (h r hr x y z hp)
  obtain ⟨v1, v2, v3, v4, v5, v6, v7, v8, v9⟩ := Xq (h0 r hr)
  obtain ⟨p1, p2, p3⟩ := hp
  simp only at p1 p2 p3
  exact ⟨c, hc, (z6c (Qk (h1 c hc)) hd.1 (by omega) (by omega) (by omega)).1 q⟩
theorem z9k {L0 L1 : List R6} (h0 : ∀ r ∈ L0, Jk r = true) (h1 : ∀ r ∈ L1, Jk r = true) (hne : L0 = [] ∨ L1 ≠ []) : 0 ≤ z8a L0 L1 ∧ z8a L0 L1 ≤ 1999999 := by
 refine ⟨(z9l.1 (Int.le_refl _)).1, z9l.2 ⟨by omega, fun r hr x y z hp => ?_⟩⟩
 have hL : L1 ≠ [] := by
  rcases hne with e | e
  ·subst e; cases hr
  ·exact e
 obtain ⟨c, hc⟩ := List.exists_mem_of_ne_nil L1 hL
 obtain ⟨v1, v2, v3, v4, v5, v6, v7, v8, v9⟩ := Xq (h0 r hr)
 obtain ⟨w1, w2, w3, w4, w5, w6, w7, w8, w9⟩ := Xq (h1 c hc)
 obtain ⟨p1, p2, p3⟩ := hp
 refine (z6b hL).2 ⟨c, hc, (z6c (Qk (h1 c hc)) (by omega) (by omega) (by omega) (by omega)).2 ?_⟩
 unfold nrp; omega
theorem y9b {F : Int → Bool} {R : Int} (hF : ∀ d, 0 ≤ d → d < 2000000 → (F d = true ↔ R ≤ d)) : ∀ (n : Nat) (i j : Int), 0 ≤ i → i ≤ R → R ≤ j → j ≤ 2000000 → j - i < 2 ^ n → w4h F n i j = R
 | 0, i, j, h1, h2, h3, h4, h5 => by unfold w4h; simp at h5; omega
 | n + 1, i, j, h1, h2, h3, h4, h5 => by
  have hp : (2 : Int) ^ (n + 1) = 2 * 2 ^ n := by rw [Int.pow_succ, Int.mul_comm]
  rw [hp] at h5
  generalize hP : (2 : Int) ^ n = p at h5
  unfold w4h
  by_cases hlt : i < j
  ·rw [Yv hlt, cond_true]
   rcases Zn (F ((i + j) / 2)) with q | q
   ·rw [q, cond_true]
    have := (hF ((i + j) / 2) (by omega) (by omega)).1 q
    exact y9b hF n i _ h1 h2 this (by omega) (by rw [hP]; omega)
   ·rw [q, cond_false]
    have : ¬ R ≤ (i + j) / 2 := fun e => by rw [(hF _ (by omega) (by omega)).2 e] at q; cases q
    exact y9b hF n _ j (by omega) (by omega) h3 h4 (by rw [hP]; omega)
  ·rw [Zs hlt, cond_false]; omega
theorem v1z {L0 L1 : List R6} (h0 : ∀ r ∈ L0, Jk r = true) (h1 : ∀ r ∈ L1, Jk r = true) (hne : L0 = [] ∨ L1 ≠ []) : y8o L0 L1 = z8a L0 L1 := by
 obtain ⟨m1, m2⟩ := z9k h0 h1 hne
 exact y9b (fun d hd hd' => w9q h0 h1 hne ⟨hd, by omega⟩) 22 0 2000000 (Int.le_refl _) m1 (by omega) (Int.le_refl _) (by decide)
end Go.Am
namespace Go.Am
open Go.Proofs Go.Sort Go.Shelf Go.RowKit Go.Lib
def v3s (n t : Int) : Prop := ∃ k, t = k * n
theorem z1j {n s t : Int} (hn : 1 ≤ n) (hs : v3s n s) (ht : v3s n t) (h : s < t + n) : s ≤ t := by
 obtain ⟨k, rfl⟩ := hs
 obtain ⟨j, rfl⟩ := ht
 have e : j * n + n = (j + 1) * n := by rw [Int.add_mul, Int.one_mul]
 rw [e] at h
 have := Int.lt_of_mul_lt_mul_right h (by omega)
 exact Int.mul_le_mul_of_nonneg_right (by omega) (by omega)
theorem Jo {x n : Int} (hn : 1 ≤ n ∧ n ≤ 1000) (hx : -2000000 ≤ x ∧ x ≤ 2000000) : v3s n (Wx x n) ∧ Wx x n ≤ x ∧ x < Wx x n + n := by
 have h1 : n * Int.tdiv x n + Int.tmod x n = x := Int.mul_tdiv_add_tmod x n
 have h2 : Int.tdiv x n * n = x - Int.tmod x n := by rw [Int.mul_comm]; omega
 have h3 : -n < Int.tmod x n ∧ Int.tmod x n < n ∧ (0 ≤ x → 0 ≤ Int.tmod x n) ∧ (x ≤ 0 → Int.tmod x n ≤ 0) := by
  refine ⟨?_, Int.tmod_lt_of_pos x (by omega), fun h => Int.tmod_nonneg n h, fun h => ?_⟩
  ·have := Int.lt_tmod_of_pos x (show 0 < n by omega); omega
  ·have := Int.tmod_nonneg n (show 0 ≤ -x by omega)
   rw [Int.neg_tmod] at this; omega
 have h4 : -2000000 ≤ Int.tdiv x n ∧ Int.tdiv x n ≤ 2000000 := by
  generalize Int.tdiv x n = q at h2
  generalize Int.tmod x n = m at h2 h3
  rcases Int.lt_trichotomy q 0 with hq | hq | hq
  ·have : q * n ≤ q * 1 := Int.mul_le_mul_of_nonpos_left (by omega) (by omega)
   omega
  ·omega
  ·have : q * 1 ≤ q * n := Int.mul_le_mul_of_nonneg_left (by omega) (by omega)
   omega
 have h5 : (Int.tdiv x n - 1) * n = x - Int.tmod x n - n := by rw [Int.sub_mul, Int.one_mul, h2]
 unfold Wx
 rw [Zj (n := Int.tdiv x n) (by omega), Zj (n := Int.tdiv x n * n) (by omega), Zj (n := Int.tdiv x n - 1) (by omega), Zj (n := (Int.tdiv x n - 1) * n) (by omega)]
 by_cases h : Int.tdiv x n * n > x
 ·rw [Yn h, cond_true]
  exact ⟨⟨_, rfl⟩, by omega, by omega⟩
 ·rw [Yo h, cond_false]
  exact ⟨⟨_, rfl⟩, by omega, by omega⟩
theorem z3a {x n : Int} (hn : 1 ≤ n ∧ n ≤ 1000) (hx : -1900000 ≤ x ∧ x ≤ 1900000) : v3s n (upV x n) ∧ x ≤ upV x n ∧ upV x n < x + n := by
 unfold upV
 rw [Zj (n := 0 - x) (by omega)]
 obtain ⟨⟨k, hk⟩, h1, h2⟩ := Jo (x := 0 - x) hn (by omega)
 rw [Zj (n := 0 - Wx (0 - x) n) (by omega)]
 exact ⟨⟨-k, by rw [Int.neg_mul, ← hk]; omega⟩, by omega, by omega⟩
def nrR (r : R6) : Prop := (-900000 ≤ r.a ∧ r.d ≤ 900000) ∧ (-900000 ≤ r.b ∧ r.e ≤ 900000) ∧ -900000 ≤ r.c ∧ r.f ≤ 900000
structure Sml (L : List R6) : Prop where
 sol : Sol L
 nr : ∀ r ∈ L, nrR r
section
variable {lo hi : R6 → Int} {n : Int} {L : List R6} (hn : 1 ≤ n ∧ n ≤ 1000) (hb : ∀ r ∈ L, (-900000 ≤ lo r ∧ lo r ≤ 900000) ∧ -900000 ≤ hi r ∧ hi r ≤ 900000)
end
theorem Sml.bb {L : List R6} (h : Sml L) : ∀ r ∈ L, (-900000 ≤ R6.b r ∧ R6.b r ≤ 900000) ∧ -900000 ≤ R6.e r ∧ R6.e r ≤ 900000 := fun r hr => by
 have := Xq (h.sol.val r hr)
 obtain ⟨h1, h2, h3⟩ := h.nr r hr; omega
end Go.Am
namespace Go.Am
open Go.Proofs Go.Sort Go.Shelf Go.RowKit Go.Lib
def cel (n y : Int) : Int := y / n * n
theorem x4r {n : Int} (hn : 1 ≤ n) (y : Int) : v3s n (cel n y) ∧ cel n y ≤ y ∧ y < cel n y + n := by
 have h1 := Int.mul_ediv_add_emod y n
 have h2 := Int.emod_nonneg y (show n ≠ 0 by omega)
 have h3 := Int.emod_lt_of_pos y (show 0 < n by omega)
 have h4 : cel n y = n * (y / n) := by unfold cel; rw [Int.mul_comm]
 exact ⟨⟨_, rfl⟩, by omega, by omega⟩
theorem v8y {n y : Int} (hn : 1 ≤ n ∧ n ≤ 1000) (hy : -2000000 ≤ y ∧ y ≤ 2000000) : Wx y n = cel n y := by
 obtain ⟨m1, h1, h2⟩ := Jo hn hy
 obtain ⟨m2, h3, h4⟩ := x4r hn.1 y
 have := z1j hn.1 m1 m2 (by omega)
 have := z1j hn.1 m2 m1 (by omega)
 omega
end Go.Am
namespace Go.Am
open Go.Proofs Go.Sort Go.Shelf Go.RowKit Go.Lib
namespace Dim
variable {α β : Type} {D : Dim α β}
theorem v6x (hD : D.Fair) (s : List β) (a b x : Int) : D.inn (s.map (D.put a b)) x = if a ≤ x ∧ x < b then s else [] := by
 unfold inn
 have e : (s.map (D.put a b)).filter (fun r => decide (D.lo r ≤ x) && decide (x < D.hi r)) = if a ≤ x ∧ x < b then s.map (D.put a b) else [] := by
  split
  ·rename_i h
   refine List.filter_eq_self.2 fun r hr => ?_
   obtain ⟨c, _, rfl⟩ := List.mem_map.1 hr
   rw [hD.lo_put, hD.hi_put, decide_eq_true h.1, decide_eq_true h.2]; rfl
  ·rename_i h
   refine List.filter_eq_nil_iff.2 fun r hr hq => h ?_
   obtain ⟨c, _, rfl⟩ := List.mem_map.1 hr
   rw [hD.lo_put, hD.hi_put, Bool.and_eq_true] at hq
   exact ⟨of_decide_eq_true hq.1, of_decide_eq_true hq.2⟩
 rw [e]
 split
 ·rw [List.map_map]
  exact (List.map_congr_left fun c _ => hD.pr_put a b c).trans (List.map_id _)
 ·rfl
theorem inn_can (hD : D.Fair) {γ : Type} (M : Sem β γ) (x : Int) : ∀ G : List (Qg β), z0z M G → M.can (D.inn (D.flat G) x)
 | [], _ => M.nil
 | g :: r, h => by
  rw [show D.flat (g :: r) = g.s.map (D.put g.a g.b) ++ D.flat r from rfl, D.inn_append, v6x hD]
  split
  ·rename_i hx
   have e : D.inn (D.flat r) x = [] := by
    unfold inn
    rw [List.map_eq_nil_iff, List.filter_eq_nil_iff]
    intro a ha hq
    obtain ⟨k, hk, ha⟩ := List.mem_flatMap.1 ha
    obtain ⟨c, _, rfl⟩ := List.mem_map.1 ha
    rw [hD.lo_put, Bool.and_eq_true] at hq
    have h1 := of_decide_eq_true hq.1
    have := h.later k hk
    omega
   rw [e, List.append_nil]
   exact h.head.2.1
  ·rw [List.nil_append]
   exact inn_can hD M x r h.tail
end Dim
theorem w5f {L : List R6} (hl : L.length ≤ 400) (hv : ∀ r ∈ L, Jk r = true) (hc : x8z.can L) : Yx L = 0 := by
 have hi : ∀ z, D4.out (D6.inn L z) = D6.inn L z := fun z => by
  obtain ⟨h1, h2⟩ := y3u (y1b hv z) (Nat.le_trans (D6.inn_length L z) hl)
  obtain ⟨G, hG, e⟩ := hc
  exact y3m.uniq _ _ h1 (by rw [e]; exact Dim.inn_can y1q y3m z G hG) h2
 have hs : Secs L := fun z => by rw [hi z]; exact Nat.le_trans (D6.inn_length L z) hl
 obtain ⟨h1, h2⟩ := v4g hv hl hs
 have e := x8z.uniq _ _ h1 hc h2
 have ok : ∀ k i, okF L k i = true := fun k => by
  induction k with
  | zero => intro i; rfl
  | succ k ih =>
   intro i
   show (bif Xt (D6.inn L (rd (D6.cuts L) i)) != 0 then false else okF L k (i + 1)) = true
   rw [(y3v (y1b hv _) (Nat.le_trans (D6.inn_length L _) hl) (hs _)).2]
   exact ih (i + 1)
 unfold Yx
 rw [decide_eq_false (by omega), List.all_eq_true.2 hv, ok, e, decide_eq_false (by omega), show Jy L L = true from decide_eq_true rfl]
 rfl
theorem v9e {L : List R6} (hc : x8z.can L) (hb : ∀ x y z, inS L x y z → (-1000000 ≤ x ∧ x < 1000000) ∧ (-1000000 ≤ y ∧ y < 1000000) ∧ (-1000000 ≤ z ∧ z < 1000000)) : ∀ r ∈ L, Jk r = true := fun r hr => by
 have hp : r.a < r.d ∧ r.b < r.e ∧ r.c < r.f := by
  obtain ⟨G, hG, e⟩ := hc
  rw [e] at hr
  obtain ⟨g, hg, hr⟩ := List.mem_flatMap.1 hr
  obtain ⟨b, hb, rfl⟩ := List.mem_map.1 hr
  obtain ⟨h1, ⟨H, hH, e2⟩, _⟩ := hG.all g hg
  rw [e2] at hb
  obtain ⟨k, hk, hb⟩ := List.mem_flatMap.1 hb
  obtain ⟨c, hc, rfl⟩ := List.mem_map.1 hb
  obtain ⟨h2, h3, _⟩ := hH.all k hk
  exact ⟨h2, Can.pos h3 c hc, h1⟩
 have h1 := hb r.a r.b r.c ⟨r, hr, by omega, by omega, by omega⟩
 have h2 := hb (r.d - 1) (r.e - 1) (r.f - 1) ⟨r, hr, by omega, by omega, by omega⟩
 rw [y5m]
 simp only [y8x, Bool.and_eq_true, decide_eq_true_eq]
 omega
end Go.Am
namespace Go.Am
open Go.Proofs Go.Sort Go.Shelf Go.RowKit Go.Lib
theorem v7h {n x : Int} (hn : 1 ≤ n ∧ n ≤ 1000) (hx : -2000000 ≤ x ∧ x ≤ 2000000) : We x n = cel n x := by
 have h1 : n * Int.tdiv x n + Int.tmod x n = x := Int.mul_tdiv_add_tmod x n
 have h2 : Int.tdiv x n * n = x - Int.tmod x n := by rw [Int.mul_comm]; omega
 have h3 : -n < Int.tmod x n ∧ Int.tmod x n < n := ⟨by have := Int.lt_tmod_of_pos x (show 0 < n by omega); omega, Int.tmod_lt_of_pos x (by omega)⟩
 have h5 : (Int.tdiv x n - 1) * n = x - Int.tmod x n - n := by rw [Int.sub_mul, Int.one_mul, h2]
 obtain ⟨m2, c1, c2⟩ := x4r hn.1 x
 unfold We
 by_cases h : Int.tmod x n < 0
 ·rw [Yv h, cond_true, Zj (n := Int.tmod x n + n) (by omega), Zj (by omega)]
  have m1 : v3s n (x - (Int.tmod x n + n)) := ⟨Int.tdiv x n - 1, by omega⟩
  have := z1j hn.1 m1 m2 (by omega)
  have := z1j hn.1 m2 m1 (by omega)
  omega
 ·rw [Zs h, cond_false, Zj (by omega)]
  have m1 : v3s n (x - Int.tmod x n) := ⟨Int.tdiv x n, by omega⟩
  have := z1j hn.1 m1 m2 (by omega)
  have := z1j hn.1 m2 m1 (by omega)
  omega
theorem w3m (n : Nat) : x2h n = 0 ∨ x2h n = 4 := by
 unfold x2h
 cases decide ((n : Int) > 400)
 ·exact .inl rfl
 ·exact .inr rfl
theorem slm_04 {M : List R6} (hl : M.length ≤ 400) (hv : ∀ r ∈ M, Jk r = true) : Vp M = 0 ∨ Vp M = 4 := by
 have one : ∀ x, Xt (D6.inn M x) = 0 ∨ Xt (D6.inn M x) = 4 := fun x => by
  have h1 := D6.inn_length M x
  unfold Xt
  rw [decide_eq_false (by omega), List.all_eq_true.2 (y1b hv x), cond_false, cond_true]
  exact w3m _
 have all : ∀ k i, eF M k i = 0 ∨ eF M k i = 4 := fun k => by
  induction k with
  | zero => exact fun _ => .inl rfl
  | succ k ih =>
   intro i
   unfold eF
   cases x8h M (rd (D6.cuts M) i)
   ·exact ih (i + 1)
   ·exact one _
 unfold Vp
 rw [decide_eq_false (by omega), List.all_eq_true.2 hv, cond_false, cond_true]
 cases okF M ((D6.cuts M).length - 1) 0
 ·exact all _ _
 ·exact w3m _
theorem xs_sw (l : List R4) : xsV [] l = xsV l [] := by
 unfold xsV
 rw [show z0a ([] : List R4) = [] from rfl, List.nil_append, List.append_nil]
theorem ys_sw (l : List R4) : ysV [] l = ysV l [] := by
 unfold ysV
 rw [show Qa ([] : List R4) = [] from rfl, List.nil_append, List.append_nil]
theorem sec_sw (l : List R4) (x : Int) : y5q 2 [] l x = y5q 2 l [] x := by
 unfold y5q
 rw [ys_sw]
 congr 1
 exact List.map_congr_left fun y _ => by
  unfold w4p Kg
  show (has4V [] x y || has4V l x y) = (has4V l x y || has4V [] x y)
  exact Bool.or_comm _ _
theorem v6u (l : List R4) : ∀ (k i : Nat) (out : List R4) (last : List R2) (first : Nat), jF 2 [] l k i out last first = jF 2 l [] k i out last first
 | 0, _, _, _, _ => rfl
 | k + 1, i, out, last, first => by
  unfold jF
  rw [xs_sw, sec_sw, v6u l k, v6u l k]
theorem jo_sw (l : List R4) : joV 2 [] l = joV 2 l [] := by
 unfold joV
 rw [xs_sw, v6u]
theorem v3i (l : List R6) : Ye [] l = Ye l [] := by
 unfold Ye
 rw [show Qt ([] : List R6) = [] from rfl, List.nil_append, List.append_nil]
theorem v3o (z : Int) : atV ([] : List R6) z = [] := rfl
theorem x9a (l : List R6) (z : Int) : y1u 2 [] l z = y1u 2 l [] z := by
 unfold y1u
 rw [v3o]
 exact jo_sw _
theorem v6o (l : List R6) (z : Int) : z3m 2 [] l z = z3m 2 l [] z := by
 unfold z3m
 rw [x9a, v3o]
 congr 1
 exact Bool.or_comm _ _
theorem w2d (l : List R6) : ∀ (k i : Nat) (out : List R6) (last : List R4) (first : Nat), jsF 2 [] l k i out last first = jsF 2 l [] k i out last first
 | 0, _, _, _, _ => rfl
 | k + 1, i, out, last, first => by
  unfold jsF
  rw [v3i, v6o, x9a, w2d l k, w2d l k]
theorem jsO_sw (l : List R6) : jsO 2 [] l = jsO 2 l [] := by
 unfold jsO
 rw [v3i, w2d]
theorem js_sw (l : List R6) : Ue 2 [] l = Ue 2 l [] ∧ Qp 2 [] l = Qp 2 l [] := by
 unfold Ue Qp
 rw [jsO_sw]
 exact ⟨rfl, rfl⟩
theorem slm_js {M : List R6} (hl : M.length ≤ 400) (hv : ∀ r ∈ M, Jk r = true) : Vp M = (bif Qp 2 M [] then 0 else 4) ∧ Jz M = (bif Qp 2 M [] then Ue 2 M [] else []) := by
 have hv' := List.all_eq_true.2 hv
 have hj := v2u M hv' hl
 have h4 := slm_04 hl hv
 unfold Qp Ue
 rw [hj]
 rcases Zn (okF M ((D6.cuts M).length - 1) 0) with q | q
 ·have e : Vp M = x2h (D6.out M).length := by
   unfold Vp
   rw [decide_eq_false (by omega), hv', q]; rfl
  unfold Jz
  rw [q, e]
  show x2h _ = (bif decide (((D6.out M).length : Int) ≤ 400) then (0 : Int) else 4) ∧ v3b (x2h _) _ = (bif decide (((D6.out M).length : Int) ≤ 400) then D6.out M else [])
  unfold x2h
  by_cases h : ((D6.out M).length : Int) > 400
  ·rw [Yn h, decide_eq_false (by omega)]; exact ⟨rfl, rfl⟩
  ·rw [Yo h, decide_eq_true (by omega)]; exact ⟨rfl, rfl⟩
 ·have e : Vp M = eF M ((D6.cuts M).length - 1) 0 := by
   unfold Vp
   rw [decide_eq_false (by omega), hv', q]; rfl
  have hne := w8t _ _ q
  rw [← e] at hne
  have e4 : Vp M = 4 := by
   rcases h4 with h | h
   ·rw [h] at hne; cases hne
   ·exact h
  unfold Jz
  rw [q, e4]
  exact ⟨rfl, rfl⟩
theorem y4n {n x : Int} (hn : 1 ≤ n ∧ n ≤ 1000) (hx : -2000000 ≤ x ∧ x ≤ 2000000) : We x n = Wx x n := by rw [v7h hn hx, v8y hn hx]
theorem w2r {n d : Int} (hn : 1 ≤ n ∧ n ≤ 1000) (hd : -1000000 ≤ d ∧ d ≤ 1000000) : IntKind.wrap .i64 (We (IntKind.wrap .i64 (d - 1)) n + n) = upV d n := by
 rw [Zj (n := d - 1) (by omega), y4n hn (by omega)]
 obtain ⟨⟨i, m1⟩, h1, h2⟩ := Jo (x := d - 1) hn (by omega)
 obtain ⟨m2, h3, h4⟩ := z3a (x := d) hn (by omega)
 rw [Zj (n := Wx (d - 1) n + n) (by omega)]
 have m3 : v3s n (Wx (d - 1) n + n) := ⟨i + 1, by rw [Int.add_mul, Int.one_mul, ← m1]⟩
 have := z1j hn.1 m2 m3 (by omega)
 have := z1j hn.1 m3 m2 (by omega)
 omega
theorem v6b {n : Int} (hn : 1 ≤ n ∧ n ≤ 1000) {r : R6} (h : Jk r = true) : rB n r = oB n r := by
 have v := Xq h
 unfold rB oB
 rw [y4n hn (by omega), y4n hn (by omega), y4n hn (by omega), w2r hn (by omega), w2r hn (by omega), w2r hn (by omega)]
theorem oB_val {n : Int} (hn : 1 ≤ n ∧ n ≤ 1000) {r : R6} (h : Jk r = true) (ho : oOk n r = true) : Jk (oB n r) = true := by
 have v := Xq h
 obtain ⟨_, a1, a2⟩ := Jo (x := r.a) hn (by omega)
 obtain ⟨_, b1, b2⟩ := Jo (x := r.b) hn (by omega)
 obtain ⟨_, c1, c2⟩ := Jo (x := r.c) hn (by omega)
 obtain ⟨_, d1, d2⟩ := z3a (x := r.d) hn (by omega)
 obtain ⟨_, e1, e2⟩ := z3a (x := r.e) hn (by omega)
 obtain ⟨_, f1, f2⟩ := z3a (x := r.f) hn (by omega)
 simp only [oOk, Bool.and_eq_true, Bool.not_eq_true', decide_eq_false_iff_not] at ho
 obtain ⟨o1, o2⟩ := ho
 have i1 := Km (Wx r.a n) (Wx r.b n)
 have i2 := Km (Wa (Wx r.a n) (Wx r.b n)) (Wx r.c n)
 have i3 := Jg (upV r.d n) (upV r.e n)
 have i4 := Jg (Xv (upV r.d n) (upV r.e n)) (upV r.f n)
 rw [y5m]
 unfold oB y8x
 dsimp only
 simp only [Bool.and_eq_true, decide_eq_true_eq]
 have j1 : -1000000 ≤ Wx r.a n ∧ -1000000 ≤ Wx r.b n ∧ -1000000 ≤ Wx r.c n := by omega
 have j2 : upV r.d n ≤ 1000000 ∧ upV r.e n ≤ 1000000 ∧ upV r.f n ≤ 1000000 := by omega
 (repeat' apply And.intro) <;> omega
theorem v1h (L : List R6) (n : Int) : z2q L n = z1h L n ∧ Kv L n = Jp L n := by
 unfold z2q Kv rouP z1h Jp v6j
 rw [← z2j L]
 have hk : (Yx L != 0) = !(Yx L == 0) := rfl
 rw [hk]
 rcases Zn (Yx L == 0) with a | a
 ·by_cases b : n < 1
  ·rw [a, decide_eq_true b]; exact ⟨rfl, rfl⟩
  by_cases c : n > 1000
  ·rw [a, decide_eq_true c, decide_eq_false b]; exact ⟨rfl, rfl⟩
  have hn : 1 ≤ n ∧ n ≤ 1000 := by omega
  have hs := Uv (eq_of_beq a)
  have hm : L.map (rB n) = L.map (oB n) := List.map_congr_left fun r hr => v6b hn (hs.2.1 r hr)
  have ho : (L.all fun r => bOk (rB n r)) = L.all (oOk n) := by
   rw [Bool.eq_iff_iff, List.all_eq_true, List.all_eq_true]
   constructor
   ·intro h r hr; have := h r hr; rw [v6b hn (hs.2.1 r hr)] at this; exact this
   ·intro h r hr; rw [v6b hn (hs.2.1 r hr)]; exact h r hr
  rw [a, decide_eq_false b, decide_eq_false c, hm, ho]
  rcases Zn (L.all (oOk n)) with o | o
  ·obtain ⟨j1, j2⟩ := slm_js (M := L.map (oB n)) (by rw [List.length_map]; exact hs.1) (fun r hr => by
    obtain ⟨s, hs', rfl⟩ := List.mem_map.1 hr
    exact oB_val hn (hs.2.1 s hs') (List.all_eq_true.1 o s hs'))
   obtain ⟨s1, s2⟩ := js_sw (L.map (oB n))
   rw [o, s1, s2, j1, j2]
   cases Qp 2 (L.map (oB n)) [] <;> exact ⟨rfl, rfl⟩
  ·rw [o]; exact ⟨rfl, rfl⟩
 ·rw [a]; exact ⟨rfl, rfl⟩
theorem w3h {k : Int} (hk : 0 ≤ k ∧ k ≤ 9) : dbl k.toNat 1 = w4k k ∧ 1 ≤ w4k k ∧ w4k k ≤ 1000 := by
 have : k = 0 ∨ k = 1 ∨ k = 2 ∨ k = 3 ∨ k = 4 ∨ k = 5 ∨ k = 6 ∨ k = 7 ∨ k = 8 ∨ k = 9 := by omega
 rcases this with rfl | rfl | rfl | rfl | rfl | rfl | rfl | rfl | rfl | rfl <;> decide
theorem v1e (L : List R6) (k : Int) : Qc L k = Jv L k ∧ Vy L k = Xh L k := by
 unfold Qc Vy rpkP Jv Xh v6h
 rw [← z2j L]
 by_cases a : k < 0
 ·rw [decide_eq_true a]; cases (Yx L == 0) <;> exact ⟨rfl, rfl⟩
 by_cases b : k > 9
 ·rw [decide_eq_true b]; cases (Yx L == 0) <;> cases decide (k < 0) <;> exact ⟨rfl, rfl⟩
 rw [(w3h ⟨by omega, by omega⟩).1, (v1h L (w4k k)).1, (v1h L (w4k k)).2]
 exact ⟨rfl, rfl⟩
theorem w1w : ∀ (n : Nat) (c x : Int), x ∈ cUp n c ↔ c ≤ x ∧ x < c + n
 | 0, c, x => by simp only [cUp, List.not_mem_nil, false_iff]; omega
 | n + 1, c, x => by
  rw [cUp, List.mem_cons, w1w n]; omega
theorem Ji {lo hi p q x : Int} (hh : -1000000000 ≤ hi ∧ hi ≤ 1000000000) : x ∈ w4j lo hi p q ↔ x = lo ∨ x = hi - 1 ∨ (lo ≤ x ∧ x < hi) ∧ p ≤ x ∧ x < q := by
 have i1 := Km hi q
 have i2 := Jg lo p
 unfold w4j
 rw [Zj (n := hi - 1) (by omega), List.mem_append, w1w]
 simp only [List.mem_cons, List.not_mem_nil, or_false]
 omega
theorem w3q {lo hi p q x : Int} (hh : -1000000000 ≤ hi ∧ hi ≤ 1000000000) (hx : lo ≤ x ∧ x < hi) : ∃ x', x' ∈ w4j lo hi p q ∧ ∀ a d D : Int, p ≤ a → d ≤ q → a < d → 0 ≤ D → (a - D ≤ x' ∧ x' < d + D) → (a - D ≤ x ∧ x < d + D) := by
 by_cases h1 : x < p
 ·exact ⟨lo, (Ji hh).2 (.inl rfl), fun a d D _ _ _ _ h => by omega⟩
 by_cases h2 : q ≤ x
 ·exact ⟨hi - 1, (Ji hh).2 (.inr (.inl rfl)), fun a d D _ _ _ _ h => by omega⟩
 ·exact ⟨x, (Ji hh).2 (.inr (.inr ⟨hx, by omega, by omega⟩)), fun a d D _ _ _ _ h => h⟩
theorem x3x {g : Int → Int → Int} {m : Int} {p : Int → Prop} (hg : ∀ z d, g z d ≤ m ↔ d ≤ m ∧ p z) : ∀ (l : List Int) (d : Int), lsI g l d ≤ m ↔ d ≤ m ∧ ∀ z ∈ l, p z
 | [], d => ⟨fun h => ⟨h, fun z hz => by cases hz⟩, fun h => h.1⟩
 | z :: l, d => by
  rw [lsI, x3x hg l, hg]
  constructor
  ·rintro ⟨⟨h1, h2⟩, h3⟩
   exact ⟨h1, fun y hy => by rcases List.mem_cons.1 hy with rfl | hy; exact h2; exact h3 y hy⟩
  ·rintro ⟨h1, h2⟩
   exact ⟨⟨h1, h2 z (by simp)⟩, fun y hy => h2 y (by simp [hy])⟩
theorem wdX_le {L1 : List R6} {xs ys zs : List Int} {d m : Int} : wdX L1 xs ys zs d ≤ m ↔ d ≤ m ∧ ∀ x ∈ xs, ∀ y ∈ ys, ∀ z ∈ zs, z8t x y z L1 ≤ m :=
 x3x (p := fun x => ∀ y ∈ ys, ∀ z ∈ zs, z8t x y z L1 ≤ m) (fun x d => x3x (p := fun y => ∀ z ∈ zs, z8t x y z L1 ≤ m) (fun y d => x3x (p := fun z => z8t x y z L1 ≤ m) (fun z d => x1c) zs d) ys d) xs d
theorem v0b {h : R6} {L1 : List R6} {m : Int} : ∀ (L0 : List R6) (d : Int), wdF h L1 L0 d ≤ m ↔ d ≤ m ∧ ∀ r ∈ L0, ∀ x ∈ y8p r h 0, ∀ y ∈ y8p r h 1, ∀ z ∈ y8p r h 2, z8t x y z L1 ≤ m
 | [], d => ⟨fun h => ⟨h, fun z hz => by cases hz⟩, fun h => h.1⟩
 | r :: l, d => by
  rw [wdF, v0b l, wdX_le]
  constructor
  ·rintro ⟨⟨h1, h2⟩, h3⟩
   exact ⟨h1, fun s hs => by rcases List.mem_cons.1 hs with rfl | hs; exact h2; exact h3 s hs⟩
  ·rintro ⟨h1, h2⟩
   exact ⟨⟨h1, h2 r (by simp)⟩, fun s hs => h2 s (by simp [hs])⟩
def hld (h c : R6) : Prop := (h.a ≤ c.a ∧ c.d ≤ h.d) ∧ (h.b ≤ c.b ∧ c.e ≤ h.e) ∧ h.c ≤ c.c ∧ c.f ≤ h.f
theorem y7j {a b c : R6} (h : hld a b) (k : hld b c) : hld a c := by unfold hld at *; omega
theorem w2m : ∀ (l : List R6) (h : R6), hld (huF l h) h ∧ ∀ c ∈ l, hld (huF l h) c
 | [], h => ⟨by unfold hld huF; omega, fun c hc => by cases hc⟩
 | r :: l, h => by
  obtain ⟨k1, k2⟩ := w2m l ⟨Wa h.a r.a, Wa h.b r.b, Wa h.c r.c, Xv h.d r.d, Xv h.e r.e, Xv h.f r.f⟩
  have e1 := Km h.a r.a
  have e2 := Km h.b r.b
  have e3 := Km h.c r.c
  have e4 := Jg h.d r.d
  have e5 := Jg h.e r.e
  have e6 := Jg h.f r.f
  rw [huF]
  refine ⟨y7j k1 (by unfold hld; dsimp only; omega), fun c hc => ?_⟩
  rcases List.mem_cons.1 hc with rfl | hc
  ·exact y7j k1 (by unfold hld; dsimp only; omega)
  ·exact k2 c hc
theorem v6z {L : List R6} : ∀ c ∈ L, hld (x6v L) c := fun c hc => by
 unfold x6v
 cases L with
 | nil => cases hc
 | cons r l =>
  obtain ⟨k1, k2⟩ := w2m l r
  rcases List.mem_cons.1 hc with rfl | hc
  ·exact k1
  ·exact k2 c hc
theorem v2x {W : R6} : ∀ (l : List R6) (h : R6), hld W h → (∀ c ∈ l, hld W c) → hld W (huF l h)
 | [], h, k, _ => k
 | r :: l, h, k, hl => by
  have k2 := hl r (by simp)
  have e1 := Km h.a r.a
  have e2 := Km h.b r.b
  have e3 := Km h.c r.c
  have e4 := Jg h.d r.d
  have e5 := Jg h.e r.e
  have e6 := Jg h.f r.f
  rw [huF]
  refine v2x l _ ?_ fun c hc => hl c (by simp [hc])
  unfold hld at *
  dsimp only
  omega
theorem hul_sm {L : List R6} (hne : L ≠ []) (h : ∀ c ∈ L, hld ⟨-12, -12, -12, 12, 12, 12⟩ c) : smH (x6v L) = true := by
 cases L with
 | nil => exact absurd rfl hne
 | cons r l =>
  have k : hld ⟨-12, -12, -12, 12, 12, 12⟩ (x6v (r :: l)) := v2x l r (h r (by simp)) fun c hc => h c (by simp [hc])
  unfold hld at k
  dsimp only at k
  simp only [smH, Bool.and_eq_true, decide_eq_true_eq]
  omega
theorem v3w {O L : List R6} (hO : ∀ r ∈ O, Jk r = true) (hL : ∀ r ∈ L, Jk r = true) (hne : L ≠ []) : w4g O L = z8a O L := by
 have key : ∀ m, w4g O L ≤ m ↔ z8a O L ≤ m := fun m => by
  rw [z9l, show w4g O L = wdF (x6v L) L O 0 from rfl, v0b]
  constructor
  ·rintro ⟨h0, h⟩
   refine ⟨h0, fun r hr x y z ⟨px, py, pz⟩ => ?_⟩
   have v := Xq (hO r hr)
   obtain ⟨x', x1, x2⟩ := w3q (p := (x6v L).a) (q := (x6v L).d) ⟨by omega, by omega⟩ px
   obtain ⟨y', y1, y2⟩ := w3q (p := (x6v L).b) (q := (x6v L).e) ⟨by omega, by omega⟩ py
   obtain ⟨z', z1, z2⟩ := w3q (p := (x6v L).c) (q := (x6v L).f) ⟨by omega, by omega⟩ pz
   have k := h r hr x' ((Xe _).2 _ |>.2 x1) y' ((Xe _).2 _ |>.2 y1) z' ((Xe _).2 _ |>.2 z1)
   have b1 := (Ji ⟨by omega, by omega⟩).1 x1
   have b2 := (Ji ⟨by omega, by omega⟩).1 y1
   have b3 := (Ji ⟨by omega, by omega⟩).1 z1
   obtain ⟨c, hc, k⟩ := (z6b hne).1 k
   have vc := Xq (hL c hc)
   have n := (z6c (Qk (hL c hc)) h0 ⟨by omega, by omega⟩ ⟨by omega, by omega⟩ ⟨by omega, by omega⟩).1 k
   obtain ⟨q1, q2, q3⟩ := v6z c hc
   refine (z6b hne).2 ⟨c, hc, (z6c (Qk (hL c hc)) h0 ⟨by omega, by omega⟩ ⟨by omega, by omega⟩ ⟨by omega, by omega⟩).2 ⟨?_, ?_, ?_⟩⟩
   ·exact x2 c.a c.d m q1.1 q1.2 vc.1 h0 n.1
   ·exact y2 c.b c.e m q2.1 q2.2 vc.2.1 h0 n.2.1
   ·exact z2 c.c c.f m q3.1 q3.2 vc.2.2.1 h0 n.2.2
  ·rintro ⟨h0, h⟩
   refine ⟨h0, fun r hr x hx y hy z hz => ?_⟩
   have v := Xq (hO r hr)
   have b1 := (Ji ⟨by omega, by omega⟩).1 ((Xe _).2 _ |>.1 hx)
   have b2 := (Ji ⟨by omega, by omega⟩).1 ((Xe _).2 _ |>.1 hy)
   have b3 := (Ji ⟨by omega, by omega⟩).1 ((Xe _).2 _ |>.1 hz)
   exact h r hr x y z ⟨by omega, by omega, by omega⟩
 have a := (key (z8a O L)).2 (Int.le_refl _)
 have b := (key (w4g O L)).1 (Int.le_refl _)
 omega
end Go.Am
namespace Go.Am
open Go.Proofs.Tryz
open Go.Proofs
inductive dlvS where
def dlvC (l0 : List R6) (x1 : Int) : dlvS → Cfg
 := nofun
def x1w (l0 : List R6) (x1 : Int) : dlvS → Xj dlvS
 := nofun
def z8x (l0 : List R6) (x1 : Int) : Xj dlvS := (bif (z2b (cvT l0)) then (bif (!(y6p (cvT l0))) then (.ret [(.bool true)]) else (bif (z4r (cvT l0) x1) then (bif (Qe (cvT l0) x1) then (bif ((y2r (cvT l0) x1) == (y2j (cvT l0) x1)) then (.ret [(.bool ((z2s (cvT l0) x1) == (z2r (cvT l0) x1)))]) else (.ret [(.bool false)])) else .stuck) else .stuck)) else .stuck)
theorem x7m (l0 : List R6) (x1 : Int) : ∀ s, Xd prog (Zy prog 7) (dlvC l0 x1) (dlvC l0 x1 s) (x1w l0 x1 s)
 := nofun
theorem x1x (l0 : List R6) (x1 : Int) : Xd prog (Zy prog 7) (dlvC l0 x1) (Zg prog 7 [(.dat l0.length (Zz l0)), (.int .i64 x1)] true []) (z8x l0 x1) := (lo fun aS => (lb (fun k0 => (lr 32 7 [1, 0, 1, 0, 0] 1 3 [(4, (.bool true))] (sl v9m 16 [] ⟨[], [], [some [4]], []⟩ ⟨[], [], []⟩ [true] (tt k0 (pp (pp (xr l0) (xw aS)) nn))))) (fun k0 => (lo fun aF => (lo fun bC => (lb (fun k1 => (lr 32 3 [1, 1, 1, 1, 1, 1, 0] 1 3 [(4, (.bool ((z2s (cvT l0) x1) == (z2r (cvT l0) x1))))] (sl v9m 47 [] ⟨[], [], [some [4]], []⟩ ⟨[], [], []⟩ [false, true, true, true] (tt k1 (pp (pp (xr l0) (xw bC)) (pp (pp (xr l0) (xw aF)) (tt k0 (pp (pp (xr l0) (xw aS)) nn)))))))) (fun k1 => (lr 32 3 [1, 1, 1, 1, 1, 1, 0] 1 3 [(4, (.bool false))] (sl v9m 47 [] ⟨[], [], [some [4]], []⟩ ⟨[], [], []⟩ [false, false, false, false] (tt k1 (pp (pp (xr l0) (xw bC)) (pp (pp (xr l0) (xw aF)) (tt k0 (pp (pp (xr l0) (xw aS)) nn))))))))))))))
theorem dlv_ends (l0 : List R6) (x1 : Int) (n : Nat) (vs : List AVal) (h : Yu (x1w l0 x1) n (z8x l0 x1) = .ret vs) : Ur prog (Zy prog 7) (Zg prog 7 [(.dat l0.length (Zz l0)), (.int .i64 x1)] true []) vs := by
 have := Ze (x7m l0 x1) n _ (x1x l0 x1)
 rwa [h] at this
end Go.Am
namespace Go.Am
open Go.Proofs Go.Sort Go.Shelf Go.RowKit Go.Lib
theorem w6y {L : List R6} (h : y6p L = true) (hl : L.length ≤ 400) : L.length ≤ 6 ∧ ∀ c ∈ L, hld ⟨-12, -12, -12, 12, 12, 12⟩ c := by
 unfold y6p at h
 rw [Yo (by omega), cond_false, Bool.and_eq_true, List.all_eq_true] at h
 refine ⟨by have := of_decide_eq_true h.2; omega, fun c hc => ?_⟩
 have := h.1 c hc
 simp only [w7c, Bool.and_eq_true, Bool.not_eq_true', decide_eq_false_iff_not] at this
 obtain ⟨h1, h2, _⟩ := this
 have i1 := Km c.a c.b
 have i2 := Km (Wa c.a c.b) c.c
 have i3 := Jg c.d c.e
 have i4 := Jg (Xv c.d c.e) c.f
 unfold hld
 dsimp only
 omega
theorem w1a {L : List R6} {k : Int} (hc : Yx L = 0) (hk : 0 ≤ k ∧ k ≤ 9) (h : Jv L k = 0) : Yx (Xh L k) = 0 ∧ ∀ x y z, inS L x y z → inS (Xh L k) x y z := by
 obtain ⟨_, hn⟩ := w3h hk
 have hs := Uv hc
 have e1 : Jv L k = z1h L (w4k k) := by
  unfold Jv
  rw [hc, Zs (show ¬ k < 0 by omega), Yo (show ¬ k > 9 by omega)]; rfl
 have e0 : Xh L k = Jp L (w4k k) := by
  unfold Xh v6h
  rw [hc, Zs (show ¬ k < 0 by omega), Yo (show ¬ k > 9 by omega)]; rfl
 rw [e1] at h
 rw [e0]
 generalize hN : w4k k = n at h hn
 unfold z1h at h
 rw [hc, Zs (show ¬ n < 1 by omega), Yo (show ¬ n > 1000 by omega)] at h
 rcases Zn (L.all (oOk n)) with o | o
 ·rw [o] at h
  replace h : Vp (L.map (oB n)) = 0 := h
  have eo : Jp L n = Jz (L.map (oB n)) := by
   unfold Jp v6j
   rw [hc, Zs (show ¬ n < 1 by omega), Yo (show ¬ n > 1000 by omega), o]; rfl
  rw [eo]
  obtain ⟨c1, c2⟩ := v4j h
  obtain ⟨z1, z2, z3, z4⟩ := x3a h
  rw [← x8x h] at z4
  refine ⟨w5f z4 (v9e c1 fun x y z hp => ?_) c1, fun x y z hp => (c2 x y z).2 ?_⟩
  ·obtain ⟨r, hr, p1, p2, p3⟩ := (c2 x y z).1 hp
   have := Xq (z2 r hr)
   omega
  ·obtain ⟨r, hr, p1, p2, p3⟩ := hp
   have v := Xq (hs.2.1 r hr)
   obtain ⟨_, a1, a2⟩ := Jo (x := r.a) hn (by omega)
   obtain ⟨_, b1, b2⟩ := Jo (x := r.b) hn (by omega)
   obtain ⟨_, c1, c2⟩ := Jo (x := r.c) hn (by omega)
   obtain ⟨_, d1, d2⟩ := z3a (x := r.d) hn (by omega)
   obtain ⟨_, e1, e2⟩ := z3a (x := r.e) hn (by omega)
   obtain ⟨_, f1, f2⟩ := z3a (x := r.f) hn (by omega)
   refine ⟨oB n r, List.mem_map_of_mem hr, ?_⟩
   unfold oB
   dsimp only
   omega
 ·rw [o] at h; cases h
section
variable {L : List R6} (hc : Yx L = 0) (hne : L ≠ []) (hl : L.length ≤ 6) (hh : ∀ c ∈ L, hld ⟨-12, -12, -12, 12, 12, 12⟩ c)
include hc hne hl hh
theorem q_fac {k : Int} (hk : 0 ≤ k ∧ k ≤ 9) (h : Jv L k = 0) (h40 : ¬ ((Xh L k).length : Int) > 40) : z1o L (Xh L k) = 0 ∧ z5c L (Xh L k) = w4g (Xh L k) L ∧ Ut (Xh L k) L = true := by
 obtain ⟨h1, h2⟩ := w1a hc hk h
 have hs := Uv hc
 have ho := Uv h1
 generalize Xh L k = O at h1 h2 h40 ho
 have hO : O ≠ [] := fun e => by
  subst e
  cases L with
  | nil => exact hne rfl
  | cons r l =>
   have v := Xq (hs.2.1 r (by simp))
   obtain ⟨s, hs, _⟩ := h2 r.a r.b r.c ⟨r, by simp, by omega, by omega, by omega⟩
   cases hs
 have pL := List.length_pos_iff.2 hne
 have pO := List.length_pos_iff.2 hO
 have e1 : z1o L O = 0 := by
  unfold z1o eDi
  rw [hc, h1, show ((L.length : Int) == 0) = false from beq_eq_false_iff_ne.2 (by omega), show ((O.length : Int) == 0) = false from beq_eq_false_iff_ne.2 (by omega), Yo (show ¬ (L.length : Int) > 40 by omega), Yo h40]; rfl
 have e2 : z5c L O = Xv (y8o L O) (y8o O L) := by
  unfold z5c
  rw [show eDi Yx L O = 0 from e1]; rfl
 refine ⟨e1, ?_, ?_⟩
 ·rw [e2, v1z hs.2.1 ho.2.1 (.inr hO), v1z ho.2.1 hs.2.1 (.inr hne), v3w ho.2.1 hs.2.1 hne]
  have z1 := (z9k hs.2.1 ho.2.1 (.inr hO)).1
  have z2 : z8a L O ≤ 0 := z9l.2 ⟨Int.le_refl _, fun r hr x y z hp => by
   have v := Xq (hs.2.1 r hr)
   obtain ⟨c, hc', p1, p2, p3⟩ := h2 x y z ⟨r, hr, hp.1, hp.2.1, hp.2.2⟩
   obtain ⟨b1, b2, b3⟩ := hp
   exact (z6b hO).2 ⟨c, hc', (z6c (Qk (ho.2.1 c hc')) (Int.le_refl _) ⟨by omega, by omega⟩ ⟨by omega, by omega⟩ ⟨by omega, by omega⟩).2 ⟨by omega, by omega, by omega⟩⟩⟩
  have z3 := (z9k ho.2.1 hs.2.1 (.inr hne)).1
  have m := Jg (z8a L O) (z8a O L)
  omega
 ·unfold Ut
  rw [← z2j, hc, Yd (show 0 < L.length by omega), Yp (show L.length ≤ 100000 by omega), Yp (show O.length ≤ 100000 by omega), hul_sm hne hh]; rfl
theorem q_eq {d k : Int} (hk : 0 ≤ k ∧ k ≤ 9) : v5g L d k = levQ L d k ∧ (bif Qc L k != 0 then true else bif decide (((Vy L k).length : Int) > 40) then true else Ut (Vy L k) L) = true := by
 unfold v5g levQ
 rw [(v1e L k).1, (v1e L k).2]
 rcases Zn (Jv L k == 0) with q | q
 ·have h := eq_of_beq q
  rw [h]
  by_cases h40 : ((Xh L k).length : Int) > 40
  ·rw [Yn h40]
   refine ⟨?_, rfl⟩
   obtain ⟨h1, h2⟩ := w1a hc hk h
   have e1 : z1o L (Xh L k) = 4 := by
    have pL := List.length_pos_iff.2 hne
    unfold z1o eDi
    rw [hc, h1, show ((L.length : Int) == 0) = false from beq_eq_false_iff_ne.2 (by omega), show (((Xh L k).length : Int) == 0) = false from beq_eq_false_iff_ne.2 (by omega), Yn h40]
    cases decide ((L.length : Int) > 40) <;> rfl
   rw [e1]; rfl
  ·obtain ⟨e1, e2, e3⟩ := q_fac hc hne hl hh hk h h40
   rw [Yo h40, e1, e2, e3]
   exact ⟨rfl, rfl⟩
 ·have hq : (Jv L k != 0) = true := by
   have : (Jv L k != 0) = !(Jv L k == 0) := rfl
   rw [this, q]; rfl
  rw [q, hq]
  exact ⟨rfl, rfl⟩
theorem v1j : ∀ (n : Nat) (k : Int), 0 ≤ k → k + n ≤ 10 → rlvO L n k = true
 | 0, k, _, _ => rfl
 | n + 1, k, h, hn => by
  unfold rlvO
  rw [(q_eq hc hne hl hh (d := 0) ⟨by omega, by omega⟩).2, v1j n (k + 1) (by omega) (by omega)]; rfl
omit hc hne hl hh in
theorem y5w {d : Int} : ∀ (n : Nat) (k b : Int), v5h L d (n + 1) k b = bif v5g L d (k + n) then k + n else v5h L d n k b
 | 0, k, b => by
  rw [show k + ((0 : Nat) : Int) = k by omega]; rfl
 | n + 1, k, b => by
  rw [v5h, y5w n (k + 1), show k + 1 + (n : Int) = k + ((n + 1 : Nat) : Int) by omega]; rfl
theorem w1y {d : Int} : ∀ n : Nat, n ≤ 9 → v5h L d n 1 0 = levF L d n
 | 0, _ => rfl
 | n + 1, h => by
  rw [y5w, w1y n (by omega), show (1 : Int) + (n : Int) = ((n + 1 : Nat) : Int) by omega, (q_eq hc hne hl hh (d := d) ⟨by omega, by omega⟩).1]; rfl
end
theorem w1z (L : List R6) (d : Int) : z2r L d = z2s L d := by
 unfold z2r z2s
 rw [← z2j L]
theorem dlv_run (L : List R6) (d : Int) : ∃ N, Yu (x1w L d) N (z8x L d) = .ret [.bool true] := ⟨0, by
 have key : y6p L = true → Qe L d = true ∧ y2j L d = y2r L d := fun hn => by
  unfold Qe y2j y2r
  rw [w1z]
  rcases Zn (z2s L d == 0) with q | q
  ·have hz := eq_of_beq q
   rw [q, cond_true, cond_true, cond_true]
   unfold z2s at hz
   have hk : (Yx L != 0) = !(Yx L == 0) := rfl
   rw [hk] at hz
   rcases Zn (Yx L == 0) with a | a
   ·have hc := eq_of_beq a
    have hs := Uv hc
    obtain ⟨h1, h2⟩ := w6y hn hs.1
    have hne : L ≠ [] := fun e => by
     subst e
     rw [a] at hz
     revert hz
     cases decide (d < 0) <;> cases decide (d > 1000) <;> intro hz <;> cases hz
    exact ⟨v1j hc hne h1 h2 9 1 (by omega) (by omega), w1y hc hne h1 h2 9 (by omega)⟩
   ·exfalso
    rw [a] at hz
    have hz : Yx L = 0 := hz
    rw [hz] at a; cases a
  ·rw [q]; exact ⟨rfl, rfl⟩
 unfold z8x
 simp only [Zc, show ∀ l, z2b l = true from fun _ => rfl, show ∀ l k, z4r l k = true from fun _ _ => rfl, cond_true]
 rcases Zn (y6p L) with q | q
 ·obtain ⟨k1, k2⟩ := key q
  rw [q, k1, k2, w1z, beq_self_eq_true, beq_self_eq_true]; rfl
 ·rw [q]; rfl⟩
end Go.Am
end
