/- Steps of functions between the heads of their loops. (Printed by a program.) -/
import Derived.Test.YtdojgffcahimjaaSpM
import Derived.Test.YtdojgffcahimjaaAl0
namespace Go.Am
open Go.Proofs
set_option maxRecDepth 1000000
set_option linter.unusedVariables false
/-- Function 13: gambrel/gambrellaw29.valid. (Printed by a program.) -/
inductive validS where
noncomputable def validC (n0 : Nat) (c0 : Nat → Int) (n1 : Nat) (c1 : Nat → Int) (x2 : Int) : validS → Cfg
  := nofun
noncomputable def validstep (n0 : Nat) (c0 : Nat → Int) (n1 : Nat) (c1 : Nat → Int) (x2 : Int) : validS → Out' validS
  := nofun
noncomputable def validstart (n0 : Nat) (c0 : Nat → Int) (n1 : Nat) (c1 : Nat → Int) (x2 : Int) : Out' validS := (bif (decide (((n0 : Nat) : Int) ≤ 40)) then (bif (decide (((n1 : Nat) : Int) ≤ 40)) then (bif ((chkV n0 c0) == 0) then (bif ((chkV n1 c1) == 0) then (bif (decide (x2 ≥ 0)) then (.ret [(.bool (decide (x2 ≤ 2000000)))]) else (.ret [(.bool false)])) else (.ret [(.bool false)])) else (.ret [(.bool false)])) else (.ret [(.bool false)])) else (.ret [(.bool false)]))
theorem validstep_ok (n0 : Nat) (c0 : Nat → Int) (n1 : Nat) (c1 : Nat → Int) (x2 : Int) : ∀ s, Lead Try.prog (resultsOf Try.prog 13) (validC n0 c0 n1 c1 x2) (validC n0 c0 n1 c1 x2 s) (validstep n0 c0 n1 c1 x2 s)
  := nofun
theorem validstart_ok (n0 : Nat) (c0 : Nat → Int) (n1 : Nat) (c1 : Nat → Int) (x2 : Int) : Lead Try.prog (resultsOf Try.prog 13) (validC n0 c0 n1 c1 x2) (startC Try.prog 13 [(.dat n0 (iget c0)), (.dat n1 (iget c1)), (.int .i64 x2)] true []) (validstart n0 c0 n1 c1 x2) := (lead_bif (c := (decide (((n0 : Nat) : Int) ≤ 40))) (fun k0 => (lead_bif (c := (decide (((n1 : Nat) : Int) ≤ 40))) (fun k1 => (lead_bif (c := ((chkV n0 c0) == 0)) (fun k2 => (lead_bif (c := ((chkV n1 c1) == 0)) (fun k3 => (lead_bif (c := (decide (x2 ≥ 0))) (fun k4 => (lead_ret ⟨⟨33, 0, true⟩, none, (todoP Try.prog 3 [1, 1, 1, 1, 1, 1, 1, 0] 1), none, (resultsOf Try.prog 13), ⟨envL [(6, (.bool (decide (x2 ≤ 2000000))))], memL [] 0, 0, [], true⟩, [], .leaf⟩ (stretchO named mixed S1_ok (m := 100000) (d := 4) (n := 34) (N := ⟨[], [], [some [6]], []⟩) [true, true, true, true, true, true, true, true, true, true, true, true, true] (((decide (x2 ≥ 0)) == true) && ((((chkV n1 c1) == 0) == true) && ((isI (iget c1)) && ((((chkV n0 c0) == 0) == true) && ((isI (iget c0)) && (((decide (((n1 : Nat) : Int) ≤ 40)) == true) && (((decide (((n0 : Nat) : Int) ≤ 40)) == true) && true))))))) (by kernel_rfl) (by repeat' (first | with_reducible exact k0 | with_reducible exact k1 | with_reducible exact k2 | with_reducible exact k3 | with_reducible exact k4 | with_reducible exact isI_iget _ | with_reducible exact flatG_iget _ | with_reducible exact flatG_nums _ | with_reducible exact ne_self' _ | with_reducible exact eq_self' _ | with_reducible exact nne_self' _ | with_reducible exact neq_self' _ | rfl | apply ok_and | apply ok_beq | apply flatG_app | apply flatG_upd)) rfl) rfl (by kernel_rfl))) (fun k4 => (lead_ret ⟨⟨33, 0, true⟩, none, (todoP Try.prog 3 [1, 1, 1, 1, 1, 1, 1, 0] 1), none, (resultsOf Try.prog 13), ⟨envL [(6, (.bool false))], memL [] 0, 0, [], true⟩, [], .leaf⟩ (stretchO named mixed S1_ok (m := 100000) (d := 4) (n := 34) (N := ⟨[], [], [some [6]], []⟩) [true, true, true, true, true, true, true, true, true, true, true, false, false] (((decide (x2 ≥ 0)) == false) && ((((chkV n1 c1) == 0) == true) && ((isI (iget c1)) && ((((chkV n0 c0) == 0) == true) && ((isI (iget c0)) && (((decide (((n1 : Nat) : Int) ≤ 40)) == true) && (((decide (((n0 : Nat) : Int) ≤ 40)) == true) && true))))))) (by kernel_rfl) (by repeat' (first | with_reducible exact k0 | with_reducible exact k1 | with_reducible exact k2 | with_reducible exact k3 | with_reducible exact k4 | with_reducible exact isI_iget _ | with_reducible exact flatG_iget _ | with_reducible exact flatG_nums _ | with_reducible exact ne_self' _ | with_reducible exact eq_self' _ | with_reducible exact nne_self' _ | with_reducible exact neq_self' _ | rfl | apply ok_and | apply ok_beq | apply flatG_app | apply flatG_upd)) rfl) rfl (by kernel_rfl))))) (fun k3 => (lead_ret ⟨⟨33, 0, true⟩, none, (todoP Try.prog 3 [1, 1, 1, 1, 1, 1, 1, 0] 1), none, (resultsOf Try.prog 13), ⟨envL [(6, (.bool false))], memL [] 0, 0, [], true⟩, [], .leaf⟩ (stretchO named mixed S1_ok (m := 100000) (d := 4) (n := 34) (N := ⟨[], [], [some [6]], []⟩) [true, true, true, true, true, true, true, true, true, false, false, false, false] ((((chkV n1 c1) == 0) == false) && ((isI (iget c1)) && ((((chkV n0 c0) == 0) == true) && ((isI (iget c0)) && (((decide (((n1 : Nat) : Int) ≤ 40)) == true) && (((decide (((n0 : Nat) : Int) ≤ 40)) == true) && true)))))) (by kernel_rfl) (by repeat' (first | with_reducible exact k0 | with_reducible exact k1 | with_reducible exact k2 | with_reducible exact k3 | with_reducible exact isI_iget _ | with_reducible exact flatG_iget _ | with_reducible exact flatG_nums _ | with_reducible exact ne_self' _ | with_reducible exact eq_self' _ | with_reducible exact nne_self' _ | with_reducible exact neq_self' _ | rfl | apply ok_and | apply ok_beq | apply flatG_app | apply flatG_upd)) rfl) rfl (by kernel_rfl))))) (fun k2 => (lead_ret ⟨⟨33, 0, true⟩, none, (todoP Try.prog 3 [1, 1, 1, 1, 1, 1, 1, 0] 1), none, (resultsOf Try.prog 13), ⟨envL [(6, (.bool false))], memL [] 0, 0, [], true⟩, [], .leaf⟩ (stretchO named mixed S1_ok (m := 100000) (d := 4) (n := 34) (N := ⟨[], [], [some [6]], []⟩) [true, true, true, true, true, true, false, false, false, false, false, false, false] ((((chkV n0 c0) == 0) == false) && ((isI (iget c0)) && (((decide (((n1 : Nat) : Int) ≤ 40)) == true) && (((decide (((n0 : Nat) : Int) ≤ 40)) == true) && true)))) (by kernel_rfl) (by repeat' (first | with_reducible exact k0 | with_reducible exact k1 | with_reducible exact k2 | with_reducible exact isI_iget _ | with_reducible exact flatG_iget _ | with_reducible exact flatG_nums _ | with_reducible exact ne_self' _ | with_reducible exact eq_self' _ | with_reducible exact nne_self' _ | with_reducible exact neq_self' _ | rfl | apply ok_and | apply ok_beq | apply flatG_app | apply flatG_upd)) rfl) rfl (by kernel_rfl))))) (fun k1 => (lead_ret ⟨⟨33, 0, true⟩, none, (todoP Try.prog 3 [1, 1, 1, 1, 1, 1, 1, 0] 1), none, (resultsOf Try.prog 13), ⟨envL [(6, (.bool false))], memL [] 0, 0, [], true⟩, [], .leaf⟩ (stretchO named mixed S1_ok (m := 100000) (d := 4) (n := 34) (N := ⟨[], [], [some [6]], []⟩) [true, true, true, false, false, false, false, false, false, false, false, false, false] (((decide (((n1 : Nat) : Int) ≤ 40)) == false) && (((decide (((n0 : Nat) : Int) ≤ 40)) == true) && true)) (by kernel_rfl) (by repeat' (first | with_reducible exact k0 | with_reducible exact k1 | with_reducible exact isI_iget _ | with_reducible exact flatG_iget _ | with_reducible exact flatG_nums _ | with_reducible exact ne_self' _ | with_reducible exact eq_self' _ | with_reducible exact nne_self' _ | with_reducible exact neq_self' _ | rfl | apply ok_and | apply ok_beq | apply flatG_app | apply flatG_upd)) rfl) rfl (by kernel_rfl))))) (fun k0 => (lead_ret ⟨⟨33, 0, true⟩, none, (todoP Try.prog 3 [1, 1, 1, 1, 1, 1, 1, 0] 1), none, (resultsOf Try.prog 13), ⟨envL [(6, (.bool false))], memL [] 0, 0, [], true⟩, [], .leaf⟩ (stretchO named mixed S1_ok (m := 100000) (d := 4) (n := 34) (N := ⟨[], [], [some [6]], []⟩) [false, false, false, false, false, false, false, false, false, false, false, false, false] (((decide (((n0 : Nat) : Int) ≤ 40)) == false) && true) (by kernel_rfl) (by repeat' (first | with_reducible exact k0 | with_reducible exact isI_iget _ | with_reducible exact flatG_iget _ | with_reducible exact flatG_nums _ | with_reducible exact ne_self' _ | with_reducible exact eq_self' _ | with_reducible exact nne_self' _ | with_reducible exact neq_self' _ | rfl | apply ok_and | apply ok_beq | apply flatG_app | apply flatG_upd)) rfl) rfl (by kernel_rfl))))
theorem valid_ends (n0 : Nat) (c0 : Nat → Int) (n1 : Nat) (c1 : Nat → Int) (x2 : Int) (n : Nat) (vs : List AVal) (h : goOn (validstep n0 c0 n1 c1 x2) n (validstart n0 c0 n1 c1 x2) = .ret vs) : Ends Try.prog (resultsOf Try.prog 13) (startC Try.prog 13 [(.dat n0 (iget c0)), (.dat n1 (iget c1)), (.int .i64 x2)] true []) vs := by
  have := goOn_lead (validstep_ok n0 c0 n1 c1 x2) n _ (validstart_ok n0 c0 n1 c1 x2)
  rwa [h] at this
end Go.Am
/- The contracts of alive (a closed run) and valid. -/
namespace Go.Am
open Go.Proofs
set_option maxRecDepth 100000
set_option linter.unusedVariables false
set_option linter.unusedSimpArgs false

def validV (n : Nat) (c : Nat → Int) (m : Nat) (d : Nat → Int) (w : Int) : Bool :=
  bif decide ((n : Int) ≤ 40) then bif decide ((m : Int) ≤ 40) then bif chkV n c == 0 then bif chkV m d == 0 then bif decide (w ≥ 0) then decide (w ≤ 2000000) else false else false else false else false else false
noncomputable def fValid : List AVal → Option (AVal × Bool)
  | [.dat n g, .dat m e, .int .i64 w] => some (.bool (validV n (cOf g) m (cOf e) w), isI g && isI e)
  | _ => none
noncomputable def S7 : Specs := (S6.with 14 (fClosed (.bool true))).with 13 fValid
theorem S7_ok : SpecsOk Try.prog S7 := by
  refine with_ends (with_closed S6_ok (by kernel_rfl) Alg5 (by kernel_rfl) (by kernel_rfl) rfl) (by kernel_rfl) ?_
  intro args v h
  unfold fValid at h
  split at h
  · rename_i n g m e w
    simp only [Option.some.injEq, Prod.mk.injEq, Bool.and_eq_true] at h
    obtain ⟨rfl, h1, h2⟩ := h
    obtain ⟨c, rfl⟩ := isI_spec h1
    obtain ⟨d, rfl⟩ := isI_spec h2
    refine ⟨[_], rfl, valid_ends n c m d w 0 _ ?_, 1, rfl⟩
    show validstart n c m d w = _
    unfold validstart validV
    simp only [show cOf (iget c) = c from rfl, show cOf (iget d) = d from rfl]
    cases decide ((n : Int) ≤ 40) <;> cases decide ((m : Int) ≤ 40) <;> cases chkV n c == 0 <;> cases chkV m d == 0 <;> cases decide (w ≥ 0) <;> rfl
  · cases h
end Go.Am
/- slices.Compact's contract; a contract that also takes nil lists; names of lists that are given back. -/
namespace Go.Am
open Go.Proofs Go.Lib Go.Sort
set_option maxRecDepth 100000
set_option linter.unusedVariables false

def padI (zs : List Int) : List Int := compact zs ++ List.replicate (zs.length - (compact zs).length) 0
def cmpN (zs : List Int) : Nat := (compact zs).length
theorem grow_none (w : World) : grow w #[] = w := by simp [grow]
theorem compact_eff : EffOk Try.prog 37 (fCut padI cmpN) :=
  eff_cut (fun zs => by have := compact_length_le zs; simp [padI]; omega) (fun zs => compact_length_le zs)
    (fun blk off cap zs w hH hb hz hcap => (Try.slices_Compact_int blk off cap zs w hH (by omega) hcap).mono fun e w' ⟨he, q, hw⟩ => ⟨he, q, #[], by rw [hw, grow_none]; rfl⟩)
    fun p cap w => Try.slices_Compact_int_empty p cap w

def unNil : AVal → AVal
  | .nils => .dat 0 (iget fun _ => 0)
  | v => v
theorem unNil_rel {ρ : Rho} {a : AVal} {u : Value} (h : VRel ρ a u) : VRel ρ (unNil a) u := by
  unfold unNil
  split
  · cases h; exact .datn _
  · exact h
theorem valOk_nil {P : Program} {f : FuncId} {F : List AVal → Option (AVal × Bool)} (h : ValOk P f F) : ValOk P f fun args => F (args.map unNil) := by
  intro args v hv H vals w hargs hH
  refine h (args.map unNil) v hv H vals w ?_ hH
  generalize vals.toList = us at hargs
  clear hv
  induction hargs with
  | nil => exact .nil
  | cons h _ ih => exact .cons (unNil_rel h) ih
theorem with_val {P : Program} {S : Specs} (hS : SpecsOk P S) {f : FuncId} {F : List AVal → Option (AVal × Bool)} (hf : (P.funcs[f]?).any (fun fn => fn.body.isSome) = true) (hF : ValOk P f F) : SpecsOk P (S.with f F) := by
  intro g G hg
  unfold Specs.with at hg
  cases hgf : Nat.beq g f with
  | false => rw [hgf] at hg; exact hS g G hg
  | true =>
    rw [hgf] at hg
    obtain rfl : Spec.val F = G := Option.some.inj hg
    obtain rfl : g = f := Nat.eq_of_beq_eq_true hgf
    refine ⟨?_, hF⟩
    cases hfn : P.funcs[g]? with
    | none => rw [hfn] at hf; cases hf
    | some fn => rw [hfn] at hf; exact ⟨fn, rfl, hf⟩

def rmV_0n (n : Nat) (c : Nat → Int) (m : Nat) (d : Nat → Int) : Nat := (mergeL n c m d).length
def rmV_0c (n : Nat) (c : Nat → Int) (m : Nat) (d : Nat → Int) : Nat → Int := listC (mergeL n c m d)
def rmV_1 (n : Nat) (c : Nat → Int) (m : Nat) (d : Nat → Int) : Int := mergeE n c m d
def gdV_0n (f s m : Int) : Nat := gridN f s m
def gdV_0c (f s _ : Int) : Nat → Int := gridC f s
def gdV_1 (f s m : Int) : Int := gridE f s m

noncomputable def S8 : Specs := (S7.with 12 fun args => fSame (args.map unNil)).withE 37 (fCut padI cmpN)
theorem S8_ok : SpecsOk Try.prog S8 := with_eff (with_val S7_ok (by kernel_rfl) (valOk_nil (S7_ok 12 (.val fSame) rfl).2)) (by kernel_rfl) compact_eff
end Go.Am
/- Plain law: sorting the numbers of two lists of lines and leaving out what is there twice gives the list that merging gives. -/
namespace Go.Am
open Go.Proofs Go.Lib
set_option maxRecDepth 100000
set_option linter.unusedVariables false
set_option linter.unusedSimpArgs false

theorem eq_of_lt_mem : ∀ (l m : List Int), l.Pairwise (· < ·) → m.Pairwise (· < ·) → (∀ x, x ∈ l ↔ x ∈ m) → l = m
  | [], [], _, _, _ => rfl
  | [], b :: m, _, _, h => by have := (h b).2 (by simp); cases this
  | a :: l, [], _, _, h => by have := (h a).1 (by simp); cases this
  | a :: l, b :: m, hl, hm, h => by
    obtain ⟨a1, a2⟩ := List.pairwise_cons.1 hl
    obtain ⟨b1, b2⟩ := List.pairwise_cons.1 hm
    have e : a = b := by
      have x1 := (h a).1 (by simp)
      have x2 := (h b).2 (by simp)
      rcases List.mem_cons.1 x1 with x1 | x1
      · exact x1
      rcases List.mem_cons.1 x2 with x2 | x2
      · exact x2.symm
      have := b1 a x1
      have := a1 b x2
      omega
    subst e
    congr 1
    refine eq_of_lt_mem l m a2 b2 fun x => ⟨fun hx => ?_, fun hx => ?_⟩
    · rcases List.mem_cons.1 ((h x).1 (by simp [hx])) with e | e
      · have := a1 x hx; omega
      · exact e
    · rcases List.mem_cons.1 ((h x).2 (by simp [hx])) with e | e
      · have := b1 x hx; omega
      · exact e

theorem compact_spec (zs : List Int) (hs : zs.Pairwise (· ≤ ·)) : ∀ m, m ≤ zs.length → (compactUpTo zs.toArray m).Pairwise (· < ·) ∧ ∀ x, x ∈ compactUpTo zs.toArray m ↔ x ∈ zs.take m
  | 0, _ => by simp [compactUpTo]
  | m + 1, h => by
    obtain ⟨h1, h2⟩ := compact_spec zs hs m (by omega)
    have hg : ∀ j (hj : j < zs.length), zs.toArray[j]! = zs[j] := fun j hj => by simp [hj]
    have hle : ∀ i j (hi : i < zs.length) (hj : j < zs.length), i < j → zs[i] ≤ zs[j] := fun i j hi hj hij => List.pairwise_iff_getElem.1 hs i j hi hj hij
    have hm : m < zs.length := by omega
    rw [compactUpTo_succ, hg m hm, List.take_succ_eq_append_getElem hm]
    by_cases hk : keeps zs.toArray m = true
    · rw [if_pos hk]
      refine ⟨List.pairwise_append.2 ⟨h1, List.pairwise_singleton _ _, fun x hx y hy => ?_⟩, fun x => by rw [List.mem_append, List.mem_append, h2 x]⟩
      rw [List.mem_singleton.1 hy]
      obtain ⟨i, hi, rfl⟩ := List.getElem_of_mem ((h2 x).1 hx)
      have hi' : i < m := by simp at hi; omega
      rw [List.getElem_take]
      simp only [keeps, decide_eq_true_eq] at hk
      rcases hk with hk | hk
      · omega
      · rw [hg m hm, hg (m - 1) (by omega)] at hk
        have k1 : zs[i] ≤ zs[m - 1] := by
          rcases Nat.lt_or_ge i (m - 1) with q | q
          · exact hle i (m - 1) _ _ q
          · have e : i = m - 1 := by omega
            subst e; exact Int.le_refl _
        have k2 := hle (m - 1) m (by omega) hm (by omega)
        omega
    · rw [if_neg hk, List.append_nil]
      refine ⟨h1, fun x => ?_⟩
      rw [h2 x, List.mem_append, List.mem_singleton]
      refine ⟨.inl, fun hx => hx.elim id fun e => ?_⟩
      simp only [keeps, decide_eq_true_eq, not_or, Decidable.not_not] at hk
      rw [hg m hm, hg (m - 1) (by omega)] at hk
      rw [e, hk.2]
      have : m - 1 < (zs.take m).length := by simp; omega
      have e2 : (zs.take m)[m - 1] = zs[m - 1] := List.getElem_take
      rw [← e2]
      exact List.getElem_mem this

theorem srt_le (zs : List Int) : (srtI zs).Pairwise (· ≤ ·) := by
  have := List.pairwise_mergeSort (le := fun x y : Int => decide (x ≤ y)) (fun a b c h1 h2 => by simp at *; omega) (fun a b => by simp; omega) zs
  exact this.imp fun h => by simpa using h
theorem srt_mem (zs : List Int) (x : Int) : x ∈ srtI zs ↔ x ∈ zs := List.mem_mergeSort

theorem mrg_mem (n : Nat) (c : Nat → Int) (m : Nat) (d : Nat → Int) (x : Int) : ∀ (k i j : Nat), i ≤ n → j ≤ m → (n - i) + (m - j) ≤ k → (x ∈ mrgF n c m d k i j ↔ (∃ t, i ≤ t ∧ t < n ∧ c t = x) ∨ ∃ t, j ≤ t ∧ t < m ∧ d t = x)
  | 0, i, j, h1, h2, h3 => by
    simp only [mrgF, List.not_mem_nil, false_iff, not_or]
    exact ⟨fun ⟨t, a, b, _⟩ => by omega, fun ⟨t, a, b, _⟩ => by omega⟩
  | k + 1, i, j, h1, h2, h3 => by
    have hk3 : i < n → j < m → (n - (i + 1)) + (m - (j + 1)) ≤ k := fun _ _ => by omega
    have A : i < n → (x ∈ c i :: mrgF n c m d k (i + 1) j ↔ (∃ t, i ≤ t ∧ t < n ∧ c t = x) ∨ ∃ t, j ≤ t ∧ t < m ∧ d t = x) := fun hi => by
      rw [List.mem_cons, mrg_mem n c m d x k (i + 1) j hi h2 (by omega)]
      constructor
      · rintro (e | ⟨t, a, b, e⟩ | h)
        · exact .inl ⟨i, Nat.le_refl _, hi, e.symm⟩
        · exact .inl ⟨t, by omega, b, e⟩
        · exact .inr h
      · rintro (⟨t, a, b, e⟩ | h)
        · rcases Nat.lt_or_ge i t with q | q
          · exact .inr (.inl ⟨t, q, b, e⟩)
          · have : t = i := by omega
            subst this; exact .inl e.symm
        · exact .inr (.inr h)
    have B : j < m → (x ∈ d j :: mrgF n c m d k i (j + 1) ↔ (∃ t, i ≤ t ∧ t < n ∧ c t = x) ∨ ∃ t, j ≤ t ∧ t < m ∧ d t = x) := fun hj => by
      rw [List.mem_cons, mrg_mem n c m d x k i (j + 1) h1 hj (by omega)]
      constructor
      · rintro (e | h | ⟨t, a, b, e⟩)
        · exact .inr ⟨j, Nat.le_refl _, hj, e.symm⟩
        · exact .inl h
        · exact .inr ⟨t, by omega, b, e⟩
      · rintro (h | ⟨t, a, b, e⟩)
        · exact .inr (.inl h)
        · rcases Nat.lt_or_ge j t with q | q
          · exact .inr (.inr ⟨t, q, b, e⟩)
          · have : t = j := by omega
            subst this; exact .inl e.symm
    unfold mrgF
    by_cases hi : i < n
    · rw [decide_eq_true hi, cond_true]
      by_cases hj : j < m
      · rw [decide_eq_true hj, cond_true]
        rcases bool_cases (decide (c i < d j)) with e | e
        · rw [e, cond_true]; exact A hi
        · rw [e, cond_false]
          rcases bool_cases (decide (d j < c i)) with e' | e'
          · rw [e', cond_true]; exact B hj
          · rw [e', cond_false]
            have g1 := of_decide_eq_false e
            have g2 := of_decide_eq_false e'
            have heq : c i = d j := by omega
            rw [List.mem_cons, mrg_mem n c m d x k (i + 1) (j + 1) hi hj (hk3 hi hj)]
            clear A B
            constructor
            · rintro (e0 | ⟨t, a, b, e0⟩ | ⟨t, a, b, e0⟩)
              · exact .inl ⟨i, Nat.le_refl _, hi, e0.symm⟩
              · exact .inl ⟨t, by omega, b, e0⟩
              · exact .inr ⟨t, by omega, b, e0⟩
            · rintro (⟨t, a, b, e0⟩ | ⟨t, a, b, e0⟩)
              · rcases Nat.lt_or_ge i t with q | q
                · exact .inr (.inl ⟨t, q, b, e0⟩)
                · have hti : t = i := by omega
                  rw [hti] at e0
                  exact .inl e0.symm
              · rcases Nat.lt_or_ge j t with q | q
                · exact .inr (.inr ⟨t, q, b, e0⟩)
                · have hti : t = j := by omega
                  rw [hti] at e0
                  exact .inl (by rw [heq]; exact e0.symm)
      · rw [decide_eq_false hj, cond_false]; exact A hi
    · rw [decide_eq_false hi, cond_false]
      by_cases hj : j < m
      · rw [decide_eq_true hj, cond_true]; exact B hj
      · rw [decide_eq_false hj, cond_false]
        simp only [List.not_mem_nil, false_iff, not_or]
        exact ⟨fun ⟨t, a, b, _⟩ => by omega, fun ⟨t, a, b, _⟩ => by omega⟩

theorem mrg_lt {n : Nat} {c : Nat → Int} {m : Nat} {d : Nat → Int} (hc : ∀ i j, i < j → j < n → c i < c j) (hd : ∀ i j, i < j → j < m → d i < d j) : ∀ (k i j : Nat), i ≤ n → j ≤ m → (n - i) + (m - j) ≤ k → (mrgF n c m d k i j).Pairwise (· < ·)
  | 0, i, j, h1, h2, h3 => by simp [mrgF]
  | k + 1, i, j, h1, h2, h3 => by
    have hc' : ∀ i j, i ≤ j → j < n → c i ≤ c j := fun i j h1 h2 => by
      rcases Nat.lt_or_ge i j with q | q
      · exact Int.le_of_lt (hc i j q h2)
      · have : i = j := by omega
        subst this; exact Int.le_refl _
    have hd' : ∀ i j, i ≤ j → j < m → d i ≤ d j := fun i j h1 h2 => by
      rcases Nat.lt_or_ge i j with q | q
      · exact Int.le_of_lt (hd i j q h2)
      · have : i = j := by omega
        subst this; exact Int.le_refl _
    unfold mrgF
    by_cases hi : i < n
    · rw [decide_eq_true hi, cond_true]
      have A : (∀ t, j ≤ t → t < m → c i < d t) → (c i :: mrgF n c m d k (i + 1) j).Pairwise (· < ·) := fun hh => by
        refine List.pairwise_cons.2 ⟨fun x hx => ?_, mrg_lt hc hd k (i + 1) j hi h2 (by omega)⟩
        rcases (mrg_mem n c m d x k (i + 1) j hi h2 (by omega)).1 hx with ⟨t, a, b, e⟩ | ⟨t, a, b, e⟩
        · rw [← e]; exact hc i t (by omega) b
        · rw [← e]; exact hh t a b
      by_cases hj : j < m
      · rw [decide_eq_true hj, cond_true]
        rcases bool_cases (decide (c i < d j)) with e | e
        · rw [e, cond_true]
          exact A fun t a b => Int.lt_of_lt_of_le (of_decide_eq_true e) (hd' j t a b)
        · rw [e, cond_false]
          have g1 := of_decide_eq_false e
          rcases bool_cases (decide (d j < c i)) with e' | e'
          · rw [e', cond_true]
            have g2 := of_decide_eq_true e'
            refine List.pairwise_cons.2 ⟨fun x hx => ?_, mrg_lt hc hd k i (j + 1) h1 hj (by omega)⟩
            rcases (mrg_mem n c m d x k i (j + 1) h1 hj (by omega)).1 hx with ⟨t, a, b, e⟩ | ⟨t, a, b, e⟩
            · rw [← e]; exact Int.lt_of_lt_of_le g2 (hc' i t a b)
            · rw [← e]; exact hd j t (by omega) b
          · rw [e', cond_false]
            have g2 := of_decide_eq_false e'
            refine List.pairwise_cons.2 ⟨fun x hx => ?_, mrg_lt hc hd k (i + 1) (j + 1) hi hj (by omega)⟩
            rcases (mrg_mem n c m d x k (i + 1) (j + 1) hi hj (by omega)).1 hx with ⟨t, a, b, e⟩ | ⟨t, a, b, e⟩
            · rw [← e]; exact hc i t (by omega) b
            · rw [← e]
              have := hd j t (by omega) b
              omega
      · rw [decide_eq_false hj, cond_false]; exact A fun t a b => by omega
    · rw [decide_eq_false hi, cond_false]
      by_cases hj : j < m
      · rw [decide_eq_true hj, cond_true]
        refine List.pairwise_cons.2 ⟨fun x hx => ?_, mrg_lt hc hd k i (j + 1) h1 hj (by omega)⟩
        rcases (mrg_mem n c m d x k i (j + 1) h1 hj (by omega)).1 hx with ⟨t, a, b, e⟩ | ⟨t, a, b, e⟩
        · omega
        · rw [← e]; exact hd j t (by omega) b
      · rw [decide_eq_false hj, cond_false]; exact List.Pairwise.nil

theorem intsOf_listC (l : List Int) : intsOf l.length (listC l) = l := by
  unfold intsOf listC
  apply List.ext_getElem
  · simp
  · intro i h1 h2
    simp [h2]
theorem intsOf_len (n : Nat) (c : Nat → Int) : (intsOf n c).length = n := by simp [intsOf]
theorem srt_len (zs : List Int) : (srtI zs).length = zs.length := List.length_mergeSort zs

theorem merge_eq {n : Nat} {c : Nat → Int} {m : Nat} {d : Nat → Int} (Lc : Lines n c) (Ld : Lines m d) : compact (srtI (intsOf (n + m) (catC c n d))) = mrgF n c m d (n + m) 0 0 := by
  generalize hz : srtI (intsOf (n + m) (catC c n d)) = zs
  obtain ⟨h1, h2⟩ := compact_spec zs (by rw [← hz]; exact srt_le _) zs.length (Nat.le_refl _)
  refine eq_of_lt_mem _ _ h1 (mrg_lt Lc.up Ld.up _ 0 0 (Nat.zero_le _) (Nat.zero_le _) (by omega)) fun x => ?_
  rw [show compact zs = compactUpTo zs.toArray zs.length from rfl, h2 x, List.take_length, ← hz, srt_mem, mrg_mem n c m d x _ 0 0 (Nat.zero_le _) (Nat.zero_le _) (by omega)]
  simp only [intsOf, List.mem_map, List.mem_range]
  constructor
  · rintro ⟨t, a, e⟩
    unfold catC at e
    rcases bool_cases (Nat.ble n t) with q | q
    · have := Nat.le_of_ble_eq_true q
      rw [q, cond_true] at e
      exact .inr ⟨t - n, Nat.zero_le _, by omega, e⟩
    · rw [q, cond_false] at e
      exact .inl ⟨t, Nat.zero_le _, Nat.lt_of_not_le (fun q' => by rw [Nat.ble_eq_true_of_le q'] at q; cases q), e⟩
  · rintro (⟨t, _, b, e⟩ | ⟨t, _, b, e⟩)
    · refine ⟨t, by omega, ?_⟩
      unfold catC
      rw [show Nat.ble n t = false from Bool.eq_false_iff.2 fun q => by have := Nat.le_of_ble_eq_true q; omega]
      exact e
    · refine ⟨n + t, by omega, ?_⟩
      unfold catC
      rw [show Nat.ble n (n + t) = true from Nat.ble_eq_true_of_le (Nat.le_add_right _ _), cond_true, Nat.add_sub_cancel_left]
      exact e
theorem cOf_iget (c : Nat → Int) : cOf (iget c) = c := rfl
theorem int_list_srt (N : Nat) (c : Nat → Int) : intsOf N (listC (srtI (intsOf N c))) = srtI (intsOf N c) := by
  have h : (srtI (intsOf N c)).length = N := by rw [srt_len, intsOf_len]
  have := intsOf_listC (srtI (intsOf N c))
  rwa [h] at this
theorem iget_eta (c : Nat → Int) : (fun k => iget c k) = iget c := rfl
theorem anyF_all {p : Nat → Bool} : ∀ (k i : Nat), (∀ m, i ≤ m → m < i + k → p m = false) → anyF p k i = false
  | 0, _, _ => rfl
  | k + 1, i, h => by
    unfold anyF
    rw [h i (Nat.le_refl _) (by omega), cond_false]
    exact anyF_all k (i + 1) fun m h1 h2 => h m (by omega) (by omega)
theorem sameV_of {n m : Nat} {c d : Nat → Int} (hn : n = m) (h : ∀ i, i < n → c i = d i) : sameV n c m d = true := by
  subst hn
  unfold sameV
  rw [show ((n : Int) != (n : Int)) = false by simp, cond_false, anyF_all n 0 fun i _ hi => by simp [h i (by omega)]]
  rfl
theorem sameV_self (n : Nat) (c : Nat → Int) : sameV n c n c = true := sameV_of rfl fun _ _ => rfl
theorem gridN_le (f s m : Int) : gridN f s m ≤ 100 := by
  unfold gridN gridE
  rcases bool_cases (decide (s < 1)) with e | e
  · simp [e]
  rcases bool_cases (decide (s > 1000000)) with e1 | e1
  · simp [e, e1]
  rcases bool_cases (decide (m < 0)) with e2 | e2
  · simp [e, e1, e2]
  rcases bool_cases (decide (m > 100)) with e3 | e3
  · simp [e, e1, e2, e3]
  have := of_decide_eq_false e3
  rw [e, e1, e2, e3]
  rcases bool_cases (anyF (gridBad f s) m.toNat 0) with e4 | e4 <;> rw [e4] <;> simp <;> omega
theorem short_of {n : Nat} (h : n ≤ 1000) : short n = true := decide_eq_true (by omega)

end Go.Am
