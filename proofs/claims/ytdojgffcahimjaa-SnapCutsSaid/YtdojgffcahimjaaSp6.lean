/- The contract of score (its steps are printed by a program), and the plain law of the table: what a chain is, and that none is better. -/
import Derived.Test.YtdojgffcahimjaaSp3
namespace Go.Am
open Go.Proofs
set_option maxRecDepth 1000000
set_option maxHeartbeats 4000000
set_option linter.unusedVariables false
set_option linter.unusedSimpArgs false
/-- Function 17: gambrel/gambrellaw29.score. (Printed by a program.) -/
inductive scoS where
  | h0 (v8 : Int) (v9 : Int) (v10 : Int)
noncomputable def scoC (n0 : Nat) (c0 : Nat → Int) (n1 : Nat) (c1 : Nat → Int) (n2 : Nat) (c2 : Nat → Int) : scoS → Cfg
  | .h0 v8 v9 v10 => ⟨⟨44, 0, true⟩, none, (todoP Try.prog 17 [1, 1, 0, 1, 0, 0] 0), none, (resultsOf Try.prog 10), ⟨envL [(0, (.dat n0 (iget c0))), (1, (.dat n1 (iget c1))), (2, (.dat n2 (iget c2))), (8, (.int .i64 v8)), (9, (.int .i64 v9)), (10, (.int .i64 v10))], memL [] 0, 0, [], true⟩, [], .leaf⟩
noncomputable def scostep (n0 : Nat) (c0 : Nat → Int) (n1 : Nat) (c1 : Nat → Int) (n2 : Nat) (c2 : Nat → Int) : scoS → Out' scoS
  | .h0 v8 v9 v10 => (bif (decide (v10 < ((n2 : Nat) : Int))) then (bif (decide (v10 < ((n1 : Nat) : Int))) then (bif (hasV n0 c0 (c2 (Int.toNat v10))) then (bif (hasV_owed n0 c0 (c2 (Int.toNat v10))) then (bif ((decide (0 ≤ v10 ∧ v10 < ((n2 : Nat) : Int))) && true) then (bif ((decide (0 ≤ v10 ∧ v10 < ((n1 : Nat) : Int))) && true) then (.to (.h0 (IntKind.wrap IntKind.i64 (v8 + 1)) (IntKind.wrap IntKind.i64 (v9 + (apartV (c2 (Int.toNat v10)) (c1 (Int.toNat v10))))) (IntKind.wrap IntKind.i64 (v10 + 1)))) else .stuck) else .stuck) else .stuck) else (bif (hasV_owed n0 c0 (c2 (Int.toNat v10))) then (bif ((decide (0 ≤ v10 ∧ v10 < ((n2 : Nat) : Int))) && true) then (bif ((decide (0 ≤ v10 ∧ v10 < ((n1 : Nat) : Int))) && true) then (.to (.h0 v8 (IntKind.wrap IntKind.i64 (v9 + (apartV (c2 (Int.toNat v10)) (c1 (Int.toNat v10))))) (IntKind.wrap IntKind.i64 (v10 + 1)))) else .stuck) else .stuck) else .stuck)) else (.ret [(.int .i64 v8), (.int .i64 v9)])) else (.ret [(.int .i64 v8), (.int .i64 v9)]))
noncomputable def scostart (n0 : Nat) (c0 : Nat → Int) (n1 : Nat) (c1 : Nat → Int) (n2 : Nat) (c2 : Nat → Int) : Out' scoS := (.to (.h0 0 0 0))
theorem scostep_ok (n0 : Nat) (c0 : Nat → Int) (n1 : Nat) (c1 : Nat → Int) (n2 : Nat) (c2 : Nat → Int) : ∀ s, Lead Try.prog (resultsOf Try.prog 17) (scoC n0 c0 n1 c1 n2 c2) (scoC n0 c0 n1 c1 n2 c2 s) (scostep n0 c0 n1 c1 n2 c2 s)
  | .h0 v8 v9 v10 => (lead_bif (c := (decide (v10 < ((n2 : Nat) : Int)))) (fun k0 => (lead_bif (c := (decide (v10 < ((n1 : Nat) : Int)))) (fun k1 => (lead_bif (c := (hasV n0 c0 (c2 (Int.toNat v10)))) (fun k2 => (lead_owe (c := (hasV_owed n0 c0 (c2 (Int.toNat v10)))) fun o0 => (lead_owe (c := ((decide (0 ≤ v10 ∧ v10 < ((n2 : Nat) : Int))) && true)) fun o1 => (lead_owe (c := ((decide (0 ≤ v10 ∧ v10 < ((n1 : Nat) : Int))) && true)) fun o2 => (stretchO named mixed S8_ok (m := 100000) (d := 4) (n := 42) (N := ⟨[], [], [some [0, 1, 2, 8, 9, 10]], []⟩) [true, true, true, true, true, true] (((decide (0 ≤ v10 ∧ v10 < ((n1 : Nat) : Int))) && true) && (((decide (0 ≤ v10 ∧ v10 < ((n2 : Nat) : Int))) && true) && (((hasV n0 c0 (c2 (Int.toNat v10))) == true) && (((isI (iget c0)) && (hasV_owed n0 c0 (c2 (Int.toNat v10)))) && (((decide (0 ≤ v10 ∧ v10 < ((n2 : Nat) : Int))) && true) && (((decide (v10 < ((n1 : Nat) : Int))) == true) && (((decide (v10 < ((n2 : Nat) : Int))) == true) && true))))))) (by kernel_rfl) (by repeat' (first | with_reducible exact k0 | with_reducible exact k1 | with_reducible exact k2 | with_reducible exact o0 | with_reducible exact o1 | with_reducible exact o2 | with_reducible exact isI_iget _ | with_reducible exact flatG_iget _ | with_reducible exact flatG_nums _ | with_reducible exact flatG_none | with_reducible exact flatG_q4 _ | with_reducible exact flatRw_nil | apply flatRw_one | with_reducible exact flatRw_tab _ _ _ | with_reducible exact natbeq_self' _ | apply flatG_app | with_reducible exact datOk_iget _ _ | with_reducible exact datOk_num _ _ | with_reducible exact ne_self' _ | with_reducible exact eq_self' _ | with_reducible exact nne_self' _ | with_reducible exact neq_self' _ | rfl | apply ok_and | apply ok_beq | apply flatG_app | apply flatG_upd | apply flatG_cat | apply flatG_shift | with_reducible exact flatG_empty _ _)) rfl))))) (fun k2 => (lead_owe (c := (hasV_owed n0 c0 (c2 (Int.toNat v10)))) fun o0 => (lead_owe (c := ((decide (0 ≤ v10 ∧ v10 < ((n2 : Nat) : Int))) && true)) fun o1 => (lead_owe (c := ((decide (0 ≤ v10 ∧ v10 < ((n1 : Nat) : Int))) && true)) fun o2 => (stretchO named mixed S8_ok (m := 100000) (d := 4) (n := 38) (N := ⟨[], [], [some [0, 1, 2, 8, 9, 10]], []⟩) [true, true, true, true, true, false] (((decide (0 ≤ v10 ∧ v10 < ((n1 : Nat) : Int))) && true) && (((decide (0 ≤ v10 ∧ v10 < ((n2 : Nat) : Int))) && true) && (((hasV n0 c0 (c2 (Int.toNat v10))) == false) && (((isI (iget c0)) && (hasV_owed n0 c0 (c2 (Int.toNat v10)))) && (((decide (0 ≤ v10 ∧ v10 < ((n2 : Nat) : Int))) && true) && (((decide (v10 < ((n1 : Nat) : Int))) == true) && (((decide (v10 < ((n2 : Nat) : Int))) == true) && true))))))) (by kernel_rfl) (by repeat' (first | with_reducible exact k0 | with_reducible exact k1 | with_reducible exact k2 | with_reducible exact o0 | with_reducible exact o1 | with_reducible exact o2 | with_reducible exact isI_iget _ | with_reducible exact flatG_iget _ | with_reducible exact flatG_nums _ | with_reducible exact flatG_none | with_reducible exact flatG_q4 _ | with_reducible exact flatRw_nil | apply flatRw_one | with_reducible exact flatRw_tab _ _ _ | with_reducible exact natbeq_self' _ | apply flatG_app | with_reducible exact datOk_iget _ _ | with_reducible exact datOk_num _ _ | with_reducible exact ne_self' _ | with_reducible exact eq_self' _ | with_reducible exact nne_self' _ | with_reducible exact neq_self' _ | rfl | apply ok_and | apply ok_beq | apply flatG_app | apply flatG_upd | apply flatG_cat | apply flatG_shift | with_reducible exact flatG_empty _ _)) rfl))))))) (fun k1 => (lead_ret ⟨⟨44, 0, true⟩, none, (todoP Try.prog 3 [1, 1, 1, 1, 1, 1, 1, 0] 1), none, (resultsOf Try.prog 17), ⟨envL [(6, (.int .i64 v8)), (7, (.int .i64 v9))], memL [] 0, 0, [], true⟩, [], .leaf⟩ (stretchO named mixed S8_ok (m := 100000) (d := 4) (n := 23) (N := ⟨[], [], [some [6, 7]], []⟩) [true, true, true, true, false] (((decide (v10 < ((n1 : Nat) : Int))) == false) && (((decide (v10 < ((n2 : Nat) : Int))) == true) && true)) (by kernel_rfl) (by repeat' (first | with_reducible exact k0 | with_reducible exact k1 | with_reducible exact isI_iget _ | with_reducible exact flatG_iget _ | with_reducible exact flatG_nums _ | with_reducible exact flatG_none | with_reducible exact flatG_q4 _ | with_reducible exact flatRw_nil | apply flatRw_one | with_reducible exact flatRw_tab _ _ _ | with_reducible exact natbeq_self' _ | apply flatG_app | with_reducible exact datOk_iget _ _ | with_reducible exact datOk_num _ _ | with_reducible exact ne_self' _ | with_reducible exact eq_self' _ | with_reducible exact nne_self' _ | with_reducible exact neq_self' _ | rfl | apply ok_and | apply ok_beq | apply flatG_app | apply flatG_upd | apply flatG_cat | apply flatG_shift | with_reducible exact flatG_empty _ _)) rfl) rfl (by kernel_rfl))))) (fun k0 => (lead_ret ⟨⟨44, 0, true⟩, none, (todoP Try.prog 3 [1, 1, 1, 1, 1, 1, 1, 0] 1), none, (resultsOf Try.prog 17), ⟨envL [(6, (.int .i64 v8)), (7, (.int .i64 v9))], memL [] 0, 0, [], true⟩, [], .leaf⟩ (stretchO named mixed S8_ok (m := 100000) (d := 4) (n := 23) (N := ⟨[], [], [some [6, 7]], []⟩) [false, false, false, false, false] (((decide (v10 < ((n2 : Nat) : Int))) == false) && true) (by kernel_rfl) (by repeat' (first | with_reducible exact k0 | with_reducible exact isI_iget _ | with_reducible exact flatG_iget _ | with_reducible exact flatG_nums _ | with_reducible exact flatG_none | with_reducible exact flatG_q4 _ | with_reducible exact flatRw_nil | apply flatRw_one | with_reducible exact flatRw_tab _ _ _ | with_reducible exact natbeq_self' _ | apply flatG_app | with_reducible exact datOk_iget _ _ | with_reducible exact datOk_num _ _ | with_reducible exact ne_self' _ | with_reducible exact eq_self' _ | with_reducible exact nne_self' _ | with_reducible exact neq_self' _ | rfl | apply ok_and | apply ok_beq | apply flatG_app | apply flatG_upd | apply flatG_cat | apply flatG_shift | with_reducible exact flatG_empty _ _)) rfl) rfl (by kernel_rfl))))
theorem scostart_ok (n0 : Nat) (c0 : Nat → Int) (n1 : Nat) (c1 : Nat → Int) (n2 : Nat) (c2 : Nat → Int) : Lead Try.prog (resultsOf Try.prog 17) (scoC n0 c0 n1 c1 n2 c2) (startC Try.prog 17 [(.dat n0 (iget c0)), (.dat n1 (iget c1)), (.dat n2 (iget c2))] true []) (scostart n0 c0 n1 c1 n2 c2) := (stretchO named mixed S8_ok (m := 100000) (d := 4) (n := 17) (N := ⟨[], [], [some [0, 1, 2, 8, 9, 10]], []⟩) [] true (by kernel_rfl) (by repeat' (first | with_reducible exact isI_iget _ | with_reducible exact flatG_iget _ | with_reducible exact flatG_nums _ | with_reducible exact flatG_none | with_reducible exact flatG_q4 _ | with_reducible exact flatRw_nil | apply flatRw_one | with_reducible exact flatRw_tab _ _ _ | with_reducible exact natbeq_self' _ | apply flatG_app | with_reducible exact datOk_iget _ _ | with_reducible exact datOk_num _ _ | with_reducible exact ne_self' _ | with_reducible exact eq_self' _ | with_reducible exact nne_self' _ | with_reducible exact neq_self' _ | rfl | apply ok_and | apply ok_beq | apply flatG_app | apply flatG_upd | apply flatG_cat | apply flatG_shift | with_reducible exact flatG_empty _ _)) rfl)
theorem sco_ends (n0 : Nat) (c0 : Nat → Int) (n1 : Nat) (c1 : Nat → Int) (n2 : Nat) (c2 : Nat → Int) (n : Nat) (vs : List AVal) (h : goOn (scostep n0 c0 n1 c1 n2 c2) n (scostart n0 c0 n1 c1 n2 c2) = .ret vs) : Ends Try.prog (resultsOf Try.prog 17) (startC Try.prog 17 [(.dat n0 (iget c0)), (.dat n1 (iget c1)), (.dat n2 (iget c2))] true []) vs := by
  have := goOn_lead (scostep_ok n0 c0 n1 c1 n2 c2) n _ (scostart_ok n0 c0 n1 c1 n2 c2)
  rwa [h] at this

/-! ### The contract of score -/
def scoF (n0 : Nat) (c0 c1 c2 : Nat → Int) : Nat → Nat → Int → Int → Int × Int
  | 0, _, a, b => (a, b)
  | k + 1, i, a, b => scoF n0 c0 c1 c2 k (i + 1) (bif hasV n0 c0 (c2 i) then IntKind.wrap .i64 (a + 1) else a) (IntKind.wrap .i64 (b + apartV (c2 i) (c1 i)))
def scoV_0 (n0 : Nat) (c0 : Nat → Int) (n1 : Nat) (c1 : Nat → Int) (n2 : Nat) (c2 : Nat → Int) : Int := (scoF n0 c0 c1 c2 (min n1 n2) 0 0 0).1
def scoV_1 (n0 : Nat) (c0 : Nat → Int) (n1 : Nat) (c1 : Nat → Int) (n2 : Nat) (c2 : Nat → Int) : Int := (scoF n0 c0 c1 c2 (min n1 n2) 0 0 0).2
def scoV_owed (n0 : Nat) (c0 : Nat → Int) (n1 : Nat) (c1 : Nat → Int) (n2 : Nat) (c2 : Nat → Int) : Bool := short n0 && (decide (n1 ≤ 1000) && decide (n2 ≤ 1000))
theorem sco_go (n0 : Nat) (c0 : Nat → Int) (n1 : Nat) (c1 : Nat → Int) (n2 : Nat) (c2 : Nat → Int) (h0 : short n0 = true) (h1 : n1 ≤ 1000) (h2 : n2 ≤ 1000) : ∀ (k i : Nat) (a b : Int), i + k = min n1 n2 →
    goOn (scostep n0 c0 n1 c1 n2 c2) (k + 1) (.to (.h0 a b (i : Int))) = .ret [.int .i64 (scoF n0 c0 c1 c2 k i a b).1, .int .i64 (scoF n0 c0 c1 c2 k i a b).2]
  | 0, i, a, b, h => by
    rw [goOn_to]
    have ho : hasV_owed n0 c0 (c2 i) = true := h0
    rcases Nat.lt_or_ge i n2 with q | q
    · have k0 : decide ((i : Int) < (n2 : Int)) = true := decide_eq_true (by omega)
      have k1 : decide ((i : Int) < (n1 : Int)) = false := decide_eq_false (by omega)
      simp only [scostep, k0, k1, cond_true, cond_false]
      rfl
    · have k0 : decide ((i : Int) < (n2 : Int)) = false := decide_eq_false (by omega)
      simp only [scostep, k0, cond_false]
      rfl
  | k + 1, i, a, b, h => by
    have ho : hasV_owed n0 c0 (c2 i) = true := h0
    have k0 : decide ((i : Int) < (n2 : Int)) = true := decide_eq_true (by omega)
    have k1 : decide ((i : Int) < (n1 : Int)) = true := decide_eq_true (by omega)
    have a1 := in_range (i := i) (n := n2) (by omega)
    have a2 := in_range (i := i) (n := n1) (by omega)
    have wi : IntKind.wrap .i64 ((i : Int) + 1) = ((i + 1 : Nat) : Int) := w_nat (i := i) (by omega)
    rw [goOn_to]
    unfold scoF
    rcases bool_cases (hasV n0 c0 (c2 i)) with e | e
    · simp only [scostep, k0, k1, a1, a2, wi, ho, e, cond_true, Int.toNat_natCast]
      exact sco_go n0 c0 n1 c1 n2 c2 h0 h1 h2 k (i + 1) _ _ (by omega)
    · simp only [scostep, k0, k1, a1, a2, wi, ho, e, cond_true, cond_false, Int.toNat_natCast]
      exact sco_go n0 c0 n1 c1 n2 c2 h0 h1 h2 k (i + 1) _ _ (by omega)
noncomputable def fSco : List AVal → Option (AVal × Bool)
  | [.dat n g, .dat m e, .dat k u] => some (.tup [.int .i64 (scoV_0 n (cOf g) m (cOf e) k (cOf u)), .int .i64 (scoV_1 n (cOf g) m (cOf e) k (cOf u))], isI g && (isI e && (isI u && scoV_owed n (cOf g) m (cOf e) k (cOf u))))
  | _ => none
noncomputable def Sb : Specs := Sa.with 17 fSco
theorem Sb_ok : SpecsOk Try.prog Sb := by
  refine with_ends Sa_ok (by kernel_rfl) ?_
  intro args v h
  unfold fSco at h
  split at h
  · rename_i n g m e k u
    simp only [Option.some.injEq, Prod.mk.injEq, Bool.and_eq_true] at h
    obtain ⟨rfl, h1, h2, h3, h4⟩ := h
    obtain ⟨c, rfl⟩ := isI_spec h1
    obtain ⟨d, rfl⟩ := isI_spec h2
    obtain ⟨q, rfl⟩ := isI_spec h3
    unfold scoV_owed at h4
    rw [Bool.and_eq_true, Bool.and_eq_true] at h4
    exact ⟨[_, _], rfl, sco_ends n c m d k q (min m k + 1) _ (sco_go n c m d k q h4.1 (of_decide_eq_true h4.2.1) (of_decide_eq_true h4.2.2) (min m k) 0 0 0 (Nat.zero_add _)), 3, rfl⟩
  · cases h

namespace Kp
/-! ### The plain law of the table -/
theorem rowL_pl (onF dF : Int → Int) (nxt : Option (List Opt)) : ∀ (P : List Int) (o : Opt), o ∈ rowL onF dF nxt P → o.pl ∈ P
  | [], o, h => by cases h
  | p :: P, o, h => by
    have ih := rowL_pl onF dF nxt P o
    unfold rowL at h
    cases nxt with
    | none =>
      rcases List.mem_cons.1 h with rfl | h
      · exact List.mem_cons_self
      · exact List.mem_cons_of_mem _ (ih h)
    | some L =>
      simp only at h
      rcases bool_cases (decide (scanI L p L.length 0 (-1) < 0)) with e | e <;> rw [e] at h
      · exact List.mem_cons_of_mem _ (ih h)
      · rcases List.mem_cons.1 h with rfl | h
        · exact List.mem_cons_self
        · exact List.mem_cons_of_mem _ (ih h)

theorem nrF_mem {mid : Bool} {c : Nat → Int} {a w y : Int} : ∀ (k j : Nat), y ∈ nrF mid c a w k j → ∃ t, j ≤ t ∧ t < j + k ∧ c t = y ∧ mid = true ∧ (c t != a) = true ∧ absV (IntKind.wrap .i64 (c t - a)) ≤ w
  | 0, j, h => by cases h
  | k + 1, j, h => by
    unfold nrF at h
    rcases List.mem_append.1 h with h | h
    · cases mid with
      | false => cases h
      | true =>
        rcases bool_cases (c j != a) with e1 | e1 <;> rw [e1] at h
        · rcases bool_cases (decide (absV (IntKind.wrap .i64 (c j - a)) ≤ w)) with e2 | e2 <;> rw [e2] at h
          · have : y = c j := List.mem_singleton.1 h
            exact ⟨j, Nat.le_refl _, by omega, this.symm, rfl, e1, of_decide_eq_true e2⟩
          · cases h
        · cases h
    · obtain ⟨t, a1, a2, a3⟩ := nrF_mem k (j + 1) h
      exact ⟨t, by omega, by omega, a3⟩
theorem prP_spec {n0 : Nat} {c0 : Nat → Int} {n1 : Nat} {c1 : Nat → Int} {w : Int} {i : Nat} {y : Int} (h : y ∈ prP n0 c0 n1 c1 w i) : y = c1 i ∨ ∃ t, t < n0 ∧ c0 t = y ∧ midP n1 i = true ∧ (c0 t != c1 i) = true ∧ absV (IntKind.wrap .i64 (c0 t - c1 i)) ≤ w := by
  unfold prP at h
  rw [srt_mem, List.mem_append] at h
  rcases h with h | h
  · exact .inl (List.mem_singleton.1 h)
  · obtain ⟨t, _, a2, a3⟩ := nrF_mem n0 0 h
    exact .inr ⟨t, by omega, a3⟩

theorem chainL_mem {T : Nat → List Opt} {n : Nat} (hnx : ∀ i a, i + 1 < n → a < (T i).length → 0 ≤ (oAt (T i) a).nx ∧ (oAt (T i) a).nx < (T (i + 1)).length) :
    ∀ (k i : Nat) (a : Int), i + k = n → (k = 0 ∨ (0 ≤ a ∧ a < (T i).length)) → ∀ y, y ∈ chainL T k i a → ∃ r o, i ≤ r ∧ r < n ∧ o ∈ T r ∧ o.pl = y
  | 0, _, _, _, _, y, h => by cases h
  | k + 1, i, a, hk, ha, y, h => by
    obtain ⟨ha0, ha1⟩ := ha.resolve_left (by omega)
    have hal : a.toNat < (T i).length := by omega
    unfold chainL at h
    rcases List.mem_cons.1 h with rfl | h
    · exact ⟨i, _, Nat.le_refl _, by omega, oAt_mem hal, rfl⟩
    · obtain ⟨r, o, h1, h2, h3⟩ := chainL_mem hnx k (i + 1) _ (by omega) (by
        cases k with
        | zero => exact .inl rfl
        | succ k => exact .inr (hnx i a.toNat (by omega) hal)) y h
      exact ⟨r, o, by omega, h2, h3⟩

theorem tabP_pl {n0 : Nat} {c0 : Nat → Int} {n1 : Nat} {c1 : Nat → Int} {w : Int} {i : Nat} (hi : i < n1) {o : Opt} (h : o ∈ tabP n0 c0 n1 c1 w i) : o.pl ∈ prP n0 c0 n1 c1 w i := by
  unfold tabP at h
  by_cases e : i + 1 = n1
  · rw [tabI_last _ _ _ e] at h; exact rowL_pl _ _ _ _ _ h
  · rw [tabI_next _ _ _ (by omega)] at h; exact rowL_pl _ _ _ _ _ h

structure ValidL (n : Nat) (c : Nat → Int) (m : Nat) (d : Nat → Int) (w : Int) : Prop where
  n40 : n ≤ 40
  m40 : m ≤ 40
  chkn : (chkV n c != 0) = false
  chkm : (chkV m d != 0) = false
  w0 : ¬ w < 0
  w2 : ¬ w > 2000000
theorem valid_spec {n : Nat} {c : Nat → Int} {m : Nat} {d : Nat → Int} {w : Int} (h : validV n c m d w = true) : ValidL n c m d w := by
  unfold validV at h
  rcases bool_cases (decide ((n : Int) ≤ 40)) with e1 | e1 <;> rw [e1] at h
  · rcases bool_cases (decide ((m : Int) ≤ 40)) with e2 | e2 <;> rw [e2] at h
    · rcases bool_cases (chkV n c == 0) with e3 | e3 <;> rw [e3] at h
      · rcases bool_cases (chkV m d == 0) with e4 | e4 <;> rw [e4] at h
        · rcases bool_cases (decide (w ≥ 0)) with e5 | e5 <;> rw [e5] at h
          · have g1 := of_decide_eq_true e1
            have g2 := of_decide_eq_true e2
            have g5 := of_decide_eq_true e5
            have g6 : w ≤ 2000000 := of_decide_eq_true h
            have g3 : chkV n c = 0 := by simpa using e3
            have g4 : chkV m d = 0 := by simpa using e4
            exact ⟨by omega, by omega, by rw [g3]; rfl, by rw [g4]; rfl, by omega, by omega⟩
          · cases h
        · cases h
      · cases h
    · cases h
  · cases h
theorem ValidL.err {n : Nat} {c : Nat → Int} {m : Nat} {d : Nat → Int} {w : Int} (V : ValidL n c m d w) : cutsE n c m d w = 0 := by
  simp only [cutsE, V.chkn, V.chkm, decide_eq_false V.w0, decide_eq_false V.w2, cond_false]


theorem bet_iff (a b c d : Int) : betV a b c d = true ↔ (a > c ∨ (a = c ∧ b < d)) := by
  unfold betV
  by_cases h : a > c
  · rw [decide_eq_true h]; exact ⟨fun _ => .inl h, fun _ => rfl⟩
  · rw [decide_eq_false h, cond_false]
    by_cases e : a = c
    · rw [show (a == c) = true by simp [e], cond_true, decide_eq_true_iff]
      exact ⟨fun g => .inr ⟨e, g⟩, fun g => by omega⟩
    · rw [show (a == c) = false by simp [e], cond_false]
      exact ⟨fun g => (Bool.noConfusion g), fun g => by omega⟩

theorem bet_false {a b c d : Int} (h : betV a b c d = false) : ¬ (a > c ∨ (a = c ∧ b < d)) := fun g => by
  rw [(bet_iff a b c d).2 g] at h; cases h

/-- nx is the best option behind p of the first j (the first such), or there is none. -/
def Best (L : List Opt) (p : Int) (j : Nat) (nx : Int) : Prop :=
  (nx < 0 ∧ ∀ t, t < j → ¬ (oAt L t).pl > p) ∨
  (0 ≤ nx ∧ nx < j ∧ (oAt L nx.toNat).pl > p ∧ ∀ t, t < j → (oAt L t).pl > p →
    ¬ ((oAt L t).on > (oAt L nx.toNat).on ∨ ((oAt L t).on = (oAt L nx.toNat).on ∧ (oAt L t).sm < (oAt L nx.toNat).sm)) ∧
    ((oAt L t).on = (oAt L nx.toNat).on → (oAt L t).sm = (oAt L nx.toNat).sm → nx ≤ t))
theorem scan_best (L : List Opt) (p : Int) : ∀ (k j : Nat) (nx : Int), Best L p j nx → Best L p (j + k) (scanI L p k j nx)
  | 0, j, nx, h => h
  | k + 1, j, nx, h => by
    rw [scanI_succ, show j + (k + 1) = j + 1 + k by omega]
    refine scan_best L p k (j + 1) _ ?_
    rcases bool_cases (decide ((oAt L j).pl > p)) with e | e <;> rw [e]
    · have e' := of_decide_eq_true e
      rw [cond_true]
      rcases h with ⟨h1, h2⟩ | ⟨h1, h2, h3, h4⟩
      · rw [decide_eq_true h1, cond_true]
        refine .inr ⟨by omega, by omega, by rw [Int.toNat_natCast]; exact e', fun t ht hp => ?_⟩
        rcases Nat.lt_or_ge t j with q | q
        · exact absurd hp (h2 t q)
        · have : t = j := by omega
          subst this
          rw [Int.toNat_natCast]
          exact ⟨by omega, fun _ _ => Int.le_refl _⟩
      · rw [decide_eq_false (by omega : ¬ nx < 0), cond_false]
        rcases bool_cases (betV (oAt L j).on (oAt L j).sm (oAt L nx.toNat).on (oAt L nx.toNat).sm) with b | b
        · rw [b, cond_true]
          have b' := (bet_iff _ _ _ _).1 b
          refine .inr ⟨by omega, by omega, by rw [Int.toNat_natCast]; exact e', fun t ht hp => ?_⟩
          rw [Int.toNat_natCast]
          rcases Nat.lt_or_ge t j with q | q
          · have g := (h4 t q hp).1
            exact ⟨by omega, fun a1 a2 => by omega⟩
          · have : t = j := by omega
            subst this
            exact ⟨by omega, fun _ _ => Int.le_refl _⟩
        · rw [b, cond_false]
          have b' := bet_false b
          refine .inr ⟨h1, by omega, h3, fun t ht hp => ?_⟩
          rcases Nat.lt_or_ge t j with q | q
          · exact h4 t q hp
          · have : t = j := by omega
            subst this
            exact ⟨b', fun _ _ => by omega⟩
    · have e' := of_decide_eq_false e
      rw [cond_false]
      rcases h with ⟨h1, h2⟩ | ⟨h1, h2, h3, h4⟩
      · refine .inl ⟨h1, fun t ht => ?_⟩
        rcases Nat.lt_or_ge t j with q | q
        · exact h2 t q
        · have : t = j := by omega
          subst this; exact e'
      · refine .inr ⟨h1, by omega, h3, fun t ht hp => ?_⟩
        rcases Nat.lt_or_ge t j with q | q
        · exact h4 t q hp
        · have : t = j := by omega
          subst this; exact absurd hp e'

theorem rowL_some (onF dF : Int → Int) (L : List Opt) : ∀ (P : List Int) (o : Opt), o ∈ rowL onF dF (some L) P → o.nx = scanI L o.pl L.length 0 (-1) ∧ ¬ o.nx < 0 ∧ o.on = wadd (onF o.pl) (oAt L o.nx.toNat).on ∧ o.sm = wadd (dF o.pl) (oAt L o.nx.toNat).sm
  | [], o, h => by cases h
  | p :: P, o, h => by
    have ih := rowL_some onF dF L P o
    unfold rowL at h
    simp only at h
    rcases bool_cases (decide (scanI L p L.length 0 (-1) < 0)) with e | e <;> rw [e] at h
    · exact ih h
    · rw [cond_false] at h
      rcases List.mem_cons.1 h with rfl | h
      · exact ⟨rfl, of_decide_eq_false e, rfl, rfl⟩
      · exact ih h
theorem rowL_none (onF dF : Int → Int) : ∀ (P : List Int) (o : Opt), o ∈ rowL onF dF none P → o.on = onF o.pl ∧ o.sm = dF o.pl
  | [], o, h => by cases h
  | p :: P, o, h => by
    have ih := rowL_none onF dF P o
    unfold rowL at h
    rcases List.mem_cons.1 h with rfl | h
    · exact ⟨rfl, rfl⟩
    · exact ih h
theorem rowL_up (onF dF : Int → Int) (nxt : Option (List Opt)) : ∀ P : List Int, P.Pairwise (· < ·) → (rowL onF dF nxt P).Pairwise (fun a b => a.pl < b.pl)
  | [], _ => List.Pairwise.nil
  | p :: P, h => by
    obtain ⟨h1, h2⟩ := List.pairwise_cons.1 h
    have ih := rowL_up onF dF nxt P h2
    have hh : ∀ o, o ∈ rowL onF dF nxt P → p < o.pl := fun o ho => h1 _ (rowL_pl _ _ _ _ _ ho)
    unfold rowL
    cases nxt with
    | none => exact List.pairwise_cons.2 ⟨hh, ih⟩
    | some L =>
      simp only
      rcases bool_cases (decide (scanI L p L.length 0 (-1) < 0)) with e | e <;> rw [e]
      · exact ih
      · exact List.pairwise_cons.2 ⟨hh, ih⟩

/-- Places from cut i on: each of the cut's places, and they rise. -/
def Feas (P : Nat → List Int) : Nat → List Int → Prop
  | _, [] => True
  | i, q :: Q => q ∈ P i ∧ (∀ r R, Q = r :: R → q < r) ∧ Feas P (i + 1) Q
def cntL (onF : Int → Int) : List Int → Int
  | [] => 0
  | q :: Q => onF q + cntL onF Q
def sumL (dF : Nat → Int → Int) : Nat → List Int → Int
  | _, [] => 0
  | i, q :: Q => dF i q + sumL dF (i + 1) Q
def lexL : List Int → List Int → Prop
  | [], _ => True
  | _ :: _, [] => False
  | a :: A, b :: B => a < b ∨ (a = b ∧ lexL A B)

section
variable (onF : Int → Int) (dF : Nat → Int → Int) (P : Nat → List Int) (n : Nat)

structure Fine (i d j : Nat) : Prop where
  feas : Feas P i (chainL (tabI onF dF P n) (d + 1) i j)
  cnt : cntL onF (chainL (tabI onF dF P n) (d + 1) i j) = (oAt (tabI onF dF P n i) j).on
  sum : sumL dF i (chainL (tabI onF dF P n) (d + 1) i j) = (oAt (tabI onF dF P n i) j).sm
  on0 : 0 ≤ (oAt (tabI onF dF P n i) j).on
  on1 : (oAt (tabI onF dF P n i) j).on ≤ (d : Int) + 1
  sm0 : 0 ≤ (oAt (tabI onF dF P n i) j).sm
  sm1 : (oAt (tabI onF dF P n i) j).sm ≤ 2000000 * ((d : Int) + 1)
  best : ∀ R, R.length = d → Feas P i ((oAt (tabI onF dF P n i) j).pl :: R) →
    ¬ (cntL onF ((oAt (tabI onF dF P n i) j).pl :: R) > (oAt (tabI onF dF P n i) j).on ∨ (cntL onF ((oAt (tabI onF dF P n i) j).pl :: R) = (oAt (tabI onF dF P n i) j).on ∧ sumL dF i ((oAt (tabI onF dF P n i) j).pl :: R) < (oAt (tabI onF dF P n i) j).sm)) ∧
    (cntL onF ((oAt (tabI onF dF P n i) j).pl :: R) = (oAt (tabI onF dF P n i) j).on → sumL dF i ((oAt (tabI onF dF P n i) j).pl :: R) = (oAt (tabI onF dF P n i) j).sm → lexL (chainL (tabI onF dF P n) (d + 1) i j) ((oAt (tabI onF dF P n i) j).pl :: R))

theorem chainL_head (T : Nat → List Opt) (d i j : Nat) : chainL T (d + 1) i j = (oAt (T i) j).pl :: chainL T d (i + 1) (oAt (T i) j).nx := by
  rw [chainL, Int.toNat_natCast]

theorem fine (hn : n ≤ 100) (hon : ∀ p, 0 ≤ onF p ∧ onF p ≤ 1) (hd : ∀ i p, i < n → p ∈ P i → 0 ≤ dF i p ∧ dF i p ≤ 2000000) (hs : ∀ i, i < n → (P i).Pairwise (· < ·)) :
    ∀ d i, i + d + 1 = n → (∀ j, j < (tabI onF dF P n i).length → Fine onF dF P n i d j) ∧ (∀ q R, List.length R = d → Feas P i (q :: R) → ∃ j, j < (tabI onF dF P n i).length ∧ (oAt (tabI onF dF P n i) j).pl = q)
  | 0, i, h => by
    have hT := tabI_last onF dF P (n := n) (i := i) (by omega)
    refine ⟨fun j hj => ?_, fun q R hR hF => ?_⟩
    · have hm := oAt_mem hj
      have hm' := hm
      rw [hT] at hm'
      obtain ⟨e1, e2⟩ := rowL_none _ _ _ _ hm'
      have e3 := rowL_pl _ _ _ _ _ hm'
      rw [← hT] at e1 e2 e3
      have g1 := hon (oAt (tabI onF dF P n i) j).pl
      have g2 := hd i _ (by omega) e3
      have hc : chainL (tabI onF dF P n) (0 + 1) i j = [(oAt (tabI onF dF P n i) j).pl] := by rw [chainL_head]; rfl
      refine ⟨?_, ?_, ?_, by omega, by omega, by omega, by omega, fun R hR hF => ?_⟩
      · rw [hc]; exact ⟨e3, (fun r R h => by cases h), trivial⟩
      · rw [hc, e1]; simp [cntL]
      · rw [hc, e2]; simp [sumL]
      · have : R = [] := List.length_eq_zero_iff.1 hR
        subst this
        simp only [cntL, sumL]
        refine ⟨by omega, fun _ _ => ?_⟩
        rw [hc]
        exact .inr ⟨rfl, trivial⟩
    · obtain ⟨o, h1, h2⟩ := rowL_has onF (dF i) none q (fun L e => by cases e) (P i) hF.1
      rw [← hT] at h1
      obtain ⟨j, h3, h4⟩ := mem_oAt h1
      exact ⟨j, h3, by rw [h4, h2]⟩
  | d + 1, i, h => by
    have hT := tabI_next onF dF P (n := n) (i := i) (by omega)
    obtain ⟨ih1, ih2⟩ := fine hn hon hd hs d (i + 1) (by omega)
    refine ⟨fun j hj => ?_, fun q R hR hF => ?_⟩
    · have hm := oAt_mem hj
      have hm' := hm
      rw [hT] at hm'
      obtain ⟨e0, e00, e1, e2⟩ := rowL_some _ _ _ _ _ hm'
      have e3 := rowL_pl _ _ _ _ _ hm'
      rw [← hT] at e0 e00 e1 e2 e3
      have hup : ∀ a b, a < b → b < (tabI onF dF P n (i + 1)).length → (oAt (tabI onF dF P n (i + 1)) a).pl < (oAt (tabI onF dF P n (i + 1)) b).pl := by
        have hp : (tabI onF dF P n (i + 1)).Pairwise (fun a b => a.pl < b.pl) := by
          by_cases e : i + 1 + 1 = n
          · rw [tabI_last _ _ _ e]; exact rowL_up _ _ _ _ (hs _ (by omega))
          · rw [tabI_next _ _ _ (show i + 1 + 1 < n by omega)]; exact rowL_up _ _ _ _ (hs _ (by omega))
        intro a b hab hb
        have := List.pairwise_iff_getElem.1 hp a b (by omega) hb hab
        unfold oAt
        simpa [show a < (tabI onF dF P n (i + 1)).length by omega, hb] using this
      have g1 := hon (oAt (tabI onF dF P n i) j).pl
      have g2 := hd i _ (by omega) e3
      generalize hL : tabI onF dF P n (i + 1) = L at *
      generalize ho : oAt (tabI onF dF P n i) j = o at *
      have hb := scan_best L o.pl L.length 0 (-1) (.inl ⟨by omega, fun t ht => absurd ht (Nat.not_lt_zero _)⟩)
      rw [Nat.zero_add, ← e0] at hb
      rcases hb with ⟨hb, _⟩ | ⟨b1, b2, b3, b4⟩
      · exact absurd hb e00
      obtain ⟨m, hmx⟩ : ∃ m : Nat, o.nx = m := ⟨o.nx.toNat, by omega⟩
      rw [hmx, Int.toNat_natCast] at e1 e2 b3 b4
      have hml : m < L.length := by omega
      have hc : chainL (tabI onF dF P n) (d + 1 + 1) i j = o.pl :: chainL (tabI onF dF P n) (d + 1) (i + 1) m := by rw [chainL_head, ho, hmx]
      have hc' : chainL (tabI onF dF P n) (d + 1) (i + 1) m = (oAt L m).pl :: chainL (tabI onF dF P n) d (i + 1 + 1) (oAt L m).nx := by rw [chainL_head, hL]
      obtain ⟨p1, p2, p3, p4, p5, p6, p7, _⟩ := ih1 m hml
      rw [hL] at p2 p3 p4 p5 p6 p7
      have e1 : o.on = onF o.pl + (oAt L m).on := by rw [e1]; exact w_in (by omega) (by omega)
      have e2 : o.sm = dF i o.pl + (oAt L m).sm := by rw [e2]; exact w_in (by omega) (by omega)
      refine ⟨?_, ?_, ?_, ?_, ?_, ?_, ?_, fun R hR hF => ?_⟩
      · rw [hc]
        refine ⟨e3, fun r R h => ?_, p1⟩
        rw [hc'] at h
        obtain ⟨rfl, _⟩ := List.cons.inj h
        exact b3
      · rw [hc, ho]
        show onF o.pl + cntL onF _ = _
        omega
      · rw [hc, ho]
        show dF i o.pl + sumL dF (i + 1) _ = _
        omega
      · rw [ho]; omega
      · rw [ho]; omega
      · rw [ho]; omega
      · rw [ho]; omega
      · rw [ho] at hF ⊢
        rw [hc]
        cases R with
        | nil => cases hR
        | cons r R =>
          obtain ⟨f1, f2, f3⟩ := hF
          have f2 := f2 r R rfl
          have hR' : R.length = d := by simpa using hR
          obtain ⟨t, h1, h2⟩ := ih2 r R hR' f3
          have G := (ih1 t h1).best R hR'
          rw [hL, h2] at G
          obtain ⟨G1, G2⟩ := G f3
          obtain ⟨B1, B2⟩ := b4 t h1 (by omega)
          have u1 : cntL onF (o.pl :: r :: R) = onF o.pl + cntL onF (r :: R) := rfl
          have u2 : sumL dF i (o.pl :: r :: R) = dF i o.pl + sumL dF (i + 1) (r :: R) := rfl
          rw [u1, u2]
          generalize cntL onF (r :: R) = x at *
          generalize sumL dF (i + 1) (r :: R) = y at *
          refine ⟨by omega, fun x1 x2 => .inr ⟨rfl, ?_⟩⟩
          have q1 : (oAt L t).on = (oAt L m).on := by omega
          have q2 : (oAt L t).sm = (oAt L m).sm := by omega
          have q3 := B2 q1 q2
          by_cases q : m = t
          · subst q
            exact G2 (by omega) (by omega)
          · rw [hc']
            exact .inl (by have := hup m t (by omega) h1; omega)
    · obtain ⟨f1, f2, f3⟩ := hF
      cases R with
      | nil => cases hR
      | cons r R =>
        have hR' : R.length = d := by simpa using hR
        obtain ⟨j', h1, h2⟩ := ih2 r R hR' f3
        obtain ⟨o, h3, h4⟩ := rowL_has onF (dF i) (some (tabI onF dF P n (i + 1))) q (fun L e => by
          obtain rfl := Option.some.inj e
          exact ⟨_, oAt_mem h1, by rw [h2]; exact f2 r R rfl⟩) (P i) f1
        rw [← hT] at h3
        obtain ⟨j, h5, h6⟩ := mem_oAt h3
        exact ⟨j, h5, by rw [h6, h4]⟩
end

/-! ### What Cuts of the program gives -/
theorem anyF_iff (p : Nat → Bool) : ∀ k i, anyF p k i = true ↔ ∃ m, i ≤ m ∧ m < i + k ∧ p m = true
  | 0, i => ⟨fun h => (by cases h), fun ⟨m, a, b, _⟩ => by omega⟩
  | k + 1, i => by
    unfold anyF
    rcases bool_cases (p i) with e | e <;> rw [e]
    · exact ⟨fun _ => ⟨i, Nat.le_refl _, by omega, e⟩, fun _ => rfl⟩
    · rw [cond_false, anyF_iff p k (i + 1)]
      refine ⟨fun ⟨m, a, b, c⟩ => ⟨m, by omega, by omega, c⟩, fun ⟨m, a, b, c⟩ => ⟨m, ?_, by omega, c⟩⟩
      rcases Nat.lt_or_ge i m with q | q
      · exact q
      · have : m = i := by omega
        subst this
        rw [e] at c; cases c
theorem has_iff (n : Nat) (c : Nat → Int) (x : Int) : hasV n c x = true ↔ ∃ i, i < n ∧ c i = x := by
  unfold hasV
  rw [anyF_iff]
  exact ⟨fun ⟨m, _, b, h⟩ => ⟨m, by omega, by simpa using h⟩, fun ⟨m, b, h⟩ => ⟨m, Nat.zero_le _, by omega, by simpa using h⟩⟩
theorem bs1_has {n : Nat} {c : Nat → Int} (L : Lines n c) (x : Int) : bsV_1 n c x = hasV n c x := by
  rw [Bool.eq_iff_iff, has_iff]
  obtain ⟨b1, b2, b3⟩ := bs_spec (x := x) L
  unfold bsV_1
  generalize bsN n c x = j at *
  constructor
  · intro h
    rcases Nat.lt_or_ge j n with q | q
    · rw [decide_eq_true q, cond_true] at h
      exact ⟨j, q, by simpa using h⟩
    · rw [decide_eq_false (by omega), cond_false] at h; cases h
  · rintro ⟨i, hi, e⟩
    have hji : j ≤ i := by
      rcases Nat.lt_or_ge i j with q | q
      · have := b2 i q; omega
      · exact q
    have hj : j < n := by omega
    have g := b3 j (Nat.le_refl _) hj
    have g2 : c j ≤ c i := by
      rcases Nat.lt_or_ge j i with q | q
      · have := L.up j i q hi; omega
      · have : j = i := by omega
        rw [this]; exact Int.le_refl _
    rw [decide_eq_true hj, cond_true]
    simp only [beq_iff_eq]; omega
theorem on_has {n : Nat} {c : Nat → Int} (L : Lines n c) (x : Int) : onP n c x = bif hasV n c x then 1 else 0 := by unfold onP; rw [bs1_has L]
theorem on_01 (n : Nat) (c : Nat → Int) (x : Int) : 0 ≤ onP n c x ∧ onP n c x ≤ 1 := by
  unfold onP
  rcases bool_cases (bsV_1 n c x) with e | e <;> rw [e]
  · exact ⟨by decide, by decide⟩
  · exact ⟨by decide, by decide⟩
theorem d_apart {c : Nat → Int} {i : Nat} {p : Int} (h1 : -1000000 ≤ p) (h2 : p ≤ 1000000) (h3 : -1000000 ≤ c i) (h4 : c i ≤ 1000000) : dP c i p = apartV p (c i) ∧ 0 ≤ dP c i p ∧ dP c i p ≤ 2000000 ∧ dP c i p = max (p - c i) (c i - p) := by
  have e1 : dP c i p = max (p - c i) (-(p - c i)) := by
    unfold dP
    rw [w_in (by omega) (by omega), abs_eq' (by omega) (by omega)]
  have e2 : apartV p (c i) = max (p - c i) (c i - p) := apart_eq h1 h2 (by omega) (by omega)
  omega

theorem mem_nrF {mid : Bool} {c : Nat → Int} {a w : Int} (hm : mid = true) {t : Nat} (h1 : (c t != a) = true) (h2 : absV (IntKind.wrap .i64 (c t - a)) ≤ w) : ∀ (k j : Nat), j ≤ t → t < j + k → c t ∈ nrF mid c a w k j
  | 0, j, a1, a2 => by omega
  | k + 1, j, a1, a2 => by
    unfold nrF
    rw [List.mem_append]
    rcases Nat.lt_or_ge j t with q | q
    · exact .inr (mem_nrF hm h1 h2 k (j + 1) q (by omega))
    · have : t = j := by omega
      subst this
      rw [hm, h1, decide_eq_true h2]
      exact .inl (List.mem_singleton.2 rfl)
theorem nrF_up {n : Nat} {c : Nat → Int} (L : Lines n c) (mid : Bool) (a w : Int) : ∀ (k j : Nat), j + k ≤ n → (nrF mid c a w k j).Pairwise (· < ·)
  | 0, j, _ => List.Pairwise.nil
  | k + 1, j, h => by
    have ih := nrF_up L mid a w k (j + 1) (by omega)
    have hh : ∀ y, y ∈ nrF mid c a w k (j + 1) → c j < y := fun y hy => by
      obtain ⟨t, a1, a2, rfl, _⟩ := nrF_mem k (j + 1) hy
      exact L.up j t (by omega) (by omega)
    unfold nrF
    cases mid with
    | false => exact ih
    | true =>
      rcases bool_cases (c j != a) with e1 | e1 <;> rw [e1]
      · rcases bool_cases (decide (absV (IntKind.wrap .i64 (c j - a)) ≤ w)) with e2 | e2 <;> rw [e2]
        · exact List.pairwise_cons.2 ⟨hh, ih⟩
        · exact ih
      · exact ih

section
variable {n0 : Nat} {c0 : Nat → Int} {n1 : Nat} {c1 : Nat → Int} {w : Int}
theorem prP_up (L0 : Lines n0 c0) (i : Nat) : (prP n0 c0 n1 c1 w i).Pairwise (· < ·) := by
  have h1 := nrF_up L0 (midP n1 i) (c1 i) w n0 0 (by omega)
  have h2 : ([c1 i] ++ nrF (midP n1 i) c0 (c1 i) w n0 0).Nodup := by
    refine List.nodup_cons.2 ⟨fun h => ?_, h1.imp fun h => by omega⟩
    obtain ⟨t, _, _, e, _, e2, _⟩ := nrF_mem n0 0 h
    rw [e] at e2
    simp at e2
  have h3 : (prP n0 c0 n1 c1 w i).Nodup := (List.mergeSort_perm _ _).nodup_iff.2 h2
  have h4 : (prP n0 c0 n1 c1 w i).Pairwise (· ≤ ·) := srt_le _
  exact (h4.and h3).imp fun ⟨a, b⟩ => by omega
theorem prP_in (L0 : Lines n0 c0) (L1 : Lines n1 c1) {i : Nat} (hi : i < n1) {y : Int} (h : y ∈ prP n0 c0 n1 c1 w i) : -1000000 ≤ y ∧ y ≤ 1000000 := by
  rcases prP_spec h with e | ⟨t, ht, e, _⟩
  · rw [e]; exact ⟨L1.lo i hi, L1.hi i hi⟩
  · rw [← e]; exact ⟨L0.lo t ht, L0.hi t ht⟩
/-- The rules for the place of a cut. -/
theorem prP_rule (L0 : Lines n0 c0) (L1 : Lines n1 c1) {i : Nat} (hi : i < n1) {y : Int} (h : y ∈ prP n0 c0 n1 c1 w i) : y = c1 i ∨ (0 < i ∧ i + 1 < n1 ∧ hasV n0 c0 y = true ∧ apartV y (c1 i) ≤ w) := by
  rcases prP_spec h with e | ⟨t, ht, e, m, _, d⟩
  · exact .inl e
  · subst e
    unfold midP at m
    rw [Bool.and_eq_true] at m
    have m1 := of_decide_eq_true m.1
    have m2 := of_decide_eq_true m.2
    refine .inr ⟨by omega, by omega, (has_iff _ _ _).2 ⟨t, ht, rfl⟩, ?_⟩
    have := (d_apart (c := c1) (i := i) (L0.lo t ht) (L0.hi t ht) (L1.lo i hi) (L1.hi i hi)).1
    rw [← this]; exact d
theorem rule_prP (L0 : Lines n0 c0) (L1 : Lines n1 c1) {i : Nat} (hi : i < n1) {y : Int} (h : y = c1 i ∨ (0 < i ∧ i + 1 < n1 ∧ hasV n0 c0 y = true ∧ apartV y (c1 i) ≤ w)) : y ∈ prP n0 c0 n1 c1 w i := by
  by_cases e : y = c1 i
  · rw [e]; exact prP_mem _ _ _ _ _ _
  · obtain ⟨a1, a2, a3, a4⟩ := h.resolve_left e
    obtain ⟨t, ht, rfl⟩ := (has_iff _ _ _).1 a3
    unfold prP
    rw [srt_mem, List.mem_append]
    refine .inr (mem_nrF ?_ (bne_iff_ne.2 e) ?_ n0 0 (Nat.zero_le _) (by omega))
    · unfold midP
      rw [decide_eq_true (show (i : Int) > 0 by omega), decide_eq_true (show (i : Int) < (n1 : Int) - 1 by omega)]; rfl
    · have := (d_apart (c := c1) (i := i) (L0.lo t ht) (L0.hi t ht) (L1.lo i hi) (L1.hi i hi)).1
      rw [← this] at a4; exact a4

/-- The way through the table keeps to the rules, and no list that does is better. -/
theorem way_fine (L0 : Lines n0 c0) (L1 : Lines n1 c1) : Feas (prP n0 c0 n1 c1 w) 0 (wayL n1 (tabP n0 c0 n1 c1 w)) ∧ ∀ Q : List Int, Q.length = n1 → Feas (prP n0 c0 n1 c1 w) 0 Q →
    ¬ (cntL (onP n0 c0) Q > cntL (onP n0 c0) (wayL n1 (tabP n0 c0 n1 c1 w)) ∨ (cntL (onP n0 c0) Q = cntL (onP n0 c0) (wayL n1 (tabP n0 c0 n1 c1 w)) ∧ sumL (dP c1) 0 Q < sumL (dP c1) 0 (wayL n1 (tabP n0 c0 n1 c1 w)))) ∧
    (cntL (onP n0 c0) Q = cntL (onP n0 c0) (wayL n1 (tabP n0 c0 n1 c1 w)) → sumL (dP c1) 0 Q = sumL (dP c1) 0 (wayL n1 (tabP n0 c0 n1 c1 w)) → lexL (wayL n1 (tabP n0 c0 n1 c1 w)) Q) := by
  rcases Nat.eq_zero_or_pos n1 with e | e
  · have hw : wayL n1 (tabP n0 c0 n1 c1 w) = [] := by unfold wayL; rw [e]; rfl
    rw [hw]
    refine ⟨trivial, fun Q hQ _ => ?_⟩
    have : Q = [] := List.length_eq_zero_iff.1 (by omega)
    subst this
    exact ⟨by omega, fun _ _ => trivial⟩
  · obtain ⟨d, hd⟩ : ∃ d, n1 = d + 1 := ⟨n1 - 1, by omega⟩
    obtain ⟨_, hpos⟩ := way_ok n1 c1 L1 (prP n0 c0 n1 c1 w) (onP n0 c0) (dP c1) (T := tabP n0 c0 n1 c1 w) rfl fun i _ => prP_mem n0 c0 n1 c1 w i
    have hp := hpos e
    have ends : ∀ y, y ∈ prP n0 c0 n1 c1 w 0 → y = c1 0 := fun y hy => by
      rcases prP_rule L0 L1 e hy with h | ⟨h, _⟩
      · exact h
      · omega
    obtain ⟨f, _⟩ := fine (onP n0 c0) (dP c1) (prP n0 c0 n1 c1 w) n1 L1.len (on_01 n0 c0) (fun i p hi hp => by
      have g := prP_in L0 L1 hi hp
      have := d_apart (c := c1) (i := i) g.1 g.2 (L1.lo i hi) (L1.hi i hi)
      omega) (fun i _ => prP_up L0 i) d 0 (by omega)
    obtain ⟨p1, p2, p3, p4, p5, p6, p7, p8⟩ := f 0 hp
    have hpl : (oAt (tabP n0 c0 n1 c1 w 0) 0).pl = c1 0 := ends _ (tabP_pl e (oAt_mem hp))
    have hw : wayL n1 (tabP n0 c0 n1 c1 w) = chainL (tabP n0 c0 n1 c1 w) (d + 1) 0 ((0 : Nat) : Int) := by unfold wayL; rw [hd]; rfl
    rw [hw]
    refine ⟨p1, fun Q hQ hF => ?_⟩
    have p2 : cntL (onP n0 c0) (chainL (tabP n0 c0 n1 c1 w) (d + 1) 0 ((0 : Nat) : Int)) = _ := p2
    have p3 : sumL (dP c1) 0 (chainL (tabP n0 c0 n1 c1 w) (d + 1) 0 ((0 : Nat) : Int)) = _ := p3
    cases Q with
    | nil => simp at hQ; omega
    | cons q R =>
      have hq := ends q hF.1
      have hR : R.length = d := by simp at hQ; omega
      have hqq : q = (oAt (tabI (onP n0 c0) (dP c1) (prP n0 c0 n1 c1 w) n1 0) 0).pl := by rw [hq]; exact hpl.symm
      rw [hqq] at hF ⊢
      rw [p2, p3]
      exact p8 R hR hF
theorem way_len (T : Nat → List Opt) : (wayL n1 T).length = n1 := chainL_len _ _ _ _
end

theorem listC_succ (q : Int) (Q : List Int) (k : Nat) : listC (q :: Q) (k + 1) = listC Q k := by simp [listC]
theorem listC_zero (q : Int) (Q : List Int) : listC (q :: Q) 0 = q := by simp [listC]
theorem feas_of {P : Nat → List Int} : ∀ (Q : List Int) (i : Nat), (∀ k, k < Q.length → listC Q k ∈ P (i + k)) → (∀ k, k + 1 < Q.length → listC Q k < listC Q (k + 1)) → Feas P i Q
  | [], i, _, _ => trivial
  | q :: Q, i, h1, h2 => by
    refine ⟨by have := h1 0 (by simp); rwa [listC_zero] at this, fun r R e => ?_, feas_of Q (i + 1) (fun k hk => ?_) fun k hk => ?_⟩
    · subst e
      have := h2 0 (by simp)
      rwa [listC_zero, listC_succ, listC_zero] at this
    · have := h1 (k + 1) (by simp; omega)
      rwa [listC_succ, show i + (k + 1) = i + 1 + k by omega] at this
    · have := h2 (k + 1) (by simp; omega)
      rwa [listC_succ, listC_succ] at this
theorem feas_mem {P : Nat → List Int} : ∀ (Q : List Int) (i : Nat), Feas P i Q → ∀ k, k < Q.length → listC Q k ∈ P (i + k)
  | [], i, _, k, h => absurd h (Nat.not_lt_zero _)
  | q :: Q, i, hF, 0, h => by rw [listC_zero]; exact hF.1
  | q :: Q, i, hF, k + 1, h => by
    rw [listC_succ, show i + (k + 1) = i + 1 + k by omega]
    exact feas_mem Q (i + 1) hF.2.2 k (by simpa using h)
theorem feas_up {P : Nat → List Int} : ∀ (Q : List Int) (i : Nat), Feas P i Q → ∀ k, k + 1 < Q.length → listC Q k < listC Q (k + 1)
  | [], i, _, k, h => absurd h (Nat.not_lt_zero _)
  | [q], i, hF, k, h => by simp at h
  | q :: r :: Q, i, hF, 0, h => by rw [listC_succ, listC_zero, listC_zero]; exact hF.2.1 r Q rfl
  | q :: r :: Q, i, hF, k + 1, h => by
    rw [listC_succ, listC_succ]
    exact feas_up (r :: Q) (i + 1) hF.2.2 k (by simpa using h)
theorem lex_at : ∀ (A B : List Int) (k : Nat), lexL A B → k < A.length → k < B.length → (∀ t, t < k → listC A t = listC B t) → listC A k ≤ listC B k
  | [], _, _, _, h, _, _ => absurd h (Nat.not_lt_zero _)
  | _ :: _, [], _, _, _, h, _ => absurd h (Nat.not_lt_zero _)
  | a :: A, b :: B, 0, h, _, _, _ => by
    rw [listC_zero, listC_zero]
    rcases h with h | ⟨h, _⟩ <;> omega
  | a :: A, b :: B, k + 1, h, h1, h2, h3 => by
    have g := h3 0 (by omega)
    rw [listC_zero, listC_zero] at g
    rw [listC_succ, listC_succ]
    rcases h with h | ⟨_, h⟩
    · omega
    · exact lex_at A B k h (by simpa using h1) (by simpa using h2) fun t ht => by
        have := h3 (t + 1) (by omega)
        rwa [listC_succ, listC_succ] at this

/-- The score of a list, as sums. -/
theorem sco_eq {n0 : Nat} {c0 : Nat → Int} (L0 : Lines n0 c0) {c1 c2 : Nat → Int} : ∀ (Q : List Int) (i : Nat) (a b : Int), (∀ k, k < Q.length → c2 (i + k) = listC Q k) →
    (∀ k, k < Q.length → dP c1 (i + k) (listC Q k) = apartV (listC Q k) (c1 (i + k)) ∧ 0 ≤ dP c1 (i + k) (listC Q k) ∧ dP c1 (i + k) (listC Q k) ≤ 2000000) →
    0 ≤ a → a ≤ i → 0 ≤ b → b ≤ 2000000 * (i : Int) → i + Q.length ≤ 1000 → scoF n0 c0 c1 c2 Q.length i a b = (a + cntL (onP n0 c0) Q, b + sumL (dP c1) i Q)
  | [], i, a, b, _, _, _, _, _, _, _ => by simp [scoF, cntL, sumL]
  | q :: Q, i, a, b, h1, h2, h3, h4, h5, h6, h7 => by
    have g1 := h1 0 (by simp)
    have g2 := h2 0 (by simp)
    rw [listC_zero, Nat.add_zero] at g1 g2
    rw [List.length_cons] at h7 ⊢
    unfold scoF
    rw [g1, ← g2.1]
    have ho := on_has L0 q
    have e1 : (bif hasV n0 c0 q then IntKind.wrap .i64 (a + 1) else a) = a + onP n0 c0 q := by
      rw [ho]
      rcases bool_cases (hasV n0 c0 q) with e | e <;> rw [e]
      · exact w_in (by omega) (by omega)
      · simp
    have e2 : IntKind.wrap .i64 (b + dP c1 i q) = b + dP c1 i q := w_in (by omega) (by omega)
    have h01 := on_01 n0 c0 q
    rw [e1, e2, sco_eq L0 Q (i + 1) _ _ (fun k hk => by
      have := h1 (k + 1) (by simp; omega)
      rwa [listC_succ, show i + (k + 1) = i + 1 + k by omega] at this) (fun k hk => by
      have := h2 (k + 1) (by simp; omega)
      rwa [listC_succ, show i + (k + 1) = i + 1 + k by omega] at this) (by omega) (by omega) (by omega) (by omega) (by omega)]
    rw [show cntL (onP n0 c0) (q :: Q) = onP n0 c0 q + cntL (onP n0 c0) Q from rfl, show sumL (dP c1) i (q :: Q) = dP c1 i q + sumL (dP c1) (i + 1) Q from rfl, Int.add_assoc, Int.add_assoc]
theorem ValidL.way {n : Nat} {c : Nat → Int} {m : Nat} {d : Nat → Int} {w : Int} (V : ValidL n c m d w) : cutsL n c m d w (tabP n c m d w) = wayL m (tabP n c m d w) := by
  unfold cutsL
  rw [V.err]; rfl
theorem ValidL.len {n : Nat} {c : Nat → Int} {m : Nat} {d : Nat → Int} {w : Int} (V : ValidL n c m d w) : pctV_0n n c m d w = m := by
  unfold pctV_0n
  rw [V.way, way_len]
theorem ValidL.cells {n : Nat} {c : Nat → Int} {m : Nat} {d : Nat → Int} {w : Int} (V : ValidL n c m d w) : pctV_0c n c m d w = listC (wayL m (tabP n c m d w)) := by
  unfold pctV_0c
  rw [V.way]
/-- The score of a list that keeps to the rules. -/
theorem sco_feas {n0 : Nat} {c0 : Nat → Int} (L0 : Lines n0 c0) {n1 : Nat} {c1 c2 : Nat → Int} (L1 : Lines n1 c1) {w : Int} (Q : List Int) (hQ : Q.length = n1) (hF : Feas (prP n0 c0 n1 c1 w) 0 Q) (hc : ∀ k, k < n1 → c2 k = listC Q k) :
    scoV_0 n0 c0 n1 c1 n1 c2 = cntL (onP n0 c0) Q ∧ scoV_1 n0 c0 n1 c1 n1 c2 = sumL (dP c1) 0 Q := by
  have hn := L1.len
  have h := sco_eq L0 (c1 := c1) (c2 := c2) Q 0 0 0 (fun k hk => by rw [Nat.zero_add]; exact hc k (by omega)) (fun k hk => by
    rw [Nat.zero_add]
    have g := prP_in L0 L1 (show k < n1 by omega) (by have := feas_mem Q 0 hF k hk; rwa [Nat.zero_add] at this)
    have := d_apart (c := c1) (i := k) g.1 g.2 (L1.lo k (by omega)) (L1.hi k (by omega))
    exact ⟨this.1, this.2.1, this.2.2.1⟩) (Int.le_refl _) (Int.le_refl _) (Int.le_refl _) (by omega) (by omega)
  unfold scoV_0 scoV_1
  rw [Nat.min_self, ← hQ, h]
  simp
theorem sco_owed_t {n0 : Nat} {c0 : Nat → Int} {n1 : Nat} {c1 : Nat → Int} {n2 : Nat} {c2 : Nat → Int} (h0 : n0 ≤ 1000) (h1 : n1 ≤ 1000) (h2 : n2 ≤ 1000) : scoV_owed n0 c0 n1 c1 n2 c2 = true := by
  unfold scoV_owed
  rw [short_of h0, decide_eq_true h1, decide_eq_true h2]; rfl

end Kp
end Go.Am
