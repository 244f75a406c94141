/- The places of a cut, by the reference: their contract. -/
import Derived.Test.YtdojgffcahimjaaSpV
import Derived.Test.YtdojgffcahimjaaSpS
namespace Go.Am
open Go.Proofs
set_option maxRecDepth 100000
set_option maxHeartbeats 4000000
set_option linter.unusedVariables false
set_option linter.unusedSimpArgs false

/-- The places of a cut from line i on; whether the cut itself has been told. -/
def plF (c : Nat → Int) (x w : Int) : Nat → Nat → Bool → List Int
  | 0, _, done => bif done then [] else [x]
  | k + 1, i, done => (bif done then [] else bif decide (c i ≥ x) then [x] else []) ++ ((bif c i != x then bif decide (apartV (c i) x ≤ w) then [c i] else [] else []) ++ plF c x w k (i + 1) (done || decide (c i ≥ x)))
def plL (n : Nat) (c : Nat → Int) (x w : Int) (ends : Bool) : List Int := bif ends then [x] else plF c x w n 0 false
def plV_0n (n : Nat) (c : Nat → Int) (x w : Int) (ends : Bool) : Nat := (plL n c x w ends).length
def plV_0c (n : Nat) (c : Nat → Int) (x w : Int) (ends : Bool) : Nat → Int := listC (plL n c x w ends)
def plV_owed (n : Nat) (c : Nat → Int) (x w : Int) (ends : Bool) : Bool := decide (n ≤ 1000)

def PlRet (R : List Int) (v : AVal) : Prop := ∃ g, v = frzS 1 1 0 R.length R.length g ∧ ∀ t, t < R.length → g t = iget (listC R) t
theorem roomA {m : Nat} (h : m ≤ 3000) : (Nat.beq 1 1 && ((decide (0 + m = m)) && decide ((m + 1 + 1) * (8 + 1) ≤ room))) = true := by
  rw [decide_eq_true (Nat.zero_add m), decide_eq_true (show (m + 1 + 1) * (8 + 1) ≤ room by unfold room; omega)]; rfl
theorem len_snoc (L : List Int) (x : Int) : (L ++ [x]).length = L.length + 1 := by simp

theorem plc_go (n : Nat) (c : Nat → Int) (x w : Int) (hn : n ≤ 1000) : ∀ (k i : Nat) (L : List Int) (cc : Nat → Int) (done : Bool), i + k = n → L.length ≤ 2 * i → (∀ t, t < L.length → cc t = listC L t) →
    ∃ v, goOn (plcstep n c x w false) (k + 1) (.to (.h0 L.length cc done (i : Int))) = .ret [v] ∧ PlRet (L ++ plF c x w k i done) v := by
  intro k
  induction k with
  | zero =>
    intro i L cc done h hL hc
    have k0 : decide ((i : Int) < (n : Int)) = false := decide_eq_false (by omega)
    rw [goOn_to]
    cases done with
    | true =>
      simp only [plcstep, k0, cond_false, Bool.not_true, goOn_ret, plF, cond_true, List.append_nil]
      exact ⟨_, rfl, _, rfl, fun t ht => by unfold iget; rw [hc t ht]⟩
    | false =>
      simp only [plcstep, k0, cond_false, Bool.not_false, cond_true, roomA (show L.length ≤ 3000 by omega), goOn_ret, plF]
      refine ⟨_, rfl, _, by rw [len_snoc], fun t ht => ?_⟩
      rw [len_snoc] at ht
      rw [SameI.app (SameI.rfl' _ cc) x t ht]
      unfold iget
      rw [listC_app hc x t (by rw [len_snoc]; exact ht)]
  | succ k ih =>
    intro i L cc done h hL hc
    have k0 : decide ((i : Int) < (n : Int)) = true := decide_eq_true (by omega)
    have k1 : (decide (0 ≤ (i : Int) ∧ (i : Int) < (n : Int)) && true) = true := by rw [Bool.and_true]; exact decide_eq_true (by omega)
    have r1 := roomA (show L.length ≤ 3000 by omega)
    have r2 := roomA (show L.length + 1 ≤ 3000 by omega)
    have wi : IntKind.wrap .i64 ((i : Int) + 1) = ((i + 1 : Nat) : Int) := w_nat (i := i) (by omega)
    have go0 := fun d => ih (i + 1) L cc d (by omega) (by omega) hc
    have go1 := fun d y => ih (i + 1) (L ++ [y]) (appC cc L.length y) d (by omega) (by rw [len_snoc]; omega) (listC_app hc y)
    have go2 := fun d y z => ih (i + 1) (L ++ [y] ++ [z]) (appC (appC cc L.length y) (L ++ [y]).length z) d (by omega) (by rw [len_snoc, len_snoc]; omega) (listC_app (listC_app hc y) z)
    simp only [len_snoc] at go1 go2
    rw [goOn_to]
    unfold plF
    cases done <;> rcases bool_cases (decide (c i ≥ x)) with e1 | e1 <;> rcases bool_cases (c i != x) with e2 | e2 <;> rcases bool_cases (decide (apartV (c i) x ≤ w)) with e3 | e3 <;>
      simp only [plcstep, k0, k1, r1, r2, wi, e1, e2, e3, Bool.not_true, Bool.not_false, cond_true, cond_false, Int.toNat_natCast, Bool.or_true, Bool.or_false, Bool.true_or, Bool.false_or, List.nil_append, List.append_nil] <;>
      first
        | exact go0 _
        | (have := go1 true x; rw [List.append_assoc] at this; exact this)
        | (have := go1 true (c i); rw [List.append_assoc] at this; exact this)
        | (have := go1 false (c i); rw [List.append_assoc] at this; exact this)
        | (have := go2 true x (c i); simp only [List.append_assoc] at this; exact this)

theorem plc_run (n : Nat) (c : Nat → Int) (x w : Int) (ends : Bool) (hn : n ≤ 1000) : ∃ N vs, goOn (plcstep n c x w ends) N (plcstart n c x w ends) = .ret vs ∧ (∀ (ρ : Rho) (u : Value), VRel ρ (packed vs) u → VRel ρ (.dat (plV_0n n c x w ends) (iget (plV_0c n c x w ends))) u) ∧ pf 4 (packed vs) = true := by
  cases ends with
  | true =>
    refine ⟨0, [.dat 1 (chunk [.int .i64 x] 0 1)], rfl, fun ρ u h => ?_, rfl⟩
    refine vrel_dat_congr (n := 1) (fun i hi => ?_) h
    obtain rfl : i = 0 := by omega
    rfl
  | false =>
    obtain ⟨v, h1, g, h2, h3⟩ := plc_go n c x w hn n 0 [] (listC []) false (Nat.zero_add _) (Nat.zero_le _) fun t ht => absurd ht (Nat.not_lt_zero _)
    rw [List.nil_append] at h2 h3
    subst h2
    refine ⟨n + 1, _, h1, fun ρ u h => ?_, ?_⟩
    · have h : VRel ρ (frzS 1 1 0 _ _ g) u := h
      rw [frzS_eq] at h
      exact vrel_dat_congr h3 h
    · show pf 4 (frzS 1 1 0 _ _ g) = true
      rw [frzS_eq]; rfl

noncomputable def fPl : List AVal → Option (AVal × Bool)
  | [.dat n g, .int .i64 x, .int .i64 w, .bool e] => some (.dat (plV_0n n (cOf g) x w e) (iget (plV_0c n (cOf g) x w e)), isI g && plV_owed n (cOf g) x w e)
  | _ => none
noncomputable def S9 : Specs := S8.with 32 fPl
theorem S9_ok : SpecsOk Try.prog S9 := by
  refine with_ends' S8_ok (by kernel_rfl) ?_
  intro args v h
  unfold fPl at h
  split at h
  · rename_i n g x w e
    simp only [Option.some.injEq, Prod.mk.injEq, Bool.and_eq_true] at h
    obtain ⟨rfl, h1, h2⟩ := h
    obtain ⟨c, rfl⟩ := isI_spec h1
    obtain ⟨N, vs, a, b, p⟩ := plc_run n c x w e (of_decide_eq_true h2)
    exact ⟨vs, b, plc_ends n c x w e N vs a, 4, p⟩
  · cases h
end Go.Am
