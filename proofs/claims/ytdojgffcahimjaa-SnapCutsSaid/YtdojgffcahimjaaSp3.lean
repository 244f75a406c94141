/- Contracts of Cuts of the program and of moved. -/
import Derived.Test.YtdojgffcahimjaaSp2
namespace Go.Am
open Go.Proofs
set_option maxRecDepth 100000
set_option maxHeartbeats 4000000
set_option linter.unusedVariables false
set_option linter.unusedSimpArgs false

def movV_0n (n : Nat) (c : Nat → Int) (x : Int) : Nat := n
def movV_0c (n : Nat) (c : Nat → Int) (x : Int) : Nat → Int := fun i => IntKind.wrap .i64 (c i + x)
def movV_owed (n : Nat) (c : Nat → Int) (x : Int) : Bool := decide (n ≤ 1000)
theorem mov_go (n : Nat) (c : Nat → Int) (x : Int) (hn : n ≤ 1000) : ∀ (k i : Nat) (cc : Nat → Int), i + k = n → (∀ t, t < i → cc t = IntKind.wrap .i64 (c t + x)) →
    ∃ g, goOn (movstep n c x) (k + 1) (.to (.h0 i cc (i : Int))) = .ret [frzS 1 1 0 n n g] ∧ ∀ t, t < n → g t = iget (movV_0c n c x) t
  | 0, i, cc, h, hc => by
    have k0 : decide ((i : Int) < (n : Int)) = false := decide_eq_false (by omega)
    obtain rfl : i = n := by omega
    refine ⟨iget cc, ?_, fun t ht => by unfold iget movV_0c; rw [hc t ht]⟩
    rw [goOn_to]
    simp only [movstep, k0, cond_false]
    rfl
  | k + 1, i, cc, h, hc => by
    have k0 : decide ((i : Int) < (n : Int)) = true := decide_eq_true (by omega)
    have a1 := in_range (i := i) (n := n) (by omega)
    have r1 := roomA (show i ≤ 3000 by omega)
    have wi : IntKind.wrap .i64 ((i : Int) + 1) = ((i + 1 : Nat) : Int) := w_nat (i := i) (by omega)
    obtain ⟨g, h1, h2⟩ := mov_go n c x hn k (i + 1) (appC cc i (IntKind.wrap .i64 (c i + x))) (by omega) fun t ht => by
      unfold appC
      rcases bool_cases (Nat.ble i t) with q | q
      · have := Nat.le_of_ble_eq_true q
        have e : t = i := by omega
        subst e; rw [q]; rfl
      · rw [q, cond_false]
        exact hc t (Nat.lt_of_not_le fun q' => by rw [Nat.ble_eq_true_of_le q'] at q; cases q)
    refine ⟨g, ?_, h2⟩
    rw [goOn_to]
    simp only [movstep, k0, a1, r1, wi, cond_true, Int.toNat_natCast]
    exact h1

noncomputable def fMov : List AVal → Option (AVal × Bool)
  | [.dat n g, .int .i64 x] => some (.dat (movV_0n n (cOf g) x) (iget (movV_0c n (cOf g) x)), isI g && movV_owed n (cOf g) x)
  | _ => none

def pctV_0n (n : Nat) (c : Nat → Int) (m : Nat) (d : Nat → Int) (w : Int) : Nat := (cutsL n c m d w (tabP n c m d w)).length
def pctV_0c (n : Nat) (c : Nat → Int) (m : Nat) (d : Nat → Int) (w : Int) : Nat → Int := listC (cutsL n c m d w (tabP n c m d w))
def pctV_1 (n : Nat) (c : Nat → Int) (m : Nat) (d : Nat → Int) (w : Int) : Int := cutsE n c m d w
noncomputable def fPct : List AVal → Option (AVal × Bool)
  | [.dat n g, .dat m e, .int .i64 w] => some (.tup [.dat (pctV_0n n (cOf g) m (cOf e) w) (iget (pctV_0c n (cOf g) m (cOf e) w)), .int .i64 (pctV_1 n (cOf g) m (cOf e) w)], isI g && isI e)
  | _ => none

noncomputable def Sa : Specs := (S8.with 18 fMov).with 10 fPct
theorem Sa_ok : SpecsOk Try.prog Sa := by
  refine with_ends' (with_ends' S8_ok (by kernel_rfl) ?_) (by kernel_rfl) ?_
  · intro args v h
    unfold fMov at h
    split at h
    · rename_i n g x
      simp only [Option.some.injEq, Prod.mk.injEq, Bool.and_eq_true] at h
      obtain ⟨rfl, h1, h2⟩ := h
      obtain ⟨c, rfl⟩ := isI_spec h1
      obtain ⟨g, a, b⟩ := mov_go n c x (of_decide_eq_true h2) n 0 (listC []) (Nat.zero_add _) fun t ht => absurd ht (Nat.not_lt_zero _)
      refine ⟨_, fun ρ u hv => ?_, mov_ends n c x (n + 1) _ a, 4, by show pf 4 (frzS 1 1 0 n n g) = true; rw [frzS_eq]; rfl⟩
      have hv : VRel ρ (frzS 1 1 0 n n g) u := hv
      rw [frzS_eq] at hv
      exact vrel_dat_congr b hv
    · cases h
  · intro args v h
    unfold fPct at h
    split at h
    · rename_i n g m e w
      simp only [Option.some.injEq, Prod.mk.injEq, Bool.and_eq_true] at h
      obtain ⟨rfl, h1, h2⟩ := h
      obtain ⟨c, rfl⟩ := isI_spec h1
      obtain ⟨d, rfl⟩ := isI_spec h2
      obtain ⟨vs, ⟨N, a⟩, b, p⟩ := pc_run n c m d w
      exact ⟨vs, b, pcuts_ends n c m d w N vs a, 4, p⟩
    · cases h
end Go.Am
