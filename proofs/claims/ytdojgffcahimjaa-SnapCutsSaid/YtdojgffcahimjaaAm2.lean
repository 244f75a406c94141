/- Tables of slices, and rows of four integers: how they are told. -/
import Derived.Test.YtdojgffcahimjaaAm1
namespace Go.Am
set_option linter.unusedVariables false

def q4 (f : Nat → Nat → Int) : Nat → List AVal := fun k => [.int .i64 (f k 0), .int .i64 (f k 1), .int .i64 (f k 2), .int .i64 (f k 3)]
def canon (M : Nat → Nat) (F : Nat → Nat → Nat → Int) : Nat → List AVal := fun k => [.dat (M k) (q4 (F k))]
def updB (c : Nat → Bool) (r : Nat) : Nat → Bool := fun k => bif Nat.beq k r then true else c k
def updN (M : Nat → Nat) (r n : Nat) : Nat → Nat := fun k => bif Nat.beq k r then n else M k
def updF (F : Nat → Nat → Nat → Int) (r : Nat) (h : Nat → Nat → Int) : Nat → Nat → Nat → Int := fun k => bif Nat.beq k r then h else F k
def app4 (c : Nat → Nat → Int) (n : Nat) (x y z u : Int) : Nat → Nat → Int := fun k j => bif Nat.ble n k then [x, y, z, u].getD j 0 else c k j
def list4 (l : List (List Int)) : Nat → Nat → Int := fun k j => (l.getD k []).getD j 0
def Same4 (n : Nat) (g : Nat → List AVal) (c : Nat → Nat → Int) : Prop := ∀ i, i < n → g i = q4 c i
theorem Same4.rfl' (n : Nat) (c : Nat → Nat → Int) : Same4 n (q4 c) c := fun _ _ => rfl
theorem Same4.app {n : Nat} {g : Nat → List AVal} {c : Nat → Nat → Int} (h : Same4 n g c) (x y z u : Int) : Same4 (n + 1) (appRow g 0 n 4 [.int .i64 x, .int .i64 y, .int .i64 z, .int .i64 u]) (app4 c n x y z u) := fun i hi => by
  unfold appRow q4 app4
  cases e : Nat.ble n i with
  | true =>
    have := Nat.le_of_ble_eq_true e
    have : i = n := by omega
    subst this
    simp
  | false =>
    have : ¬ n ≤ i := fun q => by rw [Nat.ble_eq_true_of_le q] at e; cases e
    simp [h i (by omega), q4]
theorem flatG_q4 (c : Nat → Nat → Int) : flatG (q4 c) = true := pd_true fun _ => rfl
theorem flatRw_nil : flatRw (.flat fun _ => [.nils]) = true := pd_true fun _ => rfl
theorem flatRw_one {r : Nat} {cs : List AVal} {b : Rws} (h : flatRw b = true) : flatRw (.one r cs b) = true := h
theorem flatRw_tab (c : Nat → Bool) (M : Nat → Nat) (F : Nat → Nat → Nat → Int) : flatRw (.alt c (.flat (canon M F)) (.flat fun _ => [.nils])) = true := by
  unfold flatRw
  rw [flatRw_nil, Bool.and_true]
  exact pd_true fun _ => rfl
theorem natbeq_self' (a : Nat) : (Nat.beq a a == true) = true := by simp [Nat.beq_refl]
theorem rows4_congr {n : Nat} {g : Nat → List AVal} {c : Nat → Nat → Int} (h : Same4 n g c) : Go.Am.rows n g = Go.Am.rows n (q4 c) := flatMap_same fun i hi => h i (List.mem_range.1 hi)
theorem BLe.same4 (ty : TypeId) (a : Option Arr) {n : Nat} {g : Nat → List AVal} {c : Nat → Nat → Int} (h : Same4 n g c) : BLe (some ⟨Go.Am.rows n g, ty, a⟩) (some ⟨Go.Am.rows n (q4 c), ty, some ⟨4, n, q4 c⟩⟩) :=
  .rowed _ _ _ _ _ _ (rows4_congr h) (by omega) fun _ _ => rfl
theorem BLe.told4 (cells : List AVal) (ty : TypeId) (a : Option Arr) (n : Nat) (c : Nat → Nat → Int) (h : cells = Go.Am.rows n (q4 c)) : BLe (some ⟨cells, ty, a⟩) (some ⟨Go.Am.rows n (q4 c), ty, some ⟨4, n, q4 c⟩⟩) :=
  .rowed _ _ _ _ _ _ h (by omega) fun _ _ => rfl

theorem tab_fresh (M : Nat → Nat) (F : Nat → Nat → Nat → Int) (k : Nat) : RLe ((Rws.flat fun _ => [.nils]).get k) ((Rws.alt (fun _ => false) (.flat (canon M F)) (.flat fun _ => [.nils])).get k) := RLe.refl _
theorem tab_one {r : Nat} {v v' : AVal} {b : Rws} (h : VLe v v') (k : Nat) : RLe ((Rws.one r [v] b).get k) ((Rws.one r [v'] b).get k) := by
  simp only [Rws.get]
  cases Nat.beq k r with
  | true => exact .cons h .nil
  | false => exact RLe.refl _
theorem tab_begin {r B : Nat} {c : Nat → Bool} {A : Rws} (h : (!(c r)) = true) (k : Nat) : RLe ((Rws.alt c A (.flat fun _ => [.nils])).get k) ((Rws.one r [.sla B 4 0 0 (.un 4)] (.alt c A (.flat fun _ => [.nils]))).get k) := by
  simp only [Rws.get]
  cases e : Nat.beq k r with
  | true =>
    have := Nat.eq_of_beq_eq_true e
    subst this
    rw [Bool.not_eq_true'] at h
    rw [h]
    exact .cons (.nils B 4 0 (.un 4)) .nil
  | false => exact RLe.refl _
theorem tab_done (r n : Nat) (c : Nat → Bool) (M : Nat → Nat) (F : Nat → Nat → Nat → Int) (h : Nat → Nat → Int) (k : Nat) :
    RLe ((Rws.one r [frzS 4 4 0 n n (q4 h)] (.alt c (.flat (canon M F)) (.flat fun _ => [.nils]))).get k) ((Rws.alt (updB c r) (.flat (canon (updN M r n) (updF F r h))) (.flat fun _ => [.nils])).get k) := by
  simp only [Rws.get, updB, updN, updF, canon]
  cases e : Nat.beq k r with
  | true =>
    simp only [cond_true]
    rw [frzS_eq]
    exact RLe.refl _
  | false => exact RLe.refl _
end Go.Am
