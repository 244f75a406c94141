/- The turns: the table of their images, and the contracts of the functions that read it. -/
import Derived.Test.YtifflimkboemjaaNm
namespace Go.Am
open Go.Proofs

/-- Some abstract run of the call ends in v, and owes nothing. -/
def Gives (P : Program) (S : Specs) (f : FuncId) (args : List AVal) (v : AVal) : Prop := ∃ fuel sym orc, callA P S fuel sym orc f args = some (v, true)

/-- One more contract. -/
def Specs.with (S : Specs) (f : FuncId) (F : List AVal → Option (AVal × Bool)) : Specs := fun g => bif Nat.beq g f then some F else S g

theorem with_ok {S S' : Specs} (hS : SpecsOk Try.prog noOld S) (hS' : SpecsOk Try.prog noOld S') {f : FuncId} {F : List AVal → Option (AVal × Bool)} (hf : (Try.prog.funcs[f]?).any (fun fn => fn.body.isSome) = true)
    (hF : ∀ args v, F args = some (v, true) → Gives Try.prog S' f args v ∧ ∃ d, pf d v = true) : SpecsOk Try.prog noOld (S.with f F) := by
  intro g G hg
  unfold Specs.with at hg
  cases hgf : Nat.beq g f with
  | false => rw [hgf] at hg; exact hS g G hg
  | true =>
    rw [hgf] at hg
    obtain rfl : F = G := Option.some.inj hg
    obtain rfl : g = f := Nat.eq_of_beq_eq_true hgf
    refine ⟨?_, fun args v hv vals w hargs hH => ?_⟩
    · cases hfn : Try.prog.funcs[g]? with
      | none => rw [hfn] at hf; cases hf
      | some fn => rw [hfn] at hf; exact ⟨fn, rfl, hf⟩
    · obtain ⟨⟨fuel, sym, orc, hc⟩, d, hp⟩ := hF args v hv
      exact (callA_sound named mixed hS' hc hargs hH).mono fun e w' ⟨ρ, u, he, hu, hb⟩ => ⟨u, he, pf_sound d v u hp hu, hb⟩

/-- The images of the axes by each turn. -/
def tabL : List (List Int) := [
  [1, 0, 0, 0, 1, 0, 0, 0, 1],
  [1, 0, 0, 0, -1, 0, 0, 0, -1],
  [1, 0, 0, 0, 0, 1, 0, -1, 0],
  [1, 0, 0, 0, 0, -1, 0, 1, 0],
  [-1, 0, 0, 0, 1, 0, 0, 0, -1],
  [-1, 0, 0, 0, -1, 0, 0, 0, 1],
  [-1, 0, 0, 0, 0, 1, 0, 1, 0],
  [-1, 0, 0, 0, 0, -1, 0, -1, 0],
  [0, 1, 0, 1, 0, 0, 0, 0, -1],
  [0, 1, 0, -1, 0, 0, 0, 0, 1],
  [0, 1, 0, 0, 0, 1, 1, 0, 0],
  [0, 1, 0, 0, 0, -1, -1, 0, 0],
  [0, -1, 0, 1, 0, 0, 0, 0, 1],
  [0, -1, 0, -1, 0, 0, 0, 0, -1],
  [0, -1, 0, 0, 0, 1, -1, 0, 0],
  [0, -1, 0, 0, 0, -1, 1, 0, 0],
  [0, 0, 1, 1, 0, 0, 0, 1, 0],
  [0, 0, 1, -1, 0, 0, 0, -1, 0],
  [0, 0, 1, 0, 1, 0, -1, 0, 0],
  [0, 0, 1, 0, -1, 0, 1, 0, 0],
  [0, 0, -1, 1, 0, 0, 0, -1, 0],
  [0, 0, -1, -1, 0, 0, 0, 1, 0],
  [0, 0, -1, 0, 1, 0, 1, 0, 0],
  [0, 0, -1, 0, -1, 0, -1, 0, 0]]
def row (t : Int) : List Int := tabL.getD t.toNat []
def tb (t : Int) (j : Nat) : Int := (row t).getD j 0
def nmGo (l : List Int) : List (List Int) → Nat → Int
  | [], _ => 0
  | r :: rs, k => bif r == l then k else nmGo l rs (k + 1)
/-- The turn with some images. -/
def nm (l : List Int) : Int := nmGo l tabL 0
def isRow (l : List Int) : Bool := tabL.any (· == l)
def i64s (l : List Int) : List AVal := l.map (.int .i64)

theorem turn_cases {t : Int} (h : 0 ≤ t) (h' : t < 24) : t = 0 ∨ t = 1 ∨ t = 2 ∨ t = 3 ∨ t = 4 ∨ t = 5 ∨ t = 6 ∨ t = 7 ∨ t = 8 ∨ t = 9 ∨ t = 10 ∨ t = 11 ∨ t = 12 ∨ t = 13 ∨ t = 14 ∨ t = 15 ∨ t = 16 ∨ t = 17 ∨ t = 18 ∨ t = 19 ∨ t = 20 ∨ t = 21 ∨ t = 22 ∨ t = 23 := by omega

def fAxes (k : IntKind) : List AVal → Option (AVal × Bool)
  | [.int k' t] => bif k == k' then some (.agg [.int .i64 (tb t 0), .int .i64 (tb t 1), .int .i64 (tb t 2), .int .i64 (tb t 3), .int .i64 (tb t 4), .int .i64 (tb t 5), .int .i64 (tb t 6), .int .i64 (tb t 7), .int .i64 (tb t 8)], decide (0 ≤ t) && decide (t < 24)) else none
  | _ => none

def fNamed (k : IntKind) : List AVal → Option (AVal × Bool)
  | [.agg [.int .i64 a, .int .i64 b, .int .i64 c, .int .i64 d, .int .i64 e, .int .i64 f, .int .i64 g, .int .i64 h, .int .i64 i]] => some (.int k (nm [a, b, c, d, e, f, g, h, i]), isRow [a, b, c, d, e, f, g, h, i])
  | _ => none

theorem fAxes_inv {k : IntKind} {args : List AVal} {v : AVal} (h : fAxes k args = some (v, true)) : ∃ t, 0 ≤ t ∧ t < 24 ∧ args = [.int k t] ∧ fAxes k [.int k t] = some (v, true) := by
  unfold fAxes at h
  split at h
  · rename_i k' t
    cases hk : k == k' with
    | false => rw [hk] at h; cases h
    | true =>
      obtain rfl : k = k' := eq_of_beq hk
      have h0 := h
      rw [hk] at h
      simp only [cond_true, Option.some.injEq, Prod.mk.injEq, Bool.and_eq_true, decide_eq_true_eq] at h
      exact ⟨t, h.2.1, h.2.2, rfl, h0⟩
  · cases h

set_option maxRecDepth 100000 in
theorem axes_ok {args : List AVal} {v : AVal} (h : fAxes .u8 args = some (v, true)) : Gives Try.prog noSpecs 37 args v ∧ ∃ d, pf d v = true := by
  obtain ⟨t, h0, h1, rfl, h⟩ := fAxes_inv h
  rcases turn_cases h0 h1 with rfl|rfl|rfl|rfl|rfl|rfl|rfl|rfl|rfl|rfl|rfl|rfl|rfl|rfl|rfl|rfl|rfl|rfl|rfl|rfl|rfl|rfl|rfl|rfl
  all_goals
    cases h
    exact ⟨⟨300, false, [], by kernel_rfl⟩, 5, by kernel_rfl⟩

set_option maxRecDepth 100000 in
theorem images_ok {args : List AVal} {v : AVal} (h : fAxes .i64 args = some (v, true)) : Gives Try.prog noSpecs 34 args v ∧ ∃ d, pf d v = true := by
  obtain ⟨t, h0, h1, rfl, h⟩ := fAxes_inv h
  rcases turn_cases h0 h1 with rfl|rfl|rfl|rfl|rfl|rfl|rfl|rfl|rfl|rfl|rfl|rfl|rfl|rfl|rfl|rfl|rfl|rfl|rfl|rfl|rfl|rfl|rfl|rfl
  all_goals
    cases h
    exact ⟨⟨600, false, [], by kernel_rfl⟩, 5, by kernel_rfl⟩

theorem in_tab {l : List Int} (h : isRow l = true) : ∃ t : Int, 0 ≤ t ∧ t < 24 ∧ l = row t := by
  unfold isRow at h
  rw [List.any_eq_true] at h
  obtain ⟨r, hr, he⟩ := h
  obtain rfl : r = l := eq_of_beq he
  obtain ⟨i, hi, rfl⟩ := List.getElem_of_mem hr
  have : tabL.length = 24 := rfl
  refine ⟨i, by omega, by omega, ?_⟩
  simp [row, hi]

end Go.Am
