/- The contracts of small functions of the meshes' sums. -/
import Derived.Test.YtddebhpbnpldnaaNm
import Derived.Test.YtddebhpbnpldnaaAmO
namespace Go.Am
open Go.Proofs
variable {H : Old}

/-- Some abstract run of the call ends in v, and owes nothing. -/
def Gives (P : Program) (S : Specs) (f : FuncId) (args : List AVal) (v : AVal) : Prop := ∃ fuel sym orc, callA P S fuel sym orc f args = some (v, true)

/-- One more contract. -/
def Specs.with (S : Specs) (f : FuncId) (F : List AVal → Option (AVal × Bool)) : Specs := fun g => bif Nat.beq g f then some F else S g

theorem with_ok {S S' : Specs} (hS : SpecsOk Try.prog H S) (hS' : SpecsOk Try.prog H S') {f : FuncId} {F : List AVal → Option (AVal × Bool)} (hf : (Try.prog.funcs[f]?).any (fun fn => fn.body.isSome) = true)
    (hF : ∀ args v, F args = some (v, true) → Gives Try.prog S' f args v ∧ ∃ d, pf d v = true) : SpecsOk Try.prog H (S.with f F) := by
  intro g G hg
  unfold Specs.with at hg
  cases hgf : Nat.beq g f with
  | false => rw [hgf] at hg; exact hS g G hg
  | true =>
    rw [hgf] at hg
    obtain rfl : F = G := Option.some.inj hg
    obtain rfl : g = f := Nat.eq_of_beq_eq_true hgf
    refine ⟨?_, fun args v hv vals w hargs hH => ?_⟩
    · cases hfn : Try.prog.funcs[g]? with
      | none => rw [hfn] at hf; cases hf
      | some fn => rw [hfn] at hf; exact ⟨fn, rfl, hf⟩
    · obtain ⟨⟨fuel, sym, orc, hc⟩, d, hp⟩ := hF args v hv
      exact (callA_sound named mixed hS' hc hargs hH).mono fun e w' ⟨ρ, u, he, hu, hb⟩ => ⟨u, he, pf_sound d v u hp hu, hb⟩
theorem gives {P : Program} {S : Specs} {fuel : Nat} {sym : Bool} {orc : List Bool} {f : FuncId} {args : List AVal} {v v' : AVal} (h : callA P S fuel sym orc f args = some (v, true)) (e : v = v') : Gives P S f args v' := ⟨fuel, sym, orc, by rw [h, e]⟩
theorem some_t {v : AVal} {b : Bool} (h : b = true) : some (v, b) = some (v, true) := by rw [h]
theorem and_t {a b : Bool} (h : a = true) (k : b = true) : (a && b) = true := by rw [h, k]; rfl
theorem beq_t {a b : Bool} (h : a = b) : (a == b) = true := by rw [h]; exact beq_self_eq_true b

/-- A quad's cells. -/
def qget (c : Nat → Nat → Int) (i : Nat) : List AVal := [.int .u8 (c i 0), .int .i64 (c i 1), .int .i64 (c i 2), .int .i64 (c i 3), .int .i64 (c i 4), .int .i64 (c i 5), .int .i64 (c i 6)]
def co (x y z a : Int) : Int := bif a == 0 then x else bif a == 1 then y else z
def fCoord : List AVal → Option (AVal × Bool)
  | [.agg [.int .i64 x, .int .i64 y, .int .i64 z], .int .i64 a] => some (.int .i64 (co x y z a), true)
  | _ => none
def fineB (x y z : Int) : Bool := decide (-1000000 ≤ x) && decide (-1000000 ≤ y) && decide (-1000000 ≤ z) && decide (x ≤ 1000000) && decide (y ≤ 1000000) && decide (z ≤ 1000000)
def fFine : List AVal → Option (AVal × Bool)
  | [.agg [.int .i64 x, .int .i64 y, .int .i64 z]] => some (.bool (fineB x y z), true)
  | _ => none
def fIn : List AVal → Option (AVal × Bool)
  | [.agg [.int .i64 x, .int .i64 y, .int .i64 z], .int .i64 lo] => some (.bool (fineB x y z), decide (lo = -1000000))
  | _ => none
noncomputable def S0 : Specs := noSpecs.with 9 fCoord
noncomputable def S1 : Specs := (S0.with 15 fFine).with 27 fIn
end Go.Am
