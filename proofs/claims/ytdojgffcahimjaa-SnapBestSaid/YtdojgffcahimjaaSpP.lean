/- slices.Compact's contract; a contract that also takes nil lists; names of lists that are given back. -/
import Derived.Test.YtdojgffcahimjaaSpO
namespace Go.Am
open Go.Proofs Go.Lib Go.Sort
set_option maxRecDepth 100000
set_option linter.unusedVariables false

def padI (zs : List Int) : List Int := compact zs ++ List.replicate (zs.length - (compact zs).length) 0
def cmpN (zs : List Int) : Nat := (compact zs).length
theorem grow_none (w : World) : grow w #[] = w := by simp [grow]
theorem compact_eff : EffOk Try.prog 37 (fCut padI cmpN) :=
  eff_cut (fun zs => by have := compact_length_le zs; simp [padI]; omega) (fun zs => compact_length_le zs)
    (fun blk off cap zs w hH hb hz hcap => (Try.slices_Compact_int blk off cap zs w hH (by omega) hcap).mono fun e w' ⟨he, q, hw⟩ => ⟨he, q, #[], by rw [hw, grow_none]; rfl⟩)
    fun p cap w => Try.slices_Compact_int_empty p cap w

def unNil : AVal → AVal
  | .nils => .dat 0 (iget fun _ => 0)
  | v => v
theorem unNil_rel {ρ : Rho} {a : AVal} {u : Value} (h : VRel ρ a u) : VRel ρ (unNil a) u := by
  unfold unNil
  split
  · cases h; exact .datn _
  · exact h
theorem valOk_nil {P : Program} {f : FuncId} {F : List AVal → Option (AVal × Bool)} (h : ValOk P f F) : ValOk P f fun args => F (args.map unNil) := by
  intro args v hv H vals w hargs hH
  refine h (args.map unNil) v hv H vals w ?_ hH
  generalize vals.toList = us at hargs
  clear hv
  induction hargs with
  | nil => exact .nil
  | cons h _ ih => exact .cons (unNil_rel h) ih
theorem with_val {P : Program} {S : Specs} (hS : SpecsOk P S) {f : FuncId} {F : List AVal → Option (AVal × Bool)} (hf : (P.funcs[f]?).any (fun fn => fn.body.isSome) = true) (hF : ValOk P f F) : SpecsOk P (S.with f F) := by
  intro g G hg
  unfold Specs.with at hg
  cases hgf : Nat.beq g f with
  | false => rw [hgf] at hg; exact hS g G hg
  | true =>
    rw [hgf] at hg
    obtain rfl : Spec.val F = G := Option.some.inj hg
    obtain rfl : g = f := Nat.eq_of_beq_eq_true hgf
    refine ⟨?_, hF⟩
    cases hfn : P.funcs[g]? with
    | none => rw [hfn] at hf; cases hf
    | some fn => rw [hfn] at hf; exact ⟨fn, rfl, hf⟩

def rmV_0n (n : Nat) (c : Nat → Int) (m : Nat) (d : Nat → Int) : Nat := (mergeL n c m d).length
def rmV_0c (n : Nat) (c : Nat → Int) (m : Nat) (d : Nat → Int) : Nat → Int := listC (mergeL n c m d)
def rmV_1 (n : Nat) (c : Nat → Int) (m : Nat) (d : Nat → Int) : Int := mergeE n c m d
def gdV_0n (f s m : Int) : Nat := gridN f s m
def gdV_0c (f s _ : Int) : Nat → Int := gridC f s
def gdV_1 (f s m : Int) : Int := gridE f s m

noncomputable def S8 : Specs := (S7.with 12 fun args => fSame (args.map unNil)).withE 37 (fCut padI cmpN)
theorem S8_ok : SpecsOk Try.prog S8 := with_eff (with_val S7_ok (by kernel_rfl) (valOk_nil (S7_ok 12 (.val fSame) rfl).2)) (by kernel_rfl) compact_eff
end Go.Am
