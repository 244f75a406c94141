/- Short names for what is printed often; the contracts of closed functions. -/
import Derived.Test.YtcjknfikhgahiaaGreatAmX
namespace Go.Am
def AVal.z (n : Int) : AVal := .int .i64 n
def zs (l : List Int) : List AVal := l.map AVal.z
def AVal.az (l : List Int) : AVal := .agg (zs l)
def bz (l : List Int) (t : TypeId) : Option ABlk := some ⟨zs l, t, none⟩
def bk (l : List AVal) (t : TypeId) : Option ABlk := some ⟨l, t, none⟩
def T.u : T AVal := .node .undef .leaf .leaf
def T.k (l r : T AVal) : T AVal := .node .undef l r
def T.kl (r : T AVal) : T AVal := .node .undef .leaf r
def T.kr (l : T AVal) : T AVal := .node .undef l .leaf
def T.o (v : AVal) : T AVal := .node v .leaf .leaf
def T.m (v : Option ABlk) : T (Option ABlk) := .node v .leaf .leaf
noncomputable def Specs.with (S : Specs) (f : FuncId) (F : List AVal → Option (AVal × Bool)) : Specs := fun g => bif Nat.beq g f then some (.val F) else S g
def fClosed (v : AVal) : List AVal → Option (AVal × Bool)
  | [] => some (v, true)
  | _ => none
theorem with_closed {P : Program} {S : Specs} (hS : SpecsOk P S) {f : FuncId} {v : AVal} (hf : (P.funcs[f]?).any (fun fn => fn.body.isSome) = true) {C' : Cfg} (h : Goes P (startC P f [] false []) C') (hfin : finalS C' = true)
    (hob : aResults P C'.st (startC P f [] false []).rs = some [v]) (hp : pf 4 v = true) : SpecsOk P (S.with f (fClosed v)) := by
  intro g G hg
  unfold Specs.with at hg
  cases hgf : Nat.beq g f with
  | false => rw [hgf] at hg; exact hS g G hg
  | true =>
    rw [hgf] at hg
    obtain rfl : Spec.val (fClosed v) = G := Option.some.inj hg
    obtain rfl : g = f := Nat.eq_of_beq_eq_true hgf
    refine ⟨?_, fun args v' hv H vals w hargs hH => ?_⟩
    · cases hfn : P.funcs[g]? with
      | none => rw [hfn] at hf; cases hf
      | some fn => rw [hfn] at hf; exact ⟨fn, rfl, hf⟩
    · unfold fClosed at hv
      split at hv
      · simp only [Option.some.injEq, Prod.mk.injEq, and_true] at hv
        subst hv
        exact (goes_call hf h hfin hob hargs hH).mono fun e w' ⟨ρ, u, he, ho⟩ => ⟨ρ.fz, u, ho.le, ho.old, ho.same, he, pf_sound 4 _ u hp ho.val, ho.below⟩
      · cases hv
end Go.Am
