/- Functions with loops, told as plain steps between the heads of their loops. -/
import Derived.Test.YtdojgffcahimjaaAmW
namespace Go.Am
set_option linter.unusedVariables false

/-- Blocks, listed. -/
noncomputable def memL : List ABlk → Nat → Mem
  | [], _ => .leaf
  | b :: l, i => mset (memL l (i + 1)) i (some b)
/-- A slice of integers, row by row. -/
def iget (c : Nat → Int) : Nat → List AVal := fun i => [.int .i64 (c i)]

noncomputable def Cfg.withO : Cfg → List Bool → Cfg
  | ⟨cx, ro, todo, rnd, rs, ⟨env, mem, next, _, _⟩, cs, lps⟩, o => ⟨cx, ro, todo, rnd, rs, ⟨env, mem, next, o, true⟩, cs, lps⟩
noncomputable def Cfg.withB : Cfg → Bool → Cfg
  | ⟨cx, ro, todo, rnd, rs, ⟨env, mem, next, _, _⟩, cs, lps⟩, b => ⟨cx, ro, todo, rnd, rs, ⟨env, mem, next, [], b⟩, cs, lps⟩

/-- A stretch with told outcomes of the tests, and what is owed for it. -/
theorem stretchO {P : Program} {S : Specs} (hN : Named P) (hmx : P.follows .mixedOrders = true) (hS : SpecsOk P S) {n m d : Nat} {N : Norm} {C C' : Cfg} (orc : List Bool) (ob : Bool)
    (h : (iterS P S (runR P S m d) n (C.withO orc)).bind (normC P N) = some (C'.withB ob)) (ho : ob = true) (hfl : fl0 C = true) : Goes P C C' := by
  obtain ⟨cx, ro, todo, rnd, rs, ⟨env, mem, next, o, b⟩, cs, lps⟩ := C
  obtain ⟨cx', ro', todo', rnd', rs', ⟨env', mem', next', o', b'⟩, cs', lps'⟩ := C'
  obtain ⟨g, _⟩ := stretch hN hmx hS h ho hfl
  exact fun H w0 ρ b a k css w ma mb hs he cs0 => by
    obtain ⟨ρ', b', a', k', css', w', ma', mb', h1, h2, h3, h4⟩ := g H w0 ρ b a k css w ma mb ⟨hs.top, hs.lv, hs.rest, hs.rel⟩ he cs0
    exact ⟨ρ', b', a', k', css', w', ma', mb', h1, ⟨h2.top, h2.lv, h2.rest, h2.rel⟩, h3, h4⟩

/-- Where a stretch leads: into nothing, to the end, to a head. -/
inductive Out' (σ : Type) where
  | stuck
  | ret (vs : List AVal)
  | to (s : σ)

/-- From a state the frame's end is reached with these results. -/
def Ends (P : Program) (rs : List ResultVar) (C : Cfg) (vs : List AVal) : Prop := ∃ C', Goes P C C' ∧ finalS C' = true ∧ aResults P C'.st rs = some vs

def Lead (P : Program) (rs : List ResultVar) {σ : Type} (cfg : σ → Cfg) (C : Cfg) : Out' σ → Prop
  | .stuck => True
  | .ret vs => Ends P rs C vs
  | .to s => Goes P C (cfg s)

section
variable {P : Program} {rs : List ResultVar} {σ : Type} {cfg : σ → Cfg} {C : Cfg}
theorem lead_bif {c : Bool} {a b : Out' σ} (ha : c = true → Lead P rs cfg C a) (hb : c = false → Lead P rs cfg C b) : Lead P rs cfg C (bif c then a else b) := by
  cases c
  · exact hb rfl
  · exact ha rfl
theorem lead_owe {c : Bool} {a : Out' σ} (ha : c = true → Lead P rs cfg C a) : Lead P rs cfg C (bif c then a else .stuck) := lead_bif ha fun _ => trivial
theorem lead_ret {vs : List AVal} (C' : Cfg) (h : Goes P C C') (hf : finalS C' = true) (hr : aResults P C'.st rs = some vs) : Lead P rs cfg C (.ret vs) := ⟨C', h, hf, hr⟩
end

/-- Steps from head to head. -/
def goOn {σ : Type} (step : σ → Out' σ) : Nat → Out' σ → Out' σ
  | 0, o => o
  | n + 1, .to s => goOn step n (step s)
  | _ + 1, o => o

theorem goOn_lead {P : Program} {rs : List ResultVar} {σ : Type} {cfg : σ → Cfg} {step : σ → Out' σ} (hstep : ∀ s, Lead P rs cfg (cfg s) (step s)) {C : Cfg} : ∀ (n : Nat) (o : Out' σ), Lead P rs cfg C o → Lead P rs cfg C (goOn step n o)
  | 0, o, h => h
  | n + 1, .stuck, h => h
  | n + 1, .ret vs, h => h
  | n + 1, .to s, h => goOn_lead hstep n (step s) (match step s, hstep s with
    | .stuck, _ => trivial
    | .ret vs, ⟨C', g, hf, hr⟩ => ⟨C', Goes.trans h g, hf, hr⟩
    | .to s', g => Goes.trans h g)
theorem goOn_ret {σ : Type} (step : σ → Out' σ) (n : Nat) (vs : List AVal) : goOn step n (.ret vs) = .ret vs := by cases n <;> rfl
theorem goOn_to {σ : Type} (step : σ → Out' σ) (n : Nat) (s : σ) : goOn step (n + 1) (.to s) = goOn step n (step s) := rfl

theorem ok_and {a b : Bool} (ha : a = true) (hb : b = true) : (a && b) = true := by rw [ha, hb]; rfl
theorem ok_beq {a b : Bool} (h : a = b) : (a == b) = true := by rw [h]; cases b <;> rfl

/-- One more contract. -/
noncomputable def Specs.with (S : Specs) (f : FuncId) (F : List AVal → Option (AVal × Bool)) : Specs := fun g => bif Nat.beq g f then some (.val F) else S g

theorem startC_rs {P : Program} {f : FuncId} {args : List AVal} {sym : Bool} {orc : List Bool} : (startC P f args sym orc).rs = resultsOf P f := by
  unfold startC resultsOf
  cases P.funcs[f]? <;> rfl

theorem with_ends {P : Program} {S : Specs} (hS : SpecsOk P S) {f : FuncId} {F : List AVal → Option (AVal × Bool)} (hf : (P.funcs[f]?).any (fun fn => fn.body.isSome) = true)
    (hF : ∀ args v, F args = some (v, true) → ∃ vs, packed vs = v ∧ Ends P (resultsOf P f) (startC P f args true []) vs ∧ ∃ d, pf d v = true) : SpecsOk P (S.with f F) := by
  intro g G hg
  unfold Specs.with at hg
  cases hgf : Nat.beq g f with
  | false => rw [hgf] at hg; exact hS g G hg
  | true =>
    rw [hgf] at hg
    obtain rfl : Spec.val F = G := Option.some.inj hg
    obtain rfl : g = f := Nat.eq_of_beq_eq_true hgf
    refine ⟨?_, fun args v hv H vals w hargs hH => ?_⟩
    · cases hfn : P.funcs[g]? with
      | none => rw [hfn] at hf; cases hf
      | some fn => rw [hfn] at hf; exact ⟨fn, rfl, hf⟩
    · obtain ⟨vs, rfl, ⟨C', g1, g2, g3⟩, d, hp⟩ := hF args v hv
      exact (goes_call hf g1 g2 (by rw [startC_rs]; exact g3) hargs hH).mono fun e w' ⟨ρ, u, he, ho⟩ => ⟨ρ.fz, u, ho.le, ho.old, ho.same, he, pf_sound d _ u hp ho.val, ho.below⟩

/-- Lists of integers. -/
def cOf (get : Nat → List AVal) (i : Nat) : Int := match get i with
  | .int _ n :: _ => n
  | _ => 0
noncomputable def isI (get : Nat → List AVal) : Bool := pd (get = iget (cOf get))
theorem isI_iget (c : Nat → Int) : isI (iget c) = true := pd_true rfl
theorem isI_spec {get : Nat → List AVal} (h : isI get = true) : ∃ c, get = iget c := ⟨_, pd_of h⟩
theorem ne_self' (x : Int) : (x != x) = false := by simp
theorem eq_self' (x : Int) : (x == x) = true := by simp
theorem nne_self' (x : Int) : (!(x != x)) = true := by simp
theorem neq_self' (x : Int) : (!(x == x)) = false := by simp
/-- Numbers in range. -/
theorem w64 (n : Int) : IntKind.i64.wrap n = (n + 9223372036854775808) % 18446744073709551616 - 9223372036854775808 := by
  rw [IntKind.wrap_i64]
theorem w_in {n : Int} (h : -9223372036854775808 ≤ n) (h' : n ≤ 9223372036854775807) : IntKind.i64.wrap n = n := by simp only [w64]; omega
theorem w_nat {i : Nat} (h : i ≤ 9223372036854775806) : IntKind.i64.wrap ((i : Int) + 1) = ((i + 1 : Nat) : Int) := by
  rw [w_in (by omega) (by omega)]; rfl
theorem iMin_eq (x y : Int) : iMin x y = min x y := by unfold iMin; split <;> omega
theorem iMax_eq (x y : Int) : iMax x y = max x y := by unfold iMax; split <;> omega
theorem bif_t {α : Type} {c : Bool} {a b : α} (h : c = true) : (bif c then a else b) = a := by rw [h]; rfl
theorem bif_f {α : Type} {c : Bool} {a b : α} (h : c = false) : (bif c then a else b) = b := by rw [h]; rfl
end Go.Am
