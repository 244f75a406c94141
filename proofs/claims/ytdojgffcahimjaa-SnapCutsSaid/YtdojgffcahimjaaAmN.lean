/- What the abstract run finds, the real one does. -/
import Derived.Test.YtdojgffcahimjaaAmM
namespace Go.Am

section
variable {P : Program} 

theorem step_scope' {b : Frame} {a : Act} {k : List Item} {cs : List Frame} {w : World} {c : Code} :
    step P (lone (b.at a (.code (.scope c) :: k)) cs w) = .next (lone (b.at a (.code c :: .inScope c :: k)) cs w) :=
  step_lone_go (by simp [stepG, stepG.exec, Frame.at])
theorem step_inScope' {b : Frame} {a : Act} {k : List Item} {cs : List Frame} {w : World} {c : Code} :
    step P (lone (b.at a (.inScope c :: k)) cs w) = .next (lone (b.at a k) cs w) :=
  step_lone_go (by simp [stepG, stepG.exec, Frame.at])

theorem toList_map_range (ops : Array Oper) : ops.toList.map (fun o => (false, o)) = (List.range ops.size).map fun i => (false, ops.getD i default) := by
  apply List.ext_getElem
  · simp
  · intro i h1 h2
    have : i < ops.size := by simpa using h1
    simp [this]

/-- What is owed stays owed. -/
def RMono (R : Runner) : Prop := ∀ cx todo st st', R cx todo st = some st' → st'.ob = true → st.ob = true
theorem RInv.mono {R : Runner} (h : RInv R) : RMono R := fun cx todo st st' hr => (h cx todo st st' hr).ob

/-- One item: the end, or on with R. -/
theorem runBody_step {S : Specs} {Rc R : Runner} (hN : Named P) (hm : P.follows .mixedOrders = true) (hS : SpecsOk P S) (hCI : RInv Rc) (hC : ROk P Rc) (hRM : RMono R) {cx : Ctx} {todo : List Item} {st st' : St} (hcx : cx.floor ≤ st.next)
    (h : runBody P S Rc R cx todo st = some st') (ho : st'.ob = true) (ρ : Rho) (a : Act) (w : World) (b : Frame) (cs : List Frame) (hd : a.defers = []) (henv : EnvRel ρ st.env cx.n a.tmps) (hrel : Rel ρ st.mem st.next w) :
    (st' = st ∧ ∃ todo', Steps P (lone (b.at a todo) cs w) (lone { b.at a todo' with mode := .returning } cs w)) ∨
    ∃ todo1 st1 ρ1 a1 w1, Steps P (lone (b.at a todo) cs w) (lone (b.at a1 todo1) cs w1) ∧ R cx todo1 st1 = some st' ∧ cx.floor ≤ st1.next ∧ a1.defers = [] ∧ EnvRel ρ1 st1.env cx.n a1.tmps ∧ Rel ρ1 st1.mem st1.next w1 ∧
      Ev ρ ρ1 cx.floor st.mem st.next st1.mem st1.next w w1 := by
  -- one step, and on with the rest
  have go : ∀ (todo1 : List Item) (st1 : St) (a1 : Act) (w1 : World) (ρ1 : Rho), Steps P (lone (b.at a todo) cs w) (lone (b.at a1 todo1) cs w1) → R cx todo1 st1 = some st' → cx.floor ≤ st1.next → a1.defers = [] → EnvRel ρ1 st1.env cx.n a1.tmps → Rel ρ1 st1.mem st1.next w1 →
      Ev ρ ρ1 cx.floor st.mem st.next st1.mem st1.next w w1 →
      (st' = st ∧ ∃ todo', Steps P (lone (b.at a todo) cs w) (lone { b.at a todo' with mode := .returning } cs w)) ∨
      ∃ todo1 st1 ρ1 a1 w1, Steps P (lone (b.at a todo) cs w) (lone (b.at a1 todo1) cs w1) ∧ R cx todo1 st1 = some st' ∧ cx.floor ≤ st1.next ∧ a1.defers = [] ∧ EnvRel ρ1 st1.env cx.n a1.tmps ∧ Rel ρ1 st1.mem st1.next w1 ∧
        Ev ρ ρ1 cx.floor st.mem st.next st1.mem st1.next w w1 := by
    intro todo1 st1 a1 w1 ρ1 hs hr hc hd1 he hr1 hev
    exact .inr ⟨todo1, st1, ρ1, a1, w1, hs, hr, hc, hd1, he, hr1, hev⟩
  have same : ∀ (todo1 : List Item), step P (lone (b.at a todo) cs w) = .next (lone (b.at a todo1) cs w) → R cx todo1 st = some st' →
      (st' = st ∧ ∃ todo', Steps P (lone (b.at a todo) cs w) (lone { b.at a todo' with mode := .returning } cs w)) ∨
      ∃ todo1 st1 ρ1 a1 w1, Steps P (lone (b.at a todo) cs w) (lone (b.at a1 todo1) cs w1) ∧ R cx todo1 st1 = some st' ∧ cx.floor ≤ st1.next ∧ a1.defers = [] ∧ EnvRel ρ1 st1.env cx.n a1.tmps ∧ Rel ρ1 st1.mem st1.next w1 ∧
        Ev ρ ρ1 cx.floor st.mem st.next st1.mem st1.next w w1 := fun todo1 hs hr => go todo1 st a w ρ (.one hs) hr hcx hd henv hrel (Ev.refl _ _ _ _ _ hrel.dom)
  -- a region
  have region : ∀ (ops : Array Oper) (l : List Nat) (k : List Item) (st1 : St) (w0 : World), Steps P (lone (b.at a todo) cs w) (lone (b.at a (.inRegion ops l :: k)) cs w0) → wpOps P ops (Fin [] ρ cx st st1 w) l a w0 → R cx k st1 = some st' → cx.floor ≤ st1.next →
      (st' = st ∧ ∃ todo', Steps P (lone (b.at a todo) cs w) (lone { b.at a todo' with mode := .returning } cs w)) ∨
      ∃ todo1 st1 ρ1 a1 w1, Steps P (lone (b.at a todo) cs w) (lone (b.at a1 todo1) cs w1) ∧ R cx todo1 st1 = some st' ∧ cx.floor ≤ st1.next ∧ a1.defers = [] ∧ EnvRel ρ1 st1.env cx.n a1.tmps ∧ Rel ρ1 st1.mem st1.next w1 ∧
        Ev ρ ρ1 cx.floor st.mem st.next st1.mem st1.next w w1 := by
    intro ops l k st1 w0 hs hwp hr hc
    obtain ⟨e, a', w', ⟨he, hd', ρ1, q1, q2, q3⟩, harr⟩ := wp_ops l a w0 hwp b k cs
    subst he
    exact go k st1 a' w' ρ1 (hs.trans harr) hr hc hd' q1 q2 q3
  unfold runBody at h
  split at h
  · obtain rfl := Option.some.inj h
    exact .inl ⟨rfl, [], .one step_end⟩
  · obtain rfl := Option.some.inj h
    exact .inl ⟨rfl, _, .one step_ret⟩
  · exact same _ step_skip h
  · exact same _ step_label h
  · exact same _ step_inBlock h
  · exact same _ step_inScope' h
  · exact same _ step_seq h
  · rename_i c x y k
    split at h
    · rename_i v hv
      split at h
      rename_i e st1 ht
      obtain ⟨t1, t2, t3, t4⟩ := test_spec ht
      have ho1 := hRM _ _ _ _ h ho
      obtain ⟨rfl, _⟩ := t4 ho1
      have hc := henv.eval c
      rw [hv] at hc
      have hev : a.eval c = .bool e := by
        generalize a.eval c = u at hc
        cases hc; rfl
      refine go _ st1 a w ρ (.one (step_cond hev)) (by cases e <;> exact h) (by rw [t3]; exact hcx) hd (by rw [t1]; exact henv) (by rw [t2, t3]; exact hrel) (by rw [t2, t3]; exact Ev.refl _ _ _ _ _ hrel.dom)
    · cases h
  · exact same _ step_block h
  · exact same _ step_scope' h
  · exact same _ step_loop h
  · exact same _ step_inLoop h
  · split at h
    · rename_i hx
      exact same _ (step_exit hx) h
    · cases h
  · rename_i id ops k
    split at h
    · rename_i st1 hop
      have hi := opsRun_inv hCI _ _ _ hop
      have ho1 := hRM _ _ _ _ h ho
      rw [toList_map_range] at hop
      obtain ⟨_, hwp⟩ := opsRun_sound hN hS hCI hC (List.range ops.size) st st1 (fun i hi => List.mem_range.1 hi) hcx hop ho1
      exact region ops _ k st1 w (.one step_region) (hwp [] ρ a w hd henv hrel) h (Nat.le_trans hcx hi.nxt)
    · cases h
  · rename_i id ops k
    obtain ⟨hchk, h⟩ := bif_inv h
    split at h
    · rename_i st1 hop
      have hi := opsRunD_inv hCI _ _ _ _ hop
      have ho1 := hRM _ _ _ _ h ho
      have hw := opsDraw_sound hN hS hCI hC hcx hchk hop ho1 hd henv (hrel.drawn (w.drawn + 1))
      have hw2 := wpAny_sound ops.size (w.tape w.drawn (.order b.fn id)) _ a _ hw
      have hw3 := wpOps_monoQ (Q' := Fin [] ρ cx st st1 w) (fun e a' w' ⟨h1, h2, ρ1, h3, h4, h5⟩ => ⟨h1, h2, ρ1, h3, h4, h5.drawn⟩) _ _ _ hw2
      refine region ops _ k st1 _ (.one step_region_draw) ?_ h (Nat.le_trans hcx hi.nxt)
      simp only [Region.schedule, hm, Bool.true_or, if_true]
      exact hw3
    · cases h
  · cases h

theorem runBody_sound {S : Specs} {Rc R : Runner} (hN : Named P) (hm : P.follows .mixedOrders = true) (hS : SpecsOk P S) (hCI : RInv Rc) (hC : ROk P Rc) (hRI : RInv R) (hR : ROk P R) : ROk P (runBody P S Rc R) := by
  intro cx todo st st' hcx h ho ρ a w b cs hd henv hrel
  rcases runBody_step hN hm hS hCI hC hRI.mono hcx h ho ρ a w b cs hd henv hrel with ⟨rfl, todo', hs⟩ | ⟨todo1, st1, ρ1, a1, w1, hs, hr, hc, hd1, he1, hr1, hev⟩
  · exact ⟨ρ, a, todo', w, hs, hd, henv, hrel, Ev.refl _ _ _ _ _ hrel.dom⟩
  · obtain ⟨ρ', a', todo', w', h1, h2, h3, h4, h5⟩ := hR cx todo1 st1 st' hc hr ho ρ1 a1 w1 b cs hd1 he1 hr1
    exact ⟨ρ', a', todo', w', hs.trans h1, h2, h3, h4, hev.trans h5⟩

theorem run_sound (hN : Named P) (hm : P.follows .mixedOrders = true) {S : Specs} (hS : SpecsOk P S) : ∀ n, ROk P (run P S n)
  | 0 => fun cx todo st st' _ h => by cases h
  | n + 1 => runBody_sound hN hm hS (run_inv S n) (run_sound hN hm hS n) (run_inv S n) (run_sound hN hm hS n)

theorem rel_empty {H : Old} {w : World} (hH : ∀ k o, H k = some o → w.heap[k]? = some o) : Rel (rhoOf H) .leaf 0 w :=
  ⟨(fun b l h => by cases h), (fun b b' l l' h => by cases h), (fun b l ab h => by cases h), hH, (fun b l h => by cases h), (fun b l h => by cases h), (fun b _ => rfl), (fun j l h => by cases h)⟩

/-- A call that the abstract run carries out to its end. -/
noncomputable def callA (P : Program) (S : Specs) (fuel : Nat) (sym : Bool) (orc : List Bool) (f : FuncId) (args : List AVal) : Option (AVal × Bool) :=
  (aCall P S (run P S fuel) false f args ⟨0, 0, sym⟩ ⟨.leaf, .leaf, 0, orc, true⟩).map fun x => (x.1, x.2.ob)

/-- What is known behind a call: the value; what nobody writes any more; what there was is as it was. -/
structure Out (H : Old) (w : World) (ρ : Rho) (v : AVal) (u : Value) (w' : World) : Prop where
  val : VRel ρ v u
  le : ∀ k o, H k = some o → ρ.fz k = some o
  old : ∀ k o, ρ.fz k = some o → w'.heap[k]? = some o
  same : ∀ k, k < w.heap.size → ρ.fz k = H k
  below : RowKit.Below w.heap.size w w'

theorem out_of {H : Old} {w w' : World} {ρ : Rho} {v : AVal} {u : Value} {mem : Mem} {next floor : Nat} (hv : VRel ρ v u) (hr : Rel ρ mem next w') (hev : Ev (rhoOf H) ρ floor .leaf 0 mem next w w') : Out H w ρ v u w' :=
  ⟨hv, hev.ext.2.1, hr.old, hev.still, hev.os, hev.tape, hev.output, hev.size, fun k hk => by
    have : w.heap[k]? = some w.heap[k] := by simp [hk]
    rw [this]
    exact hev.frame k _ this fun b l hl => by cases hl⟩

theorem callA_sound {H : Old} (hN : Named P) (hm : P.follows .mixedOrders = true) {S : Specs} (hS : SpecsOk P S) {fuel : Nat} {sym : Bool} {orc : List Bool} {f : FuncId} {args : List AVal} {v : AVal} (h : callA P S fuel sym orc f args = some (v, true)) {vals : Array Value} {w : World}
    (hargs : All2 (VRel (rhoOf H)) args vals.toList) (hH : ∀ k o, H k = some o → w.heap[k]? = some o) :
    Calls P f vals w fun e w' => ∃ ρ u, e = .returned u ∧ Out H w ρ v u w' := by
  unfold callA at h
  simp only [Option.map_eq_some_iff, Prod.mk.injEq] at h
  obtain ⟨⟨v', st'⟩, h1, rfl, hob⟩ := h
  obtain ⟨_, hc⟩ := aCall_sound hS (run_sound hN hm hS fuel) (Nat.le_refl 0) h1 hob hargs (rel_empty hH)
  exact hc.mono fun e w' ⟨ρ', u, he, hp⟩ => ⟨ρ', u, he, out_of hp.val hp.rel hp.ev⟩

def noSpecs : Specs := fun _ => none
theorem noSpecs_ok : SpecsOk P noSpecs := fun f F h => by cases h
def noOld : Old := fun _ => none

/-- The kernel's own run. -/
theorem closed_call (hN : Named P) (hm : P.follows .mixedOrders = true) {fuel : Nat} {f : FuncId} {b : Bool} (h : callA P noSpecs fuel false [] f [] = some (.bool b, true)) (w : World) :
    Calls P f #[] w fun e w' => e = .returned (.bool b) ∧ RowKit.Below w.heap.size w w' :=
  (callA_sound (H := noOld) hN hm noSpecs_ok h (vals := #[]) .nil (fun k o h => by cases h)).mono fun e w' ⟨ρ, u, he, ho⟩ => by
    have := ho.val
    cases this
    exact ⟨he, ho.below⟩

end
end Go.Am
