/- The machine with its stack: what it finds, the real machine does. Relations, and the ways of single operations. -/
import Derived.Test.YtdojgffcahimjaaAmQ
import Derived.AtR
import Derived.RangeFuncRecord
import Derived.RangeFuncNested
namespace Go.Am
set_option linter.unusedVariables false

section
variable {P : Program}

/-! ### One operation of a region, in any frame -/
section ops
variable {b : Frame} {a : Act} {k : List Item} {cs : List Frame} {w : World} {ops : Array Oper}

theorem op_steps {i : Nat} {rest : List Nat} {o : Oper} {K : Act → World → Prop} {Q : Exit → Act → World → Prop} (hQ : ∀ e a w, Q e a w → e = .normal) (ho : ops[i]? = some o) (hnd : ∀ c, o.op ≠ .defer c)
    (h : if Region.wanted o (yielded ops a.tmps) then o.wp P a w K Q else K (a.put o.dst undef) w) :
    ∃ a' w', K a' w' ∧ Steps P (lone (b.atR a (.inRegion ops (i :: rest) :: k)) cs w) (lone (b.atR a' (.inRegion ops rest :: k)) cs w') := by
  by_cases hw : Region.wanted o (yielded ops a.tmps) = true
  · rw [if_pos hw] at h
    have hg := stepGR_op (P := P) (b := b) (k := k) (cs := cs) (w := w) (rest := rest) ho hw
    rw [Oper.semAt_eq _ _ _ hnd] at hg
    have fin : ∀ (a : Act) (v : Value), (b.atR a (.inRegion ops (i :: rest) :: k)).finish v = b.atR (a.put o.dst v) (.inRegion ops rest :: k) := fun a v => by rw [Frame.finish_atR, ho]; rfl
    unfold Oper.wp at h
    generalize hr : (execOp a.eval o).run P w = r at h
    cases r with
    | ok n w' =>
      cases n <;> simp only [Oper.upon] at h
      case value v =>
        exact ⟨_, w', h, .one (step_lone_go (by rw [hg, ← fin a v]; simp [stepG.apply, hr]))⟩
      case skip =>
        exact ⟨_, w', h, .one (step_lone_go (by rw [hg, ← fin a undef]; simp [stepG.apply, hr]))⟩
      case defer d =>
        refine ⟨_, w', h, .one (step_lone_go ?_)⟩
        have e := fin { a with defers := d :: a.defers } undef
        rw [hg, ← e]
        simp [stepG.apply, hr, Frame.atR]
      case enter f args =>
        obtain ⟨e, w'', fr, hR, hsteps, _, hleave⟩ := h (b.atR a (.inRegion ops (i :: rest) :: k) :: cs)
        have henter : step P (lone (b.atR a (.inRegion ops (i :: rest) :: k)) cs w) = .next (lone (Frame.enter P f args .normal) (b.atR a (.inRegion ops (i :: rest) :: k) :: cs) w') :=
          step_lone_go (by rw [hg]; simp [stepG.apply, hr, Frame.atR])
        cases e with
        | returned v =>
          refine ⟨_, w'', hR, .head henter (hsteps.trans (.one ?_))⟩
          rw [← fin a v]; exact step_leave_returned hleave
        | panicked chain => exact absurd (hQ _ _ _ hR) (by simp)
        | outgrown => obtain ⟨_, _, hq⟩ := hR; exact absurd (hQ _ _ _ hq) (by simp)
      case row row args =>
        obtain ⟨v, w'', hR, hsteps⟩ := h (b.atR a (.inRegion ops (i :: rest) :: k)) cs
        have henter : step P (lone (b.atR a (.inRegion ops (i :: rest) :: k)) cs w) = .next (lone (Frame.ofRow P row args .normal) (b.atR a (.inRegion ops (i :: rest) :: k) :: cs) w') :=
          step_lone_go (by rw [hg]; simp [stepG.apply, hr, Frame.atR])
        refine ⟨_, w'', hR, .head henter ?_⟩
        rw [← fin a v]; exact hsteps
      all_goals exact h.elim
    | halt x w' => cases x <;> simp only [Oper.upon] at h <;> first | exact h.elim | exact absurd (hQ _ _ _ h) (by simp)
  · rw [if_neg hw] at h
    have hs := stepR_op_skip (P := P) (b := b) (a := a) (k := k) (cs := cs) (w := w) (ops := ops) (i := i) (rest := rest) (by simp [ho]; simpa using hw)
    rw [ho] at hs
    exact ⟨_, w, h, .one hs⟩

theorem ops_steps {R : Act → World → Prop} {Q : Exit → Act → World → Prop} (hQ : ∀ e a w, Q e a w → e = .normal ∧ R a w) (hnd : noDefer ops = true) : ∀ (l : List Nat) (a : Act) (w : World), wpOps P ops Q l a w →
    ∃ a' w', R a' w' ∧ Steps P (lone (b.atR a (.inRegion ops l :: k)) cs w) (lone (b.atR a' k) cs w')
  | [], a, w, h => ⟨a, w, (hQ _ _ _ h).2, .one stepR_region_end⟩
  | i :: l, a, w, h => by
    simp only [wpOps] at h
    cases ho : ops[i]? with
    | none =>
      rw [ho] at h
      obtain ⟨a', w', hR, hs⟩ := ops_steps hQ hnd l a w h
      have h1 := stepR_op_skip (P := P) (b := b) (a := a) (k := k) (cs := cs) (w := w) (ops := ops) (i := i) (rest := l) (by simp [ho])
      rw [ho] at h1
      exact ⟨a', w', hR, .head h1 hs⟩
    | some o =>
      rw [ho] at h
      have hno : ∀ c, o.op ≠ .defer c := by
        intro c hc
        have hm : o ∈ ops.toList := by rw [Array.mem_toList_iff]; exact Array.mem_of_getElem? ho
        have := List.all_eq_true.1 hnd o hm
        rw [hc] at this; cases this
      have h' : if Region.wanted o (yielded ops a.tmps) then o.wp P a w (wpOps P ops Q l) Q else wpOps P ops Q l (a.put o.dst undef) w := by
        by_cases hw : Region.wanted o (yielded ops a.tmps) = true
        · simp only [hw, if_true] at h ⊢
          rcases h with h | ⟨_, a0, w0, h0⟩
          · exact h
          · exact absurd (hQ _ _ _ h0).1 (by simp)
        · simp only [hw, if_false, Bool.false_eq_true] at h ⊢
          exact h
      obtain ⟨a1, w1, h1, s1⟩ := op_steps (b := b) (k := k) (cs := cs) (rest := l) (fun e a w q => (hQ e a w q).1) ho hno h'
      obtain ⟨a', w', hR, hs⟩ := ops_steps hQ hnd l a1 w1 h1
      exact ⟨a', w', hR, s1.trans hs⟩
end ops
end
end Go.Am
