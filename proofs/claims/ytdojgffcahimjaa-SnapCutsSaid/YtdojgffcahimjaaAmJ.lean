/- One step of a region. -/
import Derived.Test.YtdojgffcahimjaaAmI
namespace Go.Am

section
variable {P : Program} {ρ : Rho} 

theorem EnvRel.congr {env env' : T AVal} {n : Nat} {tmps : Array Value} (h : EnvRel ρ env n tmps) (he : ∀ t, T.get .undef env' t = T.get .undef env t) : EnvRel ρ env' n tmps :=
  ⟨h.size, fun i => by rw [he]; exact h.get i, fun i hi => by rw [he]; exact h.out i hi⟩

theorem EnvRel.eval {st : St} {n : Nat} {a : Act} (h : EnvRel ρ st.env n a.tmps) (x : Operand) : VRel ρ (st.eval x) (a.eval x) := by
  cases x with
  | tmp t => exact h.get t
  | const v => exact ofV_rel v
  | global g => exact .undef _
  | func f => exact .fn f [] #[] rfl fun i h1 _ => by simp at h1

theorem EnvRel.put {env env' : T AVal} {n : Nat} {a : Act} (h : EnvRel ρ env n a.tmps) {dst : Option Tmp} {v : AVal} {u : Value} (hv : VRel ρ v u)
    (hp : (dst = none ∧ env' = env) ∨ ∃ d, dst = some d ∧ d < n ∧ env' = T.set .undef env d v) : EnvRel ρ env' n (a.put dst u).tmps := by
  rcases hp with ⟨rfl, rfl⟩ | ⟨d, rfl, hd, rfl⟩
  · exact h
  · have hsz := h.size
    refine ⟨by simp [Act.put, hsz], fun i => ?_, fun i hi => ?_⟩
    · rw [T.get_set]
      by_cases hi : i = d
      · subst hi
        rw [if_pos rfl]
        have : i < a.tmps.size := by rw [hsz]; exact hd
        simpa [Act.put, this] using hv
      · rw [if_neg hi]
        have := h.get i
        simpa [Act.put, Array.getElem?_setIfInBounds_ne (Ne.symm hi)] using this
    · rw [T.get_set, if_neg (Nat.ne_of_gt (Nat.lt_of_lt_of_le hd hi))]
      exact h.out i hi

theorem Act.put_defers' (a : Act) (dst : Option Tmp) (v : Value) : (a.put dst v).defers = a.defers := by cases dst <;> rfl

/-! ### Guards -/
theorem aWant0_abs {ops : Array Oper} {o : Oper} {cx : Ctx} {st st' : St} {e : Bool} (h : aWant0 ops o cx st = some (e, st')) : st'.mem = st.mem ∧ st'.next = st.next ∧ (st'.ob = true → st.ob = true ∧ ∀ t, st'.tmp t = st.tmp t) := by
  unfold aWant0 at h
  split at h
  · simp only [Option.some.injEq, Prod.mk.injEq] at h
    obtain ⟨_, rfl⟩ := h
    exact ⟨rfl, rfl, fun h => ⟨h, fun _ => rfl⟩⟩
  · split at h
    · cases h
    · rename_i d hd
      split at h
      · rename_i b hb
        split at h
        rename_i e1 st1 ht
        split at h
        · rename_i st2 hp
          simp only [Option.some.injEq, Prod.mk.injEq] at h
          obtain ⟨_, rfl⟩ := h
          obtain ⟨t1, t2, t3, t4⟩ := test_spec ht
          obtain ⟨p1, p2, p3, p4⟩ := put_spec hp
          refine ⟨p1.trans t2, p2.trans t3, fun ho => ?_⟩
          rw [p3] at ho
          obtain ⟨rfl, ho⟩ := t4 ho
          refine ⟨ho, fun t => ?_⟩
          rcases p4 with ⟨e, _⟩ | ⟨d', e, _, he⟩
          · cases e
          · obtain rfl := Option.some.inj e
            show T.get .undef st2.env t = T.get .undef st.env t
            rw [he, t1, T.get_set]
            split
            · rename_i h; subst h; exact hb.symm
            · rfl
        · cases h
      · simp only [Option.some.injEq, Prod.mk.injEq] at h
        obtain ⟨_, rfl⟩ := h
        exact ⟨rfl, rfl, fun h => ⟨h, fun _ => rfl⟩⟩
      · cases h

/-- The slot that the guard looks at. -/
def guardSlot (ops : Array Oper) (o : Oper) : Option Tmp := o.guard.bind fun g => (ops[g.1]?).bind (·.dst)

theorem aWant0_conc {ops : Array Oper} {o : Oper} {cx : Ctx} {st st' : St} {e : Bool} (h : aWant0 ops o cx st = some (e, st')) (ho : st'.ob = true) {tmps : Array Value} (hsz : tmps.size = cx.n)
    (hr : ∀ d, guardSlot ops o = some d → VRel ρ (st.tmp d) (tmps.getD d undef)) : Region.wanted o (yielded ops tmps) = e := by
  unfold aWant0 at h
  unfold Region.wanted
  split at h
  · rename_i hg
    simp only [Option.some.injEq, Prod.mk.injEq] at h
    obtain ⟨rfl, _⟩ := h
    rw [hg]
  · rename_i j want hg
    rw [hg]
    simp only
    split at h
    · cases h
    · rename_i d hd
      have hrd := hr d (by simp [guardSlot, hg, hd])
      split at h
      · rename_i b hb
        split at h
        rename_i e1 st1 ht
        split at h
        · rename_i st2 hp
          simp only [Option.some.injEq, Prod.mk.injEq] at h
          obtain ⟨rfl, rfl⟩ := h
          obtain ⟨_, _, _, t4⟩ := test_spec ht
          obtain ⟨_, _, p3, p4⟩ := put_spec hp
          rw [p3] at ho
          obtain ⟨rfl, _⟩ := t4 ho
          rcases p4 with ⟨e, _⟩ | ⟨d', e, hlt, _⟩
          · cases e
          · obtain rfl := Option.some.inj e
            rw [hb] at hrd
            have hlt' : d < tmps.size := by rw [hsz]; exact hlt
            have hget : tmps.getD d undef = tmps[d] := by simp [hlt']
            rw [hget] at hrd
            have : yielded ops tmps j = some e1 := by
              unfold yielded
              rw [hd]
              simp only [Option.bind_some, Array.getElem?_eq_getElem hlt']
              generalize tmps[d] = u at hrd
              cases hrd
              rfl
            rw [this]
            cases e1 <;> cases want <;> rfl
        · cases h
      · rename_i hb
        simp only [Option.some.injEq, Prod.mk.injEq] at h
        obtain ⟨rfl, rfl⟩ := h
        rw [hb] at hrd
        have : yielded ops tmps j = none := by
          unfold yielded
          rw [hd]
          simp only [Option.bind_some]
          by_cases hlt : d < tmps.size
          · have hget : tmps.getD d undef = tmps[d] := by simp [hlt]
            rw [hget] at hrd
            rw [Array.getElem?_eq_getElem hlt]
            generalize tmps[d] = u at hrd
            cases hrd
            rfl
          · rw [Array.getElem?_eq_none (Nat.le_of_not_lt hlt)]
        rw [this]
        rfl
      · cases h

theorem conc_spec {cx : Ctx} {t : Nat} {kd : IntKind} {n : Int} {st st' : St} (ht : st.tmp t = .int kd n) (h : st.conc cx t kd n = some st') : st'.mem = st.mem ∧ st'.next = st.next ∧ (st'.ob = true → st.ob = true ∧ ∀ t, st'.tmp t = st.tmp t) := by
  obtain ⟨env, mem, next, orc, ob⟩ := st
  cases orc with
  | nil =>
    obtain rfl := Option.some.inj h
    exact ⟨rfl, rfl, fun h => ⟨h, fun _ => rfl⟩⟩
  | cons o r =>
    unfold St.conc at h
    obtain ⟨_, h⟩ := bif_inv h
    obtain rfl := Option.some.inj h
    refine ⟨rfl, rfl, fun ho => ?_⟩
    simp only [Bool.and_eq_true, decide_eq_true_eq] at ho
    refine ⟨ho.2, fun k => ?_⟩
    show T.get .undef (T.set .undef env t _) k = T.get .undef env k
    rw [T.get_set]
    split
    · rename_i e
      subst e
      rw [← ho.1]
      exact ht.symm
    · rfl

theorem aConc_spec {o : Oper} {cx : Ctx} {st st' : St} (h : aConc o cx st = some st') : st'.mem = st.mem ∧ st'.next = st.next ∧ (st'.ob = true → st.ob = true ∧ ∀ t, st'.tmp t = st.tmp t) := by
  have same : some st = some st' → st'.mem = st.mem ∧ st'.next = st.next ∧ (st'.ob = true → st.ob = true ∧ ∀ t, st'.tmp t = st.tmp t) := fun e => by
    obtain rfl := Option.some.inj e
    exact ⟨rfl, rfl, fun h => ⟨h, fun _ => rfl⟩⟩
  unfold aConc at h
  split at h
  · split at h
    · split at h
      · rename_i ht; exact conc_spec ht h
      · exact same h
    · split at h
      · rename_i ht; exact conc_spec ht h
      · exact same h
    · exact same h
  · split at h
    · split at h
      · rename_i ht; exact conc_spec ht h
      · exact same h
    · exact same h
  · exact same h

theorem aWanted_parts {ops : Array Oper} {o : Oper} {cx : Ctx} {st st' : St} {e : Bool} (h : aWanted ops o cx st = some (e, st')) : ∃ st1, aWant0 ops o cx st = some (e, st1) ∧ st'.mem = st1.mem ∧ st'.next = st1.next ∧ (st'.ob = true → st1.ob = true ∧ ∀ t, st'.tmp t = st1.tmp t) ∧ (kindOf o.op = .alloc ∨ e = false → st' = st1) := by
  unfold aWanted at h
  split at h
  · rename_i st1 h1
    split at h
    · rename_i st2 h2
      simp only [Option.some.injEq, Prod.mk.injEq] at h
      obtain ⟨rfl, rfl⟩ := h
      obtain ⟨c1, c2, c3⟩ := aConc_spec h2
      refine ⟨st1, h1, c1, c2, c3, fun hk => ?_⟩
      rcases hk with hk | hk
      · unfold aConc at h2
        split at h2
        · rename_i ho; rw [ho] at hk; cases hk
        · rename_i ho; rw [ho] at hk; cases hk
        · exact (Option.some.inj h2).symm
      · cases hk
    · cases h
  · exact ⟨st', h, rfl, rfl, fun h => ⟨h, fun _ => rfl⟩, fun _ => rfl⟩

theorem aWanted_abs {ops : Array Oper} {o : Oper} {cx : Ctx} {st st' : St} {e : Bool} (h : aWanted ops o cx st = some (e, st')) : st'.mem = st.mem ∧ st'.next = st.next ∧ (st'.ob = true → st.ob = true ∧ ∀ t, st'.tmp t = st.tmp t) := by
  obtain ⟨st1, h1, c1, c2, c3, _⟩ := aWanted_parts h
  obtain ⟨w1, w2, w3⟩ := aWant0_abs h1
  exact ⟨c1.trans w1, c2.trans w2, fun ho => ⟨(w3 (c3 ho).1).1, fun t => ((c3 ho).2 t).trans ((w3 (c3 ho).1).2 t)⟩⟩

theorem aWanted_conc {ops : Array Oper} {o : Oper} {cx : Ctx} {st st' : St} {e : Bool} (h : aWanted ops o cx st = some (e, st')) (ho : st'.ob = true) {tmps : Array Value} (hsz : tmps.size = cx.n)
    (hg : ∀ d, guardSlot ops o = some d → VRel ρ (st.tmp d) (tmps.getD d undef)) : Region.wanted o (yielded ops tmps) = e := by
  obtain ⟨st1, h1, _, _, c3, _⟩ := aWanted_parts h
  exact aWant0_conc h1 (c3 ho).1 hsz hg

/-! ### One operation -/
/-- What one operation does: the value that it gives, and the memory behind it. -/
structure Stepped (P : Program) (cx : Ctx) (o : Oper) (st st' : St) (v : AVal) : Prop where
  ob : st.ob = true
  does : ∀ (ρ : Rho) (a : Act) (w : World) (ev : Operand → AVal), (∀ x, x ∈ o.op.operands → ev x = st.eval x) → OpsRel ρ ev a.eval o.op → Rel ρ st.mem st.next w → Does P o a w (Post ρ cx.floor st st' v w)
  calm : (kindOf o.op = .pure ∨ kindOf o.op = .read) → ∀ (ρ : Rho) (a : Act) (w : World) (ev : Operand → AVal) (mem : Mem) (next : Nat), (∀ x, x ∈ o.op.operands → ev x = st.eval x) → OpsRel ρ ev a.eval o.op → Rel ρ mem next w →
    (∀ t y b ab, o.op = .load t y → rdOf o.op ev = some b → mget st.mem b = some ab → mget mem b = some ab) → ∃ u, (execOp a.eval o).run P w = .ok (.value u) w ∧ VRel ρ v u

theorem kind_pure {op : Op} {ev : Operand → AVal} {x : AVal × Bool} (h : aPure P op ev = some x) : kindOf op = .pure := by
  cases op with
  | call c =>
    obtain ⟨callee, args, argTypes⟩ := c
    cases callee with
    | builtin b => cases b <;> first | rfl | (simp [aPure, aBuiltin] at h)
    | value f => simp [aPure] at h
    | invoke r m => rfl
  | _ => first | rfl | (simp [aPure] at h; done)

theorem opStep_spec {S : Specs} {R : Runner} (hN : Named P) (hS : SpecsOk P S) (hRI : RInv R) (hR : ROk P R) {lift : Bool} {o : Oper} {cx : Ctx} {st st' : St} (hcx : cx.floor ≤ st.next) (h : opStep P S R lift o cx st = some st') :
    ∃ v stm, stm.put cx o.dst v = some st' ∧ stm.env = st.env ∧ AInv cx.floor st stm ∧ ((kindOf o.op = .pure ∨ kindOf o.op = .read) → stm.mem = st.mem ∧ stm.next = st.next) ∧
      (lift = true → kindOf o.op = .call → ∀ b, b < st.next → mget stm.mem b = mget st.mem b) ∧
      (kindOf o.op = .chain → ∀ b, b < st.next → wrOf o.op st.eval ≠ some b → mget stm.mem b = mget st.mem b) ∧
      (kindOf o.op = .alloc → v = .ptr st.next 0 ∧ ∃ t z, o.op = .alloc t ∧ zeroOf P t = some z ∧ stm = aNew st z t) ∧
      (st'.ob = true → Stepped P cx o st stm v) := by
  unfold opStep at h
  split at h
  · rename_i v b hp
    have hk := kind_pure hp
    split at h
    · rename_i st1 h1
      obtain ⟨e1, e2, e3, e4⟩ := owe_spec h1
      refine ⟨v, st1, h, e1, AInv.same e2 e3 fun x => (e4 x).2, fun _ => ⟨e2, e3⟩, (fun _ hc => by rw [hk] at hc; cases hc), (fun hc => by rw [hk] at hc; cases hc), (fun hc => by rw [hk] at hc; cases hc), fun ho => ?_⟩
      obtain ⟨_, _, p3, _⟩ := put_spec h
      rw [p3] at ho
      obtain ⟨rfl, ho1⟩ := e4 ho
      refine ⟨ho1, fun ρ a w ev hev hr hrel => ?_, fun _ ρ a w ev mem next hev hr hrel hag => ?_⟩
      · have hr' : OpsRel ρ st.eval a.eval o.op := fun x hx => by rw [← hev x hx]; exact hr x hx
        obtain ⟨u, hu, hrun⟩ := aPure_sound hp rfl hr'
        exact .inl ⟨ρ, u, w, hrun w, hu, by rw [e2, e3]; exact hrel, by rw [e2, e3]; exact Ev.refl _ _ _ _ _ hrel.dom⟩
      · have hr' : OpsRel ρ st.eval a.eval o.op := fun x hx => by rw [← hev x hx]; exact hr x hx
        obtain ⟨u, hu, hrun⟩ := aPure_sound hp rfl hr'
        exact ⟨u, hrun w, hu⟩
    · cases h
  · split at h
    · rename_i v stm he
      obtain ⟨hinv, henv⟩ := aEffect_inv hRI he
      refine ⟨v, stm, h, henv, hinv, fun hk => ?_, fun hl hk b hb => ?_, fun hk b hb hn => aEffect_same hk hb hn he, fun hk => ?_, fun ho => ?_⟩
      · obtain ⟨dst, op, type, pos, after, guard⟩ := o
        simp only at hk he
        cases op with
        | load t x =>
          simp only [aEffect] at he
          split at he
          · rename_i hl
            obtain ⟨l1, l2, l3, l4⟩ := aLoadO_spec hl
            simp only [Option.map_eq_some_iff, Prod.mk.injEq] at he
            obtain ⟨_, h1, _, rfl⟩ := he
            obtain ⟨_, e2, e3, _⟩ := owe_spec h1
            exact ⟨e2.trans l2, e3.trans l3⟩
          · cases he
        | call c =>
          obtain ⟨callee, args, argTypes⟩ := c
          cases callee with
          | builtin b => cases b <;> first | (simp [aEffect] at he; done) | (simp [kindOf] at hk; done)
          | value f => simp [kindOf] at hk
          | invoke r m => simp [aEffect] at he
        | _ => first | (simp [aEffect] at he; done) | (simp [kindOf] at hk; done)
      · obtain ⟨dst, op, type, pos, after, guard⟩ := o
        simp only at hk he
        cases op with
        | call c =>
          obtain ⟨callee, args, argTypes⟩ := c
          cases callee with
          | builtin b => cases b <;> first | (simp [aEffect] at he; done) | (simp [kindOf] at hk; done)
          | value f =>
            simp only [aEffect] at he
            split at he
            · exact (aCall_inv hRI he).1.2 hl b hb
            · exact (aCall_inv hRI he).1.2 hl b hb
            · cases he
          | invoke r m => simp [aEffect] at he
        | _ => first | (simp [aEffect] at he; done) | (simp [kindOf] at hk; done)
      · obtain ⟨dst, op, type, pos, after, guard⟩ := o
        simp only at hk he
        cases op with
        | alloc t =>
          simp only [aEffect, Option.map_eq_some_iff, Prod.mk.injEq] at he
          obtain ⟨z, hz, rfl, rfl⟩ := he
          exact ⟨rfl, t, z, rfl, hz, rfl⟩
        | call c =>
          obtain ⟨callee, args, argTypes⟩ := c
          cases callee with
          | builtin b => cases b <;> first | (simp [aEffect] at he; done) | (simp [kindOf] at hk; done)
          | value f => simp [kindOf] at hk
          | invoke r m => simp [aEffect] at he
        | _ => first | (simp [aEffect] at he; done) | (simp [kindOf] at hk; done)
      · obtain ⟨_, _, p3, _⟩ := put_spec h
        rw [p3] at ho
        refine ⟨hinv.ob ho, fun ρ a w ev hev hr hrel => aEffect_sound hN hS hR hcx he ho hev hr hrel, fun hk ρ a w ev mem next hev hr hrel hag => ?_⟩
        obtain ⟨dst, op, type, pos, after, guard⟩ := o
        simp only at hk he hev hr hag
        cases op with
        | load t x =>
          simp only [aEffect] at he
          split at he
          · rename_i v' bb st0 hv
            obtain ⟨l1, l2, l3, l4⟩ := aLoadO_spec hv
            simp only [Option.map_eq_some_iff, Prod.mk.injEq] at he
            obtain ⟨st1, h1, rfl, rfl⟩ := he
            obtain ⟨_, _, _, e4⟩ := owe_spec h1
            obtain ⟨rfl, hob0⟩ := e4 ho
            have hv := (l4 hob0).1
            have hx : x ∈ (Op.load t x).operands := by simp [Op.operands]
            have hl : aLoadP P mem t (ev x) = some (v', true) := by
              rw [hev x hx]
              have hag' : ∀ b ab, rdOf (.load t x) st.eval = some b → mget st.mem b = some ab → mget mem b = some ab := fun b ab q1 q2 => hag t x b ab rfl (by simp only [rdOf, hev x hx] at q1 ⊢; exact q1) q2
              unfold aLoadP at hv ⊢
              split at hv
              · rename_i b sz r fo hb
                simp only [rdOf, hb] at hag'
                split at hv
                · rename_i ab hm
                  rw [hag' b ab rfl hm]
                  exact hv
                · cases hv
              · rename_i y hy
                unfold aLoad at hv ⊢
                split at hv
                · rename_i b off hb
                  simp only [rdOf, hb] at hag'
                  split at hv
                  · rename_i ab hm
                    rw [hag' b ab rfl hm]
                    exact hv
                  · cases hv
                · exact hv
                · cases hv
            obtain ⟨z, hz, hrun⟩ := aLoadP_sound hrel hl (hr x hx)
            exact ⟨z, by simp [execOp, hrun], hz⟩
          · cases he
        | call c =>
          obtain ⟨callee, args, argTypes⟩ := c
          cases callee with
          | builtin b => cases b <;> first | (simp [aEffect] at he; done) | (simp [kindOf] at hk; done)
          | value f => simp [kindOf] at hk
          | invoke r m => simp [aEffect] at he
        | _ => first | (simp [aEffect] at he; done) | (simp [kindOf] at hk; done)
    · cases h

theorem opsRun_cons {S : Specs} {R : Runner} {ops : Array Oper} {cx : Ctx} {x : Bool × Oper} {l : List (Bool × Oper)} {st : St} : opsRun P S R ops cx (x :: l) st = (step1 P S R ops cx x st).bind (opsRun P S R ops cx l) := by
  show (match aWanted ops x.2 cx st with
    | none => none
    | some (true, st) => match opStep P S R x.1 x.2 cx st with
      | some st => opsRun P S R ops cx l st
      | none => none
    | some (false, st) => match st.put cx x.2.dst (.tup []) with
      | some st => opsRun P S R ops cx l st
      | none => none) = _
  unfold step1
  cases h : aWanted ops x.2 cx st with
  | none => rfl
  | some y =>
    obtain ⟨e, st1⟩ := y
    cases e with
    | true => simp only []; cases opStep P S R x.1 x.2 cx st1 <;> rfl
    | false => simp only []; cases st1.put cx x.2.dst (.tup []) <;> rfl

/-- What one step of a region does. -/
structure Step1 (P : Program) (ops : Array Oper) (cx : Ctx) (x : Bool × Oper) (st st' : St) : Prop where
  inv : AInv cx.floor st st'
  stay : (kindOf x.2.op = .pure ∨ kindOf x.2.op = .read) → st'.mem = st.mem ∧ st'.next = st.next
  lift : x.1 = true → kindOf x.2.op = .call → ∀ b, b < st.next → mget st'.mem b = mget st.mem b
  foot : st'.ob = true → kindOf x.2.op = .chain → ∀ b, b < st.next → wrOf x.2.op st.eval ≠ some b → mget st'.mem b = mget st.mem b
  alloc : kindOf x.2.op = .alloc → x.2.guard = none → ∃ t z, x.2.op = .alloc t ∧ zeroOf P t = some z ∧ st'.mem = (aNew st z t).mem ∧ st'.next = (aNew st z t).next ∧ ∀ d, x.2.dst = some d → st'.tmp d = .ptr st.next 0
  slot : ∀ d, x.2.dst = some d → d < cx.n
  other : st'.ob = true → ∀ t, x.2.dst ≠ some t → st'.tmp t = st.tmp t
  does : st'.ob = true → ∀ (ρ : Rho) (a : Act) (w : World) (ev : Operand → AVal), a.tmps.size = cx.n → (∀ y, y ∈ x.2.op.operands → ev y = st.eval y) → (∀ d, guardSlot ops x.2 = some d → VRel ρ (st.tmp d) (a.tmps.getD d undef)) → OpsRel ρ ev a.eval x.2.op → Rel ρ st.mem st.next w →
    ∀ (K : Act → World → Prop) (Q : Exit → Act → World → Prop), (∀ ρ' u w', (∀ d, x.2.dst = some d → VRel ρ' (st'.tmp d) u) → Rel ρ' st'.mem st'.next w' → Ev ρ ρ' cx.floor st.mem st.next st'.mem st'.next w w' → K (a.put x.2.dst u) w') →
      if Region.wanted x.2 (yielded ops a.tmps) then x.2.wp P a w K Q else K (a.put x.2.dst undef) w
  calm : st'.ob = true → (kindOf x.2.op = .pure ∨ kindOf x.2.op = .read) → ∀ (ρ : Rho) (a : Act) (w : World) (ev : Operand → AVal) (mem : Mem) (next : Nat), a.tmps.size = cx.n → (∀ y, y ∈ x.2.op.operands → ev y = st.eval y) → (∀ d, guardSlot ops x.2 = some d → VRel ρ (st.tmp d) (a.tmps.getD d undef)) → OpsRel ρ ev a.eval x.2.op → Rel ρ mem next w →
    (∀ t y b ab, x.2.op = .load t y → rdOf x.2.op ev = some b → mget st.mem b = some ab → mget mem b = some ab) → ∀ (K : Act → World → Prop) (Q : Exit → Act → World → Prop), (∀ u, (∀ d, x.2.dst = some d → VRel ρ (st'.tmp d) u) → K (a.put x.2.dst u) w) →
      if Region.wanted x.2 (yielded ops a.tmps) then x.2.wp P a w K Q else K (a.put x.2.dst undef) w

theorem step1_spec {S : Specs} {R : Runner} (hN : Named P) (hS : SpecsOk P S) (hRI : RInv R) (hR : ROk P R) {ops : Array Oper} {x : Bool × Oper} {cx : Ctx} {st st' : St} (hcx : cx.floor ≤ st.next) (h : step1 P S R ops cx x st = some st') :
    Step1 P ops cx x st st' := by
  unfold step1 at h
  split at h
  · cases h
  · rename_i st1 hw
    obtain ⟨w1, w2, w3⟩ := aWanted_abs hw
    obtain ⟨v, stm, hp, henv, hinv, hstay, hlift, hfoot, halloc, hdo⟩ := opStep_spec hN hS hRI hR (by rw [w2]; exact hcx) h
    obtain ⟨p1, p2, p3, p4⟩ := put_spec hp
    have hput : ∀ d, x.2.dst = some d → st'.tmp d = v := fun d hd => by
      rcases p4 with ⟨e, _⟩ | ⟨d', e, _, he⟩
      · rw [hd] at e; cases e
      · rw [hd] at e
        obtain rfl := Option.some.inj e
        show T.get .undef st'.env d = v
        rw [he, T.get_set, if_pos rfl]
    have hi1 : AInv cx.floor st st1 := AInv.same w1 w2 fun ho => (w3 ho).1
    have hi2 : AInv cx.floor stm st' := AInv.same p1 p2 fun ho => by rw [← p3]; exact ho
    refine ⟨(hi1.trans hinv).trans hi2, fun hk => ?_, fun hl hk b hb => ?_, fun ho hk b hb hn => ?_, fun hk hg => ?_, fun d hd => ?_, fun ho t ht => ?_, fun ho ρ a w ev hsz hev hgr hr hrel K Q hK => ?_, fun ho hk ρ a w ev mem next hsz hev hgr hr hrel hag K Q hK => ?_⟩
    · obtain ⟨s1, s2⟩ := hstay hk
      exact ⟨p1.trans (s1.trans w1), p2.trans (s2.trans w2)⟩
    · rw [p1, hlift hl hk b (by rw [w2]; exact hb), w1]
    · have ho1 : st1.ob = true := hinv.ob (by rw [← p3]; exact ho)
      have hsame : st1.eval = st.eval := by
        funext y
        cases y with
        | tmp t => exact (w3 ho1).2 t
        | _ => rfl
      rw [p1, hfoot hk b (by rw [w2]; exact hb) (by rw [hsame]; exact hn), w1]
    · obtain ⟨e1, t, z, e2, e3, e4⟩ := halloc hk
      have hst : st1 = st := by
        obtain ⟨st0, hw0, _, _, _, hw1⟩ := aWanted_parts hw
        rw [hw1 (.inl hk)]
        unfold aWant0 at hw0
        rw [hg] at hw0
        simp only [Option.some.injEq, Prod.mk.injEq] at hw0
        exact hw0.2.symm
      subst hst
      exact ⟨t, z, e2, e3, by rw [p1, e4], by rw [p2, e4], fun d hd => by rw [hput d hd, e1]⟩
    · rcases p4 with ⟨e, _⟩ | ⟨d', e, hlt, _⟩
      · rw [hd] at e; cases e
      · rw [hd] at e; obtain rfl := Option.some.inj e; exact hlt
    · have ho1 : st1.ob = true := hinv.ob (by rw [← p3]; exact ho)
      rw [← (w3 ho1).2 t]
      show T.get .undef st'.env t = T.get .undef st1.env t
      rcases p4 with ⟨_, he⟩ | ⟨d, e, _, he⟩
      · rw [he, henv]
      · rw [he, henv, T.get_set, if_neg (by intro htd; subst htd; exact ht e)]
    · have ho1 : st1.ob = true := hinv.ob (by rw [← p3]; exact ho)
      have hsame := (w3 ho1).2
      have hev' : ∀ y, st1.eval y = st.eval y := fun y => by cases y <;> first | rfl | exact hsame _
      rw [aWanted_conc hw ho1 hsz hgr, if_pos rfl]
      refine ((hdo ho).does ρ a w ev (fun y hy => by rw [hev' y]; exact hev y hy) hr (by rw [w1, w2]; exact hrel)).wp fun ρ' u w' hpost => ?_
      have he := hpost.ev
      rw [w1, w2] at he
      exact hK ρ' u w' (fun d hd => by rw [hput d hd]; exact hpost.val) (by rw [p1, p2]; exact hpost.rel) (by rw [p1, p2]; exact he)
    · have ho1 : st1.ob = true := hinv.ob (by rw [← p3]; exact ho)
      have hsame := (w3 ho1).2
      have hev' : ∀ y, st1.eval y = st.eval y := fun y => by cases y <;> first | rfl | exact hsame _
      rw [aWanted_conc hw ho1 hsz hgr, if_pos rfl]
      obtain ⟨u, hrun, hu⟩ := (hdo ho).calm hk ρ a w ev mem next (fun y hy => by rw [hev' y]; exact hev y hy) hr hrel (fun t y b ab q1 q2 q3 => hag t y b ab q1 q2 (by rw [← w1]; exact q3))
      unfold Oper.wp
      rw [hrun]
      exact hK u fun d hd => by rw [hput d hd]; exact hu
  · rename_i st1 hw
    obtain ⟨w1, w2, w3⟩ := aWanted_abs hw
    obtain ⟨p1, p2, p3, p4⟩ := put_spec h
    have hput : ∀ d, x.2.dst = some d → st'.tmp d = .tup [] := fun d hd => by
      rcases p4 with ⟨e, _⟩ | ⟨d', e, _, he⟩
      · rw [hd] at e; cases e
      · rw [hd] at e
        obtain rfl := Option.some.inj e
        show T.get .undef st'.env d = .tup []
        rw [he, T.get_set, if_pos rfl]
    refine ⟨AInv.same (p1.trans w1) (p2.trans w2) fun ho => (w3 (by rw [← p3]; exact ho)).1, fun _ => ⟨p1.trans w1, p2.trans w2⟩, fun _ _ b _ => by rw [p1, w1], fun _ _ b _ _ => by rw [p1, w1], fun hk hg => ?_, fun d hd => ?_, fun ho t ht => ?_, fun ho ρ a w ev hsz hev hgr hr hrel K Q hK => ?_, fun ho hk ρ a w ev mem next hsz hev hgr hr hrel hag K Q hK => ?_⟩
    · obtain ⟨st0, hw0, _⟩ := aWanted_parts hw
      unfold aWant0 at hw0
      rw [hg] at hw0
      simp at hw0
    · rcases p4 with ⟨e, _⟩ | ⟨d', e, hlt, _⟩
      · rw [hd] at e; cases e
      · rw [hd] at e; obtain rfl := Option.some.inj e; exact hlt
    · rw [← (w3 (by rw [← p3]; exact ho)).2 t]
      show T.get .undef st'.env t = T.get .undef st1.env t
      rcases p4 with ⟨_, he⟩ | ⟨d, e, _, he⟩
      · rw [he]
      · rw [he, T.get_set, if_neg (by intro htd; subst htd; exact ht e)]
    · have ho1 : st1.ob = true := by rw [← p3]; exact ho
      rw [aWanted_conc hw ho1 hsz hgr, if_neg (by simp)]
      refine hK ρ undef w (fun d hd => by rw [hput d hd]; exact .tup [] #[] rfl fun i h1 _ => by simp at h1) ?_ ?_
      · rw [p1, p2, w1, w2]; exact hrel
      · rw [p1, p2, w1, w2]; exact Ev.refl _ _ _ _ _ hrel.dom
    · have ho1 : st1.ob = true := by rw [← p3]; exact ho
      rw [aWanted_conc hw ho1 hsz hgr, if_neg (by simp)]
      exact hK undef fun d hd => by rw [hput d hd]; exact .tup [] #[] rfl fun i h1 _ => by simp at h1

/-! ### A region in the order of the text -/
theorem Oper.wp_monoQ {o : Oper} {a : Act} {w : World} {K K' : Act → World → Prop} {Q Q' : Exit → Act → World → Prop} (hk : ∀ a w, K a w → K' a w) (hq : ∀ e a w, Q e a w → Q' e a w) (h : o.wp P a w K Q) : o.wp P a w K' Q' := by
  unfold Oper.wp at *
  generalize (execOp a.eval o).run P w = r at *
  cases r with
  | ok n w' =>
    cases n <;> simp only [Oper.upon] at h ⊢ <;>
      first
        | exact hk _ _ h
        | exact Calls.mono h (fun e w'' he => by
            cases e with
            | returned v => exact hk _ _ he
            | panicked c => exact hq _ _ _ he
            | outgrown => obtain ⟨a0, w0, h0⟩ := he; exact ⟨a0, w0, hq _ _ _ h0⟩)
        | exact Rows.mono h (fun _ _ he => hk _ _ he)
  | halt x w' => cases x <;> simp only [Oper.upon] at h ⊢ <;> first | exact h | exact hq _ _ _ h

theorem wpOps_monoQ {ops : Array Oper} {Q Q' : Exit → Act → World → Prop} (hq : ∀ e a w, Q e a w → Q' e a w) : ∀ (l : List Nat) (a : Act) (w : World), wpOps P ops Q l a w → wpOps P ops Q' l a w
  | [], a, w, h => hq _ _ _ h
  | i :: l, a, w, h => by
    rw [wpOps_cons] at h ⊢
    unfold wpOp at h ⊢
    split
    · rename_i e
      rw [e] at h
      exact wpOps_monoQ hq l a w h
    · rename_i o e
      rw [e] at h
      simp only at h
      split
      · rename_i hw
        rw [if_pos hw] at h
        rcases h with h | ⟨h1, a0, w0, h0⟩
        · exact .inl (Oper.wp_monoQ (wpOps_monoQ hq l) hq h)
        · exact .inr ⟨h1, a0, w0, hq _ _ _ h0⟩
      · rename_i hw
        rw [if_neg hw] at h
        exact wpOps_monoQ hq l _ _ h

def Fin (D : List Deferred) (ρ : Rho) (cx : Ctx) (st st' : St) (w : World) : Exit → Act → World → Prop := fun e a' w' =>
  e = .normal ∧ a'.defers = D ∧ ∃ ρ', EnvRel ρ' st'.env cx.n a'.tmps ∧ Rel ρ' st'.mem st'.next w' ∧ Ev ρ ρ' cx.floor st.mem st.next st'.mem st'.next w w'

theorem opsRun_sound {S : Specs} {R : Runner} (hN : Named P) (hS : SpecsOk P S) (hRI : RInv R) (hR : ROk P R) {ops : Array Oper} {cx : Ctx} : ∀ (l : List Nat) (st st' : St), (∀ i ∈ l, i < ops.size) → cx.floor ≤ st.next →
    opsRun P S R ops cx (l.map fun i => (false, ops.getD i default)) st = some st' → st'.ob = true → AInv cx.floor st st' ∧ ∀ (D : List Deferred) (ρ : Rho) (a : Act) (w : World), a.defers = D → EnvRel ρ st.env cx.n a.tmps → Rel ρ st.mem st.next w →
    wpOps P ops (Fin D ρ cx st st' w) l a w
  | [], st, st', _, _, h, _ => by
    have h : some st = some st' := h
    obtain rfl := Option.some.inj h
    exact ⟨AInv.refl _ _, fun D ρ a w hd henv hrel => ⟨rfl, hd, ρ, henv, hrel, Ev.refl _ _ _ _ _ hrel.dom⟩⟩
  | i :: l, st, st', hl, hcx, h, ho => by
    simp only [List.map_cons] at h
    rw [opsRun_cons, Option.bind_eq_some_iff] at h
    obtain ⟨st1, h1, h2⟩ := h
    have s1 := step1_spec hN hS hRI hR hcx h1
    obtain ⟨inv2, hw2⟩ := opsRun_sound hN hS hRI hR l st1 st' (fun j hj => hl j (by simp [hj])) (Nat.le_trans hcx s1.inv.nxt) h2 ho
    refine ⟨s1.inv.trans inv2, fun D ρ a w hd henv hrel => ?_⟩
    have hi := hl i (by simp)
    obtain ⟨o, hoi⟩ : ∃ o, ops[i]? = some o := ⟨ops[i], by simp [hi]⟩
    have hod : ops.getD i default = o := by rw [Array.getD_eq_getD_getElem?, hoi]; rfl
    rw [hod] at s1
    have ho1 : st1.ob = true := inv2.ob ho
    rw [wpOps_cons]
    unfold wpOp
    rw [hoi]
    simp only
    have key := s1.does ho1 ρ a w st.eval henv.size (fun _ _ => rfl) (fun d _ => henv.get d) (fun y _ => henv.eval y) hrel (wpOps P ops (Fin D ρ cx st st' w) l) (Fin D ρ cx st st' w) (fun ρ' u w' hval hrel' hev => by
      have henv' : EnvRel ρ' st1.env cx.n (a.put o.dst u).tmps := by
        cases hdst : o.dst with
        | none => exact ((henv.mono hev.ext).congr fun t => s1.other ho1 t (by rw [hdst]; simp))
        | some d =>
          refine ((henv.mono hev.ext).put (hval d hdst) (.inr ⟨d, rfl, s1.slot d hdst, rfl⟩)).congr fun t => ?_
          rw [T.get_set]
          split
          · rename_i e; subst e; rfl
          · rename_i e; exact s1.other ho1 t (by rw [hdst]; intro h; exact e (Option.some.inj h).symm)
      refine wpOps_monoQ ?_ l _ _ (hw2 D ρ' _ w' (by rw [Act.put_defers']; exact hd) henv' hrel')
      rintro e a' w'' ⟨he, hd', ρ'', q1, q2, q3⟩
      exact ⟨he, hd', ρ'', q1, q2, hev.trans q3⟩)
    split
    · rename_i hwt
      rw [if_pos hwt] at key
      exact .inl key
    · rename_i hwt
      rw [if_neg hwt] at key
      exact key

end
end Go.Am
