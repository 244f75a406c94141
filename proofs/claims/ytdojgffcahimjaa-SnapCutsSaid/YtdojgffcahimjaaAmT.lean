/- The machine with its stack: each step is made by the real machine. -/
import Derived.Test.YtdojgffcahimjaaAmS
namespace Go.Am
set_option linter.unusedVariables false

section
variable {P : Program}

structure SRel (P : Program) (base : Nat) (C : Cfg) (ρ : Rho) (b : Frame) (a : Act) (k : List Item) (css : List Frame) (w : World) (ma mb : List Nat) : Prop where
  top : FRel ρ C.cx C.ro C.todo C.rnd C.st.env b a k ma
  lv : C.cs ≠ [] → Leaves P C.rnd C.rs b
  rest : Rest P base ρ C.cs C.lps css w ma mb
  rel : Rel ρ C.st.mem C.st.next w

/-- All frames write from fl on. -/
structure Fl (fl : Nat) (C : Cfg) : Prop where
  cx : C.cx.floor = fl
  cs : ∀ af ∈ C.cs, af.cx.floor = fl
  le : fl ≤ C.st.next

/-- The last frame's function, kind and loop. -/
def botId (b : Frame) : List Frame → FuncId × CallKind × Option Nat
  | [] => (b.fn, b.kind, b.roundOf)
  | c :: css => botId c css

/-- From any state that is told by C, the real machine comes to one that is told by C'. -/
def Leads (P : Program) (fl : Nat) (C C' : Cfg) : Prop :=
  ∀ (m0 : Mem) (n0 : Nat) (ρ0 : Rho) (w0 : World) (ρ : Rho) (b : Frame) (a : Act) (k : List Item) (css : List Frame) (w : World) (ma mb : List Nat), SRel P w0.heap.size C ρ b a k css w ma mb → Ev ρ0 ρ fl m0 n0 C.st.mem C.st.next w0 w → ∀ cs0 : List Frame,
    ∃ ρ' b' a' k' css' w' ma' mb', Steps P (lone (b.atR a (roItems C.ro k)) (css ++ cs0) w) (lone (b'.atR a' (roItems C'.ro k')) (css' ++ cs0) w') ∧ SRel P w0.heap.size C' ρ' b' a' k' css' w' ma' mb' ∧ Ev ρ0 ρ' fl m0 n0 C'.st.mem C'.st.next w0 w' ∧ botId b' css' = botId b css

theorem Leads.refl (fl : Nat) (C : Cfg) : Leads P fl C C := fun m0 n0 ρ0 w0 ρ b a k css w ma mb hs he cs0 => ⟨ρ, b, a, k, css, w, ma, mb, Steps.refl _ _, hs, he, rfl⟩

/-- What one step keeps. -/
structure Sim (P : Program) (fl : Nat) (C C' : Cfg) : Prop where
  fls : Fl fl C'
  inv : AInv fl C.st C'.st
  leads : C'.st.ob = true → Leads P fl C C'

theorem Sim.move {fl : Nat} {cx : Ctx} {todo todo' : List Item} {rnd : Option Nat} {rs : List ResultVar} {st : St} {cs : List AFr} {lps : Loops} (hfl : Fl fl ⟨cx, none, todo, rnd, rs, st, cs, lps⟩)
    (hk : ∀ (ρ : Rho) (k : List Item), TRel ρ todo k → ∃ k', TRel ρ todo' k' ∧ ∀ (b : Frame) (a : Act) (css : List Frame) (w : World), step P (lone (b.atR a k) css w) = .next (lone (b.atR a k') css w)) :
    Sim P fl ⟨cx, none, todo, rnd, rs, st, cs, lps⟩ ⟨cx, none, todo', rnd, rs, st, cs, lps⟩ :=
  ⟨⟨hfl.cx, hfl.cs, hfl.le⟩, AInv.refl _ _, fun ho m0 n0 ρ0 w0 ρ b a k css w ma mb hs he cs0 => by
    obtain ⟨k', ht, hstep⟩ := hk ρ k hs.top.todo
    exact ⟨ρ, b, a, k', css, w, ma, mb, .one (hstep b a _ w), ⟨⟨hs.top.env, hs.top.defers, ht, trivial, hs.top.rnd⟩, hs.lv, hs.rest, hs.rel⟩, he, rfl⟩⟩

theorem TRel.code {ρ : Rho} {c : Code} {t k : List Item} (h : TRel ρ (.code c :: t) k) : ∃ k', k = .code c :: k' ∧ TRel ρ t k' := by
  cases h with
  | cons hx ht => cases hx; exact ⟨_, rfl, ht⟩

/-! ### Marks -/
theorem unwind_steps {cs : List Frame} : ∀ (ms : List Nat) (fr : Frame) (w : World), fr.mode = .returning → fr.defers = ms.map mark → ms.Nodup → (∀ r ∈ ms, w.heap[r]? = some (.deferred (some []))) →
    ∃ w', Steps P (lone fr cs w) (lone { fr with defers := [] } cs w') ∧ Turned ms w w'
  | [], fr, w, hm, hd, _, _ => ⟨w, by
      have : { fr with defers := [] } = fr := by cases fr; simp only at hd; subst hd; rfl
      rw [this]; exact Steps.refl _ _, Turned.refl _ _⟩
  | r :: ms, fr, w, hm, hd, hn, ho => by
    have hr := ho r (by simp)
    have h1 := step_collected (P := P) (cs := cs) (fr := fr) (d := mark r) (ds := ms.map mark) (by rw [hm]; simp) (by rw [hd]; rfl) rfl (run_takeDeferred hr)
    rw [List.nodup_cons] at hn
    obtain ⟨w', hs, ht⟩ := unwind_steps (cs := cs) ms { fr with defers := ms.map mark } (w.putObj r (.deferred none)) hm rfl hn.2 fun r' hr' => by
      rw [World.putObj_heap_other (fun e => hn.1 (by rw [← e]; exact hr'))]; exact ho r' (by simp [hr'])
    exact ⟨w', .head h1 hs, (Turned.put w r _).trans ht⟩

/-- A frame that is at its end, its marks taken. -/
theorem end_steps {fl base : Nat} {C : Cfg} {ρ : Rho} {b : Frame} {a : Act} {k : List Item} {css : List Frame} {w : World} {ma mb : List Nat} (hs : SRel P base C ρ b a k css w ma mb) (hro : C.ro = none) (hrnd : C.rnd = none) (htodo : C.todo = [] ∨ ∃ t, C.todo = .code .ret :: t)
    {m0 : Mem} {n0 : Nat} {ρ0 : Rho} {w0 : World} (hb : base = w0.heap.size) (he : Ev ρ0 ρ fl m0 n0 C.st.mem C.st.next w0 w) (cs0 : List Frame) :
    ∃ w', Steps P (lone (b.atR a (roItems C.ro k)) cs0 w) (lone { b.atR { a with defers := [] } k with mode := .returning } cs0 w') ∧ EnvRel ρ C.st.env C.cx.n a.tmps ∧ Rel ρ C.st.mem C.st.next w' ∧ Ev ρ0 ρ fl m0 n0 C.st.mem C.st.next w0 w' ∧ Rest P base ρ C.cs C.lps css w' [] mb := by
  have hrn := hs.top.rnd
  rw [hrnd] at hrn
  have h1 : step P (lone (b.atR a (roItems C.ro k)) cs0 w) = .next (lone { b.atR a k with mode := .returning } cs0 w) := by
    rw [hro]
    have ht := hs.top.todo
    rcases htodo with e | ⟨t, e⟩
    · rw [e] at ht
      cases ht
      exact stepR_end hrn
    · rw [e] at ht
      obtain ⟨k', rfl, _⟩ := ht.code
      exact stepR_ret hrn
  have hnd : ma.Nodup := (List.nodup_append.1 hs.rest.nodup).1
  obtain ⟨w', h2, ht⟩ := unwind_steps (P := P) (cs := cs0) ma { b.atR a k with mode := .returning } w rfl hs.top.defers hnd fun r hr => (hs.rest.marks r (by simp [hr])).2.2
  refine ⟨w', .head h1 h2, hs.top.env, hs.rel.turned (fun r hr => (hs.rest.marks r (by simp [hr])).2.1) ht, he.turned (fun r hr => by rw [← hb]; exact (hs.rest.marks r (by simp [hr])).1) ht, hs.rest.turned ht (List.nil_sublist _) (fun r hr hrm => ?_) (fun r hr => ⟨_, (hs.rest.marks r (by simp [hr])).2.2⟩)⟩
  rw [List.nil_append] at hrm
  exact (List.nodup_append.1 hs.rest.nodup).2.2 r hr r hrm rfl

/-! ### A value comes back -/
theorem withEnv_eq (st : St) (e : T AVal) : (st.withEnv e).env = e ∧ (st.withEnv e).mem = st.mem ∧ (st.withEnv e).next = st.next ∧ (st.withEnv e).ob = st.ob := ⟨rfl, rfl, rfl, rfl⟩

theorem pop_sim {fl base : Nat} {v : AVal} {st : St} {lps : Loops} {cs : List AFr} {C' : Cfg} (h : popS v st lps cs = some C') (hcs : ∀ af ∈ cs, af.cx.floor = fl) (hle : fl ≤ st.next) :
    Fl fl C' ∧ C'.st.mem = st.mem ∧ C'.st.next = st.next ∧ C'.st.ob = st.ob ∧ (cs ≠ []) ∧ ∀ (ρ : Rho) (css : List Frame) (w : World) (mb : List Nat) (u : Value), VRel ρ v u → Rest P base ρ cs lps css w [] mb → Rel ρ st.mem st.next w →
      ∃ c css' b' a' k' ma' mb', css = c :: css' ∧ c.finish u = b'.atR a' (roItems C'.ro k') ∧ SRel P base C' ρ b' a' k' css' w ma' mb' ∧ botId b' css' = botId c css' := by
  unfold popS at h
  split at h
  · rename_i cx ops i o l todo rnd rs env cs'
    split at h
    · rename_i st' hp
      obtain rfl := Option.some.inj h
      obtain ⟨p1, p2, p3, p4⟩ := put_spec hp
      refine ⟨⟨hcs _ (List.mem_cons_self ..), fun af haf => hcs af (by simp [haf]), by rw [show st'.next = st.next from p2]; exact hle⟩, p1, p2, p3, by simp, fun ρ css w mb u hv hr hrel => ?_⟩
      obtain ⟨hc, hnd, hmk, hlp, hinj⟩ := hr
      cases hc with
      | @cons _ b a k ms _ css' mss hf hl ht =>
        simp only at hf hl
        refine ⟨_, css', b, a.put o.dst u, k, ms, mss, rfl, ?_, ⟨⟨hf.env.put hv ?_, by rw [Act.put_defers']; exact hf.defers, hf.todo, ?_, hf.rnd⟩, hl, ⟨ht, hnd, hmk, hlp, hinj⟩, ?_⟩, by cases css' <;> rfl⟩
        · obtain ⟨hro, _⟩ := hf.ro
          have hi : ops.toList[i]? = some o := by
            have := congrArg (·[0]?) hro
            simpa using this.symm
          have hi' : ops[i]? = some o := by simpa using hi
          have hlt : i < ops.size := (Array.getElem?_eq_some_iff.1 hi').1
          have hd : (List.range ops.size).drop i = i :: (List.range ops.size).drop (i + 1) := by
            rw [List.drop_eq_getElem_cons (by simpa using hlt)]; simp
          simp only [roItems, hd]
          rw [Frame.finish_atR, hi']
          rfl
        · rcases p4 with ⟨e, e2⟩ | ⟨d, e, hlt, e2⟩
          · exact .inl ⟨e, e2⟩
          · exact .inr ⟨d, e, hlt, e2⟩
        · obtain ⟨hro, hnod⟩ := hf.ro
          refine ⟨?_, hnod⟩
          have := congrArg List.tail hro
          simpa using this
        · show Rel ρ st'.mem st'.next w
          rw [show st'.mem = st.mem from p1, show st'.next = st.next from p2]; exact hrel
    · cases h
  · rename_i cx j k rnd rs env cs'
    obtain rfl := Option.some.inj h
    refine ⟨⟨hcs _ (List.mem_cons_self ..), fun af haf => hcs af (by simp [haf]), hle⟩, rfl, rfl, rfl, by simp, fun ρ css w mb u hv hr hrel => ?_⟩
    obtain ⟨hc, hnd, hmk, hlp, hinj⟩ := hr
    cases hc with
    | @cons _ b a k0 ms _ css' mss hf hl ht =>
      simp only at hf hl
      have htd := hf.todo
      cases htd with
      | cons hx htl =>
        cases hx with
        | same _ hp => cases hp
        | inR _ l hlj =>
          exact ⟨_, css', b, a, _, ms, mss, rfl, finish_atR_inRangeFunc l u, ⟨⟨hf.env, hf.defers, .cons (.endR _ l hlj) htl, trivial, hf.rnd⟩, hl, ⟨ht, hnd, hmk, hlp, hinj⟩, hrel⟩, by cases css' <;> rfl⟩
  · cases h

/-! ### Calls -/
theorem step_enter {b : Frame} {a : Act} {k : List Item} {cs : List Frame} {w : World} {ops : Array Oper} {i : Nat} {rest : List Nat} {o : Oper} {f : FuncId} {args : Array Value} (ho : ops[i]? = some o) (hnd : ∀ c, o.op ≠ .defer c) (hw : Region.wanted o (yielded ops a.tmps) = true)
    (hr : (execOp a.eval o).run P w = .ok (.enter f args) w) : step P (lone (b.atR a (.inRegion ops (i :: rest) :: k)) cs w) = .next (lone (Frame.enter P f args .normal) (b.atR a (.inRegion ops (i :: rest) :: k) :: cs) w) := by
  have hg := stepGR_op (P := P) (b := b) (k := k) (cs := cs) (w := w) (rest := rest) ho hw
  rw [Oper.semAt_eq _ _ _ hnd] at hg
  exact step_lone_go (by rw [hg]; simp [stepG.apply, hr, Frame.atR])

theorem step_round {b : Frame} {a : Act} {k : List Item} {cs : List Frame} {w : World} {ops : Array Oper} {i : Nat} {rest : List Nat} {o : Oper} {l : Nat} {f : FuncId} {tmps : Array Value} {assign body : Code} (ho : ops[i]? = some o) (hnd : ∀ c, o.op ≠ .defer c) (hw : Region.wanted o (yielded ops a.tmps) = true)
    (hr : (execOp a.eval o).run P w = .ok (.round l f tmps assign body) w) : step P (lone (b.atR a (.inRegion ops (i :: rest) :: k)) cs w) = .next (lone (Frame.round l f tmps assign body .normal) (b.atR a (.inRegion ops (i :: rest) :: k) :: cs) w) := by
  have hg := stepGR_op (P := P) (b := b) (k := k) (cs := cs) (w := w) (rest := rest) ho hw
  rw [Oper.semAt_eq _ _ _ hnd] at hg
  exact step_lone_go (by rw [hg]; simp [stepG.apply, hr, Frame.atR])

theorem setArgs_sound {ρ : Rho} {n : Nat} : ∀ {ps : List Tmp} {args : List AVal} {env env' : T AVal} {vals : List Value} {tmps : Array Value}, setArgs n ps args env = some env' → EnvRel ρ env n tmps → All2 (VRel ρ) args vals →
    ps.length = vals.length ∧ EnvRel ρ env' n ((ps.zip vals).foldl (fun t p => t.setIfInBounds p.1 p.2) tmps)
  | [], [], env, env', vals, tmps, h, he, ha => by
    cases ha
    obtain rfl := Option.some.inj h
    exact ⟨rfl, he⟩
  | t :: ps, x :: args, env, env', vals, tmps, h, he, ha => by
    cases ha with
    | @cons _ u _ vals hx ha =>
      unfold setArgs at h
      obtain ⟨hc, h⟩ := bif_inv h
      have hlt := Nat.le_of_ble_eq_true hc
      have he' : EnvRel ρ (T.set .undef env t x) n (tmps.setIfInBounds t u) := by
        have := EnvRel.put (a := ⟨tmps, []⟩) (dst := some t) he hx (.inr ⟨t, rfl, hlt, rfl⟩)
        exact this
      obtain ⟨h1, h2⟩ := setArgs_sound h he' ha
      exact ⟨by simp [h1], h2⟩
  | [], _ :: _, _, _, _, _, h, _, _ => by cases h
  | _ :: _, [], _, _, _, _, h, _, _ => by cases h

theorem Fl.enter {fl : Nat} {cx : Ctx} {ro : Option RegOps} {todo : List Item} {rnd : Option Nat} {rs : List ResultVar} {st : St} {cs : List AFr} {lps lps' : Loops} (h : Fl fl ⟨cx, ro, todo, rnd, rs, st, cs, lps⟩) {n : Nat} {todo' : List Item} {rnd' : Option Nat} {rs' : List ResultVar} {st' : St} {ro' : Option RegOps} {td : List Item} {e : T AVal} (hn : st.next ≤ st'.next) :
    Fl fl ⟨⟨n, cx.floor, cx.sym⟩, none, todo', rnd', rs', st', ⟨cx, ro', td, rnd, rs, e⟩ :: cs, lps'⟩ :=
  ⟨h.cx, fun af haf => by
    rcases List.mem_cons.1 haf with rfl | haf
    · exact h.cx
    · exact h.cs af haf, Nat.le_trans h.le hn⟩

/-- A function is entered: what lies ahead of it waits. -/
theorem enter_srel {base : Nat} {ρ : Rho} {f : FuncId} {args : List AVal} {cx : Ctx} {ro' : Option RegOps} {td : List Item} {rnd : Option Nat} {rs : List ResultVar} {e : T AVal} {st : St} {cs : List AFr} {lps : Loops} {C' : Cfg} {b : Frame} {a : Act} {k : List Item} {css : List Frame} {w : World} {ma mb : List Nat} {vals : Array Value}
    (h : enterS P f args ⟨cx, ro', td, rnd, rs, e⟩ st cs lps = some C') (hf : FRel ρ cx ro' td rnd e b a k ma) (hlv : cs ≠ [] → Leaves P rnd rs b) (hr : Rest P base ρ cs lps css w ma mb) (hrel : Rel ρ st.mem st.next w) (hargs : All2 (VRel ρ) args vals.toList) :
    ∃ fn body, P.funcs[f]? = some fn ∧ fn.body = some body ∧ C' = ⟨⟨Nat.max fn.ntmps args.length, cx.floor, cx.sym⟩, none, [.code body], none, fn.results.toList, st.withEnv (envOf args 0 .leaf), ⟨cx, ro', td, rnd, rs, e⟩ :: cs, lps⟩ ∧
      ∃ b' a' k', Frame.enter P f vals .normal = b'.atR a' (roItems none k') ∧ SRel P base C' ρ b' a' k' (b.atR a (roItems ro' k) :: css) w [] (ma ++ mb) := by
  unfold enterS at h
  split at h
  · rename_i fn hfn
    split at h
    · rename_i body hb
      obtain rfl := Option.some.inj h
      refine ⟨fn, body, hfn, hb, rfl, ⟨f, #[], [], [], .run, .normal, none⟩, { tmps := vals ++ Array.replicate (fn.ntmps - vals.size) undef, defers := [] }, [.code body], ?_, ⟨⟨env_start hargs fn.ntmps, rfl, .cons (.same _ rfl) .nil, trivial, rfl⟩, fun _ => ⟨rfl, fun _ => ⟨fn, hfn, rfl⟩⟩, ?_, hrel⟩⟩
      · simp [Frame.enter, Frame.atR, hfn, hb, roItems]
      · exact ⟨.cons hf hlv hr.cs, hr.nodup, hr.marks, hr.loops, hr.inj⟩
    · cases h
  · cases h

theorem want_spec {ρ : Rho} {ops : Array Oper} {o : Oper} {cx : Ctx} {st st1 : St} {e : Bool} (h : aWanted ops o cx st = some (e, st1)) : st1.mem = st.mem ∧ st1.next = st.next ∧ (st1.ob = true → st.ob = true ∧ ∀ {tmps : Array Value}, EnvRel ρ st.env cx.n tmps → EnvRel ρ st1.env cx.n tmps ∧ Region.wanted o (yielded ops tmps) = e) := by
  obtain ⟨w1, w2, w3⟩ := aWanted_abs h
  refine ⟨w1, w2, fun ho => ⟨(w3 ho).1, fun {tmps} he => ⟨he.congr fun t => (w3 ho).2 t, aWanted_conc h ho he.size fun d _ => he.get d⟩⟩⟩

theorem ro_head {ops : Array Oper} {i : Nat} {o : Oper} {l : List Oper} (h : o :: l = ops.toList.drop i) : ops[i]? = some o ∧ l = ops.toList.drop (i + 1) ∧ (List.range ops.size).drop i = i :: (List.range ops.size).drop (i + 1) := by
  have hi : ops.toList[i]? = some o := by
    have := congrArg (·[0]?) h
    simpa using this.symm
  have hi' : ops[i]? = some o := by simpa using hi
  have hlt : i < ops.size := (Array.getElem?_eq_some_iff.1 hi').1
  refine ⟨hi', ?_, ?_⟩
  · have := congrArg List.tail h
    simpa using this
  · rw [List.drop_eq_getElem_cons (by simpa using hlt)]; simp

theorem noDefer_spec {ops : Array Oper} (h : noDefer ops = true) {i : Nat} {o : Oper} (ho : ops[i]? = some o) (c : Call) : o.op ≠ .defer c := by
  intro hc
  have hm : o ∈ ops.toList := by rw [Array.mem_toList_iff]; exact Array.mem_of_getElem? ho
  have := List.all_eq_true.1 h o hm
  rw [hc] at this; cases this

theorem call_args {ρ : Rho} {st : St} {n : Nat} {a : Act} (he : EnvRel ρ st.env n a.tmps) (args : Array Operand) : All2 (VRel ρ) (args.toList.map st.eval) (args.map a.eval).toList := by
  rw [Array.toList_map]
  exact All2.maps _ _ _ fun x _ => he.eval x

end
end Go.Am
