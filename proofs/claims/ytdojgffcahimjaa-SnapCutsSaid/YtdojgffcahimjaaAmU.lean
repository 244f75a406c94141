/- The machine with its stack: each step is made by the real machine (continued), and so are runs. -/
import Derived.Test.YtdojgffcahimjaaAmT
namespace Go.Am
set_option linter.unusedVariables false

section
variable {P : Program}

theorem stepOp_sim {S : Specs} {Rc : Runner} (hN : Named P) (hS : SpecsOk P S) (hCI : RInv Rc) (hC : ROk P Rc) {fl : Nat} {cx : Ctx} {ops : Array Oper} {i : Nat} {o : Oper} {l : List Oper} {todo : List Item} {rnd : Option Nat} {rs : List ResultVar} {st : St} {cs : List AFr} {lps : Loops} {C' : Cfg}
    (hfl : Fl fl ⟨cx, some (ops, i, o :: l), todo, rnd, rs, st, cs, lps⟩) (h : stepOp P S Rc cx ops i o l todo rnd rs st cs lps = some C') : Sim P fl ⟨cx, some (ops, i, o :: l), todo, rnd, rs, st, cs, lps⟩ C' := by
  -- a step that ends in the frame
  have plain : ∀ st2, step1 P S Rc ops cx (false, o) st = some st2 → Sim P fl ⟨cx, some (ops, i, o :: l), todo, rnd, rs, st, cs, lps⟩ ⟨cx, some (ops, i + 1, l), todo, rnd, rs, st2, cs, lps⟩ := by
    intro st2 h1
    have hcx : cx.floor ≤ st.next := by have := hfl.le; have e := hfl.cx; simp only at e this; omega
    have s1 := step1_spec hN hS hCI hC hcx h1
    have e := hfl.cx
    simp only at e
    refine ⟨⟨e, hfl.cs, Nat.le_trans hfl.le s1.inv.nxt⟩, by rw [← e]; exact s1.inv, fun ho m0 n0 ρ0 w0 ρ b a k css w ma mb hs he cs0 => ?_⟩
    obtain ⟨henv, hdf, htd, ⟨hro, hnod⟩, hrnd⟩ := hs.top
    simp only at henv hdf htd hro hrnd
    obtain ⟨ho_i, hl', hdrop⟩ := ro_head hro
    have key := s1.does ho ρ a w st.eval henv.size (fun _ _ => rfl) (fun d _ => henv.get d) (fun y _ => henv.eval y) hs.rel
      (fun a' w' => ∃ ρ', a'.defers = a.defers ∧ EnvRel ρ' st2.env cx.n a'.tmps ∧ Rel ρ' st2.mem st2.next w' ∧ Ev ρ ρ' cx.floor st.mem st.next st2.mem st2.next w w') (fun e _ _ => e = .normal) (fun ρ' u w' hval hrel' hev => by
        refine ⟨ρ', Act.put_defers' _ _ _, ?_, hrel', hev⟩
        cases hdst : o.dst with
        | none => exact ((henv.mono hev.ext).congr fun t => s1.other ho t (by rw [hdst]; simp))
        | some d =>
          refine ((henv.mono hev.ext).put (hval d hdst) (.inr ⟨d, rfl, s1.slot d hdst, rfl⟩)).congr fun t => ?_
          rw [T.get_set]
          split
          · rename_i e; subst e; rfl
          · rename_i e; exact s1.other ho t (by rw [hdst]; intro h; exact e (Option.some.inj h).symm))
    obtain ⟨a', w', ⟨ρ', hd', he', hr', hev⟩, hsteps⟩ := op_steps (b := b) (k := k) (cs := css ++ cs0) (rest := (List.range ops.size).drop (i + 1)) (fun e a w h => h) ho_i (noDefer_spec hnod ho_i) key
    refine ⟨ρ', b, a', k, css, w', ma, mb, by rw [roItems, hdrop]; exact hsteps, ⟨⟨he', by rw [hd']; exact hdf, htd.mono fun _ _ => IRel.mono hev.ext, ⟨hl', hnod⟩, ?_⟩, hs.lv, hs.rest.ev hev, hr'⟩, he.trans (by rw [← e]; exact hev), rfl⟩
    exact ((⟨henv, hdf, htd, ⟨hro, hnod⟩, hrnd⟩ : FRel ρ cx (some (ops, i, o :: l)) todo rnd st.env b a k ma).mono hev.ext).rnd
  unfold stepOp at h
  split at h
  · rename_i st1 hw
    split at h
    · -- a function is entered
      rename_i g args hcal
      obtain ⟨w1, w2, w3⟩ := want_spec (ρ := ⟨fun _ => none, fun _ => none, fun _ => none⟩) hw
      have hCeq : ∃ fn body, P.funcs[g]? = some fn ∧ fn.body = some body ∧ C' = ⟨⟨Nat.max fn.ntmps args.length, cx.floor, cx.sym⟩, none, [.code body], none, fn.results.toList, st1.withEnv (envOf args 0 .leaf), ⟨cx, some (ops, i, o :: l), todo, rnd, rs, st1.env⟩ :: cs, lps⟩ := by
        unfold enterS at h
        split at h
        · rename_i fn hfn
          split at h
          · rename_i body hb
            exact ⟨fn, body, hfn, hb, (Option.some.inj h).symm⟩
          · cases h
        · cases h
      obtain ⟨fn, body, hfn, hb, hCe⟩ := hCeq
      have hmem : C'.st.mem = st.mem := by rw [hCe]; exact w1
      have hnext : C'.st.next = st.next := by rw [hCe]; exact w2
      refine ⟨by rw [hCe]; exact hfl.enter (Nat.le_of_eq w2.symm), AInv.same hmem hnext fun ho => (w3 (by rw [hCe] at ho; exact ho)).1, fun ho m0 n0 ρ0 w0 ρ b a k css w ma mb hs he cs0 => ?_⟩
      have ho1 : st1.ob = true := by rw [hCe] at ho; exact ho
      obtain ⟨henv, hdf, htd, ⟨hro, hnod⟩, hrnd⟩ := hs.top
      simp only at henv hdf htd hro hrnd
      obtain ⟨ho_i, hl', hdrop⟩ := ro_head hro
      obtain ⟨_, _, w3'⟩ := want_spec (ρ := ρ) hw
      obtain ⟨henv1, hwt⟩ := (w3' ho1).2 henv
      -- the call
      have hexec : ∃ vals, (execOp a.eval o).run P w = .ok (.enter g vals) w ∧ All2 (VRel ρ) args vals.toList := by
        obtain ⟨dst, op, type, pos, after, guard⟩ := o
        simp only at hcal ⊢
        unfold callee at hcal
        split at hcal
        · rename_i f cargs argTypes
          split at hcal
          · rename_i g' caps hg
            split at hcal
            · cases hcal
            · simp only [Option.some.injEq, Sum.inl.injEq, Prod.mk.injEq] at hcal
              obtain ⟨rfl, rfl⟩ := hcal
              have hf := henv1.eval f
              rw [hg] at hf
              generalize hw' : a.eval f = u at hf
              cases hf with
              | fn _ _ cvs hl hh =>
                have := fnCall_run hN hfn (by rw [hb]; rfl) (cargs.map a.eval ++ cvs) w
                refine ⟨cargs.map a.eval ++ cvs, by simp [execOp, resolve, Deferred.ofValue, hw', invoke, this], ?_⟩
                rw [Array.toList_append]
                exact All2.append (call_args henv1 cargs) (All2.of (by simpa using hl) fun i h1 h2 => by simpa using hh i h1 (by simpa using h2))
          · rename_i g' first hg
            split at hcal
            · cases hcal
            · simp only [Option.some.injEq, Sum.inl.injEq, Prod.mk.injEq] at hcal
              obtain ⟨rfl, rfl⟩ := hcal
              have hf := henv1.eval f
              rw [hg] at hf
              generalize hw' : a.eval f = u at hf
              cases hf with
              | fnb _ _ cvs hl hh =>
                have := fnCall_run hN hfn (by rw [hb]; rfl) (cvs ++ cargs.map a.eval) w
                refine ⟨cvs ++ cargs.map a.eval, by simp [execOp, resolve, Deferred.ofValue, hw', invoke, this], ?_⟩
                rw [Array.toList_append]
                exact All2.append (All2.of (by simpa using hl) fun i h1 h2 => by simpa using hh i h1 (by simpa using h2)) (call_args henv1 cargs)
          · cases hcal
          · cases hcal
        · cases hcal
      obtain ⟨vals, hex, hargs⟩ := hexec
      have hstep := step_enter (b := b) (k := k) (cs := css ++ cs0) (rest := (List.range ops.size).drop (i + 1)) ho_i (noDefer_spec hnod ho_i) hwt hex
      obtain ⟨_, _, _, _, _, b', a', k', hen, hsr⟩ := enter_srel h (⟨henv1, hdf, htd, ⟨hro, hnod⟩, hrnd⟩) hs.lv hs.rest (by rw [w1, w2]; exact hs.rel) hargs
      refine ⟨ρ, b', a', k', _, w, _, _, .one ?_, hsr, by rw [hmem, hnext]; exact he, by cases css <;> rfl⟩
      rw [show C'.ro = none by rw [hCe], ← hen]
      simp only [roItems, hdrop]
      exact hstep
    · -- a round is entered
      rename_i j args hcal
      obtain ⟨w1, w2, w3⟩ := want_spec (ρ := ⟨fun _ => none, fun _ => none, fun _ => none⟩) hw
      unfold roundS at h
      split at h
      · rename_i lst lpend ln lenv lparams lassign lbody hlg
        split at h
        · rename_i env' hsa
          obtain rfl := Option.some.inj h
          refine ⟨hfl.enter (Nat.le_of_eq w2.symm), AInv.same w1 w2 fun ho => (w3 ho).1, fun ho m0 n0 ρ0 w0 ρ b a k css w ma mb hs he cs0 => ?_⟩
          have ho1 : st1.ob = true := ho
          obtain ⟨henv, hdf, htd, ⟨hro, hnod⟩, hrnd⟩ := hs.top
          simp only at henv hdf htd hro hrnd
          obtain ⟨ho_i, hl', hdrop⟩ := ro_head hro
          obtain ⟨_, _, w3'⟩ := want_spec (ρ := ρ) hw
          obtain ⟨henv1, hwt⟩ := (w3' ho1).2 henv
          obtain ⟨lr, hlp, hlow, hsp, ltmps, lfn, ld, hobj, hlenv⟩ := hs.rest.loops j _ hlg
          simp only at hobj hlenv
          have hexec : ∃ vals : Array Value, All2 (VRel ρ) args vals.toList ∧ (execOp a.eval o).run P w = .ok (.round lr lfn ((lparams.toArray.zip vals).foldl (fun tmps (t, x) => tmps.setIfInBounds t x) ltmps) lassign lbody) w := by
            obtain ⟨dst, op, type, pos, after, guard⟩ := o
            simp only at hcal ⊢
            unfold callee at hcal
            split at hcal
            · rename_i f cargs argTypes
              split at hcal
              · split at hcal <;> cases hcal
              · split at hcal <;> cases hcal
              · rename_i j' hg
                simp only [Option.some.injEq, Sum.inr.injEq, Prod.mk.injEq] at hcal
                obtain ⟨rfl, rfl⟩ := hcal
                have hf := henv1.eval f
                rw [hg] at hf
                generalize hw' : a.eval f = u at hf
                cases hf with
                | yld _ l' hl' =>
                  rw [hlp] at hl'
                  obtain rfl := Option.some.inj hl'
                  have hca := call_args henv1 cargs
                  obtain ⟨hlen, _⟩ := setArgs_sound hsa hlenv hca
                  refine ⟨cargs.map a.eval, hca, ?_⟩
                  have := run_yield (P := P) (args := cargs.map a.eval) hobj (by simpa using hlen.symm)
                  simp [execOp, resolve, Deferred.ofValue, hw', invoke, this]
              · cases hcal
            · cases hcal
          obtain ⟨vals, hargs, hex⟩ := hexec
          obtain ⟨_, henv'⟩ := setArgs_sound hsa hlenv hargs
          have hstep := step_round (b := b) (k := k) (cs := css ++ cs0) (rest := (List.range ops.size).drop (i + 1)) ho_i (noDefer_spec hnod ho_i) hwt hex
          refine ⟨ρ, ⟨lfn, #[], [], [], .run, .normal, some lr⟩, { tmps := (lparams.toArray.zip vals).foldl (fun tmps (t, x) => tmps.setIfInBounds t x) ltmps, defers := [] }, [.code lassign, .beginRound, .code lbody], b.atR a (roItems (some (ops, i, o :: l)) k) :: css, w, [], ma ++ mb, .one ?_, ⟨⟨?_, rfl, .cons (.same _ rfl) (.cons (.same _ rfl) (.cons (.same _ rfl) .nil)), trivial, ⟨rfl, lr, hlp, rfl⟩⟩, fun _ => ⟨rfl, fun h0 => by cases h0⟩, ?_, by rw [show (st1.withEnv env').mem = st.mem from w1, show (st1.withEnv env').next = st.next from w2]; exact hs.rel⟩, by rw [show (st1.withEnv env').mem = st.mem from w1, show (st1.withEnv env').next = st.next from w2]; exact he, by cases css <;> rfl⟩
          · simp only [roItems, hdrop]
            exact hstep
          · have : (lparams.toArray.zip vals).foldl (fun tmps (t, x) => tmps.setIfInBounds t x) ltmps = (lparams.zip vals.toList).foldl (fun t p => t.setIfInBounds p.1 p.2) ltmps := by
              rw [← Array.foldl_toList]; simp
            simp only [this]
            exact henv'
          · exact ⟨.cons ⟨henv1, hdf, htd, ⟨hro, hnod⟩, hrnd⟩ hs.lv hs.rest.cs, hs.rest.nodup, hs.rest.marks, hs.rest.loops, hs.rest.inj⟩
        · cases h
      · cases h
    · split at h
      · rename_i st2 hop
        obtain rfl := Option.some.inj h
        exact plain st2 (by unfold step1; rw [hw]; exact hop)
      · cases h
  · rename_i st1 hw
    split at h
    · rename_i st2 hp
      obtain rfl := Option.some.inj h
      exact plain st2 (by unfold step1; rw [hw]; exact hp)
    · cases h
  · cases h

end
end Go.Am
