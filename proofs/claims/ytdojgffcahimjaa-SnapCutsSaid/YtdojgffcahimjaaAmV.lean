/- The machine with its stack: each step is made by the real machine (the end of it), and so are runs. -/
import Derived.Test.YtdojgffcahimjaaAmU
namespace Go.Am
set_option linter.unusedVariables false

section
variable {P : Program}

theorem TRel.item {ρ : Rho} {x : Item} {t k : List Item} (hx : plainItem x = true) (h : TRel ρ (x :: t) k) : ∃ k', k = x :: k' ∧ TRel ρ t k' := by
  cases h with
  | cons h ht =>
    cases h with
    | same _ _ => exact ⟨_, rfl, ht⟩
    | inR j l e => cases hx
    | endR j l e => cases hx

/-- A frame is left. -/
theorem leave_sim {fl : Nat} {cx : Ctx} {todo : List Item} {rnd : Option Nat} {rs : List ResultVar} {st : St} {cs : List AFr} {lps : Loops} {jump : Option Code} {C' : Cfg} (hfl : Fl fl ⟨cx, none, todo, rnd, rs, st, cs, lps⟩)
    (h : leaveS P rnd rs st cs lps jump = some C') (hj : (todo = [] ∧ jump = none) ∨ (∃ t, todo = .code .ret :: t ∧ jump = some .ret) ∨ (∃ id t, todo = .code (.exit id) :: t ∧ exitTo id t = none ∧ jump = some (.exit id) ∧ rnd.isSome = true)) :
    Sim P fl ⟨cx, none, todo, rnd, rs, st, cs, lps⟩ C' := by
  unfold leaveS at h
  split at h
  · split at h
    · rename_i vs hvs
      obtain ⟨hfl', hm, hn, hob, hne, key⟩ := pop_sim (P := P) (base := 0) h hfl.cs hfl.le
      refine ⟨hfl', AInv.same hm hn fun ho => by rw [← hob]; exact ho, fun ho m0 n0 ρ0 w0 ρ b a k css w ma mb hs he cs0 => ?_⟩
      obtain ⟨_, _, _, _, _, key⟩ := pop_sim (P := P) (base := w0.heap.size) h hfl.cs hfl.le
      have htd : todo = [] ∨ ∃ t, todo = .code .ret :: t := by
        rcases hj with ⟨e, _⟩ | ⟨t, e, _⟩ | ⟨_, _, _, _, _, e⟩
        · exact .inl e
        · exact .inr ⟨t, e⟩
        · cases e
      obtain ⟨w', hsteps, henv, hrel, hev, hrest⟩ := end_steps hs rfl rfl htd rfl he (css ++ cs0)
      obtain ⟨hk, hfn⟩ := hs.lv hne
      obtain ⟨fn, hfn, hrs⟩ := hfn rfl
      simp only at hrs hfn
      obtain ⟨u, hu, hres⟩ := results_sound (fn := fn) henv hrel (by rw [hrs]; exact hvs)
      obtain ⟨c, css', b', a', k', ma', mb', rfl, hfin, hsr, hbot⟩ := key ρ css w' mb u hu hrest hrel
      refine ⟨ρ, b', a', k', css', w', ma', mb', hsteps.trans (.one ?_), hsr, by rw [hm, hn]; exact hev, by rw [hbot]; rfl⟩
      rw [← hfin]
      exact step_leave_returned (fr := { b.atR { a with defers := [] } k with mode := .returning }) ⟨rfl, rfl, hk, fn, hfn, hres⟩
    · cases h
  · rename_i j
    split at h
    · rename_i lst lpend ln lenv lparams lassign lbody hlg
      obtain ⟨hfl', hm, hn, hob, hne, _⟩ := pop_sim (P := P) (base := 0) h hfl.cs hfl.le
      refine ⟨hfl', AInv.same hm hn fun ho => by rw [← hob]; exact ho, fun ho m0 n0 ρ0 w0 ρ b a k css w ma mb hs he cs0 => ?_⟩
      obtain ⟨_, _, _, _, _, key⟩ := pop_sim (P := P) (base := w0.heap.size) h hfl.cs hfl.le
      obtain ⟨rfl, lr0, hlp0, hro⟩ := hs.top.rnd
      obtain ⟨lr, hla⟩ := hs.rest.loops j _ hlg
      have hla' := hla
      obtain ⟨hlp, hlow, hsp, ltmps, lfn, ld, hobj, hlenv⟩ := hla
      rw [hlp] at hlp0
      obtain rfl := Option.some.inj hlp0
      have hrun := run_endRound (P := P) jump hobj
      have hlst : (if jump.isNone then LoopState.ready else LoopState.done) = jumpSt jump := by cases jump <;> rfl
      rw [hlst] at hrun
      have hrest := hs.rest.record (w' := w.putObj lr (.loop ⟨jumpSt jump, jump, lfn, ltmps, lparams.toArray, lassign, lbody, ld⟩)) hlg hla' (L' := ⟨jumpSt jump, jump, ln, lenv, lparams, lassign, lbody⟩)
        ⟨hlp, hlow, hsp.turned (Turned.put _ _ _), ltmps, lfn, ld, World.putObj_heap_same hsp.1, hlenv⟩ (Turned.put _ _ _)
      obtain ⟨c, css', b', a', k', ma', mb', rfl, hfin, hsr, hbot⟩ := key ρ css _ mb (.bool jump.isNone) (.bool _) hrest (hs.rel.turned (fun r hr => by rw [List.mem_singleton.1 hr]; exact hsp) (Turned.put _ _ _))
      have hev := he.turned (m := [lr]) (fun r hr => by rw [List.mem_singleton.1 hr]; exact hlow) (Turned.put w lr (.loop ⟨jumpSt jump, jump, lfn, ltmps, lparams.toArray, lassign, lbody, ld⟩))
      refine ⟨ρ, b', a', k', css', _, ma', mb', .one ?_, hsr, by rw [hm, hn]; exact hev, by rw [hbot]; rfl⟩
      obtain ⟨hk, _⟩ := hs.lv hne
      rw [← hfin]
      have htd := hs.top.todo
      rcases hj with ⟨rfl, rfl⟩ | ⟨t, rfl, rfl⟩ | ⟨id, t, rfl, hx, rfl, _⟩
      · cases htd
        exact stepR_round_end hro hk hrun
      · obtain ⟨k', rfl, _⟩ := htd.code
        exact stepR_round_ret hro hk hrun
      · obtain ⟨k', rfl, ht⟩ := htd.code
        exact stepR_round_exit hro hk ((ht.exit id).2 hx) hrun
    · cases h

theorem stepS_sim {S : Specs} {Rc : Runner} (hN : Named P) (hmx : P.follows .mixedOrders = true) (hS : SpecsOk P S) (hCI : RInv Rc) (hC : ROk P Rc) {fl : Nat} {C C' : Cfg} (hfl : Fl fl C) (h : stepS P S Rc C = some C') : Sim P fl C C' := by
  unfold stepS at h
  split at h
  · -- a region's end
    rename_i ops i todo rnd rs st cs lps
    obtain rfl := Option.some.inj h
    refine ⟨⟨hfl.cx, hfl.cs, hfl.le⟩, AInv.refl _ _, fun ho m0 n0 ρ0 w0 ρ b a k css w ma mb hs he cs0 => ?_⟩
    obtain ⟨henv, hdf, htd, ⟨hro, hnod⟩, hrnd⟩ := hs.top
    refine ⟨ρ, b, a, k, css, w, ma, mb, .one ?_, ⟨⟨henv, hdf, htd, trivial, hrnd⟩, hs.lv, hs.rest, hs.rel⟩, he, rfl⟩
    have hge : ops.size ≤ i := by
      have := congrArg List.length hro
      simp at this; omega
    have : (List.range ops.size).drop i = [] := List.drop_eq_nil_of_le (by simpa using hge)
    simp only [roItems, this]
    exact stepR_region_end
  · exact stepOp_sim hN hS hCI hC hfl h
  · rename_i cx todo rnd rs st cs lps
    split at h
    · exact leave_sim hfl h (.inl ⟨rfl, rfl⟩)
    · exact leave_sim hfl h (.inr (.inl ⟨_, rfl, rfl⟩))
    · obtain rfl := Option.some.inj h
      exact Sim.move hfl fun ρ k hk => by obtain ⟨k', rfl, ht⟩ := hk.code; exact ⟨k', ht, fun b a css w => stepR_skip⟩
    · obtain rfl := Option.some.inj h
      exact Sim.move hfl fun ρ k hk => by obtain ⟨k', rfl, ht⟩ := hk.code; exact ⟨k', ht, fun b a css w => stepR_label⟩
    · obtain rfl := Option.some.inj h
      exact Sim.move hfl fun ρ k hk => by obtain ⟨k', rfl, ht⟩ := TRel.item rfl hk; exact ⟨k', ht, fun b a css w => stepR_inBlock⟩
    · obtain rfl := Option.some.inj h
      exact Sim.move hfl fun ρ k hk => by
        obtain ⟨k', rfl, ht⟩ := TRel.item rfl hk
        exact ⟨k', ht, fun b a css w => step_lone_go (by simp [stepG, stepG.exec, Frame.atR])⟩
    · obtain rfl := Option.some.inj h
      exact Sim.move hfl fun ρ k hk => by obtain ⟨k', rfl, ht⟩ := hk.code; exact ⟨_, .cons (.same _ rfl) (.cons (.same _ rfl) ht), fun b a css w => stepR_seq⟩
    · -- a test
      rename_i c x y k0
      split at h
      · rename_i v hv
        split at h
        rename_i e st1 ht
        obtain rfl := Option.some.inj h
        obtain ⟨t1, t2, t3, t4⟩ := test_spec ht
        refine ⟨⟨hfl.cx, hfl.cs, by have := hfl.le; simp only at this ⊢; omega⟩, AInv.same t2 t3 fun ho => (t4 ho).2, fun ho m0 n0 ρ0 w0 ρ b a k css w ma mb hs he cs0 => ?_⟩
        obtain ⟨rfl, _⟩ := t4 ho
        obtain ⟨henv, hdf, htd, hro, hrnd⟩ := hs.top
        obtain ⟨k', rfl, htl⟩ := htd.code
        have hc := henv.eval c
        rw [hv] at hc
        have hev : a.eval c = .bool e := by
          generalize a.eval c = u at hc
          cases hc; rfl
        refine ⟨ρ, b, a, _, css, w, ma, mb, .one (stepR_cond hev), ⟨⟨by rw [t1]; exact henv, hdf, .cons ?_ htl, trivial, hrnd⟩, hs.lv, hs.rest, by rw [t2, t3]; exact hs.rel⟩, by rw [t2, t3]; exact he, rfl⟩
        cases e <;> exact .same _ rfl
      · cases h
    · obtain rfl := Option.some.inj h
      exact Sim.move hfl fun ρ k hk => by obtain ⟨k', rfl, ht⟩ := hk.code; exact ⟨_, .cons (.same _ rfl) (.cons (.same _ rfl) ht), fun b a css w => stepR_block⟩
    · obtain rfl := Option.some.inj h
      exact Sim.move hfl fun ρ k hk => by
        obtain ⟨k', rfl, ht⟩ := hk.code
        exact ⟨_, .cons (.same _ rfl) (.cons (.same _ rfl) ht), fun b a css w => step_lone_go (by simp [stepG, stepG.exec, Frame.atR])⟩
    · obtain rfl := Option.some.inj h
      exact Sim.move hfl fun ρ k hk => by obtain ⟨k', rfl, ht⟩ := hk.code; exact ⟨_, .cons (.same _ rfl) (.cons (.same _ rfl) ht), fun b a css w => stepR_loop⟩
    · obtain rfl := Option.some.inj h
      exact Sim.move hfl fun ρ k hk => by obtain ⟨k', rfl, ht⟩ := TRel.item rfl hk; exact ⟨_, .cons (.same _ rfl) (.cons (.same _ rfl) ht), fun b a css w => stepR_inLoop⟩
    · -- an exit
      rename_i id k0
      split at h
      · rename_i k1 hx
        obtain rfl := Option.some.inj h
        exact Sim.move hfl fun ρ k hk => by
          obtain ⟨k', rfl, ht⟩ := hk.code
          obtain ⟨r', h1, h2⟩ := (ht.exit id).1 _ hx
          exact ⟨r', h2, fun b a css w => stepR_exit h1⟩
      · rename_i hx
        split at h
        · exact leave_sim hfl h (.inr (.inr ⟨id, k0, rfl, hx, rfl, rfl⟩))
        · cases h
    · -- a region in the order of the text
      rename_i id ops k0
      obtain ⟨hnod, h⟩ := bif_inv h
      obtain rfl := Option.some.inj h
      refine ⟨⟨hfl.cx, hfl.cs, hfl.le⟩, AInv.refl _ _, fun ho m0 n0 ρ0 w0 ρ b a k css w ma mb hs he cs0 => ?_⟩
      obtain ⟨henv, hdf, htd, hro, hrnd⟩ := hs.top
      obtain ⟨k', rfl, htl⟩ := htd.code
      exact ⟨ρ, b, a, k', css, w, ma, mb, .one stepR_region, ⟨⟨henv, hdf, htl, ⟨rfl, hnod⟩, hrnd⟩, hs.lv, hs.rest, hs.rel⟩, he, rfl⟩
    · -- a region that draws its order
      rename_i id ops k0
      obtain ⟨hc, h⟩ := bif_inv h
      simp only [Bool.and_eq_true] at hc
      obtain ⟨hchk, hnod⟩ := hc
      split at h
      · rename_i st1 hop
        obtain rfl := Option.some.inj h
        have hi := opsRunD_inv hCI _ _ _ _ hop
        have e := hfl.cx
        simp only at e
        have hcx : cx.floor ≤ st.next := by have := hfl.le; simp only at this; omega
        refine ⟨⟨e, hfl.cs, Nat.le_trans hfl.le hi.nxt⟩, by rw [← e]; exact hi, fun ho m0 n0 ρ0 w0 ρ b a k css w ma mb hs he cs0 => ?_⟩
        obtain ⟨henv, hdf, htd, hro, hrnd⟩ := hs.top
        obtain ⟨k', rfl, htl⟩ := htd.code
        have hw := opsDraw_sound hN hS hCI hC hcx hchk hop ho hdf henv (hs.rel.drawn (w.drawn + 1))
        have hw2 := wpAny_sound ops.size (w.tape w.drawn (.order b.fn id)) _ a _ hw
        obtain ⟨a', w', ⟨hd', ρ', q1, q2, q3⟩, hsteps⟩ := ops_steps (b := b) (k := k') (cs := css ++ cs0) (fun e a w hq => hq) hnod _ _ _ hw2
        have hev := q3.drawn
        refine ⟨ρ', b, a', k', css, w', ma, mb, .head stepR_region_draw ?_, ⟨⟨q1, hd', htl.mono fun _ _ => IRel.mono hev.ext, trivial, ?_⟩, hs.lv, hs.rest.ev hev, q2⟩, he.trans (by rw [← e]; exact hev), rfl⟩
        · simp only [Region.schedule, hmx, Bool.true_or, if_true]
          exact hsteps
        · exact ((⟨henv, hdf, htd, hro, hrnd⟩ : FRel ρ cx none _ rnd st.env b a _ ma).mono hev.ext).rnd
      · cases h
    · -- a loop over a function
      rename_i f params assign body k0
      split at h
      · rename_i g caps hg
        obtain ⟨env, mem, next, orc, ob⟩ := st
        simp only [St.nextId] at h
        obtain ⟨hrk, h⟩ := bif_inv h
        have hCeq : ∃ fn fbody, P.funcs[g]? = some fn ∧ fn.body = some fbody ∧ C' = ⟨⟨Nat.max fn.ntmps (AVal.yld next :: caps).length, cx.floor, cx.sym⟩, none, [.code fbody], none, fn.results.toList, St.withEnv ⟨env, mem, next + 1, orc, ob⟩ (envOf (AVal.yld next :: caps) 0 .leaf), ⟨cx, none, .inRangeFunc next :: k0, rnd, rs, env⟩ :: cs, lset lps next (some ⟨.ready, none, cx.n, env, params.toList, assign, body⟩)⟩ := by
          unfold enterS at h
          split at h
          · rename_i fn hfn
            split at h
            · rename_i fbody hb
              exact ⟨fn, fbody, hfn, hb, (Option.some.inj h).symm⟩
            · cases h
          · cases h
        obtain ⟨fn, fbody, hfn, hb, hCe⟩ := hCeq
        refine ⟨by rw [hCe]; exact hfl.enter (Nat.le_succ _), ?_, fun ho m0 n0 ρ0 w0 ρ b a k css w ma mb hs he cs0 => ?_⟩
        · rw [hCe]
          exact ⟨Nat.le_succ _, fun hbd x hx => hbd x (Nat.le_of_succ_le hx), fun _ _ _ => rfl, fun ho => ho⟩
        obtain ⟨henv, hdf, htd, hro, hrnd⟩ := hs.top
        obtain ⟨k', rfl, htl⟩ := htd.code
        have hrel := hs.rel
        simp only at henv hrel he hrnd hdf htl
        -- the record is laid
        have lay : ∃ l mk w1 d, (Instr.enterLoop b.fn a.tmps params assign body b.roundOf).run P w = .ok (l, (mk : List Nat).map mark) w1 ∧ w1.heap[l]? = some (.loop ⟨.ready, none, b.fn, a.tmps, params, assign, body, d⟩) ∧ w0.heap.size ≤ l ∧ Sp ρ w1 l ∧ Rel ρ mem next w1 ∧ Ev ρ0 ρ fl m0 n0 mem next w0 w1 ∧ (rnd.isSome = true → mk = []) ∧
            Rest P w0.heap.size ρ cs lps css w1 (mk ++ ma) mb ∧ (∀ j L l', lget lps j = some L → ρ.lp j = some l' → l' ≠ l) := by
          have gr : ∀ (w1 : World) (o : Obj) (mk : List Nat), Rest P w0.heap.size ρ cs lps css w1 mk mb → Rest P w0.heap.size ρ cs lps css (w1.alloc o) mk mb := fun w1 o mk hr =>
            ⟨hr.cs, hr.nodup, fun r hx => by obtain ⟨q1, q2, q3⟩ := hr.marks r hx; exact ⟨q1, (q2.grow o).1, by rw [(q2.grow o).2]; exact q3⟩, fun j L hL => by
              obtain ⟨l, q1, q2, q3, tm, fn', d, q4, q5⟩ := hr.loops j L hL
              exact ⟨l, q1, q2, (q3.grow o).1, tm, fn', d, by rw [(q3.grow o).2]; exact q4, q5⟩, hr.inj⟩
          have far : ∀ (w1 : World), Rest P w0.heap.size ρ cs lps css w1 ma mb → ∀ j L l', lget lps j = some L → ρ.lp j = some l' → l' < w1.heap.size := fun w1 hr j L l' hL e => by
            obtain ⟨l2, q⟩ := hr.loops j L hL
            have := q.lp
            rw [e] at this
            obtain rfl := Option.some.inj this
            exact q.sp.1
          cases hr : b.roundOf with
          | none =>
            have hrn : rnd = none := by
              cases rnd with
              | none => rfl
              | some j => obtain ⟨_, l, _, e2⟩ := hrnd; rw [hr] at e2; cases e2
            subst hrn
            have hs1 : Sp ρ (w.alloc (.deferred (some []))) w.heap.size := Sp.fresh hrel _
            have hrel1 := hrel.grow (.deferred (some []))
            have hsz1 : (w.alloc (.deferred (some []))).heap.size = w.heap.size + 1 := by show (w.heap.push _).size = _; simp
            have hrest1 : Rest P w0.heap.size ρ cs lps css (w.alloc (.deferred (some []))) ([w.heap.size] ++ ma) mb := by
              have hr1 := gr w (.deferred (some [])) ma hs.rest
              have hnin : w.heap.size ∉ ma ++ mb := fun hin => by have := (hs.rest.marks _ hin).2.1.1; omega
              refine ⟨hr1.cs, by rw [List.append_assoc]; exact List.nodup_cons.2 ⟨hnin, hr1.nodup⟩, fun r hx => ?_, hr1.loops, hr1.inj⟩
              simp only [List.cons_append, List.nil_append, List.mem_cons] at hx
              rcases hx with rfl | hx
              · exact ⟨he.size, hs1, by show (w.heap.push _)[w.heap.size]? = _; simp⟩
              · exact hr1.marks r hx
            refine ⟨w.heap.size + 1, [w.heap.size], _, w.heap.size, run_enterLoop_outer _ _ _ _ _, ?_, by have := he.size; omega, ?_, hrel1.grow _, (he.grow _).grow _, (fun e => by cases e), gr _ _ _ hrest1, fun j L l' hL e => ?_⟩
            · have := World.alloc_heap_new (w.alloc (.deferred (some []))) (.loop { state := .ready, pending := none, fn := b.fn, tmps := a.tmps, params := params, assign, body, defers := w.heap.size })
              rw [hsz1] at this; exact this
            · have := Sp.fresh hrel1 (.loop { state := .ready, pending := none, fn := b.fn, tmps := a.tmps, params := params, assign, body, defers := w.heap.size })
              rw [hsz1] at this; exact this
            · have := far w hs.rest j L l' hL e; omega
          | some l0 =>
            obtain ⟨j0, rfl⟩ : ∃ j0, rnd = some j0 := by
              cases rnd with
              | none => have e2 : b.roundOf = none := hrnd; rw [hr] at e2; cases e2
              | some j => exact ⟨j, rfl⟩
            obtain ⟨hma, l1, hlp1, e2⟩ := hrnd
            rw [hr] at e2
            obtain rfl := Option.some.inj e2
            subst hma
            have hsome : ∃ L0, lget lps j0 = some L0 := Option.isSome_iff_exists.1 hrk
            obtain ⟨L0, hL0⟩ := hsome
            obtain ⟨l2, q1, q2, q3, tm, fn', d, q4, q5⟩ := hs.rest.loops j0 L0 hL0
            rw [hlp1] at q1
            obtain rfl := Option.some.inj q1
            refine ⟨w.heap.size, [], _, _, run_enterLoop_inner q4 _ _ _ _ _, World.alloc_heap_new _ _, he.size, Sp.fresh hrel _, hrel.grow _, he.grow _, (fun _ => rfl), gr _ _ _ hs.rest, fun j L l' hL e => ?_⟩
            have := far w hs.rest j L l' hL e; omega
        obtain ⟨l, mk, w1, d, hen, hobj, hlow, hsp, hrel1, hev1, hmk, hrest1, hne⟩ := lay
        have hle : ρ.le (lpAdd ρ next l) := lpAdd_le hrel1.lp_none
        have hlpj : (lpAdd ρ next l).lp next = some l := if_pos rfl
        have get : ∀ i L, lget (lset lps next (some L)) i = if i = next then some L else lget lps i := fun i L => T.get_set none lps next (some L) i
        have hlps : ∀ j L l', lget lps j = some L → (lpAdd ρ next l).lp j = some l' → j ≠ next → ρ.lp j = some l' := fun j L l' _ e hj => by
          have e : (if j = next then some l else ρ.lp j) = some l' := e
          rwa [if_neg hj] at e
        have hrest2 : Rest P w0.heap.size (lpAdd ρ next l) cs (lset lps next (some ⟨.ready, none, cx.n, env, params.toList, assign, body⟩)) css w1 (mk ++ ma) mb := by
          refine ⟨hrest1.cs.mono hle, hrest1.nodup, hrest1.marks, fun j L hL => ?_, fun j j' L L' l' hL hL' e e' => ?_⟩
          · rw [get] at hL
            by_cases hj : j = next
            · subst hj
              rw [if_pos rfl] at hL
              obtain rfl := Option.some.inj hL
              exact ⟨l, hlpj, hlow, hsp, a.tmps, b.fn, d, by simpa using hobj, henv.mono hle⟩
            · rw [if_neg hj] at hL
              obtain ⟨l2, q1, q2, q3, tm, fn', d', q4, q5⟩ := hrest1.loops j L hL
              exact ⟨l2, hle.2.2 _ _ q1, q2, q3, tm, fn', d', q4, q5.mono hle⟩
          · rw [get] at hL hL'
            by_cases hj : j = next <;> by_cases hj' : j' = next
            · rw [hj, hj']
            · subst hj
              rw [if_neg hj'] at hL'
              rw [hlpj] at e
              exact absurd (Option.some.inj e).symm (hne j' L' l' hL' (hlps _ _ _ hL' e' hj'))
            · subst hj'
              rw [if_neg hj] at hL
              rw [hlpj] at e'
              exact absurd (Option.some.inj e').symm (hne j L l' hL (hlps _ _ _ hL e hj))
            · rw [if_neg hj] at hL
              rw [if_neg hj'] at hL'
              exact hrest1.inj j j' L L' l' hL hL' (hlps _ _ _ hL e hj) (hlps _ _ _ hL' e' hj')
        have hf := (show EnvRel ρ (St.env ⟨env, mem, next, orc, ob⟩) cx.n a.tmps from henv).eval f
        rw [hg] at hf
        generalize hw' : a.eval f = u at hf
        cases hf with
        | fn _ _ cvs hl hh =>
          have hargs : All2 (VRel (lpAdd ρ next l)) (AVal.yld next :: caps) (#[Value.func (.yield l) #[] #[]] ++ cvs).toList := by
            rw [Array.toList_append]
            exact .cons (.yld _ _ hlpj) (All2.of (by simpa using hl) fun i h1 h2 => by simpa using (hh i h1 (by simpa using h2)).mono hle)
          have hcall := fnCall_run hN hfn (by rw [hb]; rfl) (#[Value.func (.yield l) #[] #[]] ++ cvs) w1
          have hstep := stepR_rangeFunc (P := P) (b := b) (a := a) (k := k') (cs := css ++ cs0) (g := f) (d := ⟨.fn (.func g) cvs, #[Value.func (.yield l) #[] #[]]⟩) (w₁' := w1) hen
            (by simp only [resolve, hw', Deferred.ofValue]; simp [Act.eval]) (by simp only [invoke]; exact hcall)
          have hfr : FRel (lpAdd ρ next l) cx none (.inRangeFunc next :: k0) rnd env b { a with defers := mk.map mark ++ a.defers } (.inRangeFunc l :: k') (mk ++ ma) :=
            ⟨henv.mono hle, by rw [List.map_append, hdf], .cons (.inR _ _ hlpj) (htl.mono fun _ _ => IRel.mono hle), trivial, by
              cases rnd with
              | none => exact hrnd
              | some j =>
                obtain ⟨h0, l', h1, h2⟩ := hrnd
                exact ⟨by rw [hmk rfl, h0]; rfl, l', hle.2.2 _ _ h1, h2⟩⟩
          obtain ⟨_, _, _, _, _, b', a', k2, hent, hsr⟩ := enter_srel h hfr hs.lv hrest2 (show Rel _ mem (next + 1) w1 from hrel1.lpAdd l) hargs
          refine ⟨lpAdd ρ next l, b', a', k2, _, w1, _, _, .one ?_, hsr, ?_, by cases css <;> rfl⟩
          · rw [show C'.ro = none by rw [hCe], ← hent]
            exact hstep
          · rw [hCe]
            exact hev1.lpAdd hrel1 l
      · cases h
    · -- a round begins
      rename_i k0
      split at h
      · rename_i j
        split at h
        · rename_i pend n env params assign body hlg
          obtain rfl := Option.some.inj h
          refine ⟨⟨hfl.cx, hfl.cs, hfl.le⟩, AInv.refl _ _, fun ho m0 n0 ρ0 w0 ρ b a k css w ma mb hs he cs0 => ?_⟩
          obtain ⟨henv, hdf, htd, hro, hrnd⟩ := hs.top
          obtain ⟨rfl, lr0, hlp0, hrb⟩ := hrnd
          obtain ⟨k', rfl, htl⟩ := TRel.item rfl htd
          obtain ⟨lr, hla⟩ := hs.rest.loops j _ hlg
          have hla' := hla
          obtain ⟨hlp, hlow, hsp, ltmps, lfn, ld, hobj, hlenv⟩ := hla
          rw [hlp] at hlp0
          obtain rfl := Option.some.inj hlp0
          have hrun := run_beginRound (P := P) hobj rfl
          have hrest := hs.rest.record (w' := w.putObj lr (.loop ⟨.busy, pend, lfn, ltmps, params.toArray, assign, body, ld⟩)) hlg hla' (L' := ⟨.busy, pend, n, env, params, assign, body⟩)
            ⟨hlp, hlow, hsp.turned (Turned.put _ _ _), ltmps, lfn, ld, World.putObj_heap_same hsp.1, hlenv⟩ (Turned.put _ _ _)
          refine ⟨ρ, b, a, k', css, _, [], mb, .one (stepR_beginRound hrb hrun), ⟨⟨henv, hdf, htl, trivial, ⟨rfl, lr, hlp, hrb⟩⟩, hs.lv, hrest, hs.rel.turned (fun r hr => by rw [List.mem_singleton.1 hr]; exact hsp) (Turned.put _ _ _)⟩, he.turned (m := [lr]) (fun r hr => by rw [List.mem_singleton.1 hr]; exact hlow) (Turned.put _ _ _), rfl⟩
        · cases h
      · cases h
    · -- a loop's end
      rename_i j k0
      split at h
      · cases h
      · rename_i lst pend n env params assign body hnb hlg
        obtain rfl := Option.some.inj h
        refine ⟨⟨hfl.cx, hfl.cs, hfl.le⟩, AInv.refl _ _, fun ho m0 n0 ρ0 w0 ρ b a k css w ma mb hs he cs0 => ?_⟩
        obtain ⟨henv, hdf, htd, hro, hrnd⟩ := hs.top
        obtain ⟨lr, hla⟩ := hs.rest.loops j _ hlg
        have hla' := hla
        obtain ⟨hlp, hlow, hsp, ltmps, lfn, ld, hobj, hlenv⟩ := hla
        cases htd with
        | @cons _ y _ k' hx htl =>
          cases hx with
          | same _ hp => cases hp
          | endR _ l hl =>
            rw [hlp] at hl
            obtain rfl := Option.some.inj hl
            have hb : lst ≠ .busy := fun e => by subst e; exact hnb rfl
            have hrun := run_endLoop (P := P) hobj hb
            have hrest := hs.rest.record (w' := w.putObj lr (.loop ⟨.exhausted, pend, lfn, ltmps, params.toArray, assign, body, ld⟩)) hlg hla' (L' := ⟨.exhausted, pend, n, env, params, assign, body⟩)
              ⟨hlp, hlow, hsp.turned (Turned.put _ _ _), ltmps, lfn, ld, World.putObj_heap_same hsp.1, hlenv⟩ (Turned.put _ _ _)
            refine ⟨ρ, b, a, _, css, _, ma, mb, .one (stepR_endRangeFunc hrun), ⟨⟨henv, hdf, ?_, trivial, hrnd⟩, hs.lv, hrest, hs.rel.turned (fun r hr => by rw [List.mem_singleton.1 hr]; exact hsp) (Turned.put _ _ _)⟩, he.turned (m := [lr]) (fun r hr => by rw [List.mem_singleton.1 hr]; exact hlow) (Turned.put _ _ _), rfl⟩
            cases pend with
            | none => exact htl
            | some c => exact .cons (.same _ rfl) htl
      · cases h
    · cases h

/-! ### Runs -/
theorem runS_succ {S : Specs} {Rc : Runner} {n : Nat} {C : Cfg} : runS P S Rc (n + 1) C = (bif finalS C then some C else match stepS P S Rc C with
    | some C' => runS P S Rc n C'
    | none => none) := rfl

theorem finalS_spec {C : Cfg} (h : finalS C = true) : C.ro = none ∧ C.rnd = none ∧ C.cs = [] ∧ (C.todo = [] ∨ ∃ t, C.todo = .code .ret :: t) := by
  unfold finalS at h
  split at h
  · exact ⟨rfl, rfl, rfl, .inl rfl⟩
  · exact ⟨rfl, rfl, rfl, .inr ⟨_, rfl⟩⟩
  · cases h

theorem Leads.trans {fl : Nat} {A B C : Cfg} (h : Leads P fl A B) (k : Leads P fl B C) : Leads P fl A C := by
  intro m0 n0 ρ0 w0 ρ b a t css w ma mb hs he cs0
  obtain ⟨ρ1, b1, a1, t1, css1, w1, ma1, mb1, s1, r1, e1, q1⟩ := h m0 n0 ρ0 w0 ρ b a t css w ma mb hs he cs0
  obtain ⟨ρ2, b2, a2, t2, css2, w2, ma2, mb2, s2, r2, e2, q2⟩ := k m0 n0 ρ0 w0 ρ1 b1 a1 t1 css1 w1 ma1 mb1 r1 e1 cs0
  exact ⟨ρ2, b2, a2, t2, css2, w2, ma2, mb2, s1.trans s2, r2, e2, q2.trans q1⟩

theorem runS_sim {S : Specs} {Rc : Runner} (hN : Named P) (hmx : P.follows .mixedOrders = true) (hS : SpecsOk P S) (hCI : RInv Rc) (hC : ROk P Rc) {fl : Nat} : ∀ (n : Nat) (C C' : Cfg), Fl fl C → runS P S Rc n C = some C' → finalS C' = true ∧ AInv fl C.st C'.st ∧ (C'.st.ob = true → Leads P fl C C')
  | 0, C, st', _, h => by cases h
  | n + 1, C, C', hfl, h => by
    rw [runS_succ] at h
    cases hf : finalS C with
    | true =>
      rw [hf] at h
      obtain rfl := Option.some.inj h
      exact ⟨hf, AInv.refl _ _, fun _ => Leads.refl fl C⟩
    | false =>
      rw [hf, cond_false] at h
      split at h
      · rename_i C1 h1
        have s1 := stepS_sim hN hmx hS hCI hC hfl h1
        obtain ⟨f1, f4, f5⟩ := runS_sim hN hmx hS hCI hC n C1 C' s1.fls h
        exact ⟨f1, s1.inv.trans f4, fun ho => (s1.leads (f4.ob ho)).trans (f5 ho)⟩
      · cases h

/-- A list of what is to do, plain. -/
theorem TRel.refl_plain {ρ : Rho} : ∀ (k : List Item), k.all plainItem = true → TRel ρ k k
  | [], _ => .nil
  | x :: k, h => by
    simp only [List.all_cons, Bool.and_eq_true] at h
    exact .cons (.same x h.1) (TRel.refl_plain k h.2)

theorem rest_start (base : Nat) (ρ : Rho) (w : World) : Rest P base ρ [] .leaf [] w [] [] :=
  ⟨.nil, List.nodup_nil, (fun r hr => by cases hr), (fun j L hL => by cases hL), (fun j j' L L' l hL => by cases hL)⟩

theorem runR_ok (hN : Named P) (hmx : P.follows .mixedOrders = true) {S : Specs} (hS : SpecsOk P S) (n : Nat) : ∀ d, RInv (runR P S n d) ∧ ROk P (runR P S n d)
  | 0 => ⟨(fun cx todo st st' h => by cases h), (fun cx todo st st' _ h => by cases h)⟩
  | d + 1 => by
    obtain ⟨hCI, hC⟩ := runR_ok hN hmx hS n d
    have key : ∀ {cx todo st st'}, runR P S n (d + 1) cx todo st = some st' → todo.all plainItem = true ∧ Fl cx.floor ⟨cx, none, todo, none, [], st, [], .leaf⟩ ∧ ∃ C', runS P S (runR P S n d) n ⟨cx, none, todo, none, [], st, [], .leaf⟩ = some C' ∧ C'.cx.n = cx.n ∧ C'.st = st' := by
      intro cx todo st st' h
      have h : (bif todo.all plainItem && Nat.ble cx.floor st.next then match runS P S (runR P S n d) n ⟨cx, none, todo, none, [], st, [], .leaf⟩ with
        | some C => bif Nat.beq C.cx.n cx.n then some C.st else none
        | none => none
        else none) = some st' := h
      obtain ⟨hp, h⟩ := bif_inv h
      simp only [Bool.and_eq_true] at hp
      refine ⟨hp.1, ⟨rfl, fun af haf => (by cases haf), Nat.le_of_ble_eq_true hp.2⟩, ?_⟩
      split at h
      · rename_i C' hr
        obtain ⟨hn, h⟩ := bif_inv h
        exact ⟨C', hr, Nat.eq_of_beq_eq_true hn, Option.some.inj h⟩
      · cases h
    refine ⟨fun cx todo st st' h => ?_, fun cx todo st st' hcx h ho ρ a w b cs hd henv hrel => ?_⟩
    · obtain ⟨_, hfl, C', hr, _, rfl⟩ := key h
      exact (runS_sim hN hmx hS hCI hC n _ C' hfl hr).2.1
    · obtain ⟨hpl, hfl, C', hr, hn, rfl⟩ := key h
      obtain ⟨f1, f2, f3⟩ := runS_sim hN hmx hS hCI hC n _ C' hfl hr
      obtain ⟨e1, e2, e3, e4⟩ := finalS_spec f1
      obtain ⟨ρ', b', a', k', css', w', ma', mb', s1, r1, v1, q1⟩ := f3 ho st.mem st.next ρ w ρ { b with roundOf := none } a todo [] w [] []
        ⟨⟨henv, hd, TRel.refl_plain todo hpl, trivial, rfl⟩, fun h => absurd rfl h, rest_start _ _ _, hrel⟩ (Ev.refl _ _ _ _ _ hrel.dom) cs
      have hcs := r1.rest.cs
      rw [e3] at hcs
      cases hcs
      obtain ⟨w2, s2, henv', hrel', hev', _⟩ := end_steps r1 e1 e2 e4 rfl v1 cs
      refine ⟨ρ', { a' with defers := [] }, k', w2, ?_, rfl, by rw [← hn]; exact henv', hrel', hev'⟩
      have hb : b.at a todo = Frame.atR { b with roundOf := none } a (roItems none todo) := rfl
      have hb' : Frame.atR b' { a' with defers := [] } k' = b.at { a' with defers := [] } k' := by
        have q : (b'.fn, b'.kind, b'.roundOf) = (b.fn, b.kind, none) := q1
        simp only [Prod.mk.injEq] at q
        simp [Frame.atR, Frame.at, q.1, q.2.1, q.2.2]
      rw [hb, ← hb']
      exact s1.trans s2

/-- The kernel's own run, with its stack. -/
theorem callS_sound {H : Old} (hN : Named P) (hm : P.follows .mixedOrders = true) {S : Specs} (hS : SpecsOk P S) {fuel d : Nat} {sym : Bool} {orc : List Bool} {f : FuncId} {args : List AVal} {v : AVal} (h : callS P S fuel d sym orc f args = some (v, true)) {vals : Array Value} {w : World}
    (hargs : All2 (VRel (rhoOf H)) args vals.toList) (hH : ∀ k o, H k = some o → w.heap[k]? = some o) :
    Calls P f vals w fun e w' => ∃ ρ u, e = .returned u ∧ Out H w ρ v u w' := by
  unfold callS at h
  simp only [Option.map_eq_some_iff, Prod.mk.injEq] at h
  obtain ⟨⟨v', st'⟩, h1, rfl, hob⟩ := h
  obtain ⟨_, hc⟩ := aCall_sound hS (runR_ok hN hm hS fuel d).2 (Nat.le_refl 0) h1 hob hargs (rel_empty hH)
  exact hc.mono fun e w' ⟨ρ', u, he, hp⟩ => ⟨ρ', u, he, out_of hp.val hp.rel hp.ev⟩

theorem closed_callS (hN : Named P) (hm : P.follows .mixedOrders = true) {fuel d : Nat} {f : FuncId} {b : Bool} (h : callS P noSpecs fuel d false [] f [] = some (.bool b, true)) (w : World) :
    Calls P f #[] w fun e w' => e = .returned (.bool b) ∧ RowKit.Below w.heap.size w w' :=
  (callS_sound (H := noOld) hN hm noSpecs_ok h (vals := #[]) .nil (fun k o h => by cases h)).mono fun e w' ⟨ρ, u, he, ho⟩ => by
    have := ho.val
    cases this
    exact ⟨he, ho.below⟩

end
end Go.Am
