/- States told with less, by a plan; rows of numbers. -/
import Derived.Test.YtdojgffcahimjaaAm2
namespace Go.Am
set_option linter.unusedVariables false

/-! ### A plan: how values and blocks are told with less -/
inductive VP where
  | keep
  | drop
  /-- A slice that grows: nil, or of a block by itself. -/
  | grow (b sz : Nat)
  /-- A list that nobody writes, told by other rows. -/
  | list (g : Nat → List AVal)
  /-- A slice that nobody writes any more. -/
  | frz (n : Nat) (a g : Nat → List AVal)

/-- Rows that are the same. -/
noncomputable def sameR (n : Nat) (a g : Nat → List AVal) : Bool := pd (∀ i, i < n → a i = g i)
noncomputable def rowedOk (cells : List AVal) (sz n : Nat) (g : Nat → List AVal) : Bool := pd (cells = rows n g ∧ 1 ≤ sz ∧ ∀ i, i < n → (g i).length = sz)
noncomputable def rlesR (n : Nat) (a g : Nat → List AVal) : Bool := pd (∀ i, i < n → RLe (a i) (g i))

noncomputable def frzIs (v : AVal) (n : Nat) (a : Nat → List AVal) : Bool := pd (v = .dat n a)
theorem frzIs_of (sz n : Nat) (g : Nat → List AVal) : frzIs (frzS sz sz 0 n n g) n g = true := pd_true (frzS_eq sz n g)
theorem frzIs_rfl (n : Nat) (g : Nat → List AVal) : frzIs (.dat n g) n g = true := pd_true rfl

noncomputable def lessV : VP → AVal → Bool → AVal × Bool
  | .keep, v, ob => (v, ob)
  | .drop, _, ob => (.undef, ob)
  | .grow b sz, v, ob => match v with
    | .nils => (.sla b sz 0 0 (.un sz), ob)
    | .sl b o len cap => (.sla b sz 0 len cap, Nat.beq o 0 && ob)
    | v => (v, ob)
  | .list g, v, ob => match v with
    | .nils => (.dat 0 g, ob)
    | .dat n a => (.dat n g, sameR n a g && ob)
    | v => (v, ob)
  | .frz n a g, v, ob => (.dat n g, frzIs v n a && (sameR n a g && ob))

theorem lessV_le {p : VP} {v : AVal} {ob : Bool} (h : (lessV p v ob).2 = true) : VLe v (lessV p v ob).1 ∧ ob = true := by
  cases p with
  | keep => exact ⟨.refl _, h⟩
  | drop => exact ⟨.undef _, h⟩
  | grow b sz =>
    cases v with
    | nils => exact ⟨.nils _ _ _ _, h⟩
    | sl b' o len cap =>
      simp only [lessV, Bool.and_eq_true] at h
      have e := Nat.eq_of_beq_eq_true h.1
      subst e
      have := VLe.sl b' sz 0 len cap
      rw [Nat.zero_mul] at this
      exact ⟨this, h.2⟩
    | _ => exact ⟨.refl _, h⟩
  | list g =>
    cases v with
    | nils => exact ⟨.nild _, h⟩
    | dat n a =>
      simp only [lessV, Bool.and_eq_true] at h
      exact ⟨.dat _ _ _ (pd_of h.1), h.2⟩
    | _ => exact ⟨.refl _, h⟩
  | frz n a g =>
    simp only [lessV, Bool.and_eq_true] at h
    obtain rfl := pd_of h.1
    exact ⟨.dat _ _ _ (pd_of h.2.1), h.2.2⟩

noncomputable def lessVs : List VP → List AVal → Bool → List AVal × Bool
  | _, [], ob => ([], ob)
  | [], l, ob => (l, ob)
  | p :: ps, v :: l, ob => match lessVs ps l ob with
    | (l', ob) => match lessV p v ob with
      | (v', ob) => (v' :: l', ob)

theorem lessVs_le : ∀ {ps : List VP} {l : List AVal} {ob : Bool}, (lessVs ps l ob).2 = true → RLe l (lessVs ps l ob).1 ∧ ob = true
  | [], [], _, h => ⟨.nil, h⟩
  | _ :: _, [], _, h => ⟨.nil, h⟩
  | [], a :: l, _, h => ⟨RLe.refl _, h⟩
  | p :: ps, v :: l, ob, h => by
    simp only [lessVs] at h ⊢
    obtain ⟨h1, h2⟩ := lessV_le h
    obtain ⟨h3, h4⟩ := lessVs_le h2
    exact ⟨.cons h1 h3, h4⟩

inductive BP where
  | keep
  | drop
  | cells (ps : List VP)
  | rowed (sz n : Nat) (g : Nat → List AVal)
  | rws (a : Rws)

noncomputable def lessB : BP → Option ABlk → Bool → Option ABlk × Bool
  | .keep, o, ob => (o, ob)
  | .drop, _, ob => (none, ob)
  | .cells ps, o, ob => match o with
    | some ⟨cells, ty, none⟩ => match lessVs ps cells ob with
      | (cs, ob) => (some ⟨cs, ty, none⟩, ob)
    | o => (o, ob)
  | .rowed sz n g, o, ob => match o with
    | some ⟨cells, ty, none⟩ => (some ⟨rows n g, ty, some ⟨sz, n, .flat g⟩⟩, rowedOk cells sz n g && ob)
    | some ⟨_, ty, some ⟨sz, n, a⟩⟩ => (some ⟨rows n g, ty, some ⟨sz, n, .flat g⟩⟩, sameR n a.get g && ob)
    | o => (o, ob)
  | .rws a', o, ob => match o with
    | some ⟨_, ty, some ⟨sz, n, a⟩⟩ => (some ⟨rows n a'.get, ty, some ⟨sz, n, a'⟩⟩, rlesR n a.get a'.get && ob)
    | o => (o, ob)

theorem RLe.sound {ρ : Rho} {l m : List AVal} (h : RLe l m) (i : Nat) (h1 : i < l.length) (h2 : i < m.length) {v : Value} (hv : VRel ρ l[i] v) : VRel ρ m[i] v := (h.get i h1 h2).sound hv

theorem lessB_sound {p : BP} {o : Option ABlk} {ob : Bool} {x' : ABlk} (h : (lessB p o ob).2 = true) (hx : (lessB p o ob).1 = some x') : ob = true ∧ ∃ x, o = some x ∧ ∀ (ρ : Rho) (w : World) (l : Loc), BlkRel ρ w x l → BlkRel ρ w x' l := by
  cases p with
  | keep => exact ⟨h, x', hx, fun _ _ _ q => q⟩
  | drop => cases hx
  | cells ps =>
    rcases o with _ | ⟨cells, ty, _ | A⟩
    · cases hx
    · simp only [lessB] at h hx
      obtain ⟨h1, h2⟩ := lessVs_le h
      obtain rfl := Option.some.inj hx
      refine ⟨h2, _, rfl, fun ρ w l hb => ?_⟩
      obtain ⟨cs, el, g1, g2, g3⟩ := hb.cells
      refine ⟨by rw [hb.n]; exact h1.len, hb.tot, (fun A hA => by cases hA), cs, el, g1, g2, fun i hi => ?_⟩
      have hi0 : i < cells.length := by rw [h1.len]; exact hi
      obtain ⟨v, q1, q2⟩ := g3 i hi0
      exact ⟨v, q1, h1.sound i hi0 hi q2⟩
    · exact ⟨h, _, rfl, fun ρ w l hb => by obtain rfl := Option.some.inj hx; exact hb⟩
  | rowed sz n g =>
    rcases o with _ | ⟨cells, ty, _ | ⟨sz', n', a⟩⟩
    · cases hx
    · simp only [lessB, Bool.and_eq_true] at h hx
      obtain rfl := Option.some.inj hx
      obtain ⟨h1, h2, h3⟩ := pd_of h.1
      exact ⟨h.2, _, rfl, fun ρ w l hb => (BLe.rowed cells ty none sz n g h1 h2 h3).sound hb⟩
    · simp only [lessB, Bool.and_eq_true] at h hx
      obtain rfl := Option.some.inj hx
      have h1 := pd_of h.1
      refine ⟨h.2, _, rfl, fun ρ w l hb => ?_⟩
      obtain ⟨q1, q2, q3⟩ := hb.arr _ rfl
      exact (BLe.rowed cells ty _ sz' n' g (q1.trans (rows_congr _ h1)) q2 fun i hi => by rw [← h1 i hi]; exact q3 i hi).sound hb
  | rws a' =>
    rcases o with _ | ⟨cells, ty, _ | ⟨sz', n', a⟩⟩
    · cases hx
    · exact ⟨h, _, rfl, fun ρ w l hb => by obtain rfl := Option.some.inj hx; exact hb⟩
    · simp only [lessB, Bool.and_eq_true] at h hx
      obtain rfl := Option.some.inj hx
      refine ⟨h.2, _, rfl, fun ρ w l hb => ?_⟩
      obtain ⟨q1, _, _⟩ := hb.arr _ rfl
      have q1 : cells = rows n' a.get := q1
      subst q1
      exact (BLe.rws ty sz' n' a a' (pd_of h.1)).sound hb

noncomputable def lessE : List (Nat × VP) → T AVal → Bool → T AVal × Bool
  | [], env, ob => (env, ob)
  | (t, p) :: l, env, ob => match lessE l env ob with
    | (e, ob) => match lessV p (T.get .undef e t) ob with
      | (v, ob) => (T.set .undef e t v, ob)

theorem VLe.trans' {a b c : AVal} (h : VLe a b) (k : VLe b c) : ∀ {ρ : Rho} {v : Value}, VRel ρ a v → VRel ρ c v := fun hv => k.sound (h.sound hv)

/-- Each slot says less. -/
def ELe (e e' : T AVal) : Prop := ∀ t, (∀ (ρ : Rho) (v : Value), VRel ρ (T.get .undef e t) v → VRel ρ (T.get .undef e' t) v) ∧ (T.get .undef e t = .undef → T.get .undef e' t = .undef)
theorem ELe.refl (e : T AVal) : ELe e e := fun _ => ⟨fun _ _ h => h, fun h => h⟩

theorem lessE_le : ∀ {l : List (Nat × VP)} {env : T AVal} {ob : Bool}, (lessE l env ob).2 = true → ELe env (lessE l env ob).1 ∧ ob = true
  | [], _, _, h => ⟨ELe.refl _, h⟩
  | (t, p) :: l, env, ob, h => by
    simp only [lessE] at h ⊢
    obtain ⟨h1, h2⟩ := lessV_le h
    obtain ⟨h3, h4⟩ := lessE_le h2
    refine ⟨fun s => ?_, h4⟩
    rw [T.get_set]
    by_cases e : s = t
    · subst e
      rw [if_pos rfl]
      exact ⟨fun ρ v hv => h1.sound ((h3 s).1 ρ v hv), fun hu => by have e := (h3 s).2 hu; rw [e] at h1 ⊢; exact h1.of_undef⟩
    · rw [if_neg e]; exact h3 s

noncomputable def lessM : List BP → Nat → Mem → Bool → Mem × Bool
  | [], _, m, ob => (m, ob)
  | p :: ps, i, m, ob => match lessM ps (i + 1) m ob with
    | (m', ob) => match lessB p (mget m i) ob with
      | (x, ob) => (mset m' i x, ob)

theorem lessB_ob {p : BP} {o : Option ABlk} {ob : Bool} (h : (lessB p o ob).2 = true) : ob = true := by
  cases p with
  | keep => exact h
  | drop => exact h
  | cells ps =>
    rcases o with _ | ⟨cells, ty, _ | A⟩
    · exact h
    · exact (lessVs_le h).2
    · exact h
  | rowed sz n g =>
    rcases o with _ | ⟨cells, ty, _ | A⟩
    · exact h
    · simp only [lessB, Bool.and_eq_true] at h; exact h.2
    · simp only [lessB, Bool.and_eq_true] at h; exact h.2
  | rws a =>
    rcases o with _ | ⟨cells, ty, _ | A⟩
    · exact h
    · exact h
    · simp only [lessB, Bool.and_eq_true] at h; exact h.2

theorem lessM_spec : ∀ {ps : List BP} {i : Nat} {m : Mem} {ob : Bool}, (lessM ps i m ob).2 = true → ob = true ∧ ∀ b x', mget (lessM ps i m ob).1 b = some x' → ∃ x, mget m b = some x ∧ ∀ (ρ : Rho) (w : World) (l : Loc), BlkRel ρ w x l → BlkRel ρ w x' l
  | [], _, _, _, h => ⟨h, fun b x' hb => ⟨x', hb, fun _ _ _ q => q⟩⟩
  | p :: ps, i, m, ob, h => by
    simp only [lessM] at h ⊢
    have hob : (lessM ps (i + 1) m ob).2 = true := lessB_ob h
    obtain ⟨h1, h2⟩ := lessM_spec hob
    refine ⟨h1, fun b x' hb => ?_⟩
    rw [mget_mset] at hb
    by_cases e : b = i
    · subst e
      rw [if_pos rfl] at hb
      exact (lessB_sound h hb).2
    · rw [if_neg e] at hb
      exact h2 b x' hb

noncomputable def lessF : List (List (Nat × VP)) → List AFr → Bool → List AFr × Bool
  | _, [], ob => ([], ob)
  | [], l, ob => (l, ob)
  | p :: ps, ⟨cx, ro, todo, rnd, rs, env⟩ :: l, ob => match lessF ps l ob with
    | (l', ob) => match lessE p env ob with
      | (e, ob) => (⟨cx, ro, todo, rnd, rs, e⟩ :: l', ob)

def FLe (a a' : AFr) : Prop := a.cx = a'.cx ∧ a.ro = a'.ro ∧ a.todo = a'.todo ∧ a.rnd = a'.rnd ∧ a.rs = a'.rs ∧ ELe a.env a'.env
theorem FLe.refl (a : AFr) : FLe a a := ⟨rfl, rfl, rfl, rfl, rfl, ELe.refl _⟩
theorem All2.refl' : ∀ l : List AFr, All2 FLe l l
  | [] => .nil
  | a :: l => .cons (FLe.refl a) (All2.refl' l)
theorem lessF_le : ∀ {ps : List (List (Nat × VP))} {l : List AFr} {ob : Bool}, (lessF ps l ob).2 = true → All2 FLe l (lessF ps l ob).1 ∧ ob = true
  | [], [], _, h => ⟨.nil, h⟩
  | _ :: _, [], _, h => ⟨.nil, h⟩
  | [], a :: l, _, h => ⟨All2.refl' _, h⟩
  | p :: ps, ⟨cx, ro, todo, rnd, rs, env⟩ :: l, ob, h => by
    simp only [lessF] at h ⊢
    obtain ⟨h1, h2⟩ := lessE_le h
    obtain ⟨h3, h4⟩ := lessF_le h2
    exact ⟨.cons ⟨rfl, rfl, rfl, rfl, rfl, h1⟩ h3, h4⟩

structure Less where
  slots : List (Nat × VP) := []
  blks : List BP := []
  cs : List (List (Nat × VP)) := []

/-- Told with less. -/
noncomputable def lessC (L : Less) : Cfg → Cfg
  | ⟨cx, ro, todo, rnd, rs, ⟨env, mem, next, orc, ob⟩, cs, lps⟩ => match lessF L.cs cs ob with
    | (cs', ob) => match lessM L.blks 0 mem ob with
      | (mem', ob) => match lessE L.slots env ob with
        | (env', ob) => ⟨cx, ro, todo, rnd, rs, ⟨env', mem', next, orc, ob⟩, cs', lps⟩

/-- Blocks that are not there: so many rows of none. -/
noncomputable def ghostM : List (TypeId × Nat × (Nat → List AVal)) → Nat → Mem → Mem
  | [], _, m => m
  | (ty, sz, g) :: l, i, m => mset (ghostM l (i + 1) m) i (some ⟨[], ty, some ⟨sz, 0, .flat g⟩⟩)
noncomputable def ghostC (gs : List (TypeId × Nat × (Nat → List AVal))) : Cfg → Cfg
  | ⟨cx, ro, todo, rnd, rs, ⟨env, mem, next, orc, ob⟩, cs, lps⟩ => ⟨cx, ro, todo, rnd, rs, ⟨env, ghostM gs next mem, next + gs.length, orc, ob⟩, cs, lps⟩

theorem ghostM_get : ∀ (gs : List (TypeId × Nat × (Nat → List AVal))) (i : Nat) (m : Mem) (b : Nat), (b < i → mget (ghostM gs i m) b = mget m b) ∧ (i + gs.length ≤ b → mget (ghostM gs i m) b = mget m b)
  | [], i, m, b => ⟨fun _ => rfl, fun _ => rfl⟩
  | (ty, sz, g) :: l, i, m, b => by
    obtain ⟨h1, h2⟩ := ghostM_get l (i + 1) m b
    simp only [ghostM, mget_mset, List.length_cons]
    exact ⟨fun h => by rw [if_neg (by omega)]; exact h1 (by omega), fun h => by rw [if_neg (by omega)]; exact h2 (by omega)⟩

theorem CRel.less {P : Program} {ρ : Rho} {cs : List AFr} {css : List Frame} {mss : List Nat} (h : CRel P ρ cs css mss) : ∀ {cs' : List AFr}, All2 FLe cs cs' → CRel P ρ cs' css mss := by
  induction h with
  | nil => intro cs' h; cases h; exact .nil
  | @cons af b a k ms cs css mss hf hl t ih =>
    intro cs' h
    cases h with
    | @cons _ af' _ cs'' h1 h2 =>
      obtain ⟨e1, e2, e3, e4, e5, e6⟩ := h1
      have hne : cs'' ≠ [] → cs ≠ [] := fun hn he => by subst he; cases h2; exact hn rfl
      rw [show roItems af.ro k = roItems af'.ro k by rw [e2]]
      exact .cons ⟨by rw [← e1]; exact ⟨hf.env.size, fun t => (e6 t).1 _ _ (hf.env.get t), fun t ht => (e6 t).2 (hf.env.out t ht)⟩, hf.defers, by rw [← e3]; exact hf.todo, by rw [← e2]; exact hf.ro, by rw [← e4]; exact hf.rnd⟩
        (fun hn => by rw [← e4, ← e5]; exact hl (hne hn)) (ih h2)

theorem goes_weak2 {P : Program} {cx : Ctx} {ro : Option RegOps} {todo : List Item} {rnd : Option Nat} {rs : List ResultVar} {env env' : T AVal} {mem mem' : Mem} {k k' : Nat} {o o' : List Bool} {b0 b0' : Bool} {cs cs' : List AFr} {lps : Loops}
    (hE : ELe env env') (hC : All2 FLe cs cs') (hM : ∀ b x', b < k → mget mem' b = some x' → ∃ x, mget mem b = some x ∧ ∀ (ρ : Rho) (w : World) (l : Loc), BlkRel ρ w x l → BlkRel ρ w x' l) (hk : k ≤ k') (hbd : (∀ b, k ≤ b → mget mem b = none) → ∀ b, k' ≤ b → mget mem' b = none) :
    Goes P ⟨cx, ro, todo, rnd, rs, ⟨env, mem, k, o, b0⟩, cs, lps⟩ ⟨cx, ro, todo, rnd, rs, ⟨env', mem', k', o', b0'⟩, cs', lps⟩ :=
  fun H w0 ρ b a t css w ma mb hs he cs0 => by
    have hr := hs.rel
    simp only at hr he
    have hne : cs' ≠ [] → cs ≠ [] := fun hn e => by subst e; cases hC; exact hn rfl
    refine ⟨ρ, b, a, t, css, w, ma, mb, Steps.refl _ _, ⟨⟨?_, hs.top.defers, hs.top.todo, hs.top.ro, hs.top.rnd⟩, fun hn => hs.lv (hne hn), ⟨hs.rest.cs.less hC, hs.rest.nodup, hs.rest.marks, hs.rest.loops, hs.rest.inj⟩, ?_⟩, ?_, rfl⟩
    · exact ⟨hs.top.env.size, fun t => (hE t).1 _ _ (hs.top.env.get t), fun t ht => (hE t).2 (hs.top.env.out t ht)⟩
    · have lift : ∀ c l, ρ c = some l → (mget mem' c).isSome = true → (mget mem c).isSome = true := fun c l hc h => by
        obtain ⟨x, hx⟩ := Option.isSome_iff_exists.1 h
        obtain ⟨y, hy, _⟩ := hM c x (hr.dom c l hc) hx
        rw [hy]; rfl
      refine ⟨fun c l hc => Nat.lt_of_lt_of_le (hr.dom c l hc) hk, fun c c' l l' hc hc' hl h1 h2 => hr.inj c c' l l' hc hc' hl (lift c l hc h1) (lift c' l' hc' h2), fun c l ab hc h1 => ?_, hr.old, fun c l hc h1 => hr.sep c l hc (lift c l hc h1), hr.real, hbd hr.bd, fun j l hj => Nat.lt_of_lt_of_le (hr.ldom j l hj) hk⟩
      obtain ⟨y, hy, h2⟩ := hM c ab (hr.dom c l hc) h1
      exact h2 _ _ _ (hr.blk c l y hc hy)
    · exact ⟨he.ext, fun _ hb => absurd hb (Nat.not_lt_zero _), Nat.zero_le _, fun _ hb => absurd hb (Nat.not_lt_zero _), he.frame, he.fresh, he.size, he.os, he.tape, he.output, he.still⟩

theorem lessC_goes {P : Program} {L : Less} {C : Cfg} (ho : (lessC L C).st.ob = true) : C.st.ob = true ∧ Goes P C (lessC L C) := by
  obtain ⟨cx, ro, todo, rnd, rs, ⟨env, mem, next, orc, ob⟩, cs, lps⟩ := C
  simp only [lessC] at ho ⊢
  obtain ⟨h1, h2⟩ := lessE_le ho
  obtain ⟨h3, h4⟩ := lessM_spec h2
  obtain ⟨h5, h6⟩ := lessF_le h3
  refine ⟨h6, goes_weak2 h1 h5 (fun b x' _ hb => h4 b x' hb) (Nat.le_refl _) fun hbd b hb => ?_⟩
  cases hq : mget (lessM L.blks 0 mem (lessF L.cs cs ob).2).1 b with
  | none => rfl
  | some x' =>
    obtain ⟨x, hx, _⟩ := h4 b x' hq
    rw [hbd b hb] at hx; cases hx

theorem ghostC_goes {P : Program} (gs : List (TypeId × Nat × (Nat → List AVal))) (C : Cfg) : Goes P C (ghostC gs C) ∧ (ghostC gs C).st.ob = C.st.ob := by
  obtain ⟨cx, ro, todo, rnd, rs, ⟨env, mem, next, orc, ob⟩, cs, lps⟩ := C
  exact ⟨goes_weak2 (ELe.refl _) (All2.refl' _) (fun b x' hb h => ⟨x', by rw [← (ghostM_get gs next mem b).1 hb]; exact h, fun _ _ _ q => q⟩) (Nat.le_add_right _ _) fun hbd b hb => by
    rw [(ghostM_get gs next mem b).2 hb]; exact hbd b (by omega), rfl⟩

theorem goes_withO {P : Program} {C C' : Cfg} {orc : List Bool} {ob : Bool} (g : Goes P (C.withO orc) (C'.withB ob)) : Goes P C C' := by
  obtain ⟨cx, ro, todo, rnd, rs, ⟨env, mem, next, o, b⟩, cs, lps⟩ := C
  obtain ⟨cx', ro', todo', rnd', rs', ⟨env', mem', next', o', b'⟩, cs', lps'⟩ := C'
  exact fun H w0 ρ b a k css w ma mb hs he cs0 => by
    obtain ⟨ρ', b', a', k', css', w', ma', mb', h1, h2, h3, h4⟩ := g H w0 ρ b a k css w ma mb ⟨hs.top, hs.lv, hs.rest, hs.rel⟩ he cs0
    exact ⟨ρ', b', a', k', css', w', ma', mb', h1, ⟨h2.top, h2.lv, h2.rest, h2.rel⟩, h3, h4⟩

/-- A stretch up to a head that says less. -/
theorem stretchL {P : Program} {S : Specs} (hN : Named P) (hmx : P.follows .mixedOrders = true) (hS : SpecsOk P S) {n m d : Nat} {C C' : Cfg} (gs : List (TypeId × Nat × (Nat → List AVal))) (N : Norm) (L : Less) (orc : List Bool) (ob : Bool)
    (h : (((iterS P S (runR P S m d) n (C.withO orc)).map (ghostC gs)).bind (normC P N)).map (lessC L) = some (C'.withB ob)) (ho : ob = true) (hfl : fl0 C = true) : Goes P C C' := by
  rw [Option.map_eq_some_iff] at h
  obtain ⟨C2, h1, h2⟩ := h
  rw [Option.bind_eq_some_iff] at h1
  obtain ⟨C1, h3, h4⟩ := h1
  rw [Option.map_eq_some_iff] at h3
  obtain ⟨C0, h5, rfl⟩ := h3
  have hfo : fl0 (C.withO orc) = true := by
    obtain ⟨cx, ro, todo, rnd, rs, ⟨env, mem, next, o, b⟩, cs, lps⟩ := C
    exact hfl
  obtain ⟨hCI, hC⟩ := runR_ok hN hmx hS m d
  obtain ⟨f1, f2, f3⟩ := iterS_sim hN hmx hS hCI hC n (C.withO orc) C0 (fl0_spec hfo) h5
  have hob : (lessC L C2).st.ob = true := by
    rw [h2]
    obtain ⟨cx, ro, todo, rnd, rs, ⟨env, mem, next, o, b⟩, cs, lps⟩ := C'
    exact ho
  obtain ⟨l1, l2⟩ := lessC_goes (P := P) hob
  obtain ⟨g1, g2, _⟩ := normC_goes h4 l1
  obtain ⟨q1, q2⟩ := ghostC_goes (P := P) gs C0
  rw [q2] at g1
  have := (((f3 g1).goes.trans q1).trans g2).trans l2
  rw [h2] at this
  exact goes_withO this

/-! ### Rows of numbers -/
def qkA : List IntKind → Nat → (Nat → Int) → List AVal
  | [], _, _ => []
  | k :: ks, j, f => .int k (f j) :: qkA ks (j + 1) f
/-- Rows of numbers of these kinds. -/
def qk (ks : List IntKind) (F : Nat → Nat → Int) : Nat → List AVal := fun r => qkA ks 0 (F r)
/-- Rows of one truth value. -/
def bget (c : Nat → Bool) : Nat → List AVal := fun r => [.bool (c r)]
theorem qkA_length : ∀ (ks : List IntKind) (j : Nat) (f : Nat → Int), (qkA ks j f).length = ks.length
  | [], _, _ => rfl
  | k :: ks, j, f => by rw [qkA, List.length_cons, qkA_length ks, List.length_cons]
theorem qkA_congr : ∀ (ks : List IntKind) (j : Nat) (f g : Nat → Int), (∀ i, j ≤ i → i < j + ks.length → f i = g i) → qkA ks j f = qkA ks j g
  | [], _, _, _, _ => rfl
  | k :: ks, j, f, g, h => by
    rw [qkA, qkA, h j (Nat.le_refl _) (by simp), qkA_congr ks (j + 1) f g fun i h1 h2 => h i (by omega) (by simp at h2 ⊢; omega)]
theorem qkA_pf (p : AVal → Bool) (hp : ∀ k n, p (.int k n) = true) : ∀ (ks : List IntKind) (j : Nat) (f : Nat → Int), (qkA ks j f).all p = true
  | [], _, _ => rfl
  | k :: ks, j, f => by rw [qkA, List.all_cons, hp, qkA_pf p hp ks]; rfl
theorem flatG_qk (ks : List IntKind) (F : Nat → Nat → Int) : flatG (qk ks F) = true := pd_true fun _ => qkA_pf _ (fun _ _ => rfl) _ _ _
theorem flatG_bget (c : Nat → Bool) : flatG (bget c) = true := pd_true fun _ => rfl
theorem datOk_qk (ks : List IntKind) (F : Nat → Nat → Int) (n : Nat) : datOk ks.length n (qk ks F) = true := pd_true fun _ _ => ⟨qkA_length _ _ _, qkA_pf _ (fun _ _ => rfl) _ _ _⟩
theorem datOk_bget (c : Nat → Bool) (n : Nat) : datOk 1 n (bget c) = true := pd_true fun _ _ => ⟨rfl, rfl⟩

def fOf (get : Nat → List AVal) (r j : Nat) : Int := match (get r)[j]? with
  | some (.int _ n) => n
  | _ => 0
def bOf (get : Nat → List AVal) (r : Nat) : Bool := match get r with
  | .bool b :: _ => b
  | _ => false
noncomputable def isK (ks : List IntKind) (get : Nat → List AVal) : Bool := pd (∃ F, get = qk ks F)
noncomputable def isB (get : Nat → List AVal) : Bool := pd (get = bget (bOf get))
theorem isK_qk (ks : List IntKind) (F : Nat → Nat → Int) : isK ks (qk ks F) = true := pd_true ⟨F, rfl⟩
theorem isB_bget (c : Nat → Bool) : isB (bget c) = true := pd_true rfl
theorem isB_spec {get : Nat → List AVal} (h : isB get = true) : ∃ c, get = bget c := ⟨_, pd_of h⟩
theorem isK_spec {ks : List IntKind} {get : Nat → List AVal} (h : isK ks get = true) : ∃ F, get = qk ks F := pd_of h
theorem fOf_qkA : ∀ (ks : List IntKind) (i j : Nat) (f : Nat → Int), j < ks.length → (qkA ks i f)[j]? = some (.int (ks.getD j .i64) (f (i + j)))
  | [], _, _, _, h => absurd h (Nat.not_lt_zero _)
  | k :: ks, i, 0, f, _ => rfl
  | k :: ks, i, j + 1, f, h => by
    rw [qkA, List.getElem?_cons_succ, fOf_qkA ks (i + 1) j f (by simpa using h)]
    rw [show i + 1 + j = i + (j + 1) by omega]; rfl
theorem fOf_qk {ks : List IntKind} {F : Nat → Nat → Int} {r j : Nat} (h : j < ks.length) : fOf (qk ks F) r j = F r j := by
  unfold fOf qk
  rw [fOf_qkA ks 0 j _ h, Nat.zero_add]

/-- One row or more behind the others. -/
def appK (F : Nat → Nat → Int) (n : Nat) (l : List (List Int)) : Nat → Nat → Int := fun k j => bif Nat.ble n k then (l.getD (k - n) []).getD j 0 else F k j
def listK (l : List (List Int)) : Nat → Nat → Int := fun k j => (l.getD k []).getD j 0
def appL (c : Nat → Int) (n : Nat) (l : List Int) : Nat → Int := fun k => bif Nat.ble n k then l.getD (k - n) 0 else c k
def appBs (c : Nat → Bool) (n : Nat) (l : List Bool) : Nat → Bool := fun k => bif Nat.ble n k then l.getD (k - n) false else c k
def listB (l : List Bool) : Nat → Bool := fun k => l.getD k false
def catK (F : Nat → Nat → Int) (n : Nat) (D : Nat → Nat → Int) : Nat → Nat → Int := fun k j => bif Nat.ble n k then D (k - n) j else F k j
def catB (c : Nat → Bool) (n : Nat) (d : Nat → Bool) : Nat → Bool := fun k => bif Nat.ble n k then d (k - n) else c k
/-- Some numbers of a row are others. -/
def updK (F : Nat → Nat → Int) (r fo : Nat) (l : List Int) : Nat → Nat → Int := fun k j => bif Nat.beq k r && (Nat.ble fo j && Nat.ble (j + 1) (fo + l.length)) then l.getD (j - fo) 0 else F k j
def updBo (c : Nat → Bool) (r : Nat) (b : Bool) : Nat → Bool := fun k => bif Nat.beq k r then b else c k

theorem same_rfl (n : Nat) (g : Nat → List AVal) : sameR n g g = true := pd_true fun _ _ => rfl
theorem same_zero (a g : Nat → List AVal) : sameR 0 a g = true := pd_true fun _ h => absurd h (Nat.not_lt_zero _)
theorem ble_f {a b : Nat} (h : ¬ a ≤ b) : Nat.ble a b = false := Bool.eq_false_iff.2 fun e => h (Nat.le_of_ble_eq_true e)
theorem ble_t {a b : Nat} (h : a ≤ b) : Nat.ble a b = true := Nat.ble_eq_true_of_le h
theorem same_appG {n N sz : Nat} {G H H' : Nat → List AVal} {cells : List AVal} (m : Nat) (h : sameR n G H = true) (hN : N = n + m) (h0 : ∀ i, i < n → H' i = H i) (h1 : ∀ i, i < m → (cells.drop (i * sz)).take sz = H' (n + i)) : sameR N (appRow G 0 n sz cells) H' = true := pd_true fun i hi => by
  unfold appRow
  by_cases e : n ≤ i
  · rw [ble_t e, cond_true, h1 (i - n) (by omega), show n + (i - n) = i by omega]
  · rw [ble_f e, cond_false, Nat.zero_add, pd_of h i (by omega), h0 i (by omega)]
theorem chunk_flat {α : Type} {sz : Nat} : ∀ (l : List (List α)) (i : Nat), (∀ x ∈ l, x.length = sz) → i < l.length → (l.flatten.drop (i * sz)).take sz = l.getD i []
  | [], i, _, h => absurd h (Nat.not_lt_zero _)
  | x :: l, 0, hl, _ => by
    have := hl x (by simp)
    simp [List.take_append_of_le_length, this]
  | x :: l, i + 1, hl, h => by
    have hx := hl x (by simp)
    rw [List.flatten_cons, List.getD_cons_succ, ← chunk_flat l i (fun y hy => hl y (by simp [hy])) (by simpa using h)]
    rw [List.drop_append, hx, show (i + 1) * sz - sz = i * sz by rw [Nat.add_mul, Nat.one_mul]; omega, List.drop_eq_nil_of_le (by rw [hx, Nat.add_mul, Nat.one_mul]; omega), List.nil_append]
theorem same_appK {ks : List IntKind} {F : Nat → Nat → Int} {n N sz : Nat} {G : Nat → List AVal} {cells : List AVal} {l : List (List Int)} (h : sameR n G (qk ks F) = true) (hN : N = n + l.length) (hsz : sz = ks.length) (hc : cells = (l.map fun row => qkA ks 0 fun j => row.getD j 0).flatten) :
    sameR N (appRow G 0 n sz cells) (qk ks (appK F n l)) = true := by
  refine same_appG l.length h hN (fun i hi => ?_) fun i hi => ?_
  · exact qkA_congr _ _ _ _ fun j _ _ => by simp only [appK]; rw [ble_f (by omega)]; rfl
  · subst hc
    rw [chunk_flat _ _ (fun x hx => by obtain ⟨y, _, rfl⟩ := List.mem_map.1 hx; rw [qkA_length, hsz]) (by simpa using hi)]
    rw [List.getD_eq_getElem?_getD, List.getElem?_map, List.getElem?_eq_getElem hi]
    simp only [Option.map_some, Option.getD_some]
    refine qkA_congr _ _ _ _ fun j _ _ => ?_
    simp only [appK]
    rw [ble_t (Nat.le_add_right _ _), cond_true, Nat.add_sub_cancel_left, List.getD_eq_getElem?_getD (l := l), List.getElem?_eq_getElem hi]; rfl
theorem same_appL {c : Nat → Int} {n N : Nat} {G : Nat → List AVal} {cells : List AVal} {l : List Int} (h : sameR n G (iget c) = true) (hN : N = n + l.length) (hc : cells = l.map (AVal.int .i64)) : sameR N (appRow G 0 n 1 cells) (iget (appL c n l)) = true := by
  refine same_appG l.length h hN (fun i hi => ?_) fun i hi => ?_
  · simp only [iget, appL]; rw [ble_f (by omega)]; rfl
  · subst hc
    simp only [iget, appL, Nat.mul_one]
    rw [ble_t (Nat.le_add_right _ _), cond_true, Nat.add_sub_cancel_left, List.getD_eq_getElem?_getD, List.getElem?_eq_getElem hi]
    rw [List.drop_eq_getElem_cons (by simpa using hi)]
    simp
theorem same_appC {c : Nat → Int} {n : Nat} {G : Nat → List AVal} {x : Int} (h : sameR n G (iget c) = true) : sameR (n + 1) (appRow G 0 n 1 [.int .i64 x]) (iget (appC c n x)) = true := pd_true ((SameI.app (fun i hi => pd_of h i hi) x : SameI _ _ _))
theorem same_app4 {c : Nat → Nat → Int} {n : Nat} {G : Nat → List AVal} {x y z u : Int} (h : sameR n G (q4 c) = true) : sameR (n + 1) (appRow G 0 n 4 [.int .i64 x, .int .i64 y, .int .i64 z, .int .i64 u]) (q4 (app4 c n x y z u)) = true := pd_true ((Same4.app (fun i hi => pd_of h i hi) x y z u : Same4 _ _ _))
theorem same_appBs {c : Nat → Bool} {n N : Nat} {G : Nat → List AVal} {cells : List AVal} {l : List Bool} (h : sameR n G (bget c) = true) (hN : N = n + l.length) (hc : cells = l.map AVal.bool) : sameR N (appRow G 0 n 1 cells) (bget (appBs c n l)) = true := by
  refine same_appG l.length h hN (fun i hi => ?_) fun i hi => ?_
  · simp only [bget, appBs]; rw [ble_f (by omega)]; rfl
  · subst hc
    simp only [bget, appBs, Nat.mul_one]
    rw [ble_t (Nat.le_add_right _ _), cond_true, Nat.add_sub_cancel_left, List.getD_eq_getElem?_getD, List.getElem?_eq_getElem hi]
    rw [List.drop_eq_getElem_cons (by simpa using hi)]
    simp
theorem same_updC {c : Nat → Int} {n r : Nat} {G : Nat → List AVal} {x : Int} (h : sameR n G (iget c) = true) : sameR n (updRow G r 0 [.int .i64 x]) (iget (updC c r x)) = true := by
  unfold sameR
  refine pd_true fun i hi => ?_
  unfold updRow updC iget
  cases e : Nat.beq i r with
  | true =>
    have := Nat.eq_of_beq_eq_true e
    subst this
    simp [pd_of h i hi, iget]
  | false => rw [cond_false, pd_of h i hi]; simp only [iget]; rw [e]; rfl
theorem same_updBo {c : Nat → Bool} {n r : Nat} {G : Nat → List AVal} {x : Bool} (h : sameR n G (bget c) = true) : sameR n (updRow G r 0 [.bool x]) (bget (updBo c r x)) = true := by
  refine pd_true fun i hi => ?_
  unfold updRow updBo bget
  cases e : Nat.beq i r with
  | true =>
    have := Nat.eq_of_beq_eq_true e
    subst this
    simp [pd_of h i hi, bget]
  | false => rw [cond_false, pd_of h i hi]; simp only [bget]; rw [e]; rfl
theorem qkA_take : ∀ (ks : List IntKind) (i n : Nat) (f : Nat → Int), (qkA ks i f).take n = qkA (ks.take n) i f
  | [], _, _, _ => by simp [qkA]
  | k :: ks, i, 0, f => rfl
  | k :: ks, i, n + 1, f => by rw [qkA, List.take_succ_cons, List.take_succ_cons, qkA, qkA_take ks]
theorem qkA_drop : ∀ (ks : List IntKind) (i n : Nat) (f : Nat → Int), (qkA ks i f).drop n = qkA (ks.drop n) (i + n) f
  | [], _, _, _ => by simp [qkA]
  | k :: ks, i, 0, f => rfl
  | k :: ks, i, n + 1, f => by rw [qkA, List.drop_succ_cons, List.drop_succ_cons, qkA_drop ks, show i + 1 + n = i + (n + 1) by omega]
theorem qkA_append : ∀ (ks ls : List IntKind) (i : Nat) (f : Nat → Int), qkA (ks ++ ls) i f = qkA ks i f ++ qkA ls (i + ks.length) f
  | [], ls, i, f => by simp [qkA]
  | k :: ks, ls, i, f => by rw [List.cons_append, qkA, qkA, qkA_append ks ls, List.cons_append, List.length_cons, show i + 1 + ks.length = i + (ks.length + 1) by omega]
theorem qkA_shift : ∀ (ks : List IntKind) (i m : Nat) (f : Nat → Int), qkA ks (i + m) f = qkA ks i fun j => f (j + m)
  | [], _, _, _ => rfl
  | k :: ks, i, m, f => by rw [qkA, qkA, ← qkA_shift ks (i + 1) m f, show i + m + 1 = i + 1 + m by omega]
theorem same_updK {ks : List IntKind} {F : Nat → Nat → Int} {n r fo : Nat} {G : Nat → List AVal} {cells : List AVal} {l : List Int} (h : sameR n G (qk ks F) = true) (hl : Nat.ble (fo + l.length) ks.length = true) (hc : cells = qkA ((ks.drop fo).take l.length) 0 fun j => l.getD j 0) :
    sameR n (updRow G r fo cells) (qk ks (updK F r fo l)) = true := by
  refine pd_true fun i hi => ?_
  have hl := Nat.le_of_ble_eq_true hl
  unfold updRow
  cases e : Nat.beq i r with
  | false =>
    rw [cond_false, pd_of h i hi]
    exact qkA_congr _ _ _ _ fun j _ _ => by simp only [updK]; rw [e]; rfl
  | true =>
    have := Nat.eq_of_beq_eq_true e
    subst this
    have hcl : cells.length = l.length := by rw [hc, qkA_length]; simp; omega
    rw [cond_true, pd_of h i hi, hcl]
    show (qkA ks 0 (F i)).take fo ++ cells ++ (qkA ks 0 (F i)).drop (fo + l.length) = qkA ks 0 (updK F i fo l i)
    have hks : ks = ks.take fo ++ ((ks.drop fo).take l.length ++ ks.drop (fo + l.length)) := by
      rw [← List.drop_drop, List.take_append_drop, List.take_append_drop]
    rw [qkA_take, qkA_drop]
    conv => rhs; rw [hks]
    rw [qkA_append, qkA_append, List.append_assoc]
    have h1 : (ks.take fo).length = fo := by simp; omega
    have h2 : ((ks.drop fo).take l.length).length = l.length := by simp; omega
    rw [h1, h2]
    simp only [Nat.zero_add]
    congr 1
    · exact qkA_congr _ _ _ _ fun j _ hj => by simp only [updK]; rw [h1] at hj; rw [ble_f (show ¬ fo ≤ j by omega)]; simp
    congr 1
    · rw [hc]
      have := qkA_shift ((ks.drop fo).take l.length) 0 fo (updK F i fo l i)
      simp only [Nat.zero_add] at this
      rw [this]
      refine qkA_congr _ _ _ _ fun j _ hj => ?_
      rw [h2] at hj
      simp only [updK]
      rw [Nat.beq_refl, ble_t (by omega), ble_t (by omega), Nat.add_sub_cancel]; rfl
    · exact qkA_congr _ _ _ _ fun j hj _ => by simp only [updK]; rw [ble_f (show ¬ j + 1 ≤ fo + l.length by omega)]; simp
theorem q4_qk (F : Nat → Nat → Int) : q4 F = qk [.i64, .i64, .i64, .i64] F := rfl
theorem same_updK4 {F : Nat → Nat → Int} {n r fo : Nat} {G : Nat → List AVal} {cells : List AVal} {l : List Int} (h : sameR n G (q4 F) = true) (hl : Nat.ble (fo + l.length) 4 = true) (hc : cells = qkA ((([.i64, .i64, .i64, .i64] : List IntKind).drop fo).take l.length) 0 fun j => l.getD j 0) :
    sameR n (updRow G r fo cells) (q4 (updK F r fo l)) = true := same_updK (ks := [.i64, .i64, .i64, .i64]) h hl hc
theorem same_cat {n m N : Nat} {G H G' H' K : Nat → List AVal} (h : sameR n G G' = true) (h' : sameR m H H' = true) (hN : N = n + m) (hK : K = catRow G' n H') : sameR N (catRow G n H) K = true := by
  subst hK
  refine pd_true fun i hi => ?_
  unfold catRow
  by_cases e : n ≤ i
  · rw [ble_t e, cond_true, cond_true, pd_of h' _ (by omega)]
  · rw [ble_f e, cond_false, cond_false, pd_of h i (by omega)]
theorem same_cat0 {m N : Nat} {G H H' : Nat → List AVal} (h' : sameR m H H' = true) (hN : N = 0 + m) : sameR N (catRow G 0 H) H' = true := pd_true fun i hi => pd_of h' i (by omega)
theorem same_shift0 {n : Nat} {G H : Nat → List AVal} (h : sameR n G H = true) : sameR n (fun k => G (0 + k)) H = true := pd_true fun i hi => by
  show G (0 + i) = _
  rw [Nat.zero_add]; exact pd_of h i hi
theorem cat_iget (c d : Nat → Int) (n : Nat) : iget (catC c n d) = catRow (iget c) n (iget d) := (catRow_iget c d n).symm
theorem cat_qk (ks : List IntKind) (c d : Nat → Nat → Int) (n : Nat) : qk ks (catK c n d) = catRow (qk ks c) n (qk ks d) := by
  funext k
  show qkA ks 0 (fun j => bif Nat.ble n k then d (k - n) j else c k j) = bif Nat.ble n k then qkA ks 0 (d (k - n)) else qkA ks 0 (c k)
  cases Nat.ble n k <;> rfl
theorem cat_bget (c d : Nat → Bool) (n : Nat) : bget (catB c n d) = catRow (bget c) n (bget d) := by
  funext k
  show [AVal.bool (bif Nat.ble n k then d (k - n) else c k)] = bif Nat.ble n k then [AVal.bool (d (k - n))] else [AVal.bool (c k)]
  cases Nat.ble n k <;> rfl
theorem cat_q4 (c d : Nat → Nat → Int) (n : Nat) : q4 (catK c n d) = catRow (q4 c) n (q4 d) := cat_qk [.i64, .i64, .i64, .i64] c d n
theorem datOk_q4 (F : Nat → Nat → Int) (n : Nat) : datOk 4 n (q4 F) = true := datOk_qk [.i64, .i64, .i64, .i64] F n
theorem rlesR_of {n : Nat} {a g : Nat → List AVal} (h : ∀ k, RLe (a k) (g k)) : rlesR n a g = true := pd_true fun k _ => h k
theorem rowed_of {cells : List AVal} {sz n : Nat} {g : Nat → List AVal} (h : cells = rows n g) (h1 : Nat.ble 1 sz = true) (h2 : ∀ i, (g i).length = sz) : rowedOk cells sz n g = true := pd_true ⟨h, Nat.le_of_ble_eq_true h1, fun i _ => h2 i⟩
end Go.Am
