/- A region that draws its order: whatever order is drawn, it ends as the abstract run does. -/
import Derived.Test.YtdojgffcahimjaaAmK
namespace Go.Am

theorem countP_update (p q : Nat → Bool) (i : Nat) : ∀ (n : Nat), (∀ k, k ≠ i → q k = p k) → p i = true → q i = false → i < n → (List.range n).countP q + 1 = (List.range n).countP p
  | 0, _, _, _, h => absurd h (Nat.not_lt_zero _)
  | n + 1, hpq, hp, hq, h => by
    rw [List.range_succ, List.countP_append, List.countP_append]
    by_cases hi : i < n
    · have := countP_update p q i n hpq hp hq hi
      have e : q n = p n := hpq n (by omega)
      simp only [List.countP_cons, List.countP_nil, e]
      omega
    · have hin : i = n := by omega
      subst hin
      have e : (List.range i).countP q = (List.range i).countP p := List.countP_congr fun k hk => by
        rw [hpq k (by have := List.mem_range.1 hk; omega)]
      simp [e, hp, hq]

section
variable {P : Program} 

theorem Rel.unborn {ρ : Rho} {mem : Mem} {next : Nat} {w : World} (h : Rel ρ mem next w) (o : Option ABlk) : Rel ρ (mset mem next o) (next + 1) w := by
  have ne : ∀ b l, ρ b = some l → b ≠ next := fun b l e => by have := h.dom b l e; omega
  refine ⟨fun b l e => by have := h.dom b l e; omega, fun b b' l l' e e' he hs hs' => ?_, fun b l ab e hm => ?_, h.old, fun b l e hs => h.sep b l e (by rwa [mget_mset_ne _ _ (ne b l e)] at hs), h.real, fun b hb => by rw [mget_mset_ne _ _ (by omega)]; exact h.bd b (by omega), fun j l e => Nat.lt_succ_of_lt (h.ldom j l e)⟩
  · rw [mget_mset_ne _ _ (ne b l e)] at hs
    rw [mget_mset_ne _ _ (ne b' l' e')] at hs'
    exact h.inj b b' l l' e e' he hs hs'
  · rw [mget_mset_ne _ _ (ne b l e)] at hm
    exact h.blk b l ab e hm

theorem Rel.birth {ρ : Rho} {mem : Mem} {next : Nat} {w : World} (h : Rel ρ mem next w) {b : Nat} {cs : List AVal} {ty : TypeId} (hb : b < next) (hn : ρ b = none) (hm : mget mem b = some ⟨cs, ty, none⟩) {vs : Array Value} (el : TypeId) (hv : VRels ρ cs vs) :
    Rel (rhoAdd ρ b ⟨w.heap.size, 0, cs.length, vs.size⟩) mem next { w with heap := w.heap.push (.cells vs el) } := by
  have hle := rhoAdd_le (l := ⟨w.heap.size, 0, cs.length, vs.size⟩) hn
  have hget : ∀ c l, rhoAdd ρ b ⟨w.heap.size, 0, cs.length, vs.size⟩ c = some l → (c = b ∧ l = ⟨w.heap.size, 0, cs.length, vs.size⟩) ∨ (c ≠ b ∧ ρ c = some l) := fun c l e => by
    rw [rhoAdd_get] at e
    by_cases hc : c = b
    · rw [if_pos hc] at e; exact .inl ⟨hc, (Option.some.inj e).symm⟩
    · rw [if_neg hc] at e; exact .inr ⟨hc, e⟩
  refine ⟨fun c l e => ?_, fun c c' l l' e e' hbl hs hs' => ?_, fun c l ab e hc => ?_, fun k o e => ?_, fun c l e => ?_, fun c l e => ?_, h.bd, h.ldom⟩
  · rcases hget c l e with ⟨rfl, _⟩ | ⟨_, e⟩
    · exact hb
    · exact h.dom c l e
  · rcases hget c l e with ⟨hc, hl⟩ | ⟨hc, e2⟩ <;> rcases hget c' l' e' with ⟨hc', hl'⟩ | ⟨hc', e2'⟩
    · rw [hc, hc']
    · have := h.real c' l' e2'; rw [hl] at hbl; simp at hbl; omega
    · have := h.real c l e2; rw [hl'] at hbl; simp at hbl; omega
    · exact h.inj c c' l l' e2 e2' hbl hs hs'
  · rcases hget c l e with ⟨rfl, rfl⟩ | ⟨_, e⟩
    · rw [hm] at hc
      obtain rfl := Option.some.inj hc
      have h1 := hv.1
      refine ⟨rfl, by simp only; omega, (fun A e => by cases e), vs, el, by simp, by simp, fun i hi => ?_⟩
      have h2 : i < vs.size := by simp only at hi; omega
      exact ⟨vs[i], by simp [Array.getElem?_eq_getElem h2], (hv.2 i hi h2).mono hle⟩
    · refine (h.blk c l ab e hc).world hle ?_
      have := h.real c l e
      simp [Array.getElem?_push, Nat.ne_of_lt this]
  · have hk := h.old k o e
    have : k < w.heap.size := (Array.getElem?_eq_some_iff.1 hk).1
    simp only [Array.getElem?_push, Nat.ne_of_lt this, if_false]
    exact hk
  · intro hs
    rcases hget c l e with ⟨rfl, rfl⟩ | ⟨_, e⟩
    · exact h.hold _ (Nat.le_refl _)
    · exact h.sep c l e hs
  · rcases hget c l e with ⟨rfl, rfl⟩ | ⟨_, e⟩
    · simp
    · have := h.real c l e; simp; omega

/-- All that is fixed while a region runs. -/
structure Reg (P : Program) (ops : Array Oper) (cx : Ctx) (st : St) (f : Nat → St) : Prop where
  chk : Checked ops
  f0 : f 0 = st
  hcx : cx.floor ≤ st.next
  ob : ∀ k, k ≤ ops.size → (f k).ob = true
  step : ∀ (k : Nat) (h : k < (drawOrder ops).length), Step1 P ops cx (lifts ops (drawOrder ops)[k], ops.getD (drawOrder ops)[k] default) (f k) (f (k + 1))
  foot : ∀ (q k : Nat) (hq : q < k) (h : k < (drawOrder ops).length), FootOk ops (footOf ((drawOrder ops)[k], lifts ops (drawOrder ops)[k], ops.getD (drawOrder ops)[k] default) (f k).eval) (footOf ((drawOrder ops)[q], lifts ops (drawOrder ops)[q], ops.getD (drawOrder ops)[q] default) (f q).eval)

variable {ops : Array Oper} {cx : Ctx} {st : St} {f : Nat → St}

/-- The operation at place k of the abstract run. -/
def at_ (ops : Array Oper) (k : Nat) : Nat := (drawOrder ops).getD k ops.size

theorem at_lt {k : Nat} (h : k < ops.size) : at_ ops k < ops.size := by
  have hl : k < (drawOrder ops).length := by rw [drawOrder_length]; exact h
  have : at_ ops k = (drawOrder ops)[k] := by simp [at_, hl]
  rw [this]
  exact (drawOrder_mem _).1 (List.getElem_mem hl)

theorem at_ord {k1 k2 : Nat} (h : k1 < k2) (h2 : k2 < ops.size) : Ord ops (at_ ops k1) (at_ ops k2) := by
  have hl2 : k2 < (drawOrder ops).length := by rw [drawOrder_length]; exact h2
  have hl1 : k1 < (drawOrder ops).length := by omega
  have := drawOrder_ord h hl2
  simpa [at_, hl1, hl2] using this

theorem at_of {i : Nat} (h : i < ops.size) : ∃ k, k < ops.size ∧ at_ ops k = i := by
  obtain ⟨k, hk, e⟩ := List.getElem_of_mem ((drawOrder_mem (ops := ops) i).2 h)
  exact ⟨k, by rw [drawOrder_length] at hk; exact hk, by simp [at_, hk, e]⟩

theorem Reg.step' (g : Reg P ops cx st f) {k : Nat} (h : k < ops.size) : ∃ o, ops[at_ ops k]? = some o ∧ Step1 P ops cx (lifts ops (at_ ops k), o) (f k) (f (k + 1)) := by
  have hl : k < (drawOrder ops).length := by rw [drawOrder_length]; exact h
  have e : at_ ops k = (drawOrder ops)[k] := by simp [at_, hl]
  have hlt := at_lt h
  refine ⟨ops[at_ ops k], by simp [hlt], ?_⟩
  have := g.step k hl
  rw [← e] at this
  have hd : ops.getD (at_ ops k) default = ops[at_ ops k] := by simp [hlt]
  rw [hd] at this
  exact this

theorem Reg.foot' (g : Reg P ops cx st f) {q k : Nat} (hq : q < k) (h : k < ops.size) {o x : Oper} (ho : ops[at_ ops k]? = some o) (hx : ops[at_ ops q]? = some x) :
    FootOk ops (at_ ops k, rdOf o.op (f k).eval, wrOf o.op (f k).eval) (at_ ops q, rdOf x.op (f q).eval, wrOf x.op (f q).eval) := by
  have hl : k < (drawOrder ops).length := by rw [drawOrder_length]; exact h
  have hl2 : q < (drawOrder ops).length := by omega
  have e : at_ ops k = (drawOrder ops)[k] := by simp [at_, hl]
  have e2 : at_ ops q = (drawOrder ops)[q] := by simp [at_, hl2]
  have := g.foot q k hq hl
  rw [← e, ← e2] at this
  have hd : ops.getD (at_ ops k) default = o := by simp [ho]
  have hd2 : ops.getD (at_ ops q) default = x := by simp [hx]
  rw [hd, hd2] at this
  exact this

theorem Reg.next_le (g : Reg P ops cx st f) : ∀ {a b : Nat}, a ≤ b → b ≤ ops.size → (f a).next ≤ (f b).next := by
  intro a b hab hb
  induction b with
  | zero => have : a = 0 := by omega
            subst this; exact Nat.le_refl _
  | succ b ih =>
    by_cases e : a = b + 1
    · subst e; exact Nat.le_refl _
    · obtain ⟨o, _, s⟩ := g.step' (k := b) (by omega)
      exact Nat.le_trans (ih (by omega) (by omega)) s.inv.nxt

theorem Reg.bd (g : Reg P ops cx st f) (h0 : ∀ b, st.next ≤ b → mget st.mem b = none) : ∀ {k : Nat}, k ≤ ops.size → ∀ b, (f k).next ≤ b → mget (f k).mem b = none := by
  intro k hk
  induction k with
  | zero => rw [g.f0]; exact h0
  | succ k ih =>
    obtain ⟨o, _, s⟩ := g.step' (k := k) (by omega)
    exact s.inv.bd (ih (by omega))

/-- A slot that nobody writes between two places. -/
theorem Reg.slot_stays (g : Reg P ops cx st f) {t : Tmp} : ∀ {a b : Nat}, a ≤ b → b ≤ ops.size → (∀ k o, a ≤ k → k < b → ops[at_ ops k]? = some o → o.dst ≠ some t) → (f b).tmp t = (f a).tmp t := by
  intro a b hab hb hno
  induction b with
  | zero => have : a = 0 := by omega
            subst this; rfl
  | succ b ih =>
    by_cases e : a = b + 1
    · subst e; rfl
    · obtain ⟨o, ho, s⟩ := g.step' (k := b) (by omega)
      rw [s.other (g.ob _ hb) t (hno b o (by omega) (by omega) ho)]
      exact ih (by omega) (by omega) fun k o h1 h2 => hno k o h1 (by omega)

/-- Is it an operation that may write memory? -/
def chainy (o : Oper) : Prop := kindOf o.op = .chain ∨ kindOf o.op = .call

theorem kinds (o : Oper) : kindOf o.op = .pure ∨ kindOf o.op = .read ∨ kindOf o.op = .alloc ∨ chainy o := by
  unfold chainy
  cases kindOf o.op <;> simp

/-- Memory between two places with nothing but pure operations and reads between them. -/
theorem Reg.mem_stays (g : Reg P ops cx st f) : ∀ {a b : Nat}, a ≤ b → b ≤ ops.size → (∀ k o, a ≤ k → k < b → ops[at_ ops k]? = some o → kindOf o.op = .pure ∨ kindOf o.op = .read) → (f b).mem = (f a).mem ∧ (f b).next = (f a).next := by
  intro a b hab hb hno
  induction b with
  | zero => have : a = 0 := by omega
            subst this; exact ⟨rfl, rfl⟩
  | succ b ih =>
    by_cases e : a = b + 1
    · subst e; exact ⟨rfl, rfl⟩
    · obtain ⟨o, ho, s⟩ := g.step' (k := b) (by omega)
      obtain ⟨e1, e2⟩ := s.stay (hno b o (by omega) (by omega) ho)
      obtain ⟨e3, e4⟩ := ih (by omega) (by omega) fun k o h1 h2 => hno k o h1 (by omega)
      exact ⟨e1.trans e3, e2.trans e4⟩

/-- A block between two places with nothing but pure operations, reads, lifted calls and writing to other blocks between them. -/
theorem Reg.blk_stays (g : Reg P ops cx st f) {x : Nat} : ∀ {a b : Nat}, a ≤ b → b ≤ ops.size → x < (f a).next →
    (∀ k o, a ≤ k → k < b → ops[at_ ops k]? = some o → kindOf o.op = .pure ∨ kindOf o.op = .read ∨ (kindOf o.op = .call ∧ lifts ops (at_ ops k) = true) ∨ (kindOf o.op = .chain ∧ wrOf o.op (f k).eval ≠ some x)) → mget (f b).mem x = mget (f a).mem x := by
  intro a b hab hb hx hno
  induction b with
  | zero => have : a = 0 := by omega
            subst this; rfl
  | succ b ih =>
    by_cases e : a = b + 1
    · subst e; rfl
    · obtain ⟨o, ho, s⟩ := g.step' (k := b) (by omega)
      have ih := ih (by omega) (by omega) fun k o h1 h2 => hno k o h1 (by omega)
      rw [← ih]
      rcases hno b o (by omega) (by omega) ho with h1 | h1 | ⟨h1, h2⟩ | ⟨h1, h2⟩
      · rw [(s.stay (.inl h1)).1]
      · rw [(s.stay (.inr h1)).1]
      · exact s.lift h2 h1 x (Nat.lt_of_lt_of_le hx (g.next_le (by omega) (by omega)))
      · exact s.foot (g.ob _ hb) h1 x (Nat.lt_of_lt_of_le hx (g.next_le (by omega) (by omega))) h2

/-- The state while the region runs in some order: S: what has been carried out. -/
structure Inv (P : Program) (D : List Deferred) (ops : Array Oper) (cx : Ctx) (st : St) (f : Nat → St) (ρ0 : Rho) (w0 : World) (S : Nat → Bool) (p : Nat) (ρ : Rho) (a : Act) (w : World) : Prop where
  closed : Closed ops S
  defers : a.defers = D
  tsz : a.tmps.size = cx.n
  done : ∀ k o d, k < ops.size → ops[at_ ops k]? = some o → S (at_ ops k) = true → o.dst = some d → VRel ρ ((f (k + 1)).tmp d) (a.tmps.getD d undef)
  undone : ∀ t, (∀ i o, ops[i]? = some o → S i = true → o.dst ≠ some t) → VRel ρ (st.tmp t) (a.tmps.getD t undef)
  ple : p ≤ ops.size
  past : ∀ k o, k < ops.size → ops[at_ ops k]? = some o → kindOf o.op = .alloc → k < p
  chain : ∀ k o, k < ops.size → ops[at_ ops k]? = some o → chainy o → (S (at_ ops k) = true ↔ k < p)
  rel : Rel ρ (f p).mem (f p).next w
  ev : Ev ρ0 ρ cx.floor st.mem st.next (f p).mem (f p).next w0 w
  allocs : ∀ k o t z, k < ops.size → ops[at_ ops k]? = some o → o.op = .alloc t → zeroOf P t = some z → S (at_ ops k) = false → st.next ≤ (f k).next ∧ (f k).next < (f p).next ∧ ρ (f k).next = none ∧ mget (f p).mem (f k).next = some ⟨z, t, none⟩

theorem looksAt_operand {o : Oper} {t : Tmp} (h : Operand.tmp t ∈ o.op.operands) : t ∈ o.looksAt ops := by
  unfold Oper.looksAt
  rw [List.mem_append]
  left
  rw [List.mem_filterMap]
  exact ⟨.tmp t, Array.mem_toList_iff.2 h, rfl⟩

theorem looksAt_guard {o : Oper} {d : Tmp} (h : guardSlot ops o = some d) : d ∈ o.looksAt ops := by
  unfold Oper.looksAt
  rw [List.mem_append]
  right
  unfold guardSlot at h
  cases hg : o.guard with
  | none => rw [hg] at h; cases h
  | some g =>
    obtain ⟨j, want⟩ := g
    rw [hg] at h
    simp only [Option.bind_some] at h
    simp [h]

theorem alloc_looks (g : Reg P ops cx st f) {i : Nat} {o : Oper} (ho : ops[i]? = some o) (hk : kindOf o.op = .alloc) : o.looksAt ops = [] := by
  unfold Oper.looksAt
  rw [g.chk.guard i o ho hk]
  obtain ⟨dst, op, type, pos, after, guard⟩ := o
  simp only at hk ⊢
  cases op with
  | alloc t => rfl
  | call c =>
    obtain ⟨callee, args, argTypes⟩ := c
    cases callee with
    | builtin b => cases b <;> cases hk
    | value f => cases hk
    | invoke r m => cases hk
  | _ => cases hk

section
variable {D : List Deferred} {ρ0 : Rho} {w0 : World} {S : Nat → Bool} {p : Nat} {ρ : Rho} {a : Act} {w : World}

theorem distinct (g : Reg P ops cx st f) {i j : Nat} {x y : Oper} {d : Tmp} (hi : ops[i]? = some x) (hj : ops[j]? = some y) (hx : x.dst = some d) (hy : y.dst = some d) : i = j := by
  rcases Nat.lt_trichotomy i j with h | h | h
  · exact absurd hy (g.chk.dst i j x y d h hi hj hx)
  · exact h
  · exact absurd hx (g.chk.dst j i y x d h hj hi hy)

/-- What an operation that comes up looks at is what it looked at in the abstract run. -/
theorem Inv.looks (g : Reg P ops cx st f) (I : Inv P D ops cx st f ρ0 w0 S p ρ a w) {k : Nat} {o : Oper} (hk : k < ops.size) (ho : ops[at_ ops k]? = some o) (hns : S (at_ ops k) = false) (hready : Ready S o) {t : Tmp} (ht : t ∈ o.looksAt ops) :
    VRel ρ ((f k).tmp t) (a.tmps.getD t undef) := by
  by_cases hw : ∃ i x, ops[i]? = some x ∧ S i = true ∧ x.dst = some t
  · obtain ⟨i, x, hx, hs, hd⟩ := hw
    have hil : i < ops.size := (Array.getElem?_eq_some_iff.1 hx).1
    obtain ⟨k', hk', rfl⟩ := at_of hil
    have hne : k' ≠ k := fun e => by rw [e, hns] at hs; cases hs
    have hlt : k' < k := by
      rcases Nat.lt_or_ge k' k with h | h
      · exact h
      · exfalso
        have hkk : k < k' := by omega
        rcases Nat.lt_trichotomy (at_ ops k) (at_ ops k') with hij | hij | hij
        · rcases g.chk.pair _ _ _ _ hij ho hx with hf | ⟨hap, _⟩
          · have := hf S I.closed (fun e he hb => I.closed _ _ hx hs e he hb)
            rw [hns] at this; cases this
          · obtain ⟨_, _, h3⟩ := Oper.apart_spec hap
            exact h3 t hd ht
        · rw [hij, hs] at hns; cases hns
        · rcases at_ord hkk hk' with ⟨h1, _⟩ | ⟨_, h2⟩
          · rw [alloc_looks g ho ((isAlloc_iff ho).1 h1)] at ht; cases ht
          · omega
    have hst : (f k).tmp t = (f (k' + 1)).tmp t := g.slot_stays (by omega) (by omega) fun q y h1 h2 hy hyd => by
      have := distinct g hx hy hd hyd
      have e : at_ ops k' = at_ ops q := this
      rcases at_ord (ops := ops) (k1 := k') (k2 := q) (by omega) (by omega) with ⟨h1, h2⟩ | ⟨_, h2⟩
      · rw [e, h2] at h1; cases h1
      · omega
    rw [hst]
    exact I.done k' x t hk' hx hs hd
  · have hno : ∀ i x, ops[i]? = some x → S i = true → x.dst ≠ some t := fun i x hx hs hd => hw ⟨i, x, hx, hs, hd⟩
    have hst : (f k).tmp t = (f 0).tmp t := g.slot_stays (Nat.zero_le _) (by omega) fun q y _ h2 hy hyd => by
      have hqs : S (at_ ops q) = false := by
        cases e : S (at_ ops q) with
        | false => rfl
        | true => exact absurd hyd (hno _ y hy e)
      rcases Nat.lt_trichotomy (at_ ops q) (at_ ops k) with hij | hij | hij
      · rcases g.chk.pair _ _ _ _ hij hy ho with hf | ⟨hap, _⟩
        · have := hf S I.closed hready
          rw [hqs] at this; cases this
        · obtain ⟨h1, _, _⟩ := Oper.apart_spec hap
          exact h1 t hyd ht
      · rcases at_ord (ops := ops) h2 hk with ⟨h1, h3⟩ | ⟨_, h3⟩
        · rw [hij, h3] at h1; cases h1
        · omega
      · rcases at_ord (ops := ops) h2 hk with ⟨h1, _⟩ | ⟨_, h3⟩
        · have hap := g.chk.alloc _ _ _ _ hij ho hy ((isAlloc_iff hy).1 h1)
          obtain ⟨_, _, h3⟩ := Oper.apart_spec hap
          exact h3 t hyd ht
        · omega
    rw [hst, g.f0]
    exact I.undone t hno

/-- The operands. -/
theorem Inv.operands (g : Reg P ops cx st f) (I : Inv P D ops cx st f ρ0 w0 S p ρ a w) {k : Nat} {o : Oper} (hk : k < ops.size) (ho : ops[at_ ops k]? = some o) (hns : S (at_ ops k) = false) (hready : Ready S o) : OpsRel ρ (f k).eval a.eval o.op := by
  intro x hx
  cases x with
  | tmp t => exact I.looks g hk ho hns hready (looksAt_operand hx)
  | const v => exact ofV_rel v
  | global g => exact .undef _
  | func f => exact .fn f [] #[] rfl fun i h1 _ => by simp at h1

/-- After an operation: its slot is told, the others as before. -/
theorem Inv.slots (g : Reg P ops cx st f) (I : Inv P D ops cx st f ρ0 w0 S p ρ a w) {k : Nat} {o : Oper} (hk : k < ops.size) (ho : ops[at_ ops k]? = some o) (hns : S (at_ ops k) = false) {ρ' : Rho} (hle : ρ.le ρ') {u : Value}
    (hval : ∀ d, o.dst = some d → VRel ρ' ((f (k + 1)).tmp d) u) {S' : Nat → Bool} (hS : ∀ i, S' i = (S i || i == at_ ops k)) :
    (∀ k' x d, k' < ops.size → ops[at_ ops k']? = some x → S' (at_ ops k') = true → x.dst = some d → VRel ρ' ((f (k' + 1)).tmp d) ((a.put o.dst u).tmps.getD d undef)) ∧
    (∀ t, (∀ i x, ops[i]? = some x → S' i = true → x.dst ≠ some t) → VRel ρ' (st.tmp t) ((a.put o.dst u).tmps.getD t undef)) := by
  have other : ∀ t, o.dst ≠ some t → (a.put o.dst u).tmps.getD t undef = a.tmps.getD t undef := fun t ht => by
    cases hd : o.dst with
    | none => rfl
    | some d =>
      have hne : d ≠ t := fun e => ht (by rw [hd, e])
      simp [Act.put, Array.getElem?_setIfInBounds_ne hne]
  obtain ⟨_, ho', s⟩ := g.step' hk
  rw [ho] at ho'
  obtain rfl := Option.some.inj ho'
  refine ⟨fun k' x d hk' hx hs hd => ?_, fun t hno => ?_⟩
  · by_cases hod : o.dst = some d
    · have e := distinct g ho hx hod hd
      have hkk : k' = k := by
        rcases Nat.lt_trichotomy k' k with h | h | h
        · rcases at_ord (ops := ops) h hk with ⟨h1, h3⟩ | ⟨_, h3⟩
          · rw [← e, h3] at h1; cases h1
          · omega
        · exact h
        · rcases at_ord (ops := ops) h hk' with ⟨h1, h3⟩ | ⟨_, h3⟩
          · rw [e, h3] at h1; cases h1
          · omega
      subst hkk
      have hlt : d < a.tmps.size := by rw [I.tsz]; exact s.slot d hod
      have : (a.put o.dst u).tmps.getD d undef = u := by simp [Act.put, hod, hlt]
      rw [this]
      exact hval d hod
    · rw [other d hod]
      have hne : at_ ops k' ≠ at_ ops k := fun e => by
        rw [e, ho] at hx
        obtain rfl := Option.some.inj hx
        exact hod hd
      have hs' : S (at_ ops k') = true := by
        rw [hS] at hs
        simpa [hne] using hs
      exact (I.done k' x d hk' hx hs' hd).mono hle
  · have hod : o.dst ≠ some t := hno _ o ho (by rw [hS]; simp)
    rw [other t hod]
    exact (I.undone t fun i x hx hs => hno i x hx (by rw [hS, hs]; rfl)).mono hle

/-- Closed it stays. -/
theorem Inv.closes (I : Inv P D ops cx st f ρ0 w0 S p ρ a w) {i : Nat} {o : Oper} (ho : ops[i]? = some o) (hready : Ready S o) {S' : Nat → Bool} (hS : ∀ j, S' j = (S j || j == i)) : Closed ops S' := by
  intro j x hx hs e he hb
  rw [hS] at hs ⊢
  by_cases hj : j = i
  · subst hj
    rw [ho] at hx
    obtain rfl := Option.some.inj hx
    rw [hready e he hb]; rfl
  · have : S j = true := by simpa [hj] using hs
    rw [I.closed j x hx this e he hb]; rfl

/-- Between the state of memory and a read there are but pure operations, reads and calls that leave it alone. -/
theorem Inv.between (g : Reg P ops cx st f) (I : Inv P D ops cx st f ρ0 w0 S p ρ a w) {k : Nat} {o : Oper} (hk : k < ops.size) (ho : ops[at_ ops k]? = some o) (hns : S (at_ ops k) = false) (hready : Ready S o) (hread : kindOf o.op = .read) {b : Nat} (hb : rdOf o.op (f k).eval = some b) :
    (∀ q x, p ≤ q → q < k → ops[at_ ops q]? = some x → kindOf x.op = .pure ∨ kindOf x.op = .read ∨ (kindOf x.op = .call ∧ lifts ops (at_ ops q) = true) ∨ (kindOf x.op = .chain ∧ wrOf x.op (f q).eval ≠ some b)) ∧
    (∀ q x, k ≤ q → q < p → ops[at_ ops q]? = some x → kindOf x.op = .pure ∨ kindOf x.op = .read ∨ (kindOf x.op = .call ∧ lifts ops (at_ ops q) = true) ∨ (kindOf x.op = .chain ∧ wrOf x.op (f q).eval ≠ some b)) := by
  have nal : isAlloc ops (at_ ops k) = false := by
    cases e : isAlloc ops (at_ ops k) with
    | false => rfl
    | true => have := (isAlloc_iff ho).1 e; rw [hread] at this; cases this
  constructor
  · intro q x h1 h2 hx
    rcases kinds x with h | h | h | h
    · exact .inl h
    · exact .inr (.inl h)
    · have := I.past q x (by omega) hx h; omega
    · have hqs : S (at_ ops q) = false := by
        cases e : S (at_ ops q) with
        | false => rfl
        | true => have := (I.chain q x (by omega) hx h).1 e; omega
      have hlt : at_ ops q < at_ ops k := by
        rcases at_ord (ops := ops) h2 hk with ⟨h3, _⟩ | ⟨_, h3⟩
        · have := I.past q x (by omega) hx ((isAlloc_iff hx).1 h3); omega
        · exact h3
      rcases g.chk.pair _ _ _ _ hlt hx ho with hf | ⟨_, hkd, hl, _⟩
      · have := hf S I.closed hready
        rw [hqs] at this; cases this
      · rcases h with h | h
        · refine .inr (.inr (.inr ⟨h, fun hw => ?_⟩))
          have := g.foot' h2 hk ho hx (.inl (by rw [hb, hw]; exact Nat.beq_refl b))
          unfold ordered at this
          simp only [Bool.or_eq_true] at this
          rcases this with this | this
          · have := (g.chk.bits _ _ hx _ this).1; omega
          · have := (g.chk.bits _ _ ho _ this).2 S I.closed hready
            rw [hqs] at this; cases this
        · exact .inr (.inr (.inl ⟨h, hl hread⟩))
  · intro q x h1 h2 hx
    have hp := I.ple
    rcases kinds x with h | h | h | h
    · exact .inl h
    · exact .inr (.inl h)
    · by_cases hqk : q = k
      · subst hqk; rw [ho] at hx; obtain rfl := Option.some.inj hx; rw [hread] at h; cases h
      · rcases at_ord (ops := ops) (k1 := k) (k2 := q) (by omega) (by omega) with ⟨h3, _⟩ | ⟨h3, _⟩
        · rw [nal] at h3; cases h3
        · rw [nal, (isAlloc_iff hx).2 h] at h3; cases h3
    · have hqs : S (at_ ops q) = true := (I.chain q x (by omega) hx h).2 h2
      have hne : q ≠ k := fun e => by rw [e, hns] at hqs; cases hqs
      have hlt : at_ ops k < at_ ops q := by
        rcases at_ord (ops := ops) (k1 := k) (k2 := q) (by omega) (by omega) with ⟨h3, _⟩ | ⟨_, h3⟩
        · rw [nal] at h3; cases h3
        · exact h3
      rcases g.chk.pair _ _ _ _ hlt ho hx with hf | ⟨_, hkd, _, hl⟩
      · have := hf S I.closed fun e he hb => I.closed _ _ hx hqs e he hb
        rw [hns] at this; cases this
      · rcases h with h | h
        · refine .inr (.inr (.inr ⟨h, fun hw => ?_⟩))
          have := g.foot' (q := k) (k := q) (by omega) (by omega) hx ho (.inr (by rw [hb, hw]; exact Nat.beq_refl b))
          unfold ordered at this
          simp only [Bool.or_eq_true] at this
          rcases this with this | this
          · have := (g.chk.bits _ _ ho _ this).1; omega
          · have := (g.chk.bits _ _ hx _ this).2 S I.closed fun e he hb => I.closed _ _ hx hqs e he hb
            rw [hns] at this; cases this
        · exact .inr (.inr (.inl ⟨h, hl hread⟩))

/-- A chain operation that comes up is the next one. -/
theorem Inv.next_chain (g : Reg P ops cx st f) (I : Inv P D ops cx st f ρ0 w0 S p ρ a w) {k : Nat} {o : Oper} (hk : k < ops.size) (ho : ops[at_ ops k]? = some o) (hns : S (at_ ops k) = false) (hready : Ready S o) (hch : chainy o) :
    p ≤ k ∧ (∀ q x, q < ops.size → ops[at_ ops q]? = some x → chainy x → (S (at_ ops q) = true ↔ q < k)) := by
  have nal : isAlloc ops (at_ ops k) = false := by
    cases e : isAlloc ops (at_ ops k) with
    | false => rfl
    | true => have := (isAlloc_iff ho).1 e; rcases hch with h | h <;> rw [h] at this <;> cases this
  have key : ∀ q x, q < ops.size → ops[at_ ops q]? = some x → chainy x → (S (at_ ops q) = true ↔ q < k) := by
    intro q x hq hx hxc
    have nalx : isAlloc ops (at_ ops q) = false := by
      cases e : isAlloc ops (at_ ops q) with
      | false => rfl
      | true => have := (isAlloc_iff hx).1 e; rcases hxc with h | h <;> rw [h] at this <;> cases this
    have nok : ∀ (x y : Oper), chainy x → chainy y → kindsOk (kindOf x.op) (kindOf y.op) = false := by
      intro x y hx hy
      rcases hx with h | h <;> rcases hy with h' | h' <;> rw [h, h'] <;> rfl
    constructor
    · intro hs
      rcases Nat.lt_trichotomy q k with h | h | h
      · exact h
      · subst h; rw [hns] at hs; cases hs
      · exfalso
        have hlt : at_ ops k < at_ ops q := by
          rcases at_ord (ops := ops) h hq with ⟨h3, _⟩ | ⟨_, h3⟩
          · rw [nal] at h3; cases h3
          · exact h3
        rcases g.chk.pair _ _ _ _ hlt ho hx with hf | ⟨_, hkd, _⟩
        · have := hf S I.closed fun e he hb => I.closed _ _ hx hs e he hb
          rw [hns] at this; cases this
        · rw [nok o x hch hxc] at hkd; cases hkd
    · intro h
      have hlt : at_ ops q < at_ ops k := by
        rcases at_ord (ops := ops) h hk with ⟨h3, _⟩ | ⟨_, h3⟩
        · rw [nalx] at h3; cases h3
        · exact h3
      rcases g.chk.pair _ _ _ _ hlt hx ho with hf | ⟨_, hkd, _⟩
      · exact hf S I.closed hready
      · rw [nok x o hxc hch] at hkd; cases hkd
  refine ⟨?_, key⟩
  rcases Nat.lt_or_ge k p with h | h
  · have := (I.chain k o hk ho hch).2 h
    rw [hns] at this; cases this
  · exact h

end

end
end Go.Am
