/- A region that draws its order. -/
import Derived.Test.YtdojgffcahimjaaAmJ
namespace Go.Am

/-! ### What comes before what -/
section
variable {ops : Array Oper}

/-- With an operation all that it waits for. -/
def Closed (ops : Array Oper) (S : Nat → Bool) : Prop := ∀ j o, ops[j]? = some o → S j = true → ∀ e ∈ o.after.toList, Region.binds .any e = true → S e.on = true

/-- All that operation j waits for. -/
def Ready (S : Nat → Bool) (o : Oper) : Prop := ∀ e ∈ o.after.toList, Region.binds .any e = true → S e.on = true

def Forced (ops : Array Oper) (i : Nat) (o : Oper) : Prop := ∀ S, Closed ops S → Ready S o → S i = true

theorem fold_bits (acc : List Nat) (i : Nat) : ∀ (es : List Edge) (s : Nat), (es.foldl (fun s e => bif Region.binds .any e then s ||| (2 ^ e.on) ||| acc.getD e.on 0 else s) s).testBit i = true →
    s.testBit i = true ∨ ∃ e ∈ es, Region.binds .any e = true ∧ (e.on = i ∨ (acc.getD e.on 0).testBit i = true)
  | [], s, h => .inl h
  | e :: es, s, h => by
    simp only [List.foldl_cons] at h
    rcases fold_bits acc i es _ h with h | ⟨e', he', h1, h2⟩
    · cases hb : Region.binds .any e with
      | false => rw [hb] at h; exact .inl h
      | true =>
        rw [hb, cond_true, Nat.testBit_or, Nat.testBit_or, Bool.or_eq_true, Bool.or_eq_true] at h
        rcases h with (h | h) | h
        · exact .inl h
        · rw [Nat.testBit_two_pow] at h
          exact .inr ⟨e, by simp, hb, .inl (by simpa using h)⟩
        · exact .inr ⟨e, by simp, hb, .inr h⟩
    · exact .inr ⟨e', by simp [he'], h1, h2⟩

theorem befs_spec (hord : ∀ (j : Nat) o, ops[j]? = some o → ∀ e ∈ o.after.toList, Region.binds .any e = true → e.on < j) : ∀ (l : List Oper) (acc : List Nat), acc.length + l.length = ops.size → (∀ k, l[k]? = ops[acc.length + k]?) →
    (∀ k o, k < acc.length → ops[k]? = some o → ∀ i, (acc.getD k 0).testBit i = true → i < k ∧ Forced ops i o) →
    ∀ k o, ops[k]? = some o → ∀ i, ((befs l acc).getD k 0).testBit i = true → i < k ∧ Forced ops i o
  | [], acc, hlen, _, hacc, k, o, ho, i, h => by
    have hk : k < ops.size := (Array.getElem?_eq_some_iff.1 ho).1
    simp at hlen
    exact hacc k o (by omega) ho i h
  | x :: l, acc, hlen, hl, hacc, k, o, ho, i, h => by
    unfold befs at h
    refine befs_spec hord l (acc ++ [x.after.toList.foldl (fun s e => bif Region.binds .any e then s ||| (2 ^ e.on) ||| acc.getD e.on 0 else s) 0]) (by simp at hlen ⊢; omega) (fun k => by
      have := hl (k + 1)
      simpa [Nat.add_assoc, Nat.add_comm 1 k] using this) (fun k' o' hk' ho' i' hi' => ?_) k o ho i h
    by_cases hlt : k' < acc.length
    · refine hacc k' o' hlt ho' i' ?_
      rw [List.getD, List.getElem?_append_left hlt] at hi'
      exact hi'
    · have hk2 : k' = acc.length := by simp at hk'; omega
      subst hk2
      have hx : ops[acc.length]? = some x := by simpa using (hl 0).symm
      rw [hx] at ho'
      obtain rfl := Option.some.inj ho'
      have hg : (acc ++ [x.after.toList.foldl (fun s e => bif Region.binds .any e then s ||| (2 ^ e.on) ||| acc.getD e.on 0 else s) 0]).getD acc.length 0 = x.after.toList.foldl (fun s e => bif Region.binds .any e then s ||| (2 ^ e.on) ||| acc.getD e.on 0 else s) 0 := by
        simp [List.getD]
      rw [hg] at hi'
      rcases fold_bits acc i' _ _ hi' with h0 | ⟨e, he, hb, h1⟩
      · simp at h0
      · have hlt' := hord _ _ hx e he hb
        rcases h1 with rfl | h1
        · exact ⟨hlt', fun S _ hr => hr e he hb⟩
        · have ho2 : ops[e.on]? = some (ops[e.on]'(by simp at hlen; omega)) := by simp
          obtain ⟨q1, q2⟩ := hacc e.on _ hlt' ho2 i' h1
          exact ⟨by omega, fun S hc hr => q2 S hc fun e' he' hb' => hc e.on _ ho2 (hr e he hb) e' he' hb'⟩

/-- What the check of a region says. -/
structure Checked (ops : Array Oper) : Prop where
  ord : ∀ (j : Nat) o, ops[j]? = some o → ∀ e ∈ o.after.toList, Region.binds .any e = true → e.on < j
  guard : ∀ (j : Nat) o, ops[j]? = some o → kindOf o.op = .alloc → o.guard = none
  bits : ∀ (j : Nat) o, ops[j]? = some o → ∀ i, ((befs ops.toList []).getD j 0).testBit i = true → i < j ∧ Forced ops i o
  pair : ∀ (i j : Nat) p o, i < j → ops[i]? = some p → ops[j]? = some o → Forced ops i o ∨ (p.apart ops o = true ∧ kindsOk (kindOf p.op) (kindOf o.op) = true ∧ (kindOf o.op = .read → lifts ops i = true) ∧ (kindOf p.op = .read → lifts ops j = true))
  dst : ∀ (i j : Nat) p o d, i < j → ops[i]? = some p → ops[j]? = some o → p.dst = some d → o.dst ≠ some d
  alloc : ∀ (i j : Nat) p o, i < j → ops[i]? = some p → ops[j]? = some o → kindOf o.op = .alloc → p.apart ops o = true

theorem drawOk_spec (h : drawOk ops = true) : Checked ops := by
  have hj : ∀ (j : Nat) o, ops[j]? = some o → (o.after.toList.all (fun e => !Region.binds .any e || Nat.ble (e.on + 1) j) = true ∧ (!(kindOf o.op == .alloc) || o.guard.isNone) = true) ∧ ∀ (i : Nat) p, i < j → ops[i]? = some p → pairOk ops i j p o = true := by
    intro j o ho
    have hlt : j < ops.size := (Array.getElem?_eq_some_iff.1 ho).1
    have := List.all_eq_true.1 h j (List.mem_range.2 hlt)
    rw [ho] at this
    simp only [Bool.and_eq_true] at this
    refine ⟨this.1, fun i p hi hp => ?_⟩
    have := List.all_eq_true.1 this.2 i (List.mem_range.2 hi)
    rwa [hp] at this
  have ord : ∀ (j : Nat) o, ops[j]? = some o → ∀ e ∈ o.after.toList, Region.binds .any e = true → e.on < j := by
    intro j o ho e he hb
    have := List.all_eq_true.1 (hj j o ho).1.1 e he
    rw [hb] at this
    exact Nat.le_of_ble_eq_true (by simpa using this)
  have bits := befs_spec ord ops.toList [] (by simp) (fun k => by simp) (fun k o hk => by simp at hk)
  refine ⟨ord, fun j o ho hk => ?_, fun j o ho i hb => bits j o ho i hb, fun i j p o hij hp ho => ?_, fun i j p o d hij hp ho hd => ?_, fun i j p o hij hp ho hk => ?_⟩
  · have := (hj j o ho).1.2
    rw [hk] at this
    simpa using this
  · have hpo := (hj j o ho).2 i p hij hp
    unfold pairOk at hpo
    simp only [Bool.and_eq_true, Bool.or_eq_true] at hpo
    cases hb : ((befs ops.toList []).getD j 0).testBit i with
    | true => exact .inl (bits j o ho i hb).2
    | false =>
      right
      rcases hpo.1.1 with h1 | ⟨h1, h2⟩
      · rw [hb] at h1; cases h1
      · have hi : i < ops.size := (Array.getElem?_eq_some_iff.1 hp).1
        have hjl : j < ops.size := (Array.getElem?_eq_some_iff.1 ho).1
        refine ⟨h1, h2, fun hr => ?_, fun hr => ?_⟩
        · unfold lifts
          rw [List.any_eq_true]
          refine ⟨j, List.mem_range.2 hjl, ?_⟩
          rw [ho, Option.any_some, hr, hb]
          have : Nat.ble (i + 1) j = true := Nat.ble_eq_true_of_le hij
          rw [this]; simp
        · unfold lifts
          rw [List.any_eq_true]
          refine ⟨i, List.mem_range.2 hi, ?_⟩
          rw [hp, Option.any_some, hr, hb]
          have : Nat.ble (i + 1) j = true := Nat.ble_eq_true_of_le hij
          rw [this]; simp
  · have hpo := (hj j o ho).2 i p hij hp
    unfold pairOk at hpo
    simp only [Bool.and_eq_true] at hpo
    have := hpo.1.2
    rw [hd] at this
    intro e
    rw [e] at this
    simp at this
  · have hpo := (hj j o ho).2 i p hij hp
    unfold pairOk at hpo
    simp only [Bool.and_eq_true] at hpo
    have := hpo.2
    rw [hk] at this
    simpa using this

/-! ### The order in which the abstract run goes -/
theorem isAlloc_iff {i : Nat} {o : Oper} (ho : ops[i]? = some o) : isAlloc ops i = true ↔ kindOf o.op = .alloc := by
  unfold isAlloc
  rw [ho, Option.any_some]
  simp

theorem drawOrder_mem (i : Nat) : i ∈ drawOrder ops ↔ i < ops.size := by
  unfold drawOrder
  simp only [List.mem_append, List.mem_filter, List.mem_range]
  cases isAlloc ops i <;> simp

theorem drawOrder_length : (drawOrder ops).length = ops.size := by
  unfold drawOrder
  rw [List.length_append, ← List.countP_eq_length_filter, ← List.countP_eq_length_filter]
  have := List.length_eq_countP_add_countP (isAlloc ops) (l := List.range ops.size)
  simp only [List.length_range] at this
  have e : (fun i => !isAlloc ops i) = (fun i => decide (¬ isAlloc ops i = true)) := by funext i; cases isAlloc ops i <;> rfl
  rw [e]; omega

/-- i comes before j there. -/
def Ord (ops : Array Oper) (i j : Nat) : Prop := (isAlloc ops i = true ∧ isAlloc ops j = false) ∨ (isAlloc ops i = isAlloc ops j ∧ i < j)

theorem drawOrder_pairwise : (drawOrder ops).Pairwise (Ord ops) := by
  unfold drawOrder
  rw [List.pairwise_append]
  have hr : (List.range ops.size).Pairwise (· < ·) := List.pairwise_lt_range
  refine ⟨?_, ?_, ?_⟩
  · refine ((hr.filter _).imp_of_mem fun {a b} ha hb h => ?_)
    have h1 := (List.mem_filter.1 ha).2
    have h2 := (List.mem_filter.1 hb).2
    exact .inr ⟨h1.trans h2.symm, h⟩
  · refine ((hr.filter _).imp_of_mem fun {a b} ha hb h => ?_)
    have h1 := (List.mem_filter.1 ha).2
    have h2 := (List.mem_filter.1 hb).2
    refine .inr ⟨?_, h⟩
    cases e1 : isAlloc ops a <;> cases e2 : isAlloc ops b <;> simp_all
  · intro a ha b hb
    have h1 := (List.mem_filter.1 ha).2
    have h2 := (List.mem_filter.1 hb).2
    exact .inl ⟨h1, by simpa using h2⟩

theorem drawOrder_ord {k1 k2 : Nat} (h : k1 < k2) (h2 : k2 < (drawOrder ops).length) : Ord ops ((drawOrder ops)[k1]'(by omega)) (drawOrder ops)[k2] :=
  List.pairwise_iff_getElem.1 drawOrder_pairwise k1 k2 (by omega) h2 h

end

/-! ### The abstract run, step by step -/
theorem opsRun_trace {P : Program} {S : Specs} {R : Runner} {ops : Array Oper} {cx : Ctx} : ∀ (l : List (Bool × Oper)) (st st' : St), opsRun P S R ops cx l st = some st' →
    ∃ f : Nat → St, f 0 = st ∧ f l.length = st' ∧ ∀ (k : Nat) (h : k < l.length), step1 P S R ops cx l[k] (f k) = some (f (k + 1))
  | [], st, st', h => by
    have h : some st = some st' := h
    obtain rfl := Option.some.inj h
    exact ⟨fun _ => st, rfl, rfl, fun k h => by simp at h⟩
  | x :: l, st, st', h => by
    rw [opsRun_cons, Option.bind_eq_some_iff] at h
    obtain ⟨st1, h1, h2⟩ := h
    obtain ⟨f, f0, fn, fs⟩ := opsRun_trace l st1 st' h2
    refine ⟨fun k => match k with | 0 => st | k + 1 => f k, rfl, fn, fun k hk => ?_⟩
    cases k with
    | zero => simpa [f0] using h1
    | succ k => simpa using fs k (by simpa using hk)

/-- Neither is read where the other writes; or they are in order. -/
def FootOk (ops : Array Oper) (x y : Foot) : Prop := clash x.2.1 y.2.2 = true ∨ clash x.2.2 y.2.1 = true → ordered ops x.1 y.1 = true

theorem footOk_spec {ops : Array Oper} {x y : Foot} (h : footOk ops x y = true) : FootOk ops x y := by
  intro hc
  unfold footOk at h
  simp only [Bool.or_eq_true, Bool.not_eq_true', Bool.or_eq_false_iff] at h
  rcases h with ⟨h1, h2⟩ | h
  · rcases hc with hc | hc
    · rw [h1] at hc; cases hc
    · rw [h2] at hc; cases hc
  · exact h

theorem opsRunD_trace {P : Program} {S : Specs} {R : Runner} {ops : Array Oper} {cx : Ctx} : ∀ (l : List (Nat × Bool × Oper)) (acc : List Foot) (st st' : St), opsRunD P S R ops cx l acc st = some st' →
    ∃ f : Nat → St, f 0 = st ∧ f l.length = st' ∧ (∀ (k : Nat) (h : k < l.length), step1 P S R ops cx l[k].2 (f k) = some (f (k + 1))) ∧
      (∀ (k : Nat) (h : k < l.length), ∀ y ∈ acc, FootOk ops (footOf l[k] (f k).eval) y) ∧
      ∀ (q k : Nat) (hq : q < k) (h : k < l.length), FootOk ops (footOf l[k] (f k).eval) (footOf (l[q]'(by omega)) (f q).eval)
  | [], acc, st, st', h => by
    have h : some st = some st' := h
    obtain rfl := Option.some.inj h
    exact ⟨fun _ => st, rfl, rfl, fun k h => by simp at h, fun k h => by simp at h, fun q k _ h => by simp at h⟩
  | x :: l, acc, st, st', h => by
    have h : (bif acc.all (footOk ops (footOf x st.eval)) then
        match step1 P S R ops cx x.2 st with
        | some st' => opsRunD P S R ops cx l (footOf x st.eval :: acc) st'
        | none => none
      else none) = some st' := h
    obtain ⟨hacc, h⟩ := bif_inv h
    split at h
    · rename_i st1 h1
      obtain ⟨f, f0, fn, fs, fa, fp⟩ := opsRunD_trace l _ st1 st' h
      refine ⟨fun k => match k with | 0 => st | k + 1 => f k, rfl, fn, fun k hk => ?_, fun k hk y hy => ?_, fun q k hqk hk => ?_⟩
      · cases k with
        | zero => simpa [f0] using h1
        | succ k => simpa using fs k (by simpa using hk)
      · cases k with
        | zero => exact footOk_spec (List.all_eq_true.1 hacc y hy)
        | succ k => simpa using fa k (by simpa using hk) y (by simp [hy])
      · cases k with
        | zero => omega
        | succ k =>
          cases q with
          | zero => simpa using fa k (by simpa using hk) (footOf x st.eval) (by simp)
          | succ q => simpa using fp q k (by omega) (by simpa using hk)
    · cases h

end Go.Am
