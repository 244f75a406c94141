/- Slice expressions; every operation that leaves memory alone. -/
import Derived.Test.YtdojgffcahimjaaAmD
namespace Go.Am

section
variable {P : Program} {ρ : Rho} 

theorem sliceBounds_run (isSlice : Bool) (len cap m h l : Nat) (low high max : Option Value) (hm : (max = none ∧ m = cap) ∨ (∃ k, max = some (.int k m) ∧ m ≤ cap))
    (hh : (high = none ∧ max = none ∧ h = len) ∨ (∃ k, high = some (.int k h) ∧ h ≤ m)) (hl : (low = none ∧ l = 0) ∨ ∃ k, low = some (.int k l) ∧ l ≤ h) (w : World) :
    (Instr.sliceBounds isSlice len cap low high max).run P w = .ok (l, h, m) w := by
  have nn : ∀ n : Nat, (0 : Int) ≤ n := fun n => Int.natCast_nonneg n
  rcases hm with ⟨rfl, rfl⟩ | ⟨km, rfl, hm⟩
  · rcases hh with ⟨rfl, _, rfl⟩ | ⟨kh, rfl, hh⟩
    · rcases hl with ⟨rfl, rfl⟩ | ⟨kl, rfl, hl⟩
      · simp [Instr.sliceBounds]
      · have : (l : Int) ≤ h := by omega
        simp [Instr.sliceBounds, Instr.sliceBound, asIntOf, nn, hl]
    · rcases hl with ⟨rfl, rfl⟩ | ⟨kl, rfl, hl⟩
      · simp [Instr.sliceBounds, Instr.sliceBound, asIntOf, nn, hh]
      · simp [Instr.sliceBounds, Instr.sliceBound, asIntOf, nn, hh, hl]
  · rcases hh with ⟨rfl, e, _⟩ | ⟨kh, rfl, hh⟩
    · cases e
    · rcases hl with ⟨rfl, rfl⟩ | ⟨kl, rfl, hl⟩
      · simp [Instr.sliceBounds, Instr.sliceBound, asIntOf, nn, hm, hh]
      · simp [Instr.sliceBounds, Instr.sliceBound, asIntOf, nn, hm, hh, hl]

/-- A bound that is given is a number; else the default. -/
theorem bound_spec {ev : Operand → AVal} {ec : Operand → Value} {o : Option Operand} {d n : Nat} {b : Bool} (h : bound ev o d = some (n, b)) (hb : b = true) (hr : ∀ x, o = some x → VRel ρ (ev x) (ec x)) :
    (o = none ∧ n = d) ∨ ∃ k, o.map ec = some (.int k n) := by
  subst hb
  unfold bound at h
  cases o with
  | none => simp at h; exact .inl ⟨rfl, h.symm⟩
  | some x =>
    right
    have hx := hr x rfl
    simp only at h
    split at h
    · rename_i k i e
      simp only [Option.some.injEq, Prod.mk.injEq, decide_eq_true_eq] at h
      obtain ⟨rfl, h0⟩ := h
      rw [e] at hx
      refine ⟨k, ?_⟩
      simp only [Option.map_some]
      rw [show ((i.toNat : Nat) : Int) = i by omega]
      generalize ec x = u at hx ⊢
      cases hx
      rfl
    · cases h

theorem bif_addr (c : Bool) (b o off k : Nat) (m l : Nat) (_ : Nat.beq m l = c) : (if m = l then some (⟨b, o + off, none⟩ : Addr) else some ((⟨b, o + off, none⟩ : Addr).add k)) = some ⟨b, o + (bif Nat.beq m l then off else off + k), none⟩ := by
  by_cases h : m = l
  · subst h
    rw [if_pos rfl, show Nat.beq m m = true from Nat.beq_refl m]; rfl
  · rw [if_neg h, show Nat.beq m l = false from Bool.eq_false_iff.2 fun e => h (Nat.eq_of_beq_eq_true e), addr_add, Nat.add_assoc]; rfl

theorem aSlice_sound {ev : Operand → AVal} {ec : Operand → Value} {t : TypeId} {x : Operand} {lo hi mx : Option Operand} {v : AVal} {b : Bool} (h : aSlice P ev t x lo hi mx = some (v, b)) (hb : b = true)
    (hx : VRel ρ (ev x) (ec x)) (hlo : ∀ y, lo = some y → VRel ρ (ev y) (ec y)) (hhi : ∀ y, hi = some y → VRel ρ (ev y) (ec y)) (hmx : ∀ y, mx = some y → VRel ρ (ev y) (ec y)) :
    ∃ z, VRel ρ v z ∧ ∀ w, (Instr.sliceAt t (ec x) (lo.map ec) (hi.map ec) (mx.map ec)).run P w = .ok z w := by
  subst hb
  unfold aSlice at h
  split at h
  · rename_i e hu hev
    rw [hev] at hx
    split at h
    · rename_i s l a hh b hs hl hh'
      simp only [Option.some.injEq, Prod.mk.injEq, Bool.and_eq_true] at h
      obtain ⟨rfl, ⟨⟨ha, hb⟩, h1⟩, h2⟩ := h
      have e1 := Nat.eq_of_beq_eq_true h1
      have e2 := Nat.eq_of_beq_eq_true h2
      subst e1; subst e2
      have q1 := bound_spec hl ha hlo
      have q2 := bound_spec hh' hb hhi
      generalize hw : ec x = u at hx
      cases hx
      refine ⟨_, .nils, fun w => ?_⟩
      have sb := sliceBounds_run (P := P) true 0 0 0 0 0 (lo.map ec) (hi.map ec) none (.inl ⟨rfl, rfl⟩)
        (q2.elim (fun q => .inl ⟨by rw [q.1]; rfl, rfl, rfl⟩) (fun ⟨k, q⟩ => .inr ⟨k, q, Nat.le_refl _⟩)) (q1.elim (fun q => .inl ⟨by rw [q.1]; rfl, rfl⟩) (fun ⟨k, q⟩ => .inr ⟨k, q, Nat.le_refl _⟩))
      simp [Instr.sliceAt, Instr.slice, run_underlying hu, sb, size_run hs]
    · cases h
  · rename_i e b off len c hu hev
    rw [hev] at hx
    split at h
    · rename_i s m x1 hh x2 l x3 hs hm hhi' hl
      split at h
      · cases h
      · rename_i hno
        simp only [Option.some.injEq, Prod.mk.injEq, Bool.and_eq_true] at h
        obtain ⟨rfl, ⟨⟨⟨⟨h1, h2⟩, h3⟩, h4⟩, h5⟩, h6⟩ := h
        have h4 := Nat.le_of_ble_eq_true h4
        have h5 := Nat.le_of_ble_eq_true h5
        have h6 := Nat.le_of_ble_eq_true h6
        have q0 := bound_spec hm h1 hmx
        have q1 := bound_spec hl h3 hlo
        have q2 := bound_spec hhi' h2 hhi
        generalize hw : ec x = u at hx
        cases hx with
        | sl _ _ _ _ lc c' hρ hc _ =>
          simp only [CapOk] at hc
          subst hc
          refine ⟨_, .sl _ _ _ _ lc _ hρ rfl (by omega), fun w => ?_⟩
          have sb := sliceBounds_run (P := P) true len c' m hh l (lo.map ec) (hi.map ec) (mx.map ec) (q0.elim (fun q => .inl ⟨by rw [q.1]; rfl, q.2⟩) (fun ⟨k, q⟩ => .inr ⟨k, q, h4⟩))
            (q2.elim (fun q => .inl ⟨by rw [q.1]; rfl, by
              cases mx with
              | none => rfl
              | some y => exact absurd (by simp [q.1]) hno, q.2⟩) (fun ⟨k, q⟩ => .inr ⟨k, q, h5⟩)) (q1.elim (fun q => .inl ⟨by rw [q.1]; rfl, q.2⟩) (fun ⟨k, q⟩ => .inr ⟨k, q, h6⟩)) w
          simp [Instr.sliceAt, Instr.slice, run_underlying hu, sb, size_run hs]
          exact bif_addr _ _ _ _ _ _ _ rfl
    · cases h
  · rename_i e b off len zz hu hev
    rw [hev] at hx
    split at h
    · rename_i s hh x2 l x3 hs hhi' hl
      cases hz : Nat.beq zz s.size with
      | false => rw [hz] at h; cases h
      | true =>
        rw [hz, cond_true] at h
        simp only [Option.some.injEq, Prod.mk.injEq, Bool.and_eq_true, Bool.or_eq_true] at h
        obtain ⟨rfl, ⟨⟨⟨h2, h3⟩, h5⟩, h6⟩, h7⟩ := h
        have hz := Nat.eq_of_beq_eq_true hz
        have h5 := Nat.le_of_ble_eq_true h5
        have h6 := Nat.le_of_ble_eq_true h6
        have q1 := bound_spec hl h3 hlo
        have q2 := bound_spec hhi' h2 hhi
        generalize hw : ec x = u at hx
        cases hx with
        | sl _ _ _ _ lc c hρ hc hlen =>
          simp only [CapOk] at hc
          have hlc : l ≤ c := by omega
          have hmul : l * s.size + (c - l) * zz = c * zz := by rw [hz, ← Nat.add_mul]; congr 1; omega
          refine ⟨.slice (some ⟨lc.blk, lc.base + (off + l * s.size), none⟩) (hh - l) (c - l), .sl _ _ _ _ lc _ hρ ?_ (by omega), fun w => ?_⟩
          · simp only [CapOk]; omega
          · have sb := sliceBounds_run (P := P) true len c c hh l (lo.map ec) (hi.map ec) none (.inl ⟨rfl, rfl⟩)
              (q2.elim (fun q => .inl ⟨by rw [q.1]; rfl, rfl, q.2⟩) (fun ⟨k, q⟩ => .inr ⟨k, q, by omega⟩)) (q1.elim (fun q => .inl ⟨by rw [q.1]; rfl, q.2⟩) (fun ⟨k, q⟩ => .inr ⟨k, q, h6⟩)) w
            simp [Instr.sliceAt, Instr.slice, run_underlying hu, sb, size_run hs]
            by_cases hcl : c = l
            · rw [if_pos hcl]
              rcases h7 with h7 | h7
              · have := Nat.le_of_ble_eq_true h7; omega
              · have := Nat.eq_of_beq_eq_true h7; subst this; simp
            · rw [if_neg hcl, addr_add, Nat.add_assoc]
    · rename_i s y hh x2 l x3 hs hhi' hl
      split at h
      · rename_i m x1 hm
        cases hz : (Nat.beq zz s.size && hi.isSome) with
        | false => rw [hz] at h; cases h
        | true =>
          rw [hz, cond_true] at h
          simp only [Option.some.injEq, Prod.mk.injEq, Bool.and_eq_true] at h hz
          obtain ⟨rfl, ⟨⟨⟨⟨h1, h2⟩, h3⟩, h4⟩, h5⟩, h6⟩ := h
          have h4 := Nat.le_of_ble_eq_true h4
          have h5 := Nat.le_of_ble_eq_true h5
          have h6 := Nat.le_of_ble_eq_true h6
          have q0 := bound_spec hm h1 hmx
          have q1 := bound_spec hl h3 hlo
          have q2 := bound_spec hhi' h2 hhi
          generalize hw : ec x = u at hx
          cases hx with
          | sl _ _ _ _ lc c hρ _ hlen =>
            refine ⟨_, .sl _ _ _ _ lc _ hρ rfl (by omega), fun w => ?_⟩
            have sb := sliceBounds_run (P := P) true len c m hh l (lo.map ec) (hi.map ec) ((some y).map ec) (q0.elim (fun q => by cases q.1) (fun ⟨k, q⟩ => .inr ⟨k, q, by omega⟩))
              (q2.elim (fun q => by rw [q.1] at hz; simp at hz) (fun ⟨k, q⟩ => .inr ⟨k, q, h5⟩)) (q1.elim (fun q => .inl ⟨by rw [q.1]; rfl, q.2⟩) (fun ⟨k, q⟩ => .inr ⟨k, q, h6⟩)) w
            simp only [Option.map_some] at sb
            simp [Instr.sliceAt, Instr.slice, run_underlying hu, sb, size_run hs]
            exact bif_addr _ _ _ _ _ _ _ rfl
      · cases h
    · cases h
  · rename_i e b sz off len zz hu hev
    rw [hev] at hx
    split at h
    · rename_i s hh x2 l x3 hs hhi' hl
      cases hz : (Nat.beq zz s.size && Nat.beq sz zz) with
      | false => rw [hz] at h; cases h
      | true =>
        rw [hz, cond_true] at h
        simp only [Option.some.injEq, Prod.mk.injEq, Bool.and_eq_true, Bool.or_eq_true, decide_eq_true_eq] at h hz
        obtain ⟨rfl, h2, h3, h5, h6, h7⟩ := h
        have hz1 := Nat.eq_of_beq_eq_true hz.1
        obtain rfl := Nat.eq_of_beq_eq_true hz.2
        subst hz1
        have q1 := bound_spec hl h3 hlo
        have q2 := bound_spec hhi' h2 hhi
        generalize hw : ec x = u at hx
        cases hx with
        | sla _ _ _ _ _ lc c hρ hc hlen =>
          simp only [CapOk] at hc
          have hlc : l ≤ c := by omega
          have hmul : l * s.size + (c - l) * s.size = c * s.size := by rw [← Nat.add_mul]; congr 1; omega
          have hmul2 : (off + l) * s.size = off * s.size + l * s.size := Nat.add_mul _ _ _
          refine ⟨.slice (some ⟨lc.blk, lc.base + (off + l) * s.size, none⟩) (hh - l) (c - l), .sla _ _ _ _ _ lc _ hρ ?_ (by omega), fun w => ?_⟩
          · simp only [CapOk]; omega
          · have sb := sliceBounds_run (P := P) true len c c hh l (lo.map ec) (hi.map ec) none (.inl ⟨rfl, rfl⟩)
              (q2.elim (fun q => .inl ⟨by rw [q.1]; rfl, rfl, q.2⟩) (fun ⟨k, q⟩ => .inr ⟨k, q, by omega⟩)) (q1.elim (fun q => .inl ⟨by rw [q.1]; rfl, q.2⟩) (fun ⟨k, q⟩ => .inr ⟨k, q, h6⟩)) w
            simp [Instr.sliceAt, Instr.slice, run_underlying hu, sb, size_run hs]
            by_cases hcl : c = l
            · rw [if_pos hcl]
              rcases h7 with h7 | h7
              · omega
              · have := Nat.eq_of_beq_eq_true h7; subst this; simp
            · rw [if_neg hcl, addr_add, hmul2, Nat.add_assoc]
        | slan =>
          obtain rfl : hh = 0 := by omega
          obtain rfl : l = 0 := by omega
          refine ⟨_, .slan _ _ _ _, fun w => ?_⟩
          have sb := sliceBounds_run (P := P) true 0 0 0 0 0 (lo.map ec) (hi.map ec) none (.inl ⟨rfl, rfl⟩)
            (q2.elim (fun q => .inl ⟨by rw [q.1]; rfl, rfl, rfl⟩) (fun ⟨k, q⟩ => .inr ⟨k, q, Nat.le_refl _⟩)) (q1.elim (fun q => .inl ⟨by rw [q.1]; rfl, rfl⟩) (fun ⟨k, q⟩ => .inr ⟨k, q, Nat.le_refl _⟩))
          simp [Instr.sliceAt, Instr.slice, run_underlying hu, sb, size_run hs]
    · cases h
  · rename_i n e b off hu hev
    rw [hev] at hx
    split at h
    · rename_i s m x1 hh x2 l x3 hs hm hhi' hl
      split at h
      · cases h
      · rename_i hno
        simp only [Option.some.injEq, Prod.mk.injEq, Bool.and_eq_true] at h
        obtain ⟨rfl, ⟨⟨⟨⟨h1, h2⟩, h3⟩, h4⟩, h5⟩, h6⟩ := h
        have h4 := Nat.le_of_ble_eq_true h4
        have h5 := Nat.le_of_ble_eq_true h5
        have h6 := Nat.le_of_ble_eq_true h6
        have q0 := bound_spec hm h1 hmx
        have q1 := bound_spec hl h3 hlo
        have q2 := bound_spec hhi' h2 hhi
        generalize hw : ec x = u at hx
        cases hx with
        | ptr _ _ lc hρ =>
          refine ⟨_, .sl _ _ _ _ lc _ hρ rfl (by omega), fun w => ?_⟩
          have sb := sliceBounds_run (P := P) false n n m hh l (lo.map ec) (hi.map ec) (mx.map ec) (q0.elim (fun q => .inl ⟨by rw [q.1]; rfl, q.2⟩) (fun ⟨k, q⟩ => .inr ⟨k, q, h4⟩))
            (q2.elim (fun q => .inl ⟨by rw [q.1]; rfl, by
              cases mx with
              | none => rfl
              | some y => exact absurd (by simp [q.1]) hno, q.2⟩) (fun ⟨k, q⟩ => .inr ⟨k, q, h5⟩)) (q1.elim (fun q => .inl ⟨by rw [q.1]; rfl, q.2⟩) (fun ⟨k, q⟩ => .inr ⟨k, q, h6⟩)) w
          have bb := bif_addr _ lc.blk lc.base off (l * s.size) m l rfl
          simp [Instr.sliceAt, run_underlying hu, Instr.sureAddr, sb, size_run hs]
          split
          · rename_i e; simp [e]
          · rename_i e; simp only [if_neg e] at bb; simpa using bb
    · cases h
  · cases h

/-- The operands of an operation are told. -/
def OpsRel (ρ : Rho) (ev : Operand → AVal) (ec : Operand → Value) (op : Op) : Prop := ∀ x, x ∈ op.operands → VRel ρ (ev x) (ec x)

theorem partsRel_of {ev : Operand → AVal} {ec : Operand → Value} : ∀ (ps : List (Nat × Operand)), (∀ p ∈ ps, VRel ρ (ev p.2) (ec p.2)) → PartsRel ρ (ps.map fun p => (p.1, ev p.2)) (ps.map fun p => (p.1, ec p.2)) := fun ps h =>
  All2.maps _ _ ps fun p hp => ⟨rfl, h p hp⟩

theorem aPure_sound {o : Oper} {ev : Operand → AVal} {ec : Operand → Value} {v : AVal} {b : Bool} (h : aPure P o.op ev = some (v, b)) (hb : b = true) (hr : OpsRel ρ ev ec o.op) :
    ∃ u, VRel ρ v u ∧ ∀ w, (execOp ec o).run P w = .ok (.value u) w := by
  obtain ⟨dst, op, type, pos, after, guard⟩ := o
  simp only at h hr ⊢
  have lift : ∀ {s : Sem Value}, (∃ z, VRel ρ v z ∧ ∀ w, s.run P w = .ok z w) → (∀ w, (execOp ec ⟨dst, op, type, pos, after, guard⟩).run P w = (do pure (.value (← s)) : Sem Next).run P w) →
      ∃ u, VRel ρ v u ∧ ∀ w, (execOp ec ⟨dst, op, type, pos, after, guard⟩).run P w = .ok (.value u) w := by
    intro s ⟨z, hz, hs⟩ he
    exact ⟨z, hz, fun w => by rw [he]; simp [hs]⟩
  cases op with
  | move x =>
    simp only [aPure, Option.some.injEq, Prod.mk.injEq] at h
    obtain ⟨rfl, _⟩ := h
    exact ⟨ec x, hr x (by simp [Op.operands]), fun w => rfl⟩
  | assign x =>
    simp only [aPure, Option.some.injEq, Prod.mk.injEq] at h
    obtain ⟨rfl, _⟩ := h
    exact ⟨ec x, hr x (by simp [Op.operands]), fun w => rfl⟩
  | pick c x y =>
    have hc := hr c (by simp [Op.operands])
    have hx := hr x (by simp [Op.operands])
    have hy := hr y (by simp [Op.operands])
    unfold aPure at h
    simp only at h
    split at h
    · rename_i cb e
      rw [e] at hc
      generalize hw : ec c = u at hc
      cases hc
      simp only [Option.some.injEq, Prod.mk.injEq] at h
      obtain ⟨rfl, _⟩ := h
      cases cb
      · exact ⟨ec y, hy, fun w => by simp [execOp, hw, asBool]⟩
      · exact ⟨ec x, hx, fun w => by simp [execOp, hw, asBool]⟩
    · cases h
  | build t parts =>
    simp only [aPure, Option.map_eq_some_iff, Prod.mk.injEq] at h
    obtain ⟨v', hv, rfl, _⟩ := h
    refine lift (aBuild_sound hv (partsRel_of _ fun p hp => hr p.2 ?_)) fun w => ?_
    · simp only [Op.operands, List.mem_toArray, List.mem_map]; exact ⟨p, hp, rfl⟩
    · have : (parts.map fun (i, x) => (i, ec x)) = (parts.toList.map fun p => (p.1, ec p.2)).toArray := by
        apply Array.ext'; simp
      simp only [execOp, this]
  | nilCheck x =>
    have hx := hr x (by simp [Op.operands])
    unfold aPure at h
    simp only at h
    split at h
    all_goals first
      | (rename_i e
         rw [e] at hx
         simp only [Option.some.injEq, Prod.mk.injEq] at h
         obtain ⟨rfl, _⟩ := h
         refine ⟨ec x, hx, fun w => ?_⟩
         generalize hw : ec x = u at hx
         cases hx <;> simp [execOp, hw])
      | cases h
  | binOp op t x y yt =>
    have hx := hr x (by simp [Op.operands])
    have hy := hr y (by simp [Op.operands])
    exact lift (aBin_sound (by simpa only [aPure] using h) hb hx hy x y) fun w => rfl
  | unOp op t x =>
    have hx := hr x (by simp [Op.operands])
    simp only [aPure, Option.map_eq_some_iff, Prod.mk.injEq] at h
    obtain ⟨v', hv, rfl, _⟩ := h
    exact lift (aUn_sound hv hx) fun w => rfl
  | convert src dst' x =>
    have hx := hr x (by simp [Op.operands])
    unfold aPure at h
    simp only at h
    split at h
    · rename_i sd k k' n hs hu e
      rw [e] at hx
      generalize hw : ec x = u at hx
      cases hx
      simp only [Option.some.injEq, Prod.mk.injEq] at h
      obtain ⟨rfl, _⟩ := h
      refine ⟨_, .int _ _, fun w => ?_⟩
      cases sd <;> simp [execOp, Go.convert, hw, run_underlying hs, run_underlying hu, Conv.intToInt]
    · cases h
  | makeInterface t x =>
    have hx := hr x (by simp [Op.operands])
    unfold aPure at h
    simp only at h
    split at h
    · cases h
    · cases h
    · rename_i d hni hu
      simp only [Option.some.injEq, Prod.mk.injEq] at h
      obtain ⟨rfl, _⟩ := h
      refine ⟨_, .ifc t _ _ hx, fun w => ?_⟩
      cases d <;> first | exact absurd rfl (hni _) | simp [execOp, Instr.makeInterface, run_underlying hu]
  | makeFunc fn first captured =>
    cases fn with
    | func f =>
      unfold aPure at h
      simp only at h
      cases hf : first.isEmpty with
      | false =>
        rw [hf, cond_false] at h
        cases hc : captured.isEmpty with
        | false => rw [hc] at h; cases h
        | true =>
          rw [hc, cond_true] at h
          simp only [Option.some.injEq, Prod.mk.injEq] at h
          obtain ⟨rfl, _⟩ := h
          have hc : captured = #[] := by simpa using hc
          subst hc
          refine ⟨_, .fnb f _ (first.map ec) (by simp) fun i h1 h2 => ?_, fun w => by simp [execOp, Instr.makeFunc]⟩
          have : i < first.size := by simpa using h2
          simpa using hr first[i] (by simp [Op.operands])
      | true =>
        rw [hf, cond_true] at h
        simp only [Option.some.injEq, Prod.mk.injEq] at h
        obtain ⟨rfl, _⟩ := h
        have hf : first = #[] := by simpa using hf
        subst hf
        refine ⟨_, .fn f _ (captured.map ec) (by simp) fun i h1 h2 => ?_, fun w => by simp [execOp, Instr.makeFunc]⟩
        have : i < captured.size := by simpa using h2
        simpa using hr captured[i] (by simp [Op.operands])
    | _ => simp [aPure] at h
  | fieldAddr t x f =>
    have hx := hr x (by simp [Op.operands])
    simp only [aPure, Option.map_eq_some_iff, Prod.mk.injEq] at h
    obtain ⟨v', hv, rfl, _⟩ := h
    exact lift (aFieldAddr_sound hv hx) fun w => rfl
  | field t x f =>
    have hx := hr x (by simp [Op.operands])
    simp only [aPure, Option.map_eq_some_iff, Prod.mk.injEq] at h
    obtain ⟨v', hv, rfl, _⟩ := h
    exact lift (aField_sound hv hx) fun w => rfl
  | indexAddr t x i =>
    have hx := hr x (by simp [Op.operands])
    have hi := hr i (by simp [Op.operands])
    exact lift (aIndexAddr_sound (by simpa only [aPure] using h) hb hx hi) fun w => rfl
  | index t x i =>
    have hx := hr x (by simp [Op.operands])
    have hi := hr i (by simp [Op.operands])
    exact lift (aIndex_sound (by simpa only [aPure] using h) hb hx hi) fun w => rfl
  | extract x i =>
    have hx := hr x (by simp [Op.operands])
    unfold aPure at h
    simp only at h
    split at h
    · rename_i vs e
      rw [e] at hx
      simp only [Option.map_eq_some_iff, Prod.mk.injEq] at h
      obtain ⟨v', hv, rfl, _⟩ := h
      obtain ⟨hlt, rfl⟩ := List.getElem?_eq_some_iff.1 hv
      generalize hw : ec x = u at hx
      cases hx with
      | tup _ us hl hh =>
        have h2 : i < us.size := by omega
        exact ⟨us[i], hh i hlt h2, fun w => by simp [execOp, Instr.extract, hw, h2]⟩
    · cases h
  | slice t x lo hi mx =>
    refine lift (aSlice_sound (by simpa only [aPure] using h) hb (hr x (by simp [Op.operands])) (fun y hy => hr y ?_) (fun y hy => hr y ?_) (fun y hy => hr y ?_)) fun w => rfl
    all_goals (subst hy; simp [Op.operands])
  | call c =>
    obtain ⟨callee, args, argTypes⟩ := c
    cases callee with
    | builtin bi =>
      simp only [aPure, Option.map_eq_some_iff, Prod.mk.injEq] at h
      obtain ⟨v', hv, rfl, _⟩ := h
      obtain ⟨z, hz, hs⟩ := aBuiltin_sound (ts := argTypes) (us := args.map ec) (type := type) hv (by
        rw [Array.toList_map]
        exact All2.maps _ _ _ fun a ha => hr a (by simp [Op.operands, Call.operands]; exact Array.mem_toList_iff.1 ha))
      exact ⟨z, hz, fun w => by simp [execOp, resolve, invoke, hs]⟩
    | value f => simp [aPure] at h
    | invoke r m => simp [aPure] at h
  | _ => simp [aPure] at h

end
end Go.Am
