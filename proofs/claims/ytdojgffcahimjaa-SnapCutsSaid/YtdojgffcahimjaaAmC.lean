/- Each operation that leaves memory alone does what the abstract one says. -/
import Derived.Test.YtdojgffcahimjaaAmB
import Derived.Laws.StructEq
import Derived.ChangeKeysEq
import Derived.WalkSpells
namespace Go.Am

section
variable {P : Program} {ρ : Rho} 

theorem isAggT_run {t : TypeId} {r : Bool} (h : isAggT P t = some r) (w : World) : (isAgg t).run P w = .ok r w := by
  unfold isAggT at h
  cases hu : P.underlying t with
  | none => simp [hu] at h
  | some d => cases d <;> simp [hu] at h <;> subst h <;> simp [isAgg, run_underlying hu]

theorem size_run {t : TypeId} {i : TypeInfo} (h : P.info? t = some i) (w : World) : (sizeOf t).run P w = .ok i.size w := by
  simp [sizeOf, run_typeInfo w h]

theorem cut_spec {cs p : List AVal} {off n : Nat} (h : cut cs off n = some p) : p = (cs.drop off).take n ∧ p.length = n ∧ (n = 0 ∨ off + n ≤ cs.length) := by
  unfold cut at h
  dsimp only at h
  cases hb : Nat.beq ((cs.drop off).take n).length n with
  | false => rw [hb] at h; cases h
  | true =>
    simp only [hb, cond_true, Option.some.injEq] at h
    have hl := Nat.eq_of_beq_eq_true hb
    subst h
    refine ⟨rfl, hl, ?_⟩
    simp at hl
    omega

theorem cut_get {cs p : List AVal} {off n : Nat} (h : cut cs off n = some p) (i : Nat) (hi : i < p.length) : ∃ h2 : off + i < cs.length, p[i] = cs[off + i] := by
  obtain ⟨rfl, hl, _⟩ := cut_spec h
  have : off + i < cs.length := by simp at hi; omega
  exact ⟨this, by simp⟩

theorem partOf_sound {t : TypeId} {cs : List AVal} {vs : Array Value} {off : Nat} {v : AVal} (h : partOf P t cs off = some v) (hr : VRels ρ cs vs) :
    ∃ u, VRel ρ v u ∧ ∀ w, (part t vs off).run P w = .ok u w := by
  unfold partOf at h
  split at h
  · rename_i i ha hi
    simp only [Option.map_eq_some_iff] at h
    obtain ⟨p, hp, rfl⟩ := h
    obtain ⟨_, hl, hle⟩ := cut_spec hp
    refine ⟨.agg (vs.extract off (off + i.size)), .agg _ _ ?_ ?_, fun w => ?_⟩
    · have := hr.1; simp; omega
    · intro j h1 h2
      obtain ⟨h3, e⟩ := cut_get hp j h1
      rw [e]
      have h4 : off + j < vs.size := by rw [← hr.1]; exact h3
      simpa using hr.2 (off + j) h3 h4
    · simp [part, isAggT_run ha, size_run hi]
  · rename_i i ha hi
    obtain ⟨hlt, rfl⟩ := List.getElem?_eq_some_iff.1 h
    have h4 : off < vs.size := by rw [← hr.1]; exact hlt
    exact ⟨vs[off], hr.2 off hlt h4, fun w => by simp [part, isAggT_run ha, Array.getElem?_eq_getElem h4]⟩
  · cases h

/-! ### Equality -/
theorem eqItems_sound {rec : TypeId → AVal → AVal → Option Bool} {dd : Nat} {e : TypeId} {c : Nat}
    (IH : ∀ x y r u u', rec e x y = some r → VRel ρ x u → VRel ρ y u' → ∀ w, (Op.equalIn dd e u u').run P w = .ok r w)
    {xs ys : List AVal} {us us' : Array Value} (hx : VRels ρ xs us) (hy : VRels ρ ys us') : ∀ (is : List Nat) (r : Bool),
    eqParts rec P xs ys (is.map fun j => (e, j * c)) = some r → ∀ w, (Op.eqItems dd e c us us' is).run P w = .ok r w
  | [], r, h, w => by simp [eqParts] at h; subst h; simp [Op.eqItems]
  | i :: is, r, h, w => by
    simp only [List.map_cons, eqParts] at h
    split at h
    · rename_i a b ha hb
      split at h
      · rename_i e1 f1 he hf
        obtain rfl := Option.some.inj h
        obtain ⟨u, hu, pu⟩ := partOf_sound ha hx
        obtain ⟨u', hu', pu'⟩ := partOf_sound hb hy
        have q := IH _ _ _ _ _ he hu hu' w
        have r := eqItems_sound IH hx hy is f1 hf w
        cases e1 <;> simp [Op.eqItems, pu, pu', q, r]
      · cases h
    · cases h

theorem eqFields_sound {rec : TypeId → AVal → AVal → Option Bool} {dd : Nat}
    (IH : ∀ e x y r u u', rec e x y = some r → VRel ρ x u → VRel ρ y u' → ∀ w, (Op.equalIn dd e u u').run P w = .ok r w)
    {xs ys : List AVal} {us us' : Array Value} (hx : VRels ρ xs us) (hy : VRels ρ ys us') : ∀ (fs : List Field) (r : Bool), fs.any (fun f => f.name == "_") = false →
    eqParts rec P xs ys (fs.map fun f => (f.type, f.offset)) = some r → ∀ w, (Op.eqFields dd us us' fs).run P w = .ok r w
  | [], r, _, h, w => by simp [eqParts] at h; subst h; simp [Op.eqFields]
  | f :: fs, r, hn, h, w => by
    simp only [List.any_cons, Bool.or_eq_false_iff] at hn
    simp only [List.map_cons, eqParts] at h
    split at h
    · rename_i a b ha hb
      split at h
      · rename_i e1 f1 he hf
        obtain rfl := Option.some.inj h
        obtain ⟨u, hu, pu⟩ := partOf_sound ha hx
        obtain ⟨u', hu', pu'⟩ := partOf_sound hb hy
        have q := IH _ _ _ _ _ _ he hu hu' w
        have r := eqFields_sound IH hx hy fs f1 hn.2 hf w
        have hne : f.name ≠ "_" := by simpa using hn.1
        cases e1 <;> simp [Op.eqFields, hne, pu, pu', q, r]
      · cases h
    · cases h

theorem aEq_sound (k : Nat) : ∀ (d : Nat) (t : TypeId) (x y : AVal) (r : Bool) (u u' : Value), aEq P d t x y = some r → VRel ρ x u → VRel ρ y u' → ∀ w, (Op.equalIn (k + d) t u u').run P w = .ok r w
  | 0, _, _, _, _, _, _, h, _, _, _ => by simp [aEq] at h
  | d + 1, t, x, y, r, u, u', h, hx, hy, w => by
    unfold aEq at h
    cases hu : P.underlying t with
    | none => simp [hu] at h
    | some ty =>
      rw [← Nat.add_assoc]
      cases ty <;> simp only [hu] at h <;> try (cases h; done)
      case bool =>
        split at h
        · cases hx; cases hy; obtain rfl := Option.some.inj h
          exact run_equalIn_bool' w _ t _ _ hu
        · cases h
      case int q =>
        split at h
        · split at h
          · rename_i hk
            subst hk
            cases hx; cases hy; obtain rfl := Option.some.inj h
            exact run_equalIn_int w _ t _ _ _ _ hu
          · cases h
        · cases h
      case string =>
        split at h
        · cases hx; cases hy; obtain rfl := Option.some.inj h
          rw [run_equalIn_string w _ t _ _ hu]
          simp [ByteArray.toList_eq]
        · cases h
      case array n e =>
        split at h
        · rename_i xs ys i hi
          cases hx with
          | agg _ us hl hh =>
            cases hy with
            | agg _ us' hl' hh' =>
              rw [run_equalIn_array w _ us us' hu hi]
              have hc : P.cellsOf e = i.size := by simp [Program.cellsOf, hi]
              rw [hc]
              exact eqItems_sound (fun x y r u u' e1 e2 e3 => aEq_sound k d e x y r u u' e1 e2 e3) ⟨hl, hh⟩ ⟨hl', hh'⟩ _ _ h w
        · cases h
      case struct fs =>
        split at h
        · rename_i xs ys
          cases hs : P.stoodInHeld t with
          | true => simp [hs] at h
          | false =>
            cases hn : fs.toList.any (fun f => f.name == "_") with
            | true => rw [hs, hn] at h; cases h
            | false =>
              rw [hs, hn] at h
              simp only [cond_false] at h
              cases hx with
              | agg _ us hl hh =>
                cases hy with
                | agg _ us' hl' hh' =>
                  have hfs : P.fieldsOf t = fs := by simp [Program.fieldsOf, hu]
                  rw [run_equalIn_struct w _ t us us' (by rw [hfs]; exact hu) hs, hfs]
                  exact eqFields_sound (fun e x y r u u' e1 e2 e3 => aEq_sound k d e x y r u u' e1 e2 e3) ⟨hl, hh⟩ ⟨hl', hh'⟩ _ _ hn h w
        · cases h

/-! ### Numbers -/
theorem aBits_sound {op : BinOp} {k : IntKind} {a b n : Int} (h : aBits op k a b = some n) : Op.intBits op k a b = pure (.int k n) := by
  cases op <;> simp only [aBits] at h <;> first | (cases h; done) | (obtain rfl := Option.some.inj h; rfl)

theorem eqGuard_int (op : BinOp) (t : TypeId) (x y : Operand) (k k' : IntKind) (a b : Int) (w : World) : (eqGuard op t x y (.int k a) (.int k' b)).run P w = .ok () w := by
  cases op <;> simp [eqGuard]

theorem aBin_sound {op : BinOp} {t : TypeId} {x y : AVal} {v : AVal} {b : Bool} {u u' : Value} (h : aBin P op t x y = some (v, b)) (hb : b = true) (hx : VRel ρ x u) (hy : VRel ρ y u') (ox oy : Operand) :
    ∃ z, VRel ρ v z ∧ ∀ w, (do eqGuard op t ox oy u u'; binOp op t u u' : Sem Value).run P w = .ok z w := by
  subst hb
  unfold aBin at h
  split at h
  · rename_i k a k' b
    cases hx; cases hy
    have g := fun w => eqGuard_int (P := P) op t ox oy k k' a b w
    split at h
    · simp only [Option.some.injEq, Prod.mk.injEq, Bool.not_eq_true', decide_eq_false_iff_not] at h
      obtain ⟨rfl, h0⟩ := h
      exact ⟨_, .int _ _, fun w => by simp [g, binOp, Op.shift, h0]⟩
    · simp only [Option.some.injEq, Prod.mk.injEq, Bool.not_eq_true', decide_eq_false_iff_not] at h
      obtain ⟨rfl, h0⟩ := h
      exact ⟨_, .int _ _, fun w => by simp [g, binOp, Op.shift, h0]⟩
    · rename_i hshl hshr
      split at h
      · rename_i hk
        subst hk
        have fin : ∀ n, aBits op k a b = some n → ∃ z, VRel ρ (.int k n) z ∧ ∀ w, (do eqGuard op t ox oy (.int k a) (.int k b); binOp op t (.int k a) (.int k b) : Sem Value).run P w = .ok z w := by
          intro n hn
          have e := aBits_sound hn
          refine ⟨_, .int _ _, fun w => ?_⟩
          cases op <;> simp only [aBits] at hn <;> first | (cases hn; done) | (simp [g, binOp, e]; done)
        cases op <;> dsimp only at h
        case shl => exact absurd rfl hshl
        case shr => exact absurd rfl hshr
        case quo =>
          simp only [Option.some.injEq, Prod.mk.injEq, Bool.not_eq_true', decide_eq_false_iff_not] at h
          obtain ⟨rfl, h0⟩ := h
          exact ⟨_, .int _ _, fun w => by simp [g, binOp, Op.intDiv, h0]⟩
        case rem =>
          simp only [Option.some.injEq, Prod.mk.injEq, Bool.not_eq_true', decide_eq_false_iff_not] at h
          obtain ⟨rfl, h0⟩ := h
          exact ⟨_, .int _ _, fun w => by simp [g, binOp, Op.intDiv, h0]⟩
        all_goals first
          | (simp only [Option.map_eq_some_iff, Prod.mk.injEq] at h
             obtain ⟨n, hn, rfl, _⟩ := h
             exact fin n hn)
          | (simp only [Option.some.injEq, Prod.mk.injEq] at h
             obtain ⟨rfl, _⟩ := h
             refine ⟨_, .int _ _, fun w => ?_⟩
             simp [g, binOp, Op.intArith]
             done)
          | (simp only [Option.some.injEq, Prod.mk.injEq] at h
             obtain ⟨rfl, _⟩ := h
             refine ⟨_, .bool _, fun w => ?_⟩
             simp [g, binOp, Op.intCmp]
             done)
      · cases h
  · rename_i a b
    cases hx; cases hy
    split at h
    · rename_i hu
      split at h
      · simp only [Option.some.injEq, Prod.mk.injEq] at h
        obtain ⟨rfl, _⟩ := h
        exact ⟨_, .bool _, fun w => by simp [eqGuard, binOp, Op.equal, Op.maxDepth, run_equalIn_bool' w _ t _ _ hu]⟩
      · simp only [Option.some.injEq, Prod.mk.injEq] at h
        obtain ⟨rfl, _⟩ := h
        exact ⟨_, .bool _, fun w => by simp [eqGuard, binOp, Op.equal, Op.maxDepth, run_equalIn_bool' w _ t _ _ hu]⟩
      · cases h
    · cases h
  · rename_i a b
    cases hx with
    | agg _ us hl hh =>
      cases hy with
      | agg _ us' hl' hh' =>
        cases hg : P.eqGuardType P.depth t with
        | true => simp [hg] at h
        | false =>
          simp only [hg, cond_false] at h
          split at h
          · simp only [Option.map_eq_some_iff, Prod.mk.injEq] at h
            obtain ⟨r, hr, rfl, _⟩ := h
            have q := fun w => aEq_sound 9970 30 t _ _ r _ _ hr (VRel.agg a us hl hh) (VRel.agg b us' hl' hh') w
            exact ⟨_, .bool _, fun w => by simp [run_eqGuard_agg w _ t ox oy us us' hg, run_eql_struct, q]⟩
          · simp only [Option.map_eq_some_iff, Prod.mk.injEq] at h
            obtain ⟨r, hr, rfl, _⟩ := h
            have q := fun w => aEq_sound 9970 30 t _ _ r _ _ hr (VRel.agg a us hl hh) (VRel.agg b us' hl' hh') w
            exact ⟨_, .bool _, fun w => by simp [run_eqGuard_agg w _ t ox oy us us' hg, run_neq_struct, q]⟩
          · cases h
  · cases hx with
    | sl _ _ _ _ l c hl hc hlen =>
      cases hy
      split at h
      · rename_i e hu
        have q := fun (w : World) (a : Addr) (n c : Nat) => Lib.run_equalIn_slice_nil (P := P) w 9999 t e (some a) n c 0 0 hu
        split at h
        · simp only [Option.some.injEq, Prod.mk.injEq] at h
          obtain ⟨rfl, _⟩ := h
          exact ⟨_, .bool _, fun w => by simp [eqGuard, binOp, Op.equal, Op.maxDepth, q]⟩
        · simp only [Option.some.injEq, Prod.mk.injEq] at h
          obtain ⟨rfl, _⟩ := h
          exact ⟨_, .bool _, fun w => by simp [eqGuard, binOp, Op.equal, Op.maxDepth, q]⟩
        · cases h
      · cases h
  · cases hx
    cases hy
    split at h
    · rename_i e hu
      have q := fun w => Lib.run_equalIn_slice_nil (P := P) w 9999 t e none 0 0 0 0 hu
      split at h
      · simp only [Option.some.injEq, Prod.mk.injEq] at h
        obtain ⟨rfl, _⟩ := h
        exact ⟨_, .bool _, fun w => by simp [eqGuard, binOp, Op.equal, Op.maxDepth, q]⟩
      · simp only [Option.some.injEq, Prod.mk.injEq] at h
        obtain ⟨rfl, _⟩ := h
        exact ⟨_, .bool _, fun w => by simp [eqGuard, binOp, Op.equal, Op.maxDepth, q]⟩
      · cases h
    · cases h
  · cases hx
    cases hy
    split at h
    · simp only [Option.some.injEq, Prod.mk.injEq] at h
      obtain ⟨rfl, _⟩ := h
      exact ⟨_, .bool _, fun w => by simp [eqGuard, binOp, Op.stringOp, ByteArray.toList_eq]⟩
    · simp only [Option.some.injEq, Prod.mk.injEq] at h
      obtain ⟨rfl, _⟩ := h
      exact ⟨_, .bool _, fun w => by simp [eqGuard, binOp, Op.stringOp, ByteArray.toList_eq]⟩
    · cases h
  · cases h

theorem aUn_sound {op : UnOp} {x v : AVal} {u : Value} (h : aUn op x = some v) (hx : VRel ρ x u) : ∃ z, VRel ρ v z ∧ ∀ w, (Op.unary op u).run P w = .ok z w := by
  unfold aUn at h
  split at h
  · cases hx
    obtain rfl := Option.some.inj h
    exact ⟨_, .int _ _, fun w => by simp [Op.unary, Op.intArith]⟩
  · cases hx
    simp only [Option.map_eq_some_iff] at h
    obtain ⟨n, hn, rfl⟩ := h
    exact ⟨_, .int _ _, fun w => by simp [Op.unary, aBits_sound hn]⟩
  · cases hx
    obtain rfl := Option.some.inj h
    exact ⟨_, .bool _, fun w => by simp [Op.unary]⟩
  · cases h

end
end Go.Am
