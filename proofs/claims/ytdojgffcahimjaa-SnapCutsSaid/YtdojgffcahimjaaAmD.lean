/- Operations that leave memory alone, continued: values that are built, addresses, slices; and all of them. -/
import Derived.Test.YtdojgffcahimjaaAmC
namespace Go.Am

section
variable {P : Program} {ρ : Rho} 

theorem ofScalar_rel (v : Value) : VRel ρ (ofScalar v) v := by
  cases v with
  | bool b => exact .bool b
  | int k n => exact .int k n
  | string s => exact .str s.data.toList
  | pointer a => cases a with
    | none => exact .nilp
    | some a => exact .undef _
  | slice a n c =>
    cases a with
    | some a => exact .undef _
    | none =>
      cases n with
      | succ n => exact .undef _
      | zero => cases c with
        | zero => exact .nils
        | succ c => exact .undef _
  | nilFunc => exact .nilf
  | nilIface => exact .nili
  | _ => exact .undef _

theorem ofV_scalar (v : Value) (h : ∀ cs, v ≠ .agg cs) : ofV v = ofScalar v := by
  cases v <;> first | rfl | exact absurd rfl (h _)

theorem ofV_rel (v : Value) : VRel ρ (ofV v) v := by
  by_cases h : ∃ cs, v = .agg cs
  · obtain ⟨cs, rfl⟩ := h
    refine .agg _ _ (by simp) fun i h1 h2 => ?_
    have := ofScalar_rel (ρ := ρ) (cs[i])
    simpa using this
  · rw [ofV_scalar v fun cs e => h ⟨cs, e⟩]
    exact ofScalar_rel v

theorem ofScalar_cells (v : Value) : (ofScalar v).cells = [ofScalar v] := by
  unfold ofScalar
  split <;> rfl

theorem ofV_cells (v : Value) : VRels ρ (ofV v).cells v.cells := by
  by_cases h : ∃ cs, v = .agg cs
  · obtain ⟨cs, rfl⟩ := h
    refine ⟨by simp [ofV, AVal.cells, Value.cells], fun i h1 h2 => ?_⟩
    have := ofScalar_rel (ρ := ρ) (cs[i]'(by simpa [Value.cells] using h2))
    simp only [ofV, AVal.cells, List.getElem_map, Array.getElem_toList]
    exact this
  · rw [ofV_scalar v fun cs e => h ⟨cs, e⟩, ofScalar_cells]
    have hc : v.cells = #[v] := by cases v <;> first | rfl | exact absurd ⟨_, rfl⟩ h
    rw [hc]
    refine ⟨rfl, fun i h1 h2 => ?_⟩
    have h0 : i = 0 := by simp at h1; exact h1
    subst h0
    exact ofScalar_rel v

theorem zeroOf_sound {t : TypeId} {z : List AVal} (h : zeroOf P t = some z) : ∃ i v, P.info? t = some i ∧ i.zero = some v ∧ VRels ρ z v.cells ∧ ∀ w, (zeroValue t).run P w = .ok v w := by
  unfold zeroOf at h
  cases hi : P.info? t with
  | none => simp [hi] at h
  | some i =>
    simp only [hi, Option.map_eq_some_iff] at h
    obtain ⟨v, hz, rfl⟩ := h
    exact ⟨i, v, rfl, hz, ofV_cells v, fun w => by simp [zeroValue, run_typeInfo w hi, hz]⟩

theorem fold_set (off : Nat) : ∀ (l : List Value) (k : Nat) (cells : Array Value), off + k + l.length ≤ cells.size →
    (l.zipIdx k).foldl (fun cs p => cs.setIfInBounds (off + p.2) p.1) cells = (cells.toList.take (off + k) ++ l ++ cells.toList.drop (off + k + l.length)).toArray
  | [], k, cells, _ => by simp
  | v :: l, k, cells, h => by
    simp only [List.zipIdx_cons, List.foldl_cons]
    rw [fold_set off l (k + 1) _ (by simp at h ⊢; omega)]
    have e := list_seg_step cells.toList (off + k) v l (by simp at h ⊢; omega)
    simpa [Array.toList_setIfInBounds, Nat.add_assoc] using e

theorem VRels.splice {cells : List AVal} {arr : Array Value} {c : List AVal} {vs : Array Value} {off : Nat} (h : VRels ρ cells arr) (hc : VRels ρ c vs) (hfit : off + c.length ≤ cells.length) :
    VRels ρ (cells.take off ++ c ++ cells.drop (off + c.length)) (arr.toList.take off ++ vs.toList ++ arr.toList.drop (off + vs.toList.length)).toArray := by
  have e1 := h.1
  have e2 := hc.1
  have f1 : off + vs.toList.length ≤ arr.toList.length := by simp; omega
  refine ⟨by rw [List.size_toArray, splice_length _ _ _ hfit, splice_length _ _ _ f1]; simpa using e1, fun i h1 h2 => ?_⟩
  rw [splice_length _ _ _ hfit] at h1
  have g1 := splice_get cells c off i hfit
  have g2 := splice_get arr.toList vs.toList off i f1
  rw [List.getElem?_eq_getElem (by rw [splice_length _ _ _ hfit]; exact h1)] at g1
  rw [List.getElem?_eq_getElem (by simpa using h2)] at g2
  rw [List.getElem_toArray]
  by_cases k1 : i < off
  · rw [if_pos k1, List.getElem?_eq_getElem h1] at g1
    rw [if_pos k1, List.getElem?_eq_getElem (by simp; omega)] at g2
    rw [Option.some.inj g1, Option.some.inj g2]
    simpa using h.2 i h1 (by omega)
  · by_cases k2 : i < off + c.length
    · rw [if_neg k1, if_pos k2, List.getElem?_eq_getElem (by omega)] at g1
      rw [if_neg k1, if_pos (by simp; omega), List.getElem?_eq_getElem (by simp; omega)] at g2
      rw [Option.some.inj g1, Option.some.inj g2]
      simpa using hc.2 (i - off) (by omega) (by omega)
    · rw [if_neg k1, if_neg k2, List.getElem?_eq_getElem h1] at g1
      rw [if_neg k1, if_neg (by simp; omega), List.getElem?_eq_getElem (by simp; omega)] at g2
      rw [Option.some.inj g1, Option.some.inj g2]
      simpa using h.2 i h1 (by omega)

/-- Parts, by number. -/
def PartsRel (ρ : Rho) (ps : List (Nat × AVal)) (qs : List (Nat × Value)) : Prop :=
  All2 (fun p q => p.1 = q.1 ∧ VRel ρ p.2 q.2) ps qs

theorem aFill_sound {place : Nat → Option (Nat × Nat)} : ∀ {ps : List (Nat × AVal)} {qs : List (Nat × Value)} {cells out : List AVal} {arr : Array Value}, aFill place cells ps = some out →
    VRels ρ cells arr → PartsRel ρ ps qs → ∃ arr', Instr.fill place arr qs = some arr' ∧ VRels ρ out arr'
  | [], _, cells, out, arr, h, hr, hp => by
    cases hp
    simp only [aFill, Option.some.injEq] at h
    subst h
    exact ⟨arr, rfl, hr⟩
  | (i, v) :: ps, _, cells, out, arr, h, hr, hp => by
    cases hp with
    | @cons _ q _ qs hq hqs =>
      obtain ⟨j, u⟩ := q
      obtain ⟨hij, hv⟩ := hq
      simp only at hij hv
      subst hij
      unfold aFill at h
      cases hpl : place i with
      | none => simp [hpl] at h
      | some pl =>
        obtain ⟨off, size⟩ := pl
        simp only [hpl] at h
        cases hc : (boxable v && Nat.beq v.cells.length size && Nat.ble (off + size) cells.length) with
        | false => rw [hc] at h; cases h
        | true =>
          rw [hc, cond_true] at h
          simp only [Bool.and_eq_true] at hc
          obtain ⟨⟨hb, hs⟩, hf⟩ := hc
          have hs := Nat.eq_of_beq_eq_true hs
          have hf := Nat.le_of_ble_eq_true hf
          have hcells := hv.cells hb
          have hsz : u.cells.size = size := by rw [← hcells.1]; exact hs
          have hfit : off + v.cells.length ≤ cells.length := by omega
          rw [← hs] at h
          obtain ⟨arr', h1, h2⟩ := aFill_sound h (hr.splice hcells hfit) hqs
          refine ⟨arr', ?_, h2⟩
          unfold Instr.fill
          simp only [hpl]
          have hle : off + u.cells.size ≤ arr.size := by rw [← hr.1, hsz]; omega
          have hz : ¬ (u.cells.size ≠ size || decide (off + u.cells.size > arr.size)) = true := by simp [hsz]; rw [hsz] at hle; exact hle
          rw [if_neg hz]
          rw [← h1]
          congr 1
          rw [← Array.foldl_toList, Array.toList_zipIdx]
          have := fold_set off u.cells.toList 0 arr (by simpa using hle)
          simpa using this

theorem fieldPlaces_run : ∀ {fs : List Field} {pl : List (Nat × Nat)}, fieldPlaces P fs = some pl → ∀ w, (fs.mapM fun f => Prod.mk f.offset <$> sizeOf f.type : Sem (List (Nat × Nat))).run P w = .ok pl w
  | [], pl, h, w => by simp [fieldPlaces] at h; subst h; simp
  | f :: fs, pl, h, w => by
    unfold fieldPlaces at h
    cases hi : P.info? f.type with
    | none => simp [hi] at h
    | some i =>
      cases hr : fieldPlaces P fs with
      | none => simp [hi, hr] at h
      | some l =>
        simp only [hi, hr, Option.some.injEq] at h
        subst h
        have := fieldPlaces_run hr w
        simp [List.mapM_cons, size_run hi, this]

theorem aBuild_sound {t : TypeId} {ps : List (Nat × AVal)} {qs : List (Nat × Value)} {v : AVal} (h : aBuild P t ps = some v) (hp : PartsRel ρ ps qs) :
    ∃ u, VRel ρ v u ∧ ∀ w, (Instr.build t qs.toArray).run P w = .ok u w := by
  unfold aBuild at h
  split at h
  · rename_i fs zero hu hz
    obtain ⟨i, z, _, _, hzr, hzv⟩ := zeroOf_sound (ρ := ρ) hz
    split at h
    · rename_i pl hpl
      simp only [Option.map_eq_some_iff] at h
      obtain ⟨cells, hc, rfl⟩ := h
      obtain ⟨arr, h1, h2⟩ := aFill_sound hc hzr hp
      refine ⟨.agg arr, .agg _ _ h2.1 h2.2, fun w => ?_⟩
      have hpr := fieldPlaces_run hpl w
      simp [Instr.build, hzv, run_underlying hu, Array.mapM_eq_mapM_toList, hpr, h1]
    · cases h
  · rename_i n e zero hu hz
    obtain ⟨i, z, _, _, hzr, hzv⟩ := zeroOf_sound (ρ := ρ) hz
    split at h
    · rename_i i hi
      simp only [Option.map_eq_some_iff] at h
      obtain ⟨cells, hc, rfl⟩ := h
      obtain ⟨arr, h1, h2⟩ := aFill_sound hc hzr hp
      exact ⟨.agg arr, .agg _ _ h2.1 h2.2, fun w => by simp [Instr.build, hzv, run_underlying hu, size_run hi, h1]⟩
    · cases h
  · cases h

/-! ### Addresses -/
theorem addr_add (b o n : Nat) : (⟨b, o, none⟩ : Addr).add n = ⟨b, o + n, none⟩ := by
  unfold Addr.add
  split
  · rename_i h; subst h; rfl
  · rfl

theorem VRel.dptr_drop {cs : List AVal} {blk base : Nat} {val : Nat → Value} (hv : ∀ (j : Nat) (hj : j < cs.length), VRel ρ.bare cs[j] (val j)) (hh : ∀ j, j < cs.length → HCell ρ.fz blk (base + j) (val j)) (k : Nat) :
    VRel ρ (.dptr (cs.drop k)) (.pointer (some ⟨blk, base + k, none⟩)) :=
  .dptr _ _ _ (fun j => val (k + j)) (fun j hj => by simpa using hv (k + j) (by simp at hj; omega)) (fun j hj => by rw [Nat.add_assoc]; exact hh (k + j) (by simp at hj; omega))

theorem aIndexAddr_sound {t : TypeId} {x i v : AVal} {u ui : Value} {b : Bool} (h : aIndexAddr P t x i = some (v, b)) (hb : b = true) (hx : VRel ρ x u) (hi : VRel ρ i ui) :
    ∃ z, VRel ρ v z ∧ ∀ w, (Instr.indexAt t u ui).run P w = .ok z w := by
  subst hb
  unfold aIndexAddr at h
  split at h
  · rename_i len e b off k n hu
    cases hi
    simp only [Option.map_eq_some_iff, Prod.mk.injEq, decide_eq_true_eq] at h
    obtain ⟨s, hs, rfl, hn⟩ := h
    cases hx with
    | ptr _ _ l hl =>
      refine ⟨_, .ptr _ _ l hl, fun w => ?_⟩
      simp [Instr.indexAt, asIntOf, run_underlying hu, Instr.sureAddr, hn, size_run hs, addr_add, Nat.add_assoc]
  · rename_i len e cs k n hu
    cases hi
    simp only [Option.map_eq_some_iff, Prod.mk.injEq, decide_eq_true_eq] at h
    obtain ⟨s, hs, rfl, hn⟩ := h
    cases hx with
    | dptr _ blk base val hv hh =>
      refine ⟨_, VRel.dptr_drop hv hh _, fun w => ?_⟩
      simp [Instr.indexAt, asIntOf, run_underlying hu, Instr.sureAddr, hn, size_run hs, addr_add]
  · rename_i e b off len cap k n hu
    cases hi
    simp only [Option.map_eq_some_iff, Prod.mk.injEq, decide_eq_true_eq] at h
    obtain ⟨s, hs, rfl, hn⟩ := h
    cases hx with
    | sl _ _ _ _ l c hl hc hlen =>
      refine ⟨_, .ptr _ _ l hl, fun w => ?_⟩
      simp [Instr.indexAt, asIntOf, run_underlying hu, hn, size_run hs, addr_add, Nat.add_assoc]
  · rename_i e len get k n hu
    cases hi
    simp only [Option.map_eq_some_iff, Prod.mk.injEq, Bool.and_eq_true, decide_eq_true_eq] at h
    obtain ⟨s, hs, rfl, hn, hl⟩ := h
    have hl := Nat.eq_of_beq_eq_true hl
    cases hx with
    | dat _ _ blk base sz cap val hcap hsz hv hh =>
      have hlt : n.toNat < len := by omega
      have hse : sz = s.size := by rw [← hsz _ hlt]; exact hl
      refine ⟨_, .dptr _ blk (base + n.toNat * s.size) (val n.toNat) (fun j hj => hv _ j hlt hj) (fun j hj => ?_), fun w => ?_⟩
      · have := hh n.toNat j hlt (by rw [← hsz _ hlt]; exact hj)
        rw [hse] at this
        rw [Nat.add_assoc]; exact this
      · simp [Instr.indexAt, asIntOf, run_underlying hu, hn, size_run hs, addr_add]
    | datn => omega
  · rename_i e b sz off len cap k n hu
    cases hi
    simp only [Option.map_eq_some_iff, Prod.mk.injEq, Bool.and_eq_true, decide_eq_true_eq] at h
    obtain ⟨s, hs, rfl, hn, hl⟩ := h
    have hl := Nat.eq_of_beq_eq_true hl
    cases hx with
    | sla _ _ _ _ _ l c hl' hc hlen =>
      refine ⟨_, .epa _ _ _ _ l hl', fun w => ?_⟩
      simp [Instr.indexAt, asIntOf, run_underlying hu, hn, size_run hs, addr_add, hl, Nat.add_mul, Nat.add_assoc]
    | slan => omega
  · rename_i len e b sz r fo k n hu
    cases hi
    simp only [Option.map_eq_some_iff, Prod.mk.injEq, decide_eq_true_eq] at h
    obtain ⟨s, hs, rfl, hn⟩ := h
    cases hx with
    | epa _ _ _ _ l hl =>
      refine ⟨_, .epa _ _ _ _ l hl, fun w => ?_⟩
      simp [Instr.indexAt, asIntOf, run_underlying hu, Instr.sureAddr, hn, size_run hs, addr_add, Nat.add_assoc]
  · cases h

theorem aFieldAddr_sound {t : TypeId} {x v : AVal} {f : Nat} {u : Value} (h : aFieldAddr P t x f = some v) (hx : VRel ρ x u) :
    ∃ z, VRel ρ v z ∧ ∀ w, (Instr.fieldAt t u f).run P w = .ok z w := by
  unfold aFieldAddr at h
  split at h
  · rename_i fs hu
    split at h
    · rename_i fd hf
      split at h
      · rename_i i hi
        cases hz : Nat.beq i.size 0 with
        | true => rw [hz] at h; cases h
        | false =>
          rw [hz, cond_false] at h
          have hne : i.size ≠ 0 := fun e => by rw [e] at hz; cases hz
          split at h
          · obtain rfl := Option.some.inj h
            cases hx with
            | ptr _ _ l hl => exact ⟨_, .ptr _ _ l hl, fun w => by simp [Instr.fieldAt, run_underlying hu, hf, Instr.sureAddr, fieldPlace, size_run hi, hne, addr_add, Nat.add_assoc]⟩
          · obtain rfl := Option.some.inj h
            cases hx with
            | dptr _ blk base val hv hh => exact ⟨_, VRel.dptr_drop hv hh _, fun w => by simp [Instr.fieldAt, run_underlying hu, hf, Instr.sureAddr, fieldPlace, size_run hi, hne, addr_add]⟩
          · obtain rfl := Option.some.inj h
            cases hx with
            | epa _ _ _ _ l hl => exact ⟨_, .epa _ _ _ _ l hl, fun w => by simp [Instr.fieldAt, run_underlying hu, hf, Instr.sureAddr, fieldPlace, size_run hi, hne, addr_add, Nat.add_assoc]⟩
          · cases h
      · cases h
    · cases h
  · cases h

theorem aField_sound {t : TypeId} {x v : AVal} {f : Nat} {u : Value} (h : aField P t x f = some v) (hx : VRel ρ x u) :
    ∃ z, VRel ρ v z ∧ ∀ w, (Instr.field t u f).run P w = .ok z w := by
  unfold aField at h
  split at h
  · rename_i fs cs hu
    split at h
    · rename_i fd hf
      cases hx with
      | agg _ vs hl hh =>
        obtain ⟨z, hz, hr⟩ := partOf_sound h ⟨hl, hh⟩
        exact ⟨z, hz, fun w => by simp [Instr.field, run_underlying hu, hf, asAgg, hr]⟩
    · cases h
  · cases h

theorem aIndex_sound {t : TypeId} {x i v : AVal} {u ui : Value} {b : Bool} (h : aIndex P t x i = some (v, b)) (hb : b = true) (hx : VRel ρ x u) (hi : VRel ρ i ui) :
    ∃ z, VRel ρ v z ∧ ∀ w, (Instr.index t u ui).run P w = .ok z w := by
  subst hb
  unfold aIndex at h
  split at h
  · rename_i len e cs k n hu
    cases hi
    split at h
    · rename_i s hs
      simp only [Option.map_eq_some_iff, Prod.mk.injEq, decide_eq_true_eq] at h
      obtain ⟨v, hp, rfl, hn⟩ := h
      cases hx with
      | agg _ vs hl hh =>
        obtain ⟨z, hz, hr⟩ := partOf_sound hp ⟨hl, hh⟩
        exact ⟨z, hz, fun w => by simp [Instr.index, asIntOf, run_underlying hu, hn, size_run hs, hr]⟩
    · cases h
  · rename_i s k n hu
    cases hi
    cases hx
    simp only [Option.map_eq_some_iff, Prod.mk.injEq, decide_eq_true_eq] at h
    obtain ⟨c, hc, rfl, hn⟩ := h
    refine ⟨_, .int _ _, fun w => ?_⟩
    obtain ⟨hlt, rfl⟩ := List.getElem?_eq_some_iff.1 hc
    have e : (⟨s.toArray⟩ : ByteArray)[n.toNat]? = some s[n.toNat] := by
      rw [getElem?_pos _ _ (by simpa [ByteArray.size] using hlt)]
      simp [ByteArray.getElem_eq_getElem_data]
    simp [Instr.index, asIntOf, run_underlying hu, hn, e]
  · cases h

/-! ### min, max, len, cap -/
theorem minInts_run {k : IntKind} : ∀ {r : List AVal} {x n : Int} {us : List Value}, minInts k x r = some n → All2 (VRel ρ) r us → ∀ w, (us.foldlM Builtin.min2 (.int k x)).run P w = .ok (.int k n) w
  | [], x, n, _, h, hr, w => by cases hr; simp [minInts] at h; subst h; simp
  | a :: r, x, n, _, h, hr, w => by
    cases hr with
    | cons ha hrs =>
      cases a <;> simp only [minInts, iMin] at h <;> try (cases h; done)
      cases ha
      have := minInts_run h hrs w
      simp [List.foldlM_cons, Builtin.min2, this]
theorem maxInts_run {k : IntKind} : ∀ {r : List AVal} {x n : Int} {us : List Value}, maxInts k x r = some n → All2 (VRel ρ) r us → ∀ w, (us.foldlM Builtin.max2 (.int k x)).run P w = .ok (.int k n) w
  | [], x, n, _, h, hr, w => by cases hr; simp [maxInts] at h; subst h; simp
  | a :: r, x, n, _, h, hr, w => by
    cases hr with
    | cons ha hrs =>
      cases a <;> simp only [maxInts, iMax] at h <;> try (cases h; done)
      cases ha
      have := maxInts_run h hrs w
      simp [List.foldlM_cons, Builtin.max2, this]

theorem aBuiltin_sound {bi : Builtin} {ts : Array TypeId} {type : TypeId} {xs : List AVal} {us : Array Value} {v : AVal} (h : aBuiltin P bi ts.toList xs = some v) (hx : All2 (VRel ρ) xs us.toList) :
    ∃ z, VRel ρ v z ∧ ∀ (cst : Array Bool) (w : World), (builtin bi ts type cst us).run P w = .ok (.value z) w := by
  obtain ⟨ts⟩ := ts
  obtain ⟨us⟩ := us
  simp only at h hx
  unfold aBuiltin at h
  split at h
  · rename_i t _ x _
    cases hx with
    | cons ha _ =>
      split at h
      · rename_i hu
        cases ha
        obtain rfl := Option.some.inj h
        exact ⟨_, .int _ _, fun cst w => by simp [builtin, Builtin.len_, run_underlying hu, goInt, ← ByteArray.size_data]⟩
      · rename_i hu
        obtain rfl := Option.some.inj h
        exact ⟨_, .int _ _, fun cst w => by simp [builtin, Builtin.len_, run_underlying hu, goInt]⟩
      all_goals first
        | (rename_i hu
           obtain rfl := Option.some.inj h
           cases ha <;> exact ⟨_, .int _ _, fun cst w => by simp [builtin, Builtin.len_, run_underlying hu, goInt]⟩)
        | (cases h; done)
  · rename_i k x r
    cases hx with
    | cons ha hr =>
      cases ha
      simp only [Option.map_eq_some_iff] at h
      obtain ⟨n, hn, rfl⟩ := h
      have := minInts_run (P := P) hn hr
      exact ⟨_, .int _ _, fun cst w => by simp [builtin, Builtin.min_, this]⟩
  · rename_i k x r
    cases hx with
    | cons ha hr =>
      cases ha
      simp only [Option.map_eq_some_iff] at h
      obtain ⟨n, hn, rfl⟩ := h
      have := maxInts_run (P := P) hn hr
      exact ⟨_, .int _ _, fun cst w => by simp [builtin, Builtin.max_, this]⟩
  · rename_i t _ x _
    cases hx with
    | cons ha _ =>
      split at h
      · rename_i hu
        obtain rfl := Option.some.inj h
        cases ha with
        | sl _ _ _ _ l c hl hc hlen =>
          simp only [CapOk] at hc
          subst hc
          exact ⟨_, .int _ _, fun cst w => by simp [builtin, Builtin.cap_, run_underlying hu, goInt]⟩
      · rename_i hu
        obtain rfl := Option.some.inj h
        cases ha
        exact ⟨_, .int _ _, fun cst w => by simp [builtin, Builtin.cap_, run_underlying hu, goInt]⟩
      · cases h
  · cases h

end
end Go.Am
