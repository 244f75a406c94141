/- Stretches of a run, and states told anew: blocks are dropped, numbered anew, or no more written. -/
import Derived.Test.YtdojgffcahimjaaAmV
namespace Go.Am
set_option linter.unusedVariables false

/-- How a state is told anew: the blocks (and loops) that stay, by their new numbers; those that nobody writes any more; the slots that stay, frame by frame (none: all). -/
structure Norm where
  keep : List Nat
  frz : List Nat
  slots : List (Option (List Nat))
  lslots : List (Option (List Nat)) := []

/-- The place of a number in a list. -/
def idxOf (b : Nat) : List Nat → Nat → Option Nat
  | [], _ => none
  | x :: l, i => bif Nat.beq x b then some i else idxOf b l (i + 1)

def hasN (b : Nat) : List Nat → Bool
  | [] => false
  | x :: l => bif Nat.beq x b then true else hasN b l

def chunk (cells : List AVal) (off sz : Nat) : Nat → List AVal := fun k => (cells.drop (off + k * sz)).take sz

/-- A value that points into a block that is frozen. -/
noncomputable def frzV (P : Program) (blk : ABlk) : AVal → AVal
  | .ptr _ o => .dptr (blk.cells.drop o)
  | .sl _ off len _ => match P.info? blk.ty with
    | some i => bif Nat.ble (off + len * i.size) blk.cells.length then .dat len (chunk blk.cells off i.size) else .undef
    | none => .undef
  | .sla _ sz off len _ => match blk.arr with
    | some A => bif Nat.beq A.sz sz && Nat.ble (off + len) A.n then .dat len (fun k => A.get (off + k)) else .undef
    | none => .undef
  | _ => .undef

noncomputable def renB (P : Program) (mem : Mem) (N : Norm) (b : Nat) (v : AVal) (f : Nat → AVal) : AVal :=
  match idxOf b N.keep 0 with
  | some b' => f b'
  | none => bif hasN b N.frz then match mget mem b with
      | some blk => frzV P blk v
      | none => .undef
    else .undef

noncomputable def ren (P : Program) (mem : Mem) (N : Norm) : Nat → AVal → AVal
  | 0, _ => .undef
  | d + 1, v => match v with
    | .ptr b o => renB P mem N b (.ptr b o) fun b' => .ptr b' o
    | .sl b off len cap => renB P mem N b (.sl b off len cap) fun b' => .sl b' off len cap
    | .sla b sz off len cap => renB P mem N b (.sla b sz off len cap) fun b' => .sla b' sz off len cap
    | .epa b sz i fo => renB P mem N b (.epa b sz i fo) fun b' => .epa b' sz i fo
    | .yld j => match idxOf j N.keep 0 with
      | some j' => .yld j'
      | none => .undef
    | .agg cs => .agg (cs.map (ren P mem N d))
    | .tup cs => .tup (cs.map (ren P mem N d))
    | .fn f cs => .fn f (cs.map (ren P mem N d))
    | .fnb f cs => .fnb f (cs.map (ren P mem N d))
    | .ifc t v => .ifc t (ren P mem N d v)
    | v => v

noncomputable def T.map (f : AVal → AVal) (t : T AVal) : T AVal :=
  T.rec (motive := fun _ => T AVal) .leaf (fun v _ _ l r => .node (f v) l r) t

noncomputable def keepEn (f : AVal → AVal) (env : T AVal) : List Nat → T AVal
  | [] => .leaf
  | t :: l => T.set .undef (keepEn f env l) t (f (T.get .undef env t))

noncomputable def renE (f : AVal → AVal) (env : T AVal) : Option (List Nat) → T AVal
  | none => T.map f env
  | some l => keepEn f env l

/-- Rows told anew. -/
noncomputable def renRw (f : AVal → AVal) : Rws → Rws
  | .flat g => .flat g
  | .one r cs b => .one r (cs.map f) (renRw f b)
  | .alt c a b => .alt c (renRw f a) (renRw f b)

/-- A block told anew. -/
noncomputable def renBlk (P : Program) (mem : Mem) (N : Norm) : ABlk → ABlk
  | ⟨cells, ty, none⟩ => ⟨cells.map (ren P mem N 6), ty, none⟩
  | ⟨_, ty, some A⟩ => ⟨rows A.n (renRw (ren P mem N 6) A.rw).get, ty, some ⟨A.sz, A.n, renRw (ren P mem N 6) A.rw⟩⟩

/-- No row that is told like others has an address. -/
noncomputable def flatRw : Rws → Bool
  | .flat g => pd (∀ i, (g i).all (pf 6) = true)
  | .one _ _ b => flatRw b
  | .alt _ a b => flatRw a && flatRw b
noncomputable def flatB (blk : ABlk) : Bool := match blk.arr with
  | none => true
  | some A => flatRw A.rw

/-- The blocks that stay; what is owed for it. -/
noncomputable def keepM (P : Program) (mem : Mem) (N : Norm) : List Nat → Nat → Mem × Bool
  | [], _ => (.leaf, true)
  | b :: l, i => match keepM P mem N l (i + 1) with
    | (m, o) => match mget mem b with
      | none => (m, o)
      | some blk => (mset m i (some (renBlk P mem N blk)), flatB blk && o)

/-- The blocks that are frozen can be. -/
noncomputable def frzOk (mem : Mem) : List Nat → Bool
  | [] => true
  | b :: l => match mget mem b with
    | none => frzOk mem l
    | some blk => (match blk.arr with
      | none => blk.cells.all (pf 6)
      | some A => pd (∀ i, (A.get i).all (pf 6) = true)) && frzOk mem l

noncomputable def keepL (f : AVal → AVal) (lps : Loops) : List Nat → Nat → List (Option (List Nat)) → Loops
  | [], _, _ => .leaf
  | b :: l, i, sl => match lget lps b with
    | none => keepL f lps l (i + 1) sl.tail
    | some ⟨st, pend, n, env, params, assign, body⟩ => lset (keepL f lps l (i + 1) sl.tail) i (some ⟨st, pend, n, renE f env (sl.headD none), params, assign, body⟩)

def renItem (keep : List Nat) : Item → Option Item
  | .inRangeFunc j => (idxOf j keep 0).map .inRangeFunc
  | .endRangeFunc j => (idxOf j keep 0).map .endRangeFunc
  | x => bif plainItem x then some x else none

def renItems (keep : List Nat) : List Item → Option (List Item)
  | [] => some []
  | x :: l => match renItem keep x, renItems keep l with
    | some y, some m => some (y :: m)
    | _, _ => none

def renRnd (keep : List Nat) : Option Nat → Option (Option Nat)
  | none => some none
  | some j => (idxOf j keep 0).map some

noncomputable def renCs (f : AVal → AVal) (keep : List Nat) : List AFr → List (Option (List Nat)) → Option (List AFr)
  | [], _ => some []
  | ⟨cx, ro, todo, rnd, rs, env⟩ :: cs, sl => match renItems keep todo, renRnd keep rnd, renCs f keep cs sl.tail with
    | some todo', some rnd', some cs' => some (⟨cx, ro, todo', rnd', rs, renE f env (sl.headD none)⟩ :: cs')
    | _, _, _ => none

def disj : List Nat → List Nat → Bool
  | [], _ => true
  | b :: l, frz => !hasN b frz && (!hasN b l && disj l frz)

noncomputable def normC (P : Program) (N : Norm) : Cfg → Option Cfg
  | ⟨cx, ro, todo, rnd, rs, ⟨env, mem, next, orc, ob⟩, cs, lps⟩ =>
    match renItems N.keep todo, renRnd N.keep rnd, renCs (ren P mem N 6) N.keep cs N.slots.tail with
    | some todo', some rnd', some cs' =>
      bif disj N.keep N.frz then
        match keepM P mem N N.keep 0 with
        | (mem', o) => some ⟨cx, ro, todo', rnd', rs, ⟨renE (ren P mem N 6) env (N.slots.headD none), mem', N.keep.length, [], o && (frzOk mem N.frz && ob)⟩, cs', keepL (ren P mem N 6) lps N.keep 0 N.lslots⟩
      else none
    | _, _, _ => none

/-- The code at a place in a function's body, and what is to do behind it. -/
def atP : Code → List Nat → List Item → Code × List Item
  | c, [], k => (c, k)
  | .seq a b, 0 :: p, k => atP a p (.code b :: k)
  | .seq _ b, _ :: p, k => atP b p k
  | .block id c, _ :: p, k => atP c p (.inBlock id :: k)
  | .loop c, _ :: p, k => atP c p (.inLoop c :: k)
  | .scope c, _ :: p, k => atP c p (.inScope c :: k)
  | .cond _ a _, 0 :: p, k => atP a p k
  | .cond _ _ b, _ :: p, k => atP b p k
  | .rangeFunc _ _ a b, 0 :: p, _ => atP a p [.beginRound, .code b]
  | .rangeFunc _ _ _ b, _ :: p, _ => atP b p []
  | c, _ :: _, k => (c, k)
def todoP (P : Program) (f : FuncId) (p : List Nat) (j : Nat) : List Item := match atP (bodyOf P f) p [] with
  | (c, k) => (.code c :: k).drop j
def codeP (P : Program) (f : FuncId) (p : List Nat) : Code := (atP (bodyOf P f) p []).1
def regP (P : Program) (f : FuncId) (p : List Nat) (i : Nat) : Option RegOps := match codeP P f p with
  | .region _ ops _ => some (ops, i, ops.toList.drop i)
  | _ => none

/-- So many steps. -/
noncomputable def iterS (P : Program) (S : Specs) (Rc : Runner) (n : Nat) : Cfg → Option Cfg :=
  Nat.rec (motive := fun _ => Cfg → Option Cfg) (fun C => some C) (fun _ R C => match stepS P S Rc C with
    | some C' => R C'
    | none => none) n

section
variable {P : Program}

theorem pd_of {p : Prop} (h : pd p = true) : p := @of_decide_eq_true p (Classical.propDecidable p) h
theorem pd_true {p : Prop} (h : p) : pd p = true := @decide_eq_true p (Classical.propDecidable p) h

theorem idxOf_spec {b : Nat} : ∀ {l : List Nat} {i j : Nat}, idxOf b l i = some j → i ≤ j ∧ l[j - i]? = some b
  | [], i, j, h => by cases h
  | x :: l, i, j, h => by
    unfold idxOf at h
    rcases bif_or h with ⟨hx, h⟩ | ⟨_, h⟩
    · obtain rfl := Option.some.inj h
      have := Nat.eq_of_beq_eq_true hx
      exact ⟨Nat.le_refl _, by simp [this]⟩
    · obtain ⟨h1, h2⟩ := idxOf_spec h
      refine ⟨by omega, ?_⟩
      rw [show j - i = (j - (i + 1)) + 1 by omega]
      simpa using h2

theorem hasN_iff {b : Nat} : ∀ {l : List Nat}, hasN b l = true ↔ b ∈ l
  | [] => by simp [hasN]
  | x :: l => by
    unfold hasN
    cases hx : Nat.beq x b with
    | true => simp [Nat.eq_of_beq_eq_true hx]
    | false =>
      have : x ≠ b := fun e => by rw [e, Nat.beq_refl] at hx; cases hx
      rw [cond_false, hasN_iff, List.mem_cons]
      exact ⟨.inr, fun h => h.resolve_left fun e => this e.symm⟩

theorem disj_spec : ∀ {l frz : List Nat}, disj l frz = true → l.Nodup ∧ ∀ b ∈ l, b ∉ frz
  | [], _, _ => ⟨List.nodup_nil, fun b hb => by cases hb⟩
  | x :: l, frz, h => by
    unfold disj at h
    simp only [Bool.and_eq_true, Bool.not_eq_true'] at h
    obtain ⟨h1, h2, h3⟩ := h
    obtain ⟨i1, i2⟩ := disj_spec h3
    have n1 : x ∉ frz := fun hm => by rw [hasN_iff.2 hm] at h1; cases h1
    have n2 : x ∉ l := fun hm => by rw [hasN_iff.2 hm] at h2; cases h2
    exact ⟨List.nodup_cons.2 ⟨n2, i1⟩, fun b hb => by
      rcases List.mem_cons.1 hb with rfl | hb
      · exact n1
      · exact i2 b hb⟩

/-- A block that is frozen by N. -/
def Fz (ρ : Rho) (mem : Mem) (N : Norm) (k : Nat) : Prop := ∃ b l, b ∈ N.frz ∧ ρ b = some l ∧ (mget mem b).isSome = true ∧ l.blk = k

/-- Where things lie then. -/
noncomputable def rhoN (ρ : Rho) (mem : Mem) (N : Norm) (w : World) : Rho :=
  ⟨fun b' => (N.keep[b']?).bind fun b => ρ b, fun k => @ite _ (Fz ρ mem N k) (Classical.propDecidable _) (w.heap[k]?) (ρ.fz k), fun j' => (N.keep[j']?).bind fun j => ρ.lp j⟩

theorem rhoN_fz_of {ρ : Rho} {mem : Mem} {next : Nat} {w : World} (h : Rel ρ mem next w) (N : Norm) {k : Nat} {o : Obj} (e : ρ.fz k = some o) : (rhoN ρ mem N w).fz k = some o := by
  show @ite _ (Fz ρ mem N k) (Classical.propDecidable _) (w.heap[k]?) (ρ.fz k) = some o
  by_cases hf : Fz ρ mem N k
  · obtain ⟨b, l, _, hb, hm, rfl⟩ := hf
    have := h.sep b l hb hm
    rw [e] at this; cases this
  · rw [if_neg hf]; exact e

theorem rhoN_fz_new {ρ : Rho} {mem : Mem} {w : World} {N : Norm} {b : Nat} {l : Loc} (hb : b ∈ N.frz) (hl : ρ b = some l) (hm : (mget mem b).isSome = true) : (rhoN ρ mem N w).fz l.blk = w.heap[l.blk]? :=
  if_pos ⟨b, l, hb, hl, hm, rfl⟩

theorem rhoN_bare {ρ : Rho} {mem : Mem} {next : Nat} {w : World} (h : Rel ρ mem next w) (N : Norm) : ρ.bare.le (rhoN ρ mem N w).bare := ⟨fun _ _ e => (by cases e), fun _ _ e => rhoN_fz_of h N e, fun _ _ e => (by cases e)⟩

theorem rhoN_keep {ρ : Rho} {mem : Mem} {w : World} {N : Norm} {b b' : Nat} (h : idxOf b N.keep 0 = some b') : (rhoN ρ mem N w) b' = ρ b ∧ (rhoN ρ mem N w).lp b' = ρ.lp b := by
  obtain ⟨_, h2⟩ := idxOf_spec h
  rw [Nat.sub_zero] at h2
  constructor
  · show (N.keep[b']?).bind _ = _
    rw [h2]; rfl
  · show (N.keep[b']?).bind _ = _
    rw [h2]; rfl

theorem frzOk_spec {mem : Mem} : ∀ {frz : List Nat}, frzOk mem frz = true → ∀ b ∈ frz, ∀ blk, mget mem b = some blk → (match blk.arr with | none => blk.cells.all (pf 6) = true | some A => ∀ i, (A.get i).all (pf 6) = true)
  | [], _, b, hb, _, _ => by cases hb
  | x :: l, h, b, hb, blk, hm => by
    unfold frzOk at h
    rcases List.mem_cons.1 hb with rfl | hb
    · rw [hm] at h
      simp only [Bool.and_eq_true] at h
      cases hA : blk.arr with
      | none => have := h.1; rw [hA] at this; exact this
      | some A => have := h.1; rw [hA] at this; exact pd_of this
    · cases hx : mget mem x with
      | none => rw [hx] at h; exact frzOk_spec h b hb blk hm
      | some blk' =>
        rw [hx] at h
        simp only [Bool.and_eq_true] at h
        exact frzOk_spec h.2 b hb blk hm

/-- The cells of a frozen block: plain. -/
theorem frz_cells {mem : Mem} {next : Nat} {w : World} {ρ : Rho} (h : Rel ρ mem next w) {N : Norm} (ho : frzOk mem N.frz = true) {b : Nat} (hb : b ∈ N.frz) {blk : ABlk} (hm : mget mem b = some blk) {l : Loc} (hl : ρ b = some l) :
    ∃ val : Nat → Value, ∀ (i : Nat) (hi : i < blk.cells.length), VRel (rhoN ρ mem N w).bare blk.cells[i] (val i) ∧ HCell (rhoN ρ mem N w).fz l.blk (l.base + i) (val i) := by
  obtain ⟨hn, ht, har, cs, el, h1, h2, h3⟩ := h.blk b l blk hl hm
  refine ⟨fun i => (cs[l.base + i]?).getD undef, fun i hi => ?_⟩
  obtain ⟨v, e1, e2⟩ := h3 i hi
  have hpf : pf 6 blk.cells[i] = true := by
    have := frzOk_spec ho b hb blk hm
    cases hA : blk.arr with
    | none => rw [hA] at this; exact List.all_eq_true.1 this _ (List.getElem_mem hi)
    | some A =>
      rw [hA] at this
      obtain ⟨q1, _, _⟩ := har A hA
      have hmem : blk.cells[i] ∈ rows A.n A.get := by rw [← q1]; exact List.getElem_mem hi
      unfold rows at hmem
      rw [List.mem_flatMap] at hmem
      obtain ⟨r, _, hr⟩ := hmem
      exact List.all_eq_true.1 (this r) _ hr
  dsimp only
  rw [e1]
  refine ⟨(pf_sound 6 _ _ hpf e2).mono (rhoN_bare h N), cs, el, (0, 0), ?_, e1⟩
  rw [rhoN_fz_new hb hl (by rw [hm]; rfl)]
  exact h1

theorem frzV_sound {mem : Mem} {next : Nat} {w : World} {ρ : Rho} (h : Rel ρ mem next w) {N : Norm} (ho : frzOk mem N.frz = true) {b : Nat} (hb : b ∈ N.frz) {blk : ABlk} (hm : mget mem b = some blk) {v : AVal} {u : Value} (hv : VRel ρ v u)
    (hvb : (∃ o, v = .ptr b o) ∨ (∃ off len cap, v = .sl b off len cap) ∨ (∃ sz off len cap, v = .sla b sz off len cap) ∨ ∃ sz i fo, v = .epa b sz i fo) : VRel (rhoN ρ mem N w) (frzV P blk v) u := by
  rcases hvb with ⟨o, rfl⟩ | ⟨off, len, cap, rfl⟩ | ⟨sz, off, len, cap, rfl⟩ | ⟨sz, i, fo, rfl⟩
  · cases hv with
    | ptr _ _ l hl =>
      obtain ⟨val, hval⟩ := frz_cells h ho hb hm hl
      refine .dptr _ _ _ (fun j => val (o + j)) (fun j hj => ?_) (fun j hj => ?_)
      · have := (hval (o + j) (by simp at hj; omega)).1
        simpa using this
      · have := (hval (o + j) (by simp at hj; omega)).2
        rw [Nat.add_assoc]; exact this
  · simp only [frzV]
    split
    · rename_i i hi
      cases hc : Nat.ble (off + len * i.size) blk.cells.length with
      | false => exact .undef _
      | true =>
        rw [cond_true]
        have hle := Nat.le_of_ble_eq_true hc
        cases hv with
        | sl _ _ _ _ l c hl _ hlen =>
          obtain ⟨val, hval⟩ := frz_cells h ho hb hm hl
          have hin : ∀ k, k < len → k * i.size + i.size ≤ len * i.size := fun k hk => by
            have := Nat.mul_le_mul_right i.size (show k + 1 ≤ len from hk)
            rw [Nat.add_mul, Nat.one_mul] at this; exact this
          refine .dat len _ l.blk (l.base + off) i.size c (fun k j => val (off + (k * i.size + j))) hlen (fun k hk => ?_) (fun k j hk hj => ?_) (fun k j hk hj => ?_)
          · have := hin k hk
            simp [chunk]; omega
          · have := hin k hk
            have hj' : j < i.size := by simp [chunk] at hj; omega
            have := (hval (off + (k * i.size + j)) (by omega)).1
            simpa [chunk, Nat.add_assoc] using this
          · have := hin k hk
            have := (hval (off + (k * i.size + j)) (by omega)).2
            rw [Nat.add_assoc]; exact this
    · exact .undef _
  · simp only [frzV]
    split
    · rename_i A hA
      cases hc : (Nat.beq A.sz sz && Nat.ble (off + len) A.n) with
      | false => exact .undef _
      | true =>
        rw [cond_true]
        simp only [Bool.and_eq_true] at hc
        obtain rfl := Nat.eq_of_beq_eq_true hc.1
        have hle := Nat.le_of_ble_eq_true hc.2
        cases hv with
        | slan => exact .datn _
        | sla _ _ _ _ _ l c hl _ hlen =>
          obtain ⟨val, hval⟩ := frz_cells h ho hb hm hl
          obtain ⟨q1, q2, q3⟩ := (h.blk b l blk hl hm).arr A hA
          have hlen' := rows_length A.n q3
          have hrow : ∀ k j, k < len → j < A.sz → ∃ hi : (off + k) * A.sz + j < blk.cells.length, blk.cells[(off + k) * A.sz + j]? = (A.get (off + k))[j]? := fun k j hk hj => by
            have e := rows_get A.n q3 (off + k) j (by omega) hj
            rw [← q1] at e
            have hj2 : j < (A.get (off + k)).length := by rw [q3 (off + k) (by omega)]; exact hj
            rw [List.getElem?_eq_getElem hj2] at e
            obtain ⟨hi, _⟩ := List.getElem?_eq_some_iff.1 e
            exact ⟨hi, by rw [e, List.getElem?_eq_getElem hj2]⟩
          refine .dat len _ l.blk (l.base + off * A.sz) A.sz c (fun k j => val ((off + k) * A.sz + j)) hlen (fun k hk => q3 _ (by omega)) (fun k j hk hj => ?_) (fun k j hk hj => ?_)
          · have hj' : j < A.sz := by rw [← q3 (off + k) (by omega)]; exact hj
            obtain ⟨hi, e⟩ := hrow k j hk hj'
            have := (hval _ hi).1
            rw [List.getElem?_eq_getElem hi, List.getElem?_eq_getElem hj] at e
            rw [Option.some.inj e] at this
            exact this
          · obtain ⟨hi, _⟩ := hrow k j hk hj
            have := (hval _ hi).2
            rw [show l.base + off * A.sz + (k * A.sz + j) = l.base + ((off + k) * A.sz + j) by rw [Nat.add_mul]; omega]
            exact this
    · exact .undef _
  · exact .undef _

theorem renB_sound {mem : Mem} {next : Nat} {w : World} {ρ : Rho} (h : Rel ρ mem next w) {N : Norm} (ho : frzOk mem N.frz = true) {b : Nat} {v : AVal} {u : Value} {f : Nat → AVal} (hv : VRel ρ v u)
    (hvb : (∃ o, v = .ptr b o) ∨ (∃ off len cap, v = .sl b off len cap) ∨ (∃ sz off len cap, v = .sla b sz off len cap) ∨ ∃ sz i fo, v = .epa b sz i fo)
    (hf : ∀ b', idxOf b N.keep 0 = some b' → VRel (rhoN ρ mem N w) (f b') u) : VRel (rhoN ρ mem N w) (renB P mem N b v f) u := by
  unfold renB
  split
  · rename_i b' hb'; exact hf b' hb'
  · cases hc : hasN b N.frz with
    | false => exact .undef _
    | true =>
      rw [cond_true]
      split
      · rename_i blk hm
        exact frzV_sound h ho (hasN_iff.1 hc) hm hv hvb
      · exact .undef _

theorem ren_sound {mem : Mem} {next : Nat} {w : World} {ρ : Rho} (h : Rel ρ mem next w) {N : Norm} (ho : frzOk mem N.frz = true) : ∀ (d : Nat) (v : AVal) (u : Value), VRel ρ v u → VRel (rhoN ρ mem N w) (ren P mem N d v) u
  | 0, _, _, _ => .undef _
  | d + 1, v, u, hv => by
    have ih := fun v u => ren_sound h ho (N := N) d v u
    have list : ∀ {cs : List AVal} {vs : Array Value}, cs.length = vs.size → (∀ (i : Nat) (h1 : i < cs.length) (h2 : i < vs.size), VRel ρ cs[i] vs[i]) →
        (cs.map (ren P mem N d)).length = vs.size ∧ ∀ (i : Nat) (h1 : i < (cs.map (ren P mem N d)).length) (h2 : i < vs.size), VRel (rhoN ρ mem N w) (cs.map (ren P mem N d))[i] vs[i] := fun hl hh =>
      ⟨by simpa using hl, fun i h1 h2 => by simpa using ih _ _ (hh i (by simpa using h1) h2)⟩
    unfold ren
    cases hv with
    | undef => exact .undef _
    | bool b => exact .bool b
    | int k n => exact .int k n
    | str s => exact .str s
    | agg cs vs hl hh => exact .agg _ _ (list hl hh).1 (list hl hh).2
    | tup cs vs hl hh => exact .tup _ _ (list hl hh).1 (list hl hh).2
    | fn f cs vs hl hh => exact .fn f _ _ (list hl hh).1 (list hl hh).2
    | fnb f cs vs hl hh => exact .fnb f _ _ (list hl hh).1 (list hl hh).2
    | ptr b o l hl => exact renB_sound h ho (.ptr b o l hl) (.inl ⟨o, rfl⟩) fun b' hb' => .ptr b' o l (by rw [(rhoN_keep hb').1]; exact hl)
    | nilp => exact .nilp
    | sl b off len cap l c hl hc hlen => exact renB_sound h ho (.sl b off len cap l c hl hc hlen) (.inr (.inl ⟨off, len, cap, rfl⟩)) fun b' hb' => .sl b' off len cap l c (by rw [(rhoN_keep hb').1]; exact hl) hc hlen
    | nils => exact .nils
    | sla b sz off len cap l c hl hc hlen => exact renB_sound h ho (.sla b sz off len cap l c hl hc hlen) (.inr (.inr (.inl ⟨sz, off, len, cap, rfl⟩))) fun b' hb' => .sla b' sz off len cap l c (by rw [(rhoN_keep hb').1]; exact hl) hc hlen
    | slan b sz off cap => exact renB_sound h ho (.slan b sz off cap) (.inr (.inr (.inl ⟨sz, off, 0, cap, rfl⟩))) fun b' hb' => .slan b' sz off cap
    | epa b sz i fo l hl => exact renB_sound h ho (.epa b sz i fo l hl) (.inr (.inr (.inr ⟨sz, i, fo, rfl⟩))) fun b' hb' => .epa b' sz i fo l (by rw [(rhoN_keep hb').1]; exact hl)
    | nilf => exact .nilf
    | yld j l hl =>
      simp only
      split
      · rename_i j' hj'
        exact .yld j' l (by rw [(rhoN_keep hj').2]; exact hl)
      · exact .undef _
    | ifc t a v hv => exact .ifc t _ _ (ih _ _ hv)
    | nili => exact .nili
    | dat len get blk base sz cap val hcap hsz hv hh =>
      refine .dat len get blk base sz cap val hcap hsz (fun i j hi hj => (hv i j hi hj).mono (rhoN_bare h N)) (fun i j hi hj => ?_)
      obtain ⟨cs, el, fz, e1, e2⟩ := hh i j hi hj
      exact ⟨cs, el, fz, rhoN_fz_of h N e1, e2⟩
    | datn get => exact .datn get
    | dptr cs blk base val hv hh =>
      refine .dptr cs blk base val (fun j hj => (hv j hj).mono (rhoN_bare h N)) (fun j hj => ?_)
      obtain ⟨cs', el, fz, e1, e2⟩ := hh j hj
      exact ⟨cs', el, fz, rhoN_fz_of h N e1, e2⟩

/-! ### Memory, slots, records -/
theorem T.get_map {f : AVal → AVal} (hf : f .undef = .undef) : ∀ (t : T AVal) (i : Nat), T.get .undef (T.map f t) i = f (T.get .undef t i)
  | .leaf, i => hf.symm
  | .node v l r, 0 => rfl
  | .node v l r, i + 1 => by
    show T.get .undef (.node (f v) (T.map f l) (T.map f r)) (i + 1) = _
    rw [T.get_succ, T.get_succ]
    split
    · exact T.get_map hf l _
    · exact T.get_map hf r _

theorem keepEn_get {f : AVal → AVal} (env : T AVal) : ∀ (L : List Nat) (t : Nat), T.get .undef (keepEn f env L) t = if t ∈ L then f (T.get .undef env t) else .undef
  | [], t => by simp [keepEn]
  | x :: L, t => by
    unfold keepEn
    rw [T.get_set, keepEn_get env L t]
    by_cases h : t = x
    · subst h; simp
    · simp [h]

theorem renE_rel {mem : Mem} {next : Nat} {w : World} {ρ : Rho} (h : Rel ρ mem next w) {N : Norm} (ho : frzOk mem N.frz = true) {env : T AVal} {n : Nat} {tmps : Array Value} (he : EnvRel ρ env n tmps) : ∀ (L : Option (List Nat)), EnvRel (rhoN ρ mem N w) (renE (ren P mem N 6) env L) n tmps
  | none => by
    refine ⟨he.size, fun i => ?_, fun i hi => ?_⟩
    · show VRel _ (T.get .undef (T.map (ren P mem N 6) env) i) _
      rw [T.get_map rfl]; exact ren_sound h ho 6 _ _ (he.get i)
    · show T.get .undef (T.map (ren P mem N 6) env) i = _
      rw [T.get_map rfl, he.out i hi]; rfl
  | some L => by
    refine ⟨he.size, fun i => ?_, fun i hi => ?_⟩
    · show VRel _ (T.get .undef (keepEn (ren P mem N 6) env L) i) _
      rw [keepEn_get]
      split
      · exact ren_sound h ho 6 _ _ (he.get i)
      · exact .undef _
    · show T.get .undef (keepEn (ren P mem N 6) env L) i = _
      rw [keepEn_get, he.out i hi]
      split <;> rfl

theorem keepM_get {mem : Mem} {N : Norm} : ∀ (l : List Nat) (i j : Nat), mget (keepM P mem N l i).1 j = if i ≤ j then (l[j - i]?).bind fun b => (mget mem b).map (renBlk P mem N) else none
  | [], i, j => by simp [keepM, mget]
  | b :: l, i, j => by
    unfold keepM
    have ih := keepM_get (mem := mem) (N := N) l (i + 1)
    have tail : i < j → (b :: l)[j - i]? = l[j - (i + 1)]? := fun h => by rw [show j - i = (j - (i + 1)) + 1 by omega]; rfl
    cases hm : mget mem b with
    | none =>
      show mget (keepM P mem N l (i + 1)).1 j = _
      rw [ih]
      rcases Nat.lt_trichotomy i j with h | h | h
      · rw [if_pos (by omega), if_pos (by omega), tail h]
      · subst h; rw [if_neg (by omega), if_pos (by omega)]; simp [hm]
      · rw [if_neg (by omega), if_neg (by omega)]
    | some blk =>
      show mget (mset (keepM P mem N l (i + 1)).1 i (some (renBlk P mem N blk))) j = _
      rw [mget_mset, ih]
      rcases Nat.lt_trichotomy i j with h | h | h
      · rw [if_neg (by omega), if_pos (by omega), if_pos (by omega), tail h]
      · subst h; rw [if_pos rfl, if_pos (by omega)]; simp [hm]
      · rw [if_neg (by omega), if_neg (by omega), if_neg (by omega)]

theorem keepM_flat {mem : Mem} {N : Norm} : ∀ (l : List Nat) (i : Nat), (keepM P mem N l i).2 = true → ∀ b ∈ l, ∀ blk, mget mem b = some blk → flatB blk = true
  | [], i, _, b, hb, _, _ => by cases hb
  | x :: l, i, h, b, hb, blk, hm => by
    unfold keepM at h
    cases hx : mget mem x with
    | none =>
      rw [hx] at h
      rcases List.mem_cons.1 hb with rfl | hb
      · rw [hx] at hm; cases hm
      · exact keepM_flat l (i + 1) h b hb blk hm
    | some blk' =>
      rw [hx] at h
      have h : (flatB blk' && (keepM P mem N l (i + 1)).2) = true := h
      simp only [Bool.and_eq_true] at h
      rcases List.mem_cons.1 hb with rfl | hb
      · rw [hx] at hm; obtain rfl := Option.some.inj hm; exact h.1
      · exact keepM_flat l (i + 1) h.2 b hb blk hm

theorem keepL_get {f : AVal → AVal} {lps : Loops} : ∀ (l : List Nat) (i : Nat) (sl : List (Option (List Nat))) (j : Nat) (L : ALoop), lget (keepL f lps l i sl) j = some L → i ≤ j ∧ ∃ b L0 x, l[j - i]? = some b ∧ lget lps b = some L0 ∧ L = ⟨L0.st, L0.pend, L0.n, renE f L0.env x, L0.params, L0.assign, L0.body⟩
  | [], i, sl, j, L, h => by cases h
  | b :: l, i, sl, j, L, h => by
    unfold keepL at h
    split at h
    · obtain ⟨h1, b', L0, x, h2, h3, h4⟩ := keepL_get l (i + 1) _ j L h
      exact ⟨by omega, b', L0, x, by rw [show j - i = (j - (i + 1)) + 1 by omega]; simpa using h2, h3, h4⟩
    · rename_i st pend n env params assign body hb
      rw [show lget (lset (keepL f lps l (i + 1) sl.tail) i (some ⟨st, pend, n, renE f env (sl.headD none), params, assign, body⟩)) j = if j = i then some ⟨st, pend, n, renE f env (sl.headD none), params, assign, body⟩ else lget (keepL f lps l (i + 1) sl.tail) j from T.get_set none _ i _ j] at h
      by_cases hj : j = i
      · subst hj
        rw [if_pos rfl] at h
        obtain rfl := Option.some.inj h
        exact ⟨Nat.le_refl _, b, _, _, by simp, hb, rfl⟩
      · rw [if_neg hj] at h
        obtain ⟨h1, b', L0, x, h2, h3, h4⟩ := keepL_get l (i + 1) _ j L h
        exact ⟨by omega, b', L0, x, by rw [show j - i = (j - (i + 1)) + 1 by omega]; simpa using h2, h3, h4⟩

theorem renItem_rel {mem : Mem} {w : World} {ρ : Rho} {N : Norm} {x x' y : Item} (h : renItem N.keep x = some x') (hx : IRel ρ x y) : IRel (rhoN ρ mem N w) x' y := by
  cases hx with
  | inR j l e =>
    simp only [renItem, Option.map_eq_some_iff] at h
    obtain ⟨j', hj, rfl⟩ := h
    exact .inR j' l (by rw [(rhoN_keep hj).2]; exact e)
  | endR j l e =>
    simp only [renItem, Option.map_eq_some_iff] at h
    obtain ⟨j', hj, rfl⟩ := h
    exact .endR j' l (by rw [(rhoN_keep hj).2]; exact e)
  | same x hp =>
    have : renItem N.keep x = some x := by
      unfold renItem
      split
      · cases hp
      · cases hp
      · rw [hp]; rfl
    rw [this] at h
    obtain rfl := Option.some.inj h
    exact .same _ hp

theorem renItems_rel {mem : Mem} {w : World} {ρ : Rho} {N : Norm} : ∀ {l l' m : List Item}, renItems N.keep l = some l' → TRel ρ l m → TRel (rhoN ρ mem N w) l' m
  | [], l', m, h, ht => by cases ht; obtain rfl := Option.some.inj h; exact .nil
  | x :: l, l', m, h, ht => by
    cases ht with
    | cons hx ht =>
      unfold renItems at h
      split at h
      · rename_i y k hy hk
        obtain rfl := Option.some.inj h
        exact .cons (renItem_rel hy hx) (renItems_rel hk ht)
      · cases h

theorem renF_rel {mem : Mem} {next : Nat} {w : World} {ρ : Rho} (h : Rel ρ mem next w) {N : Norm} (ho : frzOk mem N.frz = true) {cx : Ctx} {ro : Option RegOps} {todo todo' : List Item} {rnd rnd' : Option Nat} {env : T AVal} {b : Frame} {a : Act} {k : List Item} {ms : List Nat} (ht : renItems N.keep todo = some todo') (hr : renRnd N.keep rnd = some rnd')
    (hf : FRel ρ cx ro todo rnd env b a k ms) (L : Option (List Nat)) : FRel (rhoN ρ mem N w) cx ro todo' rnd' (renE (ren P mem N 6) env L) b a k ms ∧ (rnd' = none → rnd = none) := by
  refine ⟨⟨renE_rel h ho hf.env L, hf.defers, renItems_rel ht hf.todo, hf.ro, ?_⟩, fun e => ?_⟩
  · have hrn := hf.rnd
    cases rnd with
    | none => obtain rfl := Option.some.inj hr; exact hrn
    | some j =>
      simp only [renRnd, Option.map_eq_some_iff] at hr
      obtain ⟨j', hj, rfl⟩ := hr
      obtain ⟨h0, l, h1, h2⟩ := hrn
      exact ⟨h0, l, by rw [(rhoN_keep hj).2]; exact h1, h2⟩
  · cases rnd with
    | none => rfl
    | some j =>
      simp only [renRnd, Option.map_eq_some_iff] at hr
      obtain ⟨j', _, rfl⟩ := hr
      cases e

theorem renCs_rel {mem : Mem} {next : Nat} {w : World} {ρ : Rho} (h : Rel ρ mem next w) {N : Norm} (ho : frzOk mem N.frz = true) : ∀ {cs cs' : List AFr} {sl : List (Option (List Nat))} {css : List Frame} {mss : List Nat}, renCs (ren P mem N 6) N.keep cs sl = some cs' → CRel P ρ cs css mss → CRel P (rhoN ρ mem N w) cs' css mss ∧ (cs' ≠ [] → cs ≠ [])
  | [], cs', sl, css, mss, hc, hr => by
    cases hr
    obtain rfl := Option.some.inj hc
    exact ⟨.nil, id⟩
  | af :: cs, cs', sl, css, mss, hc, hr => by
    cases hr with
    | cons hf hl ht =>
      unfold renCs at hc
      split at hc
      · rename_i todo' rnd' cs'' h1 h2 h3
        obtain rfl := Option.some.inj hc
        obtain ⟨i1, i2⟩ := renCs_rel h ho h3 ht
        obtain ⟨f1, f2⟩ := renF_rel (P := P) h ho h1 h2 hf (sl.headD none)
        exact ⟨.cons f1 (fun hne => ⟨(hl (i2 hne)).1, fun e => (hl (i2 hne)).2 (f2 e)⟩) i1, fun _ => by simp⟩
      · cases hc

def RowTo (ρ ρ' : Rho) (L L' : List AVal) : Prop := L'.length = L.length ∧ ∀ (j : Nat) (h1 : j < L.length) (h2 : j < L'.length) (v : Value), VRel ρ L[j] v → VRel ρ' L'[j] v
theorem renRw_row {mem : Mem} {next : Nat} {w : World} {ρ : Rho} (h : Rel ρ mem next w) {N : Norm} (ho : frzOk mem N.frz = true) : ∀ (rw1 : Rws), flatRw rw1 = true → ∀ k, RowTo ρ (rhoN ρ mem N w) (rw1.get k) ((renRw (ren P mem N 6) rw1).get k)
  | .flat g, hf, k => by
    refine ⟨rfl, fun j h1 h2 v hv => ?_⟩
    have hall : ∀ i, (g i).all (pf 6) = true := pd_of hf
    exact ((pf_sound 6 _ _ (List.all_eq_true.1 (hall k) _ (List.getElem_mem h1)) hv).mono (rhoN_bare h N)).mono (bare_le _)
  | .one r cs b, hf, k => by
    have ih := renRw_row h ho (N := N) b hf k
    have hc : RowTo ρ (rhoN ρ mem N w) cs (cs.map (ren P mem N 6)) := ⟨by simp, fun j h1 h2 v hv => by simpa using ren_sound h ho 6 _ _ hv⟩
    simp only [renRw, Rws.get]
    cases Nat.beq k r with
    | true => exact hc
    | false => exact ih
  | .alt c a b, hf, k => by
    simp only [flatRw, Bool.and_eq_true] at hf
    have iha := renRw_row h ho (N := N) a hf.1 k
    have ihb := renRw_row h ho (N := N) b hf.2 k
    simp only [renRw, Rws.get]
    cases c k with
    | true => exact iha
    | false => exact ihb

theorem renMem_rel {mem : Mem} {next : Nat} {w : World} {ρ : Rho} (h : Rel ρ mem next w) {N : Norm} (ho : frzOk mem N.frz = true) (hd : disj N.keep N.frz = true) (hfl : (keepM P mem N N.keep 0).2 = true) : Rel (rhoN ρ mem N w) (keepM P mem N N.keep 0).1 N.keep.length w := by
  obtain ⟨hnd, hdj⟩ := disj_spec hd
  have get : ∀ j, mget (keepM P mem N N.keep 0).1 j = (N.keep[j]?).bind fun b => (mget mem b).map (renBlk P mem N) := fun j => by
    rw [keepM_get, if_pos (Nat.zero_le _), Nat.sub_zero]
  have blk : ∀ {b' l}, (rhoN ρ mem N w) b' = some l → ∃ b, N.keep[b']? = some b ∧ ρ b = some l := fun {b' l} e => by
    have e : (N.keep[b']?).bind (fun b => ρ b) = some l := e
    rw [Option.bind_eq_some_iff] at e
    obtain ⟨b, e1, e2⟩ := e
    exact ⟨b, e1, e2⟩
  have live : ∀ {b' b}, N.keep[b']? = some b → (mget (keepM P mem N N.keep 0).1 b').isSome = true → (mget mem b).isSome = true := fun {b' b} e hs => by
    rw [get, e] at hs
    simpa using hs
  refine ⟨fun b' l e => ?_, fun b' b'' l l' e e' hbl hs hs' => ?_, fun b' l ab e hm => ?_, fun k o e => ?_, fun b' l e hs => ?_, fun b' l e => ?_, fun b' hb => ?_, fun j l e => ?_⟩
  · obtain ⟨b, e1, _⟩ := blk e
    exact (List.getElem?_eq_some_iff.1 e1).1
  · obtain ⟨b, e1, e2⟩ := blk e
    obtain ⟨c, e3, e4⟩ := blk e'
    have := h.inj b c l l' e2 e4 hbl (live e1 hs) (live e3 hs')
    subst this
    exact (List.getElem?_inj (List.getElem?_eq_some_iff.1 e1).1 hnd).1 (e1.trans e3.symm)
  · obtain ⟨b, e1, e2⟩ := blk e
    rw [get, e1] at hm
    simp only [Option.bind_some, Option.map_eq_some_iff] at hm
    obtain ⟨ab0, hm0, rfl⟩ := hm
    obtain ⟨hn, ht, har, cs, el, g1, g2, g3⟩ := h.blk b l ab0 e2 hm0
    obtain ⟨cells, ty, arr⟩ := ab0
    cases arr with
    | none =>
      refine ⟨by simpa [renBlk] using hn, ht, (fun A hA => by cases hA), cs, el, g1, g2, fun i hi => ?_⟩
      have hi' : i < cells.length := by simpa [renBlk] using hi
      obtain ⟨v, q1, q2⟩ := g3 i hi'
      exact ⟨v, q1, by simpa [renBlk] using ren_sound h ho 6 _ _ q2⟩
    | some A =>
      obtain ⟨a1, a2, a3⟩ := har A rfl
      simp only at a1
      have hfb : flatB ⟨cells, ty, some A⟩ = true := keepM_flat N.keep 0 hfl b (List.mem_of_getElem? e1) _ hm0
      have hrow := renRw_row (P := P) h ho (N := N) A.rw hfb
      have hl' : ∀ i, i < A.n → ((renRw (ren P mem N 6) A.rw).get i).length = A.sz := fun i hi => by rw [(hrow i).1]; exact a3 i hi
      have k1 := rows_length A.n a3
      have k2 := rows_length A.n hl'
      refine ⟨by show l.n = (rows A.n _).length; rw [k2, hn]; show cells.length = _; rw [a1, k1], ht, (fun B hB => by obtain rfl := Option.some.inj hB; exact ⟨rfl, a2, hl'⟩), cs, el, g1, g2, fun i hi => ?_⟩
      have hi' : i < A.n * A.sz := by rw [← k2]; exact hi
      have hj : i % A.sz < A.sz := Nat.mod_lt _ a2
      have hq : i / A.sz < A.n := Nat.div_lt_of_lt_mul (by rw [Nat.mul_comm]; exact hi')
      have e : i / A.sz * A.sz + i % A.sz = i := by rw [Nat.mul_comm]; exact Nat.div_add_mod i A.sz
      have hic : i < cells.length := by rw [a1, k1]; exact hi'
      have r1 := rows_get A.n a3 (i / A.sz) (i % A.sz) hq hj
      have r2 := rows_get A.n hl' (i / A.sz) (i % A.sz) hq hj
      rw [e] at r1 r2
      have hi2 : i < (rows A.n (renRw (ren P mem N 6) A.rw).get).length := hi
      have j1 : i % A.sz < (A.rw.get (i / A.sz)).length := by rw [show A.rw.get = A.get from rfl, a3 _ hq]; exact hj
      have j2 : i % A.sz < ((renRw (ren P mem N 6) A.rw).get (i / A.sz)).length := by rw [hl' _ hq]; exact hj
      obtain ⟨v, q1, q2⟩ := g3 i hic
      have s1 : cells[i] = (A.rw.get (i / A.sz))[i % A.sz] := by
        have : cells[i]? = some (A.rw.get (i / A.sz))[i % A.sz] := by rw [a1, r1, show A.get = A.rw.get from rfl, List.getElem?_eq_getElem j1]
        rw [List.getElem?_eq_getElem hic] at this
        exact Option.some.inj this
      have s2 : (rows A.n (renRw (ren P mem N 6) A.rw).get)[i]'hi2 = ((renRw (ren P mem N 6) A.rw).get (i / A.sz))[i % A.sz] := by
        have : (rows A.n (renRw (ren P mem N 6) A.rw).get)[i]? = some ((renRw (ren P mem N 6) A.rw).get (i / A.sz))[i % A.sz] := by rw [r2, List.getElem?_eq_getElem j2]
        rw [List.getElem?_eq_getElem hi2] at this
        exact Option.some.inj this
      refine ⟨v, q1, ?_⟩
      show VRel _ ((rows A.n (renRw (ren P mem N 6) A.rw).get)[i]'hi2) v
      rw [s2]
      refine (hrow _).2 _ j1 j2 v ?_
      rw [← s1]; exact q2
  · have e : @ite _ (Fz ρ mem N k) (Classical.propDecidable _) (w.heap[k]?) (ρ.fz k) = some o := e
    by_cases hf : Fz ρ mem N k
    · rw [if_pos hf] at e; exact e
    · rw [if_neg hf] at e; exact h.old k o e
  · obtain ⟨b, e1, e2⟩ := blk e
    have hs0 := live e1 hs
    have hnf : ¬ Fz ρ mem N l.blk := fun ⟨c, l', c1, c2, c3, c4⟩ => by
      have := h.inj c b l' l c2 e2 c4 c3 hs0
      subst this
      exact hdj c (List.mem_of_getElem? e1) c1
    show @ite _ (Fz ρ mem N l.blk) (Classical.propDecidable _) (w.heap[l.blk]?) (ρ.fz l.blk) = none
    rw [if_neg hnf]
    exact h.sep b l e2 hs0
  · obtain ⟨b, _, e2⟩ := blk e
    exact h.real b l e2
  · rw [get, List.getElem?_eq_none hb]; rfl
  · have e : (N.keep[j]?).bind (fun b => ρ.lp b) = some l := e
    rw [Option.bind_eq_some_iff] at e
    exact (List.getElem?_eq_some_iff.1 e.choose_spec.1).1

theorem renEv {H : Old} {mem : Mem} {next : Nat} {w0 w : World} {ρ : Rho} (h : Rel ρ mem next w) {N : Norm} (he : Ev (rhoOf H) ρ 0 .leaf 0 mem next w0 w) (mem' : Mem) (next' : Nat) : Ev (rhoOf H) (rhoN ρ mem N w) 0 .leaf 0 mem' next' w0 w :=
  ⟨⟨fun b l e => (by cases e), fun k o e => rhoN_fz_of h N (he.ext.2.1 k o e), fun j l e => (by cases e)⟩, fun b hb => absurd hb (Nat.not_lt_zero _), Nat.zero_le _, fun b hb => absurd hb (Nat.not_lt_zero _), he.frame, fun b l _ e => by
    have e : (N.keep[b]?).bind (fun b => ρ b) = some l := e
    rw [Option.bind_eq_some_iff] at e
    obtain ⟨c, _, e2⟩ := e
    exact he.fresh c l (Nat.zero_le _) e2, he.size, he.os, he.tape, he.output, fun k hk => by
    have hnf : ¬ Fz ρ mem N k := fun ⟨b, l, _, e2, _, e4⟩ => by
      rcases he.fresh b l (Nat.zero_le _) e2 with h1 | ⟨b0, l0, e0, _⟩
      · omega
      · cases e0
    show @ite _ (Fz ρ mem N k) (Classical.propDecidable _) (w.heap[k]?) (ρ.fz k) = _
    rw [if_neg hnf]
    exact he.still k hk⟩

/-! ### Stretches, from nothing -/
/-- From any state that is told by C, in a run that began with nothing, the real machine comes to one that is told by C'. -/
def Goes (P : Program) (C C' : Cfg) : Prop :=
  ∀ (H : Old) (w0 : World) (ρ : Rho) (b : Frame) (a : Act) (k : List Item) (css : List Frame) (w : World) (ma mb : List Nat), SRel P w0.heap.size C ρ b a k css w ma mb → Ev (rhoOf H) ρ 0 .leaf 0 C.st.mem C.st.next w0 w → ∀ cs0 : List Frame,
    ∃ ρ' b' a' k' css' w' ma' mb', Steps P (lone (b.atR a (roItems C.ro k)) (css ++ cs0) w) (lone (b'.atR a' (roItems C'.ro k')) (css' ++ cs0) w') ∧ SRel P w0.heap.size C' ρ' b' a' k' css' w' ma' mb' ∧ Ev (rhoOf H) ρ' 0 .leaf 0 C'.st.mem C'.st.next w0 w' ∧ botId b' css' = botId b css

theorem Goes.refl (C : Cfg) : Goes P C C := fun H w0 ρ b a k css w ma mb hs he cs0 => ⟨ρ, b, a, k, css, w, ma, mb, Steps.refl _ _, hs, he, rfl⟩
theorem Goes.trans {A B C : Cfg} (h : Goes P A B) (k : Goes P B C) : Goes P A C := by
  intro H w0 ρ b a t css w ma mb hs he cs0
  obtain ⟨ρ1, b1, a1, t1, css1, w1, ma1, mb1, s1, r1, e1, q1⟩ := h H w0 ρ b a t css w ma mb hs he cs0
  obtain ⟨ρ2, b2, a2, t2, css2, w2, ma2, mb2, s2, r2, e2, q2⟩ := k H w0 ρ1 b1 a1 t1 css1 w1 ma1 mb1 r1 e1 cs0
  exact ⟨ρ2, b2, a2, t2, css2, w2, ma2, mb2, s1.trans s2, r2, e2, q2.trans q1⟩
theorem Leads.goes {C C' : Cfg} (h : Leads P 0 C C') : Goes P C C' := fun H w0 ρ b a k css w ma mb hs he cs0 => h .leaf 0 (rhoOf H) w0 ρ b a k css w ma mb hs he cs0

/-- Frames that write from the first block on. -/
def fl0 (C : Cfg) : Bool := Nat.beq C.cx.floor 0 && C.cs.all fun af => Nat.beq af.cx.floor 0
theorem fl0_spec {C : Cfg} (h : fl0 C = true) : Fl 0 C := by
  unfold fl0 at h
  simp only [Bool.and_eq_true] at h
  exact ⟨Nat.eq_of_beq_eq_true h.1, fun af haf => Nat.eq_of_beq_eq_true (List.all_eq_true.1 h.2 af haf), Nat.zero_le _⟩

theorem renCs_floor {f : AVal → AVal} {keep : List Nat} {fl : Nat} : ∀ {cs cs' : List AFr} {sl : List (Option (List Nat))}, renCs f keep cs sl = some cs' → (∀ af ∈ cs, af.cx.floor = fl) → ∀ af ∈ cs', af.cx.floor = fl
  | [], cs', sl, h, _, af, haf => by obtain rfl := Option.some.inj h; cases haf
  | a0 :: cs, cs', sl, h, hcs, af, haf => by
    unfold renCs at h
    split at h
    · rename_i t1 r1 c1 g1 g2 g3
      obtain rfl := Option.some.inj h
      rcases List.mem_cons.1 haf with rfl | haf
      · exact hcs a0 (List.mem_cons_self ..)
      · exact renCs_floor g3 (fun x hx => hcs x (List.mem_cons_of_mem _ hx)) af haf
    · cases h

theorem normC_goes {N : Norm} {C C' : Cfg} (h : normC P N C = some C') (ho : C'.st.ob = true) : C.st.ob = true ∧ Goes P C C' ∧ (Fl 0 C → Fl 0 C') := by
  obtain ⟨cx, ro, todo, rnd, rs, ⟨env, mem, next, orc, ob⟩, cs, lps⟩ := C
  simp only [normC] at h
  split at h
  · rename_i todo' rnd' cs' h1 h2 h3
    obtain ⟨hd, h⟩ := bif_inv h
    obtain rfl := Option.some.inj h
    simp only [Bool.and_eq_true] at ho
    obtain ⟨hkm, ho2, ho3⟩ := ho
    refine ⟨ho3, fun H w0 ρ b a k css w ma mb hs he cs0 => ?_, fun hfl => ⟨hfl.cx, fun af haf => ?_, Nat.zero_le _⟩⟩
    · have hrel := hs.rel
      simp only at hrel he
      obtain ⟨f1, f2⟩ := renF_rel (P := P) hrel ho2 h1 h2 hs.top (N.slots.headD none)
      obtain ⟨c1, c2⟩ := renCs_rel (P := P) hrel ho2 h3 hs.rest.cs
      refine ⟨rhoN ρ mem N w, b, a, k, css, w, ma, mb, Steps.refl _ _, ⟨f1, fun hne => ⟨(hs.lv (c2 hne)).1, fun e => (hs.lv (c2 hne)).2 (f2 e)⟩, ⟨c1, hs.rest.nodup, fun r hr => ?_, fun j L hL => ?_, fun j j' L L' l hL hL' e e' => ?_⟩, ?_⟩, renEv hrel he _ _, rfl⟩
      · obtain ⟨q1, ⟨q2, q3, q4⟩, q5⟩ := hs.rest.marks r hr
        refine ⟨q1, ⟨q2, ?_, fun b' l e => ?_⟩, q5⟩
        · show @ite _ (Fz ρ mem N r) (Classical.propDecidable _) (w.heap[r]?) (ρ.fz r) = none
          rw [if_neg fun ⟨c, l, _, e2, _, e4⟩ => q4 c l e2 e4]; exact q3
        · have e : (N.keep[b']?).bind (fun b => ρ b) = some l := e
          rw [Option.bind_eq_some_iff] at e
          obtain ⟨c, _, e2⟩ := e
          exact q4 c l e2
      · obtain ⟨_, c, L0, x, e1, e2, rfl⟩ := keepL_get N.keep 0 _ j L hL
        rw [Nat.sub_zero] at e1
        obtain ⟨l, q1, q2, ⟨q3, q4, q5⟩, tm, fn', d, q6, q7⟩ := hs.rest.loops c L0 e2
        refine ⟨l, ?_, q2, ⟨q3, ?_, fun b' l' e => ?_⟩, tm, fn', d, q6, renE_rel (P := P) hrel ho2 q7 x⟩
        · show (N.keep[j]?).bind (fun b => ρ.lp b) = some l
          rw [e1]; exact q1
        · show @ite _ (Fz ρ mem N l) (Classical.propDecidable _) (w.heap[l]?) (ρ.fz l) = none
          rw [if_neg fun ⟨c, l, _, e2, _, e4⟩ => q5 c l e2 e4]; exact q4
        · have e : (N.keep[b']?).bind (fun b => ρ b) = some l' := e
          rw [Option.bind_eq_some_iff] at e
          obtain ⟨c, _, e2⟩ := e
          exact q5 c l' e2
      · obtain ⟨_, c, L0, x, e1, e2, rfl⟩ := keepL_get N.keep 0 _ j L hL
        obtain ⟨_, c', L0', x', e1', e2', rfl⟩ := keepL_get N.keep 0 _ j' L' hL'
        rw [Nat.sub_zero] at e1 e1'
        have e : (N.keep[j]?).bind (fun b => ρ.lp b) = some l := e
        have e' : (N.keep[j']?).bind (fun b => ρ.lp b) = some l := e'
        rw [e1] at e
        rw [e1'] at e'
        have := hs.rest.inj c c' L0 L0' l e2 e2' e e'
        subst this
        exact (List.getElem?_inj (List.getElem?_eq_some_iff.1 e1).1 (disj_spec hd).1).1 (e1.trans e1'.symm)
      · exact renMem_rel hrel ho2 hd hkm
    · exact renCs_floor h3 hfl.cs af haf
  · cases h

theorem iterS_sim {S : Specs} {Rc : Runner} (hN : Named P) (hmx : P.follows .mixedOrders = true) (hS : SpecsOk P S) (hCI : RInv Rc) (hC : ROk P Rc) {fl : Nat} : ∀ (n : Nat) (C C' : Cfg), Fl fl C → iterS P S Rc n C = some C' → Fl fl C' ∧ AInv fl C.st C'.st ∧ (C'.st.ob = true → Leads P fl C C')
  | 0, C, C', hfl, h => by
    obtain rfl := Option.some.inj h
    exact ⟨hfl, AInv.refl _ _, fun _ => Leads.refl fl C⟩
  | n + 1, C, C', hfl, h => by
    have h : (match stepS P S Rc C with
      | some C' => iterS P S Rc n C'
      | none => none) = some C' := h
    split at h
    · rename_i C1 h1
      have s1 := stepS_sim hN hmx hS hCI hC hfl h1
      obtain ⟨f1, f4, f5⟩ := iterS_sim hN hmx hS hCI hC n C1 C' s1.fls h
      exact ⟨f1, s1.inv.trans f4, fun ho => (s1.leads (f4.ob ho)).trans (f5 ho)⟩
    · cases h

/-- A stretch of n steps; what it comes to, told anew. -/
theorem stretch {S : Specs} (hN : Named P) (hmx : P.follows .mixedOrders = true) (hS : SpecsOk P S) {n m d : Nat} {N : Norm} {C C' : Cfg} (h : (iterS P S (runR P S m d) n C).bind (normC P N) = some C') (ho : C'.st.ob = true) (hfl : fl0 C = true) : Goes P C C' ∧ C.st.ob = true := by
  rw [Option.bind_eq_some_iff] at h
  obtain ⟨C1, h1, h2⟩ := h
  obtain ⟨hCI, hC⟩ := runR_ok hN hmx hS m d
  obtain ⟨f1, f2, f3⟩ := iterS_sim hN hmx hS hCI hC n C C1 (fl0_spec hfl) h1
  obtain ⟨g1, g2, _⟩ := normC_goes h2 ho
  exact ⟨(f3 g1).goes.trans g2, f2.ob g1⟩

/-- The start of a call. -/
noncomputable def startC (P : Program) (f : FuncId) (args : List AVal) (sym : Bool) (orc : List Bool) : Cfg :=
  match P.funcs[f]? with
  | some fn => ⟨⟨Nat.max fn.ntmps args.length, 0, sym⟩, none, [.code (fn.body.getD .ret)], none, fn.results.toList, ⟨envOf args 0 .leaf, .leaf, 0, orc, true⟩, [], .leaf⟩
  | none => ⟨⟨0, 0, sym⟩, none, [], none, [], ⟨.leaf, .leaf, 0, [], true⟩, [], .leaf⟩

/-- A call whose run comes to its end. -/
theorem goes_call {f : FuncId} {args : List AVal} {sym : Bool} {orc : List Bool} {C' : Cfg} {vs : List AVal} {H : Old} (hf : (P.funcs[f]?).any (fun fn => fn.body.isSome) = true) (h : Goes P (startC P f args sym orc) C') (hfin : finalS C' = true) (hob : (aResults P C'.st (startC P f args sym orc).rs) = some vs)
    {vals : Array Value} {w : World} (hargs : All2 (VRel (rhoOf H)) args vals.toList) (hH : ∀ k o, H k = some o → w.heap[k]? = some o) :
    Calls P f vals w fun e w' => ∃ ρ u, e = .returned u ∧ Out H w ρ (packed vs) u w' := by
  cases hfn : P.funcs[f]? with
  | none => rw [hfn] at hf; cases hf
  | some fn =>
    rw [hfn] at hf
    have hf : fn.body.isSome = true := hf
    obtain ⟨body, hb⟩ := Option.isSome_iff_exists.1 hf
    have hstart : startC P f args sym orc = ⟨⟨Nat.max fn.ntmps args.length, 0, sym⟩, none, [.code body], none, fn.results.toList, ⟨envOf args 0 .leaf, .leaf, 0, orc, true⟩, [], .leaf⟩ := by
      unfold startC; rw [hfn]; simp [hb]
    rw [hstart] at h hob
    simp only at hob
    intro cs
    obtain ⟨ρ', b', a', k', css', w', ma', mb', s1, r1, v1, q1⟩ := h H w (rhoOf H) ⟨f, #[], [], [], .run, .normal, none⟩ { tmps := vals ++ Array.replicate (fn.ntmps - vals.size) undef, defers := [] } [.code body] [] w [] []
      ⟨⟨env_start hargs fn.ntmps, rfl, .cons (.same _ rfl) .nil, trivial, rfl⟩, fun h => absurd rfl h, rest_start _ _ _, rel_empty hH⟩ (Ev.refl _ _ _ _ _ (rel_empty hH).dom) cs
    obtain ⟨e1, e2, e3, e4⟩ := finalS_spec hfin
    have hcs := r1.rest.cs
    rw [e3] at hcs
    cases hcs
    obtain ⟨w2, s2, henv', hrel', hev', _⟩ := end_steps r1 e1 e2 e4 rfl v1 cs
    obtain ⟨u, hu, hres⟩ := results_sound (fn := fn) henv' hrel' hob
    have q : (b'.fn, b'.kind, b'.roundOf) = (f, CallKind.normal, none) := q1
    simp only [Prod.mk.injEq] at q
    have hen : Frame.enter P f vals .normal = Frame.atR ⟨f, #[], [], [], .run, .normal, none⟩ { tmps := vals ++ Array.replicate (fn.ntmps - vals.size) undef, defers := [] } (roItems none [.code body]) := by
      simp [Frame.enter, Frame.atR, hfn, hb, roItems]
    refine ⟨.returned u, w2, { b'.atR { a' with defers := [] } k' with mode := .returning }, ⟨ρ', u, rfl, out_of hu hrel' hev'⟩, ?_, q.1, rfl, rfl, q.2.1, fn, by show P.funcs[b'.fn]? = _; rw [q.1]; exact hfn, hres⟩
    rw [hen]; exact s1.trans s2

/-- A call without arguments, whose run comes to its end. -/
theorem goes_closed {f : FuncId} {b : Bool} {C' : Cfg} (hf : (P.funcs[f]?).any (fun fn => fn.body.isSome) = true) (h : Goes P (startC P f [] false []) C') (hfin : finalS C' = true) (hob : (aResults P C'.st (startC P f [] false []).rs) = some [.bool b]) (w : World) :
    Calls P f #[] w fun e w' => e = .returned (.bool b) ∧ RowKit.Below w.heap.size w w' :=
  (goes_call (H := noOld) hf h hfin hob (vals := #[]) .nil (fun k o h => by cases h)).mono fun e w' ⟨ρ, u, he, ho⟩ => by
    have := ho.val
    cases this
    exact ⟨he, ho.below⟩

end
end Go.Am
