/- A part of a proof: several texts in one. -/
import Derived.Test.YtijpnpkolglajaaGreatKe1
import Derived.Sort.Grow
import Derived.Deep.Slices
import Derived.Deep.Fields
import Derived.ChangeSame
import Derived.OpenShut
import Derived.Test.YtijpnpkolglajaaGreatProg
import Derived.Sort.AssemblyPlain
import Derived.Lib.BitFns
import Derived.Shelf.GgSortFunc.InsertionK
set_option maxRecDepth 1000000
set_option maxHeartbeats 8000000
set_option linter.unusedVariables false
set_option linter.unusedSimpArgs false
noncomputable section
namespace Go.Am
structure z5o where
 keep : List Nat
 frz : List Nat
 slots : List (Option (List Nat))
 lslots : List (Option (List Nat)) := []
def z9w (b : Nat) : List Nat → Nat → Option Nat
 | [], _ => none
 | x :: l, i => bif Nat.beq x b then some i else z9w b l (i + 1)
def hasN (b : Nat) : List Nat → Bool
 | [] => false
 | x :: l => bif Nat.beq x b then true else hasN b l
def Xq (cells : List AVal) (off sz : Nat) : Nat → List AVal := fun k => (cells.drop (off + k * sz)).take sz
def frzV (P : Program) (blk : ABlk) : AVal → AVal
 | .ptr _ o => .dptr (blk.cells.drop o)
 | .sl _ off len _ => match P.info? blk.ty with
  | some i => bif Nat.ble (off + len * i.size) blk.cells.length then .dat len (Xq blk.cells off i.size) else .undef
  | none => .undef
 | .sla _ sz off len _ => match blk.arr with
  | some A => bif Nat.beq A.sz sz && Nat.ble (off + len) A.n then .dat len (fun k => A.get (off + k)) else .undef
  | none => .undef
 | _ => .undef
def renB (P : Program) (mem : Mem) (N : z5o) (b : Nat) (v : AVal) (f : Nat → AVal) : AVal :=
 match z9w b N.keep 0 with
 | some b' => f b'
 | none => bif hasN b N.frz then match Xz mem b with
   | some blk => frzV P blk v
   | none => .undef
  else .undef
def ren (P : Program) (mem : Mem) (N : z5o) : Nat → AVal → AVal
 | 0, _ => .undef
 | d + 1, v => match v with
  | .ptr b o => renB P mem N b (.ptr b o) fun b' => .ptr b' o
  | .sl b off len cap => renB P mem N b (.sl b off len cap) fun b' => .sl b' off len cap
  | .sla b sz off len cap => renB P mem N b (.sla b sz off len cap) fun b' => .sla b' sz off len cap
  | .epa b sz i fo => renB P mem N b (.epa b sz i fo) fun b' => .epa b' sz i fo
  | .yld j => match z9w j N.keep 0 with
   | some j' => .yld j'
   | none => .undef
  | .slv b sz off len => match z9w b N.keep 0 with
   | some b' => .slv b' sz off len
   | none => .undef
  | .agg cs => .agg (cs.map (ren P mem N d))
  | .tup cs => .tup (cs.map (ren P mem N d))
  | .fn f cs => .fn f (cs.map (ren P mem N d))
  | .fnb f cs => .fnb f (cs.map (ren P mem N d))
  | .ifc t v => .ifc t (ren P mem N d v)
  | v => v
def T.map (f : AVal → AVal) (t : T AVal) : T AVal :=
 T.rec (motive := fun _ => T AVal) .leaf (fun v _ _ l r => .node (f v) l r) t
def z9t (f : AVal → AVal) (env : T AVal) : List Nat → T AVal
 | [] => .leaf
 | t :: l => T.set .undef (z9t f env l) t (f (T.get .undef env t))
def w8g (f : AVal → AVal) (env : T AVal) : Option (List Nat) → T AVal
 | none => T.map f env
 | some l => z9t f env l
def z2v (f : AVal → AVal) : Rws → Rws
 | .flat g => .flat g
 | .one r cs b => .one r (cs.map f) (z2v f b)
 | .alt c a b => .alt c (z2v f a) (z2v f b)
def z9g (P : Program) (mem : Mem) (N : z5o) : ABlk → ABlk
 | ⟨cells, ty, none⟩ => ⟨cells.map (ren P mem N 6), ty, none⟩
 | ⟨_, ty, some A⟩ => ⟨rows A.n (z2v (ren P mem N 6) A.rw).get, ty, some ⟨A.sz, A.n, z2v (ren P mem N 6) A.rw⟩⟩
def y2c : Rws → Bool
 | .flat g => pd (∀ i, (g i).all (pf 6) = true)
 | .one _ _ b => y2c b
 | .alt _ a b => y2c a && y2c b
def w5f (blk : ABlk) : Bool := match blk.arr with
 | none => true
 | some A => y2c A.rw
def z4u (P : Program) (mem : Mem) (N : z5o) : List Nat → Nat → Mem × Bool
 | [], _ => (.leaf, true)
 | b :: l, i => match z4u P mem N l (i + 1) with
  | (m, o) => match Xz mem b with
   | none => (m, o)
   | some blk => (Wg m i (some (z9g P mem N blk)), w5f blk && o)
def z4x (mem : Mem) : List Nat → Bool
 | [] => true
 | b :: l => match Xz mem b with
  | none => z4x mem l
  | some blk => (match blk.arr with
   | none => blk.cells.all (pf 6)
   | some A => pd (∀ i, (A.get i).all (pf 6) = true)) && z4x mem l
def y9l (f : AVal → AVal) (lps : Loops) : List Nat → Nat → List (Option (List Nat)) → Loops
 | [], _, _ => .leaf
 | b :: l, i, sl => match z8g lps b with
  | none => y9l f lps l (i + 1) sl.tail
  | some ⟨st, pend, n, env, params, assign, body⟩ => x6k (y9l f lps l (i + 1) sl.tail) i (some ⟨st, pend, n, w8g f env (sl.headD none), params, assign, body⟩)
def z5r (keep : List Nat) : Item → Option Item
 | .inRangeFunc j => (z9w j keep 0).map .inRangeFunc
 | .endRangeFunc j => (z9w j keep 0).map .endRangeFunc
 | x => bif Kd x then some x else none
def z2i (keep : List Nat) : List Item → Option (List Item)
 | [] => some []
 | x :: l => match z5r keep x, z2i keep l with
  | some y, some m => some (y :: m)
  | _, _ => none
def y5f (keep : List Nat) : Option Nat → Option (Option Nat)
 | none => some none
 | some j => (z9w j keep 0).map some
def x4j (f : AVal → AVal) (keep : List Nat) : List AFr → List (Option (List Nat)) → Option (List AFr)
 | [], _ => some []
 | ⟨cx, ro, todo, rnd, rs, env⟩ :: cs, sl => match z2i keep todo, y5f keep rnd, x4j f keep cs sl.tail with
  | some todo', some rnd', some cs' => some (⟨cx, ro, todo', rnd', rs, w8g f env (sl.headD none)⟩ :: cs')
  | _, _, _ => none
def disj : List Nat → List Nat → Bool
 | [], _ => true
 | b :: l, frz => !hasN b frz && (!hasN b l && disj l frz)
def w3t (P : Program) (N : z5o) : Cfg → Option Cfg
 | ⟨cx, ro, todo, rnd, rs, ⟨env, mem, next, orc, ob⟩, cs, lps⟩ =>
  match z2i N.keep todo, y5f N.keep rnd, x4j (ren P mem N 6) N.keep cs N.slots.tail with
  | some todo', some rnd', some cs' =>
   bif disj N.keep N.frz then
    match z4u P mem N N.keep 0 with
    | (mem', o) => some ⟨cx, ro, todo', rnd', rs, ⟨w8g (ren P mem N 6) env (N.slots.headD none), mem', N.keep.length, [], o && (z4x mem N.frz && ob)⟩, cs', y9l (ren P mem N 6) lps N.keep 0 N.lslots⟩
   else none
  | _, _, _ => none
def atP : Code → List Nat → List Item → Code × List Item
 | c, [], k => (c, k)
 | .seq a b, 0 :: p, k => atP a p (.code b :: k)
 | .seq _ b, _ :: p, k => atP b p k
 | .block id c, _ :: p, k => atP c p (.inBlock id :: k)
 | .loop c, _ :: p, k => atP c p (.inLoop c :: k)
 | .scope c, _ :: p, k => atP c p (.inScope c :: k)
 | .cond _ a _, 0 :: p, k => atP a p k
 | .cond _ _ b, _ :: p, k => atP b p k
 | .rangeFunc _ _ a b, 0 :: p, _ => atP a p [.beginRound, .code b]
 | .rangeFunc _ _ _ b, _ :: p, _ => atP b p []
 | c, _ :: _, k => (c, k)
def Zg (P : Program) (f : FuncId) (p : List Nat) (j : Nat) : List Item := match atP (v0i P f) p [] with
 | (c, k) => (.code c :: k).drop j
def Xn (P : Program) (f : FuncId) (p : List Nat) : Code := (atP (v0i P f) p []).1
def Vv (P : Program) (f : FuncId) (p : List Nat) (i : Nat) : Option RegOps := match Xn P f p with
 | .region _ ops _ => some (ops, i, ops.toList.drop i)
 | _ => none
def w4q (P : Program) (S : Specs) (Rc : Runner) (n : Nat) : Cfg → Option Cfg :=
 Nat.rec (motive := fun _ => Cfg → Option Cfg) (fun C => some C) (fun _ R C => match x3m P S Rc C with
  | some C' => R C'
  | none => none) n
section
variable {P : Program}
theorem Vr {p : Prop} (h : pd p = true) : p := @of_decide_eq_true p (Classical.propDecidable p) h
theorem Xu {p : Prop} (h : p) : pd p = true := @decide_eq_true p (Classical.propDecidable p) h
theorem y2b {b : Nat} : ∀ {l : List Nat} {i j : Nat}, z9w b l i = some j → i ≤ j ∧ l[j - i]? = some b
 | [], i, j, h => by cases h
 | x :: l, i, j, h => by
  unfold z9w at h
  rcases Ue h with ⟨hx, h⟩ | ⟨_, h⟩
  ·obtain rfl := Option.some.inj h
   have := Nat.eq_of_beq_eq_true hx
   exact ⟨Nat.le_refl _, by simp [this]⟩
  ·obtain ⟨h1, h2⟩ := y2b h
   refine ⟨by omega, ?_⟩
   rw [show j - i = (j - (i + 1)) + 1 by omega]
   simpa using h2
theorem z8m {b : Nat} : ∀ {l : List Nat}, hasN b l = true ↔ b ∈ l
 | [] => by simp [hasN]
 | x :: l => by
  unfold hasN
  cases hx : Nat.beq x b with
  | true => simp [Nat.eq_of_beq_eq_true hx]
  | false =>
   have : x ≠ b := fun e => by rw [e, Nat.beq_refl] at hx; cases hx
   rw [cond_false, z8m, List.mem_cons]
   exact ⟨.inr, fun h => h.resolve_left fun e => this e.symm⟩
theorem y0i : ∀ {l frz : List Nat}, disj l frz = true → l.Nodup ∧ ∀ b ∈ l, b ∉ frz
 | [], _, _ => ⟨List.nodup_nil, fun b hb => by cases hb⟩
 | x :: l, frz, h => by
  unfold disj at h
  simp only [Bool.and_eq_true, Bool.not_eq_true'] at h
  obtain ⟨h1, h2, h3⟩ := h
  obtain ⟨i1, i2⟩ := y0i h3
  have n1 : x ∉ frz := fun hm => by rw [z8m.2 hm] at h1; cases h1
  have n2 : x ∉ l := fun hm => by rw [z8m.2 hm] at h2; cases h2
  exact ⟨List.nodup_cons.2 ⟨n2, i1⟩, fun b hb => by
   rcases List.mem_cons.1 hb with rfl | hb
   ·exact n1
   ·exact i2 b hb⟩
def Fz (ρ : Rho) (mem : Mem) (N : z5o) (k : Nat) : Prop := ∃ b l, b ∈ N.frz ∧ ρ b = some l ∧ (Xz mem b).isSome = true ∧ l.blk = k
def z9e (ρ : Rho) (mem : Mem) (N : z5o) (w : World) : Rho :=
 ⟨fun b' => (N.keep[b']?).bind fun b => ρ b, fun k => @ite _ (Fz ρ mem N k) (Classical.propDecidable _) (w.heap[k]?) (ρ.fz k), fun j' => (N.keep[j']?).bind fun j => ρ.lp j⟩
theorem z2g {ρ : Rho} {mem : Mem} {next : Nat} {w : World} (h : Rel ρ mem next w) (N : z5o) {k : Nat} {o : Obj} (e : ρ.fz k = some o) : (z9e ρ mem N w).fz k = some o := by
 show @ite _ (Fz ρ mem N k) (Classical.propDecidable _) (w.heap[k]?) (ρ.fz k) = some o
 by_cases hf : Fz ρ mem N k
 ·obtain ⟨b, l, _, hb, hm, rfl⟩ := hf
  have := h.sep b l hb hm
  rw [e] at this; cases this
 ·rw [if_neg hf]; exact e
theorem y8k {ρ : Rho} {mem : Mem} {w : World} {N : z5o} {b : Nat} {l : Loc} (hb : b ∈ N.frz) (hl : ρ b = some l) (hm : (Xz mem b).isSome = true) : (z9e ρ mem N w).fz l.blk = w.heap[l.blk]? :=
 if_pos ⟨b, l, hb, hl, hm, rfl⟩
theorem z4g {ρ : Rho} {mem : Mem} {next : Nat} {w : World} (h : Rel ρ mem next w) (N : z5o) : ρ.bare.le (z9e ρ mem N w).bare := ⟨fun _ _ e => (by cases e), fun _ _ e => z2g h N e, fun _ _ e => (by cases e)⟩
theorem Ui {ρ : Rho} {mem : Mem} {w : World} {N : z5o} {b b' : Nat} (h : z9w b N.keep 0 = some b') : (z9e ρ mem N w) b' = ρ b ∧ (z9e ρ mem N w).lp b' = ρ.lp b := by
 obtain ⟨_, h2⟩ := y2b h
 rw [Nat.sub_zero] at h2
 constructor
 ·show (N.keep[b']?).bind _ = _
  rw [h2]; rfl
 ·show (N.keep[b']?).bind _ = _
  rw [h2]; rfl
theorem z6a {mem : Mem} : ∀ {frz : List Nat}, z4x mem frz = true → ∀ b ∈ frz, ∀ blk, Xz mem b = some blk → (match blk.arr with | none => blk.cells.all (pf 6) = true | some A => ∀ i, (A.get i).all (pf 6) = true)
 | [], _, b, hb, _, _ => by cases hb
 | x :: l, h, b, hb, blk, hm => by
  unfold z4x at h
  rcases List.mem_cons.1 hb with rfl | hb
  ·rw [hm] at h
   simp only [Bool.and_eq_true] at h
   cases hA : blk.arr with
   | none => have := h.1; rw [hA] at this; exact this
   | some A => have := h.1; rw [hA] at this; exact Vr this
  ·cases hx : Xz mem x with
   | none => rw [hx] at h; exact z6a h b hb blk hm
   | some blk' =>
    rw [hx] at h
    simp only [Bool.and_eq_true] at h
    exact z6a h.2 b hb blk hm
theorem y0a {mem : Mem} {next : Nat} {w : World} {ρ : Rho} (h : Rel ρ mem next w) {N : z5o} (ho : z4x mem N.frz = true) {b : Nat} (hb : b ∈ N.frz) {blk : ABlk} (hm : Xz mem b = some blk) {l : Loc} (hl : ρ b = some l) :
  ∃ val : Nat → Value, ∀ (i : Nat) (hi : i < blk.cells.length), Yw (z9e ρ mem N w).bare blk.cells[i] (val i) ∧ y7f (z9e ρ mem N w).fz l.blk (l.base + i) (val i) := by
 obtain ⟨hn, ht, har, cs, el, h1, h2, h3⟩ := h.blk b l blk hl hm
 refine ⟨fun i => (cs[l.base + i]?).getD undef, fun i hi => ?_⟩
 obtain ⟨v, e1, e2⟩ := h3 i hi
 have hpf : pf 6 blk.cells[i] = true := by
  have := z6a ho b hb blk hm
  cases hA : blk.arr with
  | none => rw [hA] at this; exact List.all_eq_true.1 this _ (List.getElem_mem hi)
  | some A =>
   rw [hA] at this
   obtain ⟨q1, _, _⟩ := har A hA
   have hmem : blk.cells[i] ∈ rows A.n A.get := by rw [← q1]; exact List.getElem_mem hi
   unfold rows at hmem
   rw [List.mem_flatMap] at hmem
   obtain ⟨r, _, hr⟩ := hmem
   exact List.all_eq_true.1 (this r) _ hr
 dsimp only
 rw [e1]
 refine ⟨(Kv 6 _ _ hpf e2).mono (z4g h N), cs, el, (0, 0), ?_, e1⟩
 rw [y8k hb hl (by rw [hm]; rfl)]
 exact h1
theorem x5h {mem : Mem} {next : Nat} {w : World} {ρ : Rho} (h : Rel ρ mem next w) {N : z5o} (ho : z4x mem N.frz = true) {b : Nat} (hb : b ∈ N.frz) {blk : ABlk} (hm : Xz mem b = some blk) {v : AVal} {u : Value} (hv : Yw ρ v u)
  (hvb : (∃ o, v = .ptr b o) ∨ (∃ off len cap, v = .sl b off len cap) ∨ (∃ sz off len cap, v = .sla b sz off len cap) ∨ ∃ sz i fo, v = .epa b sz i fo) : Yw (z9e ρ mem N w) (frzV P blk v) u := by
 rcases hvb with ⟨o, rfl⟩ | ⟨off, len, cap, rfl⟩ | ⟨sz, off, len, cap, rfl⟩ | ⟨sz, i, fo, rfl⟩
 ·cases hv with
  | ptr _ _ l hl =>
   obtain ⟨val, eQ⟩ := y0a h ho hb hm hl
   refine .dptr _ _ _ (fun j => val (o + j)) (fun j hj => ?_) (fun j hj => ?_)
   ·have := (eQ (o + j) (by simp at hj; omega)).1
    simpa using this
   ·have := (eQ (o + j) (by simp at hj; omega)).2
    rw [Nat.add_assoc]; exact this
 ·simp only [frzV]
  split
  ·rename_i i hi
   cases hc : Nat.ble (off + len * i.size) blk.cells.length with
   | false => exact .undef _
   | true =>
    rw [cond_true]
    have hle := Nat.le_of_ble_eq_true hc
    cases hv with
    | sl _ _ _ _ l c hl _ dX =>
     obtain ⟨val, eQ⟩ := y0a h ho hb hm hl
     have hin : ∀ k, k < len → k * i.size + i.size ≤ len * i.size := fun k hk => by
      have := Nat.mul_le_mul_right i.size (show k + 1 ≤ len from hk)
      rw [Nat.add_mul, Nat.one_mul] at this; exact this
     refine .dat len _ l.blk (l.base + off) i.size c (fun k j => val (off + (k * i.size + j))) dX (fun k hk => ?_) (fun k j hk hj => ?_) (fun k j hk hj => ?_)
     ·have := hin k hk
      simp [Xq]; omega
     ·have := hin k hk
      have hj' : j < i.size := by simp [Xq] at hj; omega
      have := (eQ (off + (k * i.size + j)) (by omega)).1
      simpa [Xq, Nat.add_assoc] using this
     ·have := hin k hk
      have := (eQ (off + (k * i.size + j)) (by omega)).2
      rw [Nat.add_assoc]; exact this
  ·exact .undef _
 ·simp only [frzV]
  split
  ·rename_i A hA
   cases hc : (Nat.beq A.sz sz && Nat.ble (off + len) A.n) with
   | false => exact .undef _
   | true =>
    rw [cond_true]
    simp only [Bool.and_eq_true] at hc
    obtain rfl := Nat.eq_of_beq_eq_true hc.1
    have hle := Nat.le_of_ble_eq_true hc.2
    cases hv with
    | slan => exact .datn _
    | sla _ _ _ _ _ l c hl _ dX =>
     obtain ⟨val, eQ⟩ := y0a h ho hb hm hl
     obtain ⟨q1, q2, q3⟩ := (h.blk b l blk hl hm).arr A hA
     have fN := Yk A.n q3
     have hrow : ∀ k j, k < len → j < A.sz → ∃ hi : (off + k) * A.sz + j < blk.cells.length, blk.cells[(off + k) * A.sz + j]? = (A.get (off + k))[j]? := fun k j hk hj => by
      have e := Wf A.n q3 (off + k) j (by omega) hj
      rw [← q1] at e
      have hj2 : j < (A.get (off + k)).length := by rw [q3 (off + k) (by omega)]; exact hj
      rw [List.getElem?_eq_getElem hj2] at e
      obtain ⟨hi, _⟩ := List.getElem?_eq_some_iff.1 e
      exact ⟨hi, by rw [e, List.getElem?_eq_getElem hj2]⟩
     refine .dat len _ l.blk (l.base + off * A.sz) A.sz c (fun k j => val ((off + k) * A.sz + j)) dX (fun k hk => q3 _ (by omega)) (fun k j hk hj => ?_) (fun k j hk hj => ?_)
     ·have hj' : j < A.sz := by rw [← q3 (off + k) (by omega)]; exact hj
      obtain ⟨hi, e⟩ := hrow k j hk hj'
      have := (eQ _ hi).1
      rw [List.getElem?_eq_getElem hi, List.getElem?_eq_getElem hj] at e
      rw [Option.some.inj e] at this
      exact this
     ·obtain ⟨hi, _⟩ := hrow k j hk hj
      have := (eQ _ hi).2
      rw [show l.base + off * A.sz + (k * A.sz + j) = l.base + ((off + k) * A.sz + j) by rw [Nat.add_mul]; omega]
      exact this
  ·exact .undef _
 ·exact .undef _
theorem Qt {mem : Mem} {next : Nat} {w : World} {ρ : Rho} (h : Rel ρ mem next w) {N : z5o} (ho : z4x mem N.frz = true) {b : Nat} {v : AVal} {u : Value} {f : Nat → AVal} (hv : Yw ρ v u)
  (hvb : (∃ o, v = .ptr b o) ∨ (∃ off len cap, v = .sl b off len cap) ∨ (∃ sz off len cap, v = .sla b sz off len cap) ∨ ∃ sz i fo, v = .epa b sz i fo)
  (hf : ∀ b', z9w b N.keep 0 = some b' → Yw (z9e ρ mem N w) (f b') u) : Yw (z9e ρ mem N w) (renB P mem N b v f) u := by
 unfold renB
 split
 ·rename_i b' hb'; exact hf b' hb'
 ·cases hc : hasN b N.frz with
  | false => exact .undef _
  | true =>
   rw [cond_true]
   split
   ·rename_i blk hm
    exact x5h h ho (z8m.1 hc) hm hv hvb
   ·exact .undef _
theorem z1r {mem : Mem} {next : Nat} {w : World} {ρ : Rho} (h : Rel ρ mem next w) {N : z5o} (ho : z4x mem N.frz = true) : ∀ (d : Nat) (v : AVal) (u : Value), Yw ρ v u → Yw (z9e ρ mem N w) (ren P mem N d v) u
 | 0, _, _, _ => .undef _
 | d + 1, v, u, hv => by
  have ih := fun v u => z1r h ho (N := N) d v u
  have list : ∀ {cs : List AVal} {vs : Array Value}, cs.length = vs.size → (∀ (i : Nat) (h1 : i < cs.length) (h2 : i < vs.size), Yw ρ cs[i] vs[i]) →
    (cs.map (ren P mem N d)).length = vs.size ∧ ∀ (i : Nat) (h1 : i < (cs.map (ren P mem N d)).length) (h2 : i < vs.size), Yw (z9e ρ mem N w) (cs.map (ren P mem N d))[i] vs[i] := fun hl hh =>
   ⟨by simpa using hl, fun i h1 h2 => by simpa using ih _ _ (hh i (by simpa using h1) h2)⟩
  unfold ren
  cases hv with
  | undef => exact .undef _
  | bool b => exact .bool b
  | int k n => exact .int k n
  | str s => exact .str s
  | agg cs vs hl hh => exact .agg _ _ (list hl hh).1 (list hl hh).2
  | tup cs vs hl hh => exact .tup _ _ (list hl hh).1 (list hl hh).2
  | fn f cs vs hl hh => exact .fn f _ _ (list hl hh).1 (list hl hh).2
  | fnb f cs vs hl hh => exact .fnb f _ _ (list hl hh).1 (list hl hh).2
  | ptr b o l hl => exact Qt h ho (.ptr b o l hl) (.inl ⟨o, rfl⟩) fun b' hb' => .ptr b' o l (by rw [(Ui hb').1]; exact hl)
  | nilp => exact .nilp
  | sl b off len cap l c hl hc dX => exact Qt h ho (.sl b off len cap l c hl hc dX) (.inr (.inl ⟨off, len, cap, rfl⟩)) fun b' hb' => .sl b' off len cap l c (by rw [(Ui hb').1]; exact hl) hc dX
  | nils => exact .nils
  | sla b sz off len cap l c hl hc dX => exact Qt h ho (.sla b sz off len cap l c hl hc dX) (.inr (.inr (.inl ⟨sz, off, len, cap, rfl⟩))) fun b' hb' => .sla b' sz off len cap l c (by rw [(Ui hb').1]; exact hl) hc dX
  | slan b sz off cap => exact Qt h ho (.slan b sz off cap) (.inr (.inr (.inl ⟨sz, off, 0, cap, rfl⟩))) fun b' hb' => .slan b' sz off cap
  | epa b sz i fo l hl => exact Qt h ho (.epa b sz i fo l hl) (.inr (.inr (.inr ⟨sz, i, fo, rfl⟩))) fun b' hb' => .epa b' sz i fo l (by rw [(Ui hb').1]; exact hl)
  | nilf => exact .nilf
  | yld j l hl =>
   simp only
   split
   ·rename_i j' hj'
    exact .yld j' l (by rw [(Ui hj').2]; exact hl)
   ·exact .undef _
  | slv b sz off len l c hl dX =>
   simp only
   split
   ·rename_i j' hj'
    exact .slv j' sz off len l c (by rw [(Ui hj').1]; exact hl) dX
   ·exact .undef _
  | slve b sz off blk base c =>
   simp only
   split
   ·exact .slve _ sz off blk base c
   ·exact .undef _
  | slvn b sz off =>
   simp only
   split
   ·exact .slvn _ sz off
   ·exact .undef _
  | ifc t a v hv => exact .ifc t _ _ (ih _ _ hv)
  | nili => exact .nili
  | dat len get blk base sz cap val eC hsz hv hh =>
   refine .dat len get blk base sz cap val eC hsz (fun i j hi hj => (hv i j hi hj).mono (z4g h N)) (fun i j hi hj => ?_)
   obtain ⟨cs, el, fz, e1, e2⟩ := hh i j hi hj
   exact ⟨cs, el, fz, z2g h N e1, e2⟩
  | datn get => exact .datn get
  | datz get a c => exact .datz get a c
  | dptr cs blk base val hv hh =>
   refine .dptr cs blk base val (fun j hj => (hv j hj).mono (z4g h N)) (fun j hj => ?_)
   obtain ⟨cs', el, fz, e1, e2⟩ := hh j hj
   exact ⟨cs', el, fz, z2g h N e1, e2⟩
theorem T.get_map {f : AVal → AVal} (hf : f .undef = .undef) : ∀ (t : T AVal) (i : Nat), T.get .undef (T.map f t) i = f (T.get .undef t i)
 | .leaf, i => hf.symm
 | .node v l r, 0 => rfl
 | .node v l r, i + 1 => by
  show T.get .undef (.node (f v) (T.map f l) (T.map f r)) (i + 1) = _
  rw [T.get_succ, T.get_succ]
  split
  ·exact T.get_map hf l _
  ·exact T.get_map hf r _
theorem z5w {f : AVal → AVal} (env : T AVal) : ∀ (L : List Nat) (t : Nat), T.get .undef (z9t f env L) t = if t ∈ L then f (T.get .undef env t) else .undef
 | [], t => by simp [z9t]
 | x :: L, t => by
  unfold z9t
  rw [T.get_set, z5w env L t]
  by_cases h : t = x
  ·subst h; simp
  ·simp [h]
theorem x1v {mem : Mem} {next : Nat} {w : World} {ρ : Rho} (h : Rel ρ mem next w) {N : z5o} (ho : z4x mem N.frz = true) {env : T AVal} {n : Nat} {tmps : Array Value} (he : Wq ρ env n tmps) : ∀ (L : Option (List Nat)), Wq (z9e ρ mem N w) (w8g (ren P mem N 6) env L) n tmps
 | none => by
  refine ⟨he.size, fun i => ?_, fun i hi => ?_⟩
  ·show Yw _ (T.get .undef (T.map (ren P mem N 6) env) i) _
   rw [T.get_map rfl]; exact z1r h ho 6 _ _ (he.get i)
  ·show T.get .undef (T.map (ren P mem N 6) env) i = _
   rw [T.get_map rfl, he.out i hi]; rfl
 | some L => by
  refine ⟨he.size, fun i => ?_, fun i hi => ?_⟩
  ·show Yw _ (T.get .undef (z9t (ren P mem N 6) env L) i) _
   rw [z5w]
   split
   ·exact z1r h ho 6 _ _ (he.get i)
   ·exact .undef _
  ·show T.get .undef (z9t (ren P mem N 6) env L) i = _
   rw [z5w, he.out i hi]
   split <;> rfl
theorem y6b {mem : Mem} {N : z5o} : ∀ (l : List Nat) (i j : Nat), Xz (z4u P mem N l i).1 j = if i ≤ j then (l[j - i]?).bind fun b => (Xz mem b).map (z9g P mem N) else none
 | [], i, j => by simp [z4u, Xz]
 | b :: l, i, j => by
  unfold z4u
  have ih := y6b (mem := mem) (N := N) l (i + 1)
  have tail : i < j → (b :: l)[j - i]? = l[j - (i + 1)]? := fun h => by rw [show j - i = (j - (i + 1)) + 1 by omega]; rfl
  cases hm : Xz mem b with
  | none =>
   show Xz (z4u P mem N l (i + 1)).1 j = _
   rw [ih]
   rcases Nat.lt_trichotomy i j with h | h | h
   ·rw [if_pos (by omega), if_pos (by omega), tail h]
   ·subst h; rw [if_neg (by omega), if_pos (by omega)]; simp [hm]
   ·rw [if_neg (by omega), if_neg (by omega)]
  | some blk =>
   show Xz (Wg (z4u P mem N l (i + 1)).1 i (some (z9g P mem N blk))) j = _
   rw [Wi, ih]
   rcases Nat.lt_trichotomy i j with h | h | h
   ·rw [if_neg (by omega), if_pos (by omega), if_pos (by omega), tail h]
   ·subst h; rw [if_pos rfl, if_pos (by omega)]; simp [hm]
   ·rw [if_neg (by omega), if_neg (by omega), if_neg (by omega)]
theorem z5v {mem : Mem} {N : z5o} : ∀ (l : List Nat) (i : Nat), (z4u P mem N l i).2 = true → ∀ b ∈ l, ∀ blk, Xz mem b = some blk → w5f blk = true
 | [], i, _, b, hb, _, _ => by cases hb
 | x :: l, i, h, b, hb, blk, hm => by
  unfold z4u at h
  cases hx : Xz mem x with
  | none =>
   rw [hx] at h
   rcases List.mem_cons.1 hb with rfl | hb
   ·rw [hx] at hm; cases hm
   ·exact z5v l (i + 1) h b hb blk hm
  | some blk' =>
   rw [hx] at h
   have h : (w5f blk' && (z4u P mem N l (i + 1)).2) = true := h
   simp only [Bool.and_eq_true] at h
   rcases List.mem_cons.1 hb with rfl | hb
   ·rw [hx] at hm; obtain rfl := Option.some.inj hm; exact h.1
   ·exact z5v l (i + 1) h.2 b hb blk hm
theorem z1x {f : AVal → AVal} {lps : Loops} : ∀ (l : List Nat) (i : Nat) (sl : List (Option (List Nat))) (j : Nat) (L : ALoop), z8g (y9l f lps l i sl) j = some L → i ≤ j ∧ ∃ b L0 x, l[j - i]? = some b ∧ z8g lps b = some L0 ∧ L = ⟨L0.st, L0.pend, L0.n, w8g f L0.env x, L0.params, L0.assign, L0.body⟩
 | [], i, sl, j, L, h => by cases h
 | b :: l, i, sl, j, L, h => by
  unfold y9l at h
  split at h
  ·obtain ⟨h1, b', L0, x, h2, h3, h4⟩ := z1x l (i + 1) _ j L h
   exact ⟨by omega, b', L0, x, by rw [show j - i = (j - (i + 1)) + 1 by omega]; simpa using h2, h3, h4⟩
  ·rename_i st pend n env params assign body hb
   rw [show z8g (x6k (y9l f lps l (i + 1) sl.tail) i (some ⟨st, pend, n, w8g f env (sl.headD none), params, assign, body⟩)) j = if j = i then some ⟨st, pend, n, w8g f env (sl.headD none), params, assign, body⟩ else z8g (y9l f lps l (i + 1) sl.tail) j from T.get_set none _ i _ j] at h
   by_cases hj : j = i
   ·subst hj
    rw [if_pos rfl] at h
    obtain rfl := Option.some.inj h
    exact ⟨Nat.le_refl _, b, _, _, by simp, hb, rfl⟩
   ·rw [if_neg hj] at h
    obtain ⟨h1, b', L0, x, h2, h3, h4⟩ := z1x l (i + 1) _ j L h
    exact ⟨by omega, b', L0, x, by rw [show j - i = (j - (i + 1)) + 1 by omega]; simpa using h2, h3, h4⟩
theorem y8p {mem : Mem} {w : World} {ρ : Rho} {N : z5o} {x x' y : Item} (h : z5r N.keep x = some x') (hx : x3c ρ x y) : x3c (z9e ρ mem N w) x' y := by
 cases hx with
 | inR j l e =>
  simp only [z5r, Option.map_eq_some_iff] at h
  obtain ⟨j', hj, rfl⟩ := h
  exact .inR j' l (by rw [(Ui hj).2]; exact e)
 | endR j l e =>
  simp only [z5r, Option.map_eq_some_iff] at h
  obtain ⟨j', hj, rfl⟩ := h
  exact .endR j' l (by rw [(Ui hj).2]; exact e)
 | same x hp =>
  have : z5r N.keep x = some x := by
   unfold z5r
   split
   ·cases hp
   ·cases hp
   ·rw [hp]; rfl
  rw [this] at h
  obtain rfl := Option.some.inj h
  exact .same _ hp
theorem z6q {mem : Mem} {w : World} {ρ : Rho} {N : z5o} : ∀ {l l' m : List Item}, z2i N.keep l = some l' → y1f ρ l m → y1f (z9e ρ mem N w) l' m
 | [], l', m, h, ht => by cases ht; obtain rfl := Option.some.inj h; exact .nil
 | x :: l, l', m, h, ht => by
  cases ht with
  | cons hx ht =>
   unfold z2i at h
   split at h
   ·rename_i y k hy hk
    obtain rfl := Option.some.inj h
    exact .cons (y8p hy hx) (z6q hk ht)
   ·cases h
theorem x1u {mem : Mem} {next : Nat} {w : World} {ρ : Rho} (h : Rel ρ mem next w) {N : z5o} (ho : z4x mem N.frz = true) {cx : Ctx} {ro : Option RegOps} {todo todo' : List Item} {rnd rnd' : Option Nat} {env : T AVal} {b : Frame} {a : Act} {k : List Item} {ms : List Nat} (ht : z2i N.keep todo = some todo') (hr : y5f N.keep rnd = some rnd')
  (hf : x6p ρ cx ro todo rnd env b a k ms) (L : Option (List Nat)) : x6p (z9e ρ mem N w) cx ro todo' rnd' (w8g (ren P mem N 6) env L) b a k ms ∧ (rnd' = none → rnd = none) := by
 refine ⟨⟨x1v h ho hf.env L, hf.defers, z6q ht hf.todo, hf.ro, ?_⟩, fun e => ?_⟩
 ·have hrn := hf.rnd
  cases rnd with
  | none => obtain rfl := Option.some.inj hr; exact hrn
  | some j =>
   simp only [y5f, Option.map_eq_some_iff] at hr
   obtain ⟨j', hj, rfl⟩ := hr
   obtain ⟨h0, l, h1, h2⟩ := hrn
   exact ⟨h0, l, by rw [(Ui hj).2]; exact h1, h2⟩
 ·cases rnd with
  | none => rfl
  | some j =>
   simp only [y5f, Option.map_eq_some_iff] at hr
   obtain ⟨j', _, rfl⟩ := hr
   cases e
theorem y5g {mem : Mem} {next : Nat} {w : World} {ρ : Rho} (h : Rel ρ mem next w) {N : z5o} (ho : z4x mem N.frz = true) : ∀ {cs cs' : List AFr} {sl : List (Option (List Nat))} {css : List Frame} {mss : List Nat}, x4j (ren P mem N 6) N.keep cs sl = some cs' → x6q P ρ cs css mss → x6q P (z9e ρ mem N w) cs' css mss ∧ (cs' ≠ [] → cs ≠ [])
 | [], cs', sl, css, mss, hc, hr => by
  cases hr
  obtain rfl := Option.some.inj hc
  exact ⟨.nil, id⟩
 | af :: cs, cs', sl, css, mss, hc, hr => by
  cases hr with
  | cons hf hl ht =>
   unfold x4j at hc
   split at hc
   ·rename_i todo' rnd' cs'' h1 h2 h3
    obtain rfl := Option.some.inj hc
    obtain ⟨i1, i2⟩ := y5g h ho h3 ht
    obtain ⟨f1, f2⟩ := x1u (P := P) h ho h1 h2 hf (sl.headD none)
    exact ⟨.cons f1 (fun hne => ⟨(hl (i2 hne)).1, fun e => (hl (i2 hne)).2 (f2 e)⟩) i1, fun _ => by simp⟩
   ·cases hc
def RowTo (ρ ρ' : Rho) (L L' : List AVal) : Prop := L'.length = L.length ∧ ∀ (j : Nat) (h1 : j < L.length) (h2 : j < L'.length) (v : Value), Yw ρ L[j] v → Yw ρ' L'[j] v
theorem z4j {mem : Mem} {next : Nat} {w : World} {ρ : Rho} (h : Rel ρ mem next w) {N : z5o} (ho : z4x mem N.frz = true) : ∀ (rw1 : Rws), y2c rw1 = true → ∀ k, RowTo ρ (z9e ρ mem N w) (rw1.get k) ((z2v (ren P mem N 6) rw1).get k)
 | .flat g, hf, k => by
  refine ⟨rfl, fun j h1 h2 v hv => ?_⟩
  have eY : ∀ i, (g i).all (pf 6) = true := Vr hf
  exact ((Kv 6 _ _ (List.all_eq_true.1 (eY k) _ (List.getElem_mem h1)) hv).mono (z4g h N)).mono (y4c _)
 | .one r cs b, hf, k => by
  have ih := z4j h ho (N := N) b hf k
  have hc : RowTo ρ (z9e ρ mem N w) cs (cs.map (ren P mem N 6)) := ⟨by simp, fun j h1 h2 v hv => by simpa using z1r h ho 6 _ _ hv⟩
  simp only [z2v, Rws.get]
  cases Nat.beq k r with
  | true => exact hc
  | false => exact ih
 | .alt c a b, hf, k => by
  simp only [y2c, Bool.and_eq_true] at hf
  have iha := z4j h ho (N := N) a hf.1 k
  have ihb := z4j h ho (N := N) b hf.2 k
  simp only [z2v, Rws.get]
  cases c k with
  | true => exact iha
  | false => exact ihb
theorem x4i {mem : Mem} {next : Nat} {w : World} {ρ : Rho} (h : Rel ρ mem next w) {N : z5o} (ho : z4x mem N.frz = true) (hd : disj N.keep N.frz = true) (hfl : (z4u P mem N N.keep 0).2 = true) : Rel (z9e ρ mem N w) (z4u P mem N N.keep 0).1 N.keep.length w := by
 obtain ⟨hnd, hdj⟩ := y0i hd
 have get : ∀ j, Xz (z4u P mem N N.keep 0).1 j = (N.keep[j]?).bind fun b => (Xz mem b).map (z9g P mem N) := fun j => by
  rw [y6b, if_pos (Nat.zero_le _), Nat.sub_zero]
 have blk : ∀ {b' l}, (z9e ρ mem N w) b' = some l → ∃ b, N.keep[b']? = some b ∧ ρ b = some l := fun {b' l} e => by
  have e : (N.keep[b']?).bind (fun b => ρ b) = some l := e
  rw [Option.bind_eq_some_iff] at e
  obtain ⟨b, e1, e2⟩ := e
  exact ⟨b, e1, e2⟩
 have live : ∀ {b' b}, N.keep[b']? = some b → (Xz (z4u P mem N N.keep 0).1 b').isSome = true → (Xz mem b).isSome = true := fun {b' b} e hs => by
  rw [get, e] at hs
  simpa using hs
 refine ⟨fun b' l e => ?_, fun b' b'' l l' e e' hbl hs hs' => ?_, fun b' l ab e hm => ?_, fun k o e => ?_, fun b' l e hs => ?_, fun b' l e => ?_, fun b' hb => ?_, fun j l e => ?_⟩
 ·obtain ⟨b, e1, _⟩ := blk e
  exact (List.getElem?_eq_some_iff.1 e1).1
 ·obtain ⟨b, e1, e2⟩ := blk e
  obtain ⟨c, e3, e4⟩ := blk e'
  have := h.inj b c l l' e2 e4 hbl (live e1 hs) (live e3 hs')
  subst this
  exact (List.getElem?_inj (List.getElem?_eq_some_iff.1 e1).1 hnd).1 (e1.trans e3.symm)
 ·obtain ⟨b, e1, e2⟩ := blk e
  rw [get, e1] at hm
  simp only [Option.bind_some, Option.map_eq_some_iff] at hm
  obtain ⟨ab0, hm0, rfl⟩ := hm
  obtain ⟨hn, ht, har, cs, el, g1, g2, g3⟩ := h.blk b l ab0 e2 hm0
  obtain ⟨cells, ty, arr⟩ := ab0
  cases arr with
  | none =>
   refine ⟨by simpa [z9g] using hn, ht, (fun A hA => by cases hA), cs, el, g1, g2, fun i hi => ?_⟩
   have hi' : i < cells.length := by simpa [z9g] using hi
   obtain ⟨v, q1, q2⟩ := g3 i hi'
   exact ⟨v, q1, by simpa [z9g] using z1r h ho 6 _ _ q2⟩
  | some A =>
   obtain ⟨a1, a2, a3⟩ := har A rfl
   simp only at a1
   have hfb : w5f ⟨cells, ty, some A⟩ = true := z5v N.keep 0 hfl b (List.mem_of_getElem? e1) _ hm0
   have hrow := z4j (P := P) h ho (N := N) A.rw hfb
   have hl' : ∀ i, i < A.n → ((z2v (ren P mem N 6) A.rw).get i).length = A.sz := fun i hi => by rw [(hrow i).1]; exact a3 i hi
   have k1 := Yk A.n a3
   have k2 := Yk A.n hl'
   refine ⟨by show l.n = (rows A.n _).length; rw [k2, hn]; show cells.length = _; rw [a1, k1], ht, (fun B hB => by obtain rfl := Option.some.inj hB; exact ⟨rfl, a2, hl'⟩), cs, el, g1, g2, fun i hi => ?_⟩
   have hi' : i < A.n * A.sz := by rw [← k2]; exact hi
   have hj : i % A.sz < A.sz := Nat.mod_lt _ a2
   have hq : i / A.sz < A.n := Nat.div_lt_of_lt_mul (by rw [Nat.mul_comm]; exact hi')
   have e : i / A.sz * A.sz + i % A.sz = i := by rw [Nat.mul_comm]; exact Nat.div_add_mod i A.sz
   have hic : i < cells.length := by rw [a1, k1]; exact hi'
   have r1 := Wf A.n a3 (i / A.sz) (i % A.sz) hq hj
   have r2 := Wf A.n hl' (i / A.sz) (i % A.sz) hq hj
   rw [e] at r1 r2
   have hi2 : i < (rows A.n (z2v (ren P mem N 6) A.rw).get).length := hi
   have j1 : i % A.sz < (A.rw.get (i / A.sz)).length := by rw [show A.rw.get = A.get from rfl, a3 _ hq]; exact hj
   have j2 : i % A.sz < ((z2v (ren P mem N 6) A.rw).get (i / A.sz)).length := by rw [hl' _ hq]; exact hj
   obtain ⟨v, q1, q2⟩ := g3 i hic
   have s1 : cells[i] = (A.rw.get (i / A.sz))[i % A.sz] := by
    have : cells[i]? = some (A.rw.get (i / A.sz))[i % A.sz] := by rw [a1, r1, show A.get = A.rw.get from rfl, List.getElem?_eq_getElem j1]
    rw [List.getElem?_eq_getElem hic] at this
    exact Option.some.inj this
   have s2 : (rows A.n (z2v (ren P mem N 6) A.rw).get)[i]'hi2 = ((z2v (ren P mem N 6) A.rw).get (i / A.sz))[i % A.sz] := by
    have : (rows A.n (z2v (ren P mem N 6) A.rw).get)[i]? = some ((z2v (ren P mem N 6) A.rw).get (i / A.sz))[i % A.sz] := by rw [r2, List.getElem?_eq_getElem j2]
    rw [List.getElem?_eq_getElem hi2] at this
    exact Option.some.inj this
   refine ⟨v, q1, ?_⟩
   show Yw _ ((rows A.n (z2v (ren P mem N 6) A.rw).get)[i]'hi2) v
   rw [s2]
   refine (hrow _).2 _ j1 j2 v ?_
   rw [← s1]; exact q2
 ·have e : @ite _ (Fz ρ mem N k) (Classical.propDecidable _) (w.heap[k]?) (ρ.fz k) = some o := e
  by_cases hf : Fz ρ mem N k
  ·rw [if_pos hf] at e; exact e
  ·rw [if_neg hf] at e; exact h.old k o e
 ·obtain ⟨b, e1, e2⟩ := blk e
  have hs0 := live e1 hs
  have hnf : ¬ Fz ρ mem N l.blk := fun ⟨c, l', c1, c2, c3, c4⟩ => by
   have := h.inj c b l' l c2 e2 c4 c3 hs0
   subst this
   exact hdj c (List.mem_of_getElem? e1) c1
  show @ite _ (Fz ρ mem N l.blk) (Classical.propDecidable _) (w.heap[l.blk]?) (ρ.fz l.blk) = none
  rw [if_neg hnf]
  exact h.sep b l e2 hs0
 ·obtain ⟨b, _, e2⟩ := blk e
  exact h.real b l e2
 ·rw [get, List.getElem?_eq_none hb]; rfl
 ·have e : (N.keep[j]?).bind (fun b => ρ.lp b) = some l := e
  rw [Option.bind_eq_some_iff] at e
  exact (List.getElem?_eq_some_iff.1 e.choose_spec.1).1
theorem renEv {H : Old} {mem : Mem} {next : Nat} {w0 w : World} {ρ : Rho} (h : Rel ρ mem next w) {N : z5o} (he : Ev (z3l H) ρ 0 .leaf 0 mem next w0 w) (mem' : Mem) (next' : Nat) : Ev (z3l H) (z9e ρ mem N w) 0 .leaf 0 mem' next' w0 w :=
 ⟨⟨fun b l e => (by cases e), fun k o e => z2g h N (he.ext.2.1 k o e), fun j l e => (by cases e)⟩, fun b hb => absurd hb (Nat.not_lt_zero _), Nat.zero_le _, fun b hb => absurd hb (Nat.not_lt_zero _), he.frame, fun b l _ e => by
   have e : (N.keep[b]?).bind (fun b => ρ b) = some l := e
   rw [Option.bind_eq_some_iff] at e
   obtain ⟨c, _, e2⟩ := e
   exact he.fresh c l (Nat.zero_le _) e2, he.size, he.os, he.tape, he.output, fun k hk => by
   have hnf : ¬ Fz ρ mem N k := fun ⟨b, l, _, e2, _, e4⟩ => by
    rcases he.fresh b l (Nat.zero_le _) e2 with h1 | ⟨b0, l0, e0, _⟩
    ·omega
    ·cases e0
   show @ite _ (Fz ρ mem N k) (Classical.propDecidable _) (w.heap[k]?) (ρ.fz k) = _
   rw [if_neg hnf]
   exact he.still k hk⟩
def z7k (P : Program) (C C' : Cfg) : Prop :=
 ∀ (H : Old) (w0 : World) (ρ : Rho) (b : Frame) (a : Act) (k : List Item) (css : List Frame) (w : World) (ma mb : List Nat), v5x P w0.heap.size C ρ b a k css w ma mb → Ev (z3l H) ρ 0 .leaf 0 C.st.mem C.st.next w0 w → ∀ cs0 : List Frame,
  ∃ ρ' b' a' k' css' w' ma' mb', Steps P (lone (b.atR a (Wd C.ro k)) (css ++ cs0) w) (lone (b'.atR a' (Wd C'.ro k')) (css' ++ cs0) w') ∧ v5x P w0.heap.size C' ρ' b' a' k' css' w' ma' mb' ∧ Ev (z3l H) ρ' 0 .leaf 0 C'.st.mem C'.st.next w0 w' ∧ x0w b' css' = x0w b css
theorem z7k.refl (C : Cfg) : z7k P C C := fun H w0 ρ b a k css w ma mb hs he cs0 => ⟨ρ, b, a, k, css, w, ma, mb, Steps.refl _ _, hs, he, rfl⟩
theorem z7k.trans {A B C : Cfg} (h : z7k P A B) (k : z7k P B C) : z7k P A C := by
 intro H w0 ρ b a t css w ma mb hs he cs0
 obtain ⟨ρ1, b1, a1, t1, css1, w1, ma1, mb1, s1, r1, e1, q1⟩ := h H w0 ρ b a t css w ma mb hs he cs0
 obtain ⟨ρ2, b2, a2, t2, css2, w2, ma2, mb2, s2, r2, e2, q2⟩ := k H w0 ρ1 b1 a1 t1 css1 w1 ma1 mb1 r1 e1 cs0
 exact ⟨ρ2, b2, a2, t2, css2, w2, ma2, mb2, s1.trans s2, r2, e2, q2.trans q1⟩
theorem z6n.goes {C C' : Cfg} (h : z6n P 0 C C') : z7k P C C' := fun H w0 ρ b a k css w ma mb hs he cs0 => h .leaf 0 (z3l H) w0 ρ b a k css w ma mb hs he cs0
def fl0 (C : Cfg) : Bool := Nat.beq C.cx.floor 0 && C.cs.all fun af => Nat.beq af.cx.floor 0
theorem w5g {C : Cfg} (h : fl0 C = true) : Fl 0 C := by
 unfold fl0 at h
 simp only [Bool.and_eq_true] at h
 exact ⟨Nat.eq_of_beq_eq_true h.1, fun af haf => Nat.eq_of_beq_eq_true (List.all_eq_true.1 h.2 af haf), Nat.zero_le _⟩
theorem z9f {f : AVal → AVal} {keep : List Nat} {fl : Nat} : ∀ {cs cs' : List AFr} {sl : List (Option (List Nat))}, x4j f keep cs sl = some cs' → (∀ af ∈ cs, af.cx.floor = fl) → ∀ af ∈ cs', af.cx.floor = fl
 | [], cs', sl, h, _, af, haf => by obtain rfl := Option.some.inj h; cases haf
 | a0 :: cs, cs', sl, h, hcs, af, haf => by
  unfold x4j at h
  split at h
  ·rename_i t1 r1 c1 g1 g2 g3
   obtain rfl := Option.some.inj h
   rcases List.mem_cons.1 haf with rfl | haf
   ·exact hcs a0 (List.mem_cons_self ..)
   ·exact z9f g3 (fun x hx => hcs x (List.mem_cons_of_mem _ hx)) af haf
  ·cases h
theorem x4q {N : z5o} {C C' : Cfg} (h : w3t P N C = some C') (ho : C'.st.ob = true) : C.st.ob = true ∧ z7k P C C' ∧ (Fl 0 C → Fl 0 C') := by
 obtain ⟨cx, ro, todo, rnd, rs, ⟨env, mem, next, orc, ob⟩, cs, lps⟩ := C
 simp only [w3t] at h
 split at h
 ·rename_i todo' rnd' cs' h1 h2 h3
  obtain ⟨hd, h⟩ := Yy h
  obtain rfl := Option.some.inj h
  simp only [Bool.and_eq_true] at ho
  obtain ⟨hkm, ho2, ho3⟩ := ho
  refine ⟨ho3, fun H w0 ρ b a k css w ma mb hs he cs0 => ?_, fun hfl => ⟨hfl.cx, fun af haf => ?_, Nat.zero_le _⟩⟩
  ·have dW := hs.rel
   simp only at dW he
   obtain ⟨f1, f2⟩ := x1u (P := P) dW ho2 h1 h2 hs.top (N.slots.headD none)
   obtain ⟨c1, c2⟩ := y5g (P := P) dW ho2 h3 hs.rest.cs
   refine ⟨z9e ρ mem N w, b, a, k, css, w, ma, mb, Steps.refl _ _, ⟨f1, fun hne => ⟨(hs.lv (c2 hne)).1, fun e => (hs.lv (c2 hne)).2 (f2 e)⟩, ⟨c1, hs.rest.nodup, fun r hr => ?_, fun j L hL => ?_, fun j j' L L' l hL hL' e e' => ?_⟩, ?_⟩, renEv dW he _ _, rfl⟩
   ·obtain ⟨q1, ⟨q2, q3, q4⟩, q5⟩ := hs.rest.marks r hr
    refine ⟨q1, ⟨q2, ?_, fun b' l e => ?_⟩, q5⟩
    ·show @ite _ (Fz ρ mem N r) (Classical.propDecidable _) (w.heap[r]?) (ρ.fz r) = none
     rw [if_neg fun ⟨c, l, _, e2, _, e4⟩ => q4 c l e2 e4]; exact q3
    ·have e : (N.keep[b']?).bind (fun b => ρ b) = some l := e
     rw [Option.bind_eq_some_iff] at e
     obtain ⟨c, _, e2⟩ := e
     exact q4 c l e2
   ·obtain ⟨_, c, L0, x, e1, e2, rfl⟩ := z1x N.keep 0 _ j L hL
    rw [Nat.sub_zero] at e1
    obtain ⟨l, q1, q2, ⟨q3, q4, q5⟩, tm, fn', d, q6, q7⟩ := hs.rest.loops c L0 e2
    refine ⟨l, ?_, q2, ⟨q3, ?_, fun b' l' e => ?_⟩, tm, fn', d, q6, x1v (P := P) dW ho2 q7 x⟩
    ·show (N.keep[j]?).bind (fun b => ρ.lp b) = some l
     rw [e1]; exact q1
    ·show @ite _ (Fz ρ mem N l) (Classical.propDecidable _) (w.heap[l]?) (ρ.fz l) = none
     rw [if_neg fun ⟨c, l, _, e2, _, e4⟩ => q5 c l e2 e4]; exact q4
    ·have e : (N.keep[b']?).bind (fun b => ρ b) = some l' := e
     rw [Option.bind_eq_some_iff] at e
     obtain ⟨c, _, e2⟩ := e
     exact q5 c l' e2
   ·obtain ⟨_, c, L0, x, e1, e2, rfl⟩ := z1x N.keep 0 _ j L hL
    obtain ⟨_, c', L0', x', e1', e2', rfl⟩ := z1x N.keep 0 _ j' L' hL'
    rw [Nat.sub_zero] at e1 e1'
    have e : (N.keep[j]?).bind (fun b => ρ.lp b) = some l := e
    have e' : (N.keep[j']?).bind (fun b => ρ.lp b) = some l := e'
    rw [e1] at e
    rw [e1'] at e'
    have := hs.rest.inj c c' L0 L0' l e2 e2' e e'
    subst this
    exact (List.getElem?_inj (List.getElem?_eq_some_iff.1 e1).1 (y0i hd).1).1 (e1.trans e1'.symm)
   ·exact x4i dW ho2 hd hkm
  ·exact z9f h3 hfl.cs af haf
 ·cases h
theorem y6e {S : Specs} {Rc : Runner} (hN : z6m P) (hmx : P.follows .mixedOrders = true) (hS : Zu P S) (hCI : x6o Rc) (hC : ROk P Rc) {fl : Nat} : ∀ (n : Nat) (C C' : Cfg), Fl fl C → w4q P S Rc n C = some C' → Fl fl C' ∧ Wp fl C.st C'.st ∧ (C'.st.ob = true → z6n P fl C C')
 | 0, C, C', hfl, h => by
  obtain rfl := Option.some.inj h
  exact ⟨hfl, Wp.refl _ _, fun _ => z6n.refl fl C⟩
 | n + 1, C, C', hfl, h => by
  have h : (match x3m P S Rc C with
   | some C' => w4q P S Rc n C'
   | none => none) = some C' := h
  split at h
  ·rename_i C1 h1
   have s1 := y4u hN hmx hS hCI hC hfl h1
   obtain ⟨f1, f4, f5⟩ := y6e hN hmx hS hCI hC n C1 C' s1.fls h
   exact ⟨f1, s1.inv.trans f4, fun ho => (s1.leads (f4.ob ho)).trans (f5 ho)⟩
  ·cases h
def Zf (P : Program) (f : FuncId) (args : List AVal) (sym : Bool) (orc : List Bool) : Cfg :=
 match P.funcs[f]? with
 | some fn => ⟨⟨Nat.max fn.ntmps args.length, 0, sym⟩, none, [.code (fn.body.getD .ret)], none, fn.results.toList, ⟨z6c args 0 .leaf, .leaf, 0, orc, true⟩, [], .leaf⟩
 | none => ⟨⟨0, 0, sym⟩, none, [], none, [], ⟨.leaf, .leaf, 0, [], true⟩, [], .leaf⟩
theorem goes_call {f : FuncId} {args : List AVal} {sym : Bool} {orc : List Bool} {C' : Cfg} {vs : List AVal} {H : Old} (hf : (P.funcs[f]?).any (fun fn => fn.body.isSome) = true) (h : z7k P (Zf P f args sym orc) C') (hfin : z3b C' = true) (hob : (Ut P C'.st (Zf P f args sym orc).rs) = some vs)
  {vals : Array Value} {w : World} (eA : Vx (Yw (z3l H)) args vals.toList) (hH : ∀ k o, H k = some o → w.heap[k]? = some o) :
  Calls P f vals w fun e w' => ∃ ρ u, e = .returned u ∧ Out H w ρ (Kf vs) u w' := by
 cases hfn : P.funcs[f]? with
 | none => rw [hfn] at hf; cases hf
 | some fn =>
  rw [hfn] at hf
  have hf : fn.body.isSome = true := hf
  obtain ⟨body, hb⟩ := Option.isSome_iff_exists.1 hf
  have hstart : Zf P f args sym orc = ⟨⟨Nat.max fn.ntmps args.length, 0, sym⟩, none, [.code body], none, fn.results.toList, ⟨z6c args 0 .leaf, .leaf, 0, orc, true⟩, [], .leaf⟩ := by
   unfold Zf; rw [hfn]; simp [hb]
  rw [hstart] at h hob
  simp only at hob
  intro cs
  obtain ⟨ρ', b', a', k', css', w', ma', mb', s1, r1, v1, q1⟩ := h H w (z3l H) ⟨f, #[], [], [], .run, .normal, none⟩ { tmps := vals ++ Array.replicate (fn.ntmps - vals.size) undef, defers := [] } [.code body] [] w [] []
   ⟨⟨y0d eA fn.ntmps, rfl, .cons (.same _ rfl) .nil, trivial, rfl⟩, fun h => absurd rfl h, y1v _ _ _, y5h hH⟩ (Ev.refl _ _ _ _ _ (y5h hH).dom) cs
  obtain ⟨e1, e2, e3, e4⟩ := y0c hfin
  have hcs := r1.rest.cs
  rw [e3] at hcs
  cases hcs
  obtain ⟨w2, s2, henv', eT, hev', _⟩ := y0g r1 e1 e2 e4 rfl v1 cs
  obtain ⟨u, hu, fV⟩ := z0q (fn := fn) henv' eT hob
  have q : (b'.fn, b'.kind, b'.roundOf) = (f, CallKind.normal, none) := q1
  simp only [Prod.mk.injEq] at q
  have hen : Frame.enter P f vals .normal = Frame.atR ⟨f, #[], [], [], .run, .normal, none⟩ { tmps := vals ++ Array.replicate (fn.ntmps - vals.size) undef, defers := [] } (Wd none [.code body]) := by
   simp [Frame.enter, Frame.atR, hfn, hb, Wd]
  refine ⟨.returned u, w2, { b'.atR { a' with defers := [] } k' with mode := .returning }, ⟨ρ', u, rfl, out_of hu eT hev'⟩, ?_, q.1, rfl, rfl, q.2.1, fn, by show P.funcs[b'.fn]? = _; rw [q.1]; exact hfn, fV⟩
  rw [hen]; exact s1.trans s2
end
end Go.Am
namespace Go.Am
def Vf : List ABlk → Nat → Mem
 | [], _ => .leaf
 | b :: l, i => Wg (Vf l (i + 1)) i (some b)
def z6u (c : Nat → Int) : Nat → List AVal := fun i => [.int .i64 (c i)]
def Cfg.withO : Cfg → List Bool → Cfg
 | ⟨cx, ro, todo, rnd, rs, ⟨env, mem, next, _, _⟩, cs, lps⟩, o => ⟨cx, ro, todo, rnd, rs, ⟨env, mem, next, o, true⟩, cs, lps⟩
def Cfg.withB : Cfg → Bool → Cfg
 | ⟨cx, ro, todo, rnd, rs, ⟨env, mem, next, _, _⟩, cs, lps⟩, b => ⟨cx, ro, todo, rnd, rs, ⟨env, mem, next, [], b⟩, cs, lps⟩
inductive Xd (σ : Type) where
 | stuck
 | ret (vs : List AVal)
 | to (s : σ)
def Jo (P : Program) (rs : List ResultVar) (C : Cfg) (vs : List AVal) : Prop := ∃ C', z7k P C C' ∧ z3b C' = true ∧ Ut P C'.st rs = some vs
def Wj (P : Program) (rs : List ResultVar) {σ : Type} (cfg : σ → Cfg) (C : Cfg) : Xd σ → Prop
 | .stuck => True
 | .ret vs => Jo P rs C vs
 | .to s => z7k P C (cfg s)
section
variable {P : Program} {rs : List ResultVar} {σ : Type} {cfg : σ → Cfg} {C : Cfg}
theorem x2n {c : Bool} {a b : Xd σ} (ha : c = true → Wj P rs cfg C a) (hb : c = false → Wj P rs cfg C b) : Wj P rs cfg C (bif c then a else b) := by
 cases c
 ·exact hb rfl
 ·exact ha rfl
theorem w4j {c : Bool} {a : Xd σ} (ha : c = true → Wj P rs cfg C a) : Wj P rs cfg C (bif c then a else .stuck) := x2n ha fun _ => trivial
theorem z0v {vs : List AVal} (C' : Cfg) (h : z7k P C C') (hf : z3b C' = true) (hr : Ut P C'.st rs = some vs) : Wj P rs cfg C (.ret vs) := ⟨C', h, hf, hr⟩
end
def Yv {σ : Type} (step : σ → Xd σ) : Nat → Xd σ → Xd σ
 | 0, o => o
 | n + 1, .to s => Yv step n (step s)
 | _ + 1, o => o
theorem Zo {P : Program} {rs : List ResultVar} {σ : Type} {cfg : σ → Cfg} {step : σ → Xd σ} (eS : ∀ s, Wj P rs cfg (cfg s) (step s)) {C : Cfg} : ∀ (n : Nat) (o : Xd σ), Wj P rs cfg C o → Wj P rs cfg C (Yv step n o)
 | 0, o, h => h
 | n + 1, .stuck, h => h
 | n + 1, .ret vs, h => h
 | n + 1, .to s, h => Zo eS n (step s) (match step s, eS s with
  | .stuck, _ => trivial
  | .ret vs, ⟨C', g, hf, hr⟩ => ⟨C', z7k.trans h g, hf, hr⟩
  | .to s', g => z7k.trans h g)
theorem Zm {σ : Type} (step : σ → Xd σ) (n : Nat) (vs : List AVal) : Yv step n (.ret vs) = .ret vs := by cases n <;> rfl
theorem Zv {σ : Type} (step : σ → Xd σ) (n : Nat) (s : σ) : Yv step (n + 1) (.to s) = Yv step n (step s) := rfl
theorem z6s {a b : Bool} (ha : a = true) (hb : b = true) : (a && b) = true := by rw [ha, hb]; rfl
theorem x8z {a b : Bool} (h : a = b) : (a == b) = true := by rw [h]; cases b <;> rfl
def Specs.with (S : Specs) (f : FuncId) (F : List AVal → Option (AVal × Bool)) : Specs := fun g => bif Nat.beq g f then some (.val F) else S g
theorem y4v {P : Program} {f : FuncId} {args : List AVal} {sym : Bool} {orc : List Bool} : (Zf P f args sym orc).rs = Zy P f := by
 unfold Zf Zy
 cases P.funcs[f]? <;> rfl
theorem x6r {P : Program} {S : Specs} (hS : Zu P S) {f : FuncId} {F : List AVal → Option (AVal × Bool)} (hf : (P.funcs[f]?).any (fun fn => fn.body.isSome) = true)
  (hF : ∀ args v, F args = some (v, true) → ∃ vs, Kf vs = v ∧ Jo P (Zy P f) (Zf P f args true []) vs ∧ ∃ d, pf d v = true) : Zu P (S.with f F) := by
 intro g G hg
 unfold Specs.with at hg
 cases hgf : Nat.beq g f with
 | false => rw [hgf] at hg; exact hS g G hg
 | true =>
  rw [hgf] at hg
  obtain rfl : Spec.val F = G := Option.some.inj hg
  obtain rfl : g = f := Nat.eq_of_beq_eq_true hgf
  refine ⟨?_, fun args v hv H vals w eA hH => ?_⟩
  ·cases hfn : P.funcs[g]? with
   | none => rw [hfn] at hf; cases hf
   | some fn => rw [hfn] at hf; exact ⟨fn, rfl, hf⟩
  ·obtain ⟨vs, rfl, ⟨C', g1, g2, g3⟩, d, hp⟩ := hF args v hv
   exact (goes_call hf g1 g2 (by rw [y4v]; exact g3) eA hH).mono fun e w' ⟨ρ, u, he, ho⟩ => ⟨ρ.fz, u, ho.le, ho.old, ho.same, he, Kv d _ u hp ho.val, ho.below⟩
def cOf (get : Nat → List AVal) (i : Nat) : Int := match get i with
 | .int _ n :: _ => n
 | _ => 0
def isI (get : Nat → List AVal) : Bool := pd (get = z6u (cOf get))
theorem x2q {get : Nat → List AVal} (h : isI get = true) : ∃ c, get = z6u c := ⟨_, Vr h⟩
theorem w3w (x : Int) : (x != x) = false := by simp
theorem w5r (x : Int) : (x == x) = true := by simp
theorem x9e (x : Int) : (!(x != x)) = true := by simp
theorem x9f (x : Int) : (!(x == x)) = false := by simp
theorem w64 (n : Int) : IntKind.i64.wrap n = (n + 9223372036854775808) % 18446744073709551616 - 9223372036854775808 := by
 rw [IntKind.wrap_i64]
theorem w_in {n : Int} (h : -9223372036854775808 ≤ n) (h' : n ≤ 9223372036854775807) : IntKind.i64.wrap n = n := by simp only [w64]; omega
theorem v3k (x y : Int) : Kz x y = min x y := by unfold Kz; split <;> omega
theorem v3l (x y : Int) : Wt x y = max x y := by unfold Wt; split <;> omega
end Go.Am
namespace Go.Am
inductive VLe : AVal → AVal → Prop
 | refl (v : AVal) : VLe v v
 | undef (v : AVal) : VLe v .undef
 | nils (b sz off : Nat) (cap : w6y) : VLe .nils (.sla b sz off 0 cap)
 | sl (b sz q len : Nat) (cap : w6y) : VLe (.sl b (q * sz) len cap) (.sla b sz q len cap)
 | nild (g : Nat → List AVal) : VLe .nils (.dat 0 g)
 | dat (n : Nat) (g g' : Nat → List AVal) (h : ∀ i, i < n → g i = g' i) : VLe (.dat n g) (.dat n g')
theorem VLe.sound {ρ : Rho} {a a' : AVal} {v : Value} (h : VLe a a') (hv : Yw ρ a v) : Yw ρ a' v := by
 cases h with
 | refl => exact hv
 | undef => exact .undef _
 | nils b sz off cap => cases hv; exact .slan b sz off cap
 | sl b sz q len cap => cases hv with | sl _ _ _ _ l c h hc dX => exact .sla b sz q len cap l c h hc dX
 | nild g => cases hv; exact .datn _
 | dat n g g' hg =>
  cases hv with
  | datn => exact .datn _
  | datz => exact .datz _ _ _
  | dat _ _ blk base sz cap val eC hsz hv hh =>
   refine .dat n g' blk base sz cap val eC (fun i hi => by rw [← hg i hi]; exact hsz i hi) (fun i j hi hj => ?_) hh
   have e := hg i hi
   have hj' : j < (g i).length := by rw [e]; exact hj
   have := hv i j hi hj'
   simp only [e] at this
   exact this
theorem VLe.of_undef {a : AVal} (h : VLe .undef a) : a = .undef := by cases h <;> rfl
inductive RLe : List AVal → List AVal → Prop
 | nil : RLe [] []
 | cons {a b : AVal} {l m : List AVal} (h : VLe a b) (t : RLe l m) : RLe (a :: l) (b :: m)
theorem RLe.refl : ∀ l : List AVal, RLe l l
 | [] => .nil
 | a :: l => .cons (.refl a) (RLe.refl l)
theorem RLe.len {l m : List AVal} (h : RLe l m) : l.length = m.length := by
 induction h with
 | nil => rfl
 | cons _ _ ih => simp [ih]
theorem RLe.get {l m : List AVal} (h : RLe l m) : ∀ (i : Nat) (h1 : i < l.length) (h2 : i < m.length), VLe l[i] m[i] := by
 induction h with
 | nil => intro i h1; simp at h1
 | cons h _ ih =>
  intro i h1 h2
  cases i with
  | zero => exact h
  | succ i => exact ih i (by simpa using h1) (by simpa using h2)
inductive BLe : Option ABlk → Option ABlk → Prop
 | refl (b : Option ABlk) : BLe b b
 | drop (b : Option ABlk) : BLe b none
 | rowed (cells : List AVal) (ty : TypeId) (a : Option Arr) (sz n : Nat) (g : Nat → List AVal) (hc : cells = rows n g) (h1 : 1 ≤ sz) (hl : ∀ i, i < n → (g i).length = sz) : BLe (some ⟨cells, ty, a⟩) (some ⟨rows n g, ty, some ⟨sz, n, g⟩⟩)
 | rws (ty : TypeId) (sz n : Nat) (a a' : Rws) (h : ∀ k, k < n → RLe (a.get k) (a'.get k)) : BLe (some ⟨rows n a.get, ty, some ⟨sz, n, a⟩⟩) (some ⟨rows n a'.get, ty, some ⟨sz, n, a'⟩⟩)
theorem BLe.sound {ρ : Rho} {w : World} {a a' : ABlk} {l : Loc} (h : BLe (some a) (some a')) (hb : Qc ρ w a l) : Qc ρ w a' l := by
 cases h with
 | refl => exact hb
 | rowed cells ty a sz n g hc h1 hl =>
  subst hc
  refine ⟨hb.n, hb.tot, fun A hA => ?_, hb.cells⟩
  obtain rfl := Option.some.inj hA
  exact ⟨rfl, h1, hl⟩
 | rws ty sz n a a' h =>
  obtain ⟨_, h1, hl⟩ := hb.arr _ rfl
  have h1 : 1 ≤ sz := h1
  have hl : ∀ k, k < n → (a.get k).length = sz := hl
  have hl' : ∀ k, k < n → (a'.get k).length = sz := fun k hk => by rw [← (h k hk).len]; exact hl k hk
  have k1 := Yk n hl
  have k2 := Yk n hl'
  obtain ⟨cs, el, g1, g2, g3⟩ := hb.cells
  refine ⟨by rw [hb.n]; show (rows n a.get).length = (rows n a'.get).length; rw [k1, k2], hb.tot, fun A hA => ?_, cs, el, g1, g2, fun i hi => ?_⟩
  ·obtain rfl := Option.some.inj hA
   exact ⟨rfl, h1, hl'⟩
  ·have hi2 : i < (rows n a'.get).length := hi
   have hi' : i < n * sz := by rw [← k2]; exact hi
   have hj : i % sz < sz := Nat.mod_lt _ h1
   have hq : i / sz < n := Nat.div_lt_of_lt_mul (by rw [Nat.mul_comm]; exact hi')
   have e : i / sz * sz + i % sz = i := by rw [Nat.mul_comm]; exact Nat.div_add_mod i sz
   have hic : i < (rows n a.get).length := by rw [k1]; exact hi'
   have r1 := Wf n hl (i / sz) (i % sz) hq hj
   have r2 := Wf n hl' (i / sz) (i % sz) hq hj
   rw [e] at r1 r2
   have j1 : i % sz < (a.get (i / sz)).length := by rw [hl _ hq]; exact hj
   have j2 : i % sz < (a'.get (i / sz)).length := by rw [hl' _ hq]; exact hj
   obtain ⟨v, q1, q2⟩ := g3 i hic
   have q2 : Yw ρ ((rows n a.get)[i]'hic) v := q2
   refine ⟨v, q1, ?_⟩
   show Yw ρ ((rows n a'.get)[i]'hi2) v
   rw [List.getElem?_eq_getElem hic, List.getElem?_eq_getElem j1] at r1
   rw [List.getElem?_eq_getElem hi2, List.getElem?_eq_getElem j2] at r2
   rw [Option.some.inj r1] at q2
   rw [Option.some.inj r2]
   exact ((h _ hq).get _ j1 j2).sound q2
inductive LLe : List (Nat × AVal) → List (Nat × AVal) → Prop
 | nil : LLe [] []
 | cons (t : Nat) (v v' : AVal) (l l' : List (Nat × AVal)) (h : VLe v v') (hl : LLe l l') : LLe ((t, v) :: l) ((t, v') :: l')
inductive MLe : List ABlk → List ABlk → Prop
 | nil (l : List ABlk) : MLe [] l
 | cons (b b' : ABlk) (l l' : List ABlk) (h : BLe (some b) (some b')) (hl : MLe l l') : MLe (b :: l) (b' :: l')
theorem LLe.get {l l' : List (Nat × AVal)} (h : LLe l l') (t : Nat) : VLe (T.get .undef (Yj l) t) (T.get .undef (Yj l') t) := by
 induction h with
 | nil => exact .refl _
 | cons s v v' l l' h _ ih =>
  simp only [Yj, T.get_set]
  split
  ·exact h
  ·exact ih
theorem MLe.get {m m' : List ABlk} (h : MLe m m') : ∀ b, b < m.length → BLe m[b]? m'[b]? := by
 induction h with
 | nil l => intro b hb; exact absurd hb (Nat.not_lt_zero _)
 | cons x x' l l' h _ ih =>
  intro b hb
  cases b with
  | zero => simpa using h
  | succ b => simpa using ih b (by simpa using hb)
theorem MLe.len {m m' : List ABlk} (h : MLe m m') : m.length ≤ m'.length := by
 induction h with
 | nil l => exact Nat.zero_le _
 | cons x x' l l' _ _ ih => simpa using ih
theorem z2f {g h : Nat → List AVal} : ∀ (n : Nat), (∀ i, i < n → g i = h i) → rows n g = rows n h
 | 0, _ => rfl
 | n + 1, e => by rw [z4e, z4e, z2f n fun i hi => e i (by omega), e n (by omega)]
def v5w (n : Nat) (g : Nat → List AVal) (c : Nat → Int) : Prop := ∀ i, i < n → g i = z6u c i
theorem BLe.same (ty : TypeId) (a : Option Arr) {n : Nat} {g : Nat → List AVal} {c : Nat → Int} (h : v5w n g c) : BLe (some ⟨Go.Am.rows n g, ty, a⟩) (some ⟨Go.Am.rows n (z6u c), ty, some ⟨1, n, z6u c⟩⟩) :=
 .rowed _ _ _ _ _ _ (z2f _ h) (Nat.le_refl 1) fun _ _ => rfl
def z2w (l : List Int) : Nat → Int := fun k => l.getD k 0
theorem BLe.told (cells : List AVal) (ty : TypeId) (a : Option Arr) (n : Nat) (c : Nat → Int) (h : cells = Go.Am.rows n (z6u c)) : BLe (some ⟨cells, ty, a⟩) (some ⟨Go.Am.rows n (z6u c), ty, some ⟨1, n, z6u c⟩⟩) :=
 .rowed _ _ _ _ _ _ h (Nat.le_refl 1) fun _ _ => rfl
def z4w (asz sz off len n : Nat) (get : Nat → List AVal) : AVal := bif Nat.beq asz sz && Nat.ble (off + len) n then .dat len (fun k => get (off + k)) else .undef
theorem v3p (sz n : Nat) (g : Nat → List AVal) : z4w sz sz 0 n n g = .dat n g := by
 unfold z4w
 rw [show (Nat.beq sz sz && Nat.ble (0 + n) n) = true by simp [Nat.beq_refl, Nat.ble_eq], cond_true]
 congr 1
 funext k
 rw [Nat.zero_add]
def Qe (g : Nat → List AVal) : Bool := pd (∀ i, (g i).all (pf 6) = true)
theorem x3a {p : AVal → Bool} {l : List AVal} (h : l.all p = true) (n : Nat) : (l.take n).all p = true :=
 List.all_eq_true.2 fun x hx => List.all_eq_true.1 h x (List.mem_of_mem_take hx)
theorem x3b {p : AVal → Bool} {l : List AVal} (h : l.all p = true) (n : Nat) : (l.drop n).all p = true :=
 List.all_eq_true.2 fun x hx => List.all_eq_true.1 h x (List.mem_of_mem_drop hx)
theorem w0k {g : Nat → List AVal} {off len sz : Nat} {new : List AVal} (h : Qe g = true) (hn : new.all (pf 6) = true) : Qe (Ze g off len sz new) = true := Xu fun i => by
 unfold Ze
 cases Nat.ble len i with
 | true => exact x3a (x3b hn _) _
 | false => exact Vr h _
theorem w0h {g : Nat → List AVal} {r fo : Nat} {cs : List AVal} (h : Qe g = true) (hn : cs.all (pf 6) = true) : Qe (Xf g r fo cs) = true := Xu fun i => by
 unfold Xf
 cases Nat.beq i r with
 | true =>
  rw [cond_true, List.all_append, List.all_append, x3a (Vr h r), hn, x3b (Vr h r)]
  rfl
 | false => exact Vr h _
theorem x3e {P : Program} {S : Specs} (hS : Zu P S) {f : FuncId} {F : List AVal → Option (AVal × Bool)} (hf : (P.funcs[f]?).any (fun fn => fn.body.isSome) = true)
  (hF : ∀ args v, F args = some (v, true) → ∃ vs, (∀ (ρ : Rho) (u : Value), Yw ρ (Kf vs) u → Yw ρ v u) ∧ Jo P (Zy P f) (Zf P f args true []) vs ∧ ∃ d, pf d (Kf vs) = true) : Zu P (S.with f F) := by
 intro g G hg
 unfold Specs.with at hg
 cases hgf : Nat.beq g f with
 | false => rw [hgf] at hg; exact hS g G hg
 | true =>
  rw [hgf] at hg
  obtain rfl : Spec.val F = G := Option.some.inj hg
  obtain rfl : g = f := Nat.eq_of_beq_eq_true hgf
  refine ⟨?_, fun args v hv H vals w eA hH => ?_⟩
  ·cases hfn : P.funcs[g]? with
   | none => rw [hfn] at hf; cases hf
   | some fn => rw [hfn] at hf; exact ⟨fn, rfl, hf⟩
  ·obtain ⟨vs, hw, ⟨C', g1, g2, g3⟩, d, hp⟩ := hF args v hv
   exact (goes_call hf g1 g2 (by rw [y4v]; exact g3) eA hH).mono fun e w' ⟨ρ, u, he, ho⟩ => ⟨ρ.fz, u, ho.le, ho.old, ho.same, he, hw _ _ (Kv d _ u hp ho.val), ho.below⟩
theorem v5w.nil (g : Nat → List AVal) (c : Nat → Int) : v5w 0 g c := fun _ h => absurd h (Nat.not_lt_zero _)
theorem x5j : Qe (fun _ => []) = true := Xu fun _ => rfl
theorem y9z (s t : Nat) : Qe (fun k => (([] : List AVal).drop (k * s)).take t) = true := Xu fun i => by simp
theorem y0b {g : Nat → List AVal} {o : Nat} (h : Qe g = true) : Qe (fun k => g (o + k)) = true := Xu fun i => Vr h (o + i)
theorem w0j {g h : Nat → List AVal} {len : Nat} (p : Qe g = true) (q : Qe h = true) : Qe (Ju g len h) = true := Xu fun i => by
 unfold Ju
 cases Nat.ble len i with
 | true => exact Vr q _
 | false => exact Vr p _
def y6p (sz n : Nat) (g : Nat → List AVal) : Bool := pd (∀ i, i < n → (g i).length = sz ∧ (g i).all z6t = true)
end Go.Am
namespace Go.Am
open Go.Sort Go.RowKit
variable {P : Program} {ρ : Rho}
theorem Rel.rewritten {mem : Mem} {next : Nat} {w w' : World} (h : Rel ρ mem next w) {b : Nat} {l : Loc} {ab : ABlk} (hb : ρ b = some l) (hm : Xz mem b = some ab) {cs : List AVal}
  (dX : cs.length = ab.cells.length) (eR : ∀ k, k < w.heap.size → k ≠ l.blk → w'.heap[k]? = w.heap[k]?) (hsize : w.heap.size ≤ w'.heap.size)
  (hnew : ∃ cur el, w'.heap[l.blk]? = some (.cells cur el (0, 0)) ∧ l.base + l.tot ≤ cur.size ∧ ∀ (i : Nat) (hi : i < cs.length), ∃ v, cur[l.base + i]? = some v ∧ Yw ρ cs[i] v) :
  Rel ρ (Wg mem b (some ⟨cs, ab.ty, none⟩)) next w' := by
 have hbk := h.blk b l ab hb hm
 refine ⟨h.dom, fun c c' m m' e e' he hs hs' => ?_, fun c m ac e hc => ?_, fun k o e => ?_, fun c m e hs => h.sep c m e (by
  by_cases hcb : c = b
  ·rw [hcb, hm]; rfl
  ·rwa [Zw _ _ hcb] at hs), fun c m e => Nat.lt_of_lt_of_le (h.real c m e) hsize, fun c hc => by have := h.dom b l hb; rw [Zw _ _ (by omega)]; exact h.bd c hc, h.ldom⟩
 ·refine h.inj c c' m m' e e' he ?_ ?_
  ·by_cases hcb : c = b
   ·rw [hcb, hm]; rfl
   ·rwa [Zw _ _ hcb] at hs
  ·by_cases hcb : c' = b
   ·rw [hcb, hm]; rfl
   ·rwa [Zw _ _ hcb] at hs'
 ·by_cases hcb : c = b
  ·subst hcb
   rw [Yd] at hc
   obtain rfl := Option.some.inj hc
   rw [hb] at e
   obtain rfl := Option.some.inj e
   exact ⟨by rw [dX]; exact hbk.n, hbk.tot, (fun A e => by cases e), hnew⟩
  ·rw [Zw _ _ hcb] at hc
   refine (h.blk c m ac e hc).world (Rho.le_refl _) (eR m.blk (h.real c m e) fun heq => hcb ?_)
   exact h.inj c b m l e hb heq (by rw [hc]; rfl) (by rw [hm]; rfl)
 ·have hk := h.old k o e
  rw [eR k ?_ ?_]
  ·exact hk
  ·exact (Array.getElem?_eq_some_iff.1 hk).1
  ·intro heq
   have := h.sep b l hb (by rw [hm]; rfl)
   rw [← heq, e] at this
   cases this
def Za (n : Nat) (c : Nat → Int) : List Int := (List.range n).map c
def fRow (srt : List Int → List Int) (args : List AVal) (mem : Mem) : Option (AVal × Nat × ABlk × Bool) := match args with
 | [.sla b sz off n cap] => match Xz mem b with
  | some ⟨_, ty, some A⟩ => some (.tup [], b, ⟨rows A.n (z6u (z2w (srt (Za n (cOf A.get))))), ty, some ⟨1, A.n, z6u (z2w (srt (Za n (cOf A.get))))⟩⟩,
    Nat.beq sz 1 && (Nat.beq A.sz 1 && (Nat.beq off 0 && (decide (n = A.n) && (isI A.get && decide (n < 4611686018427387904))))))
  | _ => none
 | _ => none
theorem Ky (n : Nat) (c : Nat → Int) (i : Nat) (h : i < n) : (rows n (z6u c))[i]? = some (.int .i64 (c i)) := by
 have := Wf (get := z6u c) (sz := 1) n (fun _ _ => rfl) i 0 h Nat.one_pos
 simpa [z6u] using this
theorem Wx (n : Nat) (c : Nat → Int) : (rows n (z6u c)).length = n := by
 rw [Yk (sz := 1) n fun _ _ => rfl, Nat.mul_one]
theorem z2o (w : World) (n blk off : Nat) (d : Array Int) (os : Array Obj) (k : Nat) (hk : k < w.heap.size) :
  (grow (putRow (Value.int .i64) (Go.Sort.ahead w n) blk off d) os).heap[k]? = if k = blk then (w.heap[k]?).map (onCells (putCells (Value.int .i64) off d)) else w.heap[k]? := by
 show (((Go.Sort.ahead w n).heap.modify blk (onCells (putCells (Value.int .i64) off d))) ++ os)[k]? = _
 rw [Array.getElem?_append_left (by simp; exact hk), Array.getElem?_modify]
 show (if blk = k then _ else _) = _
 by_cases h : k = blk
 ·rw [if_pos h.symm, if_pos h]; rfl
 ·rw [if_neg (fun e => h e.symm), if_neg h]; rfl
theorem Ev.rewritten {mem : Mem} {next floor : Nat} {w w' : World} (h : Rel ρ mem next w) {b : Nat} (o : Option ABlk) (hb : ∀ l, ρ b = some l → floor ≤ b) (hnone : ρ b = none → ∀ cs ty, Xz mem b ≠ some ⟨cs, ty, none⟩)
  (eR : ∀ k, k < w.heap.size → (∀ l, ρ b = some l → k ≠ l.blk) → w'.heap[k]? = w.heap[k]?) (hsize : w.heap.size ≤ w'.heap.size) (h1 : w'.os = w.os) (h2 : w'.tape = w.tape) (h3 : w'.output = w.output) :
  Ev ρ ρ floor mem next (Wg mem b o) next w w' where
 ext := Rho.le_refl _
 new _ _ := rfl
 nxt := Nat.le_refl _
 unborn k _ e cs ty hm := by
  by_cases hk : k = b
  ·subst hk; exact absurd hm (hnone e cs ty)
  ·rw [Zw _ _ hk]; exact hm
 frame k o hk hfr := by
  rw [eR k (Array.getElem?_eq_some_iff.1 hk).1 fun l hl heq => hfr b l hl (hb l hl) heq.symm]
  exact hk
 fresh k m hk e := by have := h.dom k m e; omega
 size := hsize
 os := h1
 tape := h2
 output := h3
 still _ _ := rfl
theorem Rel.unbornSet {mem : Mem} {next : Nat} {w : World} (h : Rel ρ mem next w) {b : Nat} (hb : ρ b = none) (hlt : b < next) (o : Option ABlk) : Rel ρ (Wg mem b o) next w := by
 have ne : ∀ c l, ρ c = some l → c ≠ b := fun c l e he => by rw [he, hb] at e; cases e
 refine ⟨h.dom, fun c c' m m' e e' he hs hs' => ?_, fun c m ac e hc => ?_, h.old, fun c m e hs => ?_, h.real, fun c hc => ?_, h.ldom⟩
 ·rw [Zw _ _ (ne _ _ e)] at hs
  rw [Zw _ _ (ne _ _ e')] at hs'
  exact h.inj c c' m m' e e' he hs hs'
 ·rw [Zw _ _ (ne _ _ e)] at hc
  exact h.blk c m ac e hc
 ·rw [Zw _ _ (ne _ _ e)] at hs
  exact h.sep c m e hs
 ·rw [Zw _ _ (by omega)]
  exact h.bd c hc
theorem v5e {f : FuncId} {srt : List Int → List Int} (hsl : ∀ zs, (srt zs).length = zs.length)
  (hC : ∀ (blk off cap : Nat) (zs : List Int) (w : World), Holds (Value.int .i64) w blk off zs.toArray → blk < w.heap.size → zs.length < 4611686018427387904 →
   Calls P f #[.slice (some ⟨blk, off, none⟩) zs.length cap] w fun e w' => e = .returned (.tuple #[]) ∧ ∃ n os, w' = grow (putRow (Value.int .i64) (Go.Sort.ahead w n) blk off (srt zs).toArray) os)
  (hN : ∀ (p : Option Addr) (cap : Nat) (w : World), Calls P f #[.slice p 0 cap] w fun e w' => e = .returned (.tuple #[]) ∧ w' = w) : y7h P f (fRow srt) := by
 intro args mem v b blk h hsome ρ next floor vals w hfl eA dW
 unfold fRow at h
 split at h
 ·rename_i b0 sz off n cap
  split at h
  ·rename_i cells ty A hm
   obtain ⟨asz, an, get⟩ := A
   simp only [Option.some.injEq, Prod.mk.injEq, Bool.and_eq_true] at h
   obtain ⟨rfl, rfl, rfl, h1, h2, h3, h4, h5, h6⟩ := h
   have g1 := Nat.eq_of_beq_eq_true h1
   have g2 := Nat.eq_of_beq_eq_true h2
   have g3 := Nat.eq_of_beq_eq_true h3
   have g4 : n = an := of_decide_eq_true h4
   have h6 : n < 4611686018427387904 := of_decide_eq_true h6
   subst g1
   subst g2
   subst g3
   subst g4
   obtain ⟨c, hcg⟩ := x2q h5
   have e0 : cOf (z6u c) = c := rfl
   simp only [hcg, e0]
   obtain ⟨u, hu, hvals⟩ : ∃ u, Yw ρ (.sla b0 1 0 n cap) u ∧ vals = #[u] := by
    obtain ⟨vl⟩ := vals
    cases eA with
    | cons h1 h2 => cases h2; exact ⟨_, h1, rfl⟩
   subst hvals
   have hlt : b0 < next := by
    rcases Nat.lt_or_ge b0 next with h | h
    ·exact h
    ·have := dW.bd b0 h; rw [hm] at this; cases this
   generalize hL : srt (Za n c) = L
   have hLl : L.length = n := by rw [← hL, hsl, Za, List.length_map, List.length_range]
   have hnn : ρ b0 = none → ∀ cs ty', Xz mem b0 ≠ some ⟨cs, ty', none⟩ := fun _ cs ty' e => by rw [hm] at e; cases e
   cases hu with
   | sla _ _ _ _ _ l cc e hc dX =>
    have hbk := dW.blk b0 l _ e hm
    obtain ⟨har, _, _⟩ := hbk.arr _ rfl
    simp only [hcg] at har
    subst har
    obtain ⟨cur, el, hh, hsz, eD⟩ := hbk.cells
    simp only [Wx] at eD
    have eX : ∀ i, i < n → cur[l.base + i]? = some (.int .i64 (c i)) := fun i hi => by
     obtain ⟨v, e1, e2⟩ := eD i hi
     rw [show (rows n (z6u c))[i]'(by rw [Wx]; exact hi) = .int .i64 (c i) from Option.some.inj (by rw [← List.getElem?_eq_getElem, Ky n c i hi])] at e2
     cases e2
     exact e1
    have fF := dW.real b0 l e
    have hzs : (Za n c).length = n := by rw [Za, List.length_map, List.length_range]
    have hH : Holds (Value.int .i64) w l.blk (l.base + 0 * 1) (Za n c).toArray := fun j hj => by
     have hj : j < n := by simpa [hzs] using hj
     refine ⟨?_, ?_⟩
     ·simp only [World.cell?, hh, Nat.zero_mul, Nat.add_zero]
      rw [eX j hj]
      simp [Za, hj]
     ·simp [World.frozen?, hh]
    have eO := hC l.blk (l.base + 0 * 1) cc (Za n c) w hH fF (by omega)
    rw [hzs, hL] at eO
    refine eO.mono fun e' w' ⟨he, q, os, hw'⟩ => ⟨_, he, ?_, ?_, ?_⟩
    ·exact .tup [] #[] rfl fun i h1 h2 => absurd h1 (Nat.not_lt_zero _)
    ·subst hw'
     refine Rel.setArr ?_ ⟨1, n, z6u (z2w L)⟩ rfl (Nat.le_refl 1) fun _ _ => rfl
     refine Rel.rewritten dW e hm (by simp only [Wx]) (fun k hk hne => ?_) ?_ ?_
     ·rw [z2o _ _ _ _ _ _ _ hk, if_neg hne]
     ·show _ ≤ (((Go.Sort.ahead w q).heap.modify _ _) ++ os).size
      simp only [Array.size_append, Array.size_modify]
      exact Nat.le_add_right _ _
     ·refine ⟨putCells (Value.int .i64) (l.base + 0 * 1) L.toArray cur, el, ?_, ?_, fun i hi => ?_⟩
      ·rw [z2o _ _ _ _ _ _ _ fF, if_pos rfl, hh]; rfl
      ·simp only [putCells, Array.size_mapIdx]; exact hsz
      ·rw [Wx] at hi
       refine ⟨.int .i64 (z2w L i), ?_, ?_⟩
       ·simp only [putCells, Array.getElem?_mapIdx, eX i hi, Option.map_some, Nat.zero_mul, Nat.add_zero]
        rw [if_pos ⟨by omega, by simp [hLl]; omega⟩]
        congr 1
        simp [z2w, hLl, hi]
       ·rw [show (rows n (z6u (z2w L)))[i]'(by rw [Wx]; exact hi) = .int .i64 (z2w L i) from Option.some.inj (by rw [← List.getElem?_eq_getElem, Ky n _ i hi])]
        exact .int _ _
    ·subst hw'
     refine Ev.rewritten dW _ (fun l' _ => hfl) hnn (fun k hk hne => ?_) ?_ rfl rfl rfl
     ·rw [z2o _ _ _ _ _ _ _ hk, if_neg (hne l e)]
     ·show _ ≤ (((Go.Sort.ahead w q).heap.modify _ _) ++ os).size
      simp only [Array.size_append, Array.size_modify]
      exact Nat.le_add_right _ _
   | slan =>
    refine (hN none 0 w).mono fun e' w' ⟨he, hw'⟩ => ⟨_, he, ?_, ?_, ?_⟩
    ·exact .tup [] #[] rfl fun i h1 h2 => absurd h1 (Nat.not_lt_zero _)
    ·subst hw'
     refine Rel.setArr ?_ ⟨1, 0, z6u (z2w L)⟩ rfl (Nat.le_refl 1) fun _ _ => rfl
     cases e : ρ b0 with
     | none => exact Rel.unbornSet dW e hlt _
     | some l =>
      have hbk := dW.blk b0 l _ e hm
      obtain ⟨har, _, _⟩ := hbk.arr _ rfl
      simp only [hcg] at har
      subst har
      obtain ⟨cur, el, hh, hsz, eD⟩ := hbk.cells
      exact Rel.rewritten dW e hm rfl (fun _ _ _ => rfl) (Nat.le_refl _) ⟨cur, el, hh, hsz, fun i hi => absurd hi (Nat.not_lt_zero _)⟩
    ·subst hw'
     exact Ev.rewritten dW _ (fun l' _ => hfl) hnn (fun _ _ _ => rfl) (Nat.le_refl _) rfl rfl rfl
  ·cases h
 ·cases h
def fCut (srt : List Int → List Int) (res : List Int → Nat) (args : List AVal) (mem : Mem) : Option (AVal × Nat × ABlk × Bool) := match args with
 | [.sla b sz off n cap] => match Xz mem b with
  | some ⟨_, ty, some A⟩ => some (.sla b 1 0 (res (Za n (cOf A.get))) cap, b, ⟨rows A.n (z6u (z2w (srt (Za n (cOf A.get))))), ty, some ⟨1, A.n, z6u (z2w (srt (Za n (cOf A.get))))⟩⟩,
    Nat.beq sz 1 && (Nat.beq A.sz 1 && (Nat.beq off 0 && (decide (n = A.n) && (isI A.get && decide (n < 4611686018427387904))))))
  | _ => none
 | _ => none
theorem v5f {f : FuncId} {srt : List Int → List Int} {res : List Int → Nat} (hsl : ∀ zs, (srt zs).length = zs.length) (fV : ∀ zs, res zs ≤ zs.length)
  (hC : ∀ (blk off cap : Nat) (zs : List Int) (w : World), Holds (Value.int .i64) w blk off zs.toArray → blk < w.heap.size → zs.length < 4611686018427387904 → zs.length ≤ cap →
   Calls P f #[.slice (some ⟨blk, off, none⟩) zs.length cap] w fun e w' => e = .returned (.slice (some ⟨blk, off, none⟩) (res zs) cap) ∧ ∃ n os, w' = grow (putRow (Value.int .i64) (Go.Sort.ahead w n) blk off (srt zs).toArray) os)
  (hN : ∀ (p : Option Addr) (cap : Nat) (w : World), Calls P f #[.slice p 0 cap] w fun e w' => e = .returned (.slice p 0 cap) ∧ w' = w) : y7h P f (fCut srt res) := by
 intro args mem v b blk h hsome ρ next floor vals w hfl eA dW
 unfold fCut at h
 split at h
 ·rename_i b0 sz off n cap
  split at h
  ·rename_i cells ty A hm
   obtain ⟨asz, an, get⟩ := A
   simp only [Option.some.injEq, Prod.mk.injEq, Bool.and_eq_true] at h
   obtain ⟨rfl, rfl, rfl, h1, h2, h3, h4, h5, h6⟩ := h
   have g1 := Nat.eq_of_beq_eq_true h1
   have g2 := Nat.eq_of_beq_eq_true h2
   have g3 := Nat.eq_of_beq_eq_true h3
   have g4 : n = an := of_decide_eq_true h4
   have h6 : n < 4611686018427387904 := of_decide_eq_true h6
   subst g1
   subst g2
   subst g3
   subst g4
   obtain ⟨c, hcg⟩ := x2q h5
   have e0 : cOf (z6u c) = c := rfl
   simp only [hcg, e0]
   obtain ⟨u, hu, hvals⟩ : ∃ u, Yw ρ (.sla b0 1 0 n cap) u ∧ vals = #[u] := by
    obtain ⟨vl⟩ := vals
    cases eA with
    | cons h1 h2 => cases h2; exact ⟨_, h1, rfl⟩
   subst hvals
   have hlt : b0 < next := by
    rcases Nat.lt_or_ge b0 next with h | h
    ·exact h
    ·have := dW.bd b0 h; rw [hm] at this; cases this
   generalize hL : srt (Za n c) = L
   have hLl : L.length = n := by rw [← hL, hsl, Za, List.length_map, List.length_range]
   have hnn : ρ b0 = none → ∀ cs ty', Xz mem b0 ≠ some ⟨cs, ty', none⟩ := fun _ cs ty' e => by rw [hm] at e; cases e
   cases hu with
   | sla _ _ _ _ _ l cc e hc dX =>
    have hbk := dW.blk b0 l _ e hm
    obtain ⟨har, _, _⟩ := hbk.arr _ rfl
    simp only [hcg] at har
    subst har
    obtain ⟨cur, el, hh, hsz, eD⟩ := hbk.cells
    simp only [Wx] at eD
    have eX : ∀ i, i < n → cur[l.base + i]? = some (.int .i64 (c i)) := fun i hi => by
     obtain ⟨v, e1, e2⟩ := eD i hi
     rw [show (rows n (z6u c))[i]'(by rw [Wx]; exact hi) = .int .i64 (c i) from Option.some.inj (by rw [← List.getElem?_eq_getElem, Ky n c i hi])] at e2
     cases e2
     exact e1
    have fF := dW.real b0 l e
    have hzs : (Za n c).length = n := by rw [Za, List.length_map, List.length_range]
    have hH : Holds (Value.int .i64) w l.blk (l.base + 0 * 1) (Za n c).toArray := fun j hj => by
     have hj : j < n := by simpa [hzs] using hj
     refine ⟨?_, ?_⟩
     ·simp only [World.cell?, hh, Nat.zero_mul, Nat.add_zero]
      rw [eX j hj]
      simp [Za, hj]
     ·simp [World.frozen?, hh]
    have eO := hC l.blk (l.base + 0 * 1) cc (Za n c) w hH fF (by omega) (by omega)
    rw [hzs, hL] at eO
    refine eO.mono fun e' w' ⟨he, q, os, hw'⟩ => ⟨_, he, ?_, ?_, ?_⟩
    ·exact .sla _ _ _ _ _ l cc e hc (Nat.le_trans (fV _) (by omega))
    ·subst hw'
     refine Rel.setArr ?_ ⟨1, n, z6u (z2w L)⟩ rfl (Nat.le_refl 1) fun _ _ => rfl
     refine Rel.rewritten dW e hm (by simp only [Wx]) (fun k hk hne => ?_) ?_ ?_
     ·rw [z2o _ _ _ _ _ _ _ hk, if_neg hne]
     ·show _ ≤ (((Go.Sort.ahead w q).heap.modify _ _) ++ os).size
      simp only [Array.size_append, Array.size_modify]
      exact Nat.le_add_right _ _
     ·refine ⟨putCells (Value.int .i64) (l.base + 0 * 1) L.toArray cur, el, ?_, ?_, fun i hi => ?_⟩
      ·rw [z2o _ _ _ _ _ _ _ fF, if_pos rfl, hh]; rfl
      ·simp only [putCells, Array.size_mapIdx]; exact hsz
      ·rw [Wx] at hi
       refine ⟨.int .i64 (z2w L i), ?_, ?_⟩
       ·simp only [putCells, Array.getElem?_mapIdx, eX i hi, Option.map_some, Nat.zero_mul, Nat.add_zero]
        rw [if_pos ⟨by omega, by simp [hLl]; omega⟩]
        congr 1
        simp [z2w, hLl, hi]
       ·rw [show (rows n (z6u (z2w L)))[i]'(by rw [Wx]; exact hi) = .int .i64 (z2w L i) from Option.some.inj (by rw [← List.getElem?_eq_getElem, Ky n _ i hi])]
        exact .int _ _
    ·subst hw'
     refine Ev.rewritten dW _ (fun l' _ => hfl) hnn (fun k hk hne => ?_) ?_ rfl rfl rfl
     ·rw [z2o _ _ _ _ _ _ _ hk, if_neg (hne l e)]
     ·show _ ≤ (((Go.Sort.ahead w q).heap.modify _ _) ++ os).size
      simp only [Array.size_append, Array.size_modify]
      exact Nat.le_add_right _ _
   | slan =>
    refine (hN none 0 w).mono fun e' w' ⟨he, hw'⟩ => ⟨_, he, ?_, ?_, ?_⟩
    ·rw [show res (Za 0 c) = 0 from Nat.le_zero.1 (fV _)]
     exact .slan _ _ _ _
    ·subst hw'
     refine Rel.setArr ?_ ⟨1, 0, z6u (z2w L)⟩ rfl (Nat.le_refl 1) fun _ _ => rfl
     cases e : ρ b0 with
     | none => exact Rel.unbornSet dW e hlt _
     | some l =>
      have hbk := dW.blk b0 l _ e hm
      obtain ⟨har, _, _⟩ := hbk.arr _ rfl
      simp only [hcg] at har
      subst har
      obtain ⟨cur, el, hh, hsz, eD⟩ := hbk.cells
      exact Rel.rewritten dW e hm rfl (fun _ _ _ => rfl) (Nat.le_refl _) ⟨cur, el, hh, hsz, fun i hi => absurd hi (Nat.not_lt_zero _)⟩
    ·subst hw'
     exact Ev.rewritten dW _ (fun l' _ => hfl) hnn (fun _ _ _ => rfl) (Nat.le_refl _) rfl rfl rfl
  ·cases h
 ·cases h
end Go.Am
namespace Go.Am
def q4 (f : Nat → Nat → Int) : Nat → List AVal := fun k => [.int .i64 (f k 0), .int .i64 (f k 1), .int .i64 (f k 2), .int .i64 (f k 3)]
theorem y5t (a : Nat) : (Nat.beq a a == true) = true := by simp [Nat.beq_refl]
end Go.Am
namespace Go.Am
inductive VP where
 | keep
 | drop
  | grow (b sz : Nat)
  | list (n : Nat) (g : Nat → List AVal)
  | len (n : Nat)
  | frz (n n' : Nat) (a g : Nat → List AVal)
def Jy (n : Nat) (a g : Nat → List AVal) : Bool := pd (∀ i, i < n → a i = g i)
def x7w (cells : List AVal) (sz n : Nat) (g : Nat → List AVal) : Bool := pd (cells = rows n g ∧ 1 ≤ sz ∧ ∀ i, i < n → (g i).length = sz)
def rlesR (n : Nat) (a g : Nat → List AVal) : Bool := pd (∀ i, i < n → RLe (a i) (g i))
def y3m (a b : Nat) : Bool := pd (a = b)
theorem Uv {a b : Nat} (h : a = b) : y3m a b = true := Xu h
def w0f (v : AVal) (n : Nat) (a : Nat → List AVal) : Bool := pd (v = .dat n a)
theorem w5c (sz n : Nat) (g : Nat → List AVal) : w0f (z4w sz sz 0 n n g) n g = true := Xu (v3p sz n g)
theorem w0e (n : Nat) (g : Nat → List AVal) : w0f (.dat n g) n g = true := Xu rfl
def y5y : VP → AVal → Bool → AVal × Bool
 | .keep, v, ob => (v, ob)
 | .drop, _, ob => (.undef, ob)
 | .grow b sz, v, ob => match v with
  | .nils => (.sla b sz 0 0 (.un sz), ob)
  | .sl b o len cap => (.sla b sz 0 len cap, Nat.beq o 0 && ob)
  | v => (v, ob)
 | .list n' g, v, ob => match v with
  | .nils => (.dat 0 g, ob)
  | .dat n a => (.dat n' g, y3m n n' && (Jy n a g && ob))
  | v => (v, ob)
 | .len n', v, ob => match v with
  | .sla b sz off n cap => (.sla b sz off n' cap, y3m n n' && ob)
  | v => (v, ob)
 | .frz n n' a g, v, ob => (.dat n' g, w0f v n a && (y3m n n' && (Jy n a g && ob)))
theorem x2l {p : VP} {v : AVal} {ob : Bool} (h : (y5y p v ob).2 = true) : VLe v (y5y p v ob).1 ∧ ob = true := by
 cases p with
 | keep => exact ⟨.refl _, h⟩
 | drop => exact ⟨.undef _, h⟩
 | grow b sz =>
  cases v with
  | nils => exact ⟨.nils _ _ _ _, h⟩
  | sl b' o len cap =>
   simp only [y5y, Bool.and_eq_true] at h
   have e := Nat.eq_of_beq_eq_true h.1
   subst e
   have := VLe.sl b' sz 0 len cap
   rw [Nat.zero_mul] at this
   exact ⟨this, h.2⟩
  | _ => exact ⟨.refl _, h⟩
 | list n' g =>
  cases v with
  | nils => exact ⟨.nild _, h⟩
  | dat n a =>
   simp only [y5y, Bool.and_eq_true] at h
   obtain rfl := Vr h.1
   exact ⟨.dat _ _ _ (Vr h.2.1), h.2.2⟩
  | _ => exact ⟨.refl _, h⟩
 | len n' =>
  cases v with
  | sla b sz off n cap =>
   simp only [y5y, Bool.and_eq_true] at h
   obtain rfl := Vr h.1
   exact ⟨.refl _, h.2⟩
  | _ => exact ⟨.refl _, h⟩
 | frz n n' a g =>
  simp only [y5y, Bool.and_eq_true] at h
  obtain rfl := Vr h.1
  obtain rfl := Vr h.2.1
  exact ⟨.dat _ _ _ (Vr h.2.2.1), h.2.2.2⟩
def y5x : List VP → List AVal → Bool → List AVal × Bool
 | _, [], ob => ([], ob)
 | [], l, ob => (l, ob)
 | p :: ps, v :: l, ob => match y5x ps l ob with
  | (l', ob) => match y5y p v ob with
   | (v', ob) => (v' :: l', ob)
theorem z9q : ∀ {ps : List VP} {l : List AVal} {ob : Bool}, (y5x ps l ob).2 = true → RLe l (y5x ps l ob).1 ∧ ob = true
 | [], [], _, h => ⟨.nil, h⟩
 | _ :: _, [], _, h => ⟨.nil, h⟩
 | [], a :: l, _, h => ⟨RLe.refl _, h⟩
 | p :: ps, v :: l, ob, h => by
  simp only [y5x] at h ⊢
  obtain ⟨h1, h2⟩ := x2l h
  obtain ⟨h3, h4⟩ := z9q h2
  exact ⟨.cons h1 h3, h4⟩
inductive BP where
 | keep
 | drop
 | cells (ps : List VP)
 | rowed (sz n : Nat) (g : Nat → List AVal)
 | rws (a : Rws)
def z9r : BP → Option ABlk → Bool → Option ABlk × Bool
 | .keep, o, ob => (o, ob)
 | .drop, _, ob => (none, ob)
 | .cells ps, o, ob => match o with
  | some ⟨cells, ty, none⟩ => match y5x ps cells ob with
   | (cs, ob) => (some ⟨cs, ty, none⟩, ob)
  | o => (o, ob)
 | .rowed sz n g, o, ob => match o with
  | some ⟨cells, ty, none⟩ => (some ⟨rows n g, ty, some ⟨sz, n, .flat g⟩⟩, x7w cells sz n g && ob)
  | some ⟨_, ty, some ⟨sz', n', a⟩⟩ => (some ⟨rows n g, ty, some ⟨sz', n, .flat g⟩⟩, y3m n' n && (Jy n' a.get g && ob))
  | o => (o, ob)
 | .rws a', o, ob => match o with
  | some ⟨_, ty, some ⟨sz, n, a⟩⟩ => (some ⟨rows n a'.get, ty, some ⟨sz, n, a'⟩⟩, rlesR n a.get a'.get && ob)
  | o => (o, ob)
theorem RLe.sound {ρ : Rho} {l m : List AVal} (h : RLe l m) (i : Nat) (h1 : i < l.length) (h2 : i < m.length) {v : Value} (hv : Yw ρ l[i] v) : Yw ρ m[i] v := (h.get i h1 h2).sound hv
theorem y9h {p : BP} {o : Option ABlk} {ob : Bool} {x' : ABlk} (h : (z9r p o ob).2 = true) (hx : (z9r p o ob).1 = some x') : ob = true ∧ ∃ x, o = some x ∧ ∀ (ρ : Rho) (w : World) (l : Loc), Qc ρ w x l → Qc ρ w x' l := by
 cases p with
 | keep => exact ⟨h, x', hx, fun _ _ _ q => q⟩
 | drop => cases hx
 | cells ps =>
  rcases o with _ | ⟨cells, ty, _ | A⟩
  ·cases hx
  ·simp only [z9r] at h hx
   obtain ⟨h1, h2⟩ := z9q h
   obtain rfl := Option.some.inj hx
   refine ⟨h2, _, rfl, fun ρ w l hb => ?_⟩
   obtain ⟨cs, el, g1, g2, g3⟩ := hb.cells
   refine ⟨by rw [hb.n]; exact h1.len, hb.tot, (fun A hA => by cases hA), cs, el, g1, g2, fun i hi => ?_⟩
   have hi0 : i < cells.length := by rw [h1.len]; exact hi
   obtain ⟨v, q1, q2⟩ := g3 i hi0
   exact ⟨v, q1, h1.sound i hi0 hi q2⟩
  ·exact ⟨h, _, rfl, fun ρ w l hb => by obtain rfl := Option.some.inj hx; exact hb⟩
 | rowed sz n g =>
  rcases o with _ | ⟨cells, ty, _ | ⟨sz', n', a⟩⟩
  ·cases hx
  ·simp only [z9r, Bool.and_eq_true] at h hx
   obtain rfl := Option.some.inj hx
   obtain ⟨h1, h2, h3⟩ := Vr h.1
   exact ⟨h.2, _, rfl, fun ρ w l hb => (BLe.rowed cells ty none sz n g h1 h2 h3).sound hb⟩
  ·simp only [z9r, Bool.and_eq_true] at h hx
   obtain rfl := Option.some.inj hx
   obtain rfl := Vr h.1
   have h1 := Vr h.2.1
   refine ⟨h.2.2, _, rfl, fun ρ w l hb => ?_⟩
   obtain ⟨q1, q2, q3⟩ := hb.arr _ rfl
   exact (BLe.rowed cells ty _ sz' n' g (q1.trans (z2f _ h1)) q2 fun i hi => by rw [← h1 i hi]; exact q3 i hi).sound hb
 | rws a' =>
  rcases o with _ | ⟨cells, ty, _ | ⟨sz', n', a⟩⟩
  ·cases hx
  ·exact ⟨h, _, rfl, fun ρ w l hb => by obtain rfl := Option.some.inj hx; exact hb⟩
  ·simp only [z9r, Bool.and_eq_true] at h hx
   obtain rfl := Option.some.inj hx
   refine ⟨h.2, _, rfl, fun ρ w l hb => ?_⟩
   obtain ⟨q1, _, _⟩ := hb.arr _ rfl
   have q1 : cells = rows n' a.get := q1
   subst q1
   exact (BLe.rws ty sz' n' a a' (Vr h.1)).sound hb
def x4v : List (Nat × VP) → T AVal → Bool → T AVal × Bool
 | [], env, ob => (env, ob)
 | (t, p) :: l, env, ob => match x4v l env ob with
  | (e, ob) => match y5y p (T.get .undef e t) ob with
   | (v, ob) => (T.set .undef e t v, ob)
def ELe (e e' : T AVal) : Prop := ∀ t, (∀ (ρ : Rho) (v : Value), Yw ρ (T.get .undef e t) v → Yw ρ (T.get .undef e' t) v) ∧ (T.get .undef e t = .undef → T.get .undef e' t = .undef)
theorem ELe.refl (e : T AVal) : ELe e e := fun _ => ⟨fun _ _ h => h, fun h => h⟩
theorem y3l : ∀ {l : List (Nat × VP)} {env : T AVal} {ob : Bool}, (x4v l env ob).2 = true → ELe env (x4v l env ob).1 ∧ ob = true
 | [], _, _, h => ⟨ELe.refl _, h⟩
 | (t, p) :: l, env, ob, h => by
  simp only [x4v] at h ⊢
  obtain ⟨h1, h2⟩ := x2l h
  obtain ⟨h3, h4⟩ := y3l h2
  refine ⟨fun s => ?_, h4⟩
  rw [T.get_set]
  by_cases e : s = t
  ·subst e
   rw [if_pos rfl]
   exact ⟨fun ρ v hv => h1.sound ((h3 s).1 ρ v hv), fun hu => by have e := (h3 s).2 hu; rw [e] at h1 ⊢; exact h1.of_undef⟩
  ·rw [if_neg e]; exact h3 s
def y9g : List BP → Nat → Mem → Bool → Mem × Bool
 | [], _, m, ob => (m, ob)
 | p :: ps, i, m, ob => match y9g ps (i + 1) m ob with
  | (m', ob) => match z9r p (Xz m i) ob with
   | (x, ob) => (Wg m' i x, ob)
theorem w4i {p : BP} {o : Option ABlk} {ob : Bool} (h : (z9r p o ob).2 = true) : ob = true := by
 cases p with
 | keep => exact h
 | drop => exact h
 | cells ps =>
  rcases o with _ | ⟨cells, ty, _ | A⟩
  ·exact h
  ·exact (z9q h).2
  ·exact h
 | rowed sz n g =>
  rcases o with _ | ⟨cells, ty, _ | A⟩
  ·exact h
  ·simp only [z9r, Bool.and_eq_true] at h; exact h.2
  ·simp only [z9r, Bool.and_eq_true] at h; exact h.2.2
 | rws a =>
  rcases o with _ | ⟨cells, ty, _ | A⟩
  ·exact h
  ·exact h
  ·simp only [z9r, Bool.and_eq_true] at h; exact h.2
theorem y2a : ∀ {ps : List BP} {i : Nat} {m : Mem} {ob : Bool}, (y9g ps i m ob).2 = true → ob = true ∧ ∀ b x', Xz (y9g ps i m ob).1 b = some x' → ∃ x, Xz m b = some x ∧ ∀ (ρ : Rho) (w : World) (l : Loc), Qc ρ w x l → Qc ρ w x' l
 | [], _, _, _, h => ⟨h, fun b x' hb => ⟨x', hb, fun _ _ _ q => q⟩⟩
 | p :: ps, i, m, ob, h => by
  simp only [y9g] at h ⊢
  have hob : (y9g ps (i + 1) m ob).2 = true := w4i h
  obtain ⟨h1, h2⟩ := y2a hob
  refine ⟨h1, fun b x' hb => ?_⟩
  rw [Wi] at hb
  by_cases e : b = i
  ·subst e
   rw [if_pos rfl] at hb
   exact (y9h h hb).2
  ·rw [if_neg e] at hb
   exact h2 b x' hb
def x4u : List (List (Nat × VP)) → List AFr → Bool → List AFr × Bool
 | _, [], ob => ([], ob)
 | [], l, ob => (l, ob)
 | p :: ps, ⟨cx, ro, todo, rnd, rs, env⟩ :: l, ob => match x4u ps l ob with
  | (l', ob) => match x4v p env ob with
   | (e, ob) => (⟨cx, ro, todo, rnd, rs, e⟩ :: l', ob)
def FLe (a a' : AFr) : Prop := a.cx = a'.cx ∧ a.ro = a'.ro ∧ a.todo = a'.todo ∧ a.rnd = a'.rnd ∧ a.rs = a'.rs ∧ ELe a.env a'.env
theorem FLe.refl (a : AFr) : FLe a a := ⟨rfl, rfl, rfl, rfl, rfl, ELe.refl _⟩
theorem Vx.refl' : ∀ l : List AFr, Vx FLe l l
 | [] => .nil
 | a :: l => .cons (FLe.refl a) (Vx.refl' l)
theorem x2m : ∀ {ps : List (List (Nat × VP))} {l : List AFr} {ob : Bool}, (x4u ps l ob).2 = true → Vx FLe l (x4u ps l ob).1 ∧ ob = true
 | [], [], _, h => ⟨.nil, h⟩
 | _ :: _, [], _, h => ⟨.nil, h⟩
 | [], a :: l, _, h => ⟨Vx.refl' _, h⟩
 | p :: ps, ⟨cx, ro, todo, rnd, rs, env⟩ :: l, ob, h => by
  simp only [x4u] at h ⊢
  obtain ⟨h1, h2⟩ := y3l h
  obtain ⟨h3, h4⟩ := x2m h2
  exact ⟨.cons ⟨rfl, rfl, rfl, rfl, rfl, h1⟩ h3, h4⟩
structure Less where
 slots : List (Nat × VP) := []
 blks : List BP := []
 cs : List (List (Nat × VP)) := []
def x4x (L : Less) : Cfg → Cfg
 | ⟨cx, ro, todo, rnd, rs, ⟨env, mem, next, orc, ob⟩, cs, lps⟩ => match x4u L.cs cs ob with
  | (cs', ob) => match y9g L.blks 0 mem ob with
   | (mem', ob) => match x4v L.slots env ob with
    | (env', ob) => ⟨cx, ro, todo, rnd, rs, ⟨env', mem', next, orc, ob⟩, cs', lps⟩
def y6j : List (TypeId × Nat × (Nat → List AVal)) → Nat → Mem → Mem
 | [], _, m => m
 | (ty, sz, g) :: l, i, m => Wg (y6j l (i + 1) m) i (some ⟨[], ty, some ⟨sz, 0, .flat g⟩⟩)
def x2r (gs : List (TypeId × Nat × (Nat → List AVal))) : Cfg → Cfg
 | ⟨cx, ro, todo, rnd, rs, ⟨env, mem, next, orc, ob⟩, cs, lps⟩ => ⟨cx, ro, todo, rnd, rs, ⟨env, y6j gs next mem, next + gs.length, orc, ob⟩, cs, lps⟩
theorem z5y : ∀ (gs : List (TypeId × Nat × (Nat → List AVal))) (i : Nat) (m : Mem) (b : Nat), (b < i → Xz (y6j gs i m) b = Xz m b) ∧ (i + gs.length ≤ b → Xz (y6j gs i m) b = Xz m b)
 | [], i, m, b => ⟨fun _ => rfl, fun _ => rfl⟩
 | (ty, sz, g) :: l, i, m, b => by
  obtain ⟨h1, h2⟩ := z5y l (i + 1) m b
  simp only [y6j, Wi, List.length_cons]
  exact ⟨fun h => by rw [if_neg (by omega)]; exact h1 (by omega), fun h => by rw [if_neg (by omega)]; exact h2 (by omega)⟩
theorem x6q.less {P : Program} {ρ : Rho} {cs : List AFr} {css : List Frame} {mss : List Nat} (h : x6q P ρ cs css mss) : ∀ {cs' : List AFr}, Vx FLe cs cs' → x6q P ρ cs' css mss := by
 induction h with
 | nil => intro cs' h; cases h; exact .nil
 | @cons af b a k ms cs css mss hf hl t ih =>
  intro cs' h
  cases h with
  | @cons _ af' _ cs'' h1 h2 =>
   obtain ⟨e1, e2, e3, e4, e5, e6⟩ := h1
   have hne : cs'' ≠ [] → cs ≠ [] := fun hn he => by subst he; cases h2; exact hn rfl
   rw [show Wd af.ro k = Wd af'.ro k by rw [e2]]
   exact .cons ⟨by rw [← e1]; exact ⟨hf.env.size, fun t => (e6 t).1 _ _ (hf.env.get t), fun t ht => (e6 t).2 (hf.env.out t ht)⟩, hf.defers, by rw [← e3]; exact hf.todo, by rw [← e2]; exact hf.ro, by rw [← e4]; exact hf.rnd⟩
    (fun hn => by rw [← e4, ← e5]; exact hl (hne hn)) (ih h2)
theorem z5x {P : Program} {cx : Ctx} {ro : Option RegOps} {todo : List Item} {rnd : Option Nat} {rs : List ResultVar} {env env' : T AVal} {mem mem' : Mem} {k k' : Nat} {o o' : List Bool} {b0 b0' : Bool} {cs cs' : List AFr} {lps : Loops}
  (hE : ELe env env') (hC : Vx FLe cs cs') (hM : ∀ b x', b < k → Xz mem' b = some x' → ∃ x, Xz mem b = some x ∧ ∀ (ρ : Rho) (w : World) (l : Loc), Qc ρ w x l → Qc ρ w x' l) (hk : k ≤ k') (hbd : (∀ b, k ≤ b → Xz mem b = none) → ∀ b, k' ≤ b → Xz mem' b = none) :
  z7k P ⟨cx, ro, todo, rnd, rs, ⟨env, mem, k, o, b0⟩, cs, lps⟩ ⟨cx, ro, todo, rnd, rs, ⟨env', mem', k', o', b0'⟩, cs', lps⟩ :=
 fun H w0 ρ b a t css w ma mb hs he cs0 => by
  have hr := hs.rel
  simp only at hr he
  have hne : cs' ≠ [] → cs ≠ [] := fun hn e => by subst e; cases hC; exact hn rfl
  refine ⟨ρ, b, a, t, css, w, ma, mb, Steps.refl _ _, ⟨⟨?_, hs.top.defers, hs.top.todo, hs.top.ro, hs.top.rnd⟩, fun hn => hs.lv (hne hn), ⟨hs.rest.cs.less hC, hs.rest.nodup, hs.rest.marks, hs.rest.loops, hs.rest.inj⟩, ?_⟩, ?_, rfl⟩
  ·exact ⟨hs.top.env.size, fun t => (hE t).1 _ _ (hs.top.env.get t), fun t ht => (hE t).2 (hs.top.env.out t ht)⟩
  ·have lift : ∀ c l, ρ c = some l → (Xz mem' c).isSome = true → (Xz mem c).isSome = true := fun c l hc h => by
    obtain ⟨x, hx⟩ := Option.isSome_iff_exists.1 h
    obtain ⟨y, hy, _⟩ := hM c x (hr.dom c l hc) hx
    rw [hy]; rfl
   refine ⟨fun c l hc => Nat.lt_of_lt_of_le (hr.dom c l hc) hk, fun c c' l l' hc hc' hl h1 h2 => hr.inj c c' l l' hc hc' hl (lift c l hc h1) (lift c' l' hc' h2), fun c l ab hc h1 => ?_, hr.old, fun c l hc h1 => hr.sep c l hc (lift c l hc h1), hr.real, hbd hr.bd, fun j l hj => Nat.lt_of_lt_of_le (hr.ldom j l hj) hk⟩
   obtain ⟨y, hy, h2⟩ := hM c ab (hr.dom c l hc) h1
   exact h2 _ _ _ (hr.blk c l y hc hy)
  ·exact ⟨he.ext, fun _ hb => absurd hb (Nat.not_lt_zero _), Nat.zero_le _, fun _ hb => absurd hb (Nat.not_lt_zero _), he.frame, he.fresh, he.size, he.os, he.tape, he.output, he.still⟩
theorem x4w {P : Program} {L : Less} {C : Cfg} (ho : (x4x L C).st.ob = true) : C.st.ob = true ∧ z7k P C (x4x L C) := by
 obtain ⟨cx, ro, todo, rnd, rs, ⟨env, mem, next, orc, ob⟩, cs, lps⟩ := C
 simp only [x4x] at ho ⊢
 obtain ⟨h1, h2⟩ := y3l ho
 obtain ⟨h3, h4⟩ := y2a h2
 obtain ⟨h5, h6⟩ := x2m h3
 refine ⟨h6, z5x h1 h5 (fun b x' _ hb => h4 b x' hb) (Nat.le_refl _) fun hbd b hb => ?_⟩
 cases hq : Xz (y9g L.blks 0 mem (x4u L.cs cs ob).2).1 b with
 | none => rfl
 | some x' =>
  obtain ⟨x, hx, _⟩ := h4 b x' hq
  rw [hbd b hb] at hx; cases hx
theorem y9t {P : Program} (gs : List (TypeId × Nat × (Nat → List AVal))) (C : Cfg) : z7k P C (x2r gs C) ∧ (x2r gs C).st.ob = C.st.ob := by
 obtain ⟨cx, ro, todo, rnd, rs, ⟨env, mem, next, orc, ob⟩, cs, lps⟩ := C
 exact ⟨z5x (ELe.refl _) (Vx.refl' _) (fun b x' hb h => ⟨x', by rw [← (z5y gs next mem b).1 hb]; exact h, fun _ _ _ q => q⟩) (Nat.le_add_right _ _) fun hbd b hb => by
  rw [(z5y gs next mem b).2 hb]; exact hbd b (by omega), rfl⟩
theorem x5e {P : Program} {C C' : Cfg} {orc : List Bool} {ob : Bool} (g : z7k P (C.withO orc) (C'.withB ob)) : z7k P C C' := by
 obtain ⟨cx, ro, todo, rnd, rs, ⟨env, mem, next, o, b⟩, cs, lps⟩ := C
 obtain ⟨cx', ro', todo', rnd', rs', ⟨env', mem', next', o', b'⟩, cs', lps'⟩ := C'
 exact fun H w0 ρ b a k css w ma mb hs he cs0 => by
  obtain ⟨ρ', b', a', k', css', w', ma', mb', h1, h2, h3, h4⟩ := g H w0 ρ b a k css w ma mb ⟨hs.top, hs.lv, hs.rest, hs.rel⟩ he cs0
  exact ⟨ρ', b', a', k', css', w', ma', mb', h1, ⟨h2.top, h2.lv, h2.rest, h2.rel⟩, h3, h4⟩
theorem w1z {P : Program} {S : Specs} (hN : z6m P) (hmx : P.follows .mixedOrders = true) (hS : Zu P S) {n m d : Nat} {C C' : Cfg} (gs : List (TypeId × Nat × (Nat → List AVal))) (N : z5o) (L : Less) (orc : List Bool) (ob : Bool)
  (h : (((w4q P S (v1o P S m d) n (C.withO orc)).map (x2r gs)).bind (w3t P N)).map (x4x L) = some (C'.withB ob)) (ho : ob = true) (hfl : fl0 C = true) : z7k P C C' := by
 rw [Option.map_eq_some_iff] at h
 obtain ⟨C2, h1, h2⟩ := h
 rw [Option.bind_eq_some_iff] at h1
 obtain ⟨C1, h3, h4⟩ := h1
 rw [Option.map_eq_some_iff] at h3
 obtain ⟨C0, h5, rfl⟩ := h3
 have hfo : fl0 (C.withO orc) = true := by
  obtain ⟨cx, ro, todo, rnd, rs, ⟨env, mem, next, o, b⟩, cs, lps⟩ := C
  exact hfl
 obtain ⟨hCI, hC⟩ := x7m hN hmx hS m d
 obtain ⟨f1, f2, f3⟩ := y6e hN hmx hS hCI hC n (C.withO orc) C0 (w5g hfo) h5
 have hob : (x4x L C2).st.ob = true := by
  rw [h2]
  obtain ⟨cx, ro, todo, rnd, rs, ⟨env, mem, next, o, b⟩, cs, lps⟩ := C'
  exact ho
 obtain ⟨l1, l2⟩ := x4w (P := P) hob
 obtain ⟨g1, g2, _⟩ := x4q h4 l1
 obtain ⟨q1, q2⟩ := y9t (P := P) gs C0
 rw [q2] at g1
 have := (((f3 g1).goes.trans q1).trans g2).trans l2
 rw [h2] at this
 exact x5e this
theorem y2t (n : Nat) (g : Nat → List AVal) : Jy n g g = true := Xu fun _ _ => rfl
theorem x7h (a g : Nat → List AVal) : Jy 0 a g = true := Xu fun _ h => absurd h (Nat.not_lt_zero _)
theorem w6s {a b : Nat} (h : ¬ a ≤ b) : Nat.ble a b = false := Bool.eq_false_iff.2 fun e => h (Nat.le_of_ble_eq_true e)
theorem w1c {a b : Nat} (h : a ≤ b) : Nat.ble a b = true := Nat.ble_eq_true_of_le h
theorem x7k {n N sz : Nat} {G H H' : Nat → List AVal} {cells : List AVal} (m : Nat) (h : Jy n G H = true) (hN : N = n + m) (h0 : ∀ i, i < n → H' i = H i) (h1 : ∀ i, i < m → (cells.drop (i * sz)).take sz = H' (n + i)) : Jy N (Ze G 0 n sz cells) H' = true := Xu fun i hi => by
 unfold Ze
 by_cases e : n ≤ i
 ·rw [w1c e, cond_true, h1 (i - n) (by omega), show n + (i - n) = i by omega]
 ·rw [w6s e, cond_false, Nat.zero_add, Vr h i (by omega), h0 i (by omega)]
theorem z6f {α : Type} {sz : Nat} : ∀ (l : List (List α)) (i : Nat), (∀ x ∈ l, x.length = sz) → i < l.length → (l.flatten.drop (i * sz)).take sz = l.getD i []
 | [], i, _, h => absurd h (Nat.not_lt_zero _)
 | x :: l, 0, hl, _ => by
  have := hl x (by simp)
  simp [List.take_append_of_le_length, this]
 | x :: l, i + 1, hl, h => by
  have hx := hl x (by simp)
  rw [List.flatten_cons, List.getD_cons_succ, ← z6f l i (fun y hy => hl y (by simp [hy])) (by simpa using h)]
  rw [List.drop_append, hx, show (i + 1) * sz - sz = i * sz by rw [Nat.add_mul, Nat.one_mul]; omega, List.drop_eq_nil_of_le (by rw [hx, Nat.add_mul, Nat.one_mul]; omega), List.nil_append]
theorem x7j {m N : Nat} {G H H' : Nat → List AVal} (h' : Jy m H H' = true) (hN : N = 0 + m) : Jy N (Ju G 0 H) H' = true := Xu fun i hi => Vr h' i (by omega)
theorem y7w {n : Nat} {G H : Nat → List AVal} (h : Jy n G H = true) : Jy n (fun k => G (0 + k)) H = true := Xu fun i hi => by
 show G (0 + i) = _
 rw [Nat.zero_add]; exact Vr h i hi
theorem w2x {cells : List AVal} {sz n : Nat} {g : Nat → List AVal} (h : cells = rows n g) (h1 : Nat.ble 1 sz = true) (h2 : ∀ i, (g i).length = sz) : x7w cells sz n g = true := Xu ⟨h, Nat.le_of_ble_eq_true h1, fun i _ => h2 i⟩
end Go.Am
namespace Go.Am
def z4r : List (Nat × ABlk) → Mem
 | [] => .leaf
 | (i, b) :: l => Wg (z4r l) i (some b)
def z4t : List (Nat × ALoop) → Loops
 | [] => .leaf
 | (i, b) :: l => x6k (z4t l) i (some b)
class Xy (α : Type) where
 w : Nat
 d : α
 cells : α → List AVal
 of : List AVal → α
 len : ∀ a, (cells a).length = w
 pos : 1 ≤ w
 flat : ∀ a, (cells a).all (pf 6) = true
 sc : ∀ a, (cells a).all z6t = true
 back : ∀ a, of (cells a) = a
def iOf : AVal → Int
 | .int _ n => n
 | _ => 0
def oOf : AVal → Bool
 | .bool b => b
 | _ => false
instance : Xy Int where
 w := 1
 d := 0
 cells x := [.int .i64 x]
 of l := iOf (l.getD 0 .undef)
 len _ := rfl
 pos := Nat.le_refl 1
 flat _ := rfl
 sc _ := rfl
 back _ := rfl
instance : Xy Bool where
 w := 1
 d := false
 cells x := [.bool x]
 of l := oOf (l.getD 0 .undef)
 len _ := rfl
 pos := Nat.le_refl 1
 flat _ := rfl
 sc _ := rfl
 back _ := rfl
structure R2 where
 (a b : Int)
 deriving DecidableEq
structure R3 where
 (a b c : Int)
 deriving DecidableEq
structure R4 where
 (a b c d : Int)
 deriving DecidableEq
structure R6 where
 (a b c d e f : Int)
 deriving DecidableEq
instance : Xy R2 where
 w := 2
 d := ⟨0, 0⟩
 cells x := [.int .i64 x.a, .int .i64 x.b]
 of l := ⟨iOf (l.getD 0 .undef), iOf (l.getD 1 .undef)⟩
 len _ := rfl
 pos := by decide
 flat _ := rfl
 sc _ := rfl
 back _ := rfl
instance : Xy R3 where
 w := 3
 d := ⟨0, 0, 0⟩
 cells x := [.int .i64 x.a, .int .i64 x.b, .int .i64 x.c]
 of l := ⟨iOf (l.getD 0 .undef), iOf (l.getD 1 .undef), iOf (l.getD 2 .undef)⟩
 len _ := rfl
 pos := by decide
 flat _ := rfl
 sc _ := rfl
 back _ := rfl
instance : Xy R4 where
 w := 4
 d := ⟨0, 0, 0, 0⟩
 cells x := [.int .i64 x.a, .int .i64 x.b, .int .i64 x.c, .int .i64 x.d]
 of l := ⟨iOf (l.getD 0 .undef), iOf (l.getD 1 .undef), iOf (l.getD 2 .undef), iOf (l.getD 3 .undef)⟩
 len _ := rfl
 pos := by decide
 flat _ := rfl
 sc _ := rfl
 back _ := rfl
instance : Xy R6 where
 w := 6
 d := ⟨0, 0, 0, 0, 0, 0⟩
 cells x := [.int .i64 x.a, .int .i64 x.b, .int .i64 x.c, .int .i64 x.d, .int .i64 x.e, .int .i64 x.f]
 of l := ⟨iOf (l.getD 0 .undef), iOf (l.getD 1 .undef), iOf (l.getD 2 .undef), iOf (l.getD 3 .undef), iOf (l.getD 4 .undef), iOf (l.getD 5 .undef)⟩
 len _ := rfl
 pos := by decide
 flat _ := rfl
 sc _ := rfl
 back _ := rfl
theorem w1g {p : AVal → Bool} {l : List AVal} (h : l.all p = true) (n : Nat) : (l.take n).all p = true := List.all_eq_true.2 fun x hx => List.all_eq_true.1 h x (List.mem_of_mem_take hx)
theorem w1h {p : AVal → Bool} {l : List AVal} (h : l.all p = true) (n : Nat) : (l.drop n).all p = true := List.all_eq_true.2 fun x hx => List.all_eq_true.1 h x (List.mem_of_mem_drop hx)
section
variable {α : Type} [Xy α]
def rd (L : List α) (k : Nat) : α := L.getD k Xy.d
def Zz (L : List α) : Nat → List AVal := fun k => Xy.cells (rd L k)
def lst (α : Type) [Xy α] (n : Nat) (g : Nat → List AVal) : List α := (List.range n).map fun k => Xy.of (g k)
def isT (α : Type) [Xy α] (n : Nat) (g : Nat → List AVal) : Bool := pd (∀ i, i < n → g i = Xy.cells (Xy.of (g i) : α))
theorem Ww {L : List α} {k : Nat} (h : k < L.length) : rd L k = L[k] := by unfold rd; rw [List.getD_eq_getElem?_getD, List.getElem?_eq_getElem h]; rfl
theorem Ux {L M : List α} {k : Nat} (h : k < L.length) : rd (L ++ M) k = rd L k := by
 unfold rd; rw [List.getD_eq_getElem?_getD, List.getD_eq_getElem?_getD, List.getElem?_append_left h]
theorem Vo {L M : List α} {k : Nat} (h : L.length ≤ k) : rd (L ++ M) k = rd M (k - L.length) := by
 unfold rd; rw [List.getD_eq_getElem?_getD, List.getD_eq_getElem?_getD, List.getElem?_append_right h]
theorem Zk (L : List α) : lst α L.length (Zz L) = L := by
 apply List.ext_getElem
 ·simp [lst]
 ·intro i h1 h2
  simp only [lst, List.getElem_map, List.getElem_range, Zz]
  rw [Xy.back, Ww h2]
def cvT (L : List α) : List α := lst α L.length (Zz L)
theorem Zb (L : List α) : cvT L = L := Zk L
theorem z5t (n : Nat) (g : Nat → List AVal) : (lst α n g).length = n := by simp [lst]
theorem x2i (L : List α) {off n : Nat} (h : off + n ≤ L.length) : lst α n (fun k => Zz L (off + k)) = (L.drop off).take n := by
 apply List.ext_getElem
 ·simp [lst]; omega
 ·intro i h1 h2
  simp only [lst, List.getElem_map, List.getElem_range, Zz]
  have : off + i < L.length := by simp at h2; omega
  rw [Xy.back, Ww this, List.getElem_take, List.getElem_drop]
theorem z8j (L : List α) (n : Nat) : isT α n (Zz L) = true := Xu fun i _ => by simp only [Zz]; rw [Xy.back]
theorem y6f (L : List α) (off n : Nat) : isT α n (fun k => Zz L (off + k)) = true := Xu fun i _ => by simp only [Zz]; rw [Xy.back]
theorem x2o (g : Nat → List AVal) : isT α 0 g = true := Xu fun i h => absurd h (Nat.not_lt_zero _)
theorem x2p {n : Nat} {g : Nat → List AVal} (h : isT α n g = true) : ∀ i, i < n → g i = Zz (lst α n g) i := fun i hi => by
 rw [Vr h i hi]
 unfold Zz
 rw [Ww (by rw [z5t]; exact hi)]
 simp [lst]
theorem Xp (L : List α) : Qe (Zz L) = true := Xu fun _ => Xy.flat _
theorem x5v {sz : Nat} (L : List α) (n : Nat) (h : sz = Xy.w α) : y6p sz n (Zz L) = true := Xu fun _ _ => ⟨by rw [h]; exact Xy.len _, Xy.sc _⟩
theorem x5w {sz : Nat} (L : List α) (off n : Nat) (h : sz = Xy.w α) : y6p sz n (fun k => Zz L (off + k)) = true := Xu fun _ _ => ⟨by rw [h]; exact Xy.len _, Xy.sc _⟩
theorem x0o {sz N off m : Nat} {G : Nat → List AVal} (h : y6p sz N G = true) (hb : decide (off + m ≤ N) = true) : y6p sz m (fun k => G (off + k)) = true := Xu fun i hi => by
 have hb := of_decide_eq_true hb
 exact Vr h (off + i) (by omega)
theorem w0v {sz n N m : Nat} {G : Nat → List AVal} {cells : List AVal} (h : y6p sz n G = true) (hN : N = n + m) (hc : cells.length = m * sz) (hs : cells.all z6t = true) : y6p sz N (Ze G 0 n sz cells) = true := Xu fun i hi => by
 unfold Ze
 by_cases e : n ≤ i
 ·rw [w1c e, cond_true]
  have : (i - n) * sz + sz ≤ m * sz := by
   have := Nat.mul_le_mul_right sz (show i - n + 1 ≤ m by omega)
   rwa [Nat.add_mul, Nat.one_mul] at this
  exact ⟨by rw [List.length_take, List.length_drop, hc]; omega, w1g (w1h hs _) _⟩
 ·rw [w6s e, cond_false, Nat.zero_add]
  exact Vr h i (by omega)
theorem x1o {L M : List α} {n N sz : Nat} {G : Nat → List AVal} {cells : List AVal} (h : Jy n G (Zz L) = true) (hn : n = L.length) (hN : N = n + M.length) (hsz : sz = Xy.w α) (hc : cells = (M.map Xy.cells).flatten) : Jy N (Ze G 0 n sz cells) (Zz (L ++ M)) = true := by
 subst hn
 refine x7k M.length h hN (fun i hi => ?_) fun i hi => ?_
 ·simp only [Zz]; rw [Ux hi]
 ·subst hc
  rw [z6f _ _ (fun x hx => by obtain ⟨y, _, rfl⟩ := List.mem_map.1 hx; rw [Xy.len, hsz]) (by simpa using hi)]
  simp only [Zz]
  rw [Vo (Nat.le_add_right _ _), Nat.add_sub_cancel_left, Ww hi]
  rw [List.getD_eq_getElem?_getD, List.getElem?_map, List.getElem?_eq_getElem hi]; rfl
theorem w8h {L : List α} {r k : Nat} {y : α} (hk : k < L.length) : rd (L.set r y) k = if k = r then y else rd L k := by
 rw [Ww (by simpa using hk), Ww hk, List.getElem_set]
 by_cases e : r = k
 ·subst e; simp
 ·rw [if_neg e, if_neg fun q => e q.symm]
theorem x1n {L : List α} {n r fo : Nat} {G : Nat → List AVal} {cs : List AVal} {y : α} (h : Jy n G (Zz L) = true) (hn : n = L.length) (hy : Xy.cells y = (Xy.cells (rd L r)).take fo ++ cs ++ (Xy.cells (rd L r)).drop (fo + cs.length)) : Jy n (Xf G r fo cs) (Zz (L.set r y)) = true := by
 subst hn
 refine Xu fun i hi => ?_
 unfold Xf
 simp only [Zz]
 rw [w8h hi]
 cases e : Nat.beq i r with
 | true =>
  have := Nat.eq_of_beq_eq_true e
  subst this
  rw [cond_true, if_pos rfl, Vr h i hi, hy]; rfl
 | false =>
  have : i ≠ r := fun q => by rw [q, Nat.beq_refl] at e; cases e
  rw [cond_false, if_neg this, Vr h i hi]; rfl
theorem w2n {n : Nat} {cs : List AVal} {y : α} {G : Nat → List AVal} (hG : G = fun _ => cs) (hy : Xy.cells y = cs) : Jy n G (Zz (List.replicate n y)) = true := Xu fun i hi => by
 rw [hG]
 simp only [Zz]
 rw [Ww (by simpa using hi), List.getElem_replicate, hy]
theorem x7i {L M : List α} {n m N : Nat} {G H : Nat → List AVal} (h : Jy n G (Zz L) = true) (hn : n = L.length) (h' : Jy m H (Zz M) = true) (hN : N = n + m) : Jy N (Ju G n H) (Zz (L ++ M)) = true := by
 subst hn
 refine Xu fun i hi => ?_
 unfold Ju
 by_cases e : L.length ≤ i
 ·rw [w1c e, cond_true, Vr h' _ (by omega)]; simp only [Zz]; rw [Vo e]
 ·rw [w6s e, cond_false, Vr h i (by omega)]; simp only [Zz]; rw [Ux (by omega)]
def y4o (n : Nat) (g : Nat → List AVal) (sz : Nat) : Bool := pd (∀ i, i < n → (g i).length = sz)
theorem x9t {sz : Nat} (L : List α) (n : Nat) (h : sz = Xy.w α) : y4o n (Zz L) sz = true := Xu fun _ _ => by rw [h]; exact Xy.len _
theorem x4y {sz n : Nat} {L : List α} {off : Nat} (h : sz = Xy.w α) : y4o n (fun k => Zz L (off + k)) sz = true := Xu fun _ _ => by rw [h]; exact Xy.len _
def Ke (L : List α) (off n : Nat) : List α := (List.range n).map fun k => rd L (off + k)
theorem z1u (L : List α) (off n : Nat) : (Ke L off n).length = n := by simp [Ke]
theorem y3c {L : List α} {off n k : Nat} (h : k < n) : rd (Ke L off n) k = rd L (off + k) := by
 rw [Ww (by rw [z1u]; exact h)]; simp [Ke]
theorem x3u {L : List α} {N off n : Nat} {G : Nat → List AVal} (h : Jy N G (Zz L) = true) (hb : decide (off + n ≤ N) = true) : Jy n (fun k => G (off + k)) (Zz (Ke L off n)) = true := Xu fun i hi => by
 have hb := of_decide_eq_true hb
 simp only [Zz]
 rw [y3c hi, Vr h _ (by omega)]; rfl
theorem x3t {L : List α} {off n : Nat} : Jy n (fun k => Zz L (off + k)) (Zz (Ke L off n)) = true := Xu fun i hi => by
 simp only [Zz]
 rw [y3c hi]
theorem Vw (L : List α) : lst α L.length (fun k => Zz L (0 + k)) = L := by
 have := Zk L
 simpa only [Nat.zero_add] using this
theorem w4r (L : List Int) : isI (Zz L) = true := Xu rfl
theorem Uu (L : List Int) : Za L.length (cOf (Zz L)) = L := Zk L
def y1e (L : List α) (off n : Nat) (M : List α) : List α := (List.range L.length).map fun k => bif Nat.ble off k && Nat.ble (k + 1) (off + n) then rd M (k - off) else rd L k
theorem Uj (L : List α) (off n : Nat) (M : List α) : (y1e L off n M).length = L.length := by simp [y1e]
theorem x8i {L M : List α} {off n k : Nat} (h : k < L.length) : rd (y1e L off n M) k = bif Nat.ble off k && Nat.ble (k + 1) (off + n) then rd M (k - off) else rd L k := by
 rw [Ww (by rw [Uj]; exact h)]; simp [y1e]
theorem w2o {L M : List α} {N off n m : Nat} {G H : Nat → List AVal} (h : Jy N G (Zz L) = true) (hN : N = L.length) (h' : Jy m H (Zz M) = true) (hm : n ≤ m) : Jy N (Vt G off n H) (Zz (y1e L off n M)) = true := by
 subst hN
 refine Xu fun i hi => ?_
 unfold Vt
 simp only [Zz]
 rw [x8i hi]
 cases e : (Nat.ble off i && Nat.ble (i + 1) (off + n)) with
 | true =>
  simp only [Bool.and_eq_true] at e
  have e1 := Nat.le_of_ble_eq_true e.1
  have e2 := Nat.le_of_ble_eq_true e.2
  rw [cond_true, cond_true, Vr h' _ (by omega)]; rfl
 | false => rw [cond_false, cond_false, Vr h i hi]; rfl
theorem w0i {g h : Nat → List AVal} {off n : Nat} (p : Qe g = true) (q : Qe h = true) : Qe (Vt g off n h) = true := Xu fun i => by
 unfold Vt
 cases (Nat.ble off i && Nat.ble (i + 1) (off + n)) with
 | true => exact Vr q _
 | false => exact Vr p _
end
theorem Xi {P : Program} {rs : List ResultVar} {σ : Type} {cfg : σ → Cfg} {C C' : Cfg} (g : z7k P C C') : ∀ {o : Xd σ}, Wj P rs cfg C' o → Wj P rs cfg C o
 | .stuck, _ => trivial
 | .ret _, ⟨D, h, h2, h3⟩ => ⟨D, g.trans h, h2, h3⟩
 | .to _, h => g.trans h
theorem x2x : ∀ {az bs : List AVal} (i : Nat) {t u : T AVal}, Vx VLe az bs → ELe t u → ELe (z6c az i t) (z6c bs i u)
 | _, _, i, t, u, .nil, h => h
 | _, _, i, t, u, .cons (a := a) (b := b) h1 h2, h => by
  refine x2x (i + 1) h2 fun s => ?_
  rw [T.get_set, T.get_set]
  by_cases e : s = i
  ·rw [if_pos e, if_pos e]; exact ⟨fun ρ v hv => h1.sound hv, fun q => by subst q; exact h1.of_undef⟩
  ·rw [if_neg e, if_neg e]; exact h s
theorem y6n {P : Program} {f : FuncId} {az bs : List AVal} {vs : List AVal} (h : Vx VLe az bs) (k : Jo P (Zy P f) (Zf P f bs true []) vs) : Jo P (Zy P f) (Zf P f az true []) vs := by
 obtain ⟨C', g, h2, h3⟩ := k
 refine ⟨C', z7k.trans ?_ g, h2, h3⟩
 unfold Zf
 cases P.funcs[f]? with
 | none => exact z7k.refl _
 | some fn =>
  simp only
  rw [h.length]
  exact z5x (x2x 0 h (ELe.refl _)) .nil (fun b x' hb => absurd hb (Nat.not_lt_zero _)) (Nat.le_refl _) fun hbd b hb => hbd b hb
theorem x3d {P : Program} {S : Specs} (hS : Zu P S) {f : FuncId} {F : List AVal → Option (AVal × Bool)} (hf : (P.funcs[f]?).any (fun fn => fn.body.isSome) = true)
  (hF : ∀ args v, F args = some (v, true) → ∃ bs vs, Vx VLe args bs ∧ Kf vs = v ∧ Jo P (Zy P f) (Zf P f bs true []) vs ∧ ∃ d, pf d v = true) : Zu P (S.with f F) :=
 x6r hS hf fun args v h => by
  obtain ⟨bs, vs, h1, h2, h3, d, h4⟩ := hF args v h
  exact ⟨vs, h2, y6n h1 h3, d, h4⟩
def asL (α : Type) [Xy α] : AVal → Option (List α × (Nat → List AVal) × Nat)
 | .nils => some ([], fun _ => [], 0)
 | .dat n g => some (lst α n g, g, n)
 | _ => none
theorem Yh {α : Type} [Xy α] {v : AVal} {L : List α} {g : Nat → List AVal} {n : Nat} (h : asL α v = some (L, g, n)) (ho : isT α n g = true) : VLe v (.dat L.length (Zz L)) := by
 unfold asL at h
 split at h
 ·simp only [Option.some.injEq, Prod.mk.injEq] at h
  obtain ⟨rfl, _, _⟩ := h
  exact .nild _
 ·simp only [Option.some.injEq, Prod.mk.injEq] at h
  obtain ⟨rfl, rfl, rfl⟩ := h
  rw [z5t]
  exact .dat _ _ _ (x2p ho)
 ·cases h
end Go.Am
namespace Go.Am
open Go.ChangeShapes Go.WideShapes Go.Deep
section
variable {P : Program}
variable {HH : Type} {enc : TypeId × Value → HH} {w : World} {base : Nat} {spare : Nat → Bool} {held : Bool}
end
end Go.Am
namespace Go.Am
open Go.Proofs.Tryz
open Go.Proofs
def namedB (P : Program) : Bool := P.funcs.toList.all fun fn => fn.body.isNone || !(fn.name == "runtime.NumGoroutine")
theorem w3x {P : Program} (h : namedB P = true) : z6m P := by
 intro f fn hf hb
 have hm : fn ∈ P.funcs.toList := by
  rw [Array.mem_toList_iff]
  exact Array.mem_of_getElem? hf
 have := List.all_eq_true.mp h fn hm
 cases hbb : fn.body with
 | none => rw [hbb] at hb; cases hb
 | some b => simpa [hbb] using this
theorem named : z6m prog := w3x (by kernel_rfl)
theorem mixed : prog.follows .mixedOrders = true := by kernel_rfl
end Go.Am
section

end
namespace Go.Am
open Go.Proofs.Tryz
open Go.Proofs
instance {α : Type} [Xy α] : Xy (List α) where
 w := 1
 d := []
 cells l := [.dat l.length (Zz l)]
 of cs := match cs.getD 0 .undef with
  | .dat n g => lst α n g
  | _ => []
 len _ := rfl
 pos := Nat.le_refl 1
 flat _ := rfl
 sc _ := rfl
 back l := Zk l
theorem y7x {α : Type} [Xy α] {L : List α} {n off sz : Nat} {cells : List AVal} (hn : n = L.length) (hsz : sz = Xy.w α) (hc : (cells.drop off).take (n * sz) = (L.map Xy.cells).flatten) : Jy n (Xq cells off sz) (Zz L) = true := Xu fun i hi => by
 have e : ((((cells.drop off).take (n * sz)).drop (i * sz)).take sz) = (cells.drop (off + i * sz)).take sz := by
  rw [List.drop_take, List.take_take, List.drop_drop, Nat.min_eq_left]
  have := Nat.mul_le_mul_right sz (show i + 1 ≤ n by omega)
  rw [Nat.add_mul, Nat.one_mul] at this
  omega
 have h := z6f (sz := sz) (L.map Xy.cells) i (fun x hx => by obtain ⟨y, _, rfl⟩ := List.mem_map.1 hx; rw [Xy.len, hsz]) (by simpa using by omega)
 unfold Xq
 rw [← e, hc, h]
 simp only [Zz]
 rw [Ww (show i < L.length by omega), List.getD_eq_getElem?_getD, List.getElem?_map, List.getElem?_eq_getElem (show i < L.length by omega)]; rfl
structure OB where
 b : Bool
 h : b = true
def nn : OB := ⟨true, rfl⟩
def pp (q r : OB) : OB := ⟨q.b && r.b, z6s q.h r.h⟩
def tt {c v : Bool} (k : c = v) (r : OB) : OB := ⟨(c == v) && r.b, z6s (x8z k) r.h⟩
def ww {c : Bool} (k : c = true) (r : OB) : OB := ⟨c && r.b, z6s k r.h⟩
def fl {α : Type} [Xy α] (L : List α) (r : OB) : OB := ⟨Qe (Zz L) && r.b, z6s (Xp L) r.h⟩
def yt {c : Bool} (k : c = true) (r : OB) : OB := ⟨c && r.b, z6s k r.h⟩
def xw {c : Bool} (k : c = true) : OB := ⟨c, k⟩
def xI (α : Type) [Xy α] (n : Nat) (g : Nat → List AVal) (h : isT α n g = true := by first | with_reducible exact z8j _ _ | exact z8j _ _ | exact x2o _ | exact y6f _ _ _ | assumption) : OB := ⟨isT α n g, h⟩
def xr {α : Type} [Xy α] (L : List α) : OB := ⟨isT α L.length (Zz L), z8j L _⟩
def xL (a b : Nat) (h : y3m a b = true := by first | exact Uv rfl | exact Uv (by simp only [List.length_append, List.length_cons, List.length_nil, List.length_set, Uj, z1u, List.length_replicate] <;> omega) | assumption) : OB := ⟨y3m a b, h⟩
def xS (n : Nat) (G H : Nat → List AVal) (h : Jy n G H = true := by
  repeat' (first | exact y2t _ _ | assumption | exact x7h _ _ | exact x3t | exact y7x rfl rfl rfl | rfl | (refine x1o ?_ ?_ rfl rfl rfl) | (refine x1n ?_ ?_ rfl) | (refine w2o ?_ ?_ ?_ (Nat.min_le_left _ _)) | exact x3u (by repeat' (first | exact y2t _ _ | (refine x1o ?_ ?_ rfl rfl rfl) | (refine x1n ?_ ?_ rfl) | (simp only [List.length_append, List.length_cons, List.length_nil, List.length_set, Uj]; done) | omega)) (by assumption) | (refine x7i ?_ ?_ ?_ rfl) | exact x7j (y2t _ _) rfl | apply y7w | exact w2n rfl rfl | (simp only [List.length_append, List.length_cons, List.length_nil, List.length_set, Uj, z1u, List.length_replicate] <;> omega))) : OB := ⟨Jy n G H, h⟩
def xF (G : Nat → List AVal) (h : Qe G = true := by
  repeat' (first | with_reducible exact Xp _ | apply w0k | apply w0h | apply w0j | apply w0i | exact Xp _ | exact x5j | exact y9z _ _ | apply y0b | rfl | assumption)) : OB := ⟨Qe G, h⟩
def xZ (v : AVal) (n : Nat) (g : Nat → List AVal) (h : w0f v n g = true := by first | exact w5c _ _ _ | exact w0e _ _) : OB := ⟨w0f v n g, h⟩
def xG (c : Bool) (h : c = true := by
  repeat' (first | with_reducible (first | assumption | exact y5t _ | exact w3w _ | exact x9e _ | exact w5r _ | exact x9f _ | apply z6s | apply x8z) | rfl | exact w4r _ | exact x5v _ _ rfl | exact x5w _ _ _ rfl | exact x9t _ _ rfl | exact x4y rfl | exact w2x rfl rfl (fun _ => rfl) | (refine x0o ?_ (by assumption)) | (refine w0v ?_ rfl rfl rfl) | exact z8j _ _ | exact x2o _ | exact y6f _ _ _ | exact Xp _ | apply y0b | apply z6s | apply x8z)) : OB := ⟨c, h⟩
def gg (c : Bool) (k : c = true) (r : OB) : OB := ⟨c && r.b, z6s k r.h⟩
def kpB (n : Nat) (l : List BP) : List BP := Nat.rec l (fun _ r => .keep :: r) n
abbrev tn (n : Int) : Nat := Int.toNat n
abbrev ii (n : Int) : AVal := .int .i64 n
abbrev wr (n : Int) : Int := IntKind.wrap .i64 n
def trs (n : Nat) (l : List Bool) : List Bool := Nat.rec l (fun _ r => true :: r) n
theorem sl {S : Specs} (hS : Zu prog S) (n : Nat) (gs : List (TypeId × Nat × (Nat → List AVal))) (N : z5o) (L : Less) (orc : List Bool) (ob : OB) {C C' : Cfg}
  (h : (((w4q prog S (v1o prog S 100000 4) n (C.withO orc)).map (x2r gs)).bind (w3t prog N)).map (x4x L) = some (C'.withB ob.b) := by kernel_rfl) (hfl : fl0 C = true := by rfl) : z7k prog C C' :=
 w1z named mixed hS gs N L orc ob.b h ob.h hfl
def rC (n f : Nat) (p : List Nat) (j r : Nat) (env : List (Nat × AVal)) : Cfg := ⟨⟨n, 0, true⟩, none, Zg prog f p j, none, Zy prog r, ⟨Yj env, Vf [] 0, 0, [], true⟩, [], .leaf⟩
theorem lr {σ : Type} {cfg : σ → Cfg} {C : Cfg} {rs : List ResultVar} {vs : List AVal} (n f : Nat) (p : List Nat) (j r : Nat) (env : List (Nat × AVal)) (h : z7k prog C (rC n f p j r env)) (hf : z3b (rC n f p j r env) = true := by rfl)
  (hr : Ut prog (rC n f p j r env).st rs = some vs := by kernel_rfl) : Wj prog rs cfg C (.ret vs) := z0v _ h hf hr
theorem lb {rs : List ResultVar} {σ : Type} {cfg : σ → Cfg} {C : Cfg} {c : Bool} {a b : Xd σ} (ha : c = true → Wj prog rs cfg C a) (hb : c = false → Wj prog rs cfg C b) : Wj prog rs cfg C (bif c then a else b) := x2n ha hb
theorem lo {rs : List ResultVar} {σ : Type} {cfg : σ → Cfg} {C : Cfg} {c : Bool} {a : Xd σ} (ha : c = true → Wj prog rs cfg C a) : Wj prog rs cfg C (bif c then a else .stuck) := w4j ha
end Go.Am
namespace Go.Am
open Go.Proofs.Tryz
open Go.Proofs
inductive rsortS where
 | h0 (v3 : List Int) (v4 : Int)
 | h1 (v3 : List Int) (v4 : Int) (v5 : Int)
def x7q (l0 : List Int) : rsortS → Cfg
 | .h0 v3 v4 => ⟨⟨63, 0, true⟩, none, (Zg prog 133 [1, 1, 0, 1, 0, 0] 0), none, (Zy prog 15), ⟨Yj [(0, (.dat l0.length (Zz l0))), (3, (.sla 0 1 0 v3.length (.un 1))), (4, (ii v4))], Vf [⟨rows v3.length (Zz v3), 3, some ⟨1, v3.length, (Zz v3)⟩⟩] 0, 1, [], true⟩, [], .leaf⟩
 | .h1 v3 v4 v5 => ⟨⟨63, 0, true⟩, none, (Zg prog 133 [1, 1, 0, 1, 0, 0, 1, 0, 0, 1, 0, 0, 0] 0), none, (Zy prog 15), ⟨Yj [(0, (.dat l0.length (Zz l0))), (3, (.sla 0 1 0 v3.length (.un 1))), (4, (ii v4)), (5, (ii v5))], Vf [⟨rows v3.length (Zz v3), 3, some ⟨1, v3.length, (Zz v3)⟩⟩] 0, 1, [], true⟩, [], .leaf⟩
def y2w : List (Option (List Nat)) := [some [0, 3, 4]]
def y2x : List (Option (List Nat)) := []
def x7o : List (Option (List Nat)) := [some [0, 3, 4, 5]]
def x7p : List (Option (List Nat)) := []
def Vg (l0 : List Int) : rsortS → Xd rsortS
 | .h0 v3 v4 => (bif (decide (v4 < (l0.length : Int))) then (.to (.h1 v3 v4 (v3.length : Int))) else (.ret [(.dat v3.length (Zz v3))]))
 | .h1 v3 v4 v5 => (bif (decide (v5 > 0)) then (bif ((decide (0 ≤ (IntKind.wrap .i64 (v5 - 1)) ∧ (IntKind.wrap .i64 (v5 - 1)) < (v3.length : Int))) && true) then (bif (decide ((0 + (Int.toNat (IntKind.wrap .i64 (v5 - 1)))) < v3.length)) then (bif ((decide (0 ≤ v4 ∧ v4 < (l0.length : Int))) && true) then (bif (decide ((rd v3 (0 + (Int.toNat (IntKind.wrap .i64 (v5 - 1))))) > (rd l0 v4.toNat))) then (.to (.h1 v3 v4 (IntKind.wrap .i64 (v5 - 1)))) else (bif ((rd v3 (0 + (Int.toNat (IntKind.wrap .i64 (v5 - 1))))) == (rd l0 v4.toNat)) then (.to (.h0 v3 (IntKind.wrap .i64 (v4 + 1)))) else (bif (Nat.beq 1 1 && ((decide (0 + v3.length = v3.length)) && decide ((v3.length + 1 + 1) * (8 + 1) ≤ Jb))) then (bif (true && ((decide (0 ≤ (IntKind.wrap .i64 (v5 + 1)))) && (decide ((v3.length + 1) ≤ (v3.length + 1)) && decide ((Int.toNat (IntKind.wrap .i64 (v5 + 1))) ≤ (v3.length + 1))))) then (bif (true && ((decide (0 ≤ v5)) && (decide ((v3.length + 1) ≤ (v3.length + 1)) && decide (v5.toNat ≤ (v3.length + 1))))) then (bif (decide ((0 + v5.toNat) + ((v3.length + 1) - v5.toNat) ≤ (v3.length + 1))) then (bif (decide ((0 + (Int.toNat (IntKind.wrap .i64 (v5 + 1)))) + ((v3.length + 1) - (Int.toNat (IntKind.wrap .i64 (v5 + 1)))) ≤ (v3.length + 1))) then (bif ((decide (0 ≤ v5 ∧ v5 < (((v3.length + 1) : Nat) : Int))) && true) then (bif (decide ((0 + v5.toNat) < (v3.length + 1))) then (.to (.h0 ((y1e (v3 ++ [0]) (0 + (Int.toNat (IntKind.wrap .i64 (v5 + 1)))) (Nat.min ((v3.length + 1) - v5.toNat) ((v3.length + 1) - (Int.toNat (IntKind.wrap .i64 (v5 + 1))))) (Ke (v3 ++ [0]) (0 + v5.toNat) ((v3.length + 1) - v5.toNat))).set (0 + v5.toNat) (rd l0 v4.toNat)) (IntKind.wrap .i64 (v4 + 1)))) else .stuck) else .stuck) else .stuck) else .stuck) else .stuck) else .stuck) else .stuck))) else .stuck) else .stuck) else .stuck) else (bif (Nat.beq 1 1 && ((decide (0 + v3.length = v3.length)) && decide ((v3.length + 1 + 1) * (8 + 1) ≤ Jb))) then (bif (true && ((decide (0 ≤ (IntKind.wrap .i64 (v5 + 1)))) && (decide ((v3.length + 1) ≤ (v3.length + 1)) && decide ((Int.toNat (IntKind.wrap .i64 (v5 + 1))) ≤ (v3.length + 1))))) then (bif (true && ((decide (0 ≤ v5)) && (decide ((v3.length + 1) ≤ (v3.length + 1)) && decide (v5.toNat ≤ (v3.length + 1))))) then (bif (decide ((0 + v5.toNat) + ((v3.length + 1) - v5.toNat) ≤ (v3.length + 1))) then (bif (decide ((0 + (Int.toNat (IntKind.wrap .i64 (v5 + 1)))) + ((v3.length + 1) - (Int.toNat (IntKind.wrap .i64 (v5 + 1)))) ≤ (v3.length + 1))) then (bif ((decide (0 ≤ v4 ∧ v4 < (l0.length : Int))) && true) then (bif ((decide (0 ≤ v5 ∧ v5 < (((v3.length + 1) : Nat) : Int))) && true) then (bif (decide ((0 + v5.toNat) < (v3.length + 1))) then (.to (.h0 ((y1e (v3 ++ [0]) (0 + (Int.toNat (IntKind.wrap .i64 (v5 + 1)))) (Nat.min ((v3.length + 1) - v5.toNat) ((v3.length + 1) - (Int.toNat (IntKind.wrap .i64 (v5 + 1))))) (Ke (v3 ++ [0]) (0 + v5.toNat) ((v3.length + 1) - v5.toNat))).set (0 + v5.toNat) (rd l0 v4.toNat)) (IntKind.wrap .i64 (v4 + 1)))) else .stuck) else .stuck) else .stuck) else .stuck) else .stuck) else .stuck) else .stuck) else .stuck))
def z2e (l0 : List Int) : Xd rsortS := (.to (.h0 ([] : List Int) 0))
theorem y4y (l0 : List Int) : ∀ s, Wj prog (Zy prog 133) (x7q l0) (x7q l0 s) (Vg l0 s)
 | .h0 v3 v4 => (lb (fun k0 => (sl Zp 21 [] ⟨[0], [], x7o, x7p⟩ ⟨[], [], []⟩ [true] (pp (fl v3 nn) (tt k0 nn)))) (fun k0 => (lr 63 3 [1, 1, 1, 1, 1, 1, 0] 1 15 [(2, (.dat v3.length (Zz v3)))] (sl Zp 15 [] ⟨[], [0], [some [2]], []⟩ ⟨[(2, .frz v3.length v3.length (Zz v3) (Zz v3))], [], []⟩ [false] (pp (xZ (z4w 1 1 0 v3.length v3.length (Zz v3)) v3.length (Zz v3)) (pp (xL v3.length v3.length) (pp (xS v3.length (Zz v3) (Zz v3)) (pp (fl v3 nn) (tt k0 nn)))))))))
 | .h1 v3 v4 v5 => (lb (fun k0 => (lo fun aH => (lo fun bG => (lo fun cF => (lb (fun k1 => (sl Zp 13 [] ⟨[0], [], x7o, x7p⟩ ⟨[], [], []⟩ (trs 11 []) (pp (fl v3 nn) (tt k1 (ww cF (ww bG (ww aH (tt k0 nn)))))))) (fun k1 => (lb (fun k2 => (sl Zp 16 [] ⟨[0], [], y2w, y2x⟩ ⟨[], [], []⟩ (trs 10 [false, true, true, true, true, true, true, true, true, true, true, true]) (pp (fl v3 nn) (tt k2 (ww cF (ww bG (ww aH (tt k0 (tt k1 (ww cF (ww bG (ww aH (tt k0 nn))))))))))))) (fun k2 => (lo fun o0 => (lo fun o1 => (lo fun o2 => (lo fun o3 => (lo fun o4 => (lo fun o5 => (lo fun o6 => (sl Zp 36 [] ⟨[2], [], y2w, y2x⟩ ⟨[(3, .len ((y1e (v3 ++ [0]) (0 + (tn (wr (v5 + 1)))) (Nat.min ((v3.length + 1) - (tn v5)) ((v3.length + 1) - (tn (wr (v5 + 1))))) (Ke (v3 ++ [0]) (0 + (tn v5)) ((v3.length + 1) - (tn v5)))).set (0 + (tn v5)) (rd l0 (tn v4))).length)], [.rowed 1 ((y1e (v3 ++ [0]) (0 + (tn (wr (v5 + 1)))) (Nat.min ((v3.length + 1) - (tn v5)) ((v3.length + 1) - (tn (wr (v5 + 1))))) (Ke (v3 ++ [0]) (0 + (tn v5)) ((v3.length + 1) - (tn v5)))).set (0 + (tn v5)) (rd l0 (tn v4))).length (Zz ((y1e (v3 ++ [0]) (0 + (tn (wr (v5 + 1)))) (Nat.min ((v3.length + 1) - (tn v5)) ((v3.length + 1) - (tn (wr (v5 + 1))))) (Ke (v3 ++ [0]) (0 + (tn v5)) ((v3.length + 1) - (tn v5)))).set (0 + (tn v5)) (rd l0 (tn v4))))], []⟩ (trs 10 [false, true, true, true, true, true, true, true, true, true, true, false]) (pp (xL (v3.length + 1) ((y1e (v3 ++ [0]) (0 + (tn (wr (v5 + 1)))) (Nat.min ((v3.length + 1) - (tn v5)) ((v3.length + 1) - (tn (wr (v5 + 1))))) (Ke (v3 ++ [0]) (0 + (tn v5)) ((v3.length + 1) - (tn v5)))).set (0 + (tn v5)) (rd l0 (tn v4))).length) (pp (xL (v3.length + 1) ((y1e (v3 ++ [0]) (0 + (tn (wr (v5 + 1)))) (Nat.min ((v3.length + 1) - (tn v5)) ((v3.length + 1) - (tn (wr (v5 + 1))))) (Ke (v3 ++ [0]) (0 + (tn v5)) ((v3.length + 1) - (tn v5)))).set (0 + (tn v5)) (rd l0 (tn v4))).length) (pp (xS (v3.length + 1) (Xf (Vt (Ze (Zz v3) 0 v3.length 1 [(ii 0)]) (0 + (tn (wr (v5 + 1)))) (Nat.min ((v3.length + 1) - (tn v5)) ((v3.length + 1) - (tn (wr (v5 + 1))))) (fun k => (Ze (Zz v3) 0 v3.length 1 [(ii 0)]) ((0 + (tn v5)) + k))) (0 + (tn v5)) 0 [(ii (rd l0 (tn v4)))]) (Zz ((y1e (v3 ++ [0]) (0 + (tn (wr (v5 + 1)))) (Nat.min ((v3.length + 1) - (tn v5)) ((v3.length + 1) - (tn (wr (v5 + 1))))) (Ke (v3 ++ [0]) (0 + (tn v5)) ((v3.length + 1) - (tn v5)))).set (0 + (tn v5)) (rd l0 (tn v4))))) (pp (pp (xF (Xf (Vt (Ze (Zz v3) 0 v3.length 1 [(ii 0)]) (0 + (tn (wr (v5 + 1)))) (Nat.min ((v3.length + 1) - (tn v5)) ((v3.length + 1) - (tn (wr (v5 + 1))))) (fun k => (Ze (Zz v3) 0 v3.length 1 [(ii 0)]) ((0 + (tn v5)) + k))) (0 + (tn v5)) 0 [(ii (rd l0 (tn v4)))])) nn) (ww o6 (ww o5 (ww cF (pp (pp (xG (Nat.beq 1 1)) (pp (xG (Nat.beq 1 1)) (pp (xw o4) (pp (xG (Nat.beq 1 1)) (pp (xG (Nat.beq 1 1)) (pp (xG (decide ((0 + (tn v5)) + ((v3.length + 1) - (tn v5)) ≤ (v3.length + 1)))) (xG (y6p 1 ((v3.length + 1) - (tn v5)) (fun k => (Ze (Zz v3) 0 v3.length 1 [(ii 0)]) ((0 + (tn v5)) + k)))))))))) (ww o2 (ww o1 (ww o0 (tt k2 (ww cF (ww bG (ww aH (tt k0 (tt k1 (ww cF (ww bG (ww aH (tt k0 nn))))))))))))))))))))))))))))))))))))) (fun k0 => (lo fun o0 => (lo fun o1 => (lo fun o2 => (lo fun o3 => (lo fun o4 => (lo fun o5 => (lo fun o6 => (lo fun o7 => (sl Zp 36 [] ⟨[2], [], y2w, y2x⟩ ⟨[(3, .len ((y1e (v3 ++ [0]) (0 + (tn (wr (v5 + 1)))) (Nat.min ((v3.length + 1) - (tn v5)) ((v3.length + 1) - (tn (wr (v5 + 1))))) (Ke (v3 ++ [0]) (0 + (tn v5)) ((v3.length + 1) - (tn v5)))).set (0 + (tn v5)) (rd l0 (tn v4))).length)], [.rowed 1 ((y1e (v3 ++ [0]) (0 + (tn (wr (v5 + 1)))) (Nat.min ((v3.length + 1) - (tn v5)) ((v3.length + 1) - (tn (wr (v5 + 1))))) (Ke (v3 ++ [0]) (0 + (tn v5)) ((v3.length + 1) - (tn v5)))).set (0 + (tn v5)) (rd l0 (tn v4))).length (Zz ((y1e (v3 ++ [0]) (0 + (tn (wr (v5 + 1)))) (Nat.min ((v3.length + 1) - (tn v5)) ((v3.length + 1) - (tn (wr (v5 + 1))))) (Ke (v3 ++ [0]) (0 + (tn v5)) ((v3.length + 1) - (tn v5)))).set (0 + (tn v5)) (rd l0 (tn v4))))], []⟩ [false, false, false, false, false, false, false, false, false, false, false, false, false, false, false, false, false, false, false, false, false, false] (pp (xL (v3.length + 1) ((y1e (v3 ++ [0]) (0 + (tn (wr (v5 + 1)))) (Nat.min ((v3.length + 1) - (tn v5)) ((v3.length + 1) - (tn (wr (v5 + 1))))) (Ke (v3 ++ [0]) (0 + (tn v5)) ((v3.length + 1) - (tn v5)))).set (0 + (tn v5)) (rd l0 (tn v4))).length) (pp (xL (v3.length + 1) ((y1e (v3 ++ [0]) (0 + (tn (wr (v5 + 1)))) (Nat.min ((v3.length + 1) - (tn v5)) ((v3.length + 1) - (tn (wr (v5 + 1))))) (Ke (v3 ++ [0]) (0 + (tn v5)) ((v3.length + 1) - (tn v5)))).set (0 + (tn v5)) (rd l0 (tn v4))).length) (pp (xS (v3.length + 1) (Xf (Vt (Ze (Zz v3) 0 v3.length 1 [(ii 0)]) (0 + (tn (wr (v5 + 1)))) (Nat.min ((v3.length + 1) - (tn v5)) ((v3.length + 1) - (tn (wr (v5 + 1))))) (fun k => (Ze (Zz v3) 0 v3.length 1 [(ii 0)]) ((0 + (tn v5)) + k))) (0 + (tn v5)) 0 [(ii (rd l0 (tn v4)))]) (Zz ((y1e (v3 ++ [0]) (0 + (tn (wr (v5 + 1)))) (Nat.min ((v3.length + 1) - (tn v5)) ((v3.length + 1) - (tn (wr (v5 + 1))))) (Ke (v3 ++ [0]) (0 + (tn v5)) ((v3.length + 1) - (tn v5)))).set (0 + (tn v5)) (rd l0 (tn v4))))) (pp (pp (xF (Xf (Vt (Ze (Zz v3) 0 v3.length 1 [(ii 0)]) (0 + (tn (wr (v5 + 1)))) (Nat.min ((v3.length + 1) - (tn v5)) ((v3.length + 1) - (tn (wr (v5 + 1))))) (fun k => (Ze (Zz v3) 0 v3.length 1 [(ii 0)]) ((0 + (tn v5)) + k))) (0 + (tn v5)) 0 [(ii (rd l0 (tn v4)))])) nn) (ww o7 (ww o6 (ww o5 (pp (pp (xG (Nat.beq 1 1)) (pp (xG (Nat.beq 1 1)) (pp (xw o4) (pp (xG (Nat.beq 1 1)) (pp (xG (Nat.beq 1 1)) (pp (xG (decide ((0 + (tn v5)) + ((v3.length + 1) - (tn v5)) ≤ (v3.length + 1)))) (xG (y6p 1 ((v3.length + 1) - (tn v5)) (fun k => (Ze (Zz v3) 0 v3.length 1 [(ii 0)]) ((0 + (tn v5)) + k)))))))))) (ww o2 (ww o1 (ww o0 (tt k0 (tt k0 nn))))))))))))))))))))))))
theorem y2v (l0 : List Int) : Wj prog (Zy prog 133) (x7q l0) (Zf prog 133 [(.dat l0.length (Zz l0))] true []) (z2e l0) := (sl Zp 15 [(3, 1, Zz ([] : List Int))] ⟨[0], [], y2w, y2x⟩ ⟨[(3, .grow 0 1)], [], []⟩ [] (pp (fl ([] : List Int) nn) nn))
theorem x3y (l0 : List Int) (n : Nat) (vs : List AVal) (h : Yv (Vg l0) n (z2e l0) = .ret vs) : Jo prog (Zy prog 133) (Zf prog 133 [(.dat l0.length (Zz l0))] true []) vs := by
 have := Zo (y4y l0) n _ (y2v l0)
 rwa [h] at this
inductive rcanS where
 | h0 (v5 : List R2) (v6 : Int)
def v2k (l0 : List Int) (l1 : List Bool) : rcanS → Cfg
 | .h0 v5 v6 => ⟨⟨61, 0, true⟩, none, (Zg prog 139 [1, 1, 0, 1, 0, 0] 0), none, (Zy prog 3), ⟨Yj [(0, (.dat l0.length (Zz l0))), (1, (.dat l1.length (Zz l1))), (5, (.sla 0 2 0 v5.length (.un 2))), (6, (ii v6))], Vf [⟨rows v5.length (Zz v5), 110, some ⟨2, v5.length, (Zz v5)⟩⟩] 0, 1, [], true⟩, [], .leaf⟩
def y5m : List (Option (List Nat)) := [some [0, 1, 5, 6]]
def y5n : List (Option (List Nat)) := []
def Kw (l0 : List Int) (l1 : List Bool) : rcanS → Xd rcanS
 | .h0 v5 v6 => (bif (decide ((IntKind.wrap .i64 (v6 + 1)) < (l0.length : Int))) then (bif ((decide (0 ≤ v6 ∧ v6 < (l1.length : Int))) && true) then (bif (!(rd l1 v6.toNat)) then (.to (.h0 v5 (IntKind.wrap .i64 (v6 + 1)))) else (bif (decide ((v5.length : Int) > 0)) then (bif ((decide (0 ≤ (IntKind.wrap .i64 ((v5.length : Int) - 1)) ∧ (IntKind.wrap .i64 ((v5.length : Int) - 1)) < (v5.length : Int))) && true) then (bif (decide ((0 + (Int.toNat (IntKind.wrap .i64 ((v5.length : Int) - 1)))) < v5.length)) then (bif ((decide (0 ≤ v6 ∧ v6 < (l0.length : Int))) && true) then (bif ((rd v5 (0 + (Int.toNat (IntKind.wrap .i64 ((v5.length : Int) - 1))))).b == (rd l0 v6.toNat)) then (bif ((decide (0 ≤ (IntKind.wrap .i64 (v6 + 1)) ∧ (IntKind.wrap .i64 (v6 + 1)) < (l0.length : Int))) && true) then (.to (.h0 (v5.set (0 + (Int.toNat (IntKind.wrap .i64 ((v5.length : Int) - 1)))) (R2.mk (rd v5 (0 + (Int.toNat (IntKind.wrap .i64 ((v5.length : Int) - 1))))).a (rd l0 (Int.toNat (IntKind.wrap .i64 (v6 + 1)))))) (IntKind.wrap .i64 (v6 + 1)))) else .stuck) else (bif ((decide (0 ≤ (IntKind.wrap .i64 (v6 + 1)) ∧ (IntKind.wrap .i64 (v6 + 1)) < (l0.length : Int))) && true) then (bif (Nat.beq 2 2 && ((decide (0 + v5.length = v5.length)) && decide ((v5.length + 1 + 1) * (16 + 1) ≤ Jb))) then (.to (.h0 (v5 ++ [(R2.mk (rd l0 v6.toNat) (rd l0 (Int.toNat (IntKind.wrap .i64 (v6 + 1)))))]) (IntKind.wrap .i64 (v6 + 1)))) else .stuck) else .stuck)) else .stuck) else .stuck) else .stuck) else (bif ((decide (0 ≤ v6 ∧ v6 < (l0.length : Int))) && true) then (bif ((decide (0 ≤ (IntKind.wrap .i64 (v6 + 1)) ∧ (IntKind.wrap .i64 (v6 + 1)) < (l0.length : Int))) && true) then (bif (Nat.beq 2 2 && ((decide (0 + v5.length = v5.length)) && decide ((v5.length + 1 + 1) * (16 + 1) ≤ Jb))) then (.to (.h0 (v5 ++ [(R2.mk (rd l0 v6.toNat) (rd l0 (Int.toNat (IntKind.wrap .i64 (v6 + 1)))))]) (IntKind.wrap .i64 (v6 + 1)))) else .stuck) else .stuck) else .stuck))) else .stuck) else (.ret [(.dat v5.length (Zz v5))]))
def z4m (l0 : List Int) (l1 : List Bool) : Xd rcanS := (.to (.h0 ([] : List R2) 0))
theorem y8v (l0 : List Int) (l1 : List Bool) : ∀ s, Wj prog (Zy prog 139) (v2k l0 l1) (v2k l0 l1 s) (Kw l0 l1 s)
 | .h0 v5 v6 => (lb (fun k0 => (lo fun aH => (lb (fun k1 => (sl Zp 30 [] ⟨[0], [], y5m, y5n⟩ ⟨[], [], []⟩ [true, true] (pp (fl v5 nn) (tt k1 (ww aH (tt k0 nn)))))) (fun k1 => (lb (fun k2 => (lo fun cU => (lo fun dJ => (lo fun cY => (lb (fun k3 => (lo fun o0 => (sl Zp 53 [] ⟨[0], [], y5m, y5n⟩ ⟨[(5, .len (v5.set (0 + (tn (wr ((v5.length : Int) - 1)))) (R2.mk (rd v5 (0 + (tn (wr ((v5.length : Int) - 1))))).a (rd l0 (tn (wr (v6 + 1)))))).length)], [.rowed 2 (v5.set (0 + (tn (wr ((v5.length : Int) - 1)))) (R2.mk (rd v5 (0 + (tn (wr ((v5.length : Int) - 1))))).a (rd l0 (tn (wr (v6 + 1)))))).length (Zz (v5.set (0 + (tn (wr ((v5.length : Int) - 1)))) (R2.mk (rd v5 (0 + (tn (wr ((v5.length : Int) - 1))))).a (rd l0 (tn (wr (v6 + 1)))))))], []⟩ [true, false, true, true, true, true, true, true, true, true, true, true, true, true] (pp (xL v5.length (v5.set (0 + (tn (wr ((v5.length : Int) - 1)))) (R2.mk (rd v5 (0 + (tn (wr ((v5.length : Int) - 1))))).a (rd l0 (tn (wr (v6 + 1)))))).length) (pp (xL v5.length (v5.set (0 + (tn (wr ((v5.length : Int) - 1)))) (R2.mk (rd v5 (0 + (tn (wr ((v5.length : Int) - 1))))).a (rd l0 (tn (wr (v6 + 1)))))).length) (pp (xS v5.length (Xf (Zz v5) (0 + (tn (wr ((v5.length : Int) - 1)))) 1 [(ii (rd l0 (tn (wr (v6 + 1)))))]) (Zz (v5.set (0 + (tn (wr ((v5.length : Int) - 1)))) (R2.mk (rd v5 (0 + (tn (wr ((v5.length : Int) - 1))))).a (rd l0 (tn (wr (v6 + 1)))))))) (pp (pp (xF (Xf (Zz v5) (0 + (tn (wr ((v5.length : Int) - 1)))) 1 [(ii (rd l0 (tn (wr (v6 + 1)))))])) nn) (ww dJ (ww cU (ww o0 (tt k3 (ww cY (ww dJ (ww cU (tt k2 (tt k1 (ww aH (tt k0 nn)))))))))))))))))) (fun k3 => (lo fun o0 => (lo fun o1 => (sl Zp 41 [] ⟨[2], [], y5m, y5n⟩ ⟨[(5, .len (v5 ++ [(R2.mk (rd l0 (tn v6)) (rd l0 (tn (wr (v6 + 1)))))]).length)], [.rowed 2 (v5 ++ [(R2.mk (rd l0 (tn v6)) (rd l0 (tn (wr (v6 + 1)))))]).length (Zz (v5 ++ [(R2.mk (rd l0 (tn v6)) (rd l0 (tn (wr (v6 + 1)))))]))], []⟩ [true, false, true, true, true, true, true, true, true, true, true, true, true, false] (pp (xL (v5.length + 1) (v5 ++ [(R2.mk (rd l0 (tn v6)) (rd l0 (tn (wr (v6 + 1)))))]).length) (pp (xL (v5.length + 1) (v5 ++ [(R2.mk (rd l0 (tn v6)) (rd l0 (tn (wr (v6 + 1)))))]).length) (pp (xS (v5.length + 1) (Ze (Zz v5) 0 v5.length 2 [(ii (rd l0 (tn v6))), (ii (rd l0 (tn (wr (v6 + 1)))))]) (Zz (v5 ++ [(R2.mk (rd l0 (tn v6)) (rd l0 (tn (wr (v6 + 1)))))]))) (pp (pp (xF (Ze (Zz v5) 0 v5.length 2 [(ii (rd l0 (tn v6))), (ii (rd l0 (tn (wr (v6 + 1)))))])) nn) (ww o1 (ww o0 (ww cY (tt k3 (ww cY (ww dJ (ww cU (tt k2 (tt k1 (ww aH (tt k0 nn)))))))))))))))))))))))) (fun k2 => (lo fun o0 => (lo fun o1 => (lo fun o2 => (sl Zp 41 [] ⟨[2], [], y5m, y5n⟩ ⟨[(5, .len (v5 ++ [(R2.mk (rd l0 (tn v6)) (rd l0 (tn (wr (v6 + 1)))))]).length)], [.rowed 2 (v5 ++ [(R2.mk (rd l0 (tn v6)) (rd l0 (tn (wr (v6 + 1)))))]).length (Zz (v5 ++ [(R2.mk (rd l0 (tn v6)) (rd l0 (tn (wr (v6 + 1)))))]))], []⟩ [true, false, false, false, false, false, false, false, false, false, false, false, false, false] (pp (xL (v5.length + 1) (v5 ++ [(R2.mk (rd l0 (tn v6)) (rd l0 (tn (wr (v6 + 1)))))]).length) (pp (xL (v5.length + 1) (v5 ++ [(R2.mk (rd l0 (tn v6)) (rd l0 (tn (wr (v6 + 1)))))]).length) (pp (xS (v5.length + 1) (Ze (Zz v5) 0 v5.length 2 [(ii (rd l0 (tn v6))), (ii (rd l0 (tn (wr (v6 + 1)))))]) (Zz (v5 ++ [(R2.mk (rd l0 (tn v6)) (rd l0 (tn (wr (v6 + 1)))))]))) (pp (pp (xF (Ze (Zz v5) 0 v5.length 2 [(ii (rd l0 (tn v6))), (ii (rd l0 (tn (wr (v6 + 1)))))])) nn) (ww o2 (ww o1 (ww o0 (tt k2 (tt k1 (ww aH (tt k0 nn))))))))))))))))))))) (fun k0 => (lr 61 3 [1, 1, 1, 1, 1, 1, 0] 1 3 [(4, (.dat v5.length (Zz v5)))] (sl Zp 16 [] ⟨[], [0], [some [4]], []⟩ ⟨[(4, .frz v5.length v5.length (Zz v5) (Zz v5))], [], []⟩ [false] (pp (xZ (z4w 2 2 0 v5.length v5.length (Zz v5)) v5.length (Zz v5)) (pp (xL v5.length v5.length) (pp (xS v5.length (Zz v5) (Zz v5)) (pp (fl v5 nn) (tt k0 nn)))))))))
theorem y5l (l0 : List Int) (l1 : List Bool) : Wj prog (Zy prog 139) (v2k l0 l1) (Zf prog 139 [(.dat l0.length (Zz l0)), (.dat l1.length (Zz l1))] true []) (z4m l0 l1) := (sl Zp 15 [(110, 2, Zz ([] : List R2))] ⟨[0], [], y5m, y5n⟩ ⟨[(5, .grow 0 2)], [], []⟩ [] (pp (fl ([] : List R2) nn) nn))
theorem x8s (l0 : List Int) (l1 : List Bool) (n : Nat) (vs : List AVal) (h : Yv (Kw l0 l1) n (z4m l0 l1) = .ret vs) : Jo prog (Zy prog 139) (Zf prog 139 [(.dat l0.length (Zz l0)), (.dat l1.length (Zz l1))] true []) vs := by
 have := Zo (y8v l0 l1) n _ (y5l l0 l1)
 rwa [h] at this
inductive rsmS where
 | h0 (v5 : Int)
def rsmC (l0 : List R2) (l1 : List R2) : rsmS → Cfg
 | .h0 v5 => ⟨⟨26, 0, true⟩, none, (Zg prog 140 [1, 1, 0, 1, 0, 0] 0), none, (Zy prog 3), ⟨Yj [(0, (.dat l0.length (Zz l0))), (1, (.dat l1.length (Zz l1))), (5, (ii v5))], Vf [] 0, 0, [], true⟩, [], .leaf⟩
def rsmN0 : List (Option (List Nat)) := [some [0, 1, 5]]
def rsmM0 : List (Option (List Nat)) := []
def z3j (l0 : List R2) (l1 : List R2) : rsmS → Xd rsmS
 | .h0 v5 => (bif (decide (v5 < (l0.length : Int))) then (bif ((decide (0 ≤ v5 ∧ v5 < (l0.length : Int))) && true) then (bif ((decide (0 ≤ v5 ∧ v5 < (l1.length : Int))) && true) then (bif (!(((rd l0 v5.toNat).a == (rd l1 v5.toNat).a) && (((rd l0 v5.toNat).b == (rd l1 v5.toNat).b) && true))) then (.ret [(.bool false)]) else (.to (.h0 (IntKind.wrap .i64 (v5 + 1))))) else .stuck) else .stuck) else (.ret [(.bool true)]))
def z4c (l0 : List R2) (l1 : List R2) : Xd rsmS := (bif ((l0.length : Int) != (l1.length : Int)) then (.ret [(.bool false)]) else (.to (.h0 0)))
theorem x3z (l0 : List R2) (l1 : List R2) : ∀ s, Wj prog (Zy prog 140) (rsmC l0 l1) (rsmC l0 l1 s) (z3j l0 l1 s)
 | .h0 v5 => (lb (fun k0 => (lo fun aH => (lo fun bG => (lb (fun k1 => (lr 26 140 [1, 1, 0, 1, 0, 0, 1, 0, 0, 1, 0, 0] 1 3 [(4, (.bool false))] (sl Zp 19 [] ⟨[], [], [some [4]], []⟩ ⟨[], [], []⟩ [true, true] (tt k1 (ww bG (ww aH (tt k0 nn))))))) (fun k1 => (sl Zp 23 [] ⟨[], [], rsmN0, rsmM0⟩ ⟨[], [], []⟩ [true, false] (tt k1 (ww bG (ww aH (tt k0 nn)))))))))) (fun k0 => (lr 26 3 [1, 1, 1, 1, 1, 1, 0] 1 3 [(4, (.bool true))] (sl Zp 14 [] ⟨[], [], [some [4]], []⟩ ⟨[], [], []⟩ [false] (tt k0 nn)))))
theorem y8b (l0 : List R2) (l1 : List R2) : Wj prog (Zy prog 140) (rsmC l0 l1) (Zf prog 140 [(.dat l0.length (Zz l0)), (.dat l1.length (Zz l1))] true []) (z4c l0 l1) := (lb (fun k0 => (lr 26 140 [1, 0, 1, 0, 0] 1 3 [(4, (.bool false))] (sl Zp 18 [] ⟨[], [], [some [4]], []⟩ ⟨[], [], []⟩ [true] (tt k0 nn)))) (fun k0 => (sl Zp 22 [] ⟨[], [], rsmN0, rsmM0⟩ ⟨[], [], []⟩ [false] (tt k0 nn))))
theorem w2s (l0 : List R2) (l1 : List R2) (n : Nat) (vs : List AVal) (h : Yv (z3j l0 l1) n (z4c l0 l1) = .ret vs) : Jo prog (Zy prog 140) (Zf prog 140 [(.dat l0.length (Zz l0)), (.dat l1.length (Zz l1))] true []) vs := by
 have := Zo (x3z l0 l1) n _ (y8b l0 l1)
 rwa [h] at this
inductive rhasS where
 | h0 (v7 : Int)
def v2e (l0 : List R4) (x1 : Int) (x2 : Int) : rhasS → Cfg
 | .h0 v7 => ⟨⟨48, 0, true⟩, none, (Zg prog 138 [1, 0, 1, 0, 0] 0), none, (Zy prog 4), ⟨Yj [(0, (.dat l0.length (Zz l0))), (1, (ii x1)), (2, (ii x2)), (7, (ii v7))], Vf [] 0, 0, [], true⟩, [], .leaf⟩
def y5c : List (Option (List Nat)) := [some [0, 1, 2, 7]]
def y5d : List (Option (List Nat)) := []
def z2h (l0 : List R4) (x1 : Int) (x2 : Int) : rhasS → Xd rhasS
 | .h0 v7 => (bif (decide (v7 < (l0.length : Int))) then (bif ((decide (0 ≤ v7 ∧ v7 < (l0.length : Int))) && true) then (bif (decide ((rd l0 v7.toNat).a ≤ x1)) then (bif (decide (x1 < (rd l0 v7.toNat).c)) then (bif (decide ((rd l0 v7.toNat).b ≤ x2)) then (bif (decide (x2 < (rd l0 v7.toNat).d)) then (.ret [(.bool true)]) else (.to (.h0 (IntKind.wrap .i64 (v7 + 1))))) else (.to (.h0 (IntKind.wrap .i64 (v7 + 1))))) else (.to (.h0 (IntKind.wrap .i64 (v7 + 1))))) else (.to (.h0 (IntKind.wrap .i64 (v7 + 1))))) else .stuck) else (.ret [(.bool false)]))
def z4h (l0 : List R4) (x1 : Int) (x2 : Int) : Xd rhasS := (.to (.h0 0))
theorem y8l (l0 : List R4) (x1 : Int) (x2 : Int) : ∀ s, Wj prog (Zy prog 138) (v2e l0 x1 x2) (v2e l0 x1 x2 s) (z2h l0 x1 x2 s)
 | .h0 v7 => (lb (fun k0 => (lo fun aH => (lb (fun k1 => (lb (fun k2 => (lb (fun k3 => (lb (fun k4 => (lr 48 138 [1, 0, 1, 0, 0, 1, 0, 0, 1, 0, 0] 1 4 [(6, (.bool true))] (sl Zp 54 [] ⟨[], [], [some [6]], []⟩ ⟨[], [], []⟩ (trs 23 []) (tt k4 (ww aH (tt k3 (ww aH (tt k2 (ww aH (tt k1 (ww aH (tt k0 nn)))))))))))) (fun k4 => (sl Zp 58 [] ⟨[], [], y5c, y5d⟩ ⟨[], [], []⟩ (trs 22 [false]) (tt k4 (ww aH (tt k3 (ww aH (tt k2 (ww aH (tt k1 (ww aH (tt k0 nn))))))))))))) (fun k3 => (sl Zp 58 [] ⟨[], [], y5c, y5d⟩ ⟨[], [], []⟩ (trs 15 [false, false, false, false, false, false, false, false]) (tt k3 (ww aH (tt k2 (ww aH (tt k1 (ww aH (tt k0 nn))))))))))) (fun k2 => (sl Zp 58 [] ⟨[], [], y5c, y5d⟩ ⟨[], [], []⟩ (trs 8 [false, false, false, false, false, false, false, false, false, false, false, false, false, false, false]) (tt k2 (ww aH (tt k1 (ww aH (tt k0 nn))))))))) (fun k1 => (sl Zp 58 [] ⟨[], [], y5c, y5d⟩ ⟨[], [], []⟩ [true, false, false, false, false, false, false, false, false, false, false, false, false, false, false, false, false, false, false, false, false, false, false] (tt k1 (ww aH (tt k0 nn)))))))) (fun k0 => (lr 48 3 [1, 1, 1, 1, 1, 1, 0] 1 4 [(6, (.bool false))] (sl Zp 14 [] ⟨[], [], [some [6]], []⟩ ⟨[], [], []⟩ [false] (tt k0 nn)))))
theorem y5b (l0 : List R4) (x1 : Int) (x2 : Int) : Wj prog (Zy prog 138) (v2e l0 x1 x2) (Zf prog 138 [(.dat l0.length (Zz l0)), (.int .i64 x1), (.int .i64 x2)] true []) (z4h l0 x1 x2) := (sl Zp 11 [] ⟨[], [], y5c, y5d⟩ ⟨[], [], []⟩ [] nn)
theorem x8b (l0 : List R4) (x1 : Int) (x2 : Int) (n : Nat) (vs : List AVal) (h : Yv (z2h l0 x1 x2) n (z4h l0 x1 x2) = .ret vs) : Jo prog (Zy prog 138) (Zf prog 138 [(.dat l0.length (Zz l0)), (.int .i64 x1), (.int .i64 x2)] true []) vs := by
 have := Zo (y8l l0 x1 x2) n _ (y5b l0 x1 x2)
 rwa [h] at this
inductive rsrS where
 | h0 (v5 : Int)
def rsrC (l0 : List R4) (l1 : List R4) : rsrS → Cfg
 | .h0 v5 => ⟨⟨26, 0, true⟩, none, (Zg prog 117 [1, 1, 0, 1, 0, 0] 0), none, (Zy prog 3), ⟨Yj [(0, (.dat l0.length (Zz l0))), (1, (.dat l1.length (Zz l1))), (5, (ii v5))], Vf [] 0, 0, [], true⟩, [], .leaf⟩
def rsrN0 : List (Option (List Nat)) := [some [0, 1, 5]]
def rsrM0 : List (Option (List Nat)) := []
def z3i (l0 : List R4) (l1 : List R4) : rsrS → Xd rsrS
 | .h0 v5 => (bif (decide (v5 < (l0.length : Int))) then (bif ((decide (0 ≤ v5 ∧ v5 < (l0.length : Int))) && true) then (bif ((decide (0 ≤ v5 ∧ v5 < (l1.length : Int))) && true) then (bif (!(((rd l0 v5.toNat).a == (rd l1 v5.toNat).a) && (((rd l0 v5.toNat).b == (rd l1 v5.toNat).b) && (((rd l0 v5.toNat).c == (rd l1 v5.toNat).c) && (((rd l0 v5.toNat).d == (rd l1 v5.toNat).d) && true))))) then (.ret [(.bool false)]) else (.to (.h0 (IntKind.wrap .i64 (v5 + 1))))) else .stuck) else .stuck) else (.ret [(.bool true)]))
def z4b (l0 : List R4) (l1 : List R4) : Xd rsrS := (bif ((l0.length : Int) != (l1.length : Int)) then (.ret [(.bool false)]) else (.to (.h0 0)))
theorem x3x (l0 : List R4) (l1 : List R4) : ∀ s, Wj prog (Zy prog 117) (rsrC l0 l1) (rsrC l0 l1 s) (z3i l0 l1 s)
 | .h0 v5 => (lb (fun k0 => (lo fun aH => (lo fun bG => (lb (fun k1 => (lr 26 117 [1, 1, 0, 1, 0, 0, 1, 0, 0, 1, 0, 0] 1 3 [(4, (.bool false))] (sl Zp 19 [] ⟨[], [], [some [4]], []⟩ ⟨[], [], []⟩ [true, true] (tt k1 (ww bG (ww aH (tt k0 nn))))))) (fun k1 => (sl Zp 23 [] ⟨[], [], rsrN0, rsrM0⟩ ⟨[], [], []⟩ [true, false] (tt k1 (ww bG (ww aH (tt k0 nn)))))))))) (fun k0 => (lr 26 3 [1, 1, 1, 1, 1, 1, 0] 1 3 [(4, (.bool true))] (sl Zp 14 [] ⟨[], [], [some [4]], []⟩ ⟨[], [], []⟩ [false] (tt k0 nn)))))
theorem y8a (l0 : List R4) (l1 : List R4) : Wj prog (Zy prog 117) (rsrC l0 l1) (Zf prog 117 [(.dat l0.length (Zz l0)), (.dat l1.length (Zz l1))] true []) (z4b l0 l1) := (lb (fun k0 => (lr 26 117 [1, 0, 1, 0, 0] 1 3 [(4, (.bool false))] (sl Zp 18 [] ⟨[], [], [some [4]], []⟩ ⟨[], [], []⟩ [true] (tt k0 nn)))) (fun k0 => (sl Zp 22 [] ⟨[], [], rsrN0, rsrM0⟩ ⟨[], [], []⟩ [false] (tt k0 nn))))
theorem w2r (l0 : List R4) (l1 : List R4) (n : Nat) (vs : List AVal) (h : Yv (z3i l0 l1) n (z4b l0 l1) = .ret vs) : Jo prog (Zy prog 117) (Zf prog 117 [(.dat l0.length (Zz l0)), (.dat l1.length (Zz l1))] true []) vs := by
 have := Zo (x3x l0 l1) n _ (y8a l0 l1)
 rwa [h] at this
inductive rsbS where
 | h0 (v5 : Int)
def rsbC (l0 : List R6) (l1 : List R6) : rsbS → Cfg
 | .h0 v5 => ⟨⟨26, 0, true⟩, none, (Zg prog 40 [1, 1, 0, 1, 0, 0] 0), none, (Zy prog 3), ⟨Yj [(0, (.dat l0.length (Zz l0))), (1, (.dat l1.length (Zz l1))), (5, (ii v5))], Vf [] 0, 0, [], true⟩, [], .leaf⟩
def rsbN0 : List (Option (List Nat)) := [some [0, 1, 5]]
def rsbM0 : List (Option (List Nat)) := []
def z3k (l0 : List R6) (l1 : List R6) : rsbS → Xd rsbS
 | .h0 v5 => (bif (decide (v5 < (l0.length : Int))) then (bif ((decide (0 ≤ v5 ∧ v5 < (l0.length : Int))) && true) then (bif ((decide (0 ≤ v5 ∧ v5 < (l1.length : Int))) && true) then (bif (!((((rd l0 v5.toNat).a == (rd l1 v5.toNat).a) && (((rd l0 v5.toNat).b == (rd l1 v5.toNat).b) && (((rd l0 v5.toNat).c == (rd l1 v5.toNat).c) && true))) && ((((rd l0 v5.toNat).d == (rd l1 v5.toNat).d) && (((rd l0 v5.toNat).e == (rd l1 v5.toNat).e) && (((rd l0 v5.toNat).f == (rd l1 v5.toNat).f) && true))) && true))) then (.ret [(.bool false)]) else (.to (.h0 (IntKind.wrap .i64 (v5 + 1))))) else .stuck) else .stuck) else (.ret [(.bool true)]))
def z4d (l0 : List R6) (l1 : List R6) : Xd rsbS := (bif ((l0.length : Int) != (l1.length : Int)) then (.ret [(.bool false)]) else (.to (.h0 0)))
theorem x4a (l0 : List R6) (l1 : List R6) : ∀ s, Wj prog (Zy prog 40) (rsbC l0 l1) (rsbC l0 l1 s) (z3k l0 l1 s)
 | .h0 v5 => (lb (fun k0 => (lo fun aH => (lo fun bG => (lb (fun k1 => (lr 26 40 [1, 1, 0, 1, 0, 0, 1, 0, 0, 1, 0, 0] 1 3 [(4, (.bool false))] (sl Zp 19 [] ⟨[], [], [some [4]], []⟩ ⟨[], [], []⟩ [true, true] (tt k1 (ww bG (ww aH (tt k0 nn))))))) (fun k1 => (sl Zp 23 [] ⟨[], [], rsbN0, rsbM0⟩ ⟨[], [], []⟩ [true, false] (tt k1 (ww bG (ww aH (tt k0 nn)))))))))) (fun k0 => (lr 26 3 [1, 1, 1, 1, 1, 1, 0] 1 3 [(4, (.bool true))] (sl Zp 14 [] ⟨[], [], [some [4]], []⟩ ⟨[], [], []⟩ [false] (tt k0 nn)))))
theorem y8c (l0 : List R6) (l1 : List R6) : Wj prog (Zy prog 40) (rsbC l0 l1) (Zf prog 40 [(.dat l0.length (Zz l0)), (.dat l1.length (Zz l1))] true []) (z4d l0 l1) := (lb (fun k0 => (lr 26 40 [1, 0, 1, 0, 0] 1 3 [(4, (.bool false))] (sl Zp 18 [] ⟨[], [], [some [4]], []⟩ ⟨[], [], []⟩ [true] (tt k0 nn)))) (fun k0 => (sl Zp 22 [] ⟨[], [], rsbN0, rsbM0⟩ ⟨[], [], []⟩ [false] (tt k0 nn))))
theorem w2t (l0 : List R6) (l1 : List R6) (n : Nat) (vs : List AVal) (h : Yv (z3k l0 l1) n (z4d l0 l1) = .ret vs) : Jo prog (Zy prog 40) (Zf prog 40 [(.dat l0.length (Zz l0)), (.dat l1.length (Zz l1))] true []) vs := by
 have := Zo (x4a l0 l1) n _ (y8c l0 l1)
 rwa [h] at this
inductive ratS where
 | h0 (v5 : List R4) (v6 : Int)
def ratC (l0 : List R6) (x1 : Int) : ratS → Cfg
 | .h0 v5 v6 => ⟨⟨60, 0, true⟩, none, (Zg prog 116 [1, 1, 0, 1, 0, 0] 0), none, (Zy prog 3), ⟨Yj [(0, (.dat l0.length (Zz l0))), (1, (ii x1)), (5, (.sla 0 4 0 v5.length (.un 4))), (6, (ii v6))], Vf [⟨rows v5.length (Zz v5), 114, some ⟨4, v5.length, (Zz v5)⟩⟩] 0, 1, [], true⟩, [], .leaf⟩
def w3l : List (Option (List Nat)) := [some [0, 1, 5, 6]]
def w3m : List (Option (List Nat)) := []
def z3m (l0 : List R6) (x1 : Int) : ratS → Xd ratS
 | .h0 v5 v6 => (bif (decide (v6 < (l0.length : Int))) then (bif ((decide (0 ≤ v6 ∧ v6 < (l0.length : Int))) && true) then (bif (decide ((rd l0 v6.toNat).c ≤ x1)) then (bif (decide (x1 < (rd l0 v6.toNat).f)) then (bif (Nat.beq 4 4 && ((decide (0 + v5.length = v5.length)) && decide ((v5.length + 1 + 1) * (32 + 1) ≤ Jb))) then (.to (.h0 (v5 ++ [(R4.mk (rd l0 v6.toNat).a (rd l0 v6.toNat).b (rd l0 v6.toNat).d (rd l0 v6.toNat).e)]) (IntKind.wrap .i64 (v6 + 1)))) else .stuck) else (.to (.h0 v5 (IntKind.wrap .i64 (v6 + 1))))) else (.to (.h0 v5 (IntKind.wrap .i64 (v6 + 1))))) else .stuck) else (.ret [(.dat v5.length (Zz v5))]))
def z8d (l0 : List R6) (x1 : Int) : Xd ratS := (.to (.h0 ([] : List R4) 0))
theorem x4n (l0 : List R6) (x1 : Int) : ∀ s, Wj prog (Zy prog 116) (ratC l0 x1) (ratC l0 x1 s) (z3m l0 x1 s)
 | .h0 v5 v6 => (lb (fun k0 => (lo fun aH => (lb (fun k1 => (lb (fun k2 => (lo fun o0 => (sl Zp 42 [] ⟨[2], [], w3l, w3m⟩ ⟨[(5, .len (v5 ++ [(R4.mk (rd l0 (tn v6)).a (rd l0 (tn v6)).b (rd l0 (tn v6)).d (rd l0 (tn v6)).e)]).length)], [.rowed 4 (v5 ++ [(R4.mk (rd l0 (tn v6)).a (rd l0 (tn v6)).b (rd l0 (tn v6)).d (rd l0 (tn v6)).e)]).length (Zz (v5 ++ [(R4.mk (rd l0 (tn v6)).a (rd l0 (tn v6)).b (rd l0 (tn v6)).d (rd l0 (tn v6)).e)]))], []⟩ (trs 10 []) (pp (xL (v5.length + 1) (v5 ++ [(R4.mk (rd l0 (tn v6)).a (rd l0 (tn v6)).b (rd l0 (tn v6)).d (rd l0 (tn v6)).e)]).length) (pp (xL (v5.length + 1) (v5 ++ [(R4.mk (rd l0 (tn v6)).a (rd l0 (tn v6)).b (rd l0 (tn v6)).d (rd l0 (tn v6)).e)]).length) (pp (xS (v5.length + 1) (Ze (Zz v5) 0 v5.length 4 [(ii (rd l0 (tn v6)).a), (ii (rd l0 (tn v6)).b), (ii (rd l0 (tn v6)).d), (ii (rd l0 (tn v6)).e)]) (Zz (v5 ++ [(R4.mk (rd l0 (tn v6)).a (rd l0 (tn v6)).b (rd l0 (tn v6)).d (rd l0 (tn v6)).e)]))) (pp (pp (xF (Ze (Zz v5) 0 v5.length 4 [(ii (rd l0 (tn v6)).a), (ii (rd l0 (tn v6)).b), (ii (rd l0 (tn v6)).d), (ii (rd l0 (tn v6)).e)])) nn) (ww o0 (ww aH (ww aH (ww aH (ww aH (tt k2 (ww aH (tt k1 (ww aH (tt k0 nn))))))))))))))))) (fun k2 => (sl Zp 42 [] ⟨[0], [], w3l, w3m⟩ ⟨[], [], []⟩ (trs 9 [false]) (pp (fl v5 nn) (tt k2 (ww aH (tt k1 (ww aH (tt k0 nn)))))))))) (fun k1 => (sl Zp 42 [] ⟨[0], [], w3l, w3m⟩ ⟨[], [], []⟩ [true, false, false, false, false, false, false, false, false, false] (pp (fl v5 nn) (tt k1 (ww aH (tt k0 nn))))))))) (fun k0 => (lr 60 3 [1, 1, 1, 1, 1, 1, 0] 1 3 [(4, (.dat v5.length (Zz v5)))] (sl Zp 15 [] ⟨[], [0], [some [4]], []⟩ ⟨[(4, .frz v5.length v5.length (Zz v5) (Zz v5))], [], []⟩ [false] (pp (xZ (z4w 4 4 0 v5.length v5.length (Zz v5)) v5.length (Zz v5)) (pp (xL v5.length v5.length) (pp (xS v5.length (Zz v5) (Zz v5)) (pp (fl v5 nn) (tt k0 nn)))))))))
theorem y8w (l0 : List R6) (x1 : Int) : Wj prog (Zy prog 116) (ratC l0 x1) (Zf prog 116 [(.dat l0.length (Zz l0)), (.int .i64 x1)] true []) (z8d l0 x1) := (sl Zp 15 [(114, 4, Zz ([] : List R4))] ⟨[0], [], w3l, w3m⟩ ⟨[(5, .grow 0 4)], [], []⟩ [] (pp (fl ([] : List R4) nn) nn))
theorem w3k (l0 : List R6) (x1 : Int) (n : Nat) (vs : List AVal) (h : Yv (z3m l0 x1) n (z8d l0 x1) = .ret vs) : Jo prog (Zy prog 116) (Zf prog 116 [(.dat l0.length (Zz l0)), (.int .i64 x1)] true []) vs := by
 have := Zo (x4n l0 x1) n _ (y8w l0 x1)
 rwa [h] at this
inductive eqaS where
 | h0 (v13 : Int)
def eqaC (l0 : List R2) (l1 : List R2) : eqaS → Cfg
 | .h0 v13 => ⟨⟨26, 0, true⟩, none, (Zg prog 123 [1, 1, 0, 1, 0, 0] 0), none, (Zy prog 3), ⟨Yj [(0, (.dat l0.length (Zz l0))), (1, (.dat l1.length (Zz l1))), (12, (ii (l0.length : Int))), (13, (ii v13))], Vf [] 0, 0, [], true⟩, [], .leaf⟩
def eqaN0 : List (Option (List Nat)) := [some [0, 1, 12, 13]]
def eqaM0 : List (Option (List Nat)) := []
def z3s (l0 : List R2) (l1 : List R2) : eqaS → Xd eqaS
 | .h0 v13 => (bif (decide (v13 < (l0.length : Int))) then (bif ((decide (0 ≤ v13 ∧ v13 < (l0.length : Int))) && true) then (bif ((decide (0 ≤ v13 ∧ v13 < (l1.length : Int))) && true) then (bif (!(((rd l0 v13.toNat).a == (rd l1 v13.toNat).a) && (((rd l0 v13.toNat).b == (rd l1 v13.toNat).b) && true))) then (.ret [(.bool false)]) else (.to (.h0 (IntKind.wrap .i64 (v13 + 1))))) else .stuck) else .stuck) else (.ret [(.bool true)]))
def z5a (l0 : List R2) (l1 : List R2) : Xd eqaS := (bif ((l0.length : Int) != (l1.length : Int)) then (.ret [(.bool false)]) else (.to (.h0 0)))
theorem x5q (l0 : List R2) (l1 : List R2) : ∀ s, Wj prog (Zy prog 123) (eqaC l0 l1) (eqaC l0 l1 s) (z3s l0 l1 s)
 | .h0 v13 => (lb (fun k0 => (lo fun aH => (lo fun bG => (lb (fun k1 => (lr 26 123 [1, 1, 0, 1, 0, 0, 1, 1, 0, 0, 1, 1, 0, 0] 1 3 [(4, (.bool false))] (sl Zp 21 [] ⟨[], [], [some [4]], []⟩ ⟨[], [], []⟩ [true, true] (tt k1 (ww bG (ww aH (tt k0 nn))))))) (fun k1 => (sl Zp 24 [] ⟨[], [], eqaN0, eqaM0⟩ ⟨[], [], []⟩ [true, false] (tt k1 (ww bG (ww aH (tt k0 nn)))))))))) (fun k0 => (lr 26 3 [1, 1, 1, 1, 1, 1, 0] 1 3 [(4, (.bool true))] (sl Zp 11 [] ⟨[], [], [some [4]], []⟩ ⟨[], [], []⟩ [false] (tt k0 nn)))))
theorem x0e (l0 : List R2) (l1 : List R2) : Wj prog (Zy prog 123) (eqaC l0 l1) (Zf prog 123 [(.dat l0.length (Zz l0)), (.dat l1.length (Zz l1))] true []) (z5a l0 l1) := (lb (fun k0 => (lr 26 123 [1, 0, 1, 0, 0] 1 3 [(4, (.bool false))] (sl Zp 18 [] ⟨[], [], [some [4]], []⟩ ⟨[], [], []⟩ [true] (tt k0 nn)))) (fun k0 => (sl Zp 24 [] ⟨[], [], eqaN0, eqaM0⟩ ⟨[], [], []⟩ [false] (tt k0 nn))))
theorem w5q (l0 : List R2) (l1 : List R2) (n : Nat) (vs : List AVal) (h : Yv (z3s l0 l1) n (z5a l0 l1) = .ret vs) : Jo prog (Zy prog 123) (Zf prog 123 [(.dat l0.length (Zz l0)), (.dat l1.length (Zz l1))] true []) vs := by
 have := Zo (x5q l0 l1) n _ (x0e l0 l1)
 rwa [h] at this
inductive eqbS where
 | h0 (v13 : Int)
def eqbC (l0 : List R4) (l1 : List R4) : eqbS → Cfg
 | .h0 v13 => ⟨⟨26, 0, true⟩, none, (Zg prog 82 [1, 1, 0, 1, 0, 0] 0), none, (Zy prog 3), ⟨Yj [(0, (.dat l0.length (Zz l0))), (1, (.dat l1.length (Zz l1))), (12, (ii (l0.length : Int))), (13, (ii v13))], Vf [] 0, 0, [], true⟩, [], .leaf⟩
def eqbN0 : List (Option (List Nat)) := [some [0, 1, 12, 13]]
def eqbM0 : List (Option (List Nat)) := []
def z3r (l0 : List R4) (l1 : List R4) : eqbS → Xd eqbS
 | .h0 v13 => (bif (decide (v13 < (l0.length : Int))) then (bif ((decide (0 ≤ v13 ∧ v13 < (l0.length : Int))) && true) then (bif ((decide (0 ≤ v13 ∧ v13 < (l1.length : Int))) && true) then (bif (!(((rd l0 v13.toNat).a == (rd l1 v13.toNat).a) && (((rd l0 v13.toNat).b == (rd l1 v13.toNat).b) && (((rd l0 v13.toNat).c == (rd l1 v13.toNat).c) && (((rd l0 v13.toNat).d == (rd l1 v13.toNat).d) && true))))) then (.ret [(.bool false)]) else (.to (.h0 (IntKind.wrap .i64 (v13 + 1))))) else .stuck) else .stuck) else (.ret [(.bool true)]))
def z4z (l0 : List R4) (l1 : List R4) : Xd eqbS := (bif ((l0.length : Int) != (l1.length : Int)) then (.ret [(.bool false)]) else (.to (.h0 0)))
theorem x5p (l0 : List R4) (l1 : List R4) : ∀ s, Wj prog (Zy prog 82) (eqbC l0 l1) (eqbC l0 l1 s) (z3r l0 l1 s)
 | .h0 v13 => (lb (fun k0 => (lo fun aH => (lo fun bG => (lb (fun k1 => (lr 26 82 [1, 1, 0, 1, 0, 0, 1, 1, 0, 0, 1, 1, 0, 0] 1 3 [(4, (.bool false))] (sl Zp 21 [] ⟨[], [], [some [4]], []⟩ ⟨[], [], []⟩ [true, true] (tt k1 (ww bG (ww aH (tt k0 nn))))))) (fun k1 => (sl Zp 24 [] ⟨[], [], eqbN0, eqbM0⟩ ⟨[], [], []⟩ [true, false] (tt k1 (ww bG (ww aH (tt k0 nn)))))))))) (fun k0 => (lr 26 3 [1, 1, 1, 1, 1, 1, 0] 1 3 [(4, (.bool true))] (sl Zp 11 [] ⟨[], [], [some [4]], []⟩ ⟨[], [], []⟩ [false] (tt k0 nn)))))
theorem x0d (l0 : List R4) (l1 : List R4) : Wj prog (Zy prog 82) (eqbC l0 l1) (Zf prog 82 [(.dat l0.length (Zz l0)), (.dat l1.length (Zz l1))] true []) (z4z l0 l1) := (lb (fun k0 => (lr 26 82 [1, 0, 1, 0, 0] 1 3 [(4, (.bool false))] (sl Zp 18 [] ⟨[], [], [some [4]], []⟩ ⟨[], [], []⟩ [true] (tt k0 nn)))) (fun k0 => (sl Zp 24 [] ⟨[], [], eqbN0, eqbM0⟩ ⟨[], [], []⟩ [false] (tt k0 nn))))
theorem w5p (l0 : List R4) (l1 : List R4) (n : Nat) (vs : List AVal) (h : Yv (z3r l0 l1) n (z4z l0 l1) = .ret vs) : Jo prog (Zy prog 82) (Zf prog 82 [(.dat l0.length (Zz l0)), (.dat l1.length (Zz l1))] true []) vs := by
 have := Zo (x5p l0 l1) n _ (x0d l0 l1)
 rwa [h] at this
inductive eqcS where
 | h0 (v13 : Int)
def eqcC (l0 : List R6) (l1 : List R6) : eqcS → Cfg
 | .h0 v13 => ⟨⟨26, 0, true⟩, none, (Zg prog 109 [1, 1, 0, 1, 0, 0] 0), none, (Zy prog 3), ⟨Yj [(0, (.dat l0.length (Zz l0))), (1, (.dat l1.length (Zz l1))), (12, (ii (l0.length : Int))), (13, (ii v13))], Vf [] 0, 0, [], true⟩, [], .leaf⟩
def eqcN0 : List (Option (List Nat)) := [some [0, 1, 12, 13]]
def eqcM0 : List (Option (List Nat)) := []
def z3q (l0 : List R6) (l1 : List R6) : eqcS → Xd eqcS
 | .h0 v13 => (bif (decide (v13 < (l0.length : Int))) then (bif ((decide (0 ≤ v13 ∧ v13 < (l0.length : Int))) && true) then (bif ((decide (0 ≤ v13 ∧ v13 < (l1.length : Int))) && true) then (bif (!((((rd l0 v13.toNat).a == (rd l1 v13.toNat).a) && (((rd l0 v13.toNat).b == (rd l1 v13.toNat).b) && (((rd l0 v13.toNat).c == (rd l1 v13.toNat).c) && true))) && ((((rd l0 v13.toNat).d == (rd l1 v13.toNat).d) && (((rd l0 v13.toNat).e == (rd l1 v13.toNat).e) && (((rd l0 v13.toNat).f == (rd l1 v13.toNat).f) && true))) && true))) then (.ret [(.bool false)]) else (.to (.h0 (IntKind.wrap .i64 (v13 + 1))))) else .stuck) else .stuck) else (.ret [(.bool true)]))
def z4y (l0 : List R6) (l1 : List R6) : Xd eqcS := (bif ((l0.length : Int) != (l1.length : Int)) then (.ret [(.bool false)]) else (.to (.h0 0)))
theorem x5o (l0 : List R6) (l1 : List R6) : ∀ s, Wj prog (Zy prog 109) (eqcC l0 l1) (eqcC l0 l1 s) (z3q l0 l1 s)
 | .h0 v13 => (lb (fun k0 => (lo fun aH => (lo fun bG => (lb (fun k1 => (lr 26 109 [1, 1, 0, 1, 0, 0, 1, 1, 0, 0, 1, 1, 0, 0] 1 3 [(4, (.bool false))] (sl Zp 21 [] ⟨[], [], [some [4]], []⟩ ⟨[], [], []⟩ [true, true] (tt k1 (ww bG (ww aH (tt k0 nn))))))) (fun k1 => (sl Zp 24 [] ⟨[], [], eqcN0, eqcM0⟩ ⟨[], [], []⟩ [true, false] (tt k1 (ww bG (ww aH (tt k0 nn)))))))))) (fun k0 => (lr 26 3 [1, 1, 1, 1, 1, 1, 0] 1 3 [(4, (.bool true))] (sl Zp 11 [] ⟨[], [], [some [4]], []⟩ ⟨[], [], []⟩ [false] (tt k0 nn)))))
theorem x0c (l0 : List R6) (l1 : List R6) : Wj prog (Zy prog 109) (eqcC l0 l1) (Zf prog 109 [(.dat l0.length (Zz l0)), (.dat l1.length (Zz l1))] true []) (z4y l0 l1) := (lb (fun k0 => (lr 26 109 [1, 0, 1, 0, 0] 1 3 [(4, (.bool false))] (sl Zp 18 [] ⟨[], [], [some [4]], []⟩ ⟨[], [], []⟩ [true] (tt k0 nn)))) (fun k0 => (sl Zp 24 [] ⟨[], [], eqcN0, eqcM0⟩ ⟨[], [], []⟩ [false] (tt k0 nn))))
theorem w5o (l0 : List R6) (l1 : List R6) (n : Nat) (vs : List AVal) (h : Yv (z3q l0 l1) n (z4y l0 l1) = .ret vs) : Jo prog (Zy prog 109) (Zf prog 109 [(.dat l0.length (Zz l0)), (.dat l1.length (Zz l1))] true []) vs := by
 have := Zo (x5o l0 l1) n _ (x0c l0 l1)
 rwa [h] at this
inductive holS where
def holC (x0 : Int) (x1 : Bool) (x2 : Bool) : holS → Cfg
 := nofun
def y9r (x0 : Int) (x1 : Bool) (x2 : Bool) : holS → Xd holS
 := nofun
def z8l (x0 : Int) (x1 : Bool) (x2 : Bool) : Xd holS := (bif (x0 == 1) then (bif x1 then (.ret [(.bool x2)]) else (.ret [(.bool false)])) else (bif (x0 == 2) then (bif x1 then (.ret [(.bool true)]) else (.ret [(.bool x2)])) else (bif x1 then (.ret [(.bool (!x2))]) else (.ret [(.bool false)]))))
theorem x5d (x0 : Int) (x1 : Bool) (x2 : Bool) : ∀ s, Wj prog (Zy prog 137) (holC x0 x1 x2) (holC x0 x1 x2 s) (y9r x0 x1 x2 s)
 := nofun
theorem y9s (x0 : Int) (x1 : Bool) (x2 : Bool) : Wj prog (Zy prog 137) (holC x0 x1 x2) (Zf prog 137 [(.int .i64 x0), (.bool x1), (.bool x2)] true []) (z8l x0 x1 x2) := (lb (fun k0 => (lb (fun k1 => (lr 24 137 [1, 0, 1, 0, 0] 1 4 [(6, (.bool x2))] (sl Zp 19 [] ⟨[], [], [some [6]], []⟩ ⟨[], [], []⟩ [true, true] (tt k1 (tt k0 nn))))) (fun k1 => (lr 24 137 [1, 0, 1, 0, 0] 1 4 [(6, (.bool false))] (sl Zp 19 [] ⟨[], [], [some [6]], []⟩ ⟨[], [], []⟩ [true, false] (tt k1 (tt k0 nn))))))) (fun k0 => (lb (fun k1 => (lb (fun k2 => (lr 24 137 [1, 1, 0, 1, 0, 0] 1 4 [(6, (.bool true))] (sl Zp 27 [] ⟨[], [], [some [6]], []⟩ ⟨[], [], []⟩ [false, true, true] (tt k2 (tt k1 (tt k0 nn)))))) (fun k2 => (lr 24 137 [1, 1, 0, 1, 0, 0] 1 4 [(6, (.bool x2))] (sl Zp 27 [] ⟨[], [], [some [6]], []⟩ ⟨[], [], []⟩ [false, true, false] (tt k2 (tt k1 (tt k0 nn)))))))) (fun k1 => (lb (fun k2 => (lr 24 3 [1, 1, 1, 1, 1, 1, 0] 1 4 [(6, (.bool (!x2)))] (sl Zp 29 [] ⟨[], [], [some [6]], []⟩ ⟨[], [], []⟩ [false, false, true, true] (tt k2 (tt k1 (tt k0 nn)))))) (fun k2 => (lr 24 3 [1, 1, 1, 1, 1, 1, 0] 1 4 [(6, (.bool false))] (sl Zp 29 [] ⟨[], [], [some [6]], []⟩ ⟨[], [], []⟩ [false, false, false, false] (tt k2 (tt k1 (tt k0 nn)))))))))))
theorem w4y (x0 : Int) (x1 : Bool) (x2 : Bool) (n : Nat) (vs : List AVal) (h : Yv (y9r x0 x1 x2) n (z8l x0 x1 x2) = .ret vs) : Jo prog (Zy prog 137) (Zf prog 137 [(.int .i64 x0), (.bool x1), (.bool x2)] true []) vs := by
 have := Zo (x5d x0 x1 x2) n _ (y9s x0 x1 x2)
 rwa [h] at this
inductive fstS where
def fstC (x0 : Bool) (x1 : Bool) : fstS → Cfg
 := nofun
def y9v (x0 : Bool) (x1 : Bool) : fstS → Xd fstS
 := nofun
def y3q (x0 : Bool) (x1 : Bool) : Xd fstS := (.ret [(.bool x0)])
theorem x5g (x0 : Bool) (x1 : Bool) : ∀ s, Wj prog (Zy prog 189) (fstC x0 x1) (fstC x0 x1 s) (y9v x0 x1 s)
 := nofun
theorem y9w (x0 : Bool) (x1 : Bool) : Wj prog (Zy prog 189) (fstC x0 x1) (Zf prog 189 [(.bool x0), (.bool x1)] true []) (y3q x0 x1) := (lr 6 3 [1, 1, 1, 1, 1, 1, 0] 1 3 [(4, (.bool x0))] (sl Zp 9 [] ⟨[], [], [some [4]], []⟩ ⟨[], [], []⟩ [] nn))
theorem w5b (x0 : Bool) (x1 : Bool) (n : Nat) (vs : List AVal) (h : Yv (y9v x0 x1) n (y3q x0 x1) = .ret vs) : Jo prog (Zy prog 189) (Zf prog 189 [(.bool x0), (.bool x1)] true []) vs := by
 have := Zo (x5g x0 x1) n _ (y9w x0 x1)
 rwa [h] at this
end Go.Am
namespace Go.Am
theorem Zs {a b : Int} (h : a < b) : decide (a < b) = true := decide_eq_true h
theorem Yz {a b : Int} (h : ¬ a < b) : decide (a < b) = false := decide_eq_false h
theorem Xa {a b : Int} (h : a ≤ b) : decide (a ≤ b) = true := decide_eq_true h
theorem v5i {a b : Int} (h : ¬ a ≤ b) : decide (a ≤ b) = false := decide_eq_false h
theorem Yr {a b : Int} (h : a > b) : decide (a > b) = true := decide_eq_true h
theorem Xk {a b : Int} (h : ¬ a > b) : decide (a > b) = false := decide_eq_false h
theorem w5x {a b : Int} (h : a ≥ b) : decide (a ≥ b) = true := decide_eq_true h
theorem Yq {a b : Nat} (h : a < b) : decide (a < b) = true := decide_eq_true h
theorem Yx {a b : Nat} (h : a ≤ b) : decide (a ≤ b) = true := decide_eq_true h
theorem Yp {a b : Nat} (h : a = b) : decide (a = b) = true := decide_eq_true h
theorem Zt {a b : Int} (h : 0 ≤ a ∧ a < b) : decide (0 ≤ a ∧ a < b) = true := decide_eq_true h
theorem Zh {a : Nat} (h : a ≤ 1099511627776) : decide (a ≤ Jb) = true := decide_eq_true h
theorem Zq {n : Int} (h : -9223372036854775808 ≤ n ∧ n ≤ 9223372036854775807) : IntKind.wrap .i64 n = n := w_in h.1 h.2
theorem z0y : ((0 : Nat) : Int) = 0 := rfl
theorem Zx (i : Nat) : (i : Int) + 1 = ((i + 1 : Nat) : Int) := rfl
theorem Zd (i : Nat) : ((i + 1 : Nat) : Int) - 1 = (i : Int) := by omega
theorem Ks {a b : Int} (h : a ≠ b) : (a != b) = true := by simp [h]
theorem Kt {a b : Int} (h : a = b) : (a != b) = false := by simp [h]
theorem beq_t' {a b : Int} (h : a = b) : (a == b) = true := by simp [h]
theorem beq_f' {a b : Int} (h : a ≠ b) : (a == b) = false := by simp [h]
theorem Ya (n : Nat) : Nat.beq n n = true := Nat.beq_refl n
theorem Zj (n : Nat) : Int.toNat (n : Int) = n := Int.toNat_natCast n
theorem Yg (b : Bool) : b = true ∨ b = false := by cases b <;> simp
theorem Yf {α : Type} [Xy α] {L : List α} {i : Nat} (h : i < L.length) : L.drop i = rd L i :: L.drop (i + 1) := by
 rw [Ww h]; exact List.drop_eq_getElem_cons h
theorem z1m {P : Program} {S : Specs} (hS : Zu P S) {f : FuncId} {F : List AVal → Option (AVal × Bool)} (hf : (P.funcs[f]?).any (fun fn => fn.body.isSome) = true)
  (hF : ∀ args v, F args = some (v, true) → ∃ bs vs, Vx VLe args bs ∧ Kf vs = v ∧ Jo P (Zy P f) (Zf P f bs true []) vs ∧ ∃ d, pf d v = true) : Zu P (S.with f F) := x3d hS hf hF
end Go.Am
namespace Go.Am
open Go.Proofs
def y8y (out : List Int) (x : Int) : Nat → Nat
 | 0 => 0
 | k + 1 => bif decide (rd out k > x) then y8y out x k else k + 1
def z9v (out : List Int) (x : Int) : List Int :=
 match y8y out x out.length with
 | 0 => x :: out
 | k + 1 => bif rd out k == x then out else out.take (k + 1) ++ x :: out.drop (k + 1)
def z0l (l : List Int) : List Int := l.foldl z9v []
def Je (l : List Int) : Bool := decide (l.length ≤ 100000)
theorem z9u (out : List Int) (x : Int) : (z9v out x).length ≤ out.length + 1 := by
 unfold z9v
 split
 ·simp
 ·rename_i k _
  cases (rd out k == x) <;> simp <;> omega
theorem y6g (out : List Int) (x : Int) (k : Nat) (hk : k ≤ out.length) :
  (y1e (out ++ [0]) (k + 1) (Nat.min (out.length + 1 - k) (out.length + 1 - (k + 1))) (Ke (out ++ [0]) k (out.length + 1 - k))).set k x = out.take k ++ x :: out.drop k := by
 have hm : Nat.min (out.length + 1 - k) (out.length + 1 - (k + 1)) = out.length - k := by
  show min _ _ = _
  omega
 rw [hm]
 apply List.ext_getElem
 ·simp [Uj]; omega
 ·intro i h1 h2
  have hi : i < out.length + 1 := by simpa [Uj] using h1
  rw [← Ww h1, ← Ww h2]
  rw [w8h (by simpa [Uj] using hi)]
  by_cases e : i = k
  ·subst e
   rw [if_pos rfl, Vo (by simp only [List.length_take]; omega), Ww (by simp; omega)]
   simp [Nat.min_eq_left hk]
  ·rw [if_neg e, x8i (by simpa using hi)]
   by_cases h : i < k
   ·rw [w6s (show ¬ k + 1 ≤ i by omega), Bool.false_and, cond_false, Ux (by omega), Ux (by simp; omega)]
    rw [Ww (by omega), Ww (by simp; omega), List.getElem_take]
   ·rw [w1c (show k + 1 ≤ i by omega), w1c (show i + 1 ≤ k + 1 + (out.length - k) by omega), Bool.true_and, cond_true, y3c (by omega), Ux (by omega)]
    rw [Vo (by simp; omega), Ww (by omega), Ww (by simp; omega)]
    obtain ⟨j, rfl⟩ : ∃ j, i = k + 1 + j := ⟨i - k - 1, by omega⟩
    simp only [List.length_take, Nat.min_eq_left hk]
    rw [List.getElem_cons, dif_neg (by omega), List.getElem_drop]
    congr 1
theorem x1p (l : List Int) (out : List Int) (i : Nat) (hi : i < l.length) (hl : l.length ≤ 100000) (ho : out.length ≤ i) : ∀ (k N : Nat), k ≤ out.length →
  (y8y out (rd l i) out.length = y8y out (rd l i) k) → ∃ m, ∀ N, Yv (Vg l) (N + m) (.to (.h1 out (i : Int) (k : Int))) = Yv (Vg l) N (.to (.h0 (z9v out (rd l i)) ((i + 1 : Nat) : Int)))
 | 0, N, hk, hp => by
  refine ⟨1, fun N => ?_⟩
  have hins : z9v out (rd l i) = (y1e (out ++ [0]) (0 + 1) (Nat.min (out.length + 1 - 0) (out.length + 1 - (0 + 1))) (Ke (out ++ [0]) 0 (out.length + 1 - 0))).set 0 (rd l i) := by
   rw [y6g out _ 0 (Nat.zero_le _)]
   unfold z9v
   rw [hp]; rfl
  rw [hins, Zv]
  simp (disch := omega) only [Vg, Zh, decide_true, Xk, Zs, Xa, Yq, Yx, Yp, Zt, Zq, Zx, Ya, Zj, Nat.zero_add, Bool.and_true, Bool.true_and, cond_true, cond_false]
 | k + 1, N, hk, hp => by
  rcases Yg (decide (rd out k > rd l i)) with h | h
  ·have hp' : y8y out (rd l i) out.length = y8y out (rd l i) k := by rw [hp]; conv => lhs; unfold y8y; rw [h, cond_true]
   obtain ⟨m, hm⟩ := x1p l out i hi hl ho k N (by omega) hp'
   refine ⟨m + 1, fun N => ?_⟩
   rw [← hm N, ← Nat.add_assoc, Zv]
   simp (disch := omega) only [Vg, Zd, h, Zh, decide_true, Yr, Zs, Xa, Yq, Yx, Yp, Zt, Zq, Zx, Ya, Zj, Nat.zero_add, Bool.and_true, Bool.true_and, cond_true, cond_false]
  ·have hpk : y8y out (rd l i) out.length = k + 1 := by rw [hp]; unfold y8y; rw [h]; rfl
   refine ⟨1, fun N => ?_⟩
   rw [Zv]
   rcases Yg (rd out k == rd l i) with q | q
   ·have hins : z9v out (rd l i) = out := by unfold z9v; rw [hpk]; simp only [q, cond_true]
    rw [hins]
    simp (disch := omega) only [Vg, Zd, h, q, Zh, decide_true, Yr, Zs, Xa, Yq, Yx, Yp, Zt, Zq, Zx, Ya, Zj, Nat.zero_add, Bool.and_true, Bool.true_and, cond_true, cond_false]
   ·have hins : z9v out (rd l i) = (y1e (out ++ [0]) (k + 1 + 1) (Nat.min (out.length + 1 - (k + 1)) (out.length + 1 - (k + 1 + 1))) (Ke (out ++ [0]) (k + 1) (out.length + 1 - (k + 1)))).set (k + 1) (rd l i) := by
     rw [y6g out _ (k + 1) hk]
     unfold z9v
     rw [hpk]; simp only [q, cond_false]
    rw [hins]
    simp (disch := omega) only [Vg, Zd, h, q, Zh, decide_true, Yr, Zs, Xa, Yq, Yx, Yp, Zt, Zq, Zx, Ya, Zj, Nat.zero_add, Bool.and_true, Bool.true_and, cond_true, cond_false]
theorem x1q (l : List Int) (hl : l.length ≤ 100000) : ∀ (k i : Nat) (out : List Int), i + k = l.length → out.length ≤ i → ∃ m, Yv (Vg l) m (.to (.h0 out (i : Int))) = .ret [.dat ((l.drop i).foldl z9v out).length (Zz ((l.drop i).foldl z9v out))]
 | 0, i, out, h, ho => by
  refine ⟨1, ?_⟩
  rw [Zv]
  simp (disch := omega) only [Vg, Yz, cond_false]
  rw [List.drop_eq_nil_of_le (by omega)]; rfl
 | k + 1, i, out, h, ho => by
  obtain ⟨m1, h1⟩ := x1p l out i (by omega) hl ho out.length 0 (Nat.le_refl _) rfl
  obtain ⟨m2, h2⟩ := x1q l hl k (i + 1) (z9v out (rd l i)) (by omega) (Nat.le_trans (z9u _ _) (by omega))
  refine ⟨m2 + m1 + 1, ?_⟩
  rw [Zv]
  simp (disch := omega) only [Vg, Zs, cond_true]
  rw [h1 m2, h2, Yf (show i < l.length by omega)]; rfl
theorem x7n (l : List Int) (h : Je l = true) : ∃ N, Yv (Vg l) N (z2e l) = .ret [.dat (z0l l).length (Zz (z0l l))] := by
 have := x1q l (of_decide_eq_true h) l.length 0 [] (by omega) (Nat.le_refl _)
 simpa [z2e, z0l] using this
end Go.Am
namespace Go.Am
open Go.Proofs
theorem Zn (n : Nat) : Int.toNat ((n : Int) - 1) = n - 1 := by omega
theorem w3p (x y : R2) : ((x.a == y.a) && (x.b == y.b)) = decide (x = y) := by
 obtain ⟨a, b⟩ := x; obtain ⟨c, d⟩ := y
 rw [Bool.eq_iff_iff]; simp
theorem w3o (x y : R4) : ((x.a == y.a) && ((x.b == y.b) && ((x.c == y.c) && (x.d == y.d)))) = decide (x = y) := by
 obtain ⟨a, b, c, d⟩ := x; obtain ⟨e, f, g, h⟩ := y
 rw [Bool.eq_iff_iff]; simp
theorem w3n (x y : R6) : (((x.a == y.a) && ((x.b == y.b) && (x.c == y.c))) && ((x.d == y.d) && ((x.e == y.e) && (x.f == y.f)))) = decide (x = y) := by
 obtain ⟨a, b, c, d, e, f⟩ := x; obtain ⟨a', b', c', d', e', f'⟩ := y
 rw [Bool.eq_iff_iff]; simp [and_assoc]
def Jf (l m : List R2) : Bool := decide (l = m)
def Ua (l m : List R4) : Bool := decide (l = m)
def Jw (l m : List R6) : Bool := decide (l = m)
def Vq (l m : List R2) : Bool := decide (l.length ≤ 1000000)
def Wc (l m : List R4) : Bool := decide (l.length ≤ 1000000)
def Vk (l m : List R6) : Bool := decide (l.length ≤ 1000000)
theorem z2q {α : Type} [DecidableEq α] (x y : α) (l m : List α) : decide (x :: l = y :: m) = (decide (x = y) && decide (l = m)) := by
 rw [← Bool.decide_and]; congr 1; simp
theorem w7t (l m : List R2) (hl : l.length ≤ 1000000) (hm : l.length = m.length) : ∀ (k i : Nat), i + k = l.length → ∃ N, Yv (z3j l m) N (.to (.h0 (i : Int))) = .ret [.bool (decide (l.drop i = m.drop i))]
 | 0, i, h => by
  refine ⟨1, ?_⟩
  rw [Zv, List.drop_eq_nil_of_le (show l.length ≤ i by omega), List.drop_eq_nil_of_le (show m.length ≤ i by omega)]
  simp (disch := omega) only [z3j, Xk, Yr, Zs, Yz, Xa, Yq, Yx, Yp, Zt, Zq, Zh, Ks, Kt, decide_true, Zx, Zd, Zn, Ya, Zj, Nat.zero_add, Bool.and_true, Bool.true_and, cond_true, cond_false, Bool.not_true, Bool.not_false, Zm]
 | k + 1, i, h => by
  obtain ⟨N, hN⟩ := w7t l m hl hm k (i + 1) (by omega)
  refine ⟨N + 1, ?_⟩
  rw [Zv, Yf (show i < l.length by omega), Yf (show i < m.length by omega), z2q]
  rcases Yg (decide (rd l i = rd m i)) with q | q
  ·simp (disch := omega) only [z3j, w3p, q, Xk, Yr, Zs, Yz, Xa, Yq, Yx, Yp, Zt, Zq, Zh, Ks, Kt, decide_true, Zx, Zd, Zn, Ya, Zj, Nat.zero_add, Bool.and_true, Bool.true_and, cond_true, cond_false, Bool.not_true, Bool.not_false, Zm]
   exact hN
  ·simp (disch := omega) only [z3j, w3p, q, Xk, Yr, Zs, Yz, Xa, Yq, Yx, Yp, Zt, Zq, Zh, Ks, Kt, decide_true, Zx, Zd, Zn, Ya, Zj, Nat.zero_add, Bool.and_true, Bool.true_and, cond_true, cond_false, Bool.not_true, Bool.not_false, Zm, Bool.false_and]
theorem v1q (l m : List R2) (h : Vq l m = true) : ∃ N, Yv (z3j l m) N (z4c l m) = .ret [.bool (Jf l m)] := by
 have hl : l.length ≤ 1000000 := of_decide_eq_true h
 by_cases hm : l.length = m.length
 ·obtain ⟨N, hN⟩ := w7t l m hl hm l.length 0 (Nat.zero_add _)
  refine ⟨N, ?_⟩
  unfold z4c
  rw [Kt (show (l.length : Int) = (m.length : Nat) by omega)]
  exact hN
 ·refine ⟨0, ?_⟩
  unfold z4c
  rw [Ks (show (l.length : Int) ≠ (m.length : Nat) by omega)]
  have : Jf l m = false := decide_eq_false fun e => hm (by rw [e])
  rw [this]; rfl
theorem w7s (l m : List R4) (hl : l.length ≤ 1000000) (hm : l.length = m.length) : ∀ (k i : Nat), i + k = l.length → ∃ N, Yv (z3i l m) N (.to (.h0 (i : Int))) = .ret [.bool (decide (l.drop i = m.drop i))]
 | 0, i, h => by
  refine ⟨1, ?_⟩
  rw [Zv, List.drop_eq_nil_of_le (show l.length ≤ i by omega), List.drop_eq_nil_of_le (show m.length ≤ i by omega)]
  simp (disch := omega) only [z3i, Xk, Yr, Zs, Yz, Xa, Yq, Yx, Yp, Zt, Zq, Zh, Ks, Kt, decide_true, Zx, Zd, Zn, Ya, Zj, Nat.zero_add, Bool.and_true, Bool.true_and, cond_true, cond_false, Bool.not_true, Bool.not_false, Zm]
 | k + 1, i, h => by
  obtain ⟨N, hN⟩ := w7s l m hl hm k (i + 1) (by omega)
  refine ⟨N + 1, ?_⟩
  rw [Zv, Yf (show i < l.length by omega), Yf (show i < m.length by omega), z2q]
  rcases Yg (decide (rd l i = rd m i)) with q | q
  ·simp (disch := omega) only [z3i, w3o, q, Xk, Yr, Zs, Yz, Xa, Yq, Yx, Yp, Zt, Zq, Zh, Ks, Kt, decide_true, Zx, Zd, Zn, Ya, Zj, Nat.zero_add, Bool.and_true, Bool.true_and, cond_true, cond_false, Bool.not_true, Bool.not_false, Zm]
   exact hN
  ·simp (disch := omega) only [z3i, w3o, q, Xk, Yr, Zs, Yz, Xa, Yq, Yx, Yp, Zt, Zq, Zh, Ks, Kt, decide_true, Zx, Zd, Zn, Ya, Zj, Nat.zero_add, Bool.and_true, Bool.true_and, cond_true, cond_false, Bool.not_true, Bool.not_false, Zm, Bool.false_and]
theorem v1p (l m : List R4) (h : Wc l m = true) : ∃ N, Yv (z3i l m) N (z4b l m) = .ret [.bool (Ua l m)] := by
 have hl : l.length ≤ 1000000 := of_decide_eq_true h
 by_cases hm : l.length = m.length
 ·obtain ⟨N, hN⟩ := w7s l m hl hm l.length 0 (Nat.zero_add _)
  refine ⟨N, ?_⟩
  unfold z4b
  rw [Kt (show (l.length : Int) = (m.length : Nat) by omega)]
  exact hN
 ·refine ⟨0, ?_⟩
  unfold z4b
  rw [Ks (show (l.length : Int) ≠ (m.length : Nat) by omega)]
  have : Ua l m = false := decide_eq_false fun e => hm (by rw [e])
  rw [this]; rfl
theorem w7u (l m : List R6) (hl : l.length ≤ 1000000) (hm : l.length = m.length) : ∀ (k i : Nat), i + k = l.length → ∃ N, Yv (z3k l m) N (.to (.h0 (i : Int))) = .ret [.bool (decide (l.drop i = m.drop i))]
 | 0, i, h => by
  refine ⟨1, ?_⟩
  rw [Zv, List.drop_eq_nil_of_le (show l.length ≤ i by omega), List.drop_eq_nil_of_le (show m.length ≤ i by omega)]
  simp (disch := omega) only [z3k, Xk, Yr, Zs, Yz, Xa, Yq, Yx, Yp, Zt, Zq, Zh, Ks, Kt, decide_true, Zx, Zd, Zn, Ya, Zj, Nat.zero_add, Bool.and_true, Bool.true_and, cond_true, cond_false, Bool.not_true, Bool.not_false, Zm]
 | k + 1, i, h => by
  obtain ⟨N, hN⟩ := w7u l m hl hm k (i + 1) (by omega)
  refine ⟨N + 1, ?_⟩
  rw [Zv, Yf (show i < l.length by omega), Yf (show i < m.length by omega), z2q]
  rcases Yg (decide (rd l i = rd m i)) with q | q
  ·simp (disch := omega) only [z3k, w3n, q, Xk, Yr, Zs, Yz, Xa, Yq, Yx, Yp, Zt, Zq, Zh, Ks, Kt, decide_true, Zx, Zd, Zn, Ya, Zj, Nat.zero_add, Bool.and_true, Bool.true_and, cond_true, cond_false, Bool.not_true, Bool.not_false, Zm]
   exact hN
  ·simp (disch := omega) only [z3k, w3n, q, Xk, Yr, Zs, Yz, Xa, Yq, Yx, Yp, Zt, Zq, Zh, Ks, Kt, decide_true, Zx, Zd, Zn, Ya, Zj, Nat.zero_add, Bool.and_true, Bool.true_and, cond_true, cond_false, Bool.not_true, Bool.not_false, Zm, Bool.false_and]
theorem v1r (l m : List R6) (h : Vk l m = true) : ∃ N, Yv (z3k l m) N (z4d l m) = .ret [.bool (Jw l m)] := by
 have hl : l.length ≤ 1000000 := of_decide_eq_true h
 by_cases hm : l.length = m.length
 ·obtain ⟨N, hN⟩ := w7u l m hl hm l.length 0 (Nat.zero_add _)
  refine ⟨N, ?_⟩
  unfold z4d
  rw [Kt (show (l.length : Int) = (m.length : Nat) by omega)]
  exact hN
 ·refine ⟨0, ?_⟩
  unfold z4d
  rw [Ks (show (l.length : Int) ≠ (m.length : Nat) by omega)]
  have : Jw l m = false := decide_eq_false fun e => hm (by rw [e])
  rw [this]; rfl
theorem w9z (l m : List R2) (hl : l.length ≤ 1000000) (hm : l.length = m.length) : ∀ (k i : Nat), i + k = l.length → ∃ N, Yv (z3s l m) N (.to (.h0 (i : Int))) = .ret [.bool (decide (l.drop i = m.drop i))]
 | 0, i, h => by
  refine ⟨1, ?_⟩
  rw [Zv, List.drop_eq_nil_of_le (show l.length ≤ i by omega), List.drop_eq_nil_of_le (show m.length ≤ i by omega)]
  simp (disch := omega) only [z3s, Xk, Yr, Zs, Yz, Xa, Yq, Yx, Yp, Zt, Zq, Zh, Ks, Kt, decide_true, Zx, Zd, Zn, Ya, Zj, Nat.zero_add, Bool.and_true, Bool.true_and, cond_true, cond_false, Bool.not_true, Bool.not_false, Zm]
 | k + 1, i, h => by
  obtain ⟨N, hN⟩ := w9z l m hl hm k (i + 1) (by omega)
  refine ⟨N + 1, ?_⟩
  rw [Zv, Yf (show i < l.length by omega), Yf (show i < m.length by omega), z2q]
  rcases Yg (decide (rd l i = rd m i)) with q | q
  ·simp (disch := omega) only [z3s, w3p, q, Xk, Yr, Zs, Yz, Xa, Yq, Yx, Yp, Zt, Zq, Zh, Ks, Kt, decide_true, Zx, Zd, Zn, Ya, Zj, Nat.zero_add, Bool.and_true, Bool.true_and, cond_true, cond_false, Bool.not_true, Bool.not_false, Zm]
   exact hN
  ·simp (disch := omega) only [z3s, w3p, q, Xk, Yr, Zs, Yz, Xa, Yq, Yx, Yp, Zt, Zq, Zh, Ks, Kt, decide_true, Zx, Zd, Zn, Ya, Zj, Nat.zero_add, Bool.and_true, Bool.true_and, cond_true, cond_false, Bool.not_true, Bool.not_false, Zm, Bool.false_and]
theorem v5b (l m : List R2) (h : Vq l m = true) : ∃ N, Yv (z3s l m) N (z5a l m) = .ret [.bool (Jf l m)] := by
 have hl : l.length ≤ 1000000 := of_decide_eq_true h
 by_cases hm : l.length = m.length
 ·obtain ⟨N, hN⟩ := w9z l m hl hm l.length 0 (Nat.zero_add _)
  refine ⟨N, ?_⟩
  unfold z5a
  rw [Kt (show (l.length : Int) = (m.length : Nat) by omega)]
  exact hN
 ·refine ⟨0, ?_⟩
  unfold z5a
  rw [Ks (show (l.length : Int) ≠ (m.length : Nat) by omega)]
  have : Jf l m = false := decide_eq_false fun e => hm (by rw [e])
  rw [this]; rfl
theorem w9y (l m : List R4) (hl : l.length ≤ 1000000) (hm : l.length = m.length) : ∀ (k i : Nat), i + k = l.length → ∃ N, Yv (z3r l m) N (.to (.h0 (i : Int))) = .ret [.bool (decide (l.drop i = m.drop i))]
 | 0, i, h => by
  refine ⟨1, ?_⟩
  rw [Zv, List.drop_eq_nil_of_le (show l.length ≤ i by omega), List.drop_eq_nil_of_le (show m.length ≤ i by omega)]
  simp (disch := omega) only [z3r, Xk, Yr, Zs, Yz, Xa, Yq, Yx, Yp, Zt, Zq, Zh, Ks, Kt, decide_true, Zx, Zd, Zn, Ya, Zj, Nat.zero_add, Bool.and_true, Bool.true_and, cond_true, cond_false, Bool.not_true, Bool.not_false, Zm]
 | k + 1, i, h => by
  obtain ⟨N, hN⟩ := w9y l m hl hm k (i + 1) (by omega)
  refine ⟨N + 1, ?_⟩
  rw [Zv, Yf (show i < l.length by omega), Yf (show i < m.length by omega), z2q]
  rcases Yg (decide (rd l i = rd m i)) with q | q
  ·simp (disch := omega) only [z3r, w3o, q, Xk, Yr, Zs, Yz, Xa, Yq, Yx, Yp, Zt, Zq, Zh, Ks, Kt, decide_true, Zx, Zd, Zn, Ya, Zj, Nat.zero_add, Bool.and_true, Bool.true_and, cond_true, cond_false, Bool.not_true, Bool.not_false, Zm]
   exact hN
  ·simp (disch := omega) only [z3r, w3o, q, Xk, Yr, Zs, Yz, Xa, Yq, Yx, Yp, Zt, Zq, Zh, Ks, Kt, decide_true, Zx, Zd, Zn, Ya, Zj, Nat.zero_add, Bool.and_true, Bool.true_and, cond_true, cond_false, Bool.not_true, Bool.not_false, Zm, Bool.false_and]
theorem v5a (l m : List R4) (h : Wc l m = true) : ∃ N, Yv (z3r l m) N (z4z l m) = .ret [.bool (Ua l m)] := by
 have hl : l.length ≤ 1000000 := of_decide_eq_true h
 by_cases hm : l.length = m.length
 ·obtain ⟨N, hN⟩ := w9y l m hl hm l.length 0 (Nat.zero_add _)
  refine ⟨N, ?_⟩
  unfold z4z
  rw [Kt (show (l.length : Int) = (m.length : Nat) by omega)]
  exact hN
 ·refine ⟨0, ?_⟩
  unfold z4z
  rw [Ks (show (l.length : Int) ≠ (m.length : Nat) by omega)]
  have : Ua l m = false := decide_eq_false fun e => hm (by rw [e])
  rw [this]; rfl
theorem w9x (l m : List R6) (hl : l.length ≤ 1000000) (hm : l.length = m.length) : ∀ (k i : Nat), i + k = l.length → ∃ N, Yv (z3q l m) N (.to (.h0 (i : Int))) = .ret [.bool (decide (l.drop i = m.drop i))]
 | 0, i, h => by
  refine ⟨1, ?_⟩
  rw [Zv, List.drop_eq_nil_of_le (show l.length ≤ i by omega), List.drop_eq_nil_of_le (show m.length ≤ i by omega)]
  simp (disch := omega) only [z3q, Xk, Yr, Zs, Yz, Xa, Yq, Yx, Yp, Zt, Zq, Zh, Ks, Kt, decide_true, Zx, Zd, Zn, Ya, Zj, Nat.zero_add, Bool.and_true, Bool.true_and, cond_true, cond_false, Bool.not_true, Bool.not_false, Zm]
 | k + 1, i, h => by
  obtain ⟨N, hN⟩ := w9x l m hl hm k (i + 1) (by omega)
  refine ⟨N + 1, ?_⟩
  rw [Zv, Yf (show i < l.length by omega), Yf (show i < m.length by omega), z2q]
  rcases Yg (decide (rd l i = rd m i)) with q | q
  ·simp (disch := omega) only [z3q, w3n, q, Xk, Yr, Zs, Yz, Xa, Yq, Yx, Yp, Zt, Zq, Zh, Ks, Kt, decide_true, Zx, Zd, Zn, Ya, Zj, Nat.zero_add, Bool.and_true, Bool.true_and, cond_true, cond_false, Bool.not_true, Bool.not_false, Zm]
   exact hN
  ·simp (disch := omega) only [z3q, w3n, q, Xk, Yr, Zs, Yz, Xa, Yq, Yx, Yp, Zt, Zq, Zh, Ks, Kt, decide_true, Zx, Zd, Zn, Ya, Zj, Nat.zero_add, Bool.and_true, Bool.true_and, cond_true, cond_false, Bool.not_true, Bool.not_false, Zm, Bool.false_and]
theorem v4z (l m : List R6) (h : Vk l m = true) : ∃ N, Yv (z3q l m) N (z4y l m) = .ret [.bool (Jw l m)] := by
 have hl : l.length ≤ 1000000 := of_decide_eq_true h
 by_cases hm : l.length = m.length
 ·obtain ⟨N, hN⟩ := w9x l m hl hm l.length 0 (Nat.zero_add _)
  refine ⟨N, ?_⟩
  unfold z4y
  rw [Kt (show (l.length : Int) = (m.length : Nat) by omega)]
  exact hN
 ·refine ⟨0, ?_⟩
  unfold z4y
  rw [Ks (show (l.length : Int) ≠ (m.length : Nat) by omega)]
  have : Jw l m = false := decide_eq_false fun e => hm (by rw [e])
  rw [this]; rfl
def in4 (x y : Int) (r : R4) : Bool := decide (r.a ≤ x) && (decide (x < r.c) && (decide (r.b ≤ y) && decide (y < r.d)))
def has4V (l : List R4) (x y : Int) : Bool := l.any (in4 x y)
def Ka (l : List R4) (x y : Int) : Bool := decide (l.length ≤ 1000000)
theorem x8a (l : List R4) (x y : Int) (hl : l.length ≤ 1000000) : ∀ (k i : Nat), i + k = l.length → ∃ N, Yv (z2h l x y) N (.to (.h0 (i : Int))) = .ret [.bool ((l.drop i).any (in4 x y))]
 | 0, i, h => by
  refine ⟨1, ?_⟩
  rw [Zv, List.drop_eq_nil_of_le (show l.length ≤ i by omega)]
  simp (disch := omega) only [z2h, Xk, Yr, Zs, Yz, Xa, Yq, Yx, Yp, Zt, Zq, Zh, Ks, Kt, decide_true, Zx, Zd, Zn, Ya, Zj, Nat.zero_add, Bool.and_true, Bool.true_and, cond_true, cond_false, Bool.not_true, Bool.not_false, Zm]
  rfl
 | k + 1, i, h => by
  obtain ⟨N, hN⟩ := x8a l x y hl k (i + 1) (by omega)
  refine ⟨N + 1, ?_⟩
  rw [Zv, Yf (show i < l.length by omega), List.any_cons]
  unfold in4 at hN ⊢
  rcases Yg (decide ((rd l i).a ≤ x)) with q1 | q1 <;> rcases Yg (decide (x < (rd l i).c)) with q2 | q2 <;> rcases Yg (decide ((rd l i).b ≤ y)) with q3 | q3 <;> rcases Yg (decide (y < (rd l i).d)) with q4 | q4 <;>
   simp (disch := omega) only [z2h, q1, q2, q3, q4, Xk, Yr, Zs, Yz, Xa, Yq, Yx, Yp, Zt, Zq, Zh, Ks, Kt, decide_true, Zx, Zd, Zn, Ya, Zj, Nat.zero_add, Bool.and_true, Bool.true_and, cond_true, cond_false, Bool.not_true, Bool.not_false, Zm, Bool.false_and, Bool.and_false, Bool.false_or, Bool.true_or] <;> exact hN
theorem w3a (l : List R4) (x y : Int) (h : Ka l x y = true) : ∃ N, Yv (z2h l x y) N (z4h l x y) = .ret [.bool (has4V l x y)] := by
 have := x8a l x y (of_decide_eq_true h) l.length 0 (Nat.zero_add _)
 simpa [z4h, has4V] using this
def on6 (z : Int) (b : R6) : Bool := decide (b.c ≤ z) && decide (z < b.f)
def v3r (b : R6) : R4 := ⟨b.a, b.b, b.d, b.e⟩
def atV (l : List R6) (z : Int) : List R4 := (l.filter (on6 z)).map v3r
def z2t (l : List R6) (z : Int) : Bool := decide (l.length ≤ 1000000)
theorem x8t (l : List R6) (z : Int) (hl : l.length ≤ 1000000) : ∀ (k i : Nat) (out : List R4), i + k = l.length → out.length ≤ i → ∃ N, Yv (z3m l z) N (.to (.h0 out (i : Int))) = .ret [.dat (out ++ atV (l.drop i) z).length (Zz (out ++ atV (l.drop i) z))]
 | 0, i, out, h, ho => by
  refine ⟨1, ?_⟩
  rw [Zv, List.drop_eq_nil_of_le (show l.length ≤ i by omega)]
  simp (disch := omega) only [z3m, Xk, Yr, Zs, Yz, Xa, Yq, Yx, Yp, Zt, Zq, Zh, Ks, Kt, decide_true, Zx, Zd, Zn, Ya, Zj, Nat.zero_add, Bool.and_true, Bool.true_and, cond_true, cond_false, Bool.not_true, Bool.not_false, Zm, atV, List.filter_nil, List.map_nil, List.append_nil]
 | k + 1, i, out, h, ho => by
  rw [Yf (show i < l.length by omega)]
  have e : atV (rd l i :: l.drop (i + 1)) z = (bif on6 z (rd l i) then [v3r (rd l i)] else []) ++ atV (l.drop (i + 1)) z := by
   unfold atV; rw [List.filter_cons]; cases on6 z (rd l i) <;> rfl
  rw [e, ← List.append_assoc]
  rcases Yg (decide ((rd l i).c ≤ z)) with q1 | q1 <;> rcases Yg (decide (z < (rd l i).f)) with q2 | q2
  ·obtain ⟨N, hN⟩ := x8t l z hl k (i + 1) (out ++ [v3r (rd l i)]) (by omega) (by simp; omega)
   refine ⟨N + 1, ?_⟩
   rw [Zv]
   simp (disch := omega) only [z3m, q1, q2, on6, Xk, Yr, Zs, Yz, Xa, Yq, Yx, Yp, Zt, Zq, Zh, Ks, Kt, decide_true, Zx, Zd, Zn, Ya, Zj, Nat.zero_add, Bool.and_true, Bool.true_and, cond_true, cond_false, Bool.not_true, Bool.not_false, Zm]
   exact hN
  all_goals
   obtain ⟨N, hN⟩ := x8t l z hl k (i + 1) out (by omega) (by omega)
   refine ⟨N + 1, ?_⟩
   rw [Zv]
   simp (disch := omega) only [z3m, q1, q2, on6, Xk, Yr, Zs, Yz, Xa, Yq, Yx, Yp, Zt, Zq, Zh, Ks, Kt, decide_true, Zx, Zd, Zn, Ya, Zj, Nat.zero_add, Bool.and_true, Bool.true_and, cond_true, cond_false, Bool.not_true, Bool.not_false, Zm, Bool.false_and, Bool.and_false, List.append_nil]
   exact hN
theorem v2l (l : List R6) (z : Int) (h : z2t l z = true) : ∃ N, Yv (z3m l z) N (z8d l z) = .ret [.dat (atV l z).length (Zz (atV l z))] := by
 have := x8t l z (of_decide_eq_true h) l.length 0 [] (Nat.zero_add _) (Nat.le_refl _)
 simpa [z8d] using this
def x6n (cuts : List Int) (ins : List Bool) : Nat → Nat → List R2 → List R2
 | 0, _, out => out
 | k + 1, i, out => x6n cuts ins k (i + 1) (bif rd ins i then (bif decide (0 < out.length) && ((rd out (out.length - 1)).b == rd cuts i) then out.set (out.length - 1) ⟨(rd out (out.length - 1)).a, rd cuts (i + 1)⟩ else out ++ [⟨rd cuts i, rd cuts (i + 1)⟩]) else out)
def z7f (cuts : List Int) (ins : List Bool) : List R2 := x6n cuts ins (cuts.length - 1) 0 []
def z5j (cuts : List Int) (ins : List Bool) : Bool := decide (cuts.length ≤ 1000000 ∧ cuts.length ≤ ins.length + 1)
theorem y3f (cuts : List Int) (ins : List Bool) (hl : cuts.length ≤ 1000000) (hi : cuts.length ≤ ins.length + 1) : ∀ (k i : Nat) (out : List R2), k = cuts.length - 1 - i → i ≤ cuts.length → out.length ≤ i → ∃ N, Yv (Kw cuts ins) N (.to (.h0 out (i : Int))) = .ret [.dat (x6n cuts ins k i out).length (Zz (x6n cuts ins k i out))]
 | 0, i, out, h, hi2, ho => by
  refine ⟨1, ?_⟩
  rw [Zv]
  simp (disch := omega) only [Kw, Xk, Yr, Zs, Yz, Xa, Yq, Yx, Yp, Zt, Zq, Zh, Ks, Kt, decide_true, Zx, Zd, Zn, Ya, Zj, Nat.zero_add, Bool.and_true, Bool.true_and, cond_true, cond_false, Bool.not_true, Bool.not_false, Zm, x6n]
 | k + 1, i, out, h, hi2, ho => by
  unfold x6n
  rcases Yg (rd ins i) with q | q
  ·rcases Yg (decide (0 < out.length) && ((rd out (out.length - 1)).b == rd cuts i)) with q2 | q2
   ·obtain ⟨N, hN⟩ := y3f cuts ins hl hi k (i + 1) (out.set (out.length - 1) ⟨(rd out (out.length - 1)).a, rd cuts (i + 1)⟩) (by omega) (by omega) (by simp; omega)
    refine ⟨N + 1, ?_⟩
    rw [Zv, q, q2]
    simp only [Bool.and_eq_true, decide_eq_true_eq] at q2
    simp (disch := omega) only [Kw, q, q2.2, Xk, Yr, Zs, Yz, Xa, Yq, Yx, Yp, Zt, Zq, Zh, Ks, Kt, decide_true, Zx, Zd, Zn, Ya, Zj, Nat.zero_add, Bool.and_true, Bool.true_and, cond_true, cond_false, Bool.not_true, Bool.not_false, Zm]
    exact hN
   ·obtain ⟨N, hN⟩ := y3f cuts ins hl hi k (i + 1) (out ++ [⟨rd cuts i, rd cuts (i + 1)⟩]) (by omega) (by omega) (by simp; omega)
    refine ⟨N + 1, ?_⟩
    rw [Zv, q, q2]
    by_cases h0 : 0 < out.length
    ·rw [decide_eq_true h0, Bool.true_and] at q2
     simp (disch := omega) only [Kw, q, q2, Xk, Yr, Zs, Yz, Xa, Yq, Yx, Yp, Zt, Zq, Zh, Ks, Kt, decide_true, Zx, Zd, Zn, Ya, Zj, Nat.zero_add, Bool.and_true, Bool.true_and, cond_true, cond_false, Bool.not_true, Bool.not_false, Zm]
     exact hN
    ·simp (disch := omega) only [Kw, q, Xk, Yr, Zs, Yz, Xa, Yq, Yx, Yp, Zt, Zq, Zh, Ks, Kt, decide_true, Zx, Zd, Zn, Ya, Zj, Nat.zero_add, Bool.and_true, Bool.true_and, cond_true, cond_false, Bool.not_true, Bool.not_false, Zm]
     exact hN
  ·obtain ⟨N, hN⟩ := y3f cuts ins hl hi k (i + 1) out (by omega) (by omega) (by omega)
   refine ⟨N + 1, ?_⟩
   rw [Zv, q]
   simp (disch := omega) only [Kw, q, Xk, Yr, Zs, Yz, Xa, Yq, Yx, Yp, Zt, Zq, Zh, Ks, Kt, decide_true, Zx, Zd, Zn, Ya, Zj, Nat.zero_add, Bool.and_true, Bool.true_and, cond_true, cond_false, Bool.not_true, Bool.not_false, Zm]
   exact hN
theorem w3j (cuts : List Int) (ins : List Bool) (h : z5j cuts ins = true) : ∃ N, Yv (Kw cuts ins) N (z4m cuts ins) = .ret [.dat (z7f cuts ins).length (Zz (z7f cuts ins))] := by
 obtain ⟨h1, h2⟩ := of_decide_eq_true h
 have := y3f cuts ins h1 h2 (cuts.length - 1) 0 [] (by omega) (Nat.zero_le _) (Nat.le_refl _)
 simpa [z4m, z7f] using this
end Go.Am
namespace Go.Am
abbrev x9g : Nat := 133
abbrev w9e : Nat := 139
abbrev w8w : Nat := 140
abbrev w9a : Nat := 137
abbrev nHas4 : Nat := 138
abbrev w8v : Nat := 117
abbrev nXs : Nat := 135
abbrev nYs : Nat := 136
abbrev w8z : Nat := 115
abbrev w8u : Nat := 40
abbrev nAt : Nat := 116
abbrev nCuts : Nat := 114
abbrev w8y : Nat := 79
abbrev x9j : Nat := 64
abbrev nEq2 : Nat := 123
abbrev nEq4 : Nat := 82
abbrev nEq6 : Nat := 109
abbrev w8t : Nat := 192
abbrev x2e : Nat := 193
abbrev nSort : Nat := 119
abbrev x2g : Nat := 120
abbrev nFst : Nat := 189
abbrev y5u : Nat := 174
abbrev x2c : Nat := 130
abbrev x9i : Nat := 154
abbrev x2b : Nat := 153
abbrev x2a : Nat := 107
-- not there: gambrel/solid.contact
abbrev y5v : Nat := 72
abbrev x9h : Nat := 77
-- not there: gambrel/solid.Volume
abbrev z8f : Nat := 95
abbrev x2f : Nat := 57
abbrev x9n : Nat := 16
abbrev w9d : Nat := 18
abbrev x9o : Nat := 34
abbrev x9q : Nat := 36
abbrev w9c : Nat := 38
abbrev x9p : Nat := 31
abbrev nDown : Nat := 75
abbrev x9r : Nat := 122
abbrev w8x : Nat := 81
abbrev nFull : Nat := 143
abbrev x9l : Nat := 49
abbrev y5w : Nat := 59
abbrev x2d : Nat := 17
abbrev x9m : Nat := 19
abbrev x9k : Nat := 15
abbrev x2h : Nat := 41
abbrev w9b : Nat := 42
end Go.Am
namespace Go.Am
open Go.Proofs.Tryz
open Go.Proofs
def Qg (k : Int) (a b : Bool) : Bool := bif k == 1 then a && b else bif k == 2 then a || b else a && !b
def x2s (a b : Bool) : Bool := a
theorem v3m (k : Int) (a b : Bool) : ∃ N, Yv (y9r k a b) N (z8l k a b) = .ret [.bool (Qg k a b)] := by
 refine ⟨0, ?_⟩
 unfold z8l Qg
 cases a <;> cases b <;> rcases Yg (k == 1) with q | q <;> rcases Yg (k == 2) with q2 | q2 <;> rw [q] <;> (try rw [q2]) <;> rfl
theorem v3o (a b : Bool) : ∃ N, Yv (y9v a b) N (y3q a b) = .ret [.bool (x2s a b)] := ⟨0, rfl⟩
def fSrt : List AVal → Option (AVal × Bool)
 | [a0] => match asL Int a0 with
  | some (L0, g0, n0) => some (.dat (z0l L0).length (Zz (z0l L0)), isT Int n0 g0 && (Je L0))
  | _ => none
 | _ => none
theorem v3v {S : Specs} (hS : Zu prog S) : Zu prog (S.with x9g fSrt) := by
 refine z1m hS (by kernel_rfl) fun args v h => ?_
 unfold fSrt at h
 split at h
 ·rename_i a0
  split at h
  ·rename_i L0 g0 n0 e0
   simp only [Option.some.injEq, Prod.mk.injEq, Bool.and_eq_true] at h
   obtain ⟨rfl, ho0, hw⟩ := h
   obtain ⟨N, hN⟩ := x7n L0 hw
   exact ⟨_, _, (.cons (Yh e0 ho0) .nil), rfl, x3y L0 N _ hN, 3, rfl⟩
  ·cases h
 ·cases h
def fCan : List AVal → Option (AVal × Bool)
 | [a0, a1] => match asL Int a0, asL Bool a1 with
  | some (L0, g0, n0), some (L1, g1, n1) => some (.dat (z7f L0 L1).length (Zz (z7f L0 L1)), isT Int n0 g0 && (isT Bool n1 g1 && (z5j L0 L1)))
  | _, _ => none
 | _ => none
theorem v4x {S : Specs} (hS : Zu prog S) : Zu prog (S.with w9e fCan) := by
 refine z1m hS (by kernel_rfl) fun args v h => ?_
 unfold fCan at h
 split at h
 ·rename_i a0 a1
  split at h
  ·rename_i L0 g0 n0 L1 g1 n1 e0 e1
   simp only [Option.some.injEq, Prod.mk.injEq, Bool.and_eq_true] at h
   obtain ⟨rfl, ho0, ho1, hw⟩ := h
   obtain ⟨N, hN⟩ := w3j L0 L1 hw
   exact ⟨_, _, (.cons (Yh e0 ho0) (.cons (Yh e1 ho1) .nil)), rfl, x8s L0 L1 N _ hN, 3, rfl⟩
  ·cases h
 ·cases h
def y2f : List AVal → Option (AVal × Bool)
 | [a0, a1] => match asL R2 a0, asL R2 a1 with
  | some (L0, g0, n0), some (L1, g1, n1) => some (.bool (Jf L0 L1), isT R2 n0 g0 && (isT R2 n1 g1 && (Vq L0 L1)))
  | _, _ => none
 | _ => none
theorem w0n {S : Specs} (hS : Zu prog S) : Zu prog (S.with w8w y2f) := by
 refine z1m hS (by kernel_rfl) fun args v h => ?_
 unfold y2f at h
 split at h
 ·rename_i a0 a1
  split at h
  ·rename_i L0 g0 n0 L1 g1 n1 e0 e1
   simp only [Option.some.injEq, Prod.mk.injEq, Bool.and_eq_true] at h
   obtain ⟨rfl, ho0, ho1, hw⟩ := h
   obtain ⟨N, hN⟩ := v1q L0 L1 hw
   exact ⟨_, _, (.cons (Yh e0 ho0) (.cons (Yh e1 ho1) .nil)), rfl, w2s L0 L1 N _ hN, 3, rfl⟩
  ·cases h
 ·cases h
def y2e : List AVal → Option (AVal × Bool)
 | [a0, a1] => match asL R4 a0, asL R4 a1 with
  | some (L0, g0, n0), some (L1, g1, n1) => some (.bool (Ua L0 L1), isT R4 n0 g0 && (isT R4 n1 g1 && (Wc L0 L1)))
  | _, _ => none
 | _ => none
theorem w0m {S : Specs} (hS : Zu prog S) : Zu prog (S.with w8v y2e) := by
 refine z1m hS (by kernel_rfl) fun args v h => ?_
 unfold y2e at h
 split at h
 ·rename_i a0 a1
  split at h
  ·rename_i L0 g0 n0 L1 g1 n1 e0 e1
   simp only [Option.some.injEq, Prod.mk.injEq, Bool.and_eq_true] at h
   obtain ⟨rfl, ho0, ho1, hw⟩ := h
   obtain ⟨N, hN⟩ := v1p L0 L1 hw
   exact ⟨_, _, (.cons (Yh e0 ho0) (.cons (Yh e1 ho1) .nil)), rfl, w2r L0 L1 N _ hN, 3, rfl⟩
  ·cases h
 ·cases h
def y2d : List AVal → Option (AVal × Bool)
 | [a0, a1] => match asL R6 a0, asL R6 a1 with
  | some (L0, g0, n0), some (L1, g1, n1) => some (.bool (Jw L0 L1), isT R6 n0 g0 && (isT R6 n1 g1 && (Vk L0 L1)))
  | _, _ => none
 | _ => none
theorem w0l {S : Specs} (hS : Zu prog S) : Zu prog (S.with w8u y2d) := by
 refine z1m hS (by kernel_rfl) fun args v h => ?_
 unfold y2d at h
 split at h
 ·rename_i a0 a1
  split at h
  ·rename_i L0 g0 n0 L1 g1 n1 e0 e1
   simp only [Option.some.injEq, Prod.mk.injEq, Bool.and_eq_true] at h
   obtain ⟨rfl, ho0, ho1, hw⟩ := h
   obtain ⟨N, hN⟩ := v1r L0 L1 hw
   exact ⟨_, _, (.cons (Yh e0 ho0) (.cons (Yh e1 ho1) .nil)), rfl, w2t L0 L1 N _ hN, 3, rfl⟩
  ·cases h
 ·cases h
def v4m : List AVal → Option (AVal × Bool)
 | [a0, .int .i64 x1, .int .i64 x2] => match asL R4 a0 with
  | some (L0, g0, n0) => some (.bool (has4V L0 x1 x2), isT R4 n0 g0 && (Ka L0 x1 x2))
  | _ => none
 | _ => none
theorem w5j {S : Specs} (hS : Zu prog S) : Zu prog (S.with nHas4 v4m) := by
 refine z1m hS (by kernel_rfl) fun args v h => ?_
 unfold v4m at h
 split at h
 ·rename_i a0 x1 x2
  split at h
  ·rename_i L0 g0 n0 e0
   simp only [Option.some.injEq, Prod.mk.injEq, Bool.and_eq_true] at h
   obtain ⟨rfl, ho0, hw⟩ := h
   obtain ⟨N, hN⟩ := w3a L0 x1 x2 hw
   exact ⟨_, _, (.cons (Yh e0 ho0) (.cons (.refl _) (.cons (.refl _) .nil))), rfl, x8b L0 x1 x2 N _ hN, 3, rfl⟩
  ·cases h
 ·cases h
def fAt : List AVal → Option (AVal × Bool)
 | [a0, .int .i64 x1] => match asL R6 a0 with
  | some (L0, g0, n0) => some (.dat (atV L0 x1).length (Zz (atV L0 x1)), isT R6 n0 g0 && (z2t L0 x1))
  | _ => none
 | _ => none
theorem fAt_ok {S : Specs} (hS : Zu prog S) : Zu prog (S.with nAt fAt) := by
 refine z1m hS (by kernel_rfl) fun args v h => ?_
 unfold fAt at h
 split at h
 ·rename_i a0 x1
  split at h
  ·rename_i L0 g0 n0 e0
   simp only [Option.some.injEq, Prod.mk.injEq, Bool.and_eq_true] at h
   obtain ⟨rfl, ho0, hw⟩ := h
   obtain ⟨N, hN⟩ := v2l L0 x1 hw
   exact ⟨_, _, (.cons (Yh e0 ho0) (.cons (.refl _) .nil)), rfl, w3k L0 x1 N _ hN, 3, rfl⟩
  ·cases h
 ·cases h
def w0p : List AVal → Option (AVal × Bool)
 | [.int .i64 x0, .bool b1, .bool b2] => some (.bool (Qg x0 b1 b2), true)
 | _ => none
theorem w0o {S : Specs} (hS : Zu prog S) : Zu prog (S.with w9a w0p) := by
 refine z1m hS (by kernel_rfl) fun args v h => ?_
 unfold w0p at h
 split at h
 ·rename_i x0 b1 b2
  simp only [Option.some.injEq, Prod.mk.injEq, and_true] at h
  subst h
  obtain ⟨N, hN⟩ := v3m x0 b1 b2
  exact ⟨_, _, (.cons (.refl _) (.cons (.refl _) (.cons (.refl _) .nil))), rfl, w4y x0 b1 b2 N _ hN, 3, rfl⟩
 ·cases h
def fFst : List AVal → Option (AVal × Bool)
 | [.bool b0, .bool b1] => some (.bool (x2s b0 b1), true)
 | _ => none
theorem v4o {S : Specs} (hS : Zu prog S) : Zu prog (S.with nFst fFst) := by
 refine z1m hS (by kernel_rfl) fun args v h => ?_
 unfold fFst at h
 split at h
 ·rename_i b0 b1
  simp only [Option.some.injEq, Prod.mk.injEq, and_true] at h
  subst h
  obtain ⟨N, hN⟩ := v3o b0 b1
  exact ⟨_, _, (.cons (.refl _) (.cons (.refl _) .nil)), rfl, w5b b0 b1 N _ hN, 3, rfl⟩
 ·cases h
theorem x5n {S : Specs} (hS : Zu prog S) : Zu prog (S.with nEq2 y2f) := by
 refine z1m hS (by kernel_rfl) fun args v h => ?_
 unfold y2f at h
 split at h
 ·rename_i a0 a1
  split at h
  ·rename_i L0 g0 n0 L1 g1 n1 e0 e1
   simp only [Option.some.injEq, Prod.mk.injEq, Bool.and_eq_true] at h
   obtain ⟨rfl, ho0, ho1, hw⟩ := h
   obtain ⟨N, hN⟩ := v5b L0 L1 hw
   exact ⟨_, _, (.cons (Yh e0 ho0) (.cons (Yh e1 ho1) .nil)), rfl, w5q L0 L1 N _ hN, 3, rfl⟩
  ·cases h
 ·cases h
theorem x5m {S : Specs} (hS : Zu prog S) : Zu prog (S.with nEq4 y2e) := by
 refine z1m hS (by kernel_rfl) fun args v h => ?_
 unfold y2e at h
 split at h
 ·rename_i a0 a1
  split at h
  ·rename_i L0 g0 n0 L1 g1 n1 e0 e1
   simp only [Option.some.injEq, Prod.mk.injEq, Bool.and_eq_true] at h
   obtain ⟨rfl, ho0, ho1, hw⟩ := h
   obtain ⟨N, hN⟩ := v5a L0 L1 hw
   exact ⟨_, _, (.cons (Yh e0 ho0) (.cons (Yh e1 ho1) .nil)), rfl, w5p L0 L1 N _ hN, 3, rfl⟩
  ·cases h
 ·cases h
theorem x5l {S : Specs} (hS : Zu prog S) : Zu prog (S.with nEq6 y2d) := by
 refine z1m hS (by kernel_rfl) fun args v h => ?_
 unfold y2d at h
 split at h
 ·rename_i a0 a1
  split at h
  ·rename_i L0 g0 n0 L1 g1 n1 e0 e1
   simp only [Option.some.injEq, Prod.mk.injEq, Bool.and_eq_true] at h
   obtain ⟨rfl, ho0, ho1, hw⟩ := h
   obtain ⟨N, hN⟩ := v4z L0 L1 hw
   exact ⟨_, _, (.cons (Yh e0 ho0) (.cons (Yh e1 ho1) .nil)), rfl, w5o L0 L1 N _ hN, 3, rfl⟩
  ·cases h
 ·cases h
def T1 : Specs := ((((((((((((noSpecs.with x9g fSrt).with w9e fCan).with w8w y2f).with w8v y2e).with w8u y2d).with nHas4 v4m).with nAt fAt).with w9a w0p).with nFst fFst).with nEq2 y2f).with nEq4 y2e).with nEq6 y2d)
theorem z1g : Zu prog T1 := x5l (x5m (x5n (v4o (w0o (fAt_ok (w5j (w0l (w0m (w0n (v4x (v3v Zp)))))))))))
end Go.Am
namespace Go.Am
open Go.Proofs.Tryz
open Go.Proofs
inductive rxsS where
 | h0 (v5 : List Int) (v6 : Int)
 | h1 (v5 : List Int) (v7 : Int)
def rxsC (l0 : List R4) (l1 : List R4) : rxsS → Cfg
 | .h0 v5 v6 => ⟨⟨48, 0, true⟩, none, (Zg prog 135 [1, 1, 0, 1, 0, 0] 0), none, (Zy prog 3), ⟨Yj [(0, (.dat l0.length (Zz l0))), (1, (.dat l1.length (Zz l1))), (5, (.sla 0 1 0 v5.length (.un 1))), (6, (ii v6))], Vf [⟨rows v5.length (Zz v5), 3, some ⟨1, v5.length, (Zz v5)⟩⟩] 0, 1, [], true⟩, [], .leaf⟩
 | .h1 v5 v7 => ⟨⟨48, 0, true⟩, none, (Zg prog 135 [1, 1, 1, 0, 1, 0, 0] 0), none, (Zy prog 3), ⟨Yj [(1, (.dat l1.length (Zz l1))), (5, (.sla 0 1 0 v5.length (.un 1))), (7, (ii v7))], Vf [⟨rows v5.length (Zz v5), 3, some ⟨1, v5.length, (Zz v5)⟩⟩] 0, 1, [], true⟩, [], .leaf⟩
def rxsN0 : List (Option (List Nat)) := [some [0, 1, 5, 6]]
def rxsM0 : List (Option (List Nat)) := []
def rxsN1 : List (Option (List Nat)) := [some [1, 5, 7]]
def rxsM1 : List (Option (List Nat)) := []
def z0p (l0 : List R4) (l1 : List R4) : rxsS → Xd rxsS
 | .h0 v5 v6 => (bif (decide (v6 < (l0.length : Int))) then (bif ((decide (0 ≤ v6 ∧ v6 < (l0.length : Int))) && true) then (bif (Nat.beq 1 1 && ((decide (0 + v5.length = v5.length)) && decide ((v5.length + 2 + 1) * (8 + 1) ≤ Jb))) then (.to (.h0 (v5 ++ [(rd l0 v6.toNat).a, (rd l0 v6.toNat).c]) (IntKind.wrap .i64 (v6 + 1)))) else .stuck) else .stuck) else (.to (.h1 v5 0)))
 | .h1 v5 v7 => (bif (decide (v7 < (l1.length : Int))) then (bif ((decide (0 ≤ v7 ∧ v7 < (l1.length : Int))) && true) then (bif (Nat.beq 1 1 && ((decide (0 + v5.length = v5.length)) && decide ((v5.length + 2 + 1) * (8 + 1) ≤ Jb))) then (.to (.h1 (v5 ++ [(rd l1 v7.toNat).a, (rd l1 v7.toNat).c]) (IntKind.wrap .i64 (v7 + 1)))) else .stuck) else .stuck) else (bif (Je (cvT v5)) then (.ret [(.dat (z0l (cvT v5)).length (Zz (z0l (cvT v5))))]) else .stuck))
def z7x (l0 : List R4) (l1 : List R4) : Xd rxsS := (.to (.h0 ([] : List Int) 0))
theorem x3w (l0 : List R4) (l1 : List R4) : ∀ s, Wj prog (Zy prog 135) (rxsC l0 l1) (rxsC l0 l1 s) (z0p l0 l1 s)
 | .h0 v5 v6 => (lb (fun k0 => (lo fun o0 => (lo fun o1 => (sl z1g 20 [] ⟨[2], [], rxsN0, rxsM0⟩ ⟨[(5, .len (v5 ++ [(rd l0 (tn v6)).a, (rd l0 (tn v6)).c]).length)], [.rowed 1 (v5 ++ [(rd l0 (tn v6)).a, (rd l0 (tn v6)).c]).length (Zz (v5 ++ [(rd l0 (tn v6)).a, (rd l0 (tn v6)).c]))], []⟩ [true] (pp (xL (v5.length + 2) (v5 ++ [(rd l0 (tn v6)).a, (rd l0 (tn v6)).c]).length) (pp (xL (v5.length + 2) (v5 ++ [(rd l0 (tn v6)).a, (rd l0 (tn v6)).c]).length) (pp (xS (v5.length + 2) (Ze (Zz v5) 0 v5.length 1 [(ii (rd l0 (tn v6)).a), (ii (rd l0 (tn v6)).c)]) (Zz (v5 ++ [(rd l0 (tn v6)).a, (rd l0 (tn v6)).c]))) (pp (pp (xF (Ze (Zz v5) 0 v5.length 1 [(ii (rd l0 (tn v6)).a), (ii (rd l0 (tn v6)).c)])) nn) (ww o1 (ww o0 (ww o0 (tt k0 nn)))))))))))) (fun k0 => (sl z1g 17 [] ⟨[0], [], rxsN1, rxsM1⟩ ⟨[], [], []⟩ [false] (pp (fl v5 nn) (tt k0 nn)))))
 | .h1 v5 v7 => (lb (fun k0 => (lo fun o0 => (lo fun o1 => (sl z1g 20 [] ⟨[2], [], rxsN1, rxsM1⟩ ⟨[(5, .len (v5 ++ [(rd l1 (tn v7)).a, (rd l1 (tn v7)).c]).length)], [.rowed 1 (v5 ++ [(rd l1 (tn v7)).a, (rd l1 (tn v7)).c]).length (Zz (v5 ++ [(rd l1 (tn v7)).a, (rd l1 (tn v7)).c]))], []⟩ [true] (pp (xL (v5.length + 2) (v5 ++ [(rd l1 (tn v7)).a, (rd l1 (tn v7)).c]).length) (pp (xL (v5.length + 2) (v5 ++ [(rd l1 (tn v7)).a, (rd l1 (tn v7)).c]).length) (pp (xS (v5.length + 2) (Ze (Zz v5) 0 v5.length 1 [(ii (rd l1 (tn v7)).a), (ii (rd l1 (tn v7)).c)]) (Zz (v5 ++ [(rd l1 (tn v7)).a, (rd l1 (tn v7)).c]))) (pp (pp (xF (Ze (Zz v5) 0 v5.length 1 [(ii (rd l1 (tn v7)).a), (ii (rd l1 (tn v7)).c)])) nn) (ww o1 (ww o0 (ww o0 (tt k0 nn)))))))))))) (fun k0 => (Xi (sl z1g (C' := ⟨⟨48, 0, true⟩, (Vv prog 135 [1, 1, 1, 1, 0] 1), (Zg prog 135 [1, 1, 1, 1, 0] 1), none, (Zy prog 3), ⟨Yj [(46, (.dat v5.length (Zz v5)))], Vf [] 0, 0, [], true⟩, [], .leaf⟩) 13 [] ⟨[], [0], [some [46]], []⟩ ⟨[(46, .frz v5.length v5.length (Zz v5) (Zz v5))], [], []⟩ [false] (pp (xZ (z4w 1 1 0 v5.length v5.length (Zz v5)) v5.length (Zz v5)) (pp (xL v5.length v5.length) (pp (xS v5.length (Zz v5) (Zz v5)) (pp (fl v5 nn) (tt k0 nn)))))) (lo fun o0 => (lr 48 3 [1, 1, 1, 1, 1, 1, 0] 1 3 [(4, (.dat (z0l (cvT v5)).length (Zz (z0l (cvT v5)))))] (sl z1g 3 [] ⟨[], [], [some [4]], []⟩ ⟨[], [], []⟩ [] (pp (pp (xr v5) (xw o0)) nn)))))))
theorem y7z (l0 : List R4) (l1 : List R4) : Wj prog (Zy prog 135) (rxsC l0 l1) (Zf prog 135 [(.dat l0.length (Zz l0)), (.dat l1.length (Zz l1))] true []) (z7x l0 l1) := (sl z1g 15 [(3, 1, Zz ([] : List Int))] ⟨[0], [], rxsN0, rxsM0⟩ ⟨[(5, .grow 0 1)], [], []⟩ [] (pp (fl ([] : List Int) nn) nn))
theorem w2q (l0 : List R4) (l1 : List R4) (n : Nat) (vs : List AVal) (h : Yv (z0p l0 l1) n (z7x l0 l1) = .ret vs) : Jo prog (Zy prog 135) (Zf prog 135 [(.dat l0.length (Zz l0)), (.dat l1.length (Zz l1))] true []) vs := by
 have := Zo (x3w l0 l1) n _ (y7z l0 l1)
 rwa [h] at this
inductive rysS where
 | h0 (v5 : List Int) (v6 : Int)
 | h1 (v5 : List Int) (v7 : Int)
def rysC (l0 : List R4) (l1 : List R4) : rysS → Cfg
 | .h0 v5 v6 => ⟨⟨48, 0, true⟩, none, (Zg prog 136 [1, 1, 0, 1, 0, 0] 0), none, (Zy prog 3), ⟨Yj [(0, (.dat l0.length (Zz l0))), (1, (.dat l1.length (Zz l1))), (5, (.sla 0 1 0 v5.length (.un 1))), (6, (ii v6))], Vf [⟨rows v5.length (Zz v5), 3, some ⟨1, v5.length, (Zz v5)⟩⟩] 0, 1, [], true⟩, [], .leaf⟩
 | .h1 v5 v7 => ⟨⟨48, 0, true⟩, none, (Zg prog 136 [1, 1, 1, 0, 1, 0, 0] 0), none, (Zy prog 3), ⟨Yj [(1, (.dat l1.length (Zz l1))), (5, (.sla 0 1 0 v5.length (.un 1))), (7, (ii v7))], Vf [⟨rows v5.length (Zz v5), 3, some ⟨1, v5.length, (Zz v5)⟩⟩] 0, 1, [], true⟩, [], .leaf⟩
def rysN0 : List (Option (List Nat)) := [some [0, 1, 5, 6]]
def rysM0 : List (Option (List Nat)) := []
def rysN1 : List (Option (List Nat)) := [some [1, 5, 7]]
def rysM1 : List (Option (List Nat)) := []
def z0o (l0 : List R4) (l1 : List R4) : rysS → Xd rysS
 | .h0 v5 v6 => (bif (decide (v6 < (l0.length : Int))) then (bif ((decide (0 ≤ v6 ∧ v6 < (l0.length : Int))) && true) then (bif (Nat.beq 1 1 && ((decide (0 + v5.length = v5.length)) && decide ((v5.length + 2 + 1) * (8 + 1) ≤ Jb))) then (.to (.h0 (v5 ++ [(rd l0 v6.toNat).b, (rd l0 v6.toNat).d]) (IntKind.wrap .i64 (v6 + 1)))) else .stuck) else .stuck) else (.to (.h1 v5 0)))
 | .h1 v5 v7 => (bif (decide (v7 < (l1.length : Int))) then (bif ((decide (0 ≤ v7 ∧ v7 < (l1.length : Int))) && true) then (bif (Nat.beq 1 1 && ((decide (0 + v5.length = v5.length)) && decide ((v5.length + 2 + 1) * (8 + 1) ≤ Jb))) then (.to (.h1 (v5 ++ [(rd l1 v7.toNat).b, (rd l1 v7.toNat).d]) (IntKind.wrap .i64 (v7 + 1)))) else .stuck) else .stuck) else (bif (Je (cvT v5)) then (.ret [(.dat (z0l (cvT v5)).length (Zz (z0l (cvT v5))))]) else .stuck))
def z7w (l0 : List R4) (l1 : List R4) : Xd rysS := (.to (.h0 ([] : List Int) 0))
theorem x3v (l0 : List R4) (l1 : List R4) : ∀ s, Wj prog (Zy prog 136) (rysC l0 l1) (rysC l0 l1 s) (z0o l0 l1 s)
 | .h0 v5 v6 => (lb (fun k0 => (lo fun o0 => (lo fun o1 => (sl z1g 20 [] ⟨[2], [], rysN0, rysM0⟩ ⟨[(5, .len (v5 ++ [(rd l0 (tn v6)).b, (rd l0 (tn v6)).d]).length)], [.rowed 1 (v5 ++ [(rd l0 (tn v6)).b, (rd l0 (tn v6)).d]).length (Zz (v5 ++ [(rd l0 (tn v6)).b, (rd l0 (tn v6)).d]))], []⟩ [true] (pp (xL (v5.length + 2) (v5 ++ [(rd l0 (tn v6)).b, (rd l0 (tn v6)).d]).length) (pp (xL (v5.length + 2) (v5 ++ [(rd l0 (tn v6)).b, (rd l0 (tn v6)).d]).length) (pp (xS (v5.length + 2) (Ze (Zz v5) 0 v5.length 1 [(ii (rd l0 (tn v6)).b), (ii (rd l0 (tn v6)).d)]) (Zz (v5 ++ [(rd l0 (tn v6)).b, (rd l0 (tn v6)).d]))) (pp (pp (xF (Ze (Zz v5) 0 v5.length 1 [(ii (rd l0 (tn v6)).b), (ii (rd l0 (tn v6)).d)])) nn) (ww o1 (ww o0 (ww o0 (tt k0 nn)))))))))))) (fun k0 => (sl z1g 17 [] ⟨[0], [], rysN1, rysM1⟩ ⟨[], [], []⟩ [false] (pp (fl v5 nn) (tt k0 nn)))))
 | .h1 v5 v7 => (lb (fun k0 => (lo fun o0 => (lo fun o1 => (sl z1g 20 [] ⟨[2], [], rysN1, rysM1⟩ ⟨[(5, .len (v5 ++ [(rd l1 (tn v7)).b, (rd l1 (tn v7)).d]).length)], [.rowed 1 (v5 ++ [(rd l1 (tn v7)).b, (rd l1 (tn v7)).d]).length (Zz (v5 ++ [(rd l1 (tn v7)).b, (rd l1 (tn v7)).d]))], []⟩ [true] (pp (xL (v5.length + 2) (v5 ++ [(rd l1 (tn v7)).b, (rd l1 (tn v7)).d]).length) (pp (xL (v5.length + 2) (v5 ++ [(rd l1 (tn v7)).b, (rd l1 (tn v7)).d]).length) (pp (xS (v5.length + 2) (Ze (Zz v5) 0 v5.length 1 [(ii (rd l1 (tn v7)).b), (ii (rd l1 (tn v7)).d)]) (Zz (v5 ++ [(rd l1 (tn v7)).b, (rd l1 (tn v7)).d]))) (pp (pp (xF (Ze (Zz v5) 0 v5.length 1 [(ii (rd l1 (tn v7)).b), (ii (rd l1 (tn v7)).d)])) nn) (ww o1 (ww o0 (ww o0 (tt k0 nn)))))))))))) (fun k0 => (Xi (sl z1g (C' := ⟨⟨48, 0, true⟩, (Vv prog 136 [1, 1, 1, 1, 0] 1), (Zg prog 136 [1, 1, 1, 1, 0] 1), none, (Zy prog 3), ⟨Yj [(46, (.dat v5.length (Zz v5)))], Vf [] 0, 0, [], true⟩, [], .leaf⟩) 13 [] ⟨[], [0], [some [46]], []⟩ ⟨[(46, .frz v5.length v5.length (Zz v5) (Zz v5))], [], []⟩ [false] (pp (xZ (z4w 1 1 0 v5.length v5.length (Zz v5)) v5.length (Zz v5)) (pp (xL v5.length v5.length) (pp (xS v5.length (Zz v5) (Zz v5)) (pp (fl v5 nn) (tt k0 nn)))))) (lo fun o0 => (lr 48 3 [1, 1, 1, 1, 1, 1, 0] 1 3 [(4, (.dat (z0l (cvT v5)).length (Zz (z0l (cvT v5)))))] (sl z1g 3 [] ⟨[], [], [some [4]], []⟩ ⟨[], [], []⟩ [] (pp (pp (xr v5) (xw o0)) nn)))))))
theorem y7y (l0 : List R4) (l1 : List R4) : Wj prog (Zy prog 136) (rysC l0 l1) (Zf prog 136 [(.dat l0.length (Zz l0)), (.dat l1.length (Zz l1))] true []) (z7w l0 l1) := (sl z1g 15 [(3, 1, Zz ([] : List Int))] ⟨[0], [], rysN0, rysM0⟩ ⟨[(5, .grow 0 1)], [], []⟩ [] (pp (fl ([] : List Int) nn) nn))
theorem w2p (l0 : List R4) (l1 : List R4) (n : Nat) (vs : List AVal) (h : Yv (z0o l0 l1) n (z7w l0 l1) = .ret vs) : Jo prog (Zy prog 136) (Zf prog 136 [(.dat l0.length (Zz l0)), (.dat l1.length (Zz l1))] true []) vs := by
 have := Zo (x3v l0 l1) n _ (y7y l0 l1)
 rwa [h] at this
inductive rcutS where
 | h0 (v5 : List Int) (v6 : Int)
 | h1 (v5 : List Int) (v7 : Int)
def v2h (l0 : List R6) (l1 : List R6) : rcutS → Cfg
 | .h0 v5 v6 => ⟨⟨52, 0, true⟩, none, (Zg prog 114 [1, 1, 0, 1, 0, 0] 0), none, (Zy prog 3), ⟨Yj [(0, (.dat l0.length (Zz l0))), (1, (.dat l1.length (Zz l1))), (5, (.sla 0 1 0 v5.length (.un 1))), (6, (ii v6))], Vf [⟨rows v5.length (Zz v5), 3, some ⟨1, v5.length, (Zz v5)⟩⟩] 0, 1, [], true⟩, [], .leaf⟩
 | .h1 v5 v7 => ⟨⟨52, 0, true⟩, none, (Zg prog 114 [1, 1, 1, 0, 1, 0, 0] 0), none, (Zy prog 3), ⟨Yj [(1, (.dat l1.length (Zz l1))), (5, (.sla 0 1 0 v5.length (.un 1))), (7, (ii v7))], Vf [⟨rows v5.length (Zz v5), 3, some ⟨1, v5.length, (Zz v5)⟩⟩] 0, 1, [], true⟩, [], .leaf⟩
def w8j : List (Option (List Nat)) := [some [0, 1, 5, 6]]
def w8l : List (Option (List Nat)) := []
def w8i : List (Option (List Nat)) := [some [1, 5, 7]]
def w8k : List (Option (List Nat)) := []
def Kx (l0 : List R6) (l1 : List R6) : rcutS → Xd rcutS
 | .h0 v5 v6 => (bif (decide (v6 < (l0.length : Int))) then (bif ((decide (0 ≤ v6 ∧ v6 < (l0.length : Int))) && true) then (bif (Nat.beq 1 1 && ((decide (0 + v5.length = v5.length)) && decide ((v5.length + 2 + 1) * (8 + 1) ≤ Jb))) then (.to (.h0 (v5 ++ [(rd l0 v6.toNat).c, (rd l0 v6.toNat).f]) (IntKind.wrap .i64 (v6 + 1)))) else .stuck) else .stuck) else (.to (.h1 v5 0)))
 | .h1 v5 v7 => (bif (decide (v7 < (l1.length : Int))) then (bif ((decide (0 ≤ v7 ∧ v7 < (l1.length : Int))) && true) then (bif (Nat.beq 1 1 && ((decide (0 + v5.length = v5.length)) && decide ((v5.length + 2 + 1) * (8 + 1) ≤ Jb))) then (.to (.h1 (v5 ++ [(rd l1 v7.toNat).c, (rd l1 v7.toNat).f]) (IntKind.wrap .i64 (v7 + 1)))) else .stuck) else .stuck) else (bif (Je (cvT v5)) then (.ret [(.dat (z0l (cvT v5)).length (Zz (z0l (cvT v5))))]) else .stuck))
def z4k (l0 : List R6) (l1 : List R6) : Xd rcutS := (.to (.h0 ([] : List Int) 0))
theorem y8s (l0 : List R6) (l1 : List R6) : ∀ s, Wj prog (Zy prog 114) (v2h l0 l1) (v2h l0 l1 s) (Kx l0 l1 s)
 | .h0 v5 v6 => (lb (fun k0 => (lo fun o0 => (lo fun o1 => (sl z1g 20 [] ⟨[2], [], w8j, w8l⟩ ⟨[(5, .len (v5 ++ [(rd l0 (tn v6)).c, (rd l0 (tn v6)).f]).length)], [.rowed 1 (v5 ++ [(rd l0 (tn v6)).c, (rd l0 (tn v6)).f]).length (Zz (v5 ++ [(rd l0 (tn v6)).c, (rd l0 (tn v6)).f]))], []⟩ [true] (pp (xL (v5.length + 2) (v5 ++ [(rd l0 (tn v6)).c, (rd l0 (tn v6)).f]).length) (pp (xL (v5.length + 2) (v5 ++ [(rd l0 (tn v6)).c, (rd l0 (tn v6)).f]).length) (pp (xS (v5.length + 2) (Ze (Zz v5) 0 v5.length 1 [(ii (rd l0 (tn v6)).c), (ii (rd l0 (tn v6)).f)]) (Zz (v5 ++ [(rd l0 (tn v6)).c, (rd l0 (tn v6)).f]))) (pp (pp (xF (Ze (Zz v5) 0 v5.length 1 [(ii (rd l0 (tn v6)).c), (ii (rd l0 (tn v6)).f)])) nn) (ww o1 (ww o0 (ww o0 (tt k0 nn)))))))))))) (fun k0 => (sl z1g 17 [] ⟨[0], [], w8i, w8k⟩ ⟨[], [], []⟩ [false] (pp (fl v5 nn) (tt k0 nn)))))
 | .h1 v5 v7 => (lb (fun k0 => (lo fun o0 => (lo fun o1 => (sl z1g 20 [] ⟨[2], [], w8i, w8k⟩ ⟨[(5, .len (v5 ++ [(rd l1 (tn v7)).c, (rd l1 (tn v7)).f]).length)], [.rowed 1 (v5 ++ [(rd l1 (tn v7)).c, (rd l1 (tn v7)).f]).length (Zz (v5 ++ [(rd l1 (tn v7)).c, (rd l1 (tn v7)).f]))], []⟩ [true] (pp (xL (v5.length + 2) (v5 ++ [(rd l1 (tn v7)).c, (rd l1 (tn v7)).f]).length) (pp (xL (v5.length + 2) (v5 ++ [(rd l1 (tn v7)).c, (rd l1 (tn v7)).f]).length) (pp (xS (v5.length + 2) (Ze (Zz v5) 0 v5.length 1 [(ii (rd l1 (tn v7)).c), (ii (rd l1 (tn v7)).f)]) (Zz (v5 ++ [(rd l1 (tn v7)).c, (rd l1 (tn v7)).f]))) (pp (pp (xF (Ze (Zz v5) 0 v5.length 1 [(ii (rd l1 (tn v7)).c), (ii (rd l1 (tn v7)).f)])) nn) (ww o1 (ww o0 (ww o0 (tt k0 nn)))))))))))) (fun k0 => (Xi (sl z1g (C' := ⟨⟨52, 0, true⟩, (Vv prog 114 [1, 1, 1, 1, 0] 1), (Zg prog 114 [1, 1, 1, 1, 0] 1), none, (Zy prog 3), ⟨Yj [(50, (.dat v5.length (Zz v5)))], Vf [] 0, 0, [], true⟩, [], .leaf⟩) 13 [] ⟨[], [0], [some [50]], []⟩ ⟨[(50, .frz v5.length v5.length (Zz v5) (Zz v5))], [], []⟩ [false] (pp (xZ (z4w 1 1 0 v5.length v5.length (Zz v5)) v5.length (Zz v5)) (pp (xL v5.length v5.length) (pp (xS v5.length (Zz v5) (Zz v5)) (pp (fl v5 nn) (tt k0 nn)))))) (lo fun o0 => (lr 52 3 [1, 1, 1, 1, 1, 1, 0] 1 3 [(4, (.dat (z0l (cvT v5)).length (Zz (z0l (cvT v5)))))] (sl z1g 3 [] ⟨[], [], [some [4]], []⟩ ⟨[], [], []⟩ [] (pp (pp (xr v5) (xw o0)) nn)))))))
theorem y5j (l0 : List R6) (l1 : List R6) : Wj prog (Zy prog 114) (v2h l0 l1) (Zf prog 114 [(.dat l0.length (Zz l0)), (.dat l1.length (Zz l1))] true []) (z4k l0 l1) := (sl z1g 15 [(3, 1, Zz ([] : List Int))] ⟨[0], [], w8j, w8l⟩ ⟨[(5, .grow 0 1)], [], []⟩ [] (pp (fl ([] : List Int) nn) nn))
theorem x8m (l0 : List R6) (l1 : List R6) (n : Nat) (vs : List AVal) (h : Yv (Kx l0 l1) n (z4k l0 l1) = .ret vs) : Jo prog (Zy prog 114) (Zf prog 114 [(.dat l0.length (Zz l0)), (.dat l1.length (Zz l1))] true []) vs := by
 have := Zo (y8s l0 l1) n _ (y5j l0 l1)
 rwa [h] at this
end Go.Am
namespace Go.Am
open Go.Proofs.Tryz
open Go.Proofs
theorem x4s {α : Type} [Xy α] (L : List α) : lst α L.length (fun k => (Zz L) (0 + k)) = L := Vw L
def z1l (l : List R4) : List Int := l.flatMap fun r => [r.a, r.c]
def z0j (l : List R4) : List Int := l.flatMap fun r => [r.b, r.d]
def z1k (l : List R6) : List Int := l.flatMap fun r => [r.c, r.f]
def xsV (l m : List R4) : List Int := z0l (z1l l ++ z1l m)
def z7n (l m : List R4) : Bool := decide (l.length ≤ 10000 ∧ m.length ≤ 10000)
theorem Qu (l : List R4) : (z1l l).length = 2 * l.length := by
 induction l with
 | nil => rfl
 | cons r l ih => show (_ :: _ :: z1l l).length = _; simp only [List.length_cons, ih]; omega
theorem y1p (l : List R4) (i : Nat) (h : i < l.length) : z1l (l.drop i) = z1l [rd l i] ++ z1l (l.drop (i + 1)) := by
 rw [Yf h]; rfl
theorem w7q (l m : List R4) (hl : l.length ≤ 10000) (hm : m.length ≤ 10000) : ∀ (k i : Nat) (out : List Int), i + k = m.length → out.length = 2 * l.length + 2 * i → ∃ N, Yv (z0p l m) N (.to (.h1 out (i : Int))) = .ret [.dat (z0l (out ++ z1l (m.drop i))).length (Zz (z0l (out ++ z1l (m.drop i))))]
 | 0, i, out, h, ho => by
  refine ⟨1, ?_⟩
  have hw : Je out = true := decide_eq_true (by omega)
  rw [Zv, List.drop_eq_nil_of_le (show m.length ≤ i by omega), show z1l [] = [] from rfl, List.append_nil]
  simp (disch := omega) only [z0p, Xk, Yr, Zs, Yz, Xa, Yq, Yx, Yp, Zt, Zq, Zh, Ks, Kt, decide_true, Zx, Zd, Zn, Ya, Zj, Nat.zero_add, Bool.and_true, Bool.true_and, cond_true, cond_false, Bool.not_true, Bool.not_false, Zm, Zb, Zk, Vw, Xp, hw]
 | k + 1, i, out, h, ho => by
  obtain ⟨N, hN⟩ := w7q l m hl hm k (i + 1) (out ++ z1l [rd m i]) (by omega) (by rw [List.length_append, Qu]; simp; omega)
  refine ⟨N + 1, ?_⟩
  rw [y1p m i (by omega), ← List.append_assoc, Zv]
  simp (disch := omega) only [z0p, Xk, Yr, Zs, Yz, Xa, Yq, Yx, Yp, Zt, Zq, Zh, Ks, Kt, decide_true, Zx, Zd, Zn, Ya, Zj, Nat.zero_add, Bool.and_true, Bool.true_and, cond_true, cond_false, Bool.not_true, Bool.not_false, Zm, Zb, Zk, Vw, Xp]
  exact hN
theorem w7r (l m : List R4) (hl : l.length ≤ 10000) (hm : m.length ≤ 10000) : ∀ (k i : Nat) (out : List Int), i + k = l.length → out.length = 2 * i → ∃ N, Yv (z0p l m) N (.to (.h0 out (i : Int))) = .ret [.dat (z0l (out ++ z1l (l.drop i) ++ z1l m)).length (Zz (z0l (out ++ z1l (l.drop i) ++ z1l m)))]
 | 0, i, out, h, ho => by
  obtain ⟨N, hN⟩ := w7q l m hl hm m.length 0 out (Nat.zero_add _) (by omega)
  refine ⟨N + 1, ?_⟩
  rw [Zv, List.drop_eq_nil_of_le (show l.length ≤ i by omega), show z1l [] = [] from rfl, List.append_nil]
  simp (disch := omega) only [z0p, Xk, Yr, Zs, Yz, Xa, Yq, Yx, Yp, Zt, Zq, Zh, Ks, Kt, decide_true, Zx, Zd, Zn, Ya, Zj, Nat.zero_add, Bool.and_true, Bool.true_and, cond_true, cond_false, Bool.not_true, Bool.not_false, Zm, Zb, Zk, Vw, Xp]
  exact hN
 | k + 1, i, out, h, ho => by
  obtain ⟨N, hN⟩ := w7r l m hl hm k (i + 1) (out ++ z1l [rd l i]) (by omega) (by rw [List.length_append, Qu]; simp; omega)
  refine ⟨N + 1, ?_⟩
  rw [y1p l i (by omega), ← List.append_assoc, Zv]
  simp (disch := omega) only [z0p, Xk, Yr, Zs, Yz, Xa, Yq, Yx, Yp, Zt, Zq, Zh, Ks, Kt, decide_true, Zx, Zd, Zn, Ya, Zj, Nat.zero_add, Bool.and_true, Bool.true_and, cond_true, cond_false, Bool.not_true, Bool.not_false, Zm, Zb, Zk, Vw, Xp]
  exact hN
theorem v1n (l m : List R4) (h : z7n l m = true) : ∃ N, Yv (z0p l m) N (z7x l m) = .ret [.dat (xsV l m).length (Zz (xsV l m))] := by
 obtain ⟨h1, h2⟩ := of_decide_eq_true h
 have := w7r l m h1 h2 l.length 0 [] (Nat.zero_add _) rfl
 simpa [z7x, xsV] using this
def ysV (l m : List R4) : List Int := z0l (z0j l ++ z0j m)
def z7m (l m : List R4) : Bool := decide (l.length ≤ 10000 ∧ m.length ≤ 10000)
theorem Qv (l : List R4) : (z0j l).length = 2 * l.length := by
 induction l with
 | nil => rfl
 | cons r l ih => show (_ :: _ :: z0j l).length = _; simp only [List.length_cons, ih]; omega
theorem y1o (l : List R4) (i : Nat) (h : i < l.length) : z0j (l.drop i) = z0j [rd l i] ++ z0j (l.drop (i + 1)) := by
 rw [Yf h]; rfl
theorem w7o (l m : List R4) (hl : l.length ≤ 10000) (hm : m.length ≤ 10000) : ∀ (k i : Nat) (out : List Int), i + k = m.length → out.length = 2 * l.length + 2 * i → ∃ N, Yv (z0o l m) N (.to (.h1 out (i : Int))) = .ret [.dat (z0l (out ++ z0j (m.drop i))).length (Zz (z0l (out ++ z0j (m.drop i))))]
 | 0, i, out, h, ho => by
  refine ⟨1, ?_⟩
  have hw : Je out = true := decide_eq_true (by omega)
  rw [Zv, List.drop_eq_nil_of_le (show m.length ≤ i by omega), show z0j [] = [] from rfl, List.append_nil]
  simp (disch := omega) only [z0o, Xk, Yr, Zs, Yz, Xa, Yq, Yx, Yp, Zt, Zq, Zh, Ks, Kt, decide_true, Zx, Zd, Zn, Ya, Zj, Nat.zero_add, Bool.and_true, Bool.true_and, cond_true, cond_false, Bool.not_true, Bool.not_false, Zm, Zb, Zk, Vw, Xp, hw]
 | k + 1, i, out, h, ho => by
  obtain ⟨N, hN⟩ := w7o l m hl hm k (i + 1) (out ++ z0j [rd m i]) (by omega) (by rw [List.length_append, Qv]; simp; omega)
  refine ⟨N + 1, ?_⟩
  rw [y1o m i (by omega), ← List.append_assoc, Zv]
  simp (disch := omega) only [z0o, Xk, Yr, Zs, Yz, Xa, Yq, Yx, Yp, Zt, Zq, Zh, Ks, Kt, decide_true, Zx, Zd, Zn, Ya, Zj, Nat.zero_add, Bool.and_true, Bool.true_and, cond_true, cond_false, Bool.not_true, Bool.not_false, Zm, Zb, Zk, Vw, Xp]
  exact hN
theorem w7p (l m : List R4) (hl : l.length ≤ 10000) (hm : m.length ≤ 10000) : ∀ (k i : Nat) (out : List Int), i + k = l.length → out.length = 2 * i → ∃ N, Yv (z0o l m) N (.to (.h0 out (i : Int))) = .ret [.dat (z0l (out ++ z0j (l.drop i) ++ z0j m)).length (Zz (z0l (out ++ z0j (l.drop i) ++ z0j m)))]
 | 0, i, out, h, ho => by
  obtain ⟨N, hN⟩ := w7o l m hl hm m.length 0 out (Nat.zero_add _) (by omega)
  refine ⟨N + 1, ?_⟩
  rw [Zv, List.drop_eq_nil_of_le (show l.length ≤ i by omega), show z0j [] = [] from rfl, List.append_nil]
  simp (disch := omega) only [z0o, Xk, Yr, Zs, Yz, Xa, Yq, Yx, Yp, Zt, Zq, Zh, Ks, Kt, decide_true, Zx, Zd, Zn, Ya, Zj, Nat.zero_add, Bool.and_true, Bool.true_and, cond_true, cond_false, Bool.not_true, Bool.not_false, Zm, Zb, Zk, Vw, Xp]
  exact hN
 | k + 1, i, out, h, ho => by
  obtain ⟨N, hN⟩ := w7p l m hl hm k (i + 1) (out ++ z0j [rd l i]) (by omega) (by rw [List.length_append, Qv]; simp; omega)
  refine ⟨N + 1, ?_⟩
  rw [y1o l i (by omega), ← List.append_assoc, Zv]
  simp (disch := omega) only [z0o, Xk, Yr, Zs, Yz, Xa, Yq, Yx, Yp, Zt, Zq, Zh, Ks, Kt, decide_true, Zx, Zd, Zn, Ya, Zj, Nat.zero_add, Bool.and_true, Bool.true_and, cond_true, cond_false, Bool.not_true, Bool.not_false, Zm, Zb, Zk, Vw, Xp]
  exact hN
theorem v1m (l m : List R4) (h : z7m l m = true) : ∃ N, Yv (z0o l m) N (z7w l m) = .ret [.dat (ysV l m).length (Zz (ysV l m))] := by
 obtain ⟨h1, h2⟩ := of_decide_eq_true h
 have := w7p l m h1 h2 l.length 0 [] (Nat.zero_add _) rfl
 simpa [z7w, ysV] using this
def Ys (l m : List R6) : List Int := z0l (z1k l ++ z1k m)
def z5h (l m : List R6) : Bool := decide (l.length ≤ 10000 ∧ m.length ≤ 10000)
theorem Qw (l : List R6) : (z1k l).length = 2 * l.length := by
 induction l with
 | nil => rfl
 | cons r l ih => show (_ :: _ :: z1k l).length = _; simp only [List.length_cons, ih]; omega
theorem y1l (l : List R6) (i : Nat) (h : i < l.length) : z1k (l.drop i) = z1k [rd l i] ++ z1k (l.drop (i + 1)) := by
 rw [Yf h]; rfl
theorem x8k (l m : List R6) (hl : l.length ≤ 10000) (hm : m.length ≤ 10000) : ∀ (k i : Nat) (out : List Int), i + k = m.length → out.length = 2 * l.length + 2 * i → ∃ N, Yv (Kx l m) N (.to (.h1 out (i : Int))) = .ret [.dat (z0l (out ++ z1k (m.drop i))).length (Zz (z0l (out ++ z1k (m.drop i))))]
 | 0, i, out, h, ho => by
  refine ⟨1, ?_⟩
  have hw : Je out = true := decide_eq_true (by omega)
  rw [Zv, List.drop_eq_nil_of_le (show m.length ≤ i by omega), show z1k [] = [] from rfl, List.append_nil]
  simp (disch := omega) only [Kx, Xk, Yr, Zs, Yz, Xa, Yq, Yx, Yp, Zt, Zq, Zh, Ks, Kt, decide_true, Zx, Zd, Zn, Ya, Zj, Nat.zero_add, Bool.and_true, Bool.true_and, cond_true, cond_false, Bool.not_true, Bool.not_false, Zm, Zb, Zk, Vw, Xp, hw]
 | k + 1, i, out, h, ho => by
  obtain ⟨N, hN⟩ := x8k l m hl hm k (i + 1) (out ++ z1k [rd m i]) (by omega) (by rw [List.length_append, Qw]; simp; omega)
  refine ⟨N + 1, ?_⟩
  rw [y1l m i (by omega), ← List.append_assoc, Zv]
  simp (disch := omega) only [Kx, Xk, Yr, Zs, Yz, Xa, Yq, Yx, Yp, Zt, Zq, Zh, Ks, Kt, decide_true, Zx, Zd, Zn, Ya, Zj, Nat.zero_add, Bool.and_true, Bool.true_and, cond_true, cond_false, Bool.not_true, Bool.not_false, Zm, Zb, Zk, Vw, Xp]
  exact hN
theorem x8l (l m : List R6) (hl : l.length ≤ 10000) (hm : m.length ≤ 10000) : ∀ (k i : Nat) (out : List Int), i + k = l.length → out.length = 2 * i → ∃ N, Yv (Kx l m) N (.to (.h0 out (i : Int))) = .ret [.dat (z0l (out ++ z1k (l.drop i) ++ z1k m)).length (Zz (z0l (out ++ z1k (l.drop i) ++ z1k m)))]
 | 0, i, out, h, ho => by
  obtain ⟨N, hN⟩ := x8k l m hl hm m.length 0 out (Nat.zero_add _) (by omega)
  refine ⟨N + 1, ?_⟩
  rw [Zv, List.drop_eq_nil_of_le (show l.length ≤ i by omega), show z1k [] = [] from rfl, List.append_nil]
  simp (disch := omega) only [Kx, Xk, Yr, Zs, Yz, Xa, Yq, Yx, Yp, Zt, Zq, Zh, Ks, Kt, decide_true, Zx, Zd, Zn, Ya, Zj, Nat.zero_add, Bool.and_true, Bool.true_and, cond_true, cond_false, Bool.not_true, Bool.not_false, Zm, Zb, Zk, Vw, Xp]
  exact hN
 | k + 1, i, out, h, ho => by
  obtain ⟨N, hN⟩ := x8l l m hl hm k (i + 1) (out ++ z1k [rd l i]) (by omega) (by rw [List.length_append, Qw]; simp; omega)
  refine ⟨N + 1, ?_⟩
  rw [y1l l i (by omega), ← List.append_assoc, Zv]
  simp (disch := omega) only [Kx, Xk, Yr, Zs, Yz, Xa, Yq, Yx, Yp, Zt, Zq, Zh, Ks, Kt, decide_true, Zx, Zd, Zn, Ya, Zj, Nat.zero_add, Bool.and_true, Bool.true_and, cond_true, cond_false, Bool.not_true, Bool.not_false, Zm, Zb, Zk, Vw, Xp]
  exact hN
theorem w3e (l m : List R6) (h : z5h l m = true) : ∃ N, Yv (Kx l m) N (z4k l m) = .ret [.dat (Ys l m).length (Zz (Ys l m))] := by
 obtain ⟨h1, h2⟩ := of_decide_eq_true h
 have := x8l l m h1 h2 l.length 0 [] (Nat.zero_add _) rfl
 simpa [z4k, Ys] using this
def fXs : List AVal → Option (AVal × Bool)
 | [a0, a1] => match asL R4 a0, asL R4 a1 with
  | some (L0, g0, n0), some (L1, g1, n1) => some (.dat (xsV L0 L1).length (Zz (xsV L0 L1)), isT R4 n0 g0 && (isT R4 n1 g1 && (z7n L0 L1)))
  | _, _ => none
 | _ => none
theorem fXs_ok {S : Specs} (hS : Zu prog S) : Zu prog (S.with nXs fXs) := by
 refine z1m hS (by kernel_rfl) fun args v h => ?_
 unfold fXs at h
 split at h
 ·rename_i a0 a1
  split at h
  ·rename_i L0 g0 n0 L1 g1 n1 e0 e1
   simp only [Option.some.injEq, Prod.mk.injEq, Bool.and_eq_true] at h
   obtain ⟨rfl, ho0, ho1, hw⟩ := h
   obtain ⟨N, hN⟩ := v1n L0 L1 hw
   exact ⟨_, _, (.cons (Yh e0 ho0) (.cons (Yh e1 ho1) .nil)), rfl, w2q L0 L1 N _ hN, 3, rfl⟩
  ·cases h
 ·cases h
def fYs : List AVal → Option (AVal × Bool)
 | [a0, a1] => match asL R4 a0, asL R4 a1 with
  | some (L0, g0, n0), some (L1, g1, n1) => some (.dat (ysV L0 L1).length (Zz (ysV L0 L1)), isT R4 n0 g0 && (isT R4 n1 g1 && (z7m L0 L1)))
  | _, _ => none
 | _ => none
theorem fYs_ok {S : Specs} (hS : Zu prog S) : Zu prog (S.with nYs fYs) := by
 refine z1m hS (by kernel_rfl) fun args v h => ?_
 unfold fYs at h
 split at h
 ·rename_i a0 a1
  split at h
  ·rename_i L0 g0 n0 L1 g1 n1 e0 e1
   simp only [Option.some.injEq, Prod.mk.injEq, Bool.and_eq_true] at h
   obtain ⟨rfl, ho0, ho1, hw⟩ := h
   obtain ⟨N, hN⟩ := v1m L0 L1 hw
   exact ⟨_, _, (.cons (Yh e0 ho0) (.cons (Yh e1 ho1) .nil)), rfl, w2p L0 L1 N _ hN, 3, rfl⟩
  ·cases h
 ·cases h
def v4v : List AVal → Option (AVal × Bool)
 | [a0, a1] => match asL R6 a0, asL R6 a1 with
  | some (L0, g0, n0), some (L1, g1, n1) => some (.dat (Ys L0 L1).length (Zz (Ys L0 L1)), isT R6 n0 g0 && (isT R6 n1 g1 && (z5h L0 L1)))
  | _, _ => none
 | _ => none
theorem w5k {S : Specs} (hS : Zu prog S) : Zu prog (S.with nCuts v4v) := by
 refine z1m hS (by kernel_rfl) fun args v h => ?_
 unfold v4v at h
 split at h
 ·rename_i a0 a1
  split at h
  ·rename_i L0 g0 n0 L1 g1 n1 e0 e1
   simp only [Option.some.injEq, Prod.mk.injEq, Bool.and_eq_true] at h
   obtain ⟨rfl, ho0, ho1, hw⟩ := h
   obtain ⟨N, hN⟩ := w3e L0 L1 hw
   exact ⟨_, _, (.cons (Yh e0 ho0) (.cons (Yh e1 ho1) .nil)), rfl, x8m L0 L1 N _ hN, 3, rfl⟩
  ·cases h
 ·cases h
def T2 : Specs := ((T1.with nXs fXs).with nYs fYs).with nCuts v4v
theorem z6l : Zu prog T2 := w5k (fYs_ok (fXs_ok z1g))
end Go.Am
namespace Go.Am
open Go.Proofs.Tryz
open Go.Proofs
inductive rjoS where
 | h0 (v9 : List R4) (v10 : List R2) (v11 : Int) (v12 : Int)
 | h1 (v9 : List R4) (v10 : List R2) (v11 : Int) (v12 : Int) (v13 : List Bool) (v14 : Int)
 | h2 (v9 : List R4) (v10 : List R2) (v11 : Int) (v12 : Int) (v15 : List R2) (v17 : Int)
 | h3 (v9 : List R4) (v10 : List R2) (v11 : Int) (v12 : Int) (v16 : Int)
def rjoC (x0 : Int) (l1 : List R4) (l2 : List R4) : rjoS → Cfg
 | .h0 v9 v10 v11 v12 => ⟨⟨121, 0, true⟩, none, (Zg prog 115 [1, 1, 1, 1, 1, 0, 1, 0, 0] 0), none, (Zy prog 4), ⟨Yj [(0, (ii x0)), (1, (.dat l1.length (Zz l1))), (2, (.dat l2.length (Zz l2))), (7, (.dat (xsV (cvT l1) (cvT l2)).length (Zz (xsV (cvT l1) (cvT l2))))), (8, (.dat (ysV (cvT l1) (cvT l2)).length (Zz (ysV (cvT l1) (cvT l2))))), (9, (.sla 0 4 0 v9.length (.un 4))), (10, (.dat v10.length (Zz v10))), (11, (ii v11)), (12, (ii v12))], Vf [⟨rows v9.length (Zz v9), 114, some ⟨4, v9.length, (Zz v9)⟩⟩] 0, 1, [], true⟩, [], .leaf⟩
 | .h1 v9 v10 v11 v12 v13 v14 => ⟨⟨121, 0, true⟩, none, (Zg prog 115 [1, 1, 1, 1, 1, 0, 1, 0, 0, 1, 0, 0, 1, 0, 1, 0, 0] 0), none, (Zy prog 4), ⟨Yj [(0, (ii x0)), (1, (.dat l1.length (Zz l1))), (2, (.dat l2.length (Zz l2))), (7, (.dat (xsV (cvT l1) (cvT l2)).length (Zz (xsV (cvT l1) (cvT l2))))), (8, (.dat (ysV (cvT l1) (cvT l2)).length (Zz (ysV (cvT l1) (cvT l2))))), (9, (.sla 1 4 0 v9.length (.un 4))), (10, (.dat v10.length (Zz v10))), (11, (ii v11)), (12, (ii v12)), (13, (.sla 0 1 0 v13.length (.un 1))), (14, (ii v14))], Vf [⟨rows v13.length (Zz v13), 4, some ⟨1, v13.length, (Zz v13)⟩⟩, ⟨rows v9.length (Zz v9), 114, some ⟨4, v9.length, (Zz v9)⟩⟩] 0, 2, [], true⟩, [], .leaf⟩
 | .h2 v9 v10 v11 v12 v15 v17 => ⟨⟨121, 0, true⟩, none, (Zg prog 115 [1, 1, 1, 1, 1, 0, 1, 0, 0, 1, 0, 0, 1, 1, 1, 1, 1, 1, 0, 0] 0), none, (Zy prog 4), ⟨Yj [(0, (ii x0)), (1, (.dat l1.length (Zz l1))), (2, (.dat l2.length (Zz l2))), (7, (.dat (xsV (cvT l1) (cvT l2)).length (Zz (xsV (cvT l1) (cvT l2))))), (8, (.dat (ysV (cvT l1) (cvT l2)).length (Zz (ysV (cvT l1) (cvT l2))))), (9, (.sla 0 4 0 v9.length (.un 4))), (10, (.dat v10.length (Zz v10))), (11, (ii v11)), (12, (ii v12)), (15, (.dat v15.length (Zz v15))), (17, (ii v17))], Vf [⟨rows v9.length (Zz v9), 114, some ⟨4, v9.length, (Zz v9)⟩⟩] 0, 1, [], true⟩, [], .leaf⟩
 | .h3 v9 v10 v11 v12 v16 => ⟨⟨121, 0, true⟩, none, (Zg prog 115 [1, 1, 1, 1, 1, 0, 1, 0, 0, 1, 0, 0, 1, 1, 1, 0, 1, 0, 0, 1, 0, 0] 0), none, (Zy prog 4), ⟨Yj [(0, (ii x0)), (1, (.dat l1.length (Zz l1))), (2, (.dat l2.length (Zz l2))), (7, (.dat (xsV (cvT l1) (cvT l2)).length (Zz (xsV (cvT l1) (cvT l2))))), (8, (.dat (ysV (cvT l1) (cvT l2)).length (Zz (ysV (cvT l1) (cvT l2))))), (9, (.sla 0 4 0 v9.length (.un 4))), (10, (.dat v10.length (Zz v10))), (11, (ii v11)), (12, (ii v12)), (16, (ii v16))], Vf [⟨rows v9.length (Zz v9), 114, some ⟨4, v9.length, (Zz v9)⟩⟩] 0, 1, [], true⟩, [], .leaf⟩
def v2b : List (Option (List Nat)) := [some [0, 1, 2, 7, 8, 9, 10, 11, 12]]
def v2d : List (Option (List Nat)) := []
def rjoN1 : List (Option (List Nat)) := [some [0, 1, 2, 7, 8, 9, 10, 11, 12, 13, 14]]
def rjoM1 : List (Option (List Nat)) := []
def v2a : List (Option (List Nat)) := [some [0, 1, 2, 7, 8, 9, 10, 11, 12, 15, 17]]
def v2c : List (Option (List Nat)) := []
def rjoN3 : List (Option (List Nat)) := [some [0, 1, 2, 7, 8, 9, 10, 11, 12, 16]]
def rjoM3 : List (Option (List Nat)) := []
def Wo (x0 : Int) (l1 : List R4) (l2 : List R4) : rjoS → Xd rjoS
 | .h0 v9 v10 v11 v12 => (bif (decide ((IntKind.wrap .i64 (v12 + 1)) < (((xsV (cvT l1) (cvT l2)).length : Nat) : Int))) then (.to (.h1 v9 v10 v11 v12 ([] : List Bool) 0)) else (.ret [(.dat v9.length (Zz v9))]))
 | .h1 v9 v10 v11 v12 v13 v14 => (bif (decide (v14 < (((ysV (cvT l1) (cvT l2)).length : Nat) : Int))) then (bif (Ka (cvT l1) (rd (xsV (cvT l1) (cvT l2)) v12.toNat) (rd (ysV (cvT l1) (cvT l2)) v14.toNat)) then (bif ((decide (0 ≤ v12 ∧ v12 < (((xsV (cvT l1) (cvT l2)).length : Nat) : Int))) && true) then (bif ((decide (0 ≤ v14 ∧ v14 < (((ysV (cvT l1) (cvT l2)).length : Nat) : Int))) && true) then (bif (Ka (cvT l2) (rd (xsV (cvT l1) (cvT l2)) v12.toNat) (rd (ysV (cvT l1) (cvT l2)) v14.toNat)) then (bif (Nat.beq 1 1 && ((decide (0 + v13.length = v13.length)) && decide ((v13.length + 1 + 1) * (1 + 1) ≤ Jb))) then (.to (.h1 v9 v10 v11 v12 (v13 ++ [(Qg x0 (has4V (cvT l1) (rd (xsV (cvT l1) (cvT l2)) v12.toNat) (rd (ysV (cvT l1) (cvT l2)) v14.toNat)) (has4V (cvT l2) (rd (xsV (cvT l1) (cvT l2)) v12.toNat) (rd (ysV (cvT l1) (cvT l2)) v14.toNat)))]) (IntKind.wrap .i64 (v14 + 1)))) else .stuck) else .stuck) else .stuck) else .stuck) else .stuck) else (bif (z5j (cvT (ysV (cvT l1) (cvT l2))) (cvT v13)) then (bif (decide (v12 > 0)) then (bif (Vq (cvT (z7f (cvT (ysV (cvT l1) (cvT l2))) (cvT v13))) (cvT v10)) then (bif (Jf (cvT (z7f (cvT (ysV (cvT l1) (cvT l2))) (cvT v13))) (cvT v10)) then (.to (.h3 v9 v10 v11 v12 v11)) else (.to (.h2 v9 (z7f (cvT (ysV (cvT l1) (cvT l2))) (cvT v13)) (v9.length : Int) v12 (z7f (cvT (ysV (cvT l1) (cvT l2))) (cvT v13)) 0))) else .stuck) else (.to (.h2 v9 (z7f (cvT (ysV (cvT l1) (cvT l2))) (cvT v13)) (v9.length : Int) v12 (z7f (cvT (ysV (cvT l1) (cvT l2))) (cvT v13)) 0))) else .stuck))
 | .h2 v9 v10 v11 v12 v15 v17 => (bif (decide (v17 < (v15.length : Int))) then (bif ((decide (0 ≤ v12 ∧ v12 < (((xsV (cvT l1) (cvT l2)).length : Nat) : Int))) && true) then (bif ((decide (0 ≤ (IntKind.wrap .i64 (v12 + 1)) ∧ (IntKind.wrap .i64 (v12 + 1)) < (((xsV (cvT l1) (cvT l2)).length : Nat) : Int))) && true) then (bif ((decide (0 ≤ v17 ∧ v17 < (v15.length : Int))) && true) then (bif (Nat.beq 4 4 && ((decide (0 + v9.length = v9.length)) && decide ((v9.length + 1 + 1) * (32 + 1) ≤ Jb))) then (.to (.h2 (v9 ++ [(R4.mk (rd (xsV (cvT l1) (cvT l2)) v12.toNat) (rd v15 v17.toNat).a (rd (xsV (cvT l1) (cvT l2)) (Int.toNat (IntKind.wrap .i64 (v12 + 1)))) (rd v15 v17.toNat).b)]) v10 v11 v12 v15 (IntKind.wrap .i64 (v17 + 1)))) else .stuck) else .stuck) else .stuck) else .stuck) else (.to (.h0 v9 v10 v11 (IntKind.wrap .i64 (v12 + 1)))))
 | .h3 v9 v10 v11 v12 v16 => (bif (decide (v16 < (v9.length : Int))) then (bif ((decide (0 ≤ (IntKind.wrap .i64 (v12 + 1)) ∧ (IntKind.wrap .i64 (v12 + 1)) < (((xsV (cvT l1) (cvT l2)).length : Nat) : Int))) && true) then (bif ((decide (0 ≤ v16 ∧ v16 < (v9.length : Int))) && true) then (bif (decide ((0 + v16.toNat) < v9.length)) then (.to (.h3 (v9.set (0 + v16.toNat) (R4.mk (rd v9 (0 + v16.toNat)).a (rd v9 (0 + v16.toNat)).b (rd (xsV (cvT l1) (cvT l2)) (Int.toNat (IntKind.wrap .i64 (v12 + 1)))) (rd v9 (0 + v16.toNat)).d)) v10 v11 v12 (IntKind.wrap .i64 (v16 + 1)))) else .stuck) else .stuck) else .stuck) else (.to (.h0 v9 v10 v11 (IntKind.wrap .i64 (v12 + 1)))))
def z8b (x0 : Int) (l1 : List R4) (l2 : List R4) : Xd rjoS := (bif (z7n (cvT l1) (cvT l2)) then (bif (z7m (cvT l1) (cvT l2)) then (.to (.h0 ([] : List R4) ([] : List R2) 0 0)) else .stuck) else .stuck)
theorem x4f (x0 : Int) (l1 : List R4) (l2 : List R4) : ∀ s, Wj prog (Zy prog 115) (rjoC x0 l1 l2) (rjoC x0 l1 l2 s) (Wo x0 l1 l2 s)
 | .h0 v9 v10 v11 v12 => (lb (fun k0 => (sl z6l 24 [(4, 1, Zz ([] : List Bool))] ⟨[1, 0], [], rjoN1, rjoM1⟩ ⟨[(13, .grow 0 1)], [], []⟩ [true] (pp (fl ([] : List Bool) (fl v9 nn)) (tt k0 nn)))) (fun k0 => (lr 121 3 [1, 1, 1, 1, 1, 1, 0] 1 4 [(6, (.dat v9.length (Zz v9)))] (sl z6l 16 [] ⟨[], [0], [some [6]], []⟩ ⟨[(6, .frz v9.length v9.length (Zz v9) (Zz v9))], [], []⟩ [false] (pp (xZ (z4w 4 4 0 v9.length v9.length (Zz v9)) v9.length (Zz v9)) (pp (xL v9.length v9.length) (pp (xS v9.length (Zz v9) (Zz v9)) (pp (fl v9 nn) (tt k0 nn)))))))))
 | .h1 v9 v10 v11 v12 v13 v14 => (lb (fun k0 => (lo fun o0 => (lo fun o1 => (lo fun o2 => (lo fun o3 => (lo fun o4 => (sl z6l 20 [] ⟨[3, 1], [], rjoN1, rjoM1⟩ ⟨[(13, .len (v13 ++ [(Qg x0 (has4V (cvT l1) (rd (xsV (cvT l1) (cvT l2)) (tn v12)) (rd (ysV (cvT l1) (cvT l2)) (tn v14))) (has4V (cvT l2) (rd (xsV (cvT l1) (cvT l2)) (tn v12)) (rd (ysV (cvT l1) (cvT l2)) (tn v14))))]).length)], [.rowed 1 (v13 ++ [(Qg x0 (has4V (cvT l1) (rd (xsV (cvT l1) (cvT l2)) (tn v12)) (rd (ysV (cvT l1) (cvT l2)) (tn v14))) (has4V (cvT l2) (rd (xsV (cvT l1) (cvT l2)) (tn v12)) (rd (ysV (cvT l1) (cvT l2)) (tn v14))))]).length (Zz (v13 ++ [(Qg x0 (has4V (cvT l1) (rd (xsV (cvT l1) (cvT l2)) (tn v12)) (rd (ysV (cvT l1) (cvT l2)) (tn v14))) (has4V (cvT l2) (rd (xsV (cvT l1) (cvT l2)) (tn v12)) (rd (ysV (cvT l1) (cvT l2)) (tn v14))))])), .keep], []⟩ [true] (pp (xL (v13.length + 1) (v13 ++ [(Qg x0 (has4V (cvT l1) (rd (xsV (cvT l1) (cvT l2)) (tn v12)) (rd (ysV (cvT l1) (cvT l2)) (tn v14))) (has4V (cvT l2) (rd (xsV (cvT l1) (cvT l2)) (tn v12)) (rd (ysV (cvT l1) (cvT l2)) (tn v14))))]).length) (pp (xL (v13.length + 1) (v13 ++ [(Qg x0 (has4V (cvT l1) (rd (xsV (cvT l1) (cvT l2)) (tn v12)) (rd (ysV (cvT l1) (cvT l2)) (tn v14))) (has4V (cvT l2) (rd (xsV (cvT l1) (cvT l2)) (tn v12)) (rd (ysV (cvT l1) (cvT l2)) (tn v14))))]).length) (pp (xS (v13.length + 1) (Ze (Zz v13) 0 v13.length 1 [(.bool (Qg x0 (has4V (cvT l1) (rd (xsV (cvT l1) (cvT l2)) (tn v12)) (rd (ysV (cvT l1) (cvT l2)) (tn v14))) (has4V (cvT l2) (rd (xsV (cvT l1) (cvT l2)) (tn v12)) (rd (ysV (cvT l1) (cvT l2)) (tn v14)))))]) (Zz (v13 ++ [(Qg x0 (has4V (cvT l1) (rd (xsV (cvT l1) (cvT l2)) (tn v12)) (rd (ysV (cvT l1) (cvT l2)) (tn v14))) (has4V (cvT l2) (rd (xsV (cvT l1) (cvT l2)) (tn v12)) (rd (ysV (cvT l1) (cvT l2)) (tn v14))))]))) (pp (pp (xF (Ze (Zz v13) 0 v13.length 1 [(.bool (Qg x0 (has4V (cvT l1) (rd (xsV (cvT l1) (cvT l2)) (tn v12)) (rd (ysV (cvT l1) (cvT l2)) (tn v14))) (has4V (cvT l2) (rd (xsV (cvT l1) (cvT l2)) (tn v12)) (rd (ysV (cvT l1) (cvT l2)) (tn v14)))))])) (fl v9 nn)) (ww o4 (pp (pp (xr l2) (xw o3)) (ww o2 (ww o1 (pp (pp (xr l1) (xw o0)) (ww o2 (ww o1 (tt k0 nn))))))))))))))))))) (fun k0 => (Xi (sl z6l (C' := ⟨⟨121, 0, true⟩, (Vv prog 115 [1, 1, 1, 1, 1, 0, 1, 0, 0, 1, 0, 0, 1, 1, 0] 2), (Zg prog 115 [1, 1, 1, 1, 1, 0, 1, 0, 0, 1, 0, 0, 1, 1, 0] 1), none, (Zy prog 4), ⟨Yj [(0, (ii x0)), (1, (.dat l1.length (Zz l1))), (2, (.dat l2.length (Zz l2))), (7, (.dat (xsV (cvT l1) (cvT l2)).length (Zz (xsV (cvT l1) (cvT l2))))), (8, (.dat (ysV (cvT l1) (cvT l2)).length (Zz (ysV (cvT l1) (cvT l2))))), (9, (.sla 0 4 0 v9.length (.un 4))), (10, (.dat v10.length (Zz v10))), (11, (ii v11)), (12, (ii v12)), (62, (.dat (ysV (cvT l1) (cvT l2)).length (Zz (ysV (cvT l1) (cvT l2))))), (63, (.dat v13.length (Zz v13)))], Vf [⟨rows v9.length (Zz v9), 114, some ⟨4, v9.length, (Zz v9)⟩⟩] 0, 1, [], true⟩, [], .leaf⟩) 14 [] ⟨[1], [0], [some [0, 1, 2, 7, 8, 9, 10, 11, 12, 62, 63]], []⟩ ⟨[(63, .frz v13.length v13.length (Zz v13) (Zz v13))], [], []⟩ [false] (pp (xZ (z4w 1 1 0 v13.length v13.length (Zz v13)) v13.length (Zz v13)) (pp (xL v13.length v13.length) (pp (xS v13.length (Zz v13) (Zz v13)) (pp (fl v9 nn) (pp (fl v13 nn) (tt k0 nn))))))) (lo fun aH => (lb (fun k1 => (lo fun cL => (lb (fun k2 => (sl z6l 23 [] ⟨[0], [], rjoN3, rjoM3⟩ ⟨[], [], []⟩ (trs 4 []) (pp (fl v9 nn) (tt k2 (pp (pp (xI R2 (z7f (cvT (ysV (cvT l1) (cvT l2))) (cvT v13)).length (Zz (z7f (cvT (ysV (cvT l1) (cvT l2))) (cvT v13)))) (pp (xr v10) (xw cL))) (tt k1 (pp (pp (xI Int (ysV (cvT l1) (cvT l2)).length (Zz (ysV (cvT l1) (cvT l2)))) (pp (xr v13) (xw aH))) nn))))))) (fun k2 => (sl z6l 30 [] ⟨[0], [], v2a, v2c⟩ ⟨[], [], []⟩ (trs 3 [false]) (pp (fl v9 nn) (tt k2 (pp (pp (xI R2 (z7f (cvT (ysV (cvT l1) (cvT l2))) (cvT v13)).length (Zz (z7f (cvT (ysV (cvT l1) (cvT l2))) (cvT v13)))) (pp (xr v10) (xw cL))) (tt k1 (pp (pp (xI Int (ysV (cvT l1) (cvT l2)).length (Zz (ysV (cvT l1) (cvT l2)))) (pp (xr v13) (xw aH))) nn)))))))))) (fun k1 => (sl z6l 30 [] ⟨[0], [], v2a, v2c⟩ ⟨[], [], []⟩ [false, false, false, false] (pp (fl v9 nn) (tt k1 (pp (pp (xI Int (ysV (cvT l1) (cvT l2)).length (Zz (ysV (cvT l1) (cvT l2)))) (pp (xr v13) (xw aH))) nn))))))))))
 | .h2 v9 v10 v11 v12 v15 v17 => (lb (fun k0 => (lo fun o0 => (lo fun o1 => (lo fun o2 => (lo fun o3 => (sl z6l 20 [] ⟨[2], [], v2a, v2c⟩ ⟨[(9, .len (v9 ++ [(R4.mk (rd (xsV (cvT l1) (cvT l2)) (tn v12)) (rd v15 (tn v17)).a (rd (xsV (cvT l1) (cvT l2)) (tn (wr (v12 + 1)))) (rd v15 (tn v17)).b)]).length)], [.rowed 4 (v9 ++ [(R4.mk (rd (xsV (cvT l1) (cvT l2)) (tn v12)) (rd v15 (tn v17)).a (rd (xsV (cvT l1) (cvT l2)) (tn (wr (v12 + 1)))) (rd v15 (tn v17)).b)]).length (Zz (v9 ++ [(R4.mk (rd (xsV (cvT l1) (cvT l2)) (tn v12)) (rd v15 (tn v17)).a (rd (xsV (cvT l1) (cvT l2)) (tn (wr (v12 + 1)))) (rd v15 (tn v17)).b)]))], []⟩ [true] (pp (xL (v9.length + 1) (v9 ++ [(R4.mk (rd (xsV (cvT l1) (cvT l2)) (tn v12)) (rd v15 (tn v17)).a (rd (xsV (cvT l1) (cvT l2)) (tn (wr (v12 + 1)))) (rd v15 (tn v17)).b)]).length) (pp (xL (v9.length + 1) (v9 ++ [(R4.mk (rd (xsV (cvT l1) (cvT l2)) (tn v12)) (rd v15 (tn v17)).a (rd (xsV (cvT l1) (cvT l2)) (tn (wr (v12 + 1)))) (rd v15 (tn v17)).b)]).length) (pp (xS (v9.length + 1) (Ze (Zz v9) 0 v9.length 4 [(ii (rd (xsV (cvT l1) (cvT l2)) (tn v12))), (ii (rd v15 (tn v17)).a), (ii (rd (xsV (cvT l1) (cvT l2)) (tn (wr (v12 + 1))))), (ii (rd v15 (tn v17)).b)]) (Zz (v9 ++ [(R4.mk (rd (xsV (cvT l1) (cvT l2)) (tn v12)) (rd v15 (tn v17)).a (rd (xsV (cvT l1) (cvT l2)) (tn (wr (v12 + 1)))) (rd v15 (tn v17)).b)]))) (pp (pp (xF (Ze (Zz v9) 0 v9.length 4 [(ii (rd (xsV (cvT l1) (cvT l2)) (tn v12))), (ii (rd v15 (tn v17)).a), (ii (rd (xsV (cvT l1) (cvT l2)) (tn (wr (v12 + 1))))), (ii (rd v15 (tn v17)).b)])) nn) (ww o3 (ww o2 (ww o1 (ww o2 (ww o0 (tt k0 nn)))))))))))))))) (fun k0 => (sl z6l 17 [] ⟨[0], [], v2b, v2d⟩ ⟨[], [], []⟩ [false] (pp (fl v9 nn) (tt k0 nn)))))
 | .h3 v9 v10 v11 v12 v16 => (lb (fun k0 => (lo fun o0 => (lo fun o1 => (lo fun o2 => (sl z6l 31 [] ⟨[0], [], rjoN3, rjoM3⟩ ⟨[(9, .len (v9.set (0 + (tn v16)) (R4.mk (rd v9 (0 + (tn v16))).a (rd v9 (0 + (tn v16))).b (rd (xsV (cvT l1) (cvT l2)) (tn (wr (v12 + 1)))) (rd v9 (0 + (tn v16))).d)).length)], [.rowed 4 (v9.set (0 + (tn v16)) (R4.mk (rd v9 (0 + (tn v16))).a (rd v9 (0 + (tn v16))).b (rd (xsV (cvT l1) (cvT l2)) (tn (wr (v12 + 1)))) (rd v9 (0 + (tn v16))).d)).length (Zz (v9.set (0 + (tn v16)) (R4.mk (rd v9 (0 + (tn v16))).a (rd v9 (0 + (tn v16))).b (rd (xsV (cvT l1) (cvT l2)) (tn (wr (v12 + 1)))) (rd v9 (0 + (tn v16))).d)))], []⟩ [true] (pp (xL v9.length (v9.set (0 + (tn v16)) (R4.mk (rd v9 (0 + (tn v16))).a (rd v9 (0 + (tn v16))).b (rd (xsV (cvT l1) (cvT l2)) (tn (wr (v12 + 1)))) (rd v9 (0 + (tn v16))).d)).length) (pp (xL v9.length (v9.set (0 + (tn v16)) (R4.mk (rd v9 (0 + (tn v16))).a (rd v9 (0 + (tn v16))).b (rd (xsV (cvT l1) (cvT l2)) (tn (wr (v12 + 1)))) (rd v9 (0 + (tn v16))).d)).length) (pp (xS v9.length (Xf (Zz v9) (0 + (tn v16)) 2 [(ii (rd (xsV (cvT l1) (cvT l2)) (tn (wr (v12 + 1)))))]) (Zz (v9.set (0 + (tn v16)) (R4.mk (rd v9 (0 + (tn v16))).a (rd v9 (0 + (tn v16))).b (rd (xsV (cvT l1) (cvT l2)) (tn (wr (v12 + 1)))) (rd v9 (0 + (tn v16))).d)))) (pp (pp (xF (Xf (Zz v9) (0 + (tn v16)) 2 [(ii (rd (xsV (cvT l1) (cvT l2)) (tn (wr (v12 + 1)))))])) nn) (ww o2 (ww o1 (ww o0 (tt k0 nn))))))))))))) (fun k0 => (sl z6l 17 [] ⟨[0], [], v2b, v2d⟩ ⟨[], [], []⟩ [false] (pp (fl v9 nn) (tt k0 nn)))))
theorem y8j (x0 : Int) (l1 : List R4) (l2 : List R4) : Wj prog (Zy prog 115) (rjoC x0 l1 l2) (Zf prog 115 [(.int .i64 x0), (.dat l1.length (Zz l1)), (.dat l2.length (Zz l2))] true []) (z8b x0 l1 l2) := (lo fun o0 => (lo fun o1 => (sl z6l 34 [(114, 4, Zz ([] : List R4))] ⟨[0], [], v2b, v2d⟩ ⟨[(9, .grow 0 4), (10, .list 0 (Zz ([] : List R2)))], [], []⟩ [] (pp (fl ([] : List R4) nn) (pp (pp (xr l1) (pp (xr l2) (xw o1))) (pp (pp (xr l1) (pp (xr l2) (xw o0))) nn))))))
theorem w2z (x0 : Int) (l1 : List R4) (l2 : List R4) (n : Nat) (vs : List AVal) (h : Yv (Wo x0 l1 l2) n (z8b x0 l1 l2) = .ret vs) : Jo prog (Zy prog 115) (Zf prog 115 [(.int .i64 x0), (.dat l1.length (Zz l1)), (.dat l2.length (Zz l2))] true []) vs := by
 have := Zo (x4f x0 l1 l2) n _ (y8j x0 l1 l2)
 rwa [h] at this
end Go.Am
namespace Go.Am
open Go.Proofs
theorem z0f : ∀ (l out : List Int), (l.foldl z9v out).length ≤ out.length + l.length
 | [], out => Nat.le_refl _
 | x :: l, out => Nat.le_trans (z0f l (z9v out x)) (by have := z9u out x; simp; omega)
theorem z3g (l : List Int) : (z0l l).length ≤ l.length := by
 have := z0f l []
 simpa [z0l] using this
theorem y0n (cuts : List Int) (ins : List Bool) : ∀ (k i : Nat) (out : List R2), (x6n cuts ins k i out).length ≤ out.length + k
 | 0, _, out => Nat.le_refl _
 | k + 1, i, out => by
  unfold x6n
  refine Nat.le_trans (y0n cuts ins k (i + 1) _) ?_
  cases rd ins i
  ·simp only [cond_false]; omega
  ·simp only [cond_true]
   cases (decide (0 < out.length) && ((rd out (out.length - 1)).b == rd cuts i)) <;> simp <;> omega
theorem x0v (cuts : List Int) (ins : List Bool) : (z7f cuts ins).length ≤ cuts.length := by
 have := y0n cuts ins (cuts.length - 1) 0 []
 unfold z7f
 simp only [List.length_nil] at this
 omega
section
variable (kind : Int) (l m : List R4)
def w6p (x : Int) (y : Int) : Bool := Qg kind (has4V l x y) (has4V m x y)
def x1m (x : Int) : List R2 := z7f (ysV l m) ((ysV l m).map (w6p kind l m x))
def w1w (out : List R4) (first : Nat) (x : Int) : List R4 := out.take first ++ (out.drop first).map fun r => ⟨r.a, r.b, x, r.d⟩
def v2n (x x' : Int) (s : List R2) : List R4 := s.map fun p => ⟨x, p.a, x', p.b⟩
def jF : Nat → Nat → List R4 → List R2 → Nat → List R4
 | 0, _, out, _, _ => out
 | k + 1, i, out, last, first =>
  bif decide (0 < i) && Jf (x1m kind l m (rd (xsV l m) i)) last then jF k (i + 1) (w1w out first (rd (xsV l m) (i + 1))) last first
  else jF k (i + 1) (out ++ v2n (rd (xsV l m) i) (rd (xsV l m) (i + 1)) (x1m kind l m (rd (xsV l m) i))) (x1m kind l m (rd (xsV l m) i)) out.length
def joV : List R4 := jF kind l m ((xsV l m).length - 1) 0 [] [] 0
end
def Qm (_ : Int) (l m : List R4) : Bool := decide (l.length ≤ 10000 ∧ m.length ≤ 10000)
theorem Jj (l m : List R4) : (xsV l m).length ≤ 2 * l.length + 2 * m.length := by
 refine Nat.le_trans (z3g _) ?_
 rw [List.length_append, Qu, Qu]; omega
theorem y1m (l m : List R4) : (ysV l m).length ≤ 2 * l.length + 2 * m.length := by
 refine Nat.le_trans (z3g _) ?_
 rw [List.length_append, Qv, Qv]; omega
section
variable (kind : Int) (l m : List R4) (hl : l.length ≤ 10000) (hm : m.length ≤ 10000)
include hl hm
theorem w8e (out : List R4) (last : List R2) (first : Int) (i : Nat) (hi : i + 1 < (xsV l m).length) : ∀ (k j : Nat) (acc : List Bool), j + k = (ysV l m).length → acc.length = j →
  ∃ n, ∀ N, Yv (Wo kind l m) (N + n) (.to (.h1 out last first (i : Int) acc (j : Int))) = Yv (Wo kind l m) N (.to (.h1 out last first (i : Int) (acc ++ ((ysV l m).drop j).map (w6p kind l m (rd (xsV l m) i))) ((ysV l m).length : Int)))
 | 0, j, acc, h, ha => by
  refine ⟨0, fun N => ?_⟩
  rw [List.drop_eq_nil_of_le (by omega), List.map_nil, List.append_nil, Nat.add_zero]
  rw [show j = (ysV l m).length by omega]
 | k + 1, j, acc, h, ha => by
  have hx := Jj l m
  have hy := y1m l m
  obtain ⟨n, hn⟩ := w8e out last first i hi k (j + 1) (acc ++ [w6p kind l m (rd (xsV l m) i) (rd (ysV l m) j)]) (by omega) (by simp [ha])
  refine ⟨n + 1, fun N => ?_⟩
  have w1 : ∀ x y, Ka l x y = true := fun x y => decide_eq_true (by omega)
  have w2 : ∀ x y, Ka m x y = true := fun x y => decide_eq_true (by omega)
  rw [Yf (show j < (ysV l m).length by omega), List.map_cons, ← Nat.add_assoc, Zv]
  simp (disch := omega) only [Wo, Zb, Zk, w1, w2, Zs, Zt, Yx, Yp, Zh, Zq, Zx, Ya, Zj, Nat.zero_add, decide_true, Bool.and_true, Bool.true_and, cond_true]
  have := hn N
  rw [List.append_assoc] at this
  exact this
theorem w8d (last : List R2) (first : Int) (i : Nat) (hi : i + 1 < (xsV l m).length) (s : List R2) (hs : s.length ≤ 1000000) : ∀ (k j : Nat) (out : List R4), j + k = s.length → out.length ≤ 10000000000 + j →
  ∃ n, ∀ N, Yv (Wo kind l m) (N + n) (.to (.h2 out last first (i : Int) s (j : Int))) = Yv (Wo kind l m) N (.to (.h0 (out ++ v2n (rd (xsV l m) i) (rd (xsV l m) (i + 1)) (s.drop j)) last first ((i + 1 : Nat) : Int)))
 | 0, j, out, h, ho => by
  have hx := Jj l m
  refine ⟨1, fun N => ?_⟩
  rw [List.drop_eq_nil_of_le (by omega), Zv]
  simp (disch := omega) only [Wo, Zb, Zk, Yz, Zq, Zx, cond_false, v2n, List.map_nil, List.append_nil]
 | k + 1, j, out, h, ho => by
  have hx := Jj l m
  obtain ⟨n, hn⟩ := w8d last first i hi s hs k (j + 1) (out ++ v2n (rd (xsV l m) i) (rd (xsV l m) (i + 1)) [rd s j]) (by omega) (by simp [v2n]; omega)
  refine ⟨n + 1, fun N => ?_⟩
  have := hn N
  rw [Yf (show j < s.length by omega), ← Nat.add_assoc, Zv]
  simp (disch := omega) only [Wo, Zb, Zk, Zs, Zt, Yx, Yp, Zh, Zq, Zx, Ya, Zj, Nat.zero_add, decide_true, Bool.and_true, Bool.true_and, cond_true]
  rw [List.append_assoc] at this
  exact this
theorem w5n (out : List R4) (j : Nat) (x : Int) (h : j < out.length) : w1w (out.set j ⟨(rd out j).a, (rd out j).b, x, (rd out j).d⟩) (j + 1) x = w1w out j x := by
 have _uhl := hl
 have _uhm := hm
 unfold w1w
 rw [Yf h, List.map_cons]
 have e1 : (out.set j ⟨(rd out j).a, (rd out j).b, x, (rd out j).d⟩).take (j + 1) = out.take j ++ [⟨(rd out j).a, (rd out j).b, x, (rd out j).d⟩] := by
  apply List.ext_getElem
  ·simp; omega
  ·intro n h1 h2
   simp only [List.getElem_take, List.getElem_set]
   by_cases e : j = n
   ·subst e
    rw [if_pos rfl, List.getElem_append_right (by simp only [List.length_take]; omega)]
    simp
   ·rw [if_neg e, List.getElem_append_left (by simp at h1 ⊢; omega), List.getElem_take]
 have e2 : (out.set j ⟨(rd out j).a, (rd out j).b, x, (rd out j).d⟩).drop (j + 1) = out.drop (j + 1) := by
  rw [List.drop_set]; rw [if_pos (by omega)]
 rw [e1, e2, List.append_assoc]; rfl
theorem w8c (last : List R2) (first : Int) (i : Nat) (hi : i + 1 < (xsV l m).length) : ∀ (k j : Nat) (out : List R4), j + k = out.length → out.length ≤ 10000000000 →
  ∃ n, ∀ N, Yv (Wo kind l m) (N + n) (.to (.h3 out last first (i : Int) (j : Int))) = Yv (Wo kind l m) N (.to (.h0 (w1w out j (rd (xsV l m) (i + 1))) last first ((i + 1 : Nat) : Int)))
 | 0, j, out, h, ho => by
  have hx := Jj l m
  refine ⟨1, fun N => ?_⟩
  have e : w1w out j (rd (xsV l m) (i + 1)) = out := by
   unfold w1w; rw [List.drop_eq_nil_of_le (by omega), List.map_nil, List.append_nil, List.take_of_length_le (by omega)]
  rw [e, Zv]
  simp (disch := omega) only [Wo, Zb, Zk, Yz, Zq, Zx, cond_false]
 | k + 1, j, out, h, ho => by
  have hx := Jj l m
  obtain ⟨n, hn⟩ := w8c last first i hi k (j + 1) (out.set j ⟨(rd out j).a, (rd out j).b, rd (xsV l m) (i + 1), (rd out j).d⟩) (by simp; omega) (by simpa using ho)
  refine ⟨n + 1, fun N => ?_⟩
  have := hn N
  rw [w5n l m hl hm out j _ (by omega)] at this
  rw [← Nat.add_assoc, Zv]
  simp (disch := omega) only [Wo, Zb, Zk, Zs, Zt, Yq, Yx, Yp, Zh, Zq, Zx, Ya, Zj, Nat.zero_add, decide_true, Bool.and_true, Bool.true_and, cond_true]
  exact this
theorem x7z : ∀ (k i : Nat) (out : List R4) (last : List R2) (first : Nat), k = (xsV l m).length - 1 - i → i ≤ (xsV l m).length → out.length ≤ i * 40000 → last.length ≤ 40000 → first ≤ out.length →
  ∃ n, Yv (Wo kind l m) n (.to (.h0 out last (first : Int) (i : Int))) = .ret [.dat (jF kind l m k i out last first).length (Zz (jF kind l m k i out last first))]
 | 0, i, out, last, first, h, hi, ho, hla, hf => by
  have hx := Jj l m
  refine ⟨1, ?_⟩
  rw [Zv]
  simp (disch := omega) only [Wo, Zb, Zk, Yz, Zq, Zx, cond_false, Zm, jF]
 | k + 1, i, out, last, first, h, hi, ho, hla, hf => by
  have hx := Jj l m
  have hy := y1m l m
  have hi1 : i + 1 < (xsV l m).length := by omega
  have hsl : (x1m kind l m (rd (xsV l m) i)).length ≤ 40000 := Nat.le_trans (x0v _ _) (by omega)
  have hbig : i * 40000 ≤ 40000 * 40000 := Nat.mul_le_mul_right _ (by omega)
  obtain ⟨n1, h1⟩ := w8e kind l m hl hm out last first i hi1 (ysV l m).length 0 [] (Nat.zero_add _) rfl
  simp only [List.drop_zero, List.nil_append, z0y] at h1
  have w3 : z5j (ysV l m) ((ysV l m).map (w6p kind l m (rd (xsV l m) i))) = true := decide_eq_true ⟨by omega, by rw [List.length_map]; omega⟩
  have w4 : Vq (z7f (ysV l m) ((ysV l m).map (w6p kind l m (rd (xsV l m) i)))) last = true := decide_eq_true (Nat.le_trans hsl (by omega))
  have hy2 : ((ysV l m).length : Int) = (((ysV l m).length : Nat) : Int) := rfl
  unfold jF
  rcases Yg (decide (0 < i) && Jf (x1m kind l m (rd (xsV l m) i)) last) with q | q
  ·obtain ⟨n3, h3⟩ := w8c kind l m hl hm last first i hi1 (out.length - first) first out (by omega) (by omega)
   obtain ⟨n0, h0⟩ := x7z k (i + 1) (w1w out first (rd (xsV l m) (i + 1))) last first (by omega) (by omega) (by simp [w1w]; omega) hla (by simp [w1w]; omega)
   refine ⟨n0 + n3 + 1 + n1 + 1, ?_⟩
   rw [q, cond_true, Zv]
   simp only [Bool.and_eq_true, decide_eq_true_eq] at q
   have q2 : Jf (z7f (ysV l m) ((ysV l m).map (w6p kind l m (rd (xsV l m) i)))) last = true := q.2
   simp (disch := omega) only [Wo, Zb, Zk, Zs, Zq, Zx, cond_true]
   have h1' := h1 (n0 + n3 + 1)
   rw [h1', Zv]
   simp (disch := omega) only [Wo, Zb, Zk, Yz, Yr, q2, w3, w4, cond_true, cond_false]
   rw [h3 n0, h0]
  ·obtain ⟨n2, h2⟩ := w8d kind l m hl hm (x1m kind l m (rd (xsV l m) i)) (out.length : Int) i hi1 (x1m kind l m (rd (xsV l m) i)) (by omega) (x1m kind l m (rd (xsV l m) i)).length 0 out (Nat.zero_add _) (by omega)
   obtain ⟨n0, h0⟩ := x7z k (i + 1) (out ++ v2n (rd (xsV l m) i) (rd (xsV l m) (i + 1)) (x1m kind l m (rd (xsV l m) i))) (x1m kind l m (rd (xsV l m) i)) out.length (by omega) (by omega) (by simp [v2n]; omega) hsl (by simp)
   refine ⟨n0 + n2 + 1 + n1 + 1, ?_⟩
   rw [q, cond_false, Zv]
   simp (disch := omega) only [Wo, Zb, Zk, Zs, Zq, Zx, cond_true]
   have h1' := h1 (n0 + n2 + 1)
   rw [h1', Zv]
   have h2' := h2 n0
   simp only [List.drop_zero, z0y] at h2'
   by_cases hi0 : 0 < i
   ·rw [decide_eq_true hi0, Bool.true_and] at q
    have q2 : Jf (z7f (ysV l m) ((ysV l m).map (w6p kind l m (rd (xsV l m) i)))) last = false := q
    simp (disch := omega) only [Wo, Zb, Zk, Yz, Yr, q2, w3, w4, cond_true, cond_false]
    rw [← h0]; exact h2'
   ·simp (disch := omega) only [Wo, Zb, Zk, Yz, Xk, w3, w4, cond_true, cond_false]
    rw [← h0]; exact h2'
end
theorem v1z (kind : Int) (l m : List R4) (h : Qm kind l m = true) : ∃ N, Yv (Wo kind l m) N (z8b kind l m) = .ret [.dat (joV kind l m).length (Zz (joV kind l m))] := by
 obtain ⟨hl, hm⟩ := of_decide_eq_true h
 obtain ⟨N, hN⟩ := x7z kind l m hl hm ((xsV l m).length - 1) 0 [] [] 0 rfl (Nat.zero_le _) (Nat.zero_le _) (Nat.zero_le _) (Nat.le_refl _)
 refine ⟨N, ?_⟩
 have w1 : z7n l m = true := decide_eq_true ⟨hl, hm⟩
 have w2 : z7m l m = true := decide_eq_true ⟨hl, hm⟩
 simp only [z8b, Zb, Zk, w1, w2, cond_true]
 exact hN
end Go.Am
namespace Go.Am
open Go.Proofs.Tryz
open Go.Proofs
theorem w9v {P : Program} {S : Specs} (hS : Zu P S) {f : FuncId} {F : List AVal → Option (AVal × Bool)} (hf : (P.funcs[f]?).any (fun fn => fn.body.isSome) = true)
  (hF : ∀ args v, F args = some (v, true) → ∃ bs vs, Vx VLe args bs ∧ (∀ (ρ : Rho) (u : Value), Yw ρ (Kf vs) u → Yw ρ v u) ∧ Jo P (Zy P f) (Zf P f bs true []) vs ∧ ∃ d, pf d (Kf vs) = true) : Zu P (S.with f F) :=
 x3e hS hf fun args v h => by
  obtain ⟨bs, vs, h1, h2, h3, d, h4⟩ := hF args v h
  exact ⟨vs, h2, y6n h1 h3, d, h4⟩
theorem z3y {cs cs' : List AVal} (h : RLe cs cs') (ρ : Rho) (u : Value) (hv : Yw ρ (.tup cs) u) : Yw ρ (.tup cs') u := by
 cases hv with
 | tup _ vs hl hh => exact .tup cs' vs (by rw [← h.len]; exact hl) fun i h1 h2 => h.sound i (by rw [h.len]; exact h1) h1 (hh i (by rw [h.len]; exact h1) h2)
theorem z0u (α : Type) [Xy α] : VLe .nils (.dat ([] : List α).length (Zz ([] : List α))) := .nild _
def fJo : List AVal → Option (AVal × Bool)
 | [.int .i64 x0, a1, a2] => match asL R4 a1, asL R4 a2 with
  | some (L1, g1, n1), some (L2, g2, n2) => some (.dat (joV x0 L1 L2).length (Zz (joV x0 L1 L2)), isT R4 n1 g1 && (isT R4 n2 g2 && (Qm x0 L1 L2)))
  | _, _ => none
 | _ => none
theorem fJo_ok {S : Specs} (hS : Zu prog S) : Zu prog (S.with w8z fJo) := by
 refine z1m hS (by kernel_rfl) fun args v h => ?_
 unfold fJo at h
 split at h
 ·rename_i x0 a1 a2
  split at h
  ·rename_i L1 g1 n1 L2 g2 n2 e1 e2
   simp only [Option.some.injEq, Prod.mk.injEq, Bool.and_eq_true] at h
   obtain ⟨rfl, ho1, ho2, hw⟩ := h
   obtain ⟨N, hN⟩ := v1z x0 L1 L2 hw
   exact ⟨_, _, (.cons (.refl _) (.cons (Yh e1 ho1) (.cons (Yh e2 ho2) .nil))), rfl, w2z x0 L1 L2 N _ hN, 3, rfl⟩
  ·cases h
 ·cases h
def T3 : Specs := T2.with w8z fJo
theorem z6k : Zu prog T3 := fJo_ok z6l
end Go.Am
namespace Go.Am
open Go.Proofs Go.Sort
def bnd3 (r : R3) : Bool := decide (-1000000000 ≤ r.a ∧ r.a ≤ 1000000000)
def y4p (l : List R3) : Bool := l.all bnd3
abbrev E3 := { r : R3 // bnd3 r = true }
instance : Inhabited E3 := ⟨⟨⟨0, 0, 0⟩, rfl⟩⟩
def cf3 (x y : E3) : Int := x.1.a - y.1.a
def lt3 (x y : E3) : Bool := decide (cf3 x y < 0)
theorem swo3 : SWO lt3 where
 irrefl x := by unfold lt3 cf3; simp
 trans x y z h1 h2 := by unfold lt3 cf3 at *; simp at *; omega
 ntrans x y z h1 h2 := by unfold lt3 cf3 at *; simp at *; omega
def y4q : (l : List R3) → y4p l = true → List E3
 | [], _ => []
 | r :: l, h => ⟨r, by simp [y4p] at h; exact h.1⟩ :: y4q l (by simp [y4p] at h ⊢; exact h.2)
theorem z8t : ∀ (l : List R3) (h : y4p l = true), (y4q l h).map Subtype.val = l
 | [], _ => rfl
 | r :: l, h => by rw [y4q, List.map_cons, z8t l]
theorem Jg (l : List R3) (h : y4p l = true) : (y4q l h).length = l.length := by
 have := congrArg List.length (z8t l h)
 simpa using this
def z3w (l : List R3) : List R3 := if h : y4p l = true then (pdq lt3 (y4q l h).toArray 0 l.length (Lib.bitLen l.length) true true).toList.map Subtype.val else l
theorem Qn (l : List R3) (h : y4p l = true) : (z3w l).Perm l ∧ ∀ i j, i < j → j < (z3w l).length → (rd (z3w l) i).a ≤ (rd (z3w l) j).a := by
 have hp := pdq_sorts lt3 swo3 (y4q l h).toArray 0 l.length (Lib.bitLen l.length) true true (Nat.zero_le _) (by simp [Jg]) (Or.inl rfl)
 obtain ⟨⟨h1, h2, h3⟩, h4⟩ := hp
 have e : z3w l = (pdq lt3 (y4q l h).toArray 0 l.length (Lib.bitLen l.length) true true).toList.map Subtype.val := by unfold z3w; rw [dif_pos h]
 generalize pdq lt3 (y4q l h).toArray 0 l.length (Lib.bitLen l.length) true true = d at *
 have hs : d.size = l.length := by rw [h1]; simp [Jg]
 constructor
 ·rw [e]
  have x1 : (d.extract 0 l.length).toList = d.toList := by rw [← hs]; simp
  have x2 : ((y4q l h).toArray.extract 0 l.length).toList = y4q l h := by
   rw [show l.length = (y4q l h).toArray.size by simp [Jg]]; simp
  rw [x1, x2] at h3
  have := h3.map Subtype.val
  rw [z8t] at this
  exact this
 ·intro i j hij hj
  rw [e] at hj ⊢
  have hj' : j < d.size := by simpa using hj
  have := h4 i j (Nat.zero_le _) hij (by omega)
  rw [getElem!_pos d i (by omega), getElem!_pos d j hj'] at this
  rw [Ww (by simp; omega), Ww hj]
  simp only [List.getElem_map, Array.getElem_toList]
  unfold lt3 cf3 at this
  have := of_decide_eq_false this
  omega
end Go.Am
namespace Go.Am
open Go.Sort Go.RowKit Go.Proofs Go.Shelf
variable {P : Program} {ρ : Rho}
def valOf : AVal → Value
 | .int k n => .int k n
 | .bool b => .bool b
 | _ => .tuple #[]
def y9o : AVal → Bool
 | .int _ _ => true
 | .bool _ => true
 | _ => false
theorem x6u {a : AVal} (h : y9o a = true) : Yw ρ a (valOf a) := by
 cases a <;> first
  | exact .int _ _
  | exact .bool _
  | (simp [y9o] at h; done)
theorem x8e {a : AVal} {v : Value} (h : y9o a = true) (hv : Yw ρ a v) : v = valOf a := by
 cases hv <;> first
  | rfl
  | (simp [y9o] at h; done)
class v0m (α : Type) extends Xy α where
 num : ∀ a : α, (cells a).all y9o = true
instance : v0m R2 where num _ := rfl
instance : v0m R3 where num _ := rfl
instance : v0m R4 where num _ := rfl
instance : v0m R6 where num _ := rfl
instance {α : Type} [Xy α] : Inhabited α := ⟨Xy.d⟩
section
variable {α : Type} [v0m α]
def y2i (a : α) : List Value := (Xy.cells a).map valOf
theorem y0h (a : α) : (y2i a).length = Xy.w α := by rw [y2i, List.length_map, Xy.len]
theorem x2v (L : List α) (t : Nat) (h : t < L.length * Xy.w α) : (flatK y2i (Xy.w α) L.toArray)[t]? = (Xy.cells (rd L (t / Xy.w α)))[t % Xy.w α]?.map valOf := by
 have hw := Xy.pos (α := α)
 have hq : t / Xy.w α < L.length := Nat.div_lt_of_lt_mul (by rw [Nat.mul_comm]; exact h)
 have hj : t % Xy.w α < Xy.w α := Nat.mod_lt _ hw
 have hs : t < (flatK y2i (Xy.w α) L.toArray).size := by rw [size_flatK]; exact h
 rw [Array.getElem?_eq_getElem hs, ← getElem!_pos (flatK y2i (Xy.w α) L.toArray) t hs, get_flatK y2i (Xy.w α) L.toArray t (by simpa using h)]
 have e1 : L.toArray[t / Xy.w α]! = rd L (t / Xy.w α) := by
  rw [Ww hq, getElem!_pos L.toArray _ (by simpa using hq)]; simp
 rw [e1]
 have hl : t % Xy.w α < (y2i (rd L (t / Xy.w α))).length := by rw [y0h]; exact hj
 have hl2 : t % Xy.w α < (Xy.cells (rd L (t / Xy.w α))).length := by rw [Xy.len]; exact hj
 rw [getElem!_pos (y2i (rd L (t / Xy.w α))) _ hl, List.getElem?_eq_getElem hl2]
 simp [y2i]
theorem x7v (L : List α) (N t : Nat) (h : t < N * Xy.w α) : (rows N (Zz L))[t]? = (Xy.cells (rd L (t / Xy.w α)))[t % Xy.w α]? := by
 have hw := Xy.pos (α := α)
 have := Wf (get := Zz L) (sz := Xy.w α) N (fun _ _ => Xy.len _) (t / Xy.w α) (t % Xy.w α) (Nat.div_lt_of_lt_mul (by rw [Nat.mul_comm]; exact h)) (Nat.mod_lt _ hw)
 rw [show t / Xy.w α * Xy.w α + t % Xy.w α = t by rw [Nat.mul_comm]; exact Nat.div_add_mod t _] at this
 exact this
theorem Qr (L : List α) (N : Nat) : (rows N (Zz L)).length = N * Xy.w α := Yk N fun _ _ => Xy.len _
theorem z9x (w : World) (n blk off : Nat) (d : Array Value) (os : Array Obj) (k : Nat) (hk : k < w.heap.size) :
  (grow (putRow id (Go.Sort.ahead w n) blk off d) os).heap[k]? = if k = blk then (w.heap[k]?).map (onCells (putCells id off d)) else w.heap[k]? := by
 show (((Go.Sort.ahead w n).heap.modify blk (onCells (putCells id off d))) ++ os)[k]? = _
 rw [Array.getElem?_append_left (by simp; exact hk), Array.getElem?_modify]
 show (if blk = k then _ else _) = _
 by_cases h : k = blk
 ·rw [if_pos h.symm, if_pos h]; rfl
 ·rw [if_neg (fun e => h e.symm), if_neg h]; rfl
def x2w (α : Type) [Xy α] (srt : List α → List α) (bnd : List α → Bool) (g : FuncId) (args : List AVal) (mem : Mem) : Option (AVal × Nat × ABlk × Bool) := match args with
 | [.sla b sz off n cap, .fn f []] => bif Nat.beq f g then match Xz mem b with
  | some ⟨_, ty, some A⟩ => some (.tup [], b, ⟨rows A.n (Zz (srt (lst α n A.get))), ty, some ⟨Xy.w α, A.n, Zz (srt (lst α n A.get))⟩⟩,
    Nat.beq sz (Xy.w α) && (Nat.beq A.sz (Xy.w α) && (Nat.beq off 0 && ((decide (n = A.n) && (isT α n A.get && decide (n < 4611686018427387904))) && bnd (lst α n A.get)))))
  | _ => none
  else none
 | _ => none
theorem w0r {f g : FuncId} {srt : List α → List α} {bnd : List α → Bool} (hsl : ∀ L, (srt L).length = L.length)
  (hC : ∀ (blk off cap : Nat) (L : List α) (w : World), bnd L = true → HoldsK y2i (Xy.w α) w blk off L.toArray → blk < w.heap.size → L.length < 4611686018427387904 →
   Calls P f #[.slice (some ⟨blk, off, none⟩) L.length cap, .func (.func g) #[] #[]] w fun e w' => e = .returned (.tuple #[]) ∧ ∃ n os, w' = sortWorldK y2i (Xy.w α) w blk off n (srt L).toArray os)
  (hN : ∀ (p : Option Addr) (cap : Nat) (fv : Value) (w : World), Calls P f #[.slice p 0 cap, fv] w fun e w' => e = .returned (.tuple #[]) ∧ w' = w) : y7h P f (x2w α srt bnd g) := by
 intro args mem v b blk h hsome ρ next floor vals w hfl eA dW
 have hw0 := Xy.pos (α := α)
 unfold x2w at h
 split at h
 ·rename_i b0 sz off n cap f0
  obtain ⟨hfg, h'⟩ := Kk h
  clear h
  obtain rfl := Nat.eq_of_beq_eq_true hfg
  have h := h'
  clear h'
  split at h
  ·rename_i cells ty A hm
   obtain ⟨asz, an, get⟩ := A
   simp only [Option.some.injEq, Prod.mk.injEq, Bool.and_eq_true] at h
   obtain ⟨rfl, rfl, rfl, h1, h2, h3, ⟨h4, h5, h6⟩, h7⟩ := h
   have g1 := Nat.eq_of_beq_eq_true h1
   have g2 := Nat.eq_of_beq_eq_true h2
   have g3 := Nat.eq_of_beq_eq_true h3
   have g4 : n = an := of_decide_eq_true h4
   have h6 : n < 4611686018427387904 := of_decide_eq_true h6
   have g2 : asz = Xy.w α := g2
   subst g1
   subst g2
   subst g3
   subst g4
   have h7 : bnd (lst α n get.get) = true := h7
   have eG := x2p h5
   have eG : ∀ i, i < n → get.get i = Zz (lst α n get.get) i := eG
   have hrows : rows n get.get = rows n (Zz (lst α n get.get)) := z2f n eG
   obtain ⟨u, hu, hvals⟩ : ∃ u, Yw ρ (.sla b0 (Xy.w α) 0 n cap) u ∧ vals = #[u, .func (.func f0) #[] #[]] := by
    obtain ⟨vl⟩ := vals
    cases eA with
    | cons q1 q2 => cases q2 with
     | cons q3 q4 =>
      cases q4
      cases q3 with
      | fn _ _ cvs hl _ =>
       have : cvs = #[] := Array.eq_empty_of_size_eq_zero (by simpa using hl.symm)
       subst this
       exact ⟨_, q1, rfl⟩
   subst hvals
   have hlt : b0 < next := by
    rcases Nat.lt_or_ge b0 next with q | q
    ·exact q
    ·have := dW.bd b0 q; rw [hm] at this; cases this
   show Calls P f _ w _
   have hAget : (Arr.get ⟨Xy.w α, n, get⟩) = get.get := rfl
   rw [hAget] at *
   generalize hI : lst α n get.get = I at *
   have hIl : I.length = n := by rw [← hI]; exact z5t _ _
   generalize hL : srt I = L
   have hLl : L.length = n := by rw [← hL, hsl, hIl]
   have hnn : ρ b0 = none → ∀ cs ty', Xz mem b0 ≠ some ⟨cs, ty', none⟩ := fun _ cs ty' e => by rw [hm] at e; cases e
   cases hu with
   | sla _ _ _ _ _ l cc e hc dX =>
    have hbk := dW.blk b0 l _ e hm
    obtain ⟨har, _, _⟩ := hbk.arr _ rfl
    have har : cells = rows n get.get := har
    rw [hrows] at har
    subst har
    obtain ⟨cur, el, hh, hsz, eD⟩ := hbk.cells
    simp only [Qr] at eD
    have htot := hbk.tot
    have hln := hbk.n
    simp only [Qr] at hln
    have eX : ∀ t, t < n * Xy.w α → cur[l.base + t]? = (Xy.cells (rd I (t / Xy.w α)))[t % Xy.w α]?.map valOf := fun t ht => by
     obtain ⟨v, e1, e2⟩ := eD t ht
     have hj : t % Xy.w α < Xy.w α := Nat.mod_lt _ hw0
     have hl2 : t % Xy.w α < (Xy.cells (rd I (t / Xy.w α))).length := by rw [Xy.len]; exact hj
     have e3 := x7v I n t ht
     rw [List.getElem?_eq_getElem (by rw [Qr]; exact ht), List.getElem?_eq_getElem hl2] at e3
     rw [Option.some.inj e3] at e2
     rw [e1, List.getElem?_eq_getElem hl2, Option.map_some, x8e (List.all_eq_true.1 (v0m.num _) _ (List.getElem_mem hl2)) e2]
    have fF := dW.real b0 l e
    have hH : HoldsK y2i (Xy.w α) w l.blk (l.base + 0 * Xy.w α) I.toArray := fun j hj => by
     have hj : j < n * Xy.w α := by simpa [hIl] using hj
     have hs : j < (flatK y2i (Xy.w α) I.toArray).size := by simpa [hIl] using hj
     have e1 := x2v I j (by rw [hIl]; exact hj)
     rw [Array.getElem?_eq_getElem hs] at e1
     refine ⟨?_, ?_⟩
     ·simp only [World.cell?, hh, Nat.zero_mul, Nat.add_zero, id]
      rw [eX j hj, ← e1, getElem!_pos (flatK y2i (Xy.w α) I.toArray) j hs]
      simp
     ·simp [World.frozen?, hh]
    have eO := hC l.blk (l.base + 0 * Xy.w α) cc I w h7 hH fF (by omega)
    rw [hIl, hL] at eO
    refine eO.mono fun e' w' ⟨he, q, os, hw'⟩ => ⟨_, he, ?_, ?_, ?_⟩
    ·exact .tup [] #[] rfl fun i h1 h2 => absurd h1 (Nat.not_lt_zero _)
    ·subst hw'
     refine Rel.setArr ?_ ⟨Xy.w α, n, .flat (Zz L)⟩ rfl hw0 fun _ _ => Xy.len _
     refine Rel.rewritten dW e hm (by simp only [Qr]) (fun k hk hne => ?_) ?_ ?_
     ·exact (z9x _ _ _ _ _ _ _ hk).trans (if_neg hne)
     ·show _ ≤ (((Go.Sort.ahead w q).heap.modify _ _) ++ os).size
      simp only [Array.size_append, Array.size_modify]
      exact Nat.le_add_right _ _
     ·refine ⟨putCells id (l.base + 0 * Xy.w α) (flatK y2i (Xy.w α) L.toArray) cur, el, ?_, ?_, fun i hi => ?_⟩
      ·refine (z9x _ _ _ _ _ _ _ fF).trans ?_
       rw [if_pos rfl, hh]; rfl
      ·simp only [putCells, Array.size_mapIdx]; exact hsz
      ·rw [Qr] at hi
       have hj : i % Xy.w α < Xy.w α := Nat.mod_lt _ hw0
       have hl2 : i % Xy.w α < (Xy.cells (rd L (i / Xy.w α))).length := by rw [Xy.len]; exact hj
       have hl3 : i % Xy.w α < (Xy.cells (rd I (i / Xy.w α))).length := by rw [Xy.len]; exact hj
       have e1 := x2v L i (by rw [hLl]; exact hi)
       rw [List.getElem?_eq_getElem hl2, Option.map_some] at e1
       have hs : i < (flatK y2i (Xy.w α) L.toArray).size := by simpa [hLl] using hi
       rw [Array.getElem?_eq_getElem hs] at e1
       have e3 := x7v L n i hi
       rw [List.getElem?_eq_getElem (by rw [Qr]; exact hi), List.getElem?_eq_getElem hl2] at e3
       refine ⟨valOf (Xy.cells (rd L (i / Xy.w α)))[i % Xy.w α], ?_, ?_⟩
       ·have hc0 := eX i hi
        rw [List.getElem?_eq_getElem hl3, Option.map_some] at hc0
        simp only [putCells, Array.getElem?_mapIdx, hc0, Option.map_some, Nat.zero_mul, Nat.add_zero]
        rw [if_pos ⟨by omega, by omega⟩]
        congr 1
        rw [show l.base + i - l.base = i by omega, id, getElem!_pos (flatK y2i (Xy.w α) L.toArray) i hs]
        exact Option.some.inj e1
       ·rw [Option.some.inj e3]
        exact x6u (List.all_eq_true.1 (v0m.num _) _ (List.getElem_mem hl2))
    ·subst hw'
     refine Ev.rewritten dW _ (fun l' _ => hfl) hnn (fun k hk hne => ?_) ?_ rfl rfl rfl
     ·exact (z9x _ _ _ _ _ _ _ hk).trans (if_neg (hne l e))
     ·show _ ≤ (((Go.Sort.ahead w q).heap.modify _ _) ++ os).size
      simp only [Array.size_append, Array.size_modify]
      exact Nat.le_add_right _ _
   | slan =>
    have hI0 : I = [] := List.eq_nil_of_length_eq_zero hIl
    have hL0 : L = [] := List.eq_nil_of_length_eq_zero hLl
    refine (hN none 0 _ w).mono fun e' w' ⟨he, hw'⟩ => ⟨_, he, ?_, ?_, ?_⟩
    ·exact .tup [] #[] rfl fun i h1 h2 => absurd h1 (Nat.not_lt_zero _)
    ·subst hw'
     refine dW.reblk hm fun l hρ hbk => ?_
     obtain ⟨har, fU, _⟩ := hbk.arr _ rfl
     have har : cells = rows 0 get.get := har
     subst har
     exact ⟨hbk.n, hbk.tot, fun B hB => by obtain rfl := Option.some.inj hB; exact ⟨rfl, hw0, fun i hi => absurd hi (Nat.not_lt_zero _)⟩, hbk.cells⟩
    ·subst hw'
     exact Ev.rewritten dW _ (fun l' _ => hfl) hnn (fun _ _ _ => rfl) (Nat.le_refl _) rfl rfl rfl
  ·cases h
 ·cases h
end
def Specs.withE (S : Specs) (f : FuncId) (F : List AVal → Mem → Option (AVal × Nat × ABlk × Bool)) : Specs := fun g => bif Nat.beq g f then some (.eff F) else S g
theorem y2q {P : Program} {S : Specs} (hS : Zu P S) {f : FuncId} {F : List AVal → Mem → Option (AVal × Nat × ABlk × Bool)} (hf : (P.funcs[f]?).any (fun fn => fn.body.isSome) = true) (hF : y7h P f F) : Zu P (S.withE f F) := by
 intro g G hg
 unfold Specs.withE at hg
 cases hgf : Nat.beq g f with
 | false => rw [hgf] at hg; exact hS g G hg
 | true =>
  rw [hgf] at hg
  obtain rfl : Spec.eff F = G := Option.some.inj hg
  obtain rfl : g = f := Nat.eq_of_beq_eq_true hgf
  refine ⟨?_, hF⟩
  cases hfn : P.funcs[g]? with
  | none => rw [hfn] at hf; cases hf
  | some fn => rw [hfn] at hf; exact ⟨fn, rfl, hf⟩
end Go.Am
end
