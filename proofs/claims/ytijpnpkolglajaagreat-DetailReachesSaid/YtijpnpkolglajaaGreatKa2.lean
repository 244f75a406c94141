/- A part of a proof: several texts in one. -/
import Derived.Test.YtijpnpkolglajaaGreatKa1
import Derived.Sort.Grow
import Derived.Deep.Slices
import Derived.Deep.Fields
import Derived.ChangeSame
import Derived.OpenShut
import Derived.Test.YtijpnpkolglajaaGreatProg
import Derived.Sort.AssemblyPlain
import Derived.Lib.BitFns
set_option maxRecDepth 1000000
set_option maxHeartbeats 8000000
set_option linter.unusedVariables false
set_option linter.unusedSimpArgs false
noncomputable section
namespace Go.Am
structure z3i where
 keep : List Nat
 frz : List Nat
 slots : List (Option (List Nat))
 lslots : List (Option (List Nat)) := []
def z7j (b : Nat) : List Nat → Nat → Option Nat
 | [], _ => none
 | x :: l, i => bif Nat.beq x b then some i else z7j b l (i + 1)
def hasN (b : Nat) : List Nat → Bool
 | [] => false
 | x :: l => bif Nat.beq x b then true else hasN b l
def x2m (cells : List AVal) (off sz : Nat) : Nat → List AVal := fun k => (cells.drop (off + k * sz)).take sz
def frzV (P : Program) (blk : ABlk) : AVal → AVal
 | .ptr _ o => .dptr (blk.cells.drop o)
 | .sl _ off len _ => match P.info? blk.ty with
  | some i => bif Nat.ble (off + len * i.size) blk.cells.length then .dat len (x2m blk.cells off i.size) else .undef
  | none => .undef
 | .sla _ sz off len _ => match blk.arr with
  | some A => bif Nat.beq A.sz sz && Nat.ble (off + len) A.n then .dat len (fun k => A.get (off + k)) else .undef
  | none => .undef
 | _ => .undef
def renB (P : Program) (mem : Mem) (N : z3i) (b : Nat) (v : AVal) (f : Nat → AVal) : AVal :=
 match z7j b N.keep 0 with
 | some b' => f b'
 | none => bif hasN b N.frz then match Yb mem b with
   | some blk => frzV P blk v
   | none => .undef
  else .undef
def ren (P : Program) (mem : Mem) (N : z3i) : Nat → AVal → AVal
 | 0, _ => .undef
 | d + 1, v => match v with
  | .ptr b o => renB P mem N b (.ptr b o) fun b' => .ptr b' o
  | .sl b off len cap => renB P mem N b (.sl b off len cap) fun b' => .sl b' off len cap
  | .sla b sz off len cap => renB P mem N b (.sla b sz off len cap) fun b' => .sla b' sz off len cap
  | .epa b sz i fo => renB P mem N b (.epa b sz i fo) fun b' => .epa b' sz i fo
  | .yld j => match z7j j N.keep 0 with
   | some j' => .yld j'
   | none => .undef
  | .slv b sz off len => match z7j b N.keep 0 with
   | some b' => .slv b' sz off len
   | none => .undef
  | .agg cs => .agg (cs.map (ren P mem N d))
  | .tup cs => .tup (cs.map (ren P mem N d))
  | .fn f cs => .fn f (cs.map (ren P mem N d))
  | .fnb f cs => .fnb f (cs.map (ren P mem N d))
  | .ifc t v => .ifc t (ren P mem N d v)
  | v => v
def T.map (f : AVal → AVal) (t : T AVal) : T AVal :=
 T.rec (motive := fun _ => T AVal) .leaf (fun v _ _ l r => .node (f v) l r) t
def z7g (f : AVal → AVal) (env : T AVal) : List Nat → T AVal
 | [] => .leaf
 | t :: l => T.set .undef (z7g f env l) t (f (T.get .undef env t))
def w3h (f : AVal → AVal) (env : T AVal) : Option (List Nat) → T AVal
 | none => T.map f env
 | some l => z7g f env l
def z0q (f : AVal → AVal) : Rws → Rws
 | .flat g => .flat g
 | .one r cs b => .one r (cs.map f) (z0q f b)
 | .alt c a b => .alt c (z0q f a) (z0q f b)
def z6r (P : Program) (mem : Mem) (N : z3i) : ABlk → ABlk
 | ⟨cells, ty, none⟩ => ⟨cells.map (ren P mem N 6), ty, none⟩
 | ⟨_, ty, some A⟩ => ⟨rows A.n (z0q (ren P mem N 6) A.rw).get, ty, some ⟨A.sz, A.n, z0q (ren P mem N 6) A.rw⟩⟩
def z9o : Rws → Bool
 | .flat g => pd (∀ i, (g i).all (pf 6) = true)
 | .one _ _ b => z9o b
 | .alt _ a b => z9o a && z9o b
def w0o (blk : ABlk) : Bool := match blk.arr with
 | none => true
 | some A => z9o A.rw
def z2r (P : Program) (mem : Mem) (N : z3i) : List Nat → Nat → Mem × Bool
 | [], _ => (.leaf, true)
 | b :: l, i => match z2r P mem N l (i + 1) with
  | (m, o) => match Yb mem b with
   | none => (m, o)
   | some blk => (Xa m i (some (z6r P mem N blk)), w0o blk && o)
def z2s (mem : Mem) : List Nat → Bool
 | [] => true
 | b :: l => match Yb mem b with
  | none => z2s mem l
  | some blk => (match blk.arr with
   | none => blk.cells.all (pf 6)
   | some A => pd (∀ i, (A.get i).all (pf 6) = true)) && z2s mem l
def y6q (f : AVal → AVal) (lps : Loops) : List Nat → Nat → List (Option (List Nat)) → Loops
 | [], _, _ => .leaf
 | b :: l, i, sl => match z5u lps b with
  | none => y6q f lps l (i + 1) sl.tail
  | some ⟨st, pend, n, env, params, assign, body⟩ => x2y (y6q f lps l (i + 1) sl.tail) i (some ⟨st, pend, n, w3h f env (sl.headD none), params, assign, body⟩)
def z3k (keep : List Nat) : Item → Option Item
 | .inRangeFunc j => (z7j j keep 0).map .inRangeFunc
 | .endRangeFunc j => (z7j j keep 0).map .endRangeFunc
 | x => bif Un x then some x else none
def z0d (keep : List Nat) : List Item → Option (List Item)
 | [] => some []
 | x :: l => match z3k keep x, z0d keep l with
  | some y, some m => some (y :: m)
  | _, _ => none
def y2o (keep : List Nat) : Option Nat → Option (Option Nat)
 | none => some none
 | some j => (z7j j keep 0).map some
def x1f (f : AVal → AVal) (keep : List Nat) : List AFr → List (Option (List Nat)) → Option (List AFr)
 | [], _ => some []
 | ⟨cx, ro, todo, rnd, rs, env⟩ :: cs, sl => match z0d keep todo, y2o keep rnd, x1f f keep cs sl.tail with
  | some todo', some rnd', some cs' => some (⟨cx, ro, todo', rnd', rs, w3h f env (sl.headD none)⟩ :: cs')
  | _, _, _ => none
def disj : List Nat → List Nat → Bool
 | [], _ => true
 | b :: l, frz => !hasN b frz && (!hasN b l && disj l frz)
def x9p (P : Program) (N : z3i) : Cfg → Option Cfg
 | ⟨cx, ro, todo, rnd, rs, ⟨env, mem, next, orc, ob⟩, cs, lps⟩ =>
  match z0d N.keep todo, y2o N.keep rnd, x1f (ren P mem N 6) N.keep cs N.slots.tail with
  | some todo', some rnd', some cs' =>
   bif disj N.keep N.frz then
    match z2r P mem N N.keep 0 with
    | (mem', o) => some ⟨cx, ro, todo', rnd', rs, ⟨w3h (ren P mem N 6) env (N.slots.headD none), mem', N.keep.length, [], o && (z2s mem N.frz && ob)⟩, cs', y6q (ren P mem N 6) lps N.keep 0 N.lslots⟩
   else none
  | _, _, _ => none
def atP : Code → List Nat → List Item → Code × List Item
 | c, [], k => (c, k)
 | .seq a b, 0 :: p, k => atP a p (.code b :: k)
 | .seq _ b, _ :: p, k => atP b p k
 | .block id c, _ :: p, k => atP c p (.inBlock id :: k)
 | .loop c, _ :: p, k => atP c p (.inLoop c :: k)
 | .scope c, _ :: p, k => atP c p (.inScope c :: k)
 | .cond _ a _, 0 :: p, k => atP a p k
 | .cond _ _ b, _ :: p, k => atP b p k
 | .rangeFunc _ _ a b, 0 :: p, _ => atP a p [.beginRound, .code b]
 | .rangeFunc _ _ _ b, _ :: p, _ => atP b p []
 | c, _ :: _, k => (c, k)
def Zi (P : Program) (f : FuncId) (p : List Nat) (j : Nat) : List Item := match atP (w4s P f) p [] with
 | (c, k) => (.code c :: k).drop j
def Us (P : Program) (f : FuncId) (p : List Nat) : Code := (atP (w4s P f) p []).1
def Ja (P : Program) (f : FuncId) (p : List Nat) (i : Nat) : Option RegOps := match Us P f p with
 | .region _ ops _ => some (ops, i, ops.toList.drop i)
 | _ => none
def w0g (P : Program) (S : Specs) (Rc : Runner) (n : Nat) : Cfg → Option Cfg :=
 Nat.rec (motive := fun _ => Cfg → Option Cfg) (fun C => some C) (fun _ R C => match x0k P S Rc C with
  | some C' => R C'
  | none => none) n
section
variable {P : Program}
theorem Wb {p : Prop} (h : pd p = true) : p := @of_decide_eq_true p (Classical.propDecidable p) h
theorem pd_true {p : Prop} (h : p) : pd p = true := @decide_eq_true p (Classical.propDecidable p) h
theorem z9n {b : Nat} : ∀ {l : List Nat} {i j : Nat}, z7j b l i = some j → i ≤ j ∧ l[j - i]? = some b
 | [], i, j, h => by cases h
 | x :: l, i, j, h => by
  unfold z7j at h
  rcases Vu h with ⟨hx, h⟩ | ⟨_, h⟩
  ·obtain rfl := Option.some.inj h
   have := Nat.eq_of_beq_eq_true hx
   exact ⟨Nat.le_refl _, by simp [this]⟩
  ·obtain ⟨h1, h2⟩ := z9n h
   refine ⟨by omega, ?_⟩
   rw [show j - i = (j - (i + 1)) + 1 by omega]
   simpa using h2
theorem z5y {b : Nat} : ∀ {l : List Nat}, hasN b l = true ↔ b ∈ l
 | [] => by simp [hasN]
 | x :: l => by
  unfold hasN
  cases hx : Nat.beq x b with
  | true => simp [Nat.eq_of_beq_eq_true hx]
  | false =>
   have : x ≠ b := fun e => by rw [e, Nat.beq_refl] at hx; cases hx
   rw [cond_false, z5y, List.mem_cons]
   exact ⟨.inr, fun h => h.resolve_left fun e => this e.symm⟩
theorem z7u : ∀ {l frz : List Nat}, disj l frz = true → l.Nodup ∧ ∀ b ∈ l, b ∉ frz
 | [], _, _ => ⟨List.nodup_nil, fun b hb => by cases hb⟩
 | x :: l, frz, h => by
  unfold disj at h
  simp only [Bool.and_eq_true, Bool.not_eq_true'] at h
  obtain ⟨h1, h2, h3⟩ := h
  obtain ⟨i1, i2⟩ := z7u h3
  have n1 : x ∉ frz := fun hm => by rw [z5y.2 hm] at h1; cases h1
  have n2 : x ∉ l := fun hm => by rw [z5y.2 hm] at h2; cases h2
  exact ⟨List.nodup_cons.2 ⟨n2, i1⟩, fun b hb => by
   rcases List.mem_cons.1 hb with rfl | hb
   ·exact n1
   ·exact i2 b hb⟩
def Fz (ρ : Rho) (mem : Mem) (N : z3i) (k : Nat) : Prop := ∃ b l, b ∈ N.frz ∧ ρ b = some l ∧ (Yb mem b).isSome = true ∧ l.blk = k
def z6p (ρ : Rho) (mem : Mem) (N : z3i) (w : World) : Rho :=
 ⟨fun b' => (N.keep[b']?).bind fun b => ρ b, fun k => @ite _ (Fz ρ mem N k) (Classical.propDecidable _) (w.heap[k]?) (ρ.fz k), fun j' => (N.keep[j']?).bind fun j => ρ.lp j⟩
theorem z0b {ρ : Rho} {mem : Mem} {next : Nat} {w : World} (h : Rel ρ mem next w) (N : z3i) {k : Nat} {o : Obj} (e : ρ.fz k = some o) : (z6p ρ mem N w).fz k = some o := by
 show @ite _ (Fz ρ mem N k) (Classical.propDecidable _) (w.heap[k]?) (ρ.fz k) = some o
 by_cases hf : Fz ρ mem N k
 ·obtain ⟨b, l, _, hb, hm, rfl⟩ := hf
  have := h.sep b l hb hm
  rw [e] at this; cases this
 ·rw [if_neg hf]; exact e
theorem y5v {ρ : Rho} {mem : Mem} {w : World} {N : z3i} {b : Nat} {l : Loc} (hb : b ∈ N.frz) (hl : ρ b = some l) (hm : (Yb mem b).isSome = true) : (z6p ρ mem N w).fz l.blk = w.heap[l.blk]? :=
 if_pos ⟨b, l, hb, hl, hm, rfl⟩
theorem z2e {ρ : Rho} {mem : Mem} {next : Nat} {w : World} (h : Rel ρ mem next w) (N : z3i) : ρ.bare.le (z6p ρ mem N w).bare := ⟨fun _ _ e => (by cases e), fun _ _ e => z0b h N e, fun _ _ e => (by cases e)⟩
theorem Vk {ρ : Rho} {mem : Mem} {w : World} {N : z3i} {b b' : Nat} (h : z7j b N.keep 0 = some b') : (z6p ρ mem N w) b' = ρ b ∧ (z6p ρ mem N w).lp b' = ρ.lp b := by
 obtain ⟨_, h2⟩ := z9n h
 rw [Nat.sub_zero] at h2
 constructor
 ·show (N.keep[b']?).bind _ = _
  rw [h2]; rfl
 ·show (N.keep[b']?).bind _ = _
  rw [h2]; rfl
theorem z3s {mem : Mem} : ∀ {frz : List Nat}, z2s mem frz = true → ∀ b ∈ frz, ∀ blk, Yb mem b = some blk → (match blk.arr with | none => blk.cells.all (pf 6) = true | some A => ∀ i, (A.get i).all (pf 6) = true)
 | [], _, b, hb, _, _ => by cases hb
 | x :: l, h, b, hb, blk, hm => by
  unfold z2s at h
  rcases List.mem_cons.1 hb with rfl | hb
  ·rw [hm] at h
   simp only [Bool.and_eq_true] at h
   cases hA : blk.arr with
   | none => have := h.1; rw [hA] at this; exact this
   | some A => have := h.1; rw [hA] at this; exact Wb this
  ·cases hx : Yb mem x with
   | none => rw [hx] at h; exact z3s h b hb blk hm
   | some blk' =>
    rw [hx] at h
    simp only [Bool.and_eq_true] at h
    exact z3s h.2 b hb blk hm
theorem z7m {mem : Mem} {next : Nat} {w : World} {ρ : Rho} (h : Rel ρ mem next w) {N : z3i} (ho : z2s mem N.frz = true) {b : Nat} (hb : b ∈ N.frz) {blk : ABlk} (hm : Yb mem b = some blk) {l : Loc} (hl : ρ b = some l) :
  ∃ val : Nat → Value, ∀ (i : Nat) (hi : i < blk.cells.length), Ze (z6p ρ mem N w).bare blk.cells[i] (val i) ∧ y4o (z6p ρ mem N w).fz l.blk (l.base + i) (val i) := by
 obtain ⟨hn, ht, har, cs, el, h1, h2, h3⟩ := h.blk b l blk hl hm
 refine ⟨fun i => (cs[l.base + i]?).getD undef, fun i hi => ?_⟩
 obtain ⟨v, e1, e2⟩ := h3 i hi
 have hpf : pf 6 blk.cells[i] = true := by
  have := z3s ho b hb blk hm
  cases hA : blk.arr with
  | none => rw [hA] at this; exact List.all_eq_true.1 this _ (List.getElem_mem hi)
  | some A =>
   rw [hA] at this
   obtain ⟨q1, _, _⟩ := har A hA
   have hmem : blk.cells[i] ∈ rows A.n A.get := by rw [← q1]; exact List.getElem_mem hi
   unfold rows at hmem
   rw [List.mem_flatMap] at hmem
   obtain ⟨r, _, hr⟩ := hmem
   exact List.all_eq_true.1 (this r) _ hr
 dsimp only
 rw [e1]
 refine ⟨(Uk 6 _ _ hpf e2).mono (z2e h N), cs, el, (0, 0), ?_, e1⟩
 rw [y5v hb hl (by rw [hm]; rfl)]
 exact h1
theorem x1w {mem : Mem} {next : Nat} {w : World} {ρ : Rho} (h : Rel ρ mem next w) {N : z3i} (ho : z2s mem N.frz = true) {b : Nat} (hb : b ∈ N.frz) {blk : ABlk} (hm : Yb mem b = some blk) {v : AVal} {u : Value} (hv : Ze ρ v u)
  (hvb : (∃ o, v = .ptr b o) ∨ (∃ off len cap, v = .sl b off len cap) ∨ (∃ sz off len cap, v = .sla b sz off len cap) ∨ ∃ sz i fo, v = .epa b sz i fo) : Ze (z6p ρ mem N w) (frzV P blk v) u := by
 rcases hvb with ⟨o, rfl⟩ | ⟨off, len, cap, rfl⟩ | ⟨sz, off, len, cap, rfl⟩ | ⟨sz, i, fo, rfl⟩
 ·cases hv with
  | ptr _ _ l hl =>
   obtain ⟨val, hval⟩ := z7m h ho hb hm hl
   refine .dptr _ _ _ (fun j => val (o + j)) (fun j hj => ?_) (fun j hj => ?_)
   ·have := (hval (o + j) (by simp at hj; omega)).1
    simpa using this
   ·have := (hval (o + j) (by simp at hj; omega)).2
    rw [Nat.add_assoc]; exact this
 ·simp only [frzV]
  split
  ·rename_i i hi
   cases hc : Nat.ble (off + len * i.size) blk.cells.length with
   | false => exact .undef _
   | true =>
    rw [cond_true]
    have hle := Nat.le_of_ble_eq_true hc
    cases hv with
    | sl _ _ _ _ l c hl _ hlen =>
     obtain ⟨val, hval⟩ := z7m h ho hb hm hl
     have hin : ∀ k, k < len → k * i.size + i.size ≤ len * i.size := fun k hk => by
      have := Nat.mul_le_mul_right i.size (show k + 1 ≤ len from hk)
      rw [Nat.add_mul, Nat.one_mul] at this; exact this
     refine .dat len _ l.blk (l.base + off) i.size c (fun k j => val (off + (k * i.size + j))) hlen (fun k hk => ?_) (fun k j hk hj => ?_) (fun k j hk hj => ?_)
     ·have := hin k hk
      simp [x2m]; omega
     ·have := hin k hk
      have hj' : j < i.size := by simp [x2m] at hj; omega
      have := (hval (off + (k * i.size + j)) (by omega)).1
      simpa [x2m, Nat.add_assoc] using this
     ·have := hin k hk
      have := (hval (off + (k * i.size + j)) (by omega)).2
      rw [Nat.add_assoc]; exact this
  ·exact .undef _
 ·simp only [frzV]
  split
  ·rename_i A hA
   cases hc : (Nat.beq A.sz sz && Nat.ble (off + len) A.n) with
   | false => exact .undef _
   | true =>
    rw [cond_true]
    simp only [Bool.and_eq_true] at hc
    obtain rfl := Nat.eq_of_beq_eq_true hc.1
    have hle := Nat.le_of_ble_eq_true hc.2
    cases hv with
    | slan => exact .datn _
    | sla _ _ _ _ _ l c hl _ hlen =>
     obtain ⟨val, hval⟩ := z7m h ho hb hm hl
     obtain ⟨q1, q2, q3⟩ := (h.blk b l blk hl hm).arr A hA
     have hlen' := Zn A.n q3
     have hrow : ∀ k j, k < len → j < A.sz → ∃ hi : (off + k) * A.sz + j < blk.cells.length, blk.cells[(off + k) * A.sz + j]? = (A.get (off + k))[j]? := fun k j hk hj => by
      have e := Xf A.n q3 (off + k) j (by omega) hj
      rw [← q1] at e
      have hj2 : j < (A.get (off + k)).length := by rw [q3 (off + k) (by omega)]; exact hj
      rw [List.getElem?_eq_getElem hj2] at e
      obtain ⟨hi, _⟩ := List.getElem?_eq_some_iff.1 e
      exact ⟨hi, by rw [e, List.getElem?_eq_getElem hj2]⟩
     refine .dat len _ l.blk (l.base + off * A.sz) A.sz c (fun k j => val ((off + k) * A.sz + j)) hlen (fun k hk => q3 _ (by omega)) (fun k j hk hj => ?_) (fun k j hk hj => ?_)
     ·have hj' : j < A.sz := by rw [← q3 (off + k) (by omega)]; exact hj
      obtain ⟨hi, e⟩ := hrow k j hk hj'
      have := (hval _ hi).1
      rw [List.getElem?_eq_getElem hi, List.getElem?_eq_getElem hj] at e
      rw [Option.some.inj e] at this
      exact this
     ·obtain ⟨hi, _⟩ := hrow k j hk hj
      have := (hval _ hi).2
      rw [show l.base + off * A.sz + (k * A.sz + j) = l.base + ((off + k) * A.sz + j) by rw [Nat.add_mul]; omega]
      exact this
  ·exact .undef _
 ·exact .undef _
theorem Kw {mem : Mem} {next : Nat} {w : World} {ρ : Rho} (h : Rel ρ mem next w) {N : z3i} (ho : z2s mem N.frz = true) {b : Nat} {v : AVal} {u : Value} {f : Nat → AVal} (hv : Ze ρ v u)
  (hvb : (∃ o, v = .ptr b o) ∨ (∃ off len cap, v = .sl b off len cap) ∨ (∃ sz off len cap, v = .sla b sz off len cap) ∨ ∃ sz i fo, v = .epa b sz i fo)
  (hf : ∀ b', z7j b N.keep 0 = some b' → Ze (z6p ρ mem N w) (f b') u) : Ze (z6p ρ mem N w) (renB P mem N b v f) u := by
 unfold renB
 split
 ·rename_i b' hb'; exact hf b' hb'
 ·cases hc : hasN b N.frz with
  | false => exact .undef _
  | true =>
   rw [cond_true]
   split
   ·rename_i blk hm
    exact x1w h ho (z5y.1 hc) hm hv hvb
   ·exact .undef _
theorem Qb {mem : Mem} {next : Nat} {w : World} {ρ : Rho} (h : Rel ρ mem next w) {N : z3i} (ho : z2s mem N.frz = true) : ∀ (d : Nat) (v : AVal) (u : Value), Ze ρ v u → Ze (z6p ρ mem N w) (ren P mem N d v) u
 | 0, _, _, _ => .undef _
 | d + 1, v, u, hv => by
  have ih := fun v u => Qb h ho (N := N) d v u
  have list : ∀ {cs : List AVal} {vs : Array Value}, cs.length = vs.size → (∀ (i : Nat) (h1 : i < cs.length) (h2 : i < vs.size), Ze ρ cs[i] vs[i]) →
    (cs.map (ren P mem N d)).length = vs.size ∧ ∀ (i : Nat) (h1 : i < (cs.map (ren P mem N d)).length) (h2 : i < vs.size), Ze (z6p ρ mem N w) (cs.map (ren P mem N d))[i] vs[i] := fun hl hh =>
   ⟨by simpa using hl, fun i h1 h2 => by simpa using ih _ _ (hh i (by simpa using h1) h2)⟩
  unfold ren
  cases hv with
  | undef => exact .undef _
  | bool b => exact .bool b
  | int k n => exact .int k n
  | str s => exact .str s
  | agg cs vs hl hh => exact .agg _ _ (list hl hh).1 (list hl hh).2
  | tup cs vs hl hh => exact .tup _ _ (list hl hh).1 (list hl hh).2
  | fn f cs vs hl hh => exact .fn f _ _ (list hl hh).1 (list hl hh).2
  | fnb f cs vs hl hh => exact .fnb f _ _ (list hl hh).1 (list hl hh).2
  | ptr b o l hl => exact Kw h ho (.ptr b o l hl) (.inl ⟨o, rfl⟩) fun b' hb' => .ptr b' o l (by rw [(Vk hb').1]; exact hl)
  | nilp => exact .nilp
  | sl b off len cap l c hl hc hlen => exact Kw h ho (.sl b off len cap l c hl hc hlen) (.inr (.inl ⟨off, len, cap, rfl⟩)) fun b' hb' => .sl b' off len cap l c (by rw [(Vk hb').1]; exact hl) hc hlen
  | nils => exact .nils
  | sla b sz off len cap l c hl hc hlen => exact Kw h ho (.sla b sz off len cap l c hl hc hlen) (.inr (.inr (.inl ⟨sz, off, len, cap, rfl⟩))) fun b' hb' => .sla b' sz off len cap l c (by rw [(Vk hb').1]; exact hl) hc hlen
  | slan b sz off cap => exact Kw h ho (.slan b sz off cap) (.inr (.inr (.inl ⟨sz, off, 0, cap, rfl⟩))) fun b' hb' => .slan b' sz off cap
  | epa b sz i fo l hl => exact Kw h ho (.epa b sz i fo l hl) (.inr (.inr (.inr ⟨sz, i, fo, rfl⟩))) fun b' hb' => .epa b' sz i fo l (by rw [(Vk hb').1]; exact hl)
  | nilf => exact .nilf
  | yld j l hl =>
   simp only
   split
   ·rename_i j' hj'
    exact .yld j' l (by rw [(Vk hj').2]; exact hl)
   ·exact .undef _
  | slv b sz off len l c hl hlen =>
   simp only
   split
   ·rename_i j' hj'
    exact .slv j' sz off len l c (by rw [(Vk hj').1]; exact hl) hlen
   ·exact .undef _
  | slve b sz off blk base c =>
   simp only
   split
   ·exact .slve _ sz off blk base c
   ·exact .undef _
  | slvn b sz off =>
   simp only
   split
   ·exact .slvn _ sz off
   ·exact .undef _
  | ifc t a v hv => exact .ifc t _ _ (ih _ _ hv)
  | nili => exact .nili
  | dat len get blk base sz cap val hcap hsz hv hh =>
   refine .dat len get blk base sz cap val hcap hsz (fun i j hi hj => (hv i j hi hj).mono (z2e h N)) (fun i j hi hj => ?_)
   obtain ⟨cs, el, fz, e1, e2⟩ := hh i j hi hj
   exact ⟨cs, el, fz, z0b h N e1, e2⟩
  | datn get => exact .datn get
  | datz get a c => exact .datz get a c
  | dptr cs blk base val hv hh =>
   refine .dptr cs blk base val (fun j hj => (hv j hj).mono (z2e h N)) (fun j hj => ?_)
   obtain ⟨cs', el, fz, e1, e2⟩ := hh j hj
   exact ⟨cs', el, fz, z0b h N e1, e2⟩
theorem T.get_map {f : AVal → AVal} (hf : f .undef = .undef) : ∀ (t : T AVal) (i : Nat), T.get .undef (T.map f t) i = f (T.get .undef t i)
 | .leaf, i => hf.symm
 | .node v l r, 0 => rfl
 | .node v l r, i + 1 => by
  show T.get .undef (.node (f v) (T.map f l) (T.map f r)) (i + 1) = _
  rw [T.get_succ, T.get_succ]
  split
  ·exact T.get_map hf l _
  ·exact T.get_map hf r _
theorem z3p {f : AVal → AVal} (env : T AVal) : ∀ (L : List Nat) (t : Nat), T.get .undef (z7g f env L) t = if t ∈ L then f (T.get .undef env t) else .undef
 | [], t => by simp [z7g]
 | x :: L, t => by
  unfold z7g
  rw [T.get_set, z3p env L t]
  by_cases h : t = x
  ·subst h; simp
  ·simp [h]
theorem y8v {mem : Mem} {next : Nat} {w : World} {ρ : Rho} (h : Rel ρ mem next w) {N : z3i} (ho : z2s mem N.frz = true) {env : T AVal} {n : Nat} {tmps : Array Value} (he : Xq ρ env n tmps) : ∀ (L : Option (List Nat)), Xq (z6p ρ mem N w) (w3h (ren P mem N 6) env L) n tmps
 | none => by
  refine ⟨he.size, fun i => ?_, fun i hi => ?_⟩
  ·show Ze _ (T.get .undef (T.map (ren P mem N 6) env) i) _
   rw [T.get_map rfl]; exact Qb h ho 6 _ _ (he.get i)
  ·show T.get .undef (T.map (ren P mem N 6) env) i = _
   rw [T.get_map rfl, he.out i hi]; rfl
 | some L => by
  refine ⟨he.size, fun i => ?_, fun i hi => ?_⟩
  ·show Ze _ (T.get .undef (z7g (ren P mem N 6) env L) i) _
   rw [z3p]
   split
   ·exact Qb h ho 6 _ _ (he.get i)
   ·exact .undef _
  ·show T.get .undef (z7g (ren P mem N 6) env L) i = _
   rw [z3p, he.out i hi]
   split <;> rfl
theorem y3k {mem : Mem} {N : z3i} : ∀ (l : List Nat) (i j : Nat), Yb (z2r P mem N l i).1 j = if i ≤ j then (l[j - i]?).bind fun b => (Yb mem b).map (z6r P mem N) else none
 | [], i, j => by simp [z2r, Yb]
 | b :: l, i, j => by
  unfold z2r
  have ih := y3k (mem := mem) (N := N) l (i + 1)
  have tail : i < j → (b :: l)[j - i]? = l[j - (i + 1)]? := fun h => by rw [show j - i = (j - (i + 1)) + 1 by omega]; rfl
  cases hm : Yb mem b with
  | none =>
   show Yb (z2r P mem N l (i + 1)).1 j = _
   rw [ih]
   rcases Nat.lt_trichotomy i j with h | h | h
   ·rw [if_pos (by omega), if_pos (by omega), tail h]
   ·subst h; rw [if_neg (by omega), if_pos (by omega)]; simp [hm]
   ·rw [if_neg (by omega), if_neg (by omega)]
  | some blk =>
   show Yb (Xa (z2r P mem N l (i + 1)).1 i (some (z6r P mem N blk))) j = _
   rw [Xi, ih]
   rcases Nat.lt_trichotomy i j with h | h | h
   ·rw [if_neg (by omega), if_pos (by omega), if_pos (by omega), tail h]
   ·subst h; rw [if_pos rfl, if_pos (by omega)]; simp [hm]
   ·rw [if_neg (by omega), if_neg (by omega), if_neg (by omega)]
theorem z3o {mem : Mem} {N : z3i} : ∀ (l : List Nat) (i : Nat), (z2r P mem N l i).2 = true → ∀ b ∈ l, ∀ blk, Yb mem b = some blk → w0o blk = true
 | [], i, _, b, hb, _, _ => by cases hb
 | x :: l, i, h, b, hb, blk, hm => by
  unfold z2r at h
  cases hx : Yb mem x with
  | none =>
   rw [hx] at h
   rcases List.mem_cons.1 hb with rfl | hb
   ·rw [hx] at hm; cases hm
   ·exact z3o l (i + 1) h b hb blk hm
  | some blk' =>
   rw [hx] at h
   have h : (w0o blk' && (z2r P mem N l (i + 1)).2) = true := h
   simp only [Bool.and_eq_true] at h
   rcases List.mem_cons.1 hb with rfl | hb
   ·rw [hx] at hm; obtain rfl := Option.some.inj hm; exact h.1
   ·exact z3o l (i + 1) h.2 b hb blk hm
theorem Qh {f : AVal → AVal} {lps : Loops} : ∀ (l : List Nat) (i : Nat) (sl : List (Option (List Nat))) (j : Nat) (L : ALoop), z5u (y6q f lps l i sl) j = some L → i ≤ j ∧ ∃ b L0 x, l[j - i]? = some b ∧ z5u lps b = some L0 ∧ L = ⟨L0.st, L0.pend, L0.n, w3h f L0.env x, L0.params, L0.assign, L0.body⟩
 | [], i, sl, j, L, h => by cases h
 | b :: l, i, sl, j, L, h => by
  unfold y6q at h
  split at h
  ·obtain ⟨h1, b', L0, x, h2, h3, h4⟩ := Qh l (i + 1) _ j L h
   exact ⟨by omega, b', L0, x, by rw [show j - i = (j - (i + 1)) + 1 by omega]; simpa using h2, h3, h4⟩
  ·rename_i st pend n env params assign body hb
   rw [show z5u (x2y (y6q f lps l (i + 1) sl.tail) i (some ⟨st, pend, n, w3h f env (sl.headD none), params, assign, body⟩)) j = if j = i then some ⟨st, pend, n, w3h f env (sl.headD none), params, assign, body⟩ else z5u (y6q f lps l (i + 1) sl.tail) j from T.get_set none _ i _ j] at h
   by_cases hj : j = i
   ·subst hj
    rw [if_pos rfl] at h
    obtain rfl := Option.some.inj h
    exact ⟨Nat.le_refl _, b, _, _, by simp, hb, rfl⟩
   ·rw [if_neg hj] at h
    obtain ⟨h1, b', L0, x, h2, h3, h4⟩ := Qh l (i + 1) _ j L h
    exact ⟨by omega, b', L0, x, by rw [show j - i = (j - (i + 1)) + 1 by omega]; simpa using h2, h3, h4⟩
theorem y5z {mem : Mem} {w : World} {ρ : Rho} {N : z3i} {x x' y : Item} (h : z3k N.keep x = some x') (hx : x0a ρ x y) : x0a (z6p ρ mem N w) x' y := by
 cases hx with
 | inR j l e =>
  simp only [z3k, Option.map_eq_some_iff] at h
  obtain ⟨j', hj, rfl⟩ := h
  exact .inR j' l (by rw [(Vk hj).2]; exact e)
 | endR j l e =>
  simp only [z3k, Option.map_eq_some_iff] at h
  obtain ⟨j', hj, rfl⟩ := h
  exact .endR j' l (by rw [(Vk hj).2]; exact e)
 | same x hp =>
  have : z3k N.keep x = some x := by
   unfold z3k
   split
   ·cases hp
   ·cases hp
   ·rw [hp]; rfl
  rw [this] at h
  obtain rfl := Option.some.inj h
  exact .same _ hp
theorem z4g {mem : Mem} {w : World} {ρ : Rho} {N : z3i} : ∀ {l l' m : List Item}, z0d N.keep l = some l' → z8p ρ l m → z8p (z6p ρ mem N w) l' m
 | [], l', m, h, ht => by cases ht; obtain rfl := Option.some.inj h; exact .nil
 | x :: l, l', m, h, ht => by
  cases ht with
  | cons hx ht =>
   unfold z0d at h
   split at h
   ·rename_i y k hy hk
    obtain rfl := Option.some.inj h
    exact .cons (y5z hy hx) (z4g hk ht)
   ·cases h
theorem y8u {mem : Mem} {next : Nat} {w : World} {ρ : Rho} (h : Rel ρ mem next w) {N : z3i} (ho : z2s mem N.frz = true) {cx : Ctx} {ro : Option RegOps} {todo todo' : List Item} {rnd rnd' : Option Nat} {env : T AVal} {b : Frame} {a : Act} {k : List Item} {ms : List Nat} (ht : z0d N.keep todo = some todo') (hr : y2o N.keep rnd = some rnd')
  (hf : x3f ρ cx ro todo rnd env b a k ms) (L : Option (List Nat)) : x3f (z6p ρ mem N w) cx ro todo' rnd' (w3h (ren P mem N 6) env L) b a k ms ∧ (rnd' = none → rnd = none) := by
 refine ⟨⟨y8v h ho hf.env L, hf.defers, z4g ht hf.todo, hf.ro, ?_⟩, fun e => ?_⟩
 ·have hrn := hf.rnd
  cases rnd with
  | none => obtain rfl := Option.some.inj hr; exact hrn
  | some j =>
   simp only [y2o, Option.map_eq_some_iff] at hr
   obtain ⟨j', hj, rfl⟩ := hr
   obtain ⟨h0, l, h1, h2⟩ := hrn
   exact ⟨h0, l, by rw [(Vk hj).2]; exact h1, h2⟩
 ·cases rnd with
  | none => rfl
  | some j =>
   simp only [y2o, Option.map_eq_some_iff] at hr
   obtain ⟨j', _, rfl⟩ := hr
   cases e
theorem y2p {mem : Mem} {next : Nat} {w : World} {ρ : Rho} (h : Rel ρ mem next w) {N : z3i} (ho : z2s mem N.frz = true) : ∀ {cs cs' : List AFr} {sl : List (Option (List Nat))} {css : List Frame} {mss : List Nat}, x1f (ren P mem N 6) N.keep cs sl = some cs' → x3g P ρ cs css mss → x3g P (z6p ρ mem N w) cs' css mss ∧ (cs' ≠ [] → cs ≠ [])
 | [], cs', sl, css, mss, hc, hr => by
  cases hr
  obtain rfl := Option.some.inj hc
  exact ⟨.nil, id⟩
 | af :: cs, cs', sl, css, mss, hc, hr => by
  cases hr with
  | cons hf hl ht =>
   unfold x1f at hc
   split at hc
   ·rename_i todo' rnd' cs'' h1 h2 h3
    obtain rfl := Option.some.inj hc
    obtain ⟨i1, i2⟩ := y2p h ho h3 ht
    obtain ⟨f1, f2⟩ := y8u (P := P) h ho h1 h2 hf (sl.headD none)
    exact ⟨.cons f1 (fun hne => ⟨(hl (i2 hne)).1, fun e => (hl (i2 hne)).2 (f2 e)⟩) i1, fun _ => by simp⟩
   ·cases hc
def RowTo (ρ ρ' : Rho) (L L' : List AVal) : Prop := L'.length = L.length ∧ ∀ (j : Nat) (h1 : j < L.length) (h2 : j < L'.length) (v : Value), Ze ρ L[j] v → Ze ρ' L'[j] v
theorem z2i {mem : Mem} {next : Nat} {w : World} {ρ : Rho} (h : Rel ρ mem next w) {N : z3i} (ho : z2s mem N.frz = true) : ∀ (rw1 : Rws), z9o rw1 = true → ∀ k, RowTo ρ (z6p ρ mem N w) (rw1.get k) ((z0q (ren P mem N 6) rw1).get k)
 | .flat g, hf, k => by
  refine ⟨rfl, fun j h1 h2 v hv => ?_⟩
  have hall : ∀ i, (g i).all (pf 6) = true := Wb hf
  exact ((Uk 6 _ _ (List.all_eq_true.1 (hall k) _ (List.getElem_mem h1)) hv).mono (z2e h N)).mono (y1o _)
 | .one r cs b, hf, k => by
  have ih := z2i h ho (N := N) b hf k
  have hc : RowTo ρ (z6p ρ mem N w) cs (cs.map (ren P mem N 6)) := ⟨by simp, fun j h1 h2 v hv => by simpa using Qb h ho 6 _ _ hv⟩
  simp only [z0q, Rws.get]
  cases Nat.beq k r with
  | true => exact hc
  | false => exact ih
 | .alt c a b, hf, k => by
  simp only [z9o, Bool.and_eq_true] at hf
  have iha := z2i h ho (N := N) a hf.1 k
  have ihb := z2i h ho (N := N) b hf.2 k
  simp only [z0q, Rws.get]
  cases c k with
  | true => exact iha
  | false => exact ihb
theorem x1e {mem : Mem} {next : Nat} {w : World} {ρ : Rho} (h : Rel ρ mem next w) {N : z3i} (ho : z2s mem N.frz = true) (hd : disj N.keep N.frz = true) (hfl : (z2r P mem N N.keep 0).2 = true) : Rel (z6p ρ mem N w) (z2r P mem N N.keep 0).1 N.keep.length w := by
 obtain ⟨hnd, hdj⟩ := z7u hd
 have get : ∀ j, Yb (z2r P mem N N.keep 0).1 j = (N.keep[j]?).bind fun b => (Yb mem b).map (z6r P mem N) := fun j => by
  rw [y3k, if_pos (Nat.zero_le _), Nat.sub_zero]
 have blk : ∀ {b' l}, (z6p ρ mem N w) b' = some l → ∃ b, N.keep[b']? = some b ∧ ρ b = some l := fun {b' l} e => by
  have e : (N.keep[b']?).bind (fun b => ρ b) = some l := e
  rw [Option.bind_eq_some_iff] at e
  obtain ⟨b, e1, e2⟩ := e
  exact ⟨b, e1, e2⟩
 have live : ∀ {b' b}, N.keep[b']? = some b → (Yb (z2r P mem N N.keep 0).1 b').isSome = true → (Yb mem b).isSome = true := fun {b' b} e hs => by
  rw [get, e] at hs
  simpa using hs
 refine ⟨fun b' l e => ?_, fun b' b'' l l' e e' hbl hs hs' => ?_, fun b' l ab e hm => ?_, fun k o e => ?_, fun b' l e hs => ?_, fun b' l e => ?_, fun b' hb => ?_, fun j l e => ?_⟩
 ·obtain ⟨b, e1, _⟩ := blk e
  exact (List.getElem?_eq_some_iff.1 e1).1
 ·obtain ⟨b, e1, e2⟩ := blk e
  obtain ⟨c, e3, e4⟩ := blk e'
  have := h.inj b c l l' e2 e4 hbl (live e1 hs) (live e3 hs')
  subst this
  exact (List.getElem?_inj (List.getElem?_eq_some_iff.1 e1).1 hnd).1 (e1.trans e3.symm)
 ·obtain ⟨b, e1, e2⟩ := blk e
  rw [get, e1] at hm
  simp only [Option.bind_some, Option.map_eq_some_iff] at hm
  obtain ⟨ab0, hm0, rfl⟩ := hm
  obtain ⟨hn, ht, har, cs, el, g1, g2, g3⟩ := h.blk b l ab0 e2 hm0
  obtain ⟨cells, ty, arr⟩ := ab0
  cases arr with
  | none =>
   refine ⟨by simpa [z6r] using hn, ht, (fun A hA => by cases hA), cs, el, g1, g2, fun i hi => ?_⟩
   have hi' : i < cells.length := by simpa [z6r] using hi
   obtain ⟨v, q1, q2⟩ := g3 i hi'
   exact ⟨v, q1, by simpa [z6r] using Qb h ho 6 _ _ q2⟩
  | some A =>
   obtain ⟨a1, a2, a3⟩ := har A rfl
   simp only at a1
   have hfb : w0o ⟨cells, ty, some A⟩ = true := z3o N.keep 0 hfl b (List.mem_of_getElem? e1) _ hm0
   have hrow := z2i (P := P) h ho (N := N) A.rw hfb
   have hl' : ∀ i, i < A.n → ((z0q (ren P mem N 6) A.rw).get i).length = A.sz := fun i hi => by rw [(hrow i).1]; exact a3 i hi
   have k1 := Zn A.n a3
   have k2 := Zn A.n hl'
   refine ⟨by show l.n = (rows A.n _).length; rw [k2, hn]; show cells.length = _; rw [a1, k1], ht, (fun B hB => by obtain rfl := Option.some.inj hB; exact ⟨rfl, a2, hl'⟩), cs, el, g1, g2, fun i hi => ?_⟩
   have hi' : i < A.n * A.sz := by rw [← k2]; exact hi
   have hj : i % A.sz < A.sz := Nat.mod_lt _ a2
   have hq : i / A.sz < A.n := Nat.div_lt_of_lt_mul (by rw [Nat.mul_comm]; exact hi')
   have e : i / A.sz * A.sz + i % A.sz = i := by rw [Nat.mul_comm]; exact Nat.div_add_mod i A.sz
   have hic : i < cells.length := by rw [a1, k1]; exact hi'
   have r1 := Xf A.n a3 (i / A.sz) (i % A.sz) hq hj
   have r2 := Xf A.n hl' (i / A.sz) (i % A.sz) hq hj
   rw [e] at r1 r2
   have hi2 : i < (rows A.n (z0q (ren P mem N 6) A.rw).get).length := hi
   have j1 : i % A.sz < (A.rw.get (i / A.sz)).length := by rw [show A.rw.get = A.get from rfl, a3 _ hq]; exact hj
   have j2 : i % A.sz < ((z0q (ren P mem N 6) A.rw).get (i / A.sz)).length := by rw [hl' _ hq]; exact hj
   obtain ⟨v, q1, q2⟩ := g3 i hic
   have s1 : cells[i] = (A.rw.get (i / A.sz))[i % A.sz] := by
    have : cells[i]? = some (A.rw.get (i / A.sz))[i % A.sz] := by rw [a1, r1, show A.get = A.rw.get from rfl, List.getElem?_eq_getElem j1]
    rw [List.getElem?_eq_getElem hic] at this
    exact Option.some.inj this
   have s2 : (rows A.n (z0q (ren P mem N 6) A.rw).get)[i]'hi2 = ((z0q (ren P mem N 6) A.rw).get (i / A.sz))[i % A.sz] := by
    have : (rows A.n (z0q (ren P mem N 6) A.rw).get)[i]? = some ((z0q (ren P mem N 6) A.rw).get (i / A.sz))[i % A.sz] := by rw [r2, List.getElem?_eq_getElem j2]
    rw [List.getElem?_eq_getElem hi2] at this
    exact Option.some.inj this
   refine ⟨v, q1, ?_⟩
   show Ze _ ((rows A.n (z0q (ren P mem N 6) A.rw).get)[i]'hi2) v
   rw [s2]
   refine (hrow _).2 _ j1 j2 v ?_
   rw [← s1]; exact q2
 ·have e : @ite _ (Fz ρ mem N k) (Classical.propDecidable _) (w.heap[k]?) (ρ.fz k) = some o := e
  by_cases hf : Fz ρ mem N k
  ·rw [if_pos hf] at e; exact e
  ·rw [if_neg hf] at e; exact h.old k o e
 ·obtain ⟨b, e1, e2⟩ := blk e
  have hs0 := live e1 hs
  have hnf : ¬ Fz ρ mem N l.blk := fun ⟨c, l', c1, c2, c3, c4⟩ => by
   have := h.inj c b l' l c2 e2 c4 c3 hs0
   subst this
   exact hdj c (List.mem_of_getElem? e1) c1
  show @ite _ (Fz ρ mem N l.blk) (Classical.propDecidable _) (w.heap[l.blk]?) (ρ.fz l.blk) = none
  rw [if_neg hnf]
  exact h.sep b l e2 hs0
 ·obtain ⟨b, _, e2⟩ := blk e
  exact h.real b l e2
 ·rw [get, List.getElem?_eq_none hb]; rfl
 ·have e : (N.keep[j]?).bind (fun b => ρ.lp b) = some l := e
  rw [Option.bind_eq_some_iff] at e
  exact (List.getElem?_eq_some_iff.1 e.choose_spec.1).1
theorem renEv {H : Old} {mem : Mem} {next : Nat} {w0 w : World} {ρ : Rho} (h : Rel ρ mem next w) {N : z3i} (he : Ev (Qg H) ρ 0 .leaf 0 mem next w0 w) (mem' : Mem) (next' : Nat) : Ev (Qg H) (z6p ρ mem N w) 0 .leaf 0 mem' next' w0 w :=
 ⟨⟨fun b l e => (by cases e), fun k o e => z0b h N (he.ext.2.1 k o e), fun j l e => (by cases e)⟩, fun b hb => absurd hb (Nat.not_lt_zero _), Nat.zero_le _, fun b hb => absurd hb (Nat.not_lt_zero _), he.frame, fun b l _ e => by
   have e : (N.keep[b]?).bind (fun b => ρ b) = some l := e
   rw [Option.bind_eq_some_iff] at e
   obtain ⟨c, _, e2⟩ := e
   exact he.fresh c l (Nat.zero_le _) e2, he.size, he.os, he.tape, he.output, fun k hk => by
   have hnf : ¬ Fz ρ mem N k := fun ⟨b, l, _, e2, _, e4⟩ => by
    rcases he.fresh b l (Nat.zero_le _) e2 with h1 | ⟨b0, l0, e0, _⟩
    ·omega
    ·cases e0
   show @ite _ (Fz ρ mem N k) (Classical.propDecidable _) (w.heap[k]?) (ρ.fz k) = _
   rw [if_neg hnf]
   exact he.still k hk⟩
def z5b (P : Program) (C C' : Cfg) : Prop :=
 ∀ (H : Old) (w0 : World) (ρ : Rho) (b : Frame) (a : Act) (k : List Item) (css : List Frame) (w : World) (ma mb : List Nat), w8v P w0.heap.size C ρ b a k css w ma mb → Ev (Qg H) ρ 0 .leaf 0 C.st.mem C.st.next w0 w → ∀ cs0 : List Frame,
  ∃ ρ' b' a' k' css' w' ma' mb', Steps P (lone (b.atR a (Xd C.ro k)) (css ++ cs0) w) (lone (b'.atR a' (Xd C'.ro k')) (css' ++ cs0) w') ∧ w8v P w0.heap.size C' ρ' b' a' k' css' w' ma' mb' ∧ Ev (Qg H) ρ' 0 .leaf 0 C'.st.mem C'.st.next w0 w' ∧ y7w b' css' = y7w b css
theorem z5b.refl (C : Cfg) : z5b P C C := fun H w0 ρ b a k css w ma mb hs he cs0 => ⟨ρ, b, a, k, css, w, ma, mb, Steps.refl _ _, hs, he, rfl⟩
theorem z5b.trans {A B C : Cfg} (h : z5b P A B) (k : z5b P B C) : z5b P A C := by
 intro H w0 ρ b a t css w ma mb hs he cs0
 obtain ⟨ρ1, b1, a1, t1, css1, w1, ma1, mb1, s1, r1, e1, q1⟩ := h H w0 ρ b a t css w ma mb hs he cs0
 obtain ⟨ρ2, b2, a2, t2, css2, w2, ma2, mb2, s2, r2, e2, q2⟩ := k H w0 ρ1 b1 a1 t1 css1 w1 ma1 mb1 r1 e1 cs0
 exact ⟨ρ2, b2, a2, t2, css2, w2, ma2, mb2, s1.trans s2, r2, e2, q2.trans q1⟩
theorem z4d.goes {C C' : Cfg} (h : z4d P 0 C C') : z5b P C C' := fun H w0 ρ b a k css w ma mb hs he cs0 => h .leaf 0 (Qg H) w0 ρ b a k css w ma mb hs he cs0
def fl0 (C : Cfg) : Bool := Nat.beq C.cx.floor 0 && C.cs.all fun af => Nat.beq af.cx.floor 0
theorem w0p {C : Cfg} (h : fl0 C = true) : Fl 0 C := by
 unfold fl0 at h
 simp only [Bool.and_eq_true] at h
 exact ⟨Nat.eq_of_beq_eq_true h.1, fun af haf => Nat.eq_of_beq_eq_true (List.all_eq_true.1 h.2 af haf), Nat.zero_le _⟩
theorem z6q {f : AVal → AVal} {keep : List Nat} {fl : Nat} : ∀ {cs cs' : List AFr} {sl : List (Option (List Nat))}, x1f f keep cs sl = some cs' → (∀ af ∈ cs, af.cx.floor = fl) → ∀ af ∈ cs', af.cx.floor = fl
 | [], cs', sl, h, _, af, haf => by obtain rfl := Option.some.inj h; cases haf
 | a0 :: cs, cs', sl, h, hcs, af, haf => by
  unfold x1f at h
  split at h
  ·rename_i t1 r1 c1 g1 g2 g3
   obtain rfl := Option.some.inj h
   rcases List.mem_cons.1 haf with rfl | haf
   ·exact hcs a0 (List.mem_cons_self ..)
   ·exact z6q g3 (fun x hx => hcs x (List.mem_cons_of_mem _ hx)) af haf
  ·cases h
theorem x1j {N : z3i} {C C' : Cfg} (h : x9p P N C = some C') (ho : C'.st.ob = true) : C.st.ob = true ∧ z5b P C C' ∧ (Fl 0 C → Fl 0 C') := by
 obtain ⟨cx, ro, todo, rnd, rs, ⟨env, mem, next, orc, ob⟩, cs, lps⟩ := C
 simp only [x9p] at h
 split at h
 ·rename_i todo' rnd' cs' h1 h2 h3
  obtain ⟨hd, h⟩ := Zc h
  obtain rfl := Option.some.inj h
  simp only [Bool.and_eq_true] at ho
  obtain ⟨hkm, ho2, ho3⟩ := ho
  refine ⟨ho3, fun H w0 ρ b a k css w ma mb hs he cs0 => ?_, fun hfl => ⟨hfl.cx, fun af haf => ?_, Nat.zero_le _⟩⟩
  ·have hrel := hs.rel
   simp only at hrel he
   obtain ⟨f1, f2⟩ := y8u (P := P) hrel ho2 h1 h2 hs.top (N.slots.headD none)
   obtain ⟨c1, c2⟩ := y2p (P := P) hrel ho2 h3 hs.rest.cs
   refine ⟨z6p ρ mem N w, b, a, k, css, w, ma, mb, Steps.refl _ _, ⟨f1, fun hne => ⟨(hs.lv (c2 hne)).1, fun e => (hs.lv (c2 hne)).2 (f2 e)⟩, ⟨c1, hs.rest.nodup, fun r hr => ?_, fun j L hL => ?_, fun j j' L L' l hL hL' e e' => ?_⟩, ?_⟩, renEv hrel he _ _, rfl⟩
   ·obtain ⟨q1, ⟨q2, q3, q4⟩, q5⟩ := hs.rest.marks r hr
    refine ⟨q1, ⟨q2, ?_, fun b' l e => ?_⟩, q5⟩
    ·show @ite _ (Fz ρ mem N r) (Classical.propDecidable _) (w.heap[r]?) (ρ.fz r) = none
     rw [if_neg fun ⟨c, l, _, e2, _, e4⟩ => q4 c l e2 e4]; exact q3
    ·have e : (N.keep[b']?).bind (fun b => ρ b) = some l := e
     rw [Option.bind_eq_some_iff] at e
     obtain ⟨c, _, e2⟩ := e
     exact q4 c l e2
   ·obtain ⟨_, c, L0, x, e1, e2, rfl⟩ := Qh N.keep 0 _ j L hL
    rw [Nat.sub_zero] at e1
    obtain ⟨l, q1, q2, ⟨q3, q4, q5⟩, tm, fn', d, q6, q7⟩ := hs.rest.loops c L0 e2
    refine ⟨l, ?_, q2, ⟨q3, ?_, fun b' l' e => ?_⟩, tm, fn', d, q6, y8v (P := P) hrel ho2 q7 x⟩
    ·show (N.keep[j]?).bind (fun b => ρ.lp b) = some l
     rw [e1]; exact q1
    ·show @ite _ (Fz ρ mem N l) (Classical.propDecidable _) (w.heap[l]?) (ρ.fz l) = none
     rw [if_neg fun ⟨c, l, _, e2, _, e4⟩ => q5 c l e2 e4]; exact q4
    ·have e : (N.keep[b']?).bind (fun b => ρ b) = some l' := e
     rw [Option.bind_eq_some_iff] at e
     obtain ⟨c, _, e2⟩ := e
     exact q5 c l' e2
   ·obtain ⟨_, c, L0, x, e1, e2, rfl⟩ := Qh N.keep 0 _ j L hL
    obtain ⟨_, c', L0', x', e1', e2', rfl⟩ := Qh N.keep 0 _ j' L' hL'
    rw [Nat.sub_zero] at e1 e1'
    have e : (N.keep[j]?).bind (fun b => ρ.lp b) = some l := e
    have e' : (N.keep[j']?).bind (fun b => ρ.lp b) = some l := e'
    rw [e1] at e
    rw [e1'] at e'
    have := hs.rest.inj c c' L0 L0' l e2 e2' e e'
    subst this
    exact (List.getElem?_inj (List.getElem?_eq_some_iff.1 e1).1 (z7u hd).1).1 (e1.trans e1'.symm)
   ·exact x1e hrel ho2 hd hkm
  ·exact z6q h3 hfl.cs af haf
 ·cases h
theorem y3n {S : Specs} {Rc : Runner} (hN : z4c P) (hmx : P.follows .mixedOrders = true) (hS : Zu P S) (hCI : x3e Rc) (hC : ROk P Rc) {fl : Nat} : ∀ (n : Nat) (C C' : Cfg), Fl fl C → w0g P S Rc n C = some C' → Fl fl C' ∧ Xp fl C.st C'.st ∧ (C'.st.ob = true → z4d P fl C C')
 | 0, C, C', hfl, h => by
  obtain rfl := Option.some.inj h
  exact ⟨hfl, Xp.refl _ _, fun _ => z4d.refl fl C⟩
 | n + 1, C, C', hfl, h => by
  have h : (match x0k P S Rc C with
   | some C' => w0g P S Rc n C'
   | none => none) = some C' := h
  split at h
  ·rename_i C1 h1
   have s1 := y2e hN hmx hS hCI hC hfl h1
   obtain ⟨f1, f4, f5⟩ := y3n hN hmx hS hCI hC n C1 C' s1.fls h
   exact ⟨f1, s1.inv.trans f4, fun ho => (s1.leads (f4.ob ho)).trans (f5 ho)⟩
  ·cases h
def Zd (P : Program) (f : FuncId) (args : List AVal) (sym : Bool) (orc : List Bool) : Cfg :=
 match P.funcs[f]? with
 | some fn => ⟨⟨Nat.max fn.ntmps args.length, 0, sym⟩, none, [.code (fn.body.getD .ret)], none, fn.results.toList, ⟨z3u args 0 .leaf, .leaf, 0, orc, true⟩, [], .leaf⟩
 | none => ⟨⟨0, 0, sym⟩, none, [], none, [], ⟨.leaf, .leaf, 0, [], true⟩, [], .leaf⟩
theorem goes_call {f : FuncId} {args : List AVal} {sym : Bool} {orc : List Bool} {C' : Cfg} {vs : List AVal} {H : Old} (hf : (P.funcs[f]?).any (fun fn => fn.body.isSome) = true) (h : z5b P (Zd P f args sym orc) C') (hfin : z0v C' = true) (hob : (Vp P C'.st (Zd P f args sym orc).rs) = some vs)
  {vals : Array Value} {w : World} (hargs : Wz (Ze (Qg H)) args vals.toList) (hH : ∀ k o, H k = some o → w.heap[k]? = some o) :
  Calls P f vals w fun e w' => ∃ ρ u, e = .returned u ∧ Out H w ρ (Ur vs) u w' := by
 cases hfn : P.funcs[f]? with
 | none => rw [hfn] at hf; cases hf
 | some fn =>
  rw [hfn] at hf
  have hf : fn.body.isSome = true := hf
  obtain ⟨body, hb⟩ := Option.isSome_iff_exists.1 hf
  have hstart : Zd P f args sym orc = ⟨⟨Nat.max fn.ntmps args.length, 0, sym⟩, none, [.code body], none, fn.results.toList, ⟨z3u args 0 .leaf, .leaf, 0, orc, true⟩, [], .leaf⟩ := by
   unfold Zd; rw [hfn]; simp [hb]
  rw [hstart] at h hob
  simp only at hob
  intro cs
  obtain ⟨ρ', b', a', k', css', w', ma', mb', s1, r1, v1, q1⟩ := h H w (Qg H) ⟨f, #[], [], [], .run, .normal, none⟩ { tmps := vals ++ Array.replicate (fn.ntmps - vals.size) undef, defers := [] } [.code body] [] w [] []
   ⟨⟨z7p hargs fn.ntmps, rfl, .cons (.same _ rfl) .nil, trivial, rfl⟩, fun h => absurd rfl h, z9f _ _ _, y2q hH⟩ (Ev.refl _ _ _ _ _ (y2q hH).dom) cs
  obtain ⟨e1, e2, e3, e4⟩ := z7o hfin
  have hcs := r1.rest.cs
  rw [e3] at hcs
  cases hcs
  obtain ⟨w2, s2, henv', hrel', hev', _⟩ := z7s r1 e1 e2 e4 rfl v1 cs
  obtain ⟨u, hu, hres⟩ := Ki (fn := fn) henv' hrel' hob
  have q : (b'.fn, b'.kind, b'.roundOf) = (f, CallKind.normal, none) := q1
  simp only [Prod.mk.injEq] at q
  have hen : Frame.enter P f vals .normal = Frame.atR ⟨f, #[], [], [], .run, .normal, none⟩ { tmps := vals ++ Array.replicate (fn.ntmps - vals.size) undef, defers := [] } (Xd none [.code body]) := by
   simp [Frame.enter, Frame.atR, hfn, hb, Xd]
  refine ⟨.returned u, w2, { b'.atR { a' with defers := [] } k' with mode := .returning }, ⟨ρ', u, rfl, out_of hu hrel' hev'⟩, ?_, q.1, rfl, rfl, q.2.1, fn, by show P.funcs[b'.fn]? = _; rw [q.1]; exact hfn, hres⟩
  rw [hen]; exact s1.trans s2
end
end Go.Am
namespace Go.Am
def Uz : List ABlk → Nat → Mem
 | [], _ => .leaf
 | b :: l, i => Xa (Uz l (i + 1)) i (some b)
def z4l (c : Nat → Int) : Nat → List AVal := fun i => [.int .i64 (c i)]
def Cfg.withO : Cfg → List Bool → Cfg
 | ⟨cx, ro, todo, rnd, rs, ⟨env, mem, next, _, _⟩, cs, lps⟩, o => ⟨cx, ro, todo, rnd, rs, ⟨env, mem, next, o, true⟩, cs, lps⟩
def Cfg.withB : Cfg → Bool → Cfg
 | ⟨cx, ro, todo, rnd, rs, ⟨env, mem, next, _, _⟩, cs, lps⟩, b => ⟨cx, ro, todo, rnd, rs, ⟨env, mem, next, [], b⟩, cs, lps⟩
inductive Xg (σ : Type) where
 | stuck
 | ret (vs : List AVal)
 | to (s : σ)
def Kz (P : Program) (rs : List ResultVar) (C : Cfg) (vs : List AVal) : Prop := ∃ C', z5b P C C' ∧ z0v C' = true ∧ Vp P C'.st rs = some vs
def Xt (P : Program) (rs : List ResultVar) {σ : Type} (cfg : σ → Cfg) (C : Cfg) : Xg σ → Prop
 | .stuck => True
 | .ret vs => Kz P rs C vs
 | .to s => z5b P C (cfg s)
section
variable {P : Program} {rs : List ResultVar} {σ : Type} {cfg : σ → Cfg} {C : Cfg}
theorem y9l {c : Bool} {a b : Xg σ} (ha : c = true → Xt P rs cfg C a) (hb : c = false → Xt P rs cfg C b) : Xt P rs cfg C (bif c then a else b) := by
 cases c
 ·exact hb rfl
 ·exact ha rfl
theorem w0e {c : Bool} {a : Xg σ} (ha : c = true → Xt P rs cfg C a) : Xt P rs cfg C (bif c then a else .stuck) := y9l ha fun _ => trivial
theorem w0d {vs : List AVal} (C' : Cfg) (h : z5b P C C') (hf : z0v C' = true) (hr : Vp P C'.st rs = some vs) : Xt P rs cfg C (.ret vs) := ⟨C', h, hf, hr⟩
end
def Yk {σ : Type} (step : σ → Xg σ) : Nat → Xg σ → Xg σ
 | 0, o => o
 | n + 1, .to s => Yk step n (step s)
 | _ + 1, o => o
theorem Zr {P : Program} {rs : List ResultVar} {σ : Type} {cfg : σ → Cfg} {step : σ → Xg σ} (hstep : ∀ s, Xt P rs cfg (cfg s) (step s)) {C : Cfg} : ∀ (n : Nat) (o : Xg σ), Xt P rs cfg C o → Xt P rs cfg C (Yk step n o)
 | 0, o, h => h
 | n + 1, .stuck, h => h
 | n + 1, .ret vs, h => h
 | n + 1, .to s, h => Zr hstep n (step s) (match step s, hstep s with
  | .stuck, _ => trivial
  | .ret vs, ⟨C', g, hf, hr⟩ => ⟨C', z5b.trans h g, hf, hr⟩
  | .to s', g => z5b.trans h g)
theorem Zm {σ : Type} (step : σ → Xg σ) (n : Nat) (vs : List AVal) : Yk step n (.ret vs) = .ret vs := by cases n <;> rfl
theorem Zv {σ : Type} (step : σ → Xg σ) (n : Nat) (s : σ) : Yk step (n + 1) (.to s) = Yk step n (step s) := rfl
theorem z4i {a b : Bool} (ha : a = true) (hb : b = true) : (a && b) = true := by rw [ha, hb]; rfl
theorem x5k {a b : Bool} (h : a = b) : (a == b) = true := by rw [h]; cases b <;> rfl
def Specs.with (S : Specs) (f : FuncId) (F : List AVal → Option (AVal × Bool)) : Specs := fun g => bif Nat.beq g f then some (.val F) else S g
theorem y2f {P : Program} {f : FuncId} {args : List AVal} {sym : Bool} {orc : List Bool} : (Zd P f args sym orc).rs = Zy P f := by
 unfold Zd Zy
 cases P.funcs[f]? <;> rfl
theorem x3h {P : Program} {S : Specs} (hS : Zu P S) {f : FuncId} {F : List AVal → Option (AVal × Bool)} (hf : (P.funcs[f]?).any (fun fn => fn.body.isSome) = true)
  (hF : ∀ args v, F args = some (v, true) → ∃ vs, Ur vs = v ∧ Kz P (Zy P f) (Zd P f args true []) vs ∧ ∃ d, pf d v = true) : Zu P (S.with f F) := by
 intro g G hg
 unfold Specs.with at hg
 cases hgf : Nat.beq g f with
 | false => rw [hgf] at hg; exact hS g G hg
 | true =>
  rw [hgf] at hg
  obtain rfl : Spec.val F = G := Option.some.inj hg
  obtain rfl : g = f := Nat.eq_of_beq_eq_true hgf
  refine ⟨?_, fun args v hv H vals w hargs hH => ?_⟩
  ·cases hfn : P.funcs[g]? with
   | none => rw [hfn] at hf; cases hf
   | some fn => rw [hfn] at hf; exact ⟨fn, rfl, hf⟩
  ·obtain ⟨vs, rfl, ⟨C', g1, g2, g3⟩, d, hp⟩ := hF args v hv
   exact (goes_call hf g1 g2 (by rw [y2f]; exact g3) hargs hH).mono fun e w' ⟨ρ, u, he, ho⟩ => ⟨ρ.fz, u, ho.le, ho.old, ho.same, he, Uk d _ u hp ho.val, ho.below⟩
def cOf (get : Nat → List AVal) (i : Nat) : Int := match get i with
 | .int _ n :: _ => n
 | _ => 0
def isI (get : Nat → List AVal) : Bool := pd (get = z4l (cOf get))
theorem y9o {get : Nat → List AVal} (h : isI get = true) : ∃ c, get = z4l c := ⟨_, Wb h⟩
theorem x9s (x : Int) : (x != x) = false := by simp
theorem w0z (x : Int) : (x == x) = true := by simp
theorem x5p (x : Int) : (!(x != x)) = true := by simp
theorem x5q (x : Int) : (!(x == x)) = false := by simp
theorem w64 (n : Int) : IntKind.i64.wrap n = (n + 9223372036854775808) % 18446744073709551616 - 9223372036854775808 := by
 rw [IntKind.wrap_i64]
theorem w_in {n : Int} (h : -9223372036854775808 ≤ n) (h' : n ≤ 9223372036854775807) : IntKind.i64.wrap n = n := by simp only [w64]; omega
theorem w7c (x y : Int) : Jv x y = min x y := by unfold Jv; split <;> omega
theorem w7d (x y : Int) : Ww x y = max x y := by unfold Ww; split <;> omega
end Go.Am
namespace Go.Am
inductive VLe : AVal → AVal → Prop
 | refl (v : AVal) : VLe v v
 | undef (v : AVal) : VLe v .undef
 | nils (b sz off : Nat) (cap : w2c) : VLe .nils (.sla b sz off 0 cap)
 | sl (b sz q len : Nat) (cap : w2c) : VLe (.sl b (q * sz) len cap) (.sla b sz q len cap)
 | nild (g : Nat → List AVal) : VLe .nils (.dat 0 g)
 | dat (n : Nat) (g g' : Nat → List AVal) (h : ∀ i, i < n → g i = g' i) : VLe (.dat n g) (.dat n g')
theorem VLe.sound {ρ : Rho} {a a' : AVal} {v : Value} (h : VLe a a') (hv : Ze ρ a v) : Ze ρ a' v := by
 cases h with
 | refl => exact hv
 | undef => exact .undef _
 | nils b sz off cap => cases hv; exact .slan b sz off cap
 | sl b sz q len cap => cases hv with | sl _ _ _ _ l c h hc hlen => exact .sla b sz q len cap l c h hc hlen
 | nild g => cases hv; exact .datn _
 | dat n g g' hg =>
  cases hv with
  | datn => exact .datn _
  | datz => exact .datz _ _ _
  | dat _ _ blk base sz cap val hcap hsz hv hh =>
   refine .dat n g' blk base sz cap val hcap (fun i hi => by rw [← hg i hi]; exact hsz i hi) (fun i j hi hj => ?_) hh
   have e := hg i hi
   have hj' : j < (g i).length := by rw [e]; exact hj
   have := hv i j hi hj'
   simp only [e] at this
   exact this
theorem VLe.of_undef {a : AVal} (h : VLe .undef a) : a = .undef := by cases h <;> rfl
inductive RLe : List AVal → List AVal → Prop
 | nil : RLe [] []
 | cons {a b : AVal} {l m : List AVal} (h : VLe a b) (t : RLe l m) : RLe (a :: l) (b :: m)
theorem RLe.refl : ∀ l : List AVal, RLe l l
 | [] => .nil
 | a :: l => .cons (.refl a) (RLe.refl l)
theorem RLe.len {l m : List AVal} (h : RLe l m) : l.length = m.length := by
 induction h with
 | nil => rfl
 | cons _ _ ih => simp [ih]
theorem RLe.get {l m : List AVal} (h : RLe l m) : ∀ (i : Nat) (h1 : i < l.length) (h2 : i < m.length), VLe l[i] m[i] := by
 induction h with
 | nil => intro i h1; simp at h1
 | cons h _ ih =>
  intro i h1 h2
  cases i with
  | zero => exact h
  | succ i => exact ih i (by simpa using h1) (by simpa using h2)
inductive BLe : Option ABlk → Option ABlk → Prop
 | refl (b : Option ABlk) : BLe b b
 | drop (b : Option ABlk) : BLe b none
 | rowed (cells : List AVal) (ty : TypeId) (a : Option Arr) (sz n : Nat) (g : Nat → List AVal) (hc : cells = rows n g) (h1 : 1 ≤ sz) (hl : ∀ i, i < n → (g i).length = sz) : BLe (some ⟨cells, ty, a⟩) (some ⟨rows n g, ty, some ⟨sz, n, g⟩⟩)
 | rws (ty : TypeId) (sz n : Nat) (a a' : Rws) (h : ∀ k, k < n → RLe (a.get k) (a'.get k)) : BLe (some ⟨rows n a.get, ty, some ⟨sz, n, a⟩⟩) (some ⟨rows n a'.get, ty, some ⟨sz, n, a'⟩⟩)
theorem BLe.sound {ρ : Rho} {w : World} {a a' : ABlk} {l : Loc} (h : BLe (some a) (some a')) (hb : Jr ρ w a l) : Jr ρ w a' l := by
 cases h with
 | refl => exact hb
 | rowed cells ty a sz n g hc h1 hl =>
  subst hc
  refine ⟨hb.n, hb.tot, fun A hA => ?_, hb.cells⟩
  obtain rfl := Option.some.inj hA
  exact ⟨rfl, h1, hl⟩
 | rws ty sz n a a' h =>
  obtain ⟨_, h1, hl⟩ := hb.arr _ rfl
  have h1 : 1 ≤ sz := h1
  have hl : ∀ k, k < n → (a.get k).length = sz := hl
  have hl' : ∀ k, k < n → (a'.get k).length = sz := fun k hk => by rw [← (h k hk).len]; exact hl k hk
  have k1 := Zn n hl
  have k2 := Zn n hl'
  obtain ⟨cs, el, g1, g2, g3⟩ := hb.cells
  refine ⟨by rw [hb.n]; show (rows n a.get).length = (rows n a'.get).length; rw [k1, k2], hb.tot, fun A hA => ?_, cs, el, g1, g2, fun i hi => ?_⟩
  ·obtain rfl := Option.some.inj hA
   exact ⟨rfl, h1, hl'⟩
  ·have hi2 : i < (rows n a'.get).length := hi
   have hi' : i < n * sz := by rw [← k2]; exact hi
   have hj : i % sz < sz := Nat.mod_lt _ h1
   have hq : i / sz < n := Nat.div_lt_of_lt_mul (by rw [Nat.mul_comm]; exact hi')
   have e : i / sz * sz + i % sz = i := by rw [Nat.mul_comm]; exact Nat.div_add_mod i sz
   have hic : i < (rows n a.get).length := by rw [k1]; exact hi'
   have r1 := Xf n hl (i / sz) (i % sz) hq hj
   have r2 := Xf n hl' (i / sz) (i % sz) hq hj
   rw [e] at r1 r2
   have j1 : i % sz < (a.get (i / sz)).length := by rw [hl _ hq]; exact hj
   have j2 : i % sz < (a'.get (i / sz)).length := by rw [hl' _ hq]; exact hj
   obtain ⟨v, q1, q2⟩ := g3 i hic
   have q2 : Ze ρ ((rows n a.get)[i]'hic) v := q2
   refine ⟨v, q1, ?_⟩
   show Ze ρ ((rows n a'.get)[i]'hi2) v
   rw [List.getElem?_eq_getElem hic, List.getElem?_eq_getElem j1] at r1
   rw [List.getElem?_eq_getElem hi2, List.getElem?_eq_getElem j2] at r2
   rw [Option.some.inj r1] at q2
   rw [Option.some.inj r2]
   exact ((h _ hq).get _ j1 j2).sound q2
inductive LLe : List (Nat × AVal) → List (Nat × AVal) → Prop
 | nil : LLe [] []
 | cons (t : Nat) (v v' : AVal) (l l' : List (Nat × AVal)) (h : VLe v v') (hl : LLe l l') : LLe ((t, v) :: l) ((t, v') :: l')
inductive MLe : List ABlk → List ABlk → Prop
 | nil (l : List ABlk) : MLe [] l
 | cons (b b' : ABlk) (l l' : List ABlk) (h : BLe (some b) (some b')) (hl : MLe l l') : MLe (b :: l) (b' :: l')
theorem LLe.get {l l' : List (Nat × AVal)} (h : LLe l l') (t : Nat) : VLe (T.get .undef (Yo l) t) (T.get .undef (Yo l') t) := by
 induction h with
 | nil => exact .refl _
 | cons s v v' l l' h _ ih =>
  simp only [Yo, T.get_set]
  split
  ·exact h
  ·exact ih
theorem MLe.get {m m' : List ABlk} (h : MLe m m') : ∀ b, b < m.length → BLe m[b]? m'[b]? := by
 induction h with
 | nil l => intro b hb; exact absurd hb (Nat.not_lt_zero _)
 | cons x x' l l' h _ ih =>
  intro b hb
  cases b with
  | zero => simpa using h
  | succ b => simpa using ih b (by simpa using hb)
theorem MLe.len {m m' : List ABlk} (h : MLe m m') : m.length ≤ m'.length := by
 induction h with
 | nil l => exact Nat.zero_le _
 | cons x x' l l' _ _ ih => simpa using ih
theorem z0a {g h : Nat → List AVal} : ∀ (n : Nat), (∀ i, i < n → g i = h i) → rows n g = rows n h
 | 0, _ => rfl
 | n + 1, e => by rw [z2c, z2c, z0a n fun i hi => e i (by omega), e n (by omega)]
def w8u (n : Nat) (g : Nat → List AVal) (c : Nat → Int) : Prop := ∀ i, i < n → g i = z4l c i
theorem BLe.same (ty : TypeId) (a : Option Arr) {n : Nat} {g : Nat → List AVal} {c : Nat → Int} (h : w8u n g c) : BLe (some ⟨Go.Am.rows n g, ty, a⟩) (some ⟨Go.Am.rows n (z4l c), ty, some ⟨1, n, z4l c⟩⟩) :=
 .rowed _ _ _ _ _ _ (z0a _ h) (Nat.le_refl 1) fun _ _ => rfl
def z0r (l : List Int) : Nat → Int := fun k => l.getD k 0
theorem BLe.told (cells : List AVal) (ty : TypeId) (a : Option Arr) (n : Nat) (c : Nat → Int) (h : cells = Go.Am.rows n (z4l c)) : BLe (some ⟨cells, ty, a⟩) (some ⟨Go.Am.rows n (z4l c), ty, some ⟨1, n, z4l c⟩⟩) :=
 .rowed _ _ _ _ _ _ h (Nat.le_refl 1) fun _ _ => rfl
def y1y (asz sz off len n : Nat) (get : Nat → List AVal) : AVal := bif Nat.beq asz sz && Nat.ble (off + len) n then .dat len (fun k => get (off + k)) else .undef
theorem w7h (sz n : Nat) (g : Nat → List AVal) : y1y sz sz 0 n n g = .dat n g := by
 unfold y1y
 rw [show (Nat.beq sz sz && Nat.ble (0 + n) n) = true by simp [Nat.beq_refl, Nat.ble_eq], cond_true]
 congr 1
 funext k
 rw [Nat.zero_add]
def Km (g : Nat → List AVal) : Bool := pd (∀ i, (g i).all (pf 6) = true)
theorem y9y {p : AVal → Bool} {l : List AVal} (h : l.all p = true) (n : Nat) : (l.take n).all p = true :=
 List.all_eq_true.2 fun x hx => List.all_eq_true.1 h x (List.mem_of_mem_take hx)
theorem y9z {p : AVal → Bool} {l : List AVal} (h : l.all p = true) (n : Nat) : (l.drop n).all p = true :=
 List.all_eq_true.2 fun x hx => List.all_eq_true.1 h x (List.mem_of_mem_drop hx)
theorem x6p {g : Nat → List AVal} {off len sz : Nat} {new : List AVal} (h : Km g = true) (hn : new.all (pf 6) = true) : Km (Zf g off len sz new) = true := pd_true fun i => by
 unfold Zf
 cases Nat.ble len i with
 | true => exact y9y (y9z hn _) _
 | false => exact Wb h _
theorem x6m {g : Nat → List AVal} {r fo : Nat} {cs : List AVal} (h : Km g = true) (hn : cs.all (pf 6) = true) : Km (Xc g r fo cs) = true := pd_true fun i => by
 unfold Xc
 cases Nat.beq i r with
 | true =>
  rw [cond_true, List.all_append, List.all_append, y9y (Wb h r), hn, y9z (Wb h r)]
  rfl
 | false => exact Wb h _
theorem x0c {P : Program} {S : Specs} (hS : Zu P S) {f : FuncId} {F : List AVal → Option (AVal × Bool)} (hf : (P.funcs[f]?).any (fun fn => fn.body.isSome) = true)
  (hF : ∀ args v, F args = some (v, true) → ∃ vs, (∀ (ρ : Rho) (u : Value), Ze ρ (Ur vs) u → Ze ρ v u) ∧ Kz P (Zy P f) (Zd P f args true []) vs ∧ ∃ d, pf d (Ur vs) = true) : Zu P (S.with f F) := by
 intro g G hg
 unfold Specs.with at hg
 cases hgf : Nat.beq g f with
 | false => rw [hgf] at hg; exact hS g G hg
 | true =>
  rw [hgf] at hg
  obtain rfl : Spec.val F = G := Option.some.inj hg
  obtain rfl : g = f := Nat.eq_of_beq_eq_true hgf
  refine ⟨?_, fun args v hv H vals w hargs hH => ?_⟩
  ·cases hfn : P.funcs[g]? with
   | none => rw [hfn] at hf; cases hf
   | some fn => rw [hfn] at hf; exact ⟨fn, rfl, hf⟩
  ·obtain ⟨vs, hw, ⟨C', g1, g2, g3⟩, d, hp⟩ := hF args v hv
   exact (goes_call hf g1 g2 (by rw [y2f]; exact g3) hargs hH).mono fun e w' ⟨ρ, u, he, ho⟩ => ⟨ρ.fz, u, ho.le, ho.old, ho.same, he, hw _ _ (Uk d _ u hp ho.val), ho.below⟩
theorem w8u.nil (g : Nat → List AVal) (c : Nat → Int) : w8u 0 g c := fun _ h => absurd h (Nat.not_lt_zero _)
theorem x1y : Km (fun _ => []) = true := pd_true fun _ => rfl
theorem y7d (s t : Nat) : Km (fun k => (([] : List AVal).drop (k * s)).take t) = true := pd_true fun i => by simp
theorem z7n {g : Nat → List AVal} {o : Nat} (h : Km g = true) : Km (fun k => g (o + k)) = true := pd_true fun i => Wb h (o + i)
theorem x6o {g h : Nat → List AVal} {len : Nat} (p : Km g = true) (q : Km h = true) : Km (Vb g len h) = true := pd_true fun i => by
 unfold Vb
 cases Nat.ble len i with
 | true => exact Wb q _
 | false => exact Wb p _
def y3y (sz n : Nat) (g : Nat → List AVal) : Bool := pd (∀ i, i < n → (g i).length = sz ∧ (g i).all z4k = true)
end Go.Am
namespace Go.Am
open Go.Sort Go.RowKit
variable {P : Program} {ρ : Rho}
theorem Rel.rewritten {mem : Mem} {next : Nat} {w w' : World} (h : Rel ρ mem next w) {b : Nat} {l : Loc} {ab : ABlk} (hb : ρ b = some l) (hm : Yb mem b = some ab) {cs : List AVal}
  (hlen : cs.length = ab.cells.length) (hsame : ∀ k, k < w.heap.size → k ≠ l.blk → w'.heap[k]? = w.heap[k]?) (hsize : w.heap.size ≤ w'.heap.size)
  (hnew : ∃ cur el, w'.heap[l.blk]? = some (.cells cur el (0, 0)) ∧ l.base + l.tot ≤ cur.size ∧ ∀ (i : Nat) (hi : i < cs.length), ∃ v, cur[l.base + i]? = some v ∧ Ze ρ cs[i] v) :
  Rel ρ (Xa mem b (some ⟨cs, ab.ty, none⟩)) next w' := by
 have hbk := h.blk b l ab hb hm
 refine ⟨h.dom, fun c c' m m' e e' he hs hs' => ?_, fun c m ac e hc => ?_, fun k o e => ?_, fun c m e hs => h.sep c m e (by
  by_cases hcb : c = b
  ·rw [hcb, hm]; rfl
  ·rwa [Zx _ _ hcb] at hs), fun c m e => Nat.lt_of_lt_of_le (h.real c m e) hsize, fun c hc => by have := h.dom b l hb; rw [Zx _ _ (by omega)]; exact h.bd c hc, h.ldom⟩
 ·refine h.inj c c' m m' e e' he ?_ ?_
  ·by_cases hcb : c = b
   ·rw [hcb, hm]; rfl
   ·rwa [Zx _ _ hcb] at hs
  ·by_cases hcb : c' = b
   ·rw [hcb, hm]; rfl
   ·rwa [Zx _ _ hcb] at hs'
 ·by_cases hcb : c = b
  ·subst hcb
   rw [Yw] at hc
   obtain rfl := Option.some.inj hc
   rw [hb] at e
   obtain rfl := Option.some.inj e
   exact ⟨by rw [hlen]; exact hbk.n, hbk.tot, (fun A e => by cases e), hnew⟩
  ·rw [Zx _ _ hcb] at hc
   refine (h.blk c m ac e hc).world (Rho.le_refl _) (hsame m.blk (h.real c m e) fun heq => hcb ?_)
   exact h.inj c b m l e hb heq (by rw [hc]; rfl) (by rw [hm]; rfl)
 ·have hk := h.old k o e
  rw [hsame k ?_ ?_]
  ·exact hk
  ·exact (Array.getElem?_eq_some_iff.1 hk).1
  ·intro heq
   have := h.sep b l hb (by rw [hm]; rfl)
   rw [← heq, e] at this
   cases this
def Yu (n : Nat) (c : Nat → Int) : List Int := (List.range n).map c
def fRow (srt : List Int → List Int) (args : List AVal) (mem : Mem) : Option (AVal × Nat × ABlk × Bool) := match args with
 | [.sla b sz off n cap] => match Yb mem b with
  | some ⟨_, ty, some A⟩ => some (.tup [], b, ⟨rows A.n (z4l (z0r (srt (Yu n (cOf A.get))))), ty, some ⟨1, A.n, z4l (z0r (srt (Yu n (cOf A.get))))⟩⟩,
    Nat.beq sz 1 && (Nat.beq A.sz 1 && (Nat.beq off 0 && (decide (n = A.n) && (isI A.get && decide (n < 4611686018427387904))))))
  | _ => none
 | _ => none
theorem Uv (n : Nat) (c : Nat → Int) (i : Nat) (h : i < n) : (rows n (z4l c))[i]? = some (.int .i64 (c i)) := by
 have := Xf (get := z4l c) (sz := 1) n (fun _ _ => rfl) i 0 h Nat.one_pos
 simpa [z4l] using this
theorem Xu (n : Nat) (c : Nat → Int) : (rows n (z4l c)).length = n := by
 rw [Zn (sz := 1) n fun _ _ => rfl, Nat.mul_one]
theorem z0i (w : World) (n blk off : Nat) (d : Array Int) (os : Array Obj) (k : Nat) (hk : k < w.heap.size) :
  (grow (putRow (Value.int .i64) (Go.Sort.ahead w n) blk off d) os).heap[k]? = if k = blk then (w.heap[k]?).map (onCells (putCells (Value.int .i64) off d)) else w.heap[k]? := by
 show (((Go.Sort.ahead w n).heap.modify blk (onCells (putCells (Value.int .i64) off d))) ++ os)[k]? = _
 rw [Array.getElem?_append_left (by simp; exact hk), Array.getElem?_modify]
 show (if blk = k then _ else _) = _
 by_cases h : k = blk
 ·rw [if_pos h.symm, if_pos h]; rfl
 ·rw [if_neg (fun e => h e.symm), if_neg h]; rfl
theorem Ev.rewritten {mem : Mem} {next floor : Nat} {w w' : World} (h : Rel ρ mem next w) {b : Nat} (o : Option ABlk) (hb : ∀ l, ρ b = some l → floor ≤ b) (hnone : ρ b = none → ∀ cs ty, Yb mem b ≠ some ⟨cs, ty, none⟩)
  (hsame : ∀ k, k < w.heap.size → (∀ l, ρ b = some l → k ≠ l.blk) → w'.heap[k]? = w.heap[k]?) (hsize : w.heap.size ≤ w'.heap.size) (h1 : w'.os = w.os) (h2 : w'.tape = w.tape) (h3 : w'.output = w.output) :
  Ev ρ ρ floor mem next (Xa mem b o) next w w' where
 ext := Rho.le_refl _
 new _ _ := rfl
 nxt := Nat.le_refl _
 unborn k _ e cs ty hm := by
  by_cases hk : k = b
  ·subst hk; exact absurd hm (hnone e cs ty)
  ·rw [Zx _ _ hk]; exact hm
 frame k o hk hfr := by
  rw [hsame k (Array.getElem?_eq_some_iff.1 hk).1 fun l hl heq => hfr b l hl (hb l hl) heq.symm]
  exact hk
 fresh k m hk e := by have := h.dom k m e; omega
 size := hsize
 os := h1
 tape := h2
 output := h3
 still _ _ := rfl
theorem Rel.unbornSet {mem : Mem} {next : Nat} {w : World} (h : Rel ρ mem next w) {b : Nat} (hb : ρ b = none) (hlt : b < next) (o : Option ABlk) : Rel ρ (Xa mem b o) next w := by
 have ne : ∀ c l, ρ c = some l → c ≠ b := fun c l e he => by rw [he, hb] at e; cases e
 refine ⟨h.dom, fun c c' m m' e e' he hs hs' => ?_, fun c m ac e hc => ?_, h.old, fun c m e hs => ?_, h.real, fun c hc => ?_, h.ldom⟩
 ·rw [Zx _ _ (ne _ _ e)] at hs
  rw [Zx _ _ (ne _ _ e')] at hs'
  exact h.inj c c' m m' e e' he hs hs'
 ·rw [Zx _ _ (ne _ _ e)] at hc
  exact h.blk c m ac e hc
 ·rw [Zx _ _ (ne _ _ e)] at hs
  exact h.sep c m e hs
 ·rw [Zx _ _ (by omega)]
  exact h.bd c hc
theorem w8k {f : FuncId} {srt : List Int → List Int} (hsl : ∀ zs, (srt zs).length = zs.length)
  (hC : ∀ (blk off cap : Nat) (zs : List Int) (w : World), Holds (Value.int .i64) w blk off zs.toArray → blk < w.heap.size → zs.length < 4611686018427387904 →
   Calls P f #[.slice (some ⟨blk, off, none⟩) zs.length cap] w fun e w' => e = .returned (.tuple #[]) ∧ ∃ n os, w' = grow (putRow (Value.int .i64) (Go.Sort.ahead w n) blk off (srt zs).toArray) os)
  (hN : ∀ (p : Option Addr) (cap : Nat) (w : World), Calls P f #[.slice p 0 cap] w fun e w' => e = .returned (.tuple #[]) ∧ w' = w) : y4q P f (fRow srt) := by
 intro args mem v b blk h hsome ρ next floor vals w hfl hargs hrel
 unfold fRow at h
 split at h
 ·rename_i b0 sz off n cap
  split at h
  ·rename_i cells ty A hm
   obtain ⟨asz, an, get⟩ := A
   simp only [Option.some.injEq, Prod.mk.injEq, Bool.and_eq_true] at h
   obtain ⟨rfl, rfl, rfl, h1, h2, h3, h4, h5, h6⟩ := h
   have g1 := Nat.eq_of_beq_eq_true h1
   have g2 := Nat.eq_of_beq_eq_true h2
   have g3 := Nat.eq_of_beq_eq_true h3
   have g4 : n = an := of_decide_eq_true h4
   have h6 : n < 4611686018427387904 := of_decide_eq_true h6
   subst g1
   subst g2
   subst g3
   subst g4
   obtain ⟨c, hcg⟩ := y9o h5
   have e0 : cOf (z4l c) = c := rfl
   simp only [hcg, e0]
   obtain ⟨u, hu, hvals⟩ : ∃ u, Ze ρ (.sla b0 1 0 n cap) u ∧ vals = #[u] := by
    obtain ⟨vl⟩ := vals
    cases hargs with
    | cons h1 h2 => cases h2; exact ⟨_, h1, rfl⟩
   subst hvals
   have hlt : b0 < next := by
    rcases Nat.lt_or_ge b0 next with h | h
    ·exact h
    ·have := hrel.bd b0 h; rw [hm] at this; cases this
   generalize hL : srt (Yu n c) = L
   have hLl : L.length = n := by rw [← hL, hsl, Yu, List.length_map, List.length_range]
   have hnn : ρ b0 = none → ∀ cs ty', Yb mem b0 ≠ some ⟨cs, ty', none⟩ := fun _ cs ty' e => by rw [hm] at e; cases e
   cases hu with
   | sla _ _ _ _ _ l cc e hc hlen =>
    have hbk := hrel.blk b0 l _ e hm
    obtain ⟨har, _, _⟩ := hbk.arr _ rfl
    simp only [hcg] at har
    subst har
    obtain ⟨cur, el, hh, hsz, hcells⟩ := hbk.cells
    simp only [Xu] at hcells
    have hcell : ∀ i, i < n → cur[l.base + i]? = some (.int .i64 (c i)) := fun i hi => by
     obtain ⟨v, e1, e2⟩ := hcells i hi
     rw [show (rows n (z4l c))[i]'(by rw [Xu]; exact hi) = .int .i64 (c i) from Option.some.inj (by rw [← List.getElem?_eq_getElem, Uv n c i hi])] at e2
     cases e2
     exact e1
    have hblk := hrel.real b0 l e
    have hzs : (Yu n c).length = n := by rw [Yu, List.length_map, List.length_range]
    have hH : Holds (Value.int .i64) w l.blk (l.base + 0 * 1) (Yu n c).toArray := fun j hj => by
     have hj : j < n := by simpa [hzs] using hj
     refine ⟨?_, ?_⟩
     ·simp only [World.cell?, hh, Nat.zero_mul, Nat.add_zero]
      rw [hcell j hj]
      simp [Yu, hj]
     ·simp [World.frozen?, hh]
    have hcall := hC l.blk (l.base + 0 * 1) cc (Yu n c) w hH hblk (by omega)
    rw [hzs, hL] at hcall
    refine hcall.mono fun e' w' ⟨he, q, os, hw'⟩ => ⟨_, he, ?_, ?_, ?_⟩
    ·exact .tup [] #[] rfl fun i h1 h2 => absurd h1 (Nat.not_lt_zero _)
    ·subst hw'
     refine Rel.setArr ?_ ⟨1, n, z4l (z0r L)⟩ rfl (Nat.le_refl 1) fun _ _ => rfl
     refine Rel.rewritten hrel e hm (by simp only [Xu]) (fun k hk hne => ?_) ?_ ?_
     ·rw [z0i _ _ _ _ _ _ _ hk, if_neg hne]
     ·show _ ≤ (((Go.Sort.ahead w q).heap.modify _ _) ++ os).size
      simp only [Array.size_append, Array.size_modify]
      exact Nat.le_add_right _ _
     ·refine ⟨putCells (Value.int .i64) (l.base + 0 * 1) L.toArray cur, el, ?_, ?_, fun i hi => ?_⟩
      ·rw [z0i _ _ _ _ _ _ _ hblk, if_pos rfl, hh]; rfl
      ·simp only [putCells, Array.size_mapIdx]; exact hsz
      ·rw [Xu] at hi
       refine ⟨.int .i64 (z0r L i), ?_, ?_⟩
       ·simp only [putCells, Array.getElem?_mapIdx, hcell i hi, Option.map_some, Nat.zero_mul, Nat.add_zero]
        rw [if_pos ⟨by omega, by simp [hLl]; omega⟩]
        congr 1
        simp [z0r, hLl, hi]
       ·rw [show (rows n (z4l (z0r L)))[i]'(by rw [Xu]; exact hi) = .int .i64 (z0r L i) from Option.some.inj (by rw [← List.getElem?_eq_getElem, Uv n _ i hi])]
        exact .int _ _
    ·subst hw'
     refine Ev.rewritten hrel _ (fun l' _ => hfl) hnn (fun k hk hne => ?_) ?_ rfl rfl rfl
     ·rw [z0i _ _ _ _ _ _ _ hk, if_neg (hne l e)]
     ·show _ ≤ (((Go.Sort.ahead w q).heap.modify _ _) ++ os).size
      simp only [Array.size_append, Array.size_modify]
      exact Nat.le_add_right _ _
   | slan =>
    refine (hN none 0 w).mono fun e' w' ⟨he, hw'⟩ => ⟨_, he, ?_, ?_, ?_⟩
    ·exact .tup [] #[] rfl fun i h1 h2 => absurd h1 (Nat.not_lt_zero _)
    ·subst hw'
     refine Rel.setArr ?_ ⟨1, 0, z4l (z0r L)⟩ rfl (Nat.le_refl 1) fun _ _ => rfl
     cases e : ρ b0 with
     | none => exact Rel.unbornSet hrel e hlt _
     | some l =>
      have hbk := hrel.blk b0 l _ e hm
      obtain ⟨har, _, _⟩ := hbk.arr _ rfl
      simp only [hcg] at har
      subst har
      obtain ⟨cur, el, hh, hsz, hcells⟩ := hbk.cells
      exact Rel.rewritten hrel e hm rfl (fun _ _ _ => rfl) (Nat.le_refl _) ⟨cur, el, hh, hsz, fun i hi => absurd hi (Nat.not_lt_zero _)⟩
    ·subst hw'
     exact Ev.rewritten hrel _ (fun l' _ => hfl) hnn (fun _ _ _ => rfl) (Nat.le_refl _) rfl rfl rfl
  ·cases h
 ·cases h
def fCut (srt : List Int → List Int) (res : List Int → Nat) (args : List AVal) (mem : Mem) : Option (AVal × Nat × ABlk × Bool) := match args with
 | [.sla b sz off n cap] => match Yb mem b with
  | some ⟨_, ty, some A⟩ => some (.sla b 1 0 (res (Yu n (cOf A.get))) cap, b, ⟨rows A.n (z4l (z0r (srt (Yu n (cOf A.get))))), ty, some ⟨1, A.n, z4l (z0r (srt (Yu n (cOf A.get))))⟩⟩,
    Nat.beq sz 1 && (Nat.beq A.sz 1 && (Nat.beq off 0 && (decide (n = A.n) && (isI A.get && decide (n < 4611686018427387904))))))
  | _ => none
 | _ => none
theorem w8l {f : FuncId} {srt : List Int → List Int} {res : List Int → Nat} (hsl : ∀ zs, (srt zs).length = zs.length) (hres : ∀ zs, res zs ≤ zs.length)
  (hC : ∀ (blk off cap : Nat) (zs : List Int) (w : World), Holds (Value.int .i64) w blk off zs.toArray → blk < w.heap.size → zs.length < 4611686018427387904 → zs.length ≤ cap →
   Calls P f #[.slice (some ⟨blk, off, none⟩) zs.length cap] w fun e w' => e = .returned (.slice (some ⟨blk, off, none⟩) (res zs) cap) ∧ ∃ n os, w' = grow (putRow (Value.int .i64) (Go.Sort.ahead w n) blk off (srt zs).toArray) os)
  (hN : ∀ (p : Option Addr) (cap : Nat) (w : World), Calls P f #[.slice p 0 cap] w fun e w' => e = .returned (.slice p 0 cap) ∧ w' = w) : y4q P f (fCut srt res) := by
 intro args mem v b blk h hsome ρ next floor vals w hfl hargs hrel
 unfold fCut at h
 split at h
 ·rename_i b0 sz off n cap
  split at h
  ·rename_i cells ty A hm
   obtain ⟨asz, an, get⟩ := A
   simp only [Option.some.injEq, Prod.mk.injEq, Bool.and_eq_true] at h
   obtain ⟨rfl, rfl, rfl, h1, h2, h3, h4, h5, h6⟩ := h
   have g1 := Nat.eq_of_beq_eq_true h1
   have g2 := Nat.eq_of_beq_eq_true h2
   have g3 := Nat.eq_of_beq_eq_true h3
   have g4 : n = an := of_decide_eq_true h4
   have h6 : n < 4611686018427387904 := of_decide_eq_true h6
   subst g1
   subst g2
   subst g3
   subst g4
   obtain ⟨c, hcg⟩ := y9o h5
   have e0 : cOf (z4l c) = c := rfl
   simp only [hcg, e0]
   obtain ⟨u, hu, hvals⟩ : ∃ u, Ze ρ (.sla b0 1 0 n cap) u ∧ vals = #[u] := by
    obtain ⟨vl⟩ := vals
    cases hargs with
    | cons h1 h2 => cases h2; exact ⟨_, h1, rfl⟩
   subst hvals
   have hlt : b0 < next := by
    rcases Nat.lt_or_ge b0 next with h | h
    ·exact h
    ·have := hrel.bd b0 h; rw [hm] at this; cases this
   generalize hL : srt (Yu n c) = L
   have hLl : L.length = n := by rw [← hL, hsl, Yu, List.length_map, List.length_range]
   have hnn : ρ b0 = none → ∀ cs ty', Yb mem b0 ≠ some ⟨cs, ty', none⟩ := fun _ cs ty' e => by rw [hm] at e; cases e
   cases hu with
   | sla _ _ _ _ _ l cc e hc hlen =>
    have hbk := hrel.blk b0 l _ e hm
    obtain ⟨har, _, _⟩ := hbk.arr _ rfl
    simp only [hcg] at har
    subst har
    obtain ⟨cur, el, hh, hsz, hcells⟩ := hbk.cells
    simp only [Xu] at hcells
    have hcell : ∀ i, i < n → cur[l.base + i]? = some (.int .i64 (c i)) := fun i hi => by
     obtain ⟨v, e1, e2⟩ := hcells i hi
     rw [show (rows n (z4l c))[i]'(by rw [Xu]; exact hi) = .int .i64 (c i) from Option.some.inj (by rw [← List.getElem?_eq_getElem, Uv n c i hi])] at e2
     cases e2
     exact e1
    have hblk := hrel.real b0 l e
    have hzs : (Yu n c).length = n := by rw [Yu, List.length_map, List.length_range]
    have hH : Holds (Value.int .i64) w l.blk (l.base + 0 * 1) (Yu n c).toArray := fun j hj => by
     have hj : j < n := by simpa [hzs] using hj
     refine ⟨?_, ?_⟩
     ·simp only [World.cell?, hh, Nat.zero_mul, Nat.add_zero]
      rw [hcell j hj]
      simp [Yu, hj]
     ·simp [World.frozen?, hh]
    have hcall := hC l.blk (l.base + 0 * 1) cc (Yu n c) w hH hblk (by omega) (by omega)
    rw [hzs, hL] at hcall
    refine hcall.mono fun e' w' ⟨he, q, os, hw'⟩ => ⟨_, he, ?_, ?_, ?_⟩
    ·exact .sla _ _ _ _ _ l cc e hc (Nat.le_trans (hres _) (by omega))
    ·subst hw'
     refine Rel.setArr ?_ ⟨1, n, z4l (z0r L)⟩ rfl (Nat.le_refl 1) fun _ _ => rfl
     refine Rel.rewritten hrel e hm (by simp only [Xu]) (fun k hk hne => ?_) ?_ ?_
     ·rw [z0i _ _ _ _ _ _ _ hk, if_neg hne]
     ·show _ ≤ (((Go.Sort.ahead w q).heap.modify _ _) ++ os).size
      simp only [Array.size_append, Array.size_modify]
      exact Nat.le_add_right _ _
     ·refine ⟨putCells (Value.int .i64) (l.base + 0 * 1) L.toArray cur, el, ?_, ?_, fun i hi => ?_⟩
      ·rw [z0i _ _ _ _ _ _ _ hblk, if_pos rfl, hh]; rfl
      ·simp only [putCells, Array.size_mapIdx]; exact hsz
      ·rw [Xu] at hi
       refine ⟨.int .i64 (z0r L i), ?_, ?_⟩
       ·simp only [putCells, Array.getElem?_mapIdx, hcell i hi, Option.map_some, Nat.zero_mul, Nat.add_zero]
        rw [if_pos ⟨by omega, by simp [hLl]; omega⟩]
        congr 1
        simp [z0r, hLl, hi]
       ·rw [show (rows n (z4l (z0r L)))[i]'(by rw [Xu]; exact hi) = .int .i64 (z0r L i) from Option.some.inj (by rw [← List.getElem?_eq_getElem, Uv n _ i hi])]
        exact .int _ _
    ·subst hw'
     refine Ev.rewritten hrel _ (fun l' _ => hfl) hnn (fun k hk hne => ?_) ?_ rfl rfl rfl
     ·rw [z0i _ _ _ _ _ _ _ hk, if_neg (hne l e)]
     ·show _ ≤ (((Go.Sort.ahead w q).heap.modify _ _) ++ os).size
      simp only [Array.size_append, Array.size_modify]
      exact Nat.le_add_right _ _
   | slan =>
    refine (hN none 0 w).mono fun e' w' ⟨he, hw'⟩ => ⟨_, he, ?_, ?_, ?_⟩
    ·rw [show res (Yu 0 c) = 0 from Nat.le_zero.1 (hres _)]
     exact .slan _ _ _ _
    ·subst hw'
     refine Rel.setArr ?_ ⟨1, 0, z4l (z0r L)⟩ rfl (Nat.le_refl 1) fun _ _ => rfl
     cases e : ρ b0 with
     | none => exact Rel.unbornSet hrel e hlt _
     | some l =>
      have hbk := hrel.blk b0 l _ e hm
      obtain ⟨har, _, _⟩ := hbk.arr _ rfl
      simp only [hcg] at har
      subst har
      obtain ⟨cur, el, hh, hsz, hcells⟩ := hbk.cells
      exact Rel.rewritten hrel e hm rfl (fun _ _ _ => rfl) (Nat.le_refl _) ⟨cur, el, hh, hsz, fun i hi => absurd hi (Nat.not_lt_zero _)⟩
    ·subst hw'
     exact Ev.rewritten hrel _ (fun l' _ => hfl) hnn (fun _ _ _ => rfl) (Nat.le_refl _) rfl rfl rfl
  ·cases h
 ·cases h
end Go.Am
namespace Go.Am
def q4 (f : Nat → Nat → Int) : Nat → List AVal := fun k => [.int .i64 (f k 0), .int .i64 (f k 1), .int .i64 (f k 2), .int .i64 (f k 3)]
theorem y3a (a : Nat) : (Nat.beq a a == true) = true := by simp [Nat.beq_refl]
end Go.Am
namespace Go.Am
inductive VP where
 | keep
 | drop
  | grow (b sz : Nat)
  | list (n : Nat) (g : Nat → List AVal)
  | len (n : Nat)
  | frz (n n' : Nat) (a g : Nat → List AVal)
def Vg (n : Nat) (a g : Nat → List AVal) : Bool := pd (∀ i, i < n → a i = g i)
def x4k (cells : List AVal) (sz n : Nat) (g : Nat → List AVal) : Bool := pd (cells = rows n g ∧ 1 ≤ sz ∧ ∀ i, i < n → (g i).length = sz)
def rlesR (n : Nat) (a g : Nat → List AVal) : Bool := pd (∀ i, i < n → RLe (a i) (g i))
def y1a (a b : Nat) : Bool := pd (a = b)
theorem Jf {a b : Nat} (h : a = b) : y1a a b = true := pd_true h
def x6j (v : AVal) (n : Nat) (a : Nat → List AVal) : Bool := pd (v = .dat n a)
theorem w0l (sz n : Nat) (g : Nat → List AVal) : x6j (y1y sz sz 0 n n g) n g = true := pd_true (w7h sz n g)
theorem x6i (n : Nat) (g : Nat → List AVal) : x6j (.dat n g) n g = true := pd_true rfl
def y3f : VP → AVal → Bool → AVal × Bool
 | .keep, v, ob => (v, ob)
 | .drop, _, ob => (.undef, ob)
 | .grow b sz, v, ob => match v with
  | .nils => (.sla b sz 0 0 (.un sz), ob)
  | .sl b o len cap => (.sla b sz 0 len cap, Nat.beq o 0 && ob)
  | v => (v, ob)
 | .list n' g, v, ob => match v with
  | .nils => (.dat 0 g, ob)
  | .dat n a => (.dat n' g, y1a n n' && (Vg n a g && ob))
  | v => (v, ob)
 | .len n', v, ob => match v with
  | .sla b sz off n cap => (.sla b sz off n' cap, y1a n n' && ob)
  | v => (v, ob)
 | .frz n n' a g, v, ob => (.dat n' g, x6j v n a && (y1a n n' && (Vg n a g && ob)))
theorem y9j {p : VP} {v : AVal} {ob : Bool} (h : (y3f p v ob).2 = true) : VLe v (y3f p v ob).1 ∧ ob = true := by
 cases p with
 | keep => exact ⟨.refl _, h⟩
 | drop => exact ⟨.undef _, h⟩
 | grow b sz =>
  cases v with
  | nils => exact ⟨.nils _ _ _ _, h⟩
  | sl b' o len cap =>
   simp only [y3f, Bool.and_eq_true] at h
   have e := Nat.eq_of_beq_eq_true h.1
   subst e
   have := VLe.sl b' sz 0 len cap
   rw [Nat.zero_mul] at this
   exact ⟨this, h.2⟩
  | _ => exact ⟨.refl _, h⟩
 | list n' g =>
  cases v with
  | nils => exact ⟨.nild _, h⟩
  | dat n a =>
   simp only [y3f, Bool.and_eq_true] at h
   obtain rfl := Wb h.1
   exact ⟨.dat _ _ _ (Wb h.2.1), h.2.2⟩
  | _ => exact ⟨.refl _, h⟩
 | len n' =>
  cases v with
  | sla b sz off n cap =>
   simp only [y3f, Bool.and_eq_true] at h
   obtain rfl := Wb h.1
   exact ⟨.refl _, h.2⟩
  | _ => exact ⟨.refl _, h⟩
 | frz n n' a g =>
  simp only [y3f, Bool.and_eq_true] at h
  obtain rfl := Wb h.1
  obtain rfl := Wb h.2.1
  exact ⟨.dat _ _ _ (Wb h.2.2.1), h.2.2.2⟩
def y3e : List VP → List AVal → Bool → List AVal × Bool
 | _, [], ob => ([], ob)
 | [], l, ob => (l, ob)
 | p :: ps, v :: l, ob => match y3e ps l ob with
  | (l', ob) => match y3f p v ob with
   | (v', ob) => (v' :: l', ob)
theorem z7c : ∀ {ps : List VP} {l : List AVal} {ob : Bool}, (y3e ps l ob).2 = true → RLe l (y3e ps l ob).1 ∧ ob = true
 | [], [], _, h => ⟨.nil, h⟩
 | _ :: _, [], _, h => ⟨.nil, h⟩
 | [], a :: l, _, h => ⟨RLe.refl _, h⟩
 | p :: ps, v :: l, ob, h => by
  simp only [y3e] at h ⊢
  obtain ⟨h1, h2⟩ := y9j h
  obtain ⟨h3, h4⟩ := z7c h2
  exact ⟨.cons h1 h3, h4⟩
inductive BP where
 | keep
 | drop
 | cells (ps : List VP)
 | rowed (sz n : Nat) (g : Nat → List AVal)
 | rws (a : Rws)
def z7d : BP → Option ABlk → Bool → Option ABlk × Bool
 | .keep, o, ob => (o, ob)
 | .drop, _, ob => (none, ob)
 | .cells ps, o, ob => match o with
  | some ⟨cells, ty, none⟩ => match y3e ps cells ob with
   | (cs, ob) => (some ⟨cs, ty, none⟩, ob)
  | o => (o, ob)
 | .rowed sz n g, o, ob => match o with
  | some ⟨cells, ty, none⟩ => (some ⟨rows n g, ty, some ⟨sz, n, .flat g⟩⟩, x4k cells sz n g && ob)
  | some ⟨_, ty, some ⟨sz', n', a⟩⟩ => (some ⟨rows n g, ty, some ⟨sz', n, .flat g⟩⟩, y1a n' n && (Vg n' a.get g && ob))
  | o => (o, ob)
 | .rws a', o, ob => match o with
  | some ⟨_, ty, some ⟨sz, n, a⟩⟩ => (some ⟨rows n a'.get, ty, some ⟨sz, n, a'⟩⟩, rlesR n a.get a'.get && ob)
  | o => (o, ob)
theorem RLe.sound {ρ : Rho} {l m : List AVal} (h : RLe l m) (i : Nat) (h1 : i < l.length) (h2 : i < m.length) {v : Value} (hv : Ze ρ l[i] v) : Ze ρ m[i] v := (h.get i h1 h2).sound hv
theorem y6n {p : BP} {o : Option ABlk} {ob : Bool} {x' : ABlk} (h : (z7d p o ob).2 = true) (hx : (z7d p o ob).1 = some x') : ob = true ∧ ∃ x, o = some x ∧ ∀ (ρ : Rho) (w : World) (l : Loc), Jr ρ w x l → Jr ρ w x' l := by
 cases p with
 | keep => exact ⟨h, x', hx, fun _ _ _ q => q⟩
 | drop => cases hx
 | cells ps =>
  rcases o with _ | ⟨cells, ty, _ | A⟩
  ·cases hx
  ·simp only [z7d] at h hx
   obtain ⟨h1, h2⟩ := z7c h
   obtain rfl := Option.some.inj hx
   refine ⟨h2, _, rfl, fun ρ w l hb => ?_⟩
   obtain ⟨cs, el, g1, g2, g3⟩ := hb.cells
   refine ⟨by rw [hb.n]; exact h1.len, hb.tot, (fun A hA => by cases hA), cs, el, g1, g2, fun i hi => ?_⟩
   have hi0 : i < cells.length := by rw [h1.len]; exact hi
   obtain ⟨v, q1, q2⟩ := g3 i hi0
   exact ⟨v, q1, h1.sound i hi0 hi q2⟩
  ·exact ⟨h, _, rfl, fun ρ w l hb => by obtain rfl := Option.some.inj hx; exact hb⟩
 | rowed sz n g =>
  rcases o with _ | ⟨cells, ty, _ | ⟨sz', n', a⟩⟩
  ·cases hx
  ·simp only [z7d, Bool.and_eq_true] at h hx
   obtain rfl := Option.some.inj hx
   obtain ⟨h1, h2, h3⟩ := Wb h.1
   exact ⟨h.2, _, rfl, fun ρ w l hb => (BLe.rowed cells ty none sz n g h1 h2 h3).sound hb⟩
  ·simp only [z7d, Bool.and_eq_true] at h hx
   obtain rfl := Option.some.inj hx
   obtain rfl := Wb h.1
   have h1 := Wb h.2.1
   refine ⟨h.2.2, _, rfl, fun ρ w l hb => ?_⟩
   obtain ⟨q1, q2, q3⟩ := hb.arr _ rfl
   exact (BLe.rowed cells ty _ sz' n' g (q1.trans (z0a _ h1)) q2 fun i hi => by rw [← h1 i hi]; exact q3 i hi).sound hb
 | rws a' =>
  rcases o with _ | ⟨cells, ty, _ | ⟨sz', n', a⟩⟩
  ·cases hx
  ·exact ⟨h, _, rfl, fun ρ w l hb => by obtain rfl := Option.some.inj hx; exact hb⟩
  ·simp only [z7d, Bool.and_eq_true] at h hx
   obtain rfl := Option.some.inj hx
   refine ⟨h.2, _, rfl, fun ρ w l hb => ?_⟩
   obtain ⟨q1, _, _⟩ := hb.arr _ rfl
   have q1 : cells = rows n' a.get := q1
   subst q1
   exact (BLe.rws ty sz' n' a a' (Wb h.1)).sound hb
def x1m : List (Nat × VP) → T AVal → Bool → T AVal × Bool
 | [], env, ob => (env, ob)
 | (t, p) :: l, env, ob => match x1m l env ob with
  | (e, ob) => match y3f p (T.get .undef e t) ob with
   | (v, ob) => (T.set .undef e t v, ob)
def ELe (e e' : T AVal) : Prop := ∀ t, (∀ (ρ : Rho) (v : Value), Ze ρ (T.get .undef e t) v → Ze ρ (T.get .undef e' t) v) ∧ (T.get .undef e t = .undef → T.get .undef e' t = .undef)
theorem ELe.refl (e : T AVal) : ELe e e := fun _ => ⟨fun _ _ h => h, fun h => h⟩
theorem y0z : ∀ {l : List (Nat × VP)} {env : T AVal} {ob : Bool}, (x1m l env ob).2 = true → ELe env (x1m l env ob).1 ∧ ob = true
 | [], _, _, h => ⟨ELe.refl _, h⟩
 | (t, p) :: l, env, ob, h => by
  simp only [x1m] at h ⊢
  obtain ⟨h1, h2⟩ := y9j h
  obtain ⟨h3, h4⟩ := y0z h2
  refine ⟨fun s => ?_, h4⟩
  rw [T.get_set]
  by_cases e : s = t
  ·subst e
   rw [if_pos rfl]
   exact ⟨fun ρ v hv => h1.sound ((h3 s).1 ρ v hv), fun hu => by have e := (h3 s).2 hu; rw [e] at h1 ⊢; exact h1.of_undef⟩
  ·rw [if_neg e]; exact h3 s
def y6m : List BP → Nat → Mem → Bool → Mem × Bool
 | [], _, m, ob => (m, ob)
 | p :: ps, i, m, ob => match y6m ps (i + 1) m ob with
  | (m', ob) => match z7d p (Yb m i) ob with
   | (x, ob) => (Xa m' i x, ob)
theorem w0c {p : BP} {o : Option ABlk} {ob : Bool} (h : (z7d p o ob).2 = true) : ob = true := by
 cases p with
 | keep => exact h
 | drop => exact h
 | cells ps =>
  rcases o with _ | ⟨cells, ty, _ | A⟩
  ·exact h
  ·exact (z7c h).2
  ·exact h
 | rowed sz n g =>
  rcases o with _ | ⟨cells, ty, _ | A⟩
  ·exact h
  ·simp only [z7d, Bool.and_eq_true] at h; exact h.2
  ·simp only [z7d, Bool.and_eq_true] at h; exact h.2.2
 | rws a =>
  rcases o with _ | ⟨cells, ty, _ | A⟩
  ·exact h
  ·exact h
  ·simp only [z7d, Bool.and_eq_true] at h; exact h.2
theorem z9l : ∀ {ps : List BP} {i : Nat} {m : Mem} {ob : Bool}, (y6m ps i m ob).2 = true → ob = true ∧ ∀ b x', Yb (y6m ps i m ob).1 b = some x' → ∃ x, Yb m b = some x ∧ ∀ (ρ : Rho) (w : World) (l : Loc), Jr ρ w x l → Jr ρ w x' l
 | [], _, _, _, h => ⟨h, fun b x' hb => ⟨x', hb, fun _ _ _ q => q⟩⟩
 | p :: ps, i, m, ob, h => by
  simp only [y6m] at h ⊢
  have hob : (y6m ps (i + 1) m ob).2 = true := w0c h
  obtain ⟨h1, h2⟩ := z9l hob
  refine ⟨h1, fun b x' hb => ?_⟩
  rw [Xi] at hb
  by_cases e : b = i
  ·subst e
   rw [if_pos rfl] at hb
   exact (y6n h hb).2
  ·rw [if_neg e] at hb
   exact h2 b x' hb
def x1l : List (List (Nat × VP)) → List AFr → Bool → List AFr × Bool
 | _, [], ob => ([], ob)
 | [], l, ob => (l, ob)
 | p :: ps, ⟨cx, ro, todo, rnd, rs, env⟩ :: l, ob => match x1l ps l ob with
  | (l', ob) => match x1m p env ob with
   | (e, ob) => (⟨cx, ro, todo, rnd, rs, e⟩ :: l', ob)
def FLe (a a' : AFr) : Prop := a.cx = a'.cx ∧ a.ro = a'.ro ∧ a.todo = a'.todo ∧ a.rnd = a'.rnd ∧ a.rs = a'.rs ∧ ELe a.env a'.env
theorem FLe.refl (a : AFr) : FLe a a := ⟨rfl, rfl, rfl, rfl, rfl, ELe.refl _⟩
theorem Wz.refl' : ∀ l : List AFr, Wz FLe l l
 | [] => .nil
 | a :: l => .cons (FLe.refl a) (Wz.refl' l)
theorem y9k : ∀ {ps : List (List (Nat × VP))} {l : List AFr} {ob : Bool}, (x1l ps l ob).2 = true → Wz FLe l (x1l ps l ob).1 ∧ ob = true
 | [], [], _, h => ⟨.nil, h⟩
 | _ :: _, [], _, h => ⟨.nil, h⟩
 | [], a :: l, _, h => ⟨Wz.refl' _, h⟩
 | p :: ps, ⟨cx, ro, todo, rnd, rs, env⟩ :: l, ob, h => by
  simp only [x1l] at h ⊢
  obtain ⟨h1, h2⟩ := y0z h
  obtain ⟨h3, h4⟩ := y9k h2
  exact ⟨.cons ⟨rfl, rfl, rfl, rfl, rfl, h1⟩ h3, h4⟩
structure Less where
 slots : List (Nat × VP) := []
 blks : List BP := []
 cs : List (List (Nat × VP)) := []
def x1o (L : Less) : Cfg → Cfg
 | ⟨cx, ro, todo, rnd, rs, ⟨env, mem, next, orc, ob⟩, cs, lps⟩ => match x1l L.cs cs ob with
  | (cs', ob) => match y6m L.blks 0 mem ob with
   | (mem', ob) => match x1m L.slots env ob with
    | (env', ob) => ⟨cx, ro, todo, rnd, rs, ⟨env', mem', next, orc, ob⟩, cs', lps⟩
def y3t : List (TypeId × Nat × (Nat → List AVal)) → Nat → Mem → Mem
 | [], _, m => m
 | (ty, sz, g) :: l, i, m => Xa (y3t l (i + 1) m) i (some ⟨[], ty, some ⟨sz, 0, .flat g⟩⟩)
def y9r (gs : List (TypeId × Nat × (Nat → List AVal))) : Cfg → Cfg
 | ⟨cx, ro, todo, rnd, rs, ⟨env, mem, next, orc, ob⟩, cs, lps⟩ => ⟨cx, ro, todo, rnd, rs, ⟨env, y3t gs next mem, next + gs.length, orc, ob⟩, cs, lps⟩
theorem z3r : ∀ (gs : List (TypeId × Nat × (Nat → List AVal))) (i : Nat) (m : Mem) (b : Nat), (b < i → Yb (y3t gs i m) b = Yb m b) ∧ (i + gs.length ≤ b → Yb (y3t gs i m) b = Yb m b)
 | [], i, m, b => ⟨fun _ => rfl, fun _ => rfl⟩
 | (ty, sz, g) :: l, i, m, b => by
  obtain ⟨h1, h2⟩ := z3r l (i + 1) m b
  simp only [y3t, Xi, List.length_cons]
  exact ⟨fun h => by rw [if_neg (by omega)]; exact h1 (by omega), fun h => by rw [if_neg (by omega)]; exact h2 (by omega)⟩
theorem x3g.less {P : Program} {ρ : Rho} {cs : List AFr} {css : List Frame} {mss : List Nat} (h : x3g P ρ cs css mss) : ∀ {cs' : List AFr}, Wz FLe cs cs' → x3g P ρ cs' css mss := by
 induction h with
 | nil => intro cs' h; cases h; exact .nil
 | @cons af b a k ms cs css mss hf hl t ih =>
  intro cs' h
  cases h with
  | @cons _ af' _ cs'' h1 h2 =>
   obtain ⟨e1, e2, e3, e4, e5, e6⟩ := h1
   have hne : cs'' ≠ [] → cs ≠ [] := fun hn he => by subst he; cases h2; exact hn rfl
   rw [show Xd af.ro k = Xd af'.ro k by rw [e2]]
   exact .cons ⟨by rw [← e1]; exact ⟨hf.env.size, fun t => (e6 t).1 _ _ (hf.env.get t), fun t ht => (e6 t).2 (hf.env.out t ht)⟩, hf.defers, by rw [← e3]; exact hf.todo, by rw [← e2]; exact hf.ro, by rw [← e4]; exact hf.rnd⟩
    (fun hn => by rw [← e4, ← e5]; exact hl (hne hn)) (ih h2)
theorem z3q {P : Program} {cx : Ctx} {ro : Option RegOps} {todo : List Item} {rnd : Option Nat} {rs : List ResultVar} {env env' : T AVal} {mem mem' : Mem} {k k' : Nat} {o o' : List Bool} {b0 b0' : Bool} {cs cs' : List AFr} {lps : Loops}
  (hE : ELe env env') (hC : Wz FLe cs cs') (hM : ∀ b x', b < k → Yb mem' b = some x' → ∃ x, Yb mem b = some x ∧ ∀ (ρ : Rho) (w : World) (l : Loc), Jr ρ w x l → Jr ρ w x' l) (hk : k ≤ k') (hbd : (∀ b, k ≤ b → Yb mem b = none) → ∀ b, k' ≤ b → Yb mem' b = none) :
  z5b P ⟨cx, ro, todo, rnd, rs, ⟨env, mem, k, o, b0⟩, cs, lps⟩ ⟨cx, ro, todo, rnd, rs, ⟨env', mem', k', o', b0'⟩, cs', lps⟩ :=
 fun H w0 ρ b a t css w ma mb hs he cs0 => by
  have hr := hs.rel
  simp only at hr he
  have hne : cs' ≠ [] → cs ≠ [] := fun hn e => by subst e; cases hC; exact hn rfl
  refine ⟨ρ, b, a, t, css, w, ma, mb, Steps.refl _ _, ⟨⟨?_, hs.top.defers, hs.top.todo, hs.top.ro, hs.top.rnd⟩, fun hn => hs.lv (hne hn), ⟨hs.rest.cs.less hC, hs.rest.nodup, hs.rest.marks, hs.rest.loops, hs.rest.inj⟩, ?_⟩, ?_, rfl⟩
  ·exact ⟨hs.top.env.size, fun t => (hE t).1 _ _ (hs.top.env.get t), fun t ht => (hE t).2 (hs.top.env.out t ht)⟩
  ·have lift : ∀ c l, ρ c = some l → (Yb mem' c).isSome = true → (Yb mem c).isSome = true := fun c l hc h => by
    obtain ⟨x, hx⟩ := Option.isSome_iff_exists.1 h
    obtain ⟨y, hy, _⟩ := hM c x (hr.dom c l hc) hx
    rw [hy]; rfl
   refine ⟨fun c l hc => Nat.lt_of_lt_of_le (hr.dom c l hc) hk, fun c c' l l' hc hc' hl h1 h2 => hr.inj c c' l l' hc hc' hl (lift c l hc h1) (lift c' l' hc' h2), fun c l ab hc h1 => ?_, hr.old, fun c l hc h1 => hr.sep c l hc (lift c l hc h1), hr.real, hbd hr.bd, fun j l hj => Nat.lt_of_lt_of_le (hr.ldom j l hj) hk⟩
   obtain ⟨y, hy, h2⟩ := hM c ab (hr.dom c l hc) h1
   exact h2 _ _ _ (hr.blk c l y hc hy)
  ·exact ⟨he.ext, fun _ hb => absurd hb (Nat.not_lt_zero _), Nat.zero_le _, fun _ hb => absurd hb (Nat.not_lt_zero _), he.frame, he.fresh, he.size, he.os, he.tape, he.output, he.still⟩
theorem x1n {P : Program} {L : Less} {C : Cfg} (ho : (x1o L C).st.ob = true) : C.st.ob = true ∧ z5b P C (x1o L C) := by
 obtain ⟨cx, ro, todo, rnd, rs, ⟨env, mem, next, orc, ob⟩, cs, lps⟩ := C
 simp only [x1o] at ho ⊢
 obtain ⟨h1, h2⟩ := y0z ho
 obtain ⟨h3, h4⟩ := z9l h2
 obtain ⟨h5, h6⟩ := y9k h3
 refine ⟨h6, z3q h1 h5 (fun b x' _ hb => h4 b x' hb) (Nat.le_refl _) fun hbd b hb => ?_⟩
 cases hq : Yb (y6m L.blks 0 mem (x1l L.cs cs ob).2).1 b with
 | none => rfl
 | some x' =>
  obtain ⟨x, hx, _⟩ := h4 b x' hq
  rw [hbd b hb] at hx; cases hx
theorem y6x {P : Program} (gs : List (TypeId × Nat × (Nat → List AVal))) (C : Cfg) : z5b P C (y9r gs C) ∧ (y9r gs C).st.ob = C.st.ob := by
 obtain ⟨cx, ro, todo, rnd, rs, ⟨env, mem, next, orc, ob⟩, cs, lps⟩ := C
 exact ⟨z3q (ELe.refl _) (Wz.refl' _) (fun b x' hb h => ⟨x', by rw [← (z3r gs next mem b).1 hb]; exact h, fun _ _ _ q => q⟩) (Nat.le_add_right _ _) fun hbd b hb => by
  rw [(z3r gs next mem b).2 hb]; exact hbd b (by omega), rfl⟩
theorem x1u {P : Program} {C C' : Cfg} {orc : List Bool} {ob : Bool} (g : z5b P (C.withO orc) (C'.withB ob)) : z5b P C C' := by
 obtain ⟨cx, ro, todo, rnd, rs, ⟨env, mem, next, o, b⟩, cs, lps⟩ := C
 obtain ⟨cx', ro', todo', rnd', rs', ⟨env', mem', next', o', b'⟩, cs', lps'⟩ := C'
 exact fun H w0 ρ b a k css w ma mb hs he cs0 => by
  obtain ⟨ρ', b', a', k', css', w', ma', mb', h1, h2, h3, h4⟩ := g H w0 ρ b a k css w ma mb ⟨hs.top, hs.lv, hs.rest, hs.rel⟩ he cs0
  exact ⟨ρ', b', a', k', css', w', ma', mb', h1, ⟨h2.top, h2.lv, h2.rest, h2.rel⟩, h3, h4⟩
theorem x8c {P : Program} {S : Specs} (hN : z4c P) (hmx : P.follows .mixedOrders = true) (hS : Zu P S) {n m d : Nat} {C C' : Cfg} (gs : List (TypeId × Nat × (Nat → List AVal))) (N : z3i) (L : Less) (orc : List Bool) (ob : Bool)
  (h : (((w0g P S (w5o P S m d) n (C.withO orc)).map (y9r gs)).bind (x9p P N)).map (x1o L) = some (C'.withB ob)) (ho : ob = true) (hfl : fl0 C = true) : z5b P C C' := by
 rw [Option.map_eq_some_iff] at h
 obtain ⟨C2, h1, h2⟩ := h
 rw [Option.bind_eq_some_iff] at h1
 obtain ⟨C1, h3, h4⟩ := h1
 rw [Option.map_eq_some_iff] at h3
 obtain ⟨C0, h5, rfl⟩ := h3
 have hfo : fl0 (C.withO orc) = true := by
  obtain ⟨cx, ro, todo, rnd, rs, ⟨env, mem, next, o, b⟩, cs, lps⟩ := C
  exact hfl
 obtain ⟨hCI, hC⟩ := x4a hN hmx hS m d
 obtain ⟨f1, f2, f3⟩ := y3n hN hmx hS hCI hC n (C.withO orc) C0 (w0p hfo) h5
 have hob : (x1o L C2).st.ob = true := by
  rw [h2]
  obtain ⟨cx, ro, todo, rnd, rs, ⟨env, mem, next, o, b⟩, cs, lps⟩ := C'
  exact ho
 obtain ⟨l1, l2⟩ := x1n (P := P) hob
 obtain ⟨g1, g2, _⟩ := x1j h4 l1
 obtain ⟨q1, q2⟩ := y6x (P := P) gs C0
 rw [q2] at g1
 have := (((f3 g1).goes.trans q1).trans g2).trans l2
 rw [h2] at this
 exact x1u this
theorem y0j (n : Nat) (g : Nat → List AVal) : Vg n g g = true := pd_true fun _ _ => rfl
theorem x3v (a g : Nat → List AVal) : Vg 0 a g = true := pd_true fun _ h => absurd h (Nat.not_lt_zero _)
theorem w1w {a b : Nat} (h : ¬ a ≤ b) : Nat.ble a b = false := Bool.eq_false_iff.2 fun e => h (Nat.le_of_ble_eq_true e)
theorem x7f {a b : Nat} (h : a ≤ b) : Nat.ble a b = true := Nat.ble_eq_true_of_le h
theorem x3y {n N sz : Nat} {G H H' : Nat → List AVal} {cells : List AVal} (m : Nat) (h : Vg n G H = true) (hN : N = n + m) (h0 : ∀ i, i < n → H' i = H i) (h1 : ∀ i, i < m → (cells.drop (i * sz)).take sz = H' (n + i)) : Vg N (Zf G 0 n sz cells) H' = true := pd_true fun i hi => by
 unfold Zf
 by_cases e : n ≤ i
 ·rw [x7f e, cond_true, h1 (i - n) (by omega), show n + (i - n) = i by omega]
 ·rw [w1w e, cond_false, Nat.zero_add, Wb h i (by omega), h0 i (by omega)]
theorem z3v {α : Type} {sz : Nat} : ∀ (l : List (List α)) (i : Nat), (∀ x ∈ l, x.length = sz) → i < l.length → (l.flatten.drop (i * sz)).take sz = l.getD i []
 | [], i, _, h => absurd h (Nat.not_lt_zero _)
 | x :: l, 0, hl, _ => by
  have := hl x (by simp)
  simp [List.take_append_of_le_length, this]
 | x :: l, i + 1, hl, h => by
  have hx := hl x (by simp)
  rw [List.flatten_cons, List.getD_cons_succ, ← z3v l i (fun y hy => hl y (by simp [hy])) (by simpa using h)]
  rw [List.drop_append, hx, show (i + 1) * sz - sz = i * sz by rw [Nat.add_mul, Nat.one_mul]; omega, List.drop_eq_nil_of_le (by rw [hx, Nat.add_mul, Nat.one_mul]; omega), List.nil_append]
theorem x3x {m N : Nat} {G H H' : Nat → List AVal} (h' : Vg m H H' = true) (hN : N = 0 + m) : Vg N (Vb G 0 H) H' = true := pd_true fun i hi => Wb h' i (by omega)
theorem y5g {n : Nat} {G H : Nat → List AVal} (h : Vg n G H = true) : Vg n (fun k => G (0 + k)) H = true := pd_true fun i hi => by
 show G (0 + i) = _
 rw [Nat.zero_add]; exact Wb h i hi
theorem x8u {cells : List AVal} {sz n : Nat} {g : Nat → List AVal} (h : cells = rows n g) (h1 : Nat.ble 1 sz = true) (h2 : ∀ i, (g i).length = sz) : x4k cells sz n g = true := pd_true ⟨h, Nat.le_of_ble_eq_true h1, fun i _ => h2 i⟩
end Go.Am
namespace Go.Am
def x2x : List (Nat × ABlk) → Mem
 | [] => .leaf
 | (i, b) :: l => Xa (x2x l) i (some b)
def x2z : List (Nat × ALoop) → Loops
 | [] => .leaf
 | (i, b) :: l => x2y (x2z l) i (some b)
class Ye (α : Type) where
 w : Nat
 d : α
 cells : α → List AVal
 of : List AVal → α
 len : ∀ a, (cells a).length = w
 pos : 1 ≤ w
 flat : ∀ a, (cells a).all (pf 6) = true
 sc : ∀ a, (cells a).all z4k = true
 back : ∀ a, of (cells a) = a
def iOf : AVal → Int
 | .int _ n => n
 | _ => 0
def oOf : AVal → Bool
 | .bool b => b
 | _ => false
instance : Ye Int where
 w := 1
 d := 0
 cells x := [.int .i64 x]
 of l := iOf (l.getD 0 .undef)
 len _ := rfl
 pos := Nat.le_refl 1
 flat _ := rfl
 sc _ := rfl
 back _ := rfl
instance : Ye Bool where
 w := 1
 d := false
 cells x := [.bool x]
 of l := oOf (l.getD 0 .undef)
 len _ := rfl
 pos := Nat.le_refl 1
 flat _ := rfl
 sc _ := rfl
 back _ := rfl
structure R2 where
 (a b : Int)
 deriving DecidableEq
structure R3 where
 (a b c : Int)
 deriving DecidableEq
structure R4 where
 (a b c d : Int)
 deriving DecidableEq
structure R6 where
 (a b c d e f : Int)
 deriving DecidableEq
instance : Ye R2 where
 w := 2
 d := ⟨0, 0⟩
 cells x := [.int .i64 x.a, .int .i64 x.b]
 of l := ⟨iOf (l.getD 0 .undef), iOf (l.getD 1 .undef)⟩
 len _ := rfl
 pos := by decide
 flat _ := rfl
 sc _ := rfl
 back _ := rfl
instance : Ye R3 where
 w := 3
 d := ⟨0, 0, 0⟩
 cells x := [.int .i64 x.a, .int .i64 x.b, .int .i64 x.c]
 of l := ⟨iOf (l.getD 0 .undef), iOf (l.getD 1 .undef), iOf (l.getD 2 .undef)⟩
 len _ := rfl
 pos := by decide
 flat _ := rfl
 sc _ := rfl
 back _ := rfl
instance : Ye R4 where
 w := 4
 d := ⟨0, 0, 0, 0⟩
 cells x := [.int .i64 x.a, .int .i64 x.b, .int .i64 x.c, .int .i64 x.d]
 of l := ⟨iOf (l.getD 0 .undef), iOf (l.getD 1 .undef), iOf (l.getD 2 .undef), iOf (l.getD 3 .undef)⟩
 len _ := rfl
 pos := by decide
 flat _ := rfl
 sc _ := rfl
 back _ := rfl
instance : Ye R6 where
 w := 6
 d := ⟨0, 0, 0, 0, 0, 0⟩
 cells x := [.int .i64 x.a, .int .i64 x.b, .int .i64 x.c, .int .i64 x.d, .int .i64 x.e, .int .i64 x.f]
 of l := ⟨iOf (l.getD 0 .undef), iOf (l.getD 1 .undef), iOf (l.getD 2 .undef), iOf (l.getD 3 .undef), iOf (l.getD 4 .undef), iOf (l.getD 5 .undef)⟩
 len _ := rfl
 pos := by decide
 flat _ := rfl
 sc _ := rfl
 back _ := rfl
theorem x7j {p : AVal → Bool} {l : List AVal} (h : l.all p = true) (n : Nat) : (l.take n).all p = true := List.all_eq_true.2 fun x hx => List.all_eq_true.1 h x (List.mem_of_mem_take hx)
theorem x7k {p : AVal → Bool} {l : List AVal} (h : l.all p = true) (n : Nat) : (l.drop n).all p = true := List.all_eq_true.2 fun x hx => List.all_eq_true.1 h x (List.mem_of_mem_drop hx)
section
variable {α : Type} [Ye α]
def rd (L : List α) (k : Nat) : α := L.getD k Ye.d
def Zz (L : List α) : Nat → List AVal := fun k => Ye.cells (rd L k)
def lst (α : Type) [Ye α] (n : Nat) (g : Nat → List AVal) : List α := (List.range n).map fun k => Ye.of (g k)
def isT (α : Type) [Ye α] (n : Nat) (g : Nat → List AVal) : Bool := pd (∀ i, i < n → g i = Ye.cells (Ye.of (g i) : α))
theorem Xe {L : List α} {k : Nat} (h : k < L.length) : rd L k = L[k] := by unfold rd; rw [List.getD_eq_getElem?_getD, List.getElem?_eq_getElem h]; rfl
theorem Wh {L M : List α} {k : Nat} (h : k < L.length) : rd (L ++ M) k = rd L k := by
 unfold rd; rw [List.getD_eq_getElem?_getD, List.getD_eq_getElem?_getD, List.getElem?_append_left h]
theorem Wa {L M : List α} {k : Nat} (h : L.length ≤ k) : rd (L ++ M) k = rd M (k - L.length) := by
 unfold rd; rw [List.getD_eq_getElem?_getD, List.getD_eq_getElem?_getD, List.getElem?_append_right h]
theorem Zp (L : List α) : lst α L.length (Zz L) = L := by
 apply List.ext_getElem
 ·simp [lst]
 ·intro i h1 h2
  simp only [lst, List.getElem_map, List.getElem_range, Zz]
  rw [Ye.back, Xe h2]
def cvT (L : List α) : List α := lst α L.length (Zz L)
theorem Zo (L : List α) : cvT L = L := Zp L
theorem z3m (n : Nat) (g : Nat → List AVal) : (lst α n g).length = n := by simp [lst]
theorem w0a (L : List α) {off n : Nat} (h : off + n ≤ L.length) : lst α n (fun k => Zz L (off + k)) = (L.drop off).take n := by
 apply List.ext_getElem
 ·simp [lst]; omega
 ·intro i h1 h2
  simp only [lst, List.getElem_map, List.getElem_range, Zz]
  have : off + i < L.length := by simp at h2; omega
  rw [Ye.back, Xe this, List.getElem_take, List.getElem_drop]
theorem z5w (L : List α) (n : Nat) : isT α n (Zz L) = true := pd_true fun i _ => by simp only [Zz]; rw [Ye.back]
theorem y3o (L : List α) (off n : Nat) : isT α n (fun k => Zz L (off + k)) = true := pd_true fun i _ => by simp only [Zz]; rw [Ye.back]
theorem y9m (g : Nat → List AVal) : isT α 0 g = true := pd_true fun i h => absurd h (Nat.not_lt_zero _)
theorem y9n {n : Nat} {g : Nat → List AVal} (h : isT α n g = true) : ∀ i, i < n → g i = Zz (lst α n g) i := fun i hi => by
 rw [Wb h i hi]
 unfold Zz
 rw [Xe (by rw [z3m]; exact hi)]
 simp [lst]
theorem Yr (L : List α) : Km (Zz L) = true := pd_true fun _ => Ye.flat _
theorem x2i {sz : Nat} (L : List α) (n : Nat) (h : sz = Ye.w α) : y3y sz n (Zz L) = true := pd_true fun _ _ => ⟨by rw [h]; exact Ye.len _, Ye.sc _⟩
theorem x2j {sz : Nat} (L : List α) (off n : Nat) (h : sz = Ye.w α) : y3y sz n (fun k => Zz L (off + k)) = true := pd_true fun _ _ => ⟨by rw [h]; exact Ye.len _, Ye.sc _⟩
theorem y7p {sz N off m : Nat} {G : Nat → List AVal} (h : y3y sz N G = true) (hb : decide (off + m ≤ N) = true) : y3y sz m (fun k => G (off + k)) = true := pd_true fun i hi => by
 have hb := of_decide_eq_true hb
 exact Wb h (off + i) (by omega)
theorem x7a {sz n N m : Nat} {G : Nat → List AVal} {cells : List AVal} (h : y3y sz n G = true) (hN : N = n + m) (hc : cells.length = m * sz) (hs : cells.all z4k = true) : y3y sz N (Zf G 0 n sz cells) = true := pd_true fun i hi => by
 unfold Zf
 by_cases e : n ≤ i
 ·rw [x7f e, cond_true]
  have : (i - n) * sz + sz ≤ m * sz := by
   have := Nat.mul_le_mul_right sz (show i - n + 1 ≤ m by omega)
   rwa [Nat.add_mul, Nat.one_mul] at this
  exact ⟨by rw [List.length_take, List.length_drop, hc]; omega, x7j (x7k hs _) _⟩
 ·rw [w1w e, cond_false, Nat.zero_add]
  exact Wb h i (by omega)
theorem y8p {L M : List α} {n N sz : Nat} {G : Nat → List AVal} {cells : List AVal} (h : Vg n G (Zz L) = true) (hn : n = L.length) (hN : N = n + M.length) (hsz : sz = Ye.w α) (hc : cells = (M.map Ye.cells).flatten) : Vg N (Zf G 0 n sz cells) (Zz (L ++ M)) = true := by
 subst hn
 refine x3y M.length h hN (fun i hi => ?_) fun i hi => ?_
 ·simp only [Zz]; rw [Wh hi]
 ·subst hc
  rw [z3v _ _ (fun x hx => by obtain ⟨y, _, rfl⟩ := List.mem_map.1 hx; rw [Ye.len, hsz]) (by simpa using hi)]
  simp only [Zz]
  rw [Wa (Nat.le_add_right _ _), Nat.add_sub_cancel_left, Xe hi]
  rw [List.getD_eq_getElem?_getD, List.getElem?_map, List.getElem?_eq_getElem hi]; rfl
theorem w3i {L : List α} {r k : Nat} {y : α} (hk : k < L.length) : rd (L.set r y) k = if k = r then y else rd L k := by
 rw [Xe (by simpa using hk), Xe hk, List.getElem_set]
 by_cases e : r = k
 ·subst e; simp
 ·rw [if_neg e, if_neg fun q => e q.symm]
theorem y8o {L : List α} {n r fo : Nat} {G : Nat → List AVal} {cs : List AVal} {y : α} (h : Vg n G (Zz L) = true) (hn : n = L.length) (hy : Ye.cells y = (Ye.cells (rd L r)).take fo ++ cs ++ (Ye.cells (rd L r)).drop (fo + cs.length)) : Vg n (Xc G r fo cs) (Zz (L.set r y)) = true := by
 subst hn
 refine pd_true fun i hi => ?_
 unfold Xc
 simp only [Zz]
 rw [w3i hi]
 cases e : Nat.beq i r with
 | true =>
  have := Nat.eq_of_beq_eq_true e
  subst this
  rw [cond_true, if_pos rfl, Wb h i hi, hy]; rfl
 | false =>
  have : i ≠ r := fun q => by rw [q, Nat.beq_refl] at e; cases e
  rw [cond_false, if_neg this, Wb h i hi]; rfl
theorem x8k {n : Nat} {cs : List AVal} {y : α} {G : Nat → List AVal} (hG : G = fun _ => cs) (hy : Ye.cells y = cs) : Vg n G (Zz (List.replicate n y)) = true := pd_true fun i hi => by
 rw [hG]
 simp only [Zz]
 rw [Xe (by simpa using hi), List.getElem_replicate, hy]
theorem x3w {L M : List α} {n m N : Nat} {G H : Nat → List AVal} (h : Vg n G (Zz L) = true) (hn : n = L.length) (h' : Vg m H (Zz M) = true) (hN : N = n + m) : Vg N (Vb G n H) (Zz (L ++ M)) = true := by
 subst hn
 refine pd_true fun i hi => ?_
 unfold Vb
 by_cases e : L.length ≤ i
 ·rw [x7f e, cond_true, Wb h' _ (by omega)]; simp only [Zz]; rw [Wa e]
 ·rw [w1w e, cond_false, Wb h i (by omega)]; simp only [Zz]; rw [Wh (by omega)]
def x1q (n : Nat) (g : Nat → List AVal) (sz : Nat) : Bool := pd (∀ i, i < n → (g i).length = sz)
theorem x5z {sz : Nat} (L : List α) (n : Nat) (h : sz = Ye.w α) : x1q n (Zz L) sz = true := pd_true fun _ _ => by rw [h]; exact Ye.len _
theorem x1p {sz n : Nat} {L : List α} {off : Nat} (h : sz = Ye.w α) : x1q n (fun k => Zz L (off + k)) sz = true := pd_true fun _ _ => by rw [h]; exact Ye.len _
def Uo (L : List α) (off n : Nat) : List α := (List.range n).map fun k => rd L (off + k)
theorem Qd (L : List α) (off n : Nat) : (Uo L off n).length = n := by simp [Uo]
theorem y0r {L : List α} {off n k : Nat} (h : k < n) : rd (Uo L off n) k = rd L (off + k) := by
 rw [Xe (by rw [Qd]; exact h)]; simp [Uo]
theorem x0r {L : List α} {N off n : Nat} {G : Nat → List AVal} (h : Vg N G (Zz L) = true) (hb : decide (off + n ≤ N) = true) : Vg n (fun k => G (off + k)) (Zz (Uo L off n)) = true := pd_true fun i hi => by
 have hb := of_decide_eq_true hb
 simp only [Zz]
 rw [y0r hi, Wb h _ (by omega)]; rfl
theorem x0q {L : List α} {off n : Nat} : Vg n (fun k => Zz L (off + k)) (Zz (Uo L off n)) = true := pd_true fun i hi => by
 simp only [Zz]
 rw [y0r hi]
theorem Wj (L : List α) : lst α L.length (fun k => Zz L (0 + k)) = L := by
 have := Zp L
 simpa only [Nat.zero_add] using this
theorem w0h (L : List Int) : isI (Zz L) = true := pd_true rfl
theorem z1l (L : List Int) : Yu L.length (cOf (Zz L)) = L := Zp L
def z8o (L : List α) (off n : Nat) (M : List α) : List α := (List.range L.length).map fun k => bif Nat.ble off k && Nat.ble (k + 1) (off + n) then rd M (k - off) else rd L k
theorem Ws (L : List α) (off n : Nat) (M : List α) : (z8o L off n M).length = L.length := by simp [z8o]
theorem x4v {L M : List α} {off n k : Nat} (h : k < L.length) : rd (z8o L off n M) k = bif Nat.ble off k && Nat.ble (k + 1) (off + n) then rd M (k - off) else rd L k := by
 rw [Xe (by rw [Ws]; exact h)]; simp [z8o]
theorem x8l {L M : List α} {N off n m : Nat} {G H : Nat → List AVal} (h : Vg N G (Zz L) = true) (hN : N = L.length) (h' : Vg m H (Zz M) = true) (hm : n ≤ m) : Vg N (Wd G off n H) (Zz (z8o L off n M)) = true := by
 subst hN
 refine pd_true fun i hi => ?_
 unfold Wd
 simp only [Zz]
 rw [x4v hi]
 cases e : (Nat.ble off i && Nat.ble (i + 1) (off + n)) with
 | true =>
  simp only [Bool.and_eq_true] at e
  have e1 := Nat.le_of_ble_eq_true e.1
  have e2 := Nat.le_of_ble_eq_true e.2
  rw [cond_true, cond_true, Wb h' _ (by omega)]; rfl
 | false => rw [cond_false, cond_false, Wb h i hi]; rfl
theorem x6n {g h : Nat → List AVal} {off n : Nat} (p : Km g = true) (q : Km h = true) : Km (Wd g off n h) = true := pd_true fun i => by
 unfold Wd
 cases (Nat.ble off i && Nat.ble (i + 1) (off + n)) with
 | true => exact Wb q _
 | false => exact Wb p _
end
theorem Kj {P : Program} {rs : List ResultVar} {σ : Type} {cfg : σ → Cfg} {C C' : Cfg} (g : z5b P C C') : ∀ {o : Xg σ}, Xt P rs cfg C' o → Xt P rs cfg C o
 | .stuck, _ => trivial
 | .ret _, ⟨D, h, h2, h3⟩ => ⟨D, g.trans h, h2, h3⟩
 | .to _, h => g.trans h
theorem y9x : ∀ {az bs : List AVal} (i : Nat) {t u : T AVal}, Wz VLe az bs → ELe t u → ELe (z3u az i t) (z3u bs i u)
 | _, _, i, t, u, .nil, h => h
 | _, _, i, t, u, .cons (a := a) (b := b) h1 h2, h => by
  refine y9x (i + 1) h2 fun s => ?_
  rw [T.get_set, T.get_set]
  by_cases e : s = i
  ·rw [if_pos e, if_pos e]; exact ⟨fun ρ v hv => h1.sound hv, fun q => by subst q; exact h1.of_undef⟩
  ·rw [if_neg e, if_neg e]; exact h s
theorem y3w {P : Program} {f : FuncId} {az bs : List AVal} {vs : List AVal} (h : Wz VLe az bs) (k : Kz P (Zy P f) (Zd P f bs true []) vs) : Kz P (Zy P f) (Zd P f az true []) vs := by
 obtain ⟨C', g, h2, h3⟩ := k
 refine ⟨C', z5b.trans ?_ g, h2, h3⟩
 unfold Zd
 cases P.funcs[f]? with
 | none => exact z5b.refl _
 | some fn =>
  simp only
  rw [h.length]
  exact z3q (y9x 0 h (ELe.refl _)) .nil (fun b x' hb => absurd hb (Nat.not_lt_zero _)) (Nat.le_refl _) fun hbd b hb => hbd b hb
theorem x0b {P : Program} {S : Specs} (hS : Zu P S) {f : FuncId} {F : List AVal → Option (AVal × Bool)} (hf : (P.funcs[f]?).any (fun fn => fn.body.isSome) = true)
  (hF : ∀ args v, F args = some (v, true) → ∃ bs vs, Wz VLe args bs ∧ Ur vs = v ∧ Kz P (Zy P f) (Zd P f bs true []) vs ∧ ∃ d, pf d v = true) : Zu P (S.with f F) :=
 x3h hS hf fun args v h => by
  obtain ⟨bs, vs, h1, h2, h3, d, h4⟩ := hF args v h
  exact ⟨vs, h2, y3w h1 h3, d, h4⟩
def asL (α : Type) [Ye α] : AVal → Option (List α × (Nat → List AVal) × Nat)
 | .nils => some ([], fun _ => [], 0)
 | .dat n g => some (lst α n g, g, n)
 | _ => none
theorem asL_le {α : Type} [Ye α] {v : AVal} {L : List α} {g : Nat → List AVal} {n : Nat} (h : asL α v = some (L, g, n)) (ho : isT α n g = true) : VLe v (.dat L.length (Zz L)) := by
 unfold asL at h
 split at h
 ·simp only [Option.some.injEq, Prod.mk.injEq] at h
  obtain ⟨rfl, _, _⟩ := h
  exact .nild _
 ·simp only [Option.some.injEq, Prod.mk.injEq] at h
  obtain ⟨rfl, rfl, rfl⟩ := h
  rw [z3m]
  exact .dat _ _ _ (y9n ho)
 ·cases h
end Go.Am
namespace Go.Am
open Go.ChangeShapes Go.WideShapes Go.Deep
section
variable {P : Program}
def y1b (P : Program) (rec : TypeId → Option (List IntKind)) : List Field → Nat → Option (List IntKind)
 | [], _ => some []
 | f :: r, o => bif Nat.beq f.offset o then match rec f.type with
   | some ks => bif Nat.beq (P.cellsOf f.type) ks.length then (y1b P rec r (o + ks.length)).map (ks ++ ·) else none
   | none => none
  else none
def y3j (P : Program) : Nat → TypeId → Option (List IntKind)
 | 0, _ => none
 | d + 1, t => match P.underlying t with
  | some (.int k) => some [k]
  | some (.struct fs) => match y1b P (y3j P d) fs.toList 0 with
   | some ks => bif Nat.beq (P.cellsOf t) ks.length then some ks else none
   | none => none
  | _ => none
def w2a (ks : List IntKind) (cs : List Value) : Prop := ∃ ns : List Int, ns.length = ks.length ∧ cs = List.zipWith Value.int ks ns ∧ ∀ p ∈ List.zip ks ns, p.1.has p.2
theorem w2a.append {a b : List IntKind} {x y : List Value} (h : w2a a x) (k : w2a b y) : w2a (a ++ b) (x ++ y) := by
 obtain ⟨ns, h1, rfl, h3⟩ := h
 obtain ⟨ms, k1, rfl, k3⟩ := k
 refine ⟨ns ++ ms, by simp [h1, k1], ?_, fun p hp => ?_⟩
 ·rw [List.zipWith_append h1.symm]
 ·rw [List.zip_append h1.symm, List.mem_append] at hp
  rcases hp with hp | hp
  ·exact h3 p hp
  ·exact k3 p hp
theorem w2a.length {ks : List IntKind} {cs : List Value} (h : w2a ks cs) : cs.length = ks.length := by
 obtain ⟨ns, h1, rfl, _⟩ := h
 simp [h1]
variable {HH : Type} {enc : TypeId × Value → HH} {w : World} {base : Nat} {spare : Nat → Bool} {held : Bool}
theorem z4j {rec : TypeId → Option (List IntKind)} (hr : ∀ t ks, rec t = some ks → ∀ fuel cs x, DataW.trod enc P w base spare held fuel t cs = some x → w2a ks cs) (cs : List Value) :
  ∀ (l : List Field) (o : Nat) (ks : List IntKind), y1b P rec l o = some ks → o + ks.length ≤ cs.length → (∀ f ∈ l, ∃ fuel x, DataW.trod enc P w base spare held fuel f.type ((cs.drop f.offset).take (P.cellsOf f.type)) = some x) → w2a ks ((cs.drop o).take ks.length)
 | [], o, ks, h, _, _ => by
  obtain rfl := Option.some.inj h
  exact ⟨[], rfl, by simp, by simp⟩
 | f :: r, o, ks, h, hl, hf => by
  unfold y1b at h
  obtain ⟨ho, h⟩ := Zc h
  obtain rfl := Nat.eq_of_beq_eq_true ho
  split at h
  ·rename_i ks1 h1
   obtain ⟨hc, h⟩ := Zc h
   have hc := Nat.eq_of_beq_eq_true hc
   simp only [Option.map_eq_some_iff] at h
   obtain ⟨ks2, h2, rfl⟩ := h
   obtain ⟨fuel, x, hx⟩ := hf f (by simp)
   have i1 := hr _ _ h1 _ _ _ hx
   rw [hc] at i1
   rw [List.length_append] at hl
   have i2 := z4j hr cs r _ ks2 h2 (by omega) fun g hg => hf g (by simp [hg])
   have : (cs.drop f.offset).take (ks1 ++ ks2).length = (cs.drop f.offset).take ks1.length ++ (cs.drop (f.offset + ks1.length)).take ks2.length := by
    rw [List.length_append, List.take_add, List.drop_drop]
   rw [this]
   exact i1.append i2
  ·cases h
theorem z7f : ∀ (d : Nat) (t : TypeId) (ks : List IntKind), y3j P d t = some ks → ∀ (fuel : Nat) (cs : List Value) (x : DataW HH × List MemPlace), DataW.trod enc P w base spare held fuel t cs = some x → w2a ks cs
 | 0, _, _, h => by cases h
 | d + 1, t, ks, h => by
  intro fuel cs x hx
  unfold y3j at h
  split at h
  ·rename_i k hk
   obtain rfl := Option.some.inj h
   obtain ⟨m, rfl, _, hw⟩ := DataW.trod_int hk hx
   refine ⟨[m], rfl, rfl, fun p hp => ?_⟩
   obtain rfl : p = (k, m) := by simpa using hp
   simpa [Lit.wf, IntKind.has] using hw
  ·rename_i fs hs
   split at h
   ·rename_i ks1 h1
    obtain ⟨hc, h⟩ := Zc h
    obtain rfl := Option.some.inj h
    have hc := Nat.eq_of_beq_eq_true hc
    obtain ⟨xs, n, _, _, hl, hlen, hf⟩ := DataW.trod_struct hs hx
    have hl : cs.length = ks1.length := hl.trans hc
    have := z4j (fun t ks ht fuel cs x hx => z7f d t ks ht fuel cs x hx) cs fs.toList 0 ks1 h1 (by omega) fun f hf' => by
     obtain ⟨j, hj, rfl⟩ := List.getElem_of_mem hf'
     have hj2 : j < fs.size := by simpa using hj
     have := hf j fs[j] (by simp [hj2])
     refine ⟨n, xs[j]'(by omega), ?_⟩
     simpa [hlen, hj2] using this
    rwa [List.drop_zero, List.take_of_length_le (by omega)] at this
   ·cases h
  ·cases h
def rowOf (ks : List IntKind) (c : Nat → Int) : List AVal := List.zipWith AVal.int ks ((List.range ks.length).map c)
theorem x4l (ks : List IntKind) (c : Nat → Int) (j : Nat) (h : j < (rowOf ks c).length) : ∃ hk : j < ks.length, (rowOf ks c)[j] = .int ks[j] (c j) := by
 have hk : j < ks.length := by simpa [rowOf] using h
 exact ⟨hk, by simp [rowOf]⟩
theorem w1g {e : TypeId} {ks : List IntKind} (hk : y3j P 30 e = some ks) {blk off len cap m fl : Nat} {D : Nat → DataW HH} {Pl : Nat → List MemPlace} (hl : len ≤ cap) (hlm : len ≤ m)
  (hi : ∀ i, i < m → ∃ cs', w.cells? base ((⟨blk, off, none⟩ : Addr).add (i * P.cellsOf e)) (P.cellsOf e) = some cs' ∧ DataW.trod enc P w base spare held fl e cs' = some (D i, Pl i)) :
  ∃ c : Nat → Nat → Int, Ze (Qg fun k => w.heap[k]?) (.dat len (fun i => rowOf ks (c i))) (.slice (some ⟨blk, off, none⟩) len cap) ∧ ∀ i, i < len → ∀ (j : Nat) (k : IntKind), ks[j]? = some k → k.has (c i j) := by
 have key : ∀ i, i < len → ∃ ns : List Int, ns.length = ks.length ∧ (∀ j, j < ks.length → ∃ k, ks[j]? = some k ∧ w.cell? ⟨blk, off + (i * ks.length + j), none⟩ = some (.int k (ns.getD j 0)) ∧ k.has (ns.getD j 0)) := by
  intro i hil
  obtain ⟨cs', hc', ht'⟩ := hi i (by omega)
  have I := z7f 30 e ks hk _ _ _ ht'
  obtain ⟨_, hlen, hcell⟩ := World.cells?_some hc'
  have hce : P.cellsOf e = ks.length := by rw [← hlen]; exact I.length
  obtain ⟨ns, n1, n2, n3⟩ := I
  refine ⟨ns, n1, fun j hj => ?_⟩
  have hj2 : j < ns.length := by omega
  refine ⟨ks[j], by simp [hj], ?_, ?_⟩
  ·have := hcell j (by omega)
   rw [hce] at this
   simp only [Yn] at this
   rw [show off + i * ks.length + j = off + (i * ks.length + j) by omega] at this
   rw [this, n2]
   simp [List.getElem?_zipWith, hj, hj2]
  ·have : (ks[j], ns[j]) ∈ List.zip ks ns := by
    rw [List.mem_iff_getElem]
    exact ⟨j, by rw [List.length_zip]; omega, by simp⟩
   have := n3 _ this
   simpa [hj2] using this
 let c : Nat → Nat → Int := fun i j => if hil : i < len then ((key i hil).choose).getD j 0 else 0
 have hcs : ∀ i, i < len → ∀ j, j < ks.length → ∃ k, ks[j]? = some k ∧ w.cell? ⟨blk, off + (i * ks.length + j), none⟩ = some (.int k (c i j)) ∧ k.has (c i j) := by
  intro i hil j hj
  have := (key i hil).choose_spec.2 j hj
  simp only [c, hil, dif_pos]
  exact this
 refine ⟨c, .dat len _ blk off ks.length cap (fun i j => .int (ks.getD j .i64) (c i j)) hl (fun i _ => by simp [rowOf]) (fun i j hil hj => ?_) (fun i j hil hj => ?_), fun i hil j k hkj => ?_⟩
 ·obtain ⟨hk2, e2⟩ := x4l ks (c i) j hj
  rw [e2]
  have : ks.getD j .i64 = ks[j] := by simp [hk2]
  rw [this]
  exact .int _ _
 ·obtain ⟨k, e1, e2, _⟩ := hcs i hil j hj
  have : ks.getD j .i64 = k := by simp [e1]
  rw [this]
  unfold World.cell? at e2
  split at e2
  ·rename_i cl el fz hb2
   simp only [Option.isSome_none, Bool.false_eq_true, if_false] at e2
   exact ⟨cl, el, fz, hb2, e2⟩
  ·cases e2
 ·have hj : j < ks.length := (List.getElem?_eq_some_iff.1 hkj).1
  obtain ⟨k', e1, _, e3⟩ := hcs i hil j hj
  rw [hkj] at e1
  obtain rfl := Option.some.inj e1
  exact e3
theorem open_dat {t e : TypeId} {ks : List IntKind} {v : Value} {d : DataW HH} {p : List MemPlace} (ht : P.underlying t = some (.slice e)) (hk : y3j P 30 e = some ks) {b0 : Nat} (hv : Value.okWide P w .any b0 t v) (h : DataW.Trod enc P w base spare held t v d p) :
  ∃ (n : Nat) (c : Nat → Nat → Int), Ze (Qg fun k => w.heap[k]?) (.dat n (fun i => rowOf ks (c i))) v ∧ (∀ i, i < n → ∀ (j : Nat) (k : IntKind), ks[j]? = some k → k.has (c i j)) ∧ n ≤ maxLen := by
 obtain ⟨fuel, h⟩ := h
 have hvc : v.cells.toList = [v] := by
  unfold Value.okWide at hv
  rw [ht] at hv
  unfold Cell.okWide at hv
  rw [ht] at hv
  cases v <;> first | rfl | (simp [Cell.ok, ht] at hv)
 rcases open_slice ht h with ⟨h0, _⟩ | ⟨a, len, cap, m, fl, D, Pl, hcs, hb, hl, hcap, hm, _, hi⟩
 ·rw [hvc] at h0
  obtain rfl : v = .slice none 0 0 := by simpa using h0
  exact ⟨0, fun _ _ => 0, .datn _, fun i hi => absurd hi (Nat.not_lt_zero _), Nat.zero_le _⟩
 ·rw [hvc] at hcs
  obtain rfl : v = .slice (some a) len cap := by simpa using hcs
  have hspot : a.spot = none := by
   unfold Value.okWide at hv
   rw [ht] at hv
   unfold Cell.okWide at hv
   rw [ht] at hv
   simp only [Cell.ok, ht] at hv
   exact hv.2.2.2.1
  obtain ⟨blk, off, spot⟩ := a
  simp only at hspot
  subst hspot
  have hlm : len ≤ m := by rw [hm]; split <;> omega
  obtain ⟨c, h1, h2⟩ := w1g hk hl hlm hi
  exact ⟨len, c, h1, h2, by omega⟩
end
end Go.Am
namespace Go.Am
open Go.Proofs
def namedB (P : Program) : Bool := P.funcs.toList.all fun fn => fn.body.isNone || !(fn.name == "runtime.NumGoroutine")
theorem x9t {P : Program} (h : namedB P = true) : z4c P := by
 intro f fn hf hb
 have hm : fn ∈ P.funcs.toList := by
  rw [Array.mem_toList_iff]
  exact Array.mem_of_getElem? hf
 have := List.all_eq_true.mp h fn hm
 cases hbb : fn.body with
 | none => rw [hbb] at hb; cases hb
 | some b => simpa [hbb] using this
theorem named : z4c Tryz.prog := x9t (by kernel_rfl)
theorem mixed : Tryz.prog.follows .mixedOrders = true := by kernel_rfl
end Go.Am
section

end
namespace Go.Am
open Go.Proofs
instance {α : Type} [Ye α] : Ye (List α) where
 w := 1
 d := []
 cells l := [.dat l.length (Zz l)]
 of cs := match cs.getD 0 .undef with
  | .dat n g => lst α n g
  | _ => []
 len _ := rfl
 pos := Nat.le_refl 1
 flat _ := rfl
 sc _ := rfl
 back l := Zp l
theorem y5h {α : Type} [Ye α] {L : List α} {n off sz : Nat} {cells : List AVal} (hn : n = L.length) (hsz : sz = Ye.w α) (hc : (cells.drop off).take (n * sz) = (L.map Ye.cells).flatten) : Vg n (x2m cells off sz) (Zz L) = true := pd_true fun i hi => by
 have e : ((((cells.drop off).take (n * sz)).drop (i * sz)).take sz) = (cells.drop (off + i * sz)).take sz := by
  rw [List.drop_take, List.take_take, List.drop_drop, Nat.min_eq_left]
  have := Nat.mul_le_mul_right sz (show i + 1 ≤ n by omega)
  rw [Nat.add_mul, Nat.one_mul] at this
  omega
 have h := z3v (sz := sz) (L.map Ye.cells) i (fun x hx => by obtain ⟨y, _, rfl⟩ := List.mem_map.1 hx; rw [Ye.len, hsz]) (by simpa using by omega)
 unfold x2m
 rw [← e, hc, h]
 simp only [Zz]
 rw [Xe (show i < L.length by omega), List.getD_eq_getElem?_getD, List.getElem?_map, List.getElem?_eq_getElem (show i < L.length by omega)]; rfl
structure OB where
 b : Bool
 h : b = true
def nn : OB := ⟨true, rfl⟩
def pp (q r : OB) : OB := ⟨q.b && r.b, z4i q.h r.h⟩
def tt {c v : Bool} (k : c = v) (r : OB) : OB := ⟨(c == v) && r.b, z4i (x5k k) r.h⟩
def ww {c : Bool} (k : c = true) (r : OB) : OB := ⟨c && r.b, z4i k r.h⟩
def fl {α : Type} [Ye α] (L : List α) (r : OB) : OB := ⟨Km (Zz L) && r.b, z4i (Yr L) r.h⟩
def yt {c : Bool} (k : c = true) (r : OB) : OB := ⟨c && r.b, z4i k r.h⟩
def xw {c : Bool} (k : c = true) : OB := ⟨c, k⟩
def xI (α : Type) [Ye α] (n : Nat) (g : Nat → List AVal) (h : isT α n g = true := by first | with_reducible exact z5w _ _ | exact z5w _ _ | exact y9m _ | exact y3o _ _ _ | assumption) : OB := ⟨isT α n g, h⟩
def xr {α : Type} [Ye α] (L : List α) : OB := ⟨isT α L.length (Zz L), z5w L _⟩
def xL (a b : Nat) (h : y1a a b = true := by first | exact Jf rfl | exact Jf (by simp only [List.length_append, List.length_cons, List.length_nil, List.length_set, Ws, Qd, List.length_replicate] <;> omega) | assumption) : OB := ⟨y1a a b, h⟩
def xS (n : Nat) (G H : Nat → List AVal) (h : Vg n G H = true := by
  repeat' (first | exact y0j _ _ | assumption | exact x3v _ _ | exact x0q | exact y5h rfl rfl rfl | rfl | (refine y8p ?_ ?_ rfl rfl rfl) | (refine y8o ?_ ?_ rfl) | (refine x8l ?_ ?_ ?_ (Nat.min_le_left _ _)) | exact x0r (by repeat' (first | exact y0j _ _ | (refine y8p ?_ ?_ rfl rfl rfl) | (refine y8o ?_ ?_ rfl) | (simp only [List.length_append, List.length_cons, List.length_nil, List.length_set, Ws]; done) | omega)) (by assumption) | (refine x3w ?_ ?_ ?_ rfl) | exact x3x (y0j _ _) rfl | apply y5g | exact x8k rfl rfl | (simp only [List.length_append, List.length_cons, List.length_nil, List.length_set, Ws, Qd, List.length_replicate] <;> omega))) : OB := ⟨Vg n G H, h⟩
def xF (G : Nat → List AVal) (h : Km G = true := by
  repeat' (first | with_reducible exact Yr _ | apply x6p | apply x6m | apply x6o | apply x6n | exact Yr _ | exact x1y | exact y7d _ _ | apply z7n | rfl | assumption)) : OB := ⟨Km G, h⟩
def xZ (v : AVal) (n : Nat) (g : Nat → List AVal) (h : x6j v n g = true := by first | exact w0l _ _ _ | exact x6i _ _) : OB := ⟨x6j v n g, h⟩
def xG (c : Bool) (h : c = true := by
  repeat' (first | with_reducible (first | assumption | exact y3a _ | exact x9s _ | exact x5p _ | exact w0z _ | exact x5q _ | apply z4i | apply x5k) | rfl | exact w0h _ | exact x2i _ _ rfl | exact x2j _ _ _ rfl | exact x5z _ _ rfl | exact x1p rfl | exact x8u rfl rfl (fun _ => rfl) | (refine y7p ?_ (by assumption)) | (refine x7a ?_ rfl rfl rfl) | exact z5w _ _ | exact y9m _ | exact y3o _ _ _ | exact Yr _ | apply z7n | apply z4i | apply x5k)) : OB := ⟨c, h⟩
def gg (c : Bool) (k : c = true) (r : OB) : OB := ⟨c && r.b, z4i k r.h⟩
def kpB (n : Nat) (l : List BP) : List BP := Nat.rec l (fun _ r => .keep :: r) n
abbrev tn (n : Int) : Nat := Int.toNat n
abbrev ii (n : Int) : AVal := .int .i64 n
abbrev wr (n : Int) : Int := IntKind.wrap .i64 n
def trs (n : Nat) (l : List Bool) : List Bool := Nat.rec l (fun _ r => true :: r) n
theorem sl {S : Specs} (hS : Zu Tryz.prog S) (n : Nat) (gs : List (TypeId × Nat × (Nat → List AVal))) (N : z3i) (L : Less) (orc : List Bool) (ob : OB) {C C' : Cfg}
  (h : (((w0g Tryz.prog S (w5o Tryz.prog S 100000 4) n (C.withO orc)).map (y9r gs)).bind (x9p Tryz.prog N)).map (x1o L) = some (C'.withB ob.b) := by kernel_rfl) (hfl : fl0 C = true := by rfl) : z5b Tryz.prog C C' :=
 x8c named mixed hS gs N L orc ob.b h ob.h hfl
def rC (n f : Nat) (p : List Nat) (j r : Nat) (env : List (Nat × AVal)) : Cfg := ⟨⟨n, 0, true⟩, none, Zi Tryz.prog f p j, none, Zy Tryz.prog r, ⟨Yo env, Uz [] 0, 0, [], true⟩, [], .leaf⟩
theorem lr {σ : Type} {cfg : σ → Cfg} {C : Cfg} {rs : List ResultVar} {vs : List AVal} (n f : Nat) (p : List Nat) (j r : Nat) (env : List (Nat × AVal)) (h : z5b Tryz.prog C (rC n f p j r env)) (hf : z0v (rC n f p j r env) = true := by rfl)
  (hr : Vp Tryz.prog (rC n f p j r env).st rs = some vs := by kernel_rfl) : Xt Tryz.prog rs cfg C (.ret vs) := w0d _ h hf hr
theorem lb {rs : List ResultVar} {σ : Type} {cfg : σ → Cfg} {C : Cfg} {c : Bool} {a b : Xg σ} (ha : c = true → Xt Tryz.prog rs cfg C a) (hb : c = false → Xt Tryz.prog rs cfg C b) : Xt Tryz.prog rs cfg C (bif c then a else b) := y9l ha hb
theorem lo {rs : List ResultVar} {σ : Type} {cfg : σ → Cfg} {C : Cfg} {c : Bool} {a : Xg σ} (ha : c = true → Xt Tryz.prog rs cfg C a) : Xt Tryz.prog rs cfg C (bif c then a else .stuck) := w0e ha
end Go.Am
namespace Go.Am
open Go.Proofs
inductive rsortS where
 | h0 (v3 : List Int) (v4 : Int)
 | h1 (v3 : List Int) (v4 : Int) (v5 : Int)
def x4e (l0 : List Int) : rsortS → Cfg
 | .h0 v3 v4 => ⟨⟨63, 0, true⟩, none, (Zi Tryz.prog 133 [1, 1, 0, 1, 0, 0] 0), none, (Zy Tryz.prog 15), ⟨Yo [(0, (.dat l0.length (Zz l0))), (3, (.sla 0 1 0 v3.length (.un 1))), (4, (ii v4))], Uz [⟨rows v3.length (Zz v3), 3, some ⟨1, v3.length, (Zz v3)⟩⟩] 0, 1, [], true⟩, [], .leaf⟩
 | .h1 v3 v4 v5 => ⟨⟨63, 0, true⟩, none, (Zi Tryz.prog 133 [1, 1, 0, 1, 0, 0, 1, 0, 0, 1, 0, 0, 0] 0), none, (Zy Tryz.prog 15), ⟨Yo [(0, (.dat l0.length (Zz l0))), (3, (.sla 0 1 0 v3.length (.un 1))), (4, (ii v4)), (5, (ii v5))], Uz [⟨rows v3.length (Zz v3), 3, some ⟨1, v3.length, (Zz v3)⟩⟩] 0, 1, [], true⟩, [], .leaf⟩
def y0m : List (Option (List Nat)) := [some [0, 3, 4]]
def y0n : List (Option (List Nat)) := []
def x4c : List (Option (List Nat)) := [some [0, 3, 4, 5]]
def x4d : List (Option (List Nat)) := []
def Wv (l0 : List Int) : rsortS → Xg rsortS
 | .h0 v3 v4 => (bif (decide (v4 < (l0.length : Int))) then (.to (.h1 v3 v4 (v3.length : Int))) else (.ret [(.dat v3.length (Zz v3))]))
 | .h1 v3 v4 v5 => (bif (decide (v5 > 0)) then (bif ((decide (0 ≤ (IntKind.wrap .i64 (v5 - 1)) ∧ (IntKind.wrap .i64 (v5 - 1)) < (v3.length : Int))) && true) then (bif (decide ((0 + (Int.toNat (IntKind.wrap .i64 (v5 - 1)))) < v3.length)) then (bif ((decide (0 ≤ v4 ∧ v4 < (l0.length : Int))) && true) then (bif (decide ((rd v3 (0 + (Int.toNat (IntKind.wrap .i64 (v5 - 1))))) > (rd l0 v4.toNat))) then (.to (.h1 v3 v4 (IntKind.wrap .i64 (v5 - 1)))) else (bif ((rd v3 (0 + (Int.toNat (IntKind.wrap .i64 (v5 - 1))))) == (rd l0 v4.toNat)) then (.to (.h0 v3 (IntKind.wrap .i64 (v4 + 1)))) else (bif (Nat.beq 1 1 && ((decide (0 + v3.length = v3.length)) && decide ((v3.length + 1 + 1) * (8 + 1) ≤ Ka))) then (bif (true && ((decide (0 ≤ (IntKind.wrap .i64 (v5 + 1)))) && (decide ((v3.length + 1) ≤ (v3.length + 1)) && decide ((Int.toNat (IntKind.wrap .i64 (v5 + 1))) ≤ (v3.length + 1))))) then (bif (true && ((decide (0 ≤ v5)) && (decide ((v3.length + 1) ≤ (v3.length + 1)) && decide (v5.toNat ≤ (v3.length + 1))))) then (bif (decide ((0 + v5.toNat) + ((v3.length + 1) - v5.toNat) ≤ (v3.length + 1))) then (bif (decide ((0 + (Int.toNat (IntKind.wrap .i64 (v5 + 1)))) + ((v3.length + 1) - (Int.toNat (IntKind.wrap .i64 (v5 + 1)))) ≤ (v3.length + 1))) then (bif ((decide (0 ≤ v5 ∧ v5 < (((v3.length + 1) : Nat) : Int))) && true) then (bif (decide ((0 + v5.toNat) < (v3.length + 1))) then (.to (.h0 ((z8o (v3 ++ [0]) (0 + (Int.toNat (IntKind.wrap .i64 (v5 + 1)))) (Nat.min ((v3.length + 1) - v5.toNat) ((v3.length + 1) - (Int.toNat (IntKind.wrap .i64 (v5 + 1))))) (Uo (v3 ++ [0]) (0 + v5.toNat) ((v3.length + 1) - v5.toNat))).set (0 + v5.toNat) (rd l0 v4.toNat)) (IntKind.wrap .i64 (v4 + 1)))) else .stuck) else .stuck) else .stuck) else .stuck) else .stuck) else .stuck) else .stuck))) else .stuck) else .stuck) else .stuck) else (bif (Nat.beq 1 1 && ((decide (0 + v3.length = v3.length)) && decide ((v3.length + 1 + 1) * (8 + 1) ≤ Ka))) then (bif (true && ((decide (0 ≤ (IntKind.wrap .i64 (v5 + 1)))) && (decide ((v3.length + 1) ≤ (v3.length + 1)) && decide ((Int.toNat (IntKind.wrap .i64 (v5 + 1))) ≤ (v3.length + 1))))) then (bif (true && ((decide (0 ≤ v5)) && (decide ((v3.length + 1) ≤ (v3.length + 1)) && decide (v5.toNat ≤ (v3.length + 1))))) then (bif (decide ((0 + v5.toNat) + ((v3.length + 1) - v5.toNat) ≤ (v3.length + 1))) then (bif (decide ((0 + (Int.toNat (IntKind.wrap .i64 (v5 + 1)))) + ((v3.length + 1) - (Int.toNat (IntKind.wrap .i64 (v5 + 1)))) ≤ (v3.length + 1))) then (bif ((decide (0 ≤ v4 ∧ v4 < (l0.length : Int))) && true) then (bif ((decide (0 ≤ v5 ∧ v5 < (((v3.length + 1) : Nat) : Int))) && true) then (bif (decide ((0 + v5.toNat) < (v3.length + 1))) then (.to (.h0 ((z8o (v3 ++ [0]) (0 + (Int.toNat (IntKind.wrap .i64 (v5 + 1)))) (Nat.min ((v3.length + 1) - v5.toNat) ((v3.length + 1) - (Int.toNat (IntKind.wrap .i64 (v5 + 1))))) (Uo (v3 ++ [0]) (0 + v5.toNat) ((v3.length + 1) - v5.toNat))).set (0 + v5.toNat) (rd l0 v4.toNat)) (IntKind.wrap .i64 (v4 + 1)))) else .stuck) else .stuck) else .stuck) else .stuck) else .stuck) else .stuck) else .stuck) else .stuck))
def Qt (l0 : List Int) : Xg rsortS := (.to (.h0 ([] : List Int) 0))
theorem y2i (l0 : List Int) : ∀ s, Xt Tryz.prog (Zy Tryz.prog 133) (x4e l0) (x4e l0 s) (Wv l0 s)
 | .h0 v3 v4 => (lb (fun k0 => (sl Zj 21 [] ⟨[0], [], x4c, x4d⟩ ⟨[], [], []⟩ [true] (pp (fl v3 nn) (tt k0 nn)))) (fun k0 => (lr 63 3 [1, 1, 1, 1, 1, 1, 0] 1 15 [(2, (.dat v3.length (Zz v3)))] (sl Zj 15 [] ⟨[], [0], [some [2]], []⟩ ⟨[(2, .frz v3.length v3.length (Zz v3) (Zz v3))], [], []⟩ [false] (pp (xZ (y1y 1 1 0 v3.length v3.length (Zz v3)) v3.length (Zz v3)) (pp (xL v3.length v3.length) (pp (xS v3.length (Zz v3) (Zz v3)) (pp (fl v3 nn) (tt k0 nn)))))))))
 | .h1 v3 v4 v5 => (lb (fun k0 => (lo fun o1_0 => (lo fun o1_1 => (lo fun o1_2 => (lb (fun k1 => (sl Zj 13 [] ⟨[0], [], x4c, x4d⟩ ⟨[], [], []⟩ (trs 11 []) (pp (fl v3 nn) (tt k1 (ww o1_2 (ww o1_1 (ww o1_0 (tt k0 nn)))))))) (fun k1 => (lb (fun k2 => (sl Zj 16 [] ⟨[0], [], y0m, y0n⟩ ⟨[], [], []⟩ (trs 10 [false, true, true, true, true, true, true, true, true, true, true, true]) (pp (fl v3 nn) (tt k2 (ww o1_2 (ww o1_1 (ww o1_0 (tt k0 (tt k1 (ww o1_2 (ww o1_1 (ww o1_0 (tt k0 nn))))))))))))) (fun k2 => (lo fun o0 => (lo fun o1 => (lo fun o2 => (lo fun o3 => (lo fun o4 => (lo fun o5 => (lo fun o6 => (sl Zj 36 [] ⟨[2], [], y0m, y0n⟩ ⟨[(3, .len ((z8o (v3 ++ [0]) (0 + (tn (wr (v5 + 1)))) (Nat.min ((v3.length + 1) - (tn v5)) ((v3.length + 1) - (tn (wr (v5 + 1))))) (Uo (v3 ++ [0]) (0 + (tn v5)) ((v3.length + 1) - (tn v5)))).set (0 + (tn v5)) (rd l0 (tn v4))).length)], [.rowed 1 ((z8o (v3 ++ [0]) (0 + (tn (wr (v5 + 1)))) (Nat.min ((v3.length + 1) - (tn v5)) ((v3.length + 1) - (tn (wr (v5 + 1))))) (Uo (v3 ++ [0]) (0 + (tn v5)) ((v3.length + 1) - (tn v5)))).set (0 + (tn v5)) (rd l0 (tn v4))).length (Zz ((z8o (v3 ++ [0]) (0 + (tn (wr (v5 + 1)))) (Nat.min ((v3.length + 1) - (tn v5)) ((v3.length + 1) - (tn (wr (v5 + 1))))) (Uo (v3 ++ [0]) (0 + (tn v5)) ((v3.length + 1) - (tn v5)))).set (0 + (tn v5)) (rd l0 (tn v4))))], []⟩ (trs 10 [false, true, true, true, true, true, true, true, true, true, true, false]) (pp (xL (v3.length + 1) ((z8o (v3 ++ [0]) (0 + (tn (wr (v5 + 1)))) (Nat.min ((v3.length + 1) - (tn v5)) ((v3.length + 1) - (tn (wr (v5 + 1))))) (Uo (v3 ++ [0]) (0 + (tn v5)) ((v3.length + 1) - (tn v5)))).set (0 + (tn v5)) (rd l0 (tn v4))).length) (pp (xL (v3.length + 1) ((z8o (v3 ++ [0]) (0 + (tn (wr (v5 + 1)))) (Nat.min ((v3.length + 1) - (tn v5)) ((v3.length + 1) - (tn (wr (v5 + 1))))) (Uo (v3 ++ [0]) (0 + (tn v5)) ((v3.length + 1) - (tn v5)))).set (0 + (tn v5)) (rd l0 (tn v4))).length) (pp (xS (v3.length + 1) (Xc (Wd (Zf (Zz v3) 0 v3.length 1 [(ii 0)]) (0 + (tn (wr (v5 + 1)))) (Nat.min ((v3.length + 1) - (tn v5)) ((v3.length + 1) - (tn (wr (v5 + 1))))) (fun k => (Zf (Zz v3) 0 v3.length 1 [(ii 0)]) ((0 + (tn v5)) + k))) (0 + (tn v5)) 0 [(ii (rd l0 (tn v4)))]) (Zz ((z8o (v3 ++ [0]) (0 + (tn (wr (v5 + 1)))) (Nat.min ((v3.length + 1) - (tn v5)) ((v3.length + 1) - (tn (wr (v5 + 1))))) (Uo (v3 ++ [0]) (0 + (tn v5)) ((v3.length + 1) - (tn v5)))).set (0 + (tn v5)) (rd l0 (tn v4))))) (pp (pp (xF (Xc (Wd (Zf (Zz v3) 0 v3.length 1 [(ii 0)]) (0 + (tn (wr (v5 + 1)))) (Nat.min ((v3.length + 1) - (tn v5)) ((v3.length + 1) - (tn (wr (v5 + 1))))) (fun k => (Zf (Zz v3) 0 v3.length 1 [(ii 0)]) ((0 + (tn v5)) + k))) (0 + (tn v5)) 0 [(ii (rd l0 (tn v4)))])) nn) (ww o6 (ww o5 (ww o1_2 (pp (pp (xG (Nat.beq 1 1)) (pp (xG (Nat.beq 1 1)) (pp (xw o4) (pp (xG (Nat.beq 1 1)) (pp (xG (Nat.beq 1 1)) (pp (xG (decide ((0 + (tn v5)) + ((v3.length + 1) - (tn v5)) ≤ (v3.length + 1)))) (xG (y3y 1 ((v3.length + 1) - (tn v5)) (fun k => (Zf (Zz v3) 0 v3.length 1 [(ii 0)]) ((0 + (tn v5)) + k)))))))))) (ww o2 (ww o1 (ww o0 (tt k2 (ww o1_2 (ww o1_1 (ww o1_0 (tt k0 (tt k1 (ww o1_2 (ww o1_1 (ww o1_0 (tt k0 nn))))))))))))))))))))))))))))))))))))) (fun k0 => (lo fun o0 => (lo fun o1 => (lo fun o2 => (lo fun o3 => (lo fun o4 => (lo fun o5 => (lo fun o6 => (lo fun o7 => (sl Zj 36 [] ⟨[2], [], y0m, y0n⟩ ⟨[(3, .len ((z8o (v3 ++ [0]) (0 + (tn (wr (v5 + 1)))) (Nat.min ((v3.length + 1) - (tn v5)) ((v3.length + 1) - (tn (wr (v5 + 1))))) (Uo (v3 ++ [0]) (0 + (tn v5)) ((v3.length + 1) - (tn v5)))).set (0 + (tn v5)) (rd l0 (tn v4))).length)], [.rowed 1 ((z8o (v3 ++ [0]) (0 + (tn (wr (v5 + 1)))) (Nat.min ((v3.length + 1) - (tn v5)) ((v3.length + 1) - (tn (wr (v5 + 1))))) (Uo (v3 ++ [0]) (0 + (tn v5)) ((v3.length + 1) - (tn v5)))).set (0 + (tn v5)) (rd l0 (tn v4))).length (Zz ((z8o (v3 ++ [0]) (0 + (tn (wr (v5 + 1)))) (Nat.min ((v3.length + 1) - (tn v5)) ((v3.length + 1) - (tn (wr (v5 + 1))))) (Uo (v3 ++ [0]) (0 + (tn v5)) ((v3.length + 1) - (tn v5)))).set (0 + (tn v5)) (rd l0 (tn v4))))], []⟩ [false, false, false, false, false, false, false, false, false, false, false, false, false, false, false, false, false, false, false, false, false, false] (pp (xL (v3.length + 1) ((z8o (v3 ++ [0]) (0 + (tn (wr (v5 + 1)))) (Nat.min ((v3.length + 1) - (tn v5)) ((v3.length + 1) - (tn (wr (v5 + 1))))) (Uo (v3 ++ [0]) (0 + (tn v5)) ((v3.length + 1) - (tn v5)))).set (0 + (tn v5)) (rd l0 (tn v4))).length) (pp (xL (v3.length + 1) ((z8o (v3 ++ [0]) (0 + (tn (wr (v5 + 1)))) (Nat.min ((v3.length + 1) - (tn v5)) ((v3.length + 1) - (tn (wr (v5 + 1))))) (Uo (v3 ++ [0]) (0 + (tn v5)) ((v3.length + 1) - (tn v5)))).set (0 + (tn v5)) (rd l0 (tn v4))).length) (pp (xS (v3.length + 1) (Xc (Wd (Zf (Zz v3) 0 v3.length 1 [(ii 0)]) (0 + (tn (wr (v5 + 1)))) (Nat.min ((v3.length + 1) - (tn v5)) ((v3.length + 1) - (tn (wr (v5 + 1))))) (fun k => (Zf (Zz v3) 0 v3.length 1 [(ii 0)]) ((0 + (tn v5)) + k))) (0 + (tn v5)) 0 [(ii (rd l0 (tn v4)))]) (Zz ((z8o (v3 ++ [0]) (0 + (tn (wr (v5 + 1)))) (Nat.min ((v3.length + 1) - (tn v5)) ((v3.length + 1) - (tn (wr (v5 + 1))))) (Uo (v3 ++ [0]) (0 + (tn v5)) ((v3.length + 1) - (tn v5)))).set (0 + (tn v5)) (rd l0 (tn v4))))) (pp (pp (xF (Xc (Wd (Zf (Zz v3) 0 v3.length 1 [(ii 0)]) (0 + (tn (wr (v5 + 1)))) (Nat.min ((v3.length + 1) - (tn v5)) ((v3.length + 1) - (tn (wr (v5 + 1))))) (fun k => (Zf (Zz v3) 0 v3.length 1 [(ii 0)]) ((0 + (tn v5)) + k))) (0 + (tn v5)) 0 [(ii (rd l0 (tn v4)))])) nn) (ww o7 (ww o6 (ww o5 (pp (pp (xG (Nat.beq 1 1)) (pp (xG (Nat.beq 1 1)) (pp (xw o4) (pp (xG (Nat.beq 1 1)) (pp (xG (Nat.beq 1 1)) (pp (xG (decide ((0 + (tn v5)) + ((v3.length + 1) - (tn v5)) ≤ (v3.length + 1)))) (xG (y3y 1 ((v3.length + 1) - (tn v5)) (fun k => (Zf (Zz v3) 0 v3.length 1 [(ii 0)]) ((0 + (tn v5)) + k)))))))))) (ww o2 (ww o1 (ww o0 (tt k0 (tt k0 nn))))))))))))))))))))))))
theorem y0l (l0 : List Int) : Xt Tryz.prog (Zy Tryz.prog 133) (x4e l0) (Zd Tryz.prog 133 [(.dat l0.length (Zz l0))] true []) (Qt l0) := (sl Zj 15 [(3, 1, Zz ([] : List Int))] ⟨[0], [], y0m, y0n⟩ ⟨[(3, .grow 0 1)], [], []⟩ [] (pp (fl ([] : List Int) nn) nn))
theorem x0v (l0 : List Int) (n : Nat) (vs : List AVal) (h : Yk (Wv l0) n (Qt l0) = .ret vs) : Kz Tryz.prog (Zy Tryz.prog 133) (Zd Tryz.prog 133 [(.dat l0.length (Zz l0))] true []) vs := by
 have := Zr (y2i l0) n _ (y0l l0)
 rwa [h] at this
inductive rcanS where
 | h0 (v5 : List R2) (v6 : Int)
def w6l (l0 : List Int) (l1 : List Bool) : rcanS → Cfg
 | .h0 v5 v6 => ⟨⟨61, 0, true⟩, none, (Zi Tryz.prog 139 [1, 1, 0, 1, 0, 0] 0), none, (Zy Tryz.prog 3), ⟨Yo [(0, (.dat l0.length (Zz l0))), (1, (.dat l1.length (Zz l1))), (5, (.sla 0 2 0 v5.length (.un 2))), (6, (ii v6))], Uz [⟨rows v5.length (Zz v5), 110, some ⟨2, v5.length, (Zz v5)⟩⟩] 0, 1, [], true⟩, [], .leaf⟩
def y2u : List (Option (List Nat)) := [some [0, 1, 5, 6]]
def y2v : List (Option (List Nat)) := []
def Uj (l0 : List Int) (l1 : List Bool) : rcanS → Xg rcanS
 | .h0 v5 v6 => (bif (decide ((IntKind.wrap .i64 (v6 + 1)) < (l0.length : Int))) then (bif ((decide (0 ≤ v6 ∧ v6 < (l1.length : Int))) && true) then (bif (!(rd l1 v6.toNat)) then (.to (.h0 v5 (IntKind.wrap .i64 (v6 + 1)))) else (bif (decide ((v5.length : Int) > 0)) then (bif ((decide (0 ≤ (IntKind.wrap .i64 ((v5.length : Int) - 1)) ∧ (IntKind.wrap .i64 ((v5.length : Int) - 1)) < (v5.length : Int))) && true) then (bif (decide ((0 + (Int.toNat (IntKind.wrap .i64 ((v5.length : Int) - 1)))) < v5.length)) then (bif ((decide (0 ≤ v6 ∧ v6 < (l0.length : Int))) && true) then (bif ((rd v5 (0 + (Int.toNat (IntKind.wrap .i64 ((v5.length : Int) - 1))))).b == (rd l0 v6.toNat)) then (bif ((decide (0 ≤ (IntKind.wrap .i64 (v6 + 1)) ∧ (IntKind.wrap .i64 (v6 + 1)) < (l0.length : Int))) && true) then (.to (.h0 (v5.set (0 + (Int.toNat (IntKind.wrap .i64 ((v5.length : Int) - 1)))) (R2.mk (rd v5 (0 + (Int.toNat (IntKind.wrap .i64 ((v5.length : Int) - 1))))).a (rd l0 (Int.toNat (IntKind.wrap .i64 (v6 + 1)))))) (IntKind.wrap .i64 (v6 + 1)))) else .stuck) else (bif ((decide (0 ≤ (IntKind.wrap .i64 (v6 + 1)) ∧ (IntKind.wrap .i64 (v6 + 1)) < (l0.length : Int))) && true) then (bif (Nat.beq 2 2 && ((decide (0 + v5.length = v5.length)) && decide ((v5.length + 1 + 1) * (16 + 1) ≤ Ka))) then (.to (.h0 (v5 ++ [(R2.mk (rd l0 v6.toNat) (rd l0 (Int.toNat (IntKind.wrap .i64 (v6 + 1)))))]) (IntKind.wrap .i64 (v6 + 1)))) else .stuck) else .stuck)) else .stuck) else .stuck) else .stuck) else (bif ((decide (0 ≤ v6 ∧ v6 < (l0.length : Int))) && true) then (bif ((decide (0 ≤ (IntKind.wrap .i64 (v6 + 1)) ∧ (IntKind.wrap .i64 (v6 + 1)) < (l0.length : Int))) && true) then (bif (Nat.beq 2 2 && ((decide (0 + v5.length = v5.length)) && decide ((v5.length + 1 + 1) * (16 + 1) ≤ Ka))) then (.to (.h0 (v5 ++ [(R2.mk (rd l0 v6.toNat) (rd l0 (Int.toNat (IntKind.wrap .i64 (v6 + 1)))))]) (IntKind.wrap .i64 (v6 + 1)))) else .stuck) else .stuck) else .stuck))) else .stuck) else (.ret [(.dat v5.length (Zz v5))]))
def z2m (l0 : List Int) (l1 : List Bool) : Xg rcanS := (.to (.h0 ([] : List R2) 0))
theorem y6f (l0 : List Int) (l1 : List Bool) : ∀ s, Xt Tryz.prog (Zy Tryz.prog 139) (w6l l0 l1) (w6l l0 l1 s) (Uj l0 l1 s)
 | .h0 v5 v6 => (lb (fun k0 => (lo fun o1_0 => (lb (fun k1 => (sl Zj 30 [] ⟨[0], [], y2u, y2v⟩ ⟨[], [], []⟩ [true, true] (pp (fl v5 nn) (tt k1 (ww o1_0 (tt k0 nn)))))) (fun k1 => (lb (fun k2 => (lo fun o3_0 => (lo fun o3_1 => (lo fun o3_2 => (lb (fun k3 => (lo fun o0 => (sl Zj 53 [] ⟨[0], [], y2u, y2v⟩ ⟨[(5, .len (v5.set (0 + (tn (wr ((v5.length : Int) - 1)))) (R2.mk (rd v5 (0 + (tn (wr ((v5.length : Int) - 1))))).a (rd l0 (tn (wr (v6 + 1)))))).length)], [.rowed 2 (v5.set (0 + (tn (wr ((v5.length : Int) - 1)))) (R2.mk (rd v5 (0 + (tn (wr ((v5.length : Int) - 1))))).a (rd l0 (tn (wr (v6 + 1)))))).length (Zz (v5.set (0 + (tn (wr ((v5.length : Int) - 1)))) (R2.mk (rd v5 (0 + (tn (wr ((v5.length : Int) - 1))))).a (rd l0 (tn (wr (v6 + 1)))))))], []⟩ [true, false, true, true, true, true, true, true, true, true, true, true, true, true] (pp (xL v5.length (v5.set (0 + (tn (wr ((v5.length : Int) - 1)))) (R2.mk (rd v5 (0 + (tn (wr ((v5.length : Int) - 1))))).a (rd l0 (tn (wr (v6 + 1)))))).length) (pp (xL v5.length (v5.set (0 + (tn (wr ((v5.length : Int) - 1)))) (R2.mk (rd v5 (0 + (tn (wr ((v5.length : Int) - 1))))).a (rd l0 (tn (wr (v6 + 1)))))).length) (pp (xS v5.length (Xc (Zz v5) (0 + (tn (wr ((v5.length : Int) - 1)))) 1 [(ii (rd l0 (tn (wr (v6 + 1)))))]) (Zz (v5.set (0 + (tn (wr ((v5.length : Int) - 1)))) (R2.mk (rd v5 (0 + (tn (wr ((v5.length : Int) - 1))))).a (rd l0 (tn (wr (v6 + 1)))))))) (pp (pp (xF (Xc (Zz v5) (0 + (tn (wr ((v5.length : Int) - 1)))) 1 [(ii (rd l0 (tn (wr (v6 + 1)))))])) nn) (ww o3_1 (ww o3_0 (ww o0 (tt k3 (ww o3_2 (ww o3_1 (ww o3_0 (tt k2 (tt k1 (ww o1_0 (tt k0 nn)))))))))))))))))) (fun k3 => (lo fun o0 => (lo fun o1 => (sl Zj 41 [] ⟨[2], [], y2u, y2v⟩ ⟨[(5, .len (v5 ++ [(R2.mk (rd l0 (tn v6)) (rd l0 (tn (wr (v6 + 1)))))]).length)], [.rowed 2 (v5 ++ [(R2.mk (rd l0 (tn v6)) (rd l0 (tn (wr (v6 + 1)))))]).length (Zz (v5 ++ [(R2.mk (rd l0 (tn v6)) (rd l0 (tn (wr (v6 + 1)))))]))], []⟩ [true, false, true, true, true, true, true, true, true, true, true, true, true, false] (pp (xL (v5.length + 1) (v5 ++ [(R2.mk (rd l0 (tn v6)) (rd l0 (tn (wr (v6 + 1)))))]).length) (pp (xL (v5.length + 1) (v5 ++ [(R2.mk (rd l0 (tn v6)) (rd l0 (tn (wr (v6 + 1)))))]).length) (pp (xS (v5.length + 1) (Zf (Zz v5) 0 v5.length 2 [(ii (rd l0 (tn v6))), (ii (rd l0 (tn (wr (v6 + 1)))))]) (Zz (v5 ++ [(R2.mk (rd l0 (tn v6)) (rd l0 (tn (wr (v6 + 1)))))]))) (pp (pp (xF (Zf (Zz v5) 0 v5.length 2 [(ii (rd l0 (tn v6))), (ii (rd l0 (tn (wr (v6 + 1)))))])) nn) (ww o1 (ww o0 (ww o3_2 (tt k3 (ww o3_2 (ww o3_1 (ww o3_0 (tt k2 (tt k1 (ww o1_0 (tt k0 nn)))))))))))))))))))))))) (fun k2 => (lo fun o0 => (lo fun o1 => (lo fun o2 => (sl Zj 41 [] ⟨[2], [], y2u, y2v⟩ ⟨[(5, .len (v5 ++ [(R2.mk (rd l0 (tn v6)) (rd l0 (tn (wr (v6 + 1)))))]).length)], [.rowed 2 (v5 ++ [(R2.mk (rd l0 (tn v6)) (rd l0 (tn (wr (v6 + 1)))))]).length (Zz (v5 ++ [(R2.mk (rd l0 (tn v6)) (rd l0 (tn (wr (v6 + 1)))))]))], []⟩ [true, false, false, false, false, false, false, false, false, false, false, false, false, false] (pp (xL (v5.length + 1) (v5 ++ [(R2.mk (rd l0 (tn v6)) (rd l0 (tn (wr (v6 + 1)))))]).length) (pp (xL (v5.length + 1) (v5 ++ [(R2.mk (rd l0 (tn v6)) (rd l0 (tn (wr (v6 + 1)))))]).length) (pp (xS (v5.length + 1) (Zf (Zz v5) 0 v5.length 2 [(ii (rd l0 (tn v6))), (ii (rd l0 (tn (wr (v6 + 1)))))]) (Zz (v5 ++ [(R2.mk (rd l0 (tn v6)) (rd l0 (tn (wr (v6 + 1)))))]))) (pp (pp (xF (Zf (Zz v5) 0 v5.length 2 [(ii (rd l0 (tn v6))), (ii (rd l0 (tn (wr (v6 + 1)))))])) nn) (ww o2 (ww o1 (ww o0 (tt k2 (tt k1 (ww o1_0 (tt k0 nn))))))))))))))))))))) (fun k0 => (lr 61 3 [1, 1, 1, 1, 1, 1, 0] 1 3 [(4, (.dat v5.length (Zz v5)))] (sl Zj 16 [] ⟨[], [0], [some [4]], []⟩ ⟨[(4, .frz v5.length v5.length (Zz v5) (Zz v5))], [], []⟩ [false] (pp (xZ (y1y 2 2 0 v5.length v5.length (Zz v5)) v5.length (Zz v5)) (pp (xL v5.length v5.length) (pp (xS v5.length (Zz v5) (Zz v5)) (pp (fl v5 nn) (tt k0 nn)))))))))
theorem y2t (l0 : List Int) (l1 : List Bool) : Xt Tryz.prog (Zy Tryz.prog 139) (w6l l0 l1) (Zd Tryz.prog 139 [(.dat l0.length (Zz l0)), (.dat l1.length (Zz l1))] true []) (z2m l0 l1) := (sl Zj 15 [(110, 2, Zz ([] : List R2))] ⟨[0], [], y2u, y2v⟩ ⟨[(5, .grow 0 2)], [], []⟩ [] (pp (fl ([] : List R2) nn) nn))
theorem x5g (l0 : List Int) (l1 : List Bool) (n : Nat) (vs : List AVal) (h : Yk (Uj l0 l1) n (z2m l0 l1) = .ret vs) : Kz Tryz.prog (Zy Tryz.prog 139) (Zd Tryz.prog 139 [(.dat l0.length (Zz l0)), (.dat l1.length (Zz l1))] true []) vs := by
 have := Zr (y6f l0 l1) n _ (y2t l0 l1)
 rwa [h] at this
inductive rsmS where
 | h0 (v5 : Int)
def rsmC (l0 : List R2) (l1 : List R2) : rsmS → Cfg
 | .h0 v5 => ⟨⟨26, 0, true⟩, none, (Zi Tryz.prog 140 [1, 1, 0, 1, 0, 0] 0), none, (Zy Tryz.prog 3), ⟨Yo [(0, (.dat l0.length (Zz l0))), (1, (.dat l1.length (Zz l1))), (5, (ii v5))], Uz [] 0, 0, [], true⟩, [], .leaf⟩
def rsmN0 : List (Option (List Nat)) := [some [0, 1, 5]]
def rsmM0 : List (Option (List Nat)) := []
def z1e (l0 : List R2) (l1 : List R2) : rsmS → Xg rsmS
 | .h0 v5 => (bif (decide (v5 < (l0.length : Int))) then (bif ((decide (0 ≤ v5 ∧ v5 < (l0.length : Int))) && true) then (bif ((decide (0 ≤ v5 ∧ v5 < (l1.length : Int))) && true) then (bif (!(((rd l0 v5.toNat).a == (rd l1 v5.toNat).a) && (((rd l0 v5.toNat).b == (rd l1 v5.toNat).b) && true))) then (.ret [(.bool false)]) else (.to (.h0 (IntKind.wrap .i64 (v5 + 1))))) else .stuck) else .stuck) else (.ret [(.bool true)]))
def z1z (l0 : List R2) (l1 : List R2) : Xg rsmS := (bif ((l0.length : Int) != (l1.length : Int)) then (.ret [(.bool false)]) else (.to (.h0 0)))
theorem x0w (l0 : List R2) (l1 : List R2) : ∀ s, Xt Tryz.prog (Zy Tryz.prog 140) (rsmC l0 l1) (rsmC l0 l1 s) (z1e l0 l1 s)
 | .h0 v5 => (lb (fun k0 => (lo fun o1_0 => (lo fun o1_1 => (lb (fun k1 => (lr 26 140 [1, 1, 0, 1, 0, 0, 1, 0, 0, 1, 0, 0] 1 3 [(4, (.bool false))] (sl Zj 19 [] ⟨[], [], [some [4]], []⟩ ⟨[], [], []⟩ [true, true] (tt k1 (ww o1_1 (ww o1_0 (tt k0 nn))))))) (fun k1 => (sl Zj 23 [] ⟨[], [], rsmN0, rsmM0⟩ ⟨[], [], []⟩ [true, false] (tt k1 (ww o1_1 (ww o1_0 (tt k0 nn)))))))))) (fun k0 => (lr 26 3 [1, 1, 1, 1, 1, 1, 0] 1 3 [(4, (.bool true))] (sl Zj 14 [] ⟨[], [], [some [4]], []⟩ ⟨[], [], []⟩ [false] (tt k0 nn)))))
theorem y5l (l0 : List R2) (l1 : List R2) : Xt Tryz.prog (Zy Tryz.prog 140) (rsmC l0 l1) (Zd Tryz.prog 140 [(.dat l0.length (Zz l0)), (.dat l1.length (Zz l1))] true []) (z1z l0 l1) := (lb (fun k0 => (lr 26 140 [1, 0, 1, 0, 0] 1 3 [(4, (.bool false))] (sl Zj 18 [] ⟨[], [], [some [4]], []⟩ ⟨[], [], []⟩ [true] (tt k0 nn)))) (fun k0 => (sl Zj 22 [] ⟨[], [], rsmN0, rsmM0⟩ ⟨[], [], []⟩ [false] (tt k0 nn))))
theorem x8p (l0 : List R2) (l1 : List R2) (n : Nat) (vs : List AVal) (h : Yk (z1e l0 l1) n (z1z l0 l1) = .ret vs) : Kz Tryz.prog (Zy Tryz.prog 140) (Zd Tryz.prog 140 [(.dat l0.length (Zz l0)), (.dat l1.length (Zz l1))] true []) vs := by
 have := Zr (x0w l0 l1) n _ (y5l l0 l1)
 rwa [h] at this
inductive rhasS where
 | h0 (v7 : Int)
def w6e (l0 : List R4) (x1 : Int) (x2 : Int) : rhasS → Cfg
 | .h0 v7 => ⟨⟨48, 0, true⟩, none, (Zi Tryz.prog 138 [1, 0, 1, 0, 0] 0), none, (Zy Tryz.prog 4), ⟨Yo [(0, (.dat l0.length (Zz l0))), (1, (ii x1)), (2, (ii x2)), (7, (ii v7))], Uz [] 0, 0, [], true⟩, [], .leaf⟩
def y2l : List (Option (List Nat)) := [some [0, 1, 2, 7]]
def y2m : List (Option (List Nat)) := []
def z0c (l0 : List R4) (x1 : Int) (x2 : Int) : rhasS → Xg rhasS
 | .h0 v7 => (bif (decide (v7 < (l0.length : Int))) then (bif ((decide (0 ≤ v7 ∧ v7 < (l0.length : Int))) && true) then (bif (decide ((rd l0 v7.toNat).a ≤ x1)) then (bif (decide (x1 < (rd l0 v7.toNat).c)) then (bif (decide ((rd l0 v7.toNat).b ≤ x2)) then (bif (decide (x2 < (rd l0 v7.toNat).d)) then (.ret [(.bool true)]) else (.to (.h0 (IntKind.wrap .i64 (v7 + 1))))) else (.to (.h0 (IntKind.wrap .i64 (v7 + 1))))) else (.to (.h0 (IntKind.wrap .i64 (v7 + 1))))) else (.to (.h0 (IntKind.wrap .i64 (v7 + 1))))) else .stuck) else (.ret [(.bool false)]))
def z2f (l0 : List R4) (x1 : Int) (x2 : Int) : Xg rhasS := (.to (.h0 0))
theorem y5w (l0 : List R4) (x1 : Int) (x2 : Int) : ∀ s, Xt Tryz.prog (Zy Tryz.prog 138) (w6e l0 x1 x2) (w6e l0 x1 x2 s) (z0c l0 x1 x2 s)
 | .h0 v7 => (lb (fun k0 => (lo fun o1_0 => (lb (fun k1 => (lb (fun k2 => (lb (fun k3 => (lb (fun k4 => (lr 48 138 [1, 0, 1, 0, 0, 1, 0, 0, 1, 0, 0] 1 4 [(6, (.bool true))] (sl Zj 54 [] ⟨[], [], [some [6]], []⟩ ⟨[], [], []⟩ (trs 23 []) (tt k4 (ww o1_0 (tt k3 (ww o1_0 (tt k2 (ww o1_0 (tt k1 (ww o1_0 (tt k0 nn)))))))))))) (fun k4 => (sl Zj 58 [] ⟨[], [], y2l, y2m⟩ ⟨[], [], []⟩ (trs 22 [false]) (tt k4 (ww o1_0 (tt k3 (ww o1_0 (tt k2 (ww o1_0 (tt k1 (ww o1_0 (tt k0 nn))))))))))))) (fun k3 => (sl Zj 58 [] ⟨[], [], y2l, y2m⟩ ⟨[], [], []⟩ (trs 15 [false, false, false, false, false, false, false, false]) (tt k3 (ww o1_0 (tt k2 (ww o1_0 (tt k1 (ww o1_0 (tt k0 nn))))))))))) (fun k2 => (sl Zj 58 [] ⟨[], [], y2l, y2m⟩ ⟨[], [], []⟩ (trs 8 [false, false, false, false, false, false, false, false, false, false, false, false, false, false, false]) (tt k2 (ww o1_0 (tt k1 (ww o1_0 (tt k0 nn))))))))) (fun k1 => (sl Zj 58 [] ⟨[], [], y2l, y2m⟩ ⟨[], [], []⟩ [true, false, false, false, false, false, false, false, false, false, false, false, false, false, false, false, false, false, false, false, false, false, false] (tt k1 (ww o1_0 (tt k0 nn)))))))) (fun k0 => (lr 48 3 [1, 1, 1, 1, 1, 1, 0] 1 4 [(6, (.bool false))] (sl Zj 14 [] ⟨[], [], [some [6]], []⟩ ⟨[], [], []⟩ [false] (tt k0 nn)))))
theorem y2k (l0 : List R4) (x1 : Int) (x2 : Int) : Xt Tryz.prog (Zy Tryz.prog 138) (w6e l0 x1 x2) (Zd Tryz.prog 138 [(.dat l0.length (Zz l0)), (.int .i64 x1), (.int .i64 x2)] true []) (z2f l0 x1 x2) := (sl Zj 11 [] ⟨[], [], y2l, y2m⟩ ⟨[], [], []⟩ [] nn)
theorem x4q (l0 : List R4) (x1 : Int) (x2 : Int) (n : Nat) (vs : List AVal) (h : Yk (z0c l0 x1 x2) n (z2f l0 x1 x2) = .ret vs) : Kz Tryz.prog (Zy Tryz.prog 138) (Zd Tryz.prog 138 [(.dat l0.length (Zz l0)), (.int .i64 x1), (.int .i64 x2)] true []) vs := by
 have := Zr (y5w l0 x1 x2) n _ (y2k l0 x1 x2)
 rwa [h] at this
inductive rsrS where
 | h0 (v5 : Int)
def rsrC (l0 : List R4) (l1 : List R4) : rsrS → Cfg
 | .h0 v5 => ⟨⟨26, 0, true⟩, none, (Zi Tryz.prog 117 [1, 1, 0, 1, 0, 0] 0), none, (Zy Tryz.prog 3), ⟨Yo [(0, (.dat l0.length (Zz l0))), (1, (.dat l1.length (Zz l1))), (5, (ii v5))], Uz [] 0, 0, [], true⟩, [], .leaf⟩
def rsrN0 : List (Option (List Nat)) := [some [0, 1, 5]]
def rsrM0 : List (Option (List Nat)) := []
def z1d (l0 : List R4) (l1 : List R4) : rsrS → Xg rsrS
 | .h0 v5 => (bif (decide (v5 < (l0.length : Int))) then (bif ((decide (0 ≤ v5 ∧ v5 < (l0.length : Int))) && true) then (bif ((decide (0 ≤ v5 ∧ v5 < (l1.length : Int))) && true) then (bif (!(((rd l0 v5.toNat).a == (rd l1 v5.toNat).a) && (((rd l0 v5.toNat).b == (rd l1 v5.toNat).b) && (((rd l0 v5.toNat).c == (rd l1 v5.toNat).c) && (((rd l0 v5.toNat).d == (rd l1 v5.toNat).d) && true))))) then (.ret [(.bool false)]) else (.to (.h0 (IntKind.wrap .i64 (v5 + 1))))) else .stuck) else .stuck) else (.ret [(.bool true)]))
def z1y (l0 : List R4) (l1 : List R4) : Xg rsrS := (bif ((l0.length : Int) != (l1.length : Int)) then (.ret [(.bool false)]) else (.to (.h0 0)))
theorem x0u (l0 : List R4) (l1 : List R4) : ∀ s, Xt Tryz.prog (Zy Tryz.prog 117) (rsrC l0 l1) (rsrC l0 l1 s) (z1d l0 l1 s)
 | .h0 v5 => (lb (fun k0 => (lo fun o1_0 => (lo fun o1_1 => (lb (fun k1 => (lr 26 117 [1, 1, 0, 1, 0, 0, 1, 0, 0, 1, 0, 0] 1 3 [(4, (.bool false))] (sl Zj 19 [] ⟨[], [], [some [4]], []⟩ ⟨[], [], []⟩ [true, true] (tt k1 (ww o1_1 (ww o1_0 (tt k0 nn))))))) (fun k1 => (sl Zj 23 [] ⟨[], [], rsrN0, rsrM0⟩ ⟨[], [], []⟩ [true, false] (tt k1 (ww o1_1 (ww o1_0 (tt k0 nn)))))))))) (fun k0 => (lr 26 3 [1, 1, 1, 1, 1, 1, 0] 1 3 [(4, (.bool true))] (sl Zj 14 [] ⟨[], [], [some [4]], []⟩ ⟨[], [], []⟩ [false] (tt k0 nn)))))
theorem y5k (l0 : List R4) (l1 : List R4) : Xt Tryz.prog (Zy Tryz.prog 117) (rsrC l0 l1) (Zd Tryz.prog 117 [(.dat l0.length (Zz l0)), (.dat l1.length (Zz l1))] true []) (z1y l0 l1) := (lb (fun k0 => (lr 26 117 [1, 0, 1, 0, 0] 1 3 [(4, (.bool false))] (sl Zj 18 [] ⟨[], [], [some [4]], []⟩ ⟨[], [], []⟩ [true] (tt k0 nn)))) (fun k0 => (sl Zj 22 [] ⟨[], [], rsrN0, rsrM0⟩ ⟨[], [], []⟩ [false] (tt k0 nn))))
theorem x8o (l0 : List R4) (l1 : List R4) (n : Nat) (vs : List AVal) (h : Yk (z1d l0 l1) n (z1y l0 l1) = .ret vs) : Kz Tryz.prog (Zy Tryz.prog 117) (Zd Tryz.prog 117 [(.dat l0.length (Zz l0)), (.dat l1.length (Zz l1))] true []) vs := by
 have := Zr (x0u l0 l1) n _ (y5k l0 l1)
 rwa [h] at this
inductive rsbS where
 | h0 (v5 : Int)
def rsbC (l0 : List R6) (l1 : List R6) : rsbS → Cfg
 | .h0 v5 => ⟨⟨26, 0, true⟩, none, (Zi Tryz.prog 40 [1, 1, 0, 1, 0, 0] 0), none, (Zy Tryz.prog 3), ⟨Yo [(0, (.dat l0.length (Zz l0))), (1, (.dat l1.length (Zz l1))), (5, (ii v5))], Uz [] 0, 0, [], true⟩, [], .leaf⟩
def rsbN0 : List (Option (List Nat)) := [some [0, 1, 5]]
def rsbM0 : List (Option (List Nat)) := []
def z1f (l0 : List R6) (l1 : List R6) : rsbS → Xg rsbS
 | .h0 v5 => (bif (decide (v5 < (l0.length : Int))) then (bif ((decide (0 ≤ v5 ∧ v5 < (l0.length : Int))) && true) then (bif ((decide (0 ≤ v5 ∧ v5 < (l1.length : Int))) && true) then (bif (!((((rd l0 v5.toNat).a == (rd l1 v5.toNat).a) && (((rd l0 v5.toNat).b == (rd l1 v5.toNat).b) && (((rd l0 v5.toNat).c == (rd l1 v5.toNat).c) && true))) && ((((rd l0 v5.toNat).d == (rd l1 v5.toNat).d) && (((rd l0 v5.toNat).e == (rd l1 v5.toNat).e) && (((rd l0 v5.toNat).f == (rd l1 v5.toNat).f) && true))) && true))) then (.ret [(.bool false)]) else (.to (.h0 (IntKind.wrap .i64 (v5 + 1))))) else .stuck) else .stuck) else (.ret [(.bool true)]))
def z2a (l0 : List R6) (l1 : List R6) : Xg rsbS := (bif ((l0.length : Int) != (l1.length : Int)) then (.ret [(.bool false)]) else (.to (.h0 0)))
theorem x0x (l0 : List R6) (l1 : List R6) : ∀ s, Xt Tryz.prog (Zy Tryz.prog 40) (rsbC l0 l1) (rsbC l0 l1 s) (z1f l0 l1 s)
 | .h0 v5 => (lb (fun k0 => (lo fun o1_0 => (lo fun o1_1 => (lb (fun k1 => (lr 26 40 [1, 1, 0, 1, 0, 0, 1, 0, 0, 1, 0, 0] 1 3 [(4, (.bool false))] (sl Zj 19 [] ⟨[], [], [some [4]], []⟩ ⟨[], [], []⟩ [true, true] (tt k1 (ww o1_1 (ww o1_0 (tt k0 nn))))))) (fun k1 => (sl Zj 23 [] ⟨[], [], rsbN0, rsbM0⟩ ⟨[], [], []⟩ [true, false] (tt k1 (ww o1_1 (ww o1_0 (tt k0 nn)))))))))) (fun k0 => (lr 26 3 [1, 1, 1, 1, 1, 1, 0] 1 3 [(4, (.bool true))] (sl Zj 14 [] ⟨[], [], [some [4]], []⟩ ⟨[], [], []⟩ [false] (tt k0 nn)))))
theorem y5m (l0 : List R6) (l1 : List R6) : Xt Tryz.prog (Zy Tryz.prog 40) (rsbC l0 l1) (Zd Tryz.prog 40 [(.dat l0.length (Zz l0)), (.dat l1.length (Zz l1))] true []) (z2a l0 l1) := (lb (fun k0 => (lr 26 40 [1, 0, 1, 0, 0] 1 3 [(4, (.bool false))] (sl Zj 18 [] ⟨[], [], [some [4]], []⟩ ⟨[], [], []⟩ [true] (tt k0 nn)))) (fun k0 => (sl Zj 22 [] ⟨[], [], rsbN0, rsbM0⟩ ⟨[], [], []⟩ [false] (tt k0 nn))))
theorem x8q (l0 : List R6) (l1 : List R6) (n : Nat) (vs : List AVal) (h : Yk (z1f l0 l1) n (z2a l0 l1) = .ret vs) : Kz Tryz.prog (Zy Tryz.prog 40) (Zd Tryz.prog 40 [(.dat l0.length (Zz l0)), (.dat l1.length (Zz l1))] true []) vs := by
 have := Zr (x0x l0 l1) n _ (y5m l0 l1)
 rwa [h] at this
inductive ratS where
 | h0 (v5 : List R4) (v6 : Int)
def ratC (l0 : List R6) (x1 : Int) : ratS → Cfg
 | .h0 v5 v6 => ⟨⟨60, 0, true⟩, none, (Zi Tryz.prog 116 [1, 1, 0, 1, 0, 0] 0), none, (Zy Tryz.prog 3), ⟨Yo [(0, (.dat l0.length (Zz l0))), (1, (ii x1)), (5, (.sla 0 4 0 v5.length (.un 4))), (6, (ii v6))], Uz [⟨rows v5.length (Zz v5), 114, some ⟨4, v5.length, (Zz v5)⟩⟩] 0, 1, [], true⟩, [], .leaf⟩
def x9j : List (Option (List Nat)) := [some [0, 1, 5, 6]]
def x9k : List (Option (List Nat)) := []
def z1g (l0 : List R6) (x1 : Int) : ratS → Xg ratS
 | .h0 v5 v6 => (bif (decide (v6 < (l0.length : Int))) then (bif ((decide (0 ≤ v6 ∧ v6 < (l0.length : Int))) && true) then (bif (decide ((rd l0 v6.toNat).c ≤ x1)) then (bif (decide (x1 < (rd l0 v6.toNat).f)) then (bif (Nat.beq 4 4 && ((decide (0 + v5.length = v5.length)) && decide ((v5.length + 1 + 1) * (32 + 1) ≤ Ka))) then (.to (.h0 (v5 ++ [(R4.mk (rd l0 v6.toNat).a (rd l0 v6.toNat).b (rd l0 v6.toNat).d (rd l0 v6.toNat).e)]) (IntKind.wrap .i64 (v6 + 1)))) else .stuck) else (.to (.h0 v5 (IntKind.wrap .i64 (v6 + 1))))) else (.to (.h0 v5 (IntKind.wrap .i64 (v6 + 1))))) else .stuck) else (.ret [(.dat v5.length (Zz v5))]))
def z5s (l0 : List R6) (x1 : Int) : Xg ratS := (.to (.h0 ([] : List R4) 0))
theorem x1i (l0 : List R6) (x1 : Int) : ∀ s, Xt Tryz.prog (Zy Tryz.prog 116) (ratC l0 x1) (ratC l0 x1 s) (z1g l0 x1 s)
 | .h0 v5 v6 => (lb (fun k0 => (lo fun o1_0 => (lb (fun k1 => (lb (fun k2 => (lo fun o0 => (sl Zj 42 [] ⟨[2], [], x9j, x9k⟩ ⟨[(5, .len (v5 ++ [(R4.mk (rd l0 (tn v6)).a (rd l0 (tn v6)).b (rd l0 (tn v6)).d (rd l0 (tn v6)).e)]).length)], [.rowed 4 (v5 ++ [(R4.mk (rd l0 (tn v6)).a (rd l0 (tn v6)).b (rd l0 (tn v6)).d (rd l0 (tn v6)).e)]).length (Zz (v5 ++ [(R4.mk (rd l0 (tn v6)).a (rd l0 (tn v6)).b (rd l0 (tn v6)).d (rd l0 (tn v6)).e)]))], []⟩ (trs 10 []) (pp (xL (v5.length + 1) (v5 ++ [(R4.mk (rd l0 (tn v6)).a (rd l0 (tn v6)).b (rd l0 (tn v6)).d (rd l0 (tn v6)).e)]).length) (pp (xL (v5.length + 1) (v5 ++ [(R4.mk (rd l0 (tn v6)).a (rd l0 (tn v6)).b (rd l0 (tn v6)).d (rd l0 (tn v6)).e)]).length) (pp (xS (v5.length + 1) (Zf (Zz v5) 0 v5.length 4 [(ii (rd l0 (tn v6)).a), (ii (rd l0 (tn v6)).b), (ii (rd l0 (tn v6)).d), (ii (rd l0 (tn v6)).e)]) (Zz (v5 ++ [(R4.mk (rd l0 (tn v6)).a (rd l0 (tn v6)).b (rd l0 (tn v6)).d (rd l0 (tn v6)).e)]))) (pp (pp (xF (Zf (Zz v5) 0 v5.length 4 [(ii (rd l0 (tn v6)).a), (ii (rd l0 (tn v6)).b), (ii (rd l0 (tn v6)).d), (ii (rd l0 (tn v6)).e)])) nn) (ww o0 (ww o1_0 (ww o1_0 (ww o1_0 (ww o1_0 (tt k2 (ww o1_0 (tt k1 (ww o1_0 (tt k0 nn))))))))))))))))) (fun k2 => (sl Zj 42 [] ⟨[0], [], x9j, x9k⟩ ⟨[], [], []⟩ (trs 9 [false]) (pp (fl v5 nn) (tt k2 (ww o1_0 (tt k1 (ww o1_0 (tt k0 nn)))))))))) (fun k1 => (sl Zj 42 [] ⟨[0], [], x9j, x9k⟩ ⟨[], [], []⟩ [true, false, false, false, false, false, false, false, false, false] (pp (fl v5 nn) (tt k1 (ww o1_0 (tt k0 nn))))))))) (fun k0 => (lr 60 3 [1, 1, 1, 1, 1, 1, 0] 1 3 [(4, (.dat v5.length (Zz v5)))] (sl Zj 15 [] ⟨[], [0], [some [4]], []⟩ ⟨[(4, .frz v5.length v5.length (Zz v5) (Zz v5))], [], []⟩ [false] (pp (xZ (y1y 4 4 0 v5.length v5.length (Zz v5)) v5.length (Zz v5)) (pp (xL v5.length v5.length) (pp (xS v5.length (Zz v5) (Zz v5)) (pp (fl v5 nn) (tt k0 nn)))))))))
theorem y6g (l0 : List R6) (x1 : Int) : Xt Tryz.prog (Zy Tryz.prog 116) (ratC l0 x1) (Zd Tryz.prog 116 [(.dat l0.length (Zz l0)), (.int .i64 x1)] true []) (z5s l0 x1) := (sl Zj 15 [(114, 4, Zz ([] : List R4))] ⟨[0], [], x9j, x9k⟩ ⟨[(5, .grow 0 4)], [], []⟩ [] (pp (fl ([] : List R4) nn) nn))
theorem x9i (l0 : List R6) (x1 : Int) (n : Nat) (vs : List AVal) (h : Yk (z1g l0 x1) n (z5s l0 x1) = .ret vs) : Kz Tryz.prog (Zy Tryz.prog 116) (Zd Tryz.prog 116 [(.dat l0.length (Zz l0)), (.int .i64 x1)] true []) vs := by
 have := Zr (x1i l0 x1) n _ (y6g l0 x1)
 rwa [h] at this
inductive eqaS where
 | h0 (v13 : Int)
def eqaC (l0 : List R2) (l1 : List R2) : eqaS → Cfg
 | .h0 v13 => ⟨⟨26, 0, true⟩, none, (Zi Tryz.prog 123 [1, 1, 0, 1, 0, 0] 0), none, (Zy Tryz.prog 3), ⟨Yo [(0, (.dat l0.length (Zz l0))), (1, (.dat l1.length (Zz l1))), (12, (ii (l0.length : Int))), (13, (ii v13))], Uz [] 0, 0, [], true⟩, [], .leaf⟩
def eqaN0 : List (Option (List Nat)) := [some [0, 1, 12, 13]]
def eqaM0 : List (Option (List Nat)) := []
def z1o (l0 : List R2) (l1 : List R2) : eqaS → Xg eqaS
 | .h0 v13 => (bif (decide (v13 < (l0.length : Int))) then (bif ((decide (0 ≤ v13 ∧ v13 < (l0.length : Int))) && true) then (bif ((decide (0 ≤ v13 ∧ v13 < (l1.length : Int))) && true) then (bif (!(((rd l0 v13.toNat).a == (rd l1 v13.toNat).a) && (((rd l0 v13.toNat).b == (rd l1 v13.toNat).b) && true))) then (.ret [(.bool false)]) else (.to (.h0 (IntKind.wrap .i64 (v13 + 1))))) else .stuck) else .stuck) else (.ret [(.bool true)]))
def z2v (l0 : List R2) (l1 : List R2) : Xg eqaS := (bif ((l0.length : Int) != (l1.length : Int)) then (.ret [(.bool false)]) else (.to (.h0 0)))
theorem x2e (l0 : List R2) (l1 : List R2) : ∀ s, Xt Tryz.prog (Zy Tryz.prog 123) (eqaC l0 l1) (eqaC l0 l1 s) (z1o l0 l1 s)
 | .h0 v13 => (lb (fun k0 => (lo fun o1_0 => (lo fun o1_1 => (lb (fun k1 => (lr 26 123 [1, 1, 0, 1, 0, 0, 1, 1, 0, 0, 1, 1, 0, 0] 1 3 [(4, (.bool false))] (sl Zj 21 [] ⟨[], [], [some [4]], []⟩ ⟨[], [], []⟩ [true, true] (tt k1 (ww o1_1 (ww o1_0 (tt k0 nn))))))) (fun k1 => (sl Zj 24 [] ⟨[], [], eqaN0, eqaM0⟩ ⟨[], [], []⟩ [true, false] (tt k1 (ww o1_1 (ww o1_0 (tt k0 nn)))))))))) (fun k0 => (lr 26 3 [1, 1, 1, 1, 1, 1, 0] 1 3 [(4, (.bool true))] (sl Zj 11 [] ⟨[], [], [some [4]], []⟩ ⟨[], [], []⟩ [false] (tt k0 nn)))))
theorem y7h (l0 : List R2) (l1 : List R2) : Xt Tryz.prog (Zy Tryz.prog 123) (eqaC l0 l1) (Zd Tryz.prog 123 [(.dat l0.length (Zz l0)), (.dat l1.length (Zz l1))] true []) (z2v l0 l1) := (lb (fun k0 => (lr 26 123 [1, 0, 1, 0, 0] 1 3 [(4, (.bool false))] (sl Zj 18 [] ⟨[], [], [some [4]], []⟩ ⟨[], [], []⟩ [true] (tt k0 nn)))) (fun k0 => (sl Zj 24 [] ⟨[], [], eqaN0, eqaM0⟩ ⟨[], [], []⟩ [false] (tt k0 nn))))
theorem w0y (l0 : List R2) (l1 : List R2) (n : Nat) (vs : List AVal) (h : Yk (z1o l0 l1) n (z2v l0 l1) = .ret vs) : Kz Tryz.prog (Zy Tryz.prog 123) (Zd Tryz.prog 123 [(.dat l0.length (Zz l0)), (.dat l1.length (Zz l1))] true []) vs := by
 have := Zr (x2e l0 l1) n _ (y7h l0 l1)
 rwa [h] at this
inductive eqbS where
 | h0 (v13 : Int)
def eqbC (l0 : List R4) (l1 : List R4) : eqbS → Cfg
 | .h0 v13 => ⟨⟨26, 0, true⟩, none, (Zi Tryz.prog 82 [1, 1, 0, 1, 0, 0] 0), none, (Zy Tryz.prog 3), ⟨Yo [(0, (.dat l0.length (Zz l0))), (1, (.dat l1.length (Zz l1))), (12, (ii (l0.length : Int))), (13, (ii v13))], Uz [] 0, 0, [], true⟩, [], .leaf⟩
def eqbN0 : List (Option (List Nat)) := [some [0, 1, 12, 13]]
def eqbM0 : List (Option (List Nat)) := []
def z1n (l0 : List R4) (l1 : List R4) : eqbS → Xg eqbS
 | .h0 v13 => (bif (decide (v13 < (l0.length : Int))) then (bif ((decide (0 ≤ v13 ∧ v13 < (l0.length : Int))) && true) then (bif ((decide (0 ≤ v13 ∧ v13 < (l1.length : Int))) && true) then (bif (!(((rd l0 v13.toNat).a == (rd l1 v13.toNat).a) && (((rd l0 v13.toNat).b == (rd l1 v13.toNat).b) && (((rd l0 v13.toNat).c == (rd l1 v13.toNat).c) && (((rd l0 v13.toNat).d == (rd l1 v13.toNat).d) && true))))) then (.ret [(.bool false)]) else (.to (.h0 (IntKind.wrap .i64 (v13 + 1))))) else .stuck) else .stuck) else (.ret [(.bool true)]))
def z2u (l0 : List R4) (l1 : List R4) : Xg eqbS := (bif ((l0.length : Int) != (l1.length : Int)) then (.ret [(.bool false)]) else (.to (.h0 0)))
theorem x2d (l0 : List R4) (l1 : List R4) : ∀ s, Xt Tryz.prog (Zy Tryz.prog 82) (eqbC l0 l1) (eqbC l0 l1 s) (z1n l0 l1 s)
 | .h0 v13 => (lb (fun k0 => (lo fun o1_0 => (lo fun o1_1 => (lb (fun k1 => (lr 26 82 [1, 1, 0, 1, 0, 0, 1, 1, 0, 0, 1, 1, 0, 0] 1 3 [(4, (.bool false))] (sl Zj 21 [] ⟨[], [], [some [4]], []⟩ ⟨[], [], []⟩ [true, true] (tt k1 (ww o1_1 (ww o1_0 (tt k0 nn))))))) (fun k1 => (sl Zj 24 [] ⟨[], [], eqbN0, eqbM0⟩ ⟨[], [], []⟩ [true, false] (tt k1 (ww o1_1 (ww o1_0 (tt k0 nn)))))))))) (fun k0 => (lr 26 3 [1, 1, 1, 1, 1, 1, 0] 1 3 [(4, (.bool true))] (sl Zj 11 [] ⟨[], [], [some [4]], []⟩ ⟨[], [], []⟩ [false] (tt k0 nn)))))
theorem y7g (l0 : List R4) (l1 : List R4) : Xt Tryz.prog (Zy Tryz.prog 82) (eqbC l0 l1) (Zd Tryz.prog 82 [(.dat l0.length (Zz l0)), (.dat l1.length (Zz l1))] true []) (z2u l0 l1) := (lb (fun k0 => (lr 26 82 [1, 0, 1, 0, 0] 1 3 [(4, (.bool false))] (sl Zj 18 [] ⟨[], [], [some [4]], []⟩ ⟨[], [], []⟩ [true] (tt k0 nn)))) (fun k0 => (sl Zj 24 [] ⟨[], [], eqbN0, eqbM0⟩ ⟨[], [], []⟩ [false] (tt k0 nn))))
theorem w0x (l0 : List R4) (l1 : List R4) (n : Nat) (vs : List AVal) (h : Yk (z1n l0 l1) n (z2u l0 l1) = .ret vs) : Kz Tryz.prog (Zy Tryz.prog 82) (Zd Tryz.prog 82 [(.dat l0.length (Zz l0)), (.dat l1.length (Zz l1))] true []) vs := by
 have := Zr (x2d l0 l1) n _ (y7g l0 l1)
 rwa [h] at this
inductive eqcS where
 | h0 (v13 : Int)
def eqcC (l0 : List R6) (l1 : List R6) : eqcS → Cfg
 | .h0 v13 => ⟨⟨26, 0, true⟩, none, (Zi Tryz.prog 109 [1, 1, 0, 1, 0, 0] 0), none, (Zy Tryz.prog 3), ⟨Yo [(0, (.dat l0.length (Zz l0))), (1, (.dat l1.length (Zz l1))), (12, (ii (l0.length : Int))), (13, (ii v13))], Uz [] 0, 0, [], true⟩, [], .leaf⟩
def eqcN0 : List (Option (List Nat)) := [some [0, 1, 12, 13]]
def eqcM0 : List (Option (List Nat)) := []
def z1m (l0 : List R6) (l1 : List R6) : eqcS → Xg eqcS
 | .h0 v13 => (bif (decide (v13 < (l0.length : Int))) then (bif ((decide (0 ≤ v13 ∧ v13 < (l0.length : Int))) && true) then (bif ((decide (0 ≤ v13 ∧ v13 < (l1.length : Int))) && true) then (bif (!((((rd l0 v13.toNat).a == (rd l1 v13.toNat).a) && (((rd l0 v13.toNat).b == (rd l1 v13.toNat).b) && (((rd l0 v13.toNat).c == (rd l1 v13.toNat).c) && true))) && ((((rd l0 v13.toNat).d == (rd l1 v13.toNat).d) && (((rd l0 v13.toNat).e == (rd l1 v13.toNat).e) && (((rd l0 v13.toNat).f == (rd l1 v13.toNat).f) && true))) && true))) then (.ret [(.bool false)]) else (.to (.h0 (IntKind.wrap .i64 (v13 + 1))))) else .stuck) else .stuck) else (.ret [(.bool true)]))
def z2t (l0 : List R6) (l1 : List R6) : Xg eqcS := (bif ((l0.length : Int) != (l1.length : Int)) then (.ret [(.bool false)]) else (.to (.h0 0)))
theorem x2c (l0 : List R6) (l1 : List R6) : ∀ s, Xt Tryz.prog (Zy Tryz.prog 109) (eqcC l0 l1) (eqcC l0 l1 s) (z1m l0 l1 s)
 | .h0 v13 => (lb (fun k0 => (lo fun o1_0 => (lo fun o1_1 => (lb (fun k1 => (lr 26 109 [1, 1, 0, 1, 0, 0, 1, 1, 0, 0, 1, 1, 0, 0] 1 3 [(4, (.bool false))] (sl Zj 21 [] ⟨[], [], [some [4]], []⟩ ⟨[], [], []⟩ [true, true] (tt k1 (ww o1_1 (ww o1_0 (tt k0 nn))))))) (fun k1 => (sl Zj 24 [] ⟨[], [], eqcN0, eqcM0⟩ ⟨[], [], []⟩ [true, false] (tt k1 (ww o1_1 (ww o1_0 (tt k0 nn)))))))))) (fun k0 => (lr 26 3 [1, 1, 1, 1, 1, 1, 0] 1 3 [(4, (.bool true))] (sl Zj 11 [] ⟨[], [], [some [4]], []⟩ ⟨[], [], []⟩ [false] (tt k0 nn)))))
theorem y7f (l0 : List R6) (l1 : List R6) : Xt Tryz.prog (Zy Tryz.prog 109) (eqcC l0 l1) (Zd Tryz.prog 109 [(.dat l0.length (Zz l0)), (.dat l1.length (Zz l1))] true []) (z2t l0 l1) := (lb (fun k0 => (lr 26 109 [1, 0, 1, 0, 0] 1 3 [(4, (.bool false))] (sl Zj 18 [] ⟨[], [], [some [4]], []⟩ ⟨[], [], []⟩ [true] (tt k0 nn)))) (fun k0 => (sl Zj 24 [] ⟨[], [], eqcN0, eqcM0⟩ ⟨[], [], []⟩ [false] (tt k0 nn))))
theorem w0w (l0 : List R6) (l1 : List R6) (n : Nat) (vs : List AVal) (h : Yk (z1m l0 l1) n (z2t l0 l1) = .ret vs) : Kz Tryz.prog (Zy Tryz.prog 109) (Zd Tryz.prog 109 [(.dat l0.length (Zz l0)), (.dat l1.length (Zz l1))] true []) vs := by
 have := Zr (x2c l0 l1) n _ (y7f l0 l1)
 rwa [h] at this
inductive holS where
def holC (x0 : Int) (x1 : Bool) (x2 : Bool) : holS → Cfg
 := nofun
def y6v (x0 : Int) (x1 : Bool) (x2 : Bool) : holS → Xg holS
 := nofun
def z5x (x0 : Int) (x1 : Bool) (x2 : Bool) : Xg holS := (bif (x0 == 1) then (bif x1 then (.ret [(.bool x2)]) else (.ret [(.bool false)])) else (bif (x0 == 2) then (bif x1 then (.ret [(.bool true)]) else (.ret [(.bool x2)])) else (bif x1 then (.ret [(.bool (!x2))]) else (.ret [(.bool false)]))))
theorem x1t (x0 : Int) (x1 : Bool) (x2 : Bool) : ∀ s, Xt Tryz.prog (Zy Tryz.prog 137) (holC x0 x1 x2) (holC x0 x1 x2 s) (y6v x0 x1 x2 s)
 := nofun
theorem y6w (x0 : Int) (x1 : Bool) (x2 : Bool) : Xt Tryz.prog (Zy Tryz.prog 137) (holC x0 x1 x2) (Zd Tryz.prog 137 [(.int .i64 x0), (.bool x1), (.bool x2)] true []) (z5x x0 x1 x2) := (lb (fun k0 => (lb (fun k1 => (lr 24 137 [1, 0, 1, 0, 0] 1 4 [(6, (.bool x2))] (sl Zj 19 [] ⟨[], [], [some [6]], []⟩ ⟨[], [], []⟩ [true, true] (tt k1 (tt k0 nn))))) (fun k1 => (lr 24 137 [1, 0, 1, 0, 0] 1 4 [(6, (.bool false))] (sl Zj 19 [] ⟨[], [], [some [6]], []⟩ ⟨[], [], []⟩ [true, false] (tt k1 (tt k0 nn))))))) (fun k0 => (lb (fun k1 => (lb (fun k2 => (lr 24 137 [1, 1, 0, 1, 0, 0] 1 4 [(6, (.bool true))] (sl Zj 27 [] ⟨[], [], [some [6]], []⟩ ⟨[], [], []⟩ [false, true, true] (tt k2 (tt k1 (tt k0 nn)))))) (fun k2 => (lr 24 137 [1, 1, 0, 1, 0, 0] 1 4 [(6, (.bool x2))] (sl Zj 27 [] ⟨[], [], [some [6]], []⟩ ⟨[], [], []⟩ [false, true, false] (tt k2 (tt k1 (tt k0 nn)))))))) (fun k1 => (lb (fun k2 => (lr 24 3 [1, 1, 1, 1, 1, 1, 0] 1 4 [(6, (.bool (!x2)))] (sl Zj 29 [] ⟨[], [], [some [6]], []⟩ ⟨[], [], []⟩ [false, false, true, true] (tt k2 (tt k1 (tt k0 nn)))))) (fun k2 => (lr 24 3 [1, 1, 1, 1, 1, 1, 0] 1 4 [(6, (.bool false))] (sl Zj 29 [] ⟨[], [], [some [6]], []⟩ ⟨[], [], []⟩ [false, false, false, false] (tt k2 (tt k1 (tt k0 nn)))))))))))
theorem w0i (x0 : Int) (x1 : Bool) (x2 : Bool) (n : Nat) (vs : List AVal) (h : Yk (y6v x0 x1 x2) n (z5x x0 x1 x2) = .ret vs) : Kz Tryz.prog (Zy Tryz.prog 137) (Zd Tryz.prog 137 [(.int .i64 x0), (.bool x1), (.bool x2)] true []) vs := by
 have := Zr (x1t x0 x1 x2) n _ (y6w x0 x1 x2)
 rwa [h] at this
inductive fstS where
def fstC (x0 : Bool) (x1 : Bool) : fstS → Cfg
 := nofun
def y6y (x0 : Bool) (x1 : Bool) : fstS → Xg fstS
 := nofun
def y1c (x0 : Bool) (x1 : Bool) : Xg fstS := (.ret [(.bool x0)])
theorem x1v (x0 : Bool) (x1 : Bool) : ∀ s, Xt Tryz.prog (Zy Tryz.prog 189) (fstC x0 x1) (fstC x0 x1 s) (y6y x0 x1 s)
 := nofun
theorem y6z (x0 : Bool) (x1 : Bool) : Xt Tryz.prog (Zy Tryz.prog 189) (fstC x0 x1) (Zd Tryz.prog 189 [(.bool x0), (.bool x1)] true []) (y1c x0 x1) := (lr 6 3 [1, 1, 1, 1, 1, 1, 0] 1 3 [(4, (.bool x0))] (sl Zj 9 [] ⟨[], [], [some [4]], []⟩ ⟨[], [], []⟩ [] nn))
theorem w0k (x0 : Bool) (x1 : Bool) (n : Nat) (vs : List AVal) (h : Yk (y6y x0 x1) n (y1c x0 x1) = .ret vs) : Kz Tryz.prog (Zy Tryz.prog 189) (Zd Tryz.prog 189 [(.bool x0), (.bool x1)] true []) vs := by
 have := Zr (x1v x0 x1) n _ (y6z x0 x1)
 rwa [h] at this
end Go.Am
namespace Go.Am
theorem Yy {a b : Int} (h : a < b) : decide (a < b) = true := decide_eq_true h
theorem Yv {a b : Int} (h : ¬ a < b) : decide (a < b) = false := decide_eq_false h
theorem Yt {a b : Int} (h : a ≤ b) : decide (a ≤ b) = true := decide_eq_true h
theorem dle_f {a b : Int} (h : ¬ a ≤ b) : decide (a ≤ b) = false := decide_eq_false h
theorem Yh {a b : Int} (h : a > b) : decide (a > b) = true := decide_eq_true h
theorem Xx {a b : Int} (h : ¬ a > b) : decide (a > b) = false := decide_eq_false h
theorem w1e {a b : Int} (h : a ≥ b) : decide (a ≥ b) = true := decide_eq_true h
theorem Ya {a b : Nat} (h : a < b) : decide (a < b) = true := decide_eq_true h
theorem Yj {a b : Nat} (h : a ≤ b) : decide (a ≤ b) = true := decide_eq_true h
theorem Yf {a b : Nat} (h : a = b) : decide (a = b) = true := decide_eq_true h
theorem Yx {a b : Int} (h : 0 ≤ a ∧ a < b) : decide (0 ≤ a ∧ a < b) = true := decide_eq_true h
theorem Yz {a : Nat} (h : a ≤ 1099511627776) : decide (a ≤ Ka) = true := decide_eq_true h
theorem Zq {n : Int} (h : -9223372036854775808 ≤ n ∧ n ≤ 9223372036854775807) : IntKind.wrap .i64 n = n := w_in h.1 h.2
theorem y1k : ((0 : Nat) : Int) = 0 := rfl
theorem Zw (i : Nat) : (i : Int) + 1 = ((i + 1 : Nat) : Int) := rfl
theorem Zb (i : Nat) : ((i + 1 : Nat) : Int) - 1 = (i : Int) := by omega
theorem Jx {a b : Int} (h : a ≠ b) : (a != b) = true := by simp [h]
theorem Jw {a b : Int} (h : a = b) : (a != b) = false := by simp [h]
theorem beq_t' {a b : Int} (h : a = b) : (a == b) = true := by simp [h]
theorem w4t {a b : Int} (h : a ≠ b) : (a == b) = false := by simp [h]
theorem Yi (n : Nat) : Nat.beq n n = true := Nat.beq_refl n
theorem Zk (n : Nat) : Int.toNat (n : Int) = n := Int.toNat_natCast n
theorem Yp (b : Bool) : b = true ∨ b = false := by cases b <;> simp
theorem Yd {α : Type} [Ye α] {L : List α} {i : Nat} (h : i < L.length) : L.drop i = rd L i :: L.drop (i + 1) := by
 rw [Xe h]; exact List.drop_eq_getElem_cons h
theorem z1t {P : Program} {S : Specs} (hS : Zu P S) {f : FuncId} {F : List AVal → Option (AVal × Bool)} (hf : (P.funcs[f]?).any (fun fn => fn.body.isSome) = true)
  (hF : ∀ args v, F args = some (v, true) → ∃ bs vs, Wz VLe args bs ∧ Ur vs = v ∧ Kz P (Zy P f) (Zd P f bs true []) vs ∧ ∃ d, pf d v = true) : Zu P (S.with f F) := x0b hS hf hF
end Go.Am
namespace Go.Am
open Go.Proofs
def y6h (out : List Int) (x : Int) : Nat → Nat
 | 0 => 0
 | k + 1 => bif decide (rd out k > x) then y6h out x k else k + 1
def z7i (out : List Int) (x : Int) : List Int :=
 match y6h out x out.length with
 | 0 => x :: out
 | k + 1 => bif rd out k == x then out else out.take (k + 1) ++ x :: out.drop (k + 1)
def Qk (l : List Int) : List Int := l.foldl z7i []
def Vr (l : List Int) : Bool := decide (l.length ≤ 100000)
theorem z7h (out : List Int) (x : Int) : (z7i out x).length ≤ out.length + 1 := by
 unfold z7i
 split
 ·simp
 ·rename_i k _
  cases (rd out k == x) <;> simp <;> omega
theorem y3p (out : List Int) (x : Int) (k : Nat) (hk : k ≤ out.length) :
  (z8o (out ++ [0]) (k + 1) (Nat.min (out.length + 1 - k) (out.length + 1 - (k + 1))) (Uo (out ++ [0]) k (out.length + 1 - k))).set k x = out.take k ++ x :: out.drop k := by
 have hm : Nat.min (out.length + 1 - k) (out.length + 1 - (k + 1)) = out.length - k := by
  show min _ _ = _
  omega
 rw [hm]
 apply List.ext_getElem
 ·simp [Ws]; omega
 ·intro i h1 h2
  have hi : i < out.length + 1 := by simpa [Ws] using h1
  rw [← Xe h1, ← Xe h2]
  rw [w3i (by simpa [Ws] using hi)]
  by_cases e : i = k
  ·subst e
   rw [if_pos rfl, Wa (by simp only [List.length_take]; omega), Xe (by simp; omega)]
   simp [Nat.min_eq_left hk]
  ·rw [if_neg e, x4v (by simpa using hi)]
   by_cases h : i < k
   ·rw [w1w (show ¬ k + 1 ≤ i by omega), Bool.false_and, cond_false, Wh (by omega), Wh (by simp; omega)]
    rw [Xe (by omega), Xe (by simp; omega), List.getElem_take]
   ·rw [x7f (show k + 1 ≤ i by omega), x7f (show i + 1 ≤ k + 1 + (out.length - k) by omega), Bool.true_and, cond_true, y0r (by omega), Wh (by omega)]
    rw [Wa (by simp; omega), Xe (by omega), Xe (by simp; omega)]
    obtain ⟨j, rfl⟩ : ∃ j, i = k + 1 + j := ⟨i - k - 1, by omega⟩
    simp only [List.length_take, Nat.min_eq_left hk]
    rw [List.getElem_cons, dif_neg (by omega), List.getElem_drop]
    congr 1
theorem y8q (l : List Int) (out : List Int) (i : Nat) (hi : i < l.length) (hl : l.length ≤ 100000) (ho : out.length ≤ i) : ∀ (k N : Nat), k ≤ out.length →
  (y6h out (rd l i) out.length = y6h out (rd l i) k) → ∃ m, ∀ N, Yk (Wv l) (N + m) (.to (.h1 out (i : Int) (k : Int))) = Yk (Wv l) N (.to (.h0 (z7i out (rd l i)) ((i + 1 : Nat) : Int)))
 | 0, N, hk, hp => by
  refine ⟨1, fun N => ?_⟩
  have hins : z7i out (rd l i) = (z8o (out ++ [0]) (0 + 1) (Nat.min (out.length + 1 - 0) (out.length + 1 - (0 + 1))) (Uo (out ++ [0]) 0 (out.length + 1 - 0))).set 0 (rd l i) := by
   rw [y3p out _ 0 (Nat.zero_le _)]
   unfold z7i
   rw [hp]; rfl
  rw [hins, Zv]
  simp (disch := omega) only [Wv, Yz, decide_true, Xx, Yy, Yt, Ya, Yj, Yf, Yx, Zq, Zw, Yi, Zk, Nat.zero_add, Bool.and_true, Bool.true_and, cond_true, cond_false]
 | k + 1, N, hk, hp => by
  rcases Yp (decide (rd out k > rd l i)) with h | h
  ·have hp' : y6h out (rd l i) out.length = y6h out (rd l i) k := by rw [hp]; conv => lhs; unfold y6h; rw [h, cond_true]
   obtain ⟨m, hm⟩ := y8q l out i hi hl ho k N (by omega) hp'
   refine ⟨m + 1, fun N => ?_⟩
   rw [← hm N, ← Nat.add_assoc, Zv]
   simp (disch := omega) only [Wv, Zb, h, Yz, decide_true, Yh, Yy, Yt, Ya, Yj, Yf, Yx, Zq, Zw, Yi, Zk, Nat.zero_add, Bool.and_true, Bool.true_and, cond_true, cond_false]
  ·have hpk : y6h out (rd l i) out.length = k + 1 := by rw [hp]; unfold y6h; rw [h]; rfl
   refine ⟨1, fun N => ?_⟩
   rw [Zv]
   rcases Yp (rd out k == rd l i) with q | q
   ·have hins : z7i out (rd l i) = out := by unfold z7i; rw [hpk]; simp only [q, cond_true]
    rw [hins]
    simp (disch := omega) only [Wv, Zb, h, q, Yz, decide_true, Yh, Yy, Yt, Ya, Yj, Yf, Yx, Zq, Zw, Yi, Zk, Nat.zero_add, Bool.and_true, Bool.true_and, cond_true, cond_false]
   ·have hins : z7i out (rd l i) = (z8o (out ++ [0]) (k + 1 + 1) (Nat.min (out.length + 1 - (k + 1)) (out.length + 1 - (k + 1 + 1))) (Uo (out ++ [0]) (k + 1) (out.length + 1 - (k + 1)))).set (k + 1) (rd l i) := by
     rw [y3p out _ (k + 1) hk]
     unfold z7i
     rw [hpk]; simp only [q, cond_false]
    rw [hins]
    simp (disch := omega) only [Wv, Zb, h, q, Yz, decide_true, Yh, Yy, Yt, Ya, Yj, Yf, Yx, Zq, Zw, Yi, Zk, Nat.zero_add, Bool.and_true, Bool.true_and, cond_true, cond_false]
theorem y8r (l : List Int) (hl : l.length ≤ 100000) : ∀ (k i : Nat) (out : List Int), i + k = l.length → out.length ≤ i → ∃ m, Yk (Wv l) m (.to (.h0 out (i : Int))) = .ret [.dat ((l.drop i).foldl z7i out).length (Zz ((l.drop i).foldl z7i out))]
 | 0, i, out, h, ho => by
  refine ⟨1, ?_⟩
  rw [Zv]
  simp (disch := omega) only [Wv, Yv, cond_false]
  rw [List.drop_eq_nil_of_le (by omega)]; rfl
 | k + 1, i, out, h, ho => by
  obtain ⟨m1, h1⟩ := y8q l out i (by omega) hl ho out.length 0 (Nat.le_refl _) rfl
  obtain ⟨m2, h2⟩ := y8r l hl k (i + 1) (z7i out (rd l i)) (by omega) (Nat.le_trans (z7h _ _) (by omega))
  refine ⟨m2 + m1 + 1, ?_⟩
  rw [Zv]
  simp (disch := omega) only [Wv, Yy, cond_true]
  rw [h1 m2, h2, Yd (show i < l.length by omega)]; rfl
theorem x4b (l : List Int) (h : Vr l = true) : ∃ N, Yk (Wv l) N (Qt l) = .ret [.dat (Qk l).length (Zz (Qk l))] := by
 have := y8r l (of_decide_eq_true h) l.length 0 [] (by omega) (Nat.le_refl _)
 simpa [Qt, Qk] using this
end Go.Am
namespace Go.Am
open Go.Proofs
theorem Za (n : Nat) : Int.toNat ((n : Int) - 1) = n - 1 := by omega
theorem x9n (x y : R2) : ((x.a == y.a) && (x.b == y.b)) = decide (x = y) := by
 obtain ⟨a, b⟩ := x; obtain ⟨c, d⟩ := y
 rw [Bool.eq_iff_iff]; simp
theorem x9m (x y : R4) : ((x.a == y.a) && ((x.b == y.b) && ((x.c == y.c) && (x.d == y.d)))) = decide (x = y) := by
 obtain ⟨a, b, c, d⟩ := x; obtain ⟨e, f, g, h⟩ := y
 rw [Bool.eq_iff_iff]; simp
theorem x9l (x y : R6) : (((x.a == y.a) && ((x.b == y.b) && (x.c == y.c))) && ((x.d == y.d) && ((x.e == y.e) && (x.f == y.f)))) = decide (x = y) := by
 obtain ⟨a, b, c, d, e, f⟩ := x; obtain ⟨a', b', c', d', e', f'⟩ := y
 rw [Bool.eq_iff_iff]; simp [and_assoc]
def Jg (l m : List R2) : Bool := decide (l = m)
def Jm (l m : List R4) : Bool := decide (l = m)
def Ux (l m : List R6) : Bool := decide (l = m)
def Wr (l m : List R2) : Bool := decide (l.length ≤ 1000000)
def Wo (l m : List R4) : Bool := decide (l.length ≤ 1000000)
def Wn (l m : List R6) : Bool := decide (l.length ≤ 1000000)
theorem z0l {α : Type} [DecidableEq α] (x y : α) (l m : List α) : decide (x :: l = y :: m) = (decide (x = y) && decide (l = m)) := by
 rw [← Bool.decide_and]; congr 1; simp
theorem w2t (l m : List R2) (hl : l.length ≤ 1000000) (hm : l.length = m.length) : ∀ (k i : Nat), i + k = l.length → ∃ N, Yk (z1e l m) N (.to (.h0 (i : Int))) = .ret [.bool (decide (l.drop i = m.drop i))]
 | 0, i, h => by
  refine ⟨1, ?_⟩
  rw [Zv, List.drop_eq_nil_of_le (show l.length ≤ i by omega), List.drop_eq_nil_of_le (show m.length ≤ i by omega)]
  simp (disch := omega) only [z1e, Xx, Yh, Yy, Yv, Yt, Ya, Yj, Yf, Yx, Zq, Yz, Jx, Jw, decide_true, Zw, Zb, Za, Yi, Zk, Nat.zero_add, Bool.and_true, Bool.true_and, cond_true, cond_false, Bool.not_true, Bool.not_false, Zm]
 | k + 1, i, h => by
  obtain ⟨N, hN⟩ := w2t l m hl hm k (i + 1) (by omega)
  refine ⟨N + 1, ?_⟩
  rw [Zv, Yd (show i < l.length by omega), Yd (show i < m.length by omega), z0l]
  rcases Yp (decide (rd l i = rd m i)) with q | q
  ·simp (disch := omega) only [z1e, x9n, q, Xx, Yh, Yy, Yv, Yt, Ya, Yj, Yf, Yx, Zq, Yz, Jx, Jw, decide_true, Zw, Zb, Za, Yi, Zk, Nat.zero_add, Bool.and_true, Bool.true_and, cond_true, cond_false, Bool.not_true, Bool.not_false, Zm]
   exact hN
  ·simp (disch := omega) only [z1e, x9n, q, Xx, Yh, Yy, Yv, Yt, Ya, Yj, Yf, Yx, Zq, Yz, Jx, Jw, decide_true, Zw, Zb, Za, Yi, Zk, Nat.zero_add, Bool.and_true, Bool.true_and, cond_true, cond_false, Bool.not_true, Bool.not_false, Zm, Bool.false_and]
theorem w5q (l m : List R2) (h : Wr l m = true) : ∃ N, Yk (z1e l m) N (z1z l m) = .ret [.bool (Jg l m)] := by
 have hl : l.length ≤ 1000000 := of_decide_eq_true h
 by_cases hm : l.length = m.length
 ·obtain ⟨N, hN⟩ := w2t l m hl hm l.length 0 (Nat.zero_add _)
  refine ⟨N, ?_⟩
  unfold z1z
  rw [Jw (show (l.length : Int) = (m.length : Nat) by omega)]
  exact hN
 ·refine ⟨0, ?_⟩
  unfold z1z
  rw [Jx (show (l.length : Int) ≠ (m.length : Nat) by omega)]
  have : Jg l m = false := decide_eq_false fun e => hm (by rw [e])
  rw [this]; rfl
theorem w2s (l m : List R4) (hl : l.length ≤ 1000000) (hm : l.length = m.length) : ∀ (k i : Nat), i + k = l.length → ∃ N, Yk (z1d l m) N (.to (.h0 (i : Int))) = .ret [.bool (decide (l.drop i = m.drop i))]
 | 0, i, h => by
  refine ⟨1, ?_⟩
  rw [Zv, List.drop_eq_nil_of_le (show l.length ≤ i by omega), List.drop_eq_nil_of_le (show m.length ≤ i by omega)]
  simp (disch := omega) only [z1d, Xx, Yh, Yy, Yv, Yt, Ya, Yj, Yf, Yx, Zq, Yz, Jx, Jw, decide_true, Zw, Zb, Za, Yi, Zk, Nat.zero_add, Bool.and_true, Bool.true_and, cond_true, cond_false, Bool.not_true, Bool.not_false, Zm]
 | k + 1, i, h => by
  obtain ⟨N, hN⟩ := w2s l m hl hm k (i + 1) (by omega)
  refine ⟨N + 1, ?_⟩
  rw [Zv, Yd (show i < l.length by omega), Yd (show i < m.length by omega), z0l]
  rcases Yp (decide (rd l i = rd m i)) with q | q
  ·simp (disch := omega) only [z1d, x9m, q, Xx, Yh, Yy, Yv, Yt, Ya, Yj, Yf, Yx, Zq, Yz, Jx, Jw, decide_true, Zw, Zb, Za, Yi, Zk, Nat.zero_add, Bool.and_true, Bool.true_and, cond_true, cond_false, Bool.not_true, Bool.not_false, Zm]
   exact hN
  ·simp (disch := omega) only [z1d, x9m, q, Xx, Yh, Yy, Yv, Yt, Ya, Yj, Yf, Yx, Zq, Yz, Jx, Jw, decide_true, Zw, Zb, Za, Yi, Zk, Nat.zero_add, Bool.and_true, Bool.true_and, cond_true, cond_false, Bool.not_true, Bool.not_false, Zm, Bool.false_and]
theorem w5p (l m : List R4) (h : Wo l m = true) : ∃ N, Yk (z1d l m) N (z1y l m) = .ret [.bool (Jm l m)] := by
 have hl : l.length ≤ 1000000 := of_decide_eq_true h
 by_cases hm : l.length = m.length
 ·obtain ⟨N, hN⟩ := w2s l m hl hm l.length 0 (Nat.zero_add _)
  refine ⟨N, ?_⟩
  unfold z1y
  rw [Jw (show (l.length : Int) = (m.length : Nat) by omega)]
  exact hN
 ·refine ⟨0, ?_⟩
  unfold z1y
  rw [Jx (show (l.length : Int) ≠ (m.length : Nat) by omega)]
  have : Jm l m = false := decide_eq_false fun e => hm (by rw [e])
  rw [this]; rfl
theorem w2u (l m : List R6) (hl : l.length ≤ 1000000) (hm : l.length = m.length) : ∀ (k i : Nat), i + k = l.length → ∃ N, Yk (z1f l m) N (.to (.h0 (i : Int))) = .ret [.bool (decide (l.drop i = m.drop i))]
 | 0, i, h => by
  refine ⟨1, ?_⟩
  rw [Zv, List.drop_eq_nil_of_le (show l.length ≤ i by omega), List.drop_eq_nil_of_le (show m.length ≤ i by omega)]
  simp (disch := omega) only [z1f, Xx, Yh, Yy, Yv, Yt, Ya, Yj, Yf, Yx, Zq, Yz, Jx, Jw, decide_true, Zw, Zb, Za, Yi, Zk, Nat.zero_add, Bool.and_true, Bool.true_and, cond_true, cond_false, Bool.not_true, Bool.not_false, Zm]
 | k + 1, i, h => by
  obtain ⟨N, hN⟩ := w2u l m hl hm k (i + 1) (by omega)
  refine ⟨N + 1, ?_⟩
  rw [Zv, Yd (show i < l.length by omega), Yd (show i < m.length by omega), z0l]
  rcases Yp (decide (rd l i = rd m i)) with q | q
  ·simp (disch := omega) only [z1f, x9l, q, Xx, Yh, Yy, Yv, Yt, Ya, Yj, Yf, Yx, Zq, Yz, Jx, Jw, decide_true, Zw, Zb, Za, Yi, Zk, Nat.zero_add, Bool.and_true, Bool.true_and, cond_true, cond_false, Bool.not_true, Bool.not_false, Zm]
   exact hN
  ·simp (disch := omega) only [z1f, x9l, q, Xx, Yh, Yy, Yv, Yt, Ya, Yj, Yf, Yx, Zq, Yz, Jx, Jw, decide_true, Zw, Zb, Za, Yi, Zk, Nat.zero_add, Bool.and_true, Bool.true_and, cond_true, cond_false, Bool.not_true, Bool.not_false, Zm, Bool.false_and]
theorem w5r (l m : List R6) (h : Wn l m = true) : ∃ N, Yk (z1f l m) N (z2a l m) = .ret [.bool (Ux l m)] := by
 have hl : l.length ≤ 1000000 := of_decide_eq_true h
 by_cases hm : l.length = m.length
 ·obtain ⟨N, hN⟩ := w2u l m hl hm l.length 0 (Nat.zero_add _)
  refine ⟨N, ?_⟩
  unfold z2a
  rw [Jw (show (l.length : Int) = (m.length : Nat) by omega)]
  exact hN
 ·refine ⟨0, ?_⟩
  unfold z2a
  rw [Jx (show (l.length : Int) ≠ (m.length : Nat) by omega)]
  have : Ux l m = false := decide_eq_false fun e => hm (by rw [e])
  rw [this]; rfl
theorem w4k (l m : List R2) (hl : l.length ≤ 1000000) (hm : l.length = m.length) : ∀ (k i : Nat), i + k = l.length → ∃ N, Yk (z1o l m) N (.to (.h0 (i : Int))) = .ret [.bool (decide (l.drop i = m.drop i))]
 | 0, i, h => by
  refine ⟨1, ?_⟩
  rw [Zv, List.drop_eq_nil_of_le (show l.length ≤ i by omega), List.drop_eq_nil_of_le (show m.length ≤ i by omega)]
  simp (disch := omega) only [z1o, Xx, Yh, Yy, Yv, Yt, Ya, Yj, Yf, Yx, Zq, Yz, Jx, Jw, decide_true, Zw, Zb, Za, Yi, Zk, Nat.zero_add, Bool.and_true, Bool.true_and, cond_true, cond_false, Bool.not_true, Bool.not_false, Zm]
 | k + 1, i, h => by
  obtain ⟨N, hN⟩ := w4k l m hl hm k (i + 1) (by omega)
  refine ⟨N + 1, ?_⟩
  rw [Zv, Yd (show i < l.length by omega), Yd (show i < m.length by omega), z0l]
  rcases Yp (decide (rd l i = rd m i)) with q | q
  ·simp (disch := omega) only [z1o, x9n, q, Xx, Yh, Yy, Yv, Yt, Ya, Yj, Yf, Yx, Zq, Yz, Jx, Jw, decide_true, Zw, Zb, Za, Yi, Zk, Nat.zero_add, Bool.and_true, Bool.true_and, cond_true, cond_false, Bool.not_true, Bool.not_false, Zm]
   exact hN
  ·simp (disch := omega) only [z1o, x9n, q, Xx, Yh, Yy, Yv, Yt, Ya, Yj, Yf, Yx, Zq, Yz, Jx, Jw, decide_true, Zw, Zb, Za, Yi, Zk, Nat.zero_add, Bool.and_true, Bool.true_and, cond_true, cond_false, Bool.not_true, Bool.not_false, Zm, Bool.false_and]
theorem w8h (l m : List R2) (h : Wr l m = true) : ∃ N, Yk (z1o l m) N (z2v l m) = .ret [.bool (Jg l m)] := by
 have hl : l.length ≤ 1000000 := of_decide_eq_true h
 by_cases hm : l.length = m.length
 ·obtain ⟨N, hN⟩ := w4k l m hl hm l.length 0 (Nat.zero_add _)
  refine ⟨N, ?_⟩
  unfold z2v
  rw [Jw (show (l.length : Int) = (m.length : Nat) by omega)]
  exact hN
 ·refine ⟨0, ?_⟩
  unfold z2v
  rw [Jx (show (l.length : Int) ≠ (m.length : Nat) by omega)]
  have : Jg l m = false := decide_eq_false fun e => hm (by rw [e])
  rw [this]; rfl
theorem w4j (l m : List R4) (hl : l.length ≤ 1000000) (hm : l.length = m.length) : ∀ (k i : Nat), i + k = l.length → ∃ N, Yk (z1n l m) N (.to (.h0 (i : Int))) = .ret [.bool (decide (l.drop i = m.drop i))]
 | 0, i, h => by
  refine ⟨1, ?_⟩
  rw [Zv, List.drop_eq_nil_of_le (show l.length ≤ i by omega), List.drop_eq_nil_of_le (show m.length ≤ i by omega)]
  simp (disch := omega) only [z1n, Xx, Yh, Yy, Yv, Yt, Ya, Yj, Yf, Yx, Zq, Yz, Jx, Jw, decide_true, Zw, Zb, Za, Yi, Zk, Nat.zero_add, Bool.and_true, Bool.true_and, cond_true, cond_false, Bool.not_true, Bool.not_false, Zm]
 | k + 1, i, h => by
  obtain ⟨N, hN⟩ := w4j l m hl hm k (i + 1) (by omega)
  refine ⟨N + 1, ?_⟩
  rw [Zv, Yd (show i < l.length by omega), Yd (show i < m.length by omega), z0l]
  rcases Yp (decide (rd l i = rd m i)) with q | q
  ·simp (disch := omega) only [z1n, x9m, q, Xx, Yh, Yy, Yv, Yt, Ya, Yj, Yf, Yx, Zq, Yz, Jx, Jw, decide_true, Zw, Zb, Za, Yi, Zk, Nat.zero_add, Bool.and_true, Bool.true_and, cond_true, cond_false, Bool.not_true, Bool.not_false, Zm]
   exact hN
  ·simp (disch := omega) only [z1n, x9m, q, Xx, Yh, Yy, Yv, Yt, Ya, Yj, Yf, Yx, Zq, Yz, Jx, Jw, decide_true, Zw, Zb, Za, Yi, Zk, Nat.zero_add, Bool.and_true, Bool.true_and, cond_true, cond_false, Bool.not_true, Bool.not_false, Zm, Bool.false_and]
theorem w8g (l m : List R4) (h : Wo l m = true) : ∃ N, Yk (z1n l m) N (z2u l m) = .ret [.bool (Jm l m)] := by
 have hl : l.length ≤ 1000000 := of_decide_eq_true h
 by_cases hm : l.length = m.length
 ·obtain ⟨N, hN⟩ := w4j l m hl hm l.length 0 (Nat.zero_add _)
  refine ⟨N, ?_⟩
  unfold z2u
  rw [Jw (show (l.length : Int) = (m.length : Nat) by omega)]
  exact hN
 ·refine ⟨0, ?_⟩
  unfold z2u
  rw [Jx (show (l.length : Int) ≠ (m.length : Nat) by omega)]
  have : Jm l m = false := decide_eq_false fun e => hm (by rw [e])
  rw [this]; rfl
theorem w4i (l m : List R6) (hl : l.length ≤ 1000000) (hm : l.length = m.length) : ∀ (k i : Nat), i + k = l.length → ∃ N, Yk (z1m l m) N (.to (.h0 (i : Int))) = .ret [.bool (decide (l.drop i = m.drop i))]
 | 0, i, h => by
  refine ⟨1, ?_⟩
  rw [Zv, List.drop_eq_nil_of_le (show l.length ≤ i by omega), List.drop_eq_nil_of_le (show m.length ≤ i by omega)]
  simp (disch := omega) only [z1m, Xx, Yh, Yy, Yv, Yt, Ya, Yj, Yf, Yx, Zq, Yz, Jx, Jw, decide_true, Zw, Zb, Za, Yi, Zk, Nat.zero_add, Bool.and_true, Bool.true_and, cond_true, cond_false, Bool.not_true, Bool.not_false, Zm]
 | k + 1, i, h => by
  obtain ⟨N, hN⟩ := w4i l m hl hm k (i + 1) (by omega)
  refine ⟨N + 1, ?_⟩
  rw [Zv, Yd (show i < l.length by omega), Yd (show i < m.length by omega), z0l]
  rcases Yp (decide (rd l i = rd m i)) with q | q
  ·simp (disch := omega) only [z1m, x9l, q, Xx, Yh, Yy, Yv, Yt, Ya, Yj, Yf, Yx, Zq, Yz, Jx, Jw, decide_true, Zw, Zb, Za, Yi, Zk, Nat.zero_add, Bool.and_true, Bool.true_and, cond_true, cond_false, Bool.not_true, Bool.not_false, Zm]
   exact hN
  ·simp (disch := omega) only [z1m, x9l, q, Xx, Yh, Yy, Yv, Yt, Ya, Yj, Yf, Yx, Zq, Yz, Jx, Jw, decide_true, Zw, Zb, Za, Yi, Zk, Nat.zero_add, Bool.and_true, Bool.true_and, cond_true, cond_false, Bool.not_true, Bool.not_false, Zm, Bool.false_and]
theorem w8f (l m : List R6) (h : Wn l m = true) : ∃ N, Yk (z1m l m) N (z2t l m) = .ret [.bool (Ux l m)] := by
 have hl : l.length ≤ 1000000 := of_decide_eq_true h
 by_cases hm : l.length = m.length
 ·obtain ⟨N, hN⟩ := w4i l m hl hm l.length 0 (Nat.zero_add _)
  refine ⟨N, ?_⟩
  unfold z2t
  rw [Jw (show (l.length : Int) = (m.length : Nat) by omega)]
  exact hN
 ·refine ⟨0, ?_⟩
  unfold z2t
  rw [Jx (show (l.length : Int) ≠ (m.length : Nat) by omega)]
  have : Ux l m = false := decide_eq_false fun e => hm (by rw [e])
  rw [this]; rfl
def in4 (x y : Int) (r : R4) : Bool := decide (r.a ≤ x) && (decide (x < r.c) && (decide (r.b ≤ y) && decide (y < r.d)))
def has4V (l : List R4) (x y : Int) : Bool := l.any (in4 x y)
def Ud (l : List R4) (x y : Int) : Bool := decide (l.length ≤ 1000000)
theorem x4p (l : List R4) (x y : Int) (hl : l.length ≤ 1000000) : ∀ (k i : Nat), i + k = l.length → ∃ N, Yk (z0c l x y) N (.to (.h0 (i : Int))) = .ret [.bool ((l.drop i).any (in4 x y))]
 | 0, i, h => by
  refine ⟨1, ?_⟩
  rw [Zv, List.drop_eq_nil_of_le (show l.length ≤ i by omega)]
  simp (disch := omega) only [z0c, Xx, Yh, Yy, Yv, Yt, Ya, Yj, Yf, Yx, Zq, Yz, Jx, Jw, decide_true, Zw, Zb, Za, Yi, Zk, Nat.zero_add, Bool.and_true, Bool.true_and, cond_true, cond_false, Bool.not_true, Bool.not_false, Zm]
  rfl
 | k + 1, i, h => by
  obtain ⟨N, hN⟩ := x4p l x y hl k (i + 1) (by omega)
  refine ⟨N + 1, ?_⟩
  rw [Zv, Yd (show i < l.length by omega), List.any_cons]
  unfold in4 at hN ⊢
  rcases Yp (decide ((rd l i).a ≤ x)) with q1 | q1 <;> rcases Yp (decide (x < (rd l i).c)) with q2 | q2 <;> rcases Yp (decide ((rd l i).b ≤ y)) with q3 | q3 <;> rcases Yp (decide (y < (rd l i).d)) with q4 | q4 <;>
   simp (disch := omega) only [z0c, q1, q2, q3, q4, Xx, Yh, Yy, Yv, Yt, Ya, Yj, Yf, Yx, Zq, Yz, Jx, Jw, decide_true, Zw, Zb, Za, Yi, Zk, Nat.zero_add, Bool.and_true, Bool.true_and, cond_true, cond_false, Bool.not_true, Bool.not_false, Zm, Bool.false_and, Bool.and_false, Bool.false_or, Bool.true_or] <;> exact hN
theorem x8x (l : List R4) (x y : Int) (h : Ud l x y = true) : ∃ N, Yk (z0c l x y) N (z2f l x y) = .ret [.bool (has4V l x y)] := by
 have := x4p l x y (of_decide_eq_true h) l.length 0 (Nat.zero_add _)
 simpa [z2f, has4V] using this
def on6 (z : Int) (b : R6) : Bool := decide (b.c ≤ z) && decide (z < b.f)
def w7j (b : R6) : R4 := ⟨b.a, b.b, b.d, b.e⟩
def atV (l : List R6) (z : Int) : List R4 := (l.filter (on6 z)).map w7j
def z0o (l : List R6) (z : Int) : Bool := decide (l.length ≤ 1000000)
theorem x5h (l : List R6) (z : Int) (hl : l.length ≤ 1000000) : ∀ (k i : Nat) (out : List R4), i + k = l.length → out.length ≤ i → ∃ N, Yk (z1g l z) N (.to (.h0 out (i : Int))) = .ret [.dat (out ++ atV (l.drop i) z).length (Zz (out ++ atV (l.drop i) z))]
 | 0, i, out, h, ho => by
  refine ⟨1, ?_⟩
  rw [Zv, List.drop_eq_nil_of_le (show l.length ≤ i by omega)]
  simp (disch := omega) only [z1g, Xx, Yh, Yy, Yv, Yt, Ya, Yj, Yf, Yx, Zq, Yz, Jx, Jw, decide_true, Zw, Zb, Za, Yi, Zk, Nat.zero_add, Bool.and_true, Bool.true_and, cond_true, cond_false, Bool.not_true, Bool.not_false, Zm, atV, List.filter_nil, List.map_nil, List.append_nil]
 | k + 1, i, out, h, ho => by
  rw [Yd (show i < l.length by omega)]
  have e : atV (rd l i :: l.drop (i + 1)) z = (bif on6 z (rd l i) then [w7j (rd l i)] else []) ++ atV (l.drop (i + 1)) z := by
   unfold atV; rw [List.filter_cons]; cases on6 z (rd l i) <;> rfl
  rw [e, ← List.append_assoc]
  rcases Yp (decide ((rd l i).c ≤ z)) with q1 | q1 <;> rcases Yp (decide (z < (rd l i).f)) with q2 | q2
  ·obtain ⟨N, hN⟩ := x5h l z hl k (i + 1) (out ++ [w7j (rd l i)]) (by omega) (by simp; omega)
   refine ⟨N + 1, ?_⟩
   rw [Zv]
   simp (disch := omega) only [z1g, q1, q2, on6, Xx, Yh, Yy, Yv, Yt, Ya, Yj, Yf, Yx, Zq, Yz, Jx, Jw, decide_true, Zw, Zb, Za, Yi, Zk, Nat.zero_add, Bool.and_true, Bool.true_and, cond_true, cond_false, Bool.not_true, Bool.not_false, Zm]
   exact hN
  all_goals
   obtain ⟨N, hN⟩ := x5h l z hl k (i + 1) out (by omega) (by omega)
   refine ⟨N + 1, ?_⟩
   rw [Zv]
   simp (disch := omega) only [z1g, q1, q2, on6, Xx, Yh, Yy, Yv, Yt, Ya, Yj, Yf, Yx, Zq, Yz, Jx, Jw, decide_true, Zw, Zb, Za, Yi, Zk, Nat.zero_add, Bool.and_true, Bool.true_and, cond_true, cond_false, Bool.not_true, Bool.not_false, Zm, Bool.false_and, Bool.and_false, List.append_nil]
   exact hN
theorem w6m (l : List R6) (z : Int) (h : z0o l z = true) : ∃ N, Yk (z1g l z) N (z5s l z) = .ret [.dat (atV l z).length (Zz (atV l z))] := by
 have := x5h l z (of_decide_eq_true h) l.length 0 [] (Nat.zero_add _) (Nat.le_refl _)
 simpa [z5s] using this
def x3d (cuts : List Int) (ins : List Bool) : Nat → Nat → List R2 → List R2
 | 0, _, out => out
 | k + 1, i, out => x3d cuts ins k (i + 1) (bif rd ins i then (bif decide (0 < out.length) && ((rd out (out.length - 1)).b == rd cuts i) then out.set (out.length - 1) ⟨(rd out (out.length - 1)).a, rd cuts (i + 1)⟩ else out ++ [⟨rd cuts i, rd cuts (i + 1)⟩]) else out)
def z4w (cuts : List Int) (ins : List Bool) : List R2 := x3d cuts ins (cuts.length - 1) 0 []
def z3f (cuts : List Int) (ins : List Bool) : Bool := decide (cuts.length ≤ 1000000 ∧ cuts.length ≤ ins.length + 1)
theorem y0t (cuts : List Int) (ins : List Bool) (hl : cuts.length ≤ 1000000) (hi : cuts.length ≤ ins.length + 1) : ∀ (k i : Nat) (out : List R2), k = cuts.length - 1 - i → i ≤ cuts.length → out.length ≤ i → ∃ N, Yk (Uj cuts ins) N (.to (.h0 out (i : Int))) = .ret [.dat (x3d cuts ins k i out).length (Zz (x3d cuts ins k i out))]
 | 0, i, out, h, hi2, ho => by
  refine ⟨1, ?_⟩
  rw [Zv]
  simp (disch := omega) only [Uj, Xx, Yh, Yy, Yv, Yt, Ya, Yj, Yf, Yx, Zq, Yz, Jx, Jw, decide_true, Zw, Zb, Za, Yi, Zk, Nat.zero_add, Bool.and_true, Bool.true_and, cond_true, cond_false, Bool.not_true, Bool.not_false, Zm, x3d]
 | k + 1, i, out, h, hi2, ho => by
  unfold x3d
  rcases Yp (rd ins i) with q | q
  ·rcases Yp (decide (0 < out.length) && ((rd out (out.length - 1)).b == rd cuts i)) with q2 | q2
   ·obtain ⟨N, hN⟩ := y0t cuts ins hl hi k (i + 1) (out.set (out.length - 1) ⟨(rd out (out.length - 1)).a, rd cuts (i + 1)⟩) (by omega) (by omega) (by simp; omega)
    refine ⟨N + 1, ?_⟩
    rw [Zv, q, q2]
    simp only [Bool.and_eq_true, decide_eq_true_eq] at q2
    simp (disch := omega) only [Uj, q, q2.2, Xx, Yh, Yy, Yv, Yt, Ya, Yj, Yf, Yx, Zq, Yz, Jx, Jw, decide_true, Zw, Zb, Za, Yi, Zk, Nat.zero_add, Bool.and_true, Bool.true_and, cond_true, cond_false, Bool.not_true, Bool.not_false, Zm]
    exact hN
   ·obtain ⟨N, hN⟩ := y0t cuts ins hl hi k (i + 1) (out ++ [⟨rd cuts i, rd cuts (i + 1)⟩]) (by omega) (by omega) (by simp; omega)
    refine ⟨N + 1, ?_⟩
    rw [Zv, q, q2]
    by_cases h0 : 0 < out.length
    ·rw [decide_eq_true h0, Bool.true_and] at q2
     simp (disch := omega) only [Uj, q, q2, Xx, Yh, Yy, Yv, Yt, Ya, Yj, Yf, Yx, Zq, Yz, Jx, Jw, decide_true, Zw, Zb, Za, Yi, Zk, Nat.zero_add, Bool.and_true, Bool.true_and, cond_true, cond_false, Bool.not_true, Bool.not_false, Zm]
     exact hN
    ·simp (disch := omega) only [Uj, q, Xx, Yh, Yy, Yv, Yt, Ya, Yj, Yf, Yx, Zq, Yz, Jx, Jw, decide_true, Zw, Zb, Za, Yi, Zk, Nat.zero_add, Bool.and_true, Bool.true_and, cond_true, cond_false, Bool.not_true, Bool.not_false, Zm]
     exact hN
  ·obtain ⟨N, hN⟩ := y0t cuts ins hl hi k (i + 1) out (by omega) (by omega) (by omega)
   refine ⟨N + 1, ?_⟩
   rw [Zv, q]
   simp (disch := omega) only [Uj, q, Xx, Yh, Yy, Yv, Yt, Ya, Yj, Yf, Yx, Zq, Yz, Jx, Jw, decide_true, Zw, Zb, Za, Yi, Zk, Nat.zero_add, Bool.and_true, Bool.true_and, cond_true, cond_false, Bool.not_true, Bool.not_false, Zm]
   exact hN
theorem x9h (cuts : List Int) (ins : List Bool) (h : z3f cuts ins = true) : ∃ N, Yk (Uj cuts ins) N (z2m cuts ins) = .ret [.dat (z4w cuts ins).length (Zz (z4w cuts ins))] := by
 obtain ⟨h1, h2⟩ := of_decide_eq_true h
 have := y0t cuts ins h1 h2 (cuts.length - 1) 0 [] (by omega) (Nat.zero_le _) (Nat.le_refl _)
 simpa [z2m, z4w] using this
end Go.Am
namespace Go.Am
abbrev x5r : Nat := 133
abbrev w4a : Nat := 139
abbrev w3v : Nat := 140
abbrev w3y : Nat := 137
abbrev nHas4 : Nat := 138
abbrev w3u : Nat := 117
abbrev nXs : Nat := 135
abbrev nYs : Nat := 136
abbrev w3x : Nat := 115
abbrev w3t : Nat := 40
abbrev nAt : Nat := 116
abbrev nCuts : Nat := 114
abbrev w3w : Nat := 79
abbrev x5t : Nat := 64
abbrev nEq2 : Nat := 123
abbrev nEq4 : Nat := 82
abbrev nEq6 : Nat := 109
abbrev w3s : Nat := 192
abbrev y9f : Nat := 193
abbrev nSort : Nat := 119
abbrev y9h : Nat := 120
abbrev nFst : Nat := 189
abbrev y3b : Nat := 174
abbrev y9d : Nat := 130
abbrev x5s : Nat := 154
abbrev y9c : Nat := 153
abbrev y9b : Nat := 107
-- not there: gambrel/solid.contact
abbrev y3c : Nat := 72
abbrev z5t : Nat := 95
abbrev y9g : Nat := 57
abbrev x5x : Nat := 16
abbrev w3z : Nat := 18
abbrev x5v : Nat := 49
abbrev y3d : Nat := 59
abbrev y9e : Nat := 17
abbrev x5w : Nat := 19
abbrev x5u : Nat := 15
end Go.Am
namespace Go.Am
open Go.Proofs
def Ji (k : Int) (a b : Bool) : Bool := bif k == 1 then a && b else bif k == 2 then a || b else a && !b
def y9s (a b : Bool) : Bool := a
theorem w7e (k : Int) (a b : Bool) : ∃ N, Yk (y6v k a b) N (z5x k a b) = .ret [.bool (Ji k a b)] := by
 refine ⟨0, ?_⟩
 unfold z5x Ji
 cases a <;> cases b <;> rcases Yp (k == 1) with q | q <;> rcases Yp (k == 2) with q2 | q2 <;> rw [q] <;> (try rw [q2]) <;> rfl
theorem w7g (a b : Bool) : ∃ N, Yk (y6y a b) N (y1c a b) = .ret [.bool (y9s a b)] := ⟨0, rfl⟩
def fSrt : List AVal → Option (AVal × Bool)
 | [a0] => match asL Int a0 with
  | some (L0, g0, n0) => some (.dat (Qk L0).length (Zz (Qk L0)), isT Int n0 g0 && (Vr L0))
  | _ => none
 | _ => none
theorem w7m {S : Specs} (hS : Zu Tryz.prog S) : Zu Tryz.prog (S.with x5r fSrt) := by
 refine z1t hS (by kernel_rfl) fun args v h => ?_
 unfold fSrt at h
 split at h
 ·rename_i a0
  split at h
  ·rename_i L0 g0 n0 e0
   simp only [Option.some.injEq, Prod.mk.injEq, Bool.and_eq_true] at h
   obtain ⟨rfl, ho0, hw⟩ := h
   obtain ⟨N, hN⟩ := x4b L0 hw
   exact ⟨_, _, (.cons (asL_le e0 ho0) .nil), rfl, x0v L0 N _ hN, 3, rfl⟩
  ·cases h
 ·cases h
def fCan : List AVal → Option (AVal × Bool)
 | [a0, a1] => match asL Int a0, asL Bool a1 with
  | some (L0, g0, n0), some (L1, g1, n1) => some (.dat (z4w L0 L1).length (Zz (z4w L0 L1)), isT Int n0 g0 && (isT Bool n1 g1 && (z3f L0 L1)))
  | _, _ => none
 | _ => none
theorem w8e {S : Specs} (hS : Zu Tryz.prog S) : Zu Tryz.prog (S.with w4a fCan) := by
 refine z1t hS (by kernel_rfl) fun args v h => ?_
 unfold fCan at h
 split at h
 ·rename_i a0 a1
  split at h
  ·rename_i L0 g0 n0 L1 g1 n1 e0 e1
   simp only [Option.some.injEq, Prod.mk.injEq, Bool.and_eq_true] at h
   obtain ⟨rfl, ho0, ho1, hw⟩ := h
   obtain ⟨N, hN⟩ := x9h L0 L1 hw
   exact ⟨_, _, (.cons (asL_le e0 ho0) (.cons (asL_le e1 ho1) .nil)), rfl, x5g L0 L1 N _ hN, 3, rfl⟩
  ·cases h
 ·cases h
def z9r : List AVal → Option (AVal × Bool)
 | [a0, a1] => match asL R2 a0, asL R2 a1 with
  | some (L0, g0, n0), some (L1, g1, n1) => some (.bool (Jg L0 L1), isT R2 n0 g0 && (isT R2 n1 g1 && (Wr L0 L1)))
  | _, _ => none
 | _ => none
theorem x6s {S : Specs} (hS : Zu Tryz.prog S) : Zu Tryz.prog (S.with w3v z9r) := by
 refine z1t hS (by kernel_rfl) fun args v h => ?_
 unfold z9r at h
 split at h
 ·rename_i a0 a1
  split at h
  ·rename_i L0 g0 n0 L1 g1 n1 e0 e1
   simp only [Option.some.injEq, Prod.mk.injEq, Bool.and_eq_true] at h
   obtain ⟨rfl, ho0, ho1, hw⟩ := h
   obtain ⟨N, hN⟩ := w5q L0 L1 hw
   exact ⟨_, _, (.cons (asL_le e0 ho0) (.cons (asL_le e1 ho1) .nil)), rfl, x8p L0 L1 N _ hN, 3, rfl⟩
  ·cases h
 ·cases h
def z9q : List AVal → Option (AVal × Bool)
 | [a0, a1] => match asL R4 a0, asL R4 a1 with
  | some (L0, g0, n0), some (L1, g1, n1) => some (.bool (Jm L0 L1), isT R4 n0 g0 && (isT R4 n1 g1 && (Wo L0 L1)))
  | _, _ => none
 | _ => none
theorem x6r {S : Specs} (hS : Zu Tryz.prog S) : Zu Tryz.prog (S.with w3u z9q) := by
 refine z1t hS (by kernel_rfl) fun args v h => ?_
 unfold z9q at h
 split at h
 ·rename_i a0 a1
  split at h
  ·rename_i L0 g0 n0 L1 g1 n1 e0 e1
   simp only [Option.some.injEq, Prod.mk.injEq, Bool.and_eq_true] at h
   obtain ⟨rfl, ho0, ho1, hw⟩ := h
   obtain ⟨N, hN⟩ := w5p L0 L1 hw
   exact ⟨_, _, (.cons (asL_le e0 ho0) (.cons (asL_le e1 ho1) .nil)), rfl, x8o L0 L1 N _ hN, 3, rfl⟩
  ·cases h
 ·cases h
def z9p : List AVal → Option (AVal × Bool)
 | [a0, a1] => match asL R6 a0, asL R6 a1 with
  | some (L0, g0, n0), some (L1, g1, n1) => some (.bool (Ux L0 L1), isT R6 n0 g0 && (isT R6 n1 g1 && (Wn L0 L1)))
  | _, _ => none
 | _ => none
theorem x6q {S : Specs} (hS : Zu Tryz.prog S) : Zu Tryz.prog (S.with w3t z9p) := by
 refine z1t hS (by kernel_rfl) fun args v h => ?_
 unfold z9p at h
 split at h
 ·rename_i a0 a1
  split at h
  ·rename_i L0 g0 n0 L1 g1 n1 e0 e1
   simp only [Option.some.injEq, Prod.mk.injEq, Bool.and_eq_true] at h
   obtain ⟨rfl, ho0, ho1, hw⟩ := h
   obtain ⟨N, hN⟩ := w5r L0 L1 hw
   exact ⟨_, _, (.cons (asL_le e0 ho0) (.cons (asL_le e1 ho1) .nil)), rfl, x8q L0 L1 N _ hN, 3, rfl⟩
  ·cases h
 ·cases h
def w7x : List AVal → Option (AVal × Bool)
 | [a0, .int .i64 x1, .int .i64 x2] => match asL R4 a0 with
  | some (L0, g0, n0) => some (.bool (has4V L0 x1 x2), isT R4 n0 g0 && (Ud L0 x1 x2))
  | _ => none
 | _ => none
theorem w0s {S : Specs} (hS : Zu Tryz.prog S) : Zu Tryz.prog (S.with nHas4 w7x) := by
 refine z1t hS (by kernel_rfl) fun args v h => ?_
 unfold w7x at h
 split at h
 ·rename_i a0 x1 x2
  split at h
  ·rename_i L0 g0 n0 e0
   simp only [Option.some.injEq, Prod.mk.injEq, Bool.and_eq_true] at h
   obtain ⟨rfl, ho0, hw⟩ := h
   obtain ⟨N, hN⟩ := x8x L0 x1 x2 hw
   exact ⟨_, _, (.cons (asL_le e0 ho0) (.cons (.refl _) (.cons (.refl _) .nil))), rfl, x4q L0 x1 x2 N _ hN, 3, rfl⟩
  ·cases h
 ·cases h
def fAt : List AVal → Option (AVal × Bool)
 | [a0, .int .i64 x1] => match asL R6 a0 with
  | some (L0, g0, n0) => some (.dat (atV L0 x1).length (Zz (atV L0 x1)), isT R6 n0 g0 && (z0o L0 x1))
  | _ => none
 | _ => none
theorem fAt_ok {S : Specs} (hS : Zu Tryz.prog S) : Zu Tryz.prog (S.with nAt fAt) := by
 refine z1t hS (by kernel_rfl) fun args v h => ?_
 unfold fAt at h
 split at h
 ·rename_i a0 x1
  split at h
  ·rename_i L0 g0 n0 e0
   simp only [Option.some.injEq, Prod.mk.injEq, Bool.and_eq_true] at h
   obtain ⟨rfl, ho0, hw⟩ := h
   obtain ⟨N, hN⟩ := w6m L0 x1 hw
   exact ⟨_, _, (.cons (asL_le e0 ho0) (.cons (.refl _) .nil)), rfl, x9i L0 x1 N _ hN, 3, rfl⟩
  ·cases h
 ·cases h
def x6u : List AVal → Option (AVal × Bool)
 | [.int .i64 x0, .bool b1, .bool b2] => some (.bool (Ji x0 b1 b2), true)
 | _ => none
theorem x6t {S : Specs} (hS : Zu Tryz.prog S) : Zu Tryz.prog (S.with w3y x6u) := by
 refine z1t hS (by kernel_rfl) fun args v h => ?_
 unfold x6u at h
 split at h
 ·rename_i x0 b1 b2
  simp only [Option.some.injEq, Prod.mk.injEq, and_true] at h
  subst h
  obtain ⟨N, hN⟩ := w7e x0 b1 b2
  exact ⟨_, _, (.cons (.refl _) (.cons (.refl _) (.cons (.refl _) .nil))), rfl, w0i x0 b1 b2 N _ hN, 3, rfl⟩
 ·cases h
def fFst : List AVal → Option (AVal × Bool)
 | [.bool b0, .bool b1] => some (.bool (y9s b0 b1), true)
 | _ => none
theorem w7y {S : Specs} (hS : Zu Tryz.prog S) : Zu Tryz.prog (S.with nFst fFst) := by
 refine z1t hS (by kernel_rfl) fun args v h => ?_
 unfold fFst at h
 split at h
 ·rename_i b0 b1
  simp only [Option.some.injEq, Prod.mk.injEq, and_true] at h
  subst h
  obtain ⟨N, hN⟩ := w7g b0 b1
  exact ⟨_, _, (.cons (.refl _) (.cons (.refl _) .nil)), rfl, w0k b0 b1 N _ hN, 3, rfl⟩
 ·cases h
theorem x2b {S : Specs} (hS : Zu Tryz.prog S) : Zu Tryz.prog (S.with nEq2 z9r) := by
 refine z1t hS (by kernel_rfl) fun args v h => ?_
 unfold z9r at h
 split at h
 ·rename_i a0 a1
  split at h
  ·rename_i L0 g0 n0 L1 g1 n1 e0 e1
   simp only [Option.some.injEq, Prod.mk.injEq, Bool.and_eq_true] at h
   obtain ⟨rfl, ho0, ho1, hw⟩ := h
   obtain ⟨N, hN⟩ := w8h L0 L1 hw
   exact ⟨_, _, (.cons (asL_le e0 ho0) (.cons (asL_le e1 ho1) .nil)), rfl, w0y L0 L1 N _ hN, 3, rfl⟩
  ·cases h
 ·cases h
theorem x2a {S : Specs} (hS : Zu Tryz.prog S) : Zu Tryz.prog (S.with nEq4 z9q) := by
 refine z1t hS (by kernel_rfl) fun args v h => ?_
 unfold z9q at h
 split at h
 ·rename_i a0 a1
  split at h
  ·rename_i L0 g0 n0 L1 g1 n1 e0 e1
   simp only [Option.some.injEq, Prod.mk.injEq, Bool.and_eq_true] at h
   obtain ⟨rfl, ho0, ho1, hw⟩ := h
   obtain ⟨N, hN⟩ := w8g L0 L1 hw
   exact ⟨_, _, (.cons (asL_le e0 ho0) (.cons (asL_le e1 ho1) .nil)), rfl, w0x L0 L1 N _ hN, 3, rfl⟩
  ·cases h
 ·cases h
theorem x1z {S : Specs} (hS : Zu Tryz.prog S) : Zu Tryz.prog (S.with nEq6 z9p) := by
 refine z1t hS (by kernel_rfl) fun args v h => ?_
 unfold z9p at h
 split at h
 ·rename_i a0 a1
  split at h
  ·rename_i L0 g0 n0 L1 g1 n1 e0 e1
   simp only [Option.some.injEq, Prod.mk.injEq, Bool.and_eq_true] at h
   obtain ⟨rfl, ho0, ho1, hw⟩ := h
   obtain ⟨N, hN⟩ := w8f L0 L1 hw
   exact ⟨_, _, (.cons (asL_le e0 ho0) (.cons (asL_le e1 ho1) .nil)), rfl, w0w L0 L1 N _ hN, 3, rfl⟩
  ·cases h
 ·cases h
def T1 : Specs := ((((((((((((noSpecs.with x5r fSrt).with w4a fCan).with w3v z9r).with w3u z9q).with w3t z9p).with nHas4 w7x).with nAt fAt).with w3y x6u).with nFst fFst).with nEq2 z9r).with nEq4 z9q).with nEq6 z9p)
theorem Qj : Zu Tryz.prog T1 := x1z (x2a (x2b (w7y (x6t (fAt_ok (w0s (x6q (x6r (x6s (w8e (w7m Zj)))))))))))
end Go.Am
namespace Go.Am
open Go.Proofs
inductive rxsS where
 | h0 (v5 : List Int) (v6 : Int)
 | h1 (v5 : List Int) (v7 : Int)
def rxsC (l0 : List R4) (l1 : List R4) : rxsS → Cfg
 | .h0 v5 v6 => ⟨⟨48, 0, true⟩, none, (Zi Tryz.prog 135 [1, 1, 0, 1, 0, 0] 0), none, (Zy Tryz.prog 3), ⟨Yo [(0, (.dat l0.length (Zz l0))), (1, (.dat l1.length (Zz l1))), (5, (.sla 0 1 0 v5.length (.un 1))), (6, (ii v6))], Uz [⟨rows v5.length (Zz v5), 3, some ⟨1, v5.length, (Zz v5)⟩⟩] 0, 1, [], true⟩, [], .leaf⟩
 | .h1 v5 v7 => ⟨⟨48, 0, true⟩, none, (Zi Tryz.prog 135 [1, 1, 1, 0, 1, 0, 0] 0), none, (Zy Tryz.prog 3), ⟨Yo [(1, (.dat l1.length (Zz l1))), (5, (.sla 0 1 0 v5.length (.un 1))), (7, (ii v7))], Uz [⟨rows v5.length (Zz v5), 3, some ⟨1, v5.length, (Zz v5)⟩⟩] 0, 1, [], true⟩, [], .leaf⟩
def rxsN0 : List (Option (List Nat)) := [some [0, 1, 5, 6]]
def rxsM0 : List (Option (List Nat)) := []
def rxsN1 : List (Option (List Nat)) := [some [1, 5, 7]]
def rxsM1 : List (Option (List Nat)) := []
def Kh (l0 : List R4) (l1 : List R4) : rxsS → Xg rxsS
 | .h0 v5 v6 => (bif (decide (v6 < (l0.length : Int))) then (bif ((decide (0 ≤ v6 ∧ v6 < (l0.length : Int))) && true) then (bif (Nat.beq 1 1 && ((decide (0 + v5.length = v5.length)) && decide ((v5.length + 2 + 1) * (8 + 1) ≤ Ka))) then (.to (.h0 (v5 ++ [(rd l0 v6.toNat).a, (rd l0 v6.toNat).c]) (IntKind.wrap .i64 (v6 + 1)))) else .stuck) else .stuck) else (.to (.h1 v5 0)))
 | .h1 v5 v7 => (bif (decide (v7 < (l1.length : Int))) then (bif ((decide (0 ≤ v7 ∧ v7 < (l1.length : Int))) && true) then (bif (Nat.beq 1 1 && ((decide (0 + v5.length = v5.length)) && decide ((v5.length + 2 + 1) * (8 + 1) ≤ Ka))) then (.to (.h1 (v5 ++ [(rd l1 v7.toNat).a, (rd l1 v7.toNat).c]) (IntKind.wrap .i64 (v7 + 1)))) else .stuck) else .stuck) else (bif (Vr (cvT v5)) then (.ret [(.dat (Qk (cvT v5)).length (Zz (Qk (cvT v5))))]) else .stuck))
def z5m (l0 : List R4) (l1 : List R4) : Xg rxsS := (.to (.h0 ([] : List Int) 0))
theorem x0t (l0 : List R4) (l1 : List R4) : ∀ s, Xt Tryz.prog (Zy Tryz.prog 135) (rxsC l0 l1) (rxsC l0 l1 s) (Kh l0 l1 s)
 | .h0 v5 v6 => (lb (fun k0 => (lo fun o0 => (lo fun o1 => (sl Qj 20 [] ⟨[2], [], rxsN0, rxsM0⟩ ⟨[(5, .len (v5 ++ [(rd l0 (tn v6)).a, (rd l0 (tn v6)).c]).length)], [.rowed 1 (v5 ++ [(rd l0 (tn v6)).a, (rd l0 (tn v6)).c]).length (Zz (v5 ++ [(rd l0 (tn v6)).a, (rd l0 (tn v6)).c]))], []⟩ [true] (pp (xL (v5.length + 2) (v5 ++ [(rd l0 (tn v6)).a, (rd l0 (tn v6)).c]).length) (pp (xL (v5.length + 2) (v5 ++ [(rd l0 (tn v6)).a, (rd l0 (tn v6)).c]).length) (pp (xS (v5.length + 2) (Zf (Zz v5) 0 v5.length 1 [(ii (rd l0 (tn v6)).a), (ii (rd l0 (tn v6)).c)]) (Zz (v5 ++ [(rd l0 (tn v6)).a, (rd l0 (tn v6)).c]))) (pp (pp (xF (Zf (Zz v5) 0 v5.length 1 [(ii (rd l0 (tn v6)).a), (ii (rd l0 (tn v6)).c)])) nn) (ww o1 (ww o0 (ww o0 (tt k0 nn)))))))))))) (fun k0 => (sl Qj 17 [] ⟨[0], [], rxsN1, rxsM1⟩ ⟨[], [], []⟩ [false] (pp (fl v5 nn) (tt k0 nn)))))
 | .h1 v5 v7 => (lb (fun k0 => (lo fun o0 => (lo fun o1 => (sl Qj 20 [] ⟨[2], [], rxsN1, rxsM1⟩ ⟨[(5, .len (v5 ++ [(rd l1 (tn v7)).a, (rd l1 (tn v7)).c]).length)], [.rowed 1 (v5 ++ [(rd l1 (tn v7)).a, (rd l1 (tn v7)).c]).length (Zz (v5 ++ [(rd l1 (tn v7)).a, (rd l1 (tn v7)).c]))], []⟩ [true] (pp (xL (v5.length + 2) (v5 ++ [(rd l1 (tn v7)).a, (rd l1 (tn v7)).c]).length) (pp (xL (v5.length + 2) (v5 ++ [(rd l1 (tn v7)).a, (rd l1 (tn v7)).c]).length) (pp (xS (v5.length + 2) (Zf (Zz v5) 0 v5.length 1 [(ii (rd l1 (tn v7)).a), (ii (rd l1 (tn v7)).c)]) (Zz (v5 ++ [(rd l1 (tn v7)).a, (rd l1 (tn v7)).c]))) (pp (pp (xF (Zf (Zz v5) 0 v5.length 1 [(ii (rd l1 (tn v7)).a), (ii (rd l1 (tn v7)).c)])) nn) (ww o1 (ww o0 (ww o0 (tt k0 nn)))))))))))) (fun k0 => (Kj (sl Qj (C' := ⟨⟨48, 0, true⟩, (Ja Tryz.prog 135 [1, 1, 1, 1, 0] 1), (Zi Tryz.prog 135 [1, 1, 1, 1, 0] 1), none, (Zy Tryz.prog 3), ⟨Yo [(46, (.dat v5.length (Zz v5)))], Uz [] 0, 0, [], true⟩, [], .leaf⟩) 13 [] ⟨[], [0], [some [46]], []⟩ ⟨[(46, .frz v5.length v5.length (Zz v5) (Zz v5))], [], []⟩ [false] (pp (xZ (y1y 1 1 0 v5.length v5.length (Zz v5)) v5.length (Zz v5)) (pp (xL v5.length v5.length) (pp (xS v5.length (Zz v5) (Zz v5)) (pp (fl v5 nn) (tt k0 nn)))))) (lo fun o0 => (lr 48 3 [1, 1, 1, 1, 1, 1, 0] 1 3 [(4, (.dat (Qk (cvT v5)).length (Zz (Qk (cvT v5)))))] (sl Qj 3 [] ⟨[], [], [some [4]], []⟩ ⟨[], [], []⟩ [] (pp (pp (xr v5) (xw o0)) nn)))))))
theorem y5j (l0 : List R4) (l1 : List R4) : Xt Tryz.prog (Zy Tryz.prog 135) (rxsC l0 l1) (Zd Tryz.prog 135 [(.dat l0.length (Zz l0)), (.dat l1.length (Zz l1))] true []) (z5m l0 l1) := (sl Qj 15 [(3, 1, Zz ([] : List Int))] ⟨[0], [], rxsN0, rxsM0⟩ ⟨[(5, .grow 0 1)], [], []⟩ [] (pp (fl ([] : List Int) nn) nn))
theorem x8n (l0 : List R4) (l1 : List R4) (n : Nat) (vs : List AVal) (h : Yk (Kh l0 l1) n (z5m l0 l1) = .ret vs) : Kz Tryz.prog (Zy Tryz.prog 135) (Zd Tryz.prog 135 [(.dat l0.length (Zz l0)), (.dat l1.length (Zz l1))] true []) vs := by
 have := Zr (x0t l0 l1) n _ (y5j l0 l1)
 rwa [h] at this
inductive rysS where
 | h0 (v5 : List Int) (v6 : Int)
 | h1 (v5 : List Int) (v7 : Int)
def rysC (l0 : List R4) (l1 : List R4) : rysS → Cfg
 | .h0 v5 v6 => ⟨⟨48, 0, true⟩, none, (Zi Tryz.prog 136 [1, 1, 0, 1, 0, 0] 0), none, (Zy Tryz.prog 3), ⟨Yo [(0, (.dat l0.length (Zz l0))), (1, (.dat l1.length (Zz l1))), (5, (.sla 0 1 0 v5.length (.un 1))), (6, (ii v6))], Uz [⟨rows v5.length (Zz v5), 3, some ⟨1, v5.length, (Zz v5)⟩⟩] 0, 1, [], true⟩, [], .leaf⟩
 | .h1 v5 v7 => ⟨⟨48, 0, true⟩, none, (Zi Tryz.prog 136 [1, 1, 1, 0, 1, 0, 0] 0), none, (Zy Tryz.prog 3), ⟨Yo [(1, (.dat l1.length (Zz l1))), (5, (.sla 0 1 0 v5.length (.un 1))), (7, (ii v7))], Uz [⟨rows v5.length (Zz v5), 3, some ⟨1, v5.length, (Zz v5)⟩⟩] 0, 1, [], true⟩, [], .leaf⟩
def rysN0 : List (Option (List Nat)) := [some [0, 1, 5, 6]]
def rysM0 : List (Option (List Nat)) := []
def rysN1 : List (Option (List Nat)) := [some [1, 5, 7]]
def rysM1 : List (Option (List Nat)) := []
def Kf (l0 : List R4) (l1 : List R4) : rysS → Xg rysS
 | .h0 v5 v6 => (bif (decide (v6 < (l0.length : Int))) then (bif ((decide (0 ≤ v6 ∧ v6 < (l0.length : Int))) && true) then (bif (Nat.beq 1 1 && ((decide (0 + v5.length = v5.length)) && decide ((v5.length + 2 + 1) * (8 + 1) ≤ Ka))) then (.to (.h0 (v5 ++ [(rd l0 v6.toNat).b, (rd l0 v6.toNat).d]) (IntKind.wrap .i64 (v6 + 1)))) else .stuck) else .stuck) else (.to (.h1 v5 0)))
 | .h1 v5 v7 => (bif (decide (v7 < (l1.length : Int))) then (bif ((decide (0 ≤ v7 ∧ v7 < (l1.length : Int))) && true) then (bif (Nat.beq 1 1 && ((decide (0 + v5.length = v5.length)) && decide ((v5.length + 2 + 1) * (8 + 1) ≤ Ka))) then (.to (.h1 (v5 ++ [(rd l1 v7.toNat).b, (rd l1 v7.toNat).d]) (IntKind.wrap .i64 (v7 + 1)))) else .stuck) else .stuck) else (bif (Vr (cvT v5)) then (.ret [(.dat (Qk (cvT v5)).length (Zz (Qk (cvT v5))))]) else .stuck))
def z5l (l0 : List R4) (l1 : List R4) : Xg rysS := (.to (.h0 ([] : List Int) 0))
theorem x0s (l0 : List R4) (l1 : List R4) : ∀ s, Xt Tryz.prog (Zy Tryz.prog 136) (rysC l0 l1) (rysC l0 l1 s) (Kf l0 l1 s)
 | .h0 v5 v6 => (lb (fun k0 => (lo fun o0 => (lo fun o1 => (sl Qj 20 [] ⟨[2], [], rysN0, rysM0⟩ ⟨[(5, .len (v5 ++ [(rd l0 (tn v6)).b, (rd l0 (tn v6)).d]).length)], [.rowed 1 (v5 ++ [(rd l0 (tn v6)).b, (rd l0 (tn v6)).d]).length (Zz (v5 ++ [(rd l0 (tn v6)).b, (rd l0 (tn v6)).d]))], []⟩ [true] (pp (xL (v5.length + 2) (v5 ++ [(rd l0 (tn v6)).b, (rd l0 (tn v6)).d]).length) (pp (xL (v5.length + 2) (v5 ++ [(rd l0 (tn v6)).b, (rd l0 (tn v6)).d]).length) (pp (xS (v5.length + 2) (Zf (Zz v5) 0 v5.length 1 [(ii (rd l0 (tn v6)).b), (ii (rd l0 (tn v6)).d)]) (Zz (v5 ++ [(rd l0 (tn v6)).b, (rd l0 (tn v6)).d]))) (pp (pp (xF (Zf (Zz v5) 0 v5.length 1 [(ii (rd l0 (tn v6)).b), (ii (rd l0 (tn v6)).d)])) nn) (ww o1 (ww o0 (ww o0 (tt k0 nn)))))))))))) (fun k0 => (sl Qj 17 [] ⟨[0], [], rysN1, rysM1⟩ ⟨[], [], []⟩ [false] (pp (fl v5 nn) (tt k0 nn)))))
 | .h1 v5 v7 => (lb (fun k0 => (lo fun o0 => (lo fun o1 => (sl Qj 20 [] ⟨[2], [], rysN1, rysM1⟩ ⟨[(5, .len (v5 ++ [(rd l1 (tn v7)).b, (rd l1 (tn v7)).d]).length)], [.rowed 1 (v5 ++ [(rd l1 (tn v7)).b, (rd l1 (tn v7)).d]).length (Zz (v5 ++ [(rd l1 (tn v7)).b, (rd l1 (tn v7)).d]))], []⟩ [true] (pp (xL (v5.length + 2) (v5 ++ [(rd l1 (tn v7)).b, (rd l1 (tn v7)).d]).length) (pp (xL (v5.length + 2) (v5 ++ [(rd l1 (tn v7)).b, (rd l1 (tn v7)).d]).length) (pp (xS (v5.length + 2) (Zf (Zz v5) 0 v5.length 1 [(ii (rd l1 (tn v7)).b), (ii (rd l1 (tn v7)).d)]) (Zz (v5 ++ [(rd l1 (tn v7)).b, (rd l1 (tn v7)).d]))) (pp (pp (xF (Zf (Zz v5) 0 v5.length 1 [(ii (rd l1 (tn v7)).b), (ii (rd l1 (tn v7)).d)])) nn) (ww o1 (ww o0 (ww o0 (tt k0 nn)))))))))))) (fun k0 => (Kj (sl Qj (C' := ⟨⟨48, 0, true⟩, (Ja Tryz.prog 136 [1, 1, 1, 1, 0] 1), (Zi Tryz.prog 136 [1, 1, 1, 1, 0] 1), none, (Zy Tryz.prog 3), ⟨Yo [(46, (.dat v5.length (Zz v5)))], Uz [] 0, 0, [], true⟩, [], .leaf⟩) 13 [] ⟨[], [0], [some [46]], []⟩ ⟨[(46, .frz v5.length v5.length (Zz v5) (Zz v5))], [], []⟩ [false] (pp (xZ (y1y 1 1 0 v5.length v5.length (Zz v5)) v5.length (Zz v5)) (pp (xL v5.length v5.length) (pp (xS v5.length (Zz v5) (Zz v5)) (pp (fl v5 nn) (tt k0 nn)))))) (lo fun o0 => (lr 48 3 [1, 1, 1, 1, 1, 1, 0] 1 3 [(4, (.dat (Qk (cvT v5)).length (Zz (Qk (cvT v5)))))] (sl Qj 3 [] ⟨[], [], [some [4]], []⟩ ⟨[], [], []⟩ [] (pp (pp (xr v5) (xw o0)) nn)))))))
theorem y5i (l0 : List R4) (l1 : List R4) : Xt Tryz.prog (Zy Tryz.prog 136) (rysC l0 l1) (Zd Tryz.prog 136 [(.dat l0.length (Zz l0)), (.dat l1.length (Zz l1))] true []) (z5l l0 l1) := (sl Qj 15 [(3, 1, Zz ([] : List Int))] ⟨[0], [], rysN0, rysM0⟩ ⟨[(5, .grow 0 1)], [], []⟩ [] (pp (fl ([] : List Int) nn) nn))
theorem x8m (l0 : List R4) (l1 : List R4) (n : Nat) (vs : List AVal) (h : Yk (Kf l0 l1) n (z5l l0 l1) = .ret vs) : Kz Tryz.prog (Zy Tryz.prog 136) (Zd Tryz.prog 136 [(.dat l0.length (Zz l0)), (.dat l1.length (Zz l1))] true []) vs := by
 have := Zr (x0s l0 l1) n _ (y5i l0 l1)
 rwa [h] at this
inductive rcutS where
 | h0 (v5 : List Int) (v6 : Int)
 | h1 (v5 : List Int) (v7 : Int)
def w6i (l0 : List R6) (l1 : List R6) : rcutS → Cfg
 | .h0 v5 v6 => ⟨⟨52, 0, true⟩, none, (Zi Tryz.prog 114 [1, 1, 0, 1, 0, 0] 0), none, (Zy Tryz.prog 3), ⟨Yo [(0, (.dat l0.length (Zz l0))), (1, (.dat l1.length (Zz l1))), (5, (.sla 0 1 0 v5.length (.un 1))), (6, (ii v6))], Uz [⟨rows v5.length (Zz v5), 3, some ⟨1, v5.length, (Zz v5)⟩⟩] 0, 1, [], true⟩, [], .leaf⟩
 | .h1 v5 v7 => ⟨⟨52, 0, true⟩, none, (Zi Tryz.prog 114 [1, 1, 1, 0, 1, 0, 0] 0), none, (Zy Tryz.prog 3), ⟨Yo [(1, (.dat l1.length (Zz l1))), (5, (.sla 0 1 0 v5.length (.un 1))), (7, (ii v7))], Uz [⟨rows v5.length (Zz v5), 3, some ⟨1, v5.length, (Zz v5)⟩⟩] 0, 1, [], true⟩, [], .leaf⟩
def w3k : List (Option (List Nat)) := [some [0, 1, 5, 6]]
def w3m : List (Option (List Nat)) := []
def w3j : List (Option (List Nat)) := [some [1, 5, 7]]
def w3l : List (Option (List Nat)) := []
def Uu (l0 : List R6) (l1 : List R6) : rcutS → Xg rcutS
 | .h0 v5 v6 => (bif (decide (v6 < (l0.length : Int))) then (bif ((decide (0 ≤ v6 ∧ v6 < (l0.length : Int))) && true) then (bif (Nat.beq 1 1 && ((decide (0 + v5.length = v5.length)) && decide ((v5.length + 2 + 1) * (8 + 1) ≤ Ka))) then (.to (.h0 (v5 ++ [(rd l0 v6.toNat).c, (rd l0 v6.toNat).f]) (IntKind.wrap .i64 (v6 + 1)))) else .stuck) else .stuck) else (.to (.h1 v5 0)))
 | .h1 v5 v7 => (bif (decide (v7 < (l1.length : Int))) then (bif ((decide (0 ≤ v7 ∧ v7 < (l1.length : Int))) && true) then (bif (Nat.beq 1 1 && ((decide (0 + v5.length = v5.length)) && decide ((v5.length + 2 + 1) * (8 + 1) ≤ Ka))) then (.to (.h1 (v5 ++ [(rd l1 v7.toNat).c, (rd l1 v7.toNat).f]) (IntKind.wrap .i64 (v7 + 1)))) else .stuck) else .stuck) else (bif (Vr (cvT v5)) then (.ret [(.dat (Qk (cvT v5)).length (Zz (Qk (cvT v5))))]) else .stuck))
def z2k (l0 : List R6) (l1 : List R6) : Xg rcutS := (.to (.h0 ([] : List Int) 0))
theorem y6c (l0 : List R6) (l1 : List R6) : ∀ s, Xt Tryz.prog (Zy Tryz.prog 114) (w6i l0 l1) (w6i l0 l1 s) (Uu l0 l1 s)
 | .h0 v5 v6 => (lb (fun k0 => (lo fun o0 => (lo fun o1 => (sl Qj 20 [] ⟨[2], [], w3k, w3m⟩ ⟨[(5, .len (v5 ++ [(rd l0 (tn v6)).c, (rd l0 (tn v6)).f]).length)], [.rowed 1 (v5 ++ [(rd l0 (tn v6)).c, (rd l0 (tn v6)).f]).length (Zz (v5 ++ [(rd l0 (tn v6)).c, (rd l0 (tn v6)).f]))], []⟩ [true] (pp (xL (v5.length + 2) (v5 ++ [(rd l0 (tn v6)).c, (rd l0 (tn v6)).f]).length) (pp (xL (v5.length + 2) (v5 ++ [(rd l0 (tn v6)).c, (rd l0 (tn v6)).f]).length) (pp (xS (v5.length + 2) (Zf (Zz v5) 0 v5.length 1 [(ii (rd l0 (tn v6)).c), (ii (rd l0 (tn v6)).f)]) (Zz (v5 ++ [(rd l0 (tn v6)).c, (rd l0 (tn v6)).f]))) (pp (pp (xF (Zf (Zz v5) 0 v5.length 1 [(ii (rd l0 (tn v6)).c), (ii (rd l0 (tn v6)).f)])) nn) (ww o1 (ww o0 (ww o0 (tt k0 nn)))))))))))) (fun k0 => (sl Qj 17 [] ⟨[0], [], w3j, w3l⟩ ⟨[], [], []⟩ [false] (pp (fl v5 nn) (tt k0 nn)))))
 | .h1 v5 v7 => (lb (fun k0 => (lo fun o0 => (lo fun o1 => (sl Qj 20 [] ⟨[2], [], w3j, w3l⟩ ⟨[(5, .len (v5 ++ [(rd l1 (tn v7)).c, (rd l1 (tn v7)).f]).length)], [.rowed 1 (v5 ++ [(rd l1 (tn v7)).c, (rd l1 (tn v7)).f]).length (Zz (v5 ++ [(rd l1 (tn v7)).c, (rd l1 (tn v7)).f]))], []⟩ [true] (pp (xL (v5.length + 2) (v5 ++ [(rd l1 (tn v7)).c, (rd l1 (tn v7)).f]).length) (pp (xL (v5.length + 2) (v5 ++ [(rd l1 (tn v7)).c, (rd l1 (tn v7)).f]).length) (pp (xS (v5.length + 2) (Zf (Zz v5) 0 v5.length 1 [(ii (rd l1 (tn v7)).c), (ii (rd l1 (tn v7)).f)]) (Zz (v5 ++ [(rd l1 (tn v7)).c, (rd l1 (tn v7)).f]))) (pp (pp (xF (Zf (Zz v5) 0 v5.length 1 [(ii (rd l1 (tn v7)).c), (ii (rd l1 (tn v7)).f)])) nn) (ww o1 (ww o0 (ww o0 (tt k0 nn)))))))))))) (fun k0 => (Kj (sl Qj (C' := ⟨⟨52, 0, true⟩, (Ja Tryz.prog 114 [1, 1, 1, 1, 0] 1), (Zi Tryz.prog 114 [1, 1, 1, 1, 0] 1), none, (Zy Tryz.prog 3), ⟨Yo [(50, (.dat v5.length (Zz v5)))], Uz [] 0, 0, [], true⟩, [], .leaf⟩) 13 [] ⟨[], [0], [some [50]], []⟩ ⟨[(50, .frz v5.length v5.length (Zz v5) (Zz v5))], [], []⟩ [false] (pp (xZ (y1y 1 1 0 v5.length v5.length (Zz v5)) v5.length (Zz v5)) (pp (xL v5.length v5.length) (pp (xS v5.length (Zz v5) (Zz v5)) (pp (fl v5 nn) (tt k0 nn)))))) (lo fun o0 => (lr 52 3 [1, 1, 1, 1, 1, 1, 0] 1 3 [(4, (.dat (Qk (cvT v5)).length (Zz (Qk (cvT v5)))))] (sl Qj 3 [] ⟨[], [], [some [4]], []⟩ ⟨[], [], []⟩ [] (pp (pp (xr v5) (xw o0)) nn)))))))
theorem y2r (l0 : List R6) (l1 : List R6) : Xt Tryz.prog (Zy Tryz.prog 114) (w6i l0 l1) (Zd Tryz.prog 114 [(.dat l0.length (Zz l0)), (.dat l1.length (Zz l1))] true []) (z2k l0 l1) := (sl Qj 15 [(3, 1, Zz ([] : List Int))] ⟨[0], [], w3k, w3m⟩ ⟨[(5, .grow 0 1)], [], []⟩ [] (pp (fl ([] : List Int) nn) nn))
theorem x4z (l0 : List R6) (l1 : List R6) (n : Nat) (vs : List AVal) (h : Yk (Uu l0 l1) n (z2k l0 l1) = .ret vs) : Kz Tryz.prog (Zy Tryz.prog 114) (Zd Tryz.prog 114 [(.dat l0.length (Zz l0)), (.dat l1.length (Zz l1))] true []) vs := by
 have := Zr (y6c l0 l1) n _ (y2r l0 l1)
 rwa [h] at this
end Go.Am
namespace Go.Am
open Go.Proofs
def Qp (l : List R4) : List Int := l.flatMap fun r => [r.a, r.c]
def Kb (l : List R4) : List Int := l.flatMap fun r => [r.b, r.d]
def Qq (l : List R6) : List Int := l.flatMap fun r => [r.c, r.f]
def xsV (l m : List R4) : List Int := Qk (Qp l ++ Qp m)
def z5d (l m : List R4) : Bool := decide (l.length ≤ 10000 ∧ m.length ≤ 10000)
theorem Jp (l : List R4) : (Qp l).length = 2 * l.length := by
 induction l with
 | nil => rfl
 | cons r l ih => show (_ :: _ :: Qp l).length = _; simp only [List.length_cons, ih]; omega
theorem z8y (l : List R4) (i : Nat) (h : i < l.length) : Qp (l.drop i) = Qp [rd l i] ++ Qp (l.drop (i + 1)) := by
 rw [Yd h]; rfl
theorem w2q (l m : List R4) (hl : l.length ≤ 10000) (hm : m.length ≤ 10000) : ∀ (k i : Nat) (out : List Int), i + k = m.length → out.length = 2 * l.length + 2 * i → ∃ N, Yk (Kh l m) N (.to (.h1 out (i : Int))) = .ret [.dat (Qk (out ++ Qp (m.drop i))).length (Zz (Qk (out ++ Qp (m.drop i))))]
 | 0, i, out, h, ho => by
  refine ⟨1, ?_⟩
  have hw : Vr out = true := decide_eq_true (by omega)
  rw [Zv, List.drop_eq_nil_of_le (show m.length ≤ i by omega), show Qp [] = [] from rfl, List.append_nil]
  simp (disch := omega) only [Kh, Xx, Yh, Yy, Yv, Yt, Ya, Yj, Yf, Yx, Zq, Yz, Jx, Jw, decide_true, Zw, Zb, Za, Yi, Zk, Nat.zero_add, Bool.and_true, Bool.true_and, cond_true, cond_false, Bool.not_true, Bool.not_false, Zm, Zo, Zp, Wj, Yr, hw]
 | k + 1, i, out, h, ho => by
  obtain ⟨N, hN⟩ := w2q l m hl hm k (i + 1) (out ++ Qp [rd m i]) (by omega) (by rw [List.length_append, Jp]; simp; omega)
  refine ⟨N + 1, ?_⟩
  rw [z8y m i (by omega), ← List.append_assoc, Zv]
  simp (disch := omega) only [Kh, Xx, Yh, Yy, Yv, Yt, Ya, Yj, Yf, Yx, Zq, Yz, Jx, Jw, decide_true, Zw, Zb, Za, Yi, Zk, Nat.zero_add, Bool.and_true, Bool.true_and, cond_true, cond_false, Bool.not_true, Bool.not_false, Zm, Zo, Zp, Wj, Yr]
  exact hN
theorem w2r (l m : List R4) (hl : l.length ≤ 10000) (hm : m.length ≤ 10000) : ∀ (k i : Nat) (out : List Int), i + k = l.length → out.length = 2 * i → ∃ N, Yk (Kh l m) N (.to (.h0 out (i : Int))) = .ret [.dat (Qk (out ++ Qp (l.drop i) ++ Qp m)).length (Zz (Qk (out ++ Qp (l.drop i) ++ Qp m)))]
 | 0, i, out, h, ho => by
  obtain ⟨N, hN⟩ := w2q l m hl hm m.length 0 out (Nat.zero_add _) (by omega)
  refine ⟨N + 1, ?_⟩
  rw [Zv, List.drop_eq_nil_of_le (show l.length ≤ i by omega), show Qp [] = [] from rfl, List.append_nil]
  simp (disch := omega) only [Kh, Xx, Yh, Yy, Yv, Yt, Ya, Yj, Yf, Yx, Zq, Yz, Jx, Jw, decide_true, Zw, Zb, Za, Yi, Zk, Nat.zero_add, Bool.and_true, Bool.true_and, cond_true, cond_false, Bool.not_true, Bool.not_false, Zm, Zo, Zp, Wj, Yr]
  exact hN
 | k + 1, i, out, h, ho => by
  obtain ⟨N, hN⟩ := w2r l m hl hm k (i + 1) (out ++ Qp [rd l i]) (by omega) (by rw [List.length_append, Jp]; simp; omega)
  refine ⟨N + 1, ?_⟩
  rw [z8y l i (by omega), ← List.append_assoc, Zv]
  simp (disch := omega) only [Kh, Xx, Yh, Yy, Yv, Yt, Ya, Yj, Yf, Yx, Zq, Yz, Jx, Jw, decide_true, Zw, Zb, Za, Yi, Zk, Nat.zero_add, Bool.and_true, Bool.true_and, cond_true, cond_false, Bool.not_true, Bool.not_false, Zm, Zo, Zp, Wj, Yr]
  exact hN
theorem w5n (l m : List R4) (h : z5d l m = true) : ∃ N, Yk (Kh l m) N (z5m l m) = .ret [.dat (xsV l m).length (Zz (xsV l m))] := by
 obtain ⟨h1, h2⟩ := of_decide_eq_true h
 have := w2r l m h1 h2 l.length 0 [] (Nat.zero_add _) rfl
 simpa [z5m, xsV] using this
def ysV (l m : List R4) : List Int := Qk (Kb l ++ Kb m)
def z5c (l m : List R4) : Bool := decide (l.length ≤ 10000 ∧ m.length ≤ 10000)
theorem Jq (l : List R4) : (Kb l).length = 2 * l.length := by
 induction l with
 | nil => rfl
 | cons r l ih => show (_ :: _ :: Kb l).length = _; simp only [List.length_cons, ih]; omega
theorem z8x (l : List R4) (i : Nat) (h : i < l.length) : Kb (l.drop i) = Kb [rd l i] ++ Kb (l.drop (i + 1)) := by
 rw [Yd h]; rfl
theorem w2o (l m : List R4) (hl : l.length ≤ 10000) (hm : m.length ≤ 10000) : ∀ (k i : Nat) (out : List Int), i + k = m.length → out.length = 2 * l.length + 2 * i → ∃ N, Yk (Kf l m) N (.to (.h1 out (i : Int))) = .ret [.dat (Qk (out ++ Kb (m.drop i))).length (Zz (Qk (out ++ Kb (m.drop i))))]
 | 0, i, out, h, ho => by
  refine ⟨1, ?_⟩
  have hw : Vr out = true := decide_eq_true (by omega)
  rw [Zv, List.drop_eq_nil_of_le (show m.length ≤ i by omega), show Kb [] = [] from rfl, List.append_nil]
  simp (disch := omega) only [Kf, Xx, Yh, Yy, Yv, Yt, Ya, Yj, Yf, Yx, Zq, Yz, Jx, Jw, decide_true, Zw, Zb, Za, Yi, Zk, Nat.zero_add, Bool.and_true, Bool.true_and, cond_true, cond_false, Bool.not_true, Bool.not_false, Zm, Zo, Zp, Wj, Yr, hw]
 | k + 1, i, out, h, ho => by
  obtain ⟨N, hN⟩ := w2o l m hl hm k (i + 1) (out ++ Kb [rd m i]) (by omega) (by rw [List.length_append, Jq]; simp; omega)
  refine ⟨N + 1, ?_⟩
  rw [z8x m i (by omega), ← List.append_assoc, Zv]
  simp (disch := omega) only [Kf, Xx, Yh, Yy, Yv, Yt, Ya, Yj, Yf, Yx, Zq, Yz, Jx, Jw, decide_true, Zw, Zb, Za, Yi, Zk, Nat.zero_add, Bool.and_true, Bool.true_and, cond_true, cond_false, Bool.not_true, Bool.not_false, Zm, Zo, Zp, Wj, Yr]
  exact hN
theorem w2p (l m : List R4) (hl : l.length ≤ 10000) (hm : m.length ≤ 10000) : ∀ (k i : Nat) (out : List Int), i + k = l.length → out.length = 2 * i → ∃ N, Yk (Kf l m) N (.to (.h0 out (i : Int))) = .ret [.dat (Qk (out ++ Kb (l.drop i) ++ Kb m)).length (Zz (Qk (out ++ Kb (l.drop i) ++ Kb m)))]
 | 0, i, out, h, ho => by
  obtain ⟨N, hN⟩ := w2o l m hl hm m.length 0 out (Nat.zero_add _) (by omega)
  refine ⟨N + 1, ?_⟩
  rw [Zv, List.drop_eq_nil_of_le (show l.length ≤ i by omega), show Kb [] = [] from rfl, List.append_nil]
  simp (disch := omega) only [Kf, Xx, Yh, Yy, Yv, Yt, Ya, Yj, Yf, Yx, Zq, Yz, Jx, Jw, decide_true, Zw, Zb, Za, Yi, Zk, Nat.zero_add, Bool.and_true, Bool.true_and, cond_true, cond_false, Bool.not_true, Bool.not_false, Zm, Zo, Zp, Wj, Yr]
  exact hN
 | k + 1, i, out, h, ho => by
  obtain ⟨N, hN⟩ := w2p l m hl hm k (i + 1) (out ++ Kb [rd l i]) (by omega) (by rw [List.length_append, Jq]; simp; omega)
  refine ⟨N + 1, ?_⟩
  rw [z8x l i (by omega), ← List.append_assoc, Zv]
  simp (disch := omega) only [Kf, Xx, Yh, Yy, Yv, Yt, Ya, Yj, Yf, Yx, Zq, Yz, Jx, Jw, decide_true, Zw, Zb, Za, Yi, Zk, Nat.zero_add, Bool.and_true, Bool.true_and, cond_true, cond_false, Bool.not_true, Bool.not_false, Zm, Zo, Zp, Wj, Yr]
  exact hN
theorem w5m (l m : List R4) (h : z5c l m = true) : ∃ N, Yk (Kf l m) N (z5l l m) = .ret [.dat (ysV l m).length (Zz (ysV l m))] := by
 obtain ⟨h1, h2⟩ := of_decide_eq_true h
 have := w2p l m h1 h2 l.length 0 [] (Nat.zero_add _) rfl
 simpa [z5l, ysV] using this
def Ym (l m : List R6) : List Int := Qk (Qq l ++ Qq m)
def z3d (l m : List R6) : Bool := decide (l.length ≤ 10000 ∧ m.length ≤ 10000)
theorem Jk (l : List R6) : (Qq l).length = 2 * l.length := by
 induction l with
 | nil => rfl
 | cons r l ih => show (_ :: _ :: Qq l).length = _; simp only [List.length_cons, ih]; omega
theorem z8v (l : List R6) (i : Nat) (h : i < l.length) : Qq (l.drop i) = Qq [rd l i] ++ Qq (l.drop (i + 1)) := by
 rw [Yd h]; rfl
theorem x4x (l m : List R6) (hl : l.length ≤ 10000) (hm : m.length ≤ 10000) : ∀ (k i : Nat) (out : List Int), i + k = m.length → out.length = 2 * l.length + 2 * i → ∃ N, Yk (Uu l m) N (.to (.h1 out (i : Int))) = .ret [.dat (Qk (out ++ Qq (m.drop i))).length (Zz (Qk (out ++ Qq (m.drop i))))]
 | 0, i, out, h, ho => by
  refine ⟨1, ?_⟩
  have hw : Vr out = true := decide_eq_true (by omega)
  rw [Zv, List.drop_eq_nil_of_le (show m.length ≤ i by omega), show Qq [] = [] from rfl, List.append_nil]
  simp (disch := omega) only [Uu, Xx, Yh, Yy, Yv, Yt, Ya, Yj, Yf, Yx, Zq, Yz, Jx, Jw, decide_true, Zw, Zb, Za, Yi, Zk, Nat.zero_add, Bool.and_true, Bool.true_and, cond_true, cond_false, Bool.not_true, Bool.not_false, Zm, Zo, Zp, Wj, Yr, hw]
 | k + 1, i, out, h, ho => by
  obtain ⟨N, hN⟩ := x4x l m hl hm k (i + 1) (out ++ Qq [rd m i]) (by omega) (by rw [List.length_append, Jk]; simp; omega)
  refine ⟨N + 1, ?_⟩
  rw [z8v m i (by omega), ← List.append_assoc, Zv]
  simp (disch := omega) only [Uu, Xx, Yh, Yy, Yv, Yt, Ya, Yj, Yf, Yx, Zq, Yz, Jx, Jw, decide_true, Zw, Zb, Za, Yi, Zk, Nat.zero_add, Bool.and_true, Bool.true_and, cond_true, cond_false, Bool.not_true, Bool.not_false, Zm, Zo, Zp, Wj, Yr]
  exact hN
theorem x4y (l m : List R6) (hl : l.length ≤ 10000) (hm : m.length ≤ 10000) : ∀ (k i : Nat) (out : List Int), i + k = l.length → out.length = 2 * i → ∃ N, Yk (Uu l m) N (.to (.h0 out (i : Int))) = .ret [.dat (Qk (out ++ Qq (l.drop i) ++ Qq m)).length (Zz (Qk (out ++ Qq (l.drop i) ++ Qq m)))]
 | 0, i, out, h, ho => by
  obtain ⟨N, hN⟩ := x4x l m hl hm m.length 0 out (Nat.zero_add _) (by omega)
  refine ⟨N + 1, ?_⟩
  rw [Zv, List.drop_eq_nil_of_le (show l.length ≤ i by omega), show Qq [] = [] from rfl, List.append_nil]
  simp (disch := omega) only [Uu, Xx, Yh, Yy, Yv, Yt, Ya, Yj, Yf, Yx, Zq, Yz, Jx, Jw, decide_true, Zw, Zb, Za, Yi, Zk, Nat.zero_add, Bool.and_true, Bool.true_and, cond_true, cond_false, Bool.not_true, Bool.not_false, Zm, Zo, Zp, Wj, Yr]
  exact hN
 | k + 1, i, out, h, ho => by
  obtain ⟨N, hN⟩ := x4y l m hl hm k (i + 1) (out ++ Qq [rd l i]) (by omega) (by rw [List.length_append, Jk]; simp; omega)
  refine ⟨N + 1, ?_⟩
  rw [z8v l i (by omega), ← List.append_assoc, Zv]
  simp (disch := omega) only [Uu, Xx, Yh, Yy, Yv, Yt, Ya, Yj, Yf, Yx, Zq, Yz, Jx, Jw, decide_true, Zw, Zb, Za, Yi, Zk, Nat.zero_add, Bool.and_true, Bool.true_and, cond_true, cond_false, Bool.not_true, Bool.not_false, Zm, Zo, Zp, Wj, Yr]
  exact hN
theorem x9c (l m : List R6) (h : z3d l m = true) : ∃ N, Yk (Uu l m) N (z2k l m) = .ret [.dat (Ym l m).length (Zz (Ym l m))] := by
 obtain ⟨h1, h2⟩ := of_decide_eq_true h
 have := x4y l m h1 h2 l.length 0 [] (Nat.zero_add _) rfl
 simpa [z2k, Ym] using this
def fXs : List AVal → Option (AVal × Bool)
 | [a0, a1] => match asL R4 a0, asL R4 a1 with
  | some (L0, g0, n0), some (L1, g1, n1) => some (.dat (xsV L0 L1).length (Zz (xsV L0 L1)), isT R4 n0 g0 && (isT R4 n1 g1 && (z5d L0 L1)))
  | _, _ => none
 | _ => none
theorem fXs_ok {S : Specs} (hS : Zu Tryz.prog S) : Zu Tryz.prog (S.with nXs fXs) := by
 refine z1t hS (by kernel_rfl) fun args v h => ?_
 unfold fXs at h
 split at h
 ·rename_i a0 a1
  split at h
  ·rename_i L0 g0 n0 L1 g1 n1 e0 e1
   simp only [Option.some.injEq, Prod.mk.injEq, Bool.and_eq_true] at h
   obtain ⟨rfl, ho0, ho1, hw⟩ := h
   obtain ⟨N, hN⟩ := w5n L0 L1 hw
   exact ⟨_, _, (.cons (asL_le e0 ho0) (.cons (asL_le e1 ho1) .nil)), rfl, x8n L0 L1 N _ hN, 3, rfl⟩
  ·cases h
 ·cases h
def fYs : List AVal → Option (AVal × Bool)
 | [a0, a1] => match asL R4 a0, asL R4 a1 with
  | some (L0, g0, n0), some (L1, g1, n1) => some (.dat (ysV L0 L1).length (Zz (ysV L0 L1)), isT R4 n0 g0 && (isT R4 n1 g1 && (z5c L0 L1)))
  | _, _ => none
 | _ => none
theorem fYs_ok {S : Specs} (hS : Zu Tryz.prog S) : Zu Tryz.prog (S.with nYs fYs) := by
 refine z1t hS (by kernel_rfl) fun args v h => ?_
 unfold fYs at h
 split at h
 ·rename_i a0 a1
  split at h
  ·rename_i L0 g0 n0 L1 g1 n1 e0 e1
   simp only [Option.some.injEq, Prod.mk.injEq, Bool.and_eq_true] at h
   obtain ⟨rfl, ho0, ho1, hw⟩ := h
   obtain ⟨N, hN⟩ := w5m L0 L1 hw
   exact ⟨_, _, (.cons (asL_le e0 ho0) (.cons (asL_le e1 ho1) .nil)), rfl, x8m L0 L1 N _ hN, 3, rfl⟩
  ·cases h
 ·cases h
def w8d : List AVal → Option (AVal × Bool)
 | [a0, a1] => match asL R6 a0, asL R6 a1 with
  | some (L0, g0, n0), some (L1, g1, n1) => some (.dat (Ym L0 L1).length (Zz (Ym L0 L1)), isT R6 n0 g0 && (isT R6 n1 g1 && (z3d L0 L1)))
  | _, _ => none
 | _ => none
theorem w0t {S : Specs} (hS : Zu Tryz.prog S) : Zu Tryz.prog (S.with nCuts w8d) := by
 refine z1t hS (by kernel_rfl) fun args v h => ?_
 unfold w8d at h
 split at h
 ·rename_i a0 a1
  split at h
  ·rename_i L0 g0 n0 L1 g1 n1 e0 e1
   simp only [Option.some.injEq, Prod.mk.injEq, Bool.and_eq_true] at h
   obtain ⟨rfl, ho0, ho1, hw⟩ := h
   obtain ⟨N, hN⟩ := x9c L0 L1 hw
   exact ⟨_, _, (.cons (asL_le e0 ho0) (.cons (asL_le e1 ho1) .nil)), rfl, x4z L0 L1 N _ hN, 3, rfl⟩
  ·cases h
 ·cases h
def T2 : Specs := ((T1.with nXs fXs).with nYs fYs).with nCuts w8d
theorem z4b : Zu Tryz.prog T2 := w0t (fYs_ok (fXs_ok Qj))
end Go.Am
namespace Go.Am
open Go.Proofs
inductive rjoS where
 | h0 (v9 : List R4) (v10 : List R2) (v11 : Int) (v12 : Int)
 | h1 (v9 : List R4) (v10 : List R2) (v11 : Int) (v12 : Int) (v13 : List Bool) (v14 : Int)
 | h2 (v9 : List R4) (v10 : List R2) (v11 : Int) (v12 : Int) (v15 : List R2) (v17 : Int)
 | h3 (v9 : List R4) (v10 : List R2) (v11 : Int) (v12 : Int) (v16 : Int)
def rjoC (x0 : Int) (l1 : List R4) (l2 : List R4) : rjoS → Cfg
 | .h0 v9 v10 v11 v12 => ⟨⟨121, 0, true⟩, none, (Zi Tryz.prog 115 [1, 1, 1, 1, 1, 0, 1, 0, 0] 0), none, (Zy Tryz.prog 4), ⟨Yo [(0, (ii x0)), (1, (.dat l1.length (Zz l1))), (2, (.dat l2.length (Zz l2))), (7, (.dat (xsV (cvT l1) (cvT l2)).length (Zz (xsV (cvT l1) (cvT l2))))), (8, (.dat (ysV (cvT l1) (cvT l2)).length (Zz (ysV (cvT l1) (cvT l2))))), (9, (.sla 0 4 0 v9.length (.un 4))), (10, (.dat v10.length (Zz v10))), (11, (ii v11)), (12, (ii v12))], Uz [⟨rows v9.length (Zz v9), 114, some ⟨4, v9.length, (Zz v9)⟩⟩] 0, 1, [], true⟩, [], .leaf⟩
 | .h1 v9 v10 v11 v12 v13 v14 => ⟨⟨121, 0, true⟩, none, (Zi Tryz.prog 115 [1, 1, 1, 1, 1, 0, 1, 0, 0, 1, 0, 0, 1, 0, 1, 0, 0] 0), none, (Zy Tryz.prog 4), ⟨Yo [(0, (ii x0)), (1, (.dat l1.length (Zz l1))), (2, (.dat l2.length (Zz l2))), (7, (.dat (xsV (cvT l1) (cvT l2)).length (Zz (xsV (cvT l1) (cvT l2))))), (8, (.dat (ysV (cvT l1) (cvT l2)).length (Zz (ysV (cvT l1) (cvT l2))))), (9, (.sla 1 4 0 v9.length (.un 4))), (10, (.dat v10.length (Zz v10))), (11, (ii v11)), (12, (ii v12)), (13, (.sla 0 1 0 v13.length (.un 1))), (14, (ii v14))], Uz [⟨rows v13.length (Zz v13), 4, some ⟨1, v13.length, (Zz v13)⟩⟩, ⟨rows v9.length (Zz v9), 114, some ⟨4, v9.length, (Zz v9)⟩⟩] 0, 2, [], true⟩, [], .leaf⟩
 | .h2 v9 v10 v11 v12 v15 v17 => ⟨⟨121, 0, true⟩, none, (Zi Tryz.prog 115 [1, 1, 1, 1, 1, 0, 1, 0, 0, 1, 0, 0, 1, 1, 1, 1, 1, 1, 0, 0] 0), none, (Zy Tryz.prog 4), ⟨Yo [(0, (ii x0)), (1, (.dat l1.length (Zz l1))), (2, (.dat l2.length (Zz l2))), (7, (.dat (xsV (cvT l1) (cvT l2)).length (Zz (xsV (cvT l1) (cvT l2))))), (8, (.dat (ysV (cvT l1) (cvT l2)).length (Zz (ysV (cvT l1) (cvT l2))))), (9, (.sla 0 4 0 v9.length (.un 4))), (10, (.dat v10.length (Zz v10))), (11, (ii v11)), (12, (ii v12)), (15, (.dat v15.length (Zz v15))), (17, (ii v17))], Uz [⟨rows v9.length (Zz v9), 114, some ⟨4, v9.length, (Zz v9)⟩⟩] 0, 1, [], true⟩, [], .leaf⟩
 | .h3 v9 v10 v11 v12 v16 => ⟨⟨121, 0, true⟩, none, (Zi Tryz.prog 115 [1, 1, 1, 1, 1, 0, 1, 0, 0, 1, 0, 0, 1, 1, 1, 0, 1, 0, 0, 1, 0, 0] 0), none, (Zy Tryz.prog 4), ⟨Yo [(0, (ii x0)), (1, (.dat l1.length (Zz l1))), (2, (.dat l2.length (Zz l2))), (7, (.dat (xsV (cvT l1) (cvT l2)).length (Zz (xsV (cvT l1) (cvT l2))))), (8, (.dat (ysV (cvT l1) (cvT l2)).length (Zz (ysV (cvT l1) (cvT l2))))), (9, (.sla 0 4 0 v9.length (.un 4))), (10, (.dat v10.length (Zz v10))), (11, (ii v11)), (12, (ii v12)), (16, (ii v16))], Uz [⟨rows v9.length (Zz v9), 114, some ⟨4, v9.length, (Zz v9)⟩⟩] 0, 1, [], true⟩, [], .leaf⟩
def w6b : List (Option (List Nat)) := [some [0, 1, 2, 7, 8, 9, 10, 11, 12]]
def w6d : List (Option (List Nat)) := []
def rjoN1 : List (Option (List Nat)) := [some [0, 1, 2, 7, 8, 9, 10, 11, 12, 13, 14]]
def rjoM1 : List (Option (List Nat)) := []
def w6a : List (Option (List Nat)) := [some [0, 1, 2, 7, 8, 9, 10, 11, 12, 15, 17]]
def w6c : List (Option (List Nat)) := []
def rjoN3 : List (Option (List Nat)) := [some [0, 1, 2, 7, 8, 9, 10, 11, 12, 16]]
def rjoM3 : List (Option (List Nat)) := []
def Xo (x0 : Int) (l1 : List R4) (l2 : List R4) : rjoS → Xg rjoS
 | .h0 v9 v10 v11 v12 => (bif (decide ((IntKind.wrap .i64 (v12 + 1)) < (((xsV (cvT l1) (cvT l2)).length : Nat) : Int))) then (.to (.h1 v9 v10 v11 v12 ([] : List Bool) 0)) else (.ret [(.dat v9.length (Zz v9))]))
 | .h1 v9 v10 v11 v12 v13 v14 => (bif (decide (v14 < (((ysV (cvT l1) (cvT l2)).length : Nat) : Int))) then (bif (Ud (cvT l1) (rd (xsV (cvT l1) (cvT l2)) v12.toNat) (rd (ysV (cvT l1) (cvT l2)) v14.toNat)) then (bif ((decide (0 ≤ v12 ∧ v12 < (((xsV (cvT l1) (cvT l2)).length : Nat) : Int))) && true) then (bif ((decide (0 ≤ v14 ∧ v14 < (((ysV (cvT l1) (cvT l2)).length : Nat) : Int))) && true) then (bif (Ud (cvT l2) (rd (xsV (cvT l1) (cvT l2)) v12.toNat) (rd (ysV (cvT l1) (cvT l2)) v14.toNat)) then (bif (Nat.beq 1 1 && ((decide (0 + v13.length = v13.length)) && decide ((v13.length + 1 + 1) * (1 + 1) ≤ Ka))) then (.to (.h1 v9 v10 v11 v12 (v13 ++ [(Ji x0 (has4V (cvT l1) (rd (xsV (cvT l1) (cvT l2)) v12.toNat) (rd (ysV (cvT l1) (cvT l2)) v14.toNat)) (has4V (cvT l2) (rd (xsV (cvT l1) (cvT l2)) v12.toNat) (rd (ysV (cvT l1) (cvT l2)) v14.toNat)))]) (IntKind.wrap .i64 (v14 + 1)))) else .stuck) else .stuck) else .stuck) else .stuck) else .stuck) else (bif (z3f (cvT (ysV (cvT l1) (cvT l2))) (cvT v13)) then (bif (decide (v12 > 0)) then (bif (Wr (cvT (z4w (cvT (ysV (cvT l1) (cvT l2))) (cvT v13))) (cvT v10)) then (bif (Jg (cvT (z4w (cvT (ysV (cvT l1) (cvT l2))) (cvT v13))) (cvT v10)) then (.to (.h3 v9 v10 v11 v12 v11)) else (.to (.h2 v9 (z4w (cvT (ysV (cvT l1) (cvT l2))) (cvT v13)) (v9.length : Int) v12 (z4w (cvT (ysV (cvT l1) (cvT l2))) (cvT v13)) 0))) else .stuck) else (.to (.h2 v9 (z4w (cvT (ysV (cvT l1) (cvT l2))) (cvT v13)) (v9.length : Int) v12 (z4w (cvT (ysV (cvT l1) (cvT l2))) (cvT v13)) 0))) else .stuck))
 | .h2 v9 v10 v11 v12 v15 v17 => (bif (decide (v17 < (v15.length : Int))) then (bif ((decide (0 ≤ v12 ∧ v12 < (((xsV (cvT l1) (cvT l2)).length : Nat) : Int))) && true) then (bif ((decide (0 ≤ (IntKind.wrap .i64 (v12 + 1)) ∧ (IntKind.wrap .i64 (v12 + 1)) < (((xsV (cvT l1) (cvT l2)).length : Nat) : Int))) && true) then (bif ((decide (0 ≤ v17 ∧ v17 < (v15.length : Int))) && true) then (bif (Nat.beq 4 4 && ((decide (0 + v9.length = v9.length)) && decide ((v9.length + 1 + 1) * (32 + 1) ≤ Ka))) then (.to (.h2 (v9 ++ [(R4.mk (rd (xsV (cvT l1) (cvT l2)) v12.toNat) (rd v15 v17.toNat).a (rd (xsV (cvT l1) (cvT l2)) (Int.toNat (IntKind.wrap .i64 (v12 + 1)))) (rd v15 v17.toNat).b)]) v10 v11 v12 v15 (IntKind.wrap .i64 (v17 + 1)))) else .stuck) else .stuck) else .stuck) else .stuck) else (.to (.h0 v9 v10 v11 (IntKind.wrap .i64 (v12 + 1)))))
 | .h3 v9 v10 v11 v12 v16 => (bif (decide (v16 < (v9.length : Int))) then (bif ((decide (0 ≤ (IntKind.wrap .i64 (v12 + 1)) ∧ (IntKind.wrap .i64 (v12 + 1)) < (((xsV (cvT l1) (cvT l2)).length : Nat) : Int))) && true) then (bif ((decide (0 ≤ v16 ∧ v16 < (v9.length : Int))) && true) then (bif (decide ((0 + v16.toNat) < v9.length)) then (.to (.h3 (v9.set (0 + v16.toNat) (R4.mk (rd v9 (0 + v16.toNat)).a (rd v9 (0 + v16.toNat)).b (rd (xsV (cvT l1) (cvT l2)) (Int.toNat (IntKind.wrap .i64 (v12 + 1)))) (rd v9 (0 + v16.toNat)).d)) v10 v11 v12 (IntKind.wrap .i64 (v16 + 1)))) else .stuck) else .stuck) else .stuck) else (.to (.h0 v9 v10 v11 (IntKind.wrap .i64 (v12 + 1)))))
def z5q (x0 : Int) (l1 : List R4) (l2 : List R4) : Xg rjoS := (bif (z5d (cvT l1) (cvT l2)) then (bif (z5c (cvT l1) (cvT l2)) then (.to (.h0 ([] : List R4) ([] : List R2) 0 0)) else .stuck) else .stuck)
theorem x1b (x0 : Int) (l1 : List R4) (l2 : List R4) : ∀ s, Xt Tryz.prog (Zy Tryz.prog 115) (rjoC x0 l1 l2) (rjoC x0 l1 l2 s) (Xo x0 l1 l2 s)
 | .h0 v9 v10 v11 v12 => (lb (fun k0 => (sl z4b 24 [(4, 1, Zz ([] : List Bool))] ⟨[1, 0], [], rjoN1, rjoM1⟩ ⟨[(13, .grow 0 1)], [], []⟩ [true] (pp (fl ([] : List Bool) (fl v9 nn)) (tt k0 nn)))) (fun k0 => (lr 121 3 [1, 1, 1, 1, 1, 1, 0] 1 4 [(6, (.dat v9.length (Zz v9)))] (sl z4b 16 [] ⟨[], [0], [some [6]], []⟩ ⟨[(6, .frz v9.length v9.length (Zz v9) (Zz v9))], [], []⟩ [false] (pp (xZ (y1y 4 4 0 v9.length v9.length (Zz v9)) v9.length (Zz v9)) (pp (xL v9.length v9.length) (pp (xS v9.length (Zz v9) (Zz v9)) (pp (fl v9 nn) (tt k0 nn)))))))))
 | .h1 v9 v10 v11 v12 v13 v14 => (lb (fun k0 => (lo fun o0 => (lo fun o1 => (lo fun o2 => (lo fun o3 => (lo fun o4 => (sl z4b 20 [] ⟨[3, 1], [], rjoN1, rjoM1⟩ ⟨[(13, .len (v13 ++ [(Ji x0 (has4V (cvT l1) (rd (xsV (cvT l1) (cvT l2)) (tn v12)) (rd (ysV (cvT l1) (cvT l2)) (tn v14))) (has4V (cvT l2) (rd (xsV (cvT l1) (cvT l2)) (tn v12)) (rd (ysV (cvT l1) (cvT l2)) (tn v14))))]).length)], [.rowed 1 (v13 ++ [(Ji x0 (has4V (cvT l1) (rd (xsV (cvT l1) (cvT l2)) (tn v12)) (rd (ysV (cvT l1) (cvT l2)) (tn v14))) (has4V (cvT l2) (rd (xsV (cvT l1) (cvT l2)) (tn v12)) (rd (ysV (cvT l1) (cvT l2)) (tn v14))))]).length (Zz (v13 ++ [(Ji x0 (has4V (cvT l1) (rd (xsV (cvT l1) (cvT l2)) (tn v12)) (rd (ysV (cvT l1) (cvT l2)) (tn v14))) (has4V (cvT l2) (rd (xsV (cvT l1) (cvT l2)) (tn v12)) (rd (ysV (cvT l1) (cvT l2)) (tn v14))))])), .keep], []⟩ [true] (pp (xL (v13.length + 1) (v13 ++ [(Ji x0 (has4V (cvT l1) (rd (xsV (cvT l1) (cvT l2)) (tn v12)) (rd (ysV (cvT l1) (cvT l2)) (tn v14))) (has4V (cvT l2) (rd (xsV (cvT l1) (cvT l2)) (tn v12)) (rd (ysV (cvT l1) (cvT l2)) (tn v14))))]).length) (pp (xL (v13.length + 1) (v13 ++ [(Ji x0 (has4V (cvT l1) (rd (xsV (cvT l1) (cvT l2)) (tn v12)) (rd (ysV (cvT l1) (cvT l2)) (tn v14))) (has4V (cvT l2) (rd (xsV (cvT l1) (cvT l2)) (tn v12)) (rd (ysV (cvT l1) (cvT l2)) (tn v14))))]).length) (pp (xS (v13.length + 1) (Zf (Zz v13) 0 v13.length 1 [(.bool (Ji x0 (has4V (cvT l1) (rd (xsV (cvT l1) (cvT l2)) (tn v12)) (rd (ysV (cvT l1) (cvT l2)) (tn v14))) (has4V (cvT l2) (rd (xsV (cvT l1) (cvT l2)) (tn v12)) (rd (ysV (cvT l1) (cvT l2)) (tn v14)))))]) (Zz (v13 ++ [(Ji x0 (has4V (cvT l1) (rd (xsV (cvT l1) (cvT l2)) (tn v12)) (rd (ysV (cvT l1) (cvT l2)) (tn v14))) (has4V (cvT l2) (rd (xsV (cvT l1) (cvT l2)) (tn v12)) (rd (ysV (cvT l1) (cvT l2)) (tn v14))))]))) (pp (pp (xF (Zf (Zz v13) 0 v13.length 1 [(.bool (Ji x0 (has4V (cvT l1) (rd (xsV (cvT l1) (cvT l2)) (tn v12)) (rd (ysV (cvT l1) (cvT l2)) (tn v14))) (has4V (cvT l2) (rd (xsV (cvT l1) (cvT l2)) (tn v12)) (rd (ysV (cvT l1) (cvT l2)) (tn v14)))))])) (fl v9 nn)) (ww o4 (pp (pp (xr l2) (xw o3)) (ww o2 (ww o1 (pp (pp (xr l1) (xw o0)) (ww o2 (ww o1 (tt k0 nn))))))))))))))))))) (fun k0 => (Kj (sl z4b (C' := ⟨⟨121, 0, true⟩, (Ja Tryz.prog 115 [1, 1, 1, 1, 1, 0, 1, 0, 0, 1, 0, 0, 1, 1, 0] 2), (Zi Tryz.prog 115 [1, 1, 1, 1, 1, 0, 1, 0, 0, 1, 0, 0, 1, 1, 0] 1), none, (Zy Tryz.prog 4), ⟨Yo [(0, (ii x0)), (1, (.dat l1.length (Zz l1))), (2, (.dat l2.length (Zz l2))), (7, (.dat (xsV (cvT l1) (cvT l2)).length (Zz (xsV (cvT l1) (cvT l2))))), (8, (.dat (ysV (cvT l1) (cvT l2)).length (Zz (ysV (cvT l1) (cvT l2))))), (9, (.sla 0 4 0 v9.length (.un 4))), (10, (.dat v10.length (Zz v10))), (11, (ii v11)), (12, (ii v12)), (62, (.dat (ysV (cvT l1) (cvT l2)).length (Zz (ysV (cvT l1) (cvT l2))))), (63, (.dat v13.length (Zz v13)))], Uz [⟨rows v9.length (Zz v9), 114, some ⟨4, v9.length, (Zz v9)⟩⟩] 0, 1, [], true⟩, [], .leaf⟩) 14 [] ⟨[1], [0], [some [0, 1, 2, 7, 8, 9, 10, 11, 12, 62, 63]], []⟩ ⟨[(63, .frz v13.length v13.length (Zz v13) (Zz v13))], [], []⟩ [false] (pp (xZ (y1y 1 1 0 v13.length v13.length (Zz v13)) v13.length (Zz v13)) (pp (xL v13.length v13.length) (pp (xS v13.length (Zz v13) (Zz v13)) (pp (fl v9 nn) (pp (fl v13 nn) (tt k0 nn))))))) (lo fun o1_0 => (lb (fun k1 => (lo fun o2_0 => (lb (fun k2 => (sl z4b 23 [] ⟨[0], [], rjoN3, rjoM3⟩ ⟨[], [], []⟩ (trs 4 []) (pp (fl v9 nn) (tt k2 (pp (pp (xI R2 (z4w (cvT (ysV (cvT l1) (cvT l2))) (cvT v13)).length (Zz (z4w (cvT (ysV (cvT l1) (cvT l2))) (cvT v13)))) (pp (xr v10) (xw o2_0))) (tt k1 (pp (pp (xI Int (ysV (cvT l1) (cvT l2)).length (Zz (ysV (cvT l1) (cvT l2)))) (pp (xr v13) (xw o1_0))) nn))))))) (fun k2 => (sl z4b 30 [] ⟨[0], [], w6a, w6c⟩ ⟨[], [], []⟩ (trs 3 [false]) (pp (fl v9 nn) (tt k2 (pp (pp (xI R2 (z4w (cvT (ysV (cvT l1) (cvT l2))) (cvT v13)).length (Zz (z4w (cvT (ysV (cvT l1) (cvT l2))) (cvT v13)))) (pp (xr v10) (xw o2_0))) (tt k1 (pp (pp (xI Int (ysV (cvT l1) (cvT l2)).length (Zz (ysV (cvT l1) (cvT l2)))) (pp (xr v13) (xw o1_0))) nn)))))))))) (fun k1 => (sl z4b 30 [] ⟨[0], [], w6a, w6c⟩ ⟨[], [], []⟩ [false, false, false, false] (pp (fl v9 nn) (tt k1 (pp (pp (xI Int (ysV (cvT l1) (cvT l2)).length (Zz (ysV (cvT l1) (cvT l2)))) (pp (xr v13) (xw o1_0))) nn))))))))))
 | .h2 v9 v10 v11 v12 v15 v17 => (lb (fun k0 => (lo fun o0 => (lo fun o1 => (lo fun o2 => (lo fun o3 => (sl z4b 20 [] ⟨[2], [], w6a, w6c⟩ ⟨[(9, .len (v9 ++ [(R4.mk (rd (xsV (cvT l1) (cvT l2)) (tn v12)) (rd v15 (tn v17)).a (rd (xsV (cvT l1) (cvT l2)) (tn (wr (v12 + 1)))) (rd v15 (tn v17)).b)]).length)], [.rowed 4 (v9 ++ [(R4.mk (rd (xsV (cvT l1) (cvT l2)) (tn v12)) (rd v15 (tn v17)).a (rd (xsV (cvT l1) (cvT l2)) (tn (wr (v12 + 1)))) (rd v15 (tn v17)).b)]).length (Zz (v9 ++ [(R4.mk (rd (xsV (cvT l1) (cvT l2)) (tn v12)) (rd v15 (tn v17)).a (rd (xsV (cvT l1) (cvT l2)) (tn (wr (v12 + 1)))) (rd v15 (tn v17)).b)]))], []⟩ [true] (pp (xL (v9.length + 1) (v9 ++ [(R4.mk (rd (xsV (cvT l1) (cvT l2)) (tn v12)) (rd v15 (tn v17)).a (rd (xsV (cvT l1) (cvT l2)) (tn (wr (v12 + 1)))) (rd v15 (tn v17)).b)]).length) (pp (xL (v9.length + 1) (v9 ++ [(R4.mk (rd (xsV (cvT l1) (cvT l2)) (tn v12)) (rd v15 (tn v17)).a (rd (xsV (cvT l1) (cvT l2)) (tn (wr (v12 + 1)))) (rd v15 (tn v17)).b)]).length) (pp (xS (v9.length + 1) (Zf (Zz v9) 0 v9.length 4 [(ii (rd (xsV (cvT l1) (cvT l2)) (tn v12))), (ii (rd v15 (tn v17)).a), (ii (rd (xsV (cvT l1) (cvT l2)) (tn (wr (v12 + 1))))), (ii (rd v15 (tn v17)).b)]) (Zz (v9 ++ [(R4.mk (rd (xsV (cvT l1) (cvT l2)) (tn v12)) (rd v15 (tn v17)).a (rd (xsV (cvT l1) (cvT l2)) (tn (wr (v12 + 1)))) (rd v15 (tn v17)).b)]))) (pp (pp (xF (Zf (Zz v9) 0 v9.length 4 [(ii (rd (xsV (cvT l1) (cvT l2)) (tn v12))), (ii (rd v15 (tn v17)).a), (ii (rd (xsV (cvT l1) (cvT l2)) (tn (wr (v12 + 1))))), (ii (rd v15 (tn v17)).b)])) nn) (ww o3 (ww o2 (ww o1 (ww o2 (ww o0 (tt k0 nn)))))))))))))))) (fun k0 => (sl z4b 17 [] ⟨[0], [], w6b, w6d⟩ ⟨[], [], []⟩ [false] (pp (fl v9 nn) (tt k0 nn)))))
 | .h3 v9 v10 v11 v12 v16 => (lb (fun k0 => (lo fun o0 => (lo fun o1 => (lo fun o2 => (sl z4b 31 [] ⟨[0], [], rjoN3, rjoM3⟩ ⟨[(9, .len (v9.set (0 + (tn v16)) (R4.mk (rd v9 (0 + (tn v16))).a (rd v9 (0 + (tn v16))).b (rd (xsV (cvT l1) (cvT l2)) (tn (wr (v12 + 1)))) (rd v9 (0 + (tn v16))).d)).length)], [.rowed 4 (v9.set (0 + (tn v16)) (R4.mk (rd v9 (0 + (tn v16))).a (rd v9 (0 + (tn v16))).b (rd (xsV (cvT l1) (cvT l2)) (tn (wr (v12 + 1)))) (rd v9 (0 + (tn v16))).d)).length (Zz (v9.set (0 + (tn v16)) (R4.mk (rd v9 (0 + (tn v16))).a (rd v9 (0 + (tn v16))).b (rd (xsV (cvT l1) (cvT l2)) (tn (wr (v12 + 1)))) (rd v9 (0 + (tn v16))).d)))], []⟩ [true] (pp (xL v9.length (v9.set (0 + (tn v16)) (R4.mk (rd v9 (0 + (tn v16))).a (rd v9 (0 + (tn v16))).b (rd (xsV (cvT l1) (cvT l2)) (tn (wr (v12 + 1)))) (rd v9 (0 + (tn v16))).d)).length) (pp (xL v9.length (v9.set (0 + (tn v16)) (R4.mk (rd v9 (0 + (tn v16))).a (rd v9 (0 + (tn v16))).b (rd (xsV (cvT l1) (cvT l2)) (tn (wr (v12 + 1)))) (rd v9 (0 + (tn v16))).d)).length) (pp (xS v9.length (Xc (Zz v9) (0 + (tn v16)) 2 [(ii (rd (xsV (cvT l1) (cvT l2)) (tn (wr (v12 + 1)))))]) (Zz (v9.set (0 + (tn v16)) (R4.mk (rd v9 (0 + (tn v16))).a (rd v9 (0 + (tn v16))).b (rd (xsV (cvT l1) (cvT l2)) (tn (wr (v12 + 1)))) (rd v9 (0 + (tn v16))).d)))) (pp (pp (xF (Xc (Zz v9) (0 + (tn v16)) 2 [(ii (rd (xsV (cvT l1) (cvT l2)) (tn (wr (v12 + 1)))))])) nn) (ww o2 (ww o1 (ww o0 (tt k0 nn))))))))))))) (fun k0 => (sl z4b 17 [] ⟨[0], [], w6b, w6d⟩ ⟨[], [], []⟩ [false] (pp (fl v9 nn) (tt k0 nn)))))
theorem y5u (x0 : Int) (l1 : List R4) (l2 : List R4) : Xt Tryz.prog (Zy Tryz.prog 115) (rjoC x0 l1 l2) (Zd Tryz.prog 115 [(.int .i64 x0), (.dat l1.length (Zz l1)), (.dat l2.length (Zz l2))] true []) (z5q x0 l1 l2) := (lo fun o0 => (lo fun o1 => (sl z4b 34 [(114, 4, Zz ([] : List R4))] ⟨[0], [], w6b, w6d⟩ ⟨[(9, .grow 0 4), (10, .list 0 (Zz ([] : List R2)))], [], []⟩ [] (pp (fl ([] : List R4) nn) (pp (pp (xr l1) (pp (xr l2) (xw o1))) (pp (pp (xr l1) (pp (xr l2) (xw o0))) nn))))))
theorem x8w (x0 : Int) (l1 : List R4) (l2 : List R4) (n : Nat) (vs : List AVal) (h : Yk (Xo x0 l1 l2) n (z5q x0 l1 l2) = .ret vs) : Kz Tryz.prog (Zy Tryz.prog 115) (Zd Tryz.prog 115 [(.int .i64 x0), (.dat l1.length (Zz l1)), (.dat l2.length (Zz l2))] true []) vs := by
 have := Zr (x1b x0 l1 l2) n _ (y5u x0 l1 l2)
 rwa [h] at this
end Go.Am
namespace Go.Am
open Go.Proofs
theorem Kq : ∀ (l out : List Int), (l.foldl z7i out).length ≤ out.length + l.length
 | [], out => Nat.le_refl _
 | x :: l, out => Nat.le_trans (Kq l (z7i out x)) (by have := z7h out x; simp; omega)
theorem z1b (l : List Int) : (Qk l).length ≤ l.length := by
 have := Kq l []
 simpa [Qk] using this
theorem z7x (cuts : List Int) (ins : List Bool) : ∀ (k i : Nat) (out : List R2), (x3d cuts ins k i out).length ≤ out.length + k
 | 0, _, out => Nat.le_refl _
 | k + 1, i, out => by
  unfold x3d
  refine Nat.le_trans (z7x cuts ins k (i + 1) _) ?_
  cases rd ins i
  ·simp only [cond_false]; omega
  ·simp only [cond_true]
   cases (decide (0 < out.length) && ((rd out (out.length - 1)).b == rd cuts i)) <;> simp <;> omega
theorem y7v (cuts : List Int) (ins : List Bool) : (z4w cuts ins).length ≤ cuts.length := by
 have := z7x cuts ins (cuts.length - 1) 0 []
 unfold z4w
 simp only [List.length_nil] at this
 omega
section
variable (kind : Int) (l m : List R4)
def w1u (x : Int) (y : Int) : Bool := Ji kind (has4V l x y) (has4V m x y)
def y8m (x : Int) : List R2 := z4w (ysV l m) ((ysV l m).map (w1u kind l m x))
def x7x (out : List R4) (first : Nat) (x : Int) : List R4 := out.take first ++ (out.drop first).map fun r => ⟨r.a, r.b, x, r.d⟩
def w6o (x x' : Int) (s : List R2) : List R4 := s.map fun p => ⟨x, p.a, x', p.b⟩
def jF : Nat → Nat → List R4 → List R2 → Nat → List R4
 | 0, _, out, _, _ => out
 | k + 1, i, out, last, first =>
  bif decide (0 < i) && Jg (y8m kind l m (rd (xsV l m) i)) last then jF k (i + 1) (x7x out first (rd (xsV l m) (i + 1))) last first
  else jF k (i + 1) (out ++ w6o (rd (xsV l m) i) (rd (xsV l m) (i + 1)) (y8m kind l m (rd (xsV l m) i))) (y8m kind l m (rd (xsV l m) i)) out.length
def joV : List R4 := jF kind l m ((xsV l m).length - 1) 0 [] [] 0
end
def Jh (_ : Int) (l m : List R4) : Bool := decide (l.length ≤ 10000 ∧ m.length ≤ 10000)
theorem Vc (l m : List R4) : (xsV l m).length ≤ 2 * l.length + 2 * m.length := by
 refine Nat.le_trans (z1b _) ?_
 rw [List.length_append, Jp, Jp]; omega
theorem z8w (l m : List R4) : (ysV l m).length ≤ 2 * l.length + 2 * m.length := by
 refine Nat.le_trans (z1b _) ?_
 rw [List.length_append, Jq, Jq]; omega
section
variable (kind : Int) (l m : List R4) (hl : l.length ≤ 10000) (hm : m.length ≤ 10000)
include hl hm
theorem w3e (out : List R4) (last : List R2) (first : Int) (i : Nat) (hi : i + 1 < (xsV l m).length) : ∀ (k j : Nat) (acc : List Bool), j + k = (ysV l m).length → acc.length = j →
  ∃ n, ∀ N, Yk (Xo kind l m) (N + n) (.to (.h1 out last first (i : Int) acc (j : Int))) = Yk (Xo kind l m) N (.to (.h1 out last first (i : Int) (acc ++ ((ysV l m).drop j).map (w1u kind l m (rd (xsV l m) i))) ((ysV l m).length : Int)))
 | 0, j, acc, h, ha => by
  refine ⟨0, fun N => ?_⟩
  rw [List.drop_eq_nil_of_le (by omega), List.map_nil, List.append_nil, Nat.add_zero]
  rw [show j = (ysV l m).length by omega]
 | k + 1, j, acc, h, ha => by
  have hx := Vc l m
  have hy := z8w l m
  obtain ⟨n, hn⟩ := w3e out last first i hi k (j + 1) (acc ++ [w1u kind l m (rd (xsV l m) i) (rd (ysV l m) j)]) (by omega) (by simp [ha])
  refine ⟨n + 1, fun N => ?_⟩
  have w1 : ∀ x y, Ud l x y = true := fun x y => decide_eq_true (by omega)
  have w2 : ∀ x y, Ud m x y = true := fun x y => decide_eq_true (by omega)
  rw [Yd (show j < (ysV l m).length by omega), List.map_cons, ← Nat.add_assoc, Zv]
  simp (disch := omega) only [Xo, Zo, Zp, w1, w2, Yy, Yx, Yj, Yf, Yz, Zq, Zw, Yi, Zk, Nat.zero_add, decide_true, Bool.and_true, Bool.true_and, cond_true]
  have := hn N
  rw [List.append_assoc] at this
  exact this
theorem w3d (last : List R2) (first : Int) (i : Nat) (hi : i + 1 < (xsV l m).length) (s : List R2) (hs : s.length ≤ 1000000) : ∀ (k j : Nat) (out : List R4), j + k = s.length → out.length ≤ 10000000000 + j →
  ∃ n, ∀ N, Yk (Xo kind l m) (N + n) (.to (.h2 out last first (i : Int) s (j : Int))) = Yk (Xo kind l m) N (.to (.h0 (out ++ w6o (rd (xsV l m) i) (rd (xsV l m) (i + 1)) (s.drop j)) last first ((i + 1 : Nat) : Int)))
 | 0, j, out, h, ho => by
  have hx := Vc l m
  refine ⟨1, fun N => ?_⟩
  rw [List.drop_eq_nil_of_le (by omega), Zv]
  simp (disch := omega) only [Xo, Zo, Zp, Yv, Zq, Zw, cond_false, w6o, List.map_nil, List.append_nil]
 | k + 1, j, out, h, ho => by
  have hx := Vc l m
  obtain ⟨n, hn⟩ := w3d last first i hi s hs k (j + 1) (out ++ w6o (rd (xsV l m) i) (rd (xsV l m) (i + 1)) [rd s j]) (by omega) (by simp [w6o]; omega)
  refine ⟨n + 1, fun N => ?_⟩
  have := hn N
  rw [Yd (show j < s.length by omega), ← Nat.add_assoc, Zv]
  simp (disch := omega) only [Xo, Zo, Zp, Yy, Yx, Yj, Yf, Yz, Zq, Zw, Yi, Zk, Nat.zero_add, decide_true, Bool.and_true, Bool.true_and, cond_true]
  rw [List.append_assoc] at this
  exact this
theorem w0v (out : List R4) (j : Nat) (x : Int) (h : j < out.length) : x7x (out.set j ⟨(rd out j).a, (rd out j).b, x, (rd out j).d⟩) (j + 1) x = x7x out j x := by
 have _uhl := hl
 have _uhm := hm
 unfold x7x
 rw [Yd h, List.map_cons]
 have e1 : (out.set j ⟨(rd out j).a, (rd out j).b, x, (rd out j).d⟩).take (j + 1) = out.take j ++ [⟨(rd out j).a, (rd out j).b, x, (rd out j).d⟩] := by
  apply List.ext_getElem
  ·simp; omega
  ·intro n h1 h2
   simp only [List.getElem_take, List.getElem_set]
   by_cases e : j = n
   ·subst e
    rw [if_pos rfl, List.getElem_append_right (by simp only [List.length_take]; omega)]
    simp
   ·rw [if_neg e, List.getElem_append_left (by simp at h1 ⊢; omega), List.getElem_take]
 have e2 : (out.set j ⟨(rd out j).a, (rd out j).b, x, (rd out j).d⟩).drop (j + 1) = out.drop (j + 1) := by
  rw [List.drop_set]; rw [if_pos (by omega)]
 rw [e1, e2, List.append_assoc]; rfl
theorem w3c (last : List R2) (first : Int) (i : Nat) (hi : i + 1 < (xsV l m).length) : ∀ (k j : Nat) (out : List R4), j + k = out.length → out.length ≤ 10000000000 →
  ∃ n, ∀ N, Yk (Xo kind l m) (N + n) (.to (.h3 out last first (i : Int) (j : Int))) = Yk (Xo kind l m) N (.to (.h0 (x7x out j (rd (xsV l m) (i + 1))) last first ((i + 1 : Nat) : Int)))
 | 0, j, out, h, ho => by
  have hx := Vc l m
  refine ⟨1, fun N => ?_⟩
  have e : x7x out j (rd (xsV l m) (i + 1)) = out := by
   unfold x7x; rw [List.drop_eq_nil_of_le (by omega), List.map_nil, List.append_nil, List.take_of_length_le (by omega)]
  rw [e, Zv]
  simp (disch := omega) only [Xo, Zo, Zp, Yv, Zq, Zw, cond_false]
 | k + 1, j, out, h, ho => by
  have hx := Vc l m
  obtain ⟨n, hn⟩ := w3c last first i hi k (j + 1) (out.set j ⟨(rd out j).a, (rd out j).b, rd (xsV l m) (i + 1), (rd out j).d⟩) (by simp; omega) (by simpa using ho)
  refine ⟨n + 1, fun N => ?_⟩
  have := hn N
  rw [w0v l m hl hm out j _ (by omega)] at this
  rw [← Nat.add_assoc, Zv]
  simp (disch := omega) only [Xo, Zo, Zp, Yy, Yx, Ya, Yj, Yf, Yz, Zq, Zw, Yi, Zk, Nat.zero_add, decide_true, Bool.and_true, Bool.true_and, cond_true]
  exact this
theorem x4o : ∀ (k i : Nat) (out : List R4) (last : List R2) (first : Nat), k = (xsV l m).length - 1 - i → i ≤ (xsV l m).length → out.length ≤ i * 40000 → last.length ≤ 40000 → first ≤ out.length →
  ∃ n, Yk (Xo kind l m) n (.to (.h0 out last (first : Int) (i : Int))) = .ret [.dat (jF kind l m k i out last first).length (Zz (jF kind l m k i out last first))]
 | 0, i, out, last, first, h, hi, ho, hla, hf => by
  have hx := Vc l m
  refine ⟨1, ?_⟩
  rw [Zv]
  simp (disch := omega) only [Xo, Zo, Zp, Yv, Zq, Zw, cond_false, Zm, jF]
 | k + 1, i, out, last, first, h, hi, ho, hla, hf => by
  have hx := Vc l m
  have hy := z8w l m
  have hi1 : i + 1 < (xsV l m).length := by omega
  have hsl : (y8m kind l m (rd (xsV l m) i)).length ≤ 40000 := Nat.le_trans (y7v _ _) (by omega)
  have hbig : i * 40000 ≤ 40000 * 40000 := Nat.mul_le_mul_right _ (by omega)
  obtain ⟨n1, h1⟩ := w3e kind l m hl hm out last first i hi1 (ysV l m).length 0 [] (Nat.zero_add _) rfl
  simp only [List.drop_zero, List.nil_append, y1k] at h1
  have w3 : z3f (ysV l m) ((ysV l m).map (w1u kind l m (rd (xsV l m) i))) = true := decide_eq_true ⟨by omega, by rw [List.length_map]; omega⟩
  have w4 : Wr (z4w (ysV l m) ((ysV l m).map (w1u kind l m (rd (xsV l m) i)))) last = true := decide_eq_true (Nat.le_trans hsl (by omega))
  have hy2 : ((ysV l m).length : Int) = (((ysV l m).length : Nat) : Int) := rfl
  unfold jF
  rcases Yp (decide (0 < i) && Jg (y8m kind l m (rd (xsV l m) i)) last) with q | q
  ·obtain ⟨n3, h3⟩ := w3c kind l m hl hm last first i hi1 (out.length - first) first out (by omega) (by omega)
   obtain ⟨n0, h0⟩ := x4o k (i + 1) (x7x out first (rd (xsV l m) (i + 1))) last first (by omega) (by omega) (by simp [x7x]; omega) hla (by simp [x7x]; omega)
   refine ⟨n0 + n3 + 1 + n1 + 1, ?_⟩
   rw [q, cond_true, Zv]
   simp only [Bool.and_eq_true, decide_eq_true_eq] at q
   have q2 : Jg (z4w (ysV l m) ((ysV l m).map (w1u kind l m (rd (xsV l m) i)))) last = true := q.2
   simp (disch := omega) only [Xo, Zo, Zp, Yy, Zq, Zw, cond_true]
   have h1' := h1 (n0 + n3 + 1)
   rw [h1', Zv]
   simp (disch := omega) only [Xo, Zo, Zp, Yv, Yh, q2, w3, w4, cond_true, cond_false]
   rw [h3 n0, h0]
  ·obtain ⟨n2, h2⟩ := w3d kind l m hl hm (y8m kind l m (rd (xsV l m) i)) (out.length : Int) i hi1 (y8m kind l m (rd (xsV l m) i)) (by omega) (y8m kind l m (rd (xsV l m) i)).length 0 out (Nat.zero_add _) (by omega)
   obtain ⟨n0, h0⟩ := x4o k (i + 1) (out ++ w6o (rd (xsV l m) i) (rd (xsV l m) (i + 1)) (y8m kind l m (rd (xsV l m) i))) (y8m kind l m (rd (xsV l m) i)) out.length (by omega) (by omega) (by simp [w6o]; omega) hsl (by simp)
   refine ⟨n0 + n2 + 1 + n1 + 1, ?_⟩
   rw [q, cond_false, Zv]
   simp (disch := omega) only [Xo, Zo, Zp, Yy, Zq, Zw, cond_true]
   have h1' := h1 (n0 + n2 + 1)
   rw [h1', Zv]
   have h2' := h2 n0
   simp only [List.drop_zero, y1k] at h2'
   by_cases hi0 : 0 < i
   ·rw [decide_eq_true hi0, Bool.true_and] at q
    have q2 : Jg (z4w (ysV l m) ((ysV l m).map (w1u kind l m (rd (xsV l m) i)))) last = false := q
    simp (disch := omega) only [Xo, Zo, Zp, Yv, Yh, q2, w3, w4, cond_true, cond_false]
    rw [← h0]; exact h2'
   ·simp (disch := omega) only [Xo, Zo, Zp, Yv, Xx, w3, w4, cond_true, cond_false]
    rw [← h0]; exact h2'
end
theorem w5z (kind : Int) (l m : List R4) (h : Jh kind l m = true) : ∃ N, Yk (Xo kind l m) N (z5q kind l m) = .ret [.dat (joV kind l m).length (Zz (joV kind l m))] := by
 obtain ⟨hl, hm⟩ := of_decide_eq_true h
 obtain ⟨N, hN⟩ := x4o kind l m hl hm ((xsV l m).length - 1) 0 [] [] 0 rfl (Nat.zero_le _) (Nat.zero_le _) (Nat.zero_le _) (Nat.le_refl _)
 refine ⟨N, ?_⟩
 have w1 : z5d l m = true := decide_eq_true ⟨hl, hm⟩
 have w2 : z5c l m = true := decide_eq_true ⟨hl, hm⟩
 simp only [z5q, Zo, Zp, w1, w2, cond_true]
 exact hN
end Go.Am
namespace Go.Am
open Go.Proofs
theorem fTwo {P : Program} {S : Specs} (hS : Zu P S) {f : FuncId} {F : List AVal → Option (AVal × Bool)} (hf : (P.funcs[f]?).any (fun fn => fn.body.isSome) = true)
  (hF : ∀ args v, F args = some (v, true) → ∃ bs vs, Wz VLe args bs ∧ (∀ (ρ : Rho) (u : Value), Ze ρ (Ur vs) u → Ze ρ v u) ∧ Kz P (Zy P f) (Zd P f bs true []) vs ∧ ∃ d, pf d (Ur vs) = true) : Zu P (S.with f F) :=
 x0c hS hf fun args v h => by
  obtain ⟨bs, vs, h1, h2, h3, d, h4⟩ := hF args v h
  exact ⟨vs, h2, y3w h1 h3, d, h4⟩
theorem z6i {cs cs' : List AVal} (h : RLe cs cs') (ρ : Rho) (u : Value) (hv : Ze ρ (.tup cs) u) : Ze ρ (.tup cs') u := by
 cases hv with
 | tup _ vs hl hh => exact .tup cs' vs (by rw [← h.len]; exact hl) fun i h1 h2 => h.sound i (by rw [h.len]; exact h1) h1 (hh i (by rw [h.len]; exact h1) h2)
theorem z1j (α : Type) [Ye α] : VLe .nils (.dat ([] : List α).length (Zz ([] : List α))) := .nild _
def fJo : List AVal → Option (AVal × Bool)
 | [.int .i64 x0, a1, a2] => match asL R4 a1, asL R4 a2 with
  | some (L1, g1, n1), some (L2, g2, n2) => some (.dat (joV x0 L1 L2).length (Zz (joV x0 L1 L2)), isT R4 n1 g1 && (isT R4 n2 g2 && (Jh x0 L1 L2)))
  | _, _ => none
 | _ => none
theorem fJo_ok {S : Specs} (hS : Zu Tryz.prog S) : Zu Tryz.prog (S.with w3x fJo) := by
 refine z1t hS (by kernel_rfl) fun args v h => ?_
 unfold fJo at h
 split at h
 ·rename_i x0 a1 a2
  split at h
  ·rename_i L1 g1 n1 L2 g2 n2 e1 e2
   simp only [Option.some.injEq, Prod.mk.injEq, Bool.and_eq_true] at h
   obtain ⟨rfl, ho1, ho2, hw⟩ := h
   obtain ⟨N, hN⟩ := w5z x0 L1 L2 hw
   exact ⟨_, _, (.cons (.refl _) (.cons (asL_le e1 ho1) (.cons (asL_le e2 ho2) .nil))), rfl, x8w x0 L1 L2 N _ hN, 3, rfl⟩
  ·cases h
 ·cases h
def T3 : Specs := T2.with w3x fJo
theorem z4a : Zu Tryz.prog T3 := fJo_ok z4b
end Go.Am
namespace Go.Am
open Go.Proofs Go.Sort
def bnd3 (r : R3) : Bool := decide (-1000000000 ≤ r.a ∧ r.a ≤ 1000000000)
def y1z (l : List R3) : Bool := l.all bnd3
abbrev E3 := { r : R3 // bnd3 r = true }
instance : Inhabited E3 := ⟨⟨⟨0, 0, 0⟩, rfl⟩⟩
def cf3 (x y : E3) : Int := x.1.a - y.1.a
def lt3 (x y : E3) : Bool := decide (cf3 x y < 0)
theorem swo3 : SWO lt3 where
 irrefl x := by unfold lt3 cf3; simp
 trans x y z h1 h2 := by unfold lt3 cf3 at *; simp at *; omega
 ntrans x y z h1 h2 := by unfold lt3 cf3 at *; simp at *; omega
def y2a : (l : List R3) → y1z l = true → List E3
 | [], _ => []
 | r :: l, h => ⟨r, by simp [y1z] at h; exact h.1⟩ :: y2a l (by simp [y1z] at h ⊢; exact h.2)
theorem z6e : ∀ (l : List R3) (h : y1z l = true), (y2a l h).map Subtype.val = l
 | [], _ => rfl
 | r :: l, h => by rw [y2a, List.map_cons, z6e l]
theorem Vh (l : List R3) (h : y1z l = true) : (y2a l h).length = l.length := by
 have := congrArg List.length (z6e l h)
 simpa using this
def z1s (l : List R3) : List R3 := if h : y1z l = true then (pdq lt3 (y2a l h).toArray 0 l.length (Lib.bitLen l.length) true true).toList.map Subtype.val else l
theorem Ky (l : List R3) (h : y1z l = true) : (z1s l).Perm l ∧ ∀ i j, i < j → j < (z1s l).length → (rd (z1s l) i).a ≤ (rd (z1s l) j).a := by
 have hp := pdq_sorts lt3 swo3 (y2a l h).toArray 0 l.length (Lib.bitLen l.length) true true (Nat.zero_le _) (by simp [Vh]) (Or.inl rfl)
 obtain ⟨⟨h1, h2, h3⟩, h4⟩ := hp
 have e : z1s l = (pdq lt3 (y2a l h).toArray 0 l.length (Lib.bitLen l.length) true true).toList.map Subtype.val := by unfold z1s; rw [dif_pos h]
 generalize pdq lt3 (y2a l h).toArray 0 l.length (Lib.bitLen l.length) true true = d at *
 have hs : d.size = l.length := by rw [h1]; simp [Vh]
 constructor
 ·rw [e]
  have x1 : (d.extract 0 l.length).toList = d.toList := by rw [← hs]; simp
  have x2 : ((y2a l h).toArray.extract 0 l.length).toList = y2a l h := by
   rw [show l.length = (y2a l h).toArray.size by simp [Vh]]; simp
  rw [x1, x2] at h3
  have := h3.map Subtype.val
  rw [z6e] at this
  exact this
 ·intro i j hij hj
  rw [e] at hj ⊢
  have hj' : j < d.size := by simpa using hj
  have := h4 i j (Nat.zero_le _) hij (by omega)
  rw [getElem!_pos d i (by omega), getElem!_pos d j hj'] at this
  rw [Xe (by simp; omega), Xe hj]
  simp only [List.getElem_map, Array.getElem_toList]
  unfold lt3 cf3 at this
  have := of_decide_eq_false this
  omega
end Go.Am
end
