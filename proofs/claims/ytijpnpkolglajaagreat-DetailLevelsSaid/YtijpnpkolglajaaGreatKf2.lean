/- A part of a proof: several texts in one. -/
import Derived.Test.YtijpnpkolglajaaGreatKf1
import Derived.Sort.Grow
import Derived.Deep.Slices
import Derived.Deep.Fields
import Derived.ChangeSame
import Derived.OpenShut
import Derived.Test.YtijpnpkolglajaaGreatProg
import Derived.Sort.AssemblyPlain
import Derived.Lib.BitFns
set_option maxRecDepth 1000000
set_option maxHeartbeats 8000000
set_option linter.unusedVariables false
set_option linter.unusedSimpArgs false
noncomputable section
namespace Go.Am
structure z5m where
 keep : List Nat
 frz : List Nat
 slots : List (Option (List Nat))
 lslots : List (Option (List Nat)) := []
def y0l (b : Nat) : List Nat → Nat → Option Nat
 | [], _ => none
 | x :: l, i => bif Nat.beq x b then some i else y0l b l (i + 1)
def hasN (b : Nat) : List Nat → Bool
 | [] => false
 | x :: l => bif Nat.beq x b then true else hasN b l
def x7s (cells : List AVal) (off sz : Nat) : Nat → List AVal := fun k => (cells.drop (off + k * sz)).take sz
def frzV (P : Program) (blk : ABlk) : AVal → AVal
 | .ptr _ o => .dptr (blk.cells.drop o)
 | .sl _ off len _ => match P.info? blk.ty with
  | some i => bif Nat.ble (off + len * i.size) blk.cells.length then .dat len (x7s blk.cells off i.size) else .undef
  | none => .undef
 | .sla _ sz off len _ => match blk.arr with
  | some A => bif Nat.beq A.sz sz && Nat.ble (off + len) A.n then .dat len (fun k => A.get (off + k)) else .undef
  | none => .undef
 | _ => .undef
def renB (P : Program) (mem : Mem) (N : z5m) (b : Nat) (v : AVal) (f : Nat → AVal) : AVal :=
 match y0l b N.keep 0 with
 | some b' => f b'
 | none => bif hasN b N.frz then match Yr mem b with
   | some blk => frzV P blk v
   | none => .undef
  else .undef
def ren (P : Program) (mem : Mem) (N : z5m) : Nat → AVal → AVal
 | 0, _ => .undef
 | d + 1, v => match v with
  | .ptr b o => renB P mem N b (.ptr b o) fun b' => .ptr b' o
  | .sl b off len cap => renB P mem N b (.sl b off len cap) fun b' => .sl b' off len cap
  | .sla b sz off len cap => renB P mem N b (.sla b sz off len cap) fun b' => .sla b' sz off len cap
  | .epa b sz i fo => renB P mem N b (.epa b sz i fo) fun b' => .epa b' sz i fo
  | .yld j => match y0l j N.keep 0 with
   | some j' => .yld j'
   | none => .undef
  | .slv b sz off len => match y0l b N.keep 0 with
   | some b' => .slv b' sz off len
   | none => .undef
  | .agg cs => .agg (cs.map (ren P mem N d))
  | .tup cs => .tup (cs.map (ren P mem N d))
  | .fn f cs => .fn f (cs.map (ren P mem N d))
  | .fnb f cs => .fnb f (cs.map (ren P mem N d))
  | .ifc t v => .ifc t (ren P mem N d v)
  | v => v
def T.map (f : AVal → AVal) (t : T AVal) : T AVal :=
 T.rec (motive := fun _ => T AVal) .leaf (fun v _ _ l r => .node (f v) l r) t
def y0i (f : AVal → AVal) (env : T AVal) : List Nat → T AVal
 | [] => .leaf
 | t :: l => T.set .undef (y0i f env l) t (f (T.get .undef env t))
def v1q (f : AVal → AVal) (env : T AVal) : Option (List Nat) → T AVal
 | none => T.map f env
 | some l => y0i f env l
def z2n (f : AVal → AVal) : Rws → Rws
 | .flat g => .flat g
 | .one r cs b => .one r (cs.map f) (z2n f b)
 | .alt c a b => .alt c (z2n f a) (z2n f b)
def z9r (P : Program) (mem : Mem) (N : z5m) : ABlk → ABlk
 | ⟨cells, ty, none⟩ => ⟨cells.map (ren P mem N 6), ty, none⟩
 | ⟨_, ty, some A⟩ => ⟨rows A.n (z2n (ren P mem N 6) A.rw).get, ty, some ⟨A.sz, A.n, z2n (ren P mem N 6) A.rw⟩⟩
def y2u : Rws → Bool
 | .flat g => pd (∀ i, (g i).all (pf 6) = true)
 | .one _ _ b => y2u b
 | .alt _ a b => y2u a && y2u b
def w8f (blk : ABlk) : Bool := match blk.arr with
 | none => true
 | some A => y2u A.rw
def z4s (P : Program) (mem : Mem) (N : z5m) : List Nat → Nat → Mem × Bool
 | [], _ => (.leaf, true)
 | b :: l, i => match z4s P mem N l (i + 1) with
  | (m, o) => match Yr mem b with
   | none => (m, o)
   | some blk => (Xs m i (some (z9r P mem N blk)), w8f blk && o)
def z4t (mem : Mem) : List Nat → Bool
 | [] => true
 | b :: l => match Yr mem b with
  | none => z4t mem l
  | some blk => (match blk.arr with
   | none => blk.cells.all (pf 6)
   | some A => pd (∀ i, (A.get i).all (pf 6) = true)) && z4t mem l
def x0y (f : AVal → AVal) (lps : Loops) : List Nat → Nat → List (Option (List Nat)) → Loops
 | [], _, _ => .leaf
 | b :: l, i, sl => match z8m lps b with
  | none => x0y f lps l (i + 1) sl.tail
  | some ⟨st, pend, n, env, params, assign, body⟩ => x8c (x0y f lps l (i + 1) sl.tail) i (some ⟨st, pend, n, v1q f env (sl.headD none), params, assign, body⟩)
def z5p (keep : List Nat) : Item → Option Item
 | .inRangeFunc j => (y0l j keep 0).map .inRangeFunc
 | .endRangeFunc j => (y0l j keep 0).map .endRangeFunc
 | x => bif Kj x then some x else none
def z1x (keep : List Nat) : List Item → Option (List Item)
 | [] => some []
 | x :: l => match z5p keep x, z1x keep l with
  | some y, some m => some (y :: m)
  | _, _ => none
def y6b (keep : List Nat) : Option Nat → Option (Option Nat)
 | none => some none
 | some j => (y0l j keep 0).map some
def x6d (f : AVal → AVal) (keep : List Nat) : List AFr → List (Option (List Nat)) → Option (List AFr)
 | [], _ => some []
 | ⟨cx, ro, todo, rnd, rs, env⟩ :: cs, sl => match z1x keep todo, y6b keep rnd, x6d f keep cs sl.tail with
  | some todo', some rnd', some cs' => some (⟨cx, ro, todo', rnd', rs, v1q f env (sl.headD none)⟩ :: cs')
  | _, _, _ => none
def disj : List Nat → List Nat → Bool
 | [], _ => true
 | b :: l, frz => !hasN b frz && (!hasN b l && disj l frz)
def w6z (P : Program) (N : z5m) : Cfg → Option Cfg
 | ⟨cx, ro, todo, rnd, rs, ⟨env, mem, next, orc, ob⟩, cs, lps⟩ =>
  match z1x N.keep todo, y6b N.keep rnd, x6d (ren P mem N 6) N.keep cs N.slots.tail with
  | some todo', some rnd', some cs' =>
   bif disj N.keep N.frz then
    match z4s P mem N N.keep 0 with
    | (mem', o) => some ⟨cx, ro, todo', rnd', rs, ⟨v1q (ren P mem N 6) env (N.slots.headD none), mem', N.keep.length, [], o && (z4t mem N.frz && ob)⟩, cs', x0y (ren P mem N 6) lps N.keep 0 N.lslots⟩
   else none
  | _, _, _ => none
def atP : Code → List Nat → List Item → Code × List Item
 | c, [], k => (c, k)
 | .seq a b, 0 :: p, k => atP a p (.code b :: k)
 | .seq _ b, _ :: p, k => atP b p k
 | .block id c, _ :: p, k => atP c p (.inBlock id :: k)
 | .loop c, _ :: p, k => atP c p (.inLoop c :: k)
 | .scope c, _ :: p, k => atP c p (.inScope c :: k)
 | .cond _ a _, 0 :: p, k => atP a p k
 | .cond _ _ b, _ :: p, k => atP b p k
 | .rangeFunc _ _ a b, 0 :: p, _ => atP a p [.beginRound, .code b]
 | .rangeFunc _ _ _ b, _ :: p, _ => atP b p []
 | c, _ :: _, k => (c, k)
def Za (P : Program) (f : FuncId) (p : List Nat) (j : Nat) : List Item := match atP (v3l P f) p [] with
 | (c, k) => (.code c :: k).drop j
def Vm (P : Program) (f : FuncId) (p : List Nat) : Code := (atP (v3l P f) p []).1
def Vi (P : Program) (f : FuncId) (p : List Nat) (i : Nat) : Option RegOps := match Vm P f p with
 | .region _ ops _ => some (ops, i, ops.toList.drop i)
 | _ => none
def w7t (P : Program) (S : Specs) (Rc : Runner) (n : Nat) : Cfg → Option Cfg :=
 Nat.rec (motive := fun _ => Cfg → Option Cfg) (fun C => some C) (fun _ R C => match x5e P S Rc C with
  | some C' => R C'
  | none => none) n
section
variable {P : Program}
theorem Vw {p : Prop} (h : pd p = true) : p := @of_decide_eq_true p (Classical.propDecidable p) h
theorem pd_true {p : Prop} (h : p) : pd p = true := @decide_eq_true p (Classical.propDecidable p) h
theorem y2t {b : Nat} : ∀ {l : List Nat} {i j : Nat}, y0l b l i = some j → i ≤ j ∧ l[j - i]? = some b
 | [], i, j, h => by cases h
 | x :: l, i, j, h => by
  unfold y0l at h
  rcases Ux h with ⟨hx, h⟩ | ⟨_, h⟩
  ·obtain rfl := Option.some.inj h
   have := Nat.eq_of_beq_eq_true hx
   exact ⟨Nat.le_refl _, by simp [this]⟩
  ·obtain ⟨h1, h2⟩ := y2t h
   refine ⟨by omega, ?_⟩
   rw [show j - i = (j - (i + 1)) + 1 by omega]
   simpa using h2
theorem z8q {b : Nat} : ∀ {l : List Nat}, hasN b l = true ↔ b ∈ l
 | [] => by simp [hasN]
 | x :: l => by
  unfold hasN
  cases hx : Nat.beq x b with
  | true => simp [Nat.eq_of_beq_eq_true hx]
  | false =>
   have : x ≠ b := fun e => by rw [e, Nat.beq_refl] at hx; cases hx
   rw [cond_false, z8q, List.mem_cons]
   exact ⟨.inr, fun h => h.resolve_left fun e => this e.symm⟩
theorem y0x : ∀ {l frz : List Nat}, disj l frz = true → l.Nodup ∧ ∀ b ∈ l, b ∉ frz
 | [], _, _ => ⟨List.nodup_nil, fun b hb => by cases hb⟩
 | x :: l, frz, h => by
  unfold disj at h
  simp only [Bool.and_eq_true, Bool.not_eq_true'] at h
  obtain ⟨h1, h2, h3⟩ := h
  obtain ⟨i1, i2⟩ := y0x h3
  have n1 : x ∉ frz := fun hm => by rw [z8q.2 hm] at h1; cases h1
  have n2 : x ∉ l := fun hm => by rw [z8q.2 hm] at h2; cases h2
  exact ⟨List.nodup_cons.2 ⟨n2, i1⟩, fun b hb => by
   rcases List.mem_cons.1 hb with rfl | hb
   ·exact n1
   ·exact i2 b hb⟩
def Fz (ρ : Rho) (mem : Mem) (N : z5m) (k : Nat) : Prop := ∃ b l, b ∈ N.frz ∧ ρ b = some l ∧ (Yr mem b).isSome = true ∧ l.blk = k
def z9p (ρ : Rho) (mem : Mem) (N : z5m) (w : World) : Rho :=
 ⟨fun b' => (N.keep[b']?).bind fun b => ρ b, fun k => @ite _ (Fz ρ mem N k) (Classical.propDecidable _) (w.heap[k]?) (ρ.fz k), fun j' => (N.keep[j']?).bind fun j => ρ.lp j⟩
theorem z1v {ρ : Rho} {mem : Mem} {next : Nat} {w : World} (h : Rel ρ mem next w) (N : z5m) {k : Nat} {o : Obj} (e : ρ.fz k = some o) : (z9p ρ mem N w).fz k = some o := by
 show @ite _ (Fz ρ mem N k) (Classical.propDecidable _) (w.heap[k]?) (ρ.fz k) = some o
 by_cases hf : Fz ρ mem N k
 ·obtain ⟨b, l, _, hb, hm, rfl⟩ := hf
  have := h.sep b l hb hm
  rw [e] at this; cases this
 ·rw [if_neg hf]; exact e
theorem y9y {ρ : Rho} {mem : Mem} {w : World} {N : z5m} {b : Nat} {l : Loc} (hb : b ∈ N.frz) (hl : ρ b = some l) (hm : (Yr mem b).isSome = true) : (z9p ρ mem N w).fz l.blk = w.heap[l.blk]? :=
 if_pos ⟨b, l, hb, hl, hm, rfl⟩
theorem z4e {ρ : Rho} {mem : Mem} {next : Nat} {w : World} (h : Rel ρ mem next w) (N : z5m) : ρ.bare.le (z9p ρ mem N w).bare := ⟨fun _ _ e => (by cases e), fun _ _ e => z1v h N e, fun _ _ e => (by cases e)⟩
theorem Uj {ρ : Rho} {mem : Mem} {w : World} {N : z5m} {b b' : Nat} (h : y0l b N.keep 0 = some b') : (z9p ρ mem N w) b' = ρ b ∧ (z9p ρ mem N w).lp b' = ρ.lp b := by
 obtain ⟨_, h2⟩ := y2t h
 rw [Nat.sub_zero] at h2
 constructor
 ·show (N.keep[b']?).bind _ = _
  rw [h2]; rfl
 ·show (N.keep[b']?).bind _ = _
  rw [h2]; rfl
theorem z5z {mem : Mem} : ∀ {frz : List Nat}, z4t mem frz = true → ∀ b ∈ frz, ∀ blk, Yr mem b = some blk → (match blk.arr with | none => blk.cells.all (pf 6) = true | some A => ∀ i, (A.get i).all (pf 6) = true)
 | [], _, b, hb, _, _ => by cases hb
 | x :: l, h, b, hb, blk, hm => by
  unfold z4t at h
  rcases List.mem_cons.1 hb with rfl | hb
  ·rw [hm] at h
   simp only [Bool.and_eq_true] at h
   cases hA : blk.arr with
   | none => have := h.1; rw [hA] at this; exact this
   | some A => have := h.1; rw [hA] at this; exact Vw this
  ·cases hx : Yr mem x with
   | none => rw [hx] at h; exact z5z h b hb blk hm
   | some blk' =>
    rw [hx] at h
    simp only [Bool.and_eq_true] at h
    exact z5z h.2 b hb blk hm
theorem y0p {mem : Mem} {next : Nat} {w : World} {ρ : Rho} (h : Rel ρ mem next w) {N : z5m} (ho : z4t mem N.frz = true) {b : Nat} (hb : b ∈ N.frz) {blk : ABlk} (hm : Yr mem b = some blk) {l : Loc} (hl : ρ b = some l) :
  ∃ val : Nat → Value, ∀ (i : Nat) (hi : i < blk.cells.length), Zo (z9p ρ mem N w).bare blk.cells[i] (val i) ∧ y8l (z9p ρ mem N w).fz l.blk (l.base + i) (val i) := by
 obtain ⟨hn, ht, har, cs, el, h1, h2, h3⟩ := h.blk b l blk hl hm
 refine ⟨fun i => (cs[l.base + i]?).getD undef, fun i hi => ?_⟩
 obtain ⟨v, e1, e2⟩ := h3 i hi
 have hpf : pf 6 blk.cells[i] = true := by
  have := z5z ho b hb blk hm
  cases hA : blk.arr with
  | none => rw [hA] at this; exact List.all_eq_true.1 this _ (List.getElem_mem hi)
  | some A =>
   rw [hA] at this
   obtain ⟨q1, _, _⟩ := har A hA
   have fG : blk.cells[i] ∈ rows A.n A.get := by rw [← q1]; exact List.getElem_mem hi
   unfold rows at fG
   rw [List.mem_flatMap] at fG
   obtain ⟨r, _, hr⟩ := fG
   exact List.all_eq_true.1 (this r) _ hr
 dsimp only
 rw [e1]
 refine ⟨(Je 6 _ _ hpf e2).mono (z4e h N), cs, el, (0, 0), ?_, e1⟩
 rw [y9y hb hl (by rw [hm]; rfl)]
 exact h1
theorem x7a {mem : Mem} {next : Nat} {w : World} {ρ : Rho} (h : Rel ρ mem next w) {N : z5m} (ho : z4t mem N.frz = true) {b : Nat} (hb : b ∈ N.frz) {blk : ABlk} (hm : Yr mem b = some blk) {v : AVal} {u : Value} (hv : Zo ρ v u)
  (hvb : (∃ o, v = .ptr b o) ∨ (∃ off len cap, v = .sl b off len cap) ∨ (∃ sz off len cap, v = .sla b sz off len cap) ∨ ∃ sz i fo, v = .epa b sz i fo) : Zo (z9p ρ mem N w) (frzV P blk v) u := by
 rcases hvb with ⟨o, rfl⟩ | ⟨off, len, cap, rfl⟩ | ⟨sz, off, len, cap, rfl⟩ | ⟨sz, i, fo, rfl⟩
 ·cases hv with
  | ptr _ _ l hl =>
   obtain ⟨val, eB⟩ := y0p h ho hb hm hl
   refine .dptr _ _ _ (fun j => val (o + j)) (fun j hj => ?_) (fun j hj => ?_)
   ·have := (eB (o + j) (by simp at hj; omega)).1
    simpa using this
   ·have := (eB (o + j) (by simp at hj; omega)).2
    rw [Nat.add_assoc]; exact this
 ·simp only [frzV]
  split
  ·rename_i i hi
   cases hc : Nat.ble (off + len * i.size) blk.cells.length with
   | false => exact .undef _
   | true =>
    rw [cond_true]
    have hle := Nat.le_of_ble_eq_true hc
    cases hv with
    | sl _ _ _ _ l c hl _ dK =>
     obtain ⟨val, eB⟩ := y0p h ho hb hm hl
     have hin : ∀ k, k < len → k * i.size + i.size ≤ len * i.size := fun k hk => by
      have := Nat.mul_le_mul_right i.size (show k + 1 ≤ len from hk)
      rw [Nat.add_mul, Nat.one_mul] at this; exact this
     refine .dat len _ l.blk (l.base + off) i.size c (fun k j => val (off + (k * i.size + j))) dK (fun k hk => ?_) (fun k j hk hj => ?_) (fun k j hk hj => ?_)
     ·have := hin k hk
      simp [x7s]; omega
     ·have := hin k hk
      have hj' : j < i.size := by simp [x7s] at hj; omega
      have := (eB (off + (k * i.size + j)) (by omega)).1
      simpa [x7s, Nat.add_assoc] using this
     ·have := hin k hk
      have := (eB (off + (k * i.size + j)) (by omega)).2
      rw [Nat.add_assoc]; exact this
  ·exact .undef _
 ·simp only [frzV]
  split
  ·rename_i A hA
   cases hc : (Nat.beq A.sz sz && Nat.ble (off + len) A.n) with
   | false => exact .undef _
   | true =>
    rw [cond_true]
    simp only [Bool.and_eq_true] at hc
    obtain rfl := Nat.eq_of_beq_eq_true hc.1
    have hle := Nat.le_of_ble_eq_true hc.2
    cases hv with
    | slan => exact .datn _
    | sla _ _ _ _ _ l c hl _ dK =>
     obtain ⟨val, eB⟩ := y0p h ho hb hm hl
     obtain ⟨q1, q2, q3⟩ := (h.blk b l blk hl hm).arr A hA
     have fB := Yw A.n q3
     have hrow : ∀ k j, k < len → j < A.sz → ∃ hi : (off + k) * A.sz + j < blk.cells.length, blk.cells[(off + k) * A.sz + j]? = (A.get (off + k))[j]? := fun k j hk hj => by
      have e := Wy A.n q3 (off + k) j (by omega) hj
      rw [← q1] at e
      have hj2 : j < (A.get (off + k)).length := by rw [q3 (off + k) (by omega)]; exact hj
      rw [List.getElem?_eq_getElem hj2] at e
      obtain ⟨hi, _⟩ := List.getElem?_eq_some_iff.1 e
      exact ⟨hi, by rw [e, List.getElem?_eq_getElem hj2]⟩
     refine .dat len _ l.blk (l.base + off * A.sz) A.sz c (fun k j => val ((off + k) * A.sz + j)) dK (fun k hk => q3 _ (by omega)) (fun k j hk hj => ?_) (fun k j hk hj => ?_)
     ·have hj' : j < A.sz := by rw [← q3 (off + k) (by omega)]; exact hj
      obtain ⟨hi, e⟩ := hrow k j hk hj'
      have := (eB _ hi).1
      rw [List.getElem?_eq_getElem hi, List.getElem?_eq_getElem hj] at e
      rw [Option.some.inj e] at this
      exact this
     ·obtain ⟨hi, _⟩ := hrow k j hk hj
      have := (eB _ hi).2
      rw [show l.base + off * A.sz + (k * A.sz + j) = l.base + ((off + k) * A.sz + j) by rw [Nat.add_mul]; omega]
      exact this
  ·exact .undef _
 ·exact .undef _
theorem Qh {mem : Mem} {next : Nat} {w : World} {ρ : Rho} (h : Rel ρ mem next w) {N : z5m} (ho : z4t mem N.frz = true) {b : Nat} {v : AVal} {u : Value} {f : Nat → AVal} (hv : Zo ρ v u)
  (hvb : (∃ o, v = .ptr b o) ∨ (∃ off len cap, v = .sl b off len cap) ∨ (∃ sz off len cap, v = .sla b sz off len cap) ∨ ∃ sz i fo, v = .epa b sz i fo)
  (hf : ∀ b', y0l b N.keep 0 = some b' → Zo (z9p ρ mem N w) (f b') u) : Zo (z9p ρ mem N w) (renB P mem N b v f) u := by
 unfold renB
 split
 ·rename_i b' hb'; exact hf b' hb'
 ·cases hc : hasN b N.frz with
  | false => exact .undef _
  | true =>
   rw [cond_true]
   split
   ·rename_i blk hm
    exact x7a h ho (z8q.1 hc) hm hv hvb
   ·exact .undef _
theorem z1e {mem : Mem} {next : Nat} {w : World} {ρ : Rho} (h : Rel ρ mem next w) {N : z5m} (ho : z4t mem N.frz = true) : ∀ (d : Nat) (v : AVal) (u : Value), Zo ρ v u → Zo (z9p ρ mem N w) (ren P mem N d v) u
 | 0, _, _, _ => .undef _
 | d + 1, v, u, hv => by
  have ih := fun v u => z1e h ho (N := N) d v u
  have list : ∀ {cs : List AVal} {vs : Array Value}, cs.length = vs.size → (∀ (i : Nat) (h1 : i < cs.length) (h2 : i < vs.size), Zo ρ cs[i] vs[i]) →
    (cs.map (ren P mem N d)).length = vs.size ∧ ∀ (i : Nat) (h1 : i < (cs.map (ren P mem N d)).length) (h2 : i < vs.size), Zo (z9p ρ mem N w) (cs.map (ren P mem N d))[i] vs[i] := fun hl hh =>
   ⟨by simpa using hl, fun i h1 h2 => by simpa using ih _ _ (hh i (by simpa using h1) h2)⟩
  unfold ren
  cases hv with
  | undef => exact .undef _
  | bool b => exact .bool b
  | int k n => exact .int k n
  | str s => exact .str s
  | agg cs vs hl hh => exact .agg _ _ (list hl hh).1 (list hl hh).2
  | tup cs vs hl hh => exact .tup _ _ (list hl hh).1 (list hl hh).2
  | fn f cs vs hl hh => exact .fn f _ _ (list hl hh).1 (list hl hh).2
  | fnb f cs vs hl hh => exact .fnb f _ _ (list hl hh).1 (list hl hh).2
  | ptr b o l hl => exact Qh h ho (.ptr b o l hl) (.inl ⟨o, rfl⟩) fun b' hb' => .ptr b' o l (by rw [(Uj hb').1]; exact hl)
  | nilp => exact .nilp
  | sl b off len cap l c hl hc dK => exact Qh h ho (.sl b off len cap l c hl hc dK) (.inr (.inl ⟨off, len, cap, rfl⟩)) fun b' hb' => .sl b' off len cap l c (by rw [(Uj hb').1]; exact hl) hc dK
  | nils => exact .nils
  | sla b sz off len cap l c hl hc dK => exact Qh h ho (.sla b sz off len cap l c hl hc dK) (.inr (.inr (.inl ⟨sz, off, len, cap, rfl⟩))) fun b' hb' => .sla b' sz off len cap l c (by rw [(Uj hb').1]; exact hl) hc dK
  | slan b sz off cap => exact Qh h ho (.slan b sz off cap) (.inr (.inr (.inl ⟨sz, off, 0, cap, rfl⟩))) fun b' hb' => .slan b' sz off cap
  | epa b sz i fo l hl => exact Qh h ho (.epa b sz i fo l hl) (.inr (.inr (.inr ⟨sz, i, fo, rfl⟩))) fun b' hb' => .epa b' sz i fo l (by rw [(Uj hb').1]; exact hl)
  | nilf => exact .nilf
  | yld j l hl =>
   simp only
   split
   ·rename_i j' hj'
    exact .yld j' l (by rw [(Uj hj').2]; exact hl)
   ·exact .undef _
  | slv b sz off len l c hl dK =>
   simp only
   split
   ·rename_i j' hj'
    exact .slv j' sz off len l c (by rw [(Uj hj').1]; exact hl) dK
   ·exact .undef _
  | slve b sz off blk base c =>
   simp only
   split
   ·exact .slve _ sz off blk base c
   ·exact .undef _
  | slvn b sz off =>
   simp only
   split
   ·exact .slvn _ sz off
   ·exact .undef _
  | ifc t a v hv => exact .ifc t _ _ (ih _ _ hv)
  | nili => exact .nili
  | dat len get blk base sz cap val dP hsz hv hh =>
   refine .dat len get blk base sz cap val dP hsz (fun i j hi hj => (hv i j hi hj).mono (z4e h N)) (fun i j hi hj => ?_)
   obtain ⟨cs, el, fz, e1, e2⟩ := hh i j hi hj
   exact ⟨cs, el, fz, z1v h N e1, e2⟩
  | datn get => exact .datn get
  | datz get a c => exact .datz get a c
  | dptr cs blk base val hv hh =>
   refine .dptr cs blk base val (fun j hj => (hv j hj).mono (z4e h N)) (fun j hj => ?_)
   obtain ⟨cs', el, fz, e1, e2⟩ := hh j hj
   exact ⟨cs', el, fz, z1v h N e1, e2⟩
theorem T.get_map {f : AVal → AVal} (hf : f .undef = .undef) : ∀ (t : T AVal) (i : Nat), T.get .undef (T.map f t) i = f (T.get .undef t i)
 | .leaf, i => hf.symm
 | .node v l r, 0 => rfl
 | .node v l r, i + 1 => by
  show T.get .undef (.node (f v) (T.map f l) (T.map f r)) (i + 1) = _
  rw [T.get_succ, T.get_succ]
  split
  ·exact T.get_map hf l _
  ·exact T.get_map hf r _
theorem z5u {f : AVal → AVal} (env : T AVal) : ∀ (L : List Nat) (t : Nat), T.get .undef (y0i f env L) t = if t ∈ L then f (T.get .undef env t) else .undef
 | [], t => by simp [y0i]
 | x :: L, t => by
  unfold y0i
  rw [T.get_set, z5u env L t]
  by_cases h : t = x
  ·subst h; simp
  ·simp [h]
theorem x3j {mem : Mem} {next : Nat} {w : World} {ρ : Rho} (h : Rel ρ mem next w) {N : z5m} (ho : z4t mem N.frz = true) {env : T AVal} {n : Nat} {tmps : Array Value} (he : Xi ρ env n tmps) : ∀ (L : Option (List Nat)), Xi (z9p ρ mem N w) (v1q (ren P mem N 6) env L) n tmps
 | none => by
  refine ⟨he.size, fun i => ?_, fun i hi => ?_⟩
  ·show Zo _ (T.get .undef (T.map (ren P mem N 6) env) i) _
   rw [T.get_map rfl]; exact z1e h ho 6 _ _ (he.get i)
  ·show T.get .undef (T.map (ren P mem N 6) env) i = _
   rw [T.get_map rfl, he.out i hi]; rfl
 | some L => by
  refine ⟨he.size, fun i => ?_, fun i hi => ?_⟩
  ·show Zo _ (T.get .undef (y0i (ren P mem N 6) env L) i) _
   rw [z5u]
   split
   ·exact z1e h ho 6 _ _ (he.get i)
   ·exact .undef _
  ·show T.get .undef (y0i (ren P mem N 6) env L) i = _
   rw [z5u, he.out i hi]
   split <;> rfl
theorem y7e {mem : Mem} {N : z5m} : ∀ (l : List Nat) (i j : Nat), Yr (z4s P mem N l i).1 j = if i ≤ j then (l[j - i]?).bind fun b => (Yr mem b).map (z9r P mem N) else none
 | [], i, j => by simp [z4s, Yr]
 | b :: l, i, j => by
  unfold z4s
  have ih := y7e (mem := mem) (N := N) l (i + 1)
  have tail : i < j → (b :: l)[j - i]? = l[j - (i + 1)]? := fun h => by rw [show j - i = (j - (i + 1)) + 1 by omega]; rfl
  cases hm : Yr mem b with
  | none =>
   show Yr (z4s P mem N l (i + 1)).1 j = _
   rw [ih]
   rcases Nat.lt_trichotomy i j with h | h | h
   ·rw [if_pos (by omega), if_pos (by omega), tail h]
   ·subst h; rw [if_neg (by omega), if_pos (by omega)]; simp [hm]
   ·rw [if_neg (by omega), if_neg (by omega)]
  | some blk =>
   show Yr (Xs (z4s P mem N l (i + 1)).1 i (some (z9r P mem N blk))) j = _
   rw [Wu, ih]
   rcases Nat.lt_trichotomy i j with h | h | h
   ·rw [if_neg (by omega), if_pos (by omega), if_pos (by omega), tail h]
   ·subst h; rw [if_pos rfl, if_pos (by omega)]; simp [hm]
   ·rw [if_neg (by omega), if_neg (by omega), if_neg (by omega)]
theorem z5t {mem : Mem} {N : z5m} : ∀ (l : List Nat) (i : Nat), (z4s P mem N l i).2 = true → ∀ b ∈ l, ∀ blk, Yr mem b = some blk → w8f blk = true
 | [], i, _, b, hb, _, _ => by cases hb
 | x :: l, i, h, b, hb, blk, hm => by
  unfold z4s at h
  cases hx : Yr mem x with
  | none =>
   rw [hx] at h
   rcases List.mem_cons.1 hb with rfl | hb
   ·rw [hx] at hm; cases hm
   ·exact z5t l (i + 1) h b hb blk hm
  | some blk' =>
   rw [hx] at h
   have h : (w8f blk' && (z4s P mem N l (i + 1)).2) = true := h
   simp only [Bool.and_eq_true] at h
   rcases List.mem_cons.1 hb with rfl | hb
   ·rw [hx] at hm; obtain rfl := Option.some.inj hm; exact h.1
   ·exact z5t l (i + 1) h.2 b hb blk hm
theorem z1l {f : AVal → AVal} {lps : Loops} : ∀ (l : List Nat) (i : Nat) (sl : List (Option (List Nat))) (j : Nat) (L : ALoop), z8m (x0y f lps l i sl) j = some L → i ≤ j ∧ ∃ b L0 x, l[j - i]? = some b ∧ z8m lps b = some L0 ∧ L = ⟨L0.st, L0.pend, L0.n, v1q f L0.env x, L0.params, L0.assign, L0.body⟩
 | [], i, sl, j, L, h => by cases h
 | b :: l, i, sl, j, L, h => by
  unfold x0y at h
  split at h
  ·obtain ⟨h1, b', L0, x, h2, h3, h4⟩ := z1l l (i + 1) _ j L h
   exact ⟨by omega, b', L0, x, by rw [show j - i = (j - (i + 1)) + 1 by omega]; simpa using h2, h3, h4⟩
  ·rename_i st pend n env params assign body hb
   rw [show z8m (x8c (x0y f lps l (i + 1) sl.tail) i (some ⟨st, pend, n, v1q f env (sl.headD none), params, assign, body⟩)) j = if j = i then some ⟨st, pend, n, v1q f env (sl.headD none), params, assign, body⟩ else z8m (x0y f lps l (i + 1) sl.tail) j from T.get_set none _ i _ j] at h
   by_cases hj : j = i
   ·subst hj
    rw [if_pos rfl] at h
    obtain rfl := Option.some.inj h
    exact ⟨Nat.le_refl _, b, _, _, by simp, hb, rfl⟩
   ·rw [if_neg hj] at h
    obtain ⟨h1, b', L0, x, h2, h3, h4⟩ := z1l l (i + 1) _ j L h
    exact ⟨by omega, b', L0, x, by rw [show j - i = (j - (i + 1)) + 1 by omega]; simpa using h2, h3, h4⟩
theorem x0c {mem : Mem} {w : World} {ρ : Rho} {N : z5m} {x x' y : Item} (h : z5p N.keep x = some x') (hx : x4u ρ x y) : x4u (z9p ρ mem N w) x' y := by
 cases hx with
 | inR j l e =>
  simp only [z5p, Option.map_eq_some_iff] at h
  obtain ⟨j', hj, rfl⟩ := h
  exact .inR j' l (by rw [(Uj hj).2]; exact e)
 | endR j l e =>
  simp only [z5p, Option.map_eq_some_iff] at h
  obtain ⟨j', hj, rfl⟩ := h
  exact .endR j' l (by rw [(Uj hj).2]; exact e)
 | same x hp =>
  have : z5p N.keep x = some x := by
   unfold z5p
   split
   ·cases hp
   ·cases hp
   ·rw [hp]; rfl
  rw [this] at h
  obtain rfl := Option.some.inj h
  exact .same _ hp
theorem z6q {mem : Mem} {w : World} {ρ : Rho} {N : z5m} : ∀ {l l' m : List Item}, z1x N.keep l = some l' → y1s ρ l m → y1s (z9p ρ mem N w) l' m
 | [], l', m, h, ht => by cases ht; obtain rfl := Option.some.inj h; exact .nil
 | x :: l, l', m, h, ht => by
  cases ht with
  | cons hx ht =>
   unfold z1x at h
   split at h
   ·rename_i y k hy hk
    obtain rfl := Option.some.inj h
    exact .cons (x0c hy hx) (z6q hk ht)
   ·cases h
theorem x3i {mem : Mem} {next : Nat} {w : World} {ρ : Rho} (h : Rel ρ mem next w) {N : z5m} (ho : z4t mem N.frz = true) {cx : Ctx} {ro : Option RegOps} {todo todo' : List Item} {rnd rnd' : Option Nat} {env : T AVal} {b : Frame} {a : Act} {k : List Item} {ms : List Nat} (ht : z1x N.keep todo = some todo') (hr : y6b N.keep rnd = some rnd')
  (hf : x8j ρ cx ro todo rnd env b a k ms) (L : Option (List Nat)) : x8j (z9p ρ mem N w) cx ro todo' rnd' (v1q (ren P mem N 6) env L) b a k ms ∧ (rnd' = none → rnd = none) := by
 refine ⟨⟨x3j h ho hf.env L, hf.defers, z6q ht hf.todo, hf.ro, ?_⟩, fun e => ?_⟩
 ·have hrn := hf.rnd
  cases rnd with
  | none => obtain rfl := Option.some.inj hr; exact hrn
  | some j =>
   simp only [y6b, Option.map_eq_some_iff] at hr
   obtain ⟨j', hj, rfl⟩ := hr
   obtain ⟨h0, l, h1, h2⟩ := hrn
   exact ⟨h0, l, by rw [(Uj hj).2]; exact h1, h2⟩
 ·cases rnd with
  | none => rfl
  | some j =>
   simp only [y6b, Option.map_eq_some_iff] at hr
   obtain ⟨j', _, rfl⟩ := hr
   cases e
theorem y6c {mem : Mem} {next : Nat} {w : World} {ρ : Rho} (h : Rel ρ mem next w) {N : z5m} (ho : z4t mem N.frz = true) : ∀ {cs cs' : List AFr} {sl : List (Option (List Nat))} {css : List Frame} {mss : List Nat}, x6d (ren P mem N 6) N.keep cs sl = some cs' → x8k P ρ cs css mss → x8k P (z9p ρ mem N w) cs' css mss ∧ (cs' ≠ [] → cs ≠ [])
 | [], cs', sl, css, mss, hc, hr => by
  cases hr
  obtain rfl := Option.some.inj hc
  exact ⟨.nil, id⟩
 | af :: cs, cs', sl, css, mss, hc, hr => by
  cases hr with
  | cons hf hl ht =>
   unfold x6d at hc
   split at hc
   ·rename_i todo' rnd' cs'' h1 h2 h3
    obtain rfl := Option.some.inj hc
    obtain ⟨i1, i2⟩ := y6c h ho h3 ht
    obtain ⟨f1, f2⟩ := x3i (P := P) h ho h1 h2 hf (sl.headD none)
    exact ⟨.cons f1 (fun hne => ⟨(hl (i2 hne)).1, fun e => (hl (i2 hne)).2 (f2 e)⟩) i1, fun _ => by simp⟩
   ·cases hc
def RowTo (ρ ρ' : Rho) (L L' : List AVal) : Prop := L'.length = L.length ∧ ∀ (j : Nat) (h1 : j < L.length) (h2 : j < L'.length) (v : Value), Zo ρ L[j] v → Zo ρ' L'[j] v
theorem z4h {mem : Mem} {next : Nat} {w : World} {ρ : Rho} (h : Rel ρ mem next w) {N : z5m} (ho : z4t mem N.frz = true) : ∀ (rw1 : Rws), y2u rw1 = true → ∀ k, RowTo ρ (z9p ρ mem N w) (rw1.get k) ((z2n (ren P mem N 6) rw1).get k)
 | .flat g, hf, k => by
  refine ⟨rfl, fun j h1 h2 v hv => ?_⟩
  have eL : ∀ i, (g i).all (pf 6) = true := Vw hf
  exact ((Je 6 _ _ (List.all_eq_true.1 (eL k) _ (List.getElem_mem h1)) hv).mono (z4e h N)).mono (y4z _)
 | .one r cs b, hf, k => by
  have ih := z4h h ho (N := N) b hf k
  have hc : RowTo ρ (z9p ρ mem N w) cs (cs.map (ren P mem N 6)) := ⟨by simp, fun j h1 h2 v hv => by simpa using z1e h ho 6 _ _ hv⟩
  simp only [z2n, Rws.get]
  cases Nat.beq k r with
  | true => exact hc
  | false => exact ih
 | .alt c a b, hf, k => by
  simp only [y2u, Bool.and_eq_true] at hf
  have iha := z4h h ho (N := N) a hf.1 k
  have ihb := z4h h ho (N := N) b hf.2 k
  simp only [z2n, Rws.get]
  cases c k with
  | true => exact iha
  | false => exact ihb
theorem x6c {mem : Mem} {next : Nat} {w : World} {ρ : Rho} (h : Rel ρ mem next w) {N : z5m} (ho : z4t mem N.frz = true) (hd : disj N.keep N.frz = true) (hfl : (z4s P mem N N.keep 0).2 = true) : Rel (z9p ρ mem N w) (z4s P mem N N.keep 0).1 N.keep.length w := by
 obtain ⟨hnd, hdj⟩ := y0x hd
 have get : ∀ j, Yr (z4s P mem N N.keep 0).1 j = (N.keep[j]?).bind fun b => (Yr mem b).map (z9r P mem N) := fun j => by
  rw [y7e, if_pos (Nat.zero_le _), Nat.sub_zero]
 have blk : ∀ {b' l}, (z9p ρ mem N w) b' = some l → ∃ b, N.keep[b']? = some b ∧ ρ b = some l := fun {b' l} e => by
  have e : (N.keep[b']?).bind (fun b => ρ b) = some l := e
  rw [Option.bind_eq_some_iff] at e
  obtain ⟨b, e1, e2⟩ := e
  exact ⟨b, e1, e2⟩
 have live : ∀ {b' b}, N.keep[b']? = some b → (Yr (z4s P mem N N.keep 0).1 b').isSome = true → (Yr mem b).isSome = true := fun {b' b} e hs => by
  rw [get, e] at hs
  simpa using hs
 refine ⟨fun b' l e => ?_, fun b' b'' l l' e e' hbl hs hs' => ?_, fun b' l ab e hm => ?_, fun k o e => ?_, fun b' l e hs => ?_, fun b' l e => ?_, fun b' hb => ?_, fun j l e => ?_⟩
 ·obtain ⟨b, e1, _⟩ := blk e
  exact (List.getElem?_eq_some_iff.1 e1).1
 ·obtain ⟨b, e1, e2⟩ := blk e
  obtain ⟨c, e3, e4⟩ := blk e'
  have := h.inj b c l l' e2 e4 hbl (live e1 hs) (live e3 hs')
  subst this
  exact (List.getElem?_inj (List.getElem?_eq_some_iff.1 e1).1 hnd).1 (e1.trans e3.symm)
 ·obtain ⟨b, e1, e2⟩ := blk e
  rw [get, e1] at hm
  simp only [Option.bind_some, Option.map_eq_some_iff] at hm
  obtain ⟨ab0, hm0, rfl⟩ := hm
  obtain ⟨hn, ht, har, cs, el, g1, g2, g3⟩ := h.blk b l ab0 e2 hm0
  obtain ⟨cells, ty, arr⟩ := ab0
  cases arr with
  | none =>
   refine ⟨by simpa [z9r] using hn, ht, (fun A hA => by cases hA), cs, el, g1, g2, fun i hi => ?_⟩
   have hi' : i < cells.length := by simpa [z9r] using hi
   obtain ⟨v, q1, q2⟩ := g3 i hi'
   exact ⟨v, q1, by simpa [z9r] using z1e h ho 6 _ _ q2⟩
  | some A =>
   obtain ⟨a1, a2, a3⟩ := har A rfl
   simp only at a1
   have hfb : w8f ⟨cells, ty, some A⟩ = true := z5t N.keep 0 hfl b (List.mem_of_getElem? e1) _ hm0
   have hrow := z4h (P := P) h ho (N := N) A.rw hfb
   have hl' : ∀ i, i < A.n → ((z2n (ren P mem N 6) A.rw).get i).length = A.sz := fun i hi => by rw [(hrow i).1]; exact a3 i hi
   have k1 := Yw A.n a3
   have k2 := Yw A.n hl'
   refine ⟨by show l.n = (rows A.n _).length; rw [k2, hn]; show cells.length = _; rw [a1, k1], ht, (fun B hB => by obtain rfl := Option.some.inj hB; exact ⟨rfl, a2, hl'⟩), cs, el, g1, g2, fun i hi => ?_⟩
   have hi' : i < A.n * A.sz := by rw [← k2]; exact hi
   have hj : i % A.sz < A.sz := Nat.mod_lt _ a2
   have hq : i / A.sz < A.n := Nat.div_lt_of_lt_mul (by rw [Nat.mul_comm]; exact hi')
   have e : i / A.sz * A.sz + i % A.sz = i := by rw [Nat.mul_comm]; exact Nat.div_add_mod i A.sz
   have hic : i < cells.length := by rw [a1, k1]; exact hi'
   have r1 := Wy A.n a3 (i / A.sz) (i % A.sz) hq hj
   have r2 := Wy A.n hl' (i / A.sz) (i % A.sz) hq hj
   rw [e] at r1 r2
   have hi2 : i < (rows A.n (z2n (ren P mem N 6) A.rw).get).length := hi
   have j1 : i % A.sz < (A.rw.get (i / A.sz)).length := by rw [show A.rw.get = A.get from rfl, a3 _ hq]; exact hj
   have j2 : i % A.sz < ((z2n (ren P mem N 6) A.rw).get (i / A.sz)).length := by rw [hl' _ hq]; exact hj
   obtain ⟨v, q1, q2⟩ := g3 i hic
   have s1 : cells[i] = (A.rw.get (i / A.sz))[i % A.sz] := by
    have : cells[i]? = some (A.rw.get (i / A.sz))[i % A.sz] := by rw [a1, r1, show A.get = A.rw.get from rfl, List.getElem?_eq_getElem j1]
    rw [List.getElem?_eq_getElem hic] at this
    exact Option.some.inj this
   have s2 : (rows A.n (z2n (ren P mem N 6) A.rw).get)[i]'hi2 = ((z2n (ren P mem N 6) A.rw).get (i / A.sz))[i % A.sz] := by
    have : (rows A.n (z2n (ren P mem N 6) A.rw).get)[i]? = some ((z2n (ren P mem N 6) A.rw).get (i / A.sz))[i % A.sz] := by rw [r2, List.getElem?_eq_getElem j2]
    rw [List.getElem?_eq_getElem hi2] at this
    exact Option.some.inj this
   refine ⟨v, q1, ?_⟩
   show Zo _ ((rows A.n (z2n (ren P mem N 6) A.rw).get)[i]'hi2) v
   rw [s2]
   refine (hrow _).2 _ j1 j2 v ?_
   rw [← s1]; exact q2
 ·have e : @ite _ (Fz ρ mem N k) (Classical.propDecidable _) (w.heap[k]?) (ρ.fz k) = some o := e
  by_cases hf : Fz ρ mem N k
  ·rw [if_pos hf] at e; exact e
  ·rw [if_neg hf] at e; exact h.old k o e
 ·obtain ⟨b, e1, e2⟩ := blk e
  have hs0 := live e1 hs
  have hnf : ¬ Fz ρ mem N l.blk := fun ⟨c, l', c1, c2, c3, c4⟩ => by
   have := h.inj c b l' l c2 e2 c4 c3 hs0
   subst this
   exact hdj c (List.mem_of_getElem? e1) c1
  show @ite _ (Fz ρ mem N l.blk) (Classical.propDecidable _) (w.heap[l.blk]?) (ρ.fz l.blk) = none
  rw [if_neg hnf]
  exact h.sep b l e2 hs0
 ·obtain ⟨b, _, e2⟩ := blk e
  exact h.real b l e2
 ·rw [get, List.getElem?_eq_none hb]; rfl
 ·have e : (N.keep[j]?).bind (fun b => ρ.lp b) = some l := e
  rw [Option.bind_eq_some_iff] at e
  exact (List.getElem?_eq_some_iff.1 e.choose_spec.1).1
theorem renEv {H : Old} {mem : Mem} {next : Nat} {w0 w : World} {ρ : Rho} (h : Rel ρ mem next w) {N : z5m} (he : Ev (z1c H) ρ 0 .leaf 0 mem next w0 w) (mem' : Mem) (next' : Nat) : Ev (z1c H) (z9p ρ mem N w) 0 .leaf 0 mem' next' w0 w :=
 ⟨⟨fun b l e => (by cases e), fun k o e => z1v h N (he.ext.2.1 k o e), fun j l e => (by cases e)⟩, fun b hb => absurd hb (Nat.not_lt_zero _), Nat.zero_le _, fun b hb => absurd hb (Nat.not_lt_zero _), he.frame, fun b l _ e => by
   have e : (N.keep[b]?).bind (fun b => ρ b) = some l := e
   rw [Option.bind_eq_some_iff] at e
   obtain ⟨c, _, e2⟩ := e
   exact he.fresh c l (Nat.zero_le _) e2, he.size, he.os, he.tape, he.output, fun k hk => by
   have hnf : ¬ Fz ρ mem N k := fun ⟨b, l, _, e2, _, e4⟩ => by
    rcases he.fresh b l (Nat.zero_le _) e2 with h1 | ⟨b0, l0, e0, _⟩
    ·omega
    ·cases e0
   show @ite _ (Fz ρ mem N k) (Classical.propDecidable _) (w.heap[k]?) (ρ.fz k) = _
   rw [if_neg hnf]
   exact he.still k hk⟩
def z7l (P : Program) (C C' : Cfg) : Prop :=
 ∀ (H : Old) (w0 : World) (ρ : Rho) (b : Frame) (a : Act) (k : List Item) (css : List Frame) (w : World) (ma mb : List Nat), v9k P w0.heap.size C ρ b a k css w ma mb → Ev (z1c H) ρ 0 .leaf 0 C.st.mem C.st.next w0 w → ∀ cs0 : List Frame,
  ∃ ρ' b' a' k' css' w' ma' mb', Steps P (lone (b.atR a (Wz C.ro k)) (css ++ cs0) w) (lone (b'.atR a' (Wz C'.ro k')) (css' ++ cs0) w') ∧ v9k P w0.heap.size C' ρ' b' a' k' css' w' ma' mb' ∧ Ev (z1c H) ρ' 0 .leaf 0 C'.st.mem C'.st.next w0 w' ∧ x2j b' css' = x2j b css
theorem z7l.refl (C : Cfg) : z7l P C C := fun H w0 ρ b a k css w ma mb hs he cs0 => ⟨ρ, b, a, k, css, w, ma, mb, Steps.refl _ _, hs, he, rfl⟩
theorem z7l.trans {A B C : Cfg} (h : z7l P A B) (k : z7l P B C) : z7l P A C := by
 intro H w0 ρ b a t css w ma mb hs he cs0
 obtain ⟨ρ1, b1, a1, t1, css1, w1, ma1, mb1, s1, r1, e1, q1⟩ := h H w0 ρ b a t css w ma mb hs he cs0
 obtain ⟨ρ2, b2, a2, t2, css2, w2, ma2, mb2, s2, r2, e2, q2⟩ := k H w0 ρ1 b1 a1 t1 css1 w1 ma1 mb1 r1 e1 cs0
 exact ⟨ρ2, b2, a2, t2, css2, w2, ma2, mb2, s1.trans s2, r2, e2, q2.trans q1⟩
theorem z6m.goes {C C' : Cfg} (h : z6m P 0 C C') : z7l P C C' := fun H w0 ρ b a k css w ma mb hs he cs0 => h .leaf 0 (z1c H) w0 ρ b a k css w ma mb hs he cs0
def fl0 (C : Cfg) : Bool := Nat.beq C.cx.floor 0 && C.cs.all fun af => Nat.beq af.cx.floor 0
theorem w8g {C : Cfg} (h : fl0 C = true) : Fl 0 C := by
 unfold fl0 at h
 simp only [Bool.and_eq_true] at h
 exact ⟨Nat.eq_of_beq_eq_true h.1, fun af haf => Nat.eq_of_beq_eq_true (List.all_eq_true.1 h.2 af haf), Nat.zero_le _⟩
theorem z9q {f : AVal → AVal} {keep : List Nat} {fl : Nat} : ∀ {cs cs' : List AFr} {sl : List (Option (List Nat))}, x6d f keep cs sl = some cs' → (∀ af ∈ cs, af.cx.floor = fl) → ∀ af ∈ cs', af.cx.floor = fl
 | [], cs', sl, h, _, af, haf => by obtain rfl := Option.some.inj h; cases haf
 | a0 :: cs, cs', sl, h, hcs, af, haf => by
  unfold x6d at h
  split at h
  ·rename_i t1 r1 c1 g1 g2 g3
   obtain rfl := Option.some.inj h
   rcases List.mem_cons.1 haf with rfl | haf
   ·exact hcs a0 (List.mem_cons_self ..)
   ·exact z9q g3 (fun x hx => hcs x (List.mem_cons_of_mem _ hx)) af haf
  ·cases h
theorem x6j {N : z5m} {C C' : Cfg} (h : w6z P N C = some C') (ho : C'.st.ob = true) : C.st.ob = true ∧ z7l P C C' ∧ (Fl 0 C → Fl 0 C') := by
 obtain ⟨cx, ro, todo, rnd, rs, ⟨env, mem, next, orc, ob⟩, cs, lps⟩ := C
 simp only [w6z] at h
 split at h
 ·rename_i todo' rnd' cs' h1 h2 h3
  obtain ⟨hd, h⟩ := Zi h
  obtain rfl := Option.some.inj h
  simp only [Bool.and_eq_true] at ho
  obtain ⟨hkm, ho2, ho3⟩ := ho
  refine ⟨ho3, fun H w0 ρ b a k css w ma mb hs he cs0 => ?_, fun hfl => ⟨hfl.cx, fun af haf => ?_, Nat.zero_le _⟩⟩
  ·have dJ := hs.rel
   simp only at dJ he
   obtain ⟨f1, f2⟩ := x3i (P := P) dJ ho2 h1 h2 hs.top (N.slots.headD none)
   obtain ⟨c1, c2⟩ := y6c (P := P) dJ ho2 h3 hs.rest.cs
   refine ⟨z9p ρ mem N w, b, a, k, css, w, ma, mb, Steps.refl _ _, ⟨f1, fun hne => ⟨(hs.lv (c2 hne)).1, fun e => (hs.lv (c2 hne)).2 (f2 e)⟩, ⟨c1, hs.rest.nodup, fun r hr => ?_, fun j L hL => ?_, fun j j' L L' l hL hL' e e' => ?_⟩, ?_⟩, renEv dJ he _ _, rfl⟩
   ·obtain ⟨q1, ⟨q2, q3, q4⟩, q5⟩ := hs.rest.marks r hr
    refine ⟨q1, ⟨q2, ?_, fun b' l e => ?_⟩, q5⟩
    ·show @ite _ (Fz ρ mem N r) (Classical.propDecidable _) (w.heap[r]?) (ρ.fz r) = none
     rw [if_neg fun ⟨c, l, _, e2, _, e4⟩ => q4 c l e2 e4]; exact q3
    ·have e : (N.keep[b']?).bind (fun b => ρ b) = some l := e
     rw [Option.bind_eq_some_iff] at e
     obtain ⟨c, _, e2⟩ := e
     exact q4 c l e2
   ·obtain ⟨_, c, L0, x, e1, e2, rfl⟩ := z1l N.keep 0 _ j L hL
    rw [Nat.sub_zero] at e1
    obtain ⟨l, q1, q2, ⟨q3, q4, q5⟩, tm, fn', d, q6, q7⟩ := hs.rest.loops c L0 e2
    refine ⟨l, ?_, q2, ⟨q3, ?_, fun b' l' e => ?_⟩, tm, fn', d, q6, x3j (P := P) dJ ho2 q7 x⟩
    ·show (N.keep[j]?).bind (fun b => ρ.lp b) = some l
     rw [e1]; exact q1
    ·show @ite _ (Fz ρ mem N l) (Classical.propDecidable _) (w.heap[l]?) (ρ.fz l) = none
     rw [if_neg fun ⟨c, l, _, e2, _, e4⟩ => q5 c l e2 e4]; exact q4
    ·have e : (N.keep[b']?).bind (fun b => ρ b) = some l' := e
     rw [Option.bind_eq_some_iff] at e
     obtain ⟨c, _, e2⟩ := e
     exact q5 c l' e2
   ·obtain ⟨_, c, L0, x, e1, e2, rfl⟩ := z1l N.keep 0 _ j L hL
    obtain ⟨_, c', L0', x', e1', e2', rfl⟩ := z1l N.keep 0 _ j' L' hL'
    rw [Nat.sub_zero] at e1 e1'
    have e : (N.keep[j]?).bind (fun b => ρ.lp b) = some l := e
    have e' : (N.keep[j']?).bind (fun b => ρ.lp b) = some l := e'
    rw [e1] at e
    rw [e1'] at e'
    have := hs.rest.inj c c' L0 L0' l e2 e2' e e'
    subst this
    exact (List.getElem?_inj (List.getElem?_eq_some_iff.1 e1).1 (y0x hd).1).1 (e1.trans e1'.symm)
   ·exact x6c dJ ho2 hd hkm
  ·exact z9q h3 hfl.cs af haf
 ·cases h
theorem y7g {S : Specs} {Rc : Runner} (hN : z6l P) (hmx : P.follows .mixedOrders = true) (hS : Zu P S) (hCI : x8i Rc) (hC : ROk P Rc) {fl : Nat} : ∀ (n : Nat) (C C' : Cfg), Fl fl C → w7t P S Rc n C = some C' → Fl fl C' ∧ Xn fl C.st C'.st ∧ (C'.st.ob = true → z6m P fl C C')
 | 0, C, C', hfl, h => by
  obtain rfl := Option.some.inj h
  exact ⟨hfl, Xn.refl _ _, fun _ => z6m.refl fl C⟩
 | n + 1, C, C', hfl, h => by
  have h : (match x5e P S Rc C with
   | some C' => w7t P S Rc n C'
   | none => none) = some C' := h
  split at h
  ·rename_i C1 h1
   have s1 := y5n hN hmx hS hCI hC hfl h1
   obtain ⟨f1, f4, f5⟩ := y7g hN hmx hS hCI hC n C1 C' s1.fls h
   exact ⟨f1, s1.inv.trans f4, fun ho => (s1.leads (f4.ob ho)).trans (f5 ho)⟩
  ·cases h
def Zg (P : Program) (f : FuncId) (args : List AVal) (sym : Bool) (orc : List Bool) : Cfg :=
 match P.funcs[f]? with
 | some fn => ⟨⟨Nat.max fn.ntmps args.length, 0, sym⟩, none, [.code (fn.body.getD .ret)], none, fn.results.toList, ⟨z6d args 0 .leaf, .leaf, 0, orc, true⟩, [], .leaf⟩
 | none => ⟨⟨0, 0, sym⟩, none, [], none, [], ⟨.leaf, .leaf, 0, [], true⟩, [], .leaf⟩
theorem goes_call {f : FuncId} {args : List AVal} {sym : Bool} {orc : List Bool} {C' : Cfg} {vs : List AVal} {H : Old} (hf : (P.funcs[f]?).any (fun fn => fn.body.isSome) = true) (h : z7l P (Zg P f args sym orc) C') (hfin : z2u C' = true) (hob : (Up P C'.st (Zg P f args sym orc).rs) = some vs)
  {vals : Array Value} {w : World} (dN : Wg (Zo (z1c H)) args vals.toList) (hH : ∀ k o, H k = some o → w.heap[k]? = some o) :
  Calls P f vals w fun e w' => ∃ ρ u, e = .returned u ∧ Out H w ρ (Kq vs) u w' := by
 cases hfn : P.funcs[f]? with
 | none => rw [hfn] at hf; cases hf
 | some fn =>
  rw [hfn] at hf
  have hf : fn.body.isSome = true := hf
  obtain ⟨body, hb⟩ := Option.isSome_iff_exists.1 hf
  have hstart : Zg P f args sym orc = ⟨⟨Nat.max fn.ntmps args.length, 0, sym⟩, none, [.code body], none, fn.results.toList, ⟨z6d args 0 .leaf, .leaf, 0, orc, true⟩, [], .leaf⟩ := by
   unfold Zg; rw [hfn]; simp [hb]
  rw [hstart] at h hob
  simp only at hob
  intro cs
  obtain ⟨ρ', b', a', k', css', w', ma', mb', s1, r1, v1, q1⟩ := h H w (z1c H) ⟨f, #[], [], [], .run, .normal, none⟩ { tmps := vals ++ Array.replicate (fn.ntmps - vals.size) undef, defers := [] } [.code body] [] w [] []
   ⟨⟨y0s dN fn.ntmps, rfl, .cons (.same _ rfl) .nil, trivial, rfl⟩, fun h => absurd rfl h, y2k _ _ _, y6d hH⟩ (Ev.refl _ _ _ _ _ (y6d hH).dom) cs
  obtain ⟨e1, e2, e3, e4⟩ := y0r hfin
  have hcs := r1.rest.cs
  rw [e3] at hcs
  cases hcs
  obtain ⟨w2, s2, henv', eH, hev', _⟩ := y0v r1 e1 e2 e4 rfl v1 cs
  obtain ⟨u, hu, fJ⟩ := z0g (fn := fn) henv' eH hob
  have q : (b'.fn, b'.kind, b'.roundOf) = (f, CallKind.normal, none) := q1
  simp only [Prod.mk.injEq] at q
  have hen : Frame.enter P f vals .normal = Frame.atR ⟨f, #[], [], [], .run, .normal, none⟩ { tmps := vals ++ Array.replicate (fn.ntmps - vals.size) undef, defers := [] } (Wz none [.code body]) := by
   simp [Frame.enter, Frame.atR, hfn, hb, Wz]
  refine ⟨.returned u, w2, { b'.atR { a' with defers := [] } k' with mode := .returning }, ⟨ρ', u, rfl, out_of hu eH hev'⟩, ?_, q.1, rfl, rfl, q.2.1, fn, by show P.funcs[b'.fn]? = _; rw [q.1]; exact hfn, fJ⟩
  rw [hen]; exact s1.trans s2
end
end Go.Am
namespace Go.Am
def Vq : List ABlk → Nat → Mem
 | [], _ => .leaf
 | b :: l, i => Xs (Vq l (i + 1)) i (some b)
def z6v (c : Nat → Int) : Nat → List AVal := fun i => [.int .i64 (c i)]
def Cfg.withO : Cfg → List Bool → Cfg
 | ⟨cx, ro, todo, rnd, rs, ⟨env, mem, next, _, _⟩, cs, lps⟩, o => ⟨cx, ro, todo, rnd, rs, ⟨env, mem, next, o, true⟩, cs, lps⟩
def Cfg.withB : Cfg → Bool → Cfg
 | ⟨cx, ro, todo, rnd, rs, ⟨env, mem, next, _, _⟩, cs, lps⟩, b => ⟨cx, ro, todo, rnd, rs, ⟨env, mem, next, [], b⟩, cs, lps⟩
inductive Xj (σ : Type) where
 | stuck
 | ret (vs : List AVal)
 | to (s : σ)
def Ur (P : Program) (rs : List ResultVar) (C : Cfg) (vs : List AVal) : Prop := ∃ C', z7l P C C' ∧ z2u C' = true ∧ Up P C'.st rs = some vs
def Xd (P : Program) (rs : List ResultVar) {σ : Type} (cfg : σ → Cfg) (C : Cfg) : Xj σ → Prop
 | .stuck => True
 | .ret vs => Ur P rs C vs
 | .to s => z7l P C (cfg s)
section
variable {P : Program} {rs : List ResultVar} {σ : Type} {cfg : σ → Cfg} {C : Cfg}
theorem x4d {c : Bool} {a b : Xj σ} (ha : c = true → Xd P rs cfg C a) (hb : c = false → Xd P rs cfg C b) : Xd P rs cfg C (bif c then a else b) := by
 cases c
 ·exact hb rfl
 ·exact ha rfl
theorem w7r {c : Bool} {a : Xj σ} (ha : c = true → Xd P rs cfg C a) : Xd P rs cfg C (bif c then a else .stuck) := x4d ha fun _ => trivial
theorem w7q {vs : List AVal} (C' : Cfg) (h : z7l P C C') (hf : z2u C' = true) (hr : Up P C'.st rs = some vs) : Xd P rs cfg C (.ret vs) := ⟨C', h, hf, hr⟩
end
def Yu {σ : Type} (step : σ → Xj σ) : Nat → Xj σ → Xj σ
 | 0, o => o
 | n + 1, .to s => Yu step n (step s)
 | _ + 1, o => o
theorem Ze {P : Program} {rs : List ResultVar} {σ : Type} {cfg : σ → Cfg} {step : σ → Xj σ} (eG : ∀ s, Xd P rs cfg (cfg s) (step s)) {C : Cfg} : ∀ (n : Nat) (o : Xj σ), Xd P rs cfg C o → Xd P rs cfg C (Yu step n o)
 | 0, o, h => h
 | n + 1, .stuck, h => h
 | n + 1, .ret vs, h => h
 | n + 1, .to s, h => Ze eG n (step s) (match step s, eG s with
  | .stuck, _ => trivial
  | .ret vs, ⟨C', g, hf, hr⟩ => ⟨C', z7l.trans h g, hf, hr⟩
  | .to s', g => z7l.trans h g)
theorem Zm {σ : Type} (step : σ → Xj σ) (n : Nat) (vs : List AVal) : Yu step n (.ret vs) = .ret vs := by cases n <;> rfl
theorem Zw {σ : Type} (step : σ → Xj σ) (n : Nat) (s : σ) : Yu step (n + 1) (.to s) = Yu step n (step s) := rfl
theorem z6s {a b : Bool} (ha : a = true) (hb : b = true) : (a && b) = true := by rw [ha, hb]; rfl
theorem w1e {a b : Bool} (h : a = b) : (a == b) = true := by rw [h]; cases b <;> rfl
def Specs.with (S : Specs) (f : FuncId) (F : List AVal → Option (AVal × Bool)) : Specs := fun g => bif Nat.beq g f then some (.val F) else S g
theorem y5o {P : Program} {f : FuncId} {args : List AVal} {sym : Bool} {orc : List Bool} : (Zg P f args sym orc).rs = Zy P f := by
 unfold Zg Zy
 cases P.funcs[f]? <;> rfl
theorem x8l {P : Program} {S : Specs} (hS : Zu P S) {f : FuncId} {F : List AVal → Option (AVal × Bool)} (hf : (P.funcs[f]?).any (fun fn => fn.body.isSome) = true)
  (hF : ∀ args v, F args = some (v, true) → ∃ vs, Kq vs = v ∧ Ur P (Zy P f) (Zg P f args true []) vs ∧ ∃ d, pf d v = true) : Zu P (S.with f F) := by
 intro g G hg
 unfold Specs.with at hg
 cases hgf : Nat.beq g f with
 | false => rw [hgf] at hg; exact hS g G hg
 | true =>
  rw [hgf] at hg
  obtain rfl : Spec.val F = G := Option.some.inj hg
  obtain rfl : g = f := Nat.eq_of_beq_eq_true hgf
  refine ⟨?_, fun args v hv H vals w dN hH => ?_⟩
  ·cases hfn : P.funcs[g]? with
   | none => rw [hfn] at hf; cases hf
   | some fn => rw [hfn] at hf; exact ⟨fn, rfl, hf⟩
  ·obtain ⟨vs, rfl, ⟨C', g1, g2, g3⟩, d, hp⟩ := hF args v hv
   exact (goes_call hf g1 g2 (by rw [y5o]; exact g3) dN hH).mono fun e w' ⟨ρ, u, he, ho⟩ => ⟨ρ.fz, u, ho.le, ho.old, ho.same, he, Je d _ u hp ho.val, ho.below⟩
def cOf (get : Nat → List AVal) (i : Nat) : Int := match get i with
 | .int _ n :: _ => n
 | _ => 0
def isI (get : Nat → List AVal) : Bool := pd (get = z6v (cOf get))
theorem x4g {get : Nat → List AVal} (h : isI get = true) : ∃ c, get = z6v c := ⟨_, Vw h⟩
theorem w7d (x : Int) : (x != x) = false := by simp
theorem w8r (x : Int) : (x == x) = true := by simp
theorem w1j (x : Int) : (!(x != x)) = true := by simp
theorem w1k (x : Int) : (!(x == x)) = false := by simp
theorem w64 (n : Int) : IntKind.i64.wrap n = (n + 9223372036854775808) % 18446744073709551616 - 9223372036854775808 := by
 rw [IntKind.wrap_i64]
theorem w_in {n : Int} (h : -9223372036854775808 ≤ n) (h' : n ≤ 9223372036854775807) : IntKind.i64.wrap n = n := by simp only [w64]; omega
theorem w2k (x y : Int) : Wa x y = min x y := by unfold Wa; split <;> omega
theorem w2l (x y : Int) : Xv x y = max x y := by unfold Xv; split <;> omega
end Go.Am
namespace Go.Am
inductive VLe : AVal → AVal → Prop
 | refl (v : AVal) : VLe v v
 | undef (v : AVal) : VLe v .undef
 | nils (b sz off : Nat) (cap : w9v) : VLe .nils (.sla b sz off 0 cap)
 | sl (b sz q len : Nat) (cap : w9v) : VLe (.sl b (q * sz) len cap) (.sla b sz q len cap)
 | nild (g : Nat → List AVal) : VLe .nils (.dat 0 g)
 | dat (n : Nat) (g g' : Nat → List AVal) (h : ∀ i, i < n → g i = g' i) : VLe (.dat n g) (.dat n g')
theorem VLe.sound {ρ : Rho} {a a' : AVal} {v : Value} (h : VLe a a') (hv : Zo ρ a v) : Zo ρ a' v := by
 cases h with
 | refl => exact hv
 | undef => exact .undef _
 | nils b sz off cap => cases hv; exact .slan b sz off cap
 | sl b sz q len cap => cases hv with | sl _ _ _ _ l c h hc dK => exact .sla b sz q len cap l c h hc dK
 | nild g => cases hv; exact .datn _
 | dat n g g' hg =>
  cases hv with
  | datn => exact .datn _
  | datz => exact .datz _ _ _
  | dat _ _ blk base sz cap val dP hsz hv hh =>
   refine .dat n g' blk base sz cap val dP (fun i hi => by rw [← hg i hi]; exact hsz i hi) (fun i j hi hj => ?_) hh
   have e := hg i hi
   have hj' : j < (g i).length := by rw [e]; exact hj
   have := hv i j hi hj'
   simp only [e] at this
   exact this
theorem VLe.of_undef {a : AVal} (h : VLe .undef a) : a = .undef := by cases h <;> rfl
inductive RLe : List AVal → List AVal → Prop
 | nil : RLe [] []
 | cons {a b : AVal} {l m : List AVal} (h : VLe a b) (t : RLe l m) : RLe (a :: l) (b :: m)
theorem RLe.refl : ∀ l : List AVal, RLe l l
 | [] => .nil
 | a :: l => .cons (.refl a) (RLe.refl l)
theorem RLe.len {l m : List AVal} (h : RLe l m) : l.length = m.length := by
 induction h with
 | nil => rfl
 | cons _ _ ih => simp [ih]
theorem RLe.get {l m : List AVal} (h : RLe l m) : ∀ (i : Nat) (h1 : i < l.length) (h2 : i < m.length), VLe l[i] m[i] := by
 induction h with
 | nil => intro i h1; simp at h1
 | cons h _ ih =>
  intro i h1 h2
  cases i with
  | zero => exact h
  | succ i => exact ih i (by simpa using h1) (by simpa using h2)
inductive BLe : Option ABlk → Option ABlk → Prop
 | refl (b : Option ABlk) : BLe b b
 | drop (b : Option ABlk) : BLe b none
 | rowed (cells : List AVal) (ty : TypeId) (a : Option Arr) (sz n : Nat) (g : Nat → List AVal) (hc : cells = rows n g) (h1 : 1 ≤ sz) (hl : ∀ i, i < n → (g i).length = sz) : BLe (some ⟨cells, ty, a⟩) (some ⟨rows n g, ty, some ⟨sz, n, g⟩⟩)
 | rws (ty : TypeId) (sz n : Nat) (a a' : Rws) (h : ∀ k, k < n → RLe (a.get k) (a'.get k)) : BLe (some ⟨rows n a.get, ty, some ⟨sz, n, a⟩⟩) (some ⟨rows n a'.get, ty, some ⟨sz, n, a'⟩⟩)
theorem BLe.sound {ρ : Rho} {w : World} {a a' : ABlk} {l : Loc} (h : BLe (some a) (some a')) (hb : Qj ρ w a l) : Qj ρ w a' l := by
 cases h with
 | refl => exact hb
 | rowed cells ty a sz n g hc h1 hl =>
  subst hc
  refine ⟨hb.n, hb.tot, fun A hA => ?_, hb.cells⟩
  obtain rfl := Option.some.inj hA
  exact ⟨rfl, h1, hl⟩
 | rws ty sz n a a' h =>
  obtain ⟨_, h1, hl⟩ := hb.arr _ rfl
  have h1 : 1 ≤ sz := h1
  have hl : ∀ k, k < n → (a.get k).length = sz := hl
  have hl' : ∀ k, k < n → (a'.get k).length = sz := fun k hk => by rw [← (h k hk).len]; exact hl k hk
  have k1 := Yw n hl
  have k2 := Yw n hl'
  obtain ⟨cs, el, g1, g2, g3⟩ := hb.cells
  refine ⟨by rw [hb.n]; show (rows n a.get).length = (rows n a'.get).length; rw [k1, k2], hb.tot, fun A hA => ?_, cs, el, g1, g2, fun i hi => ?_⟩
  ·obtain rfl := Option.some.inj hA
   exact ⟨rfl, h1, hl'⟩
  ·have hi2 : i < (rows n a'.get).length := hi
   have hi' : i < n * sz := by rw [← k2]; exact hi
   have hj : i % sz < sz := Nat.mod_lt _ h1
   have hq : i / sz < n := Nat.div_lt_of_lt_mul (by rw [Nat.mul_comm]; exact hi')
   have e : i / sz * sz + i % sz = i := by rw [Nat.mul_comm]; exact Nat.div_add_mod i sz
   have hic : i < (rows n a.get).length := by rw [k1]; exact hi'
   have r1 := Wy n hl (i / sz) (i % sz) hq hj
   have r2 := Wy n hl' (i / sz) (i % sz) hq hj
   rw [e] at r1 r2
   have j1 : i % sz < (a.get (i / sz)).length := by rw [hl _ hq]; exact hj
   have j2 : i % sz < (a'.get (i / sz)).length := by rw [hl' _ hq]; exact hj
   obtain ⟨v, q1, q2⟩ := g3 i hic
   have q2 : Zo ρ ((rows n a.get)[i]'hic) v := q2
   refine ⟨v, q1, ?_⟩
   show Zo ρ ((rows n a'.get)[i]'hi2) v
   rw [List.getElem?_eq_getElem hic, List.getElem?_eq_getElem j1] at r1
   rw [List.getElem?_eq_getElem hi2, List.getElem?_eq_getElem j2] at r2
   rw [Option.some.inj r1] at q2
   rw [Option.some.inj r2]
   exact ((h _ hq).get _ j1 j2).sound q2
inductive LLe : List (Nat × AVal) → List (Nat × AVal) → Prop
 | nil : LLe [] []
 | cons (t : Nat) (v v' : AVal) (l l' : List (Nat × AVal)) (h : VLe v v') (hl : LLe l l') : LLe ((t, v) :: l) ((t, v') :: l')
inductive MLe : List ABlk → List ABlk → Prop
 | nil (l : List ABlk) : MLe [] l
 | cons (b b' : ABlk) (l l' : List ABlk) (h : BLe (some b) (some b')) (hl : MLe l l') : MLe (b :: l) (b' :: l')
theorem LLe.get {l l' : List (Nat × AVal)} (h : LLe l l') (t : Nat) : VLe (T.get .undef (Yb l) t) (T.get .undef (Yb l') t) := by
 induction h with
 | nil => exact .refl _
 | cons s v v' l l' h _ ih =>
  simp only [Yb, T.get_set]
  split
  ·exact h
  ·exact ih
theorem MLe.get {m m' : List ABlk} (h : MLe m m') : ∀ b, b < m.length → BLe m[b]? m'[b]? := by
 induction h with
 | nil l => intro b hb; exact absurd hb (Nat.not_lt_zero _)
 | cons x x' l l' h _ ih =>
  intro b hb
  cases b with
  | zero => simpa using h
  | succ b => simpa using ih b (by simpa using hb)
theorem MLe.len {m m' : List ABlk} (h : MLe m m') : m.length ≤ m'.length := by
 induction h with
 | nil l => exact Nat.zero_le _
 | cons x x' l l' _ _ ih => simpa using ih
theorem z1u {g h : Nat → List AVal} : ∀ (n : Nat), (∀ i, i < n → g i = h i) → rows n g = rows n h
 | 0, _ => rfl
 | n + 1, e => by rw [z4c, z4c, z1u n fun i hi => e i (by omega), e n (by omega)]
def v9j (n : Nat) (g : Nat → List AVal) (c : Nat → Int) : Prop := ∀ i, i < n → g i = z6v c i
theorem BLe.same (ty : TypeId) (a : Option Arr) {n : Nat} {g : Nat → List AVal} {c : Nat → Int} (h : v9j n g c) : BLe (some ⟨Go.Am.rows n g, ty, a⟩) (some ⟨Go.Am.rows n (z6v c), ty, some ⟨1, n, z6v c⟩⟩) :=
 .rowed _ _ _ _ _ _ (z1u _ h) (Nat.le_refl 1) fun _ _ => rfl
def z2o (l : List Int) : Nat → Int := fun k => l.getD k 0
theorem BLe.told (cells : List AVal) (ty : TypeId) (a : Option Arr) (n : Nat) (c : Nat → Int) (h : cells = Go.Am.rows n (z6v c)) : BLe (some ⟨cells, ty, a⟩) (some ⟨Go.Am.rows n (z6v c), ty, some ⟨1, n, z6v c⟩⟩) :=
 .rowed _ _ _ _ _ _ h (Nat.le_refl 1) fun _ _ => rfl
def z8r (asz sz off len n : Nat) (get : Nat → List AVal) : AVal := bif Nat.beq asz sz && Nat.ble (off + len) n then .dat len (fun k => get (off + k)) else .undef
theorem v7e (sz n : Nat) (g : Nat → List AVal) : z8r sz sz 0 n n g = .dat n g := by
 unfold z8r
 rw [show (Nat.beq sz sz && Nat.ble (0 + n) n) = true by simp [Nat.beq_refl, Nat.ble_eq], cond_true]
 congr 1
 funext k
 rw [Nat.zero_add]
def Qr (g : Nat → List AVal) : Bool := pd (∀ i, (g i).all (pf 6) = true)
theorem x4s {p : AVal → Bool} {l : List AVal} (h : l.all p = true) (n : Nat) : (l.take n).all p = true :=
 List.all_eq_true.2 fun x hx => List.all_eq_true.1 h x (List.mem_of_mem_take hx)
theorem x4t {p : AVal → Bool} {l : List AVal} (h : l.all p = true) (n : Nat) : (l.drop n).all p = true :=
 List.all_eq_true.2 fun x hx => List.all_eq_true.1 h x (List.mem_of_mem_drop hx)
theorem w2w {g : Nat → List AVal} {off len sz : Nat} {new : List AVal} (h : Qr g = true) (hn : new.all (pf 6) = true) : Qr (Zh g off len sz new) = true := pd_true fun i => by
 unfold Zh
 cases Nat.ble len i with
 | true => exact x4s (x4t hn _) _
 | false => exact Vw h _
theorem w2t {g : Nat → List AVal} {r fo : Nat} {cs : List AVal} (h : Qr g = true) (hn : cs.all (pf 6) = true) : Qr (Xr g r fo cs) = true := pd_true fun i => by
 unfold Xr
 cases Nat.beq i r with
 | true =>
  rw [cond_true, List.all_append, List.all_append, x4s (Vw h r), hn, x4t (Vw h r)]
  rfl
 | false => exact Vw h _
theorem x4w {P : Program} {S : Specs} (hS : Zu P S) {f : FuncId} {F : List AVal → Option (AVal × Bool)} (hf : (P.funcs[f]?).any (fun fn => fn.body.isSome) = true)
  (hF : ∀ args v, F args = some (v, true) → ∃ vs, (∀ (ρ : Rho) (u : Value), Zo ρ (Kq vs) u → Zo ρ v u) ∧ Ur P (Zy P f) (Zg P f args true []) vs ∧ ∃ d, pf d (Kq vs) = true) : Zu P (S.with f F) := by
 intro g G hg
 unfold Specs.with at hg
 cases hgf : Nat.beq g f with
 | false => rw [hgf] at hg; exact hS g G hg
 | true =>
  rw [hgf] at hg
  obtain rfl : Spec.val F = G := Option.some.inj hg
  obtain rfl : g = f := Nat.eq_of_beq_eq_true hgf
  refine ⟨?_, fun args v hv H vals w dN hH => ?_⟩
  ·cases hfn : P.funcs[g]? with
   | none => rw [hfn] at hf; cases hf
   | some fn => rw [hfn] at hf; exact ⟨fn, rfl, hf⟩
  ·obtain ⟨vs, hw, ⟨C', g1, g2, g3⟩, d, hp⟩ := hF args v hv
   exact (goes_call hf g1 g2 (by rw [y5o]; exact g3) dN hH).mono fun e w' ⟨ρ, u, he, ho⟩ => ⟨ρ.fz, u, ho.le, ho.old, ho.same, he, hw _ _ (Je d _ u hp ho.val), ho.below⟩
theorem v9j.nil (g : Nat → List AVal) (c : Nat → Int) : v9j 0 g c := fun _ h => absurd h (Nat.not_lt_zero _)
theorem x7d : Qr (fun _ => []) = true := pd_true fun _ => rfl
theorem x1n (s t : Nat) : Qr (fun k => (([] : List AVal).drop (k * s)).take t) = true := pd_true fun i => by simp
theorem y0q {g : Nat → List AVal} {o : Nat} (h : Qr g = true) : Qr (fun k => g (o + k)) = true := pd_true fun i => Vw h (o + i)
theorem w2v {g h : Nat → List AVal} {len : Nat} (p : Qr g = true) (q : Qr h = true) : Qr (Ub g len h) = true := pd_true fun i => by
 unfold Ub
 cases Nat.ble len i with
 | true => exact Vw q _
 | false => exact Vw p _
def y7t (sz n : Nat) (g : Nat → List AVal) : Bool := pd (∀ i, i < n → (g i).length = sz ∧ (g i).all z6u = true)
end Go.Am
namespace Go.Am
open Go.Sort Go.RowKit
variable {P : Program} {ρ : Rho}
theorem Rel.rewritten {mem : Mem} {next : Nat} {w w' : World} (h : Rel ρ mem next w) {b : Nat} {l : Loc} {ab : ABlk} (hb : ρ b = some l) (hm : Yr mem b = some ab) {cs : List AVal}
  (dK : cs.length = ab.cells.length) (eE : ∀ k, k < w.heap.size → k ≠ l.blk → w'.heap[k]? = w.heap[k]?) (hsize : w.heap.size ≤ w'.heap.size)
  (hnew : ∃ cur el, w'.heap[l.blk]? = some (.cells cur el (0, 0)) ∧ l.base + l.tot ≤ cur.size ∧ ∀ (i : Nat) (hi : i < cs.length), ∃ v, cur[l.base + i]? = some v ∧ Zo ρ cs[i] v) :
  Rel ρ (Xs mem b (some ⟨cs, ab.ty, none⟩)) next w' := by
 have hbk := h.blk b l ab hb hm
 refine ⟨h.dom, fun c c' m m' e e' he hs hs' => ?_, fun c m ac e hc => ?_, fun k o e => ?_, fun c m e hs => h.sep c m e (by
  by_cases hcb : c = b
  ·rw [hcb, hm]; rfl
  ·rwa [Zx _ _ hcb] at hs), fun c m e => Nat.lt_of_lt_of_le (h.real c m e) hsize, fun c hc => by have := h.dom b l hb; rw [Zx _ _ (by omega)]; exact h.bd c hc, h.ldom⟩
 ·refine h.inj c c' m m' e e' he ?_ ?_
  ·by_cases hcb : c = b
   ·rw [hcb, hm]; rfl
   ·rwa [Zx _ _ hcb] at hs
  ·by_cases hcb : c' = b
   ·rw [hcb, hm]; rfl
   ·rwa [Zx _ _ hcb] at hs'
 ·by_cases hcb : c = b
  ·subst hcb
   rw [Ym] at hc
   obtain rfl := Option.some.inj hc
   rw [hb] at e
   obtain rfl := Option.some.inj e
   exact ⟨by rw [dK]; exact hbk.n, hbk.tot, (fun A e => by cases e), hnew⟩
  ·rw [Zx _ _ hcb] at hc
   refine (h.blk c m ac e hc).world (Rho.le_refl _) (eE m.blk (h.real c m e) fun heq => hcb ?_)
   exact h.inj c b m l e hb heq (by rw [hc]; rfl) (by rw [hm]; rfl)
 ·have hk := h.old k o e
  rw [eE k ?_ ?_]
  ·exact hk
  ·exact (Array.getElem?_eq_some_iff.1 hk).1
  ·intro heq
   have := h.sep b l hb (by rw [hm]; rfl)
   rw [← heq, e] at this
   cases this
def Yy (n : Nat) (c : Nat → Int) : List Int := (List.range n).map c
def fRow (srt : List Int → List Int) (args : List AVal) (mem : Mem) : Option (AVal × Nat × ABlk × Bool) := match args with
 | [.sla b sz off n cap] => match Yr mem b with
  | some ⟨_, ty, some A⟩ => some (.tup [], b, ⟨rows A.n (z6v (z2o (srt (Yy n (cOf A.get))))), ty, some ⟨1, A.n, z6v (z2o (srt (Yy n (cOf A.get))))⟩⟩,
    Nat.beq sz 1 && (Nat.beq A.sz 1 && (Nat.beq off 0 && (decide (n = A.n) && (isI A.get && decide (n < 4611686018427387904))))))
  | _ => none
 | _ => none
theorem Jb (n : Nat) (c : Nat → Int) (i : Nat) (h : i < n) : (rows n (z6v c))[i]? = some (.int .i64 (c i)) := by
 have := Wy (get := z6v c) (sz := 1) n (fun _ _ => rfl) i 0 h Nat.one_pos
 simpa [z6v] using this
theorem Xc (n : Nat) (c : Nat → Int) : (rows n (z6v c)).length = n := by
 rw [Yw (sz := 1) n fun _ _ => rfl, Nat.mul_one]
theorem z2e (w : World) (n blk off : Nat) (d : Array Int) (os : Array Obj) (k : Nat) (hk : k < w.heap.size) :
  (grow (putRow (Value.int .i64) (Go.Sort.ahead w n) blk off d) os).heap[k]? = if k = blk then (w.heap[k]?).map (onCells (putCells (Value.int .i64) off d)) else w.heap[k]? := by
 show (((Go.Sort.ahead w n).heap.modify blk (onCells (putCells (Value.int .i64) off d))) ++ os)[k]? = _
 rw [Array.getElem?_append_left (by simp; exact hk), Array.getElem?_modify]
 show (if blk = k then _ else _) = _
 by_cases h : k = blk
 ·rw [if_pos h.symm, if_pos h]; rfl
 ·rw [if_neg (fun e => h e.symm), if_neg h]; rfl
theorem Ev.rewritten {mem : Mem} {next floor : Nat} {w w' : World} (h : Rel ρ mem next w) {b : Nat} (o : Option ABlk) (hb : ∀ l, ρ b = some l → floor ≤ b) (hnone : ρ b = none → ∀ cs ty, Yr mem b ≠ some ⟨cs, ty, none⟩)
  (eE : ∀ k, k < w.heap.size → (∀ l, ρ b = some l → k ≠ l.blk) → w'.heap[k]? = w.heap[k]?) (hsize : w.heap.size ≤ w'.heap.size) (h1 : w'.os = w.os) (h2 : w'.tape = w.tape) (h3 : w'.output = w.output) :
  Ev ρ ρ floor mem next (Xs mem b o) next w w' where
 ext := Rho.le_refl _
 new _ _ := rfl
 nxt := Nat.le_refl _
 unborn k _ e cs ty hm := by
  by_cases hk : k = b
  ·subst hk; exact absurd hm (hnone e cs ty)
  ·rw [Zx _ _ hk]; exact hm
 frame k o hk hfr := by
  rw [eE k (Array.getElem?_eq_some_iff.1 hk).1 fun l hl heq => hfr b l hl (hb l hl) heq.symm]
  exact hk
 fresh k m hk e := by have := h.dom k m e; omega
 size := hsize
 os := h1
 tape := h2
 output := h3
 still _ _ := rfl
theorem Rel.unbornSet {mem : Mem} {next : Nat} {w : World} (h : Rel ρ mem next w) {b : Nat} (hb : ρ b = none) (hlt : b < next) (o : Option ABlk) : Rel ρ (Xs mem b o) next w := by
 have ne : ∀ c l, ρ c = some l → c ≠ b := fun c l e he => by rw [he, hb] at e; cases e
 refine ⟨h.dom, fun c c' m m' e e' he hs hs' => ?_, fun c m ac e hc => ?_, h.old, fun c m e hs => ?_, h.real, fun c hc => ?_, h.ldom⟩
 ·rw [Zx _ _ (ne _ _ e)] at hs
  rw [Zx _ _ (ne _ _ e')] at hs'
  exact h.inj c c' m m' e e' he hs hs'
 ·rw [Zx _ _ (ne _ _ e)] at hc
  exact h.blk c m ac e hc
 ·rw [Zx _ _ (ne _ _ e)] at hs
  exact h.sep c m e hs
 ·rw [Zx _ _ (by omega)]
  exact h.bd c hc
theorem v8v {f : FuncId} {srt : List Int → List Int} (hsl : ∀ zs, (srt zs).length = zs.length)
  (hC : ∀ (blk off cap : Nat) (zs : List Int) (w : World), Holds (Value.int .i64) w blk off zs.toArray → blk < w.heap.size → zs.length < 4611686018427387904 →
   Calls P f #[.slice (some ⟨blk, off, none⟩) zs.length cap] w fun e w' => e = .returned (.tuple #[]) ∧ ∃ n os, w' = grow (putRow (Value.int .i64) (Go.Sort.ahead w n) blk off (srt zs).toArray) os)
  (hN : ∀ (p : Option Addr) (cap : Nat) (w : World), Calls P f #[.slice p 0 cap] w fun e w' => e = .returned (.tuple #[]) ∧ w' = w) : y8n P f (fRow srt) := by
 intro args mem v b blk h hsome ρ next floor vals w hfl dN dJ
 unfold fRow at h
 split at h
 ·rename_i b0 sz off n cap
  split at h
  ·rename_i cells ty A hm
   obtain ⟨asz, an, get⟩ := A
   simp only [Option.some.injEq, Prod.mk.injEq, Bool.and_eq_true] at h
   obtain ⟨rfl, rfl, rfl, h1, h2, h3, h4, h5, h6⟩ := h
   have g1 := Nat.eq_of_beq_eq_true h1
   have g2 := Nat.eq_of_beq_eq_true h2
   have g3 := Nat.eq_of_beq_eq_true h3
   have g4 : n = an := of_decide_eq_true h4
   have h6 : n < 4611686018427387904 := of_decide_eq_true h6
   subst g1
   subst g2
   subst g3
   subst g4
   obtain ⟨c, hcg⟩ := x4g h5
   have e0 : cOf (z6v c) = c := rfl
   simp only [hcg, e0]
   obtain ⟨u, hu, hvals⟩ : ∃ u, Zo ρ (.sla b0 1 0 n cap) u ∧ vals = #[u] := by
    obtain ⟨vl⟩ := vals
    cases dN with
    | cons h1 h2 => cases h2; exact ⟨_, h1, rfl⟩
   subst hvals
   have hlt : b0 < next := by
    rcases Nat.lt_or_ge b0 next with h | h
    ·exact h
    ·have := dJ.bd b0 h; rw [hm] at this; cases this
   generalize hL : srt (Yy n c) = L
   have hLl : L.length = n := by rw [← hL, hsl, Yy, List.length_map, List.length_range]
   have hnn : ρ b0 = none → ∀ cs ty', Yr mem b0 ≠ some ⟨cs, ty', none⟩ := fun _ cs ty' e => by rw [hm] at e; cases e
   cases hu with
   | sla _ _ _ _ _ l cc e hc dK =>
    have hbk := dJ.blk b0 l _ e hm
    obtain ⟨har, _, _⟩ := hbk.arr _ rfl
    simp only [hcg] at har
    subst har
    obtain ⟨cur, el, hh, hsz, dQ⟩ := hbk.cells
    simp only [Xc] at dQ
    have eD : ∀ i, i < n → cur[l.base + i]? = some (.int .i64 (c i)) := fun i hi => by
     obtain ⟨v, e1, e2⟩ := dQ i hi
     rw [show (rows n (z6v c))[i]'(by rw [Xc]; exact hi) = .int .i64 (c i) from Option.some.inj (by rw [← List.getElem?_eq_getElem, Jb n c i hi])] at e2
     cases e2
     exact e1
    have eU := dJ.real b0 l e
    have hzs : (Yy n c).length = n := by rw [Yy, List.length_map, List.length_range]
    have hH : Holds (Value.int .i64) w l.blk (l.base + 0 * 1) (Yy n c).toArray := fun j hj => by
     have hj : j < n := by simpa [hzs] using hj
     refine ⟨?_, ?_⟩
     ·simp only [World.cell?, hh, Nat.zero_mul, Nat.add_zero]
      rw [eD j hj]
      simp [Yy, hj]
     ·simp [World.frozen?, hh]
    have eA := hC l.blk (l.base + 0 * 1) cc (Yy n c) w hH eU (by omega)
    rw [hzs, hL] at eA
    refine eA.mono fun e' w' ⟨he, q, os, hw'⟩ => ⟨_, he, ?_, ?_, ?_⟩
    ·exact .tup [] #[] rfl fun i h1 h2 => absurd h1 (Nat.not_lt_zero _)
    ·subst hw'
     refine Rel.setArr ?_ ⟨1, n, z6v (z2o L)⟩ rfl (Nat.le_refl 1) fun _ _ => rfl
     refine Rel.rewritten dJ e hm (by simp only [Xc]) (fun k hk hne => ?_) ?_ ?_
     ·rw [z2e _ _ _ _ _ _ _ hk, if_neg hne]
     ·show _ ≤ (((Go.Sort.ahead w q).heap.modify _ _) ++ os).size
      simp only [Array.size_append, Array.size_modify]
      exact Nat.le_add_right _ _
     ·refine ⟨putCells (Value.int .i64) (l.base + 0 * 1) L.toArray cur, el, ?_, ?_, fun i hi => ?_⟩
      ·rw [z2e _ _ _ _ _ _ _ eU, if_pos rfl, hh]; rfl
      ·simp only [putCells, Array.size_mapIdx]; exact hsz
      ·rw [Xc] at hi
       refine ⟨.int .i64 (z2o L i), ?_, ?_⟩
       ·simp only [putCells, Array.getElem?_mapIdx, eD i hi, Option.map_some, Nat.zero_mul, Nat.add_zero]
        rw [if_pos ⟨by omega, by simp [hLl]; omega⟩]
        congr 1
        simp [z2o, hLl, hi]
       ·rw [show (rows n (z6v (z2o L)))[i]'(by rw [Xc]; exact hi) = .int .i64 (z2o L i) from Option.some.inj (by rw [← List.getElem?_eq_getElem, Jb n _ i hi])]
        exact .int _ _
    ·subst hw'
     refine Ev.rewritten dJ _ (fun l' _ => hfl) hnn (fun k hk hne => ?_) ?_ rfl rfl rfl
     ·rw [z2e _ _ _ _ _ _ _ hk, if_neg (hne l e)]
     ·show _ ≤ (((Go.Sort.ahead w q).heap.modify _ _) ++ os).size
      simp only [Array.size_append, Array.size_modify]
      exact Nat.le_add_right _ _
   | slan =>
    refine (hN none 0 w).mono fun e' w' ⟨he, hw'⟩ => ⟨_, he, ?_, ?_, ?_⟩
    ·exact .tup [] #[] rfl fun i h1 h2 => absurd h1 (Nat.not_lt_zero _)
    ·subst hw'
     refine Rel.setArr ?_ ⟨1, 0, z6v (z2o L)⟩ rfl (Nat.le_refl 1) fun _ _ => rfl
     cases e : ρ b0 with
     | none => exact Rel.unbornSet dJ e hlt _
     | some l =>
      have hbk := dJ.blk b0 l _ e hm
      obtain ⟨har, _, _⟩ := hbk.arr _ rfl
      simp only [hcg] at har
      subst har
      obtain ⟨cur, el, hh, hsz, dQ⟩ := hbk.cells
      exact Rel.rewritten dJ e hm rfl (fun _ _ _ => rfl) (Nat.le_refl _) ⟨cur, el, hh, hsz, fun i hi => absurd hi (Nat.not_lt_zero _)⟩
    ·subst hw'
     exact Ev.rewritten dJ _ (fun l' _ => hfl) hnn (fun _ _ _ => rfl) (Nat.le_refl _) rfl rfl rfl
  ·cases h
 ·cases h
def fCut (srt : List Int → List Int) (res : List Int → Nat) (args : List AVal) (mem : Mem) : Option (AVal × Nat × ABlk × Bool) := match args with
 | [.sla b sz off n cap] => match Yr mem b with
  | some ⟨_, ty, some A⟩ => some (.sla b 1 0 (res (Yy n (cOf A.get))) cap, b, ⟨rows A.n (z6v (z2o (srt (Yy n (cOf A.get))))), ty, some ⟨1, A.n, z6v (z2o (srt (Yy n (cOf A.get))))⟩⟩,
    Nat.beq sz 1 && (Nat.beq A.sz 1 && (Nat.beq off 0 && (decide (n = A.n) && (isI A.get && decide (n < 4611686018427387904))))))
  | _ => none
 | _ => none
theorem v8w {f : FuncId} {srt : List Int → List Int} {res : List Int → Nat} (hsl : ∀ zs, (srt zs).length = zs.length) (fJ : ∀ zs, res zs ≤ zs.length)
  (hC : ∀ (blk off cap : Nat) (zs : List Int) (w : World), Holds (Value.int .i64) w blk off zs.toArray → blk < w.heap.size → zs.length < 4611686018427387904 → zs.length ≤ cap →
   Calls P f #[.slice (some ⟨blk, off, none⟩) zs.length cap] w fun e w' => e = .returned (.slice (some ⟨blk, off, none⟩) (res zs) cap) ∧ ∃ n os, w' = grow (putRow (Value.int .i64) (Go.Sort.ahead w n) blk off (srt zs).toArray) os)
  (hN : ∀ (p : Option Addr) (cap : Nat) (w : World), Calls P f #[.slice p 0 cap] w fun e w' => e = .returned (.slice p 0 cap) ∧ w' = w) : y8n P f (fCut srt res) := by
 intro args mem v b blk h hsome ρ next floor vals w hfl dN dJ
 unfold fCut at h
 split at h
 ·rename_i b0 sz off n cap
  split at h
  ·rename_i cells ty A hm
   obtain ⟨asz, an, get⟩ := A
   simp only [Option.some.injEq, Prod.mk.injEq, Bool.and_eq_true] at h
   obtain ⟨rfl, rfl, rfl, h1, h2, h3, h4, h5, h6⟩ := h
   have g1 := Nat.eq_of_beq_eq_true h1
   have g2 := Nat.eq_of_beq_eq_true h2
   have g3 := Nat.eq_of_beq_eq_true h3
   have g4 : n = an := of_decide_eq_true h4
   have h6 : n < 4611686018427387904 := of_decide_eq_true h6
   subst g1
   subst g2
   subst g3
   subst g4
   obtain ⟨c, hcg⟩ := x4g h5
   have e0 : cOf (z6v c) = c := rfl
   simp only [hcg, e0]
   obtain ⟨u, hu, hvals⟩ : ∃ u, Zo ρ (.sla b0 1 0 n cap) u ∧ vals = #[u] := by
    obtain ⟨vl⟩ := vals
    cases dN with
    | cons h1 h2 => cases h2; exact ⟨_, h1, rfl⟩
   subst hvals
   have hlt : b0 < next := by
    rcases Nat.lt_or_ge b0 next with h | h
    ·exact h
    ·have := dJ.bd b0 h; rw [hm] at this; cases this
   generalize hL : srt (Yy n c) = L
   have hLl : L.length = n := by rw [← hL, hsl, Yy, List.length_map, List.length_range]
   have hnn : ρ b0 = none → ∀ cs ty', Yr mem b0 ≠ some ⟨cs, ty', none⟩ := fun _ cs ty' e => by rw [hm] at e; cases e
   cases hu with
   | sla _ _ _ _ _ l cc e hc dK =>
    have hbk := dJ.blk b0 l _ e hm
    obtain ⟨har, _, _⟩ := hbk.arr _ rfl
    simp only [hcg] at har
    subst har
    obtain ⟨cur, el, hh, hsz, dQ⟩ := hbk.cells
    simp only [Xc] at dQ
    have eD : ∀ i, i < n → cur[l.base + i]? = some (.int .i64 (c i)) := fun i hi => by
     obtain ⟨v, e1, e2⟩ := dQ i hi
     rw [show (rows n (z6v c))[i]'(by rw [Xc]; exact hi) = .int .i64 (c i) from Option.some.inj (by rw [← List.getElem?_eq_getElem, Jb n c i hi])] at e2
     cases e2
     exact e1
    have eU := dJ.real b0 l e
    have hzs : (Yy n c).length = n := by rw [Yy, List.length_map, List.length_range]
    have hH : Holds (Value.int .i64) w l.blk (l.base + 0 * 1) (Yy n c).toArray := fun j hj => by
     have hj : j < n := by simpa [hzs] using hj
     refine ⟨?_, ?_⟩
     ·simp only [World.cell?, hh, Nat.zero_mul, Nat.add_zero]
      rw [eD j hj]
      simp [Yy, hj]
     ·simp [World.frozen?, hh]
    have eA := hC l.blk (l.base + 0 * 1) cc (Yy n c) w hH eU (by omega) (by omega)
    rw [hzs, hL] at eA
    refine eA.mono fun e' w' ⟨he, q, os, hw'⟩ => ⟨_, he, ?_, ?_, ?_⟩
    ·exact .sla _ _ _ _ _ l cc e hc (Nat.le_trans (fJ _) (by omega))
    ·subst hw'
     refine Rel.setArr ?_ ⟨1, n, z6v (z2o L)⟩ rfl (Nat.le_refl 1) fun _ _ => rfl
     refine Rel.rewritten dJ e hm (by simp only [Xc]) (fun k hk hne => ?_) ?_ ?_
     ·rw [z2e _ _ _ _ _ _ _ hk, if_neg hne]
     ·show _ ≤ (((Go.Sort.ahead w q).heap.modify _ _) ++ os).size
      simp only [Array.size_append, Array.size_modify]
      exact Nat.le_add_right _ _
     ·refine ⟨putCells (Value.int .i64) (l.base + 0 * 1) L.toArray cur, el, ?_, ?_, fun i hi => ?_⟩
      ·rw [z2e _ _ _ _ _ _ _ eU, if_pos rfl, hh]; rfl
      ·simp only [putCells, Array.size_mapIdx]; exact hsz
      ·rw [Xc] at hi
       refine ⟨.int .i64 (z2o L i), ?_, ?_⟩
       ·simp only [putCells, Array.getElem?_mapIdx, eD i hi, Option.map_some, Nat.zero_mul, Nat.add_zero]
        rw [if_pos ⟨by omega, by simp [hLl]; omega⟩]
        congr 1
        simp [z2o, hLl, hi]
       ·rw [show (rows n (z6v (z2o L)))[i]'(by rw [Xc]; exact hi) = .int .i64 (z2o L i) from Option.some.inj (by rw [← List.getElem?_eq_getElem, Jb n _ i hi])]
        exact .int _ _
    ·subst hw'
     refine Ev.rewritten dJ _ (fun l' _ => hfl) hnn (fun k hk hne => ?_) ?_ rfl rfl rfl
     ·rw [z2e _ _ _ _ _ _ _ hk, if_neg (hne l e)]
     ·show _ ≤ (((Go.Sort.ahead w q).heap.modify _ _) ++ os).size
      simp only [Array.size_append, Array.size_modify]
      exact Nat.le_add_right _ _
   | slan =>
    refine (hN none 0 w).mono fun e' w' ⟨he, hw'⟩ => ⟨_, he, ?_, ?_, ?_⟩
    ·rw [show res (Yy 0 c) = 0 from Nat.le_zero.1 (fJ _)]
     exact .slan _ _ _ _
    ·subst hw'
     refine Rel.setArr ?_ ⟨1, 0, z6v (z2o L)⟩ rfl (Nat.le_refl 1) fun _ _ => rfl
     cases e : ρ b0 with
     | none => exact Rel.unbornSet dJ e hlt _
     | some l =>
      have hbk := dJ.blk b0 l _ e hm
      obtain ⟨har, _, _⟩ := hbk.arr _ rfl
      simp only [hcg] at har
      subst har
      obtain ⟨cur, el, hh, hsz, dQ⟩ := hbk.cells
      exact Rel.rewritten dJ e hm rfl (fun _ _ _ => rfl) (Nat.le_refl _) ⟨cur, el, hh, hsz, fun i hi => absurd hi (Nat.not_lt_zero _)⟩
    ·subst hw'
     exact Ev.rewritten dJ _ (fun l' _ => hfl) hnn (fun _ _ _ => rfl) (Nat.le_refl _) rfl rfl rfl
  ·cases h
 ·cases h
end Go.Am
namespace Go.Am
def q4 (f : Nat → Nat → Int) : Nat → List AVal := fun k => [.int .i64 (f k 0), .int .i64 (f k 1), .int .i64 (f k 2), .int .i64 (f k 3)]
theorem y6q (a : Nat) : (Nat.beq a a == true) = true := by simp [Nat.beq_refl]
end Go.Am
namespace Go.Am
inductive VP where
 | keep
 | drop
  | grow (b sz : Nat)
  | list (n : Nat) (g : Nat → List AVal)
  | len (n : Nat)
  | frz (n n' : Nat) (a g : Nat → List AVal)
def Ug (n : Nat) (a g : Nat → List AVal) : Bool := pd (∀ i, i < n → a i = g i)
def z9n (cells : List AVal) (sz n : Nat) (g : Nat → List AVal) : Bool := pd (cells = rows n g ∧ 1 ≤ sz ∧ ∀ i, i < n → (g i).length = sz)
def rlesR (n : Nat) (a g : Nat → List AVal) : Bool := pd (∀ i, i < n → RLe (a i) (g i))
def y4i (a b : Nat) : Bool := pd (a = b)
theorem Jn {a b : Nat} (h : a = b) : y4i a b = true := pd_true h
def w2p (v : AVal) (n : Nat) (a : Nat → List AVal) : Bool := pd (v = .dat n a)
theorem w8b (sz n : Nat) (g : Nat → List AVal) : w2p (z8r sz sz 0 n n g) n g = true := pd_true (v7e sz n g)
theorem w2o (n : Nat) (g : Nat → List AVal) : w2p (.dat n g) n g = true := pd_true rfl
def y7a : VP → AVal → Bool → AVal × Bool
 | .keep, v, ob => (v, ob)
 | .drop, _, ob => (.undef, ob)
 | .grow b sz, v, ob => match v with
  | .nils => (.sla b sz 0 0 (.un sz), ob)
  | .sl b o len cap => (.sla b sz 0 len cap, Nat.beq o 0 && ob)
  | v => (v, ob)
 | .list n' g, v, ob => match v with
  | .nils => (.dat 0 g, ob)
  | .dat n a => (.dat n' g, y4i n n' && (Ug n a g && ob))
  | v => (v, ob)
 | .len n', v, ob => match v with
  | .sla b sz off n cap => (.sla b sz off n' cap, y4i n n' && ob)
  | v => (v, ob)
 | .frz n n' a g, v, ob => (.dat n' g, w2p v n a && (y4i n n' && (Ug n a g && ob)))
theorem x4b {p : VP} {v : AVal} {ob : Bool} (h : (y7a p v ob).2 = true) : VLe v (y7a p v ob).1 ∧ ob = true := by
 cases p with
 | keep => exact ⟨.refl _, h⟩
 | drop => exact ⟨.undef _, h⟩
 | grow b sz =>
  cases v with
  | nils => exact ⟨.nils _ _ _ _, h⟩
  | sl b' o len cap =>
   simp only [y7a, Bool.and_eq_true] at h
   have e := Nat.eq_of_beq_eq_true h.1
   subst e
   have := VLe.sl b' sz 0 len cap
   rw [Nat.zero_mul] at this
   exact ⟨this, h.2⟩
  | _ => exact ⟨.refl _, h⟩
 | list n' g =>
  cases v with
  | nils => exact ⟨.nild _, h⟩
  | dat n a =>
   simp only [y7a, Bool.and_eq_true] at h
   obtain rfl := Vw h.1
   exact ⟨.dat _ _ _ (Vw h.2.1), h.2.2⟩
  | _ => exact ⟨.refl _, h⟩
 | len n' =>
  cases v with
  | sla b sz off n cap =>
   simp only [y7a, Bool.and_eq_true] at h
   obtain rfl := Vw h.1
   exact ⟨.refl _, h.2⟩
  | _ => exact ⟨.refl _, h⟩
 | frz n n' a g =>
  simp only [y7a, Bool.and_eq_true] at h
  obtain rfl := Vw h.1
  obtain rfl := Vw h.2.1
  exact ⟨.dat _ _ _ (Vw h.2.2.1), h.2.2.2⟩
def y6z : List VP → List AVal → Bool → List AVal × Bool
 | _, [], ob => ([], ob)
 | [], l, ob => (l, ob)
 | p :: ps, v :: l, ob => match y6z ps l ob with
  | (l', ob) => match y7a p v ob with
   | (v', ob) => (v' :: l', ob)
theorem y0d : ∀ {ps : List VP} {l : List AVal} {ob : Bool}, (y6z ps l ob).2 = true → RLe l (y6z ps l ob).1 ∧ ob = true
 | [], [], _, h => ⟨.nil, h⟩
 | _ :: _, [], _, h => ⟨.nil, h⟩
 | [], a :: l, _, h => ⟨RLe.refl _, h⟩
 | p :: ps, v :: l, ob, h => by
  simp only [y6z] at h ⊢
  obtain ⟨h1, h2⟩ := x4b h
  obtain ⟨h3, h4⟩ := y0d h2
  exact ⟨.cons h1 h3, h4⟩
inductive BP where
 | keep
 | drop
 | cells (ps : List VP)
 | rowed (sz n : Nat) (g : Nat → List AVal)
 | rws (a : Rws)
def y0e : BP → Option ABlk → Bool → Option ABlk × Bool
 | .keep, o, ob => (o, ob)
 | .drop, _, ob => (none, ob)
 | .cells ps, o, ob => match o with
  | some ⟨cells, ty, none⟩ => match y6z ps cells ob with
   | (cs, ob) => (some ⟨cs, ty, none⟩, ob)
  | o => (o, ob)
 | .rowed sz n g, o, ob => match o with
  | some ⟨cells, ty, none⟩ => (some ⟨rows n g, ty, some ⟨sz, n, .flat g⟩⟩, z9n cells sz n g && ob)
  | some ⟨_, ty, some ⟨sz', n', a⟩⟩ => (some ⟨rows n g, ty, some ⟨sz', n, .flat g⟩⟩, y4i n' n && (Ug n' a.get g && ob))
  | o => (o, ob)
 | .rws a', o, ob => match o with
  | some ⟨_, ty, some ⟨sz, n, a⟩⟩ => (some ⟨rows n a'.get, ty, some ⟨sz, n, a'⟩⟩, rlesR n a.get a'.get && ob)
  | o => (o, ob)
theorem RLe.sound {ρ : Rho} {l m : List AVal} (h : RLe l m) (i : Nat) (h1 : i < l.length) (h2 : i < m.length) {v : Value} (hv : Zo ρ l[i] v) : Zo ρ m[i] v := (h.get i h1 h2).sound hv
theorem x0v {p : BP} {o : Option ABlk} {ob : Bool} {x' : ABlk} (h : (y0e p o ob).2 = true) (hx : (y0e p o ob).1 = some x') : ob = true ∧ ∃ x, o = some x ∧ ∀ (ρ : Rho) (w : World) (l : Loc), Qj ρ w x l → Qj ρ w x' l := by
 cases p with
 | keep => exact ⟨h, x', hx, fun _ _ _ q => q⟩
 | drop => cases hx
 | cells ps =>
  rcases o with _ | ⟨cells, ty, _ | A⟩
  ·cases hx
  ·simp only [y0e] at h hx
   obtain ⟨h1, h2⟩ := y0d h
   obtain rfl := Option.some.inj hx
   refine ⟨h2, _, rfl, fun ρ w l hb => ?_⟩
   obtain ⟨cs, el, g1, g2, g3⟩ := hb.cells
   refine ⟨by rw [hb.n]; exact h1.len, hb.tot, (fun A hA => by cases hA), cs, el, g1, g2, fun i hi => ?_⟩
   have hi0 : i < cells.length := by rw [h1.len]; exact hi
   obtain ⟨v, q1, q2⟩ := g3 i hi0
   exact ⟨v, q1, h1.sound i hi0 hi q2⟩
  ·exact ⟨h, _, rfl, fun ρ w l hb => by obtain rfl := Option.some.inj hx; exact hb⟩
 | rowed sz n g =>
  rcases o with _ | ⟨cells, ty, _ | ⟨sz', n', a⟩⟩
  ·cases hx
  ·simp only [y0e, Bool.and_eq_true] at h hx
   obtain rfl := Option.some.inj hx
   obtain ⟨h1, h2, h3⟩ := Vw h.1
   exact ⟨h.2, _, rfl, fun ρ w l hb => (BLe.rowed cells ty none sz n g h1 h2 h3).sound hb⟩
  ·simp only [y0e, Bool.and_eq_true] at h hx
   obtain rfl := Option.some.inj hx
   obtain rfl := Vw h.1
   have h1 := Vw h.2.1
   refine ⟨h.2.2, _, rfl, fun ρ w l hb => ?_⟩
   obtain ⟨q1, q2, q3⟩ := hb.arr _ rfl
   exact (BLe.rowed cells ty _ sz' n' g (q1.trans (z1u _ h1)) q2 fun i hi => by rw [← h1 i hi]; exact q3 i hi).sound hb
 | rws a' =>
  rcases o with _ | ⟨cells, ty, _ | ⟨sz', n', a⟩⟩
  ·cases hx
  ·exact ⟨h, _, rfl, fun ρ w l hb => by obtain rfl := Option.some.inj hx; exact hb⟩
  ·simp only [y0e, Bool.and_eq_true] at h hx
   obtain rfl := Option.some.inj hx
   refine ⟨h.2, _, rfl, fun ρ w l hb => ?_⟩
   obtain ⟨q1, _, _⟩ := hb.arr _ rfl
   have q1 : cells = rows n' a.get := q1
   subst q1
   exact (BLe.rws ty sz' n' a a' (Vw h.1)).sound hb
def x6o : List (Nat × VP) → T AVal → Bool → T AVal × Bool
 | [], env, ob => (env, ob)
 | (t, p) :: l, env, ob => match x6o l env ob with
  | (e, ob) => match y7a p (T.get .undef e t) ob with
   | (v, ob) => (T.set .undef e t v, ob)
def ELe (e e' : T AVal) : Prop := ∀ t, (∀ (ρ : Rho) (v : Value), Zo ρ (T.get .undef e t) v → Zo ρ (T.get .undef e' t) v) ∧ (T.get .undef e t = .undef → T.get .undef e' t = .undef)
theorem ELe.refl (e : T AVal) : ELe e e := fun _ => ⟨fun _ _ h => h, fun h => h⟩
theorem y4h : ∀ {l : List (Nat × VP)} {env : T AVal} {ob : Bool}, (x6o l env ob).2 = true → ELe env (x6o l env ob).1 ∧ ob = true
 | [], _, _, h => ⟨ELe.refl _, h⟩
 | (t, p) :: l, env, ob, h => by
  simp only [x6o] at h ⊢
  obtain ⟨h1, h2⟩ := x4b h
  obtain ⟨h3, h4⟩ := y4h h2
  refine ⟨fun s => ?_, h4⟩
  rw [T.get_set]
  by_cases e : s = t
  ·subst e
   rw [if_pos rfl]
   exact ⟨fun ρ v hv => h1.sound ((h3 s).1 ρ v hv), fun hu => by have e := (h3 s).2 hu; rw [e] at h1 ⊢; exact h1.of_undef⟩
  ·rw [if_neg e]; exact h3 s
def x0u : List BP → Nat → Mem → Bool → Mem × Bool
 | [], _, m, ob => (m, ob)
 | p :: ps, i, m, ob => match x0u ps (i + 1) m ob with
  | (m', ob) => match y0e p (Yr m i) ob with
   | (x, ob) => (Xs m' i x, ob)
theorem w7p {p : BP} {o : Option ABlk} {ob : Bool} (h : (y0e p o ob).2 = true) : ob = true := by
 cases p with
 | keep => exact h
 | drop => exact h
 | cells ps =>
  rcases o with _ | ⟨cells, ty, _ | A⟩
  ·exact h
  ·exact (y0d h).2
  ·exact h
 | rowed sz n g =>
  rcases o with _ | ⟨cells, ty, _ | A⟩
  ·exact h
  ·simp only [y0e, Bool.and_eq_true] at h; exact h.2
  ·simp only [y0e, Bool.and_eq_true] at h; exact h.2.2
 | rws a =>
  rcases o with _ | ⟨cells, ty, _ | A⟩
  ·exact h
  ·exact h
  ·simp only [y0e, Bool.and_eq_true] at h; exact h.2
theorem y2s : ∀ {ps : List BP} {i : Nat} {m : Mem} {ob : Bool}, (x0u ps i m ob).2 = true → ob = true ∧ ∀ b x', Yr (x0u ps i m ob).1 b = some x' → ∃ x, Yr m b = some x ∧ ∀ (ρ : Rho) (w : World) (l : Loc), Qj ρ w x l → Qj ρ w x' l
 | [], _, _, _, h => ⟨h, fun b x' hb => ⟨x', hb, fun _ _ _ q => q⟩⟩
 | p :: ps, i, m, ob, h => by
  simp only [x0u] at h ⊢
  have hob : (x0u ps (i + 1) m ob).2 = true := w7p h
  obtain ⟨h1, h2⟩ := y2s hob
  refine ⟨h1, fun b x' hb => ?_⟩
  rw [Wu] at hb
  by_cases e : b = i
  ·subst e
   rw [if_pos rfl] at hb
   exact (x0v h hb).2
  ·rw [if_neg e] at hb
   exact h2 b x' hb
def x6n : List (List (Nat × VP)) → List AFr → Bool → List AFr × Bool
 | _, [], ob => ([], ob)
 | [], l, ob => (l, ob)
 | p :: ps, ⟨cx, ro, todo, rnd, rs, env⟩ :: l, ob => match x6n ps l ob with
  | (l', ob) => match x6o p env ob with
   | (e, ob) => (⟨cx, ro, todo, rnd, rs, e⟩ :: l', ob)
def FLe (a a' : AFr) : Prop := a.cx = a'.cx ∧ a.ro = a'.ro ∧ a.todo = a'.todo ∧ a.rnd = a'.rnd ∧ a.rs = a'.rs ∧ ELe a.env a'.env
theorem FLe.refl (a : AFr) : FLe a a := ⟨rfl, rfl, rfl, rfl, rfl, ELe.refl _⟩
theorem Wg.refl' : ∀ l : List AFr, Wg FLe l l
 | [] => .nil
 | a :: l => .cons (FLe.refl a) (Wg.refl' l)
theorem x4c : ∀ {ps : List (List (Nat × VP))} {l : List AFr} {ob : Bool}, (x6n ps l ob).2 = true → Wg FLe l (x6n ps l ob).1 ∧ ob = true
 | [], [], _, h => ⟨.nil, h⟩
 | _ :: _, [], _, h => ⟨.nil, h⟩
 | [], a :: l, _, h => ⟨Wg.refl' _, h⟩
 | p :: ps, ⟨cx, ro, todo, rnd, rs, env⟩ :: l, ob, h => by
  simp only [x6n] at h ⊢
  obtain ⟨h1, h2⟩ := y4h h
  obtain ⟨h3, h4⟩ := x4c h2
  exact ⟨.cons ⟨rfl, rfl, rfl, rfl, rfl, h1⟩ h3, h4⟩
structure Less where
 slots : List (Nat × VP) := []
 blks : List BP := []
 cs : List (List (Nat × VP)) := []
def x6q (L : Less) : Cfg → Cfg
 | ⟨cx, ro, todo, rnd, rs, ⟨env, mem, next, orc, ob⟩, cs, lps⟩ => match x6n L.cs cs ob with
  | (cs', ob) => match x0u L.blks 0 mem ob with
   | (mem', ob) => match x6o L.slots env ob with
    | (env', ob) => ⟨cx, ro, todo, rnd, rs, ⟨env', mem', next, orc, ob⟩, cs', lps⟩
def y7m : List (TypeId × Nat × (Nat → List AVal)) → Nat → Mem → Mem
 | [], _, m => m
 | (ty, sz, g) :: l, i, m => Xs (y7m l (i + 1) m) i (some ⟨[], ty, some ⟨sz, 0, .flat g⟩⟩)
def x4j (gs : List (TypeId × Nat × (Nat → List AVal))) : Cfg → Cfg
 | ⟨cx, ro, todo, rnd, rs, ⟨env, mem, next, orc, ob⟩, cs, lps⟩ => ⟨cx, ro, todo, rnd, rs, ⟨env, y7m gs next mem, next + gs.length, orc, ob⟩, cs, lps⟩
theorem z5x : ∀ (gs : List (TypeId × Nat × (Nat → List AVal))) (i : Nat) (m : Mem) (b : Nat), (b < i → Yr (y7m gs i m) b = Yr m b) ∧ (i + gs.length ≤ b → Yr (y7m gs i m) b = Yr m b)
 | [], i, m, b => ⟨fun _ => rfl, fun _ => rfl⟩
 | (ty, sz, g) :: l, i, m, b => by
  obtain ⟨h1, h2⟩ := z5x l (i + 1) m b
  simp only [y7m, Wu, List.length_cons]
  exact ⟨fun h => by rw [if_neg (by omega)]; exact h1 (by omega), fun h => by rw [if_neg (by omega)]; exact h2 (by omega)⟩
theorem x8k.less {P : Program} {ρ : Rho} {cs : List AFr} {css : List Frame} {mss : List Nat} (h : x8k P ρ cs css mss) : ∀ {cs' : List AFr}, Wg FLe cs cs' → x8k P ρ cs' css mss := by
 induction h with
 | nil => intro cs' h; cases h; exact .nil
 | @cons af b a k ms cs css mss hf hl t ih =>
  intro cs' h
  cases h with
  | @cons _ af' _ cs'' h1 h2 =>
   obtain ⟨e1, e2, e3, e4, e5, e6⟩ := h1
   have hne : cs'' ≠ [] → cs ≠ [] := fun hn he => by subst he; cases h2; exact hn rfl
   rw [show Wz af.ro k = Wz af'.ro k by rw [e2]]
   exact .cons ⟨by rw [← e1]; exact ⟨hf.env.size, fun t => (e6 t).1 _ _ (hf.env.get t), fun t ht => (e6 t).2 (hf.env.out t ht)⟩, hf.defers, by rw [← e3]; exact hf.todo, by rw [← e2]; exact hf.ro, by rw [← e4]; exact hf.rnd⟩
    (fun hn => by rw [← e4, ← e5]; exact hl (hne hn)) (ih h2)
theorem z5w {P : Program} {cx : Ctx} {ro : Option RegOps} {todo : List Item} {rnd : Option Nat} {rs : List ResultVar} {env env' : T AVal} {mem mem' : Mem} {k k' : Nat} {o o' : List Bool} {b0 b0' : Bool} {cs cs' : List AFr} {lps : Loops}
  (hE : ELe env env') (hC : Wg FLe cs cs') (hM : ∀ b x', b < k → Yr mem' b = some x' → ∃ x, Yr mem b = some x ∧ ∀ (ρ : Rho) (w : World) (l : Loc), Qj ρ w x l → Qj ρ w x' l) (hk : k ≤ k') (hbd : (∀ b, k ≤ b → Yr mem b = none) → ∀ b, k' ≤ b → Yr mem' b = none) :
  z7l P ⟨cx, ro, todo, rnd, rs, ⟨env, mem, k, o, b0⟩, cs, lps⟩ ⟨cx, ro, todo, rnd, rs, ⟨env', mem', k', o', b0'⟩, cs', lps⟩ :=
 fun H w0 ρ b a t css w ma mb hs he cs0 => by
  have hr := hs.rel
  simp only at hr he
  have hne : cs' ≠ [] → cs ≠ [] := fun hn e => by subst e; cases hC; exact hn rfl
  refine ⟨ρ, b, a, t, css, w, ma, mb, Steps.refl _ _, ⟨⟨?_, hs.top.defers, hs.top.todo, hs.top.ro, hs.top.rnd⟩, fun hn => hs.lv (hne hn), ⟨hs.rest.cs.less hC, hs.rest.nodup, hs.rest.marks, hs.rest.loops, hs.rest.inj⟩, ?_⟩, ?_, rfl⟩
  ·exact ⟨hs.top.env.size, fun t => (hE t).1 _ _ (hs.top.env.get t), fun t ht => (hE t).2 (hs.top.env.out t ht)⟩
  ·have lift : ∀ c l, ρ c = some l → (Yr mem' c).isSome = true → (Yr mem c).isSome = true := fun c l hc h => by
    obtain ⟨x, hx⟩ := Option.isSome_iff_exists.1 h
    obtain ⟨y, hy, _⟩ := hM c x (hr.dom c l hc) hx
    rw [hy]; rfl
   refine ⟨fun c l hc => Nat.lt_of_lt_of_le (hr.dom c l hc) hk, fun c c' l l' hc hc' hl h1 h2 => hr.inj c c' l l' hc hc' hl (lift c l hc h1) (lift c' l' hc' h2), fun c l ab hc h1 => ?_, hr.old, fun c l hc h1 => hr.sep c l hc (lift c l hc h1), hr.real, hbd hr.bd, fun j l hj => Nat.lt_of_lt_of_le (hr.ldom j l hj) hk⟩
   obtain ⟨y, hy, h2⟩ := hM c ab (hr.dom c l hc) h1
   exact h2 _ _ _ (hr.blk c l y hc hy)
  ·exact ⟨he.ext, fun _ hb => absurd hb (Nat.not_lt_zero _), Nat.zero_le _, fun _ hb => absurd hb (Nat.not_lt_zero _), he.frame, he.fresh, he.size, he.os, he.tape, he.output, he.still⟩
theorem x6p {P : Program} {L : Less} {C : Cfg} (ho : (x6q L C).st.ob = true) : C.st.ob = true ∧ z7l P C (x6q L C) := by
 obtain ⟨cx, ro, todo, rnd, rs, ⟨env, mem, next, orc, ob⟩, cs, lps⟩ := C
 simp only [x6q] at ho ⊢
 obtain ⟨h1, h2⟩ := y4h ho
 obtain ⟨h3, h4⟩ := y2s h2
 obtain ⟨h5, h6⟩ := x4c h3
 refine ⟨h6, z5w h1 h5 (fun b x' _ hb => h4 b x' hb) (Nat.le_refl _) fun hbd b hb => ?_⟩
 cases hq : Yr (x0u L.blks 0 mem (x6n L.cs cs ob).2).1 b with
 | none => rfl
 | some x' =>
  obtain ⟨x, hx, _⟩ := h4 b x' hq
  rw [hbd b hb] at hx; cases hx
theorem x1f {P : Program} (gs : List (TypeId × Nat × (Nat → List AVal))) (C : Cfg) : z7l P C (x4j gs C) ∧ (x4j gs C).st.ob = C.st.ob := by
 obtain ⟨cx, ro, todo, rnd, rs, ⟨env, mem, next, orc, ob⟩, cs, lps⟩ := C
 exact ⟨z5w (ELe.refl _) (Wg.refl' _) (fun b x' hb h => ⟨x', by rw [← (z5x gs next mem b).1 hb]; exact h, fun _ _ _ q => q⟩) (Nat.le_add_right _ _) fun hbd b hb => by
  rw [(z5x gs next mem b).2 hb]; exact hbd b (by omega), rfl⟩
theorem x6x {P : Program} {C C' : Cfg} {orc : List Bool} {ob : Bool} (g : z7l P (C.withO orc) (C'.withB ob)) : z7l P C C' := by
 obtain ⟨cx, ro, todo, rnd, rs, ⟨env, mem, next, o, b⟩, cs, lps⟩ := C
 obtain ⟨cx', ro', todo', rnd', rs', ⟨env', mem', next', o', b'⟩, cs', lps'⟩ := C'
 exact fun H w0 ρ b a k css w ma mb hs he cs0 => by
  obtain ⟨ρ', b', a', k', css', w', ma', mb', h1, h2, h3, h4⟩ := g H w0 ρ b a k css w ma mb ⟨hs.top, hs.lv, hs.rest, hs.rel⟩ he cs0
  exact ⟨ρ', b', a', k', css', w', ma', mb', h1, ⟨h2.top, h2.lv, h2.rest, h2.rel⟩, h3, h4⟩
theorem w4v {P : Program} {S : Specs} (hN : z6l P) (hmx : P.follows .mixedOrders = true) (hS : Zu P S) {n m d : Nat} {C C' : Cfg} (gs : List (TypeId × Nat × (Nat → List AVal))) (N : z5m) (L : Less) (orc : List Bool) (ob : Bool)
  (h : (((w7t P S (v4x P S m d) n (C.withO orc)).map (x4j gs)).bind (w6z P N)).map (x6q L) = some (C'.withB ob)) (ho : ob = true) (hfl : fl0 C = true) : z7l P C C' := by
 rw [Option.map_eq_some_iff] at h
 obtain ⟨C2, h1, h2⟩ := h
 rw [Option.bind_eq_some_iff] at h1
 obtain ⟨C1, h3, h4⟩ := h1
 rw [Option.map_eq_some_iff] at h3
 obtain ⟨C0, h5, rfl⟩ := h3
 have hfo : fl0 (C.withO orc) = true := by
  obtain ⟨cx, ro, todo, rnd, rs, ⟨env, mem, next, o, b⟩, cs, lps⟩ := C
  exact hfl
 obtain ⟨hCI, hC⟩ := x9j hN hmx hS m d
 obtain ⟨f1, f2, f3⟩ := y7g hN hmx hS hCI hC n (C.withO orc) C0 (w8g hfo) h5
 have hob : (x6q L C2).st.ob = true := by
  rw [h2]
  obtain ⟨cx, ro, todo, rnd, rs, ⟨env, mem, next, o, b⟩, cs, lps⟩ := C'
  exact ho
 obtain ⟨l1, l2⟩ := x6p (P := P) hob
 obtain ⟨g1, g2, _⟩ := x6j h4 l1
 obtain ⟨q1, q2⟩ := x1f (P := P) gs C0
 rw [q2] at g1
 have := (((f3 g1).goes.trans q1).trans g2).trans l2
 rw [h2] at this
 exact x6x this
theorem y3n (n : Nat) (g : Nat → List AVal) : Ug n g g = true := pd_true fun _ _ => rfl
theorem x9d (a g : Nat → List AVal) : Ug 0 a g = true := pd_true fun _ h => absurd h (Nat.not_lt_zero _)
theorem w9p {a b : Nat} (h : ¬ a ≤ b) : Nat.ble a b = false := Bool.eq_false_iff.2 fun e => h (Nat.le_of_ble_eq_true e)
theorem w3o {a b : Nat} (h : a ≤ b) : Nat.ble a b = true := Nat.ble_eq_true_of_le h
theorem x9g {n N sz : Nat} {G H H' : Nat → List AVal} {cells : List AVal} (m : Nat) (h : Ug n G H = true) (hN : N = n + m) (h0 : ∀ i, i < n → H' i = H i) (h1 : ∀ i, i < m → (cells.drop (i * sz)).take sz = H' (n + i)) : Ug N (Zh G 0 n sz cells) H' = true := pd_true fun i hi => by
 unfold Zh
 by_cases e : n ≤ i
 ·rw [w3o e, cond_true, h1 (i - n) (by omega), show n + (i - n) = i by omega]
 ·rw [w9p e, cond_false, Nat.zero_add, Vw h i (by omega), h0 i (by omega)]
theorem z6e {α : Type} {sz : Nat} : ∀ (l : List (List α)) (i : Nat), (∀ x ∈ l, x.length = sz) → i < l.length → (l.flatten.drop (i * sz)).take sz = l.getD i []
 | [], i, _, h => absurd h (Nat.not_lt_zero _)
 | x :: l, 0, hl, _ => by
  have := hl x (by simp)
  simp [List.take_append_of_le_length, this]
 | x :: l, i + 1, hl, h => by
  have hx := hl x (by simp)
  rw [List.flatten_cons, List.getD_cons_succ, ← z6e l i (fun y hy => hl y (by simp [hy])) (by simpa using h)]
  rw [List.drop_append, hx, show (i + 1) * sz - sz = i * sz by rw [Nat.add_mul, Nat.one_mul]; omega, List.drop_eq_nil_of_le (by rw [hx, Nat.add_mul, Nat.one_mul]; omega), List.nil_append]
theorem x9f {m N : Nat} {G H H' : Nat → List AVal} (h' : Ug m H H' = true) (hN : N = 0 + m) : Ug N (Ub G 0 H) H' = true := pd_true fun i hi => Vw h' i (by omega)
theorem y9h {n : Nat} {G H : Nat → List AVal} (h : Ug n G H = true) : Ug n (fun k => G (0 + k)) H = true := pd_true fun i hi => by
 show G (0 + i) = _
 rw [Nat.zero_add]; exact Vw h i hi
theorem w5w {cells : List AVal} {sz n : Nat} {g : Nat → List AVal} (h : cells = rows n g) (h1 : Nat.ble 1 sz = true) (h2 : ∀ i, (g i).length = sz) : z9n cells sz n g = true := pd_true ⟨h, Nat.le_of_ble_eq_true h1, fun i _ => h2 i⟩
end Go.Am
namespace Go.Am
def y6x : List (Nat × ABlk) → Mem
 | [] => .leaf
 | (i, b) :: l => Xs (y6x l) i (some b)
def y6y : List (Nat × ALoop) → Loops
 | [] => .leaf
 | (i, b) :: l => x8c (y6y l) i (some b)
class Xz (α : Type) where
 w : Nat
 d : α
 cells : α → List AVal
 of : List AVal → α
 len : ∀ a, (cells a).length = w
 pos : 1 ≤ w
 flat : ∀ a, (cells a).all (pf 6) = true
 sc : ∀ a, (cells a).all z6u = true
 back : ∀ a, of (cells a) = a
def iOf : AVal → Int
 | .int _ n => n
 | _ => 0
def oOf : AVal → Bool
 | .bool b => b
 | _ => false
instance : Xz Int where
 w := 1
 d := 0
 cells x := [.int .i64 x]
 of l := iOf (l.getD 0 .undef)
 len _ := rfl
 pos := Nat.le_refl 1
 flat _ := rfl
 sc _ := rfl
 back _ := rfl
instance : Xz Bool where
 w := 1
 d := false
 cells x := [.bool x]
 of l := oOf (l.getD 0 .undef)
 len _ := rfl
 pos := Nat.le_refl 1
 flat _ := rfl
 sc _ := rfl
 back _ := rfl
structure R2 where
 (a b : Int)
 deriving DecidableEq
structure R3 where
 (a b c : Int)
 deriving DecidableEq
structure R4 where
 (a b c d : Int)
 deriving DecidableEq
structure R6 where
 (a b c d e f : Int)
 deriving DecidableEq
instance : Xz R2 where
 w := 2
 d := ⟨0, 0⟩
 cells x := [.int .i64 x.a, .int .i64 x.b]
 of l := ⟨iOf (l.getD 0 .undef), iOf (l.getD 1 .undef)⟩
 len _ := rfl
 pos := by decide
 flat _ := rfl
 sc _ := rfl
 back _ := rfl
instance : Xz R3 where
 w := 3
 d := ⟨0, 0, 0⟩
 cells x := [.int .i64 x.a, .int .i64 x.b, .int .i64 x.c]
 of l := ⟨iOf (l.getD 0 .undef), iOf (l.getD 1 .undef), iOf (l.getD 2 .undef)⟩
 len _ := rfl
 pos := by decide
 flat _ := rfl
 sc _ := rfl
 back _ := rfl
instance : Xz R4 where
 w := 4
 d := ⟨0, 0, 0, 0⟩
 cells x := [.int .i64 x.a, .int .i64 x.b, .int .i64 x.c, .int .i64 x.d]
 of l := ⟨iOf (l.getD 0 .undef), iOf (l.getD 1 .undef), iOf (l.getD 2 .undef), iOf (l.getD 3 .undef)⟩
 len _ := rfl
 pos := by decide
 flat _ := rfl
 sc _ := rfl
 back _ := rfl
instance : Xz R6 where
 w := 6
 d := ⟨0, 0, 0, 0, 0, 0⟩
 cells x := [.int .i64 x.a, .int .i64 x.b, .int .i64 x.c, .int .i64 x.d, .int .i64 x.e, .int .i64 x.f]
 of l := ⟨iOf (l.getD 0 .undef), iOf (l.getD 1 .undef), iOf (l.getD 2 .undef), iOf (l.getD 3 .undef), iOf (l.getD 4 .undef), iOf (l.getD 5 .undef)⟩
 len _ := rfl
 pos := by decide
 flat _ := rfl
 sc _ := rfl
 back _ := rfl
theorem w3t {p : AVal → Bool} {l : List AVal} (h : l.all p = true) (n : Nat) : (l.take n).all p = true := List.all_eq_true.2 fun x hx => List.all_eq_true.1 h x (List.mem_of_mem_take hx)
theorem w3u {p : AVal → Bool} {l : List AVal} (h : l.all p = true) (n : Nat) : (l.drop n).all p = true := List.all_eq_true.2 fun x hx => List.all_eq_true.1 h x (List.mem_of_mem_drop hx)
section
variable {α : Type} [Xz α]
def rd (L : List α) (k : Nat) : α := L.getD k Xz.d
def Zz (L : List α) : Nat → List AVal := fun k => Xz.cells (rd L k)
def lst (α : Type) [Xz α] (n : Nat) (g : Nat → List AVal) : List α := (List.range n).map fun k => Xz.of (g k)
def isT (α : Type) [Xz α] (n : Nat) (g : Nat → List AVal) : Bool := pd (∀ i, i < n → g i = Xz.cells (Xz.of (g i) : α))
theorem Xa {L : List α} {k : Nat} (h : k < L.length) : rd L k = L[k] := by unfold rd; rw [List.getD_eq_getElem?_getD, List.getElem?_eq_getElem h]; rfl
theorem Va {L M : List α} {k : Nat} (h : k < L.length) : rd (L ++ M) k = rd L k := by
 unfold rd; rw [List.getD_eq_getElem?_getD, List.getD_eq_getElem?_getD, List.getElem?_append_left h]
theorem Vx {L M : List α} {k : Nat} (h : L.length ≤ k) : rd (L ++ M) k = rd M (k - L.length) := by
 unfold rd; rw [List.getD_eq_getElem?_getD, List.getD_eq_getElem?_getD, List.getElem?_append_right h]
theorem Zp (L : List α) : lst α L.length (Zz L) = L := by
 apply List.ext_getElem
 ·simp [lst]
 ·intro i h1 h2
  simp only [lst, List.getElem_map, List.getElem_range, Zz]
  rw [Xz.back, Xa h2]
def cvT (L : List α) : List α := lst α L.length (Zz L)
theorem Zc (L : List α) : cvT L = L := Zp L
theorem z5r (n : Nat) (g : Nat → List AVal) : (lst α n g).length = n := by simp [lst]
theorem w7k (L : List α) {off n : Nat} (h : off + n ≤ L.length) : lst α n (fun k => Zz L (off + k)) = (L.drop off).take n := by
 apply List.ext_getElem
 ·simp [lst]; omega
 ·intro i h1 h2
  simp only [lst, List.getElem_map, List.getElem_range, Zz]
  have : off + i < L.length := by simp at h2; omega
  rw [Xz.back, Xa this, List.getElem_take, List.getElem_drop]
theorem z8o (L : List α) (n : Nat) : isT α n (Zz L) = true := pd_true fun i _ => by simp only [Zz]; rw [Xz.back]
theorem y7h (L : List α) (off n : Nat) : isT α n (fun k => Zz L (off + k)) = true := pd_true fun i _ => by simp only [Zz]; rw [Xz.back]
theorem x4e (g : Nat → List AVal) : isT α 0 g = true := pd_true fun i h => absurd h (Nat.not_lt_zero _)
theorem x4f {n : Nat} {g : Nat → List AVal} (h : isT α n g = true) : ∀ i, i < n → g i = Zz (lst α n g) i := fun i hi => by
 rw [Vw h i hi]
 unfold Zz
 rw [Xa (by rw [z5r]; exact hi)]
 simp [lst]
theorem Xu (L : List α) : Qr (Zz L) = true := pd_true fun _ => Xz.flat _
theorem x7o {sz : Nat} (L : List α) (n : Nat) (h : sz = Xz.w α) : y7t sz n (Zz L) = true := pd_true fun _ _ => ⟨by rw [h]; exact Xz.len _, Xz.sc _⟩
theorem x7p {sz : Nat} (L : List α) (off n : Nat) (h : sz = Xz.w α) : y7t sz n (fun k => Zz L (off + k)) = true := pd_true fun _ _ => ⟨by rw [h]; exact Xz.len _, Xz.sc _⟩
theorem x2a {sz N off m : Nat} {G : Nat → List AVal} (h : y7t sz N G = true) (hb : decide (off + m ≤ N) = true) : y7t sz m (fun k => G (off + k)) = true := pd_true fun i hi => by
 have hb := of_decide_eq_true hb
 exact Vw h (off + i) (by omega)
theorem w3k {sz n N m : Nat} {G : Nat → List AVal} {cells : List AVal} (h : y7t sz n G = true) (hN : N = n + m) (hc : cells.length = m * sz) (hs : cells.all z6u = true) : y7t sz N (Zh G 0 n sz cells) = true := pd_true fun i hi => by
 unfold Zh
 by_cases e : n ≤ i
 ·rw [w3o e, cond_true]
  have : (i - n) * sz + sz ≤ m * sz := by
   have := Nat.mul_le_mul_right sz (show i - n + 1 ≤ m by omega)
   rwa [Nat.add_mul, Nat.one_mul] at this
  exact ⟨by rw [List.length_take, List.length_drop, hc]; omega, w3t (w3u hs _) _⟩
 ·rw [w9p e, cond_false, Nat.zero_add]
  exact Vw h i (by omega)
theorem x3c {L M : List α} {n N sz : Nat} {G : Nat → List AVal} {cells : List AVal} (h : Ug n G (Zz L) = true) (hn : n = L.length) (hN : N = n + M.length) (hsz : sz = Xz.w α) (hc : cells = (M.map Xz.cells).flatten) : Ug N (Zh G 0 n sz cells) (Zz (L ++ M)) = true := by
 subst hn
 refine x9g M.length h hN (fun i hi => ?_) fun i hi => ?_
 ·simp only [Zz]; rw [Va hi]
 ·subst hc
  rw [z6e _ _ (fun x hx => by obtain ⟨y, _, rfl⟩ := List.mem_map.1 hx; rw [Xz.len, hsz]) (by simpa using hi)]
  simp only [Zz]
  rw [Vx (Nat.le_add_right _ _), Nat.add_sub_cancel_left, Xa hi]
  rw [List.getD_eq_getElem?_getD, List.getElem?_map, List.getElem?_eq_getElem hi]; rfl
theorem v1r {L : List α} {r k : Nat} {y : α} (hk : k < L.length) : rd (L.set r y) k = if k = r then y else rd L k := by
 rw [Xa (by simpa using hk), Xa hk, List.getElem_set]
 by_cases e : r = k
 ·subst e; simp
 ·rw [if_neg e, if_neg fun q => e q.symm]
theorem x3b {L : List α} {n r fo : Nat} {G : Nat → List AVal} {cs : List AVal} {y : α} (h : Ug n G (Zz L) = true) (hn : n = L.length) (hy : Xz.cells y = (Xz.cells (rd L r)).take fo ++ cs ++ (Xz.cells (rd L r)).drop (fo + cs.length)) : Ug n (Xr G r fo cs) (Zz (L.set r y)) = true := by
 subst hn
 refine pd_true fun i hi => ?_
 unfold Xr
 simp only [Zz]
 rw [v1r hi]
 cases e : Nat.beq i r with
 | true =>
  have := Nat.eq_of_beq_eq_true e
  subst this
  rw [cond_true, if_pos rfl, Vw h i hi, hy]; rfl
 | false =>
  have : i ≠ r := fun q => by rw [q, Nat.beq_refl] at e; cases e
  rw [cond_false, if_neg this, Vw h i hi]; rfl
theorem w5l {n : Nat} {cs : List AVal} {y : α} {G : Nat → List AVal} (hG : G = fun _ => cs) (hy : Xz.cells y = cs) : Ug n G (Zz (List.replicate n y)) = true := pd_true fun i hi => by
 rw [hG]
 simp only [Zz]
 rw [Xa (by simpa using hi), List.getElem_replicate, hy]
theorem x9e {L M : List α} {n m N : Nat} {G H : Nat → List AVal} (h : Ug n G (Zz L) = true) (hn : n = L.length) (h' : Ug m H (Zz M) = true) (hN : N = n + m) : Ug N (Ub G n H) (Zz (L ++ M)) = true := by
 subst hn
 refine pd_true fun i hi => ?_
 unfold Ub
 by_cases e : L.length ≤ i
 ·rw [w3o e, cond_true, Vw h' _ (by omega)]; simp only [Zz]; rw [Vx e]
 ·rw [w9p e, cond_false, Vw h i (by omega)]; simp only [Zz]; rw [Va (by omega)]
def x6s (n : Nat) (g : Nat → List AVal) (sz : Nat) : Bool := pd (∀ i, i < n → (g i).length = sz)
theorem w2a {sz : Nat} (L : List α) (n : Nat) (h : sz = Xz.w α) : x6s n (Zz L) sz = true := pd_true fun _ _ => by rw [h]; exact Xz.len _
theorem x6r {sz n : Nat} {L : List α} {off : Nat} (h : sz = Xz.w α) : x6s n (fun k => Zz L (off + k)) sz = true := pd_true fun _ _ => by rw [h]; exact Xz.len _
def Kk (L : List α) (off n : Nat) : List α := (List.range n).map fun k => rd L (off + k)
theorem z1g (L : List α) (off n : Nat) : (Kk L off n).length = n := by simp [Kk]
theorem y3x {L : List α} {off n k : Nat} (h : k < n) : rd (Kk L off n) k = rd L (off + k) := by
 rw [Xa (by rw [z1g]; exact h)]; simp [Kk]
theorem x5m {L : List α} {N off n : Nat} {G : Nat → List AVal} (h : Ug N G (Zz L) = true) (hb : decide (off + n ≤ N) = true) : Ug n (fun k => G (off + k)) (Zz (Kk L off n)) = true := pd_true fun i hi => by
 have hb := of_decide_eq_true hb
 simp only [Zz]
 rw [y3x hi, Vw h _ (by omega)]; rfl
theorem x5l {L : List α} {off n : Nat} : Ug n (fun k => Zz L (off + k)) (Zz (Kk L off n)) = true := pd_true fun i hi => by
 simp only [Zz]
 rw [y3x hi]
theorem Wi (L : List α) : lst α L.length (fun k => Zz L (0 + k)) = L := by
 have := Zp L
 simpa only [Nat.zero_add] using this
theorem w7u (L : List Int) : isI (Zz L) = true := pd_true rfl
theorem z0l (L : List Int) : Yy L.length (cOf (Zz L)) = L := Zp L
def y1r (L : List α) (off n : Nat) (M : List α) : List α := (List.range L.length).map fun k => bif Nat.ble off k && Nat.ble (k + 1) (off + n) then rd M (k - off) else rd L k
theorem Vn (L : List α) (off n : Nat) (M : List α) : (y1r L off n M).length = L.length := by simp [y1r]
theorem w0l {L M : List α} {off n k : Nat} (h : k < L.length) : rd (y1r L off n M) k = bif Nat.ble off k && Nat.ble (k + 1) (off + n) then rd M (k - off) else rd L k := by
 rw [Xa (by rw [Vn]; exact h)]; simp [y1r]
theorem w5m {L M : List α} {N off n m : Nat} {G H : Nat → List AVal} (h : Ug N G (Zz L) = true) (hN : N = L.length) (h' : Ug m H (Zz M) = true) (hm : n ≤ m) : Ug N (Vu G off n H) (Zz (y1r L off n M)) = true := by
 subst hN
 refine pd_true fun i hi => ?_
 unfold Vu
 simp only [Zz]
 rw [w0l hi]
 cases e : (Nat.ble off i && Nat.ble (i + 1) (off + n)) with
 | true =>
  simp only [Bool.and_eq_true] at e
  have e1 := Nat.le_of_ble_eq_true e.1
  have e2 := Nat.le_of_ble_eq_true e.2
  rw [cond_true, cond_true, Vw h' _ (by omega)]; rfl
 | false => rw [cond_false, cond_false, Vw h i hi]; rfl
theorem w2u {g h : Nat → List AVal} {off n : Nat} (p : Qr g = true) (q : Qr h = true) : Qr (Vu g off n h) = true := pd_true fun i => by
 unfold Vu
 cases (Nat.ble off i && Nat.ble (i + 1) (off + n)) with
 | true => exact Vw q _
 | false => exact Vw p _
end
theorem Vb {P : Program} {rs : List ResultVar} {σ : Type} {cfg : σ → Cfg} {C C' : Cfg} (g : z7l P C C') : ∀ {o : Xj σ}, Xd P rs cfg C' o → Xd P rs cfg C o
 | .stuck, _ => trivial
 | .ret _, ⟨D, h, h2, h3⟩ => ⟨D, g.trans h, h2, h3⟩
 | .to _, h => g.trans h
theorem x4p : ∀ {az bs : List AVal} (i : Nat) {t u : T AVal}, Wg VLe az bs → ELe t u → ELe (z6d az i t) (z6d bs i u)
 | _, _, i, t, u, .nil, h => h
 | _, _, i, t, u, .cons (a := a) (b := b) h1 h2, h => by
  refine x4p (i + 1) h2 fun s => ?_
  rw [T.get_set, T.get_set]
  by_cases e : s = i
  ·rw [if_pos e, if_pos e]; exact ⟨fun ρ v hv => h1.sound hv, fun q => by subst q; exact h1.of_undef⟩
  ·rw [if_neg e, if_neg e]; exact h s
theorem y7q {P : Program} {f : FuncId} {az bs : List AVal} {vs : List AVal} (h : Wg VLe az bs) (k : Ur P (Zy P f) (Zg P f bs true []) vs) : Ur P (Zy P f) (Zg P f az true []) vs := by
 obtain ⟨C', g, h2, h3⟩ := k
 refine ⟨C', z7l.trans ?_ g, h2, h3⟩
 unfold Zg
 cases P.funcs[f]? with
 | none => exact z7l.refl _
 | some fn =>
  simp only
  rw [h.length]
  exact z5w (x4p 0 h (ELe.refl _)) .nil (fun b x' hb => absurd hb (Nat.not_lt_zero _)) (Nat.le_refl _) fun hbd b hb => hbd b hb
theorem x4v {P : Program} {S : Specs} (hS : Zu P S) {f : FuncId} {F : List AVal → Option (AVal × Bool)} (hf : (P.funcs[f]?).any (fun fn => fn.body.isSome) = true)
  (hF : ∀ args v, F args = some (v, true) → ∃ bs vs, Wg VLe args bs ∧ Kq vs = v ∧ Ur P (Zy P f) (Zg P f bs true []) vs ∧ ∃ d, pf d v = true) : Zu P (S.with f F) :=
 x8l hS hf fun args v h => by
  obtain ⟨bs, vs, h1, h2, h3, d, h4⟩ := hF args v h
  exact ⟨vs, h2, y7q h1 h3, d, h4⟩
def asL (α : Type) [Xz α] : AVal → Option (List α × (Nat → List AVal) × Nat)
 | .nils => some ([], fun _ => [], 0)
 | .dat n g => some (lst α n g, g, n)
 | _ => none
theorem asL_le {α : Type} [Xz α] {v : AVal} {L : List α} {g : Nat → List AVal} {n : Nat} (h : asL α v = some (L, g, n)) (ho : isT α n g = true) : VLe v (.dat L.length (Zz L)) := by
 unfold asL at h
 split at h
 ·simp only [Option.some.injEq, Prod.mk.injEq] at h
  obtain ⟨rfl, _, _⟩ := h
  exact .nild _
 ·simp only [Option.some.injEq, Prod.mk.injEq] at h
  obtain ⟨rfl, rfl, rfl⟩ := h
  rw [z5r]
  exact .dat _ _ _ (x4f ho)
 ·cases h
end Go.Am
namespace Go.Am
open Go.ChangeShapes Go.WideShapes Go.Deep
section
variable {P : Program}
def y4j (P : Program) (rec : TypeId → Option (List IntKind)) : List Field → Nat → Option (List IntKind)
 | [], _ => some []
 | f :: r, o => bif Nat.beq f.offset o then match rec f.type with
   | some ks => bif Nat.beq (P.cellsOf f.type) ks.length then (y4j P rec r (o + ks.length)).map (ks ++ ·) else none
   | none => none
  else none
def y7d (P : Program) : Nat → TypeId → Option (List IntKind)
 | 0, _ => none
 | d + 1, t => match P.underlying t with
  | some (.int k) => some [k]
  | some (.struct fs) => match y4j P (y7d P d) fs.toList 0 with
   | some ks => bif Nat.beq (P.cellsOf t) ks.length then some ks else none
   | none => none
  | _ => none
def w9t (ks : List IntKind) (cs : List Value) : Prop := ∃ ns : List Int, ns.length = ks.length ∧ cs = List.zipWith Value.int ks ns ∧ ∀ p ∈ List.zip ks ns, p.1.has p.2
theorem w9t.append {a b : List IntKind} {x y : List Value} (h : w9t a x) (k : w9t b y) : w9t (a ++ b) (x ++ y) := by
 obtain ⟨ns, h1, rfl, h3⟩ := h
 obtain ⟨ms, k1, rfl, k3⟩ := k
 refine ⟨ns ++ ms, by simp [h1, k1], ?_, fun p hp => ?_⟩
 ·rw [List.zipWith_append h1.symm]
 ·rw [List.zip_append h1.symm, List.mem_append] at hp
  rcases hp with hp | hp
  ·exact h3 p hp
  ·exact k3 p hp
theorem w9t.length {ks : List IntKind} {cs : List Value} (h : w9t ks cs) : cs.length = ks.length := by
 obtain ⟨ns, h1, rfl, _⟩ := h
 simp [h1]
variable {HH : Type} {enc : TypeId × Value → HH} {w : World} {base : Nat} {spare : Nat → Bool} {held : Bool}
theorem z6t {rec : TypeId → Option (List IntKind)} (hr : ∀ t ks, rec t = some ks → ∀ fuel cs x, DataW.trod enc P w base spare held fuel t cs = some x → w9t ks cs) (cs : List Value) :
  ∀ (l : List Field) (o : Nat) (ks : List IntKind), y4j P rec l o = some ks → o + ks.length ≤ cs.length → (∀ f ∈ l, ∃ fuel x, DataW.trod enc P w base spare held fuel f.type ((cs.drop f.offset).take (P.cellsOf f.type)) = some x) → w9t ks ((cs.drop o).take ks.length)
 | [], o, ks, h, _, _ => by
  obtain rfl := Option.some.inj h
  exact ⟨[], rfl, by simp, by simp⟩
 | f :: r, o, ks, h, hl, hf => by
  unfold y4j at h
  obtain ⟨ho, h⟩ := Zi h
  obtain rfl := Nat.eq_of_beq_eq_true ho
  split at h
  ·rename_i ks1 h1
   obtain ⟨hc, h⟩ := Zi h
   have hc := Nat.eq_of_beq_eq_true hc
   simp only [Option.map_eq_some_iff] at h
   obtain ⟨ks2, h2, rfl⟩ := h
   obtain ⟨fuel, x, hx⟩ := hf f (by simp)
   have i1 := hr _ _ h1 _ _ _ hx
   rw [hc] at i1
   rw [List.length_append] at hl
   have i2 := z6t hr cs r _ ks2 h2 (by omega) fun g hg => hf g (by simp [hg])
   have : (cs.drop f.offset).take (ks1 ++ ks2).length = (cs.drop f.offset).take ks1.length ++ (cs.drop (f.offset + ks1.length)).take ks2.length := by
    rw [List.length_append, List.take_add, List.drop_drop]
   rw [this]
   exact i1.append i2
  ·cases h
theorem y0h : ∀ (d : Nat) (t : TypeId) (ks : List IntKind), y7d P d t = some ks → ∀ (fuel : Nat) (cs : List Value) (x : DataW HH × List MemPlace), DataW.trod enc P w base spare held fuel t cs = some x → w9t ks cs
 | 0, _, _, h => by cases h
 | d + 1, t, ks, h => by
  intro fuel cs x hx
  unfold y7d at h
  split at h
  ·rename_i k hk
   obtain rfl := Option.some.inj h
   obtain ⟨m, rfl, _, hw⟩ := DataW.trod_int hk hx
   refine ⟨[m], rfl, rfl, fun p hp => ?_⟩
   obtain rfl : p = (k, m) := by simpa using hp
   simpa [Lit.wf, IntKind.has] using hw
  ·rename_i fs hs
   split at h
   ·rename_i ks1 h1
    obtain ⟨hc, h⟩ := Zi h
    obtain rfl := Option.some.inj h
    have hc := Nat.eq_of_beq_eq_true hc
    obtain ⟨xs, n, _, _, hl, dK, hf⟩ := DataW.trod_struct hs hx
    have hl : cs.length = ks1.length := hl.trans hc
    have := z6t (fun t ks ht fuel cs x hx => y0h d t ks ht fuel cs x hx) cs fs.toList 0 ks1 h1 (by omega) fun f hf' => by
     obtain ⟨j, hj, rfl⟩ := List.getElem_of_mem hf'
     have hj2 : j < fs.size := by simpa using hj
     have := hf j fs[j] (by simp [hj2])
     refine ⟨n, xs[j]'(by omega), ?_⟩
     simpa [dK, hj2] using this
    rwa [List.drop_zero, List.take_of_length_le (by omega)] at this
   ·cases h
  ·cases h
def rowOf (ks : List IntKind) (c : Nat → Int) : List AVal := List.zipWith AVal.int ks ((List.range ks.length).map c)
theorem x9u (ks : List IntKind) (c : Nat → Int) (j : Nat) (h : j < (rowOf ks c).length) : ∃ hk : j < ks.length, (rowOf ks c)[j] = .int ks[j] (c j) := by
 have hk : j < ks.length := by simpa [rowOf] using h
 exact ⟨hk, by simp [rowOf]⟩
theorem w9a {e : TypeId} {ks : List IntKind} (hk : y7d P 30 e = some ks) {blk off len cap m fl : Nat} {D : Nat → DataW HH} {Pl : Nat → List MemPlace} (hl : len ≤ cap) (hlm : len ≤ m)
  (hi : ∀ i, i < m → ∃ cs', w.cells? base ((⟨blk, off, none⟩ : Addr).add (i * P.cellsOf e)) (P.cellsOf e) = some cs' ∧ DataW.trod enc P w base spare held fl e cs' = some (D i, Pl i)) :
  ∃ c : Nat → Nat → Int, Zo (z1c fun k => w.heap[k]?) (.dat len (fun i => rowOf ks (c i))) (.slice (some ⟨blk, off, none⟩) len cap) ∧ ∀ i, i < len → ∀ (j : Nat) (k : IntKind), ks[j]? = some k → k.has (c i j) := by
 have key : ∀ i, i < len → ∃ ns : List Int, ns.length = ks.length ∧ (∀ j, j < ks.length → ∃ k, ks[j]? = some k ∧ w.cell? ⟨blk, off + (i * ks.length + j), none⟩ = some (.int k (ns.getD j 0)) ∧ k.has (ns.getD j 0)) := by
  intro i hil
  obtain ⟨cs', hc', ht'⟩ := hi i (by omega)
  have I := y0h 30 e ks hk _ _ _ ht'
  obtain ⟨_, dK, eD⟩ := World.cells?_some hc'
  have hce : P.cellsOf e = ks.length := by rw [← dK]; exact I.length
  obtain ⟨ns, n1, n2, n3⟩ := I
  refine ⟨ns, n1, fun j hj => ?_⟩
  have hj2 : j < ns.length := by omega
  refine ⟨ks[j], by simp [hj], ?_, ?_⟩
  ·have := eD j (by omega)
   rw [hce] at this
   simp only [Xy] at this
   rw [show off + i * ks.length + j = off + (i * ks.length + j) by omega] at this
   rw [this, n2]
   simp [List.getElem?_zipWith, hj, hj2]
  ·have : (ks[j], ns[j]) ∈ List.zip ks ns := by
    rw [List.mem_iff_getElem]
    exact ⟨j, by rw [List.length_zip]; omega, by simp⟩
   have := n3 _ this
   simpa [hj2] using this
 let c : Nat → Nat → Int := fun i j => if hil : i < len then ((key i hil).choose).getD j 0 else 0
 have hcs : ∀ i, i < len → ∀ j, j < ks.length → ∃ k, ks[j]? = some k ∧ w.cell? ⟨blk, off + (i * ks.length + j), none⟩ = some (.int k (c i j)) ∧ k.has (c i j) := by
  intro i hil j hj
  have := (key i hil).choose_spec.2 j hj
  simp only [c, hil, dif_pos]
  exact this
 refine ⟨c, .dat len _ blk off ks.length cap (fun i j => .int (ks.getD j .i64) (c i j)) hl (fun i _ => by simp [rowOf]) (fun i j hil hj => ?_) (fun i j hil hj => ?_), fun i hil j k hkj => ?_⟩
 ·obtain ⟨hk2, e2⟩ := x9u ks (c i) j hj
  rw [e2]
  have : ks.getD j .i64 = ks[j] := by simp [hk2]
  rw [this]
  exact .int _ _
 ·obtain ⟨k, e1, e2, _⟩ := hcs i hil j hj
  have : ks.getD j .i64 = k := by simp [e1]
  rw [this]
  unfold World.cell? at e2
  split at e2
  ·rename_i cl el fz hb2
   simp only [Option.isSome_none, Bool.false_eq_true, if_false] at e2
   exact ⟨cl, el, fz, hb2, e2⟩
  ·cases e2
 ·have hj : j < ks.length := (List.getElem?_eq_some_iff.1 hkj).1
  obtain ⟨k', e1, _, e3⟩ := hcs i hil j hj
  rw [hkj] at e1
  obtain rfl := Option.some.inj e1
  exact e3
theorem open_dat {t e : TypeId} {ks : List IntKind} {v : Value} {d : DataW HH} {p : List MemPlace} (ht : P.underlying t = some (.slice e)) (hk : y7d P 30 e = some ks) {b0 : Nat} (hv : Value.okWide P w .any b0 t v) (h : DataW.Trod enc P w base spare held t v d p) :
  ∃ (n : Nat) (c : Nat → Nat → Int), Zo (z1c fun k => w.heap[k]?) (.dat n (fun i => rowOf ks (c i))) v ∧ (∀ i, i < n → ∀ (j : Nat) (k : IntKind), ks[j]? = some k → k.has (c i j)) ∧ n ≤ maxLen := by
 obtain ⟨fuel, h⟩ := h
 have hvc : v.cells.toList = [v] := by
  unfold Value.okWide at hv
  rw [ht] at hv
  unfold Cell.okWide at hv
  rw [ht] at hv
  cases v <;> first | rfl | (simp [Cell.ok, ht] at hv)
 rcases open_slice ht h with ⟨h0, _⟩ | ⟨a, len, cap, m, fl, D, Pl, hcs, hb, hl, dP, hm, _, hi⟩
 ·rw [hvc] at h0
  obtain rfl : v = .slice none 0 0 := by simpa using h0
  exact ⟨0, fun _ _ => 0, .datn _, fun i hi => absurd hi (Nat.not_lt_zero _), Nat.zero_le _⟩
 ·rw [hvc] at hcs
  obtain rfl : v = .slice (some a) len cap := by simpa using hcs
  have hspot : a.spot = none := by
   unfold Value.okWide at hv
   rw [ht] at hv
   unfold Cell.okWide at hv
   rw [ht] at hv
   simp only [Cell.ok, ht] at hv
   exact hv.2.2.2.1
  obtain ⟨blk, off, spot⟩ := a
  simp only at hspot
  subst hspot
  have hlm : len ≤ m := by rw [hm]; split <;> omega
  obtain ⟨c, h1, h2⟩ := w9a hk hl hlm hi
  exact ⟨len, c, h1, h2, by omega⟩
end
end Go.Am
namespace Go.Am
open Go.Proofs.Tryz
open Go.Proofs
def namedB (P : Program) : Bool := P.funcs.toList.all fun fn => fn.body.isNone || !(fn.name == "runtime.NumGoroutine")
theorem w7e {P : Program} (h : namedB P = true) : z6l P := by
 intro f fn hf hb
 have hm : fn ∈ P.funcs.toList := by
  rw [Array.mem_toList_iff]
  exact Array.mem_of_getElem? hf
 have := List.all_eq_true.mp h fn hm
 cases hbb : fn.body with
 | none => rw [hbb] at hb; cases hb
 | some b => simpa [hbb] using this
theorem named : z6l prog := w7e (by kernel_rfl)
theorem mixed : prog.follows .mixedOrders = true := by kernel_rfl
end Go.Am
section

end
namespace Go.Am
open Go.Proofs.Tryz
open Go.Proofs
instance {α : Type} [Xz α] : Xz (List α) where
 w := 1
 d := []
 cells l := [.dat l.length (Zz l)]
 of cs := match cs.getD 0 .undef with
  | .dat n g => lst α n g
  | _ => []
 len _ := rfl
 pos := Nat.le_refl 1
 flat _ := rfl
 sc _ := rfl
 back l := Zp l
theorem y9i {α : Type} [Xz α] {L : List α} {n off sz : Nat} {cells : List AVal} (hn : n = L.length) (hsz : sz = Xz.w α) (hc : (cells.drop off).take (n * sz) = (L.map Xz.cells).flatten) : Ug n (x7s cells off sz) (Zz L) = true := pd_true fun i hi => by
 have e : ((((cells.drop off).take (n * sz)).drop (i * sz)).take sz) = (cells.drop (off + i * sz)).take sz := by
  rw [List.drop_take, List.take_take, List.drop_drop, Nat.min_eq_left]
  have := Nat.mul_le_mul_right sz (show i + 1 ≤ n by omega)
  rw [Nat.add_mul, Nat.one_mul] at this
  omega
 have h := z6e (sz := sz) (L.map Xz.cells) i (fun x hx => by obtain ⟨y, _, rfl⟩ := List.mem_map.1 hx; rw [Xz.len, hsz]) (by simpa using by omega)
 unfold x7s
 rw [← e, hc, h]
 simp only [Zz]
 rw [Xa (show i < L.length by omega), List.getD_eq_getElem?_getD, List.getElem?_map, List.getElem?_eq_getElem (show i < L.length by omega)]; rfl
structure OB where
 b : Bool
 h : b = true
def nn : OB := ⟨true, rfl⟩
def pp (q r : OB) : OB := ⟨q.b && r.b, z6s q.h r.h⟩
def tt {c v : Bool} (k : c = v) (r : OB) : OB := ⟨(c == v) && r.b, z6s (w1e k) r.h⟩
def ww {c : Bool} (k : c = true) (r : OB) : OB := ⟨c && r.b, z6s k r.h⟩
def fl {α : Type} [Xz α] (L : List α) (r : OB) : OB := ⟨Qr (Zz L) && r.b, z6s (Xu L) r.h⟩
def yt {c : Bool} (k : c = true) (r : OB) : OB := ⟨c && r.b, z6s k r.h⟩
def xw {c : Bool} (k : c = true) : OB := ⟨c, k⟩
def xI (α : Type) [Xz α] (n : Nat) (g : Nat → List AVal) (h : isT α n g = true := by first | with_reducible exact z8o _ _ | exact z8o _ _ | exact x4e _ | exact y7h _ _ _ | assumption) : OB := ⟨isT α n g, h⟩
def xr {α : Type} [Xz α] (L : List α) : OB := ⟨isT α L.length (Zz L), z8o L _⟩
def xL (a b : Nat) (h : y4i a b = true := by first | exact Jn rfl | exact Jn (by simp only [List.length_append, List.length_cons, List.length_nil, List.length_set, Vn, z1g, List.length_replicate] <;> omega) | assumption) : OB := ⟨y4i a b, h⟩
def xS (n : Nat) (G H : Nat → List AVal) (h : Ug n G H = true := by
  repeat' (first | exact y3n _ _ | assumption | exact x9d _ _ | exact x5l | exact y9i rfl rfl rfl | rfl | (refine x3c ?_ ?_ rfl rfl rfl) | (refine x3b ?_ ?_ rfl) | (refine w5m ?_ ?_ ?_ (Nat.min_le_left _ _)) | exact x5m (by repeat' (first | exact y3n _ _ | (refine x3c ?_ ?_ rfl rfl rfl) | (refine x3b ?_ ?_ rfl) | (simp only [List.length_append, List.length_cons, List.length_nil, List.length_set, Vn]; done) | omega)) (by assumption) | (refine x9e ?_ ?_ ?_ rfl) | exact x9f (y3n _ _) rfl | apply y9h | exact w5l rfl rfl | (simp only [List.length_append, List.length_cons, List.length_nil, List.length_set, Vn, z1g, List.length_replicate] <;> omega))) : OB := ⟨Ug n G H, h⟩
def xF (G : Nat → List AVal) (h : Qr G = true := by
  repeat' (first | with_reducible exact Xu _ | apply w2w | apply w2t | apply w2v | apply w2u | exact Xu _ | exact x7d | exact x1n _ _ | apply y0q | rfl | assumption)) : OB := ⟨Qr G, h⟩
def xZ (v : AVal) (n : Nat) (g : Nat → List AVal) (h : w2p v n g = true := by first | exact w8b _ _ _ | exact w2o _ _) : OB := ⟨w2p v n g, h⟩
def xG (c : Bool) (h : c = true := by
  repeat' (first | with_reducible (first | assumption | exact y6q _ | exact w7d _ | exact w1j _ | exact w8r _ | exact w1k _ | apply z6s | apply w1e) | rfl | exact w7u _ | exact x7o _ _ rfl | exact x7p _ _ _ rfl | exact w2a _ _ rfl | exact x6r rfl | exact w5w rfl rfl (fun _ => rfl) | (refine x2a ?_ (by assumption)) | (refine w3k ?_ rfl rfl rfl) | exact z8o _ _ | exact x4e _ | exact y7h _ _ _ | exact Xu _ | apply y0q | apply z6s | apply w1e)) : OB := ⟨c, h⟩
def gg (c : Bool) (k : c = true) (r : OB) : OB := ⟨c && r.b, z6s k r.h⟩
def kpB (n : Nat) (l : List BP) : List BP := Nat.rec l (fun _ r => .keep :: r) n
abbrev tn (n : Int) : Nat := Int.toNat n
abbrev ii (n : Int) : AVal := .int .i64 n
abbrev wr (n : Int) : Int := IntKind.wrap .i64 n
def trs (n : Nat) (l : List Bool) : List Bool := Nat.rec l (fun _ r => true :: r) n
theorem sl {S : Specs} (hS : Zu prog S) (n : Nat) (gs : List (TypeId × Nat × (Nat → List AVal))) (N : z5m) (L : Less) (orc : List Bool) (ob : OB) {C C' : Cfg}
  (h : (((w7t prog S (v4x prog S 100000 4) n (C.withO orc)).map (x4j gs)).bind (w6z prog N)).map (x6q L) = some (C'.withB ob.b) := by kernel_rfl) (hfl : fl0 C = true := by rfl) : z7l prog C C' :=
 w4v named mixed hS gs N L orc ob.b h ob.h hfl
def rC (n f : Nat) (p : List Nat) (j r : Nat) (env : List (Nat × AVal)) : Cfg := ⟨⟨n, 0, true⟩, none, Za prog f p j, none, Zy prog r, ⟨Yb env, Vq [] 0, 0, [], true⟩, [], .leaf⟩
theorem lr {σ : Type} {cfg : σ → Cfg} {C : Cfg} {rs : List ResultVar} {vs : List AVal} (n f : Nat) (p : List Nat) (j r : Nat) (env : List (Nat × AVal)) (h : z7l prog C (rC n f p j r env)) (hf : z2u (rC n f p j r env) = true := by rfl)
  (hr : Up prog (rC n f p j r env).st rs = some vs := by kernel_rfl) : Xd prog rs cfg C (.ret vs) := w7q _ h hf hr
theorem lb {rs : List ResultVar} {σ : Type} {cfg : σ → Cfg} {C : Cfg} {c : Bool} {a b : Xj σ} (ha : c = true → Xd prog rs cfg C a) (hb : c = false → Xd prog rs cfg C b) : Xd prog rs cfg C (bif c then a else b) := x4d ha hb
theorem lo {rs : List ResultVar} {σ : Type} {cfg : σ → Cfg} {C : Cfg} {c : Bool} {a : Xj σ} (ha : c = true → Xd prog rs cfg C a) : Xd prog rs cfg C (bif c then a else .stuck) := w7r ha
end Go.Am
namespace Go.Am
open Go.Proofs.Tryz
open Go.Proofs
inductive rsortS where
 | h0 (v3 : List Int) (v4 : Int)
 | h1 (v3 : List Int) (v4 : Int) (v5 : Int)
def x9n (l0 : List Int) : rsortS → Cfg
 | .h0 v3 v4 => ⟨⟨63, 0, true⟩, none, (Za prog 133 [1, 1, 0, 1, 0, 0] 0), none, (Zy prog 15), ⟨Yb [(0, (.dat l0.length (Zz l0))), (3, (.sla 0 1 0 v3.length (.un 1))), (4, (ii v4))], Vq [⟨rows v3.length (Zz v3), 3, some ⟨1, v3.length, (Zz v3)⟩⟩] 0, 1, [], true⟩, [], .leaf⟩
 | .h1 v3 v4 v5 => ⟨⟨63, 0, true⟩, none, (Za prog 133 [1, 1, 0, 1, 0, 0, 1, 0, 0, 1, 0, 0, 0] 0), none, (Zy prog 15), ⟨Yb [(0, (.dat l0.length (Zz l0))), (3, (.sla 0 1 0 v3.length (.un 1))), (4, (ii v4)), (5, (ii v5))], Vq [⟨rows v3.length (Zz v3), 3, some ⟨1, v3.length, (Zz v3)⟩⟩] 0, 1, [], true⟩, [], .leaf⟩
def y3q : List (Option (List Nat)) := [some [0, 3, 4]]
def y3r : List (Option (List Nat)) := []
def x9l : List (Option (List Nat)) := [some [0, 3, 4, 5]]
def x9m : List (Option (List Nat)) := []
def Wf (l0 : List Int) : rsortS → Xj rsortS
 | .h0 v3 v4 => (bif (decide (v4 < (l0.length : Int))) then (.to (.h1 v3 v4 (v3.length : Int))) else (.ret [(.dat v3.length (Zz v3))]))
 | .h1 v3 v4 v5 => (bif (decide (v5 > 0)) then (bif ((decide (0 ≤ (IntKind.wrap .i64 (v5 - 1)) ∧ (IntKind.wrap .i64 (v5 - 1)) < (v3.length : Int))) && true) then (bif (decide ((0 + (Int.toNat (IntKind.wrap .i64 (v5 - 1)))) < v3.length)) then (bif ((decide (0 ≤ v4 ∧ v4 < (l0.length : Int))) && true) then (bif (decide ((rd v3 (0 + (Int.toNat (IntKind.wrap .i64 (v5 - 1))))) > (rd l0 v4.toNat))) then (.to (.h1 v3 v4 (IntKind.wrap .i64 (v5 - 1)))) else (bif ((rd v3 (0 + (Int.toNat (IntKind.wrap .i64 (v5 - 1))))) == (rd l0 v4.toNat)) then (.to (.h0 v3 (IntKind.wrap .i64 (v4 + 1)))) else (bif (Nat.beq 1 1 && ((decide (0 + v3.length = v3.length)) && decide ((v3.length + 1 + 1) * (8 + 1) ≤ Kd))) then (bif (true && ((decide (0 ≤ (IntKind.wrap .i64 (v5 + 1)))) && (decide ((v3.length + 1) ≤ (v3.length + 1)) && decide ((Int.toNat (IntKind.wrap .i64 (v5 + 1))) ≤ (v3.length + 1))))) then (bif (true && ((decide (0 ≤ v5)) && (decide ((v3.length + 1) ≤ (v3.length + 1)) && decide (v5.toNat ≤ (v3.length + 1))))) then (bif (decide ((0 + v5.toNat) + ((v3.length + 1) - v5.toNat) ≤ (v3.length + 1))) then (bif (decide ((0 + (Int.toNat (IntKind.wrap .i64 (v5 + 1)))) + ((v3.length + 1) - (Int.toNat (IntKind.wrap .i64 (v5 + 1)))) ≤ (v3.length + 1))) then (bif ((decide (0 ≤ v5 ∧ v5 < (((v3.length + 1) : Nat) : Int))) && true) then (bif (decide ((0 + v5.toNat) < (v3.length + 1))) then (.to (.h0 ((y1r (v3 ++ [0]) (0 + (Int.toNat (IntKind.wrap .i64 (v5 + 1)))) (Nat.min ((v3.length + 1) - v5.toNat) ((v3.length + 1) - (Int.toNat (IntKind.wrap .i64 (v5 + 1))))) (Kk (v3 ++ [0]) (0 + v5.toNat) ((v3.length + 1) - v5.toNat))).set (0 + v5.toNat) (rd l0 v4.toNat)) (IntKind.wrap .i64 (v4 + 1)))) else .stuck) else .stuck) else .stuck) else .stuck) else .stuck) else .stuck) else .stuck))) else .stuck) else .stuck) else .stuck) else (bif (Nat.beq 1 1 && ((decide (0 + v3.length = v3.length)) && decide ((v3.length + 1 + 1) * (8 + 1) ≤ Kd))) then (bif (true && ((decide (0 ≤ (IntKind.wrap .i64 (v5 + 1)))) && (decide ((v3.length + 1) ≤ (v3.length + 1)) && decide ((Int.toNat (IntKind.wrap .i64 (v5 + 1))) ≤ (v3.length + 1))))) then (bif (true && ((decide (0 ≤ v5)) && (decide ((v3.length + 1) ≤ (v3.length + 1)) && decide (v5.toNat ≤ (v3.length + 1))))) then (bif (decide ((0 + v5.toNat) + ((v3.length + 1) - v5.toNat) ≤ (v3.length + 1))) then (bif (decide ((0 + (Int.toNat (IntKind.wrap .i64 (v5 + 1)))) + ((v3.length + 1) - (Int.toNat (IntKind.wrap .i64 (v5 + 1)))) ≤ (v3.length + 1))) then (bif ((decide (0 ≤ v4 ∧ v4 < (l0.length : Int))) && true) then (bif ((decide (0 ≤ v5 ∧ v5 < (((v3.length + 1) : Nat) : Int))) && true) then (bif (decide ((0 + v5.toNat) < (v3.length + 1))) then (.to (.h0 ((y1r (v3 ++ [0]) (0 + (Int.toNat (IntKind.wrap .i64 (v5 + 1)))) (Nat.min ((v3.length + 1) - v5.toNat) ((v3.length + 1) - (Int.toNat (IntKind.wrap .i64 (v5 + 1))))) (Kk (v3 ++ [0]) (0 + v5.toNat) ((v3.length + 1) - v5.toNat))).set (0 + v5.toNat) (rd l0 v4.toNat)) (IntKind.wrap .i64 (v4 + 1)))) else .stuck) else .stuck) else .stuck) else .stuck) else .stuck) else .stuck) else .stuck) else .stuck))
def z1t (l0 : List Int) : Xj rsortS := (.to (.h0 ([] : List Int) 0))
theorem y5t (l0 : List Int) : ∀ s, Xd prog (Zy prog 133) (x9n l0) (x9n l0 s) (Wf l0 s)
 | .h0 v3 v4 => (lb (fun k0 => (sl Zq 21 [] ⟨[0], [], x9l, x9m⟩ ⟨[], [], []⟩ [true] (pp (fl v3 nn) (tt k0 nn)))) (fun k0 => (lr 63 3 [1, 1, 1, 1, 1, 1, 0] 1 15 [(2, (.dat v3.length (Zz v3)))] (sl Zq 15 [] ⟨[], [0], [some [2]], []⟩ ⟨[(2, .frz v3.length v3.length (Zz v3) (Zz v3))], [], []⟩ [false] (pp (xZ (z8r 1 1 0 v3.length v3.length (Zz v3)) v3.length (Zz v3)) (pp (xL v3.length v3.length) (pp (xS v3.length (Zz v3) (Zz v3)) (pp (fl v3 nn) (tt k0 nn)))))))))
 | .h1 v3 v4 v5 => (lb (fun k0 => (lo fun aF => (lo fun bC => (lo fun bZ => (lb (fun k1 => (sl Zq 13 [] ⟨[0], [], x9l, x9m⟩ ⟨[], [], []⟩ (trs 11 []) (pp (fl v3 nn) (tt k1 (ww bZ (ww bC (ww aF (tt k0 nn)))))))) (fun k1 => (lb (fun k2 => (sl Zq 16 [] ⟨[0], [], y3q, y3r⟩ ⟨[], [], []⟩ (trs 10 [false, true, true, true, true, true, true, true, true, true, true, true]) (pp (fl v3 nn) (tt k2 (ww bZ (ww bC (ww aF (tt k0 (tt k1 (ww bZ (ww bC (ww aF (tt k0 nn))))))))))))) (fun k2 => (lo fun o0 => (lo fun o1 => (lo fun o2 => (lo fun o3 => (lo fun o4 => (lo fun o5 => (lo fun o6 => (sl Zq 36 [] ⟨[2], [], y3q, y3r⟩ ⟨[(3, .len ((y1r (v3 ++ [0]) (0 + (tn (wr (v5 + 1)))) (Nat.min ((v3.length + 1) - (tn v5)) ((v3.length + 1) - (tn (wr (v5 + 1))))) (Kk (v3 ++ [0]) (0 + (tn v5)) ((v3.length + 1) - (tn v5)))).set (0 + (tn v5)) (rd l0 (tn v4))).length)], [.rowed 1 ((y1r (v3 ++ [0]) (0 + (tn (wr (v5 + 1)))) (Nat.min ((v3.length + 1) - (tn v5)) ((v3.length + 1) - (tn (wr (v5 + 1))))) (Kk (v3 ++ [0]) (0 + (tn v5)) ((v3.length + 1) - (tn v5)))).set (0 + (tn v5)) (rd l0 (tn v4))).length (Zz ((y1r (v3 ++ [0]) (0 + (tn (wr (v5 + 1)))) (Nat.min ((v3.length + 1) - (tn v5)) ((v3.length + 1) - (tn (wr (v5 + 1))))) (Kk (v3 ++ [0]) (0 + (tn v5)) ((v3.length + 1) - (tn v5)))).set (0 + (tn v5)) (rd l0 (tn v4))))], []⟩ (trs 10 [false, true, true, true, true, true, true, true, true, true, true, false]) (pp (xL (v3.length + 1) ((y1r (v3 ++ [0]) (0 + (tn (wr (v5 + 1)))) (Nat.min ((v3.length + 1) - (tn v5)) ((v3.length + 1) - (tn (wr (v5 + 1))))) (Kk (v3 ++ [0]) (0 + (tn v5)) ((v3.length + 1) - (tn v5)))).set (0 + (tn v5)) (rd l0 (tn v4))).length) (pp (xL (v3.length + 1) ((y1r (v3 ++ [0]) (0 + (tn (wr (v5 + 1)))) (Nat.min ((v3.length + 1) - (tn v5)) ((v3.length + 1) - (tn (wr (v5 + 1))))) (Kk (v3 ++ [0]) (0 + (tn v5)) ((v3.length + 1) - (tn v5)))).set (0 + (tn v5)) (rd l0 (tn v4))).length) (pp (xS (v3.length + 1) (Xr (Vu (Zh (Zz v3) 0 v3.length 1 [(ii 0)]) (0 + (tn (wr (v5 + 1)))) (Nat.min ((v3.length + 1) - (tn v5)) ((v3.length + 1) - (tn (wr (v5 + 1))))) (fun k => (Zh (Zz v3) 0 v3.length 1 [(ii 0)]) ((0 + (tn v5)) + k))) (0 + (tn v5)) 0 [(ii (rd l0 (tn v4)))]) (Zz ((y1r (v3 ++ [0]) (0 + (tn (wr (v5 + 1)))) (Nat.min ((v3.length + 1) - (tn v5)) ((v3.length + 1) - (tn (wr (v5 + 1))))) (Kk (v3 ++ [0]) (0 + (tn v5)) ((v3.length + 1) - (tn v5)))).set (0 + (tn v5)) (rd l0 (tn v4))))) (pp (pp (xF (Xr (Vu (Zh (Zz v3) 0 v3.length 1 [(ii 0)]) (0 + (tn (wr (v5 + 1)))) (Nat.min ((v3.length + 1) - (tn v5)) ((v3.length + 1) - (tn (wr (v5 + 1))))) (fun k => (Zh (Zz v3) 0 v3.length 1 [(ii 0)]) ((0 + (tn v5)) + k))) (0 + (tn v5)) 0 [(ii (rd l0 (tn v4)))])) nn) (ww o6 (ww o5 (ww bZ (pp (pp (xG (Nat.beq 1 1)) (pp (xG (Nat.beq 1 1)) (pp (xw o4) (pp (xG (Nat.beq 1 1)) (pp (xG (Nat.beq 1 1)) (pp (xG (decide ((0 + (tn v5)) + ((v3.length + 1) - (tn v5)) ≤ (v3.length + 1)))) (xG (y7t 1 ((v3.length + 1) - (tn v5)) (fun k => (Zh (Zz v3) 0 v3.length 1 [(ii 0)]) ((0 + (tn v5)) + k)))))))))) (ww o2 (ww o1 (ww o0 (tt k2 (ww bZ (ww bC (ww aF (tt k0 (tt k1 (ww bZ (ww bC (ww aF (tt k0 nn))))))))))))))))))))))))))))))))))))) (fun k0 => (lo fun o0 => (lo fun o1 => (lo fun o2 => (lo fun o3 => (lo fun o4 => (lo fun o5 => (lo fun o6 => (lo fun o7 => (sl Zq 36 [] ⟨[2], [], y3q, y3r⟩ ⟨[(3, .len ((y1r (v3 ++ [0]) (0 + (tn (wr (v5 + 1)))) (Nat.min ((v3.length + 1) - (tn v5)) ((v3.length + 1) - (tn (wr (v5 + 1))))) (Kk (v3 ++ [0]) (0 + (tn v5)) ((v3.length + 1) - (tn v5)))).set (0 + (tn v5)) (rd l0 (tn v4))).length)], [.rowed 1 ((y1r (v3 ++ [0]) (0 + (tn (wr (v5 + 1)))) (Nat.min ((v3.length + 1) - (tn v5)) ((v3.length + 1) - (tn (wr (v5 + 1))))) (Kk (v3 ++ [0]) (0 + (tn v5)) ((v3.length + 1) - (tn v5)))).set (0 + (tn v5)) (rd l0 (tn v4))).length (Zz ((y1r (v3 ++ [0]) (0 + (tn (wr (v5 + 1)))) (Nat.min ((v3.length + 1) - (tn v5)) ((v3.length + 1) - (tn (wr (v5 + 1))))) (Kk (v3 ++ [0]) (0 + (tn v5)) ((v3.length + 1) - (tn v5)))).set (0 + (tn v5)) (rd l0 (tn v4))))], []⟩ [false, false, false, false, false, false, false, false, false, false, false, false, false, false, false, false, false, false, false, false, false, false] (pp (xL (v3.length + 1) ((y1r (v3 ++ [0]) (0 + (tn (wr (v5 + 1)))) (Nat.min ((v3.length + 1) - (tn v5)) ((v3.length + 1) - (tn (wr (v5 + 1))))) (Kk (v3 ++ [0]) (0 + (tn v5)) ((v3.length + 1) - (tn v5)))).set (0 + (tn v5)) (rd l0 (tn v4))).length) (pp (xL (v3.length + 1) ((y1r (v3 ++ [0]) (0 + (tn (wr (v5 + 1)))) (Nat.min ((v3.length + 1) - (tn v5)) ((v3.length + 1) - (tn (wr (v5 + 1))))) (Kk (v3 ++ [0]) (0 + (tn v5)) ((v3.length + 1) - (tn v5)))).set (0 + (tn v5)) (rd l0 (tn v4))).length) (pp (xS (v3.length + 1) (Xr (Vu (Zh (Zz v3) 0 v3.length 1 [(ii 0)]) (0 + (tn (wr (v5 + 1)))) (Nat.min ((v3.length + 1) - (tn v5)) ((v3.length + 1) - (tn (wr (v5 + 1))))) (fun k => (Zh (Zz v3) 0 v3.length 1 [(ii 0)]) ((0 + (tn v5)) + k))) (0 + (tn v5)) 0 [(ii (rd l0 (tn v4)))]) (Zz ((y1r (v3 ++ [0]) (0 + (tn (wr (v5 + 1)))) (Nat.min ((v3.length + 1) - (tn v5)) ((v3.length + 1) - (tn (wr (v5 + 1))))) (Kk (v3 ++ [0]) (0 + (tn v5)) ((v3.length + 1) - (tn v5)))).set (0 + (tn v5)) (rd l0 (tn v4))))) (pp (pp (xF (Xr (Vu (Zh (Zz v3) 0 v3.length 1 [(ii 0)]) (0 + (tn (wr (v5 + 1)))) (Nat.min ((v3.length + 1) - (tn v5)) ((v3.length + 1) - (tn (wr (v5 + 1))))) (fun k => (Zh (Zz v3) 0 v3.length 1 [(ii 0)]) ((0 + (tn v5)) + k))) (0 + (tn v5)) 0 [(ii (rd l0 (tn v4)))])) nn) (ww o7 (ww o6 (ww o5 (pp (pp (xG (Nat.beq 1 1)) (pp (xG (Nat.beq 1 1)) (pp (xw o4) (pp (xG (Nat.beq 1 1)) (pp (xG (Nat.beq 1 1)) (pp (xG (decide ((0 + (tn v5)) + ((v3.length + 1) - (tn v5)) ≤ (v3.length + 1)))) (xG (y7t 1 ((v3.length + 1) - (tn v5)) (fun k => (Zh (Zz v3) 0 v3.length 1 [(ii 0)]) ((0 + (tn v5)) + k)))))))))) (ww o2 (ww o1 (ww o0 (tt k0 (tt k0 nn))))))))))))))))))))))))
theorem y3p (l0 : List Int) : Xd prog (Zy prog 133) (x9n l0) (Zg prog 133 [(.dat l0.length (Zz l0))] true []) (z1t l0) := (sl Zq 15 [(3, 1, Zz ([] : List Int))] ⟨[0], [], y3q, y3r⟩ ⟨[(3, .grow 0 1)], [], []⟩ [] (pp (fl ([] : List Int) nn) nn))
theorem x5q (l0 : List Int) (n : Nat) (vs : List AVal) (h : Yu (Wf l0) n (z1t l0) = .ret vs) : Ur prog (Zy prog 133) (Zg prog 133 [(.dat l0.length (Zz l0))] true []) vs := by
 have := Ze (y5t l0) n _ (y3p l0)
 rwa [h] at this
inductive rcanS where
 | h0 (v5 : List R2) (v6 : Int)
def v5z (l0 : List Int) (l1 : List Bool) : rcanS → Cfg
 | .h0 v5 v6 => ⟨⟨61, 0, true⟩, none, (Za prog 139 [1, 1, 0, 1, 0, 0] 0), none, (Zy prog 3), ⟨Yb [(0, (.dat l0.length (Zz l0))), (1, (.dat l1.length (Zz l1))), (5, (.sla 0 2 0 v5.length (.un 2))), (6, (ii v6))], Vq [⟨rows v5.length (Zz v5), 110, some ⟨2, v5.length, (Zz v5)⟩⟩] 0, 1, [], true⟩, [], .leaf⟩
def y6i : List (Option (List Nat)) := [some [0, 1, 5, 6]]
def y6j : List (Option (List Nat)) := []
def Jd (l0 : List Int) (l1 : List Bool) : rcanS → Xj rcanS
 | .h0 v5 v6 => (bif (decide ((IntKind.wrap .i64 (v6 + 1)) < (l0.length : Int))) then (bif ((decide (0 ≤ v6 ∧ v6 < (l1.length : Int))) && true) then (bif (!(rd l1 v6.toNat)) then (.to (.h0 v5 (IntKind.wrap .i64 (v6 + 1)))) else (bif (decide ((v5.length : Int) > 0)) then (bif ((decide (0 ≤ (IntKind.wrap .i64 ((v5.length : Int) - 1)) ∧ (IntKind.wrap .i64 ((v5.length : Int) - 1)) < (v5.length : Int))) && true) then (bif (decide ((0 + (Int.toNat (IntKind.wrap .i64 ((v5.length : Int) - 1)))) < v5.length)) then (bif ((decide (0 ≤ v6 ∧ v6 < (l0.length : Int))) && true) then (bif ((rd v5 (0 + (Int.toNat (IntKind.wrap .i64 ((v5.length : Int) - 1))))).b == (rd l0 v6.toNat)) then (bif ((decide (0 ≤ (IntKind.wrap .i64 (v6 + 1)) ∧ (IntKind.wrap .i64 (v6 + 1)) < (l0.length : Int))) && true) then (.to (.h0 (v5.set (0 + (Int.toNat (IntKind.wrap .i64 ((v5.length : Int) - 1)))) (R2.mk (rd v5 (0 + (Int.toNat (IntKind.wrap .i64 ((v5.length : Int) - 1))))).a (rd l0 (Int.toNat (IntKind.wrap .i64 (v6 + 1)))))) (IntKind.wrap .i64 (v6 + 1)))) else .stuck) else (bif ((decide (0 ≤ (IntKind.wrap .i64 (v6 + 1)) ∧ (IntKind.wrap .i64 (v6 + 1)) < (l0.length : Int))) && true) then (bif (Nat.beq 2 2 && ((decide (0 + v5.length = v5.length)) && decide ((v5.length + 1 + 1) * (16 + 1) ≤ Kd))) then (.to (.h0 (v5 ++ [(R2.mk (rd l0 v6.toNat) (rd l0 (Int.toNat (IntKind.wrap .i64 (v6 + 1)))))]) (IntKind.wrap .i64 (v6 + 1)))) else .stuck) else .stuck)) else .stuck) else .stuck) else .stuck) else (bif ((decide (0 ≤ v6 ∧ v6 < (l0.length : Int))) && true) then (bif ((decide (0 ≤ (IntKind.wrap .i64 (v6 + 1)) ∧ (IntKind.wrap .i64 (v6 + 1)) < (l0.length : Int))) && true) then (bif (Nat.beq 2 2 && ((decide (0 + v5.length = v5.length)) && decide ((v5.length + 1 + 1) * (16 + 1) ≤ Kd))) then (.to (.h0 (v5 ++ [(R2.mk (rd l0 v6.toNat) (rd l0 (Int.toNat (IntKind.wrap .i64 (v6 + 1)))))]) (IntKind.wrap .i64 (v6 + 1)))) else .stuck) else .stuck) else .stuck))) else .stuck) else (.ret [(.dat v5.length (Zz v5))]))
def z4k (l0 : List Int) (l1 : List Bool) : Xj rcanS := (.to (.h0 ([] : List R2) 0))
theorem x0i (l0 : List Int) (l1 : List Bool) : ∀ s, Xd prog (Zy prog 139) (v5z l0 l1) (v5z l0 l1 s) (Jd l0 l1 s)
 | .h0 v5 v6 => (lb (fun k0 => (lo fun aF => (lb (fun k1 => (sl Zq 30 [] ⟨[0], [], y6i, y6j⟩ ⟨[], [], []⟩ [true, true] (pp (fl v5 nn) (tt k1 (ww aF (tt k0 nn)))))) (fun k1 => (lb (fun k2 => (lo fun cM => (lo fun dD => (lo fun cO => (lb (fun k3 => (lo fun o0 => (sl Zq 53 [] ⟨[0], [], y6i, y6j⟩ ⟨[(5, .len (v5.set (0 + (tn (wr ((v5.length : Int) - 1)))) (R2.mk (rd v5 (0 + (tn (wr ((v5.length : Int) - 1))))).a (rd l0 (tn (wr (v6 + 1)))))).length)], [.rowed 2 (v5.set (0 + (tn (wr ((v5.length : Int) - 1)))) (R2.mk (rd v5 (0 + (tn (wr ((v5.length : Int) - 1))))).a (rd l0 (tn (wr (v6 + 1)))))).length (Zz (v5.set (0 + (tn (wr ((v5.length : Int) - 1)))) (R2.mk (rd v5 (0 + (tn (wr ((v5.length : Int) - 1))))).a (rd l0 (tn (wr (v6 + 1)))))))], []⟩ [true, false, true, true, true, true, true, true, true, true, true, true, true, true] (pp (xL v5.length (v5.set (0 + (tn (wr ((v5.length : Int) - 1)))) (R2.mk (rd v5 (0 + (tn (wr ((v5.length : Int) - 1))))).a (rd l0 (tn (wr (v6 + 1)))))).length) (pp (xL v5.length (v5.set (0 + (tn (wr ((v5.length : Int) - 1)))) (R2.mk (rd v5 (0 + (tn (wr ((v5.length : Int) - 1))))).a (rd l0 (tn (wr (v6 + 1)))))).length) (pp (xS v5.length (Xr (Zz v5) (0 + (tn (wr ((v5.length : Int) - 1)))) 1 [(ii (rd l0 (tn (wr (v6 + 1)))))]) (Zz (v5.set (0 + (tn (wr ((v5.length : Int) - 1)))) (R2.mk (rd v5 (0 + (tn (wr ((v5.length : Int) - 1))))).a (rd l0 (tn (wr (v6 + 1)))))))) (pp (pp (xF (Xr (Zz v5) (0 + (tn (wr ((v5.length : Int) - 1)))) 1 [(ii (rd l0 (tn (wr (v6 + 1)))))])) nn) (ww dD (ww cM (ww o0 (tt k3 (ww cO (ww dD (ww cM (tt k2 (tt k1 (ww aF (tt k0 nn)))))))))))))))))) (fun k3 => (lo fun o0 => (lo fun o1 => (sl Zq 41 [] ⟨[2], [], y6i, y6j⟩ ⟨[(5, .len (v5 ++ [(R2.mk (rd l0 (tn v6)) (rd l0 (tn (wr (v6 + 1)))))]).length)], [.rowed 2 (v5 ++ [(R2.mk (rd l0 (tn v6)) (rd l0 (tn (wr (v6 + 1)))))]).length (Zz (v5 ++ [(R2.mk (rd l0 (tn v6)) (rd l0 (tn (wr (v6 + 1)))))]))], []⟩ [true, false, true, true, true, true, true, true, true, true, true, true, true, false] (pp (xL (v5.length + 1) (v5 ++ [(R2.mk (rd l0 (tn v6)) (rd l0 (tn (wr (v6 + 1)))))]).length) (pp (xL (v5.length + 1) (v5 ++ [(R2.mk (rd l0 (tn v6)) (rd l0 (tn (wr (v6 + 1)))))]).length) (pp (xS (v5.length + 1) (Zh (Zz v5) 0 v5.length 2 [(ii (rd l0 (tn v6))), (ii (rd l0 (tn (wr (v6 + 1)))))]) (Zz (v5 ++ [(R2.mk (rd l0 (tn v6)) (rd l0 (tn (wr (v6 + 1)))))]))) (pp (pp (xF (Zh (Zz v5) 0 v5.length 2 [(ii (rd l0 (tn v6))), (ii (rd l0 (tn (wr (v6 + 1)))))])) nn) (ww o1 (ww o0 (ww cO (tt k3 (ww cO (ww dD (ww cM (tt k2 (tt k1 (ww aF (tt k0 nn)))))))))))))))))))))))) (fun k2 => (lo fun o0 => (lo fun o1 => (lo fun o2 => (sl Zq 41 [] ⟨[2], [], y6i, y6j⟩ ⟨[(5, .len (v5 ++ [(R2.mk (rd l0 (tn v6)) (rd l0 (tn (wr (v6 + 1)))))]).length)], [.rowed 2 (v5 ++ [(R2.mk (rd l0 (tn v6)) (rd l0 (tn (wr (v6 + 1)))))]).length (Zz (v5 ++ [(R2.mk (rd l0 (tn v6)) (rd l0 (tn (wr (v6 + 1)))))]))], []⟩ [true, false, false, false, false, false, false, false, false, false, false, false, false, false] (pp (xL (v5.length + 1) (v5 ++ [(R2.mk (rd l0 (tn v6)) (rd l0 (tn (wr (v6 + 1)))))]).length) (pp (xL (v5.length + 1) (v5 ++ [(R2.mk (rd l0 (tn v6)) (rd l0 (tn (wr (v6 + 1)))))]).length) (pp (xS (v5.length + 1) (Zh (Zz v5) 0 v5.length 2 [(ii (rd l0 (tn v6))), (ii (rd l0 (tn (wr (v6 + 1)))))]) (Zz (v5 ++ [(R2.mk (rd l0 (tn v6)) (rd l0 (tn (wr (v6 + 1)))))]))) (pp (pp (xF (Zh (Zz v5) 0 v5.length 2 [(ii (rd l0 (tn v6))), (ii (rd l0 (tn (wr (v6 + 1)))))])) nn) (ww o2 (ww o1 (ww o0 (tt k2 (tt k1 (ww aF (tt k0 nn))))))))))))))))))))) (fun k0 => (lr 61 3 [1, 1, 1, 1, 1, 1, 0] 1 3 [(4, (.dat v5.length (Zz v5)))] (sl Zq 16 [] ⟨[], [0], [some [4]], []⟩ ⟨[(4, .frz v5.length v5.length (Zz v5) (Zz v5))], [], []⟩ [false] (pp (xZ (z8r 2 2 0 v5.length v5.length (Zz v5)) v5.length (Zz v5)) (pp (xL v5.length v5.length) (pp (xS v5.length (Zz v5) (Zz v5)) (pp (fl v5 nn) (tt k0 nn)))))))))
theorem y6h (l0 : List Int) (l1 : List Bool) : Xd prog (Zy prog 139) (v5z l0 l1) (Zg prog 139 [(.dat l0.length (Zz l0)), (.dat l1.length (Zz l1))] true []) (z4k l0 l1) := (sl Zq 15 [(110, 2, Zz ([] : List R2))] ⟨[0], [], y6i, y6j⟩ ⟨[(5, .grow 0 2)], [], []⟩ [] (pp (fl ([] : List R2) nn) nn))
theorem w0v (l0 : List Int) (l1 : List Bool) (n : Nat) (vs : List AVal) (h : Yu (Jd l0 l1) n (z4k l0 l1) = .ret vs) : Ur prog (Zy prog 139) (Zg prog 139 [(.dat l0.length (Zz l0)), (.dat l1.length (Zz l1))] true []) vs := by
 have := Ze (x0i l0 l1) n _ (y6h l0 l1)
 rwa [h] at this
inductive rsmS where
 | h0 (v5 : Int)
def rsmC (l0 : List R2) (l1 : List R2) : rsmS → Cfg
 | .h0 v5 => ⟨⟨26, 0, true⟩, none, (Za prog 140 [1, 1, 0, 1, 0, 0] 0), none, (Zy prog 3), ⟨Yb [(0, (.dat l0.length (Zz l0))), (1, (.dat l1.length (Zz l1))), (5, (ii v5))], Vq [] 0, 0, [], true⟩, [], .leaf⟩
def rsmN0 : List (Option (List Nat)) := [some [0, 1, 5]]
def rsmM0 : List (Option (List Nat)) := []
def z3d (l0 : List R2) (l1 : List R2) : rsmS → Xj rsmS
 | .h0 v5 => (bif (decide (v5 < (l0.length : Int))) then (bif ((decide (0 ≤ v5 ∧ v5 < (l0.length : Int))) && true) then (bif ((decide (0 ≤ v5 ∧ v5 < (l1.length : Int))) && true) then (bif (!(((rd l0 v5.toNat).a == (rd l1 v5.toNat).a) && (((rd l0 v5.toNat).b == (rd l1 v5.toNat).b) && true))) then (.ret [(.bool false)]) else (.to (.h0 (IntKind.wrap .i64 (v5 + 1))))) else .stuck) else .stuck) else (.ret [(.bool true)]))
def z4a (l0 : List R2) (l1 : List R2) : Xj rsmS := (bif ((l0.length : Int) != (l1.length : Int)) then (.ret [(.bool false)]) else (.to (.h0 0)))
theorem x5r (l0 : List R2) (l1 : List R2) : ∀ s, Xd prog (Zy prog 140) (rsmC l0 l1) (rsmC l0 l1 s) (z3d l0 l1 s)
 | .h0 v5 => (lb (fun k0 => (lo fun aF => (lo fun bC => (lb (fun k1 => (lr 26 140 [1, 1, 0, 1, 0, 0, 1, 0, 0, 1, 0, 0] 1 3 [(4, (.bool false))] (sl Zq 19 [] ⟨[], [], [some [4]], []⟩ ⟨[], [], []⟩ [true, true] (tt k1 (ww bC (ww aF (tt k0 nn))))))) (fun k1 => (sl Zq 23 [] ⟨[], [], rsmN0, rsmM0⟩ ⟨[], [], []⟩ [true, false] (tt k1 (ww bC (ww aF (tt k0 nn)))))))))) (fun k0 => (lr 26 3 [1, 1, 1, 1, 1, 1, 0] 1 3 [(4, (.bool true))] (sl Zq 14 [] ⟨[], [], [some [4]], []⟩ ⟨[], [], []⟩ [false] (tt k0 nn)))))
theorem y9m (l0 : List R2) (l1 : List R2) : Xd prog (Zy prog 140) (rsmC l0 l1) (Zg prog 140 [(.dat l0.length (Zz l0)), (.dat l1.length (Zz l1))] true []) (z4a l0 l1) := (lb (fun k0 => (lr 26 140 [1, 0, 1, 0, 0] 1 3 [(4, (.bool false))] (sl Zq 18 [] ⟨[], [], [some [4]], []⟩ ⟨[], [], []⟩ [true] (tt k0 nn)))) (fun k0 => (sl Zq 22 [] ⟨[], [], rsmN0, rsmM0⟩ ⟨[], [], []⟩ [false] (tt k0 nn))))
theorem w5q (l0 : List R2) (l1 : List R2) (n : Nat) (vs : List AVal) (h : Yu (z3d l0 l1) n (z4a l0 l1) = .ret vs) : Ur prog (Zy prog 140) (Zg prog 140 [(.dat l0.length (Zz l0)), (.dat l1.length (Zz l1))] true []) vs := by
 have := Ze (x5r l0 l1) n _ (y9m l0 l1)
 rwa [h] at this
inductive rhasS where
 | h0 (v7 : Int)
def v5s (l0 : List R4) (x1 : Int) (x2 : Int) : rhasS → Cfg
 | .h0 v7 => ⟨⟨48, 0, true⟩, none, (Za prog 138 [1, 0, 1, 0, 0] 0), none, (Zy prog 4), ⟨Yb [(0, (.dat l0.length (Zz l0))), (1, (ii x1)), (2, (ii x2)), (7, (ii v7))], Vq [] 0, 0, [], true⟩, [], .leaf⟩
def y5y : List (Option (List Nat)) := [some [0, 1, 2, 7]]
def y5z : List (Option (List Nat)) := []
def z1w (l0 : List R4) (x1 : Int) (x2 : Int) : rhasS → Xj rhasS
 | .h0 v7 => (bif (decide (v7 < (l0.length : Int))) then (bif ((decide (0 ≤ v7 ∧ v7 < (l0.length : Int))) && true) then (bif (decide ((rd l0 v7.toNat).a ≤ x1)) then (bif (decide (x1 < (rd l0 v7.toNat).c)) then (bif (decide ((rd l0 v7.toNat).b ≤ x2)) then (bif (decide (x2 < (rd l0 v7.toNat).d)) then (.ret [(.bool true)]) else (.to (.h0 (IntKind.wrap .i64 (v7 + 1))))) else (.to (.h0 (IntKind.wrap .i64 (v7 + 1))))) else (.to (.h0 (IntKind.wrap .i64 (v7 + 1))))) else (.to (.h0 (IntKind.wrap .i64 (v7 + 1))))) else .stuck) else (.ret [(.bool false)]))
def z4f (l0 : List R4) (x1 : Int) (x2 : Int) : Xj rhasS := (.to (.h0 0))
theorem y9z (l0 : List R4) (x1 : Int) (x2 : Int) : ∀ s, Xd prog (Zy prog 138) (v5s l0 x1 x2) (v5s l0 x1 x2 s) (z1w l0 x1 x2 s)
 | .h0 v7 => (lb (fun k0 => (lo fun aF => (lb (fun k1 => (lb (fun k2 => (lb (fun k3 => (lb (fun k4 => (lr 48 138 [1, 0, 1, 0, 0, 1, 0, 0, 1, 0, 0] 1 4 [(6, (.bool true))] (sl Zq 54 [] ⟨[], [], [some [6]], []⟩ ⟨[], [], []⟩ (trs 23 []) (tt k4 (ww aF (tt k3 (ww aF (tt k2 (ww aF (tt k1 (ww aF (tt k0 nn)))))))))))) (fun k4 => (sl Zq 58 [] ⟨[], [], y5y, y5z⟩ ⟨[], [], []⟩ (trs 22 [false]) (tt k4 (ww aF (tt k3 (ww aF (tt k2 (ww aF (tt k1 (ww aF (tt k0 nn))))))))))))) (fun k3 => (sl Zq 58 [] ⟨[], [], y5y, y5z⟩ ⟨[], [], []⟩ (trs 15 [false, false, false, false, false, false, false, false]) (tt k3 (ww aF (tt k2 (ww aF (tt k1 (ww aF (tt k0 nn))))))))))) (fun k2 => (sl Zq 58 [] ⟨[], [], y5y, y5z⟩ ⟨[], [], []⟩ (trs 8 [false, false, false, false, false, false, false, false, false, false, false, false, false, false, false]) (tt k2 (ww aF (tt k1 (ww aF (tt k0 nn))))))))) (fun k1 => (sl Zq 58 [] ⟨[], [], y5y, y5z⟩ ⟨[], [], []⟩ [true, false, false, false, false, false, false, false, false, false, false, false, false, false, false, false, false, false, false, false, false, false, false] (tt k1 (ww aF (tt k0 nn)))))))) (fun k0 => (lr 48 3 [1, 1, 1, 1, 1, 1, 0] 1 4 [(6, (.bool false))] (sl Zq 14 [] ⟨[], [], [some [6]], []⟩ ⟨[], [], []⟩ [false] (tt k0 nn)))))
theorem y5x (l0 : List R4) (x1 : Int) (x2 : Int) : Xd prog (Zy prog 138) (v5s l0 x1 x2) (Zg prog 138 [(.dat l0.length (Zz l0)), (.int .i64 x1), (.int .i64 x2)] true []) (z4f l0 x1 x2) := (sl Zq 11 [] ⟨[], [], y5y, y5z⟩ ⟨[], [], []⟩ [] nn)
theorem w0b (l0 : List R4) (x1 : Int) (x2 : Int) (n : Nat) (vs : List AVal) (h : Yu (z1w l0 x1 x2) n (z4f l0 x1 x2) = .ret vs) : Ur prog (Zy prog 138) (Zg prog 138 [(.dat l0.length (Zz l0)), (.int .i64 x1), (.int .i64 x2)] true []) vs := by
 have := Ze (y9z l0 x1 x2) n _ (y5x l0 x1 x2)
 rwa [h] at this
inductive rsrS where
 | h0 (v5 : Int)
def rsrC (l0 : List R4) (l1 : List R4) : rsrS → Cfg
 | .h0 v5 => ⟨⟨26, 0, true⟩, none, (Za prog 117 [1, 1, 0, 1, 0, 0] 0), none, (Zy prog 3), ⟨Yb [(0, (.dat l0.length (Zz l0))), (1, (.dat l1.length (Zz l1))), (5, (ii v5))], Vq [] 0, 0, [], true⟩, [], .leaf⟩
def rsrN0 : List (Option (List Nat)) := [some [0, 1, 5]]
def rsrM0 : List (Option (List Nat)) := []
def z3c (l0 : List R4) (l1 : List R4) : rsrS → Xj rsrS
 | .h0 v5 => (bif (decide (v5 < (l0.length : Int))) then (bif ((decide (0 ≤ v5 ∧ v5 < (l0.length : Int))) && true) then (bif ((decide (0 ≤ v5 ∧ v5 < (l1.length : Int))) && true) then (bif (!(((rd l0 v5.toNat).a == (rd l1 v5.toNat).a) && (((rd l0 v5.toNat).b == (rd l1 v5.toNat).b) && (((rd l0 v5.toNat).c == (rd l1 v5.toNat).c) && (((rd l0 v5.toNat).d == (rd l1 v5.toNat).d) && true))))) then (.ret [(.bool false)]) else (.to (.h0 (IntKind.wrap .i64 (v5 + 1))))) else .stuck) else .stuck) else (.ret [(.bool true)]))
def z3z (l0 : List R4) (l1 : List R4) : Xj rsrS := (bif ((l0.length : Int) != (l1.length : Int)) then (.ret [(.bool false)]) else (.to (.h0 0)))
theorem x5p (l0 : List R4) (l1 : List R4) : ∀ s, Xd prog (Zy prog 117) (rsrC l0 l1) (rsrC l0 l1 s) (z3c l0 l1 s)
 | .h0 v5 => (lb (fun k0 => (lo fun aF => (lo fun bC => (lb (fun k1 => (lr 26 117 [1, 1, 0, 1, 0, 0, 1, 0, 0, 1, 0, 0] 1 3 [(4, (.bool false))] (sl Zq 19 [] ⟨[], [], [some [4]], []⟩ ⟨[], [], []⟩ [true, true] (tt k1 (ww bC (ww aF (tt k0 nn))))))) (fun k1 => (sl Zq 23 [] ⟨[], [], rsrN0, rsrM0⟩ ⟨[], [], []⟩ [true, false] (tt k1 (ww bC (ww aF (tt k0 nn)))))))))) (fun k0 => (lr 26 3 [1, 1, 1, 1, 1, 1, 0] 1 3 [(4, (.bool true))] (sl Zq 14 [] ⟨[], [], [some [4]], []⟩ ⟨[], [], []⟩ [false] (tt k0 nn)))))
theorem y9l (l0 : List R4) (l1 : List R4) : Xd prog (Zy prog 117) (rsrC l0 l1) (Zg prog 117 [(.dat l0.length (Zz l0)), (.dat l1.length (Zz l1))] true []) (z3z l0 l1) := (lb (fun k0 => (lr 26 117 [1, 0, 1, 0, 0] 1 3 [(4, (.bool false))] (sl Zq 18 [] ⟨[], [], [some [4]], []⟩ ⟨[], [], []⟩ [true] (tt k0 nn)))) (fun k0 => (sl Zq 22 [] ⟨[], [], rsrN0, rsrM0⟩ ⟨[], [], []⟩ [false] (tt k0 nn))))
theorem w5p (l0 : List R4) (l1 : List R4) (n : Nat) (vs : List AVal) (h : Yu (z3c l0 l1) n (z3z l0 l1) = .ret vs) : Ur prog (Zy prog 117) (Zg prog 117 [(.dat l0.length (Zz l0)), (.dat l1.length (Zz l1))] true []) vs := by
 have := Ze (x5p l0 l1) n _ (y9l l0 l1)
 rwa [h] at this
inductive rsbS where
 | h0 (v5 : Int)
def rsbC (l0 : List R6) (l1 : List R6) : rsbS → Cfg
 | .h0 v5 => ⟨⟨26, 0, true⟩, none, (Za prog 40 [1, 1, 0, 1, 0, 0] 0), none, (Zy prog 3), ⟨Yb [(0, (.dat l0.length (Zz l0))), (1, (.dat l1.length (Zz l1))), (5, (ii v5))], Vq [] 0, 0, [], true⟩, [], .leaf⟩
def rsbN0 : List (Option (List Nat)) := [some [0, 1, 5]]
def rsbM0 : List (Option (List Nat)) := []
def z3e (l0 : List R6) (l1 : List R6) : rsbS → Xj rsbS
 | .h0 v5 => (bif (decide (v5 < (l0.length : Int))) then (bif ((decide (0 ≤ v5 ∧ v5 < (l0.length : Int))) && true) then (bif ((decide (0 ≤ v5 ∧ v5 < (l1.length : Int))) && true) then (bif (!((((rd l0 v5.toNat).a == (rd l1 v5.toNat).a) && (((rd l0 v5.toNat).b == (rd l1 v5.toNat).b) && (((rd l0 v5.toNat).c == (rd l1 v5.toNat).c) && true))) && ((((rd l0 v5.toNat).d == (rd l1 v5.toNat).d) && (((rd l0 v5.toNat).e == (rd l1 v5.toNat).e) && (((rd l0 v5.toNat).f == (rd l1 v5.toNat).f) && true))) && true))) then (.ret [(.bool false)]) else (.to (.h0 (IntKind.wrap .i64 (v5 + 1))))) else .stuck) else .stuck) else (.ret [(.bool true)]))
def z4b (l0 : List R6) (l1 : List R6) : Xj rsbS := (bif ((l0.length : Int) != (l1.length : Int)) then (.ret [(.bool false)]) else (.to (.h0 0)))
theorem x5s (l0 : List R6) (l1 : List R6) : ∀ s, Xd prog (Zy prog 40) (rsbC l0 l1) (rsbC l0 l1 s) (z3e l0 l1 s)
 | .h0 v5 => (lb (fun k0 => (lo fun aF => (lo fun bC => (lb (fun k1 => (lr 26 40 [1, 1, 0, 1, 0, 0, 1, 0, 0, 1, 0, 0] 1 3 [(4, (.bool false))] (sl Zq 19 [] ⟨[], [], [some [4]], []⟩ ⟨[], [], []⟩ [true, true] (tt k1 (ww bC (ww aF (tt k0 nn))))))) (fun k1 => (sl Zq 23 [] ⟨[], [], rsbN0, rsbM0⟩ ⟨[], [], []⟩ [true, false] (tt k1 (ww bC (ww aF (tt k0 nn)))))))))) (fun k0 => (lr 26 3 [1, 1, 1, 1, 1, 1, 0] 1 3 [(4, (.bool true))] (sl Zq 14 [] ⟨[], [], [some [4]], []⟩ ⟨[], [], []⟩ [false] (tt k0 nn)))))
theorem y9n (l0 : List R6) (l1 : List R6) : Xd prog (Zy prog 40) (rsbC l0 l1) (Zg prog 40 [(.dat l0.length (Zz l0)), (.dat l1.length (Zz l1))] true []) (z4b l0 l1) := (lb (fun k0 => (lr 26 40 [1, 0, 1, 0, 0] 1 3 [(4, (.bool false))] (sl Zq 18 [] ⟨[], [], [some [4]], []⟩ ⟨[], [], []⟩ [true] (tt k0 nn)))) (fun k0 => (sl Zq 22 [] ⟨[], [], rsbN0, rsbM0⟩ ⟨[], [], []⟩ [false] (tt k0 nn))))
theorem w5r (l0 : List R6) (l1 : List R6) (n : Nat) (vs : List AVal) (h : Yu (z3e l0 l1) n (z4b l0 l1) = .ret vs) : Ur prog (Zy prog 40) (Zg prog 40 [(.dat l0.length (Zz l0)), (.dat l1.length (Zz l1))] true []) vs := by
 have := Ze (x5s l0 l1) n _ (y9n l0 l1)
 rwa [h] at this
inductive ratS where
 | h0 (v5 : List R4) (v6 : Int)
def ratC (l0 : List R6) (x1 : Int) : ratS → Cfg
 | .h0 v5 v6 => ⟨⟨60, 0, true⟩, none, (Za prog 116 [1, 1, 0, 1, 0, 0] 0), none, (Zy prog 3), ⟨Yb [(0, (.dat l0.length (Zz l0))), (1, (ii x1)), (5, (.sla 0 4 0 v5.length (.un 4))), (6, (ii v6))], Vq [⟨rows v5.length (Zz v5), 114, some ⟨4, v5.length, (Zz v5)⟩⟩] 0, 1, [], true⟩, [], .leaf⟩
def w6n : List (Option (List Nat)) := [some [0, 1, 5, 6]]
def w6o : List (Option (List Nat)) := []
def z3h (l0 : List R6) (x1 : Int) : ratS → Xj ratS
 | .h0 v5 v6 => (bif (decide (v6 < (l0.length : Int))) then (bif ((decide (0 ≤ v6 ∧ v6 < (l0.length : Int))) && true) then (bif (decide ((rd l0 v6.toNat).c ≤ x1)) then (bif (decide (x1 < (rd l0 v6.toNat).f)) then (bif (Nat.beq 4 4 && ((decide (0 + v5.length = v5.length)) && decide ((v5.length + 1 + 1) * (32 + 1) ≤ Kd))) then (.to (.h0 (v5 ++ [(R4.mk (rd l0 v6.toNat).a (rd l0 v6.toNat).b (rd l0 v6.toNat).d (rd l0 v6.toNat).e)]) (IntKind.wrap .i64 (v6 + 1)))) else .stuck) else (.to (.h0 v5 (IntKind.wrap .i64 (v6 + 1))))) else (.to (.h0 v5 (IntKind.wrap .i64 (v6 + 1))))) else .stuck) else (.ret [(.dat v5.length (Zz v5))]))
def z8i (l0 : List R6) (x1 : Int) : Xj ratS := (.to (.h0 ([] : List R4) 0))
theorem x6g (l0 : List R6) (x1 : Int) : ∀ s, Xd prog (Zy prog 116) (ratC l0 x1) (ratC l0 x1 s) (z3h l0 x1 s)
 | .h0 v5 v6 => (lb (fun k0 => (lo fun aF => (lb (fun k1 => (lb (fun k2 => (lo fun o0 => (sl Zq 42 [] ⟨[2], [], w6n, w6o⟩ ⟨[(5, .len (v5 ++ [(R4.mk (rd l0 (tn v6)).a (rd l0 (tn v6)).b (rd l0 (tn v6)).d (rd l0 (tn v6)).e)]).length)], [.rowed 4 (v5 ++ [(R4.mk (rd l0 (tn v6)).a (rd l0 (tn v6)).b (rd l0 (tn v6)).d (rd l0 (tn v6)).e)]).length (Zz (v5 ++ [(R4.mk (rd l0 (tn v6)).a (rd l0 (tn v6)).b (rd l0 (tn v6)).d (rd l0 (tn v6)).e)]))], []⟩ (trs 10 []) (pp (xL (v5.length + 1) (v5 ++ [(R4.mk (rd l0 (tn v6)).a (rd l0 (tn v6)).b (rd l0 (tn v6)).d (rd l0 (tn v6)).e)]).length) (pp (xL (v5.length + 1) (v5 ++ [(R4.mk (rd l0 (tn v6)).a (rd l0 (tn v6)).b (rd l0 (tn v6)).d (rd l0 (tn v6)).e)]).length) (pp (xS (v5.length + 1) (Zh (Zz v5) 0 v5.length 4 [(ii (rd l0 (tn v6)).a), (ii (rd l0 (tn v6)).b), (ii (rd l0 (tn v6)).d), (ii (rd l0 (tn v6)).e)]) (Zz (v5 ++ [(R4.mk (rd l0 (tn v6)).a (rd l0 (tn v6)).b (rd l0 (tn v6)).d (rd l0 (tn v6)).e)]))) (pp (pp (xF (Zh (Zz v5) 0 v5.length 4 [(ii (rd l0 (tn v6)).a), (ii (rd l0 (tn v6)).b), (ii (rd l0 (tn v6)).d), (ii (rd l0 (tn v6)).e)])) nn) (ww o0 (ww aF (ww aF (ww aF (ww aF (tt k2 (ww aF (tt k1 (ww aF (tt k0 nn))))))))))))))))) (fun k2 => (sl Zq 42 [] ⟨[0], [], w6n, w6o⟩ ⟨[], [], []⟩ (trs 9 [false]) (pp (fl v5 nn) (tt k2 (ww aF (tt k1 (ww aF (tt k0 nn)))))))))) (fun k1 => (sl Zq 42 [] ⟨[0], [], w6n, w6o⟩ ⟨[], [], []⟩ [true, false, false, false, false, false, false, false, false, false] (pp (fl v5 nn) (tt k1 (ww aF (tt k0 nn))))))))) (fun k0 => (lr 60 3 [1, 1, 1, 1, 1, 1, 0] 1 3 [(4, (.dat v5.length (Zz v5)))] (sl Zq 15 [] ⟨[], [0], [some [4]], []⟩ ⟨[(4, .frz v5.length v5.length (Zz v5) (Zz v5))], [], []⟩ [false] (pp (xZ (z8r 4 4 0 v5.length v5.length (Zz v5)) v5.length (Zz v5)) (pp (xL v5.length v5.length) (pp (xS v5.length (Zz v5) (Zz v5)) (pp (fl v5 nn) (tt k0 nn)))))))))
theorem x0j (l0 : List R6) (x1 : Int) : Xd prog (Zy prog 116) (ratC l0 x1) (Zg prog 116 [(.dat l0.length (Zz l0)), (.int .i64 x1)] true []) (z8i l0 x1) := (sl Zq 15 [(114, 4, Zz ([] : List R4))] ⟨[0], [], w6n, w6o⟩ ⟨[(5, .grow 0 4)], [], []⟩ [] (pp (fl ([] : List R4) nn) nn))
theorem w6m (l0 : List R6) (x1 : Int) (n : Nat) (vs : List AVal) (h : Yu (z3h l0 x1) n (z8i l0 x1) = .ret vs) : Ur prog (Zy prog 116) (Zg prog 116 [(.dat l0.length (Zz l0)), (.int .i64 x1)] true []) vs := by
 have := Ze (x6g l0 x1) n _ (x0j l0 x1)
 rwa [h] at this
inductive eqaS where
 | h0 (v13 : Int)
def eqaC (l0 : List R2) (l1 : List R2) : eqaS → Cfg
 | .h0 v13 => ⟨⟨26, 0, true⟩, none, (Za prog 123 [1, 1, 0, 1, 0, 0] 0), none, (Zy prog 3), ⟨Yb [(0, (.dat l0.length (Zz l0))), (1, (.dat l1.length (Zz l1))), (12, (ii (l0.length : Int))), (13, (ii v13))], Vq [] 0, 0, [], true⟩, [], .leaf⟩
def eqaN0 : List (Option (List Nat)) := [some [0, 1, 12, 13]]
def eqaM0 : List (Option (List Nat)) := []
def z3q (l0 : List R2) (l1 : List R2) : eqaS → Xj eqaS
 | .h0 v13 => (bif (decide (v13 < (l0.length : Int))) then (bif ((decide (0 ≤ v13 ∧ v13 < (l0.length : Int))) && true) then (bif ((decide (0 ≤ v13 ∧ v13 < (l1.length : Int))) && true) then (bif (!(((rd l0 v13.toNat).a == (rd l1 v13.toNat).a) && (((rd l0 v13.toNat).b == (rd l1 v13.toNat).b) && true))) then (.ret [(.bool false)]) else (.to (.h0 (IntKind.wrap .i64 (v13 + 1))))) else .stuck) else .stuck) else (.ret [(.bool true)]))
def z4w (l0 : List R2) (l1 : List R2) : Xj eqaS := (bif ((l0.length : Int) != (l1.length : Int)) then (.ret [(.bool false)]) else (.to (.h0 0)))
theorem x7j (l0 : List R2) (l1 : List R2) : ∀ s, Xd prog (Zy prog 123) (eqaC l0 l1) (eqaC l0 l1 s) (z3q l0 l1 s)
 | .h0 v13 => (lb (fun k0 => (lo fun aF => (lo fun bC => (lb (fun k1 => (lr 26 123 [1, 1, 0, 1, 0, 0, 1, 1, 0, 0, 1, 1, 0, 0] 1 3 [(4, (.bool false))] (sl Zq 21 [] ⟨[], [], [some [4]], []⟩ ⟨[], [], []⟩ [true, true] (tt k1 (ww bC (ww aF (tt k0 nn))))))) (fun k1 => (sl Zq 24 [] ⟨[], [], eqaN0, eqaM0⟩ ⟨[], [], []⟩ [true, false] (tt k1 (ww bC (ww aF (tt k0 nn)))))))))) (fun k0 => (lr 26 3 [1, 1, 1, 1, 1, 1, 0] 1 3 [(4, (.bool true))] (sl Zq 11 [] ⟨[], [], [some [4]], []⟩ ⟨[], [], []⟩ [false] (tt k0 nn)))))
theorem x1q (l0 : List R2) (l1 : List R2) : Xd prog (Zy prog 123) (eqaC l0 l1) (Zg prog 123 [(.dat l0.length (Zz l0)), (.dat l1.length (Zz l1))] true []) (z4w l0 l1) := (lb (fun k0 => (lr 26 123 [1, 0, 1, 0, 0] 1 3 [(4, (.bool false))] (sl Zq 18 [] ⟨[], [], [some [4]], []⟩ ⟨[], [], []⟩ [true] (tt k0 nn)))) (fun k0 => (sl Zq 24 [] ⟨[], [], eqaN0, eqaM0⟩ ⟨[], [], []⟩ [false] (tt k0 nn))))
theorem w8q (l0 : List R2) (l1 : List R2) (n : Nat) (vs : List AVal) (h : Yu (z3q l0 l1) n (z4w l0 l1) = .ret vs) : Ur prog (Zy prog 123) (Zg prog 123 [(.dat l0.length (Zz l0)), (.dat l1.length (Zz l1))] true []) vs := by
 have := Ze (x7j l0 l1) n _ (x1q l0 l1)
 rwa [h] at this
inductive eqbS where
 | h0 (v13 : Int)
def eqbC (l0 : List R4) (l1 : List R4) : eqbS → Cfg
 | .h0 v13 => ⟨⟨26, 0, true⟩, none, (Za prog 82 [1, 1, 0, 1, 0, 0] 0), none, (Zy prog 3), ⟨Yb [(0, (.dat l0.length (Zz l0))), (1, (.dat l1.length (Zz l1))), (12, (ii (l0.length : Int))), (13, (ii v13))], Vq [] 0, 0, [], true⟩, [], .leaf⟩
def eqbN0 : List (Option (List Nat)) := [some [0, 1, 12, 13]]
def eqbM0 : List (Option (List Nat)) := []
def z3p (l0 : List R4) (l1 : List R4) : eqbS → Xj eqbS
 | .h0 v13 => (bif (decide (v13 < (l0.length : Int))) then (bif ((decide (0 ≤ v13 ∧ v13 < (l0.length : Int))) && true) then (bif ((decide (0 ≤ v13 ∧ v13 < (l1.length : Int))) && true) then (bif (!(((rd l0 v13.toNat).a == (rd l1 v13.toNat).a) && (((rd l0 v13.toNat).b == (rd l1 v13.toNat).b) && (((rd l0 v13.toNat).c == (rd l1 v13.toNat).c) && (((rd l0 v13.toNat).d == (rd l1 v13.toNat).d) && true))))) then (.ret [(.bool false)]) else (.to (.h0 (IntKind.wrap .i64 (v13 + 1))))) else .stuck) else .stuck) else (.ret [(.bool true)]))
def z4v (l0 : List R4) (l1 : List R4) : Xj eqbS := (bif ((l0.length : Int) != (l1.length : Int)) then (.ret [(.bool false)]) else (.to (.h0 0)))
theorem x7i (l0 : List R4) (l1 : List R4) : ∀ s, Xd prog (Zy prog 82) (eqbC l0 l1) (eqbC l0 l1 s) (z3p l0 l1 s)
 | .h0 v13 => (lb (fun k0 => (lo fun aF => (lo fun bC => (lb (fun k1 => (lr 26 82 [1, 1, 0, 1, 0, 0, 1, 1, 0, 0, 1, 1, 0, 0] 1 3 [(4, (.bool false))] (sl Zq 21 [] ⟨[], [], [some [4]], []⟩ ⟨[], [], []⟩ [true, true] (tt k1 (ww bC (ww aF (tt k0 nn))))))) (fun k1 => (sl Zq 24 [] ⟨[], [], eqbN0, eqbM0⟩ ⟨[], [], []⟩ [true, false] (tt k1 (ww bC (ww aF (tt k0 nn)))))))))) (fun k0 => (lr 26 3 [1, 1, 1, 1, 1, 1, 0] 1 3 [(4, (.bool true))] (sl Zq 11 [] ⟨[], [], [some [4]], []⟩ ⟨[], [], []⟩ [false] (tt k0 nn)))))
theorem x1p (l0 : List R4) (l1 : List R4) : Xd prog (Zy prog 82) (eqbC l0 l1) (Zg prog 82 [(.dat l0.length (Zz l0)), (.dat l1.length (Zz l1))] true []) (z4v l0 l1) := (lb (fun k0 => (lr 26 82 [1, 0, 1, 0, 0] 1 3 [(4, (.bool false))] (sl Zq 18 [] ⟨[], [], [some [4]], []⟩ ⟨[], [], []⟩ [true] (tt k0 nn)))) (fun k0 => (sl Zq 24 [] ⟨[], [], eqbN0, eqbM0⟩ ⟨[], [], []⟩ [false] (tt k0 nn))))
theorem w8p (l0 : List R4) (l1 : List R4) (n : Nat) (vs : List AVal) (h : Yu (z3p l0 l1) n (z4v l0 l1) = .ret vs) : Ur prog (Zy prog 82) (Zg prog 82 [(.dat l0.length (Zz l0)), (.dat l1.length (Zz l1))] true []) vs := by
 have := Ze (x7i l0 l1) n _ (x1p l0 l1)
 rwa [h] at this
inductive eqcS where
 | h0 (v13 : Int)
def eqcC (l0 : List R6) (l1 : List R6) : eqcS → Cfg
 | .h0 v13 => ⟨⟨26, 0, true⟩, none, (Za prog 109 [1, 1, 0, 1, 0, 0] 0), none, (Zy prog 3), ⟨Yb [(0, (.dat l0.length (Zz l0))), (1, (.dat l1.length (Zz l1))), (12, (ii (l0.length : Int))), (13, (ii v13))], Vq [] 0, 0, [], true⟩, [], .leaf⟩
def eqcN0 : List (Option (List Nat)) := [some [0, 1, 12, 13]]
def eqcM0 : List (Option (List Nat)) := []
def z3o (l0 : List R6) (l1 : List R6) : eqcS → Xj eqcS
 | .h0 v13 => (bif (decide (v13 < (l0.length : Int))) then (bif ((decide (0 ≤ v13 ∧ v13 < (l0.length : Int))) && true) then (bif ((decide (0 ≤ v13 ∧ v13 < (l1.length : Int))) && true) then (bif (!((((rd l0 v13.toNat).a == (rd l1 v13.toNat).a) && (((rd l0 v13.toNat).b == (rd l1 v13.toNat).b) && (((rd l0 v13.toNat).c == (rd l1 v13.toNat).c) && true))) && ((((rd l0 v13.toNat).d == (rd l1 v13.toNat).d) && (((rd l0 v13.toNat).e == (rd l1 v13.toNat).e) && (((rd l0 v13.toNat).f == (rd l1 v13.toNat).f) && true))) && true))) then (.ret [(.bool false)]) else (.to (.h0 (IntKind.wrap .i64 (v13 + 1))))) else .stuck) else .stuck) else (.ret [(.bool true)]))
def z4u (l0 : List R6) (l1 : List R6) : Xj eqcS := (bif ((l0.length : Int) != (l1.length : Int)) then (.ret [(.bool false)]) else (.to (.h0 0)))
theorem x7h (l0 : List R6) (l1 : List R6) : ∀ s, Xd prog (Zy prog 109) (eqcC l0 l1) (eqcC l0 l1 s) (z3o l0 l1 s)
 | .h0 v13 => (lb (fun k0 => (lo fun aF => (lo fun bC => (lb (fun k1 => (lr 26 109 [1, 1, 0, 1, 0, 0, 1, 1, 0, 0, 1, 1, 0, 0] 1 3 [(4, (.bool false))] (sl Zq 21 [] ⟨[], [], [some [4]], []⟩ ⟨[], [], []⟩ [true, true] (tt k1 (ww bC (ww aF (tt k0 nn))))))) (fun k1 => (sl Zq 24 [] ⟨[], [], eqcN0, eqcM0⟩ ⟨[], [], []⟩ [true, false] (tt k1 (ww bC (ww aF (tt k0 nn)))))))))) (fun k0 => (lr 26 3 [1, 1, 1, 1, 1, 1, 0] 1 3 [(4, (.bool true))] (sl Zq 11 [] ⟨[], [], [some [4]], []⟩ ⟨[], [], []⟩ [false] (tt k0 nn)))))
theorem x1o (l0 : List R6) (l1 : List R6) : Xd prog (Zy prog 109) (eqcC l0 l1) (Zg prog 109 [(.dat l0.length (Zz l0)), (.dat l1.length (Zz l1))] true []) (z4u l0 l1) := (lb (fun k0 => (lr 26 109 [1, 0, 1, 0, 0] 1 3 [(4, (.bool false))] (sl Zq 18 [] ⟨[], [], [some [4]], []⟩ ⟨[], [], []⟩ [true] (tt k0 nn)))) (fun k0 => (sl Zq 24 [] ⟨[], [], eqcN0, eqcM0⟩ ⟨[], [], []⟩ [false] (tt k0 nn))))
theorem w8o (l0 : List R6) (l1 : List R6) (n : Nat) (vs : List AVal) (h : Yu (z3o l0 l1) n (z4u l0 l1) = .ret vs) : Ur prog (Zy prog 109) (Zg prog 109 [(.dat l0.length (Zz l0)), (.dat l1.length (Zz l1))] true []) vs := by
 have := Ze (x7h l0 l1) n _ (x1o l0 l1)
 rwa [h] at this
inductive holS where
def holC (x0 : Int) (x1 : Bool) (x2 : Bool) : holS → Cfg
 := nofun
def x1d (x0 : Int) (x1 : Bool) (x2 : Bool) : holS → Xj holS
 := nofun
def z8p (x0 : Int) (x1 : Bool) (x2 : Bool) : Xj holS := (bif (x0 == 1) then (bif x1 then (.ret [(.bool x2)]) else (.ret [(.bool false)])) else (bif (x0 == 2) then (bif x1 then (.ret [(.bool true)]) else (.ret [(.bool x2)])) else (bif x1 then (.ret [(.bool (!x2))]) else (.ret [(.bool false)]))))
theorem x6w (x0 : Int) (x1 : Bool) (x2 : Bool) : ∀ s, Xd prog (Zy prog 137) (holC x0 x1 x2) (holC x0 x1 x2 s) (x1d x0 x1 x2 s)
 := nofun
theorem x1e (x0 : Int) (x1 : Bool) (x2 : Bool) : Xd prog (Zy prog 137) (holC x0 x1 x2) (Zg prog 137 [(.int .i64 x0), (.bool x1), (.bool x2)] true []) (z8p x0 x1 x2) := (lb (fun k0 => (lb (fun k1 => (lr 24 137 [1, 0, 1, 0, 0] 1 4 [(6, (.bool x2))] (sl Zq 19 [] ⟨[], [], [some [6]], []⟩ ⟨[], [], []⟩ [true, true] (tt k1 (tt k0 nn))))) (fun k1 => (lr 24 137 [1, 0, 1, 0, 0] 1 4 [(6, (.bool false))] (sl Zq 19 [] ⟨[], [], [some [6]], []⟩ ⟨[], [], []⟩ [true, false] (tt k1 (tt k0 nn))))))) (fun k0 => (lb (fun k1 => (lb (fun k2 => (lr 24 137 [1, 1, 0, 1, 0, 0] 1 4 [(6, (.bool true))] (sl Zq 27 [] ⟨[], [], [some [6]], []⟩ ⟨[], [], []⟩ [false, true, true] (tt k2 (tt k1 (tt k0 nn)))))) (fun k2 => (lr 24 137 [1, 1, 0, 1, 0, 0] 1 4 [(6, (.bool x2))] (sl Zq 27 [] ⟨[], [], [some [6]], []⟩ ⟨[], [], []⟩ [false, true, false] (tt k2 (tt k1 (tt k0 nn)))))))) (fun k1 => (lb (fun k2 => (lr 24 3 [1, 1, 1, 1, 1, 1, 0] 1 4 [(6, (.bool (!x2)))] (sl Zq 29 [] ⟨[], [], [some [6]], []⟩ ⟨[], [], []⟩ [false, false, true, true] (tt k2 (tt k1 (tt k0 nn)))))) (fun k2 => (lr 24 3 [1, 1, 1, 1, 1, 1, 0] 1 4 [(6, (.bool false))] (sl Zq 29 [] ⟨[], [], [some [6]], []⟩ ⟨[], [], []⟩ [false, false, false, false] (tt k2 (tt k1 (tt k0 nn)))))))))))
theorem w7x (x0 : Int) (x1 : Bool) (x2 : Bool) (n : Nat) (vs : List AVal) (h : Yu (x1d x0 x1 x2) n (z8p x0 x1 x2) = .ret vs) : Ur prog (Zy prog 137) (Zg prog 137 [(.int .i64 x0), (.bool x1), (.bool x2)] true []) vs := by
 have := Ze (x6w x0 x1 x2) n _ (x1e x0 x1 x2)
 rwa [h] at this
inductive fstS where
def fstC (x0 : Bool) (x1 : Bool) : fstS → Cfg
 := nofun
def x1h (x0 : Bool) (x1 : Bool) : fstS → Xj fstS
 := nofun
def y4m (x0 : Bool) (x1 : Bool) : Xj fstS := (.ret [(.bool x0)])
theorem x6z (x0 : Bool) (x1 : Bool) : ∀ s, Xd prog (Zy prog 189) (fstC x0 x1) (fstC x0 x1 s) (x1h x0 x1 s)
 := nofun
theorem x1i (x0 : Bool) (x1 : Bool) : Xd prog (Zy prog 189) (fstC x0 x1) (Zg prog 189 [(.bool x0), (.bool x1)] true []) (y4m x0 x1) := (lr 6 3 [1, 1, 1, 1, 1, 1, 0] 1 3 [(4, (.bool x0))] (sl Zq 9 [] ⟨[], [], [some [4]], []⟩ ⟨[], [], []⟩ [] nn))
theorem w8a (x0 : Bool) (x1 : Bool) (n : Nat) (vs : List AVal) (h : Yu (x1h x0 x1) n (y4m x0 x1) = .ret vs) : Ur prog (Zy prog 189) (Zg prog 189 [(.bool x0), (.bool x1)] true []) vs := by
 have := Ze (x6z x0 x1) n _ (x1i x0 x1)
 rwa [h] at this
end Go.Am
namespace Go.Am
theorem Yv {a b : Int} (h : a < b) : decide (a < b) = true := decide_eq_true h
theorem Zs {a b : Int} (h : ¬ a < b) : decide (a < b) = false := decide_eq_false h
theorem Xx {a b : Int} (h : a ≤ b) : decide (a ≤ b) = true := decide_eq_true h
theorem v9a {a b : Int} (h : ¬ a ≤ b) : decide (a ≤ b) = false := decide_eq_false h
theorem Yn {a b : Int} (h : a > b) : decide (a > b) = true := decide_eq_true h
theorem Yo {a b : Int} (h : ¬ a > b) : decide (a > b) = false := decide_eq_false h
theorem w8y {a b : Int} (h : a ≥ b) : decide (a ≥ b) = true := decide_eq_true h
theorem Yd {a b : Nat} (h : a < b) : decide (a < b) = true := decide_eq_true h
theorem Yp {a b : Nat} (h : a ≤ b) : decide (a ≤ b) = true := decide_eq_true h
theorem Yf {a b : Nat} (h : a = b) : decide (a = b) = true := decide_eq_true h
theorem Yj {a b : Int} (h : 0 ≤ a ∧ a < b) : decide (0 ≤ a ∧ a < b) = true := decide_eq_true h
theorem Zt {a : Nat} (h : a ≤ 1099511627776) : decide (a ≤ Kd) = true := decide_eq_true h
theorem Zj {n : Int} (h : -9223372036854775808 ≤ n ∧ n ≤ 9223372036854775807) : IntKind.wrap .i64 n = n := w_in h.1 h.2
theorem z1p : ((0 : Nat) : Int) = 0 := rfl
theorem Zv (i : Nat) : (i : Int) + 1 = ((i + 1 : Nat) : Int) := rfl
theorem Zf (i : Nat) : ((i + 1 : Nat) : Int) - 1 = (i : Int) := by omega
theorem Ke {a b : Int} (h : a ≠ b) : (a != b) = true := by simp [h]
theorem Kf {a b : Int} (h : a = b) : (a != b) = false := by simp [h]
theorem beq_t' {a b : Int} (h : a = b) : (a == b) = true := by simp [h]
theorem beq_f' {a b : Int} (h : a ≠ b) : (a == b) = false := by simp [h]
theorem Yi (n : Nat) : Nat.beq n n = true := Nat.beq_refl n
theorem Zk (n : Nat) : Int.toNat (n : Int) = n := Int.toNat_natCast n
theorem Zn (b : Bool) : b = true ∨ b = false := by cases b <;> simp
theorem Yg {α : Type} [Xz α] {L : List α} {i : Nat} (h : i < L.length) : L.drop i = rd L i :: L.drop (i + 1) := by
 rw [Xa h]; exact List.drop_eq_getElem_cons h
theorem z0x {P : Program} {S : Specs} (hS : Zu P S) {f : FuncId} {F : List AVal → Option (AVal × Bool)} (hf : (P.funcs[f]?).any (fun fn => fn.body.isSome) = true)
  (hF : ∀ args v, F args = some (v, true) → ∃ bs vs, Wg VLe args bs ∧ Kq vs = v ∧ Ur P (Zy P f) (Zg P f bs true []) vs ∧ ∃ d, pf d v = true) : Zu P (S.with f F) := x4v hS hf hF
end Go.Am
namespace Go.Am
open Go.Proofs
def x0l (out : List Int) (x : Int) : Nat → Nat
 | 0 => 0
 | k + 1 => bif decide (rd out k > x) then x0l out x k else k + 1
def y0k (out : List Int) (x : Int) : List Int :=
 match x0l out x out.length with
 | 0 => x :: out
 | k + 1 => bif rd out k == x then out else out.take (k + 1) ++ x :: out.drop (k + 1)
def Kx (l : List Int) : List Int := l.foldl y0k []
def Vg (l : List Int) : Bool := decide (l.length ≤ 100000)
theorem y0j (out : List Int) (x : Int) : (y0k out x).length ≤ out.length + 1 := by
 unfold y0k
 split
 ·simp
 ·rename_i k _
  cases (rd out k == x) <;> simp <;> omega
theorem y7i (out : List Int) (x : Int) (k : Nat) (hk : k ≤ out.length) :
  (y1r (out ++ [0]) (k + 1) (Nat.min (out.length + 1 - k) (out.length + 1 - (k + 1))) (Kk (out ++ [0]) k (out.length + 1 - k))).set k x = out.take k ++ x :: out.drop k := by
 have hm : Nat.min (out.length + 1 - k) (out.length + 1 - (k + 1)) = out.length - k := by
  show min _ _ = _
  omega
 rw [hm]
 apply List.ext_getElem
 ·simp [Vn]; omega
 ·intro i h1 h2
  have hi : i < out.length + 1 := by simpa [Vn] using h1
  rw [← Xa h1, ← Xa h2]
  rw [v1r (by simpa [Vn] using hi)]
  by_cases e : i = k
  ·subst e
   rw [if_pos rfl, Vx (by simp only [List.length_take]; omega), Xa (by simp; omega)]
   simp [Nat.min_eq_left hk]
  ·rw [if_neg e, w0l (by simpa using hi)]
   by_cases h : i < k
   ·rw [w9p (show ¬ k + 1 ≤ i by omega), Bool.false_and, cond_false, Va (by omega), Va (by simp; omega)]
    rw [Xa (by omega), Xa (by simp; omega), List.getElem_take]
   ·rw [w3o (show k + 1 ≤ i by omega), w3o (show i + 1 ≤ k + 1 + (out.length - k) by omega), Bool.true_and, cond_true, y3x (by omega), Va (by omega)]
    rw [Vx (by simp; omega), Xa (by omega), Xa (by simp; omega)]
    obtain ⟨j, rfl⟩ : ∃ j, i = k + 1 + j := ⟨i - k - 1, by omega⟩
    simp only [List.length_take, Nat.min_eq_left hk]
    rw [List.getElem_cons, dif_neg (by omega), List.getElem_drop]
    congr 1
theorem x3d (l : List Int) (out : List Int) (i : Nat) (hi : i < l.length) (hl : l.length ≤ 100000) (ho : out.length ≤ i) : ∀ (k N : Nat), k ≤ out.length →
  (x0l out (rd l i) out.length = x0l out (rd l i) k) → ∃ m, ∀ N, Yu (Wf l) (N + m) (.to (.h1 out (i : Int) (k : Int))) = Yu (Wf l) N (.to (.h0 (y0k out (rd l i)) ((i + 1 : Nat) : Int)))
 | 0, N, hk, hp => by
  refine ⟨1, fun N => ?_⟩
  have hins : y0k out (rd l i) = (y1r (out ++ [0]) (0 + 1) (Nat.min (out.length + 1 - 0) (out.length + 1 - (0 + 1))) (Kk (out ++ [0]) 0 (out.length + 1 - 0))).set 0 (rd l i) := by
   rw [y7i out _ 0 (Nat.zero_le _)]
   unfold y0k
   rw [hp]; rfl
  rw [hins, Zw]
  simp (disch := omega) only [Wf, Zt, decide_true, Yo, Yv, Xx, Yd, Yp, Yf, Yj, Zj, Zv, Yi, Zk, Nat.zero_add, Bool.and_true, Bool.true_and, cond_true, cond_false]
 | k + 1, N, hk, hp => by
  rcases Zn (decide (rd out k > rd l i)) with h | h
  ·have hp' : x0l out (rd l i) out.length = x0l out (rd l i) k := by rw [hp]; conv => lhs; unfold x0l; rw [h, cond_true]
   obtain ⟨m, hm⟩ := x3d l out i hi hl ho k N (by omega) hp'
   refine ⟨m + 1, fun N => ?_⟩
   rw [← hm N, ← Nat.add_assoc, Zw]
   simp (disch := omega) only [Wf, Zf, h, Zt, decide_true, Yn, Yv, Xx, Yd, Yp, Yf, Yj, Zj, Zv, Yi, Zk, Nat.zero_add, Bool.and_true, Bool.true_and, cond_true, cond_false]
  ·have hpk : x0l out (rd l i) out.length = k + 1 := by rw [hp]; unfold x0l; rw [h]; rfl
   refine ⟨1, fun N => ?_⟩
   rw [Zw]
   rcases Zn (rd out k == rd l i) with q | q
   ·have hins : y0k out (rd l i) = out := by unfold y0k; rw [hpk]; simp only [q, cond_true]
    rw [hins]
    simp (disch := omega) only [Wf, Zf, h, q, Zt, decide_true, Yn, Yv, Xx, Yd, Yp, Yf, Yj, Zj, Zv, Yi, Zk, Nat.zero_add, Bool.and_true, Bool.true_and, cond_true, cond_false]
   ·have hins : y0k out (rd l i) = (y1r (out ++ [0]) (k + 1 + 1) (Nat.min (out.length + 1 - (k + 1)) (out.length + 1 - (k + 1 + 1))) (Kk (out ++ [0]) (k + 1) (out.length + 1 - (k + 1)))).set (k + 1) (rd l i) := by
     rw [y7i out _ (k + 1) hk]
     unfold y0k
     rw [hpk]; simp only [q, cond_false]
    rw [hins]
    simp (disch := omega) only [Wf, Zf, h, q, Zt, decide_true, Yn, Yv, Xx, Yd, Yp, Yf, Yj, Zj, Zv, Yi, Zk, Nat.zero_add, Bool.and_true, Bool.true_and, cond_true, cond_false]
theorem x3e (l : List Int) (hl : l.length ≤ 100000) : ∀ (k i : Nat) (out : List Int), i + k = l.length → out.length ≤ i → ∃ m, Yu (Wf l) m (.to (.h0 out (i : Int))) = .ret [.dat ((l.drop i).foldl y0k out).length (Zz ((l.drop i).foldl y0k out))]
 | 0, i, out, h, ho => by
  refine ⟨1, ?_⟩
  rw [Zw]
  simp (disch := omega) only [Wf, Zs, cond_false]
  rw [List.drop_eq_nil_of_le (by omega)]; rfl
 | k + 1, i, out, h, ho => by
  obtain ⟨m1, h1⟩ := x3d l out i (by omega) hl ho out.length 0 (Nat.le_refl _) rfl
  obtain ⟨m2, h2⟩ := x3e l hl k (i + 1) (y0k out (rd l i)) (by omega) (Nat.le_trans (y0j _ _) (by omega))
  refine ⟨m2 + m1 + 1, ?_⟩
  rw [Zw]
  simp (disch := omega) only [Wf, Yv, cond_true]
  rw [h1 m2, h2, Yg (show i < l.length by omega)]; rfl
theorem x9k (l : List Int) (h : Vg l = true) : ∃ N, Yu (Wf l) N (z1t l) = .ret [.dat (Kx l).length (Zz (Kx l))] := by
 have := x3e l (of_decide_eq_true h) l.length 0 [] (by omega) (Nat.le_refl _)
 simpa [z1t, Kx] using this
end Go.Am
namespace Go.Am
open Go.Proofs
theorem Zd (n : Nat) : Int.toNat ((n : Int) - 1) = n - 1 := by omega
theorem w6r (x y : R2) : ((x.a == y.a) && (x.b == y.b)) = decide (x = y) := by
 obtain ⟨a, b⟩ := x; obtain ⟨c, d⟩ := y
 rw [Bool.eq_iff_iff]; simp
theorem w6q (x y : R4) : ((x.a == y.a) && ((x.b == y.b) && ((x.c == y.c) && (x.d == y.d)))) = decide (x = y) := by
 obtain ⟨a, b, c, d⟩ := x; obtain ⟨e, f, g, h⟩ := y
 rw [Bool.eq_iff_iff]; simp
theorem w6p (x y : R6) : (((x.a == y.a) && ((x.b == y.b) && (x.c == y.c))) && ((x.d == y.d) && ((x.e == y.e) && (x.f == y.f)))) = decide (x = y) := by
 obtain ⟨a, b, c, d, e, f⟩ := x; obtain ⟨a', b', c', d', e', f'⟩ := y
 rw [Bool.eq_iff_iff]; simp [and_assoc]
def Ks (l m : List R2) : Bool := decide (l = m)
def Jx (l m : List R4) : Bool := decide (l = m)
def Jy (l m : List R6) : Bool := decide (l = m)
def Vh (l m : List R2) : Bool := decide (l.length ≤ 1000000)
def Wc (l m : List R4) : Bool := decide (l.length ≤ 1000000)
def Vf (l m : List R6) : Bool := decide (l.length ≤ 1000000)
theorem z2h {α : Type} [DecidableEq α] (x y : α) (l m : List α) : decide (x :: l = y :: m) = (decide (x = y) && decide (l = m)) := by
 rw [← Bool.decide_and]; congr 1; simp
theorem v0x (l m : List R2) (hl : l.length ≤ 1000000) (hm : l.length = m.length) : ∀ (k i : Nat), i + k = l.length → ∃ N, Yu (z3d l m) N (.to (.h0 (i : Int))) = .ret [.bool (decide (l.drop i = m.drop i))]
 | 0, i, h => by
  refine ⟨1, ?_⟩
  rw [Zw, List.drop_eq_nil_of_le (show l.length ≤ i by omega), List.drop_eq_nil_of_le (show m.length ≤ i by omega)]
  simp (disch := omega) only [z3d, Yo, Yn, Yv, Zs, Xx, Yd, Yp, Yf, Yj, Zj, Zt, Ke, Kf, decide_true, Zv, Zf, Zd, Yi, Zk, Nat.zero_add, Bool.and_true, Bool.true_and, cond_true, cond_false, Bool.not_true, Bool.not_false, Zm]
 | k + 1, i, h => by
  obtain ⟨N, hN⟩ := v0x l m hl hm k (i + 1) (by omega)
  refine ⟨N + 1, ?_⟩
  rw [Zw, Yg (show i < l.length by omega), Yg (show i < m.length by omega), z2h]
  rcases Zn (decide (rd l i = rd m i)) with q | q
  ·simp (disch := omega) only [z3d, w6r, q, Yo, Yn, Yv, Zs, Xx, Yd, Yp, Yf, Yj, Zj, Zt, Ke, Kf, decide_true, Zv, Zf, Zd, Yi, Zk, Nat.zero_add, Bool.and_true, Bool.true_and, cond_true, cond_false, Bool.not_true, Bool.not_false, Zm]
   exact hN
  ·simp (disch := omega) only [z3d, w6r, q, Yo, Yn, Yv, Zs, Xx, Yd, Yp, Yf, Yj, Zj, Zt, Ke, Kf, decide_true, Zv, Zf, Zd, Yi, Zk, Nat.zero_add, Bool.and_true, Bool.true_and, cond_true, cond_false, Bool.not_true, Bool.not_false, Zm, Bool.false_and]
theorem v4z (l m : List R2) (h : Vh l m = true) : ∃ N, Yu (z3d l m) N (z4a l m) = .ret [.bool (Ks l m)] := by
 have hl : l.length ≤ 1000000 := of_decide_eq_true h
 by_cases hm : l.length = m.length
 ·obtain ⟨N, hN⟩ := v0x l m hl hm l.length 0 (Nat.zero_add _)
  refine ⟨N, ?_⟩
  unfold z4a
  rw [Kf (show (l.length : Int) = (m.length : Nat) by omega)]
  exact hN
 ·refine ⟨0, ?_⟩
  unfold z4a
  rw [Ke (show (l.length : Int) ≠ (m.length : Nat) by omega)]
  have : Ks l m = false := decide_eq_false fun e => hm (by rw [e])
  rw [this]; rfl
theorem v0w (l m : List R4) (hl : l.length ≤ 1000000) (hm : l.length = m.length) : ∀ (k i : Nat), i + k = l.length → ∃ N, Yu (z3c l m) N (.to (.h0 (i : Int))) = .ret [.bool (decide (l.drop i = m.drop i))]
 | 0, i, h => by
  refine ⟨1, ?_⟩
  rw [Zw, List.drop_eq_nil_of_le (show l.length ≤ i by omega), List.drop_eq_nil_of_le (show m.length ≤ i by omega)]
  simp (disch := omega) only [z3c, Yo, Yn, Yv, Zs, Xx, Yd, Yp, Yf, Yj, Zj, Zt, Ke, Kf, decide_true, Zv, Zf, Zd, Yi, Zk, Nat.zero_add, Bool.and_true, Bool.true_and, cond_true, cond_false, Bool.not_true, Bool.not_false, Zm]
 | k + 1, i, h => by
  obtain ⟨N, hN⟩ := v0w l m hl hm k (i + 1) (by omega)
  refine ⟨N + 1, ?_⟩
  rw [Zw, Yg (show i < l.length by omega), Yg (show i < m.length by omega), z2h]
  rcases Zn (decide (rd l i = rd m i)) with q | q
  ·simp (disch := omega) only [z3c, w6q, q, Yo, Yn, Yv, Zs, Xx, Yd, Yp, Yf, Yj, Zj, Zt, Ke, Kf, decide_true, Zv, Zf, Zd, Yi, Zk, Nat.zero_add, Bool.and_true, Bool.true_and, cond_true, cond_false, Bool.not_true, Bool.not_false, Zm]
   exact hN
  ·simp (disch := omega) only [z3c, w6q, q, Yo, Yn, Yv, Zs, Xx, Yd, Yp, Yf, Yj, Zj, Zt, Ke, Kf, decide_true, Zv, Zf, Zd, Yi, Zk, Nat.zero_add, Bool.and_true, Bool.true_and, cond_true, cond_false, Bool.not_true, Bool.not_false, Zm, Bool.false_and]
theorem v4y (l m : List R4) (h : Wc l m = true) : ∃ N, Yu (z3c l m) N (z3z l m) = .ret [.bool (Jx l m)] := by
 have hl : l.length ≤ 1000000 := of_decide_eq_true h
 by_cases hm : l.length = m.length
 ·obtain ⟨N, hN⟩ := v0w l m hl hm l.length 0 (Nat.zero_add _)
  refine ⟨N, ?_⟩
  unfold z3z
  rw [Kf (show (l.length : Int) = (m.length : Nat) by omega)]
  exact hN
 ·refine ⟨0, ?_⟩
  unfold z3z
  rw [Ke (show (l.length : Int) ≠ (m.length : Nat) by omega)]
  have : Jx l m = false := decide_eq_false fun e => hm (by rw [e])
  rw [this]; rfl
theorem v0y (l m : List R6) (hl : l.length ≤ 1000000) (hm : l.length = m.length) : ∀ (k i : Nat), i + k = l.length → ∃ N, Yu (z3e l m) N (.to (.h0 (i : Int))) = .ret [.bool (decide (l.drop i = m.drop i))]
 | 0, i, h => by
  refine ⟨1, ?_⟩
  rw [Zw, List.drop_eq_nil_of_le (show l.length ≤ i by omega), List.drop_eq_nil_of_le (show m.length ≤ i by omega)]
  simp (disch := omega) only [z3e, Yo, Yn, Yv, Zs, Xx, Yd, Yp, Yf, Yj, Zj, Zt, Ke, Kf, decide_true, Zv, Zf, Zd, Yi, Zk, Nat.zero_add, Bool.and_true, Bool.true_and, cond_true, cond_false, Bool.not_true, Bool.not_false, Zm]
 | k + 1, i, h => by
  obtain ⟨N, hN⟩ := v0y l m hl hm k (i + 1) (by omega)
  refine ⟨N + 1, ?_⟩
  rw [Zw, Yg (show i < l.length by omega), Yg (show i < m.length by omega), z2h]
  rcases Zn (decide (rd l i = rd m i)) with q | q
  ·simp (disch := omega) only [z3e, w6p, q, Yo, Yn, Yv, Zs, Xx, Yd, Yp, Yf, Yj, Zj, Zt, Ke, Kf, decide_true, Zv, Zf, Zd, Yi, Zk, Nat.zero_add, Bool.and_true, Bool.true_and, cond_true, cond_false, Bool.not_true, Bool.not_false, Zm]
   exact hN
  ·simp (disch := omega) only [z3e, w6p, q, Yo, Yn, Yv, Zs, Xx, Yd, Yp, Yf, Yj, Zj, Zt, Ke, Kf, decide_true, Zv, Zf, Zd, Yi, Zk, Nat.zero_add, Bool.and_true, Bool.true_and, cond_true, cond_false, Bool.not_true, Bool.not_false, Zm, Bool.false_and]
theorem v5a (l m : List R6) (h : Vf l m = true) : ∃ N, Yu (z3e l m) N (z4b l m) = .ret [.bool (Jy l m)] := by
 have hl : l.length ≤ 1000000 := of_decide_eq_true h
 by_cases hm : l.length = m.length
 ·obtain ⟨N, hN⟩ := v0y l m hl hm l.length 0 (Nat.zero_add _)
  refine ⟨N, ?_⟩
  unfold z4b
  rw [Kf (show (l.length : Int) = (m.length : Nat) by omega)]
  exact hN
 ·refine ⟨0, ?_⟩
  unfold z4b
  rw [Ke (show (l.length : Int) ≠ (m.length : Nat) by omega)]
  have : Jy l m = false := decide_eq_false fun e => hm (by rw [e])
  rw [this]; rfl
theorem v3e (l m : List R2) (hl : l.length ≤ 1000000) (hm : l.length = m.length) : ∀ (k i : Nat), i + k = l.length → ∃ N, Yu (z3q l m) N (.to (.h0 (i : Int))) = .ret [.bool (decide (l.drop i = m.drop i))]
 | 0, i, h => by
  refine ⟨1, ?_⟩
  rw [Zw, List.drop_eq_nil_of_le (show l.length ≤ i by omega), List.drop_eq_nil_of_le (show m.length ≤ i by omega)]
  simp (disch := omega) only [z3q, Yo, Yn, Yv, Zs, Xx, Yd, Yp, Yf, Yj, Zj, Zt, Ke, Kf, decide_true, Zv, Zf, Zd, Yi, Zk, Nat.zero_add, Bool.and_true, Bool.true_and, cond_true, cond_false, Bool.not_true, Bool.not_false, Zm]
 | k + 1, i, h => by
  obtain ⟨N, hN⟩ := v3e l m hl hm k (i + 1) (by omega)
  refine ⟨N + 1, ?_⟩
  rw [Zw, Yg (show i < l.length by omega), Yg (show i < m.length by omega), z2h]
  rcases Zn (decide (rd l i = rd m i)) with q | q
  ·simp (disch := omega) only [z3q, w6r, q, Yo, Yn, Yv, Zs, Xx, Yd, Yp, Yf, Yj, Zj, Zt, Ke, Kf, decide_true, Zv, Zf, Zd, Yi, Zk, Nat.zero_add, Bool.and_true, Bool.true_and, cond_true, cond_false, Bool.not_true, Bool.not_false, Zm]
   exact hN
  ·simp (disch := omega) only [z3q, w6r, q, Yo, Yn, Yv, Zs, Xx, Yd, Yp, Yf, Yj, Zj, Zt, Ke, Kf, decide_true, Zv, Zf, Zd, Yi, Zk, Nat.zero_add, Bool.and_true, Bool.true_and, cond_true, cond_false, Bool.not_true, Bool.not_false, Zm, Bool.false_and]
theorem v8s (l m : List R2) (h : Vh l m = true) : ∃ N, Yu (z3q l m) N (z4w l m) = .ret [.bool (Ks l m)] := by
 have hl : l.length ≤ 1000000 := of_decide_eq_true h
 by_cases hm : l.length = m.length
 ·obtain ⟨N, hN⟩ := v3e l m hl hm l.length 0 (Nat.zero_add _)
  refine ⟨N, ?_⟩
  unfold z4w
  rw [Kf (show (l.length : Int) = (m.length : Nat) by omega)]
  exact hN
 ·refine ⟨0, ?_⟩
  unfold z4w
  rw [Ke (show (l.length : Int) ≠ (m.length : Nat) by omega)]
  have : Ks l m = false := decide_eq_false fun e => hm (by rw [e])
  rw [this]; rfl
theorem v3d (l m : List R4) (hl : l.length ≤ 1000000) (hm : l.length = m.length) : ∀ (k i : Nat), i + k = l.length → ∃ N, Yu (z3p l m) N (.to (.h0 (i : Int))) = .ret [.bool (decide (l.drop i = m.drop i))]
 | 0, i, h => by
  refine ⟨1, ?_⟩
  rw [Zw, List.drop_eq_nil_of_le (show l.length ≤ i by omega), List.drop_eq_nil_of_le (show m.length ≤ i by omega)]
  simp (disch := omega) only [z3p, Yo, Yn, Yv, Zs, Xx, Yd, Yp, Yf, Yj, Zj, Zt, Ke, Kf, decide_true, Zv, Zf, Zd, Yi, Zk, Nat.zero_add, Bool.and_true, Bool.true_and, cond_true, cond_false, Bool.not_true, Bool.not_false, Zm]
 | k + 1, i, h => by
  obtain ⟨N, hN⟩ := v3d l m hl hm k (i + 1) (by omega)
  refine ⟨N + 1, ?_⟩
  rw [Zw, Yg (show i < l.length by omega), Yg (show i < m.length by omega), z2h]
  rcases Zn (decide (rd l i = rd m i)) with q | q
  ·simp (disch := omega) only [z3p, w6q, q, Yo, Yn, Yv, Zs, Xx, Yd, Yp, Yf, Yj, Zj, Zt, Ke, Kf, decide_true, Zv, Zf, Zd, Yi, Zk, Nat.zero_add, Bool.and_true, Bool.true_and, cond_true, cond_false, Bool.not_true, Bool.not_false, Zm]
   exact hN
  ·simp (disch := omega) only [z3p, w6q, q, Yo, Yn, Yv, Zs, Xx, Yd, Yp, Yf, Yj, Zj, Zt, Ke, Kf, decide_true, Zv, Zf, Zd, Yi, Zk, Nat.zero_add, Bool.and_true, Bool.true_and, cond_true, cond_false, Bool.not_true, Bool.not_false, Zm, Bool.false_and]
theorem v8r (l m : List R4) (h : Wc l m = true) : ∃ N, Yu (z3p l m) N (z4v l m) = .ret [.bool (Jx l m)] := by
 have hl : l.length ≤ 1000000 := of_decide_eq_true h
 by_cases hm : l.length = m.length
 ·obtain ⟨N, hN⟩ := v3d l m hl hm l.length 0 (Nat.zero_add _)
  refine ⟨N, ?_⟩
  unfold z4v
  rw [Kf (show (l.length : Int) = (m.length : Nat) by omega)]
  exact hN
 ·refine ⟨0, ?_⟩
  unfold z4v
  rw [Ke (show (l.length : Int) ≠ (m.length : Nat) by omega)]
  have : Jx l m = false := decide_eq_false fun e => hm (by rw [e])
  rw [this]; rfl
theorem v3c (l m : List R6) (hl : l.length ≤ 1000000) (hm : l.length = m.length) : ∀ (k i : Nat), i + k = l.length → ∃ N, Yu (z3o l m) N (.to (.h0 (i : Int))) = .ret [.bool (decide (l.drop i = m.drop i))]
 | 0, i, h => by
  refine ⟨1, ?_⟩
  rw [Zw, List.drop_eq_nil_of_le (show l.length ≤ i by omega), List.drop_eq_nil_of_le (show m.length ≤ i by omega)]
  simp (disch := omega) only [z3o, Yo, Yn, Yv, Zs, Xx, Yd, Yp, Yf, Yj, Zj, Zt, Ke, Kf, decide_true, Zv, Zf, Zd, Yi, Zk, Nat.zero_add, Bool.and_true, Bool.true_and, cond_true, cond_false, Bool.not_true, Bool.not_false, Zm]
 | k + 1, i, h => by
  obtain ⟨N, hN⟩ := v3c l m hl hm k (i + 1) (by omega)
  refine ⟨N + 1, ?_⟩
  rw [Zw, Yg (show i < l.length by omega), Yg (show i < m.length by omega), z2h]
  rcases Zn (decide (rd l i = rd m i)) with q | q
  ·simp (disch := omega) only [z3o, w6p, q, Yo, Yn, Yv, Zs, Xx, Yd, Yp, Yf, Yj, Zj, Zt, Ke, Kf, decide_true, Zv, Zf, Zd, Yi, Zk, Nat.zero_add, Bool.and_true, Bool.true_and, cond_true, cond_false, Bool.not_true, Bool.not_false, Zm]
   exact hN
  ·simp (disch := omega) only [z3o, w6p, q, Yo, Yn, Yv, Zs, Xx, Yd, Yp, Yf, Yj, Zj, Zt, Ke, Kf, decide_true, Zv, Zf, Zd, Yi, Zk, Nat.zero_add, Bool.and_true, Bool.true_and, cond_true, cond_false, Bool.not_true, Bool.not_false, Zm, Bool.false_and]
theorem v8q (l m : List R6) (h : Vf l m = true) : ∃ N, Yu (z3o l m) N (z4u l m) = .ret [.bool (Jy l m)] := by
 have hl : l.length ≤ 1000000 := of_decide_eq_true h
 by_cases hm : l.length = m.length
 ·obtain ⟨N, hN⟩ := v3c l m hl hm l.length 0 (Nat.zero_add _)
  refine ⟨N, ?_⟩
  unfold z4u
  rw [Kf (show (l.length : Int) = (m.length : Nat) by omega)]
  exact hN
 ·refine ⟨0, ?_⟩
  unfold z4u
  rw [Ke (show (l.length : Int) ≠ (m.length : Nat) by omega)]
  have : Jy l m = false := decide_eq_false fun e => hm (by rw [e])
  rw [this]; rfl
def in4 (x y : Int) (r : R4) : Bool := decide (r.a ≤ x) && (decide (x < r.c) && (decide (r.b ≤ y) && decide (y < r.d)))
def has4V (l : List R4) (x y : Int) : Bool := l.any (in4 x y)
def Ky (l : List R4) (x y : Int) : Bool := decide (l.length ≤ 1000000)
theorem w0a (l : List R4) (x y : Int) (hl : l.length ≤ 1000000) : ∀ (k i : Nat), i + k = l.length → ∃ N, Yu (z1w l x y) N (.to (.h0 (i : Int))) = .ret [.bool ((l.drop i).any (in4 x y))]
 | 0, i, h => by
  refine ⟨1, ?_⟩
  rw [Zw, List.drop_eq_nil_of_le (show l.length ≤ i by omega)]
  simp (disch := omega) only [z1w, Yo, Yn, Yv, Zs, Xx, Yd, Yp, Yf, Yj, Zj, Zt, Ke, Kf, decide_true, Zv, Zf, Zd, Yi, Zk, Nat.zero_add, Bool.and_true, Bool.true_and, cond_true, cond_false, Bool.not_true, Bool.not_false, Zm]
  rfl
 | k + 1, i, h => by
  obtain ⟨N, hN⟩ := w0a l x y hl k (i + 1) (by omega)
  refine ⟨N + 1, ?_⟩
  rw [Zw, Yg (show i < l.length by omega), List.any_cons]
  unfold in4 at hN ⊢
  rcases Zn (decide ((rd l i).a ≤ x)) with q1 | q1 <;> rcases Zn (decide (x < (rd l i).c)) with q2 | q2 <;> rcases Zn (decide ((rd l i).b ≤ y)) with q3 | q3 <;> rcases Zn (decide (y < (rd l i).d)) with q4 | q4 <;>
   simp (disch := omega) only [z1w, q1, q2, q3, q4, Yo, Yn, Yv, Zs, Xx, Yd, Yp, Yf, Yj, Zj, Zt, Ke, Kf, decide_true, Zv, Zf, Zd, Yi, Zk, Nat.zero_add, Bool.and_true, Bool.true_and, cond_true, cond_false, Bool.not_true, Bool.not_false, Zm, Bool.false_and, Bool.and_false, Bool.false_or, Bool.true_or] <;> exact hN
theorem w6b (l : List R4) (x y : Int) (h : Ky l x y = true) : ∃ N, Yu (z1w l x y) N (z4f l x y) = .ret [.bool (has4V l x y)] := by
 have := w0a l x y (of_decide_eq_true h) l.length 0 (Nat.zero_add _)
 simpa [z4f, has4V] using this
def on6 (z : Int) (b : R6) : Bool := decide (b.c ≤ z) && decide (z < b.f)
def v7i (b : R6) : R4 := ⟨b.a, b.b, b.d, b.e⟩
def atV (l : List R6) (z : Int) : List R4 := (l.filter (on6 z)).map v7i
def z2l (l : List R6) (z : Int) : Bool := decide (l.length ≤ 1000000)
theorem w0w (l : List R6) (z : Int) (hl : l.length ≤ 1000000) : ∀ (k i : Nat) (out : List R4), i + k = l.length → out.length ≤ i → ∃ N, Yu (z3h l z) N (.to (.h0 out (i : Int))) = .ret [.dat (out ++ atV (l.drop i) z).length (Zz (out ++ atV (l.drop i) z))]
 | 0, i, out, h, ho => by
  refine ⟨1, ?_⟩
  rw [Zw, List.drop_eq_nil_of_le (show l.length ≤ i by omega)]
  simp (disch := omega) only [z3h, Yo, Yn, Yv, Zs, Xx, Yd, Yp, Yf, Yj, Zj, Zt, Ke, Kf, decide_true, Zv, Zf, Zd, Yi, Zk, Nat.zero_add, Bool.and_true, Bool.true_and, cond_true, cond_false, Bool.not_true, Bool.not_false, Zm, atV, List.filter_nil, List.map_nil, List.append_nil]
 | k + 1, i, out, h, ho => by
  rw [Yg (show i < l.length by omega)]
  have e : atV (rd l i :: l.drop (i + 1)) z = (bif on6 z (rd l i) then [v7i (rd l i)] else []) ++ atV (l.drop (i + 1)) z := by
   unfold atV; rw [List.filter_cons]; cases on6 z (rd l i) <;> rfl
  rw [e, ← List.append_assoc]
  rcases Zn (decide ((rd l i).c ≤ z)) with q1 | q1 <;> rcases Zn (decide (z < (rd l i).f)) with q2 | q2
  ·obtain ⟨N, hN⟩ := w0w l z hl k (i + 1) (out ++ [v7i (rd l i)]) (by omega) (by simp; omega)
   refine ⟨N + 1, ?_⟩
   rw [Zw]
   simp (disch := omega) only [z3h, q1, q2, on6, Yo, Yn, Yv, Zs, Xx, Yd, Yp, Yf, Yj, Zj, Zt, Ke, Kf, decide_true, Zv, Zf, Zd, Yi, Zk, Nat.zero_add, Bool.and_true, Bool.true_and, cond_true, cond_false, Bool.not_true, Bool.not_false, Zm]
   exact hN
  all_goals
   obtain ⟨N, hN⟩ := w0w l z hl k (i + 1) out (by omega) (by omega)
   refine ⟨N + 1, ?_⟩
   rw [Zw]
   simp (disch := omega) only [z3h, q1, q2, on6, Yo, Yn, Yv, Zs, Xx, Yd, Yp, Yf, Yj, Zj, Zt, Ke, Kf, decide_true, Zv, Zf, Zd, Yi, Zk, Nat.zero_add, Bool.and_true, Bool.true_and, cond_true, cond_false, Bool.not_true, Bool.not_false, Zm, Bool.false_and, Bool.and_false, List.append_nil]
   exact hN
theorem v6a (l : List R6) (z : Int) (h : z2l l z = true) : ∃ N, Yu (z3h l z) N (z8i l z) = .ret [.dat (atV l z).length (Zz (atV l z))] := by
 have := w0w l z (of_decide_eq_true h) l.length 0 [] (Nat.zero_add _) (Nat.le_refl _)
 simpa [z8i] using this
def x8g (cuts : List Int) (ins : List Bool) : Nat → Nat → List R2 → List R2
 | 0, _, out => out
 | k + 1, i, out => x8g cuts ins k (i + 1) (bif rd ins i then (bif decide (0 < out.length) && ((rd out (out.length - 1)).b == rd cuts i) then out.set (out.length - 1) ⟨(rd out (out.length - 1)).a, rd cuts (i + 1)⟩ else out ++ [⟨rd cuts i, rd cuts (i + 1)⟩]) else out)
def z7g (cuts : List Int) (ins : List Bool) : List R2 := x8g cuts ins (cuts.length - 1) 0 []
def z5g (cuts : List Int) (ins : List Bool) : Bool := decide (cuts.length ≤ 1000000 ∧ cuts.length ≤ ins.length + 1)
theorem y3z (cuts : List Int) (ins : List Bool) (hl : cuts.length ≤ 1000000) (hi : cuts.length ≤ ins.length + 1) : ∀ (k i : Nat) (out : List R2), k = cuts.length - 1 - i → i ≤ cuts.length → out.length ≤ i → ∃ N, Yu (Jd cuts ins) N (.to (.h0 out (i : Int))) = .ret [.dat (x8g cuts ins k i out).length (Zz (x8g cuts ins k i out))]
 | 0, i, out, h, hi2, ho => by
  refine ⟨1, ?_⟩
  rw [Zw]
  simp (disch := omega) only [Jd, Yo, Yn, Yv, Zs, Xx, Yd, Yp, Yf, Yj, Zj, Zt, Ke, Kf, decide_true, Zv, Zf, Zd, Yi, Zk, Nat.zero_add, Bool.and_true, Bool.true_and, cond_true, cond_false, Bool.not_true, Bool.not_false, Zm, x8g]
 | k + 1, i, out, h, hi2, ho => by
  unfold x8g
  rcases Zn (rd ins i) with q | q
  ·rcases Zn (decide (0 < out.length) && ((rd out (out.length - 1)).b == rd cuts i)) with q2 | q2
   ·obtain ⟨N, hN⟩ := y3z cuts ins hl hi k (i + 1) (out.set (out.length - 1) ⟨(rd out (out.length - 1)).a, rd cuts (i + 1)⟩) (by omega) (by omega) (by simp; omega)
    refine ⟨N + 1, ?_⟩
    rw [Zw, q, q2]
    simp only [Bool.and_eq_true, decide_eq_true_eq] at q2
    simp (disch := omega) only [Jd, q, q2.2, Yo, Yn, Yv, Zs, Xx, Yd, Yp, Yf, Yj, Zj, Zt, Ke, Kf, decide_true, Zv, Zf, Zd, Yi, Zk, Nat.zero_add, Bool.and_true, Bool.true_and, cond_true, cond_false, Bool.not_true, Bool.not_false, Zm]
    exact hN
   ·obtain ⟨N, hN⟩ := y3z cuts ins hl hi k (i + 1) (out ++ [⟨rd cuts i, rd cuts (i + 1)⟩]) (by omega) (by omega) (by simp; omega)
    refine ⟨N + 1, ?_⟩
    rw [Zw, q, q2]
    by_cases h0 : 0 < out.length
    ·rw [decide_eq_true h0, Bool.true_and] at q2
     simp (disch := omega) only [Jd, q, q2, Yo, Yn, Yv, Zs, Xx, Yd, Yp, Yf, Yj, Zj, Zt, Ke, Kf, decide_true, Zv, Zf, Zd, Yi, Zk, Nat.zero_add, Bool.and_true, Bool.true_and, cond_true, cond_false, Bool.not_true, Bool.not_false, Zm]
     exact hN
    ·simp (disch := omega) only [Jd, q, Yo, Yn, Yv, Zs, Xx, Yd, Yp, Yf, Yj, Zj, Zt, Ke, Kf, decide_true, Zv, Zf, Zd, Yi, Zk, Nat.zero_add, Bool.and_true, Bool.true_and, cond_true, cond_false, Bool.not_true, Bool.not_false, Zm]
     exact hN
  ·obtain ⟨N, hN⟩ := y3z cuts ins hl hi k (i + 1) out (by omega) (by omega) (by omega)
   refine ⟨N + 1, ?_⟩
   rw [Zw, q]
   simp (disch := omega) only [Jd, q, Yo, Yn, Yv, Zs, Xx, Yd, Yp, Yf, Yj, Zj, Zt, Ke, Kf, decide_true, Zv, Zf, Zd, Yi, Zk, Nat.zero_add, Bool.and_true, Bool.true_and, cond_true, cond_false, Bool.not_true, Bool.not_false, Zm]
   exact hN
theorem w6l (cuts : List Int) (ins : List Bool) (h : z5g cuts ins = true) : ∃ N, Yu (Jd cuts ins) N (z4k cuts ins) = .ret [.dat (z7g cuts ins).length (Zz (z7g cuts ins))] := by
 obtain ⟨h1, h2⟩ := of_decide_eq_true h
 have := y3z cuts ins h1 h2 (cuts.length - 1) 0 [] (by omega) (Nat.zero_le _) (Nat.le_refl _)
 simpa [z4k, z7g] using this
end Go.Am
namespace Go.Am
abbrev w1m : Nat := 133
abbrev v2o : Nat := 139
abbrev v2i : Nat := 140
abbrev v2l : Nat := 137
abbrev nHas4 : Nat := 138
abbrev v2h : Nat := 117
abbrev nXs : Nat := 135
abbrev nYs : Nat := 136
abbrev v2k : Nat := 115
abbrev v2g : Nat := 40
abbrev nAt : Nat := 116
abbrev nCuts : Nat := 114
abbrev v2j : Nat := 79
abbrev w1p : Nat := 64
abbrev nEq2 : Nat := 123
abbrev nEq4 : Nat := 82
abbrev nEq6 : Nat := 109
abbrev v2f : Nat := 192
abbrev x3u : Nat := 193
abbrev nSort : Nat := 119
abbrev x3w : Nat := 120
abbrev nFst : Nat := 189
abbrev y6r : Nat := 174
abbrev x3q : Nat := 130
abbrev w1o : Nat := 154
abbrev x3p : Nat := 153
abbrev x3o : Nat := 107
-- not there: gambrel/solid.contact
abbrev y6s : Nat := 72
abbrev w1n : Nat := 77
-- not there: gambrel/solid.Volume
abbrev z8l : Nat := 95
abbrev x3v : Nat := 57
abbrev w1t : Nat := 16
abbrev v2n : Nat := 18
abbrev w1u : Nat := 34
abbrev v2m : Nat := 38
abbrev w1v : Nat := 31
abbrev nDown : Nat := 75
abbrev nFull : Nat := 143
abbrev w1r : Nat := 49
abbrev y6t : Nat := 59
abbrev x3r : Nat := 17
abbrev w1s : Nat := 19
abbrev w1q : Nat := 15
abbrev x3t : Nat := 45
end Go.Am
namespace Go.Am
open Go.Proofs.Tryz
open Go.Proofs
def Kg (k : Int) (a b : Bool) : Bool := bif k == 1 then a && b else bif k == 2 then a || b else a && !b
def x4k (a b : Bool) : Bool := a
theorem v7a (k : Int) (a b : Bool) : ∃ N, Yu (x1d k a b) N (z8p k a b) = .ret [.bool (Kg k a b)] := by
 refine ⟨0, ?_⟩
 unfold z8p Kg
 cases a <;> cases b <;> rcases Zn (k == 1) with q | q <;> rcases Zn (k == 2) with q2 | q2 <;> rw [q] <;> (try rw [q2]) <;> rfl
theorem v7d (a b : Bool) : ∃ N, Yu (x1h a b) N (y4m a b) = .ret [.bool (x4k a b)] := ⟨0, rfl⟩
def fSrt : List AVal → Option (AVal × Bool)
 | [a0] => match asL Int a0 with
  | some (L0, g0, n0) => some (.dat (Kx L0).length (Zz (Kx L0)), isT Int n0 g0 && (Vg L0))
  | _ => none
 | _ => none
theorem v7m {S : Specs} (hS : Zu prog S) : Zu prog (S.with w1m fSrt) := by
 refine z0x hS (by kernel_rfl) fun args v h => ?_
 unfold fSrt at h
 split at h
 ·rename_i a0
  split at h
  ·rename_i L0 g0 n0 e0
   simp only [Option.some.injEq, Prod.mk.injEq, Bool.and_eq_true] at h
   obtain ⟨rfl, ho0, hw⟩ := h
   obtain ⟨N, hN⟩ := x9k L0 hw
   exact ⟨_, _, (.cons (asL_le e0 ho0) .nil), rfl, x5q L0 N _ hN, 3, rfl⟩
  ·cases h
 ·cases h
def fCan : List AVal → Option (AVal × Bool)
 | [a0, a1] => match asL Int a0, asL Bool a1 with
  | some (L0, g0, n0), some (L1, g1, n1) => some (.dat (z7g L0 L1).length (Zz (z7g L0 L1)), isT Int n0 g0 && (isT Bool n1 g1 && (z5g L0 L1)))
  | _, _ => none
 | _ => none
theorem v8p {S : Specs} (hS : Zu prog S) : Zu prog (S.with v2o fCan) := by
 refine z0x hS (by kernel_rfl) fun args v h => ?_
 unfold fCan at h
 split at h
 ·rename_i a0 a1
  split at h
  ·rename_i L0 g0 n0 L1 g1 n1 e0 e1
   simp only [Option.some.injEq, Prod.mk.injEq, Bool.and_eq_true] at h
   obtain ⟨rfl, ho0, ho1, hw⟩ := h
   obtain ⟨N, hN⟩ := w6l L0 L1 hw
   exact ⟨_, _, (.cons (asL_le e0 ho0) (.cons (asL_le e1 ho1) .nil)), rfl, w0v L0 L1 N _ hN, 3, rfl⟩
  ·cases h
 ·cases h
def y2x : List AVal → Option (AVal × Bool)
 | [a0, a1] => match asL R2 a0, asL R2 a1 with
  | some (L0, g0, n0), some (L1, g1, n1) => some (.bool (Ks L0 L1), isT R2 n0 g0 && (isT R2 n1 g1 && (Vh L0 L1)))
  | _, _ => none
 | _ => none
theorem w2z {S : Specs} (hS : Zu prog S) : Zu prog (S.with v2i y2x) := by
 refine z0x hS (by kernel_rfl) fun args v h => ?_
 unfold y2x at h
 split at h
 ·rename_i a0 a1
  split at h
  ·rename_i L0 g0 n0 L1 g1 n1 e0 e1
   simp only [Option.some.injEq, Prod.mk.injEq, Bool.and_eq_true] at h
   obtain ⟨rfl, ho0, ho1, hw⟩ := h
   obtain ⟨N, hN⟩ := v4z L0 L1 hw
   exact ⟨_, _, (.cons (asL_le e0 ho0) (.cons (asL_le e1 ho1) .nil)), rfl, w5q L0 L1 N _ hN, 3, rfl⟩
  ·cases h
 ·cases h
def y2w : List AVal → Option (AVal × Bool)
 | [a0, a1] => match asL R4 a0, asL R4 a1 with
  | some (L0, g0, n0), some (L1, g1, n1) => some (.bool (Jx L0 L1), isT R4 n0 g0 && (isT R4 n1 g1 && (Wc L0 L1)))
  | _, _ => none
 | _ => none
theorem w2y {S : Specs} (hS : Zu prog S) : Zu prog (S.with v2h y2w) := by
 refine z0x hS (by kernel_rfl) fun args v h => ?_
 unfold y2w at h
 split at h
 ·rename_i a0 a1
  split at h
  ·rename_i L0 g0 n0 L1 g1 n1 e0 e1
   simp only [Option.some.injEq, Prod.mk.injEq, Bool.and_eq_true] at h
   obtain ⟨rfl, ho0, ho1, hw⟩ := h
   obtain ⟨N, hN⟩ := v4y L0 L1 hw
   exact ⟨_, _, (.cons (asL_le e0 ho0) (.cons (asL_le e1 ho1) .nil)), rfl, w5p L0 L1 N _ hN, 3, rfl⟩
  ·cases h
 ·cases h
def y2v : List AVal → Option (AVal × Bool)
 | [a0, a1] => match asL R6 a0, asL R6 a1 with
  | some (L0, g0, n0), some (L1, g1, n1) => some (.bool (Jy L0 L1), isT R6 n0 g0 && (isT R6 n1 g1 && (Vf L0 L1)))
  | _, _ => none
 | _ => none
theorem w2x {S : Specs} (hS : Zu prog S) : Zu prog (S.with v2g y2v) := by
 refine z0x hS (by kernel_rfl) fun args v h => ?_
 unfold y2v at h
 split at h
 ·rename_i a0 a1
  split at h
  ·rename_i L0 g0 n0 L1 g1 n1 e0 e1
   simp only [Option.some.injEq, Prod.mk.injEq, Bool.and_eq_true] at h
   obtain ⟨rfl, ho0, ho1, hw⟩ := h
   obtain ⟨N, hN⟩ := v5a L0 L1 hw
   exact ⟨_, _, (.cons (asL_le e0 ho0) (.cons (asL_le e1 ho1) .nil)), rfl, w5r L0 L1 N _ hN, 3, rfl⟩
  ·cases h
 ·cases h
def v8f : List AVal → Option (AVal × Bool)
 | [a0, .int .i64 x1, .int .i64 x2] => match asL R4 a0 with
  | some (L0, g0, n0) => some (.bool (has4V L0 x1 x2), isT R4 n0 g0 && (Ky L0 x1 x2))
  | _ => none
 | _ => none
theorem w8k {S : Specs} (hS : Zu prog S) : Zu prog (S.with nHas4 v8f) := by
 refine z0x hS (by kernel_rfl) fun args v h => ?_
 unfold v8f at h
 split at h
 ·rename_i a0 x1 x2
  split at h
  ·rename_i L0 g0 n0 e0
   simp only [Option.some.injEq, Prod.mk.injEq, Bool.and_eq_true] at h
   obtain ⟨rfl, ho0, hw⟩ := h
   obtain ⟨N, hN⟩ := w6b L0 x1 x2 hw
   exact ⟨_, _, (.cons (asL_le e0 ho0) (.cons (.refl _) (.cons (.refl _) .nil))), rfl, w0b L0 x1 x2 N _ hN, 3, rfl⟩
  ·cases h
 ·cases h
def fAt : List AVal → Option (AVal × Bool)
 | [a0, .int .i64 x1] => match asL R6 a0 with
  | some (L0, g0, n0) => some (.dat (atV L0 x1).length (Zz (atV L0 x1)), isT R6 n0 g0 && (z2l L0 x1))
  | _ => none
 | _ => none
theorem fAt_ok {S : Specs} (hS : Zu prog S) : Zu prog (S.with nAt fAt) := by
 refine z0x hS (by kernel_rfl) fun args v h => ?_
 unfold fAt at h
 split at h
 ·rename_i a0 x1
  split at h
  ·rename_i L0 g0 n0 e0
   simp only [Option.some.injEq, Prod.mk.injEq, Bool.and_eq_true] at h
   obtain ⟨rfl, ho0, hw⟩ := h
   obtain ⟨N, hN⟩ := v6a L0 x1 hw
   exact ⟨_, _, (.cons (asL_le e0 ho0) (.cons (.refl _) .nil)), rfl, w6m L0 x1 N _ hN, 3, rfl⟩
  ·cases h
 ·cases h
def w3b : List AVal → Option (AVal × Bool)
 | [.int .i64 x0, .bool b1, .bool b2] => some (.bool (Kg x0 b1 b2), true)
 | _ => none
theorem w3a {S : Specs} (hS : Zu prog S) : Zu prog (S.with v2l w3b) := by
 refine z0x hS (by kernel_rfl) fun args v h => ?_
 unfold w3b at h
 split at h
 ·rename_i x0 b1 b2
  simp only [Option.some.injEq, Prod.mk.injEq, and_true] at h
  subst h
  obtain ⟨N, hN⟩ := v7a x0 b1 b2
  exact ⟨_, _, (.cons (.refl _) (.cons (.refl _) (.cons (.refl _) .nil))), rfl, w7x x0 b1 b2 N _ hN, 3, rfl⟩
 ·cases h
def fFst : List AVal → Option (AVal × Bool)
 | [.bool b0, .bool b1] => some (.bool (x4k b0 b1), true)
 | _ => none
theorem v8h {S : Specs} (hS : Zu prog S) : Zu prog (S.with nFst fFst) := by
 refine z0x hS (by kernel_rfl) fun args v h => ?_
 unfold fFst at h
 split at h
 ·rename_i b0 b1
  simp only [Option.some.injEq, Prod.mk.injEq, and_true] at h
  subst h
  obtain ⟨N, hN⟩ := v7d b0 b1
  exact ⟨_, _, (.cons (.refl _) (.cons (.refl _) .nil)), rfl, w8a b0 b1 N _ hN, 3, rfl⟩
 ·cases h
theorem x7g {S : Specs} (hS : Zu prog S) : Zu prog (S.with nEq2 y2x) := by
 refine z0x hS (by kernel_rfl) fun args v h => ?_
 unfold y2x at h
 split at h
 ·rename_i a0 a1
  split at h
  ·rename_i L0 g0 n0 L1 g1 n1 e0 e1
   simp only [Option.some.injEq, Prod.mk.injEq, Bool.and_eq_true] at h
   obtain ⟨rfl, ho0, ho1, hw⟩ := h
   obtain ⟨N, hN⟩ := v8s L0 L1 hw
   exact ⟨_, _, (.cons (asL_le e0 ho0) (.cons (asL_le e1 ho1) .nil)), rfl, w8q L0 L1 N _ hN, 3, rfl⟩
  ·cases h
 ·cases h
theorem x7f {S : Specs} (hS : Zu prog S) : Zu prog (S.with nEq4 y2w) := by
 refine z0x hS (by kernel_rfl) fun args v h => ?_
 unfold y2w at h
 split at h
 ·rename_i a0 a1
  split at h
  ·rename_i L0 g0 n0 L1 g1 n1 e0 e1
   simp only [Option.some.injEq, Prod.mk.injEq, Bool.and_eq_true] at h
   obtain ⟨rfl, ho0, ho1, hw⟩ := h
   obtain ⟨N, hN⟩ := v8r L0 L1 hw
   exact ⟨_, _, (.cons (asL_le e0 ho0) (.cons (asL_le e1 ho1) .nil)), rfl, w8p L0 L1 N _ hN, 3, rfl⟩
  ·cases h
 ·cases h
theorem x7e {S : Specs} (hS : Zu prog S) : Zu prog (S.with nEq6 y2v) := by
 refine z0x hS (by kernel_rfl) fun args v h => ?_
 unfold y2v at h
 split at h
 ·rename_i a0 a1
  split at h
  ·rename_i L0 g0 n0 L1 g1 n1 e0 e1
   simp only [Option.some.injEq, Prod.mk.injEq, Bool.and_eq_true] at h
   obtain ⟨rfl, ho0, ho1, hw⟩ := h
   obtain ⟨N, hN⟩ := v8q L0 L1 hw
   exact ⟨_, _, (.cons (asL_le e0 ho0) (.cons (asL_le e1 ho1) .nil)), rfl, w8o L0 L1 N _ hN, 3, rfl⟩
  ·cases h
 ·cases h
def T1 : Specs := ((((((((((((noSpecs.with w1m fSrt).with v2o fCan).with v2i y2x).with v2h y2w).with v2g y2v).with nHas4 v8f).with nAt fAt).with v2l w3b).with nFst fFst).with nEq2 y2x).with nEq4 y2w).with nEq6 y2v)
theorem z0w : Zu prog T1 := x7e (x7f (x7g (v8h (w3a (fAt_ok (w8k (w2x (w2y (w2z (v8p (v7m Zq)))))))))))
end Go.Am
namespace Go.Am
open Go.Proofs.Tryz
open Go.Proofs
inductive rxsS where
 | h0 (v5 : List Int) (v6 : Int)
 | h1 (v5 : List Int) (v7 : Int)
def rxsC (l0 : List R4) (l1 : List R4) : rxsS → Cfg
 | .h0 v5 v6 => ⟨⟨48, 0, true⟩, none, (Za prog 135 [1, 1, 0, 1, 0, 0] 0), none, (Zy prog 3), ⟨Yb [(0, (.dat l0.length (Zz l0))), (1, (.dat l1.length (Zz l1))), (5, (.sla 0 1 0 v5.length (.un 1))), (6, (ii v6))], Vq [⟨rows v5.length (Zz v5), 3, some ⟨1, v5.length, (Zz v5)⟩⟩] 0, 1, [], true⟩, [], .leaf⟩
 | .h1 v5 v7 => ⟨⟨48, 0, true⟩, none, (Za prog 135 [1, 1, 1, 0, 1, 0, 0] 0), none, (Zy prog 3), ⟨Yb [(1, (.dat l1.length (Zz l1))), (5, (.sla 0 1 0 v5.length (.un 1))), (7, (ii v7))], Vq [⟨rows v5.length (Zz v5), 3, some ⟨1, v5.length, (Zz v5)⟩⟩] 0, 1, [], true⟩, [], .leaf⟩
def rxsN0 : List (Option (List Nat)) := [some [0, 1, 5, 6]]
def rxsM0 : List (Option (List Nat)) := []
def rxsN1 : List (Option (List Nat)) := [some [1, 5, 7]]
def rxsM1 : List (Option (List Nat)) := []
def z0f (l0 : List R4) (l1 : List R4) : rxsS → Xj rxsS
 | .h0 v5 v6 => (bif (decide (v6 < (l0.length : Int))) then (bif ((decide (0 ≤ v6 ∧ v6 < (l0.length : Int))) && true) then (bif (Nat.beq 1 1 && ((decide (0 + v5.length = v5.length)) && decide ((v5.length + 2 + 1) * (8 + 1) ≤ Kd))) then (.to (.h0 (v5 ++ [(rd l0 v6.toNat).a, (rd l0 v6.toNat).c]) (IntKind.wrap .i64 (v6 + 1)))) else .stuck) else .stuck) else (.to (.h1 v5 0)))
 | .h1 v5 v7 => (bif (decide (v7 < (l1.length : Int))) then (bif ((decide (0 ≤ v7 ∧ v7 < (l1.length : Int))) && true) then (bif (Nat.beq 1 1 && ((decide (0 + v5.length = v5.length)) && decide ((v5.length + 2 + 1) * (8 + 1) ≤ Kd))) then (.to (.h1 (v5 ++ [(rd l1 v7.toNat).a, (rd l1 v7.toNat).c]) (IntKind.wrap .i64 (v7 + 1)))) else .stuck) else .stuck) else (bif (Vg (cvT v5)) then (.ret [(.dat (Kx (cvT v5)).length (Zz (Kx (cvT v5))))]) else .stuck))
def z7y (l0 : List R4) (l1 : List R4) : Xj rxsS := (.to (.h0 ([] : List Int) 0))
theorem x5o (l0 : List R4) (l1 : List R4) : ∀ s, Xd prog (Zy prog 135) (rxsC l0 l1) (rxsC l0 l1 s) (z0f l0 l1 s)
 | .h0 v5 v6 => (lb (fun k0 => (lo fun o0 => (lo fun o1 => (sl z0w 20 [] ⟨[2], [], rxsN0, rxsM0⟩ ⟨[(5, .len (v5 ++ [(rd l0 (tn v6)).a, (rd l0 (tn v6)).c]).length)], [.rowed 1 (v5 ++ [(rd l0 (tn v6)).a, (rd l0 (tn v6)).c]).length (Zz (v5 ++ [(rd l0 (tn v6)).a, (rd l0 (tn v6)).c]))], []⟩ [true] (pp (xL (v5.length + 2) (v5 ++ [(rd l0 (tn v6)).a, (rd l0 (tn v6)).c]).length) (pp (xL (v5.length + 2) (v5 ++ [(rd l0 (tn v6)).a, (rd l0 (tn v6)).c]).length) (pp (xS (v5.length + 2) (Zh (Zz v5) 0 v5.length 1 [(ii (rd l0 (tn v6)).a), (ii (rd l0 (tn v6)).c)]) (Zz (v5 ++ [(rd l0 (tn v6)).a, (rd l0 (tn v6)).c]))) (pp (pp (xF (Zh (Zz v5) 0 v5.length 1 [(ii (rd l0 (tn v6)).a), (ii (rd l0 (tn v6)).c)])) nn) (ww o1 (ww o0 (ww o0 (tt k0 nn)))))))))))) (fun k0 => (sl z0w 17 [] ⟨[0], [], rxsN1, rxsM1⟩ ⟨[], [], []⟩ [false] (pp (fl v5 nn) (tt k0 nn)))))
 | .h1 v5 v7 => (lb (fun k0 => (lo fun o0 => (lo fun o1 => (sl z0w 20 [] ⟨[2], [], rxsN1, rxsM1⟩ ⟨[(5, .len (v5 ++ [(rd l1 (tn v7)).a, (rd l1 (tn v7)).c]).length)], [.rowed 1 (v5 ++ [(rd l1 (tn v7)).a, (rd l1 (tn v7)).c]).length (Zz (v5 ++ [(rd l1 (tn v7)).a, (rd l1 (tn v7)).c]))], []⟩ [true] (pp (xL (v5.length + 2) (v5 ++ [(rd l1 (tn v7)).a, (rd l1 (tn v7)).c]).length) (pp (xL (v5.length + 2) (v5 ++ [(rd l1 (tn v7)).a, (rd l1 (tn v7)).c]).length) (pp (xS (v5.length + 2) (Zh (Zz v5) 0 v5.length 1 [(ii (rd l1 (tn v7)).a), (ii (rd l1 (tn v7)).c)]) (Zz (v5 ++ [(rd l1 (tn v7)).a, (rd l1 (tn v7)).c]))) (pp (pp (xF (Zh (Zz v5) 0 v5.length 1 [(ii (rd l1 (tn v7)).a), (ii (rd l1 (tn v7)).c)])) nn) (ww o1 (ww o0 (ww o0 (tt k0 nn)))))))))))) (fun k0 => (Vb (sl z0w (C' := ⟨⟨48, 0, true⟩, (Vi prog 135 [1, 1, 1, 1, 0] 1), (Za prog 135 [1, 1, 1, 1, 0] 1), none, (Zy prog 3), ⟨Yb [(46, (.dat v5.length (Zz v5)))], Vq [] 0, 0, [], true⟩, [], .leaf⟩) 13 [] ⟨[], [0], [some [46]], []⟩ ⟨[(46, .frz v5.length v5.length (Zz v5) (Zz v5))], [], []⟩ [false] (pp (xZ (z8r 1 1 0 v5.length v5.length (Zz v5)) v5.length (Zz v5)) (pp (xL v5.length v5.length) (pp (xS v5.length (Zz v5) (Zz v5)) (pp (fl v5 nn) (tt k0 nn)))))) (lo fun o0 => (lr 48 3 [1, 1, 1, 1, 1, 1, 0] 1 3 [(4, (.dat (Kx (cvT v5)).length (Zz (Kx (cvT v5)))))] (sl z0w 3 [] ⟨[], [], [some [4]], []⟩ ⟨[], [], []⟩ [] (pp (pp (xr v5) (xw o0)) nn)))))))
theorem y9k (l0 : List R4) (l1 : List R4) : Xd prog (Zy prog 135) (rxsC l0 l1) (Zg prog 135 [(.dat l0.length (Zz l0)), (.dat l1.length (Zz l1))] true []) (z7y l0 l1) := (sl z0w 15 [(3, 1, Zz ([] : List Int))] ⟨[0], [], rxsN0, rxsM0⟩ ⟨[(5, .grow 0 1)], [], []⟩ [] (pp (fl ([] : List Int) nn) nn))
theorem w5o (l0 : List R4) (l1 : List R4) (n : Nat) (vs : List AVal) (h : Yu (z0f l0 l1) n (z7y l0 l1) = .ret vs) : Ur prog (Zy prog 135) (Zg prog 135 [(.dat l0.length (Zz l0)), (.dat l1.length (Zz l1))] true []) vs := by
 have := Ze (x5o l0 l1) n _ (y9k l0 l1)
 rwa [h] at this
inductive rysS where
 | h0 (v5 : List Int) (v6 : Int)
 | h1 (v5 : List Int) (v7 : Int)
def rysC (l0 : List R4) (l1 : List R4) : rysS → Cfg
 | .h0 v5 v6 => ⟨⟨48, 0, true⟩, none, (Za prog 136 [1, 1, 0, 1, 0, 0] 0), none, (Zy prog 3), ⟨Yb [(0, (.dat l0.length (Zz l0))), (1, (.dat l1.length (Zz l1))), (5, (.sla 0 1 0 v5.length (.un 1))), (6, (ii v6))], Vq [⟨rows v5.length (Zz v5), 3, some ⟨1, v5.length, (Zz v5)⟩⟩] 0, 1, [], true⟩, [], .leaf⟩
 | .h1 v5 v7 => ⟨⟨48, 0, true⟩, none, (Za prog 136 [1, 1, 1, 0, 1, 0, 0] 0), none, (Zy prog 3), ⟨Yb [(1, (.dat l1.length (Zz l1))), (5, (.sla 0 1 0 v5.length (.un 1))), (7, (ii v7))], Vq [⟨rows v5.length (Zz v5), 3, some ⟨1, v5.length, (Zz v5)⟩⟩] 0, 1, [], true⟩, [], .leaf⟩
def rysN0 : List (Option (List Nat)) := [some [0, 1, 5, 6]]
def rysM0 : List (Option (List Nat)) := []
def rysN1 : List (Option (List Nat)) := [some [1, 5, 7]]
def rysM1 : List (Option (List Nat)) := []
def z0e (l0 : List R4) (l1 : List R4) : rysS → Xj rysS
 | .h0 v5 v6 => (bif (decide (v6 < (l0.length : Int))) then (bif ((decide (0 ≤ v6 ∧ v6 < (l0.length : Int))) && true) then (bif (Nat.beq 1 1 && ((decide (0 + v5.length = v5.length)) && decide ((v5.length + 2 + 1) * (8 + 1) ≤ Kd))) then (.to (.h0 (v5 ++ [(rd l0 v6.toNat).b, (rd l0 v6.toNat).d]) (IntKind.wrap .i64 (v6 + 1)))) else .stuck) else .stuck) else (.to (.h1 v5 0)))
 | .h1 v5 v7 => (bif (decide (v7 < (l1.length : Int))) then (bif ((decide (0 ≤ v7 ∧ v7 < (l1.length : Int))) && true) then (bif (Nat.beq 1 1 && ((decide (0 + v5.length = v5.length)) && decide ((v5.length + 2 + 1) * (8 + 1) ≤ Kd))) then (.to (.h1 (v5 ++ [(rd l1 v7.toNat).b, (rd l1 v7.toNat).d]) (IntKind.wrap .i64 (v7 + 1)))) else .stuck) else .stuck) else (bif (Vg (cvT v5)) then (.ret [(.dat (Kx (cvT v5)).length (Zz (Kx (cvT v5))))]) else .stuck))
def z7x (l0 : List R4) (l1 : List R4) : Xj rysS := (.to (.h0 ([] : List Int) 0))
theorem x5n (l0 : List R4) (l1 : List R4) : ∀ s, Xd prog (Zy prog 136) (rysC l0 l1) (rysC l0 l1 s) (z0e l0 l1 s)
 | .h0 v5 v6 => (lb (fun k0 => (lo fun o0 => (lo fun o1 => (sl z0w 20 [] ⟨[2], [], rysN0, rysM0⟩ ⟨[(5, .len (v5 ++ [(rd l0 (tn v6)).b, (rd l0 (tn v6)).d]).length)], [.rowed 1 (v5 ++ [(rd l0 (tn v6)).b, (rd l0 (tn v6)).d]).length (Zz (v5 ++ [(rd l0 (tn v6)).b, (rd l0 (tn v6)).d]))], []⟩ [true] (pp (xL (v5.length + 2) (v5 ++ [(rd l0 (tn v6)).b, (rd l0 (tn v6)).d]).length) (pp (xL (v5.length + 2) (v5 ++ [(rd l0 (tn v6)).b, (rd l0 (tn v6)).d]).length) (pp (xS (v5.length + 2) (Zh (Zz v5) 0 v5.length 1 [(ii (rd l0 (tn v6)).b), (ii (rd l0 (tn v6)).d)]) (Zz (v5 ++ [(rd l0 (tn v6)).b, (rd l0 (tn v6)).d]))) (pp (pp (xF (Zh (Zz v5) 0 v5.length 1 [(ii (rd l0 (tn v6)).b), (ii (rd l0 (tn v6)).d)])) nn) (ww o1 (ww o0 (ww o0 (tt k0 nn)))))))))))) (fun k0 => (sl z0w 17 [] ⟨[0], [], rysN1, rysM1⟩ ⟨[], [], []⟩ [false] (pp (fl v5 nn) (tt k0 nn)))))
 | .h1 v5 v7 => (lb (fun k0 => (lo fun o0 => (lo fun o1 => (sl z0w 20 [] ⟨[2], [], rysN1, rysM1⟩ ⟨[(5, .len (v5 ++ [(rd l1 (tn v7)).b, (rd l1 (tn v7)).d]).length)], [.rowed 1 (v5 ++ [(rd l1 (tn v7)).b, (rd l1 (tn v7)).d]).length (Zz (v5 ++ [(rd l1 (tn v7)).b, (rd l1 (tn v7)).d]))], []⟩ [true] (pp (xL (v5.length + 2) (v5 ++ [(rd l1 (tn v7)).b, (rd l1 (tn v7)).d]).length) (pp (xL (v5.length + 2) (v5 ++ [(rd l1 (tn v7)).b, (rd l1 (tn v7)).d]).length) (pp (xS (v5.length + 2) (Zh (Zz v5) 0 v5.length 1 [(ii (rd l1 (tn v7)).b), (ii (rd l1 (tn v7)).d)]) (Zz (v5 ++ [(rd l1 (tn v7)).b, (rd l1 (tn v7)).d]))) (pp (pp (xF (Zh (Zz v5) 0 v5.length 1 [(ii (rd l1 (tn v7)).b), (ii (rd l1 (tn v7)).d)])) nn) (ww o1 (ww o0 (ww o0 (tt k0 nn)))))))))))) (fun k0 => (Vb (sl z0w (C' := ⟨⟨48, 0, true⟩, (Vi prog 136 [1, 1, 1, 1, 0] 1), (Za prog 136 [1, 1, 1, 1, 0] 1), none, (Zy prog 3), ⟨Yb [(46, (.dat v5.length (Zz v5)))], Vq [] 0, 0, [], true⟩, [], .leaf⟩) 13 [] ⟨[], [0], [some [46]], []⟩ ⟨[(46, .frz v5.length v5.length (Zz v5) (Zz v5))], [], []⟩ [false] (pp (xZ (z8r 1 1 0 v5.length v5.length (Zz v5)) v5.length (Zz v5)) (pp (xL v5.length v5.length) (pp (xS v5.length (Zz v5) (Zz v5)) (pp (fl v5 nn) (tt k0 nn)))))) (lo fun o0 => (lr 48 3 [1, 1, 1, 1, 1, 1, 0] 1 3 [(4, (.dat (Kx (cvT v5)).length (Zz (Kx (cvT v5)))))] (sl z0w 3 [] ⟨[], [], [some [4]], []⟩ ⟨[], [], []⟩ [] (pp (pp (xr v5) (xw o0)) nn)))))))
theorem y9j (l0 : List R4) (l1 : List R4) : Xd prog (Zy prog 136) (rysC l0 l1) (Zg prog 136 [(.dat l0.length (Zz l0)), (.dat l1.length (Zz l1))] true []) (z7x l0 l1) := (sl z0w 15 [(3, 1, Zz ([] : List Int))] ⟨[0], [], rysN0, rysM0⟩ ⟨[(5, .grow 0 1)], [], []⟩ [] (pp (fl ([] : List Int) nn) nn))
theorem w5n (l0 : List R4) (l1 : List R4) (n : Nat) (vs : List AVal) (h : Yu (z0e l0 l1) n (z7x l0 l1) = .ret vs) : Ur prog (Zy prog 136) (Zg prog 136 [(.dat l0.length (Zz l0)), (.dat l1.length (Zz l1))] true []) vs := by
 have := Ze (x5n l0 l1) n _ (y9j l0 l1)
 rwa [h] at this
inductive rcutS where
 | h0 (v5 : List Int) (v6 : Int)
 | h1 (v5 : List Int) (v7 : Int)
def v5w (l0 : List R6) (l1 : List R6) : rcutS → Cfg
 | .h0 v5 v6 => ⟨⟨52, 0, true⟩, none, (Za prog 114 [1, 1, 0, 1, 0, 0] 0), none, (Zy prog 3), ⟨Yb [(0, (.dat l0.length (Zz l0))), (1, (.dat l1.length (Zz l1))), (5, (.sla 0 1 0 v5.length (.un 1))), (6, (ii v6))], Vq [⟨rows v5.length (Zz v5), 3, some ⟨1, v5.length, (Zz v5)⟩⟩] 0, 1, [], true⟩, [], .leaf⟩
 | .h1 v5 v7 => ⟨⟨52, 0, true⟩, none, (Za prog 114 [1, 1, 1, 0, 1, 0, 0] 0), none, (Zy prog 3), ⟨Yb [(1, (.dat l1.length (Zz l1))), (5, (.sla 0 1 0 v5.length (.un 1))), (7, (ii v7))], Vq [⟨rows v5.length (Zz v5), 3, some ⟨1, v5.length, (Zz v5)⟩⟩] 0, 1, [], true⟩, [], .leaf⟩
def v1t : List (Option (List Nat)) := [some [0, 1, 5, 6]]
def v1v : List (Option (List Nat)) := []
def v1s : List (Option (List Nat)) := [some [1, 5, 7]]
def v1u : List (Option (List Nat)) := []
def Jc (l0 : List R6) (l1 : List R6) : rcutS → Xj rcutS
 | .h0 v5 v6 => (bif (decide (v6 < (l0.length : Int))) then (bif ((decide (0 ≤ v6 ∧ v6 < (l0.length : Int))) && true) then (bif (Nat.beq 1 1 && ((decide (0 + v5.length = v5.length)) && decide ((v5.length + 2 + 1) * (8 + 1) ≤ Kd))) then (.to (.h0 (v5 ++ [(rd l0 v6.toNat).c, (rd l0 v6.toNat).f]) (IntKind.wrap .i64 (v6 + 1)))) else .stuck) else .stuck) else (.to (.h1 v5 0)))
 | .h1 v5 v7 => (bif (decide (v7 < (l1.length : Int))) then (bif ((decide (0 ≤ v7 ∧ v7 < (l1.length : Int))) && true) then (bif (Nat.beq 1 1 && ((decide (0 + v5.length = v5.length)) && decide ((v5.length + 2 + 1) * (8 + 1) ≤ Kd))) then (.to (.h1 (v5 ++ [(rd l1 v7.toNat).c, (rd l1 v7.toNat).f]) (IntKind.wrap .i64 (v7 + 1)))) else .stuck) else .stuck) else (bif (Vg (cvT v5)) then (.ret [(.dat (Kx (cvT v5)).length (Zz (Kx (cvT v5))))]) else .stuck))
def z4i (l0 : List R6) (l1 : List R6) : Xj rcutS := (.to (.h0 ([] : List Int) 0))
theorem x0f (l0 : List R6) (l1 : List R6) : ∀ s, Xd prog (Zy prog 114) (v5w l0 l1) (v5w l0 l1 s) (Jc l0 l1 s)
 | .h0 v5 v6 => (lb (fun k0 => (lo fun o0 => (lo fun o1 => (sl z0w 20 [] ⟨[2], [], v1t, v1v⟩ ⟨[(5, .len (v5 ++ [(rd l0 (tn v6)).c, (rd l0 (tn v6)).f]).length)], [.rowed 1 (v5 ++ [(rd l0 (tn v6)).c, (rd l0 (tn v6)).f]).length (Zz (v5 ++ [(rd l0 (tn v6)).c, (rd l0 (tn v6)).f]))], []⟩ [true] (pp (xL (v5.length + 2) (v5 ++ [(rd l0 (tn v6)).c, (rd l0 (tn v6)).f]).length) (pp (xL (v5.length + 2) (v5 ++ [(rd l0 (tn v6)).c, (rd l0 (tn v6)).f]).length) (pp (xS (v5.length + 2) (Zh (Zz v5) 0 v5.length 1 [(ii (rd l0 (tn v6)).c), (ii (rd l0 (tn v6)).f)]) (Zz (v5 ++ [(rd l0 (tn v6)).c, (rd l0 (tn v6)).f]))) (pp (pp (xF (Zh (Zz v5) 0 v5.length 1 [(ii (rd l0 (tn v6)).c), (ii (rd l0 (tn v6)).f)])) nn) (ww o1 (ww o0 (ww o0 (tt k0 nn)))))))))))) (fun k0 => (sl z0w 17 [] ⟨[0], [], v1s, v1u⟩ ⟨[], [], []⟩ [false] (pp (fl v5 nn) (tt k0 nn)))))
 | .h1 v5 v7 => (lb (fun k0 => (lo fun o0 => (lo fun o1 => (sl z0w 20 [] ⟨[2], [], v1s, v1u⟩ ⟨[(5, .len (v5 ++ [(rd l1 (tn v7)).c, (rd l1 (tn v7)).f]).length)], [.rowed 1 (v5 ++ [(rd l1 (tn v7)).c, (rd l1 (tn v7)).f]).length (Zz (v5 ++ [(rd l1 (tn v7)).c, (rd l1 (tn v7)).f]))], []⟩ [true] (pp (xL (v5.length + 2) (v5 ++ [(rd l1 (tn v7)).c, (rd l1 (tn v7)).f]).length) (pp (xL (v5.length + 2) (v5 ++ [(rd l1 (tn v7)).c, (rd l1 (tn v7)).f]).length) (pp (xS (v5.length + 2) (Zh (Zz v5) 0 v5.length 1 [(ii (rd l1 (tn v7)).c), (ii (rd l1 (tn v7)).f)]) (Zz (v5 ++ [(rd l1 (tn v7)).c, (rd l1 (tn v7)).f]))) (pp (pp (xF (Zh (Zz v5) 0 v5.length 1 [(ii (rd l1 (tn v7)).c), (ii (rd l1 (tn v7)).f)])) nn) (ww o1 (ww o0 (ww o0 (tt k0 nn)))))))))))) (fun k0 => (Vb (sl z0w (C' := ⟨⟨52, 0, true⟩, (Vi prog 114 [1, 1, 1, 1, 0] 1), (Za prog 114 [1, 1, 1, 1, 0] 1), none, (Zy prog 3), ⟨Yb [(50, (.dat v5.length (Zz v5)))], Vq [] 0, 0, [], true⟩, [], .leaf⟩) 13 [] ⟨[], [0], [some [50]], []⟩ ⟨[(50, .frz v5.length v5.length (Zz v5) (Zz v5))], [], []⟩ [false] (pp (xZ (z8r 1 1 0 v5.length v5.length (Zz v5)) v5.length (Zz v5)) (pp (xL v5.length v5.length) (pp (xS v5.length (Zz v5) (Zz v5)) (pp (fl v5 nn) (tt k0 nn)))))) (lo fun o0 => (lr 52 3 [1, 1, 1, 1, 1, 1, 0] 1 3 [(4, (.dat (Kx (cvT v5)).length (Zz (Kx (cvT v5)))))] (sl z0w 3 [] ⟨[], [], [some [4]], []⟩ ⟨[], [], []⟩ [] (pp (pp (xr v5) (xw o0)) nn)))))))
theorem y6f (l0 : List R6) (l1 : List R6) : Xd prog (Zy prog 114) (v5w l0 l1) (Zg prog 114 [(.dat l0.length (Zz l0)), (.dat l1.length (Zz l1))] true []) (z4i l0 l1) := (sl z0w 15 [(3, 1, Zz ([] : List Int))] ⟨[0], [], v1t, v1v⟩ ⟨[(5, .grow 0 1)], [], []⟩ [] (pp (fl ([] : List Int) nn) nn))
theorem w0p (l0 : List R6) (l1 : List R6) (n : Nat) (vs : List AVal) (h : Yu (Jc l0 l1) n (z4i l0 l1) = .ret vs) : Ur prog (Zy prog 114) (Zg prog 114 [(.dat l0.length (Zz l0)), (.dat l1.length (Zz l1))] true []) vs := by
 have := Ze (x0f l0 l1) n _ (y6f l0 l1)
 rwa [h] at this
end Go.Am
namespace Go.Am
open Go.Proofs.Tryz
open Go.Proofs
def z0a (l : List R4) : List Int := l.flatMap fun r => [r.a, r.c]
def Qa (l : List R4) : List Int := l.flatMap fun r => [r.b, r.d]
def Qt (l : List R6) : List Int := l.flatMap fun r => [r.c, r.f]
def xsV (l m : List R4) : List Int := Kx (z0a l ++ z0a m)
def z7o (l m : List R4) : Bool := decide (l.length ≤ 10000 ∧ m.length ≤ 10000)
theorem Kr (l : List R4) : (z0a l).length = 2 * l.length := by
 induction l with
 | nil => rfl
 | cons r l ih => show (_ :: _ :: z0a l).length = _; simp only [List.length_cons, ih]; omega
theorem y2e (l : List R4) (i : Nat) (h : i < l.length) : z0a (l.drop i) = z0a [rd l i] ++ z0a (l.drop (i + 1)) := by
 rw [Yg h]; rfl
theorem v0u (l m : List R4) (hl : l.length ≤ 10000) (hm : m.length ≤ 10000) : ∀ (k i : Nat) (out : List Int), i + k = m.length → out.length = 2 * l.length + 2 * i → ∃ N, Yu (z0f l m) N (.to (.h1 out (i : Int))) = .ret [.dat (Kx (out ++ z0a (m.drop i))).length (Zz (Kx (out ++ z0a (m.drop i))))]
 | 0, i, out, h, ho => by
  refine ⟨1, ?_⟩
  have hw : Vg out = true := decide_eq_true (by omega)
  rw [Zw, List.drop_eq_nil_of_le (show m.length ≤ i by omega), show z0a [] = [] from rfl, List.append_nil]
  simp (disch := omega) only [z0f, Yo, Yn, Yv, Zs, Xx, Yd, Yp, Yf, Yj, Zj, Zt, Ke, Kf, decide_true, Zv, Zf, Zd, Yi, Zk, Nat.zero_add, Bool.and_true, Bool.true_and, cond_true, cond_false, Bool.not_true, Bool.not_false, Zm, Zc, Zp, Wi, Xu, hw]
 | k + 1, i, out, h, ho => by
  obtain ⟨N, hN⟩ := v0u l m hl hm k (i + 1) (out ++ z0a [rd m i]) (by omega) (by rw [List.length_append, Kr]; simp; omega)
  refine ⟨N + 1, ?_⟩
  rw [y2e m i (by omega), ← List.append_assoc, Zw]
  simp (disch := omega) only [z0f, Yo, Yn, Yv, Zs, Xx, Yd, Yp, Yf, Yj, Zj, Zt, Ke, Kf, decide_true, Zv, Zf, Zd, Yi, Zk, Nat.zero_add, Bool.and_true, Bool.true_and, cond_true, cond_false, Bool.not_true, Bool.not_false, Zm, Zc, Zp, Wi, Xu]
  exact hN
theorem v0v (l m : List R4) (hl : l.length ≤ 10000) (hm : m.length ≤ 10000) : ∀ (k i : Nat) (out : List Int), i + k = l.length → out.length = 2 * i → ∃ N, Yu (z0f l m) N (.to (.h0 out (i : Int))) = .ret [.dat (Kx (out ++ z0a (l.drop i) ++ z0a m)).length (Zz (Kx (out ++ z0a (l.drop i) ++ z0a m)))]
 | 0, i, out, h, ho => by
  obtain ⟨N, hN⟩ := v0u l m hl hm m.length 0 out (Nat.zero_add _) (by omega)
  refine ⟨N + 1, ?_⟩
  rw [Zw, List.drop_eq_nil_of_le (show l.length ≤ i by omega), show z0a [] = [] from rfl, List.append_nil]
  simp (disch := omega) only [z0f, Yo, Yn, Yv, Zs, Xx, Yd, Yp, Yf, Yj, Zj, Zt, Ke, Kf, decide_true, Zv, Zf, Zd, Yi, Zk, Nat.zero_add, Bool.and_true, Bool.true_and, cond_true, cond_false, Bool.not_true, Bool.not_false, Zm, Zc, Zp, Wi, Xu]
  exact hN
 | k + 1, i, out, h, ho => by
  obtain ⟨N, hN⟩ := v0v l m hl hm k (i + 1) (out ++ z0a [rd l i]) (by omega) (by rw [List.length_append, Kr]; simp; omega)
  refine ⟨N + 1, ?_⟩
  rw [y2e l i (by omega), ← List.append_assoc, Zw]
  simp (disch := omega) only [z0f, Yo, Yn, Yv, Zs, Xx, Yd, Yp, Yf, Yj, Zj, Zt, Ke, Kf, decide_true, Zv, Zf, Zd, Yi, Zk, Nat.zero_add, Bool.and_true, Bool.true_and, cond_true, cond_false, Bool.not_true, Bool.not_false, Zm, Zc, Zp, Wi, Xu]
  exact hN
theorem v4w (l m : List R4) (h : z7o l m = true) : ∃ N, Yu (z0f l m) N (z7y l m) = .ret [.dat (xsV l m).length (Zz (xsV l m))] := by
 obtain ⟨h1, h2⟩ := of_decide_eq_true h
 have := v0v l m h1 h2 l.length 0 [] (Nat.zero_add _) rfl
 simpa [z7y, xsV] using this
def ysV (l m : List R4) : List Int := Kx (Qa l ++ Qa m)
def z7n (l m : List R4) : Bool := decide (l.length ≤ 10000 ∧ m.length ≤ 10000)
theorem Ko (l : List R4) : (Qa l).length = 2 * l.length := by
 induction l with
 | nil => rfl
 | cons r l ih => show (_ :: _ :: Qa l).length = _; simp only [List.length_cons, ih]; omega
theorem y2d (l : List R4) (i : Nat) (h : i < l.length) : Qa (l.drop i) = Qa [rd l i] ++ Qa (l.drop (i + 1)) := by
 rw [Yg h]; rfl
theorem v0s (l m : List R4) (hl : l.length ≤ 10000) (hm : m.length ≤ 10000) : ∀ (k i : Nat) (out : List Int), i + k = m.length → out.length = 2 * l.length + 2 * i → ∃ N, Yu (z0e l m) N (.to (.h1 out (i : Int))) = .ret [.dat (Kx (out ++ Qa (m.drop i))).length (Zz (Kx (out ++ Qa (m.drop i))))]
 | 0, i, out, h, ho => by
  refine ⟨1, ?_⟩
  have hw : Vg out = true := decide_eq_true (by omega)
  rw [Zw, List.drop_eq_nil_of_le (show m.length ≤ i by omega), show Qa [] = [] from rfl, List.append_nil]
  simp (disch := omega) only [z0e, Yo, Yn, Yv, Zs, Xx, Yd, Yp, Yf, Yj, Zj, Zt, Ke, Kf, decide_true, Zv, Zf, Zd, Yi, Zk, Nat.zero_add, Bool.and_true, Bool.true_and, cond_true, cond_false, Bool.not_true, Bool.not_false, Zm, Zc, Zp, Wi, Xu, hw]
 | k + 1, i, out, h, ho => by
  obtain ⟨N, hN⟩ := v0s l m hl hm k (i + 1) (out ++ Qa [rd m i]) (by omega) (by rw [List.length_append, Ko]; simp; omega)
  refine ⟨N + 1, ?_⟩
  rw [y2d m i (by omega), ← List.append_assoc, Zw]
  simp (disch := omega) only [z0e, Yo, Yn, Yv, Zs, Xx, Yd, Yp, Yf, Yj, Zj, Zt, Ke, Kf, decide_true, Zv, Zf, Zd, Yi, Zk, Nat.zero_add, Bool.and_true, Bool.true_and, cond_true, cond_false, Bool.not_true, Bool.not_false, Zm, Zc, Zp, Wi, Xu]
  exact hN
theorem v0t (l m : List R4) (hl : l.length ≤ 10000) (hm : m.length ≤ 10000) : ∀ (k i : Nat) (out : List Int), i + k = l.length → out.length = 2 * i → ∃ N, Yu (z0e l m) N (.to (.h0 out (i : Int))) = .ret [.dat (Kx (out ++ Qa (l.drop i) ++ Qa m)).length (Zz (Kx (out ++ Qa (l.drop i) ++ Qa m)))]
 | 0, i, out, h, ho => by
  obtain ⟨N, hN⟩ := v0s l m hl hm m.length 0 out (Nat.zero_add _) (by omega)
  refine ⟨N + 1, ?_⟩
  rw [Zw, List.drop_eq_nil_of_le (show l.length ≤ i by omega), show Qa [] = [] from rfl, List.append_nil]
  simp (disch := omega) only [z0e, Yo, Yn, Yv, Zs, Xx, Yd, Yp, Yf, Yj, Zj, Zt, Ke, Kf, decide_true, Zv, Zf, Zd, Yi, Zk, Nat.zero_add, Bool.and_true, Bool.true_and, cond_true, cond_false, Bool.not_true, Bool.not_false, Zm, Zc, Zp, Wi, Xu]
  exact hN
 | k + 1, i, out, h, ho => by
  obtain ⟨N, hN⟩ := v0t l m hl hm k (i + 1) (out ++ Qa [rd l i]) (by omega) (by rw [List.length_append, Ko]; simp; omega)
  refine ⟨N + 1, ?_⟩
  rw [y2d l i (by omega), ← List.append_assoc, Zw]
  simp (disch := omega) only [z0e, Yo, Yn, Yv, Zs, Xx, Yd, Yp, Yf, Yj, Zj, Zt, Ke, Kf, decide_true, Zv, Zf, Zd, Yi, Zk, Nat.zero_add, Bool.and_true, Bool.true_and, cond_true, cond_false, Bool.not_true, Bool.not_false, Zm, Zc, Zp, Wi, Xu]
  exact hN
theorem v4v (l m : List R4) (h : z7n l m = true) : ∃ N, Yu (z0e l m) N (z7x l m) = .ret [.dat (ysV l m).length (Zz (ysV l m))] := by
 obtain ⟨h1, h2⟩ := of_decide_eq_true h
 have := v0t l m h1 h2 l.length 0 [] (Nat.zero_add _) rfl
 simpa [z7x, ysV] using this
def Ye (l m : List R6) : List Int := Kx (Qt l ++ Qt m)
def z5e (l m : List R6) : Bool := decide (l.length ≤ 10000 ∧ m.length ≤ 10000)
theorem Kn (l : List R6) : (Qt l).length = 2 * l.length := by
 induction l with
 | nil => rfl
 | cons r l ih => show (_ :: _ :: Qt l).length = _; simp only [List.length_cons, ih]; omega
theorem y2a (l : List R6) (i : Nat) (h : i < l.length) : Qt (l.drop i) = Qt [rd l i] ++ Qt (l.drop (i + 1)) := by
 rw [Yg h]; rfl
theorem w0n (l m : List R6) (hl : l.length ≤ 10000) (hm : m.length ≤ 10000) : ∀ (k i : Nat) (out : List Int), i + k = m.length → out.length = 2 * l.length + 2 * i → ∃ N, Yu (Jc l m) N (.to (.h1 out (i : Int))) = .ret [.dat (Kx (out ++ Qt (m.drop i))).length (Zz (Kx (out ++ Qt (m.drop i))))]
 | 0, i, out, h, ho => by
  refine ⟨1, ?_⟩
  have hw : Vg out = true := decide_eq_true (by omega)
  rw [Zw, List.drop_eq_nil_of_le (show m.length ≤ i by omega), show Qt [] = [] from rfl, List.append_nil]
  simp (disch := omega) only [Jc, Yo, Yn, Yv, Zs, Xx, Yd, Yp, Yf, Yj, Zj, Zt, Ke, Kf, decide_true, Zv, Zf, Zd, Yi, Zk, Nat.zero_add, Bool.and_true, Bool.true_and, cond_true, cond_false, Bool.not_true, Bool.not_false, Zm, Zc, Zp, Wi, Xu, hw]
 | k + 1, i, out, h, ho => by
  obtain ⟨N, hN⟩ := w0n l m hl hm k (i + 1) (out ++ Qt [rd m i]) (by omega) (by rw [List.length_append, Kn]; simp; omega)
  refine ⟨N + 1, ?_⟩
  rw [y2a m i (by omega), ← List.append_assoc, Zw]
  simp (disch := omega) only [Jc, Yo, Yn, Yv, Zs, Xx, Yd, Yp, Yf, Yj, Zj, Zt, Ke, Kf, decide_true, Zv, Zf, Zd, Yi, Zk, Nat.zero_add, Bool.and_true, Bool.true_and, cond_true, cond_false, Bool.not_true, Bool.not_false, Zm, Zc, Zp, Wi, Xu]
  exact hN
theorem w0o (l m : List R6) (hl : l.length ≤ 10000) (hm : m.length ≤ 10000) : ∀ (k i : Nat) (out : List Int), i + k = l.length → out.length = 2 * i → ∃ N, Yu (Jc l m) N (.to (.h0 out (i : Int))) = .ret [.dat (Kx (out ++ Qt (l.drop i) ++ Qt m)).length (Zz (Kx (out ++ Qt (l.drop i) ++ Qt m)))]
 | 0, i, out, h, ho => by
  obtain ⟨N, hN⟩ := w0n l m hl hm m.length 0 out (Nat.zero_add _) (by omega)
  refine ⟨N + 1, ?_⟩
  rw [Zw, List.drop_eq_nil_of_le (show l.length ≤ i by omega), show Qt [] = [] from rfl, List.append_nil]
  simp (disch := omega) only [Jc, Yo, Yn, Yv, Zs, Xx, Yd, Yp, Yf, Yj, Zj, Zt, Ke, Kf, decide_true, Zv, Zf, Zd, Yi, Zk, Nat.zero_add, Bool.and_true, Bool.true_and, cond_true, cond_false, Bool.not_true, Bool.not_false, Zm, Zc, Zp, Wi, Xu]
  exact hN
 | k + 1, i, out, h, ho => by
  obtain ⟨N, hN⟩ := w0o l m hl hm k (i + 1) (out ++ Qt [rd l i]) (by omega) (by rw [List.length_append, Kn]; simp; omega)
  refine ⟨N + 1, ?_⟩
  rw [y2a l i (by omega), ← List.append_assoc, Zw]
  simp (disch := omega) only [Jc, Yo, Yn, Yv, Zs, Xx, Yd, Yp, Yf, Yj, Zj, Zt, Ke, Kf, decide_true, Zv, Zf, Zd, Yi, Zk, Nat.zero_add, Bool.and_true, Bool.true_and, cond_true, cond_false, Bool.not_true, Bool.not_false, Zm, Zc, Zp, Wi, Xu]
  exact hN
theorem w6g (l m : List R6) (h : z5e l m = true) : ∃ N, Yu (Jc l m) N (z4i l m) = .ret [.dat (Ye l m).length (Zz (Ye l m))] := by
 obtain ⟨h1, h2⟩ := of_decide_eq_true h
 have := w0o l m h1 h2 l.length 0 [] (Nat.zero_add _) rfl
 simpa [z4i, Ye] using this
def fXs : List AVal → Option (AVal × Bool)
 | [a0, a1] => match asL R4 a0, asL R4 a1 with
  | some (L0, g0, n0), some (L1, g1, n1) => some (.dat (xsV L0 L1).length (Zz (xsV L0 L1)), isT R4 n0 g0 && (isT R4 n1 g1 && (z7o L0 L1)))
  | _, _ => none
 | _ => none
theorem fXs_ok {S : Specs} (hS : Zu prog S) : Zu prog (S.with nXs fXs) := by
 refine z0x hS (by kernel_rfl) fun args v h => ?_
 unfold fXs at h
 split at h
 ·rename_i a0 a1
  split at h
  ·rename_i L0 g0 n0 L1 g1 n1 e0 e1
   simp only [Option.some.injEq, Prod.mk.injEq, Bool.and_eq_true] at h
   obtain ⟨rfl, ho0, ho1, hw⟩ := h
   obtain ⟨N, hN⟩ := v4w L0 L1 hw
   exact ⟨_, _, (.cons (asL_le e0 ho0) (.cons (asL_le e1 ho1) .nil)), rfl, w5o L0 L1 N _ hN, 3, rfl⟩
  ·cases h
 ·cases h
def fYs : List AVal → Option (AVal × Bool)
 | [a0, a1] => match asL R4 a0, asL R4 a1 with
  | some (L0, g0, n0), some (L1, g1, n1) => some (.dat (ysV L0 L1).length (Zz (ysV L0 L1)), isT R4 n0 g0 && (isT R4 n1 g1 && (z7n L0 L1)))
  | _, _ => none
 | _ => none
theorem fYs_ok {S : Specs} (hS : Zu prog S) : Zu prog (S.with nYs fYs) := by
 refine z0x hS (by kernel_rfl) fun args v h => ?_
 unfold fYs at h
 split at h
 ·rename_i a0 a1
  split at h
  ·rename_i L0 g0 n0 L1 g1 n1 e0 e1
   simp only [Option.some.injEq, Prod.mk.injEq, Bool.and_eq_true] at h
   obtain ⟨rfl, ho0, ho1, hw⟩ := h
   obtain ⟨N, hN⟩ := v4v L0 L1 hw
   exact ⟨_, _, (.cons (asL_le e0 ho0) (.cons (asL_le e1 ho1) .nil)), rfl, w5n L0 L1 N _ hN, 3, rfl⟩
  ·cases h
 ·cases h
def v8o : List AVal → Option (AVal × Bool)
 | [a0, a1] => match asL R6 a0, asL R6 a1 with
  | some (L0, g0, n0), some (L1, g1, n1) => some (.dat (Ye L0 L1).length (Zz (Ye L0 L1)), isT R6 n0 g0 && (isT R6 n1 g1 && (z5e L0 L1)))
  | _, _ => none
 | _ => none
theorem w8l {S : Specs} (hS : Zu prog S) : Zu prog (S.with nCuts v8o) := by
 refine z0x hS (by kernel_rfl) fun args v h => ?_
 unfold v8o at h
 split at h
 ·rename_i a0 a1
  split at h
  ·rename_i L0 g0 n0 L1 g1 n1 e0 e1
   simp only [Option.some.injEq, Prod.mk.injEq, Bool.and_eq_true] at h
   obtain ⟨rfl, ho0, ho1, hw⟩ := h
   obtain ⟨N, hN⟩ := w6g L0 L1 hw
   exact ⟨_, _, (.cons (asL_le e0 ho0) (.cons (asL_le e1 ho1) .nil)), rfl, w0p L0 L1 N _ hN, 3, rfl⟩
  ·cases h
 ·cases h
def T2 : Specs := ((T1.with nXs fXs).with nYs fYs).with nCuts v8o
theorem z6k : Zu prog T2 := w8l (fYs_ok (fXs_ok z0w))
end Go.Am
namespace Go.Am
open Go.Proofs.Tryz
open Go.Proofs
inductive rjoS where
 | h0 (v9 : List R4) (v10 : List R2) (v11 : Int) (v12 : Int)
 | h1 (v9 : List R4) (v10 : List R2) (v11 : Int) (v12 : Int) (v13 : List Bool) (v14 : Int)
 | h2 (v9 : List R4) (v10 : List R2) (v11 : Int) (v12 : Int) (v15 : List R2) (v17 : Int)
 | h3 (v9 : List R4) (v10 : List R2) (v11 : Int) (v12 : Int) (v16 : Int)
def rjoC (x0 : Int) (l1 : List R4) (l2 : List R4) : rjoS → Cfg
 | .h0 v9 v10 v11 v12 => ⟨⟨121, 0, true⟩, none, (Za prog 115 [1, 1, 1, 1, 1, 0, 1, 0, 0] 0), none, (Zy prog 4), ⟨Yb [(0, (ii x0)), (1, (.dat l1.length (Zz l1))), (2, (.dat l2.length (Zz l2))), (7, (.dat (xsV (cvT l1) (cvT l2)).length (Zz (xsV (cvT l1) (cvT l2))))), (8, (.dat (ysV (cvT l1) (cvT l2)).length (Zz (ysV (cvT l1) (cvT l2))))), (9, (.sla 0 4 0 v9.length (.un 4))), (10, (.dat v10.length (Zz v10))), (11, (ii v11)), (12, (ii v12))], Vq [⟨rows v9.length (Zz v9), 114, some ⟨4, v9.length, (Zz v9)⟩⟩] 0, 1, [], true⟩, [], .leaf⟩
 | .h1 v9 v10 v11 v12 v13 v14 => ⟨⟨121, 0, true⟩, none, (Za prog 115 [1, 1, 1, 1, 1, 0, 1, 0, 0, 1, 0, 0, 1, 0, 1, 0, 0] 0), none, (Zy prog 4), ⟨Yb [(0, (ii x0)), (1, (.dat l1.length (Zz l1))), (2, (.dat l2.length (Zz l2))), (7, (.dat (xsV (cvT l1) (cvT l2)).length (Zz (xsV (cvT l1) (cvT l2))))), (8, (.dat (ysV (cvT l1) (cvT l2)).length (Zz (ysV (cvT l1) (cvT l2))))), (9, (.sla 1 4 0 v9.length (.un 4))), (10, (.dat v10.length (Zz v10))), (11, (ii v11)), (12, (ii v12)), (13, (.sla 0 1 0 v13.length (.un 1))), (14, (ii v14))], Vq [⟨rows v13.length (Zz v13), 4, some ⟨1, v13.length, (Zz v13)⟩⟩, ⟨rows v9.length (Zz v9), 114, some ⟨4, v9.length, (Zz v9)⟩⟩] 0, 2, [], true⟩, [], .leaf⟩
 | .h2 v9 v10 v11 v12 v15 v17 => ⟨⟨121, 0, true⟩, none, (Za prog 115 [1, 1, 1, 1, 1, 0, 1, 0, 0, 1, 0, 0, 1, 1, 1, 1, 1, 1, 0, 0] 0), none, (Zy prog 4), ⟨Yb [(0, (ii x0)), (1, (.dat l1.length (Zz l1))), (2, (.dat l2.length (Zz l2))), (7, (.dat (xsV (cvT l1) (cvT l2)).length (Zz (xsV (cvT l1) (cvT l2))))), (8, (.dat (ysV (cvT l1) (cvT l2)).length (Zz (ysV (cvT l1) (cvT l2))))), (9, (.sla 0 4 0 v9.length (.un 4))), (10, (.dat v10.length (Zz v10))), (11, (ii v11)), (12, (ii v12)), (15, (.dat v15.length (Zz v15))), (17, (ii v17))], Vq [⟨rows v9.length (Zz v9), 114, some ⟨4, v9.length, (Zz v9)⟩⟩] 0, 1, [], true⟩, [], .leaf⟩
 | .h3 v9 v10 v11 v12 v16 => ⟨⟨121, 0, true⟩, none, (Za prog 115 [1, 1, 1, 1, 1, 0, 1, 0, 0, 1, 0, 0, 1, 1, 1, 0, 1, 0, 0, 1, 0, 0] 0), none, (Zy prog 4), ⟨Yb [(0, (ii x0)), (1, (.dat l1.length (Zz l1))), (2, (.dat l2.length (Zz l2))), (7, (.dat (xsV (cvT l1) (cvT l2)).length (Zz (xsV (cvT l1) (cvT l2))))), (8, (.dat (ysV (cvT l1) (cvT l2)).length (Zz (ysV (cvT l1) (cvT l2))))), (9, (.sla 0 4 0 v9.length (.un 4))), (10, (.dat v10.length (Zz v10))), (11, (ii v11)), (12, (ii v12)), (16, (ii v16))], Vq [⟨rows v9.length (Zz v9), 114, some ⟨4, v9.length, (Zz v9)⟩⟩] 0, 1, [], true⟩, [], .leaf⟩
def v5p : List (Option (List Nat)) := [some [0, 1, 2, 7, 8, 9, 10, 11, 12]]
def v5r : List (Option (List Nat)) := []
def rjoN1 : List (Option (List Nat)) := [some [0, 1, 2, 7, 8, 9, 10, 11, 12, 13, 14]]
def rjoM1 : List (Option (List Nat)) := []
def v5o : List (Option (List Nat)) := [some [0, 1, 2, 7, 8, 9, 10, 11, 12, 15, 17]]
def v5q : List (Option (List Nat)) := []
def rjoN3 : List (Option (List Nat)) := [some [0, 1, 2, 7, 8, 9, 10, 11, 12, 16]]
def rjoM3 : List (Option (List Nat)) := []
def Wq (x0 : Int) (l1 : List R4) (l2 : List R4) : rjoS → Xj rjoS
 | .h0 v9 v10 v11 v12 => (bif (decide ((IntKind.wrap .i64 (v12 + 1)) < (((xsV (cvT l1) (cvT l2)).length : Nat) : Int))) then (.to (.h1 v9 v10 v11 v12 ([] : List Bool) 0)) else (.ret [(.dat v9.length (Zz v9))]))
 | .h1 v9 v10 v11 v12 v13 v14 => (bif (decide (v14 < (((ysV (cvT l1) (cvT l2)).length : Nat) : Int))) then (bif (Ky (cvT l1) (rd (xsV (cvT l1) (cvT l2)) v12.toNat) (rd (ysV (cvT l1) (cvT l2)) v14.toNat)) then (bif ((decide (0 ≤ v12 ∧ v12 < (((xsV (cvT l1) (cvT l2)).length : Nat) : Int))) && true) then (bif ((decide (0 ≤ v14 ∧ v14 < (((ysV (cvT l1) (cvT l2)).length : Nat) : Int))) && true) then (bif (Ky (cvT l2) (rd (xsV (cvT l1) (cvT l2)) v12.toNat) (rd (ysV (cvT l1) (cvT l2)) v14.toNat)) then (bif (Nat.beq 1 1 && ((decide (0 + v13.length = v13.length)) && decide ((v13.length + 1 + 1) * (1 + 1) ≤ Kd))) then (.to (.h1 v9 v10 v11 v12 (v13 ++ [(Kg x0 (has4V (cvT l1) (rd (xsV (cvT l1) (cvT l2)) v12.toNat) (rd (ysV (cvT l1) (cvT l2)) v14.toNat)) (has4V (cvT l2) (rd (xsV (cvT l1) (cvT l2)) v12.toNat) (rd (ysV (cvT l1) (cvT l2)) v14.toNat)))]) (IntKind.wrap .i64 (v14 + 1)))) else .stuck) else .stuck) else .stuck) else .stuck) else .stuck) else (bif (z5g (cvT (ysV (cvT l1) (cvT l2))) (cvT v13)) then (bif (decide (v12 > 0)) then (bif (Vh (cvT (z7g (cvT (ysV (cvT l1) (cvT l2))) (cvT v13))) (cvT v10)) then (bif (Ks (cvT (z7g (cvT (ysV (cvT l1) (cvT l2))) (cvT v13))) (cvT v10)) then (.to (.h3 v9 v10 v11 v12 v11)) else (.to (.h2 v9 (z7g (cvT (ysV (cvT l1) (cvT l2))) (cvT v13)) (v9.length : Int) v12 (z7g (cvT (ysV (cvT l1) (cvT l2))) (cvT v13)) 0))) else .stuck) else (.to (.h2 v9 (z7g (cvT (ysV (cvT l1) (cvT l2))) (cvT v13)) (v9.length : Int) v12 (z7g (cvT (ysV (cvT l1) (cvT l2))) (cvT v13)) 0))) else .stuck))
 | .h2 v9 v10 v11 v12 v15 v17 => (bif (decide (v17 < (v15.length : Int))) then (bif ((decide (0 ≤ v12 ∧ v12 < (((xsV (cvT l1) (cvT l2)).length : Nat) : Int))) && true) then (bif ((decide (0 ≤ (IntKind.wrap .i64 (v12 + 1)) ∧ (IntKind.wrap .i64 (v12 + 1)) < (((xsV (cvT l1) (cvT l2)).length : Nat) : Int))) && true) then (bif ((decide (0 ≤ v17 ∧ v17 < (v15.length : Int))) && true) then (bif (Nat.beq 4 4 && ((decide (0 + v9.length = v9.length)) && decide ((v9.length + 1 + 1) * (32 + 1) ≤ Kd))) then (.to (.h2 (v9 ++ [(R4.mk (rd (xsV (cvT l1) (cvT l2)) v12.toNat) (rd v15 v17.toNat).a (rd (xsV (cvT l1) (cvT l2)) (Int.toNat (IntKind.wrap .i64 (v12 + 1)))) (rd v15 v17.toNat).b)]) v10 v11 v12 v15 (IntKind.wrap .i64 (v17 + 1)))) else .stuck) else .stuck) else .stuck) else .stuck) else (.to (.h0 v9 v10 v11 (IntKind.wrap .i64 (v12 + 1)))))
 | .h3 v9 v10 v11 v12 v16 => (bif (decide (v16 < (v9.length : Int))) then (bif ((decide (0 ≤ (IntKind.wrap .i64 (v12 + 1)) ∧ (IntKind.wrap .i64 (v12 + 1)) < (((xsV (cvT l1) (cvT l2)).length : Nat) : Int))) && true) then (bif ((decide (0 ≤ v16 ∧ v16 < (v9.length : Int))) && true) then (bif (decide ((0 + v16.toNat) < v9.length)) then (.to (.h3 (v9.set (0 + v16.toNat) (R4.mk (rd v9 (0 + v16.toNat)).a (rd v9 (0 + v16.toNat)).b (rd (xsV (cvT l1) (cvT l2)) (Int.toNat (IntKind.wrap .i64 (v12 + 1)))) (rd v9 (0 + v16.toNat)).d)) v10 v11 v12 (IntKind.wrap .i64 (v16 + 1)))) else .stuck) else .stuck) else .stuck) else (.to (.h0 v9 v10 v11 (IntKind.wrap .i64 (v12 + 1)))))
def z8g (x0 : Int) (l1 : List R4) (l2 : List R4) : Xj rjoS := (bif (z7o (cvT l1) (cvT l2)) then (bif (z7n (cvT l1) (cvT l2)) then (.to (.h0 ([] : List R4) ([] : List R2) 0 0)) else .stuck) else .stuck)
theorem x5z (x0 : Int) (l1 : List R4) (l2 : List R4) : ∀ s, Xd prog (Zy prog 115) (rjoC x0 l1 l2) (rjoC x0 l1 l2 s) (Wq x0 l1 l2 s)
 | .h0 v9 v10 v11 v12 => (lb (fun k0 => (sl z6k 24 [(4, 1, Zz ([] : List Bool))] ⟨[1, 0], [], rjoN1, rjoM1⟩ ⟨[(13, .grow 0 1)], [], []⟩ [true] (pp (fl ([] : List Bool) (fl v9 nn)) (tt k0 nn)))) (fun k0 => (lr 121 3 [1, 1, 1, 1, 1, 1, 0] 1 4 [(6, (.dat v9.length (Zz v9)))] (sl z6k 16 [] ⟨[], [0], [some [6]], []⟩ ⟨[(6, .frz v9.length v9.length (Zz v9) (Zz v9))], [], []⟩ [false] (pp (xZ (z8r 4 4 0 v9.length v9.length (Zz v9)) v9.length (Zz v9)) (pp (xL v9.length v9.length) (pp (xS v9.length (Zz v9) (Zz v9)) (pp (fl v9 nn) (tt k0 nn)))))))))
 | .h1 v9 v10 v11 v12 v13 v14 => (lb (fun k0 => (lo fun o0 => (lo fun o1 => (lo fun o2 => (lo fun o3 => (lo fun o4 => (sl z6k 20 [] ⟨[3, 1], [], rjoN1, rjoM1⟩ ⟨[(13, .len (v13 ++ [(Kg x0 (has4V (cvT l1) (rd (xsV (cvT l1) (cvT l2)) (tn v12)) (rd (ysV (cvT l1) (cvT l2)) (tn v14))) (has4V (cvT l2) (rd (xsV (cvT l1) (cvT l2)) (tn v12)) (rd (ysV (cvT l1) (cvT l2)) (tn v14))))]).length)], [.rowed 1 (v13 ++ [(Kg x0 (has4V (cvT l1) (rd (xsV (cvT l1) (cvT l2)) (tn v12)) (rd (ysV (cvT l1) (cvT l2)) (tn v14))) (has4V (cvT l2) (rd (xsV (cvT l1) (cvT l2)) (tn v12)) (rd (ysV (cvT l1) (cvT l2)) (tn v14))))]).length (Zz (v13 ++ [(Kg x0 (has4V (cvT l1) (rd (xsV (cvT l1) (cvT l2)) (tn v12)) (rd (ysV (cvT l1) (cvT l2)) (tn v14))) (has4V (cvT l2) (rd (xsV (cvT l1) (cvT l2)) (tn v12)) (rd (ysV (cvT l1) (cvT l2)) (tn v14))))])), .keep], []⟩ [true] (pp (xL (v13.length + 1) (v13 ++ [(Kg x0 (has4V (cvT l1) (rd (xsV (cvT l1) (cvT l2)) (tn v12)) (rd (ysV (cvT l1) (cvT l2)) (tn v14))) (has4V (cvT l2) (rd (xsV (cvT l1) (cvT l2)) (tn v12)) (rd (ysV (cvT l1) (cvT l2)) (tn v14))))]).length) (pp (xL (v13.length + 1) (v13 ++ [(Kg x0 (has4V (cvT l1) (rd (xsV (cvT l1) (cvT l2)) (tn v12)) (rd (ysV (cvT l1) (cvT l2)) (tn v14))) (has4V (cvT l2) (rd (xsV (cvT l1) (cvT l2)) (tn v12)) (rd (ysV (cvT l1) (cvT l2)) (tn v14))))]).length) (pp (xS (v13.length + 1) (Zh (Zz v13) 0 v13.length 1 [(.bool (Kg x0 (has4V (cvT l1) (rd (xsV (cvT l1) (cvT l2)) (tn v12)) (rd (ysV (cvT l1) (cvT l2)) (tn v14))) (has4V (cvT l2) (rd (xsV (cvT l1) (cvT l2)) (tn v12)) (rd (ysV (cvT l1) (cvT l2)) (tn v14)))))]) (Zz (v13 ++ [(Kg x0 (has4V (cvT l1) (rd (xsV (cvT l1) (cvT l2)) (tn v12)) (rd (ysV (cvT l1) (cvT l2)) (tn v14))) (has4V (cvT l2) (rd (xsV (cvT l1) (cvT l2)) (tn v12)) (rd (ysV (cvT l1) (cvT l2)) (tn v14))))]))) (pp (pp (xF (Zh (Zz v13) 0 v13.length 1 [(.bool (Kg x0 (has4V (cvT l1) (rd (xsV (cvT l1) (cvT l2)) (tn v12)) (rd (ysV (cvT l1) (cvT l2)) (tn v14))) (has4V (cvT l2) (rd (xsV (cvT l1) (cvT l2)) (tn v12)) (rd (ysV (cvT l1) (cvT l2)) (tn v14)))))])) (fl v9 nn)) (ww o4 (pp (pp (xr l2) (xw o3)) (ww o2 (ww o1 (pp (pp (xr l1) (xw o0)) (ww o2 (ww o1 (tt k0 nn))))))))))))))))))) (fun k0 => (Vb (sl z6k (C' := ⟨⟨121, 0, true⟩, (Vi prog 115 [1, 1, 1, 1, 1, 0, 1, 0, 0, 1, 0, 0, 1, 1, 0] 2), (Za prog 115 [1, 1, 1, 1, 1, 0, 1, 0, 0, 1, 0, 0, 1, 1, 0] 1), none, (Zy prog 4), ⟨Yb [(0, (ii x0)), (1, (.dat l1.length (Zz l1))), (2, (.dat l2.length (Zz l2))), (7, (.dat (xsV (cvT l1) (cvT l2)).length (Zz (xsV (cvT l1) (cvT l2))))), (8, (.dat (ysV (cvT l1) (cvT l2)).length (Zz (ysV (cvT l1) (cvT l2))))), (9, (.sla 0 4 0 v9.length (.un 4))), (10, (.dat v10.length (Zz v10))), (11, (ii v11)), (12, (ii v12)), (62, (.dat (ysV (cvT l1) (cvT l2)).length (Zz (ysV (cvT l1) (cvT l2))))), (63, (.dat v13.length (Zz v13)))], Vq [⟨rows v9.length (Zz v9), 114, some ⟨4, v9.length, (Zz v9)⟩⟩] 0, 1, [], true⟩, [], .leaf⟩) 14 [] ⟨[1], [0], [some [0, 1, 2, 7, 8, 9, 10, 11, 12, 62, 63]], []⟩ ⟨[(63, .frz v13.length v13.length (Zz v13) (Zz v13))], [], []⟩ [false] (pp (xZ (z8r 1 1 0 v13.length v13.length (Zz v13)) v13.length (Zz v13)) (pp (xL v13.length v13.length) (pp (xS v13.length (Zz v13) (Zz v13)) (pp (fl v9 nn) (pp (fl v13 nn) (tt k0 nn))))))) (lo fun aF => (lb (fun k1 => (lo fun cP => (lb (fun k2 => (sl z6k 23 [] ⟨[0], [], rjoN3, rjoM3⟩ ⟨[], [], []⟩ (trs 4 []) (pp (fl v9 nn) (tt k2 (pp (pp (xI R2 (z7g (cvT (ysV (cvT l1) (cvT l2))) (cvT v13)).length (Zz (z7g (cvT (ysV (cvT l1) (cvT l2))) (cvT v13)))) (pp (xr v10) (xw cP))) (tt k1 (pp (pp (xI Int (ysV (cvT l1) (cvT l2)).length (Zz (ysV (cvT l1) (cvT l2)))) (pp (xr v13) (xw aF))) nn))))))) (fun k2 => (sl z6k 30 [] ⟨[0], [], v5o, v5q⟩ ⟨[], [], []⟩ (trs 3 [false]) (pp (fl v9 nn) (tt k2 (pp (pp (xI R2 (z7g (cvT (ysV (cvT l1) (cvT l2))) (cvT v13)).length (Zz (z7g (cvT (ysV (cvT l1) (cvT l2))) (cvT v13)))) (pp (xr v10) (xw cP))) (tt k1 (pp (pp (xI Int (ysV (cvT l1) (cvT l2)).length (Zz (ysV (cvT l1) (cvT l2)))) (pp (xr v13) (xw aF))) nn)))))))))) (fun k1 => (sl z6k 30 [] ⟨[0], [], v5o, v5q⟩ ⟨[], [], []⟩ [false, false, false, false] (pp (fl v9 nn) (tt k1 (pp (pp (xI Int (ysV (cvT l1) (cvT l2)).length (Zz (ysV (cvT l1) (cvT l2)))) (pp (xr v13) (xw aF))) nn))))))))))
 | .h2 v9 v10 v11 v12 v15 v17 => (lb (fun k0 => (lo fun o0 => (lo fun o1 => (lo fun o2 => (lo fun o3 => (sl z6k 20 [] ⟨[2], [], v5o, v5q⟩ ⟨[(9, .len (v9 ++ [(R4.mk (rd (xsV (cvT l1) (cvT l2)) (tn v12)) (rd v15 (tn v17)).a (rd (xsV (cvT l1) (cvT l2)) (tn (wr (v12 + 1)))) (rd v15 (tn v17)).b)]).length)], [.rowed 4 (v9 ++ [(R4.mk (rd (xsV (cvT l1) (cvT l2)) (tn v12)) (rd v15 (tn v17)).a (rd (xsV (cvT l1) (cvT l2)) (tn (wr (v12 + 1)))) (rd v15 (tn v17)).b)]).length (Zz (v9 ++ [(R4.mk (rd (xsV (cvT l1) (cvT l2)) (tn v12)) (rd v15 (tn v17)).a (rd (xsV (cvT l1) (cvT l2)) (tn (wr (v12 + 1)))) (rd v15 (tn v17)).b)]))], []⟩ [true] (pp (xL (v9.length + 1) (v9 ++ [(R4.mk (rd (xsV (cvT l1) (cvT l2)) (tn v12)) (rd v15 (tn v17)).a (rd (xsV (cvT l1) (cvT l2)) (tn (wr (v12 + 1)))) (rd v15 (tn v17)).b)]).length) (pp (xL (v9.length + 1) (v9 ++ [(R4.mk (rd (xsV (cvT l1) (cvT l2)) (tn v12)) (rd v15 (tn v17)).a (rd (xsV (cvT l1) (cvT l2)) (tn (wr (v12 + 1)))) (rd v15 (tn v17)).b)]).length) (pp (xS (v9.length + 1) (Zh (Zz v9) 0 v9.length 4 [(ii (rd (xsV (cvT l1) (cvT l2)) (tn v12))), (ii (rd v15 (tn v17)).a), (ii (rd (xsV (cvT l1) (cvT l2)) (tn (wr (v12 + 1))))), (ii (rd v15 (tn v17)).b)]) (Zz (v9 ++ [(R4.mk (rd (xsV (cvT l1) (cvT l2)) (tn v12)) (rd v15 (tn v17)).a (rd (xsV (cvT l1) (cvT l2)) (tn (wr (v12 + 1)))) (rd v15 (tn v17)).b)]))) (pp (pp (xF (Zh (Zz v9) 0 v9.length 4 [(ii (rd (xsV (cvT l1) (cvT l2)) (tn v12))), (ii (rd v15 (tn v17)).a), (ii (rd (xsV (cvT l1) (cvT l2)) (tn (wr (v12 + 1))))), (ii (rd v15 (tn v17)).b)])) nn) (ww o3 (ww o2 (ww o1 (ww o2 (ww o0 (tt k0 nn)))))))))))))))) (fun k0 => (sl z6k 17 [] ⟨[0], [], v5p, v5r⟩ ⟨[], [], []⟩ [false] (pp (fl v9 nn) (tt k0 nn)))))
 | .h3 v9 v10 v11 v12 v16 => (lb (fun k0 => (lo fun o0 => (lo fun o1 => (lo fun o2 => (sl z6k 31 [] ⟨[0], [], rjoN3, rjoM3⟩ ⟨[(9, .len (v9.set (0 + (tn v16)) (R4.mk (rd v9 (0 + (tn v16))).a (rd v9 (0 + (tn v16))).b (rd (xsV (cvT l1) (cvT l2)) (tn (wr (v12 + 1)))) (rd v9 (0 + (tn v16))).d)).length)], [.rowed 4 (v9.set (0 + (tn v16)) (R4.mk (rd v9 (0 + (tn v16))).a (rd v9 (0 + (tn v16))).b (rd (xsV (cvT l1) (cvT l2)) (tn (wr (v12 + 1)))) (rd v9 (0 + (tn v16))).d)).length (Zz (v9.set (0 + (tn v16)) (R4.mk (rd v9 (0 + (tn v16))).a (rd v9 (0 + (tn v16))).b (rd (xsV (cvT l1) (cvT l2)) (tn (wr (v12 + 1)))) (rd v9 (0 + (tn v16))).d)))], []⟩ [true] (pp (xL v9.length (v9.set (0 + (tn v16)) (R4.mk (rd v9 (0 + (tn v16))).a (rd v9 (0 + (tn v16))).b (rd (xsV (cvT l1) (cvT l2)) (tn (wr (v12 + 1)))) (rd v9 (0 + (tn v16))).d)).length) (pp (xL v9.length (v9.set (0 + (tn v16)) (R4.mk (rd v9 (0 + (tn v16))).a (rd v9 (0 + (tn v16))).b (rd (xsV (cvT l1) (cvT l2)) (tn (wr (v12 + 1)))) (rd v9 (0 + (tn v16))).d)).length) (pp (xS v9.length (Xr (Zz v9) (0 + (tn v16)) 2 [(ii (rd (xsV (cvT l1) (cvT l2)) (tn (wr (v12 + 1)))))]) (Zz (v9.set (0 + (tn v16)) (R4.mk (rd v9 (0 + (tn v16))).a (rd v9 (0 + (tn v16))).b (rd (xsV (cvT l1) (cvT l2)) (tn (wr (v12 + 1)))) (rd v9 (0 + (tn v16))).d)))) (pp (pp (xF (Xr (Zz v9) (0 + (tn v16)) 2 [(ii (rd (xsV (cvT l1) (cvT l2)) (tn (wr (v12 + 1)))))])) nn) (ww o2 (ww o1 (ww o0 (tt k0 nn))))))))))))) (fun k0 => (sl z6k 17 [] ⟨[0], [], v5p, v5r⟩ ⟨[], [], []⟩ [false] (pp (fl v9 nn) (tt k0 nn)))))
theorem y9x (x0 : Int) (l1 : List R4) (l2 : List R4) : Xd prog (Zy prog 115) (rjoC x0 l1 l2) (Zg prog 115 [(.int .i64 x0), (.dat l1.length (Zz l1)), (.dat l2.length (Zz l2))] true []) (z8g x0 l1 l2) := (lo fun o0 => (lo fun o1 => (sl z6k 34 [(114, 4, Zz ([] : List R4))] ⟨[0], [], v5p, v5r⟩ ⟨[(9, .grow 0 4), (10, .list 0 (Zz ([] : List R2)))], [], []⟩ [] (pp (fl ([] : List R4) nn) (pp (pp (xr l1) (pp (xr l2) (xw o1))) (pp (pp (xr l1) (pp (xr l2) (xw o0))) nn))))))
theorem w6a (x0 : Int) (l1 : List R4) (l2 : List R4) (n : Nat) (vs : List AVal) (h : Yu (Wq x0 l1 l2) n (z8g x0 l1 l2) = .ret vs) : Ur prog (Zy prog 115) (Zg prog 115 [(.int .i64 x0), (.dat l1.length (Zz l1)), (.dat l2.length (Zz l2))] true []) vs := by
 have := Ze (x5z x0 l1 l2) n _ (y9x x0 l1 l2)
 rwa [h] at this
end Go.Am
namespace Go.Am
open Go.Proofs
theorem Qn : ∀ (l out : List Int), (l.foldl y0k out).length ≤ out.length + l.length
 | [], out => Nat.le_refl _
 | x :: l, out => Nat.le_trans (Qn l (y0k out x)) (by have := y0j out x; simp; omega)
theorem z0c (l : List Int) : (Kx l).length ≤ l.length := by
 have := Qn l []
 simpa [Kx] using this
theorem y0z (cuts : List Int) (ins : List Bool) : ∀ (k i : Nat) (out : List R2), (x8g cuts ins k i out).length ≤ out.length + k
 | 0, _, out => Nat.le_refl _
 | k + 1, i, out => by
  unfold x8g
  refine Nat.le_trans (y0z cuts ins k (i + 1) _) ?_
  cases rd ins i
  ·simp only [cond_false]; omega
  ·simp only [cond_true]
   cases (decide (0 < out.length) && ((rd out (out.length - 1)).b == rd cuts i)) <;> simp <;> omega
theorem x2i (cuts : List Int) (ins : List Bool) : (z7g cuts ins).length ≤ cuts.length := by
 have := y0z cuts ins (cuts.length - 1) 0 []
 unfold z7g
 simp only [List.length_nil] at this
 omega
section
variable (kind : Int) (l m : List R4)
def w4p (x : Int) (y : Int) : Bool := Kg kind (has4V l x y) (has4V m x y)
def y5q (x : Int) : List R2 := z7g (ysV l m) ((ysV l m).map (w4p kind l m x))
def w4m (out : List R4) (first : Nat) (x : Int) : List R4 := out.take first ++ (out.drop first).map fun r => ⟨r.a, r.b, x, r.d⟩
def v6d (x x' : Int) (s : List R2) : List R4 := s.map fun p => ⟨x, p.a, x', p.b⟩
def jF : Nat → Nat → List R4 → List R2 → Nat → List R4
 | 0, _, out, _, _ => out
 | k + 1, i, out, last, first =>
  bif decide (0 < i) && Ks (y5q kind l m (rd (xsV l m) i)) last then jF k (i + 1) (w4m out first (rd (xsV l m) (i + 1))) last first
  else jF k (i + 1) (out ++ v6d (rd (xsV l m) i) (rd (xsV l m) (i + 1)) (y5q kind l m (rd (xsV l m) i))) (y5q kind l m (rd (xsV l m) i)) out.length
def joV : List R4 := jF kind l m ((xsV l m).length - 1) 0 [] [] 0
end
def Qw (_ : Int) (l m : List R4) : Bool := decide (l.length ≤ 10000 ∧ m.length ≤ 10000)
theorem Uc (l m : List R4) : (xsV l m).length ≤ 2 * l.length + 2 * m.length := by
 refine Nat.le_trans (z0c _) ?_
 rw [List.length_append, Kr, Kr]; omega
theorem y2b (l m : List R4) : (ysV l m).length ≤ 2 * l.length + 2 * m.length := by
 refine Nat.le_trans (z0c _) ?_
 rw [List.length_append, Ko, Ko]; omega
section
variable (kind : Int) (l m : List R4) (hl : l.length ≤ 10000) (hm : m.length ≤ 10000)
include hl hm
theorem v1o (out : List R4) (last : List R2) (first : Int) (i : Nat) (hi : i + 1 < (xsV l m).length) : ∀ (k j : Nat) (acc : List Bool), j + k = (ysV l m).length → acc.length = j →
  ∃ n, ∀ N, Yu (Wq kind l m) (N + n) (.to (.h1 out last first (i : Int) acc (j : Int))) = Yu (Wq kind l m) N (.to (.h1 out last first (i : Int) (acc ++ ((ysV l m).drop j).map (w4p kind l m (rd (xsV l m) i))) ((ysV l m).length : Int)))
 | 0, j, acc, h, ha => by
  refine ⟨0, fun N => ?_⟩
  rw [List.drop_eq_nil_of_le (by omega), List.map_nil, List.append_nil, Nat.add_zero]
  rw [show j = (ysV l m).length by omega]
 | k + 1, j, acc, h, ha => by
  have hx := Uc l m
  have hy := y2b l m
  obtain ⟨n, hn⟩ := v1o out last first i hi k (j + 1) (acc ++ [w4p kind l m (rd (xsV l m) i) (rd (ysV l m) j)]) (by omega) (by simp [ha])
  refine ⟨n + 1, fun N => ?_⟩
  have w1 : ∀ x y, Ky l x y = true := fun x y => decide_eq_true (by omega)
  have w2 : ∀ x y, Ky m x y = true := fun x y => decide_eq_true (by omega)
  rw [Yg (show j < (ysV l m).length by omega), List.map_cons, ← Nat.add_assoc, Zw]
  simp (disch := omega) only [Wq, Zc, Zp, w1, w2, Yv, Yj, Yp, Yf, Zt, Zj, Zv, Yi, Zk, Nat.zero_add, decide_true, Bool.and_true, Bool.true_and, cond_true]
  have := hn N
  rw [List.append_assoc] at this
  exact this
theorem v1n (last : List R2) (first : Int) (i : Nat) (hi : i + 1 < (xsV l m).length) (s : List R2) (hs : s.length ≤ 1000000) : ∀ (k j : Nat) (out : List R4), j + k = s.length → out.length ≤ 10000000000 + j →
  ∃ n, ∀ N, Yu (Wq kind l m) (N + n) (.to (.h2 out last first (i : Int) s (j : Int))) = Yu (Wq kind l m) N (.to (.h0 (out ++ v6d (rd (xsV l m) i) (rd (xsV l m) (i + 1)) (s.drop j)) last first ((i + 1 : Nat) : Int)))
 | 0, j, out, h, ho => by
  have hx := Uc l m
  refine ⟨1, fun N => ?_⟩
  rw [List.drop_eq_nil_of_le (by omega), Zw]
  simp (disch := omega) only [Wq, Zc, Zp, Zs, Zj, Zv, cond_false, v6d, List.map_nil, List.append_nil]
 | k + 1, j, out, h, ho => by
  have hx := Uc l m
  obtain ⟨n, hn⟩ := v1n last first i hi s hs k (j + 1) (out ++ v6d (rd (xsV l m) i) (rd (xsV l m) (i + 1)) [rd s j]) (by omega) (by simp [v6d]; omega)
  refine ⟨n + 1, fun N => ?_⟩
  have := hn N
  rw [Yg (show j < s.length by omega), ← Nat.add_assoc, Zw]
  simp (disch := omega) only [Wq, Zc, Zp, Yv, Yj, Yp, Yf, Zt, Zj, Zv, Yi, Zk, Nat.zero_add, decide_true, Bool.and_true, Bool.true_and, cond_true]
  rw [List.append_assoc] at this
  exact this
theorem w8n (out : List R4) (j : Nat) (x : Int) (h : j < out.length) : w4m (out.set j ⟨(rd out j).a, (rd out j).b, x, (rd out j).d⟩) (j + 1) x = w4m out j x := by
 have _uhl := hl
 have _uhm := hm
 unfold w4m
 rw [Yg h, List.map_cons]
 have e1 : (out.set j ⟨(rd out j).a, (rd out j).b, x, (rd out j).d⟩).take (j + 1) = out.take j ++ [⟨(rd out j).a, (rd out j).b, x, (rd out j).d⟩] := by
  apply List.ext_getElem
  ·simp; omega
  ·intro n h1 h2
   simp only [List.getElem_take, List.getElem_set]
   by_cases e : j = n
   ·subst e
    rw [if_pos rfl, List.getElem_append_right (by simp only [List.length_take]; omega)]
    simp
   ·rw [if_neg e, List.getElem_append_left (by simp at h1 ⊢; omega), List.getElem_take]
 have e2 : (out.set j ⟨(rd out j).a, (rd out j).b, x, (rd out j).d⟩).drop (j + 1) = out.drop (j + 1) := by
  rw [List.drop_set]; rw [if_pos (by omega)]
 rw [e1, e2, List.append_assoc]; rfl
theorem v1m (last : List R2) (first : Int) (i : Nat) (hi : i + 1 < (xsV l m).length) : ∀ (k j : Nat) (out : List R4), j + k = out.length → out.length ≤ 10000000000 →
  ∃ n, ∀ N, Yu (Wq kind l m) (N + n) (.to (.h3 out last first (i : Int) (j : Int))) = Yu (Wq kind l m) N (.to (.h0 (w4m out j (rd (xsV l m) (i + 1))) last first ((i + 1 : Nat) : Int)))
 | 0, j, out, h, ho => by
  have hx := Uc l m
  refine ⟨1, fun N => ?_⟩
  have e : w4m out j (rd (xsV l m) (i + 1)) = out := by
   unfold w4m; rw [List.drop_eq_nil_of_le (by omega), List.map_nil, List.append_nil, List.take_of_length_le (by omega)]
  rw [e, Zw]
  simp (disch := omega) only [Wq, Zc, Zp, Zs, Zj, Zv, cond_false]
 | k + 1, j, out, h, ho => by
  have hx := Uc l m
  obtain ⟨n, hn⟩ := v1m last first i hi k (j + 1) (out.set j ⟨(rd out j).a, (rd out j).b, rd (xsV l m) (i + 1), (rd out j).d⟩) (by simp; omega) (by simpa using ho)
  refine ⟨n + 1, fun N => ?_⟩
  have := hn N
  rw [w8n l m hl hm out j _ (by omega)] at this
  rw [← Nat.add_assoc, Zw]
  simp (disch := omega) only [Wq, Zc, Zp, Yv, Yj, Yd, Yp, Yf, Zt, Zj, Zv, Yi, Zk, Nat.zero_add, decide_true, Bool.and_true, Bool.true_and, cond_true]
  exact this
theorem x9z : ∀ (k i : Nat) (out : List R4) (last : List R2) (first : Nat), k = (xsV l m).length - 1 - i → i ≤ (xsV l m).length → out.length ≤ i * 40000 → last.length ≤ 40000 → first ≤ out.length →
  ∃ n, Yu (Wq kind l m) n (.to (.h0 out last (first : Int) (i : Int))) = .ret [.dat (jF kind l m k i out last first).length (Zz (jF kind l m k i out last first))]
 | 0, i, out, last, first, h, hi, ho, hla, hf => by
  have hx := Uc l m
  refine ⟨1, ?_⟩
  rw [Zw]
  simp (disch := omega) only [Wq, Zc, Zp, Zs, Zj, Zv, cond_false, Zm, jF]
 | k + 1, i, out, last, first, h, hi, ho, hla, hf => by
  have hx := Uc l m
  have hy := y2b l m
  have hi1 : i + 1 < (xsV l m).length := by omega
  have hsl : (y5q kind l m (rd (xsV l m) i)).length ≤ 40000 := Nat.le_trans (x2i _ _) (by omega)
  have hbig : i * 40000 ≤ 40000 * 40000 := Nat.mul_le_mul_right _ (by omega)
  obtain ⟨n1, h1⟩ := v1o kind l m hl hm out last first i hi1 (ysV l m).length 0 [] (Nat.zero_add _) rfl
  simp only [List.drop_zero, List.nil_append, z1p] at h1
  have w3 : z5g (ysV l m) ((ysV l m).map (w4p kind l m (rd (xsV l m) i))) = true := decide_eq_true ⟨by omega, by rw [List.length_map]; omega⟩
  have w4 : Vh (z7g (ysV l m) ((ysV l m).map (w4p kind l m (rd (xsV l m) i)))) last = true := decide_eq_true (Nat.le_trans hsl (by omega))
  have hy2 : ((ysV l m).length : Int) = (((ysV l m).length : Nat) : Int) := rfl
  unfold jF
  rcases Zn (decide (0 < i) && Ks (y5q kind l m (rd (xsV l m) i)) last) with q | q
  ·obtain ⟨n3, h3⟩ := v1m kind l m hl hm last first i hi1 (out.length - first) first out (by omega) (by omega)
   obtain ⟨n0, h0⟩ := x9z k (i + 1) (w4m out first (rd (xsV l m) (i + 1))) last first (by omega) (by omega) (by simp [w4m]; omega) hla (by simp [w4m]; omega)
   refine ⟨n0 + n3 + 1 + n1 + 1, ?_⟩
   rw [q, cond_true, Zw]
   simp only [Bool.and_eq_true, decide_eq_true_eq] at q
   have q2 : Ks (z7g (ysV l m) ((ysV l m).map (w4p kind l m (rd (xsV l m) i)))) last = true := q.2
   simp (disch := omega) only [Wq, Zc, Zp, Yv, Zj, Zv, cond_true]
   have h1' := h1 (n0 + n3 + 1)
   rw [h1', Zw]
   simp (disch := omega) only [Wq, Zc, Zp, Zs, Yn, q2, w3, w4, cond_true, cond_false]
   rw [h3 n0, h0]
  ·obtain ⟨n2, h2⟩ := v1n kind l m hl hm (y5q kind l m (rd (xsV l m) i)) (out.length : Int) i hi1 (y5q kind l m (rd (xsV l m) i)) (by omega) (y5q kind l m (rd (xsV l m) i)).length 0 out (Nat.zero_add _) (by omega)
   obtain ⟨n0, h0⟩ := x9z k (i + 1) (out ++ v6d (rd (xsV l m) i) (rd (xsV l m) (i + 1)) (y5q kind l m (rd (xsV l m) i))) (y5q kind l m (rd (xsV l m) i)) out.length (by omega) (by omega) (by simp [v6d]; omega) hsl (by simp)
   refine ⟨n0 + n2 + 1 + n1 + 1, ?_⟩
   rw [q, cond_false, Zw]
   simp (disch := omega) only [Wq, Zc, Zp, Yv, Zj, Zv, cond_true]
   have h1' := h1 (n0 + n2 + 1)
   rw [h1', Zw]
   have h2' := h2 n0
   simp only [List.drop_zero, z1p] at h2'
   by_cases hi0 : 0 < i
   ·rw [decide_eq_true hi0, Bool.true_and] at q
    have q2 : Ks (z7g (ysV l m) ((ysV l m).map (w4p kind l m (rd (xsV l m) i)))) last = false := q
    simp (disch := omega) only [Wq, Zc, Zp, Zs, Yn, q2, w3, w4, cond_true, cond_false]
    rw [← h0]; exact h2'
   ·simp (disch := omega) only [Wq, Zc, Zp, Zs, Yo, w3, w4, cond_true, cond_false]
    rw [← h0]; exact h2'
end
theorem v5n (kind : Int) (l m : List R4) (h : Qw kind l m = true) : ∃ N, Yu (Wq kind l m) N (z8g kind l m) = .ret [.dat (joV kind l m).length (Zz (joV kind l m))] := by
 obtain ⟨hl, hm⟩ := of_decide_eq_true h
 obtain ⟨N, hN⟩ := x9z kind l m hl hm ((xsV l m).length - 1) 0 [] [] 0 rfl (Nat.zero_le _) (Nat.zero_le _) (Nat.zero_le _) (Nat.le_refl _)
 refine ⟨N, ?_⟩
 have w1 : z7o l m = true := decide_eq_true ⟨hl, hm⟩
 have w2 : z7n l m = true := decide_eq_true ⟨hl, hm⟩
 simp only [z8g, Zc, Zp, w1, w2, cond_true]
 exact hN
end Go.Am
namespace Go.Am
open Go.Proofs.Tryz
open Go.Proofs
theorem w8i {P : Program} {S : Specs} (hS : Zu P S) {f : FuncId} {F : List AVal → Option (AVal × Bool)} (hf : (P.funcs[f]?).any (fun fn => fn.body.isSome) = true)
  (hF : ∀ args v, F args = some (v, true) → ∃ bs vs, Wg VLe args bs ∧ (∀ (ρ : Rho) (u : Value), Zo ρ (Kq vs) u → Zo ρ v u) ∧ Ur P (Zy P f) (Zg P f bs true []) vs ∧ ∃ d, pf d (Kq vs) = true) : Zu P (S.with f F) :=
 x4w hS hf fun args v h => by
  obtain ⟨bs, vs, h1, h2, h3, d, h4⟩ := hF args v h
  exact ⟨vs, h2, y7q h1 h3, d, h4⟩
theorem z1b {cs cs' : List AVal} (h : RLe cs cs') (ρ : Rho) (u : Value) (hv : Zo ρ (.tup cs) u) : Zo ρ (.tup cs') u := by
 cases hv with
 | tup _ vs hl hh => exact .tup cs' vs (by rw [← h.len]; exact hl) fun i h1 h2 => h.sound i (by rw [h.len]; exact h1) h1 (hh i (by rw [h.len]; exact h1) h2)
theorem Kp (α : Type) [Xz α] : VLe .nils (.dat ([] : List α).length (Zz ([] : List α))) := .nild _
def fJo : List AVal → Option (AVal × Bool)
 | [.int .i64 x0, a1, a2] => match asL R4 a1, asL R4 a2 with
  | some (L1, g1, n1), some (L2, g2, n2) => some (.dat (joV x0 L1 L2).length (Zz (joV x0 L1 L2)), isT R4 n1 g1 && (isT R4 n2 g2 && (Qw x0 L1 L2)))
  | _, _ => none
 | _ => none
theorem fJo_ok {S : Specs} (hS : Zu prog S) : Zu prog (S.with v2k fJo) := by
 refine z0x hS (by kernel_rfl) fun args v h => ?_
 unfold fJo at h
 split at h
 ·rename_i x0 a1 a2
  split at h
  ·rename_i L1 g1 n1 L2 g2 n2 e1 e2
   simp only [Option.some.injEq, Prod.mk.injEq, Bool.and_eq_true] at h
   obtain ⟨rfl, ho1, ho2, hw⟩ := h
   obtain ⟨N, hN⟩ := v5n x0 L1 L2 hw
   exact ⟨_, _, (.cons (.refl _) (.cons (asL_le e1 ho1) (.cons (asL_le e2 ho2) .nil))), rfl, w6a x0 L1 L2 N _ hN, 3, rfl⟩
  ·cases h
 ·cases h
def T3 : Specs := T2.with v2k fJo
theorem z6j : Zu prog T3 := fJo_ok z6k
end Go.Am
namespace Go.Am
open Go.Proofs Go.Sort
def bnd3 (r : R3) : Bool := decide (-1000000000 ≤ r.a ∧ r.a ≤ 1000000000)
def y5i (l : List R3) : Bool := l.all bnd3
abbrev E3 := { r : R3 // bnd3 r = true }
instance : Inhabited E3 := ⟨⟨⟨0, 0, 0⟩, rfl⟩⟩
def cf3 (x y : E3) : Int := x.1.a - y.1.a
def lt3 (x y : E3) : Bool := decide (cf3 x y < 0)
theorem swo3 : SWO lt3 where
 irrefl x := by unfold lt3 cf3; simp
 trans x y z h1 h2 := by unfold lt3 cf3 at *; simp at *; omega
 ntrans x y z h1 h2 := by unfold lt3 cf3 at *; simp at *; omega
def y5j : (l : List R3) → y5i l = true → List E3
 | [], _ => []
 | r :: l, h => ⟨r, by simp [y5i] at h; exact h.1⟩ :: y5j l (by simp [y5i] at h ⊢; exact h.2)
theorem z9a : ∀ (l : List R3) (h : y5i l = true), (y5j l h).map Subtype.val = l
 | [], _ => rfl
 | r :: l, h => by rw [y5j, List.map_cons, z9a l]
theorem Ui (l : List R3) (h : y5i l = true) : (y5j l h).length = l.length := by
 have := congrArg List.length (z9a l h)
 simpa using this
def z3u (l : List R3) : List R3 := if h : y5i l = true then (pdq lt3 (y5j l h).toArray 0 l.length (Lib.bitLen l.length) true true).toList.map Subtype.val else l
theorem Qb (l : List R3) (h : y5i l = true) : (z3u l).Perm l ∧ ∀ i j, i < j → j < (z3u l).length → (rd (z3u l) i).a ≤ (rd (z3u l) j).a := by
 have hp := pdq_sorts lt3 swo3 (y5j l h).toArray 0 l.length (Lib.bitLen l.length) true true (Nat.zero_le _) (by simp [Ui]) (Or.inl rfl)
 obtain ⟨⟨h1, h2, h3⟩, h4⟩ := hp
 have e : z3u l = (pdq lt3 (y5j l h).toArray 0 l.length (Lib.bitLen l.length) true true).toList.map Subtype.val := by unfold z3u; rw [dif_pos h]
 generalize pdq lt3 (y5j l h).toArray 0 l.length (Lib.bitLen l.length) true true = d at *
 have hs : d.size = l.length := by rw [h1]; simp [Ui]
 constructor
 ·rw [e]
  have x1 : (d.extract 0 l.length).toList = d.toList := by rw [← hs]; simp
  have x2 : ((y5j l h).toArray.extract 0 l.length).toList = y5j l h := by
   rw [show l.length = (y5j l h).toArray.size by simp [Ui]]; simp
  rw [x1, x2] at h3
  have := h3.map Subtype.val
  rw [z9a] at this
  exact this
 ·intro i j hij hj
  rw [e] at hj ⊢
  have hj' : j < d.size := by simpa using hj
  have := h4 i j (Nat.zero_le _) hij (by omega)
  rw [getElem!_pos d i (by omega), getElem!_pos d j hj'] at this
  rw [Xa (by simp; omega), Xa hj]
  simp only [List.getElem_map, Array.getElem_toList]
  unfold lt3 cf3 at this
  have := of_decide_eq_false this
  omega
end Go.Am
end
