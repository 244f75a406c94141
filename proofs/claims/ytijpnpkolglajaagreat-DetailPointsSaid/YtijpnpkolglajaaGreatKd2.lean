/- A part of a proof: several texts in one. -/
import Derived.Test.YtijpnpkolglajaaGreatKd1
import Derived.Sort.Grow
import Derived.Deep.Slices
import Derived.Deep.Fields
import Derived.ChangeSame
import Derived.OpenShut
import Derived.Test.YtijpnpkolglajaaGreatProg
import Derived.Sort.AssemblyPlain
import Derived.Lib.BitFns
set_option maxRecDepth 1000000
set_option maxHeartbeats 8000000
set_option linter.unusedVariables false
set_option linter.unusedSimpArgs false
noncomputable section
namespace Go.Am
structure z6h where
 keep : List Nat
 frz : List Nat
 slots : List (Option (List Nat))
 lslots : List (Option (List Nat)) := []
def y0v (b : Nat) : List Nat → Nat → Option Nat
 | [], _ => none
 | x :: l, i => bif Nat.beq x b then some i else y0v b l (i + 1)
def hasN (b : Nat) : List Nat → Bool
 | [] => false
 | x :: l => bif Nat.beq x b then true else hasN b l
def Vs (cells : List AVal) (off sz : Nat) : Nat → List AVal := fun k => (cells.drop (off + k * sz)).take sz
def frzV (P : Program) (blk : ABlk) : AVal → AVal
 | .ptr _ o => .dptr (blk.cells.drop o)
 | .sl _ off len _ => match P.info? blk.ty with
  | some i => bif Nat.ble (off + len * i.size) blk.cells.length then .dat len (Vs blk.cells off i.size) else .undef
  | none => .undef
 | .sla _ sz off len _ => match blk.arr with
  | some A => bif Nat.beq A.sz sz && Nat.ble (off + len) A.n then .dat len (fun k => A.get (off + k)) else .undef
  | none => .undef
 | _ => .undef
def renB (P : Program) (mem : Mem) (N : z6h) (b : Nat) (v : AVal) (f : Nat → AVal) : AVal :=
 match y0v b N.keep 0 with
 | some b' => f b'
 | none => bif hasN b N.frz then match Ys mem b with
   | some blk => frzV P blk v
   | none => .undef
  else .undef
def ren (P : Program) (mem : Mem) (N : z6h) : Nat → AVal → AVal
 | 0, _ => .undef
 | d + 1, v => match v with
  | .ptr b o => renB P mem N b (.ptr b o) fun b' => .ptr b' o
  | .sl b off len cap => renB P mem N b (.sl b off len cap) fun b' => .sl b' off len cap
  | .sla b sz off len cap => renB P mem N b (.sla b sz off len cap) fun b' => .sla b' sz off len cap
  | .epa b sz i fo => renB P mem N b (.epa b sz i fo) fun b' => .epa b' sz i fo
  | .yld j => match y0v j N.keep 0 with
   | some j' => .yld j'
   | none => .undef
  | .slv b sz off len => match y0v b N.keep 0 with
   | some b' => .slv b' sz off len
   | none => .undef
  | .agg cs => .agg (cs.map (ren P mem N d))
  | .tup cs => .tup (cs.map (ren P mem N d))
  | .fn f cs => .fn f (cs.map (ren P mem N d))
  | .fnb f cs => .fnb f (cs.map (ren P mem N d))
  | .ifc t v => .ifc t (ren P mem N d v)
  | v => v
def T.map (f : AVal → AVal) (t : T AVal) : T AVal :=
 T.rec (motive := fun _ => T AVal) .leaf (fun v _ _ l r => .node (f v) l r) t
def y0s (f : AVal → AVal) (env : T AVal) : List Nat → T AVal
 | [] => .leaf
 | t :: l => T.set .undef (y0s f env l) t (f (T.get .undef env t))
def v2i (f : AVal → AVal) (env : T AVal) : Option (List Nat) → T AVal
 | none => T.map f env
 | some l => y0s f env l
def z3j (f : AVal → AVal) : Rws → Rws
 | .flat g => .flat g
 | .one r cs b => .one r (cs.map f) (z3j f b)
 | .alt c a b => .alt c (z3j f a) (z3j f b)
def y0e (P : Program) (mem : Mem) (N : z6h) : ABlk → ABlk
 | ⟨cells, ty, none⟩ => ⟨cells.map (ren P mem N 6), ty, none⟩
 | ⟨_, ty, some A⟩ => ⟨Yg A.n (z3j (ren P mem N 6) A.rw).get, ty, some ⟨A.sz, A.n, z3j (ren P mem N 6) A.rw⟩⟩
def y3f : Rws → Bool
 | .flat g => pd (∀ i, (g i).all (pf 6) = true)
 | .one _ _ b => y3f b
 | .alt _ a b => y3f a && y3f b
def w9a (blk : ABlk) : Bool := match blk.arr with
 | none => true
 | some A => y3f A.rw
def z5i (P : Program) (mem : Mem) (N : z6h) : List Nat → Nat → Mem × Bool
 | [], _ => (.leaf, true)
 | b :: l, i => match z5i P mem N l (i + 1) with
  | (m, o) => match Ys mem b with
   | none => (m, o)
   | some blk => (Wv m i (some (y0e P mem N blk)), w9a blk && o)
def z5l (mem : Mem) : List Nat → Bool
 | [] => true
 | b :: l => match Ys mem b with
  | none => z5l mem l
  | some blk => (match blk.arr with
   | none => blk.cells.all (pf 6)
   | some A => pd (∀ i, (A.get i).all (pf 6) = true)) && z5l mem l
def x1j (f : AVal → AVal) (lps : Loops) : List Nat → Nat → List (Option (List Nat)) → Loops
 | [], _, _ => .leaf
 | b :: l, i, sl => match z9d lps b with
  | none => x1j f lps l (i + 1) sl.tail
  | some ⟨st, pend, n, env, params, assign, body⟩ => x9d (x1j f lps l (i + 1) sl.tail) i (some ⟨st, pend, n, v2i f env (sl.headD none), params, assign, body⟩)
def z6l (keep : List Nat) : Item → Option Item
 | .inRangeFunc j => (y0v j keep 0).map .inRangeFunc
 | .endRangeFunc j => (y0v j keep 0).map .endRangeFunc
 | x => bif Kf x then some x else none
def z2v (keep : List Nat) : List Item → Option (List Item)
 | [] => some []
 | x :: l => match z6l keep x, z2v keep l with
  | some y, some m => some (y :: m)
  | _, _ => none
def y6t (keep : List Nat) : Option Nat → Option (Option Nat)
 | none => some none
 | some j => (y0v j keep 0).map some
def x7a (f : AVal → AVal) (keep : List Nat) : List AFr → List (Option (List Nat)) → Option (List AFr)
 | [], _ => some []
 | ⟨cx, ro, todo, rnd, rs, env⟩ :: cs, sl => match z2v keep todo, y6t keep rnd, x7a f keep cs sl.tail with
  | some todo', some rnd', some cs' => some (⟨cx, ro, todo', rnd', rs, v2i f env (sl.headD none)⟩ :: cs')
  | _, _, _ => none
def disj : List Nat → List Nat → Bool
 | [], _ => true
 | b :: l, frz => !hasN b frz && (!hasN b l && disj l frz)
def w7n (P : Program) (N : z6h) : Cfg → Option Cfg
 | ⟨cx, ro, todo, rnd, rs, ⟨env, mem, next, orc, ob⟩, cs, lps⟩ =>
  match z2v N.keep todo, y6t N.keep rnd, x7a (ren P mem N 6) N.keep cs N.slots.tail with
  | some todo', some rnd', some cs' =>
   bif disj N.keep N.frz then
    match z5i P mem N N.keep 0 with
    | (mem', o) => some ⟨cx, ro, todo', rnd', rs, ⟨v2i (ren P mem N 6) env (N.slots.headD none), mem', N.keep.length, [], o && (z5l mem N.frz && ob)⟩, cs', x1j (ren P mem N 6) lps N.keep 0 N.lslots⟩
   else none
  | _, _, _ => none
def atP : Code → List Nat → List Item → Code × List Item
 | c, [], k => (c, k)
 | .seq a b, 0 :: p, k => atP a p (.code b :: k)
 | .seq _ b, _ :: p, k => atP b p k
 | .block id c, _ :: p, k => atP c p (.inBlock id :: k)
 | .loop c, _ :: p, k => atP c p (.inLoop c :: k)
 | .scope c, _ :: p, k => atP c p (.inScope c :: k)
 | .cond _ a _, 0 :: p, k => atP a p k
 | .cond _ _ b, _ :: p, k => atP b p k
 | .rangeFunc _ _ a b, 0 :: p, _ => atP a p [.beginRound, .code b]
 | .rangeFunc _ _ _ b, _ :: p, _ => atP b p []
 | c, _ :: _, k => (c, k)
def Zg (P : Program) (f : FuncId) (p : List Nat) (j : Nat) : List Item := match atP (v4k P f) p [] with
 | (c, k) => (.code c :: k).drop j
def Xf (P : Program) (f : FuncId) (p : List Nat) : Code := (atP (v4k P f) p []).1
def Vu (P : Program) (f : FuncId) (p : List Nat) (i : Nat) : Option RegOps := match Xf P f p with
 | .region _ ops _ => some (ops, i, ops.toList.drop i)
 | _ => none
def w8j (P : Program) (S : Specs) (Rc : Runner) (n : Nat) : Cfg → Option Cfg :=
 Nat.rec (motive := fun _ => Cfg → Option Cfg) (fun C => some C) (fun _ R C => match x6c P S Rc C with
  | some C' => R C'
  | none => none) n
section
variable {P : Program}
theorem Vf {p : Prop} (h : pd p = true) : p := @of_decide_eq_true p (Classical.propDecidable p) h
theorem pd_true {p : Prop} (h : p) : pd p = true := @decide_eq_true p (Classical.propDecidable p) h
theorem y3d {b : Nat} : ∀ {l : List Nat} {i j : Nat}, y0v b l i = some j → i ≤ j ∧ l[j - i]? = some b
 | [], i, j, h => by cases h
 | x :: l, i, j, h => by
  unfold y0v at h
  rcases Ue h with ⟨hx, h⟩ | ⟨_, h⟩
  ·obtain rfl := Option.some.inj h
   have := Nat.eq_of_beq_eq_true hx
   exact ⟨Nat.le_refl _, by simp [this]⟩
  ·obtain ⟨h1, h2⟩ := y3d h
   refine ⟨by omega, ?_⟩
   rw [show j - i = (j - (i + 1)) + 1 by omega]
   simpa using h2
theorem z9i {b : Nat} : ∀ {l : List Nat}, hasN b l = true ↔ b ∈ l
 | [] => by simp [hasN]
 | x :: l => by
  unfold hasN
  cases hx : Nat.beq x b with
  | true => simp [Nat.eq_of_beq_eq_true hx]
  | false =>
   have : x ≠ b := fun e => by rw [e, Nat.beq_refl] at hx; cases hx
   rw [cond_false, z9i, List.mem_cons]
   exact ⟨.inr, fun h => h.resolve_left fun e => this e.symm⟩
theorem y1h : ∀ {l frz : List Nat}, disj l frz = true → l.Nodup ∧ ∀ b ∈ l, b ∉ frz
 | [], _, _ => ⟨List.nodup_nil, fun b hb => by cases hb⟩
 | x :: l, frz, h => by
  unfold disj at h
  simp only [Bool.and_eq_true, Bool.not_eq_true'] at h
  obtain ⟨h1, h2, h3⟩ := h
  obtain ⟨i1, i2⟩ := y1h h3
  have n1 : x ∉ frz := fun hm => by rw [z9i.2 hm] at h1; cases h1
  have n2 : x ∉ l := fun hm => by rw [z9i.2 hm] at h2; cases h2
  exact ⟨List.nodup_cons.2 ⟨n2, i1⟩, fun b hb => by
   rcases List.mem_cons.1 hb with rfl | hb
   ·exact n1
   ·exact i2 b hb⟩
def Fz (ρ : Rho) (mem : Mem) (N : z6h) (k : Nat) : Prop := ∃ b l, b ∈ N.frz ∧ ρ b = some l ∧ (Ys mem b).isSome = true ∧ l.blk = k
def y0c (ρ : Rho) (mem : Mem) (N : z6h) (w : World) : Rho :=
 ⟨fun b' => (N.keep[b']?).bind fun b => ρ b, fun k => @ite _ (Fz ρ mem N k) (Classical.propDecidable _) (w.heap[k]?) (ρ.fz k), fun j' => (N.keep[j']?).bind fun j => ρ.lp j⟩
theorem z2t {ρ : Rho} {mem : Mem} {next : Nat} {w : World} (h : Rel ρ mem next w) (N : z6h) {k : Nat} {o : Obj} (e : ρ.fz k = some o) : (y0c ρ mem N w).fz k = some o := by
 show @ite _ (Fz ρ mem N k) (Classical.propDecidable _) (w.heap[k]?) (ρ.fz k) = some o
 by_cases hf : Fz ρ mem N k
 ·obtain ⟨b, l, _, hb, hm, rfl⟩ := hf
  have := h.sep b l hb hm
  rw [e] at this; cases this
 ·rw [if_neg hf]; exact e
theorem x0j {ρ : Rho} {mem : Mem} {w : World} {N : z6h} {b : Nat} {l : Loc} (hb : b ∈ N.frz) (hl : ρ b = some l) (hm : (Ys mem b).isSome = true) : (y0c ρ mem N w).fz l.blk = w.heap[l.blk]? :=
 if_pos ⟨b, l, hb, hl, hm, rfl⟩
theorem z4s {ρ : Rho} {mem : Mem} {next : Nat} {w : World} (h : Rel ρ mem next w) (N : z6h) : ρ.bare.le (y0c ρ mem N w).bare := ⟨fun _ _ e => (by cases e), fun _ _ e => z2t h N e, fun _ _ e => (by cases e)⟩
theorem Un {ρ : Rho} {mem : Mem} {w : World} {N : z6h} {b b' : Nat} (h : y0v b N.keep 0 = some b') : (y0c ρ mem N w) b' = ρ b ∧ (y0c ρ mem N w).lp b' = ρ.lp b := by
 obtain ⟨_, h2⟩ := y3d h
 rw [Nat.sub_zero] at h2
 constructor
 ·show (N.keep[b']?).bind _ = _
  rw [h2]; rfl
 ·show (N.keep[b']?).bind _ = _
  rw [h2]; rfl
theorem z6w {mem : Mem} : ∀ {frz : List Nat}, z5l mem frz = true → ∀ b ∈ frz, ∀ blk, Ys mem b = some blk → (match blk.arr with | none => blk.cells.all (pf 6) = true | some A => ∀ i, (A.get i).all (pf 6) = true)
 | [], _, b, hb, _, _ => by cases hb
 | x :: l, h, b, hb, blk, hm => by
  unfold z5l at h
  rcases List.mem_cons.1 hb with rfl | hb
  ·rw [hm] at h
   simp only [Bool.and_eq_true] at h
   cases hA : blk.arr with
   | none => have := h.1; rw [hA] at this; exact this
   | some A => have := h.1; rw [hA] at this; exact Vf this
  ·cases hx : Ys mem x with
   | none => rw [hx] at h; exact z6w h b hb blk hm
   | some blk' =>
    rw [hx] at h
    simp only [Bool.and_eq_true] at h
    exact z6w h.2 b hb blk hm
theorem y0z {mem : Mem} {next : Nat} {w : World} {ρ : Rho} (h : Rel ρ mem next w) {N : z6h} (ho : z5l mem N.frz = true) {b : Nat} (hb : b ∈ N.frz) {blk : ABlk} (hm : Ys mem b = some blk) {l : Loc} (hl : ρ b = some l) :
  ∃ val : Nat → Value, ∀ (i : Nat) (hi : i < blk.cells.length), VRel (y0c ρ mem N w).bare blk.cells[i] (val i) ∧ y8x (y0c ρ mem N w).fz l.blk (l.base + i) (val i) := by
 obtain ⟨hn, ht, har, cs, el, h1, h2, h3⟩ := h.blk b l blk hl hm
 refine ⟨fun i => (cs[l.base + i]?).getD undef, fun i hi => ?_⟩
 obtain ⟨v, e1, e2⟩ := h3 i hi
 have hpf : pf 6 blk.cells[i] = true := by
  have := z6w ho b hb blk hm
  cases hA : blk.arr with
  | none => rw [hA] at this; exact List.all_eq_true.1 this _ (List.getElem_mem hi)
  | some A =>
   rw [hA] at this
   obtain ⟨q1, _, _⟩ := har A hA
   have gE : blk.cells[i] ∈ Yg A.n A.get := by rw [← q1]; exact List.getElem_mem hi
   unfold Yg at gE
   rw [List.mem_flatMap] at gE
   obtain ⟨r, _, hr⟩ := gE
   exact List.all_eq_true.1 (this r) _ hr
 dsimp only
 rw [e1]
 refine ⟨(Kw 6 _ _ hpf e2).mono (z4s h N), cs, el, (0, 0), ?_, e1⟩
 rw [x0j hb hl (by rw [hm]; rfl)]
 exact h1
theorem x7y {mem : Mem} {next : Nat} {w : World} {ρ : Rho} (h : Rel ρ mem next w) {N : z6h} (ho : z5l mem N.frz = true) {b : Nat} (hb : b ∈ N.frz) {blk : ABlk} (hm : Ys mem b = some blk) {v : AVal} {u : Value} (hv : VRel ρ v u)
  (hvb : (∃ o, v = .ptr b o) ∨ (∃ off len cap, v = .sl b off len cap) ∨ (∃ sz off len cap, v = .sla b sz off len cap) ∨ ∃ sz i fo, v = .epa b sz i fo) : VRel (y0c ρ mem N w) (frzV P blk v) u := by
 rcases hvb with ⟨o, rfl⟩ | ⟨off, len, cap, rfl⟩ | ⟨sz, off, len, cap, rfl⟩ | ⟨sz, i, fo, rfl⟩
 ·cases hv with
  | ptr _ _ l hl =>
   obtain ⟨val, eW⟩ := y0z h ho hb hm hl
   refine .dptr _ _ _ (fun j => val (o + j)) (fun j hj => ?_) (fun j hj => ?_)
   ·have := (eW (o + j) (by simp at hj; omega)).1
    simpa using this
   ·have := (eW (o + j) (by simp at hj; omega)).2
    rw [Nat.add_assoc]; exact this
 ·simp only [frzV]
  split
  ·rename_i i hi
   cases hc : Nat.ble (off + len * i.size) blk.cells.length with
   | false => exact .undef _
   | true =>
    rw [cond_true]
    have hle := Nat.le_of_ble_eq_true hc
    cases hv with
    | sl _ _ _ _ l c hl _ eH =>
     obtain ⟨val, eW⟩ := y0z h ho hb hm hl
     have hin : ∀ k, k < len → k * i.size + i.size ≤ len * i.size := fun k hk => by
      have := Nat.mul_le_mul_right i.size (show k + 1 ≤ len from hk)
      rw [Nat.add_mul, Nat.one_mul] at this; exact this
     refine .dat len _ l.blk (l.base + off) i.size c (fun k j => val (off + (k * i.size + j))) eH (fun k hk => ?_) (fun k j hk hj => ?_) (fun k j hk hj => ?_)
     ·have := hin k hk
      simp [Vs]; omega
     ·have := hin k hk
      have hj' : j < i.size := by simp [Vs] at hj; omega
      have := (eW (off + (k * i.size + j)) (by omega)).1
      simpa [Vs, Nat.add_assoc] using this
     ·have := hin k hk
      have := (eW (off + (k * i.size + j)) (by omega)).2
      rw [Nat.add_assoc]; exact this
  ·exact .undef _
 ·simp only [frzV]
  split
  ·rename_i A hA
   cases hc : (Nat.beq A.sz sz && Nat.ble (off + len) A.n) with
   | false => exact .undef _
   | true =>
    rw [cond_true]
    simp only [Bool.and_eq_true] at hc
    obtain rfl := Nat.eq_of_beq_eq_true hc.1
    have hle := Nat.le_of_ble_eq_true hc.2
    cases hv with
    | slan => exact .datn _
    | sla _ _ _ _ _ l c hl _ eH =>
     obtain ⟨val, eW⟩ := y0z h ho hb hm hl
     obtain ⟨q1, q2, q3⟩ := (h.blk b l blk hl hm).arr A hA
     have fY := Yv A.n q3
     have hrow : ∀ k j, k < len → j < A.sz → ∃ hi : (off + k) * A.sz + j < blk.cells.length, blk.cells[(off + k) * A.sz + j]? = (A.get (off + k))[j]? := fun k j hk hj => by
      have e := Wm A.n q3 (off + k) j (by omega) hj
      rw [← q1] at e
      have hj2 : j < (A.get (off + k)).length := by rw [q3 (off + k) (by omega)]; exact hj
      rw [List.getElem?_eq_getElem hj2] at e
      obtain ⟨hi, _⟩ := List.getElem?_eq_some_iff.1 e
      exact ⟨hi, by rw [e, List.getElem?_eq_getElem hj2]⟩
     refine .dat len _ l.blk (l.base + off * A.sz) A.sz c (fun k j => val ((off + k) * A.sz + j)) eH (fun k hk => q3 _ (by omega)) (fun k j hk hj => ?_) (fun k j hk hj => ?_)
     ·have hj' : j < A.sz := by rw [← q3 (off + k) (by omega)]; exact hj
      obtain ⟨hi, e⟩ := hrow k j hk hj'
      have := (eW _ hi).1
      rw [List.getElem?_eq_getElem hi, List.getElem?_eq_getElem hj] at e
      rw [Option.some.inj e] at this
      exact this
     ·obtain ⟨hi, _⟩ := hrow k j hk hj
      have := (eW _ hi).2
      rw [show l.base + off * A.sz + (k * A.sz + j) = l.base + ((off + k) * A.sz + j) by rw [Nat.add_mul]; omega]
      exact this
  ·exact .undef _
 ·exact .undef _
theorem z0d {mem : Mem} {next : Nat} {w : World} {ρ : Rho} (h : Rel ρ mem next w) {N : z6h} (ho : z5l mem N.frz = true) {b : Nat} {v : AVal} {u : Value} {f : Nat → AVal} (hv : VRel ρ v u)
  (hvb : (∃ o, v = .ptr b o) ∨ (∃ off len cap, v = .sl b off len cap) ∨ (∃ sz off len cap, v = .sla b sz off len cap) ∨ ∃ sz i fo, v = .epa b sz i fo)
  (hf : ∀ b', y0v b N.keep 0 = some b' → VRel (y0c ρ mem N w) (f b') u) : VRel (y0c ρ mem N w) (renB P mem N b v f) u := by
 unfold renB
 split
 ·rename_i b' hb'; exact hf b' hb'
 ·cases hc : hasN b N.frz with
  | false => exact .undef _
  | true =>
   rw [cond_true]
   split
   ·rename_i blk hm
    exact x7y h ho (z9i.1 hc) hm hv hvb
   ·exact .undef _
theorem z2a {mem : Mem} {next : Nat} {w : World} {ρ : Rho} (h : Rel ρ mem next w) {N : z6h} (ho : z5l mem N.frz = true) : ∀ (d : Nat) (v : AVal) (u : Value), VRel ρ v u → VRel (y0c ρ mem N w) (ren P mem N d v) u
 | 0, _, _, _ => .undef _
 | d + 1, v, u, hv => by
  have ih := fun v u => z2a h ho (N := N) d v u
  have list : ∀ {cs : List AVal} {vs : Array Value}, cs.length = vs.size → (∀ (i : Nat) (h1 : i < cs.length) (h2 : i < vs.size), VRel ρ cs[i] vs[i]) →
    (cs.map (ren P mem N d)).length = vs.size ∧ ∀ (i : Nat) (h1 : i < (cs.map (ren P mem N d)).length) (h2 : i < vs.size), VRel (y0c ρ mem N w) (cs.map (ren P mem N d))[i] vs[i] := fun hl hh =>
   ⟨by simpa using hl, fun i h1 h2 => by simpa using ih _ _ (hh i (by simpa using h1) h2)⟩
  unfold ren
  cases hv with
  | undef => exact .undef _
  | bool b => exact .bool b
  | int k n => exact .int k n
  | str s => exact .str s
  | agg cs vs hl hh => exact .agg _ _ (list hl hh).1 (list hl hh).2
  | tup cs vs hl hh => exact .tup _ _ (list hl hh).1 (list hl hh).2
  | fn f cs vs hl hh => exact .fn f _ _ (list hl hh).1 (list hl hh).2
  | fnb f cs vs hl hh => exact .fnb f _ _ (list hl hh).1 (list hl hh).2
  | ptr b o l hl => exact z0d h ho (.ptr b o l hl) (.inl ⟨o, rfl⟩) fun b' hb' => .ptr b' o l (by rw [(Un hb').1]; exact hl)
  | nilp => exact .nilp
  | sl b off len cap l c hl hc eH => exact z0d h ho (.sl b off len cap l c hl hc eH) (.inr (.inl ⟨off, len, cap, rfl⟩)) fun b' hb' => .sl b' off len cap l c (by rw [(Un hb').1]; exact hl) hc eH
  | nils => exact .nils
  | sla b sz off len cap l c hl hc eH => exact z0d h ho (.sla b sz off len cap l c hl hc eH) (.inr (.inr (.inl ⟨sz, off, len, cap, rfl⟩))) fun b' hb' => .sla b' sz off len cap l c (by rw [(Un hb').1]; exact hl) hc eH
  | slan b sz off cap => exact z0d h ho (.slan b sz off cap) (.inr (.inr (.inl ⟨sz, off, 0, cap, rfl⟩))) fun b' hb' => .slan b' sz off cap
  | epa b sz i fo l hl => exact z0d h ho (.epa b sz i fo l hl) (.inr (.inr (.inr ⟨sz, i, fo, rfl⟩))) fun b' hb' => .epa b' sz i fo l (by rw [(Un hb').1]; exact hl)
  | nilf => exact .nilf
  | yld j l hl =>
   simp only
   split
   ·rename_i j' hj'
    exact .yld j' l (by rw [(Un hj').2]; exact hl)
   ·exact .undef _
  | slv b sz off len l c hl eH =>
   simp only
   split
   ·rename_i j' hj'
    exact .slv j' sz off len l c (by rw [(Un hj').1]; exact hl) eH
   ·exact .undef _
  | slve b sz off blk base c =>
   simp only
   split
   ·exact .slve _ sz off blk base c
   ·exact .undef _
  | slvn b sz off =>
   simp only
   split
   ·exact .slvn _ sz off
   ·exact .undef _
  | ifc t a v hv => exact .ifc t _ _ (ih _ _ hv)
  | nili => exact .nili
  | dat len get blk base sz cap val eM hsz hv hh =>
   refine .dat len get blk base sz cap val eM hsz (fun i j hi hj => (hv i j hi hj).mono (z4s h N)) (fun i j hi hj => ?_)
   obtain ⟨cs, el, fz, e1, e2⟩ := hh i j hi hj
   exact ⟨cs, el, fz, z2t h N e1, e2⟩
  | datn get => exact .datn get
  | datz get a c => exact .datz get a c
  | dptr cs blk base val hv hh =>
   refine .dptr cs blk base val (fun j hj => (hv j hj).mono (z4s h N)) (fun j hj => ?_)
   obtain ⟨cs', el, fz, e1, e2⟩ := hh j hj
   exact ⟨cs', el, fz, z2t h N e1, e2⟩
theorem T.get_map {f : AVal → AVal} (hf : f .undef = .undef) : ∀ (t : T AVal) (i : Nat), T.get .undef (T.map f t) i = f (T.get .undef t i)
 | .leaf, i => hf.symm
 | .node v l r, 0 => rfl
 | .node v l r, i + 1 => by
  show T.get .undef (.node (f v) (T.map f l) (T.map f r)) (i + 1) = _
  rw [T.get_succ, T.get_succ]
  split
  ·exact T.get_map hf l _
  ·exact T.get_map hf r _
theorem z6r {f : AVal → AVal} (env : T AVal) : ∀ (L : List Nat) (t : Nat), T.get .undef (y0s f env L) t = if t ∈ L then f (T.get .undef env t) else .undef
 | [], t => by simp [y0s]
 | x :: L, t => by
  unfold y0s
  rw [T.get_set, z6r env L t]
  by_cases h : t = x
  ·subst h; simp
  ·simp [h]
theorem x4g {mem : Mem} {next : Nat} {w : World} {ρ : Rho} (h : Rel ρ mem next w) {N : z6h} (ho : z5l mem N.frz = true) {env : T AVal} {n : Nat} {tmps : Array Value} (he : Wz ρ env n tmps) : ∀ (L : Option (List Nat)), Wz (y0c ρ mem N w) (v2i (ren P mem N 6) env L) n tmps
 | none => by
  refine ⟨he.size, fun i => ?_, fun i hi => ?_⟩
  ·show VRel _ (T.get .undef (T.map (ren P mem N 6) env) i) _
   rw [T.get_map rfl]; exact z2a h ho 6 _ _ (he.get i)
  ·show T.get .undef (T.map (ren P mem N 6) env) i = _
   rw [T.get_map rfl, he.out i hi]; rfl
 | some L => by
  refine ⟨he.size, fun i => ?_, fun i hi => ?_⟩
  ·show VRel _ (T.get .undef (y0s (ren P mem N 6) env L) i) _
   rw [z6r]
   split
   ·exact z2a h ho 6 _ _ (he.get i)
   ·exact .undef _
  ·show T.get .undef (y0s (ren P mem N 6) env L) i = _
   rw [z6r, he.out i hi]
   split <;> rfl
theorem y7r {mem : Mem} {N : z6h} : ∀ (l : List Nat) (i j : Nat), Ys (z5i P mem N l i).1 j = if i ≤ j then (l[j - i]?).bind fun b => (Ys mem b).map (y0e P mem N) else none
 | [], i, j => by simp [z5i, Ys]
 | b :: l, i, j => by
  unfold z5i
  have ih := y7r (mem := mem) (N := N) l (i + 1)
  have tail : i < j → (b :: l)[j - i]? = l[j - (i + 1)]? := fun h => by rw [show j - i = (j - (i + 1)) + 1 by omega]; rfl
  cases hm : Ys mem b with
  | none =>
   show Ys (z5i P mem N l (i + 1)).1 j = _
   rw [ih]
   rcases Nat.lt_trichotomy i j with h | h | h
   ·rw [if_pos (by omega), if_pos (by omega), tail h]
   ·subst h; rw [if_neg (by omega), if_pos (by omega)]; simp [hm]
   ·rw [if_neg (by omega), if_neg (by omega)]
  | some blk =>
   show Ys (Wv (z5i P mem N l (i + 1)).1 i (some (y0e P mem N blk))) j = _
   rw [Wa, ih]
   rcases Nat.lt_trichotomy i j with h | h | h
   ·rw [if_neg (by omega), if_pos (by omega), if_pos (by omega), tail h]
   ·subst h; rw [if_pos rfl, if_pos (by omega)]; simp [hm]
   ·rw [if_neg (by omega), if_neg (by omega), if_neg (by omega)]
theorem z6q {mem : Mem} {N : z6h} : ∀ (l : List Nat) (i : Nat), (z5i P mem N l i).2 = true → ∀ b ∈ l, ∀ blk, Ys mem b = some blk → w9a blk = true
 | [], i, _, b, hb, _, _ => by cases hb
 | x :: l, i, h, b, hb, blk, hm => by
  unfold z5i at h
  cases hx : Ys mem x with
  | none =>
   rw [hx] at h
   rcases List.mem_cons.1 hb with rfl | hb
   ·rw [hx] at hm; cases hm
   ·exact z6q l (i + 1) h b hb blk hm
  | some blk' =>
   rw [hx] at h
   have h : (w9a blk' && (z5i P mem N l (i + 1)).2) = true := h
   simp only [Bool.and_eq_true] at h
   rcases List.mem_cons.1 hb with rfl | hb
   ·rw [hx] at hm; obtain rfl := Option.some.inj hm; exact h.1
   ·exact z6q l (i + 1) h.2 b hb blk hm
theorem z2i {f : AVal → AVal} {lps : Loops} : ∀ (l : List Nat) (i : Nat) (sl : List (Option (List Nat))) (j : Nat) (L : ALoop), z9d (x1j f lps l i sl) j = some L → i ≤ j ∧ ∃ b L0 x, l[j - i]? = some b ∧ z9d lps b = some L0 ∧ L = ⟨L0.st, L0.pend, L0.n, v2i f L0.env x, L0.params, L0.assign, L0.body⟩
 | [], i, sl, j, L, h => by cases h
 | b :: l, i, sl, j, L, h => by
  unfold x1j at h
  split at h
  ·obtain ⟨h1, b', L0, x, h2, h3, h4⟩ := z2i l (i + 1) _ j L h
   exact ⟨by omega, b', L0, x, by rw [show j - i = (j - (i + 1)) + 1 by omega]; simpa using h2, h3, h4⟩
  ·rename_i st pend n env params assign body hb
   rw [show z9d (x9d (x1j f lps l (i + 1) sl.tail) i (some ⟨st, pend, n, v2i f env (sl.headD none), params, assign, body⟩)) j = if j = i then some ⟨st, pend, n, v2i f env (sl.headD none), params, assign, body⟩ else z9d (x1j f lps l (i + 1) sl.tail) j from T.get_set none _ i _ j] at h
   by_cases hj : j = i
   ·subst hj
    rw [if_pos rfl] at h
    obtain rfl := Option.some.inj h
    exact ⟨Nat.le_refl _, b, _, _, by simp, hb, rfl⟩
   ·rw [if_neg hj] at h
    obtain ⟨h1, b', L0, x, h2, h3, h4⟩ := z2i l (i + 1) _ j L h
    exact ⟨by omega, b', L0, x, by rw [show j - i = (j - (i + 1)) + 1 by omega]; simpa using h2, h3, h4⟩
theorem x0o {mem : Mem} {w : World} {ρ : Rho} {N : z6h} {x x' y : Item} (h : z6l N.keep x = some x') (hx : x5s ρ x y) : x5s (y0c ρ mem N w) x' y := by
 cases hx with
 | inR j l e =>
  simp only [z6l, Option.map_eq_some_iff] at h
  obtain ⟨j', hj, rfl⟩ := h
  exact .inR j' l (by rw [(Un hj).2]; exact e)
 | endR j l e =>
  simp only [z6l, Option.map_eq_some_iff] at h
  obtain ⟨j', hj, rfl⟩ := h
  exact .endR j' l (by rw [(Un hj).2]; exact e)
 | same x hp =>
  have : z6l N.keep x = some x := by
   unfold z6l
   split
   ·cases hp
   ·cases hp
   ·rw [hp]; rfl
  rw [this] at h
  obtain rfl := Option.some.inj h
  exact .same _ hp
theorem z7n {mem : Mem} {w : World} {ρ : Rho} {N : z6h} : ∀ {l l' m : List Item}, z2v N.keep l = some l' → y2e ρ l m → y2e (y0c ρ mem N w) l' m
 | [], l', m, h, ht => by cases ht; obtain rfl := Option.some.inj h; exact .nil
 | x :: l, l', m, h, ht => by
  cases ht with
  | cons hx ht =>
   unfold z2v at h
   split at h
   ·rename_i y k hy hk
    obtain rfl := Option.some.inj h
    exact .cons (x0o hy hx) (z7n hk ht)
   ·cases h
theorem x4f {mem : Mem} {next : Nat} {w : World} {ρ : Rho} (h : Rel ρ mem next w) {N : z6h} (ho : z5l mem N.frz = true) {cx : Ctx} {ro : Option RegOps} {todo todo' : List Item} {rnd rnd' : Option Nat} {env : T AVal} {b : Frame} {a : Act} {k : List Item} {ms : List Nat} (ht : z2v N.keep todo = some todo') (hr : y6t N.keep rnd = some rnd')
  (hf : x9j ρ cx ro todo rnd env b a k ms) (L : Option (List Nat)) : x9j (y0c ρ mem N w) cx ro todo' rnd' (v2i (ren P mem N 6) env L) b a k ms ∧ (rnd' = none → rnd = none) := by
 refine ⟨⟨x4g h ho hf.env L, hf.defers, z7n ht hf.todo, hf.ro, ?_⟩, fun e => ?_⟩
 ·have hrn := hf.rnd
  cases rnd with
  | none => obtain rfl := Option.some.inj hr; exact hrn
  | some j =>
   simp only [y6t, Option.map_eq_some_iff] at hr
   obtain ⟨j', hj, rfl⟩ := hr
   obtain ⟨h0, l, h1, h2⟩ := hrn
   exact ⟨h0, l, by rw [(Un hj).2]; exact h1, h2⟩
 ·cases rnd with
  | none => rfl
  | some j =>
   simp only [y6t, Option.map_eq_some_iff] at hr
   obtain ⟨j', _, rfl⟩ := hr
   cases e
theorem y6u {mem : Mem} {next : Nat} {w : World} {ρ : Rho} (h : Rel ρ mem next w) {N : z6h} (ho : z5l mem N.frz = true) : ∀ {cs cs' : List AFr} {sl : List (Option (List Nat))} {css : List Frame} {mss : List Nat}, x7a (ren P mem N 6) N.keep cs sl = some cs' → x9k P ρ cs css mss → x9k P (y0c ρ mem N w) cs' css mss ∧ (cs' ≠ [] → cs ≠ [])
 | [], cs', sl, css, mss, hc, hr => by
  cases hr
  obtain rfl := Option.some.inj hc
  exact ⟨.nil, id⟩
 | af :: cs, cs', sl, css, mss, hc, hr => by
  cases hr with
  | cons hf hl ht =>
   unfold x7a at hc
   split at hc
   ·rename_i todo' rnd' cs'' h1 h2 h3
    obtain rfl := Option.some.inj hc
    obtain ⟨i1, i2⟩ := y6u h ho h3 ht
    obtain ⟨f1, f2⟩ := x4f (P := P) h ho h1 h2 hf (sl.headD none)
    exact ⟨.cons f1 (fun hne => ⟨(hl (i2 hne)).1, fun e => (hl (i2 hne)).2 (f2 e)⟩) i1, fun _ => by simp⟩
   ·cases hc
def RowTo (ρ ρ' : Rho) (L L' : List AVal) : Prop := L'.length = L.length ∧ ∀ (j : Nat) (h1 : j < L.length) (h2 : j < L'.length) (v : Value), VRel ρ L[j] v → VRel ρ' L'[j] v
theorem z4v {mem : Mem} {next : Nat} {w : World} {ρ : Rho} (h : Rel ρ mem next w) {N : z6h} (ho : z5l mem N.frz = true) : ∀ (rw1 : Rws), y3f rw1 = true → ∀ k, RowTo ρ (y0c ρ mem N w) (rw1.get k) ((z3j (ren P mem N 6) rw1).get k)
 | .flat g, hf, k => by
  refine ⟨rfl, fun j h1 h2 v hv => ?_⟩
  have fI : ∀ i, (g i).all (pf 6) = true := Vf hf
  exact ((Kw 6 _ _ (List.all_eq_true.1 (fI k) _ (List.getElem_mem h1)) hv).mono (z4s h N)).mono (y5o _)
 | .one r cs b, hf, k => by
  have ih := z4v h ho (N := N) b hf k
  have hc : RowTo ρ (y0c ρ mem N w) cs (cs.map (ren P mem N 6)) := ⟨by simp, fun j h1 h2 v hv => by simpa using z2a h ho 6 _ _ hv⟩
  simp only [z3j, Rws.get]
  cases Nat.beq k r with
  | true => exact hc
  | false => exact ih
 | .alt c a b, hf, k => by
  simp only [y3f, Bool.and_eq_true] at hf
  have iha := z4v h ho (N := N) a hf.1 k
  have ihb := z4v h ho (N := N) b hf.2 k
  simp only [z3j, Rws.get]
  cases c k with
  | true => exact iha
  | false => exact ihb
theorem x6z {mem : Mem} {next : Nat} {w : World} {ρ : Rho} (h : Rel ρ mem next w) {N : z6h} (ho : z5l mem N.frz = true) (hd : disj N.keep N.frz = true) (hfl : (z5i P mem N N.keep 0).2 = true) : Rel (y0c ρ mem N w) (z5i P mem N N.keep 0).1 N.keep.length w := by
 obtain ⟨hnd, hdj⟩ := y1h hd
 have get : ∀ j, Ys (z5i P mem N N.keep 0).1 j = (N.keep[j]?).bind fun b => (Ys mem b).map (y0e P mem N) := fun j => by
  rw [y7r, if_pos (Nat.zero_le _), Nat.sub_zero]
 have blk : ∀ {b' l}, (y0c ρ mem N w) b' = some l → ∃ b, N.keep[b']? = some b ∧ ρ b = some l := fun {b' l} e => by
  have e : (N.keep[b']?).bind (fun b => ρ b) = some l := e
  rw [Option.bind_eq_some_iff] at e
  obtain ⟨b, e1, e2⟩ := e
  exact ⟨b, e1, e2⟩
 have live : ∀ {b' b}, N.keep[b']? = some b → (Ys (z5i P mem N N.keep 0).1 b').isSome = true → (Ys mem b).isSome = true := fun {b' b} e hs => by
  rw [get, e] at hs
  simpa using hs
 refine ⟨fun b' l e => ?_, fun b' b'' l l' e e' hbl hs hs' => ?_, fun b' l ab e hm => ?_, fun k o e => ?_, fun b' l e hs => ?_, fun b' l e => ?_, fun b' hb => ?_, fun j l e => ?_⟩
 ·obtain ⟨b, e1, _⟩ := blk e
  exact (List.getElem?_eq_some_iff.1 e1).1
 ·obtain ⟨b, e1, e2⟩ := blk e
  obtain ⟨c, e3, e4⟩ := blk e'
  have := h.inj b c l l' e2 e4 hbl (live e1 hs) (live e3 hs')
  subst this
  exact (List.getElem?_inj (List.getElem?_eq_some_iff.1 e1).1 hnd).1 (e1.trans e3.symm)
 ·obtain ⟨b, e1, e2⟩ := blk e
  rw [get, e1] at hm
  simp only [Option.bind_some, Option.map_eq_some_iff] at hm
  obtain ⟨ab0, hm0, rfl⟩ := hm
  obtain ⟨hn, ht, har, cs, el, g1, g2, g3⟩ := h.blk b l ab0 e2 hm0
  obtain ⟨cells, ty, arr⟩ := ab0
  cases arr with
  | none =>
   refine ⟨by simpa [y0e] using hn, ht, (fun A hA => by cases hA), cs, el, g1, g2, fun i hi => ?_⟩
   have hi' : i < cells.length := by simpa [y0e] using hi
   obtain ⟨v, q1, q2⟩ := g3 i hi'
   exact ⟨v, q1, by simpa [y0e] using z2a h ho 6 _ _ q2⟩
  | some A =>
   obtain ⟨a1, a2, a3⟩ := har A rfl
   simp only at a1
   have hfb : w9a ⟨cells, ty, some A⟩ = true := z6q N.keep 0 hfl b (List.mem_of_getElem? e1) _ hm0
   have hrow := z4v (P := P) h ho (N := N) A.rw hfb
   have hl' : ∀ i, i < A.n → ((z3j (ren P mem N 6) A.rw).get i).length = A.sz := fun i hi => by rw [(hrow i).1]; exact a3 i hi
   have k1 := Yv A.n a3
   have k2 := Yv A.n hl'
   refine ⟨by show l.n = (Yg A.n _).length; rw [k2, hn]; show cells.length = _; rw [a1, k1], ht, (fun B hB => by obtain rfl := Option.some.inj hB; exact ⟨rfl, a2, hl'⟩), cs, el, g1, g2, fun i hi => ?_⟩
   have hi' : i < A.n * A.sz := by rw [← k2]; exact hi
   have hj : i % A.sz < A.sz := Nat.mod_lt _ a2
   have hq : i / A.sz < A.n := Nat.div_lt_of_lt_mul (by rw [Nat.mul_comm]; exact hi')
   have e : i / A.sz * A.sz + i % A.sz = i := by rw [Nat.mul_comm]; exact Nat.div_add_mod i A.sz
   have hic : i < cells.length := by rw [a1, k1]; exact hi'
   have r1 := Wm A.n a3 (i / A.sz) (i % A.sz) hq hj
   have r2 := Wm A.n hl' (i / A.sz) (i % A.sz) hq hj
   rw [e] at r1 r2
   have hi2 : i < (Yg A.n (z3j (ren P mem N 6) A.rw).get).length := hi
   have j1 : i % A.sz < (A.rw.get (i / A.sz)).length := by rw [show A.rw.get = A.get from rfl, a3 _ hq]; exact hj
   have j2 : i % A.sz < ((z3j (ren P mem N 6) A.rw).get (i / A.sz)).length := by rw [hl' _ hq]; exact hj
   obtain ⟨v, q1, q2⟩ := g3 i hic
   have s1 : cells[i] = (A.rw.get (i / A.sz))[i % A.sz] := by
    have : cells[i]? = some (A.rw.get (i / A.sz))[i % A.sz] := by rw [a1, r1, show A.get = A.rw.get from rfl, List.getElem?_eq_getElem j1]
    rw [List.getElem?_eq_getElem hic] at this
    exact Option.some.inj this
   have s2 : (Yg A.n (z3j (ren P mem N 6) A.rw).get)[i]'hi2 = ((z3j (ren P mem N 6) A.rw).get (i / A.sz))[i % A.sz] := by
    have : (Yg A.n (z3j (ren P mem N 6) A.rw).get)[i]? = some ((z3j (ren P mem N 6) A.rw).get (i / A.sz))[i % A.sz] := by rw [r2, List.getElem?_eq_getElem j2]
    rw [List.getElem?_eq_getElem hi2] at this
    exact Option.some.inj this
   refine ⟨v, q1, ?_⟩
   show VRel _ ((Yg A.n (z3j (ren P mem N 6) A.rw).get)[i]'hi2) v
   rw [s2]
   refine (hrow _).2 _ j1 j2 v ?_
   rw [← s1]; exact q2
 ·have e : @ite _ (Fz ρ mem N k) (Classical.propDecidable _) (w.heap[k]?) (ρ.fz k) = some o := e
  by_cases hf : Fz ρ mem N k
  ·rw [if_pos hf] at e; exact e
  ·rw [if_neg hf] at e; exact h.old k o e
 ·obtain ⟨b, e1, e2⟩ := blk e
  have hs0 := live e1 hs
  have hnf : ¬ Fz ρ mem N l.blk := fun ⟨c, l', c1, c2, c3, c4⟩ => by
   have := h.inj c b l' l c2 e2 c4 c3 hs0
   subst this
   exact hdj c (List.mem_of_getElem? e1) c1
  show @ite _ (Fz ρ mem N l.blk) (Classical.propDecidable _) (w.heap[l.blk]?) (ρ.fz l.blk) = none
  rw [if_neg hnf]
  exact h.sep b l e2 hs0
 ·obtain ⟨b, _, e2⟩ := blk e
  exact h.real b l e2
 ·rw [get, List.getElem?_eq_none hb]; rfl
 ·have e : (N.keep[j]?).bind (fun b => ρ.lp b) = some l := e
  rw [Option.bind_eq_some_iff] at e
  exact (List.getElem?_eq_some_iff.1 e.choose_spec.1).1
theorem renEv {H : Old} {mem : Mem} {next : Nat} {w0 w : World} {ρ : Rho} (h : Rel ρ mem next w) {N : z6h} (he : Ev (rhoOf H) ρ 0 .leaf 0 mem next w0 w) (mem' : Mem) (next' : Nat) : Ev (rhoOf H) (y0c ρ mem N w) 0 .leaf 0 mem' next' w0 w :=
 ⟨⟨fun b l e => (by cases e), fun k o e => z2t h N (he.ext.2.1 k o e), fun j l e => (by cases e)⟩, fun b hb => absurd hb (Nat.not_lt_zero _), Nat.zero_le _, fun b hb => absurd hb (Nat.not_lt_zero _), he.frame, fun b l _ e => by
   have e : (N.keep[b]?).bind (fun b => ρ b) = some l := e
   rw [Option.bind_eq_some_iff] at e
   obtain ⟨c, _, e2⟩ := e
   exact he.fresh c l (Nat.zero_le _) e2, he.size, he.os, he.tape, he.output, fun k hk => by
   have hnf : ¬ Fz ρ mem N k := fun ⟨b, l, _, e2, _, e4⟩ => by
    rcases he.fresh b l (Nat.zero_le _) e2 with h1 | ⟨b0, l0, e0, _⟩
    ·omega
    ·cases e0
   show @ite _ (Fz ρ mem N k) (Classical.propDecidable _) (w.heap[k]?) (ρ.fz k) = _
   rw [if_neg hnf]
   exact he.still k hk⟩
def z8j (P : Program) (C C' : Cfg) : Prop :=
 ∀ (H : Old) (w0 : World) (ρ : Rho) (b : Frame) (a : Act) (k : List Item) (css : List Frame) (w : World) (ma mb : List Nat), u0r P w0.heap.size C ρ b a k css w ma mb → Ev (rhoOf H) ρ 0 .leaf 0 C.st.mem C.st.next w0 w → ∀ cs0 : List Frame,
  ∃ ρ' b' a' k' css' w' ma' mb', Steps P (lone (b.atR a (Wq C.ro k)) (css ++ cs0) w) (lone (b'.atR a' (Wq C'.ro k')) (css' ++ cs0) w') ∧ u0r P w0.heap.size C' ρ' b' a' k' css' w' ma' mb' ∧ Ev (rhoOf H) ρ' 0 .leaf 0 C'.st.mem C'.st.next w0 w' ∧ x3b b' css' = x3b b css
theorem z8j.refl (C : Cfg) : z8j P C C := fun H w0 ρ b a k css w ma mb hs he cs0 => ⟨ρ, b, a, k, css, w, ma, mb, Steps.refl _ _, hs, he, rfl⟩
theorem z8j.trans {A B C : Cfg} (h : z8j P A B) (k : z8j P B C) : z8j P A C := by
 intro H w0 ρ b a t css w ma mb hs he cs0
 obtain ⟨ρ1, b1, a1, t1, css1, w1, ma1, mb1, s1, r1, e1, q1⟩ := h H w0 ρ b a t css w ma mb hs he cs0
 obtain ⟨ρ2, b2, a2, t2, css2, w2, ma2, mb2, s2, r2, e2, q2⟩ := k H w0 ρ1 b1 a1 t1 css1 w1 ma1 mb1 r1 e1 cs0
 exact ⟨ρ2, b2, a2, t2, css2, w2, ma2, mb2, s1.trans s2, r2, e2, q2.trans q1⟩
theorem z7j.goes {C C' : Cfg} (h : z7j P 0 C C') : z8j P C C' := fun H w0 ρ b a k css w ma mb hs he cs0 => h .leaf 0 (rhoOf H) w0 ρ b a k css w ma mb hs he cs0
def fl0 (C : Cfg) : Bool := Nat.beq C.cx.floor 0 && C.cs.all fun af => Nat.beq af.cx.floor 0
theorem w9b {C : Cfg} (h : fl0 C = true) : Fl 0 C := by
 unfold fl0 at h
 simp only [Bool.and_eq_true] at h
 exact ⟨Nat.eq_of_beq_eq_true h.1, fun af haf => Nat.eq_of_beq_eq_true (List.all_eq_true.1 h.2 af haf), Nat.zero_le _⟩
theorem y0d {f : AVal → AVal} {keep : List Nat} {fl : Nat} : ∀ {cs cs' : List AFr} {sl : List (Option (List Nat))}, x7a f keep cs sl = some cs' → (∀ af ∈ cs, af.cx.floor = fl) → ∀ af ∈ cs', af.cx.floor = fl
 | [], cs', sl, h, _, af, haf => by obtain rfl := Option.some.inj h; cases haf
 | a0 :: cs, cs', sl, h, hcs, af, haf => by
  unfold x7a at h
  split at h
  ·rename_i t1 r1 c1 g1 g2 g3
   obtain rfl := Option.some.inj h
   rcases List.mem_cons.1 haf with rfl | haf
   ·exact hcs a0 (List.mem_cons_self ..)
   ·exact y0d g3 (fun x hx => hcs x (List.mem_cons_of_mem _ hx)) af haf
  ·cases h
theorem x7g {N : z6h} {C C' : Cfg} (h : w7n P N C = some C') (ho : C'.st.ob = true) : C.st.ob = true ∧ z8j P C C' ∧ (Fl 0 C → Fl 0 C') := by
 obtain ⟨cx, ro, todo, rnd, rs, ⟨env, mem, next, orc, ob⟩, cs, lps⟩ := C
 simp only [w7n] at h
 split at h
 ·rename_i todo' rnd' cs' h1 h2 h3
  obtain ⟨hd, h⟩ := Zs h
  obtain rfl := Option.some.inj h
  simp only [Bool.and_eq_true] at ho
  obtain ⟨hkm, ho2, ho3⟩ := ho
  refine ⟨ho3, fun H w0 ρ b a k css w ma mb hs he cs0 => ?_, fun hfl => ⟨hfl.cx, fun af haf => ?_, Nat.zero_le _⟩⟩
  ·have eG := hs.rel
   simp only at eG he
   obtain ⟨f1, f2⟩ := x4f (P := P) eG ho2 h1 h2 hs.top (N.slots.headD none)
   obtain ⟨c1, c2⟩ := y6u (P := P) eG ho2 h3 hs.rest.cs
   refine ⟨y0c ρ mem N w, b, a, k, css, w, ma, mb, Steps.refl _ _, ⟨f1, fun hne => ⟨(hs.lv (c2 hne)).1, fun e => (hs.lv (c2 hne)).2 (f2 e)⟩, ⟨c1, hs.rest.nodup, fun r hr => ?_, fun j L hL => ?_, fun j j' L L' l hL hL' e e' => ?_⟩, ?_⟩, renEv eG he _ _, rfl⟩
   ·obtain ⟨q1, ⟨q2, q3, q4⟩, q5⟩ := hs.rest.marks r hr
    refine ⟨q1, ⟨q2, ?_, fun b' l e => ?_⟩, q5⟩
    ·show @ite _ (Fz ρ mem N r) (Classical.propDecidable _) (w.heap[r]?) (ρ.fz r) = none
     rw [if_neg fun ⟨c, l, _, e2, _, e4⟩ => q4 c l e2 e4]; exact q3
    ·have e : (N.keep[b']?).bind (fun b => ρ b) = some l := e
     rw [Option.bind_eq_some_iff] at e
     obtain ⟨c, _, e2⟩ := e
     exact q4 c l e2
   ·obtain ⟨_, c, L0, x, e1, e2, rfl⟩ := z2i N.keep 0 _ j L hL
    rw [Nat.sub_zero] at e1
    obtain ⟨l, q1, q2, ⟨q3, q4, q5⟩, tm, fn', d, q6, q7⟩ := hs.rest.loops c L0 e2
    refine ⟨l, ?_, q2, ⟨q3, ?_, fun b' l' e => ?_⟩, tm, fn', d, q6, x4g (P := P) eG ho2 q7 x⟩
    ·show (N.keep[j]?).bind (fun b => ρ.lp b) = some l
     rw [e1]; exact q1
    ·show @ite _ (Fz ρ mem N l) (Classical.propDecidable _) (w.heap[l]?) (ρ.fz l) = none
     rw [if_neg fun ⟨c, l, _, e2, _, e4⟩ => q5 c l e2 e4]; exact q4
    ·have e : (N.keep[b']?).bind (fun b => ρ b) = some l' := e
     rw [Option.bind_eq_some_iff] at e
     obtain ⟨c, _, e2⟩ := e
     exact q5 c l' e2
   ·obtain ⟨_, c, L0, x, e1, e2, rfl⟩ := z2i N.keep 0 _ j L hL
    obtain ⟨_, c', L0', x', e1', e2', rfl⟩ := z2i N.keep 0 _ j' L' hL'
    rw [Nat.sub_zero] at e1 e1'
    have e : (N.keep[j]?).bind (fun b => ρ.lp b) = some l := e
    have e' : (N.keep[j']?).bind (fun b => ρ.lp b) = some l := e'
    rw [e1] at e
    rw [e1'] at e'
    have := hs.rest.inj c c' L0 L0' l e2 e2' e e'
    subst this
    exact (List.getElem?_inj (List.getElem?_eq_some_iff.1 e1).1 (y1h hd).1).1 (e1.trans e1'.symm)
   ·exact x6z eG ho2 hd hkm
  ·exact y0d h3 hfl.cs af haf
 ·cases h
theorem y7u {S : Specs} {Rc : Runner} (hN : z7i P) (hmx : P.follows .mixedOrders = true) (hS : Zu P S) (hCI : x9i Rc) (hC : ROk P Rc) {fl : Nat} : ∀ (n : Nat) (C C' : Cfg), Fl fl C → w8j P S Rc n C = some C' → Fl fl C' ∧ Ww fl C.st C'.st ∧ (C'.st.ob = true → z7j P fl C C')
 | 0, C, C', hfl, h => by
  obtain rfl := Option.some.inj h
  exact ⟨hfl, Ww.refl _ _, fun _ => z7j.refl fl C⟩
 | n + 1, C, C', hfl, h => by
  have h : (match x6c P S Rc C with
   | some C' => w8j P S Rc n C'
   | none => none) = some C' := h
  split at h
  ·rename_i C1 h1
   have s1 := y6f hN hmx hS hCI hC hfl h1
   obtain ⟨f1, f4, f5⟩ := y7u hN hmx hS hCI hC n C1 C' s1.fls h
   exact ⟨f1, s1.inv.trans f4, fun ho => (s1.leads (f4.ob ho)).trans (f5 ho)⟩
  ·cases h
def Zc (P : Program) (f : FuncId) (args : List AVal) (sym : Bool) (orc : List Bool) : Cfg :=
 match P.funcs[f]? with
 | some fn => ⟨⟨Nat.max fn.ntmps args.length, 0, sym⟩, none, [.code (fn.body.getD .ret)], none, fn.results.toList, ⟨z6y args 0 .leaf, .leaf, 0, orc, true⟩, [], .leaf⟩
 | none => ⟨⟨0, 0, sym⟩, none, [], none, [], ⟨.leaf, .leaf, 0, [], true⟩, [], .leaf⟩
theorem goes_call {f : FuncId} {args : List AVal} {sym : Bool} {orc : List Bool} {C' : Cfg} {vs : List AVal} {H : Old} (hf : (P.funcs[f]?).any (fun fn => fn.body.isSome) = true) (h : z8j P (Zc P f args sym orc) C') (hfin : z3n C' = true) (hob : (Us P C'.st (Zc P f args sym orc).rs) = some vs)
  {vals : Array Value} {w : World} (eK : Wo (VRel (rhoOf H)) args vals.toList) (hH : ∀ k o, H k = some o → w.heap[k]? = some o) :
  Calls P f vals w fun e w' => ∃ ρ u, e = .returned u ∧ Out H w ρ (Ki vs) u w' := by
 cases hfn : P.funcs[f]? with
 | none => rw [hfn] at hf; cases hf
 | some fn =>
  rw [hfn] at hf
  have hf : fn.body.isSome = true := hf
  obtain ⟨body, hb⟩ := Option.isSome_iff_exists.1 hf
  have hstart : Zc P f args sym orc = ⟨⟨Nat.max fn.ntmps args.length, 0, sym⟩, none, [.code body], none, fn.results.toList, ⟨z6y args 0 .leaf, .leaf, 0, orc, true⟩, [], .leaf⟩ := by
   unfold Zc; rw [hfn]; simp [hb]
  rw [hstart] at h hob
  simp only at hob
  intro cs
  obtain ⟨ρ', b', a', k', css', w', ma', mb', s1, r1, v1, q1⟩ := h H w (rhoOf H) ⟨f, #[], [], [], .run, .normal, none⟩ { tmps := vals ++ Array.replicate (fn.ntmps - vals.size) undef, defers := [] } [.code body] [] w [] []
   ⟨⟨y1c eK fn.ntmps, rfl, .cons (.same _ rfl) .nil, trivial, rfl⟩, fun h => absurd rfl h, y2t _ _ _, y6v hH⟩ (Ev.refl _ _ _ _ _ (y6v hH).dom) cs
  obtain ⟨e1, e2, e3, e4⟩ := y1b hfin
  have hcs := r1.rest.cs
  rw [e3] at hcs
  cases hcs
  obtain ⟨w2, s2, henv', fE, hev', _⟩ := y1f r1 e1 e2 e4 rfl v1 cs
  obtain ⟨u, hu, gH⟩ := z0t (fn := fn) henv' fE hob
  have q : (b'.fn, b'.kind, b'.roundOf) = (f, CallKind.normal, none) := q1
  simp only [Prod.mk.injEq] at q
  have hen : Frame.enter P f vals .normal = Frame.atR ⟨f, #[], [], [], .run, .normal, none⟩ { tmps := vals ++ Array.replicate (fn.ntmps - vals.size) undef, defers := [] } (Wq none [.code body]) := by
   simp [Frame.enter, Frame.atR, hfn, hb, Wq]
  refine ⟨.returned u, w2, { b'.atR { a' with defers := [] } k' with mode := .returning }, ⟨ρ', u, rfl, out_of hu fE hev'⟩, ?_, q.1, rfl, rfl, q.2.1, fn, by show P.funcs[b'.fn]? = _; rw [q.1]; exact hfn, gH⟩
  rw [hen]; exact s1.trans s2
end
end Go.Am
namespace Go.Am
def Va : List ABlk → Nat → Mem
 | [], _ => .leaf
 | b :: l, i => Wv (Va l (i + 1)) i (some b)
def y3c (c : Nat → Int) : Nat → List AVal := fun i => [.int .i64 (c i)]
def Cfg.withO : Cfg → List Bool → Cfg
 | ⟨cx, ro, todo, rnd, rs, ⟨env, mem, next, _, _⟩, cs, lps⟩, o => ⟨cx, ro, todo, rnd, rs, ⟨env, mem, next, o, true⟩, cs, lps⟩
def Cfg.withB : Cfg → Bool → Cfg
 | ⟨cx, ro, todo, rnd, rs, ⟨env, mem, next, _, _⟩, cs, lps⟩, b => ⟨cx, ro, todo, rnd, rs, ⟨env, mem, next, [], b⟩, cs, lps⟩
inductive Xa (σ : Type) where
 | stuck
 | ret (vs : List AVal)
 | to (s : σ)
def Jc (P : Program) (rs : List ResultVar) (C : Cfg) (vs : List AVal) : Prop := ∃ C', z8j P C C' ∧ z3n C' = true ∧ Us P C'.st rs = some vs
def Xo (P : Program) (rs : List ResultVar) {σ : Type} (cfg : σ → Cfg) (C : Cfg) : Xa σ → Prop
 | .stuck => True
 | .ret vs => Jc P rs C vs
 | .to s => z8j P C (cfg s)
section
variable {P : Program} {rs : List ResultVar} {σ : Type} {cfg : σ → Cfg} {C : Cfg}
theorem x4x {c : Bool} {a b : Xa σ} (ha : c = true → Xo P rs cfg C a) (hb : c = false → Xo P rs cfg C b) : Xo P rs cfg C (bif c then a else b) := by
 cases c
 ·exact hb rfl
 ·exact ha rfl
theorem w8c {c : Bool} {a : Xa σ} (ha : c = true → Xo P rs cfg C a) : Xo P rs cfg C (bif c then a else .stuck) := x4x ha fun _ => trivial
theorem z0y {vs : List AVal} (C' : Cfg) (h : z8j P C C') (hf : z3n C' = true) (hr : Us P C'.st rs = some vs) : Xo P rs cfg C (.ret vs) := ⟨C', h, hf, hr⟩
end
def Yx {σ : Type} (step : σ → Xa σ) : Nat → Xa σ → Xa σ
 | 0, o => o
 | n + 1, .to s => Yx step n (step s)
 | _ + 1, o => o
theorem Zn {P : Program} {rs : List ResultVar} {σ : Type} {cfg : σ → Cfg} {step : σ → Xa σ} (fD : ∀ s, Xo P rs cfg (cfg s) (step s)) {C : Cfg} : ∀ (n : Nat) (o : Xa σ), Xo P rs cfg C o → Xo P rs cfg C (Yx step n o)
 | 0, o, h => h
 | n + 1, .stuck, h => h
 | n + 1, .ret vs, h => h
 | n + 1, .to s, h => Zn fD n (step s) (match step s, fD s with
  | .stuck, _ => trivial
  | .ret vs, ⟨C', g, hf, hr⟩ => ⟨C', z8j.trans h g, hf, hr⟩
  | .to s', g => z8j.trans h g)
theorem Zm {σ : Type} (step : σ → Xa σ) (n : Nat) (vs : List AVal) : Yx step n (.ret vs) = .ret vs := by cases n <;> rfl
theorem Zv {σ : Type} (step : σ → Xa σ) (n : Nat) (s : σ) : Yx step (n + 1) (.to s) = Yx step n (step s) := rfl
theorem z7p {a b : Bool} (ha : a = true) (hb : b = true) : (a && b) = true := by rw [ha, hb]; rfl
theorem w2i {a b : Bool} (h : a = b) : (a == b) = true := by rw [h]; cases b <;> rfl
def Specs.with (S : Specs) (f : FuncId) (F : List AVal → Option (AVal × Bool)) : Specs := fun g => bif Nat.beq g f then some (.val F) else S g
theorem y6g {P : Program} {f : FuncId} {args : List AVal} {sym : Bool} {orc : List Bool} : (Zc P f args sym orc).rs = Zy P f := by
 unfold Zc Zy
 cases P.funcs[f]? <;> rfl
theorem x9l {P : Program} {S : Specs} (hS : Zu P S) {f : FuncId} {F : List AVal → Option (AVal × Bool)} (hf : (P.funcs[f]?).any (fun fn => fn.body.isSome) = true)
  (hF : ∀ args v, F args = some (v, true) → ∃ vs, Ki vs = v ∧ Jc P (Zy P f) (Zc P f args true []) vs ∧ ∃ d, pf d v = true) : Zu P (S.with f F) := by
 intro g G hg
 unfold Specs.with at hg
 cases hgf : Nat.beq g f with
 | false => rw [hgf] at hg; exact hS g G hg
 | true =>
  rw [hgf] at hg
  obtain rfl : Spec.val F = G := Option.some.inj hg
  obtain rfl : g = f := Nat.eq_of_beq_eq_true hgf
  refine ⟨?_, fun args v hv H vals w eK hH => ?_⟩
  ·cases hfn : P.funcs[g]? with
   | none => rw [hfn] at hf; cases hf
   | some fn => rw [hfn] at hf; exact ⟨fn, rfl, hf⟩
  ·obtain ⟨vs, rfl, ⟨C', g1, g2, g3⟩, d, hp⟩ := hF args v hv
   exact (goes_call hf g1 g2 (by rw [y6g]; exact g3) eK hH).mono fun e w' ⟨ρ, u, he, ho⟩ => ⟨ρ.fz, u, ho.le, ho.old, ho.same, he, Kw d _ u hp ho.val, ho.below⟩
def cOf (get : Nat → List AVal) (i : Nat) : Int := match get i with
 | .int _ n :: _ => n
 | _ => 0
def isI (get : Nat → List AVal) : Bool := pd (get = y3c (cOf get))
theorem x5a {get : Nat → List AVal} (h : isI get = true) : ∃ c, get = y3c c := ⟨_, Vf h⟩
theorem w7s (x : Int) : (x != x) = false := by simp
theorem w9n (x : Int) : (x == x) = true := by simp
theorem w2n (x : Int) : (!(x != x)) = true := by simp
theorem w2o (x : Int) : (!(x == x)) = false := by simp
theorem w64 (n : Int) : IntKind.i64.wrap n = (n + 9223372036854775808) % 18446744073709551616 - 9223372036854775808 := by
 rw [IntKind.wrap_i64]
theorem w_in {n : Int} (h : -9223372036854775808 ≤ n) (h' : n ≤ 9223372036854775807) : IntKind.i64.wrap n = n := by simp only [w64]; omega
theorem v7x (x y : Int) : Wn x y = min x y := by unfold Wn; split <;> omega
theorem v7y (x y : Int) : Xm x y = max x y := by unfold Xm; split <;> omega
end Go.Am
namespace Go.Am
inductive VLe : AVal → AVal → Prop
 | refl (v : AVal) : VLe v v
 | undef (v : AVal) : VLe v .undef
 | nils (b sz off : Nat) (cap : v0x) : VLe .nils (.sla b sz off 0 cap)
 | sl (b sz q len : Nat) (cap : v0x) : VLe (.sl b (q * sz) len cap) (.sla b sz q len cap)
 | nild (g : Nat → List AVal) : VLe .nils (.dat 0 g)
 | dat (n : Nat) (g g' : Nat → List AVal) (h : ∀ i, i < n → g i = g' i) : VLe (.dat n g) (.dat n g')
theorem VLe.sound {ρ : Rho} {a a' : AVal} {v : Value} (h : VLe a a') (hv : VRel ρ a v) : VRel ρ a' v := by
 cases h with
 | refl => exact hv
 | undef => exact .undef _
 | nils b sz off cap => cases hv; exact .slan b sz off cap
 | sl b sz q len cap => cases hv with | sl _ _ _ _ l c h hc eH => exact .sla b sz q len cap l c h hc eH
 | nild g => cases hv; exact .datn _
 | dat n g g' hg =>
  cases hv with
  | datn => exact .datn _
  | datz => exact .datz _ _ _
  | dat _ _ blk base sz cap val eM hsz hv hh =>
   refine .dat n g' blk base sz cap val eM (fun i hi => by rw [← hg i hi]; exact hsz i hi) (fun i j hi hj => ?_) hh
   have e := hg i hi
   have hj' : j < (g i).length := by rw [e]; exact hj
   have := hv i j hi hj'
   simp only [e] at this
   exact this
theorem VLe.of_undef {a : AVal} (h : VLe .undef a) : a = .undef := by cases h <;> rfl
inductive RLe : List AVal → List AVal → Prop
 | nil : RLe [] []
 | cons {a b : AVal} {l m : List AVal} (h : VLe a b) (t : RLe l m) : RLe (a :: l) (b :: m)
theorem RLe.refl : ∀ l : List AVal, RLe l l
 | [] => .nil
 | a :: l => .cons (.refl a) (RLe.refl l)
theorem RLe.len {l m : List AVal} (h : RLe l m) : l.length = m.length := by
 induction h with
 | nil => rfl
 | cons _ _ ih => simp [ih]
theorem RLe.get {l m : List AVal} (h : RLe l m) : ∀ (i : Nat) (h1 : i < l.length) (h2 : i < m.length), VLe l[i] m[i] := by
 induction h with
 | nil => intro i h1; simp at h1
 | cons h _ ih =>
  intro i h1 h2
  cases i with
  | zero => exact h
  | succ i => exact ih i (by simpa using h1) (by simpa using h2)
inductive BLe : Option ABlk → Option ABlk → Prop
 | refl (b : Option ABlk) : BLe b b
 | drop (b : Option ABlk) : BLe b none
 | rowed (cells : List AVal) (ty : TypeId) (a : Option Arr) (sz n : Nat) (g : Nat → List AVal) (hc : cells = Yg n g) (h1 : 1 ≤ sz) (hl : ∀ i, i < n → (g i).length = sz) : BLe (some ⟨cells, ty, a⟩) (some ⟨Yg n g, ty, some ⟨sz, n, g⟩⟩)
 | rws (ty : TypeId) (sz n : Nat) (a a' : Rws) (h : ∀ k, k < n → RLe (a.get k) (a'.get k)) : BLe (some ⟨Yg n a.get, ty, some ⟨sz, n, a⟩⟩) (some ⟨Yg n a'.get, ty, some ⟨sz, n, a'⟩⟩)
theorem BLe.sound {ρ : Rho} {w : World} {a a' : ABlk} {l : Loc} (h : BLe (some a) (some a')) (hb : Qi ρ w a l) : Qi ρ w a' l := by
 cases h with
 | refl => exact hb
 | rowed cells ty a sz n g hc h1 hl =>
  subst hc
  refine ⟨hb.n, hb.tot, fun A hA => ?_, hb.cells⟩
  obtain rfl := Option.some.inj hA
  exact ⟨rfl, h1, hl⟩
 | rws ty sz n a a' h =>
  obtain ⟨_, h1, hl⟩ := hb.arr _ rfl
  have h1 : 1 ≤ sz := h1
  have hl : ∀ k, k < n → (a.get k).length = sz := hl
  have hl' : ∀ k, k < n → (a'.get k).length = sz := fun k hk => by rw [← (h k hk).len]; exact hl k hk
  have k1 := Yv n hl
  have k2 := Yv n hl'
  obtain ⟨cs, el, g1, g2, g3⟩ := hb.cells
  refine ⟨by rw [hb.n]; show (Yg n a.get).length = (Yg n a'.get).length; rw [k1, k2], hb.tot, fun A hA => ?_, cs, el, g1, g2, fun i hi => ?_⟩
  ·obtain rfl := Option.some.inj hA
   exact ⟨rfl, h1, hl'⟩
  ·have hi2 : i < (Yg n a'.get).length := hi
   have hi' : i < n * sz := by rw [← k2]; exact hi
   have hj : i % sz < sz := Nat.mod_lt _ h1
   have hq : i / sz < n := Nat.div_lt_of_lt_mul (by rw [Nat.mul_comm]; exact hi')
   have e : i / sz * sz + i % sz = i := by rw [Nat.mul_comm]; exact Nat.div_add_mod i sz
   have hic : i < (Yg n a.get).length := by rw [k1]; exact hi'
   have r1 := Wm n hl (i / sz) (i % sz) hq hj
   have r2 := Wm n hl' (i / sz) (i % sz) hq hj
   rw [e] at r1 r2
   have j1 : i % sz < (a.get (i / sz)).length := by rw [hl _ hq]; exact hj
   have j2 : i % sz < (a'.get (i / sz)).length := by rw [hl' _ hq]; exact hj
   obtain ⟨v, q1, q2⟩ := g3 i hic
   have q2 : VRel ρ ((Yg n a.get)[i]'hic) v := q2
   refine ⟨v, q1, ?_⟩
   show VRel ρ ((Yg n a'.get)[i]'hi2) v
   rw [List.getElem?_eq_getElem hic, List.getElem?_eq_getElem j1] at r1
   rw [List.getElem?_eq_getElem hi2, List.getElem?_eq_getElem j2] at r2
   rw [Option.some.inj r1] at q2
   rw [Option.some.inj r2]
   exact ((h _ hq).get _ j1 j2).sound q2
theorem z6j {g h : Nat → List AVal} : ∀ (n : Nat), (∀ i, i < n → g i = h i) → Yg n g = Yg n h
 | 0, _ => rfl
 | n + 1, e => by rw [z4q, z4q, z6j n fun i hi => e i (by omega), e n (by omega)]
def z3k (l : List Int) : Nat → Int := fun k => l.getD k 0
def z5k (asz sz off len n : Nat) (get : Nat → List AVal) : AVal := bif Nat.beq asz sz && Nat.ble (off + len) n then .dat len (fun k => get (off + k)) else .undef
theorem v8d (sz n : Nat) (g : Nat → List AVal) : z5k sz sz 0 n n g = .dat n g := by
 unfold z5k
 rw [show (Nat.beq sz sz && Nat.ble (0 + n) n) = true by simp [Nat.beq_refl, Nat.ble_eq], cond_true]
 congr 1
 funext k
 rw [Nat.zero_add]
def Qo (g : Nat → List AVal) : Bool := pd (∀ i, (g i).all (pf 6) = true)
theorem x5q {p : AVal → Bool} {l : List AVal} (h : l.all p = true) (n : Nat) : (l.take n).all p = true :=
 List.all_eq_true.2 fun x hx => List.all_eq_true.1 h x (List.mem_of_mem_take hx)
theorem x5r {p : AVal → Bool} {l : List AVal} (h : l.all p = true) (n : Nat) : (l.drop n).all p = true :=
 List.all_eq_true.2 fun x hx => List.all_eq_true.1 h x (List.mem_of_mem_drop hx)
theorem w3z {g : Nat → List AVal} {off len sz : Nat} {new : List AVal} (h : Qo g = true) (hn : new.all (pf 6) = true) : Qo (Ze g off len sz new) = true := pd_true fun i => by
 unfold Ze
 cases Nat.ble len i with
 | true => exact x5q (x5r hn _) _
 | false => exact Vf h _
theorem w3w {g : Nat → List AVal} {r fo : Nat} {cs : List AVal} (h : Qo g = true) (hn : cs.all (pf 6) = true) : Qo (Xd g r fo cs) = true := pd_true fun i => by
 unfold Xd
 cases Nat.beq i r with
 | true =>
  rw [cond_true, List.all_append, List.all_append, x5q (Vf h r), hn, x5r (Vf h r)]
  rfl
 | false => exact Vf h _
theorem x5u {P : Program} {S : Specs} (hS : Zu P S) {f : FuncId} {F : List AVal → Option (AVal × Bool)} (hf : (P.funcs[f]?).any (fun fn => fn.body.isSome) = true)
  (hF : ∀ args v, F args = some (v, true) → ∃ vs, (∀ (ρ : Rho) (u : Value), VRel ρ (Ki vs) u → VRel ρ v u) ∧ Jc P (Zy P f) (Zc P f args true []) vs ∧ ∃ d, pf d (Ki vs) = true) : Zu P (S.with f F) := by
 intro g G hg
 unfold Specs.with at hg
 cases hgf : Nat.beq g f with
 | false => rw [hgf] at hg; exact hS g G hg
 | true =>
  rw [hgf] at hg
  obtain rfl : Spec.val F = G := Option.some.inj hg
  obtain rfl : g = f := Nat.eq_of_beq_eq_true hgf
  refine ⟨?_, fun args v hv H vals w eK hH => ?_⟩
  ·cases hfn : P.funcs[g]? with
   | none => rw [hfn] at hf; cases hf
   | some fn => rw [hfn] at hf; exact ⟨fn, rfl, hf⟩
  ·obtain ⟨vs, hw, ⟨C', g1, g2, g3⟩, d, hp⟩ := hF args v hv
   exact (goes_call hf g1 g2 (by rw [y6g]; exact g3) eK hH).mono fun e w' ⟨ρ, u, he, ho⟩ => ⟨ρ.fz, u, ho.le, ho.old, ho.same, he, hw _ _ (Kw d _ u hp ho.val), ho.below⟩
theorem x8b : Qo (fun _ => []) = true := pd_true fun _ => rfl
theorem x2b (s t : Nat) : Qo (fun k => (([] : List AVal).drop (k * s)).take t) = true := pd_true fun i => by simp
theorem y1a {g : Nat → List AVal} {o : Nat} (h : Qo g = true) : Qo (fun k => g (o + k)) = true := pd_true fun i => Vf h (o + i)
theorem w3y {g h : Nat → List AVal} {len : Nat} (p : Qo g = true) (q : Qo h = true) : Qo (Jw g len h) = true := pd_true fun i => by
 unfold Jw
 cases Nat.ble len i with
 | true => exact Vf q _
 | false => exact Vf p _
def y8e (sz n : Nat) (g : Nat → List AVal) : Bool := pd (∀ i, i < n → (g i).length = sz ∧ (g i).all z7r = true)
end Go.Am
namespace Go.Am
open Go.Sort Go.RowKit
variable {P : Program} {ρ : Rho}
theorem Rel.rewritten {mem : Mem} {next : Nat} {w w' : World} (h : Rel ρ mem next w) {b : Nat} {l : Loc} {ab : ABlk} (hb : ρ b = some l) (hm : Ys mem b = some ab) {cs : List AVal}
  (eH : cs.length = ab.cells.length) (fC : ∀ k, k < w.heap.size → k ≠ l.blk → w'.heap[k]? = w.heap[k]?) (hsize : w.heap.size ≤ w'.heap.size)
  (hnew : ∃ cur el, w'.heap[l.blk]? = some (.cells cur el (0, 0)) ∧ l.base + l.tot ≤ cur.size ∧ ∀ (i : Nat) (hi : i < cs.length), ∃ v, cur[l.base + i]? = some v ∧ VRel ρ cs[i] v) :
  Rel ρ (Wv mem b (some ⟨cs, ab.ty, none⟩)) next w' := by
 have hbk := h.blk b l ab hb hm
 refine ⟨h.dom, fun c c' m m' e e' he hs hs' => ?_, fun c m ac e hc => ?_, fun k o e => ?_, fun c m e hs => h.sep c m e (by
  by_cases hcb : c = b
  ·rw [hcb, hm]; rfl
  ·rwa [Zw _ _ hcb] at hs), fun c m e => Nat.lt_of_lt_of_le (h.real c m e) hsize, fun c hc => by have := h.dom b l hb; rw [Zw _ _ (by omega)]; exact h.bd c hc, h.ldom⟩
 ·refine h.inj c c' m m' e e' he ?_ ?_
  ·by_cases hcb : c = b
   ·rw [hcb, hm]; rfl
   ·rwa [Zw _ _ hcb] at hs
  ·by_cases hcb : c' = b
   ·rw [hcb, hm]; rfl
   ·rwa [Zw _ _ hcb] at hs'
 ·by_cases hcb : c = b
  ·subst hcb
   rw [Yf] at hc
   obtain rfl := Option.some.inj hc
   rw [hb] at e
   obtain rfl := Option.some.inj e
   exact ⟨by rw [eH]; exact hbk.n, hbk.tot, (fun A e => by cases e), hnew⟩
  ·rw [Zw _ _ hcb] at hc
   refine (h.blk c m ac e hc).world (Rho.le_refl _) (fC m.blk (h.real c m e) fun heq => hcb ?_)
   exact h.inj c b m l e hb heq (by rw [hc]; rfl) (by rw [hm]; rfl)
 ·have hk := h.old k o e
  rw [fC k ?_ ?_]
  ·exact hk
  ·exact (Array.getElem?_eq_some_iff.1 hk).1
  ·intro heq
   have := h.sep b l hb (by rw [hm]; rfl)
   rw [← heq, e] at this
   cases this
def Za (n : Nat) (c : Nat → Int) : List Int := (List.range n).map c
def fRow (srt : List Int → List Int) (args : List AVal) (mem : Mem) : Option (AVal × Nat × ABlk × Bool) := match args with
 | [.sla b sz off n cap] => match Ys mem b with
  | some ⟨_, ty, some A⟩ => some (.tup [], b, ⟨Yg A.n (y3c (z3k (srt (Za n (cOf A.get))))), ty, some ⟨1, A.n, y3c (z3k (srt (Za n (cOf A.get))))⟩⟩,
    Nat.beq sz 1 && (Nat.beq A.sz 1 && (Nat.beq off 0 && (decide (n = A.n) && (isI A.get && decide (n < 4611686018427387904))))))
  | _ => none
 | _ => none
theorem Kz (n : Nat) (c : Nat → Int) (i : Nat) (h : i < n) : (Yg n (y3c c))[i]? = some (.int .i64 (c i)) := by
 have := Wm (get := y3c c) (sz := 1) n (fun _ _ => rfl) i 0 h Nat.one_pos
 simpa [y3c] using this
theorem Xn (n : Nat) (c : Nat → Int) : (Yg n (y3c c)).length = n := by
 rw [Yv (sz := 1) n fun _ _ => rfl, Nat.mul_one]
theorem z3c (w : World) (n blk off : Nat) (d : Array Int) (os : Array Obj) (k : Nat) (hk : k < w.heap.size) :
  (grow (putRow (Value.int .i64) (Go.Sort.ahead w n) blk off d) os).heap[k]? = if k = blk then (w.heap[k]?).map (onCells (putCells (Value.int .i64) off d)) else w.heap[k]? := by
 show (((Go.Sort.ahead w n).heap.modify blk (onCells (putCells (Value.int .i64) off d))) ++ os)[k]? = _
 rw [Array.getElem?_append_left (by simp; exact hk), Array.getElem?_modify]
 show (if blk = k then _ else _) = _
 by_cases h : k = blk
 ·rw [if_pos h.symm, if_pos h]; rfl
 ·rw [if_neg (fun e => h e.symm), if_neg h]; rfl
theorem Ev.rewritten {mem : Mem} {next floor : Nat} {w w' : World} (h : Rel ρ mem next w) {b : Nat} (o : Option ABlk) (hb : ∀ l, ρ b = some l → floor ≤ b) (hnone : ρ b = none → ∀ cs ty, Ys mem b ≠ some ⟨cs, ty, none⟩)
  (fC : ∀ k, k < w.heap.size → (∀ l, ρ b = some l → k ≠ l.blk) → w'.heap[k]? = w.heap[k]?) (hsize : w.heap.size ≤ w'.heap.size) (h1 : w'.os = w.os) (h2 : w'.tape = w.tape) (h3 : w'.output = w.output) :
  Ev ρ ρ floor mem next (Wv mem b o) next w w' where
 ext := Rho.le_refl _
 new _ _ := rfl
 nxt := Nat.le_refl _
 unborn k _ e cs ty hm := by
  by_cases hk : k = b
  ·subst hk; exact absurd hm (hnone e cs ty)
  ·rw [Zw _ _ hk]; exact hm
 frame k o hk hfr := by
  rw [fC k (Array.getElem?_eq_some_iff.1 hk).1 fun l hl heq => hfr b l hl (hb l hl) heq.symm]
  exact hk
 fresh k m hk e := by have := h.dom k m e; omega
 size := hsize
 os := h1
 tape := h2
 output := h3
 still _ _ := rfl
theorem Rel.unbornSet {mem : Mem} {next : Nat} {w : World} (h : Rel ρ mem next w) {b : Nat} (hb : ρ b = none) (hlt : b < next) (o : Option ABlk) : Rel ρ (Wv mem b o) next w := by
 have ne : ∀ c l, ρ c = some l → c ≠ b := fun c l e he => by rw [he, hb] at e; cases e
 refine ⟨h.dom, fun c c' m m' e e' he hs hs' => ?_, fun c m ac e hc => ?_, h.old, fun c m e hs => ?_, h.real, fun c hc => ?_, h.ldom⟩
 ·rw [Zw _ _ (ne _ _ e)] at hs
  rw [Zw _ _ (ne _ _ e')] at hs'
  exact h.inj c c' m m' e e' he hs hs'
 ·rw [Zw _ _ (ne _ _ e)] at hc
  exact h.blk c m ac e hc
 ·rw [Zw _ _ (ne _ _ e)] at hs
  exact h.sep c m e hs
 ·rw [Zw _ _ (by omega)]
  exact h.bd c hc
theorem v9v {f : FuncId} {srt : List Int → List Int} (hsl : ∀ zs, (srt zs).length = zs.length)
  (hC : ∀ (blk off cap : Nat) (zs : List Int) (w : World), Holds (Value.int .i64) w blk off zs.toArray → blk < w.heap.size → zs.length < 4611686018427387904 →
   Calls P f #[.slice (some ⟨blk, off, none⟩) zs.length cap] w fun e w' => e = .returned (.tuple #[]) ∧ ∃ n os, w' = grow (putRow (Value.int .i64) (Go.Sort.ahead w n) blk off (srt zs).toArray) os)
  (hN : ∀ (p : Option Addr) (cap : Nat) (w : World), Calls P f #[.slice p 0 cap] w fun e w' => e = .returned (.tuple #[]) ∧ w' = w) : y8z P f (fRow srt) := by
 intro args mem v b blk h hsome ρ next floor vals w hfl eK eG
 unfold fRow at h
 split at h
 ·rename_i b0 sz off n cap
  split at h
  ·rename_i cells ty A hm
   obtain ⟨asz, an, get⟩ := A
   simp only [Option.some.injEq, Prod.mk.injEq, Bool.and_eq_true] at h
   obtain ⟨rfl, rfl, rfl, h1, h2, h3, h4, h5, h6⟩ := h
   have g1 := Nat.eq_of_beq_eq_true h1
   have g2 := Nat.eq_of_beq_eq_true h2
   have g3 := Nat.eq_of_beq_eq_true h3
   have g4 : n = an := of_decide_eq_true h4
   have h6 : n < 4611686018427387904 := of_decide_eq_true h6
   subst g1
   subst g2
   subst g3
   subst g4
   obtain ⟨c, hcg⟩ := x5a h5
   have e0 : cOf (y3c c) = c := rfl
   simp only [hcg, e0]
   obtain ⟨u, hu, hvals⟩ : ∃ u, VRel ρ (.sla b0 1 0 n cap) u ∧ vals = #[u] := by
    obtain ⟨vl⟩ := vals
    cases eK with
    | cons h1 h2 => cases h2; exact ⟨_, h1, rfl⟩
   subst hvals
   have hlt : b0 < next := by
    rcases Nat.lt_or_ge b0 next with h | h
    ·exact h
    ·have := eG.bd b0 h; rw [hm] at this; cases this
   generalize hL : srt (Za n c) = L
   have hLl : L.length = n := by rw [← hL, hsl, Za, List.length_map, List.length_range]
   have hnn : ρ b0 = none → ∀ cs ty', Ys mem b0 ≠ some ⟨cs, ty', none⟩ := fun _ cs ty' e => by rw [hm] at e; cases e
   cases hu with
   | sla _ _ _ _ _ l cc e hc eH =>
    have hbk := eG.blk b0 l _ e hm
    obtain ⟨har, _, _⟩ := hbk.arr _ rfl
    simp only [hcg] at har
    subst har
    obtain ⟨cur, el, hh, hsz, eN⟩ := hbk.cells
    simp only [Xn] at eN
    have fB : ∀ i, i < n → cur[l.base + i]? = some (.int .i64 (c i)) := fun i hi => by
     obtain ⟨v, e1, e2⟩ := eN i hi
     rw [show (Yg n (y3c c))[i]'(by rw [Xn]; exact hi) = .int .i64 (c i) from Option.some.inj (by rw [← List.getElem?_eq_getElem, Kz n c i hi])] at e2
     cases e2
     exact e1
    have fQ := eG.real b0 l e
    have hzs : (Za n c).length = n := by rw [Za, List.length_map, List.length_range]
    have hH : Holds (Value.int .i64) w l.blk (l.base + 0 * 1) (Za n c).toArray := fun j hj => by
     have hj : j < n := by simpa [hzs] using hj
     refine ⟨?_, ?_⟩
     ·simp only [World.cell?, hh, Nat.zero_mul, Nat.add_zero]
      rw [fB j hj]
      simp [Za, hj]
     ·simp [World.frozen?, hh]
    have eZ := hC l.blk (l.base + 0 * 1) cc (Za n c) w hH fQ (by omega)
    rw [hzs, hL] at eZ
    refine eZ.mono fun e' w' ⟨he, q, os, hw'⟩ => ⟨_, he, ?_, ?_, ?_⟩
    ·exact .tup [] #[] rfl fun i h1 h2 => absurd h1 (Nat.not_lt_zero _)
    ·subst hw'
     refine Rel.setArr ?_ ⟨1, n, y3c (z3k L)⟩ rfl (Nat.le_refl 1) fun _ _ => rfl
     refine Rel.rewritten eG e hm (by simp only [Xn]) (fun k hk hne => ?_) ?_ ?_
     ·rw [z3c _ _ _ _ _ _ _ hk, if_neg hne]
     ·show _ ≤ (((Go.Sort.ahead w q).heap.modify _ _) ++ os).size
      simp only [Array.size_append, Array.size_modify]
      exact Nat.le_add_right _ _
     ·refine ⟨putCells (Value.int .i64) (l.base + 0 * 1) L.toArray cur, el, ?_, ?_, fun i hi => ?_⟩
      ·rw [z3c _ _ _ _ _ _ _ fQ, if_pos rfl, hh]; rfl
      ·simp only [putCells, Array.size_mapIdx]; exact hsz
      ·rw [Xn] at hi
       refine ⟨.int .i64 (z3k L i), ?_, ?_⟩
       ·simp only [putCells, Array.getElem?_mapIdx, fB i hi, Option.map_some, Nat.zero_mul, Nat.add_zero]
        rw [if_pos ⟨by omega, by simp [hLl]; omega⟩]
        congr 1
        simp [z3k, hLl, hi]
       ·rw [show (Yg n (y3c (z3k L)))[i]'(by rw [Xn]; exact hi) = .int .i64 (z3k L i) from Option.some.inj (by rw [← List.getElem?_eq_getElem, Kz n _ i hi])]
        exact .int _ _
    ·subst hw'
     refine Ev.rewritten eG _ (fun l' _ => hfl) hnn (fun k hk hne => ?_) ?_ rfl rfl rfl
     ·rw [z3c _ _ _ _ _ _ _ hk, if_neg (hne l e)]
     ·show _ ≤ (((Go.Sort.ahead w q).heap.modify _ _) ++ os).size
      simp only [Array.size_append, Array.size_modify]
      exact Nat.le_add_right _ _
   | slan =>
    refine (hN none 0 w).mono fun e' w' ⟨he, hw'⟩ => ⟨_, he, ?_, ?_, ?_⟩
    ·exact .tup [] #[] rfl fun i h1 h2 => absurd h1 (Nat.not_lt_zero _)
    ·subst hw'
     refine Rel.setArr ?_ ⟨1, 0, y3c (z3k L)⟩ rfl (Nat.le_refl 1) fun _ _ => rfl
     cases e : ρ b0 with
     | none => exact Rel.unbornSet eG e hlt _
     | some l =>
      have hbk := eG.blk b0 l _ e hm
      obtain ⟨har, _, _⟩ := hbk.arr _ rfl
      simp only [hcg] at har
      subst har
      obtain ⟨cur, el, hh, hsz, eN⟩ := hbk.cells
      exact Rel.rewritten eG e hm rfl (fun _ _ _ => rfl) (Nat.le_refl _) ⟨cur, el, hh, hsz, fun i hi => absurd hi (Nat.not_lt_zero _)⟩
    ·subst hw'
     exact Ev.rewritten eG _ (fun l' _ => hfl) hnn (fun _ _ _ => rfl) (Nat.le_refl _) rfl rfl rfl
  ·cases h
 ·cases h
def fCut (srt : List Int → List Int) (res : List Int → Nat) (args : List AVal) (mem : Mem) : Option (AVal × Nat × ABlk × Bool) := match args with
 | [.sla b sz off n cap] => match Ys mem b with
  | some ⟨_, ty, some A⟩ => some (.sla b 1 0 (res (Za n (cOf A.get))) cap, b, ⟨Yg A.n (y3c (z3k (srt (Za n (cOf A.get))))), ty, some ⟨1, A.n, y3c (z3k (srt (Za n (cOf A.get))))⟩⟩,
    Nat.beq sz 1 && (Nat.beq A.sz 1 && (Nat.beq off 0 && (decide (n = A.n) && (isI A.get && decide (n < 4611686018427387904))))))
  | _ => none
 | _ => none
theorem v9w {f : FuncId} {srt : List Int → List Int} {res : List Int → Nat} (hsl : ∀ zs, (srt zs).length = zs.length) (gH : ∀ zs, res zs ≤ zs.length)
  (hC : ∀ (blk off cap : Nat) (zs : List Int) (w : World), Holds (Value.int .i64) w blk off zs.toArray → blk < w.heap.size → zs.length < 4611686018427387904 → zs.length ≤ cap →
   Calls P f #[.slice (some ⟨blk, off, none⟩) zs.length cap] w fun e w' => e = .returned (.slice (some ⟨blk, off, none⟩) (res zs) cap) ∧ ∃ n os, w' = grow (putRow (Value.int .i64) (Go.Sort.ahead w n) blk off (srt zs).toArray) os)
  (hN : ∀ (p : Option Addr) (cap : Nat) (w : World), Calls P f #[.slice p 0 cap] w fun e w' => e = .returned (.slice p 0 cap) ∧ w' = w) : y8z P f (fCut srt res) := by
 intro args mem v b blk h hsome ρ next floor vals w hfl eK eG
 unfold fCut at h
 split at h
 ·rename_i b0 sz off n cap
  split at h
  ·rename_i cells ty A hm
   obtain ⟨asz, an, get⟩ := A
   simp only [Option.some.injEq, Prod.mk.injEq, Bool.and_eq_true] at h
   obtain ⟨rfl, rfl, rfl, h1, h2, h3, h4, h5, h6⟩ := h
   have g1 := Nat.eq_of_beq_eq_true h1
   have g2 := Nat.eq_of_beq_eq_true h2
   have g3 := Nat.eq_of_beq_eq_true h3
   have g4 : n = an := of_decide_eq_true h4
   have h6 : n < 4611686018427387904 := of_decide_eq_true h6
   subst g1
   subst g2
   subst g3
   subst g4
   obtain ⟨c, hcg⟩ := x5a h5
   have e0 : cOf (y3c c) = c := rfl
   simp only [hcg, e0]
   obtain ⟨u, hu, hvals⟩ : ∃ u, VRel ρ (.sla b0 1 0 n cap) u ∧ vals = #[u] := by
    obtain ⟨vl⟩ := vals
    cases eK with
    | cons h1 h2 => cases h2; exact ⟨_, h1, rfl⟩
   subst hvals
   have hlt : b0 < next := by
    rcases Nat.lt_or_ge b0 next with h | h
    ·exact h
    ·have := eG.bd b0 h; rw [hm] at this; cases this
   generalize hL : srt (Za n c) = L
   have hLl : L.length = n := by rw [← hL, hsl, Za, List.length_map, List.length_range]
   have hnn : ρ b0 = none → ∀ cs ty', Ys mem b0 ≠ some ⟨cs, ty', none⟩ := fun _ cs ty' e => by rw [hm] at e; cases e
   cases hu with
   | sla _ _ _ _ _ l cc e hc eH =>
    have hbk := eG.blk b0 l _ e hm
    obtain ⟨har, _, _⟩ := hbk.arr _ rfl
    simp only [hcg] at har
    subst har
    obtain ⟨cur, el, hh, hsz, eN⟩ := hbk.cells
    simp only [Xn] at eN
    have fB : ∀ i, i < n → cur[l.base + i]? = some (.int .i64 (c i)) := fun i hi => by
     obtain ⟨v, e1, e2⟩ := eN i hi
     rw [show (Yg n (y3c c))[i]'(by rw [Xn]; exact hi) = .int .i64 (c i) from Option.some.inj (by rw [← List.getElem?_eq_getElem, Kz n c i hi])] at e2
     cases e2
     exact e1
    have fQ := eG.real b0 l e
    have hzs : (Za n c).length = n := by rw [Za, List.length_map, List.length_range]
    have hH : Holds (Value.int .i64) w l.blk (l.base + 0 * 1) (Za n c).toArray := fun j hj => by
     have hj : j < n := by simpa [hzs] using hj
     refine ⟨?_, ?_⟩
     ·simp only [World.cell?, hh, Nat.zero_mul, Nat.add_zero]
      rw [fB j hj]
      simp [Za, hj]
     ·simp [World.frozen?, hh]
    have eZ := hC l.blk (l.base + 0 * 1) cc (Za n c) w hH fQ (by omega) (by omega)
    rw [hzs, hL] at eZ
    refine eZ.mono fun e' w' ⟨he, q, os, hw'⟩ => ⟨_, he, ?_, ?_, ?_⟩
    ·exact .sla _ _ _ _ _ l cc e hc (Nat.le_trans (gH _) (by omega))
    ·subst hw'
     refine Rel.setArr ?_ ⟨1, n, y3c (z3k L)⟩ rfl (Nat.le_refl 1) fun _ _ => rfl
     refine Rel.rewritten eG e hm (by simp only [Xn]) (fun k hk hne => ?_) ?_ ?_
     ·rw [z3c _ _ _ _ _ _ _ hk, if_neg hne]
     ·show _ ≤ (((Go.Sort.ahead w q).heap.modify _ _) ++ os).size
      simp only [Array.size_append, Array.size_modify]
      exact Nat.le_add_right _ _
     ·refine ⟨putCells (Value.int .i64) (l.base + 0 * 1) L.toArray cur, el, ?_, ?_, fun i hi => ?_⟩
      ·rw [z3c _ _ _ _ _ _ _ fQ, if_pos rfl, hh]; rfl
      ·simp only [putCells, Array.size_mapIdx]; exact hsz
      ·rw [Xn] at hi
       refine ⟨.int .i64 (z3k L i), ?_, ?_⟩
       ·simp only [putCells, Array.getElem?_mapIdx, fB i hi, Option.map_some, Nat.zero_mul, Nat.add_zero]
        rw [if_pos ⟨by omega, by simp [hLl]; omega⟩]
        congr 1
        simp [z3k, hLl, hi]
       ·rw [show (Yg n (y3c (z3k L)))[i]'(by rw [Xn]; exact hi) = .int .i64 (z3k L i) from Option.some.inj (by rw [← List.getElem?_eq_getElem, Kz n _ i hi])]
        exact .int _ _
    ·subst hw'
     refine Ev.rewritten eG _ (fun l' _ => hfl) hnn (fun k hk hne => ?_) ?_ rfl rfl rfl
     ·rw [z3c _ _ _ _ _ _ _ hk, if_neg (hne l e)]
     ·show _ ≤ (((Go.Sort.ahead w q).heap.modify _ _) ++ os).size
      simp only [Array.size_append, Array.size_modify]
      exact Nat.le_add_right _ _
   | slan =>
    refine (hN none 0 w).mono fun e' w' ⟨he, hw'⟩ => ⟨_, he, ?_, ?_, ?_⟩
    ·rw [show res (Za 0 c) = 0 from Nat.le_zero.1 (gH _)]
     exact .slan _ _ _ _
    ·subst hw'
     refine Rel.setArr ?_ ⟨1, 0, y3c (z3k L)⟩ rfl (Nat.le_refl 1) fun _ _ => rfl
     cases e : ρ b0 with
     | none => exact Rel.unbornSet eG e hlt _
     | some l =>
      have hbk := eG.blk b0 l _ e hm
      obtain ⟨har, _, _⟩ := hbk.arr _ rfl
      simp only [hcg] at har
      subst har
      obtain ⟨cur, el, hh, hsz, eN⟩ := hbk.cells
      exact Rel.rewritten eG e hm rfl (fun _ _ _ => rfl) (Nat.le_refl _) ⟨cur, el, hh, hsz, fun i hi => absurd hi (Nat.not_lt_zero _)⟩
    ·subst hw'
     exact Ev.rewritten eG _ (fun l' _ => hfl) hnn (fun _ _ _ => rfl) (Nat.le_refl _) rfl rfl rfl
  ·cases h
 ·cases h
end Go.Am
namespace Go.Am
theorem y7i (a : Nat) : (Nat.beq a a == true) = true := by simp [Nat.beq_refl]
end Go.Am
namespace Go.Am
inductive VP where
 | keep
 | drop
  | grow (b sz : Nat)
  | list (n : Nat) (g : Nat → List AVal)
  | len (n : Nat)
  | frz (n n' : Nat) (a g : Nat → List AVal)
def Jz (n : Nat) (a g : Nat → List AVal) : Bool := pd (∀ i, i < n → a i = g i)
def w0y (cells : List AVal) (sz n : Nat) (g : Nat → List AVal) : Bool := pd (cells = Yg n g ∧ 1 ≤ sz ∧ ∀ i, i < n → (g i).length = sz)
def rlesR (n : Nat) (a g : Nat → List AVal) : Bool := pd (∀ i, i < n → RLe (a i) (g i))
def y4w (a b : Nat) : Bool := pd (a = b)
theorem Uy {a b : Nat} (h : a = b) : y4w a b = true := pd_true h
def w3u (v : AVal) (n : Nat) (a : Nat → List AVal) : Bool := pd (v = .dat n a)
theorem w8w (sz n : Nat) (g : Nat → List AVal) : w3u (z5k sz sz 0 n n g) n g = true := pd_true (v8d sz n g)
theorem w3t (n : Nat) (g : Nat → List AVal) : w3u (.dat n g) n g = true := pd_true rfl
def y7n : VP → AVal → Bool → AVal × Bool
 | .keep, v, ob => (v, ob)
 | .drop, _, ob => (.undef, ob)
 | .grow b sz, v, ob => match v with
  | .nils => (.sla b sz 0 0 (.un sz), ob)
  | .sl b o len cap => (.sla b sz 0 len cap, Nat.beq o 0 && ob)
  | v => (v, ob)
 | .list n' g, v, ob => match v with
  | .nils => (.dat 0 g, ob)
  | .dat n a => (.dat n' g, y4w n n' && (Jz n a g && ob))
  | v => (v, ob)
 | .len n', v, ob => match v with
  | .sla b sz off n cap => (.sla b sz off n' cap, y4w n n' && ob)
  | v => (v, ob)
 | .frz n n' a g, v, ob => (.dat n' g, w3u v n a && (y4w n n' && (Jz n a g && ob)))
theorem x4v {p : VP} {v : AVal} {ob : Bool} (h : (y7n p v ob).2 = true) : VLe v (y7n p v ob).1 ∧ ob = true := by
 cases p with
 | keep => exact ⟨.refl _, h⟩
 | drop => exact ⟨.undef _, h⟩
 | grow b sz =>
  cases v with
  | nils => exact ⟨.nils _ _ _ _, h⟩
  | sl b' o len cap =>
   simp only [y7n, Bool.and_eq_true] at h
   have e := Nat.eq_of_beq_eq_true h.1
   subst e
   have := VLe.sl b' sz 0 len cap
   rw [Nat.zero_mul] at this
   exact ⟨this, h.2⟩
  | _ => exact ⟨.refl _, h⟩
 | list n' g =>
  cases v with
  | nils => exact ⟨.nild _, h⟩
  | dat n a =>
   simp only [y7n, Bool.and_eq_true] at h
   obtain rfl := Vf h.1
   exact ⟨.dat _ _ _ (Vf h.2.1), h.2.2⟩
  | _ => exact ⟨.refl _, h⟩
 | len n' =>
  cases v with
  | sla b sz off n cap =>
   simp only [y7n, Bool.and_eq_true] at h
   obtain rfl := Vf h.1
   exact ⟨.refl _, h.2⟩
  | _ => exact ⟨.refl _, h⟩
 | frz n n' a g =>
  simp only [y7n, Bool.and_eq_true] at h
  obtain rfl := Vf h.1
  obtain rfl := Vf h.2.1
  exact ⟨.dat _ _ _ (Vf h.2.2.1), h.2.2.2⟩
def y7m : List VP → List AVal → Bool → List AVal × Bool
 | _, [], ob => ([], ob)
 | [], l, ob => (l, ob)
 | p :: ps, v :: l, ob => match y7m ps l ob with
  | (l', ob) => match y7n p v ob with
   | (v', ob) => (v' :: l', ob)
theorem y0o : ∀ {ps : List VP} {l : List AVal} {ob : Bool}, (y7m ps l ob).2 = true → RLe l (y7m ps l ob).1 ∧ ob = true
 | [], [], _, h => ⟨.nil, h⟩
 | _ :: _, [], _, h => ⟨.nil, h⟩
 | [], a :: l, _, h => ⟨RLe.refl _, h⟩
 | p :: ps, v :: l, ob, h => by
  simp only [y7m] at h ⊢
  obtain ⟨h1, h2⟩ := x4v h
  obtain ⟨h3, h4⟩ := y0o h2
  exact ⟨.cons h1 h3, h4⟩
inductive BP where
 | keep
 | drop
 | cells (ps : List VP)
 | rowed (sz n : Nat) (g : Nat → List AVal)
 | rws (a : Rws)
def y0p : BP → Option ABlk → Bool → Option ABlk × Bool
 | .keep, o, ob => (o, ob)
 | .drop, _, ob => (none, ob)
 | .cells ps, o, ob => match o with
  | some ⟨cells, ty, none⟩ => match y7m ps cells ob with
   | (cs, ob) => (some ⟨cs, ty, none⟩, ob)
  | o => (o, ob)
 | .rowed sz n g, o, ob => match o with
  | some ⟨cells, ty, none⟩ => (some ⟨Yg n g, ty, some ⟨sz, n, .flat g⟩⟩, w0y cells sz n g && ob)
  | some ⟨_, ty, some ⟨sz', n', a⟩⟩ => (some ⟨Yg n g, ty, some ⟨sz', n, .flat g⟩⟩, y4w n' n && (Jz n' a.get g && ob))
  | o => (o, ob)
 | .rws a', o, ob => match o with
  | some ⟨_, ty, some ⟨sz, n, a⟩⟩ => (some ⟨Yg n a'.get, ty, some ⟨sz, n, a'⟩⟩, rlesR n a.get a'.get && ob)
  | o => (o, ob)
theorem RLe.sound {ρ : Rho} {l m : List AVal} (h : RLe l m) (i : Nat) (h1 : i < l.length) (h2 : i < m.length) {v : Value} (hv : VRel ρ l[i] v) : VRel ρ m[i] v := (h.get i h1 h2).sound hv
theorem x1f {p : BP} {o : Option ABlk} {ob : Bool} {x' : ABlk} (h : (y0p p o ob).2 = true) (hx : (y0p p o ob).1 = some x') : ob = true ∧ ∃ x, o = some x ∧ ∀ (ρ : Rho) (w : World) (l : Loc), Qi ρ w x l → Qi ρ w x' l := by
 cases p with
 | keep => exact ⟨h, x', hx, fun _ _ _ q => q⟩
 | drop => cases hx
 | cells ps =>
  rcases o with _ | ⟨cells, ty, _ | A⟩
  ·cases hx
  ·simp only [y0p] at h hx
   obtain ⟨h1, h2⟩ := y0o h
   obtain rfl := Option.some.inj hx
   refine ⟨h2, _, rfl, fun ρ w l hb => ?_⟩
   obtain ⟨cs, el, g1, g2, g3⟩ := hb.cells
   refine ⟨by rw [hb.n]; exact h1.len, hb.tot, (fun A hA => by cases hA), cs, el, g1, g2, fun i hi => ?_⟩
   have hi0 : i < cells.length := by rw [h1.len]; exact hi
   obtain ⟨v, q1, q2⟩ := g3 i hi0
   exact ⟨v, q1, h1.sound i hi0 hi q2⟩
  ·exact ⟨h, _, rfl, fun ρ w l hb => by obtain rfl := Option.some.inj hx; exact hb⟩
 | rowed sz n g =>
  rcases o with _ | ⟨cells, ty, _ | ⟨sz', n', a⟩⟩
  ·cases hx
  ·simp only [y0p, Bool.and_eq_true] at h hx
   obtain rfl := Option.some.inj hx
   obtain ⟨h1, h2, h3⟩ := Vf h.1
   exact ⟨h.2, _, rfl, fun ρ w l hb => (BLe.rowed cells ty none sz n g h1 h2 h3).sound hb⟩
  ·simp only [y0p, Bool.and_eq_true] at h hx
   obtain rfl := Option.some.inj hx
   obtain rfl := Vf h.1
   have h1 := Vf h.2.1
   refine ⟨h.2.2, _, rfl, fun ρ w l hb => ?_⟩
   obtain ⟨q1, q2, q3⟩ := hb.arr _ rfl
   exact (BLe.rowed cells ty _ sz' n' g (q1.trans (z6j _ h1)) q2 fun i hi => by rw [← h1 i hi]; exact q3 i hi).sound hb
 | rws a' =>
  rcases o with _ | ⟨cells, ty, _ | ⟨sz', n', a⟩⟩
  ·cases hx
  ·exact ⟨h, _, rfl, fun ρ w l hb => by obtain rfl := Option.some.inj hx; exact hb⟩
  ·simp only [y0p, Bool.and_eq_true] at h hx
   obtain rfl := Option.some.inj hx
   refine ⟨h.2, _, rfl, fun ρ w l hb => ?_⟩
   obtain ⟨q1, _, _⟩ := hb.arr _ rfl
   have q1 : cells = Yg n' a.get := q1
   subst q1
   exact (BLe.rws ty sz' n' a a' (Vf h.1)).sound hb
def x7l : List (Nat × VP) → T AVal → Bool → T AVal × Bool
 | [], env, ob => (env, ob)
 | (t, p) :: l, env, ob => match x7l l env ob with
  | (e, ob) => match y7n p (T.get .undef e t) ob with
   | (v, ob) => (T.set .undef e t v, ob)
def ELe (e e' : T AVal) : Prop := ∀ t, (∀ (ρ : Rho) (v : Value), VRel ρ (T.get .undef e t) v → VRel ρ (T.get .undef e' t) v) ∧ (T.get .undef e t = .undef → T.get .undef e' t = .undef)
theorem ELe.refl (e : T AVal) : ELe e e := fun _ => ⟨fun _ _ h => h, fun h => h⟩
theorem y4v : ∀ {l : List (Nat × VP)} {env : T AVal} {ob : Bool}, (x7l l env ob).2 = true → ELe env (x7l l env ob).1 ∧ ob = true
 | [], _, _, h => ⟨ELe.refl _, h⟩
 | (t, p) :: l, env, ob, h => by
  simp only [x7l] at h ⊢
  obtain ⟨h1, h2⟩ := x4v h
  obtain ⟨h3, h4⟩ := y4v h2
  refine ⟨fun s => ?_, h4⟩
  rw [T.get_set]
  by_cases e : s = t
  ·subst e
   rw [if_pos rfl]
   exact ⟨fun ρ v hv => h1.sound ((h3 s).1 ρ v hv), fun hu => by have e := (h3 s).2 hu; rw [e] at h1 ⊢; exact h1.of_undef⟩
  ·rw [if_neg e]; exact h3 s
def x1e : List BP → Nat → Mem → Bool → Mem × Bool
 | [], _, m, ob => (m, ob)
 | p :: ps, i, m, ob => match x1e ps (i + 1) m ob with
  | (m', ob) => match y0p p (Ys m i) ob with
   | (x, ob) => (Wv m' i x, ob)
theorem w8b {p : BP} {o : Option ABlk} {ob : Bool} (h : (y0p p o ob).2 = true) : ob = true := by
 cases p with
 | keep => exact h
 | drop => exact h
 | cells ps =>
  rcases o with _ | ⟨cells, ty, _ | A⟩
  ·exact h
  ·exact (y0o h).2
  ·exact h
 | rowed sz n g =>
  rcases o with _ | ⟨cells, ty, _ | A⟩
  ·exact h
  ·simp only [y0p, Bool.and_eq_true] at h; exact h.2
  ·simp only [y0p, Bool.and_eq_true] at h; exact h.2.2
 | rws a =>
  rcases o with _ | ⟨cells, ty, _ | A⟩
  ·exact h
  ·exact h
  ·simp only [y0p, Bool.and_eq_true] at h; exact h.2
theorem y2z : ∀ {ps : List BP} {i : Nat} {m : Mem} {ob : Bool}, (x1e ps i m ob).2 = true → ob = true ∧ ∀ b x', Ys (x1e ps i m ob).1 b = some x' → ∃ x, Ys m b = some x ∧ ∀ (ρ : Rho) (w : World) (l : Loc), Qi ρ w x l → Qi ρ w x' l
 | [], _, _, _, h => ⟨h, fun b x' hb => ⟨x', hb, fun _ _ _ q => q⟩⟩
 | p :: ps, i, m, ob, h => by
  simp only [x1e] at h ⊢
  have hob : (x1e ps (i + 1) m ob).2 = true := w8b h
  obtain ⟨h1, h2⟩ := y2z hob
  refine ⟨h1, fun b x' hb => ?_⟩
  rw [Wa] at hb
  by_cases e : b = i
  ·subst e
   rw [if_pos rfl] at hb
   exact (x1f h hb).2
  ·rw [if_neg e] at hb
   exact h2 b x' hb
def x7k : List (List (Nat × VP)) → List AFr → Bool → List AFr × Bool
 | _, [], ob => ([], ob)
 | [], l, ob => (l, ob)
 | p :: ps, ⟨cx, ro, todo, rnd, rs, env⟩ :: l, ob => match x7k ps l ob with
  | (l', ob) => match x7l p env ob with
   | (e, ob) => (⟨cx, ro, todo, rnd, rs, e⟩ :: l', ob)
def FLe (a a' : AFr) : Prop := a.cx = a'.cx ∧ a.ro = a'.ro ∧ a.todo = a'.todo ∧ a.rnd = a'.rnd ∧ a.rs = a'.rs ∧ ELe a.env a'.env
theorem FLe.refl (a : AFr) : FLe a a := ⟨rfl, rfl, rfl, rfl, rfl, ELe.refl _⟩
theorem Wo.refl' : ∀ l : List AFr, Wo FLe l l
 | [] => .nil
 | a :: l => .cons (FLe.refl a) (Wo.refl' l)
theorem x4w : ∀ {ps : List (List (Nat × VP))} {l : List AFr} {ob : Bool}, (x7k ps l ob).2 = true → Wo FLe l (x7k ps l ob).1 ∧ ob = true
 | [], [], _, h => ⟨.nil, h⟩
 | _ :: _, [], _, h => ⟨.nil, h⟩
 | [], a :: l, _, h => ⟨Wo.refl' _, h⟩
 | p :: ps, ⟨cx, ro, todo, rnd, rs, env⟩ :: l, ob, h => by
  simp only [x7k] at h ⊢
  obtain ⟨h1, h2⟩ := y4v h
  obtain ⟨h3, h4⟩ := x4w h2
  exact ⟨.cons ⟨rfl, rfl, rfl, rfl, rfl, h1⟩ h3, h4⟩
structure Less where
 slots : List (Nat × VP) := []
 blks : List BP := []
 cs : List (List (Nat × VP)) := []
def x7n (L : Less) : Cfg → Cfg
 | ⟨cx, ro, todo, rnd, rs, ⟨env, mem, next, orc, ob⟩, cs, lps⟩ => match x7k L.cs cs ob with
  | (cs', ob) => match x1e L.blks 0 mem ob with
   | (mem', ob) => match x7l L.slots env ob with
    | (env', ob) => ⟨cx, ro, todo, rnd, rs, ⟨env', mem', next, orc, ob⟩, cs', lps⟩
def y7z : List (TypeId × Nat × (Nat → List AVal)) → Nat → Mem → Mem
 | [], _, m => m
 | (ty, sz, g) :: l, i, m => Wv (y7z l (i + 1) m) i (some ⟨[], ty, some ⟨sz, 0, .flat g⟩⟩)
def x5d (gs : List (TypeId × Nat × (Nat → List AVal))) : Cfg → Cfg
 | ⟨cx, ro, todo, rnd, rs, ⟨env, mem, next, orc, ob⟩, cs, lps⟩ => ⟨cx, ro, todo, rnd, rs, ⟨env, y7z gs next mem, next + gs.length, orc, ob⟩, cs, lps⟩
theorem z6u : ∀ (gs : List (TypeId × Nat × (Nat → List AVal))) (i : Nat) (m : Mem) (b : Nat), (b < i → Ys (y7z gs i m) b = Ys m b) ∧ (i + gs.length ≤ b → Ys (y7z gs i m) b = Ys m b)
 | [], i, m, b => ⟨fun _ => rfl, fun _ => rfl⟩
 | (ty, sz, g) :: l, i, m, b => by
  obtain ⟨h1, h2⟩ := z6u l (i + 1) m b
  simp only [y7z, Wa, List.length_cons]
  exact ⟨fun h => by rw [if_neg (by omega)]; exact h1 (by omega), fun h => by rw [if_neg (by omega)]; exact h2 (by omega)⟩
theorem x9k.less {P : Program} {ρ : Rho} {cs : List AFr} {css : List Frame} {mss : List Nat} (h : x9k P ρ cs css mss) : ∀ {cs' : List AFr}, Wo FLe cs cs' → x9k P ρ cs' css mss := by
 induction h with
 | nil => intro cs' h; cases h; exact .nil
 | @cons af b a k ms cs css mss hf hl t ih =>
  intro cs' h
  cases h with
  | @cons _ af' _ cs'' h1 h2 =>
   obtain ⟨e1, e2, e3, e4, e5, e6⟩ := h1
   have hne : cs'' ≠ [] → cs ≠ [] := fun hn he => by subst he; cases h2; exact hn rfl
   rw [show Wq af.ro k = Wq af'.ro k by rw [e2]]
   exact .cons ⟨by rw [← e1]; exact ⟨hf.env.size, fun t => (e6 t).1 _ _ (hf.env.get t), fun t ht => (e6 t).2 (hf.env.out t ht)⟩, hf.defers, by rw [← e3]; exact hf.todo, by rw [← e2]; exact hf.ro, by rw [← e4]; exact hf.rnd⟩
    (fun hn => by rw [← e4, ← e5]; exact hl (hne hn)) (ih h2)
theorem z6t {P : Program} {cx : Ctx} {ro : Option RegOps} {todo : List Item} {rnd : Option Nat} {rs : List ResultVar} {env env' : T AVal} {mem mem' : Mem} {k k' : Nat} {o o' : List Bool} {b0 b0' : Bool} {cs cs' : List AFr} {lps : Loops}
  (hE : ELe env env') (hC : Wo FLe cs cs') (hM : ∀ b x', b < k → Ys mem' b = some x' → ∃ x, Ys mem b = some x ∧ ∀ (ρ : Rho) (w : World) (l : Loc), Qi ρ w x l → Qi ρ w x' l) (hk : k ≤ k') (hbd : (∀ b, k ≤ b → Ys mem b = none) → ∀ b, k' ≤ b → Ys mem' b = none) :
  z8j P ⟨cx, ro, todo, rnd, rs, ⟨env, mem, k, o, b0⟩, cs, lps⟩ ⟨cx, ro, todo, rnd, rs, ⟨env', mem', k', o', b0'⟩, cs', lps⟩ :=
 fun H w0 ρ b a t css w ma mb hs he cs0 => by
  have hr := hs.rel
  simp only at hr he
  have hne : cs' ≠ [] → cs ≠ [] := fun hn e => by subst e; cases hC; exact hn rfl
  refine ⟨ρ, b, a, t, css, w, ma, mb, Steps.refl _ _, ⟨⟨?_, hs.top.defers, hs.top.todo, hs.top.ro, hs.top.rnd⟩, fun hn => hs.lv (hne hn), ⟨hs.rest.cs.less hC, hs.rest.nodup, hs.rest.marks, hs.rest.loops, hs.rest.inj⟩, ?_⟩, ?_, rfl⟩
  ·exact ⟨hs.top.env.size, fun t => (hE t).1 _ _ (hs.top.env.get t), fun t ht => (hE t).2 (hs.top.env.out t ht)⟩
  ·have lift : ∀ c l, ρ c = some l → (Ys mem' c).isSome = true → (Ys mem c).isSome = true := fun c l hc h => by
    obtain ⟨x, hx⟩ := Option.isSome_iff_exists.1 h
    obtain ⟨y, hy, _⟩ := hM c x (hr.dom c l hc) hx
    rw [hy]; rfl
   refine ⟨fun c l hc => Nat.lt_of_lt_of_le (hr.dom c l hc) hk, fun c c' l l' hc hc' hl h1 h2 => hr.inj c c' l l' hc hc' hl (lift c l hc h1) (lift c' l' hc' h2), fun c l ab hc h1 => ?_, hr.old, fun c l hc h1 => hr.sep c l hc (lift c l hc h1), hr.real, hbd hr.bd, fun j l hj => Nat.lt_of_lt_of_le (hr.ldom j l hj) hk⟩
   obtain ⟨y, hy, h2⟩ := hM c ab (hr.dom c l hc) h1
   exact h2 _ _ _ (hr.blk c l y hc hy)
  ·exact ⟨he.ext, fun _ hb => absurd hb (Nat.not_lt_zero _), Nat.zero_le _, fun _ hb => absurd hb (Nat.not_lt_zero _), he.frame, he.fresh, he.size, he.os, he.tape, he.output, he.still⟩
theorem x7m {P : Program} {L : Less} {C : Cfg} (ho : (x7n L C).st.ob = true) : C.st.ob = true ∧ z8j P C (x7n L C) := by
 obtain ⟨cx, ro, todo, rnd, rs, ⟨env, mem, next, orc, ob⟩, cs, lps⟩ := C
 simp only [x7n] at ho ⊢
 obtain ⟨h1, h2⟩ := y4v ho
 obtain ⟨h3, h4⟩ := y2z h2
 obtain ⟨h5, h6⟩ := x4w h3
 refine ⟨h6, z6t h1 h5 (fun b x' _ hb => h4 b x' hb) (Nat.le_refl _) fun hbd b hb => ?_⟩
 cases hq : Ys (x1e L.blks 0 mem (x7k L.cs cs ob).2).1 b with
 | none => rfl
 | some x' =>
  obtain ⟨x, hx, _⟩ := h4 b x' hq
  rw [hbd b hb] at hx; cases hx
theorem x1s {P : Program} (gs : List (TypeId × Nat × (Nat → List AVal))) (C : Cfg) : z8j P C (x5d gs C) ∧ (x5d gs C).st.ob = C.st.ob := by
 obtain ⟨cx, ro, todo, rnd, rs, ⟨env, mem, next, orc, ob⟩, cs, lps⟩ := C
 exact ⟨z6t (ELe.refl _) (Wo.refl' _) (fun b x' hb h => ⟨x', by rw [← (z6u gs next mem b).1 hb]; exact h, fun _ _ _ q => q⟩) (Nat.le_add_right _ _) fun hbd b hb => by
  rw [(z6u gs next mem b).2 hb]; exact hbd b (by omega), rfl⟩
theorem x7v {P : Program} {C C' : Cfg} {orc : List Bool} {ob : Bool} (g : z8j P (C.withO orc) (C'.withB ob)) : z8j P C C' := by
 obtain ⟨cx, ro, todo, rnd, rs, ⟨env, mem, next, o, b⟩, cs, lps⟩ := C
 obtain ⟨cx', ro', todo', rnd', rs', ⟨env', mem', next', o', b'⟩, cs', lps'⟩ := C'
 exact fun H w0 ρ b a k css w ma mb hs he cs0 => by
  obtain ⟨ρ', b', a', k', css', w', ma', mb', h1, h2, h3, h4⟩ := g H w0 ρ b a k css w ma mb ⟨hs.top, hs.lv, hs.rest, hs.rel⟩ he cs0
  exact ⟨ρ', b', a', k', css', w', ma', mb', h1, ⟨h2.top, h2.lv, h2.rest, h2.rel⟩, h3, h4⟩
theorem w5r {P : Program} {S : Specs} (hN : z7i P) (hmx : P.follows .mixedOrders = true) (hS : Zu P S) {n m d : Nat} {C C' : Cfg} (gs : List (TypeId × Nat × (Nat → List AVal))) (N : z6h) (L : Less) (orc : List Bool) (ob : Bool)
  (h : (((w8j P S (v5y P S m d) n (C.withO orc)).map (x5d gs)).bind (w7n P N)).map (x7n L) = some (C'.withB ob)) (ho : ob = true) (hfl : fl0 C = true) : z8j P C C' := by
 rw [Option.map_eq_some_iff] at h
 obtain ⟨C2, h1, h2⟩ := h
 rw [Option.bind_eq_some_iff] at h1
 obtain ⟨C1, h3, h4⟩ := h1
 rw [Option.map_eq_some_iff] at h3
 obtain ⟨C0, h5, rfl⟩ := h3
 have hfo : fl0 (C.withO orc) = true := by
  obtain ⟨cx, ro, todo, rnd, rs, ⟨env, mem, next, o, b⟩, cs, lps⟩ := C
  exact hfl
 obtain ⟨hCI, hC⟩ := w0o hN hmx hS m d
 obtain ⟨f1, f2, f3⟩ := y7u hN hmx hS hCI hC n (C.withO orc) C0 (w9b hfo) h5
 have hob : (x7n L C2).st.ob = true := by
  rw [h2]
  obtain ⟨cx, ro, todo, rnd, rs, ⟨env, mem, next, o, b⟩, cs, lps⟩ := C'
  exact ho
 obtain ⟨l1, l2⟩ := x7m (P := P) hob
 obtain ⟨g1, g2, _⟩ := x7g h4 l1
 obtain ⟨q1, q2⟩ := x1s (P := P) gs C0
 rw [q2] at g1
 have := (((f3 g1).goes.trans q1).trans g2).trans l2
 rw [h2] at this
 exact x7v this
theorem y4a (n : Nat) (g : Nat → List AVal) : Jz n g g = true := pd_true fun _ _ => rfl
theorem w0j (a g : Nat → List AVal) : Jz 0 a g = true := pd_true fun _ h => absurd h (Nat.not_lt_zero _)
theorem v0q {a b : Nat} (h : ¬ a ≤ b) : Nat.ble a b = false := Bool.eq_false_iff.2 fun e => h (Nat.le_of_ble_eq_true e)
theorem w4q {a b : Nat} (h : a ≤ b) : Nat.ble a b = true := Nat.ble_eq_true_of_le h
theorem w0m {n N sz : Nat} {G H H' : Nat → List AVal} {cells : List AVal} (m : Nat) (h : Jz n G H = true) (hN : N = n + m) (h0 : ∀ i, i < n → H' i = H i) (h1 : ∀ i, i < m → (cells.drop (i * sz)).take sz = H' (n + i)) : Jz N (Ze G 0 n sz cells) H' = true := pd_true fun i hi => by
 unfold Ze
 by_cases e : n ≤ i
 ·rw [w4q e, cond_true, h1 (i - n) (by omega), show n + (i - n) = i by omega]
 ·rw [v0q e, cond_false, Nat.zero_add, Vf h i (by omega), h0 i (by omega)]
theorem z7b {α : Type} {sz : Nat} : ∀ (l : List (List α)) (i : Nat), (∀ x ∈ l, x.length = sz) → i < l.length → (l.flatten.drop (i * sz)).take sz = l.getD i []
 | [], i, _, h => absurd h (Nat.not_lt_zero _)
 | x :: l, 0, hl, _ => by
  have := hl x (by simp)
  simp [List.take_append_of_le_length, this]
 | x :: l, i + 1, hl, h => by
  have hx := hl x (by simp)
  rw [List.flatten_cons, List.getD_cons_succ, ← z7b l i (fun y hy => hl y (by simp [hy])) (by simpa using h)]
  rw [List.drop_append, hx, show (i + 1) * sz - sz = i * sz by rw [Nat.add_mul, Nat.one_mul]; omega, List.drop_eq_nil_of_le (by rw [hx, Nat.add_mul, Nat.one_mul]; omega), List.nil_append]
theorem w0l {m N : Nat} {G H H' : Nat → List AVal} (h' : Jz m H H' = true) (hN : N = 0 + m) : Jz N (Jw G 0 H) H' = true := pd_true fun i hi => Vf h' i (by omega)
theorem y9v {n : Nat} {G H : Nat → List AVal} (h : Jz n G H = true) : Jz n (fun k => G (0 + k)) H = true := pd_true fun i hi => by
 show G (0 + i) = _
 rw [Nat.zero_add]; exact Vf h i hi
theorem w6p {cells : List AVal} {sz n : Nat} {g : Nat → List AVal} (h : cells = Yg n g) (h1 : Nat.ble 1 sz = true) (h2 : ∀ i, (g i).length = sz) : w0y cells sz n g = true := pd_true ⟨h, Nat.le_of_ble_eq_true h1, fun i _ => h2 i⟩
end Go.Am
namespace Go.Am
def z5f : List (Nat × ABlk) → Mem
 | [] => .leaf
 | (i, b) :: l => Wv (z5f l) i (some b)
def z5h : List (Nat × ALoop) → Loops
 | [] => .leaf
 | (i, b) :: l => x9d (z5h l) i (some b)
class Yt (α : Type) where
 w : Nat
 d : α
 cells : α → List AVal
 of : List AVal → α
 len : ∀ a, (cells a).length = w
 pos : 1 ≤ w
 flat : ∀ a, (cells a).all (pf 6) = true
 sc : ∀ a, (cells a).all z7r = true
 back : ∀ a, of (cells a) = a
def iOf : AVal → Int
 | .int _ n => n
 | _ => 0
def oOf : AVal → Bool
 | .bool b => b
 | _ => false
instance : Yt Int where
 w := 1
 d := 0
 cells x := [.int .i64 x]
 of l := iOf (l.getD 0 .undef)
 len _ := rfl
 pos := Nat.le_refl 1
 flat _ := rfl
 sc _ := rfl
 back _ := rfl
instance : Yt Bool where
 w := 1
 d := false
 cells x := [.bool x]
 of l := oOf (l.getD 0 .undef)
 len _ := rfl
 pos := Nat.le_refl 1
 flat _ := rfl
 sc _ := rfl
 back _ := rfl
structure R2 where
 (a b : Int)
 deriving DecidableEq
structure R3 where
 (a b c : Int)
 deriving DecidableEq
structure R4 where
 (a b c d : Int)
 deriving DecidableEq
structure R6 where
 (a b c d e f : Int)
 deriving DecidableEq
instance : Yt R2 where
 w := 2
 d := ⟨0, 0⟩
 cells x := [.int .i64 x.a, .int .i64 x.b]
 of l := ⟨iOf (l.getD 0 .undef), iOf (l.getD 1 .undef)⟩
 len _ := rfl
 pos := by decide
 flat _ := rfl
 sc _ := rfl
 back _ := rfl
instance : Yt R3 where
 w := 3
 d := ⟨0, 0, 0⟩
 cells x := [.int .i64 x.a, .int .i64 x.b, .int .i64 x.c]
 of l := ⟨iOf (l.getD 0 .undef), iOf (l.getD 1 .undef), iOf (l.getD 2 .undef)⟩
 len _ := rfl
 pos := by decide
 flat _ := rfl
 sc _ := rfl
 back _ := rfl
instance : Yt R4 where
 w := 4
 d := ⟨0, 0, 0, 0⟩
 cells x := [.int .i64 x.a, .int .i64 x.b, .int .i64 x.c, .int .i64 x.d]
 of l := ⟨iOf (l.getD 0 .undef), iOf (l.getD 1 .undef), iOf (l.getD 2 .undef), iOf (l.getD 3 .undef)⟩
 len _ := rfl
 pos := by decide
 flat _ := rfl
 sc _ := rfl
 back _ := rfl
instance : Yt R6 where
 w := 6
 d := ⟨0, 0, 0, 0, 0, 0⟩
 cells x := [.int .i64 x.a, .int .i64 x.b, .int .i64 x.c, .int .i64 x.d, .int .i64 x.e, .int .i64 x.f]
 of l := ⟨iOf (l.getD 0 .undef), iOf (l.getD 1 .undef), iOf (l.getD 2 .undef), iOf (l.getD 3 .undef), iOf (l.getD 4 .undef), iOf (l.getD 5 .undef)⟩
 len _ := rfl
 pos := by decide
 flat _ := rfl
 sc _ := rfl
 back _ := rfl
theorem w4u {p : AVal → Bool} {l : List AVal} (h : l.all p = true) (n : Nat) : (l.take n).all p = true := List.all_eq_true.2 fun x hx => List.all_eq_true.1 h x (List.mem_of_mem_take hx)
theorem w4v {p : AVal → Bool} {l : List AVal} (h : l.all p = true) (n : Nat) : (l.drop n).all p = true := List.all_eq_true.2 fun x hx => List.all_eq_true.1 h x (List.mem_of_mem_drop hx)
section
variable {α : Type} [Yt α]
def rd (L : List α) (k : Nat) : α := L.getD k Yt.d
def Zz (L : List α) : Nat → List AVal := fun k => Yt.cells (rd L k)
def lst (α : Type) [Yt α] (n : Nat) (g : Nat → List AVal) : List α := (List.range n).map fun k => Yt.of (g k)
def isT (α : Type) [Yt α] (n : Nat) (g : Nat → List AVal) : Bool := pd (∀ i, i < n → g i = Yt.cells (Yt.of (g i) : α))
theorem Xq {L : List α} {k : Nat} (h : k < L.length) : rd L k = L[k] := by unfold rd; rw [List.getD_eq_getElem?_getD, List.getElem?_eq_getElem h]; rfl
theorem Vt {L M : List α} {k : Nat} (h : k < L.length) : rd (L ++ M) k = rd L k := by
 unfold rd; rw [List.getD_eq_getElem?_getD, List.getD_eq_getElem?_getD, List.getElem?_append_left h]
theorem Ve {L M : List α} {k : Nat} (h : L.length ≤ k) : rd (L ++ M) k = rd M (k - L.length) := by
 unfold rd; rw [List.getD_eq_getElem?_getD, List.getD_eq_getElem?_getD, List.getElem?_append_right h]
theorem Zq (L : List α) : lst α L.length (Zz L) = L := by
 apply List.ext_getElem
 ·simp [lst]
 ·intro i h1 h2
  simp only [lst, List.getElem_map, List.getElem_range, Zz]
  rw [Yt.back, Xq h2]
def cvT (L : List α) : List α := lst α L.length (Zz L)
theorem Zb (L : List α) : cvT L = L := Zq L
theorem z6o (n : Nat) (g : Nat → List AVal) : (lst α n g).length = n := by simp [lst]
theorem w7z (L : List α) {off n : Nat} (h : off + n ≤ L.length) : lst α n (fun k => Zz L (off + k)) = (L.drop off).take n := by
 apply List.ext_getElem
 ·simp [lst]; omega
 ·intro i h1 h2
  simp only [lst, List.getElem_map, List.getElem_range, Zz]
  have : off + i < L.length := by simp at h2; omega
  rw [Yt.back, Xq this, List.getElem_take, List.getElem_drop]
theorem z9f (L : List α) (n : Nat) : isT α n (Zz L) = true := pd_true fun i _ => by simp only [Zz]; rw [Yt.back]
theorem y7v (L : List α) (off n : Nat) : isT α n (fun k => Zz L (off + k)) = true := pd_true fun i _ => by simp only [Zz]; rw [Yt.back]
theorem x4y (g : Nat → List AVal) : isT α 0 g = true := pd_true fun i h => absurd h (Nat.not_lt_zero _)
theorem x4z {n : Nat} {g : Nat → List AVal} (h : isT α n g = true) : ∀ i, i < n → g i = Zz (lst α n g) i := fun i hi => by
 rw [Vf h i hi]
 unfold Zz
 rw [Xq (by rw [z6o]; exact hi)]
 simp [lst]
theorem Xj (L : List α) : Qo (Zz L) = true := pd_true fun _ => Yt.flat _
theorem x8n {sz : Nat} (L : List α) (n : Nat) (h : sz = Yt.w α) : y8e sz n (Zz L) = true := pd_true fun _ _ => ⟨by rw [h]; exact Yt.len _, Yt.sc _⟩
theorem x8o {sz : Nat} (L : List α) (off n : Nat) (h : sz = Yt.w α) : y8e sz n (fun k => Zz L (off + k)) = true := pd_true fun _ _ => ⟨by rw [h]; exact Yt.len _, Yt.sc _⟩
theorem x2s {sz N off m : Nat} {G : Nat → List AVal} (h : y8e sz N G = true) (hb : decide (off + m ≤ N) = true) : y8e sz m (fun k => G (off + k)) = true := pd_true fun i hi => by
 have hb := of_decide_eq_true hb
 exact Vf h (off + i) (by omega)
theorem w4j {sz n N m : Nat} {G : Nat → List AVal} {cells : List AVal} (h : y8e sz n G = true) (hN : N = n + m) (hc : cells.length = m * sz) (hs : cells.all z7r = true) : y8e sz N (Ze G 0 n sz cells) = true := pd_true fun i hi => by
 unfold Ze
 by_cases e : n ≤ i
 ·rw [w4q e, cond_true]
  have : (i - n) * sz + sz ≤ m * sz := by
   have := Nat.mul_le_mul_right sz (show i - n + 1 ≤ m by omega)
   rwa [Nat.add_mul, Nat.one_mul] at this
  exact ⟨by rw [List.length_take, List.length_drop, hc]; omega, w4u (w4v hs _) _⟩
 ·rw [v0q e, cond_false, Nat.zero_add]
  exact Vf h i (by omega)
theorem x3x {L M : List α} {n N sz : Nat} {G : Nat → List AVal} {cells : List AVal} (h : Jz n G (Zz L) = true) (hn : n = L.length) (hN : N = n + M.length) (hsz : sz = Yt.w α) (hc : cells = (M.map Yt.cells).flatten) : Jz N (Ze G 0 n sz cells) (Zz (L ++ M)) = true := by
 subst hn
 refine w0m M.length h hN (fun i hi => ?_) fun i hi => ?_
 ·simp only [Zz]; rw [Vt hi]
 ·subst hc
  rw [z7b _ _ (fun x hx => by obtain ⟨y, _, rfl⟩ := List.mem_map.1 hx; rw [Yt.len, hsz]) (by simpa using hi)]
  simp only [Zz]
  rw [Ve (Nat.le_add_right _ _), Nat.add_sub_cancel_left, Xq hi]
  rw [List.getD_eq_getElem?_getD, List.getElem?_map, List.getElem?_eq_getElem hi]; rfl
theorem v2j {L : List α} {r k : Nat} {y : α} (hk : k < L.length) : rd (L.set r y) k = if k = r then y else rd L k := by
 rw [Xq (by simpa using hk), Xq hk, List.getElem_set]
 by_cases e : r = k
 ·subst e; simp
 ·rw [if_neg e, if_neg fun q => e q.symm]
theorem x3w {L : List α} {n r fo : Nat} {G : Nat → List AVal} {cs : List AVal} {y : α} (h : Jz n G (Zz L) = true) (hn : n = L.length) (hy : Yt.cells y = (Yt.cells (rd L r)).take fo ++ cs ++ (Yt.cells (rd L r)).drop (fo + cs.length)) : Jz n (Xd G r fo cs) (Zz (L.set r y)) = true := by
 subst hn
 refine pd_true fun i hi => ?_
 unfold Xd
 simp only [Zz]
 rw [v2j hi]
 cases e : Nat.beq i r with
 | true =>
  have := Nat.eq_of_beq_eq_true e
  subst this
  rw [cond_true, if_pos rfl, Vf h i hi, hy]; rfl
 | false =>
  have : i ≠ r := fun q => by rw [q, Nat.beq_refl] at e; cases e
  rw [cond_false, if_neg this, Vf h i hi]; rfl
theorem w6f {n : Nat} {cs : List AVal} {y : α} {G : Nat → List AVal} (hG : G = fun _ => cs) (hy : Yt.cells y = cs) : Jz n G (Zz (List.replicate n y)) = true := pd_true fun i hi => by
 rw [hG]
 simp only [Zz]
 rw [Xq (by simpa using hi), List.getElem_replicate, hy]
theorem w0k {L M : List α} {n m N : Nat} {G H : Nat → List AVal} (h : Jz n G (Zz L) = true) (hn : n = L.length) (h' : Jz m H (Zz M) = true) (hN : N = n + m) : Jz N (Jw G n H) (Zz (L ++ M)) = true := by
 subst hn
 refine pd_true fun i hi => ?_
 unfold Jw
 by_cases e : L.length ≤ i
 ·rw [w4q e, cond_true, Vf h' _ (by omega)]; simp only [Zz]; rw [Ve e]
 ·rw [v0q e, cond_false, Vf h i (by omega)]; simp only [Zz]; rw [Vt (by omega)]
def x7p (n : Nat) (g : Nat → List AVal) (sz : Nat) : Bool := pd (∀ i, i < n → (g i).length = sz)
theorem w3e {sz : Nat} (L : List α) (n : Nat) (h : sz = Yt.w α) : x7p n (Zz L) sz = true := pd_true fun _ _ => by rw [h]; exact Yt.len _
theorem x7o {sz n : Nat} {L : List α} {off : Nat} (h : sz = Yt.w α) : x7p n (fun k => Zz L (off + k)) sz = true := pd_true fun _ _ => by rw [h]; exact Yt.len _
def Kh (L : List α) (off n : Nat) : List α := (List.range n).map fun k => rd L (off + k)
theorem z2c (L : List α) (off n : Nat) : (Kh L off n).length = n := by simp [Kh]
theorem y4j {L : List α} {off n k : Nat} (h : k < n) : rd (Kh L off n) k = rd L (off + k) := by
 rw [Xq (by rw [z2c]; exact h)]; simp [Kh]
theorem x6l {L : List α} {N off n : Nat} {G : Nat → List AVal} (h : Jz N G (Zz L) = true) (hb : decide (off + n ≤ N) = true) : Jz n (fun k => G (off + k)) (Zz (Kh L off n)) = true := pd_true fun i hi => by
 have hb := of_decide_eq_true hb
 simp only [Zz]
 rw [y4j hi, Vf h _ (by omega)]; rfl
theorem x6k {L : List α} {off n : Nat} : Jz n (fun k => Zz L (off + k)) (Zz (Kh L off n)) = true := pd_true fun i hi => by
 simp only [Zz]
 rw [y4j hi]
theorem Ws (L : List α) : lst α L.length (fun k => Zz L (0 + k)) = L := by
 have := Zq L
 simpa only [Nat.zero_add] using this
theorem w8k (L : List Int) : isI (Zz L) = true := pd_true rfl
theorem Uu (L : List Int) : Za L.length (cOf (Zz L)) = L := Zq L
def y2d (L : List α) (off n : Nat) (M : List α) : List α := (List.range L.length).map fun k => bif Nat.ble off k && Nat.ble (k + 1) (off + n) then rd M (k - off) else rd L k
theorem Uj (L : List α) (off n : Nat) (M : List α) : (y2d L off n M).length = L.length := by simp [y2d]
theorem w1o {L M : List α} {off n k : Nat} (h : k < L.length) : rd (y2d L off n M) k = bif Nat.ble off k && Nat.ble (k + 1) (off + n) then rd M (k - off) else rd L k := by
 rw [Xq (by rw [Uj]; exact h)]; simp [y2d]
theorem w6g {L M : List α} {N off n m : Nat} {G H : Nat → List AVal} (h : Jz N G (Zz L) = true) (hN : N = L.length) (h' : Jz m H (Zz M) = true) (hm : n ≤ m) : Jz N (Vn G off n H) (Zz (y2d L off n M)) = true := by
 subst hN
 refine pd_true fun i hi => ?_
 unfold Vn
 simp only [Zz]
 rw [w1o hi]
 cases e : (Nat.ble off i && Nat.ble (i + 1) (off + n)) with
 | true =>
  simp only [Bool.and_eq_true] at e
  have e1 := Nat.le_of_ble_eq_true e.1
  have e2 := Nat.le_of_ble_eq_true e.2
  rw [cond_true, cond_true, Vf h' _ (by omega)]; rfl
 | false => rw [cond_false, cond_false, Vf h i hi]; rfl
theorem w3x {g h : Nat → List AVal} {off n : Nat} (p : Qo g = true) (q : Qo h = true) : Qo (Vn g off n h) = true := pd_true fun i => by
 unfold Vn
 cases (Nat.ble off i && Nat.ble (i + 1) (off + n)) with
 | true => exact Vf q _
 | false => exact Vf p _
end
theorem Wb {P : Program} {rs : List ResultVar} {σ : Type} {cfg : σ → Cfg} {C C' : Cfg} (g : z8j P C C') : ∀ {o : Xa σ}, Xo P rs cfg C' o → Xo P rs cfg C o
 | .stuck, _ => trivial
 | .ret _, ⟨D, h, h2, h3⟩ => ⟨D, g.trans h, h2, h3⟩
 | .to _, h => g.trans h
theorem x5l : ∀ {az bs : List AVal} (i : Nat) {t u : T AVal}, Wo VLe az bs → ELe t u → ELe (z6y az i t) (z6y bs i u)
 | _, _, i, t, u, .nil, h => h
 | _, _, i, t, u, .cons (a := a) (b := b) h1 h2, h => by
  refine x5l (i + 1) h2 fun s => ?_
  rw [T.get_set, T.get_set]
  by_cases e : s = i
  ·rw [if_pos e, if_pos e]; exact ⟨fun ρ v hv => h1.sound hv, fun q => by subst q; exact h1.of_undef⟩
  ·rw [if_neg e, if_neg e]; exact h s
theorem y8c {P : Program} {f : FuncId} {az bs : List AVal} {vs : List AVal} (h : Wo VLe az bs) (k : Jc P (Zy P f) (Zc P f bs true []) vs) : Jc P (Zy P f) (Zc P f az true []) vs := by
 obtain ⟨C', g, h2, h3⟩ := k
 refine ⟨C', z8j.trans ?_ g, h2, h3⟩
 unfold Zc
 cases P.funcs[f]? with
 | none => exact z8j.refl _
 | some fn =>
  simp only
  rw [h.length]
  exact z6t (x5l 0 h (ELe.refl _)) .nil (fun b x' hb => absurd hb (Nat.not_lt_zero _)) (Nat.le_refl _) fun hbd b hb => hbd b hb
theorem x5t {P : Program} {S : Specs} (hS : Zu P S) {f : FuncId} {F : List AVal → Option (AVal × Bool)} (hf : (P.funcs[f]?).any (fun fn => fn.body.isSome) = true)
  (hF : ∀ args v, F args = some (v, true) → ∃ bs vs, Wo VLe args bs ∧ Ki vs = v ∧ Jc P (Zy P f) (Zc P f bs true []) vs ∧ ∃ d, pf d v = true) : Zu P (S.with f F) :=
 x9l hS hf fun args v h => by
  obtain ⟨bs, vs, h1, h2, h3, d, h4⟩ := hF args v h
  exact ⟨vs, h2, y8c h1 h3, d, h4⟩
def asL (α : Type) [Yt α] : AVal → Option (List α × (Nat → List AVal) × Nat)
 | .nils => some ([], fun _ => [], 0)
 | .dat n g => some (lst α n g, g, n)
 | _ => none
theorem asL_le {α : Type} [Yt α] {v : AVal} {L : List α} {g : Nat → List AVal} {n : Nat} (h : asL α v = some (L, g, n)) (ho : isT α n g = true) : VLe v (.dat L.length (Zz L)) := by
 unfold asL at h
 split at h
 ·simp only [Option.some.injEq, Prod.mk.injEq] at h
  obtain ⟨rfl, _, _⟩ := h
  exact .nild _
 ·simp only [Option.some.injEq, Prod.mk.injEq] at h
  obtain ⟨rfl, rfl, rfl⟩ := h
  rw [z6o]
  exact .dat _ _ _ (x4z ho)
 ·cases h
end Go.Am
namespace Go.Am
open Go.ChangeShapes Go.WideShapes Go.Deep
section
variable {P : Program}
def y4y (P : Program) (rec : TypeId → Option (List IntKind)) : List Field → Nat → Option (List IntKind)
 | [], _ => some []
 | f :: r, o => bif Nat.beq f.offset o then match rec f.type with
   | some ks => bif Nat.beq (P.cellsOf f.type) ks.length then (y4y P rec r (o + ks.length)).map (ks ++ ·) else none
   | none => none
  else none
def y7q (P : Program) : Nat → TypeId → Option (List IntKind)
 | 0, _ => none
 | d + 1, t => match P.underlying t with
  | some (.int k) => some [k]
  | some (.struct fs) => match y4y P (y7q P d) fs.toList 0 with
   | some ks => bif Nat.beq (P.cellsOf t) ks.length then some ks else none
   | none => none
  | _ => none
def v0v (ks : List IntKind) (cs : List Value) : Prop := ∃ ns : List Int, ns.length = ks.length ∧ cs = List.zipWith Value.int ks ns ∧ ∀ p ∈ List.zip ks ns, p.1.has p.2
theorem v0v.append {a b : List IntKind} {x y : List Value} (h : v0v a x) (k : v0v b y) : v0v (a ++ b) (x ++ y) := by
 obtain ⟨ns, h1, rfl, h3⟩ := h
 obtain ⟨ms, k1, rfl, k3⟩ := k
 refine ⟨ns ++ ms, by simp [h1, k1], ?_, fun p hp => ?_⟩
 ·rw [List.zipWith_append h1.symm]
 ·rw [List.zip_append h1.symm, List.mem_append] at hp
  rcases hp with hp | hp
  ·exact h3 p hp
  ·exact k3 p hp
theorem v0v.length {ks : List IntKind} {cs : List Value} (h : v0v ks cs) : cs.length = ks.length := by
 obtain ⟨ns, h1, rfl, _⟩ := h
 simp [h1]
variable {HH : Type} {enc : TypeId × Value → HH} {w : World} {base : Nat} {spare : Nat → Bool} {held : Bool}
theorem z7q {rec : TypeId → Option (List IntKind)} (hr : ∀ t ks, rec t = some ks → ∀ fuel cs x, DataW.trod enc P w base spare held fuel t cs = some x → v0v ks cs) (cs : List Value) :
  ∀ (l : List Field) (o : Nat) (ks : List IntKind), y4y P rec l o = some ks → o + ks.length ≤ cs.length → (∀ f ∈ l, ∃ fuel x, DataW.trod enc P w base spare held fuel f.type ((cs.drop f.offset).take (P.cellsOf f.type)) = some x) → v0v ks ((cs.drop o).take ks.length)
 | [], o, ks, h, _, _ => by
  obtain rfl := Option.some.inj h
  exact ⟨[], rfl, by simp, by simp⟩
 | f :: r, o, ks, h, hl, hf => by
  unfold y4y at h
  obtain ⟨ho, h⟩ := Zs h
  obtain rfl := Nat.eq_of_beq_eq_true ho
  split at h
  ·rename_i ks1 h1
   obtain ⟨hc, h⟩ := Zs h
   have hc := Nat.eq_of_beq_eq_true hc
   simp only [Option.map_eq_some_iff] at h
   obtain ⟨ks2, h2, rfl⟩ := h
   obtain ⟨fuel, x, hx⟩ := hf f (by simp)
   have i1 := hr _ _ h1 _ _ _ hx
   rw [hc] at i1
   rw [List.length_append] at hl
   have i2 := z7q hr cs r _ ks2 h2 (by omega) fun g hg => hf g (by simp [hg])
   have : (cs.drop f.offset).take (ks1 ++ ks2).length = (cs.drop f.offset).take ks1.length ++ (cs.drop (f.offset + ks1.length)).take ks2.length := by
    rw [List.length_append, List.take_add, List.drop_drop]
   rw [this]
   exact i1.append i2
  ·cases h
theorem y0r : ∀ (d : Nat) (t : TypeId) (ks : List IntKind), y7q P d t = some ks → ∀ (fuel : Nat) (cs : List Value) (x : DataW HH × List MemPlace), DataW.trod enc P w base spare held fuel t cs = some x → v0v ks cs
 | 0, _, _, h => by cases h
 | d + 1, t, ks, h => by
  intro fuel cs x hx
  unfold y7q at h
  split at h
  ·rename_i k hk
   obtain rfl := Option.some.inj h
   obtain ⟨m, rfl, _, hw⟩ := DataW.trod_int hk hx
   refine ⟨[m], rfl, rfl, fun p hp => ?_⟩
   obtain rfl : p = (k, m) := by simpa using hp
   simpa [Lit.wf, IntKind.has] using hw
  ·rename_i fs hs
   split at h
   ·rename_i ks1 h1
    obtain ⟨hc, h⟩ := Zs h
    obtain rfl := Option.some.inj h
    have hc := Nat.eq_of_beq_eq_true hc
    obtain ⟨xs, n, _, _, hl, eH, hf⟩ := DataW.trod_struct hs hx
    have hl : cs.length = ks1.length := hl.trans hc
    have := z7q (fun t ks ht fuel cs x hx => y0r d t ks ht fuel cs x hx) cs fs.toList 0 ks1 h1 (by omega) fun f hf' => by
     obtain ⟨j, hj, rfl⟩ := List.getElem_of_mem hf'
     have hj2 : j < fs.size := by simpa using hj
     have := hf j fs[j] (by simp [hj2])
     refine ⟨n, xs[j]'(by omega), ?_⟩
     simpa [eH, hj2] using this
    rwa [List.drop_zero, List.take_of_length_le (by omega)] at this
   ·cases h
  ·cases h
def rowOf (ks : List IntKind) (c : Nat → Int) : List AVal := List.zipWith AVal.int ks ((List.range ks.length).map c)
theorem w0z (ks : List IntKind) (c : Nat → Int) (j : Nat) (h : j < (rowOf ks c).length) : ∃ hk : j < ks.length, (rowOf ks c)[j] = .int ks[j] (c j) := by
 have hk : j < ks.length := by simpa [rowOf] using h
 exact ⟨hk, by simp [rowOf]⟩
theorem w9u {e : TypeId} {ks : List IntKind} (hk : y7q P 30 e = some ks) {blk off len cap m fl : Nat} {D : Nat → DataW HH} {Pl : Nat → List MemPlace} (hl : len ≤ cap) (hlm : len ≤ m)
  (hi : ∀ i, i < m → ∃ cs', w.cells? base ((⟨blk, off, none⟩ : Addr).add (i * P.cellsOf e)) (P.cellsOf e) = some cs' ∧ DataW.trod enc P w base spare held fl e cs' = some (D i, Pl i)) :
  ∃ c : Nat → Nat → Int, VRel (rhoOf fun k => w.heap[k]?) (.dat len (fun i => rowOf ks (c i))) (.slice (some ⟨blk, off, none⟩) len cap) ∧ ∀ i, i < len → ∀ (j : Nat) (k : IntKind), ks[j]? = some k → k.has (c i j) := by
 have key : ∀ i, i < len → ∃ ns : List Int, ns.length = ks.length ∧ (∀ j, j < ks.length → ∃ k, ks[j]? = some k ∧ w.cell? ⟨blk, off + (i * ks.length + j), none⟩ = some (.int k (ns.getD j 0)) ∧ k.has (ns.getD j 0)) := by
  intro i hil
  obtain ⟨cs', hc', ht'⟩ := hi i (by omega)
  have I := y0r 30 e ks hk _ _ _ ht'
  obtain ⟨_, eH, fB⟩ := World.cells?_some hc'
  have hce : P.cellsOf e = ks.length := by rw [← eH]; exact I.length
  obtain ⟨ns, n1, n2, n3⟩ := I
  refine ⟨ns, n1, fun j hj => ?_⟩
  have hj2 : j < ns.length := by omega
  refine ⟨ks[j], by simp [hj], ?_, ?_⟩
  ·have := fB j (by omega)
   rw [hce] at this
   simp only [Xu] at this
   rw [show off + i * ks.length + j = off + (i * ks.length + j) by omega] at this
   rw [this, n2]
   simp [List.getElem?_zipWith, hj, hj2]
  ·have : (ks[j], ns[j]) ∈ List.zip ks ns := by
    rw [List.mem_iff_getElem]
    exact ⟨j, by rw [List.length_zip]; omega, by simp⟩
   have := n3 _ this
   simpa [hj2] using this
 let c : Nat → Nat → Int := fun i j => if hil : i < len then ((key i hil).choose).getD j 0 else 0
 have hcs : ∀ i, i < len → ∀ j, j < ks.length → ∃ k, ks[j]? = some k ∧ w.cell? ⟨blk, off + (i * ks.length + j), none⟩ = some (.int k (c i j)) ∧ k.has (c i j) := by
  intro i hil j hj
  have := (key i hil).choose_spec.2 j hj
  simp only [c, hil, dif_pos]
  exact this
 refine ⟨c, .dat len _ blk off ks.length cap (fun i j => .int (ks.getD j .i64) (c i j)) hl (fun i _ => by simp [rowOf]) (fun i j hil hj => ?_) (fun i j hil hj => ?_), fun i hil j k hkj => ?_⟩
 ·obtain ⟨hk2, e2⟩ := w0z ks (c i) j hj
  rw [e2]
  have : ks.getD j .i64 = ks[j] := by simp [hk2]
  rw [this]
  exact .int _ _
 ·obtain ⟨k, e1, e2, _⟩ := hcs i hil j hj
  have : ks.getD j .i64 = k := by simp [e1]
  rw [this]
  unfold World.cell? at e2
  split at e2
  ·rename_i cl el fz hb2
   simp only [Option.isSome_none, Bool.false_eq_true, if_false] at e2
   exact ⟨cl, el, fz, hb2, e2⟩
  ·cases e2
 ·have hj : j < ks.length := (List.getElem?_eq_some_iff.1 hkj).1
  obtain ⟨k', e1, _, e3⟩ := hcs i hil j hj
  rw [hkj] at e1
  obtain rfl := Option.some.inj e1
  exact e3
theorem open_dat {t e : TypeId} {ks : List IntKind} {v : Value} {d : DataW HH} {p : List MemPlace} (ht : P.underlying t = some (.slice e)) (hk : y7q P 30 e = some ks) {b0 : Nat} (hv : Value.okWide P w .any b0 t v) (h : DataW.Trod enc P w base spare held t v d p) :
  ∃ (n : Nat) (c : Nat → Nat → Int), VRel (rhoOf fun k => w.heap[k]?) (.dat n (fun i => rowOf ks (c i))) v ∧ (∀ i, i < n → ∀ (j : Nat) (k : IntKind), ks[j]? = some k → k.has (c i j)) ∧ n ≤ maxLen := by
 obtain ⟨fuel, h⟩ := h
 have hvc : v.cells.toList = [v] := by
  unfold Value.okWide at hv
  rw [ht] at hv
  unfold Cell.okWide at hv
  rw [ht] at hv
  cases v <;> first | rfl | (simp [Cell.ok, ht] at hv)
 rcases open_slice ht h with ⟨h0, _⟩ | ⟨a, len, cap, m, fl, D, Pl, hcs, hb, hl, eM, hm, _, hi⟩
 ·rw [hvc] at h0
  obtain rfl : v = .slice none 0 0 := by simpa using h0
  exact ⟨0, fun _ _ => 0, .datn _, fun i hi => absurd hi (Nat.not_lt_zero _), Nat.zero_le _⟩
 ·rw [hvc] at hcs
  obtain rfl : v = .slice (some a) len cap := by simpa using hcs
  have hspot : a.spot = none := by
   unfold Value.okWide at hv
   rw [ht] at hv
   unfold Cell.okWide at hv
   rw [ht] at hv
   simp only [Cell.ok, ht] at hv
   exact hv.2.2.2.1
  obtain ⟨blk, off, spot⟩ := a
  simp only at hspot
  subst hspot
  have hlm : len ≤ m := by rw [hm]; split <;> omega
  obtain ⟨c, h1, h2⟩ := w9u hk hl hlm hi
  exact ⟨len, c, h1, h2, by omega⟩
end
end Go.Am
namespace Go.Am
open Go.Proofs.Tryz
open Go.Proofs
def namedB (P : Program) : Bool := P.funcs.toList.all fun fn => fn.body.isNone || !(fn.name == "runtime.NumGoroutine")
theorem w7t {P : Program} (h : namedB P = true) : z7i P := by
 intro f fn hf hb
 have hm : fn ∈ P.funcs.toList := by
  rw [Array.mem_toList_iff]
  exact Array.mem_of_getElem? hf
 have := List.all_eq_true.mp h fn hm
 cases hbb : fn.body with
 | none => rw [hbb] at hb; cases hb
 | some b => simpa [hbb] using this
theorem named : z7i prog := w7t (by kernel_rfl)
theorem mixed : prog.follows .mixedOrders = true := by kernel_rfl
end Go.Am
section

end
namespace Go.Am
open Go.Proofs.Tryz
open Go.Proofs
instance {α : Type} [Yt α] : Yt (List α) where
 w := 1
 d := []
 cells l := [.dat l.length (Zz l)]
 of cs := match cs.getD 0 .undef with
  | .dat n g => lst α n g
  | _ => []
 len _ := rfl
 pos := Nat.le_refl 1
 flat _ := rfl
 sc _ := rfl
 back l := Zq l
theorem y9w {α : Type} [Yt α] {L : List α} {n off sz : Nat} {cells : List AVal} (hn : n = L.length) (hsz : sz = Yt.w α) (hc : (cells.drop off).take (n * sz) = (L.map Yt.cells).flatten) : Jz n (Vs cells off sz) (Zz L) = true := pd_true fun i hi => by
 have e : ((((cells.drop off).take (n * sz)).drop (i * sz)).take sz) = (cells.drop (off + i * sz)).take sz := by
  rw [List.drop_take, List.take_take, List.drop_drop, Nat.min_eq_left]
  have := Nat.mul_le_mul_right sz (show i + 1 ≤ n by omega)
  rw [Nat.add_mul, Nat.one_mul] at this
  omega
 have h := z7b (sz := sz) (L.map Yt.cells) i (fun x hx => by obtain ⟨y, _, rfl⟩ := List.mem_map.1 hx; rw [Yt.len, hsz]) (by simpa using by omega)
 unfold Vs
 rw [← e, hc, h]
 simp only [Zz]
 rw [Xq (show i < L.length by omega), List.getD_eq_getElem?_getD, List.getElem?_map, List.getElem?_eq_getElem (show i < L.length by omega)]; rfl
structure OB where
 b : Bool
 h : b = true
def nn : OB := ⟨true, rfl⟩
def pp (q r : OB) : OB := ⟨q.b && r.b, z7p q.h r.h⟩
def tt {c v : Bool} (k : c = v) (r : OB) : OB := ⟨(c == v) && r.b, z7p (w2i k) r.h⟩
def ww {c : Bool} (k : c = true) (r : OB) : OB := ⟨c && r.b, z7p k r.h⟩
def fl {α : Type} [Yt α] (L : List α) (r : OB) : OB := ⟨Qo (Zz L) && r.b, z7p (Xj L) r.h⟩
def yt {c : Bool} (k : c = true) (r : OB) : OB := ⟨c && r.b, z7p k r.h⟩
def xw {c : Bool} (k : c = true) : OB := ⟨c, k⟩
def xI (α : Type) [Yt α] (n : Nat) (g : Nat → List AVal) (h : isT α n g = true := by first | with_reducible exact z9f _ _ | exact z9f _ _ | exact x4y _ | exact y7v _ _ _ | assumption) : OB := ⟨isT α n g, h⟩
def xr {α : Type} [Yt α] (L : List α) : OB := ⟨isT α L.length (Zz L), z9f L _⟩
def xL (a b : Nat) (h : y4w a b = true := by first | exact Uy rfl | exact Uy (by simp only [List.length_append, List.length_cons, List.length_nil, List.length_set, Uj, z2c, List.length_replicate] <;> omega) | assumption) : OB := ⟨y4w a b, h⟩
def xS (n : Nat) (G H : Nat → List AVal) (h : Jz n G H = true := by
  repeat' (first | exact y4a _ _ | assumption | exact w0j _ _ | exact x6k | exact y9w rfl rfl rfl | rfl | (refine x3x ?_ ?_ rfl rfl rfl) | (refine x3w ?_ ?_ rfl) | (refine w6g ?_ ?_ ?_ (Nat.min_le_left _ _)) | exact x6l (by repeat' (first | exact y4a _ _ | (refine x3x ?_ ?_ rfl rfl rfl) | (refine x3w ?_ ?_ rfl) | (simp only [List.length_append, List.length_cons, List.length_nil, List.length_set, Uj]; done) | omega)) (by assumption) | (refine w0k ?_ ?_ ?_ rfl) | exact w0l (y4a _ _) rfl | apply y9v | exact w6f rfl rfl | (simp only [List.length_append, List.length_cons, List.length_nil, List.length_set, Uj, z2c, List.length_replicate] <;> omega))) : OB := ⟨Jz n G H, h⟩
def xF (G : Nat → List AVal) (h : Qo G = true := by
  repeat' (first | with_reducible exact Xj _ | apply w3z | apply w3w | apply w3y | apply w3x | exact Xj _ | exact x8b | exact x2b _ _ | apply y1a | rfl | assumption)) : OB := ⟨Qo G, h⟩
def xZ (v : AVal) (n : Nat) (g : Nat → List AVal) (h : w3u v n g = true := by first | exact w8w _ _ _ | exact w3t _ _) : OB := ⟨w3u v n g, h⟩
def xG (c : Bool) (h : c = true := by
  repeat' (first | with_reducible (first | assumption | exact y7i _ | exact w7s _ | exact w2n _ | exact w9n _ | exact w2o _ | apply z7p | apply w2i) | rfl | exact w8k _ | exact x8n _ _ rfl | exact x8o _ _ _ rfl | exact w3e _ _ rfl | exact x7o rfl | exact w6p rfl rfl (fun _ => rfl) | (refine x2s ?_ (by assumption)) | (refine w4j ?_ rfl rfl rfl) | exact z9f _ _ | exact x4y _ | exact y7v _ _ _ | exact Xj _ | apply y1a | apply z7p | apply w2i)) : OB := ⟨c, h⟩
def gg (c : Bool) (k : c = true) (r : OB) : OB := ⟨c && r.b, z7p k r.h⟩
def kpB (n : Nat) (l : List BP) : List BP := Nat.rec l (fun _ r => .keep :: r) n
abbrev tn (n : Int) : Nat := Int.toNat n
abbrev ii (n : Int) : AVal := .int .i64 n
abbrev wr (n : Int) : Int := IntKind.wrap .i64 n
def trs (n : Nat) (l : List Bool) : List Bool := Nat.rec l (fun _ r => true :: r) n
theorem sl {S : Specs} (hS : Zu prog S) (n : Nat) (gs : List (TypeId × Nat × (Nat → List AVal))) (N : z6h) (L : Less) (orc : List Bool) (ob : OB) {C C' : Cfg}
  (h : (((w8j prog S (v5y prog S 100000 4) n (C.withO orc)).map (x5d gs)).bind (w7n prog N)).map (x7n L) = some (C'.withB ob.b) := by kernel_rfl) (hfl : fl0 C = true := by rfl) : z8j prog C C' :=
 w5r named mixed hS gs N L orc ob.b h ob.h hfl
def rC (n f : Nat) (p : List Nat) (j r : Nat) (env : List (Nat × AVal)) : Cfg := ⟨⟨n, 0, true⟩, none, Zg prog f p j, none, Zy prog r, ⟨Yq env, Va [] 0, 0, [], true⟩, [], .leaf⟩
theorem lr {σ : Type} {cfg : σ → Cfg} {C : Cfg} {rs : List ResultVar} {vs : List AVal} (n f : Nat) (p : List Nat) (j r : Nat) (env : List (Nat × AVal)) (h : z8j prog C (rC n f p j r env)) (hf : z3n (rC n f p j r env) = true := by rfl)
  (hr : Us prog (rC n f p j r env).st rs = some vs := by kernel_rfl) : Xo prog rs cfg C (.ret vs) := z0y _ h hf hr
theorem lb {rs : List ResultVar} {σ : Type} {cfg : σ → Cfg} {C : Cfg} {c : Bool} {a b : Xa σ} (ha : c = true → Xo prog rs cfg C a) (hb : c = false → Xo prog rs cfg C b) : Xo prog rs cfg C (bif c then a else b) := x4x ha hb
theorem lo {rs : List ResultVar} {σ : Type} {cfg : σ → Cfg} {C : Cfg} {c : Bool} {a : Xa σ} (ha : c = true → Xo prog rs cfg C a) : Xo prog rs cfg C (bif c then a else .stuck) := w8c ha
end Go.Am
namespace Go.Am
open Go.Proofs.Tryz
open Go.Proofs
inductive rsortS where
 | h0 (v3 : List Int) (v4 : Int)
 | h1 (v3 : List Int) (v4 : Int) (v5 : Int)
def w0s (l0 : List Int) : rsortS → Cfg
 | .h0 v3 v4 => ⟨⟨63, 0, true⟩, none, (Zg prog 133 [1, 1, 0, 1, 0, 0] 0), none, (Zy prog 15), ⟨Yq [(0, (.dat l0.length (Zz l0))), (3, (.sla 0 1 0 v3.length (.un 1))), (4, (ii v4))], Va [⟨Yg v3.length (Zz v3), 3, some ⟨1, v3.length, (Zz v3)⟩⟩] 0, 1, [], true⟩, [], .leaf⟩
 | .h1 v3 v4 v5 => ⟨⟨63, 0, true⟩, none, (Zg prog 133 [1, 1, 0, 1, 0, 0, 1, 0, 0, 1, 0, 0, 0] 0), none, (Zy prog 15), ⟨Yq [(0, (.dat l0.length (Zz l0))), (3, (.sla 0 1 0 v3.length (.un 1))), (4, (ii v4)), (5, (ii v5))], Va [⟨Yg v3.length (Zz v3), 3, some ⟨1, v3.length, (Zz v3)⟩⟩] 0, 1, [], true⟩, [], .leaf⟩
def y4d : List (Option (List Nat)) := [some [0, 3, 4]]
def y4e : List (Option (List Nat)) := []
def w0q : List (Option (List Nat)) := [some [0, 3, 4, 5]]
def w0r : List (Option (List Nat)) := []
def Vw (l0 : List Int) : rsortS → Xa rsortS
 | .h0 v3 v4 => (bif (decide (v4 < (l0.length : Int))) then (.to (.h1 v3 v4 (v3.length : Int))) else (.ret [(.dat v3.length (Zz v3))]))
 | .h1 v3 v4 v5 => (bif (decide (v5 > 0)) then (bif ((decide (0 ≤ (IntKind.wrap .i64 (v5 - 1)) ∧ (IntKind.wrap .i64 (v5 - 1)) < (v3.length : Int))) && true) then (bif (decide ((0 + (Int.toNat (IntKind.wrap .i64 (v5 - 1)))) < v3.length)) then (bif ((decide (0 ≤ v4 ∧ v4 < (l0.length : Int))) && true) then (bif (decide ((rd v3 (0 + (Int.toNat (IntKind.wrap .i64 (v5 - 1))))) > (rd l0 v4.toNat))) then (.to (.h1 v3 v4 (IntKind.wrap .i64 (v5 - 1)))) else (bif ((rd v3 (0 + (Int.toNat (IntKind.wrap .i64 (v5 - 1))))) == (rd l0 v4.toNat)) then (.to (.h0 v3 (IntKind.wrap .i64 (v4 + 1)))) else (bif (Nat.beq 1 1 && ((decide (0 + v3.length = v3.length)) && decide ((v3.length + 1 + 1) * (8 + 1) ≤ Ja))) then (bif (true && ((decide (0 ≤ (IntKind.wrap .i64 (v5 + 1)))) && (decide ((v3.length + 1) ≤ (v3.length + 1)) && decide ((Int.toNat (IntKind.wrap .i64 (v5 + 1))) ≤ (v3.length + 1))))) then (bif (true && ((decide (0 ≤ v5)) && (decide ((v3.length + 1) ≤ (v3.length + 1)) && decide (v5.toNat ≤ (v3.length + 1))))) then (bif (decide ((0 + v5.toNat) + ((v3.length + 1) - v5.toNat) ≤ (v3.length + 1))) then (bif (decide ((0 + (Int.toNat (IntKind.wrap .i64 (v5 + 1)))) + ((v3.length + 1) - (Int.toNat (IntKind.wrap .i64 (v5 + 1)))) ≤ (v3.length + 1))) then (bif ((decide (0 ≤ v5 ∧ v5 < (((v3.length + 1) : Nat) : Int))) && true) then (bif (decide ((0 + v5.toNat) < (v3.length + 1))) then (.to (.h0 ((y2d (v3 ++ [0]) (0 + (Int.toNat (IntKind.wrap .i64 (v5 + 1)))) (Nat.min ((v3.length + 1) - v5.toNat) ((v3.length + 1) - (Int.toNat (IntKind.wrap .i64 (v5 + 1))))) (Kh (v3 ++ [0]) (0 + v5.toNat) ((v3.length + 1) - v5.toNat))).set (0 + v5.toNat) (rd l0 v4.toNat)) (IntKind.wrap .i64 (v4 + 1)))) else .stuck) else .stuck) else .stuck) else .stuck) else .stuck) else .stuck) else .stuck))) else .stuck) else .stuck) else .stuck) else (bif (Nat.beq 1 1 && ((decide (0 + v3.length = v3.length)) && decide ((v3.length + 1 + 1) * (8 + 1) ≤ Ja))) then (bif (true && ((decide (0 ≤ (IntKind.wrap .i64 (v5 + 1)))) && (decide ((v3.length + 1) ≤ (v3.length + 1)) && decide ((Int.toNat (IntKind.wrap .i64 (v5 + 1))) ≤ (v3.length + 1))))) then (bif (true && ((decide (0 ≤ v5)) && (decide ((v3.length + 1) ≤ (v3.length + 1)) && decide (v5.toNat ≤ (v3.length + 1))))) then (bif (decide ((0 + v5.toNat) + ((v3.length + 1) - v5.toNat) ≤ (v3.length + 1))) then (bif (decide ((0 + (Int.toNat (IntKind.wrap .i64 (v5 + 1)))) + ((v3.length + 1) - (Int.toNat (IntKind.wrap .i64 (v5 + 1)))) ≤ (v3.length + 1))) then (bif ((decide (0 ≤ v4 ∧ v4 < (l0.length : Int))) && true) then (bif ((decide (0 ≤ v5 ∧ v5 < (((v3.length + 1) : Nat) : Int))) && true) then (bif (decide ((0 + v5.toNat) < (v3.length + 1))) then (.to (.h0 ((y2d (v3 ++ [0]) (0 + (Int.toNat (IntKind.wrap .i64 (v5 + 1)))) (Nat.min ((v3.length + 1) - v5.toNat) ((v3.length + 1) - (Int.toNat (IntKind.wrap .i64 (v5 + 1))))) (Kh (v3 ++ [0]) (0 + v5.toNat) ((v3.length + 1) - v5.toNat))).set (0 + v5.toNat) (rd l0 v4.toNat)) (IntKind.wrap .i64 (v4 + 1)))) else .stuck) else .stuck) else .stuck) else .stuck) else .stuck) else .stuck) else .stuck) else .stuck))
def z2s (l0 : List Int) : Xa rsortS := (.to (.h0 ([] : List Int) 0))
theorem y6m (l0 : List Int) : ∀ s, Xo prog (Zy prog 133) (w0s l0) (w0s l0 s) (Vw l0 s)
 | .h0 v3 v4 => (lb (fun k0 => (sl Zp 21 [] ⟨[0], [], w0q, w0r⟩ ⟨[], [], []⟩ [true] (pp (fl v3 nn) (tt k0 nn)))) (fun k0 => (lr 63 3 [1, 1, 1, 1, 1, 1, 0] 1 15 [(2, (.dat v3.length (Zz v3)))] (sl Zp 15 [] ⟨[], [0], [some [2]], []⟩ ⟨[(2, .frz v3.length v3.length (Zz v3) (Zz v3))], [], []⟩ [false] (pp (xZ (z5k 1 1 0 v3.length v3.length (Zz v3)) v3.length (Zz v3)) (pp (xL v3.length v3.length) (pp (xS v3.length (Zz v3) (Zz v3)) (pp (fl v3 nn) (tt k0 nn)))))))))
 | .h1 v3 v4 v5 => (lb (fun k0 => (lo fun aG => (lo fun bI => (lo fun cF => (lb (fun k1 => (sl Zp 13 [] ⟨[0], [], w0q, w0r⟩ ⟨[], [], []⟩ (trs 11 []) (pp (fl v3 nn) (tt k1 (ww cF (ww bI (ww aG (tt k0 nn)))))))) (fun k1 => (lb (fun k2 => (sl Zp 16 [] ⟨[0], [], y4d, y4e⟩ ⟨[], [], []⟩ (trs 10 [false, true, true, true, true, true, true, true, true, true, true, true]) (pp (fl v3 nn) (tt k2 (ww cF (ww bI (ww aG (tt k0 (tt k1 (ww cF (ww bI (ww aG (tt k0 nn))))))))))))) (fun k2 => (lo fun o0 => (lo fun o1 => (lo fun o2 => (lo fun o3 => (lo fun o4 => (lo fun o5 => (lo fun o6 => (sl Zp 36 [] ⟨[2], [], y4d, y4e⟩ ⟨[(3, .len ((y2d (v3 ++ [0]) (0 + (tn (wr (v5 + 1)))) (Nat.min ((v3.length + 1) - (tn v5)) ((v3.length + 1) - (tn (wr (v5 + 1))))) (Kh (v3 ++ [0]) (0 + (tn v5)) ((v3.length + 1) - (tn v5)))).set (0 + (tn v5)) (rd l0 (tn v4))).length)], [.rowed 1 ((y2d (v3 ++ [0]) (0 + (tn (wr (v5 + 1)))) (Nat.min ((v3.length + 1) - (tn v5)) ((v3.length + 1) - (tn (wr (v5 + 1))))) (Kh (v3 ++ [0]) (0 + (tn v5)) ((v3.length + 1) - (tn v5)))).set (0 + (tn v5)) (rd l0 (tn v4))).length (Zz ((y2d (v3 ++ [0]) (0 + (tn (wr (v5 + 1)))) (Nat.min ((v3.length + 1) - (tn v5)) ((v3.length + 1) - (tn (wr (v5 + 1))))) (Kh (v3 ++ [0]) (0 + (tn v5)) ((v3.length + 1) - (tn v5)))).set (0 + (tn v5)) (rd l0 (tn v4))))], []⟩ (trs 10 [false, true, true, true, true, true, true, true, true, true, true, false]) (pp (xL (v3.length + 1) ((y2d (v3 ++ [0]) (0 + (tn (wr (v5 + 1)))) (Nat.min ((v3.length + 1) - (tn v5)) ((v3.length + 1) - (tn (wr (v5 + 1))))) (Kh (v3 ++ [0]) (0 + (tn v5)) ((v3.length + 1) - (tn v5)))).set (0 + (tn v5)) (rd l0 (tn v4))).length) (pp (xL (v3.length + 1) ((y2d (v3 ++ [0]) (0 + (tn (wr (v5 + 1)))) (Nat.min ((v3.length + 1) - (tn v5)) ((v3.length + 1) - (tn (wr (v5 + 1))))) (Kh (v3 ++ [0]) (0 + (tn v5)) ((v3.length + 1) - (tn v5)))).set (0 + (tn v5)) (rd l0 (tn v4))).length) (pp (xS (v3.length + 1) (Xd (Vn (Ze (Zz v3) 0 v3.length 1 [(ii 0)]) (0 + (tn (wr (v5 + 1)))) (Nat.min ((v3.length + 1) - (tn v5)) ((v3.length + 1) - (tn (wr (v5 + 1))))) (fun k => (Ze (Zz v3) 0 v3.length 1 [(ii 0)]) ((0 + (tn v5)) + k))) (0 + (tn v5)) 0 [(ii (rd l0 (tn v4)))]) (Zz ((y2d (v3 ++ [0]) (0 + (tn (wr (v5 + 1)))) (Nat.min ((v3.length + 1) - (tn v5)) ((v3.length + 1) - (tn (wr (v5 + 1))))) (Kh (v3 ++ [0]) (0 + (tn v5)) ((v3.length + 1) - (tn v5)))).set (0 + (tn v5)) (rd l0 (tn v4))))) (pp (pp (xF (Xd (Vn (Ze (Zz v3) 0 v3.length 1 [(ii 0)]) (0 + (tn (wr (v5 + 1)))) (Nat.min ((v3.length + 1) - (tn v5)) ((v3.length + 1) - (tn (wr (v5 + 1))))) (fun k => (Ze (Zz v3) 0 v3.length 1 [(ii 0)]) ((0 + (tn v5)) + k))) (0 + (tn v5)) 0 [(ii (rd l0 (tn v4)))])) nn) (ww o6 (ww o5 (ww cF (pp (pp (xG (Nat.beq 1 1)) (pp (xG (Nat.beq 1 1)) (pp (xw o4) (pp (xG (Nat.beq 1 1)) (pp (xG (Nat.beq 1 1)) (pp (xG (decide ((0 + (tn v5)) + ((v3.length + 1) - (tn v5)) ≤ (v3.length + 1)))) (xG (y8e 1 ((v3.length + 1) - (tn v5)) (fun k => (Ze (Zz v3) 0 v3.length 1 [(ii 0)]) ((0 + (tn v5)) + k)))))))))) (ww o2 (ww o1 (ww o0 (tt k2 (ww cF (ww bI (ww aG (tt k0 (tt k1 (ww cF (ww bI (ww aG (tt k0 nn))))))))))))))))))))))))))))))))))))) (fun k0 => (lo fun o0 => (lo fun o1 => (lo fun o2 => (lo fun o3 => (lo fun o4 => (lo fun o5 => (lo fun o6 => (lo fun o7 => (sl Zp 36 [] ⟨[2], [], y4d, y4e⟩ ⟨[(3, .len ((y2d (v3 ++ [0]) (0 + (tn (wr (v5 + 1)))) (Nat.min ((v3.length + 1) - (tn v5)) ((v3.length + 1) - (tn (wr (v5 + 1))))) (Kh (v3 ++ [0]) (0 + (tn v5)) ((v3.length + 1) - (tn v5)))).set (0 + (tn v5)) (rd l0 (tn v4))).length)], [.rowed 1 ((y2d (v3 ++ [0]) (0 + (tn (wr (v5 + 1)))) (Nat.min ((v3.length + 1) - (tn v5)) ((v3.length + 1) - (tn (wr (v5 + 1))))) (Kh (v3 ++ [0]) (0 + (tn v5)) ((v3.length + 1) - (tn v5)))).set (0 + (tn v5)) (rd l0 (tn v4))).length (Zz ((y2d (v3 ++ [0]) (0 + (tn (wr (v5 + 1)))) (Nat.min ((v3.length + 1) - (tn v5)) ((v3.length + 1) - (tn (wr (v5 + 1))))) (Kh (v3 ++ [0]) (0 + (tn v5)) ((v3.length + 1) - (tn v5)))).set (0 + (tn v5)) (rd l0 (tn v4))))], []⟩ [false, false, false, false, false, false, false, false, false, false, false, false, false, false, false, false, false, false, false, false, false, false] (pp (xL (v3.length + 1) ((y2d (v3 ++ [0]) (0 + (tn (wr (v5 + 1)))) (Nat.min ((v3.length + 1) - (tn v5)) ((v3.length + 1) - (tn (wr (v5 + 1))))) (Kh (v3 ++ [0]) (0 + (tn v5)) ((v3.length + 1) - (tn v5)))).set (0 + (tn v5)) (rd l0 (tn v4))).length) (pp (xL (v3.length + 1) ((y2d (v3 ++ [0]) (0 + (tn (wr (v5 + 1)))) (Nat.min ((v3.length + 1) - (tn v5)) ((v3.length + 1) - (tn (wr (v5 + 1))))) (Kh (v3 ++ [0]) (0 + (tn v5)) ((v3.length + 1) - (tn v5)))).set (0 + (tn v5)) (rd l0 (tn v4))).length) (pp (xS (v3.length + 1) (Xd (Vn (Ze (Zz v3) 0 v3.length 1 [(ii 0)]) (0 + (tn (wr (v5 + 1)))) (Nat.min ((v3.length + 1) - (tn v5)) ((v3.length + 1) - (tn (wr (v5 + 1))))) (fun k => (Ze (Zz v3) 0 v3.length 1 [(ii 0)]) ((0 + (tn v5)) + k))) (0 + (tn v5)) 0 [(ii (rd l0 (tn v4)))]) (Zz ((y2d (v3 ++ [0]) (0 + (tn (wr (v5 + 1)))) (Nat.min ((v3.length + 1) - (tn v5)) ((v3.length + 1) - (tn (wr (v5 + 1))))) (Kh (v3 ++ [0]) (0 + (tn v5)) ((v3.length + 1) - (tn v5)))).set (0 + (tn v5)) (rd l0 (tn v4))))) (pp (pp (xF (Xd (Vn (Ze (Zz v3) 0 v3.length 1 [(ii 0)]) (0 + (tn (wr (v5 + 1)))) (Nat.min ((v3.length + 1) - (tn v5)) ((v3.length + 1) - (tn (wr (v5 + 1))))) (fun k => (Ze (Zz v3) 0 v3.length 1 [(ii 0)]) ((0 + (tn v5)) + k))) (0 + (tn v5)) 0 [(ii (rd l0 (tn v4)))])) nn) (ww o7 (ww o6 (ww o5 (pp (pp (xG (Nat.beq 1 1)) (pp (xG (Nat.beq 1 1)) (pp (xw o4) (pp (xG (Nat.beq 1 1)) (pp (xG (Nat.beq 1 1)) (pp (xG (decide ((0 + (tn v5)) + ((v3.length + 1) - (tn v5)) ≤ (v3.length + 1)))) (xG (y8e 1 ((v3.length + 1) - (tn v5)) (fun k => (Ze (Zz v3) 0 v3.length 1 [(ii 0)]) ((0 + (tn v5)) + k)))))))))) (ww o2 (ww o1 (ww o0 (tt k0 (tt k0 nn))))))))))))))))))))))))
theorem y4c (l0 : List Int) : Xo prog (Zy prog 133) (w0s l0) (Zc prog 133 [(.dat l0.length (Zz l0))] true []) (z2s l0) := (sl Zp 15 [(3, 1, Zz ([] : List Int))] ⟨[0], [], y4d, y4e⟩ ⟨[(3, .grow 0 1)], [], []⟩ [] (pp (fl ([] : List Int) nn) nn))
theorem x6p (l0 : List Int) (n : Nat) (vs : List AVal) (h : Yx (Vw l0) n (z2s l0) = .ret vs) : Jc prog (Zy prog 133) (Zc prog 133 [(.dat l0.length (Zz l0))] true []) vs := by
 have := Zn (y6m l0) n _ (y4c l0)
 rwa [h] at this
inductive rcanS where
 | h0 (v5 : List R2) (v6 : Int)
def v6v (l0 : List Int) (l1 : List Bool) : rcanS → Cfg
 | .h0 v5 v6 => ⟨⟨61, 0, true⟩, none, (Zg prog 139 [1, 1, 0, 1, 0, 0] 0), none, (Zy prog 3), ⟨Yq [(0, (.dat l0.length (Zz l0))), (1, (.dat l1.length (Zz l1))), (5, (.sla 0 2 0 v5.length (.un 2))), (6, (ii v6))], Va [⟨Yg v5.length (Zz v5), 110, some ⟨2, v5.length, (Zz v5)⟩⟩] 0, 1, [], true⟩, [], .leaf⟩
def y7a : List (Option (List Nat)) := [some [0, 1, 5, 6]]
def y7b : List (Option (List Nat)) := []
def Kx (l0 : List Int) (l1 : List Bool) : rcanS → Xa rcanS
 | .h0 v5 v6 => (bif (decide ((IntKind.wrap .i64 (v6 + 1)) < (l0.length : Int))) then (bif ((decide (0 ≤ v6 ∧ v6 < (l1.length : Int))) && true) then (bif (!(rd l1 v6.toNat)) then (.to (.h0 v5 (IntKind.wrap .i64 (v6 + 1)))) else (bif (decide ((v5.length : Int) > 0)) then (bif ((decide (0 ≤ (IntKind.wrap .i64 ((v5.length : Int) - 1)) ∧ (IntKind.wrap .i64 ((v5.length : Int) - 1)) < (v5.length : Int))) && true) then (bif (decide ((0 + (Int.toNat (IntKind.wrap .i64 ((v5.length : Int) - 1)))) < v5.length)) then (bif ((decide (0 ≤ v6 ∧ v6 < (l0.length : Int))) && true) then (bif ((rd v5 (0 + (Int.toNat (IntKind.wrap .i64 ((v5.length : Int) - 1))))).b == (rd l0 v6.toNat)) then (bif ((decide (0 ≤ (IntKind.wrap .i64 (v6 + 1)) ∧ (IntKind.wrap .i64 (v6 + 1)) < (l0.length : Int))) && true) then (.to (.h0 (v5.set (0 + (Int.toNat (IntKind.wrap .i64 ((v5.length : Int) - 1)))) (R2.mk (rd v5 (0 + (Int.toNat (IntKind.wrap .i64 ((v5.length : Int) - 1))))).a (rd l0 (Int.toNat (IntKind.wrap .i64 (v6 + 1)))))) (IntKind.wrap .i64 (v6 + 1)))) else .stuck) else (bif ((decide (0 ≤ (IntKind.wrap .i64 (v6 + 1)) ∧ (IntKind.wrap .i64 (v6 + 1)) < (l0.length : Int))) && true) then (bif (Nat.beq 2 2 && ((decide (0 + v5.length = v5.length)) && decide ((v5.length + 1 + 1) * (16 + 1) ≤ Ja))) then (.to (.h0 (v5 ++ [(R2.mk (rd l0 v6.toNat) (rd l0 (Int.toNat (IntKind.wrap .i64 (v6 + 1)))))]) (IntKind.wrap .i64 (v6 + 1)))) else .stuck) else .stuck)) else .stuck) else .stuck) else .stuck) else (bif ((decide (0 ≤ v6 ∧ v6 < (l0.length : Int))) && true) then (bif ((decide (0 ≤ (IntKind.wrap .i64 (v6 + 1)) ∧ (IntKind.wrap .i64 (v6 + 1)) < (l0.length : Int))) && true) then (bif (Nat.beq 2 2 && ((decide (0 + v5.length = v5.length)) && decide ((v5.length + 1 + 1) * (16 + 1) ≤ Ja))) then (.to (.h0 (v5 ++ [(R2.mk (rd l0 v6.toNat) (rd l0 (Int.toNat (IntKind.wrap .i64 (v6 + 1)))))]) (IntKind.wrap .i64 (v6 + 1)))) else .stuck) else .stuck) else .stuck))) else .stuck) else (.ret [(.dat v5.length (Zz v5))]))
def z4y (l0 : List Int) (l1 : List Bool) : Xa rcanS := (.to (.h0 ([] : List R2) 0))
theorem x0u (l0 : List Int) (l1 : List Bool) : ∀ s, Xo prog (Zy prog 139) (v6v l0 l1) (v6v l0 l1 s) (Kx l0 l1 s)
 | .h0 v5 v6 => (lb (fun k0 => (lo fun aG => (lb (fun k1 => (sl Zp 30 [] ⟨[0], [], y7a, y7b⟩ ⟨[], [], []⟩ [true, true] (pp (fl v5 nn) (tt k1 (ww aG (tt k0 nn)))))) (fun k1 => (lb (fun k2 => (lo fun cX => (lo fun dU => (lo fun dC => (lb (fun k3 => (lo fun o0 => (sl Zp 53 [] ⟨[0], [], y7a, y7b⟩ ⟨[(5, .len (v5.set (0 + (tn (wr ((v5.length : Int) - 1)))) (R2.mk (rd v5 (0 + (tn (wr ((v5.length : Int) - 1))))).a (rd l0 (tn (wr (v6 + 1)))))).length)], [.rowed 2 (v5.set (0 + (tn (wr ((v5.length : Int) - 1)))) (R2.mk (rd v5 (0 + (tn (wr ((v5.length : Int) - 1))))).a (rd l0 (tn (wr (v6 + 1)))))).length (Zz (v5.set (0 + (tn (wr ((v5.length : Int) - 1)))) (R2.mk (rd v5 (0 + (tn (wr ((v5.length : Int) - 1))))).a (rd l0 (tn (wr (v6 + 1)))))))], []⟩ [true, false, true, true, true, true, true, true, true, true, true, true, true, true] (pp (xL v5.length (v5.set (0 + (tn (wr ((v5.length : Int) - 1)))) (R2.mk (rd v5 (0 + (tn (wr ((v5.length : Int) - 1))))).a (rd l0 (tn (wr (v6 + 1)))))).length) (pp (xL v5.length (v5.set (0 + (tn (wr ((v5.length : Int) - 1)))) (R2.mk (rd v5 (0 + (tn (wr ((v5.length : Int) - 1))))).a (rd l0 (tn (wr (v6 + 1)))))).length) (pp (xS v5.length (Xd (Zz v5) (0 + (tn (wr ((v5.length : Int) - 1)))) 1 [(ii (rd l0 (tn (wr (v6 + 1)))))]) (Zz (v5.set (0 + (tn (wr ((v5.length : Int) - 1)))) (R2.mk (rd v5 (0 + (tn (wr ((v5.length : Int) - 1))))).a (rd l0 (tn (wr (v6 + 1)))))))) (pp (pp (xF (Xd (Zz v5) (0 + (tn (wr ((v5.length : Int) - 1)))) 1 [(ii (rd l0 (tn (wr (v6 + 1)))))])) nn) (ww dU (ww cX (ww o0 (tt k3 (ww dC (ww dU (ww cX (tt k2 (tt k1 (ww aG (tt k0 nn)))))))))))))))))) (fun k3 => (lo fun o0 => (lo fun o1 => (sl Zp 41 [] ⟨[2], [], y7a, y7b⟩ ⟨[(5, .len (v5 ++ [(R2.mk (rd l0 (tn v6)) (rd l0 (tn (wr (v6 + 1)))))]).length)], [.rowed 2 (v5 ++ [(R2.mk (rd l0 (tn v6)) (rd l0 (tn (wr (v6 + 1)))))]).length (Zz (v5 ++ [(R2.mk (rd l0 (tn v6)) (rd l0 (tn (wr (v6 + 1)))))]))], []⟩ [true, false, true, true, true, true, true, true, true, true, true, true, true, false] (pp (xL (v5.length + 1) (v5 ++ [(R2.mk (rd l0 (tn v6)) (rd l0 (tn (wr (v6 + 1)))))]).length) (pp (xL (v5.length + 1) (v5 ++ [(R2.mk (rd l0 (tn v6)) (rd l0 (tn (wr (v6 + 1)))))]).length) (pp (xS (v5.length + 1) (Ze (Zz v5) 0 v5.length 2 [(ii (rd l0 (tn v6))), (ii (rd l0 (tn (wr (v6 + 1)))))]) (Zz (v5 ++ [(R2.mk (rd l0 (tn v6)) (rd l0 (tn (wr (v6 + 1)))))]))) (pp (pp (xF (Ze (Zz v5) 0 v5.length 2 [(ii (rd l0 (tn v6))), (ii (rd l0 (tn (wr (v6 + 1)))))])) nn) (ww o1 (ww o0 (ww dC (tt k3 (ww dC (ww dU (ww cX (tt k2 (tt k1 (ww aG (tt k0 nn)))))))))))))))))))))))) (fun k2 => (lo fun o0 => (lo fun o1 => (lo fun o2 => (sl Zp 41 [] ⟨[2], [], y7a, y7b⟩ ⟨[(5, .len (v5 ++ [(R2.mk (rd l0 (tn v6)) (rd l0 (tn (wr (v6 + 1)))))]).length)], [.rowed 2 (v5 ++ [(R2.mk (rd l0 (tn v6)) (rd l0 (tn (wr (v6 + 1)))))]).length (Zz (v5 ++ [(R2.mk (rd l0 (tn v6)) (rd l0 (tn (wr (v6 + 1)))))]))], []⟩ [true, false, false, false, false, false, false, false, false, false, false, false, false, false] (pp (xL (v5.length + 1) (v5 ++ [(R2.mk (rd l0 (tn v6)) (rd l0 (tn (wr (v6 + 1)))))]).length) (pp (xL (v5.length + 1) (v5 ++ [(R2.mk (rd l0 (tn v6)) (rd l0 (tn (wr (v6 + 1)))))]).length) (pp (xS (v5.length + 1) (Ze (Zz v5) 0 v5.length 2 [(ii (rd l0 (tn v6))), (ii (rd l0 (tn (wr (v6 + 1)))))]) (Zz (v5 ++ [(R2.mk (rd l0 (tn v6)) (rd l0 (tn (wr (v6 + 1)))))]))) (pp (pp (xF (Ze (Zz v5) 0 v5.length 2 [(ii (rd l0 (tn v6))), (ii (rd l0 (tn (wr (v6 + 1)))))])) nn) (ww o2 (ww o1 (ww o0 (tt k2 (tt k1 (ww aG (tt k0 nn))))))))))))))))))))) (fun k0 => (lr 61 3 [1, 1, 1, 1, 1, 1, 0] 1 3 [(4, (.dat v5.length (Zz v5)))] (sl Zp 16 [] ⟨[], [0], [some [4]], []⟩ ⟨[(4, .frz v5.length v5.length (Zz v5) (Zz v5))], [], []⟩ [false] (pp (xZ (z5k 2 2 0 v5.length v5.length (Zz v5)) v5.length (Zz v5)) (pp (xL v5.length v5.length) (pp (xS v5.length (Zz v5) (Zz v5)) (pp (fl v5 nn) (tt k0 nn)))))))))
theorem y6z (l0 : List Int) (l1 : List Bool) : Xo prog (Zy prog 139) (v6v l0 l1) (Zc prog 139 [(.dat l0.length (Zz l0)), (.dat l1.length (Zz l1))] true []) (z4y l0 l1) := (sl Zp 15 [(110, 2, Zz ([] : List R2))] ⟨[0], [], y7a, y7b⟩ ⟨[(5, .grow 0 2)], [], []⟩ [] (pp (fl ([] : List R2) nn) nn))
theorem w1y (l0 : List Int) (l1 : List Bool) (n : Nat) (vs : List AVal) (h : Yx (Kx l0 l1) n (z4y l0 l1) = .ret vs) : Jc prog (Zy prog 139) (Zc prog 139 [(.dat l0.length (Zz l0)), (.dat l1.length (Zz l1))] true []) vs := by
 have := Zn (x0u l0 l1) n _ (y6z l0 l1)
 rwa [h] at this
inductive rsmS where
 | h0 (v5 : Int)
def rsmC (l0 : List R2) (l1 : List R2) : rsmS → Cfg
 | .h0 v5 => ⟨⟨26, 0, true⟩, none, (Zg prog 140 [1, 1, 0, 1, 0, 0] 0), none, (Zy prog 3), ⟨Yq [(0, (.dat l0.length (Zz l0))), (1, (.dat l1.length (Zz l1))), (5, (ii v5))], Va [] 0, 0, [], true⟩, [], .leaf⟩
def rsmN0 : List (Option (List Nat)) := [some [0, 1, 5]]
def rsmM0 : List (Option (List Nat)) := []
def z3x (l0 : List R2) (l1 : List R2) : rsmS → Xa rsmS
 | .h0 v5 => (bif (decide (v5 < (l0.length : Int))) then (bif ((decide (0 ≤ v5 ∧ v5 < (l0.length : Int))) && true) then (bif ((decide (0 ≤ v5 ∧ v5 < (l1.length : Int))) && true) then (bif (!(((rd l0 v5.toNat).a == (rd l1 v5.toNat).a) && (((rd l0 v5.toNat).b == (rd l1 v5.toNat).b) && true))) then (.ret [(.bool false)]) else (.to (.h0 (IntKind.wrap .i64 (v5 + 1))))) else .stuck) else .stuck) else (.ret [(.bool true)]))
def z4o (l0 : List R2) (l1 : List R2) : Xa rsmS := (bif ((l0.length : Int) != (l1.length : Int)) then (.ret [(.bool false)]) else (.to (.h0 0)))
theorem x6q (l0 : List R2) (l1 : List R2) : ∀ s, Xo prog (Zy prog 140) (rsmC l0 l1) (rsmC l0 l1 s) (z3x l0 l1 s)
 | .h0 v5 => (lb (fun k0 => (lo fun aG => (lo fun bI => (lb (fun k1 => (lr 26 140 [1, 1, 0, 1, 0, 0, 1, 0, 0, 1, 0, 0] 1 3 [(4, (.bool false))] (sl Zp 19 [] ⟨[], [], [some [4]], []⟩ ⟨[], [], []⟩ [true, true] (tt k1 (ww bI (ww aG (tt k0 nn))))))) (fun k1 => (sl Zp 23 [] ⟨[], [], rsmN0, rsmM0⟩ ⟨[], [], []⟩ [true, false] (tt k1 (ww bI (ww aG (tt k0 nn)))))))))) (fun k0 => (lr 26 3 [1, 1, 1, 1, 1, 1, 0] 1 3 [(4, (.bool true))] (sl Zp 14 [] ⟨[], [], [some [4]], []⟩ ⟨[], [], []⟩ [false] (tt k0 nn)))))
theorem x0a (l0 : List R2) (l1 : List R2) : Xo prog (Zy prog 140) (rsmC l0 l1) (Zc prog 140 [(.dat l0.length (Zz l0)), (.dat l1.length (Zz l1))] true []) (z4o l0 l1) := (lb (fun k0 => (lr 26 140 [1, 0, 1, 0, 0] 1 3 [(4, (.bool false))] (sl Zp 18 [] ⟨[], [], [some [4]], []⟩ ⟨[], [], []⟩ [true] (tt k0 nn)))) (fun k0 => (sl Zp 22 [] ⟨[], [], rsmN0, rsmM0⟩ ⟨[], [], []⟩ [false] (tt k0 nn))))
theorem w6k (l0 : List R2) (l1 : List R2) (n : Nat) (vs : List AVal) (h : Yx (z3x l0 l1) n (z4o l0 l1) = .ret vs) : Jc prog (Zy prog 140) (Zc prog 140 [(.dat l0.length (Zz l0)), (.dat l1.length (Zz l1))] true []) vs := by
 have := Zn (x6q l0 l1) n _ (x0a l0 l1)
 rwa [h] at this
inductive rhasS where
 | h0 (v7 : Int)
def v6p (l0 : List R4) (x1 : Int) (x2 : Int) : rhasS → Cfg
 | .h0 v7 => ⟨⟨48, 0, true⟩, none, (Zg prog 138 [1, 0, 1, 0, 0] 0), none, (Zy prog 4), ⟨Yq [(0, (.dat l0.length (Zz l0))), (1, (ii x1)), (2, (ii x2)), (7, (ii v7))], Va [] 0, 0, [], true⟩, [], .leaf⟩
def y6q : List (Option (List Nat)) := [some [0, 1, 2, 7]]
def y6r : List (Option (List Nat)) := []
def z2u (l0 : List R4) (x1 : Int) (x2 : Int) : rhasS → Xa rhasS
 | .h0 v7 => (bif (decide (v7 < (l0.length : Int))) then (bif ((decide (0 ≤ v7 ∧ v7 < (l0.length : Int))) && true) then (bif (decide ((rd l0 v7.toNat).a ≤ x1)) then (bif (decide (x1 < (rd l0 v7.toNat).c)) then (bif (decide ((rd l0 v7.toNat).b ≤ x2)) then (bif (decide (x2 < (rd l0 v7.toNat).d)) then (.ret [(.bool true)]) else (.to (.h0 (IntKind.wrap .i64 (v7 + 1))))) else (.to (.h0 (IntKind.wrap .i64 (v7 + 1))))) else (.to (.h0 (IntKind.wrap .i64 (v7 + 1))))) else (.to (.h0 (IntKind.wrap .i64 (v7 + 1))))) else .stuck) else (.ret [(.bool false)]))
def z4t (l0 : List R4) (x1 : Int) (x2 : Int) : Xa rhasS := (.to (.h0 0))
theorem x0k (l0 : List R4) (x1 : Int) (x2 : Int) : ∀ s, Xo prog (Zy prog 138) (v6p l0 x1 x2) (v6p l0 x1 x2 s) (z2u l0 x1 x2 s)
 | .h0 v7 => (lb (fun k0 => (lo fun aG => (lb (fun k1 => (lb (fun k2 => (lb (fun k3 => (lb (fun k4 => (lr 48 138 [1, 0, 1, 0, 0, 1, 0, 0, 1, 0, 0] 1 4 [(6, (.bool true))] (sl Zp 54 [] ⟨[], [], [some [6]], []⟩ ⟨[], [], []⟩ (trs 23 []) (tt k4 (ww aG (tt k3 (ww aG (tt k2 (ww aG (tt k1 (ww aG (tt k0 nn)))))))))))) (fun k4 => (sl Zp 58 [] ⟨[], [], y6q, y6r⟩ ⟨[], [], []⟩ (trs 22 [false]) (tt k4 (ww aG (tt k3 (ww aG (tt k2 (ww aG (tt k1 (ww aG (tt k0 nn))))))))))))) (fun k3 => (sl Zp 58 [] ⟨[], [], y6q, y6r⟩ ⟨[], [], []⟩ (trs 15 [false, false, false, false, false, false, false, false]) (tt k3 (ww aG (tt k2 (ww aG (tt k1 (ww aG (tt k0 nn))))))))))) (fun k2 => (sl Zp 58 [] ⟨[], [], y6q, y6r⟩ ⟨[], [], []⟩ (trs 8 [false, false, false, false, false, false, false, false, false, false, false, false, false, false, false]) (tt k2 (ww aG (tt k1 (ww aG (tt k0 nn))))))))) (fun k1 => (sl Zp 58 [] ⟨[], [], y6q, y6r⟩ ⟨[], [], []⟩ [true, false, false, false, false, false, false, false, false, false, false, false, false, false, false, false, false, false, false, false, false, false, false] (tt k1 (ww aG (tt k0 nn)))))))) (fun k0 => (lr 48 3 [1, 1, 1, 1, 1, 1, 0] 1 4 [(6, (.bool false))] (sl Zp 14 [] ⟨[], [], [some [6]], []⟩ ⟨[], [], []⟩ [false] (tt k0 nn)))))
theorem y6p (l0 : List R4) (x1 : Int) (x2 : Int) : Xo prog (Zy prog 138) (v6p l0 x1 x2) (Zc prog 138 [(.dat l0.length (Zz l0)), (.int .i64 x1), (.int .i64 x2)] true []) (z4t l0 x1 x2) := (sl Zp 11 [] ⟨[], [], y6q, y6r⟩ ⟨[], [], []⟩ [] nn)
theorem w1f (l0 : List R4) (x1 : Int) (x2 : Int) (n : Nat) (vs : List AVal) (h : Yx (z2u l0 x1 x2) n (z4t l0 x1 x2) = .ret vs) : Jc prog (Zy prog 138) (Zc prog 138 [(.dat l0.length (Zz l0)), (.int .i64 x1), (.int .i64 x2)] true []) vs := by
 have := Zn (x0k l0 x1 x2) n _ (y6p l0 x1 x2)
 rwa [h] at this
inductive rsrS where
 | h0 (v5 : Int)
def rsrC (l0 : List R4) (l1 : List R4) : rsrS → Cfg
 | .h0 v5 => ⟨⟨26, 0, true⟩, none, (Zg prog 117 [1, 1, 0, 1, 0, 0] 0), none, (Zy prog 3), ⟨Yq [(0, (.dat l0.length (Zz l0))), (1, (.dat l1.length (Zz l1))), (5, (ii v5))], Va [] 0, 0, [], true⟩, [], .leaf⟩
def rsrN0 : List (Option (List Nat)) := [some [0, 1, 5]]
def rsrM0 : List (Option (List Nat)) := []
def z3w (l0 : List R4) (l1 : List R4) : rsrS → Xa rsrS
 | .h0 v5 => (bif (decide (v5 < (l0.length : Int))) then (bif ((decide (0 ≤ v5 ∧ v5 < (l0.length : Int))) && true) then (bif ((decide (0 ≤ v5 ∧ v5 < (l1.length : Int))) && true) then (bif (!(((rd l0 v5.toNat).a == (rd l1 v5.toNat).a) && (((rd l0 v5.toNat).b == (rd l1 v5.toNat).b) && (((rd l0 v5.toNat).c == (rd l1 v5.toNat).c) && (((rd l0 v5.toNat).d == (rd l1 v5.toNat).d) && true))))) then (.ret [(.bool false)]) else (.to (.h0 (IntKind.wrap .i64 (v5 + 1))))) else .stuck) else .stuck) else (.ret [(.bool true)]))
def z4n (l0 : List R4) (l1 : List R4) : Xa rsrS := (bif ((l0.length : Int) != (l1.length : Int)) then (.ret [(.bool false)]) else (.to (.h0 0)))
theorem x6o (l0 : List R4) (l1 : List R4) : ∀ s, Xo prog (Zy prog 117) (rsrC l0 l1) (rsrC l0 l1 s) (z3w l0 l1 s)
 | .h0 v5 => (lb (fun k0 => (lo fun aG => (lo fun bI => (lb (fun k1 => (lr 26 117 [1, 1, 0, 1, 0, 0, 1, 0, 0, 1, 0, 0] 1 3 [(4, (.bool false))] (sl Zp 19 [] ⟨[], [], [some [4]], []⟩ ⟨[], [], []⟩ [true, true] (tt k1 (ww bI (ww aG (tt k0 nn))))))) (fun k1 => (sl Zp 23 [] ⟨[], [], rsrN0, rsrM0⟩ ⟨[], [], []⟩ [true, false] (tt k1 (ww bI (ww aG (tt k0 nn)))))))))) (fun k0 => (lr 26 3 [1, 1, 1, 1, 1, 1, 0] 1 3 [(4, (.bool true))] (sl Zp 14 [] ⟨[], [], [some [4]], []⟩ ⟨[], [], []⟩ [false] (tt k0 nn)))))
theorem y9z (l0 : List R4) (l1 : List R4) : Xo prog (Zy prog 117) (rsrC l0 l1) (Zc prog 117 [(.dat l0.length (Zz l0)), (.dat l1.length (Zz l1))] true []) (z4n l0 l1) := (lb (fun k0 => (lr 26 117 [1, 0, 1, 0, 0] 1 3 [(4, (.bool false))] (sl Zp 18 [] ⟨[], [], [some [4]], []⟩ ⟨[], [], []⟩ [true] (tt k0 nn)))) (fun k0 => (sl Zp 22 [] ⟨[], [], rsrN0, rsrM0⟩ ⟨[], [], []⟩ [false] (tt k0 nn))))
theorem w6j (l0 : List R4) (l1 : List R4) (n : Nat) (vs : List AVal) (h : Yx (z3w l0 l1) n (z4n l0 l1) = .ret vs) : Jc prog (Zy prog 117) (Zc prog 117 [(.dat l0.length (Zz l0)), (.dat l1.length (Zz l1))] true []) vs := by
 have := Zn (x6o l0 l1) n _ (y9z l0 l1)
 rwa [h] at this
inductive rsbS where
 | h0 (v5 : Int)
def rsbC (l0 : List R6) (l1 : List R6) : rsbS → Cfg
 | .h0 v5 => ⟨⟨26, 0, true⟩, none, (Zg prog 40 [1, 1, 0, 1, 0, 0] 0), none, (Zy prog 3), ⟨Yq [(0, (.dat l0.length (Zz l0))), (1, (.dat l1.length (Zz l1))), (5, (ii v5))], Va [] 0, 0, [], true⟩, [], .leaf⟩
def rsbN0 : List (Option (List Nat)) := [some [0, 1, 5]]
def rsbM0 : List (Option (List Nat)) := []
def z3y (l0 : List R6) (l1 : List R6) : rsbS → Xa rsbS
 | .h0 v5 => (bif (decide (v5 < (l0.length : Int))) then (bif ((decide (0 ≤ v5 ∧ v5 < (l0.length : Int))) && true) then (bif ((decide (0 ≤ v5 ∧ v5 < (l1.length : Int))) && true) then (bif (!((((rd l0 v5.toNat).a == (rd l1 v5.toNat).a) && (((rd l0 v5.toNat).b == (rd l1 v5.toNat).b) && (((rd l0 v5.toNat).c == (rd l1 v5.toNat).c) && true))) && ((((rd l0 v5.toNat).d == (rd l1 v5.toNat).d) && (((rd l0 v5.toNat).e == (rd l1 v5.toNat).e) && (((rd l0 v5.toNat).f == (rd l1 v5.toNat).f) && true))) && true))) then (.ret [(.bool false)]) else (.to (.h0 (IntKind.wrap .i64 (v5 + 1))))) else .stuck) else .stuck) else (.ret [(.bool true)]))
def z4p (l0 : List R6) (l1 : List R6) : Xa rsbS := (bif ((l0.length : Int) != (l1.length : Int)) then (.ret [(.bool false)]) else (.to (.h0 0)))
theorem x6r (l0 : List R6) (l1 : List R6) : ∀ s, Xo prog (Zy prog 40) (rsbC l0 l1) (rsbC l0 l1 s) (z3y l0 l1 s)
 | .h0 v5 => (lb (fun k0 => (lo fun aG => (lo fun bI => (lb (fun k1 => (lr 26 40 [1, 1, 0, 1, 0, 0, 1, 0, 0, 1, 0, 0] 1 3 [(4, (.bool false))] (sl Zp 19 [] ⟨[], [], [some [4]], []⟩ ⟨[], [], []⟩ [true, true] (tt k1 (ww bI (ww aG (tt k0 nn))))))) (fun k1 => (sl Zp 23 [] ⟨[], [], rsbN0, rsbM0⟩ ⟨[], [], []⟩ [true, false] (tt k1 (ww bI (ww aG (tt k0 nn)))))))))) (fun k0 => (lr 26 3 [1, 1, 1, 1, 1, 1, 0] 1 3 [(4, (.bool true))] (sl Zp 14 [] ⟨[], [], [some [4]], []⟩ ⟨[], [], []⟩ [false] (tt k0 nn)))))
theorem x0b (l0 : List R6) (l1 : List R6) : Xo prog (Zy prog 40) (rsbC l0 l1) (Zc prog 40 [(.dat l0.length (Zz l0)), (.dat l1.length (Zz l1))] true []) (z4p l0 l1) := (lb (fun k0 => (lr 26 40 [1, 0, 1, 0, 0] 1 3 [(4, (.bool false))] (sl Zp 18 [] ⟨[], [], [some [4]], []⟩ ⟨[], [], []⟩ [true] (tt k0 nn)))) (fun k0 => (sl Zp 22 [] ⟨[], [], rsbN0, rsbM0⟩ ⟨[], [], []⟩ [false] (tt k0 nn))))
theorem w6l (l0 : List R6) (l1 : List R6) (n : Nat) (vs : List AVal) (h : Yx (z3y l0 l1) n (z4p l0 l1) = .ret vs) : Jc prog (Zy prog 40) (Zc prog 40 [(.dat l0.length (Zz l0)), (.dat l1.length (Zz l1))] true []) vs := by
 have := Zn (x6r l0 l1) n _ (x0b l0 l1)
 rwa [h] at this
inductive ratS where
 | h0 (v5 : List R4) (v6 : Int)
def ratC (l0 : List R6) (x1 : Int) : ratS → Cfg
 | .h0 v5 v6 => ⟨⟨60, 0, true⟩, none, (Zg prog 116 [1, 1, 0, 1, 0, 0] 0), none, (Zy prog 3), ⟨Yq [(0, (.dat l0.length (Zz l0))), (1, (ii x1)), (5, (.sla 0 4 0 v5.length (.un 4))), (6, (ii v6))], Va [⟨Yg v5.length (Zz v5), 114, some ⟨4, v5.length, (Zz v5)⟩⟩] 0, 1, [], true⟩, [], .leaf⟩
def w7f : List (Option (List Nat)) := [some [0, 1, 5, 6]]
def w7g : List (Option (List Nat)) := []
def z3z (l0 : List R6) (x1 : Int) : ratS → Xa ratS
 | .h0 v5 v6 => (bif (decide (v6 < (l0.length : Int))) then (bif ((decide (0 ≤ v6 ∧ v6 < (l0.length : Int))) && true) then (bif (decide ((rd l0 v6.toNat).c ≤ x1)) then (bif (decide (x1 < (rd l0 v6.toNat).f)) then (bif (Nat.beq 4 4 && ((decide (0 + v5.length = v5.length)) && decide ((v5.length + 1 + 1) * (32 + 1) ≤ Ja))) then (.to (.h0 (v5 ++ [(R4.mk (rd l0 v6.toNat).a (rd l0 v6.toNat).b (rd l0 v6.toNat).d (rd l0 v6.toNat).e)]) (IntKind.wrap .i64 (v6 + 1)))) else .stuck) else (.to (.h0 v5 (IntKind.wrap .i64 (v6 + 1))))) else (.to (.h0 v5 (IntKind.wrap .i64 (v6 + 1))))) else .stuck) else (.ret [(.dat v5.length (Zz v5))]))
def z9b (l0 : List R6) (x1 : Int) : Xa ratS := (.to (.h0 ([] : List R4) 0))
theorem x7e (l0 : List R6) (x1 : Int) : ∀ s, Xo prog (Zy prog 116) (ratC l0 x1) (ratC l0 x1 s) (z3z l0 x1 s)
 | .h0 v5 v6 => (lb (fun k0 => (lo fun aG => (lb (fun k1 => (lb (fun k2 => (lo fun o0 => (sl Zp 42 [] ⟨[2], [], w7f, w7g⟩ ⟨[(5, .len (v5 ++ [(R4.mk (rd l0 (tn v6)).a (rd l0 (tn v6)).b (rd l0 (tn v6)).d (rd l0 (tn v6)).e)]).length)], [.rowed 4 (v5 ++ [(R4.mk (rd l0 (tn v6)).a (rd l0 (tn v6)).b (rd l0 (tn v6)).d (rd l0 (tn v6)).e)]).length (Zz (v5 ++ [(R4.mk (rd l0 (tn v6)).a (rd l0 (tn v6)).b (rd l0 (tn v6)).d (rd l0 (tn v6)).e)]))], []⟩ (trs 10 []) (pp (xL (v5.length + 1) (v5 ++ [(R4.mk (rd l0 (tn v6)).a (rd l0 (tn v6)).b (rd l0 (tn v6)).d (rd l0 (tn v6)).e)]).length) (pp (xL (v5.length + 1) (v5 ++ [(R4.mk (rd l0 (tn v6)).a (rd l0 (tn v6)).b (rd l0 (tn v6)).d (rd l0 (tn v6)).e)]).length) (pp (xS (v5.length + 1) (Ze (Zz v5) 0 v5.length 4 [(ii (rd l0 (tn v6)).a), (ii (rd l0 (tn v6)).b), (ii (rd l0 (tn v6)).d), (ii (rd l0 (tn v6)).e)]) (Zz (v5 ++ [(R4.mk (rd l0 (tn v6)).a (rd l0 (tn v6)).b (rd l0 (tn v6)).d (rd l0 (tn v6)).e)]))) (pp (pp (xF (Ze (Zz v5) 0 v5.length 4 [(ii (rd l0 (tn v6)).a), (ii (rd l0 (tn v6)).b), (ii (rd l0 (tn v6)).d), (ii (rd l0 (tn v6)).e)])) nn) (ww o0 (ww aG (ww aG (ww aG (ww aG (tt k2 (ww aG (tt k1 (ww aG (tt k0 nn))))))))))))))))) (fun k2 => (sl Zp 42 [] ⟨[0], [], w7f, w7g⟩ ⟨[], [], []⟩ (trs 9 [false]) (pp (fl v5 nn) (tt k2 (ww aG (tt k1 (ww aG (tt k0 nn)))))))))) (fun k1 => (sl Zp 42 [] ⟨[0], [], w7f, w7g⟩ ⟨[], [], []⟩ [true, false, false, false, false, false, false, false, false, false] (pp (fl v5 nn) (tt k1 (ww aG (tt k0 nn))))))))) (fun k0 => (lr 60 3 [1, 1, 1, 1, 1, 1, 0] 1 3 [(4, (.dat v5.length (Zz v5)))] (sl Zp 15 [] ⟨[], [0], [some [4]], []⟩ ⟨[(4, .frz v5.length v5.length (Zz v5) (Zz v5))], [], []⟩ [false] (pp (xZ (z5k 4 4 0 v5.length v5.length (Zz v5)) v5.length (Zz v5)) (pp (xL v5.length v5.length) (pp (xS v5.length (Zz v5) (Zz v5)) (pp (fl v5 nn) (tt k0 nn)))))))))
theorem x0v (l0 : List R6) (x1 : Int) : Xo prog (Zy prog 116) (ratC l0 x1) (Zc prog 116 [(.dat l0.length (Zz l0)), (.int .i64 x1)] true []) (z9b l0 x1) := (sl Zp 15 [(114, 4, Zz ([] : List R4))] ⟨[0], [], w7f, w7g⟩ ⟨[(5, .grow 0 4)], [], []⟩ [] (pp (fl ([] : List R4) nn) nn))
theorem w7e (l0 : List R6) (x1 : Int) (n : Nat) (vs : List AVal) (h : Yx (z3z l0 x1) n (z9b l0 x1) = .ret vs) : Jc prog (Zy prog 116) (Zc prog 116 [(.dat l0.length (Zz l0)), (.int .i64 x1)] true []) vs := by
 have := Zn (x7e l0 x1) n _ (x0v l0 x1)
 rwa [h] at this
inductive eqaS where
 | h0 (v13 : Int)
def eqaC (l0 : List R2) (l1 : List R2) : eqaS → Cfg
 | .h0 v13 => ⟨⟨26, 0, true⟩, none, (Zg prog 123 [1, 1, 0, 1, 0, 0] 0), none, (Zy prog 3), ⟨Yq [(0, (.dat l0.length (Zz l0))), (1, (.dat l1.length (Zz l1))), (12, (ii (l0.length : Int))), (13, (ii v13))], Va [] 0, 0, [], true⟩, [], .leaf⟩
def eqaN0 : List (Option (List Nat)) := [some [0, 1, 12, 13]]
def eqaM0 : List (Option (List Nat)) := []
def z4f (l0 : List R2) (l1 : List R2) : eqaS → Xa eqaS
 | .h0 v13 => (bif (decide (v13 < (l0.length : Int))) then (bif ((decide (0 ≤ v13 ∧ v13 < (l0.length : Int))) && true) then (bif ((decide (0 ≤ v13 ∧ v13 < (l1.length : Int))) && true) then (bif (!(((rd l0 v13.toNat).a == (rd l1 v13.toNat).a) && (((rd l0 v13.toNat).b == (rd l1 v13.toNat).b) && true))) then (.ret [(.bool false)]) else (.to (.h0 (IntKind.wrap .i64 (v13 + 1))))) else .stuck) else .stuck) else (.ret [(.bool true)]))
def z5q (l0 : List R2) (l1 : List R2) : Xa eqaS := (bif ((l0.length : Int) != (l1.length : Int)) then (.ret [(.bool false)]) else (.to (.h0 0)))
theorem x8i (l0 : List R2) (l1 : List R2) : ∀ s, Xo prog (Zy prog 123) (eqaC l0 l1) (eqaC l0 l1 s) (z4f l0 l1 s)
 | .h0 v13 => (lb (fun k0 => (lo fun aG => (lo fun bI => (lb (fun k1 => (lr 26 123 [1, 1, 0, 1, 0, 0, 1, 1, 0, 0, 1, 1, 0, 0] 1 3 [(4, (.bool false))] (sl Zp 21 [] ⟨[], [], [some [4]], []⟩ ⟨[], [], []⟩ [true, true] (tt k1 (ww bI (ww aG (tt k0 nn))))))) (fun k1 => (sl Zp 24 [] ⟨[], [], eqaN0, eqaM0⟩ ⟨[], [], []⟩ [true, false] (tt k1 (ww bI (ww aG (tt k0 nn)))))))))) (fun k0 => (lr 26 3 [1, 1, 1, 1, 1, 1, 0] 1 3 [(4, (.bool true))] (sl Zp 11 [] ⟨[], [], [some [4]], []⟩ ⟨[], [], []⟩ [false] (tt k0 nn)))))
theorem x2g (l0 : List R2) (l1 : List R2) : Xo prog (Zy prog 123) (eqaC l0 l1) (Zc prog 123 [(.dat l0.length (Zz l0)), (.dat l1.length (Zz l1))] true []) (z5q l0 l1) := (lb (fun k0 => (lr 26 123 [1, 0, 1, 0, 0] 1 3 [(4, (.bool false))] (sl Zp 18 [] ⟨[], [], [some [4]], []⟩ ⟨[], [], []⟩ [true] (tt k0 nn)))) (fun k0 => (sl Zp 24 [] ⟨[], [], eqaN0, eqaM0⟩ ⟨[], [], []⟩ [false] (tt k0 nn))))
theorem w9m (l0 : List R2) (l1 : List R2) (n : Nat) (vs : List AVal) (h : Yx (z4f l0 l1) n (z5q l0 l1) = .ret vs) : Jc prog (Zy prog 123) (Zc prog 123 [(.dat l0.length (Zz l0)), (.dat l1.length (Zz l1))] true []) vs := by
 have := Zn (x8i l0 l1) n _ (x2g l0 l1)
 rwa [h] at this
inductive eqbS where
 | h0 (v13 : Int)
def eqbC (l0 : List R4) (l1 : List R4) : eqbS → Cfg
 | .h0 v13 => ⟨⟨26, 0, true⟩, none, (Zg prog 82 [1, 1, 0, 1, 0, 0] 0), none, (Zy prog 3), ⟨Yq [(0, (.dat l0.length (Zz l0))), (1, (.dat l1.length (Zz l1))), (12, (ii (l0.length : Int))), (13, (ii v13))], Va [] 0, 0, [], true⟩, [], .leaf⟩
def eqbN0 : List (Option (List Nat)) := [some [0, 1, 12, 13]]
def eqbM0 : List (Option (List Nat)) := []
def z4e (l0 : List R4) (l1 : List R4) : eqbS → Xa eqbS
 | .h0 v13 => (bif (decide (v13 < (l0.length : Int))) then (bif ((decide (0 ≤ v13 ∧ v13 < (l0.length : Int))) && true) then (bif ((decide (0 ≤ v13 ∧ v13 < (l1.length : Int))) && true) then (bif (!(((rd l0 v13.toNat).a == (rd l1 v13.toNat).a) && (((rd l0 v13.toNat).b == (rd l1 v13.toNat).b) && (((rd l0 v13.toNat).c == (rd l1 v13.toNat).c) && (((rd l0 v13.toNat).d == (rd l1 v13.toNat).d) && true))))) then (.ret [(.bool false)]) else (.to (.h0 (IntKind.wrap .i64 (v13 + 1))))) else .stuck) else .stuck) else (.ret [(.bool true)]))
def z5p (l0 : List R4) (l1 : List R4) : Xa eqbS := (bif ((l0.length : Int) != (l1.length : Int)) then (.ret [(.bool false)]) else (.to (.h0 0)))
theorem x8h (l0 : List R4) (l1 : List R4) : ∀ s, Xo prog (Zy prog 82) (eqbC l0 l1) (eqbC l0 l1 s) (z4e l0 l1 s)
 | .h0 v13 => (lb (fun k0 => (lo fun aG => (lo fun bI => (lb (fun k1 => (lr 26 82 [1, 1, 0, 1, 0, 0, 1, 1, 0, 0, 1, 1, 0, 0] 1 3 [(4, (.bool false))] (sl Zp 21 [] ⟨[], [], [some [4]], []⟩ ⟨[], [], []⟩ [true, true] (tt k1 (ww bI (ww aG (tt k0 nn))))))) (fun k1 => (sl Zp 24 [] ⟨[], [], eqbN0, eqbM0⟩ ⟨[], [], []⟩ [true, false] (tt k1 (ww bI (ww aG (tt k0 nn)))))))))) (fun k0 => (lr 26 3 [1, 1, 1, 1, 1, 1, 0] 1 3 [(4, (.bool true))] (sl Zp 11 [] ⟨[], [], [some [4]], []⟩ ⟨[], [], []⟩ [false] (tt k0 nn)))))
theorem x2f (l0 : List R4) (l1 : List R4) : Xo prog (Zy prog 82) (eqbC l0 l1) (Zc prog 82 [(.dat l0.length (Zz l0)), (.dat l1.length (Zz l1))] true []) (z5p l0 l1) := (lb (fun k0 => (lr 26 82 [1, 0, 1, 0, 0] 1 3 [(4, (.bool false))] (sl Zp 18 [] ⟨[], [], [some [4]], []⟩ ⟨[], [], []⟩ [true] (tt k0 nn)))) (fun k0 => (sl Zp 24 [] ⟨[], [], eqbN0, eqbM0⟩ ⟨[], [], []⟩ [false] (tt k0 nn))))
theorem w9l (l0 : List R4) (l1 : List R4) (n : Nat) (vs : List AVal) (h : Yx (z4e l0 l1) n (z5p l0 l1) = .ret vs) : Jc prog (Zy prog 82) (Zc prog 82 [(.dat l0.length (Zz l0)), (.dat l1.length (Zz l1))] true []) vs := by
 have := Zn (x8h l0 l1) n _ (x2f l0 l1)
 rwa [h] at this
inductive eqcS where
 | h0 (v13 : Int)
def eqcC (l0 : List R6) (l1 : List R6) : eqcS → Cfg
 | .h0 v13 => ⟨⟨26, 0, true⟩, none, (Zg prog 109 [1, 1, 0, 1, 0, 0] 0), none, (Zy prog 3), ⟨Yq [(0, (.dat l0.length (Zz l0))), (1, (.dat l1.length (Zz l1))), (12, (ii (l0.length : Int))), (13, (ii v13))], Va [] 0, 0, [], true⟩, [], .leaf⟩
def eqcN0 : List (Option (List Nat)) := [some [0, 1, 12, 13]]
def eqcM0 : List (Option (List Nat)) := []
def z4d (l0 : List R6) (l1 : List R6) : eqcS → Xa eqcS
 | .h0 v13 => (bif (decide (v13 < (l0.length : Int))) then (bif ((decide (0 ≤ v13 ∧ v13 < (l0.length : Int))) && true) then (bif ((decide (0 ≤ v13 ∧ v13 < (l1.length : Int))) && true) then (bif (!((((rd l0 v13.toNat).a == (rd l1 v13.toNat).a) && (((rd l0 v13.toNat).b == (rd l1 v13.toNat).b) && (((rd l0 v13.toNat).c == (rd l1 v13.toNat).c) && true))) && ((((rd l0 v13.toNat).d == (rd l1 v13.toNat).d) && (((rd l0 v13.toNat).e == (rd l1 v13.toNat).e) && (((rd l0 v13.toNat).f == (rd l1 v13.toNat).f) && true))) && true))) then (.ret [(.bool false)]) else (.to (.h0 (IntKind.wrap .i64 (v13 + 1))))) else .stuck) else .stuck) else (.ret [(.bool true)]))
def z5o (l0 : List R6) (l1 : List R6) : Xa eqcS := (bif ((l0.length : Int) != (l1.length : Int)) then (.ret [(.bool false)]) else (.to (.h0 0)))
theorem x8g (l0 : List R6) (l1 : List R6) : ∀ s, Xo prog (Zy prog 109) (eqcC l0 l1) (eqcC l0 l1 s) (z4d l0 l1 s)
 | .h0 v13 => (lb (fun k0 => (lo fun aG => (lo fun bI => (lb (fun k1 => (lr 26 109 [1, 1, 0, 1, 0, 0, 1, 1, 0, 0, 1, 1, 0, 0] 1 3 [(4, (.bool false))] (sl Zp 21 [] ⟨[], [], [some [4]], []⟩ ⟨[], [], []⟩ [true, true] (tt k1 (ww bI (ww aG (tt k0 nn))))))) (fun k1 => (sl Zp 24 [] ⟨[], [], eqcN0, eqcM0⟩ ⟨[], [], []⟩ [true, false] (tt k1 (ww bI (ww aG (tt k0 nn)))))))))) (fun k0 => (lr 26 3 [1, 1, 1, 1, 1, 1, 0] 1 3 [(4, (.bool true))] (sl Zp 11 [] ⟨[], [], [some [4]], []⟩ ⟨[], [], []⟩ [false] (tt k0 nn)))))
theorem x2e (l0 : List R6) (l1 : List R6) : Xo prog (Zy prog 109) (eqcC l0 l1) (Zc prog 109 [(.dat l0.length (Zz l0)), (.dat l1.length (Zz l1))] true []) (z5o l0 l1) := (lb (fun k0 => (lr 26 109 [1, 0, 1, 0, 0] 1 3 [(4, (.bool false))] (sl Zp 18 [] ⟨[], [], [some [4]], []⟩ ⟨[], [], []⟩ [true] (tt k0 nn)))) (fun k0 => (sl Zp 24 [] ⟨[], [], eqcN0, eqcM0⟩ ⟨[], [], []⟩ [false] (tt k0 nn))))
theorem w9k (l0 : List R6) (l1 : List R6) (n : Nat) (vs : List AVal) (h : Yx (z4d l0 l1) n (z5o l0 l1) = .ret vs) : Jc prog (Zy prog 109) (Zc prog 109 [(.dat l0.length (Zz l0)), (.dat l1.length (Zz l1))] true []) vs := by
 have := Zn (x8g l0 l1) n _ (x2e l0 l1)
 rwa [h] at this
inductive holS where
def holC (x0 : Int) (x1 : Bool) (x2 : Bool) : holS → Cfg
 := nofun
def x1q (x0 : Int) (x1 : Bool) (x2 : Bool) : holS → Xa holS
 := nofun
def z9h (x0 : Int) (x1 : Bool) (x2 : Bool) : Xa holS := (bif (x0 == 1) then (bif x1 then (.ret [(.bool x2)]) else (.ret [(.bool false)])) else (bif (x0 == 2) then (bif x1 then (.ret [(.bool true)]) else (.ret [(.bool x2)])) else (bif x1 then (.ret [(.bool (!x2))]) else (.ret [(.bool false)]))))
theorem x7u (x0 : Int) (x1 : Bool) (x2 : Bool) : ∀ s, Xo prog (Zy prog 137) (holC x0 x1 x2) (holC x0 x1 x2 s) (x1q x0 x1 x2 s)
 := nofun
theorem x1r (x0 : Int) (x1 : Bool) (x2 : Bool) : Xo prog (Zy prog 137) (holC x0 x1 x2) (Zc prog 137 [(.int .i64 x0), (.bool x1), (.bool x2)] true []) (z9h x0 x1 x2) := (lb (fun k0 => (lb (fun k1 => (lr 24 137 [1, 0, 1, 0, 0] 1 4 [(6, (.bool x2))] (sl Zp 19 [] ⟨[], [], [some [6]], []⟩ ⟨[], [], []⟩ [true, true] (tt k1 (tt k0 nn))))) (fun k1 => (lr 24 137 [1, 0, 1, 0, 0] 1 4 [(6, (.bool false))] (sl Zp 19 [] ⟨[], [], [some [6]], []⟩ ⟨[], [], []⟩ [true, false] (tt k1 (tt k0 nn))))))) (fun k0 => (lb (fun k1 => (lb (fun k2 => (lr 24 137 [1, 1, 0, 1, 0, 0] 1 4 [(6, (.bool true))] (sl Zp 27 [] ⟨[], [], [some [6]], []⟩ ⟨[], [], []⟩ [false, true, true] (tt k2 (tt k1 (tt k0 nn)))))) (fun k2 => (lr 24 137 [1, 1, 0, 1, 0, 0] 1 4 [(6, (.bool x2))] (sl Zp 27 [] ⟨[], [], [some [6]], []⟩ ⟨[], [], []⟩ [false, true, false] (tt k2 (tt k1 (tt k0 nn)))))))) (fun k1 => (lb (fun k2 => (lr 24 3 [1, 1, 1, 1, 1, 1, 0] 1 4 [(6, (.bool (!x2)))] (sl Zp 29 [] ⟨[], [], [some [6]], []⟩ ⟨[], [], []⟩ [false, false, true, true] (tt k2 (tt k1 (tt k0 nn)))))) (fun k2 => (lr 24 3 [1, 1, 1, 1, 1, 1, 0] 1 4 [(6, (.bool false))] (sl Zp 29 [] ⟨[], [], [some [6]], []⟩ ⟨[], [], []⟩ [false, false, false, false] (tt k2 (tt k1 (tt k0 nn)))))))))))
theorem w8s (x0 : Int) (x1 : Bool) (x2 : Bool) (n : Nat) (vs : List AVal) (h : Yx (x1q x0 x1 x2) n (z9h x0 x1 x2) = .ret vs) : Jc prog (Zy prog 137) (Zc prog 137 [(.int .i64 x0), (.bool x1), (.bool x2)] true []) vs := by
 have := Zn (x7u x0 x1 x2) n _ (x1r x0 x1 x2)
 rwa [h] at this
inductive fstS where
def fstC (x0 : Bool) (x1 : Bool) : fstS → Cfg
 := nofun
def x1u (x0 : Bool) (x1 : Bool) : fstS → Xa fstS
 := nofun
def y5b (x0 : Bool) (x1 : Bool) : Xa fstS := (.ret [(.bool x0)])
theorem x7x (x0 : Bool) (x1 : Bool) : ∀ s, Xo prog (Zy prog 189) (fstC x0 x1) (fstC x0 x1 s) (x1u x0 x1 s)
 := nofun
theorem x1v (x0 : Bool) (x1 : Bool) : Xo prog (Zy prog 189) (fstC x0 x1) (Zc prog 189 [(.bool x0), (.bool x1)] true []) (y5b x0 x1) := (lr 6 3 [1, 1, 1, 1, 1, 1, 0] 1 3 [(4, (.bool x0))] (sl Zp 9 [] ⟨[], [], [some [4]], []⟩ ⟨[], [], []⟩ [] nn))
theorem w8v (x0 : Bool) (x1 : Bool) (n : Nat) (vs : List AVal) (h : Yx (x1u x0 x1) n (y5b x0 x1) = .ret vs) : Jc prog (Zy prog 189) (Zc prog 189 [(.bool x0), (.bool x1)] true []) vs := by
 have := Zn (x7x x0 x1) n _ (x1v x0 x1)
 rwa [h] at this
end Go.Am
namespace Go.Am
theorem Zo {a b : Int} (h : a < b) : decide (a < b) = true := decide_eq_true h
theorem Zt {a b : Int} (h : ¬ a < b) : decide (a < b) = false := decide_eq_false h
theorem Xp {a b : Int} (h : a ≤ b) : decide (a ≤ b) = true := decide_eq_true h
theorem u0a {a b : Int} (h : ¬ a ≤ b) : decide (a ≤ b) = false := decide_eq_false h
theorem Yn {a b : Int} (h : a > b) : decide (a > b) = true := decide_eq_true h
theorem Xw {a b : Int} (h : ¬ a > b) : decide (a > b) = false := decide_eq_false h
theorem x2p {a b : Int} (h : a ≥ b) : decide (a ≥ b) = true := decide_eq_true h
theorem u0b {a b : Int} (h : ¬ a ≥ b) : decide (a ≥ b) = false := decide_eq_false h
theorem Yu {a b : Nat} (h : a < b) : decide (a < b) = true := decide_eq_true h
theorem Yz {a b : Nat} (h : a ≤ b) : decide (a ≤ b) = true := decide_eq_true h
theorem Yk {a b : Nat} (h : a = b) : decide (a = b) = true := decide_eq_true h
theorem Zr {a b : Int} (h : 0 ≤ a ∧ a < b) : decide (0 ≤ a ∧ a < b) = true := decide_eq_true h
theorem Zf {a : Nat} (h : a ≤ 1099511627776) : decide (a ≤ Ja) = true := decide_eq_true h
theorem Zj {n : Int} (h : -9223372036854775808 ≤ n ∧ n ≤ 9223372036854775807) : IntKind.wrap .i64 n = n := w_in h.1 h.2
theorem z1c : ((0 : Nat) : Int) = 0 := rfl
theorem Zx (i : Nat) : (i : Int) + 1 = ((i + 1 : Nat) : Int) := rfl
theorem Zd (i : Nat) : ((i + 1 : Nat) : Int) - 1 = (i : Int) := by omega
theorem Qz {a b : Int} (h : a ≠ b) : (a != b) = true := by simp [h]
theorem Qy {a b : Int} (h : a = b) : (a != b) = false := by simp [h]
theorem v4l {a b : Int} (h : a = b) : (a == b) = true := by simp [h]
theorem v4m {a b : Int} (h : a ≠ b) : (a == b) = false := by simp [h]
theorem Ya (n : Nat) : Nat.beq n n = true := Nat.beq_refl n
theorem Zk (n : Nat) : Int.toNat (n : Int) = n := Int.toNat_natCast n
theorem Yy (b : Bool) : b = true ∨ b = false := by cases b <;> simp
theorem Ye {α : Type} [Yt α] {L : List α} {i : Nat} (h : i < L.length) : L.drop i = rd L i :: L.drop (i + 1) := by
 rw [Xq h]; exact List.drop_eq_getElem_cons h
theorem z0z {P : Program} {S : Specs} (hS : Zu P S) {f : FuncId} {F : List AVal → Option (AVal × Bool)} (hf : (P.funcs[f]?).any (fun fn => fn.body.isSome) = true)
  (hF : ∀ args v, F args = some (v, true) → ∃ bs vs, Wo VLe args bs ∧ Ki vs = v ∧ Jc P (Zy P f) (Zc P f bs true []) vs ∧ ∃ d, pf d v = true) : Zu P (S.with f F) := x5t hS hf hF
end Go.Am
namespace Go.Am
open Go.Proofs
def x0x (out : List Int) (x : Int) : Nat → Nat
 | 0 => 0
 | k + 1 => bif decide (rd out k > x) then x0x out x k else k + 1
def y0u (out : List Int) (x : Int) : List Int :=
 match x0x out x out.length with
 | 0 => x :: out
 | k + 1 => bif rd out k == x then out else out.take (k + 1) ++ x :: out.drop (k + 1)
def z0p (l : List Int) : List Int := l.foldl y0u []
def Je (l : List Int) : Bool := decide (l.length ≤ 100000)
theorem y0t (out : List Int) (x : Int) : (y0u out x).length ≤ out.length + 1 := by
 unfold y0u
 split
 ·simp
 ·rename_i k _
  cases (rd out k == x) <;> simp <;> omega
theorem y7w (out : List Int) (x : Int) (k : Nat) (hk : k ≤ out.length) :
  (y2d (out ++ [0]) (k + 1) (Nat.min (out.length + 1 - k) (out.length + 1 - (k + 1))) (Kh (out ++ [0]) k (out.length + 1 - k))).set k x = out.take k ++ x :: out.drop k := by
 have hm : Nat.min (out.length + 1 - k) (out.length + 1 - (k + 1)) = out.length - k := by
  show min _ _ = _
  omega
 rw [hm]
 apply List.ext_getElem
 ·simp [Uj]; omega
 ·intro i h1 h2
  have hi : i < out.length + 1 := by simpa [Uj] using h1
  rw [← Xq h1, ← Xq h2]
  rw [v2j (by simpa [Uj] using hi)]
  by_cases e : i = k
  ·subst e
   rw [if_pos rfl, Ve (by simp only [List.length_take]; omega), Xq (by simp; omega)]
   simp [Nat.min_eq_left hk]
  ·rw [if_neg e, w1o (by simpa using hi)]
   by_cases h : i < k
   ·rw [v0q (show ¬ k + 1 ≤ i by omega), Bool.false_and, cond_false, Vt (by omega), Vt (by simp; omega)]
    rw [Xq (by omega), Xq (by simp; omega), List.getElem_take]
   ·rw [w4q (show k + 1 ≤ i by omega), w4q (show i + 1 ≤ k + 1 + (out.length - k) by omega), Bool.true_and, cond_true, y4j (by omega), Vt (by omega)]
    rw [Ve (by simp; omega), Xq (by omega), Xq (by simp; omega)]
    obtain ⟨j, rfl⟩ : ∃ j, i = k + 1 + j := ⟨i - k - 1, by omega⟩
    simp only [List.length_take, Nat.min_eq_left hk]
    rw [List.getElem_cons, dif_neg (by omega), List.getElem_drop]
    congr 1
theorem x3y (l : List Int) (out : List Int) (i : Nat) (hi : i < l.length) (hl : l.length ≤ 100000) (ho : out.length ≤ i) : ∀ (k N : Nat), k ≤ out.length →
  (x0x out (rd l i) out.length = x0x out (rd l i) k) → ∃ m, ∀ N, Yx (Vw l) (N + m) (.to (.h1 out (i : Int) (k : Int))) = Yx (Vw l) N (.to (.h0 (y0u out (rd l i)) ((i + 1 : Nat) : Int)))
 | 0, N, hk, hp => by
  refine ⟨1, fun N => ?_⟩
  have hins : y0u out (rd l i) = (y2d (out ++ [0]) (0 + 1) (Nat.min (out.length + 1 - 0) (out.length + 1 - (0 + 1))) (Kh (out ++ [0]) 0 (out.length + 1 - 0))).set 0 (rd l i) := by
   rw [y7w out _ 0 (Nat.zero_le _)]
   unfold y0u
   rw [hp]; rfl
  rw [hins, Zv]
  simp (disch := omega) only [Vw, Zf, decide_true, Xw, Zo, Xp, Yu, Yz, Yk, Zr, Zj, Zx, Ya, Zk, Nat.zero_add, Bool.and_true, Bool.true_and, cond_true, cond_false]
 | k + 1, N, hk, hp => by
  rcases Yy (decide (rd out k > rd l i)) with h | h
  ·have hp' : x0x out (rd l i) out.length = x0x out (rd l i) k := by rw [hp]; conv => lhs; unfold x0x; rw [h, cond_true]
   obtain ⟨m, hm⟩ := x3y l out i hi hl ho k N (by omega) hp'
   refine ⟨m + 1, fun N => ?_⟩
   rw [← hm N, ← Nat.add_assoc, Zv]
   simp (disch := omega) only [Vw, Zd, h, Zf, decide_true, Yn, Zo, Xp, Yu, Yz, Yk, Zr, Zj, Zx, Ya, Zk, Nat.zero_add, Bool.and_true, Bool.true_and, cond_true, cond_false]
  ·have hpk : x0x out (rd l i) out.length = k + 1 := by rw [hp]; unfold x0x; rw [h]; rfl
   refine ⟨1, fun N => ?_⟩
   rw [Zv]
   rcases Yy (rd out k == rd l i) with q | q
   ·have hins : y0u out (rd l i) = out := by unfold y0u; rw [hpk]; simp only [q, cond_true]
    rw [hins]
    simp (disch := omega) only [Vw, Zd, h, q, Zf, decide_true, Yn, Zo, Xp, Yu, Yz, Yk, Zr, Zj, Zx, Ya, Zk, Nat.zero_add, Bool.and_true, Bool.true_and, cond_true, cond_false]
   ·have hins : y0u out (rd l i) = (y2d (out ++ [0]) (k + 1 + 1) (Nat.min (out.length + 1 - (k + 1)) (out.length + 1 - (k + 1 + 1))) (Kh (out ++ [0]) (k + 1) (out.length + 1 - (k + 1)))).set (k + 1) (rd l i) := by
     rw [y7w out _ (k + 1) hk]
     unfold y0u
     rw [hpk]; simp only [q, cond_false]
    rw [hins]
    simp (disch := omega) only [Vw, Zd, h, q, Zf, decide_true, Yn, Zo, Xp, Yu, Yz, Yk, Zr, Zj, Zx, Ya, Zk, Nat.zero_add, Bool.and_true, Bool.true_and, cond_true, cond_false]
theorem x3z (l : List Int) (hl : l.length ≤ 100000) : ∀ (k i : Nat) (out : List Int), i + k = l.length → out.length ≤ i → ∃ m, Yx (Vw l) m (.to (.h0 out (i : Int))) = .ret [.dat ((l.drop i).foldl y0u out).length (Zz ((l.drop i).foldl y0u out))]
 | 0, i, out, h, ho => by
  refine ⟨1, ?_⟩
  rw [Zv]
  simp (disch := omega) only [Vw, Zt, cond_false]
  rw [List.drop_eq_nil_of_le (by omega)]; rfl
 | k + 1, i, out, h, ho => by
  obtain ⟨m1, h1⟩ := x3y l out i (by omega) hl ho out.length 0 (Nat.le_refl _) rfl
  obtain ⟨m2, h2⟩ := x3z l hl k (i + 1) (y0u out (rd l i)) (by omega) (Nat.le_trans (y0t _ _) (by omega))
  refine ⟨m2 + m1 + 1, ?_⟩
  rw [Zv]
  simp (disch := omega) only [Vw, Zo, cond_true]
  rw [h1 m2, h2, Ye (show i < l.length by omega)]; rfl
theorem w0p (l : List Int) (h : Je l = true) : ∃ N, Yx (Vw l) N (z2s l) = .ret [.dat (z0p l).length (Zz (z0p l))] := by
 have := x3z l (of_decide_eq_true h) l.length 0 [] (by omega) (Nat.le_refl _)
 simpa [z2s, z0p] using this
end Go.Am
namespace Go.Am
open Go.Proofs
theorem Zi (n : Nat) : Int.toNat ((n : Int) - 1) = n - 1 := by omega
theorem w7j (x y : R2) : ((x.a == y.a) && (x.b == y.b)) = decide (x = y) := by
 obtain ⟨a, b⟩ := x; obtain ⟨c, d⟩ := y
 rw [Bool.eq_iff_iff]; simp
theorem w7i (x y : R4) : ((x.a == y.a) && ((x.b == y.b) && ((x.c == y.c) && (x.d == y.d)))) = decide (x = y) := by
 obtain ⟨a, b, c, d⟩ := x; obtain ⟨e, f, g, h⟩ := y
 rw [Bool.eq_iff_iff]; simp
theorem w7h (x y : R6) : (((x.a == y.a) && ((x.b == y.b) && (x.c == y.c))) && ((x.d == y.d) && ((x.e == y.e) && (x.f == y.f)))) = decide (x = y) := by
 obtain ⟨a, b, c, d, e, f⟩ := x; obtain ⟨a', b', c', d', e', f'⟩ := y
 rw [Bool.eq_iff_iff]; simp [and_assoc]
def Jh (l m : List R2) : Bool := decide (l = m)
def Ug (l m : List R4) : Bool := decide (l = m)
def Jf (l m : List R6) : Bool := decide (l = m)
def Vz (l m : List R2) : Bool := decide (l.length ≤ 1000000)
def Wk (l m : List R4) : Bool := decide (l.length ≤ 1000000)
def Vd (l m : List R6) : Bool := decide (l.length ≤ 1000000)
theorem z3e {α : Type} [DecidableEq α] (x y : α) (l m : List α) : decide (x :: l = y :: m) = (decide (x = y) && decide (l = m)) := by
 rw [← Bool.decide_and]; congr 1; simp
theorem v1v (l m : List R2) (hl : l.length ≤ 1000000) (hm : l.length = m.length) : ∀ (k i : Nat), i + k = l.length → ∃ N, Yx (z3x l m) N (.to (.h0 (i : Int))) = .ret [.bool (decide (l.drop i = m.drop i))]
 | 0, i, h => by
  refine ⟨1, ?_⟩
  rw [Zv, List.drop_eq_nil_of_le (show l.length ≤ i by omega), List.drop_eq_nil_of_le (show m.length ≤ i by omega)]
  simp (disch := omega) only [z3x, Xw, Yn, Zo, Zt, Xp, Yu, Yz, Yk, Zr, Zj, Zf, Qz, Qy, decide_true, Zx, Zd, Zi, Ya, Zk, Nat.zero_add, Bool.and_true, Bool.true_and, cond_true, cond_false, Bool.not_true, Bool.not_false, Zm]
 | k + 1, i, h => by
  obtain ⟨N, hN⟩ := v1v l m hl hm k (i + 1) (by omega)
  refine ⟨N + 1, ?_⟩
  rw [Zv, Ye (show i < l.length by omega), Ye (show i < m.length by omega), z3e]
  rcases Yy (decide (rd l i = rd m i)) with q | q
  ·simp (disch := omega) only [z3x, w7j, q, Xw, Yn, Zo, Zt, Xp, Yu, Yz, Yk, Zr, Zj, Zf, Qz, Qy, decide_true, Zx, Zd, Zi, Ya, Zk, Nat.zero_add, Bool.and_true, Bool.true_and, cond_true, cond_false, Bool.not_true, Bool.not_false, Zm]
   exact hN
  ·simp (disch := omega) only [z3x, w7j, q, Xw, Yn, Zo, Zt, Xp, Yu, Yz, Yk, Zr, Zj, Zf, Qz, Qy, decide_true, Zx, Zd, Zi, Ya, Zk, Nat.zero_add, Bool.and_true, Bool.true_and, cond_true, cond_false, Bool.not_true, Bool.not_false, Zm, Bool.false_and]
theorem v6a (l m : List R2) (h : Vz l m = true) : ∃ N, Yx (z3x l m) N (z4o l m) = .ret [.bool (Jh l m)] := by
 have hl : l.length ≤ 1000000 := of_decide_eq_true h
 by_cases hm : l.length = m.length
 ·obtain ⟨N, hN⟩ := v1v l m hl hm l.length 0 (Nat.zero_add _)
  refine ⟨N, ?_⟩
  unfold z4o
  rw [Qy (show (l.length : Int) = (m.length : Nat) by omega)]
  exact hN
 ·refine ⟨0, ?_⟩
  unfold z4o
  rw [Qz (show (l.length : Int) ≠ (m.length : Nat) by omega)]
  have : Jh l m = false := decide_eq_false fun e => hm (by rw [e])
  rw [this]; rfl
theorem v1u (l m : List R4) (hl : l.length ≤ 1000000) (hm : l.length = m.length) : ∀ (k i : Nat), i + k = l.length → ∃ N, Yx (z3w l m) N (.to (.h0 (i : Int))) = .ret [.bool (decide (l.drop i = m.drop i))]
 | 0, i, h => by
  refine ⟨1, ?_⟩
  rw [Zv, List.drop_eq_nil_of_le (show l.length ≤ i by omega), List.drop_eq_nil_of_le (show m.length ≤ i by omega)]
  simp (disch := omega) only [z3w, Xw, Yn, Zo, Zt, Xp, Yu, Yz, Yk, Zr, Zj, Zf, Qz, Qy, decide_true, Zx, Zd, Zi, Ya, Zk, Nat.zero_add, Bool.and_true, Bool.true_and, cond_true, cond_false, Bool.not_true, Bool.not_false, Zm]
 | k + 1, i, h => by
  obtain ⟨N, hN⟩ := v1u l m hl hm k (i + 1) (by omega)
  refine ⟨N + 1, ?_⟩
  rw [Zv, Ye (show i < l.length by omega), Ye (show i < m.length by omega), z3e]
  rcases Yy (decide (rd l i = rd m i)) with q | q
  ·simp (disch := omega) only [z3w, w7i, q, Xw, Yn, Zo, Zt, Xp, Yu, Yz, Yk, Zr, Zj, Zf, Qz, Qy, decide_true, Zx, Zd, Zi, Ya, Zk, Nat.zero_add, Bool.and_true, Bool.true_and, cond_true, cond_false, Bool.not_true, Bool.not_false, Zm]
   exact hN
  ·simp (disch := omega) only [z3w, w7i, q, Xw, Yn, Zo, Zt, Xp, Yu, Yz, Yk, Zr, Zj, Zf, Qz, Qy, decide_true, Zx, Zd, Zi, Ya, Zk, Nat.zero_add, Bool.and_true, Bool.true_and, cond_true, cond_false, Bool.not_true, Bool.not_false, Zm, Bool.false_and]
theorem v5z (l m : List R4) (h : Wk l m = true) : ∃ N, Yx (z3w l m) N (z4n l m) = .ret [.bool (Ug l m)] := by
 have hl : l.length ≤ 1000000 := of_decide_eq_true h
 by_cases hm : l.length = m.length
 ·obtain ⟨N, hN⟩ := v1u l m hl hm l.length 0 (Nat.zero_add _)
  refine ⟨N, ?_⟩
  unfold z4n
  rw [Qy (show (l.length : Int) = (m.length : Nat) by omega)]
  exact hN
 ·refine ⟨0, ?_⟩
  unfold z4n
  rw [Qz (show (l.length : Int) ≠ (m.length : Nat) by omega)]
  have : Ug l m = false := decide_eq_false fun e => hm (by rw [e])
  rw [this]; rfl
theorem v1w (l m : List R6) (hl : l.length ≤ 1000000) (hm : l.length = m.length) : ∀ (k i : Nat), i + k = l.length → ∃ N, Yx (z3y l m) N (.to (.h0 (i : Int))) = .ret [.bool (decide (l.drop i = m.drop i))]
 | 0, i, h => by
  refine ⟨1, ?_⟩
  rw [Zv, List.drop_eq_nil_of_le (show l.length ≤ i by omega), List.drop_eq_nil_of_le (show m.length ≤ i by omega)]
  simp (disch := omega) only [z3y, Xw, Yn, Zo, Zt, Xp, Yu, Yz, Yk, Zr, Zj, Zf, Qz, Qy, decide_true, Zx, Zd, Zi, Ya, Zk, Nat.zero_add, Bool.and_true, Bool.true_and, cond_true, cond_false, Bool.not_true, Bool.not_false, Zm]
 | k + 1, i, h => by
  obtain ⟨N, hN⟩ := v1w l m hl hm k (i + 1) (by omega)
  refine ⟨N + 1, ?_⟩
  rw [Zv, Ye (show i < l.length by omega), Ye (show i < m.length by omega), z3e]
  rcases Yy (decide (rd l i = rd m i)) with q | q
  ·simp (disch := omega) only [z3y, w7h, q, Xw, Yn, Zo, Zt, Xp, Yu, Yz, Yk, Zr, Zj, Zf, Qz, Qy, decide_true, Zx, Zd, Zi, Ya, Zk, Nat.zero_add, Bool.and_true, Bool.true_and, cond_true, cond_false, Bool.not_true, Bool.not_false, Zm]
   exact hN
  ·simp (disch := omega) only [z3y, w7h, q, Xw, Yn, Zo, Zt, Xp, Yu, Yz, Yk, Zr, Zj, Zf, Qz, Qy, decide_true, Zx, Zd, Zi, Ya, Zk, Nat.zero_add, Bool.and_true, Bool.true_and, cond_true, cond_false, Bool.not_true, Bool.not_false, Zm, Bool.false_and]
theorem v6b (l m : List R6) (h : Vd l m = true) : ∃ N, Yx (z3y l m) N (z4p l m) = .ret [.bool (Jf l m)] := by
 have hl : l.length ≤ 1000000 := of_decide_eq_true h
 by_cases hm : l.length = m.length
 ·obtain ⟨N, hN⟩ := v1w l m hl hm l.length 0 (Nat.zero_add _)
  refine ⟨N, ?_⟩
  unfold z4p
  rw [Qy (show (l.length : Int) = (m.length : Nat) by omega)]
  exact hN
 ·refine ⟨0, ?_⟩
  unfold z4p
  rw [Qz (show (l.length : Int) ≠ (m.length : Nat) by omega)]
  have : Jf l m = false := decide_eq_false fun e => hm (by rw [e])
  rw [this]; rfl
theorem v4e (l m : List R2) (hl : l.length ≤ 1000000) (hm : l.length = m.length) : ∀ (k i : Nat), i + k = l.length → ∃ N, Yx (z4f l m) N (.to (.h0 (i : Int))) = .ret [.bool (decide (l.drop i = m.drop i))]
 | 0, i, h => by
  refine ⟨1, ?_⟩
  rw [Zv, List.drop_eq_nil_of_le (show l.length ≤ i by omega), List.drop_eq_nil_of_le (show m.length ≤ i by omega)]
  simp (disch := omega) only [z4f, Xw, Yn, Zo, Zt, Xp, Yu, Yz, Yk, Zr, Zj, Zf, Qz, Qy, decide_true, Zx, Zd, Zi, Ya, Zk, Nat.zero_add, Bool.and_true, Bool.true_and, cond_true, cond_false, Bool.not_true, Bool.not_false, Zm]
 | k + 1, i, h => by
  obtain ⟨N, hN⟩ := v4e l m hl hm k (i + 1) (by omega)
  refine ⟨N + 1, ?_⟩
  rw [Zv, Ye (show i < l.length by omega), Ye (show i < m.length by omega), z3e]
  rcases Yy (decide (rd l i = rd m i)) with q | q
  ·simp (disch := omega) only [z4f, w7j, q, Xw, Yn, Zo, Zt, Xp, Yu, Yz, Yk, Zr, Zj, Zf, Qz, Qy, decide_true, Zx, Zd, Zi, Ya, Zk, Nat.zero_add, Bool.and_true, Bool.true_and, cond_true, cond_false, Bool.not_true, Bool.not_false, Zm]
   exact hN
  ·simp (disch := omega) only [z4f, w7j, q, Xw, Yn, Zo, Zt, Xp, Yu, Yz, Yk, Zr, Zj, Zf, Qz, Qy, decide_true, Zx, Zd, Zi, Ya, Zk, Nat.zero_add, Bool.and_true, Bool.true_and, cond_true, cond_false, Bool.not_true, Bool.not_false, Zm, Bool.false_and]
theorem v9s (l m : List R2) (h : Vz l m = true) : ∃ N, Yx (z4f l m) N (z5q l m) = .ret [.bool (Jh l m)] := by
 have hl : l.length ≤ 1000000 := of_decide_eq_true h
 by_cases hm : l.length = m.length
 ·obtain ⟨N, hN⟩ := v4e l m hl hm l.length 0 (Nat.zero_add _)
  refine ⟨N, ?_⟩
  unfold z5q
  rw [Qy (show (l.length : Int) = (m.length : Nat) by omega)]
  exact hN
 ·refine ⟨0, ?_⟩
  unfold z5q
  rw [Qz (show (l.length : Int) ≠ (m.length : Nat) by omega)]
  have : Jh l m = false := decide_eq_false fun e => hm (by rw [e])
  rw [this]; rfl
theorem v4d (l m : List R4) (hl : l.length ≤ 1000000) (hm : l.length = m.length) : ∀ (k i : Nat), i + k = l.length → ∃ N, Yx (z4e l m) N (.to (.h0 (i : Int))) = .ret [.bool (decide (l.drop i = m.drop i))]
 | 0, i, h => by
  refine ⟨1, ?_⟩
  rw [Zv, List.drop_eq_nil_of_le (show l.length ≤ i by omega), List.drop_eq_nil_of_le (show m.length ≤ i by omega)]
  simp (disch := omega) only [z4e, Xw, Yn, Zo, Zt, Xp, Yu, Yz, Yk, Zr, Zj, Zf, Qz, Qy, decide_true, Zx, Zd, Zi, Ya, Zk, Nat.zero_add, Bool.and_true, Bool.true_and, cond_true, cond_false, Bool.not_true, Bool.not_false, Zm]
 | k + 1, i, h => by
  obtain ⟨N, hN⟩ := v4d l m hl hm k (i + 1) (by omega)
  refine ⟨N + 1, ?_⟩
  rw [Zv, Ye (show i < l.length by omega), Ye (show i < m.length by omega), z3e]
  rcases Yy (decide (rd l i = rd m i)) with q | q
  ·simp (disch := omega) only [z4e, w7i, q, Xw, Yn, Zo, Zt, Xp, Yu, Yz, Yk, Zr, Zj, Zf, Qz, Qy, decide_true, Zx, Zd, Zi, Ya, Zk, Nat.zero_add, Bool.and_true, Bool.true_and, cond_true, cond_false, Bool.not_true, Bool.not_false, Zm]
   exact hN
  ·simp (disch := omega) only [z4e, w7i, q, Xw, Yn, Zo, Zt, Xp, Yu, Yz, Yk, Zr, Zj, Zf, Qz, Qy, decide_true, Zx, Zd, Zi, Ya, Zk, Nat.zero_add, Bool.and_true, Bool.true_and, cond_true, cond_false, Bool.not_true, Bool.not_false, Zm, Bool.false_and]
theorem v9r (l m : List R4) (h : Wk l m = true) : ∃ N, Yx (z4e l m) N (z5p l m) = .ret [.bool (Ug l m)] := by
 have hl : l.length ≤ 1000000 := of_decide_eq_true h
 by_cases hm : l.length = m.length
 ·obtain ⟨N, hN⟩ := v4d l m hl hm l.length 0 (Nat.zero_add _)
  refine ⟨N, ?_⟩
  unfold z5p
  rw [Qy (show (l.length : Int) = (m.length : Nat) by omega)]
  exact hN
 ·refine ⟨0, ?_⟩
  unfold z5p
  rw [Qz (show (l.length : Int) ≠ (m.length : Nat) by omega)]
  have : Ug l m = false := decide_eq_false fun e => hm (by rw [e])
  rw [this]; rfl
theorem v4c (l m : List R6) (hl : l.length ≤ 1000000) (hm : l.length = m.length) : ∀ (k i : Nat), i + k = l.length → ∃ N, Yx (z4d l m) N (.to (.h0 (i : Int))) = .ret [.bool (decide (l.drop i = m.drop i))]
 | 0, i, h => by
  refine ⟨1, ?_⟩
  rw [Zv, List.drop_eq_nil_of_le (show l.length ≤ i by omega), List.drop_eq_nil_of_le (show m.length ≤ i by omega)]
  simp (disch := omega) only [z4d, Xw, Yn, Zo, Zt, Xp, Yu, Yz, Yk, Zr, Zj, Zf, Qz, Qy, decide_true, Zx, Zd, Zi, Ya, Zk, Nat.zero_add, Bool.and_true, Bool.true_and, cond_true, cond_false, Bool.not_true, Bool.not_false, Zm]
 | k + 1, i, h => by
  obtain ⟨N, hN⟩ := v4c l m hl hm k (i + 1) (by omega)
  refine ⟨N + 1, ?_⟩
  rw [Zv, Ye (show i < l.length by omega), Ye (show i < m.length by omega), z3e]
  rcases Yy (decide (rd l i = rd m i)) with q | q
  ·simp (disch := omega) only [z4d, w7h, q, Xw, Yn, Zo, Zt, Xp, Yu, Yz, Yk, Zr, Zj, Zf, Qz, Qy, decide_true, Zx, Zd, Zi, Ya, Zk, Nat.zero_add, Bool.and_true, Bool.true_and, cond_true, cond_false, Bool.not_true, Bool.not_false, Zm]
   exact hN
  ·simp (disch := omega) only [z4d, w7h, q, Xw, Yn, Zo, Zt, Xp, Yu, Yz, Yk, Zr, Zj, Zf, Qz, Qy, decide_true, Zx, Zd, Zi, Ya, Zk, Nat.zero_add, Bool.and_true, Bool.true_and, cond_true, cond_false, Bool.not_true, Bool.not_false, Zm, Bool.false_and]
theorem v9q (l m : List R6) (h : Vd l m = true) : ∃ N, Yx (z4d l m) N (z5o l m) = .ret [.bool (Jf l m)] := by
 have hl : l.length ≤ 1000000 := of_decide_eq_true h
 by_cases hm : l.length = m.length
 ·obtain ⟨N, hN⟩ := v4c l m hl hm l.length 0 (Nat.zero_add _)
  refine ⟨N, ?_⟩
  unfold z5o
  rw [Qy (show (l.length : Int) = (m.length : Nat) by omega)]
  exact hN
 ·refine ⟨0, ?_⟩
  unfold z5o
  rw [Qz (show (l.length : Int) ≠ (m.length : Nat) by omega)]
  have : Jf l m = false := decide_eq_false fun e => hm (by rw [e])
  rw [this]; rfl
def in4 (x y : Int) (r : R4) : Bool := decide (r.a ≤ x) && (decide (x < r.c) && (decide (r.b ≤ y) && decide (y < r.d)))
def has4V (l : List R4) (x y : Int) : Bool := l.any (in4 x y)
def Kg (l : List R4) (x y : Int) : Bool := decide (l.length ≤ 1000000)
theorem w1e (l : List R4) (x y : Int) (hl : l.length ≤ 1000000) : ∀ (k i : Nat), i + k = l.length → ∃ N, Yx (z2u l x y) N (.to (.h0 (i : Int))) = .ret [.bool ((l.drop i).any (in4 x y))]
 | 0, i, h => by
  refine ⟨1, ?_⟩
  rw [Zv, List.drop_eq_nil_of_le (show l.length ≤ i by omega)]
  simp (disch := omega) only [z2u, Xw, Yn, Zo, Zt, Xp, Yu, Yz, Yk, Zr, Zj, Zf, Qz, Qy, decide_true, Zx, Zd, Zi, Ya, Zk, Nat.zero_add, Bool.and_true, Bool.true_and, cond_true, cond_false, Bool.not_true, Bool.not_false, Zm]
  rfl
 | k + 1, i, h => by
  obtain ⟨N, hN⟩ := w1e l x y hl k (i + 1) (by omega)
  refine ⟨N + 1, ?_⟩
  rw [Zv, Ye (show i < l.length by omega), List.any_cons]
  unfold in4 at hN ⊢
  rcases Yy (decide ((rd l i).a ≤ x)) with q1 | q1 <;> rcases Yy (decide (x < (rd l i).c)) with q2 | q2 <;> rcases Yy (decide ((rd l i).b ≤ y)) with q3 | q3 <;> rcases Yy (decide (y < (rd l i).d)) with q4 | q4 <;>
   simp (disch := omega) only [z2u, q1, q2, q3, q4, Xw, Yn, Zo, Zt, Xp, Yu, Yz, Yk, Zr, Zj, Zf, Qz, Qy, decide_true, Zx, Zd, Zi, Ya, Zk, Nat.zero_add, Bool.and_true, Bool.true_and, cond_true, cond_false, Bool.not_true, Bool.not_false, Zm, Bool.false_and, Bool.and_false, Bool.false_or, Bool.true_or] <;> exact hN
theorem w6t (l : List R4) (x y : Int) (h : Kg l x y = true) : ∃ N, Yx (z2u l x y) N (z4t l x y) = .ret [.bool (has4V l x y)] := by
 have := w1e l x y (of_decide_eq_true h) l.length 0 (Nat.zero_add _)
 simpa [z4t, has4V] using this
def on6 (z : Int) (b : R6) : Bool := decide (b.c ≤ z) && decide (z < b.f)
def v8g (b : R6) : R4 := ⟨b.a, b.b, b.d, b.e⟩
def atV (l : List R6) (z : Int) : List R4 := (l.filter (on6 z)).map v8g
def z3h (l : List R6) (z : Int) : Bool := decide (l.length ≤ 1000000)
theorem w1z (l : List R6) (z : Int) (hl : l.length ≤ 1000000) : ∀ (k i : Nat) (out : List R4), i + k = l.length → out.length ≤ i → ∃ N, Yx (z3z l z) N (.to (.h0 out (i : Int))) = .ret [.dat (out ++ atV (l.drop i) z).length (Zz (out ++ atV (l.drop i) z))]
 | 0, i, out, h, ho => by
  refine ⟨1, ?_⟩
  rw [Zv, List.drop_eq_nil_of_le (show l.length ≤ i by omega)]
  simp (disch := omega) only [z3z, Xw, Yn, Zo, Zt, Xp, Yu, Yz, Yk, Zr, Zj, Zf, Qz, Qy, decide_true, Zx, Zd, Zi, Ya, Zk, Nat.zero_add, Bool.and_true, Bool.true_and, cond_true, cond_false, Bool.not_true, Bool.not_false, Zm, atV, List.filter_nil, List.map_nil, List.append_nil]
 | k + 1, i, out, h, ho => by
  rw [Ye (show i < l.length by omega)]
  have e : atV (rd l i :: l.drop (i + 1)) z = (bif on6 z (rd l i) then [v8g (rd l i)] else []) ++ atV (l.drop (i + 1)) z := by
   unfold atV; rw [List.filter_cons]; cases on6 z (rd l i) <;> rfl
  rw [e, ← List.append_assoc]
  rcases Yy (decide ((rd l i).c ≤ z)) with q1 | q1 <;> rcases Yy (decide (z < (rd l i).f)) with q2 | q2
  ·obtain ⟨N, hN⟩ := w1z l z hl k (i + 1) (out ++ [v8g (rd l i)]) (by omega) (by simp; omega)
   refine ⟨N + 1, ?_⟩
   rw [Zv]
   simp (disch := omega) only [z3z, q1, q2, on6, Xw, Yn, Zo, Zt, Xp, Yu, Yz, Yk, Zr, Zj, Zf, Qz, Qy, decide_true, Zx, Zd, Zi, Ya, Zk, Nat.zero_add, Bool.and_true, Bool.true_and, cond_true, cond_false, Bool.not_true, Bool.not_false, Zm]
   exact hN
  all_goals
   obtain ⟨N, hN⟩ := w1z l z hl k (i + 1) out (by omega) (by omega)
   refine ⟨N + 1, ?_⟩
   rw [Zv]
   simp (disch := omega) only [z3z, q1, q2, on6, Xw, Yn, Zo, Zt, Xp, Yu, Yz, Yk, Zr, Zj, Zf, Qz, Qy, decide_true, Zx, Zd, Zi, Ya, Zk, Nat.zero_add, Bool.and_true, Bool.true_and, cond_true, cond_false, Bool.not_true, Bool.not_false, Zm, Bool.false_and, Bool.and_false, List.append_nil]
   exact hN
theorem v6w (l : List R6) (z : Int) (h : z3h l z = true) : ∃ N, Yx (z3z l z) N (z9b l z) = .ret [.dat (atV l z).length (Zz (atV l z))] := by
 have := w1z l z (of_decide_eq_true h) l.length 0 [] (Nat.zero_add _) (Nat.le_refl _)
 simpa [z9b] using this
def x5p (cuts : List Int) (ins : List Bool) : Nat → Nat → List R2 → List R2
 | 0, _, out => out
 | k + 1, i, out => x5p cuts ins k (i + 1) (bif rd ins i then (bif decide (0 < out.length) && ((rd out (out.length - 1)).b == rd cuts i) then out.set (out.length - 1) ⟨(rd out (out.length - 1)).a, rd cuts (i + 1)⟩ else out ++ [⟨rd cuts i, rd cuts (i + 1)⟩]) else out)
def z8e (cuts : List Int) (ins : List Bool) : List R2 := x5p cuts ins (cuts.length - 1) 0 []
def z6c (cuts : List Int) (ins : List Bool) : Bool := decide (cuts.length ≤ 1000000 ∧ cuts.length ≤ ins.length + 1)
theorem y4m (cuts : List Int) (ins : List Bool) (hl : cuts.length ≤ 1000000) (hi : cuts.length ≤ ins.length + 1) : ∀ (k i : Nat) (out : List R2), k = cuts.length - 1 - i → i ≤ cuts.length → out.length ≤ i → ∃ N, Yx (Kx cuts ins) N (.to (.h0 out (i : Int))) = .ret [.dat (x5p cuts ins k i out).length (Zz (x5p cuts ins k i out))]
 | 0, i, out, h, hi2, ho => by
  refine ⟨1, ?_⟩
  rw [Zv]
  simp (disch := omega) only [Kx, Xw, Yn, Zo, Zt, Xp, Yu, Yz, Yk, Zr, Zj, Zf, Qz, Qy, decide_true, Zx, Zd, Zi, Ya, Zk, Nat.zero_add, Bool.and_true, Bool.true_and, cond_true, cond_false, Bool.not_true, Bool.not_false, Zm, x5p]
 | k + 1, i, out, h, hi2, ho => by
  unfold x5p
  rcases Yy (rd ins i) with q | q
  ·rcases Yy (decide (0 < out.length) && ((rd out (out.length - 1)).b == rd cuts i)) with q2 | q2
   ·obtain ⟨N, hN⟩ := y4m cuts ins hl hi k (i + 1) (out.set (out.length - 1) ⟨(rd out (out.length - 1)).a, rd cuts (i + 1)⟩) (by omega) (by omega) (by simp; omega)
    refine ⟨N + 1, ?_⟩
    rw [Zv, q, q2]
    simp only [Bool.and_eq_true, decide_eq_true_eq] at q2
    simp (disch := omega) only [Kx, q, q2.2, Xw, Yn, Zo, Zt, Xp, Yu, Yz, Yk, Zr, Zj, Zf, Qz, Qy, decide_true, Zx, Zd, Zi, Ya, Zk, Nat.zero_add, Bool.and_true, Bool.true_and, cond_true, cond_false, Bool.not_true, Bool.not_false, Zm]
    exact hN
   ·obtain ⟨N, hN⟩ := y4m cuts ins hl hi k (i + 1) (out ++ [⟨rd cuts i, rd cuts (i + 1)⟩]) (by omega) (by omega) (by simp; omega)
    refine ⟨N + 1, ?_⟩
    rw [Zv, q, q2]
    by_cases h0 : 0 < out.length
    ·rw [decide_eq_true h0, Bool.true_and] at q2
     simp (disch := omega) only [Kx, q, q2, Xw, Yn, Zo, Zt, Xp, Yu, Yz, Yk, Zr, Zj, Zf, Qz, Qy, decide_true, Zx, Zd, Zi, Ya, Zk, Nat.zero_add, Bool.and_true, Bool.true_and, cond_true, cond_false, Bool.not_true, Bool.not_false, Zm]
     exact hN
    ·simp (disch := omega) only [Kx, q, Xw, Yn, Zo, Zt, Xp, Yu, Yz, Yk, Zr, Zj, Zf, Qz, Qy, decide_true, Zx, Zd, Zi, Ya, Zk, Nat.zero_add, Bool.and_true, Bool.true_and, cond_true, cond_false, Bool.not_true, Bool.not_false, Zm]
     exact hN
  ·obtain ⟨N, hN⟩ := y4m cuts ins hl hi k (i + 1) out (by omega) (by omega) (by omega)
   refine ⟨N + 1, ?_⟩
   rw [Zv, q]
   simp (disch := omega) only [Kx, q, Xw, Yn, Zo, Zt, Xp, Yu, Yz, Yk, Zr, Zj, Zf, Qz, Qy, decide_true, Zx, Zd, Zi, Ya, Zk, Nat.zero_add, Bool.and_true, Bool.true_and, cond_true, cond_false, Bool.not_true, Bool.not_false, Zm]
   exact hN
theorem w7d (cuts : List Int) (ins : List Bool) (h : z6c cuts ins = true) : ∃ N, Yx (Kx cuts ins) N (z4y cuts ins) = .ret [.dat (z8e cuts ins).length (Zz (z8e cuts ins))] := by
 obtain ⟨h1, h2⟩ := of_decide_eq_true h
 have := y4m cuts ins h1 h2 (cuts.length - 1) 0 [] (by omega) (Nat.zero_le _) (Nat.le_refl _)
 simpa [z4y, z8e] using this
end Go.Am
namespace Go.Am
abbrev w2r : Nat := 133
abbrev v3i : Nat := 139
abbrev v3b : Nat := 140
abbrev v3f : Nat := 137
abbrev nHas4 : Nat := 138
abbrev v3a : Nat := 117
abbrev nXs : Nat := 135
abbrev nYs : Nat := 136
abbrev v3e : Nat := 115
abbrev v2z : Nat := 40
abbrev nAt : Nat := 116
abbrev nCuts : Nat := 114
abbrev v3d : Nat := 79
abbrev w2u : Nat := 64
abbrev nEq2 : Nat := 123
abbrev nEq4 : Nat := 82
abbrev nEq6 : Nat := 109
abbrev v2y : Nat := 192
abbrev x4p : Nat := 193
abbrev nSort : Nat := 119
abbrev x4r : Nat := 120
abbrev nFst : Nat := 189
abbrev y7j : Nat := 174
abbrev x4m : Nat := 130
abbrev w2t : Nat := 154
abbrev x4l : Nat := 153
abbrev x4k : Nat := 107
-- not there: gambrel/solid.contact
abbrev y7k : Nat := 72
abbrev w2s : Nat := 77
-- not there: gambrel/solid.Volume
abbrev z9c : Nat := 95
abbrev x4q : Nat := 57
abbrev w2z : Nat := 16
abbrev v3h : Nat := 18
abbrev w3a : Nat := 34
abbrev w3b : Nat := 36
abbrev nDown : Nat := 75
abbrev w3c : Nat := 122
abbrev v3c : Nat := 81
abbrev nFull : Nat := 143
abbrev w2x : Nat := 49
abbrev y7l : Nat := 59
abbrev x4n : Nat := 17
abbrev w2y : Nat := 19
abbrev w2w : Nat := 15
abbrev x4s : Nat := 41
abbrev v3g : Nat := 42
abbrev nSHas : Nat := 47
abbrev w2v : Nat := 46
abbrev x4o : Nat := 45
end Go.Am
namespace Go.Am
open Go.Proofs.Tryz
open Go.Proofs
def Qe (k : Int) (a b : Bool) : Bool := bif k == 1 then a && b else bif k == 2 then a || b else a && !b
def x5e (a b : Bool) : Bool := a
theorem v7z (k : Int) (a b : Bool) : ∃ N, Yx (x1q k a b) N (z9h k a b) = .ret [.bool (Qe k a b)] := by
 refine ⟨0, ?_⟩
 unfold z9h Qe
 cases a <;> cases b <;> rcases Yy (k == 1) with q | q <;> rcases Yy (k == 2) with q2 | q2 <;> rw [q] <;> (try rw [q2]) <;> rfl
theorem v8c (a b : Bool) : ∃ N, Yx (x1u a b) N (y5b a b) = .ret [.bool (x5e a b)] := ⟨0, rfl⟩
def fSrt : List AVal → Option (AVal × Bool)
 | [a0] => match asL Int a0 with
  | some (L0, g0, n0) => some (.dat (z0p L0).length (Zz (z0p L0)), isT Int n0 g0 && (Je L0))
  | _ => none
 | _ => none
theorem v8l {S : Specs} (hS : Zu prog S) : Zu prog (S.with w2r fSrt) := by
 refine z0z hS (by kernel_rfl) fun args v h => ?_
 unfold fSrt at h
 split at h
 ·rename_i a0
  split at h
  ·rename_i L0 g0 n0 e0
   simp only [Option.some.injEq, Prod.mk.injEq, Bool.and_eq_true] at h
   obtain ⟨rfl, ho0, hw⟩ := h
   obtain ⟨N, hN⟩ := w0p L0 hw
   exact ⟨_, _, (.cons (asL_le e0 ho0) .nil), rfl, x6p L0 N _ hN, 3, rfl⟩
  ·cases h
 ·cases h
def fCan : List AVal → Option (AVal × Bool)
 | [a0, a1] => match asL Int a0, asL Bool a1 with
  | some (L0, g0, n0), some (L1, g1, n1) => some (.dat (z8e L0 L1).length (Zz (z8e L0 L1)), isT Int n0 g0 && (isT Bool n1 g1 && (z6c L0 L1)))
  | _, _ => none
 | _ => none
theorem v9o {S : Specs} (hS : Zu prog S) : Zu prog (S.with v3i fCan) := by
 refine z0z hS (by kernel_rfl) fun args v h => ?_
 unfold fCan at h
 split at h
 ·rename_i a0 a1
  split at h
  ·rename_i L0 g0 n0 L1 g1 n1 e0 e1
   simp only [Option.some.injEq, Prod.mk.injEq, Bool.and_eq_true] at h
   obtain ⟨rfl, ho0, ho1, hw⟩ := h
   obtain ⟨N, hN⟩ := w7d L0 L1 hw
   exact ⟨_, _, (.cons (asL_le e0 ho0) (.cons (asL_le e1 ho1) .nil)), rfl, w1y L0 L1 N _ hN, 3, rfl⟩
  ·cases h
 ·cases h
def y3i : List AVal → Option (AVal × Bool)
 | [a0, a1] => match asL R2 a0, asL R2 a1 with
  | some (L0, g0, n0), some (L1, g1, n1) => some (.bool (Jh L0 L1), isT R2 n0 g0 && (isT R2 n1 g1 && (Vz L0 L1)))
  | _, _ => none
 | _ => none
theorem w4c {S : Specs} (hS : Zu prog S) : Zu prog (S.with v3b y3i) := by
 refine z0z hS (by kernel_rfl) fun args v h => ?_
 unfold y3i at h
 split at h
 ·rename_i a0 a1
  split at h
  ·rename_i L0 g0 n0 L1 g1 n1 e0 e1
   simp only [Option.some.injEq, Prod.mk.injEq, Bool.and_eq_true] at h
   obtain ⟨rfl, ho0, ho1, hw⟩ := h
   obtain ⟨N, hN⟩ := v6a L0 L1 hw
   exact ⟨_, _, (.cons (asL_le e0 ho0) (.cons (asL_le e1 ho1) .nil)), rfl, w6k L0 L1 N _ hN, 3, rfl⟩
  ·cases h
 ·cases h
def y3h : List AVal → Option (AVal × Bool)
 | [a0, a1] => match asL R4 a0, asL R4 a1 with
  | some (L0, g0, n0), some (L1, g1, n1) => some (.bool (Ug L0 L1), isT R4 n0 g0 && (isT R4 n1 g1 && (Wk L0 L1)))
  | _, _ => none
 | _ => none
theorem w4b {S : Specs} (hS : Zu prog S) : Zu prog (S.with v3a y3h) := by
 refine z0z hS (by kernel_rfl) fun args v h => ?_
 unfold y3h at h
 split at h
 ·rename_i a0 a1
  split at h
  ·rename_i L0 g0 n0 L1 g1 n1 e0 e1
   simp only [Option.some.injEq, Prod.mk.injEq, Bool.and_eq_true] at h
   obtain ⟨rfl, ho0, ho1, hw⟩ := h
   obtain ⟨N, hN⟩ := v5z L0 L1 hw
   exact ⟨_, _, (.cons (asL_le e0 ho0) (.cons (asL_le e1 ho1) .nil)), rfl, w6j L0 L1 N _ hN, 3, rfl⟩
  ·cases h
 ·cases h
def y3g : List AVal → Option (AVal × Bool)
 | [a0, a1] => match asL R6 a0, asL R6 a1 with
  | some (L0, g0, n0), some (L1, g1, n1) => some (.bool (Jf L0 L1), isT R6 n0 g0 && (isT R6 n1 g1 && (Vd L0 L1)))
  | _, _ => none
 | _ => none
theorem w4a {S : Specs} (hS : Zu prog S) : Zu prog (S.with v2z y3g) := by
 refine z0z hS (by kernel_rfl) fun args v h => ?_
 unfold y3g at h
 split at h
 ·rename_i a0 a1
  split at h
  ·rename_i L0 g0 n0 L1 g1 n1 e0 e1
   simp only [Option.some.injEq, Prod.mk.injEq, Bool.and_eq_true] at h
   obtain ⟨rfl, ho0, ho1, hw⟩ := h
   obtain ⟨N, hN⟩ := v6b L0 L1 hw
   exact ⟨_, _, (.cons (asL_le e0 ho0) (.cons (asL_le e1 ho1) .nil)), rfl, w6l L0 L1 N _ hN, 3, rfl⟩
  ·cases h
 ·cases h
def v9c : List AVal → Option (AVal × Bool)
 | [a0, .int .i64 x1, .int .i64 x2] => match asL R4 a0 with
  | some (L0, g0, n0) => some (.bool (has4V L0 x1 x2), isT R4 n0 g0 && (Kg L0 x1 x2))
  | _ => none
 | _ => none
theorem w9e {S : Specs} (hS : Zu prog S) : Zu prog (S.with nHas4 v9c) := by
 refine z0z hS (by kernel_rfl) fun args v h => ?_
 unfold v9c at h
 split at h
 ·rename_i a0 x1 x2
  split at h
  ·rename_i L0 g0 n0 e0
   simp only [Option.some.injEq, Prod.mk.injEq, Bool.and_eq_true] at h
   obtain ⟨rfl, ho0, hw⟩ := h
   obtain ⟨N, hN⟩ := w6t L0 x1 x2 hw
   exact ⟨_, _, (.cons (asL_le e0 ho0) (.cons (.refl _) (.cons (.refl _) .nil))), rfl, w1f L0 x1 x2 N _ hN, 3, rfl⟩
  ·cases h
 ·cases h
def fAt : List AVal → Option (AVal × Bool)
 | [a0, .int .i64 x1] => match asL R6 a0 with
  | some (L0, g0, n0) => some (.dat (atV L0 x1).length (Zz (atV L0 x1)), isT R6 n0 g0 && (z3h L0 x1))
  | _ => none
 | _ => none
theorem fAt_ok {S : Specs} (hS : Zu prog S) : Zu prog (S.with nAt fAt) := by
 refine z0z hS (by kernel_rfl) fun args v h => ?_
 unfold fAt at h
 split at h
 ·rename_i a0 x1
  split at h
  ·rename_i L0 g0 n0 e0
   simp only [Option.some.injEq, Prod.mk.injEq, Bool.and_eq_true] at h
   obtain ⟨rfl, ho0, hw⟩ := h
   obtain ⟨N, hN⟩ := v6w L0 x1 hw
   exact ⟨_, _, (.cons (asL_le e0 ho0) (.cons (.refl _) .nil)), rfl, w7e L0 x1 N _ hN, 3, rfl⟩
  ·cases h
 ·cases h
def w4e : List AVal → Option (AVal × Bool)
 | [.int .i64 x0, .bool b1, .bool b2] => some (.bool (Qe x0 b1 b2), true)
 | _ => none
theorem w4d {S : Specs} (hS : Zu prog S) : Zu prog (S.with v3f w4e) := by
 refine z0z hS (by kernel_rfl) fun args v h => ?_
 unfold w4e at h
 split at h
 ·rename_i x0 b1 b2
  simp only [Option.some.injEq, Prod.mk.injEq, and_true] at h
  subst h
  obtain ⟨N, hN⟩ := v7z x0 b1 b2
  exact ⟨_, _, (.cons (.refl _) (.cons (.refl _) (.cons (.refl _) .nil))), rfl, w8s x0 b1 b2 N _ hN, 3, rfl⟩
 ·cases h
def fFst : List AVal → Option (AVal × Bool)
 | [.bool b0, .bool b1] => some (.bool (x5e b0 b1), true)
 | _ => none
theorem v9e {S : Specs} (hS : Zu prog S) : Zu prog (S.with nFst fFst) := by
 refine z0z hS (by kernel_rfl) fun args v h => ?_
 unfold fFst at h
 split at h
 ·rename_i b0 b1
  simp only [Option.some.injEq, Prod.mk.injEq, and_true] at h
  subst h
  obtain ⟨N, hN⟩ := v8c b0 b1
  exact ⟨_, _, (.cons (.refl _) (.cons (.refl _) .nil)), rfl, w8v b0 b1 N _ hN, 3, rfl⟩
 ·cases h
theorem x8f {S : Specs} (hS : Zu prog S) : Zu prog (S.with nEq2 y3i) := by
 refine z0z hS (by kernel_rfl) fun args v h => ?_
 unfold y3i at h
 split at h
 ·rename_i a0 a1
  split at h
  ·rename_i L0 g0 n0 L1 g1 n1 e0 e1
   simp only [Option.some.injEq, Prod.mk.injEq, Bool.and_eq_true] at h
   obtain ⟨rfl, ho0, ho1, hw⟩ := h
   obtain ⟨N, hN⟩ := v9s L0 L1 hw
   exact ⟨_, _, (.cons (asL_le e0 ho0) (.cons (asL_le e1 ho1) .nil)), rfl, w9m L0 L1 N _ hN, 3, rfl⟩
  ·cases h
 ·cases h
theorem x8e {S : Specs} (hS : Zu prog S) : Zu prog (S.with nEq4 y3h) := by
 refine z0z hS (by kernel_rfl) fun args v h => ?_
 unfold y3h at h
 split at h
 ·rename_i a0 a1
  split at h
  ·rename_i L0 g0 n0 L1 g1 n1 e0 e1
   simp only [Option.some.injEq, Prod.mk.injEq, Bool.and_eq_true] at h
   obtain ⟨rfl, ho0, ho1, hw⟩ := h
   obtain ⟨N, hN⟩ := v9r L0 L1 hw
   exact ⟨_, _, (.cons (asL_le e0 ho0) (.cons (asL_le e1 ho1) .nil)), rfl, w9l L0 L1 N _ hN, 3, rfl⟩
  ·cases h
 ·cases h
theorem x8d {S : Specs} (hS : Zu prog S) : Zu prog (S.with nEq6 y3g) := by
 refine z0z hS (by kernel_rfl) fun args v h => ?_
 unfold y3g at h
 split at h
 ·rename_i a0 a1
  split at h
  ·rename_i L0 g0 n0 L1 g1 n1 e0 e1
   simp only [Option.some.injEq, Prod.mk.injEq, Bool.and_eq_true] at h
   obtain ⟨rfl, ho0, ho1, hw⟩ := h
   obtain ⟨N, hN⟩ := v9q L0 L1 hw
   exact ⟨_, _, (.cons (asL_le e0 ho0) (.cons (asL_le e1 ho1) .nil)), rfl, w9k L0 L1 N _ hN, 3, rfl⟩
  ·cases h
 ·cases h
def T1 : Specs := ((((((((((((noSpecs.with w2r fSrt).with v3i fCan).with v3b y3i).with v3a y3h).with v2z y3g).with nHas4 v9c).with nAt fAt).with v3f w4e).with nFst fFst).with nEq2 y3i).with nEq4 y3h).with nEq6 y3g)
theorem z1k : Zu prog T1 := x8d (x8e (x8f (v9e (w4d (fAt_ok (w9e (w4a (w4b (w4c (v9o (v8l Zp)))))))))))
end Go.Am
namespace Go.Am
open Go.Proofs.Tryz
open Go.Proofs
inductive rxsS where
 | h0 (v5 : List Int) (v6 : Int)
 | h1 (v5 : List Int) (v7 : Int)
def rxsC (l0 : List R4) (l1 : List R4) : rxsS → Cfg
 | .h0 v5 v6 => ⟨⟨48, 0, true⟩, none, (Zg prog 135 [1, 1, 0, 1, 0, 0] 0), none, (Zy prog 3), ⟨Yq [(0, (.dat l0.length (Zz l0))), (1, (.dat l1.length (Zz l1))), (5, (.sla 0 1 0 v5.length (.un 1))), (6, (ii v6))], Va [⟨Yg v5.length (Zz v5), 3, some ⟨1, v5.length, (Zz v5)⟩⟩] 0, 1, [], true⟩, [], .leaf⟩
 | .h1 v5 v7 => ⟨⟨48, 0, true⟩, none, (Zg prog 135 [1, 1, 1, 0, 1, 0, 0] 0), none, (Zy prog 3), ⟨Yq [(1, (.dat l1.length (Zz l1))), (5, (.sla 0 1 0 v5.length (.un 1))), (7, (ii v7))], Va [⟨Yg v5.length (Zz v5), 3, some ⟨1, v5.length, (Zz v5)⟩⟩] 0, 1, [], true⟩, [], .leaf⟩
def rxsN0 : List (Option (List Nat)) := [some [0, 1, 5, 6]]
def rxsM0 : List (Option (List Nat)) := []
def rxsN1 : List (Option (List Nat)) := [some [1, 5, 7]]
def rxsM1 : List (Option (List Nat)) := []
def z0s (l0 : List R4) (l1 : List R4) : rxsS → Xa rxsS
 | .h0 v5 v6 => (bif (decide (v6 < (l0.length : Int))) then (bif ((decide (0 ≤ v6 ∧ v6 < (l0.length : Int))) && true) then (bif (Nat.beq 1 1 && ((decide (0 + v5.length = v5.length)) && decide ((v5.length + 2 + 1) * (8 + 1) ≤ Ja))) then (.to (.h0 (v5 ++ [(rd l0 v6.toNat).a, (rd l0 v6.toNat).c]) (IntKind.wrap .i64 (v6 + 1)))) else .stuck) else .stuck) else (.to (.h1 v5 0)))
 | .h1 v5 v7 => (bif (decide (v7 < (l1.length : Int))) then (bif ((decide (0 ≤ v7 ∧ v7 < (l1.length : Int))) && true) then (bif (Nat.beq 1 1 && ((decide (0 + v5.length = v5.length)) && decide ((v5.length + 2 + 1) * (8 + 1) ≤ Ja))) then (.to (.h1 (v5 ++ [(rd l1 v7.toNat).a, (rd l1 v7.toNat).c]) (IntKind.wrap .i64 (v7 + 1)))) else .stuck) else .stuck) else (bif (Je (cvT v5)) then (.ret [(.dat (z0p (cvT v5)).length (Zz (z0p (cvT v5))))]) else .stuck))
def z8v (l0 : List R4) (l1 : List R4) : Xa rxsS := (.to (.h0 ([] : List Int) 0))
theorem x6n (l0 : List R4) (l1 : List R4) : ∀ s, Xo prog (Zy prog 135) (rxsC l0 l1) (rxsC l0 l1 s) (z0s l0 l1 s)
 | .h0 v5 v6 => (lb (fun k0 => (lo fun o0 => (lo fun o1 => (sl z1k 20 [] ⟨[2], [], rxsN0, rxsM0⟩ ⟨[(5, .len (v5 ++ [(rd l0 (tn v6)).a, (rd l0 (tn v6)).c]).length)], [.rowed 1 (v5 ++ [(rd l0 (tn v6)).a, (rd l0 (tn v6)).c]).length (Zz (v5 ++ [(rd l0 (tn v6)).a, (rd l0 (tn v6)).c]))], []⟩ [true] (pp (xL (v5.length + 2) (v5 ++ [(rd l0 (tn v6)).a, (rd l0 (tn v6)).c]).length) (pp (xL (v5.length + 2) (v5 ++ [(rd l0 (tn v6)).a, (rd l0 (tn v6)).c]).length) (pp (xS (v5.length + 2) (Ze (Zz v5) 0 v5.length 1 [(ii (rd l0 (tn v6)).a), (ii (rd l0 (tn v6)).c)]) (Zz (v5 ++ [(rd l0 (tn v6)).a, (rd l0 (tn v6)).c]))) (pp (pp (xF (Ze (Zz v5) 0 v5.length 1 [(ii (rd l0 (tn v6)).a), (ii (rd l0 (tn v6)).c)])) nn) (ww o1 (ww o0 (ww o0 (tt k0 nn)))))))))))) (fun k0 => (sl z1k 17 [] ⟨[0], [], rxsN1, rxsM1⟩ ⟨[], [], []⟩ [false] (pp (fl v5 nn) (tt k0 nn)))))
 | .h1 v5 v7 => (lb (fun k0 => (lo fun o0 => (lo fun o1 => (sl z1k 20 [] ⟨[2], [], rxsN1, rxsM1⟩ ⟨[(5, .len (v5 ++ [(rd l1 (tn v7)).a, (rd l1 (tn v7)).c]).length)], [.rowed 1 (v5 ++ [(rd l1 (tn v7)).a, (rd l1 (tn v7)).c]).length (Zz (v5 ++ [(rd l1 (tn v7)).a, (rd l1 (tn v7)).c]))], []⟩ [true] (pp (xL (v5.length + 2) (v5 ++ [(rd l1 (tn v7)).a, (rd l1 (tn v7)).c]).length) (pp (xL (v5.length + 2) (v5 ++ [(rd l1 (tn v7)).a, (rd l1 (tn v7)).c]).length) (pp (xS (v5.length + 2) (Ze (Zz v5) 0 v5.length 1 [(ii (rd l1 (tn v7)).a), (ii (rd l1 (tn v7)).c)]) (Zz (v5 ++ [(rd l1 (tn v7)).a, (rd l1 (tn v7)).c]))) (pp (pp (xF (Ze (Zz v5) 0 v5.length 1 [(ii (rd l1 (tn v7)).a), (ii (rd l1 (tn v7)).c)])) nn) (ww o1 (ww o0 (ww o0 (tt k0 nn)))))))))))) (fun k0 => (Wb (sl z1k (C' := ⟨⟨48, 0, true⟩, (Vu prog 135 [1, 1, 1, 1, 0] 1), (Zg prog 135 [1, 1, 1, 1, 0] 1), none, (Zy prog 3), ⟨Yq [(46, (.dat v5.length (Zz v5)))], Va [] 0, 0, [], true⟩, [], .leaf⟩) 13 [] ⟨[], [0], [some [46]], []⟩ ⟨[(46, .frz v5.length v5.length (Zz v5) (Zz v5))], [], []⟩ [false] (pp (xZ (z5k 1 1 0 v5.length v5.length (Zz v5)) v5.length (Zz v5)) (pp (xL v5.length v5.length) (pp (xS v5.length (Zz v5) (Zz v5)) (pp (fl v5 nn) (tt k0 nn)))))) (lo fun o0 => (lr 48 3 [1, 1, 1, 1, 1, 1, 0] 1 3 [(4, (.dat (z0p (cvT v5)).length (Zz (z0p (cvT v5)))))] (sl z1k 3 [] ⟨[], [], [some [4]], []⟩ ⟨[], [], []⟩ [] (pp (pp (xr v5) (xw o0)) nn)))))))
theorem y9y (l0 : List R4) (l1 : List R4) : Xo prog (Zy prog 135) (rxsC l0 l1) (Zc prog 135 [(.dat l0.length (Zz l0)), (.dat l1.length (Zz l1))] true []) (z8v l0 l1) := (sl z1k 15 [(3, 1, Zz ([] : List Int))] ⟨[0], [], rxsN0, rxsM0⟩ ⟨[(5, .grow 0 1)], [], []⟩ [] (pp (fl ([] : List Int) nn) nn))
theorem w6i (l0 : List R4) (l1 : List R4) (n : Nat) (vs : List AVal) (h : Yx (z0s l0 l1) n (z8v l0 l1) = .ret vs) : Jc prog (Zy prog 135) (Zc prog 135 [(.dat l0.length (Zz l0)), (.dat l1.length (Zz l1))] true []) vs := by
 have := Zn (x6n l0 l1) n _ (y9y l0 l1)
 rwa [h] at this
inductive rysS where
 | h0 (v5 : List Int) (v6 : Int)
 | h1 (v5 : List Int) (v7 : Int)
def rysC (l0 : List R4) (l1 : List R4) : rysS → Cfg
 | .h0 v5 v6 => ⟨⟨48, 0, true⟩, none, (Zg prog 136 [1, 1, 0, 1, 0, 0] 0), none, (Zy prog 3), ⟨Yq [(0, (.dat l0.length (Zz l0))), (1, (.dat l1.length (Zz l1))), (5, (.sla 0 1 0 v5.length (.un 1))), (6, (ii v6))], Va [⟨Yg v5.length (Zz v5), 3, some ⟨1, v5.length, (Zz v5)⟩⟩] 0, 1, [], true⟩, [], .leaf⟩
 | .h1 v5 v7 => ⟨⟨48, 0, true⟩, none, (Zg prog 136 [1, 1, 1, 0, 1, 0, 0] 0), none, (Zy prog 3), ⟨Yq [(1, (.dat l1.length (Zz l1))), (5, (.sla 0 1 0 v5.length (.un 1))), (7, (ii v7))], Va [⟨Yg v5.length (Zz v5), 3, some ⟨1, v5.length, (Zz v5)⟩⟩] 0, 1, [], true⟩, [], .leaf⟩
def rysN0 : List (Option (List Nat)) := [some [0, 1, 5, 6]]
def rysM0 : List (Option (List Nat)) := []
def rysN1 : List (Option (List Nat)) := [some [1, 5, 7]]
def rysM1 : List (Option (List Nat)) := []
def z0r (l0 : List R4) (l1 : List R4) : rysS → Xa rysS
 | .h0 v5 v6 => (bif (decide (v6 < (l0.length : Int))) then (bif ((decide (0 ≤ v6 ∧ v6 < (l0.length : Int))) && true) then (bif (Nat.beq 1 1 && ((decide (0 + v5.length = v5.length)) && decide ((v5.length + 2 + 1) * (8 + 1) ≤ Ja))) then (.to (.h0 (v5 ++ [(rd l0 v6.toNat).b, (rd l0 v6.toNat).d]) (IntKind.wrap .i64 (v6 + 1)))) else .stuck) else .stuck) else (.to (.h1 v5 0)))
 | .h1 v5 v7 => (bif (decide (v7 < (l1.length : Int))) then (bif ((decide (0 ≤ v7 ∧ v7 < (l1.length : Int))) && true) then (bif (Nat.beq 1 1 && ((decide (0 + v5.length = v5.length)) && decide ((v5.length + 2 + 1) * (8 + 1) ≤ Ja))) then (.to (.h1 (v5 ++ [(rd l1 v7.toNat).b, (rd l1 v7.toNat).d]) (IntKind.wrap .i64 (v7 + 1)))) else .stuck) else .stuck) else (bif (Je (cvT v5)) then (.ret [(.dat (z0p (cvT v5)).length (Zz (z0p (cvT v5))))]) else .stuck))
def z8u (l0 : List R4) (l1 : List R4) : Xa rysS := (.to (.h0 ([] : List Int) 0))
theorem x6m (l0 : List R4) (l1 : List R4) : ∀ s, Xo prog (Zy prog 136) (rysC l0 l1) (rysC l0 l1 s) (z0r l0 l1 s)
 | .h0 v5 v6 => (lb (fun k0 => (lo fun o0 => (lo fun o1 => (sl z1k 20 [] ⟨[2], [], rysN0, rysM0⟩ ⟨[(5, .len (v5 ++ [(rd l0 (tn v6)).b, (rd l0 (tn v6)).d]).length)], [.rowed 1 (v5 ++ [(rd l0 (tn v6)).b, (rd l0 (tn v6)).d]).length (Zz (v5 ++ [(rd l0 (tn v6)).b, (rd l0 (tn v6)).d]))], []⟩ [true] (pp (xL (v5.length + 2) (v5 ++ [(rd l0 (tn v6)).b, (rd l0 (tn v6)).d]).length) (pp (xL (v5.length + 2) (v5 ++ [(rd l0 (tn v6)).b, (rd l0 (tn v6)).d]).length) (pp (xS (v5.length + 2) (Ze (Zz v5) 0 v5.length 1 [(ii (rd l0 (tn v6)).b), (ii (rd l0 (tn v6)).d)]) (Zz (v5 ++ [(rd l0 (tn v6)).b, (rd l0 (tn v6)).d]))) (pp (pp (xF (Ze (Zz v5) 0 v5.length 1 [(ii (rd l0 (tn v6)).b), (ii (rd l0 (tn v6)).d)])) nn) (ww o1 (ww o0 (ww o0 (tt k0 nn)))))))))))) (fun k0 => (sl z1k 17 [] ⟨[0], [], rysN1, rysM1⟩ ⟨[], [], []⟩ [false] (pp (fl v5 nn) (tt k0 nn)))))
 | .h1 v5 v7 => (lb (fun k0 => (lo fun o0 => (lo fun o1 => (sl z1k 20 [] ⟨[2], [], rysN1, rysM1⟩ ⟨[(5, .len (v5 ++ [(rd l1 (tn v7)).b, (rd l1 (tn v7)).d]).length)], [.rowed 1 (v5 ++ [(rd l1 (tn v7)).b, (rd l1 (tn v7)).d]).length (Zz (v5 ++ [(rd l1 (tn v7)).b, (rd l1 (tn v7)).d]))], []⟩ [true] (pp (xL (v5.length + 2) (v5 ++ [(rd l1 (tn v7)).b, (rd l1 (tn v7)).d]).length) (pp (xL (v5.length + 2) (v5 ++ [(rd l1 (tn v7)).b, (rd l1 (tn v7)).d]).length) (pp (xS (v5.length + 2) (Ze (Zz v5) 0 v5.length 1 [(ii (rd l1 (tn v7)).b), (ii (rd l1 (tn v7)).d)]) (Zz (v5 ++ [(rd l1 (tn v7)).b, (rd l1 (tn v7)).d]))) (pp (pp (xF (Ze (Zz v5) 0 v5.length 1 [(ii (rd l1 (tn v7)).b), (ii (rd l1 (tn v7)).d)])) nn) (ww o1 (ww o0 (ww o0 (tt k0 nn)))))))))))) (fun k0 => (Wb (sl z1k (C' := ⟨⟨48, 0, true⟩, (Vu prog 136 [1, 1, 1, 1, 0] 1), (Zg prog 136 [1, 1, 1, 1, 0] 1), none, (Zy prog 3), ⟨Yq [(46, (.dat v5.length (Zz v5)))], Va [] 0, 0, [], true⟩, [], .leaf⟩) 13 [] ⟨[], [0], [some [46]], []⟩ ⟨[(46, .frz v5.length v5.length (Zz v5) (Zz v5))], [], []⟩ [false] (pp (xZ (z5k 1 1 0 v5.length v5.length (Zz v5)) v5.length (Zz v5)) (pp (xL v5.length v5.length) (pp (xS v5.length (Zz v5) (Zz v5)) (pp (fl v5 nn) (tt k0 nn)))))) (lo fun o0 => (lr 48 3 [1, 1, 1, 1, 1, 1, 0] 1 3 [(4, (.dat (z0p (cvT v5)).length (Zz (z0p (cvT v5)))))] (sl z1k 3 [] ⟨[], [], [some [4]], []⟩ ⟨[], [], []⟩ [] (pp (pp (xr v5) (xw o0)) nn)))))))
theorem y9x (l0 : List R4) (l1 : List R4) : Xo prog (Zy prog 136) (rysC l0 l1) (Zc prog 136 [(.dat l0.length (Zz l0)), (.dat l1.length (Zz l1))] true []) (z8u l0 l1) := (sl z1k 15 [(3, 1, Zz ([] : List Int))] ⟨[0], [], rysN0, rysM0⟩ ⟨[(5, .grow 0 1)], [], []⟩ [] (pp (fl ([] : List Int) nn) nn))
theorem w6h (l0 : List R4) (l1 : List R4) (n : Nat) (vs : List AVal) (h : Yx (z0r l0 l1) n (z8u l0 l1) = .ret vs) : Jc prog (Zy prog 136) (Zc prog 136 [(.dat l0.length (Zz l0)), (.dat l1.length (Zz l1))] true []) vs := by
 have := Zn (x6m l0 l1) n _ (y9x l0 l1)
 rwa [h] at this
inductive rcutS where
 | h0 (v5 : List Int) (v6 : Int)
 | h1 (v5 : List Int) (v7 : Int)
def v6s (l0 : List R6) (l1 : List R6) : rcutS → Cfg
 | .h0 v5 v6 => ⟨⟨52, 0, true⟩, none, (Zg prog 114 [1, 1, 0, 1, 0, 0] 0), none, (Zy prog 3), ⟨Yq [(0, (.dat l0.length (Zz l0))), (1, (.dat l1.length (Zz l1))), (5, (.sla 0 1 0 v5.length (.un 1))), (6, (ii v6))], Va [⟨Yg v5.length (Zz v5), 3, some ⟨1, v5.length, (Zz v5)⟩⟩] 0, 1, [], true⟩, [], .leaf⟩
 | .h1 v5 v7 => ⟨⟨52, 0, true⟩, none, (Zg prog 114 [1, 1, 1, 0, 1, 0, 0] 0), none, (Zy prog 3), ⟨Yq [(1, (.dat l1.length (Zz l1))), (5, (.sla 0 1 0 v5.length (.un 1))), (7, (ii v7))], Va [⟨Yg v5.length (Zz v5), 3, some ⟨1, v5.length, (Zz v5)⟩⟩] 0, 1, [], true⟩, [], .leaf⟩
def v2l : List (Option (List Nat)) := [some [0, 1, 5, 6]]
def v2n : List (Option (List Nat)) := []
def v2k : List (Option (List Nat)) := [some [1, 5, 7]]
def v2m : List (Option (List Nat)) := []
def Ky (l0 : List R6) (l1 : List R6) : rcutS → Xa rcutS
 | .h0 v5 v6 => (bif (decide (v6 < (l0.length : Int))) then (bif ((decide (0 ≤ v6 ∧ v6 < (l0.length : Int))) && true) then (bif (Nat.beq 1 1 && ((decide (0 + v5.length = v5.length)) && decide ((v5.length + 2 + 1) * (8 + 1) ≤ Ja))) then (.to (.h0 (v5 ++ [(rd l0 v6.toNat).c, (rd l0 v6.toNat).f]) (IntKind.wrap .i64 (v6 + 1)))) else .stuck) else .stuck) else (.to (.h1 v5 0)))
 | .h1 v5 v7 => (bif (decide (v7 < (l1.length : Int))) then (bif ((decide (0 ≤ v7 ∧ v7 < (l1.length : Int))) && true) then (bif (Nat.beq 1 1 && ((decide (0 + v5.length = v5.length)) && decide ((v5.length + 2 + 1) * (8 + 1) ≤ Ja))) then (.to (.h1 (v5 ++ [(rd l1 v7.toNat).c, (rd l1 v7.toNat).f]) (IntKind.wrap .i64 (v7 + 1)))) else .stuck) else .stuck) else (bif (Je (cvT v5)) then (.ret [(.dat (z0p (cvT v5)).length (Zz (z0p (cvT v5))))]) else .stuck))
def z4w (l0 : List R6) (l1 : List R6) : Xa rcutS := (.to (.h0 ([] : List Int) 0))
theorem x0r (l0 : List R6) (l1 : List R6) : ∀ s, Xo prog (Zy prog 114) (v6s l0 l1) (v6s l0 l1 s) (Ky l0 l1 s)
 | .h0 v5 v6 => (lb (fun k0 => (lo fun o0 => (lo fun o1 => (sl z1k 20 [] ⟨[2], [], v2l, v2n⟩ ⟨[(5, .len (v5 ++ [(rd l0 (tn v6)).c, (rd l0 (tn v6)).f]).length)], [.rowed 1 (v5 ++ [(rd l0 (tn v6)).c, (rd l0 (tn v6)).f]).length (Zz (v5 ++ [(rd l0 (tn v6)).c, (rd l0 (tn v6)).f]))], []⟩ [true] (pp (xL (v5.length + 2) (v5 ++ [(rd l0 (tn v6)).c, (rd l0 (tn v6)).f]).length) (pp (xL (v5.length + 2) (v5 ++ [(rd l0 (tn v6)).c, (rd l0 (tn v6)).f]).length) (pp (xS (v5.length + 2) (Ze (Zz v5) 0 v5.length 1 [(ii (rd l0 (tn v6)).c), (ii (rd l0 (tn v6)).f)]) (Zz (v5 ++ [(rd l0 (tn v6)).c, (rd l0 (tn v6)).f]))) (pp (pp (xF (Ze (Zz v5) 0 v5.length 1 [(ii (rd l0 (tn v6)).c), (ii (rd l0 (tn v6)).f)])) nn) (ww o1 (ww o0 (ww o0 (tt k0 nn)))))))))))) (fun k0 => (sl z1k 17 [] ⟨[0], [], v2k, v2m⟩ ⟨[], [], []⟩ [false] (pp (fl v5 nn) (tt k0 nn)))))
 | .h1 v5 v7 => (lb (fun k0 => (lo fun o0 => (lo fun o1 => (sl z1k 20 [] ⟨[2], [], v2k, v2m⟩ ⟨[(5, .len (v5 ++ [(rd l1 (tn v7)).c, (rd l1 (tn v7)).f]).length)], [.rowed 1 (v5 ++ [(rd l1 (tn v7)).c, (rd l1 (tn v7)).f]).length (Zz (v5 ++ [(rd l1 (tn v7)).c, (rd l1 (tn v7)).f]))], []⟩ [true] (pp (xL (v5.length + 2) (v5 ++ [(rd l1 (tn v7)).c, (rd l1 (tn v7)).f]).length) (pp (xL (v5.length + 2) (v5 ++ [(rd l1 (tn v7)).c, (rd l1 (tn v7)).f]).length) (pp (xS (v5.length + 2) (Ze (Zz v5) 0 v5.length 1 [(ii (rd l1 (tn v7)).c), (ii (rd l1 (tn v7)).f)]) (Zz (v5 ++ [(rd l1 (tn v7)).c, (rd l1 (tn v7)).f]))) (pp (pp (xF (Ze (Zz v5) 0 v5.length 1 [(ii (rd l1 (tn v7)).c), (ii (rd l1 (tn v7)).f)])) nn) (ww o1 (ww o0 (ww o0 (tt k0 nn)))))))))))) (fun k0 => (Wb (sl z1k (C' := ⟨⟨52, 0, true⟩, (Vu prog 114 [1, 1, 1, 1, 0] 1), (Zg prog 114 [1, 1, 1, 1, 0] 1), none, (Zy prog 3), ⟨Yq [(50, (.dat v5.length (Zz v5)))], Va [] 0, 0, [], true⟩, [], .leaf⟩) 13 [] ⟨[], [0], [some [50]], []⟩ ⟨[(50, .frz v5.length v5.length (Zz v5) (Zz v5))], [], []⟩ [false] (pp (xZ (z5k 1 1 0 v5.length v5.length (Zz v5)) v5.length (Zz v5)) (pp (xL v5.length v5.length) (pp (xS v5.length (Zz v5) (Zz v5)) (pp (fl v5 nn) (tt k0 nn)))))) (lo fun o0 => (lr 52 3 [1, 1, 1, 1, 1, 1, 0] 1 3 [(4, (.dat (z0p (cvT v5)).length (Zz (z0p (cvT v5)))))] (sl z1k 3 [] ⟨[], [], [some [4]], []⟩ ⟨[], [], []⟩ [] (pp (pp (xr v5) (xw o0)) nn)))))))
theorem y6x (l0 : List R6) (l1 : List R6) : Xo prog (Zy prog 114) (v6s l0 l1) (Zc prog 114 [(.dat l0.length (Zz l0)), (.dat l1.length (Zz l1))] true []) (z4w l0 l1) := (sl z1k 15 [(3, 1, Zz ([] : List Int))] ⟨[0], [], v2l, v2n⟩ ⟨[(5, .grow 0 1)], [], []⟩ [] (pp (fl ([] : List Int) nn) nn))
theorem w1s (l0 : List R6) (l1 : List R6) (n : Nat) (vs : List AVal) (h : Yx (Ky l0 l1) n (z4w l0 l1) = .ret vs) : Jc prog (Zy prog 114) (Zc prog 114 [(.dat l0.length (Zz l0)), (.dat l1.length (Zz l1))] true []) vs := by
 have := Zn (x0r l0 l1) n _ (y6x l0 l1)
 rwa [h] at this
end Go.Am
namespace Go.Am
open Go.Proofs.Tryz
open Go.Proofs
theorem x7j {α : Type} [Yt α] (L : List α) : lst α L.length (fun k => (Zz L) (0 + k)) = L := Ws L
def z1q (l : List R4) : List Int := l.flatMap fun r => [r.a, r.c]
def z0n (l : List R4) : List Int := l.flatMap fun r => [r.b, r.d]
def z1p (l : List R6) : List Int := l.flatMap fun r => [r.c, r.f]
def xsV (l m : List R4) : List Int := z0p (z1q l ++ z1q m)
def z8l (l m : List R4) : Bool := decide (l.length ≤ 10000 ∧ m.length ≤ 10000)
theorem Qp (l : List R4) : (z1q l).length = 2 * l.length := by
 induction l with
 | nil => rfl
 | cons r l ih => show (_ :: _ :: z1q l).length = _; simp only [List.length_cons, ih]; omega
theorem y2o (l : List R4) (i : Nat) (h : i < l.length) : z1q (l.drop i) = z1q [rd l i] ++ z1q (l.drop (i + 1)) := by
 rw [Ye h]; rfl
theorem v1s (l m : List R4) (hl : l.length ≤ 10000) (hm : m.length ≤ 10000) : ∀ (k i : Nat) (out : List Int), i + k = m.length → out.length = 2 * l.length + 2 * i → ∃ N, Yx (z0s l m) N (.to (.h1 out (i : Int))) = .ret [.dat (z0p (out ++ z1q (m.drop i))).length (Zz (z0p (out ++ z1q (m.drop i))))]
 | 0, i, out, h, ho => by
  refine ⟨1, ?_⟩
  have hw : Je out = true := decide_eq_true (by omega)
  rw [Zv, List.drop_eq_nil_of_le (show m.length ≤ i by omega), show z1q [] = [] from rfl, List.append_nil]
  simp (disch := omega) only [z0s, Xw, Yn, Zo, Zt, Xp, Yu, Yz, Yk, Zr, Zj, Zf, Qz, Qy, decide_true, Zx, Zd, Zi, Ya, Zk, Nat.zero_add, Bool.and_true, Bool.true_and, cond_true, cond_false, Bool.not_true, Bool.not_false, Zm, Zb, Zq, Ws, Xj, hw]
 | k + 1, i, out, h, ho => by
  obtain ⟨N, hN⟩ := v1s l m hl hm k (i + 1) (out ++ z1q [rd m i]) (by omega) (by rw [List.length_append, Qp]; simp; omega)
  refine ⟨N + 1, ?_⟩
  rw [y2o m i (by omega), ← List.append_assoc, Zv]
  simp (disch := omega) only [z0s, Xw, Yn, Zo, Zt, Xp, Yu, Yz, Yk, Zr, Zj, Zf, Qz, Qy, decide_true, Zx, Zd, Zi, Ya, Zk, Nat.zero_add, Bool.and_true, Bool.true_and, cond_true, cond_false, Bool.not_true, Bool.not_false, Zm, Zb, Zq, Ws, Xj]
  exact hN
theorem v1t (l m : List R4) (hl : l.length ≤ 10000) (hm : m.length ≤ 10000) : ∀ (k i : Nat) (out : List Int), i + k = l.length → out.length = 2 * i → ∃ N, Yx (z0s l m) N (.to (.h0 out (i : Int))) = .ret [.dat (z0p (out ++ z1q (l.drop i) ++ z1q m)).length (Zz (z0p (out ++ z1q (l.drop i) ++ z1q m)))]
 | 0, i, out, h, ho => by
  obtain ⟨N, hN⟩ := v1s l m hl hm m.length 0 out (Nat.zero_add _) (by omega)
  refine ⟨N + 1, ?_⟩
  rw [Zv, List.drop_eq_nil_of_le (show l.length ≤ i by omega), show z1q [] = [] from rfl, List.append_nil]
  simp (disch := omega) only [z0s, Xw, Yn, Zo, Zt, Xp, Yu, Yz, Yk, Zr, Zj, Zf, Qz, Qy, decide_true, Zx, Zd, Zi, Ya, Zk, Nat.zero_add, Bool.and_true, Bool.true_and, cond_true, cond_false, Bool.not_true, Bool.not_false, Zm, Zb, Zq, Ws, Xj]
  exact hN
 | k + 1, i, out, h, ho => by
  obtain ⟨N, hN⟩ := v1t l m hl hm k (i + 1) (out ++ z1q [rd l i]) (by omega) (by rw [List.length_append, Qp]; simp; omega)
  refine ⟨N + 1, ?_⟩
  rw [y2o l i (by omega), ← List.append_assoc, Zv]
  simp (disch := omega) only [z0s, Xw, Yn, Zo, Zt, Xp, Yu, Yz, Yk, Zr, Zj, Zf, Qz, Qy, decide_true, Zx, Zd, Zi, Ya, Zk, Nat.zero_add, Bool.and_true, Bool.true_and, cond_true, cond_false, Bool.not_true, Bool.not_false, Zm, Zb, Zq, Ws, Xj]
  exact hN
theorem v5x (l m : List R4) (h : z8l l m = true) : ∃ N, Yx (z0s l m) N (z8v l m) = .ret [.dat (xsV l m).length (Zz (xsV l m))] := by
 obtain ⟨h1, h2⟩ := of_decide_eq_true h
 have := v1t l m h1 h2 l.length 0 [] (Nat.zero_add _) rfl
 simpa [z8v, xsV] using this
def ysV (l m : List R4) : List Int := z0p (z0n l ++ z0n m)
def z8k (l m : List R4) : Bool := decide (l.length ≤ 10000 ∧ m.length ≤ 10000)
theorem Qq (l : List R4) : (z0n l).length = 2 * l.length := by
 induction l with
 | nil => rfl
 | cons r l ih => show (_ :: _ :: z0n l).length = _; simp only [List.length_cons, ih]; omega
theorem y2n (l : List R4) (i : Nat) (h : i < l.length) : z0n (l.drop i) = z0n [rd l i] ++ z0n (l.drop (i + 1)) := by
 rw [Ye h]; rfl
theorem v1q (l m : List R4) (hl : l.length ≤ 10000) (hm : m.length ≤ 10000) : ∀ (k i : Nat) (out : List Int), i + k = m.length → out.length = 2 * l.length + 2 * i → ∃ N, Yx (z0r l m) N (.to (.h1 out (i : Int))) = .ret [.dat (z0p (out ++ z0n (m.drop i))).length (Zz (z0p (out ++ z0n (m.drop i))))]
 | 0, i, out, h, ho => by
  refine ⟨1, ?_⟩
  have hw : Je out = true := decide_eq_true (by omega)
  rw [Zv, List.drop_eq_nil_of_le (show m.length ≤ i by omega), show z0n [] = [] from rfl, List.append_nil]
  simp (disch := omega) only [z0r, Xw, Yn, Zo, Zt, Xp, Yu, Yz, Yk, Zr, Zj, Zf, Qz, Qy, decide_true, Zx, Zd, Zi, Ya, Zk, Nat.zero_add, Bool.and_true, Bool.true_and, cond_true, cond_false, Bool.not_true, Bool.not_false, Zm, Zb, Zq, Ws, Xj, hw]
 | k + 1, i, out, h, ho => by
  obtain ⟨N, hN⟩ := v1q l m hl hm k (i + 1) (out ++ z0n [rd m i]) (by omega) (by rw [List.length_append, Qq]; simp; omega)
  refine ⟨N + 1, ?_⟩
  rw [y2n m i (by omega), ← List.append_assoc, Zv]
  simp (disch := omega) only [z0r, Xw, Yn, Zo, Zt, Xp, Yu, Yz, Yk, Zr, Zj, Zf, Qz, Qy, decide_true, Zx, Zd, Zi, Ya, Zk, Nat.zero_add, Bool.and_true, Bool.true_and, cond_true, cond_false, Bool.not_true, Bool.not_false, Zm, Zb, Zq, Ws, Xj]
  exact hN
theorem v1r (l m : List R4) (hl : l.length ≤ 10000) (hm : m.length ≤ 10000) : ∀ (k i : Nat) (out : List Int), i + k = l.length → out.length = 2 * i → ∃ N, Yx (z0r l m) N (.to (.h0 out (i : Int))) = .ret [.dat (z0p (out ++ z0n (l.drop i) ++ z0n m)).length (Zz (z0p (out ++ z0n (l.drop i) ++ z0n m)))]
 | 0, i, out, h, ho => by
  obtain ⟨N, hN⟩ := v1q l m hl hm m.length 0 out (Nat.zero_add _) (by omega)
  refine ⟨N + 1, ?_⟩
  rw [Zv, List.drop_eq_nil_of_le (show l.length ≤ i by omega), show z0n [] = [] from rfl, List.append_nil]
  simp (disch := omega) only [z0r, Xw, Yn, Zo, Zt, Xp, Yu, Yz, Yk, Zr, Zj, Zf, Qz, Qy, decide_true, Zx, Zd, Zi, Ya, Zk, Nat.zero_add, Bool.and_true, Bool.true_and, cond_true, cond_false, Bool.not_true, Bool.not_false, Zm, Zb, Zq, Ws, Xj]
  exact hN
 | k + 1, i, out, h, ho => by
  obtain ⟨N, hN⟩ := v1r l m hl hm k (i + 1) (out ++ z0n [rd l i]) (by omega) (by rw [List.length_append, Qq]; simp; omega)
  refine ⟨N + 1, ?_⟩
  rw [y2n l i (by omega), ← List.append_assoc, Zv]
  simp (disch := omega) only [z0r, Xw, Yn, Zo, Zt, Xp, Yu, Yz, Yk, Zr, Zj, Zf, Qz, Qy, decide_true, Zx, Zd, Zi, Ya, Zk, Nat.zero_add, Bool.and_true, Bool.true_and, cond_true, cond_false, Bool.not_true, Bool.not_false, Zm, Zb, Zq, Ws, Xj]
  exact hN
theorem v5w (l m : List R4) (h : z8k l m = true) : ∃ N, Yx (z0r l m) N (z8u l m) = .ret [.dat (ysV l m).length (Zz (ysV l m))] := by
 obtain ⟨h1, h2⟩ := of_decide_eq_true h
 have := v1r l m h1 h2 l.length 0 [] (Nat.zero_add _) rfl
 simpa [z8u, ysV] using this
def Yo (l m : List R6) : List Int := z0p (z1p l ++ z1p m)
def z5z (l m : List R6) : Bool := decide (l.length ≤ 10000 ∧ m.length ≤ 10000)
theorem Qk (l : List R6) : (z1p l).length = 2 * l.length := by
 induction l with
 | nil => rfl
 | cons r l ih => show (_ :: _ :: z1p l).length = _; simp only [List.length_cons, ih]; omega
theorem y2k (l : List R6) (i : Nat) (h : i < l.length) : z1p (l.drop i) = z1p [rd l i] ++ z1p (l.drop (i + 1)) := by
 rw [Ye h]; rfl
theorem w1q (l m : List R6) (hl : l.length ≤ 10000) (hm : m.length ≤ 10000) : ∀ (k i : Nat) (out : List Int), i + k = m.length → out.length = 2 * l.length + 2 * i → ∃ N, Yx (Ky l m) N (.to (.h1 out (i : Int))) = .ret [.dat (z0p (out ++ z1p (m.drop i))).length (Zz (z0p (out ++ z1p (m.drop i))))]
 | 0, i, out, h, ho => by
  refine ⟨1, ?_⟩
  have hw : Je out = true := decide_eq_true (by omega)
  rw [Zv, List.drop_eq_nil_of_le (show m.length ≤ i by omega), show z1p [] = [] from rfl, List.append_nil]
  simp (disch := omega) only [Ky, Xw, Yn, Zo, Zt, Xp, Yu, Yz, Yk, Zr, Zj, Zf, Qz, Qy, decide_true, Zx, Zd, Zi, Ya, Zk, Nat.zero_add, Bool.and_true, Bool.true_and, cond_true, cond_false, Bool.not_true, Bool.not_false, Zm, Zb, Zq, Ws, Xj, hw]
 | k + 1, i, out, h, ho => by
  obtain ⟨N, hN⟩ := w1q l m hl hm k (i + 1) (out ++ z1p [rd m i]) (by omega) (by rw [List.length_append, Qk]; simp; omega)
  refine ⟨N + 1, ?_⟩
  rw [y2k m i (by omega), ← List.append_assoc, Zv]
  simp (disch := omega) only [Ky, Xw, Yn, Zo, Zt, Xp, Yu, Yz, Yk, Zr, Zj, Zf, Qz, Qy, decide_true, Zx, Zd, Zi, Ya, Zk, Nat.zero_add, Bool.and_true, Bool.true_and, cond_true, cond_false, Bool.not_true, Bool.not_false, Zm, Zb, Zq, Ws, Xj]
  exact hN
theorem w1r (l m : List R6) (hl : l.length ≤ 10000) (hm : m.length ≤ 10000) : ∀ (k i : Nat) (out : List Int), i + k = l.length → out.length = 2 * i → ∃ N, Yx (Ky l m) N (.to (.h0 out (i : Int))) = .ret [.dat (z0p (out ++ z1p (l.drop i) ++ z1p m)).length (Zz (z0p (out ++ z1p (l.drop i) ++ z1p m)))]
 | 0, i, out, h, ho => by
  obtain ⟨N, hN⟩ := w1q l m hl hm m.length 0 out (Nat.zero_add _) (by omega)
  refine ⟨N + 1, ?_⟩
  rw [Zv, List.drop_eq_nil_of_le (show l.length ≤ i by omega), show z1p [] = [] from rfl, List.append_nil]
  simp (disch := omega) only [Ky, Xw, Yn, Zo, Zt, Xp, Yu, Yz, Yk, Zr, Zj, Zf, Qz, Qy, decide_true, Zx, Zd, Zi, Ya, Zk, Nat.zero_add, Bool.and_true, Bool.true_and, cond_true, cond_false, Bool.not_true, Bool.not_false, Zm, Zb, Zq, Ws, Xj]
  exact hN
 | k + 1, i, out, h, ho => by
  obtain ⟨N, hN⟩ := w1r l m hl hm k (i + 1) (out ++ z1p [rd l i]) (by omega) (by rw [List.length_append, Qk]; simp; omega)
  refine ⟨N + 1, ?_⟩
  rw [y2k l i (by omega), ← List.append_assoc, Zv]
  simp (disch := omega) only [Ky, Xw, Yn, Zo, Zt, Xp, Yu, Yz, Yk, Zr, Zj, Zf, Qz, Qy, decide_true, Zx, Zd, Zi, Ya, Zk, Nat.zero_add, Bool.and_true, Bool.true_and, cond_true, cond_false, Bool.not_true, Bool.not_false, Zm, Zb, Zq, Ws, Xj]
  exact hN
theorem w6y (l m : List R6) (h : z5z l m = true) : ∃ N, Yx (Ky l m) N (z4w l m) = .ret [.dat (Yo l m).length (Zz (Yo l m))] := by
 obtain ⟨h1, h2⟩ := of_decide_eq_true h
 have := w1r l m h1 h2 l.length 0 [] (Nat.zero_add _) rfl
 simpa [z4w, Yo] using this
def fXs : List AVal → Option (AVal × Bool)
 | [a0, a1] => match asL R4 a0, asL R4 a1 with
  | some (L0, g0, n0), some (L1, g1, n1) => some (.dat (xsV L0 L1).length (Zz (xsV L0 L1)), isT R4 n0 g0 && (isT R4 n1 g1 && (z8l L0 L1)))
  | _, _ => none
 | _ => none
theorem fXs_ok {S : Specs} (hS : Zu prog S) : Zu prog (S.with nXs fXs) := by
 refine z0z hS (by kernel_rfl) fun args v h => ?_
 unfold fXs at h
 split at h
 ·rename_i a0 a1
  split at h
  ·rename_i L0 g0 n0 L1 g1 n1 e0 e1
   simp only [Option.some.injEq, Prod.mk.injEq, Bool.and_eq_true] at h
   obtain ⟨rfl, ho0, ho1, hw⟩ := h
   obtain ⟨N, hN⟩ := v5x L0 L1 hw
   exact ⟨_, _, (.cons (asL_le e0 ho0) (.cons (asL_le e1 ho1) .nil)), rfl, w6i L0 L1 N _ hN, 3, rfl⟩
  ·cases h
 ·cases h
def fYs : List AVal → Option (AVal × Bool)
 | [a0, a1] => match asL R4 a0, asL R4 a1 with
  | some (L0, g0, n0), some (L1, g1, n1) => some (.dat (ysV L0 L1).length (Zz (ysV L0 L1)), isT R4 n0 g0 && (isT R4 n1 g1 && (z8k L0 L1)))
  | _, _ => none
 | _ => none
theorem fYs_ok {S : Specs} (hS : Zu prog S) : Zu prog (S.with nYs fYs) := by
 refine z0z hS (by kernel_rfl) fun args v h => ?_
 unfold fYs at h
 split at h
 ·rename_i a0 a1
  split at h
  ·rename_i L0 g0 n0 L1 g1 n1 e0 e1
   simp only [Option.some.injEq, Prod.mk.injEq, Bool.and_eq_true] at h
   obtain ⟨rfl, ho0, ho1, hw⟩ := h
   obtain ⟨N, hN⟩ := v5w L0 L1 hw
   exact ⟨_, _, (.cons (asL_le e0 ho0) (.cons (asL_le e1 ho1) .nil)), rfl, w6h L0 L1 N _ hN, 3, rfl⟩
  ·cases h
 ·cases h
def v9m : List AVal → Option (AVal × Bool)
 | [a0, a1] => match asL R6 a0, asL R6 a1 with
  | some (L0, g0, n0), some (L1, g1, n1) => some (.dat (Yo L0 L1).length (Zz (Yo L0 L1)), isT R6 n0 g0 && (isT R6 n1 g1 && (z5z L0 L1)))
  | _, _ => none
 | _ => none
theorem w9f {S : Specs} (hS : Zu prog S) : Zu prog (S.with nCuts v9m) := by
 refine z0z hS (by kernel_rfl) fun args v h => ?_
 unfold v9m at h
 split at h
 ·rename_i a0 a1
  split at h
  ·rename_i L0 g0 n0 L1 g1 n1 e0 e1
   simp only [Option.some.injEq, Prod.mk.injEq, Bool.and_eq_true] at h
   obtain ⟨rfl, ho0, ho1, hw⟩ := h
   obtain ⟨N, hN⟩ := w6y L0 L1 hw
   exact ⟨_, _, (.cons (asL_le e0 ho0) (.cons (asL_le e1 ho1) .nil)), rfl, w1s L0 L1 N _ hN, 3, rfl⟩
  ·cases h
 ·cases h
def T2 : Specs := ((T1.with nXs fXs).with nYs fYs).with nCuts v9m
theorem z7h : Zu prog T2 := w9f (fYs_ok (fXs_ok z1k))
end Go.Am
namespace Go.Am
open Go.Proofs.Tryz
open Go.Proofs
inductive rjoS where
 | h0 (v9 : List R4) (v10 : List R2) (v11 : Int) (v12 : Int)
 | h1 (v9 : List R4) (v10 : List R2) (v11 : Int) (v12 : Int) (v13 : List Bool) (v14 : Int)
 | h2 (v9 : List R4) (v10 : List R2) (v11 : Int) (v12 : Int) (v15 : List R2) (v17 : Int)
 | h3 (v9 : List R4) (v10 : List R2) (v11 : Int) (v12 : Int) (v16 : Int)
def rjoC (x0 : Int) (l1 : List R4) (l2 : List R4) : rjoS → Cfg
 | .h0 v9 v10 v11 v12 => ⟨⟨121, 0, true⟩, none, (Zg prog 115 [1, 1, 1, 1, 1, 0, 1, 0, 0] 0), none, (Zy prog 4), ⟨Yq [(0, (ii x0)), (1, (.dat l1.length (Zz l1))), (2, (.dat l2.length (Zz l2))), (7, (.dat (xsV (cvT l1) (cvT l2)).length (Zz (xsV (cvT l1) (cvT l2))))), (8, (.dat (ysV (cvT l1) (cvT l2)).length (Zz (ysV (cvT l1) (cvT l2))))), (9, (.sla 0 4 0 v9.length (.un 4))), (10, (.dat v10.length (Zz v10))), (11, (ii v11)), (12, (ii v12))], Va [⟨Yg v9.length (Zz v9), 114, some ⟨4, v9.length, (Zz v9)⟩⟩] 0, 1, [], true⟩, [], .leaf⟩
 | .h1 v9 v10 v11 v12 v13 v14 => ⟨⟨121, 0, true⟩, none, (Zg prog 115 [1, 1, 1, 1, 1, 0, 1, 0, 0, 1, 0, 0, 1, 0, 1, 0, 0] 0), none, (Zy prog 4), ⟨Yq [(0, (ii x0)), (1, (.dat l1.length (Zz l1))), (2, (.dat l2.length (Zz l2))), (7, (.dat (xsV (cvT l1) (cvT l2)).length (Zz (xsV (cvT l1) (cvT l2))))), (8, (.dat (ysV (cvT l1) (cvT l2)).length (Zz (ysV (cvT l1) (cvT l2))))), (9, (.sla 1 4 0 v9.length (.un 4))), (10, (.dat v10.length (Zz v10))), (11, (ii v11)), (12, (ii v12)), (13, (.sla 0 1 0 v13.length (.un 1))), (14, (ii v14))], Va [⟨Yg v13.length (Zz v13), 4, some ⟨1, v13.length, (Zz v13)⟩⟩, ⟨Yg v9.length (Zz v9), 114, some ⟨4, v9.length, (Zz v9)⟩⟩] 0, 2, [], true⟩, [], .leaf⟩
 | .h2 v9 v10 v11 v12 v15 v17 => ⟨⟨121, 0, true⟩, none, (Zg prog 115 [1, 1, 1, 1, 1, 0, 1, 0, 0, 1, 0, 0, 1, 1, 1, 1, 1, 1, 0, 0] 0), none, (Zy prog 4), ⟨Yq [(0, (ii x0)), (1, (.dat l1.length (Zz l1))), (2, (.dat l2.length (Zz l2))), (7, (.dat (xsV (cvT l1) (cvT l2)).length (Zz (xsV (cvT l1) (cvT l2))))), (8, (.dat (ysV (cvT l1) (cvT l2)).length (Zz (ysV (cvT l1) (cvT l2))))), (9, (.sla 0 4 0 v9.length (.un 4))), (10, (.dat v10.length (Zz v10))), (11, (ii v11)), (12, (ii v12)), (15, (.dat v15.length (Zz v15))), (17, (ii v17))], Va [⟨Yg v9.length (Zz v9), 114, some ⟨4, v9.length, (Zz v9)⟩⟩] 0, 1, [], true⟩, [], .leaf⟩
 | .h3 v9 v10 v11 v12 v16 => ⟨⟨121, 0, true⟩, none, (Zg prog 115 [1, 1, 1, 1, 1, 0, 1, 0, 0, 1, 0, 0, 1, 1, 1, 0, 1, 0, 0, 1, 0, 0] 0), none, (Zy prog 4), ⟨Yq [(0, (ii x0)), (1, (.dat l1.length (Zz l1))), (2, (.dat l2.length (Zz l2))), (7, (.dat (xsV (cvT l1) (cvT l2)).length (Zz (xsV (cvT l1) (cvT l2))))), (8, (.dat (ysV (cvT l1) (cvT l2)).length (Zz (ysV (cvT l1) (cvT l2))))), (9, (.sla 0 4 0 v9.length (.un 4))), (10, (.dat v10.length (Zz v10))), (11, (ii v11)), (12, (ii v12)), (16, (ii v16))], Va [⟨Yg v9.length (Zz v9), 114, some ⟨4, v9.length, (Zz v9)⟩⟩] 0, 1, [], true⟩, [], .leaf⟩
def v6m : List (Option (List Nat)) := [some [0, 1, 2, 7, 8, 9, 10, 11, 12]]
def v6o : List (Option (List Nat)) := []
def rjoN1 : List (Option (List Nat)) := [some [0, 1, 2, 7, 8, 9, 10, 11, 12, 13, 14]]
def rjoM1 : List (Option (List Nat)) := []
def v6l : List (Option (List Nat)) := [some [0, 1, 2, 7, 8, 9, 10, 11, 12, 15, 17]]
def v6n : List (Option (List Nat)) := []
def rjoN3 : List (Option (List Nat)) := [some [0, 1, 2, 7, 8, 9, 10, 11, 12, 16]]
def rjoM3 : List (Option (List Nat)) := []
def We (x0 : Int) (l1 : List R4) (l2 : List R4) : rjoS → Xa rjoS
 | .h0 v9 v10 v11 v12 => (bif (decide ((IntKind.wrap .i64 (v12 + 1)) < (((xsV (cvT l1) (cvT l2)).length : Nat) : Int))) then (.to (.h1 v9 v10 v11 v12 ([] : List Bool) 0)) else (.ret [(.dat v9.length (Zz v9))]))
 | .h1 v9 v10 v11 v12 v13 v14 => (bif (decide (v14 < (((ysV (cvT l1) (cvT l2)).length : Nat) : Int))) then (bif (Kg (cvT l1) (rd (xsV (cvT l1) (cvT l2)) v12.toNat) (rd (ysV (cvT l1) (cvT l2)) v14.toNat)) then (bif ((decide (0 ≤ v12 ∧ v12 < (((xsV (cvT l1) (cvT l2)).length : Nat) : Int))) && true) then (bif ((decide (0 ≤ v14 ∧ v14 < (((ysV (cvT l1) (cvT l2)).length : Nat) : Int))) && true) then (bif (Kg (cvT l2) (rd (xsV (cvT l1) (cvT l2)) v12.toNat) (rd (ysV (cvT l1) (cvT l2)) v14.toNat)) then (bif (Nat.beq 1 1 && ((decide (0 + v13.length = v13.length)) && decide ((v13.length + 1 + 1) * (1 + 1) ≤ Ja))) then (.to (.h1 v9 v10 v11 v12 (v13 ++ [(Qe x0 (has4V (cvT l1) (rd (xsV (cvT l1) (cvT l2)) v12.toNat) (rd (ysV (cvT l1) (cvT l2)) v14.toNat)) (has4V (cvT l2) (rd (xsV (cvT l1) (cvT l2)) v12.toNat) (rd (ysV (cvT l1) (cvT l2)) v14.toNat)))]) (IntKind.wrap .i64 (v14 + 1)))) else .stuck) else .stuck) else .stuck) else .stuck) else .stuck) else (bif (z6c (cvT (ysV (cvT l1) (cvT l2))) (cvT v13)) then (bif (decide (v12 > 0)) then (bif (Vz (cvT (z8e (cvT (ysV (cvT l1) (cvT l2))) (cvT v13))) (cvT v10)) then (bif (Jh (cvT (z8e (cvT (ysV (cvT l1) (cvT l2))) (cvT v13))) (cvT v10)) then (.to (.h3 v9 v10 v11 v12 v11)) else (.to (.h2 v9 (z8e (cvT (ysV (cvT l1) (cvT l2))) (cvT v13)) (v9.length : Int) v12 (z8e (cvT (ysV (cvT l1) (cvT l2))) (cvT v13)) 0))) else .stuck) else (.to (.h2 v9 (z8e (cvT (ysV (cvT l1) (cvT l2))) (cvT v13)) (v9.length : Int) v12 (z8e (cvT (ysV (cvT l1) (cvT l2))) (cvT v13)) 0))) else .stuck))
 | .h2 v9 v10 v11 v12 v15 v17 => (bif (decide (v17 < (v15.length : Int))) then (bif ((decide (0 ≤ v12 ∧ v12 < (((xsV (cvT l1) (cvT l2)).length : Nat) : Int))) && true) then (bif ((decide (0 ≤ (IntKind.wrap .i64 (v12 + 1)) ∧ (IntKind.wrap .i64 (v12 + 1)) < (((xsV (cvT l1) (cvT l2)).length : Nat) : Int))) && true) then (bif ((decide (0 ≤ v17 ∧ v17 < (v15.length : Int))) && true) then (bif (Nat.beq 4 4 && ((decide (0 + v9.length = v9.length)) && decide ((v9.length + 1 + 1) * (32 + 1) ≤ Ja))) then (.to (.h2 (v9 ++ [(R4.mk (rd (xsV (cvT l1) (cvT l2)) v12.toNat) (rd v15 v17.toNat).a (rd (xsV (cvT l1) (cvT l2)) (Int.toNat (IntKind.wrap .i64 (v12 + 1)))) (rd v15 v17.toNat).b)]) v10 v11 v12 v15 (IntKind.wrap .i64 (v17 + 1)))) else .stuck) else .stuck) else .stuck) else .stuck) else (.to (.h0 v9 v10 v11 (IntKind.wrap .i64 (v12 + 1)))))
 | .h3 v9 v10 v11 v12 v16 => (bif (decide (v16 < (v9.length : Int))) then (bif ((decide (0 ≤ (IntKind.wrap .i64 (v12 + 1)) ∧ (IntKind.wrap .i64 (v12 + 1)) < (((xsV (cvT l1) (cvT l2)).length : Nat) : Int))) && true) then (bif ((decide (0 ≤ v16 ∧ v16 < (v9.length : Int))) && true) then (bif (decide ((0 + v16.toNat) < v9.length)) then (.to (.h3 (v9.set (0 + v16.toNat) (R4.mk (rd v9 (0 + v16.toNat)).a (rd v9 (0 + v16.toNat)).b (rd (xsV (cvT l1) (cvT l2)) (Int.toNat (IntKind.wrap .i64 (v12 + 1)))) (rd v9 (0 + v16.toNat)).d)) v10 v11 v12 (IntKind.wrap .i64 (v16 + 1)))) else .stuck) else .stuck) else .stuck) else (.to (.h0 v9 v10 v11 (IntKind.wrap .i64 (v12 + 1)))))
def z8z (x0 : Int) (l1 : List R4) (l2 : List R4) : Xa rjoS := (bif (z8l (cvT l1) (cvT l2)) then (bif (z8k (cvT l1) (cvT l2)) then (.to (.h0 ([] : List R4) ([] : List R2) 0 0)) else .stuck) else .stuck)
theorem x6w (x0 : Int) (l1 : List R4) (l2 : List R4) : ∀ s, Xo prog (Zy prog 115) (rjoC x0 l1 l2) (rjoC x0 l1 l2 s) (We x0 l1 l2 s)
 | .h0 v9 v10 v11 v12 => (lb (fun k0 => (sl z7h 24 [(4, 1, Zz ([] : List Bool))] ⟨[1, 0], [], rjoN1, rjoM1⟩ ⟨[(13, .grow 0 1)], [], []⟩ [true] (pp (fl ([] : List Bool) (fl v9 nn)) (tt k0 nn)))) (fun k0 => (lr 121 3 [1, 1, 1, 1, 1, 1, 0] 1 4 [(6, (.dat v9.length (Zz v9)))] (sl z7h 16 [] ⟨[], [0], [some [6]], []⟩ ⟨[(6, .frz v9.length v9.length (Zz v9) (Zz v9))], [], []⟩ [false] (pp (xZ (z5k 4 4 0 v9.length v9.length (Zz v9)) v9.length (Zz v9)) (pp (xL v9.length v9.length) (pp (xS v9.length (Zz v9) (Zz v9)) (pp (fl v9 nn) (tt k0 nn)))))))))
 | .h1 v9 v10 v11 v12 v13 v14 => (lb (fun k0 => (lo fun o0 => (lo fun o1 => (lo fun o2 => (lo fun o3 => (lo fun o4 => (sl z7h 20 [] ⟨[3, 1], [], rjoN1, rjoM1⟩ ⟨[(13, .len (v13 ++ [(Qe x0 (has4V (cvT l1) (rd (xsV (cvT l1) (cvT l2)) (tn v12)) (rd (ysV (cvT l1) (cvT l2)) (tn v14))) (has4V (cvT l2) (rd (xsV (cvT l1) (cvT l2)) (tn v12)) (rd (ysV (cvT l1) (cvT l2)) (tn v14))))]).length)], [.rowed 1 (v13 ++ [(Qe x0 (has4V (cvT l1) (rd (xsV (cvT l1) (cvT l2)) (tn v12)) (rd (ysV (cvT l1) (cvT l2)) (tn v14))) (has4V (cvT l2) (rd (xsV (cvT l1) (cvT l2)) (tn v12)) (rd (ysV (cvT l1) (cvT l2)) (tn v14))))]).length (Zz (v13 ++ [(Qe x0 (has4V (cvT l1) (rd (xsV (cvT l1) (cvT l2)) (tn v12)) (rd (ysV (cvT l1) (cvT l2)) (tn v14))) (has4V (cvT l2) (rd (xsV (cvT l1) (cvT l2)) (tn v12)) (rd (ysV (cvT l1) (cvT l2)) (tn v14))))])), .keep], []⟩ [true] (pp (xL (v13.length + 1) (v13 ++ [(Qe x0 (has4V (cvT l1) (rd (xsV (cvT l1) (cvT l2)) (tn v12)) (rd (ysV (cvT l1) (cvT l2)) (tn v14))) (has4V (cvT l2) (rd (xsV (cvT l1) (cvT l2)) (tn v12)) (rd (ysV (cvT l1) (cvT l2)) (tn v14))))]).length) (pp (xL (v13.length + 1) (v13 ++ [(Qe x0 (has4V (cvT l1) (rd (xsV (cvT l1) (cvT l2)) (tn v12)) (rd (ysV (cvT l1) (cvT l2)) (tn v14))) (has4V (cvT l2) (rd (xsV (cvT l1) (cvT l2)) (tn v12)) (rd (ysV (cvT l1) (cvT l2)) (tn v14))))]).length) (pp (xS (v13.length + 1) (Ze (Zz v13) 0 v13.length 1 [(.bool (Qe x0 (has4V (cvT l1) (rd (xsV (cvT l1) (cvT l2)) (tn v12)) (rd (ysV (cvT l1) (cvT l2)) (tn v14))) (has4V (cvT l2) (rd (xsV (cvT l1) (cvT l2)) (tn v12)) (rd (ysV (cvT l1) (cvT l2)) (tn v14)))))]) (Zz (v13 ++ [(Qe x0 (has4V (cvT l1) (rd (xsV (cvT l1) (cvT l2)) (tn v12)) (rd (ysV (cvT l1) (cvT l2)) (tn v14))) (has4V (cvT l2) (rd (xsV (cvT l1) (cvT l2)) (tn v12)) (rd (ysV (cvT l1) (cvT l2)) (tn v14))))]))) (pp (pp (xF (Ze (Zz v13) 0 v13.length 1 [(.bool (Qe x0 (has4V (cvT l1) (rd (xsV (cvT l1) (cvT l2)) (tn v12)) (rd (ysV (cvT l1) (cvT l2)) (tn v14))) (has4V (cvT l2) (rd (xsV (cvT l1) (cvT l2)) (tn v12)) (rd (ysV (cvT l1) (cvT l2)) (tn v14)))))])) (fl v9 nn)) (ww o4 (pp (pp (xr l2) (xw o3)) (ww o2 (ww o1 (pp (pp (xr l1) (xw o0)) (ww o2 (ww o1 (tt k0 nn))))))))))))))))))) (fun k0 => (Wb (sl z7h (C' := ⟨⟨121, 0, true⟩, (Vu prog 115 [1, 1, 1, 1, 1, 0, 1, 0, 0, 1, 0, 0, 1, 1, 0] 2), (Zg prog 115 [1, 1, 1, 1, 1, 0, 1, 0, 0, 1, 0, 0, 1, 1, 0] 1), none, (Zy prog 4), ⟨Yq [(0, (ii x0)), (1, (.dat l1.length (Zz l1))), (2, (.dat l2.length (Zz l2))), (7, (.dat (xsV (cvT l1) (cvT l2)).length (Zz (xsV (cvT l1) (cvT l2))))), (8, (.dat (ysV (cvT l1) (cvT l2)).length (Zz (ysV (cvT l1) (cvT l2))))), (9, (.sla 0 4 0 v9.length (.un 4))), (10, (.dat v10.length (Zz v10))), (11, (ii v11)), (12, (ii v12)), (62, (.dat (ysV (cvT l1) (cvT l2)).length (Zz (ysV (cvT l1) (cvT l2))))), (63, (.dat v13.length (Zz v13)))], Va [⟨Yg v9.length (Zz v9), 114, some ⟨4, v9.length, (Zz v9)⟩⟩] 0, 1, [], true⟩, [], .leaf⟩) 14 [] ⟨[1], [0], [some [0, 1, 2, 7, 8, 9, 10, 11, 12, 62, 63]], []⟩ ⟨[(63, .frz v13.length v13.length (Zz v13) (Zz v13))], [], []⟩ [false] (pp (xZ (z5k 1 1 0 v13.length v13.length (Zz v13)) v13.length (Zz v13)) (pp (xL v13.length v13.length) (pp (xS v13.length (Zz v13) (Zz v13)) (pp (fl v9 nn) (pp (fl v13 nn) (tt k0 nn))))))) (lo fun aG => (lb (fun k1 => (lo fun cY => (lb (fun k2 => (sl z7h 23 [] ⟨[0], [], rjoN3, rjoM3⟩ ⟨[], [], []⟩ (trs 4 []) (pp (fl v9 nn) (tt k2 (pp (pp (xI R2 (z8e (cvT (ysV (cvT l1) (cvT l2))) (cvT v13)).length (Zz (z8e (cvT (ysV (cvT l1) (cvT l2))) (cvT v13)))) (pp (xr v10) (xw cY))) (tt k1 (pp (pp (xI Int (ysV (cvT l1) (cvT l2)).length (Zz (ysV (cvT l1) (cvT l2)))) (pp (xr v13) (xw aG))) nn))))))) (fun k2 => (sl z7h 30 [] ⟨[0], [], v6l, v6n⟩ ⟨[], [], []⟩ (trs 3 [false]) (pp (fl v9 nn) (tt k2 (pp (pp (xI R2 (z8e (cvT (ysV (cvT l1) (cvT l2))) (cvT v13)).length (Zz (z8e (cvT (ysV (cvT l1) (cvT l2))) (cvT v13)))) (pp (xr v10) (xw cY))) (tt k1 (pp (pp (xI Int (ysV (cvT l1) (cvT l2)).length (Zz (ysV (cvT l1) (cvT l2)))) (pp (xr v13) (xw aG))) nn)))))))))) (fun k1 => (sl z7h 30 [] ⟨[0], [], v6l, v6n⟩ ⟨[], [], []⟩ [false, false, false, false] (pp (fl v9 nn) (tt k1 (pp (pp (xI Int (ysV (cvT l1) (cvT l2)).length (Zz (ysV (cvT l1) (cvT l2)))) (pp (xr v13) (xw aG))) nn))))))))))
 | .h2 v9 v10 v11 v12 v15 v17 => (lb (fun k0 => (lo fun o0 => (lo fun o1 => (lo fun o2 => (lo fun o3 => (sl z7h 20 [] ⟨[2], [], v6l, v6n⟩ ⟨[(9, .len (v9 ++ [(R4.mk (rd (xsV (cvT l1) (cvT l2)) (tn v12)) (rd v15 (tn v17)).a (rd (xsV (cvT l1) (cvT l2)) (tn (wr (v12 + 1)))) (rd v15 (tn v17)).b)]).length)], [.rowed 4 (v9 ++ [(R4.mk (rd (xsV (cvT l1) (cvT l2)) (tn v12)) (rd v15 (tn v17)).a (rd (xsV (cvT l1) (cvT l2)) (tn (wr (v12 + 1)))) (rd v15 (tn v17)).b)]).length (Zz (v9 ++ [(R4.mk (rd (xsV (cvT l1) (cvT l2)) (tn v12)) (rd v15 (tn v17)).a (rd (xsV (cvT l1) (cvT l2)) (tn (wr (v12 + 1)))) (rd v15 (tn v17)).b)]))], []⟩ [true] (pp (xL (v9.length + 1) (v9 ++ [(R4.mk (rd (xsV (cvT l1) (cvT l2)) (tn v12)) (rd v15 (tn v17)).a (rd (xsV (cvT l1) (cvT l2)) (tn (wr (v12 + 1)))) (rd v15 (tn v17)).b)]).length) (pp (xL (v9.length + 1) (v9 ++ [(R4.mk (rd (xsV (cvT l1) (cvT l2)) (tn v12)) (rd v15 (tn v17)).a (rd (xsV (cvT l1) (cvT l2)) (tn (wr (v12 + 1)))) (rd v15 (tn v17)).b)]).length) (pp (xS (v9.length + 1) (Ze (Zz v9) 0 v9.length 4 [(ii (rd (xsV (cvT l1) (cvT l2)) (tn v12))), (ii (rd v15 (tn v17)).a), (ii (rd (xsV (cvT l1) (cvT l2)) (tn (wr (v12 + 1))))), (ii (rd v15 (tn v17)).b)]) (Zz (v9 ++ [(R4.mk (rd (xsV (cvT l1) (cvT l2)) (tn v12)) (rd v15 (tn v17)).a (rd (xsV (cvT l1) (cvT l2)) (tn (wr (v12 + 1)))) (rd v15 (tn v17)).b)]))) (pp (pp (xF (Ze (Zz v9) 0 v9.length 4 [(ii (rd (xsV (cvT l1) (cvT l2)) (tn v12))), (ii (rd v15 (tn v17)).a), (ii (rd (xsV (cvT l1) (cvT l2)) (tn (wr (v12 + 1))))), (ii (rd v15 (tn v17)).b)])) nn) (ww o3 (ww o2 (ww o1 (ww o2 (ww o0 (tt k0 nn)))))))))))))))) (fun k0 => (sl z7h 17 [] ⟨[0], [], v6m, v6o⟩ ⟨[], [], []⟩ [false] (pp (fl v9 nn) (tt k0 nn)))))
 | .h3 v9 v10 v11 v12 v16 => (lb (fun k0 => (lo fun o0 => (lo fun o1 => (lo fun o2 => (sl z7h 31 [] ⟨[0], [], rjoN3, rjoM3⟩ ⟨[(9, .len (v9.set (0 + (tn v16)) (R4.mk (rd v9 (0 + (tn v16))).a (rd v9 (0 + (tn v16))).b (rd (xsV (cvT l1) (cvT l2)) (tn (wr (v12 + 1)))) (rd v9 (0 + (tn v16))).d)).length)], [.rowed 4 (v9.set (0 + (tn v16)) (R4.mk (rd v9 (0 + (tn v16))).a (rd v9 (0 + (tn v16))).b (rd (xsV (cvT l1) (cvT l2)) (tn (wr (v12 + 1)))) (rd v9 (0 + (tn v16))).d)).length (Zz (v9.set (0 + (tn v16)) (R4.mk (rd v9 (0 + (tn v16))).a (rd v9 (0 + (tn v16))).b (rd (xsV (cvT l1) (cvT l2)) (tn (wr (v12 + 1)))) (rd v9 (0 + (tn v16))).d)))], []⟩ [true] (pp (xL v9.length (v9.set (0 + (tn v16)) (R4.mk (rd v9 (0 + (tn v16))).a (rd v9 (0 + (tn v16))).b (rd (xsV (cvT l1) (cvT l2)) (tn (wr (v12 + 1)))) (rd v9 (0 + (tn v16))).d)).length) (pp (xL v9.length (v9.set (0 + (tn v16)) (R4.mk (rd v9 (0 + (tn v16))).a (rd v9 (0 + (tn v16))).b (rd (xsV (cvT l1) (cvT l2)) (tn (wr (v12 + 1)))) (rd v9 (0 + (tn v16))).d)).length) (pp (xS v9.length (Xd (Zz v9) (0 + (tn v16)) 2 [(ii (rd (xsV (cvT l1) (cvT l2)) (tn (wr (v12 + 1)))))]) (Zz (v9.set (0 + (tn v16)) (R4.mk (rd v9 (0 + (tn v16))).a (rd v9 (0 + (tn v16))).b (rd (xsV (cvT l1) (cvT l2)) (tn (wr (v12 + 1)))) (rd v9 (0 + (tn v16))).d)))) (pp (pp (xF (Xd (Zz v9) (0 + (tn v16)) 2 [(ii (rd (xsV (cvT l1) (cvT l2)) (tn (wr (v12 + 1)))))])) nn) (ww o2 (ww o1 (ww o0 (tt k0 nn))))))))))))) (fun k0 => (sl z7h 17 [] ⟨[0], [], v6m, v6o⟩ ⟨[], [], []⟩ [false] (pp (fl v9 nn) (tt k0 nn)))))
theorem x0i (x0 : Int) (l1 : List R4) (l2 : List R4) : Xo prog (Zy prog 115) (rjoC x0 l1 l2) (Zc prog 115 [(.int .i64 x0), (.dat l1.length (Zz l1)), (.dat l2.length (Zz l2))] true []) (z8z x0 l1 l2) := (lo fun o0 => (lo fun o1 => (sl z7h 34 [(114, 4, Zz ([] : List R4))] ⟨[0], [], v6m, v6o⟩ ⟨[(9, .grow 0 4), (10, .list 0 (Zz ([] : List R2)))], [], []⟩ [] (pp (fl ([] : List R4) nn) (pp (pp (xr l1) (pp (xr l2) (xw o1))) (pp (pp (xr l1) (pp (xr l2) (xw o0))) nn))))))
theorem w6s (x0 : Int) (l1 : List R4) (l2 : List R4) (n : Nat) (vs : List AVal) (h : Yx (We x0 l1 l2) n (z8z x0 l1 l2) = .ret vs) : Jc prog (Zy prog 115) (Zc prog 115 [(.int .i64 x0), (.dat l1.length (Zz l1)), (.dat l2.length (Zz l2))] true []) vs := by
 have := Zn (x6w x0 l1 l2) n _ (x0i x0 l1 l2)
 rwa [h] at this
end Go.Am
namespace Go.Am
open Go.Proofs
theorem z0i : ∀ (l out : List Int), (l.foldl y0u out).length ≤ out.length + l.length
 | [], out => Nat.le_refl _
 | x :: l, out => Nat.le_trans (z0i l (y0u out x)) (by have := y0t out x; simp; omega)
theorem z3t (l : List Int) : (z0p l).length ≤ l.length := by
 have := z0i l []
 simpa [z0p] using this
theorem y1n (cuts : List Int) (ins : List Bool) : ∀ (k i : Nat) (out : List R2), (x5p cuts ins k i out).length ≤ out.length + k
 | 0, _, out => Nat.le_refl _
 | k + 1, i, out => by
  unfold x5p
  refine Nat.le_trans (y1n cuts ins k (i + 1) _) ?_
  cases rd ins i
  ·simp only [cond_false]; omega
  ·simp only [cond_true]
   cases (decide (0 < out.length) && ((rd out (out.length - 1)).b == rd cuts i)) <;> simp <;> omega
theorem x3a (cuts : List Int) (ins : List Bool) : (z8e cuts ins).length ≤ cuts.length := by
 have := y1n cuts ins (cuts.length - 1) 0 []
 unfold z8e
 simp only [List.length_nil] at this
 omega
section
variable (kind : Int) (l m : List R4)
def v0m (x : Int) (y : Int) : Bool := Qe kind (has4V l x y) (has4V m x y)
def x3v (x : Int) : List R2 := z8e (ysV l m) ((ysV l m).map (v0m kind l m x))
def w5o (out : List R4) (first : Nat) (x : Int) : List R4 := out.take first ++ (out.drop first).map fun r => ⟨r.a, r.b, x, r.d⟩
def v6y (x x' : Int) (s : List R2) : List R4 := s.map fun p => ⟨x, p.a, x', p.b⟩
def jF : Nat → Nat → List R4 → List R2 → Nat → List R4
 | 0, _, out, _, _ => out
 | k + 1, i, out, last, first =>
  bif decide (0 < i) && Jh (x3v kind l m (rd (xsV l m) i)) last then jF k (i + 1) (w5o out first (rd (xsV l m) (i + 1))) last first
  else jF k (i + 1) (out ++ v6y (rd (xsV l m) i) (rd (xsV l m) (i + 1)) (x3v kind l m (rd (xsV l m) i))) (x3v kind l m (rd (xsV l m) i)) out.length
def joV : List R4 := jF kind l m ((xsV l m).length - 1) 0 [] [] 0
end
def Qd (_ : Int) (l m : List R4) : Bool := decide (l.length ≤ 10000 ∧ m.length ≤ 10000)
theorem Jv (l m : List R4) : (xsV l m).length ≤ 2 * l.length + 2 * m.length := by
 refine Nat.le_trans (z3t _) ?_
 rw [List.length_append, Qp, Qp]; omega
theorem y2l (l m : List R4) : (ysV l m).length ≤ 2 * l.length + 2 * m.length := by
 refine Nat.le_trans (z3t _) ?_
 rw [List.length_append, Qq, Qq]; omega
section
variable (kind : Int) (l m : List R4) (hl : l.length ≤ 10000) (hm : m.length ≤ 10000)
include hl hm
theorem v2g (out : List R4) (last : List R2) (first : Int) (i : Nat) (hi : i + 1 < (xsV l m).length) : ∀ (k j : Nat) (acc : List Bool), j + k = (ysV l m).length → acc.length = j →
  ∃ n, ∀ N, Yx (We kind l m) (N + n) (.to (.h1 out last first (i : Int) acc (j : Int))) = Yx (We kind l m) N (.to (.h1 out last first (i : Int) (acc ++ ((ysV l m).drop j).map (v0m kind l m (rd (xsV l m) i))) ((ysV l m).length : Int)))
 | 0, j, acc, h, ha => by
  refine ⟨0, fun N => ?_⟩
  rw [List.drop_eq_nil_of_le (by omega), List.map_nil, List.append_nil, Nat.add_zero]
  rw [show j = (ysV l m).length by omega]
 | k + 1, j, acc, h, ha => by
  have hx := Jv l m
  have hy := y2l l m
  obtain ⟨n, hn⟩ := v2g out last first i hi k (j + 1) (acc ++ [v0m kind l m (rd (xsV l m) i) (rd (ysV l m) j)]) (by omega) (by simp [ha])
  refine ⟨n + 1, fun N => ?_⟩
  have w1 : ∀ x y, Kg l x y = true := fun x y => decide_eq_true (by omega)
  have w2 : ∀ x y, Kg m x y = true := fun x y => decide_eq_true (by omega)
  rw [Ye (show j < (ysV l m).length by omega), List.map_cons, ← Nat.add_assoc, Zv]
  simp (disch := omega) only [We, Zb, Zq, w1, w2, Zo, Zr, Yz, Yk, Zf, Zj, Zx, Ya, Zk, Nat.zero_add, decide_true, Bool.and_true, Bool.true_and, cond_true]
  have := hn N
  rw [List.append_assoc] at this
  exact this
theorem v2f (last : List R2) (first : Int) (i : Nat) (hi : i + 1 < (xsV l m).length) (s : List R2) (hs : s.length ≤ 1000000) : ∀ (k j : Nat) (out : List R4), j + k = s.length → out.length ≤ 10000000000 + j →
  ∃ n, ∀ N, Yx (We kind l m) (N + n) (.to (.h2 out last first (i : Int) s (j : Int))) = Yx (We kind l m) N (.to (.h0 (out ++ v6y (rd (xsV l m) i) (rd (xsV l m) (i + 1)) (s.drop j)) last first ((i + 1 : Nat) : Int)))
 | 0, j, out, h, ho => by
  have hx := Jv l m
  refine ⟨1, fun N => ?_⟩
  rw [List.drop_eq_nil_of_le (by omega), Zv]
  simp (disch := omega) only [We, Zb, Zq, Zt, Zj, Zx, cond_false, v6y, List.map_nil, List.append_nil]
 | k + 1, j, out, h, ho => by
  have hx := Jv l m
  obtain ⟨n, hn⟩ := v2f last first i hi s hs k (j + 1) (out ++ v6y (rd (xsV l m) i) (rd (xsV l m) (i + 1)) [rd s j]) (by omega) (by simp [v6y]; omega)
  refine ⟨n + 1, fun N => ?_⟩
  have := hn N
  rw [Ye (show j < s.length by omega), ← Nat.add_assoc, Zv]
  simp (disch := omega) only [We, Zb, Zq, Zo, Zr, Yz, Yk, Zf, Zj, Zx, Ya, Zk, Nat.zero_add, decide_true, Bool.and_true, Bool.true_and, cond_true]
  rw [List.append_assoc] at this
  exact this
theorem w9i (out : List R4) (j : Nat) (x : Int) (h : j < out.length) : w5o (out.set j ⟨(rd out j).a, (rd out j).b, x, (rd out j).d⟩) (j + 1) x = w5o out j x := by
 have _uhl := hl
 have _uhm := hm
 unfold w5o
 rw [Ye h, List.map_cons]
 have e1 : (out.set j ⟨(rd out j).a, (rd out j).b, x, (rd out j).d⟩).take (j + 1) = out.take j ++ [⟨(rd out j).a, (rd out j).b, x, (rd out j).d⟩] := by
  apply List.ext_getElem
  ·simp; omega
  ·intro n h1 h2
   simp only [List.getElem_take, List.getElem_set]
   by_cases e : j = n
   ·subst e
    rw [if_pos rfl, List.getElem_append_right (by simp only [List.length_take]; omega)]
    simp
   ·rw [if_neg e, List.getElem_append_left (by simp at h1 ⊢; omega), List.getElem_take]
 have e2 : (out.set j ⟨(rd out j).a, (rd out j).b, x, (rd out j).d⟩).drop (j + 1) = out.drop (j + 1) := by
  rw [List.drop_set]; rw [if_pos (by omega)]
 rw [e1, e2, List.append_assoc]; rfl
theorem v2e (last : List R2) (first : Int) (i : Nat) (hi : i + 1 < (xsV l m).length) : ∀ (k j : Nat) (out : List R4), j + k = out.length → out.length ≤ 10000000000 →
  ∃ n, ∀ N, Yx (We kind l m) (N + n) (.to (.h3 out last first (i : Int) (j : Int))) = Yx (We kind l m) N (.to (.h0 (w5o out j (rd (xsV l m) (i + 1))) last first ((i + 1 : Nat) : Int)))
 | 0, j, out, h, ho => by
  have hx := Jv l m
  refine ⟨1, fun N => ?_⟩
  have e : w5o out j (rd (xsV l m) (i + 1)) = out := by
   unfold w5o; rw [List.drop_eq_nil_of_le (by omega), List.map_nil, List.append_nil, List.take_of_length_le (by omega)]
  rw [e, Zv]
  simp (disch := omega) only [We, Zb, Zq, Zt, Zj, Zx, cond_false]
 | k + 1, j, out, h, ho => by
  have hx := Jv l m
  obtain ⟨n, hn⟩ := v2e last first i hi k (j + 1) (out.set j ⟨(rd out j).a, (rd out j).b, rd (xsV l m) (i + 1), (rd out j).d⟩) (by simp; omega) (by simpa using ho)
  refine ⟨n + 1, fun N => ?_⟩
  have := hn N
  rw [w9i l m hl hm out j _ (by omega)] at this
  rw [← Nat.add_assoc, Zv]
  simp (disch := omega) only [We, Zb, Zq, Zo, Zr, Yu, Yz, Yk, Zf, Zj, Zx, Ya, Zk, Nat.zero_add, decide_true, Bool.and_true, Bool.true_and, cond_true]
  exact this
theorem w1d : ∀ (k i : Nat) (out : List R4) (last : List R2) (first : Nat), k = (xsV l m).length - 1 - i → i ≤ (xsV l m).length → out.length ≤ i * 40000 → last.length ≤ 40000 → first ≤ out.length →
  ∃ n, Yx (We kind l m) n (.to (.h0 out last (first : Int) (i : Int))) = .ret [.dat (jF kind l m k i out last first).length (Zz (jF kind l m k i out last first))]
 | 0, i, out, last, first, h, hi, ho, hla, hf => by
  have hx := Jv l m
  refine ⟨1, ?_⟩
  rw [Zv]
  simp (disch := omega) only [We, Zb, Zq, Zt, Zj, Zx, cond_false, Zm, jF]
 | k + 1, i, out, last, first, h, hi, ho, hla, hf => by
  have hx := Jv l m
  have hy := y2l l m
  have hi1 : i + 1 < (xsV l m).length := by omega
  have hsl : (x3v kind l m (rd (xsV l m) i)).length ≤ 40000 := Nat.le_trans (x3a _ _) (by omega)
  have hbig : i * 40000 ≤ 40000 * 40000 := Nat.mul_le_mul_right _ (by omega)
  obtain ⟨n1, h1⟩ := v2g kind l m hl hm out last first i hi1 (ysV l m).length 0 [] (Nat.zero_add _) rfl
  simp only [List.drop_zero, List.nil_append, z1c] at h1
  have w3 : z6c (ysV l m) ((ysV l m).map (v0m kind l m (rd (xsV l m) i))) = true := decide_eq_true ⟨by omega, by rw [List.length_map]; omega⟩
  have w4 : Vz (z8e (ysV l m) ((ysV l m).map (v0m kind l m (rd (xsV l m) i)))) last = true := decide_eq_true (Nat.le_trans hsl (by omega))
  have hy2 : ((ysV l m).length : Int) = (((ysV l m).length : Nat) : Int) := rfl
  unfold jF
  rcases Yy (decide (0 < i) && Jh (x3v kind l m (rd (xsV l m) i)) last) with q | q
  ·obtain ⟨n3, h3⟩ := v2e kind l m hl hm last first i hi1 (out.length - first) first out (by omega) (by omega)
   obtain ⟨n0, h0⟩ := w1d k (i + 1) (w5o out first (rd (xsV l m) (i + 1))) last first (by omega) (by omega) (by simp [w5o]; omega) hla (by simp [w5o]; omega)
   refine ⟨n0 + n3 + 1 + n1 + 1, ?_⟩
   rw [q, cond_true, Zv]
   simp only [Bool.and_eq_true, decide_eq_true_eq] at q
   have q2 : Jh (z8e (ysV l m) ((ysV l m).map (v0m kind l m (rd (xsV l m) i)))) last = true := q.2
   simp (disch := omega) only [We, Zb, Zq, Zo, Zj, Zx, cond_true]
   have h1' := h1 (n0 + n3 + 1)
   rw [h1', Zv]
   simp (disch := omega) only [We, Zb, Zq, Zt, Yn, q2, w3, w4, cond_true, cond_false]
   rw [h3 n0, h0]
  ·obtain ⟨n2, h2⟩ := v2f kind l m hl hm (x3v kind l m (rd (xsV l m) i)) (out.length : Int) i hi1 (x3v kind l m (rd (xsV l m) i)) (by omega) (x3v kind l m (rd (xsV l m) i)).length 0 out (Nat.zero_add _) (by omega)
   obtain ⟨n0, h0⟩ := w1d k (i + 1) (out ++ v6y (rd (xsV l m) i) (rd (xsV l m) (i + 1)) (x3v kind l m (rd (xsV l m) i))) (x3v kind l m (rd (xsV l m) i)) out.length (by omega) (by omega) (by simp [v6y]; omega) hsl (by simp)
   refine ⟨n0 + n2 + 1 + n1 + 1, ?_⟩
   rw [q, cond_false, Zv]
   simp (disch := omega) only [We, Zb, Zq, Zo, Zj, Zx, cond_true]
   have h1' := h1 (n0 + n2 + 1)
   rw [h1', Zv]
   have h2' := h2 n0
   simp only [List.drop_zero, z1c] at h2'
   by_cases hi0 : 0 < i
   ·rw [decide_eq_true hi0, Bool.true_and] at q
    have q2 : Jh (z8e (ysV l m) ((ysV l m).map (v0m kind l m (rd (xsV l m) i)))) last = false := q
    simp (disch := omega) only [We, Zb, Zq, Zt, Yn, q2, w3, w4, cond_true, cond_false]
    rw [← h0]; exact h2'
   ·simp (disch := omega) only [We, Zb, Zq, Zt, Xw, w3, w4, cond_true, cond_false]
    rw [← h0]; exact h2'
end
theorem v6k (kind : Int) (l m : List R4) (h : Qd kind l m = true) : ∃ N, Yx (We kind l m) N (z8z kind l m) = .ret [.dat (joV kind l m).length (Zz (joV kind l m))] := by
 obtain ⟨hl, hm⟩ := of_decide_eq_true h
 obtain ⟨N, hN⟩ := w1d kind l m hl hm ((xsV l m).length - 1) 0 [] [] 0 rfl (Nat.zero_le _) (Nat.zero_le _) (Nat.zero_le _) (Nat.le_refl _)
 refine ⟨N, ?_⟩
 have w1 : z8l l m = true := decide_eq_true ⟨hl, hm⟩
 have w2 : z8k l m = true := decide_eq_true ⟨hl, hm⟩
 simp only [z8z, Zb, Zq, w1, w2, cond_true]
 exact hN
end Go.Am
namespace Go.Am
open Go.Proofs.Tryz
open Go.Proofs
theorem v8k {P : Program} {S : Specs} (hS : Zu P S) {f : FuncId} {F : List AVal → Option (AVal × Bool)} (hf : (P.funcs[f]?).any (fun fn => fn.body.isSome) = true)
  (hF : ∀ args v, F args = some (v, true) → ∃ bs vs, Wo VLe args bs ∧ (∀ (ρ : Rho) (u : Value), VRel ρ (Ki vs) u → VRel ρ v u) ∧ Jc P (Zy P f) (Zc P f bs true []) vs ∧ ∃ d, pf d (Ki vs) = true) : Zu P (S.with f F) :=
 x5u hS hf fun args v h => by
  obtain ⟨bs, vs, h1, h2, h3, d, h4⟩ := hF args v h
  exact ⟨vs, h2, y8c h1 h3, d, h4⟩
theorem z7m {cs cs' : List AVal} (h : RLe cs cs') (ρ : Rho) (u : Value) (hv : VRel ρ (.tup cs) u) : VRel ρ (.tup cs') u := by
 cases hv with
 | tup _ vs hl hh => exact .tup cs' vs (by rw [← h.len]; exact hl) fun i h1 h2 => h.sound i (by rw [h.len]; exact h1) h1 (hh i (by rw [h.len]; exact h1) h2)
theorem z2f (α : Type) [Yt α] : VLe .nils (.dat ([] : List α).length (Zz ([] : List α))) := .nild _
def fJo : List AVal → Option (AVal × Bool)
 | [.int .i64 x0, a1, a2] => match asL R4 a1, asL R4 a2 with
  | some (L1, g1, n1), some (L2, g2, n2) => some (.dat (joV x0 L1 L2).length (Zz (joV x0 L1 L2)), isT R4 n1 g1 && (isT R4 n2 g2 && (Qd x0 L1 L2)))
  | _, _ => none
 | _ => none
theorem fJo_ok {S : Specs} (hS : Zu prog S) : Zu prog (S.with v3e fJo) := by
 refine z0z hS (by kernel_rfl) fun args v h => ?_
 unfold fJo at h
 split at h
 ·rename_i x0 a1 a2
  split at h
  ·rename_i L1 g1 n1 L2 g2 n2 e1 e2
   simp only [Option.some.injEq, Prod.mk.injEq, Bool.and_eq_true] at h
   obtain ⟨rfl, ho1, ho2, hw⟩ := h
   obtain ⟨N, hN⟩ := v6k x0 L1 L2 hw
   exact ⟨_, _, (.cons (.refl _) (.cons (asL_le e1 ho1) (.cons (asL_le e2 ho2) .nil))), rfl, w6s x0 L1 L2 N _ hN, 3, rfl⟩
  ·cases h
 ·cases h
def T3 : Specs := T2.with v3e fJo
theorem z7g : Zu prog T3 := fJo_ok z7h
end Go.Am
namespace Go.Am
open Go.Proofs Go.Sort
def bnd3 (r : R3) : Bool := decide (-1000000000 ≤ r.a ∧ r.a ≤ 1000000000)
def y6b (l : List R3) : Bool := l.all bnd3
abbrev E3 := { r : R3 // bnd3 r = true }
instance : Inhabited E3 := ⟨⟨⟨0, 0, 0⟩, rfl⟩⟩
def cf3 (x y : E3) : Int := x.1.a - y.1.a
def lt3 (x y : E3) : Bool := decide (cf3 x y < 0)
theorem swo3 : SWO lt3 where
 irrefl x := by unfold lt3 cf3; simp
 trans x y z h1 h2 := by unfold lt3 cf3 at *; simp at *; omega
 ntrans x y z h1 h2 := by unfold lt3 cf3 at *; simp at *; omega
def y6c : (l : List R3) → y6b l = true → List E3
 | [], _ => []
 | r :: l, h => ⟨r, by simp [y6b] at h; exact h.1⟩ :: y6c l (by simp [y6b] at h ⊢; exact h.2)
theorem z9r : ∀ (l : List R3) (h : y6b l = true), (y6c l h).map Subtype.val = l
 | [], _ => rfl
 | r :: l, h => by rw [y6c, List.map_cons, z9r l]
theorem Jm (l : List R3) (h : y6b l = true) : (y6c l h).length = l.length := by
 have := congrArg List.length (z9r l h)
 simpa using this
def z4j (l : List R3) : List R3 := if h : y6b l = true then (pdq lt3 (y6c l h).toArray 0 l.length (Lib.bitLen l.length) true true).toList.map Subtype.val else l
theorem Qt (l : List R3) (h : y6b l = true) : (z4j l).Perm l ∧ ∀ i j, i < j → j < (z4j l).length → (rd (z4j l) i).a ≤ (rd (z4j l) j).a := by
 have hp := pdq_sorts lt3 swo3 (y6c l h).toArray 0 l.length (Lib.bitLen l.length) true true (Nat.zero_le _) (by simp [Jm]) (Or.inl rfl)
 obtain ⟨⟨h1, h2, h3⟩, h4⟩ := hp
 have e : z4j l = (pdq lt3 (y6c l h).toArray 0 l.length (Lib.bitLen l.length) true true).toList.map Subtype.val := by unfold z4j; rw [dif_pos h]
 generalize pdq lt3 (y6c l h).toArray 0 l.length (Lib.bitLen l.length) true true = d at *
 have hs : d.size = l.length := by rw [h1]; simp [Jm]
 constructor
 ·rw [e]
  have x1 : (d.extract 0 l.length).toList = d.toList := by rw [← hs]; simp
  have x2 : ((y6c l h).toArray.extract 0 l.length).toList = y6c l h := by
   rw [show l.length = (y6c l h).toArray.size by simp [Jm]]; simp
  rw [x1, x2] at h3
  have := h3.map Subtype.val
  rw [z9r] at this
  exact this
 ·intro i j hij hj
  rw [e] at hj ⊢
  have hj' : j < d.size := by simpa using hj
  have := h4 i j (Nat.zero_le _) hij (by omega)
  rw [getElem!_pos d i (by omega), getElem!_pos d j hj'] at this
  rw [Xq (by simp; omega), Xq hj]
  simp only [List.getElem_map, Array.getElem_toList]
  unfold lt3 cf3 at this
  have := of_decide_eq_false this
  omega
end Go.Am
end
