/- The machine with its stack: the relations between its frames and records and the real ones. -/
import Derived.Test.YtdojgffcahimjaaAmR
namespace Go.Am
set_option linter.unusedVariables false

section
variable {P : Program}

/-! ### Objects of the machine's own -/
/-- An object that no block lies in, and that may change. -/
def Sp (ρ : Rho) (w : World) (r : Nat) : Prop := r < w.heap.size ∧ ρ.fz r = none ∧ ∀ b l, ρ b = some l → l.blk ≠ r

theorem Sp.ev {ρ ρ' : Rho} {floor : Nat} {m m' : Mem} {n n' : Nat} {w w' : World} (he : Ev ρ ρ' floor m n m' n' w w') {r : Nat} (hs : Sp ρ w r) : Sp ρ' w' r ∧ w'.heap[r]? = w.heap[r]? := by
  obtain ⟨h1, h2, h3⟩ := hs
  refine ⟨⟨Nat.lt_of_lt_of_le h1 he.size, by rw [he.still r h1]; exact h2, fun b l hl => ?_⟩, ?_⟩
  · by_cases hb : b < n
    · rw [he.new b hb] at hl; exact h3 b l hl
    · rcases he.fresh b l (by omega) hl with h | ⟨b0, l0, e0, _, g0⟩
      · omega
      · rw [← g0]; exact h3 b0 l0 e0
  · have : w.heap[r]? = some w.heap[r] := by simp [h1]
    rw [this]
    exact he.frame r _ this fun b l hl _ => h3 b l hl

/-- Some objects have turned, and nothing else. -/
structure Turned (m : List Nat) (w w' : World) : Prop where
  size : w'.heap.size = w.heap.size
  other : ∀ k, k ∉ m → w'.heap[k]? = w.heap[k]?
  os : w'.os = w.os
  tape : w'.tape = w.tape
  output : w'.output = w.output

theorem Turned.refl (m : List Nat) (w : World) : Turned m w w := ⟨rfl, fun _ _ => rfl, rfl, rfl, rfl⟩
theorem Turned.put (w : World) (r : Nat) (o : Obj) : Turned [r] w (w.putObj r o) := ⟨World.putObj_size, fun k hk => World.putObj_heap_other (by simpa using hk), rfl, rfl, rfl⟩
theorem Turned.trans {m m' : List Nat} {a b c : World} (h : Turned m a b) (k : Turned m' b c) : Turned (m ++ m') a c :=
  ⟨k.size.trans h.size, fun i hi => by simp only [List.mem_append, not_or] at hi; exact (k.other i hi.2).trans (h.other i hi.1), k.os.trans h.os, k.tape.trans h.tape, k.output.trans h.output⟩

theorem Rel.turned {ρ : Rho} {mem : Mem} {next : Nat} {w w' : World} (h : Rel ρ mem next w) {m : List Nat} (hm : ∀ r ∈ m, Sp ρ w r) (ht : Turned m w w') : Rel ρ mem next w' :=
  ⟨h.dom, h.inj, fun b l ab e g => (h.blk b l ab e g).world (Rho.le_refl ρ) (ht.other _ fun hr => (hm _ hr).2.2 b l e rfl), fun k o e => by
    rw [ht.other k fun hr => by rw [(hm _ hr).2.1] at e; cases e]; exact h.old k o e,
   h.sep, fun b l e => by rw [ht.size]; exact h.real b l e, h.bd, h.ldom⟩

theorem Ev.turned {ρ0 ρ : Rho} {floor : Nat} {m0 mem : Mem} {n0 next : Nat} {w0 w w' : World} (h : Ev ρ0 ρ floor m0 n0 mem next w0 w) {m : List Nat} (hm : ∀ r ∈ m, w0.heap.size ≤ r) (ht : Turned m w w') : Ev ρ0 ρ floor m0 n0 mem next w0 w' :=
  ⟨h.ext, h.new, h.nxt, h.unborn, fun k o hk hf => by
    have hlt : k < w0.heap.size := (Array.getElem?_eq_some_iff.1 hk).1
    rw [ht.other k fun hr => by have := hm k hr; omega]
    exact h.frame k o hk hf, h.fresh, by rw [ht.size]; exact h.size, ht.os.trans h.os, ht.tape.trans h.tape, ht.output.trans h.output, h.still⟩

theorem Sp.turned {ρ : Rho} {w w' : World} {r : Nat} (h : Sp ρ w r) {m : List Nat} (ht : Turned m w w') : Sp ρ w' r := ⟨by rw [ht.size]; exact h.1, h.2.1, h.2.2⟩

theorem Rel.grow {ρ : Rho} {mem : Mem} {next : Nat} {w : World} (h : Rel ρ mem next w) (o : Obj) : Rel ρ mem next (w.alloc o) := by
  have same : ∀ k, k < w.heap.size → (w.alloc o).heap[k]? = w.heap[k]? := fun k hk => by
    show (w.heap.push o)[k]? = _
    simp [Array.getElem?_push, Nat.ne_of_lt hk]
  exact ⟨h.dom, h.inj, fun b l ab e g => (h.blk b l ab e g).world (Rho.le_refl ρ) (same _ (h.real b l e)), fun k ob e => by
    have := h.old k ob e
    rw [same k (Array.getElem?_eq_some_iff.1 this).1]; exact this, h.sep, fun b l e => by
    have := h.real b l e
    show l.blk < (w.heap.push o).size
    simp; omega, h.bd, h.ldom⟩

theorem Ev.grow {ρ0 ρ : Rho} {floor : Nat} {m0 mem : Mem} {n0 next : Nat} {w0 w : World} (h : Ev ρ0 ρ floor m0 n0 mem next w0 w) (o : Obj) : Ev ρ0 ρ floor m0 n0 mem next w0 (w.alloc o) :=
  ⟨h.ext, h.new, h.nxt, h.unborn, fun k ob hk hf => by
    have := h.frame k ob hk hf
    have hlt := (Array.getElem?_eq_some_iff.1 this).1
    show (w.heap.push o)[k]? = _
    simp only [Array.getElem?_push, Nat.ne_of_lt hlt, if_false]; exact this, h.fresh, by
    have := h.size
    show _ ≤ (w.heap.push o).size
    simp; omega, h.os, h.tape, h.output, h.still⟩

theorem Sp.grow {ρ : Rho} {w : World} {r : Nat} (h : Sp ρ w r) (o : Obj) : Sp ρ (w.alloc o) r ∧ (w.alloc o).heap[r]? = w.heap[r]? := by
  refine ⟨⟨?_, h.2.1, h.2.2⟩, ?_⟩
  · have := h.1
    show r < (w.heap.push o).size
    simp; omega
  · show (w.heap.push o)[r]? = _
    simp [Array.getElem?_push, Nat.ne_of_lt h.1]

theorem Sp.fresh {ρ : Rho} {mem : Mem} {next : Nat} {w : World} (h : Rel ρ mem next w) (o : Obj) : Sp ρ (w.alloc o) w.heap.size :=
  ⟨by show _ < (w.heap.push o).size; simp, h.hold _ (Nat.le_refl _), fun b l e => Nat.ne_of_lt (h.real b l e)⟩

/-- A loop's number. -/
def lpAdd (ρ : Rho) (j l : Nat) : Rho := ⟨ρ.f, ρ.fz, fun k => if k = j then some l else ρ.lp k⟩

theorem Rel.lp_none {ρ : Rho} {mem : Mem} {next : Nat} {w : World} (h : Rel ρ mem next w) : ρ.lp next = none := by
  cases e : ρ.lp next with
  | none => rfl
  | some l => exact absurd (h.ldom _ _ e) (Nat.lt_irrefl _)

theorem lpAdd_le {ρ : Rho} {j l : Nat} (h : ρ.lp j = none) : ρ.le (lpAdd ρ j l) := ⟨fun _ _ e => e, fun _ _ e => e, fun k l' e => by
  show (if k = j then some l else ρ.lp k) = some l'
  by_cases hk : k = j
  · subst hk; rw [h] at e; cases e
  · rw [if_neg hk]; exact e⟩

theorem Rel.lpAdd {ρ : Rho} {mem : Mem} {next : Nat} {w : World} (h : Rel ρ mem next w) (l : Nat) : Rel (lpAdd ρ next l) mem (next + 1) w :=
  ⟨fun b l' e => Nat.lt_succ_of_lt (h.dom b l' e), h.inj, fun b l' ab e g => (h.blk b l' ab e g).world (lpAdd_le h.lp_none) rfl, h.old, h.sep, h.real, fun b hb => h.bd b (by omega), fun j l' e => by
    have e : (if j = next then some l else ρ.lp j) = some l' := e
    by_cases hj : j = next
    · omega
    · rw [if_neg hj] at e; exact Nat.lt_succ_of_lt (h.ldom j l' e)⟩

theorem Ev.lpAdd {ρ0 ρ : Rho} {floor : Nat} {m0 mem : Mem} {n0 next : Nat} {w0 w : World} (h : Ev ρ0 ρ floor m0 n0 mem next w0 w) (hr : Rel ρ mem next w) (l : Nat) : Ev ρ0 (lpAdd ρ next l) floor m0 n0 mem (next + 1) w0 w :=
  ⟨Rho.le_trans h.ext (lpAdd_le hr.lp_none), h.new, Nat.le_succ_of_le h.nxt, h.unborn, h.frame, h.fresh, h.size, h.os, h.tape, h.output, h.still⟩

/-! ### What is still to do -/
inductive IRel (ρ : Rho) : Item → Item → Prop
  | same (x : Item) (h : plainItem x = true) : IRel ρ x x
  | inR (j l : Nat) (h : ρ.lp j = some l) : IRel ρ (.inRangeFunc j) (.inRangeFunc l)
  | endR (j l : Nat) (h : ρ.lp j = some l) : IRel ρ (.endRangeFunc j) (.endRangeFunc l)

abbrev TRel (ρ : Rho) : List Item → List Item → Prop := All2 (IRel ρ)

theorem All2.mono {α β : Type} {R R' : α → β → Prop} (hr : ∀ a b, R a b → R' a b) {l : List α} {m : List β} (h : All2 R l m) : All2 R' l m := by
  induction h with
  | nil => exact .nil
  | cons h _ ih => exact .cons (hr _ _ h) ih

theorem IRel.mono {ρ ρ' : Rho} (h : ρ.le ρ') {x y : Item} (hx : IRel ρ x y) : IRel ρ' x y := by
  cases hx with
  | same x hx => exact .same x hx
  | inR j l e => exact .inR j l (h.2.2 _ _ e)
  | endR j l e => exact .endR j l (h.2.2 _ _ e)

theorem TRel.exit {ρ : Rho} {k k' : List Item} (h : TRel ρ k k') (id : Nat) : (∀ r, exitTo id k = some r → ∃ r', exitTo id k' = some r' ∧ TRel ρ r r') ∧ (exitTo id k = none → exitTo id k' = none) := by
  induction h with
  | nil => exact ⟨fun r e => (by cases e), fun _ => rfl⟩
  | @cons x y l m hx t ih =>
    cases hx with
    | same x hx =>
      cases x with
      | inBlock id' =>
        unfold exitTo
        by_cases he : (id' == id) = true
        · rw [if_pos he, if_pos he]
          exact ⟨fun r e => ⟨m, rfl, by obtain rfl := Option.some.inj e; exact t⟩, fun e => by cases e⟩
        · rw [if_neg he, if_neg he]; exact ih
      | code _ => exact ih
      | inLoop _ => exact ih
      | inScope _ => exact ih
      | beginRound => exact ih
      | inRegion _ _ => cases hx
      | inRangeFunc _ => cases hx
      | endRangeFunc _ => cases hx
      | call _ _ _ _ => cases hx
      | extern _ _ => cases hx
    | inR j l e => exact ih
    | endR j l e => exact ih

/-! ### Frames -/
def mark (r : Nat) : Deferred := { target := .collected r, args := #[] }
def roItems (ro : Option RegOps) (k : List Item) : List Item := match ro with
  | none => k
  | some (ops, i, _) => .inRegion ops ((List.range ops.size).drop i) :: k
def roOk : Option RegOps → Prop
  | none => True
  | some (ops, i, l) => l = ops.toList.drop i ∧ noDefer ops = true

/-- A frame, and the loop that it is a round of. -/
structure FRel (ρ : Rho) (cx : Ctx) (ro : Option RegOps) (todo : List Item) (rnd : Option Nat) (env : T AVal) (b : Frame) (a : Act) (k : List Item) (ms : List Nat) : Prop where
  env : EnvRel ρ env cx.n a.tmps
  defers : a.defers = ms.map mark
  todo : TRel ρ todo k
  ro : roOk ro
  rnd : match rnd with
    | none => b.roundOf = none
    | some j => ms = [] ∧ ∃ l, ρ.lp j = some l ∧ b.roundOf = some l

theorem FRel.mono {ρ ρ' : Rho} (h : ρ.le ρ') {cx : Ctx} {ro : Option RegOps} {todo : List Item} {rnd : Option Nat} {env : T AVal} {b : Frame} {a : Act} {k : List Item} {ms : List Nat} (hf : FRel ρ cx ro todo rnd env b a k ms) : FRel ρ' cx ro todo rnd env b a k ms :=
  ⟨hf.env.mono h, hf.defers, hf.todo.mono fun _ _ => IRel.mono h, hf.ro, by
    have := hf.rnd
    cases rnd with
    | none => exact this
    | some j => obtain ⟨h0, l, h1, h2⟩ := this; exact ⟨h0, l, h.2.2 _ _ h1, h2⟩⟩

/-- A frame that is not the last one can be left. -/
def Leaves (P : Program) (rnd : Option Nat) (rs : List ResultVar) (b : Frame) : Prop := b.kind = .normal ∧ (rnd = none → ∃ fn, P.funcs[b.fn]? = some fn ∧ fn.results.toList = rs)

/-- It waits for a value. -/
def Waits (ro : Option RegOps) (todo : List Item) : Prop := (∃ ops i o l, ro = some (ops, i, o :: l)) ∨ (ro = none ∧ ∃ j k, todo = .inRangeFunc j :: k)

inductive CRel (P : Program) (ρ : Rho) : List AFr → List Frame → List Nat → Prop
  | nil : CRel P ρ [] [] []
  | cons {af : AFr} {b : Frame} {a : Act} {k : List Item} {ms : List Nat} {cs : List AFr} {css : List Frame} {mss : List Nat} (h : FRel ρ af.cx af.ro af.todo af.rnd af.env b a k ms)
      (hl : cs ≠ [] → Leaves P af.rnd af.rs b) (t : CRel P ρ cs css mss) : CRel P ρ (af :: cs) (b.atR a (roItems af.ro k) :: css) (ms ++ mss)

theorem CRel.mono {ρ ρ' : Rho} (h : ρ.le ρ') {cs : List AFr} {css : List Frame} {mss : List Nat} (hc : CRel P ρ cs css mss) : CRel P ρ' cs css mss := by
  induction hc with
  | nil => exact .nil
  | cons hf hl t ih => exact .cons (hf.mono h) hl ih

/-! ### Records -/
structure LoopAt (base : Nat) (ρ : Rho) (w : World) (j : Nat) (L : ALoop) (l : Nat) : Prop where
  lp : ρ.lp j = some l
  low : base ≤ l
  sp : Sp ρ w l
  obj : ∃ tmps fn d, w.heap[l]? = some (.loop ⟨L.st, L.pend, fn, tmps, L.params.toArray, L.assign, L.body, d⟩) ∧ EnvRel ρ L.env L.n tmps

/-- All but the frame that runs, and memory. -/
structure Rest (P : Program) (base : Nat) (ρ : Rho) (cs : List AFr) (lps : Loops) (css : List Frame) (w : World) (m0 m1 : List Nat) : Prop where
  cs : CRel P ρ cs css m1
  nodup : (m0 ++ m1).Nodup
  marks : ∀ r ∈ m0 ++ m1, base ≤ r ∧ Sp ρ w r ∧ w.heap[r]? = some (.deferred (some []))
  loops : ∀ j L, lget lps j = some L → ∃ l, LoopAt base ρ w j L l
  inj : ∀ j j' L L' l, lget lps j = some L → lget lps j' = some L' → ρ.lp j = some l → ρ.lp j' = some l → j = j'

theorem LoopAt.ev {base : Nat} {ρ ρ' : Rho} {floor : Nat} {m m' : Mem} {n n' : Nat} {w w' : World} (he : Ev ρ ρ' floor m n m' n' w w') {j : Nat} {L : ALoop} {l : Nat} (h : LoopAt base ρ w j L l) : LoopAt base ρ' w' j L l := by
  obtain ⟨h1, h2, h3, tmps, fn, d, h4, h5⟩ := h
  obtain ⟨s1, s2⟩ := h3.ev he
  exact ⟨he.ext.2.2 _ _ h1, h2, s1, tmps, fn, d, by rw [s2]; exact h4, h5.mono he.ext⟩

theorem Rest.ev {base : Nat} {ρ ρ' : Rho} {floor : Nat} {m m' : Mem} {n n' : Nat} {w w' : World} (he : Ev ρ ρ' floor m n m' n' w w') {cs : List AFr} {lps : Loops} {css : List Frame} {m0 m1 : List Nat} (h : Rest P base ρ cs lps css w m0 m1) : Rest P base ρ' cs lps css w' m0 m1 := by
  refine ⟨h.cs.mono he.ext, h.nodup, fun r hr => ?_, fun j L hL => ?_, fun j j' L L' l hL hL' e e' => ?_⟩
  · obtain ⟨h1, h2, h3⟩ := h.marks r hr
    obtain ⟨s1, s2⟩ := h2.ev he
    exact ⟨h1, s1, by rw [s2]; exact h3⟩
  · obtain ⟨l, hl⟩ := h.loops j L hL
    exact ⟨l, hl.ev he⟩
  · obtain ⟨l1, hl1⟩ := h.loops j L hL
    obtain ⟨l2, hl2⟩ := h.loops j' L' hL'
    have e1 := he.ext.2.2 _ _ hl1.lp
    have e2 := he.ext.2.2 _ _ hl2.lp
    rw [e] at e1; rw [e'] at e2
    obtain rfl := Option.some.inj e1
    obtain rfl := Option.some.inj e2
    exact h.inj j j' L L' l hL hL' hl1.lp hl2.lp

/-- Objects that are none of the frames' marks and none of the records turn. -/
theorem Rest.turned {base : Nat} {ρ : Rho} {w w' : World} {cs : List AFr} {lps : Loops} {css : List Frame} {m0 m0' m1 : List Nat} (h : Rest P base ρ cs lps css w m0 m1) {m : List Nat} (ht : Turned m w w') (hsub : m0'.Sublist m0) (hm : ∀ r ∈ m, r ∉ m0' ++ m1) (hl : ∀ r ∈ m, ∃ ds, w.heap[r]? = some (.deferred ds)) :
    Rest P base ρ cs lps css w' m0' m1 := by
  refine ⟨h.cs, h.nodup.sublist (hsub.append (List.Sublist.refl _)), fun r hr => ?_, fun j L hL => ?_, h.inj⟩
  · obtain ⟨h1, h2, h3⟩ := h.marks r ((hsub.append (List.Sublist.refl m1)).subset hr)
    exact ⟨h1, h2.turned ht, by rw [ht.other r fun hrm => hm r hrm hr]; exact h3⟩
  · obtain ⟨l, h1, h2, h3, tmps, fn, d, h4, h5⟩ := h.loops j L hL
    refine ⟨l, h1, h2, h3.turned ht, tmps, fn, d, ?_, h5⟩
    rw [ht.other l fun hlm => ?_]
    · exact h4
    · obtain ⟨ds, hd⟩ := hl l hlm
      rw [h4] at hd; cases hd

/-- A record turns. -/
theorem Rest.record {base : Nat} {ρ : Rho} {w w' : World} {cs : List AFr} {lps : Loops} {css : List Frame} {m0 m1 : List Nat} (h : Rest P base ρ cs lps css w m0 m1) {j l : Nat} {L L' : ALoop} (hj : lget lps j = some L) (hl : LoopAt base ρ w j L l)
    (hL : LoopAt base ρ w' j L' l) (ht : Turned [l] w w') : Rest P base ρ cs (lset lps j (some L')) css w' m0 m1 := by
  have hobj := hl.obj
  obtain ⟨tmps, fn, d, h4, _⟩ := hobj
  have get : ∀ i, lget (lset lps j (some L')) i = if i = j then some L' else lget lps i := fun i => T.get_set none lps j (some L') i
  refine ⟨h.cs, h.nodup, fun r hr => ?_, fun i M hM => ?_, fun i i' M M' l' hM hM' e e' => ?_⟩
  · obtain ⟨h1, h2, h3⟩ := h.marks r hr
    refine ⟨h1, h2.turned ht, ?_⟩
    rw [ht.other r fun hrm => ?_]
    · exact h3
    · obtain rfl : r = l := by simpa using hrm
      rw [h4] at h3; cases h3
  · rw [get] at hM
    by_cases hij : i = j
    · subst hij
      rw [if_pos rfl] at hM
      obtain rfl := Option.some.inj hM
      exact ⟨l, hL⟩
    · rw [if_neg hij] at hM
      obtain ⟨l2, q1, q2, q3, tmps2, fn2, d2, q4, q5⟩ := h.loops i M hM
      refine ⟨l2, q1, q2, q3.turned ht, tmps2, fn2, d2, ?_, q5⟩
      rw [ht.other l2 fun hlm => ?_]
      · exact q4
      · obtain rfl : l2 = l := by simpa using hlm
        exact hij (h.inj i j M L l2 hM hj q1 hl.lp)
  · rw [get] at hM hM'
    have old : ∀ x N, (if x = j then some L' else lget lps x) = some N → ∃ N', lget lps x = some N' := fun x N hx => by
      by_cases hxj : x = j
      · exact ⟨L, by rw [hxj]; exact hj⟩
      · rw [if_neg hxj] at hx; exact ⟨N, hx⟩
    obtain ⟨N, hN⟩ := old i M hM
    obtain ⟨N', hN'⟩ := old i' M' hM'
    exact h.inj i i' N N' l' hN hN' e e'

end
end Go.Am
