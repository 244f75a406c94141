/- Operations that read, make or write memory. -/
import Derived.Test.YtdojgffcahimjaaAmE
namespace Go.Am

section
variable {P : Program} {ρ : Rho} 

/-! ### Reading -/
/-- Cells in a row in the world. -/
def CellsAt (ρ : Rho) (w : World) (blk o : Nat) (cs : List AVal) : Prop :=
  ∀ (i : Nat) (h : i < cs.length), ∃ v, w.cell? ⟨blk, o + i, none⟩ = some v ∧ VRel ρ cs[i] v

theorem Rel.cellsAt {mem : Mem} {next : Nat} {w : World} (h : Rel ρ mem next w) {b : Nat} {l : Loc} {ab : ABlk} (hb : ρ b = some l) (hm : mget mem b = some ab) : CellsAt ρ w l.blk l.base ab.cells := by
  obtain ⟨_, _, _, cs, el, h1, h2, h3⟩ := h.blk b l ab hb hm
  intro i hi
  obtain ⟨v, e, f⟩ := h3 i hi
  exact ⟨v, by simp [World.cell?, h1, e], f⟩

theorem Rel.dataAt {mem : Mem} {next : Nat} {w : World} (h : Rel ρ mem next w) {cs : List AVal} {blk base : Nat} {val : Nat → Value} (hv : ∀ (j : Nat) (hj : j < cs.length), VRel ρ.bare cs[j] (val j))
    (hh : ∀ j, j < cs.length → HCell ρ.fz blk (base + j) (val j)) : CellsAt ρ w blk base cs := by
  intro i hi
  obtain ⟨arr, el, fz, e, f⟩ := hh i hi
  have := h.old _ _ e
  exact ⟨val i, by simp [World.cell?, this, f], (hv i hi).mono (bare_le ρ)⟩

theorem CellsAt.load {w : World} {blk o : Nat} {cs : List AVal} (h : CellsAt ρ w blk o cs) {off n : Nat} (hn : off + n ≤ cs.length ∨ n = 0) :
    ∃ vs : Array Value, vs.size = n ∧ (∀ (i : Nat) (h1 : off + i < cs.length) (h2 : i < vs.size), VRel ρ cs[off + i] vs[i]) ∧ (loadCells ⟨blk, o + off, none⟩ n).run P w = .ok vs w := by
  have hc : ∀ j, j < n → w.cell? ((⟨blk, o + off, none⟩ : Addr).add j) = some ((w.cell? ⟨blk, o + (off + j), none⟩).getD undef) := by
    intro j hj
    obtain ⟨v, e, _⟩ := h (off + j) (by omega)
    rw [addr_add, Nat.add_assoc, e]; rfl
  refine ⟨_, ?_, ?_, run_loadCells w _ n (fun j => (w.cell? ⟨blk, o + (off + j), none⟩).getD undef) hc⟩
  · simp
  · intro i h1 h2
    obtain ⟨v, e, f⟩ := h (off + i) h1
    simpa [e] using f

theorem CellsAt.part {w : World} {blk o : Nat} {cs : List AVal} (h : CellsAt ρ w blk o cs) {t : TypeId} {off : Nat} {v : AVal} (hp : partOf P t cs off = some v) :
    ∃ z, VRel ρ v z ∧ (loadVar t ⟨blk, o + off, none⟩).run P w = .ok z w := by
  unfold partOf at hp
  split at hp
  · rename_i i ha hi
    simp only [Option.map_eq_some_iff] at hp
    obtain ⟨p, hc, rfl⟩ := hp
    obtain ⟨_, hl, hle⟩ := cut_spec hc
    obtain ⟨vs, hs, hv, hr⟩ := h.load (P := P) (off := off) (n := i.size) (by omega)
    refine ⟨.agg vs, .agg _ _ (by omega) fun j h1 h2 => ?_, ?_⟩
    · obtain ⟨h3, e⟩ := cut_get hc j h1
      rw [e]; exact hv j h3 h2
    · simp [loadVar, isAggT_run ha, size_run hi, hr]
  · rename_i i ha hi
    obtain ⟨hlt, rfl⟩ := List.getElem?_eq_some_iff.1 hp
    obtain ⟨v, e, f⟩ := h off hlt
    exact ⟨v, f, by simp [loadVar, isAggT_run ha, e]⟩
  · cases hp

theorem aLoad_sound {mem : Mem} {next : Nat} {w : World} (h : Rel ρ mem next w) {t : TypeId} {x v : AVal} {u : Value} (hl : aLoad P mem t x = some v) (hx : VRel ρ x u) :
    ∃ z, VRel ρ v z ∧ (Instr.loadAt t u).run P w = .ok z w := by
  unfold aLoad at hl
  split at hl
  · split at hl
    · rename_i b off _ blk hm
      cases hx with
      | ptr _ _ l hρ =>
        obtain ⟨z, hz, hr⟩ := (h.cellsAt hρ hm).part hl
        exact ⟨z, hz, by simp [Instr.loadAt, Instr.sureAddr, hr]⟩
    · cases hl
  · cases hx with
    | dptr _ blk base val hv hh =>
      obtain ⟨z, hz, hr⟩ := (h.dataAt hv hh).part hl
      exact ⟨z, hz, by simpa [Instr.loadAt, Instr.sureAddr] using hr⟩
  · cases hl

theorem rows_succ (n : Nat) (get : Nat → List AVal) : rows (n + 1) get = rows n get ++ get n := by
  unfold rows; rw [List.range_succ, List.flatMap_append]; simp
theorem rows_length {get : Nat → List AVal} {sz : Nat} : ∀ (n : Nat), (∀ i, i < n → (get i).length = sz) → (rows n get).length = n * sz
  | 0, _ => by simp [rows]
  | n + 1, h => by rw [rows_succ, List.length_append, rows_length n fun i hi => h i (by omega), h n (by omega), Nat.add_mul, Nat.one_mul]
theorem rows_get {get : Nat → List AVal} {sz : Nat} : ∀ (n : Nat), (∀ i, i < n → (get i).length = sz) → ∀ (r j : Nat), r < n → j < sz → (rows n get)[r * sz + j]? = (get r)[j]?
  | 0, _, r, j, hr, _ => by omega
  | n + 1, h, r, j, hr, hj => by
    have hl := rows_length n fun i hi => h i (by omega)
    rw [rows_succ]
    by_cases e : r = n
    · subst e
      rw [List.getElem?_append_right (by omega), hl]
      congr 1; omega
    · have hlt : r < n := by omega
      have : (r + 1) * sz ≤ n * sz := Nat.mul_le_mul_right sz hlt
      rw [Nat.add_mul, Nat.one_mul] at this
      rw [List.getElem?_append_left (by omega)]
      exact rows_get n (fun i hi => h i (by omega)) r j hlt hj

theorem Rel.rowAt {mem : Mem} {next : Nat} {w : World} (h : Rel ρ mem next w) {b : Nat} {l : Loc} {ab : ABlk} {A : Arr} (hb : ρ b = some l) (hm : mget mem b = some ab) (hA : ab.arr = some A) {r : Nat} (hr : r < A.n) : CellsAt ρ w l.blk (l.base + r * A.sz) (A.get r) := by
  obtain ⟨_, _, har, _⟩ := h.blk b l ab hb hm
  obtain ⟨e1, _, e3⟩ := har A hA
  intro i hi
  have hsz := e3 r hr
  have hg := rows_get A.n e3 r i hr (by omega)
  rw [List.getElem?_eq_getElem hi, ← e1] at hg
  obtain ⟨hlt, hge⟩ := List.getElem?_eq_some_iff.1 hg
  obtain ⟨v, e, f⟩ := h.cellsAt hb hm (r * A.sz + i) hlt
  rw [hge] at f
  exact ⟨v, by rw [Nat.add_assoc]; exact e, f⟩

theorem aLoadP_sound {mem : Mem} {next : Nat} {w : World} (h : Rel ρ mem next w) {t : TypeId} {x v : AVal} {u : Value} (hl : aLoadP P mem t x = some (v, true)) (hx : VRel ρ x u) :
    ∃ z, VRel ρ v z ∧ (Instr.loadAt t u).run P w = .ok z w := by
  unfold aLoadP at hl
  split at hl
  · split at hl
    · rename_i b sz r fo _ blk hm
      split at hl
      · rename_i A hA
        simp only [Option.map_eq_some_iff, Prod.mk.injEq, Bool.and_eq_true, decide_eq_true_eq] at hl
        obtain ⟨v', hp, rfl, hs, hr⟩ := hl
        obtain rfl := Nat.eq_of_beq_eq_true hs
        cases hx with
        | epa _ _ _ _ l hρ =>
          obtain ⟨z, hz, hrun⟩ := (h.rowAt hρ hm hA hr).part hp
          rw [Nat.add_assoc] at hrun
          exact ⟨z, hz, by simp [Instr.loadAt, Instr.sureAddr, hrun]⟩
      · cases hl
    · cases hl
  · simp only [Option.map_eq_some_iff, Prod.mk.injEq, and_true] at hl
    obtain ⟨v', hl, rfl⟩ := hl
    exact aLoad_sound h hl hx

theorem test_same {st st' : St} {b e : Bool} (h : st.test b = (e, st')) : st'.env = st.env ∧ st'.mem = st.mem ∧ st'.next = st.next ∧ (st'.ob = true → e = b ∧ st.ob = true) := by
  obtain ⟨env, mem, next, orc, ob⟩ := st
  cases orc with
  | nil =>
    simp only [St.test, Prod.mk.injEq] at h
    obtain ⟨rfl, rfl⟩ := h
    exact ⟨rfl, rfl, rfl, fun h => ⟨rfl, h⟩⟩
  | cons c r =>
    simp only [St.test, Prod.mk.injEq] at h
    obtain ⟨rfl, rfl⟩ := h
    refine ⟨rfl, rfl, rfl, fun h => ?_⟩
    simp only [Bool.and_eq_true, beq_iff_eq] at h
    exact ⟨h.1.symm, h.2⟩

theorem pickRow_spec : ∀ (rw : Rws) (r : Nat) (st : St) (cs : List AVal) (st1 : St), pickRow rw r st = (cs, st1) → st1.env = st.env ∧ st1.mem = st.mem ∧ st1.next = st.next ∧ (st1.ob = true → cs = rw.get r ∧ st.ob = true)
  | .flat g, r, st, cs, st1, h => by
    simp only [pickRow, Prod.mk.injEq] at h
    obtain ⟨rfl, rfl⟩ := h
    exact ⟨rfl, rfl, rfl, fun h => ⟨rfl, h⟩⟩
  | .one r0 c0 b, r, st, cs, st1, h => by
    unfold pickRow at h
    split at h
    rename_i e st2 ht
    obtain ⟨t1, t2, t3, t4⟩ := test_same ht
    cases e with
    | true =>
      simp only [cond_true, Prod.mk.injEq] at h
      obtain ⟨rfl, rfl⟩ := h
      exact ⟨t1, t2, t3, fun ho => ⟨by simp only [Rws.get]; rw [← (t4 ho).1]; rfl, (t4 ho).2⟩⟩
    | false =>
      rw [cond_false] at h
      obtain ⟨p1, p2, p3, p4⟩ := pickRow_spec b r st2 cs st1 h
      refine ⟨p1.trans t1, p2.trans t2, p3.trans t3, fun ho => ?_⟩
      obtain ⟨q1, q2⟩ := p4 ho
      exact ⟨by simp only [Rws.get]; rw [← (t4 q2).1]; exact q1, (t4 q2).2⟩
  | .alt c a b, r, st, cs, st1, h => by
    unfold pickRow at h
    split at h
    rename_i e st2 ht
    obtain ⟨t1, t2, t3, t4⟩ := test_same ht
    cases e with
    | true =>
      rw [cond_true] at h
      obtain ⟨p1, p2, p3, p4⟩ := pickRow_spec a r st2 cs st1 h
      refine ⟨p1.trans t1, p2.trans t2, p3.trans t3, fun ho => ?_⟩
      obtain ⟨q1, q2⟩ := p4 ho
      exact ⟨by simp only [Rws.get]; rw [← (t4 q2).1]; exact q1, (t4 q2).2⟩
    | false =>
      rw [cond_false] at h
      obtain ⟨p1, p2, p3, p4⟩ := pickRow_spec b r st2 cs st1 h
      refine ⟨p1.trans t1, p2.trans t2, p3.trans t3, fun ho => ?_⟩
      obtain ⟨q1, q2⟩ := p4 ho
      exact ⟨by simp only [Rws.get]; rw [← (t4 q2).1]; exact q1, (t4 q2).2⟩

theorem aLoadO_spec {st st1 : St} {t : TypeId} {x v : AVal} {o : Bool} (h : aLoadO P st t x = some (v, o, st1)) : st1.env = st.env ∧ st1.mem = st.mem ∧ st1.next = st.next ∧ (st1.ob = true → aLoadP P st.mem t x = some (v, o) ∧ st.ob = true) := by
  unfold aLoadO at h
  split at h
  · split at h
    · rename_i b sz r fo _ blk hm
      split at h
      · rename_i A hA
        split at h
        rename_i cs st2 hp
        simp only [Option.map_eq_some_iff, Prod.mk.injEq] at h
        obtain ⟨v', hv, rfl, rfl, rfl⟩ := h
        obtain ⟨p1, p2, p3, p4⟩ := pickRow_spec _ _ _ _ _ hp
        refine ⟨p1, p2, p3, fun ho => ?_⟩
        obtain ⟨q1, q2⟩ := p4 ho
        refine ⟨?_, q2⟩
        subst q1
        have hv : partOf P t (A.get r) fo = some v' := hv
        simp only [aLoadP, hm, hA, hv, Option.map_some]
      · cases h
    · cases h
  · rename_i hx
    simp only [Option.map_eq_some_iff, Prod.mk.injEq] at h
    obtain ⟨v', hv, rfl, rfl, rfl⟩ := h
    refine ⟨rfl, rfl, rfl, fun ho => ⟨?_, ho⟩⟩
    unfold aLoadP
    split
    · rename_i b sz r fo
      exact absurd rfl (hx b sz r fo)
    · rw [hv]; rfl

theorem drop_all {l : List AVal} {n : Nat} (h : l.length = n) : l.drop n = [] := List.drop_eq_nil_of_le (by omega)

theorem bif_or0 {α : Type} {c : Bool} {x z : Option α} {y : α} (h : (bif c then x else z) = some y) : (c = true ∧ x = some y) ∨ (c = false ∧ z = some y) := by
  cases c with
  | false => exact .inr ⟨rfl, h⟩
  | true => exact .inl ⟨rfl, h⟩

theorem setRow_spec {A : Arr} {r fo : Nat} {cs : List AVal} {st st1 : St} {rw1 : Rws} (h : setRow A r fo cs st = some (rw1, st1)) : st1.env = st.env ∧ st1.mem = st.mem ∧ st1.next = st.next ∧ (st1.ob = true → ((A.get r).length = A.sz → rw1.get = updRow A.get r fo cs) ∧ st.ob = true) := by
  obtain ⟨sz, n, rw0⟩ := A
  unfold setRow at h
  have full : ∀ (g : Nat → List AVal), cs.length = sz → (g r).length = sz → (fun k => bif Nat.beq k r then cs else g k) = updRow g r 0 cs := fun g h1 h2 => by
    funext k
    unfold updRow
    rw [List.take_zero, List.nil_append, Nat.zero_add, h1, drop_all h2, List.append_nil]
  split at h
  · rename_i g hg
    simp only at hg
    subst hg
    rcases bif_or0 h with ⟨_, h⟩ | ⟨_, h⟩
    · simp only [Option.some.injEq, Prod.mk.injEq] at h
      obtain ⟨rfl, rfl⟩ := h
      exact ⟨rfl, rfl, rfl, fun ho => ⟨fun _ => rfl, ho⟩⟩
    · rcases bif_or0 h with ⟨hc, h2⟩ | ⟨_, h2⟩
      · simp only [Bool.and_eq_true] at hc
        obtain rfl := Nat.eq_of_beq_eq_true hc.1
        have hc2 := Nat.eq_of_beq_eq_true hc.2
        clear h
        simp only [Option.some.injEq, Prod.mk.injEq] at h2
        obtain ⟨rfl, rfl⟩ := h2
        exact ⟨rfl, rfl, rfl, fun ho => ⟨fun hl => full g hc2 hl, ho⟩⟩
      · cases h2
  · rename_i r0 c0 b hb
    simp only at hb
    subst hb
    split at h
    rename_i e st2 ht
    obtain ⟨t1, t2, t3, t4⟩ := test_same ht
    rcases bif_or0 h with ⟨hc, h2⟩ | ⟨_, h2⟩
    · simp only [Bool.and_eq_true] at hc
      obtain rfl := Nat.eq_of_beq_eq_true hc.1.2
      have hc2 := Nat.eq_of_beq_eq_true hc.2
      clear h
      simp only [Option.some.injEq, Prod.mk.injEq] at h2
      obtain ⟨rfl, rfl⟩ := h2
      refine ⟨t1, t2, t3, fun ho => ⟨fun hl => ?_, (t4 ho).2⟩⟩
      have he := (t4 ho).1
      rw [hc.1.1] at he
      obtain rfl := Nat.eq_of_beq_eq_true he.symm
      have := full (Rws.get (.one r c0 b)) hc2 hl
      show _ = updRow (Rws.get (.one r c0 b)) r 0 cs
      rw [← this]
      funext k
      simp only [Rws.get]
      cases Nat.beq k r <;> rfl
    · cases h2
  · rename_i c a b hb
    simp only at hb
    subst hb
    rcases bif_or0 h with ⟨hc, h2⟩ | ⟨_, h2⟩
    · simp only [Bool.and_eq_true] at hc
      obtain rfl := Nat.eq_of_beq_eq_true hc.1
      have hc2 := Nat.eq_of_beq_eq_true hc.2
      clear h
      simp only [Option.some.injEq, Prod.mk.injEq] at h2
      obtain ⟨rfl, rfl⟩ := h2
      exact ⟨rfl, rfl, rfl, fun ho => ⟨fun hl => full _ hc2 hl, ho⟩⟩
    · cases h2

/-! ### What an operation leaves -/
structure Post (ρ : Rho) (floor : Nat) (st st' : St) (v : AVal) (w : World) (ρ' : Rho) (u : Value) (w' : World) : Prop where
  val : VRel ρ' v u
  rel : Rel ρ' st'.mem st'.next w'
  ev : Ev ρ ρ' floor st.mem st.next st'.mem st'.next w w'

/-- The operation is carried out, or a call that it makes is. -/
def Does (P : Program) (o : Oper) (a : Act) (w : World) (K : Rho → Value → World → Prop) : Prop :=
  (∃ ρ' u w', (execOp a.eval o).run P w = .ok (.value u) w' ∧ K ρ' u w') ∨
  (∃ ρ' w', (execOp a.eval o).run P w = .ok .skip w' ∧ K ρ' undef w') ∨
  (∃ f args, (execOp a.eval o).run P w = .ok (.enter f args) w ∧ Calls P f args w fun e w' => ∃ ρ' u, e = .returned u ∧ K ρ' u w')

theorem Does.wp {o : Oper} {a : Act} {w : World} {K : Rho → Value → World → Prop} {next : Act → World → Prop} {Q : Exit → Act → World → Prop} (h : Does P o a w K) (hk : ∀ ρ' u w', K ρ' u w' → next (a.put o.dst u) w') : o.wp P a w next Q := by
  unfold Oper.wp
  rcases h with ⟨ρ', u, w', e, k⟩ | ⟨ρ', w', e, k⟩ | ⟨f, args, e, hc⟩
  · rw [e]; exact hk _ _ _ k
  · rw [e]; exact hk _ _ _ k
  · rw [e]
    exact hc.mono fun e w' ⟨ρ', u, he, k⟩ => by subst he; exact hk _ _ _ k

theorem Rel.hold {mem : Mem} {next : Nat} {w : World} (h : Rel ρ mem next w) : ∀ k, w.heap.size ≤ k → ρ.fz k = none := by
  intro k hk
  cases e : ρ.fz k with
  | none => rfl
  | some o =>
    have := (Array.getElem?_eq_some_iff.1 (h.old k o e)).1
    omega

/-- A row is made. -/
theorem post_new {st : St} {w : World} (h : Rel ρ st.mem st.next w) (floor : Nat) (cs : List AVal) (ty : TypeId) (vs : Array Value) (el : TypeId) (hn : cs.length ≤ vs.size)
    (hv : ∀ (i : Nat) (h1 : i < cs.length) (h2 : i < vs.size), VRel ρ cs[i] vs[i]) (v : AVal) (u : Value) (hval : ∀ ρ', ρ' st.next = some ⟨w.heap.size, 0, cs.length, vs.size⟩ → VRel ρ' v u) :
    Post ρ floor st (aNew st cs ty) v w (rhoAdd ρ st.next ⟨w.heap.size, 0, cs.length, vs.size⟩) u { w with heap := w.heap.push (.cells vs el) } :=
  ⟨hval _ (by simp [rhoAdd]), h.new cs ty vs el h.hold hn hv, Ev.ofNew h floor _ _ _ (Nat.le_refl _)⟩

theorem aStore_sound {st st' : St} {w : World} (h : Rel ρ st.mem st.next w) {floor : Nat} {t : TypeId} {x v : AVal} {u z : Value} (hs : aStore P floor st t x v = some st') (hx : VRel ρ x u) (hv : VRel ρ v z) :
    ∃ w', (Instr.storeAt t u z).run P w = .ok () w' ∧ Post ρ floor st st' (.tup []) w ρ undef w' ∧ st'.env = st.env ∧ st'.ob = st.ob := by
  unfold aStore at hs
  split at hs
  · rename_i b off i hi
    simp only at hs
    cases hc : (Nat.ble floor b && Nat.beq v.cells.length i.size && boxable v && v.cells.all isSc) with
    | false => rw [hc] at hs; cases hs
    | true =>
      rw [hc, cond_true] at hs
      simp only [Bool.and_eq_true] at hc
      obtain ⟨⟨⟨hf, hn⟩, hbx⟩, hsc⟩ := hc
      have hf := Nat.le_of_ble_eq_true hf
      have hn := Nat.eq_of_beq_eq_true hn
      split at hs
      · rename_i blk hm
        cases hfit : Nat.ble (off + i.size) blk.cells.length with
        | false => rw [hfit] at hs; cases hs
        | true =>
          rw [hfit, cond_true] at hs
          have hfit := Nat.le_of_ble_eq_true hfit
          obtain rfl := Option.some.inj hs
          cases hx with
          | ptr _ _ l hρ =>
            have hcells := hv.cells hbx
            have hone := VRel.cells_oneCell hcells hsc
            have hlen : z.cells.toList.length = v.cells.length := by simpa using hcells.1.symm
            obtain ⟨cur, el, hw, hsz, hrel⟩ := h.write hρ hm (off := off) (cs := v.cells) (vs := z.cells.toList) hlen (by omega) (fun j h1 h2 => by simpa using hcells.2 j h1 (by simpa using h2))
            have hrun := run_storeCells_at P l.blk (l.base + off) el z.cells.toList 0 cur w hw (by omega) hone
            refine ⟨w.setRow l.blk (cur.toList.take (l.base + off) ++ z.cells.toList ++ cur.toList.drop (l.base + off + z.cells.toList.length)).toArray, ?_, ⟨.tup [] #[] rfl (fun j h1 _ => by simp at h1), ?_, Ev.ofWrite h hρ hf _ _⟩, rfl, rfl⟩
            · have hzs : z.cells.size = i.size := by simpa [hn] using hcells.1.symm
              simp only [Nat.add_zero] at hrun
              simp [Instr.storeAt, Instr.sureAddr, storeVar, size_run hi, hzs, -List.append_assoc, -Array.length_toList, hrun]
            · rw [hn] at hrel
              simpa [St.withMem] using hrel
      · cases hs
  · cases hs

/-! ### A store into a row -/
theorem updRow_length {get : Nat → List AVal} {sz n r fo : Nat} {cs : List AVal} (hl : ∀ i, i < n → (get i).length = sz) (hf : fo + cs.length ≤ sz) : ∀ i, i < n → (updRow get r fo cs i).length = sz := by
  intro i hi
  unfold updRow
  cases e : Nat.beq i r with
  | false => exact hl i hi
  | true =>
    obtain rfl := Nat.eq_of_beq_eq_true e
    have := hl i hi
    simp only [cond_true]
    rw [splice_length _ _ _ (by omega)]; exact this

theorem rows_upd {get : Nat → List AVal} {sz n r fo : Nat} {cs : List AVal} (hl : ∀ i, i < n → (get i).length = sz) (hr : r < n) (hf : fo + cs.length ≤ sz) :
    (rows n get).take (r * sz + fo) ++ cs ++ (rows n get).drop (r * sz + fo + cs.length) = rows n (updRow get r fo cs) := by
  have hlen := rows_length n hl
  have hlen' := rows_length n (updRow_length (r := r) hl hf)
  have hb : (r + 1) * sz ≤ n * sz := Nat.mul_le_mul_right sz hr
  rw [Nat.add_mul, Nat.one_mul] at hb
  have hfit : r * sz + fo + cs.length ≤ (rows n get).length := by omega
  apply List.ext_getElem?
  intro i
  rw [splice_get _ _ _ _ hfit]
  by_cases hi : i < n * sz
  · have hsz : 0 < sz := by
      rcases Nat.eq_zero_or_pos sz with e | e
      · rw [e, Nat.mul_zero] at hi; omega
      · exact e
    have hj : i % sz < sz := Nat.mod_lt _ hsz
    have hq : i / sz < n := Nat.div_lt_of_lt_mul (by rw [Nat.mul_comm]; exact hi)
    have e : i = i / sz * sz + i % sz := by rw [Nat.mul_comm]; exact (Nat.div_add_mod i sz).symm
    generalize i / sz = q at *
    generalize i % sz = j at *
    subst e
    rw [rows_get n (updRow_length (r := r) hl hf) q j hq hj, rows_get n hl q j hq hj]
    unfold updRow
    cases eq : Nat.beq q r with
    | true =>
      obtain rfl := Nat.eq_of_beq_eq_true eq
      have := hl q hr
      simp only [cond_true]
      rw [splice_get _ _ _ _ (by omega)]
      by_cases h1 : j < fo
      · rw [if_pos (by omega), if_pos h1]
      · rw [if_neg (by omega), if_neg h1]
        by_cases h2 : j < fo + cs.length
        · rw [if_pos (by omega), if_pos h2]; congr 1; omega
        · rw [if_neg (by omega), if_neg h2]
    | false =>
      have hne := Nat.ne_of_beq_eq_false eq
      simp only [cond_false]
      rcases Nat.lt_or_gt_of_ne hne with h | h
      · have : (q + 1) * sz ≤ r * sz := Nat.mul_le_mul_right sz h
        rw [Nat.add_mul, Nat.one_mul] at this
        rw [if_pos (by omega)]
      · have : (r + 1) * sz ≤ q * sz := Nat.mul_le_mul_right sz h
        rw [Nat.add_mul, Nat.one_mul] at this
        rw [if_neg (by omega), if_neg (by omega)]
  · rw [if_neg (by omega), if_neg (by omega), List.getElem?_eq_none (by omega), List.getElem?_eq_none (by omega)]

/-- A block that is told row by row as well. -/
theorem Rel.setArr {mem : Mem} {next : Nat} {w : World} {b : Nat} {cs : List AVal} {ty : TypeId} (h : Rel ρ (mset mem b (some ⟨cs, ty, none⟩)) next w) (A : Arr) (h1 : cs = rows A.n A.get) (h2 : 1 ≤ A.sz) (h3 : ∀ i, i < A.n → (A.get i).length = A.sz) :
    Rel ρ (mset mem b (some ⟨cs, ty, some A⟩)) next w := by
  have some_iff : ∀ c, (mget (mset mem b (some ⟨cs, ty, some A⟩)) c).isSome = (mget (mset mem b (some ⟨cs, ty, none⟩)) c).isSome := fun c => by
    rw [mget_mset, mget_mset]; by_cases e : c = b <;> simp [e]
  refine ⟨h.dom, fun c c' m m' e e' he hs hs' => h.inj c c' m m' e e' he (by rw [← some_iff]; exact hs) (by rw [← some_iff]; exact hs'), fun c m ab e hc => ?_, h.old, fun c m e hs => h.sep c m e (by rw [← some_iff]; exact hs), h.real, fun c hc => ?_, h.ldom⟩
  · by_cases ecb : c = b
    · subst ecb
      rw [mget_mset_same] at hc
      obtain rfl := Option.some.inj hc
      obtain ⟨n, t, _, k⟩ := h.blk c m ⟨cs, ty, none⟩ e (mget_mset_same _ _ _)
      exact ⟨n, t, fun B hB => by cases hB; exact ⟨h1, h2, h3⟩, k⟩
    · rw [mget_mset_ne _ _ ecb] at hc
      exact h.blk c m ab e (by rw [mget_mset_ne _ _ ecb]; exact hc)
  · have := h.bd c hc
    rw [mget_mset] at this ⊢
    by_cases e : c = b
    · rw [if_pos e] at this; cases this
    · rw [if_neg e] at this ⊢; exact this

theorem owe_same {cx : Ctx} {st st' : St} {b : Bool} (h : st.owe cx b = some st') : st'.env = st.env ∧ st'.mem = st.mem ∧ st'.next = st.next ∧ (st'.ob = true → b = true ∧ st.ob = true) := by
  obtain ⟨env, mem, next, orc, ob⟩ := st
  unfold St.owe at h
  cases hs : cx.sym with
  | true =>
    rw [hs] at h
    obtain rfl := Option.some.inj h
    exact ⟨rfl, rfl, rfl, fun ho => by simp only [Bool.and_eq_true] at ho; exact ⟨ho.1, ho.2⟩⟩
  | false =>
    rw [hs] at h
    cases b with
    | true =>
      obtain rfl := Option.some.inj h
      exact ⟨rfl, rfl, rfl, fun ho => ⟨rfl, ho⟩⟩
    | false => cases h

theorem aStoreE_sound {cx : Ctx} {st st' : St} {w : World} (h : Rel ρ st.mem st.next w) {t : TypeId} {x v : AVal} {u z : Value} (hs : aStoreE P cx st t x v = some st') (hob : st'.ob = true) (hx : VRel ρ x u) (hv : VRel ρ v z) :
    ∃ w', (Instr.storeAt t u z).run P w = .ok () w' ∧ Post ρ cx.floor st st' (.tup []) w ρ undef w' := by
  unfold aStoreE at hs
  split at hs
  · rename_i b sz r fo i hi
    cases hc : (Nat.ble cx.floor b && Nat.beq v.cells.length i.size && boxable v && v.cells.all isSc && Nat.ble (fo + i.size) sz) with
    | false => rw [hc] at hs; cases hs
    | true =>
      rw [hc, cond_true] at hs
      simp only [Bool.and_eq_true] at hc
      obtain ⟨⟨⟨⟨hf, hn⟩, hbx⟩, hsc⟩, hfo⟩ := hc
      have hf := Nat.le_of_ble_eq_true hf
      have hn := Nat.eq_of_beq_eq_true hn
      have hfo := Nat.le_of_ble_eq_true hfo
      split at hs
      · rename_i blk hm
        split at hs
        · rename_i A hA
          split at hs
          · rename_i rw1 st1 hset
            obtain ⟨_, o2, o3, o4⟩ := owe_same hs
            obtain ⟨ho, hob1⟩ := o4 hob
            obtain ⟨s1, s2, s3, s4⟩ := setRow_spec hset
            have o2 : st'.mem = mset st1.mem b (some ⟨rows A.n rw1.get, blk.ty, some ⟨A.sz, A.n, rw1⟩⟩) := o2
            have o3 : st'.next = st1.next := o3
            rw [s2] at o2
            rw [s3] at o3
            simp only [Bool.and_eq_true, decide_eq_true_eq] at ho
            obtain ⟨hsz, hr⟩ := ho
            obtain rfl := Nat.eq_of_beq_eq_true hsz
            cases hx with
            | epa _ _ _ _ l hρ =>
              obtain ⟨har1, har2, har3⟩ := (h.blk b l blk hρ hm).arr A hA
              have hcells := hv.cells hbx
              have hone := VRel.cells_oneCell hcells hsc
              have hlen : z.cells.toList.length = v.cells.length := by simpa using hcells.1.symm
              have hrl := rows_length A.n har3
              have hb : (r + 1) * A.sz ≤ A.n * A.sz := Nat.mul_le_mul_right A.sz hr
              rw [Nat.add_mul, Nat.one_mul] at hb
              obtain ⟨cur, el, hw, hsz, hrel⟩ := h.write hρ hm (off := r * A.sz + fo) (cs := v.cells) (vs := z.cells.toList) hlen (by rw [har1, hrl]; omega) (fun j h1 h2 => by simpa using hcells.2 j h1 (by simpa using h2))
              have hrun := run_storeCells_at P l.blk (l.base + (r * A.sz + fo)) el z.cells.toList 0 cur w hw (by omega) hone
              rw [har1, rows_upd har3 hr (by omega)] at hrel
              have hrw := (s4 hob1).1 (har3 r hr)
              rw [← hrw] at hrel
              have hrel := hrel.setArr ⟨A.sz, A.n, rw1⟩ rfl har2 (by show ∀ i, i < A.n → (rw1.get i).length = A.sz; rw [hrw]; exact updRow_length (sz := A.sz) har3 (by omega))
              refine ⟨w.setRow l.blk (cur.toList.take (l.base + (r * A.sz + fo)) ++ z.cells.toList ++ cur.toList.drop (l.base + (r * A.sz + fo) + z.cells.toList.length)).toArray, ?_, ⟨.tup [] #[] rfl (fun j h1 _ => by simp at h1), ?_, ?_⟩⟩
              · have hzs : z.cells.size = i.size := by simpa [hn] using hcells.1.symm
                simp only [Nat.add_zero] at hrun
                simp [Instr.storeAt, Instr.sureAddr, storeVar, size_run hi, hzs, -List.append_assoc, -Array.length_toList, hrun]
              · rw [o2, o3]; exact hrel
              · rw [o2, o3]; exact Ev.ofWrite h hρ hf _ _
          · cases hs
        · cases hs
      · cases hs
  · cases hs

/-! ### Rows of one value -/
theorem range0_map (f : Nat → Value) : (Array.range 0).map f = #[] := Array.eq_empty_of_size_eq_zero (by simp)

theorem rep_length (n : Nat) (l : List AVal) : (rep n l).length = n * l.length := by
  induction n with
  | zero => simp [rep]
  | succ n ih => simp only [rep, List.replicate_succ, List.flatten_cons, List.length_append] at *; rw [ih, Nat.succ_mul, Nat.add_comm]

theorem rep_get (l : List AVal) : ∀ (n i : Nat) (h : i < (rep n l).length) (hl : i % l.length < l.length), (rep n l)[i] = l[i % l.length]
  | 0, i, h, _ => by simp [rep] at h
  | n + 1, i, h, hl => by
    have e : rep (n + 1) l = l ++ rep n l := by simp [rep, List.replicate_succ]
    have hpos : 0 < l.length := by omega
    by_cases hi : i < l.length
    · simp only [e, List.getElem_append_left hi, Nat.mod_eq_of_lt hi]
    · have h2 : i - l.length < (rep n l).length := by rw [e] at h; simp at h; omega
      simp only [e]
      rw [List.getElem_append_right (by omega)]
      have hm : (i - l.length) % l.length = i % l.length := (Nat.mod_eq_sub_mod (by omega)).symm
      rw [rep_get l n (i - l.length) h2 (by omega)]
      simp only [hm]

theorem rep_rel {zero : List AVal} {zs : Array Value} (h : VRels ρ zero zs) (n m : Nat) (hm : m = n * zero.length) : VRels ρ (rep n zero) ((Array.range m).map (zs[· % zs.size]!)) := by
  refine ⟨by rw [rep_length]; simp [hm], fun i h1 h2 => ?_⟩
  have hi : i < n * zero.length := by rw [rep_length] at h1; exact h1
  have hpos : 0 < zero.length := by
    rcases Nat.eq_zero_or_pos zero.length with e | e
    · rw [e] at hi; simp at hi
    · exact e
  have hlt : i % zero.length < zero.length := Nat.mod_lt _ hpos
  rw [rep_get zero n i h1 hlt]
  have hlt2 : i % zero.length < zs.size := by rw [← h.1]; exact hlt
  have := h.2 (i % zero.length) hlt hlt2
  simp only [Array.getElem_map, Array.getElem_range]
  rw [← h.1]
  simpa [getElem!_pos, hlt2] using this

theorem aBuildSlice_sound {st st' : St} {w : World} (h : Rel ρ st.mem st.next w) (floor : Nat) {t : TypeId} {len : Nat} {ps : List (Nat × AVal)} {qs : List (Nat × Value)} {v : AVal} {un : Bool} (hb : aBuildSlice P un st t len ps = some (v, st')) (hp : PartsRel ρ ps qs) :
    ∃ ρ' u w', (Instr.buildSlice t len qs.toArray).run P w = .ok u w' ∧ Post ρ floor st st' v w ρ' u w' ∧ st'.env = st.env ∧ st'.ob = st.ob := by
  unfold aBuildSlice at hb
  split at hb
  · rename_i e hu
    split at hb
    · rename_i i zero hi hz
      cases hc : (Nat.ble (len * i.size) 16777216 && Nat.beq zero.length i.size) with
      | false => rw [hc] at hb; cases hb
      | true =>
        rw [hc, cond_true] at hb
        simp only [Bool.and_eq_true] at hc
        have hle := Nat.le_of_ble_eq_true hc.1
        have hzl := Nat.eq_of_beq_eq_true hc.2
        split at hb
        · rename_i cells hcells
          simp only [Option.some.injEq, Prod.mk.injEq] at hb
          obtain ⟨rfl, rfl⟩ := hb
          obtain ⟨_, z, _, _, hzr, hzv⟩ := zeroOf_sound (ρ := ρ) hz
          have hrep := rep_rel hzr len (len * i.size) (by rw [hzl])
          obtain ⟨arr, h1, h2⟩ := aFill_sound hcells hrep hp
          have hlen : len ≤ len := Nat.le_refl _
          have hcap : CapOk ⟨w.heap.size, 0, cells.length, arr.size⟩ 0 (bif un && Nat.beq cells.length (len * i.size) then .un i.size else .ex len) len := by
            cases hq : (un && Nat.beq cells.length (len * i.size)) with
            | false => rfl
            | true =>
              simp only [Bool.and_eq_true] at hq
              have hq2 := Nat.eq_of_beq_eq_true hq.2
              have := h2.1
              exact ⟨by show cells.length ≤ 0 + len * i.size; omega, by show 0 + len * i.size ≤ arr.size; omega⟩
          refine ⟨_, .slice (some ⟨w.heap.size, 0, none⟩) len len, _, ?_, post_new h floor cells e arr e (by rw [h2.1]; exact Nat.le_refl _) h2.2 _ _ (fun ρ' hρ' => .sl _ 0 _ _ _ _ hρ' hcap hlen), rfl, rfl⟩
          have hgt : ¬ len * i.size > 2 ^ 24 := by omega
          by_cases h0 : len * i.size = 0
          · have h1' : Instr.fill (fun j => some (j * i.size, i.size)) #[] qs = some arr := by
              rw [h0] at h1
              rw [← h1]
              congr 1
              exact (Array.eq_empty_of_size_eq_zero (by simp)).symm
            simp [Instr.buildSlice, run_underlying hu, size_run hi, h0, h1', newRow, range0_map]
          · have hgt' : ¬ 2 ^ 24 < len * i.size := hgt
            simp [Instr.buildSlice, run_underlying hu, size_run hi, h0, hzv, h1, newRow, hgt']
        · cases hb
    · cases hb
  · cases hb

theorem wrap64_small {n : Int} (h0 : 0 ≤ n) (h1 : n ≤ 1099511627776) : IntKind.i64.wrap n = n := by
  have hm : n % (2 ^ IntKind.i64.bits : Int) = n := by
    apply Int.emod_eq_of_lt h0
    have : (2 ^ IntKind.i64.bits : Int) = 18446744073709551616 := by decide
    omega
  unfold IntKind.wrap
  simp only [hm]
  have : ¬ (n ≥ (2 ^ (IntKind.i64.bits - 1) : Int)) := by
    have : (2 ^ (IntKind.i64.bits - 1) : Int) = 9223372036854775808 := by decide
    omega
  simp [this]

theorem aMakeSlice_sound {st st' : St} {w : World} (h : Rel ρ st.mem st.next w) (floor : Nat) {t : TypeId} {x y v : AVal} {ux uy : Value} (hb : aMakeSlice P st t x y = some (v, st')) (hx : VRel ρ x ux) (hy : VRel ρ y uy) :
    ∃ ρ' u w', (Instr.makeSlice t ux uy).run P w = .ok u w' ∧ Post ρ floor st st' v w ρ' u w' ∧ st'.env = st.env ∧ st'.ob = st.ob := by
  unfold aMakeSlice at hb
  split at hb
  · rename_i e _ l _ c hu
    cases hx; cases hy
    split at hb
    · rename_i i zero hi hz
      cases hc : (Nat.beq zero.length i.size && (decide (0 ≤ l) && decide (l ≤ c) && decide (c * i.bytes ≤ 1099511627776) && decide (c ≤ 1099511627776))) with
      | false => rw [hc] at hb; cases hb
      | true =>
        rw [hc, cond_true] at hb
        simp only [Bool.and_eq_true, decide_eq_true_eq] at hc
        obtain ⟨hzl, ⟨⟨h0, hlc⟩, hcb⟩, hc40⟩ := hc
        have hzl := Nat.eq_of_beq_eq_true hzl
        simp only [Option.some.injEq, Prod.mk.injEq] at hb
        obtain ⟨rfl, rfl⟩ := hb
        obtain ⟨_, z, _, _, hzr, hzv⟩ := zeroOf_sound (ρ := ρ) hz
        have hrep := rep_rel hzr c.toNat (c.toNat * i.size) (by rw [hzl])
        have wl := wrap64_small (n := l) h0 (by omega)
        have wc := wrap64_small (n := c) (by omega) hc40
        have e1 : ¬ c < 0 := by omega
        have e2 : ¬ (281474976710656 < (i.bytes : Int) * c) := by rw [Int.mul_comm]; omega
        have e3 : ¬ l < 0 := by omega
        have e4 : ¬ c < l := by omega
        by_cases hz0 : c.toNat * i.size = 0
        · rw [hz0] at hrep
          refine ⟨_, .slice (some ⟨w.heap.size, 0, none⟩) l.toNat c.toNat, _, ?_, post_new h floor (rep c.toNat zero) e #[] e (by rw [rep_length, hzl]; simp [hz0]) (fun j h1 h2 => by simp at h2) _ _ (fun ρ' hρ' => .sl _ 0 _ _ _ _ hρ' rfl (by omega)), rfl, rfl⟩
          simp [Instr.makeSlice, run_underlying hu, asInt, asIntOf, run_typeInfo w hi, wl, wc, e1, e2, e3, e4, size_run hi, hz0, newRow, range0_map]
        · refine ⟨_, .slice (some ⟨w.heap.size, 0, none⟩) l.toNat c.toNat, _, ?_, post_new h floor (rep c.toNat zero) e _ e (by rw [hrep.1]; exact Nat.le_refl _) hrep.2 _ _ (fun ρ' hρ' => .sl _ 0 _ _ _ _ hρ' rfl (by omega)), rfl, rfl⟩
          simp [Instr.makeSlice, run_underlying hu, asInt, asIntOf, run_typeInfo w hi, wl, wc, e1, e2, e3, e4, size_run hi, hz0, newRow, hzv]
    · cases hb
  · cases hb

end
end Go.Am
