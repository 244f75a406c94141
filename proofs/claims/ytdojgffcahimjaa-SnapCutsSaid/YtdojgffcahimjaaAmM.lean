/- A region that draws its order, the whole; the runs; calls. -/
import Derived.Test.YtdojgffcahimjaaAmL
namespace Go.Am

section
variable {P : Program} {D : List Deferred} {ops : Array Oper} {cx : Ctx} {st : St} {f : Nat → St}

theorem alloc_run {ρ : Rho} {o : Oper} {t : TypeId} {z : List AVal} (ho : o.op = .alloc t) (hz : zeroOf P t = some z) (a : Act) (w : World) :
    ∃ vs : Array Value, VRels ρ z vs ∧ (execOp a.eval o).run P w = .ok (.value (.pointer (some ⟨w.heap.size, 0, none⟩))) { w with heap := w.heap.push (.cells vs t) } := by
  obtain ⟨dst, op, type, pos, after, guard⟩ := o
  simp only at ho
  subst ho
  obtain ⟨_, zv, _, _, hzr, hzv⟩ := zeroOf_sound (ρ := ρ) hz
  exact ⟨zv.cells, hzr, by simp [execOp, Instr.alloc, hzv, newVar, newRow]⟩

theorem draw_any (g : Reg P ops cx st f) {ρ0 : Rho} {w0 : World} (hout : ∀ i, cx.n ≤ i → T.get .undef st.env i = .undef) (hbd : ∀ b, st.next ≤ b → mget st.mem b = none) : ∀ (fuel : Nat) (listed : Array Bool) (p : Nat) (ρ : Rho) (a : Act) (w : World), listed.size = ops.size →
    (List.range ops.size).countP (fun i => !listed.getD i false) = fuel → Inv P D ops cx st f ρ0 w0 (fun i => listed.getD i false) p ρ a w → wpAny P .any ops (Fin D ρ0 cx st (f ops.size) w0) fuel listed a w := by
  -- an operation that is not carried out yet is ready, if there is one
  have someReady : ∀ listed : Array Bool, listed.size = ops.size → ∀ i, i < ops.size → listed.getD i false = false → ∃ j, j ∈ Region.ready .any ops listed := by
    intro listed hsz i
    induction i using Nat.strongRecOn with
    | _ i ih =>
      intro hi hl
      by_cases h : ∃ e ∈ (ops[i]).after.toList, Region.binds .any e = true ∧ listed.getD e.on false = false
      · obtain ⟨e, he, hb, hf⟩ := h
        have hlt := g.chk.ord i ops[i] (by simp [hi]) e he hb
        exact ih e.on hlt (by omega) hf
      · refine ⟨i, mem_ready.2 ⟨?_, ops[i], by simp [hi], fun e he hb => ?_⟩⟩
        · have : i < listed.size := by omega
          simpa [this] using hl
        · cases hf : listed.getD e.on false with
          | true => rfl
          | false => exact absurd ⟨e, Array.mem_toList_iff.2 he, hb, hf⟩ h
  intro fuel
  induction fuel with
  | zero =>
    intro listed p ρ a w hsz hcnt I
    have hall : ∀ i, i < ops.size → listed.getD i false = true := by
      intro i hi
      have := List.countP_eq_zero.1 hcnt i (List.mem_range.2 hi)
      simpa using this
    refine ⟨?_, rfl, I.defers, ρ, ?_, ?_, ?_⟩
    · cases hr : Region.ready .any ops listed with
      | nil => rfl
      | cons j r =>
        have hj : j ∈ Region.ready .any ops listed := by rw [hr]; simp
        obtain ⟨h1, o, ho, _⟩ := mem_ready.1 hj
        have hjl : j < ops.size := (Array.getElem?_eq_some_iff.1 ho).1
        have := hall j hjl
        have hj2 : j < listed.size := by omega
        simp [hj2] at h1 this
        rw [h1] at this; cases this
    · refine ⟨I.tsz, fun t => ?_, fun i hi => ?_⟩
      · by_cases hw : ∃ (i : Nat) (x : Oper), ops[i]? = some x ∧ x.dst = some t
        · obtain ⟨i, x, hx, hd⟩ := hw
          have hil : i < ops.size := (Array.getElem?_eq_some_iff.1 hx).1
          obtain ⟨k, hk, rfl⟩ := at_of hil
          have hst : (f ops.size).tmp t = (f (k + 1)).tmp t := g.slot_stays (by omega) (Nat.le_refl _) fun q y h1 h2 hy hyd => by
            have e : at_ ops k = at_ ops q := distinct g hx hy hd hyd
            rcases at_ord (ops := ops) (k1 := k) (k2 := q) (by omega) h2 with ⟨h3, h4⟩ | ⟨_, h4⟩
            · rw [e, h4] at h3; cases h3
            · omega
          show VRel ρ ((f ops.size).tmp t) _
          rw [hst]
          exact I.done k x t hk hx (hall _ hil) hd
        · have hst : (f ops.size).tmp t = (f 0).tmp t := g.slot_stays (Nat.zero_le _) (Nat.le_refl _) fun q y _ h2 hy hyd => hw ⟨_, y, hy, hyd⟩
          show VRel ρ ((f ops.size).tmp t) _
          rw [hst, g.f0]
          exact I.undone t fun i x hx _ hd => hw ⟨i, x, hx, hd⟩
      · have hst : (f ops.size).tmp i = (f 0).tmp i := g.slot_stays (Nat.zero_le _) (Nat.le_refl _) fun q y _ h2 hy hyd => by
          obtain ⟨o, ho, s⟩ := g.step' h2
          rw [hy] at ho
          obtain rfl := Option.some.inj ho
          exact absurd hi (Nat.not_le_of_lt (s.slot i hyd))
        show (f ops.size).tmp i = _
        rw [hst, g.f0]
        exact hout i hi
    · obtain ⟨e1, e2⟩ := g.mem_stays I.ple (Nat.le_refl _) fun k o h1 h2 ho => by
        rcases kinds o with h | h | h | h
        · exact .inl h
        · exact .inr h
        · have := I.past k o h2 ho h; omega
        · have := (I.chain k o h2 ho h).1 (hall _ (at_lt h2)); omega
      rw [e1, e2]; exact I.rel
    · obtain ⟨e1, e2⟩ := g.mem_stays I.ple (Nat.le_refl _) fun k o h1 h2 ho => by
        rcases kinds o with h | h | h | h
        · exact .inl h
        · exact .inr h
        · have := I.past k o h2 ho h; omega
        · have := (I.chain k o h2 ho h).1 (hall _ (at_lt h2)); omega
      rw [e1, e2]; exact I.ev
  | succ fuel ih =>
    intro listed p ρ a w hsz hcnt I
    refine ⟨fun hr => ?_, fun i hi => ?_⟩
    · exfalso
      have : ∃ i, i < ops.size ∧ listed.getD i false = false := by
        have hpos : 0 < (List.range ops.size).countP (fun i => !listed.getD i false) := by omega
        obtain ⟨i, hi, h⟩ := List.countP_pos_iff.1 hpos
        exact ⟨i, List.mem_range.1 hi, by simpa using h⟩
      obtain ⟨i, hi, h⟩ := this
      obtain ⟨j, hj⟩ := someReady listed hsz i hi h
      rw [hr] at hj; cases hj
    · obtain ⟨hun, o, ho, hafter⟩ := mem_ready.1 hi
      have hil : i < ops.size := (Array.getElem?_eq_some_iff.1 ho).1
      obtain ⟨k, hk, rfl⟩ := at_of hil
      have hil2 : at_ ops k < listed.size := by omega
      have hns : listed.getD (at_ ops k) false = false := by simpa [hil2] using hun
      have hready : Ready (fun i => listed.getD i false) o := fun e he hb => hafter e (Array.mem_toList_iff.1 he) hb
      have hS : ∀ j, (listed.setIfInBounds (at_ ops k) true).getD j false = (listed.getD j false || j == at_ ops k) := by
        intro j
        by_cases hj : j = at_ ops k
        · subst hj; simp [hil2]
        · have : (j == at_ ops k) = false := by simpa using hj
          simp [this, Array.getElem?_setIfInBounds_ne (Ne.symm hj)]
      have hcnt' : (List.range ops.size).countP (fun i => !(listed.setIfInBounds (at_ ops k) true).getD i false) = fuel := by
        have := countP_update (fun i => !listed.getD i false) (fun i => !(listed.setIfInBounds (at_ ops k) true).getD i false) (at_ ops k) ops.size (fun j hj => by
          rw [hS]; simp [hj]) (by simp only [hns]; rfl) (by rw [hS]; simp) hil
        omega
      have hsz' : (listed.setIfInBounds (at_ ops k) true).size = ops.size := by simpa using hsz
      have hclosed := I.closes ho hready hS
      obtain ⟨o', ho', s⟩ := g.step' hk
      rw [ho] at ho'
      obtain rfl := Option.some.inj ho'
      have hops := I.operands g hk ho hns hready
      have hguard : ∀ d, guardSlot ops o = some d → VRel ρ ((f k).tmp d) (a.tmps.getD d undef) := fun d hd => I.looks g hk ho hns hready (looksAt_guard hd)
      have hob := g.ob (k + 1) (by omega)
      have finish : ∀ {q : Prop}, (if Region.wanted o (yielded ops a.tmps) then o.wp P a w (wpAny P .any ops (Fin D ρ0 cx st (f ops.size) w0) fuel (listed.setIfInBounds (at_ ops k) true)) (Fin D ρ0 cx st (f ops.size) w0) else wpAny P .any ops (Fin D ρ0 cx st (f ops.size) w0) fuel (listed.setIfInBounds (at_ ops k) true) (a.put o.dst undef) w) →
          wpOp P ops (Fin D ρ0 cx st (f ops.size) w0) (at_ ops k) (wpAny P .any ops (Fin D ρ0 cx st (f ops.size) w0) fuel (listed.setIfInBounds (at_ ops k) true)) a w := by
        intro _ h
        unfold wpOp
        rw [ho]
        simp only
        split
        · rename_i hw; rw [if_pos hw] at h; exact .inl h
        · rename_i hw; rw [if_neg hw] at h; exact h
      -- what does not touch memory but to read it
      have calm : (kindOf o.op = .pure ∨ kindOf o.op = .read) → wpOp P ops (Fin D ρ0 cx st (f ops.size) w0) (at_ ops k) (wpAny P .any ops (Fin D ρ0 cx st (f ops.size) w0) fuel (listed.setIfInBounds (at_ ops k) true)) a w := by
        intro hkd
        refine finish (q := True) (s.calm hob hkd ρ a w (f k).eval (f p).mem (f p).next I.tsz (fun _ _ => rfl) hguard hops I.rel ?_ _ _ fun u hval => ?_)
        · intro t y b ab hop hrd hm
          have hread : kindOf o.op = .read := by rw [hop]; rfl
          obtain ⟨b1, b2⟩ := I.between g hk ho hns hready hread hrd
          have hρ : ∃ l, ρ b = some l := by
            have := hops y (by rw [hop]; simp [Op.operands])
            rw [hop] at hrd
            simp only [rdOf] at hrd
            generalize a.eval y = uy at this
            split at hrd
            · rename_i hy
              rw [hy] at this
              obtain rfl := Option.some.inj hrd
              cases this with
              | ptr _ _ l h => exact ⟨l, h⟩
            · rename_i hy
              rw [hy] at this
              obtain rfl := Option.some.inj hrd
              cases this with
              | epa _ _ _ _ l h => exact ⟨l, h⟩
            · cases hrd
          obtain ⟨l, hl⟩ := hρ
          rcases Nat.le_total p k with hpk | hpk
          · have := g.blk_stays (x := b) hpk (by omega) (I.rel.dom b l hl) b1
            rw [← this]; exact hm
          · have hbn : b < (f k).next := by
              rcases Nat.lt_or_ge b (f k).next with h | h
              · exact h
              · rw [g.bd hbd (by omega) b h] at hm; cases hm
            have := g.blk_stays (x := b) hpk I.ple hbn b2
            rw [this]; exact hm
        · obtain ⟨d1, d2⟩ := I.slots g hk ho hns (Rho.le_refl ρ) hval hS
          refine ih _ p ρ _ w hsz' hcnt' ⟨hclosed, by rw [Act.put_defers']; exact I.defers, by cases h : o.dst <;> simp [Act.put, I.tsz], d1, d2, I.ple, I.past, fun q x hq hx hc => ?_, I.rel, I.ev, fun q x t z hq hx hop hz hs => ?_⟩
          · have hne : at_ ops q ≠ at_ ops k := fun e => by
              rw [e, ho] at hx
              obtain rfl := Option.some.inj hx
              rcases hc with h | h <;> rcases hkd with h' | h' <;> rw [h] at h' <;> cases h'
            rw [hS]
            simpa [hne] using I.chain q x hq hx hc
          · rw [hS] at hs
            simp only [Bool.or_eq_false_iff] at hs
            exact I.allocs q x t z hq hx hop hz hs.1
      rcases kinds o with hkd | hkd | hkd | hkd
      · exact calm (.inl hkd)
      · exact calm (.inr hkd)
      · -- a variable is made
        obtain ⟨t, z, hop, hz, _, _, hptr⟩ := s.alloc hkd (g.chk.guard _ o ho hkd)
        obtain ⟨l1, l2, l3, l4⟩ := I.allocs k o t z hk ho hop hz hns
        obtain ⟨vs, hvs, hrun⟩ := alloc_run (P := P) (ρ := ρ) hop hz a w
        have hrel' := I.rel.birth l2 l3 l4 t hvs
        refine finish (q := True) ?_
        rw [if_pos (by unfold Region.wanted; rw [g.chk.guard _ o ho hkd])]
        unfold Oper.wp
        rw [hrun]
        have hle : ρ.le (rhoAdd ρ (f k).next ⟨w.heap.size, 0, z.length, vs.size⟩) := rhoAdd_le l3
        obtain ⟨d1, d2⟩ := I.slots g hk ho hns hle (u := .pointer (some ⟨w.heap.size, 0, none⟩)) (fun d hd => by
          rw [hptr d hd]
          exact .ptr _ 0 ⟨w.heap.size, 0, z.length, vs.size⟩ (by simp [rhoAdd])) hS
        have ev' : Ev ρ0 (rhoAdd ρ (f k).next ⟨w.heap.size, 0, z.length, vs.size⟩) cx.floor st.mem st.next (f p).mem (f p).next w0 { w with heap := w.heap.push (.cells vs t) } := by
          have e := I.ev
          refine ⟨Rho.le_trans e.ext hle, fun b hb => ?_, e.nxt, e.unborn, fun q ob hq hf => ?_, fun b l hb hl => ?_, ?_, e.os, e.tape, e.output, e.still⟩
          · rw [← e.new b hb]; rw [rhoAdd_get, if_neg (by omega)]
          · have := e.frame q ob hq hf
            have hlt : q < w.heap.size := (Array.getElem?_eq_some_iff.1 this).1
            simp only [Array.getElem?_push, Nat.ne_of_lt hlt, if_false]
            exact this
          · rw [rhoAdd_get] at hl
            by_cases hbk : b = (f k).next
            · rw [if_pos hbk] at hl
              obtain rfl := Option.some.inj hl
              exact .inl e.size
            · rw [if_neg hbk] at hl; exact e.fresh b l hb hl
          · have := e.size; simp; omega
        refine ih _ p _ _ _ hsz' hcnt' ⟨hclosed, by rw [Act.put_defers']; exact I.defers, by cases h : o.dst <;> simp [Act.put, I.tsz], d1, d2, I.ple, I.past, fun q x hq hx hc => ?_, hrel', ev', fun q x t' z' hq hx hop' hz' hs => ?_⟩
        · have hne : at_ ops q ≠ at_ ops k := fun e => by
            rw [e, ho] at hx
            obtain rfl := Option.some.inj hx
            rcases hc with h | h <;> rw [h] at hkd <;> cases hkd
          rw [hS]
          simpa [hne] using I.chain q x hq hx hc
        · rw [hS] at hs
          simp only [Bool.or_eq_false_iff] at hs
          obtain ⟨m1, m2, m3, m4⟩ := I.allocs q x t' z' hq hx hop' hz' hs.1
          refine ⟨m1, m2, ?_, m4⟩
          have hne : (f q).next ≠ (f k).next := by
            have hqk : q ≠ k := fun e => by rw [e] at hs; simp at hs
            have up : ∀ q x t z, q < ops.size → ops[at_ ops q]? = some x → x.op = .alloc t → zeroOf P t = some z → (f (q + 1)).next = (f q).next + 1 := by
              intro q x t z hq hx hop hz
              obtain ⟨x', hx', s'⟩ := g.step' hq
              rw [hx] at hx'
              obtain rfl := Option.some.inj hx'
              have hkx : kindOf x.op = .alloc := by rw [hop]; rfl
              obtain ⟨_, _, _, _, _, h6, _⟩ := s'.alloc hkx (g.chk.guard _ x hx hkx)
              exact h6
            rcases Nat.lt_trichotomy q k with h | h | h
            · have h1 := up q x t' z' hq hx hop' hz'
              have h2 := g.next_le (a := q + 1) (b := k) (by omega) (by omega)
              omega
            · exact absurd h hqk
            · have h1 := up k o t z hk ho hop hz
              have h2 := g.next_le (a := k + 1) (b := q) (by omega) (by omega)
              omega
          rw [rhoAdd_get]
          rw [if_neg hne]; exact m3
      · -- the next one that may write
        obtain ⟨hpk, hch⟩ := I.next_chain g hk ho hns hready hkd
        obtain ⟨e1, e2⟩ := g.mem_stays hpk (by omega) fun q x h1 h2 hx => by
          rcases kinds x with h | h | h | h
          · exact .inl h
          · exact .inr h
          · have := I.past q x (by omega) hx h; omega
          · have := (I.chain q x (by omega) hx h).1 ((hch q x (by omega) hx h).2 h2); omega
        have hrel : Rel ρ (f k).mem (f k).next w := by rw [e1, e2]; exact I.rel
        refine finish (q := True) (s.does hob ρ a w (f k).eval I.tsz (fun _ _ => rfl) hguard hops hrel _ _ fun ρ' u w' hval hrel' hev => ?_)
        obtain ⟨d1, d2⟩ := I.slots g hk ho hns hev.ext hval hS
        rw [e1, e2] at hev
        refine ih _ (k + 1) ρ' _ w' hsz' hcnt' ⟨hclosed, by rw [Act.put_defers']; exact I.defers, by cases h : o.dst <;> simp [Act.put, I.tsz], d1, d2, by omega, fun q x hq hx hc => by have := I.past q x hq hx hc; omega, fun q x hq hx hc => ?_, hrel', I.ev.trans hev, fun q x t z hq hx hop hz hs => ?_⟩
        · rw [hS]
          by_cases hqk : q = k
          · subst hqk; simp
          · have hne : at_ ops q ≠ at_ ops k := fun e => by
              rcases Nat.lt_or_ge q k with h | h
              · rcases at_ord (ops := ops) h hk with ⟨h3, h4⟩ | ⟨_, h4⟩
                · rw [e, h4] at h3; cases h3
                · omega
              · rcases at_ord (ops := ops) (k1 := k) (k2 := q) (by omega) hq with ⟨h3, h4⟩ | ⟨_, h4⟩
                · rw [← e, h4] at h3; cases h3
                · omega
            have := hch q x hq hx hc
            simp only [beq_eq_false_iff_ne.2 hne, Bool.or_false]
            rw [this]; omega
        · rw [hS] at hs
          simp only [Bool.or_eq_false_iff] at hs
          obtain ⟨m1, m2, m3, m4⟩ := I.allocs q x t z hq hx hop hz hs.1
          refine ⟨m1, Nat.lt_of_lt_of_le m2 hev.nxt, by rw [hev.new _ m2]; exact m3, hev.unborn _ m2 m3 _ _ m4⟩

theorem Ev.drawn_left {ρ ρ' : Rho} {floor : Nat} {m m' : Mem} {next next' : Nat} {w w' : World} (h : Ev ρ ρ' floor m next m' next' w.drew w') : Ev ρ ρ' floor m next m' next' w w' :=
  ⟨h.ext, h.new, h.nxt, h.unborn, h.frame, h.fresh, h.size, h.os, h.tape, h.output, h.still⟩

/-- The start of the region: its variables are not made yet. -/
theorem inv_start (g : Reg P ops cx st f) {ρ : Rho} {a : Act} {w : World} (hd : a.defers = D) (henv : EnvRel ρ st.env cx.n a.tmps) (hrel : Rel ρ st.mem st.next w) :
    ∃ p, Inv P D ops cx st f ρ w (fun i => (Array.replicate ops.size false).getD i false) p ρ a w := by
  have hf : ∀ i, (Array.replicate ops.size false).getD i false = false := fun i => by
    by_cases h : i < ops.size
    · simp [h]
    · simp [h]
  -- the place where the making of variables ends
  have hA : ∃ p, p ≤ ops.size ∧ ∀ k o, k < ops.size → ops[at_ ops k]? = some o → (kindOf o.op = .alloc ↔ k < p) := by
    have hmono : ∀ k1 k2, k1 < k2 → k2 < ops.size → isAlloc ops (at_ ops k2) = true → isAlloc ops (at_ ops k1) = true := by
      intro k1 k2 h1 h2 h3
      rcases at_ord (ops := ops) h1 h2 with ⟨h, _⟩ | ⟨h, _⟩
      · exact h
      · rw [h]; exact h3
    have : ∀ n, n ≤ ops.size → ∃ p, p ≤ n ∧ ∀ k, k < n → (isAlloc ops (at_ ops k) = true ↔ k < p) := by
      intro n
      induction n with
      | zero => intro _; exact ⟨0, Nat.le_refl _, fun k h => by omega⟩
      | succ n ih =>
        intro hn
        obtain ⟨p, hp, hk⟩ := ih (by omega)
        cases e : isAlloc ops (at_ ops n) with
        | true =>
          refine ⟨n + 1, Nat.le_refl _, fun k h => ⟨fun _ => h, fun _ => ?_⟩⟩
          by_cases hkn : k = n
          · rw [hkn]; exact e
          · exact hmono k n (by omega) (by omega) e
        | false =>
          refine ⟨p, by omega, fun k h => ?_⟩
          by_cases hkn : k = n
          · rw [hkn, e]
            constructor
            · intro h; cases h
            · intro h; omega
          · exact hk k (by omega)
    obtain ⟨p, hp, hk⟩ := this ops.size (Nat.le_refl _)
    exact ⟨p, hp, fun k o h ho => by rw [← isAlloc_iff ho]; exact hk k h⟩
  obtain ⟨p, hp, hpk⟩ := hA
  -- each of them, abstractly
  have allocAt : ∀ k, k < p → ∃ o t z, ops[at_ ops k]? = some o ∧ o.op = .alloc t ∧ zeroOf P t = some z ∧ (f (k + 1)).mem = mset (f k).mem (f k).next (some ⟨z, t, none⟩) ∧ (f (k + 1)).next = (f k).next + 1 := by
    intro k hk
    obtain ⟨o, ho, s⟩ := g.step' (k := k) (by omega)
    have hkd := (hpk k o (by omega) ho).2 hk
    obtain ⟨t, z, h1, h2, h3, h4, _⟩ := s.alloc hkd (g.chk.guard _ o ho hkd)
    exact ⟨o, t, z, ho, h1, h2, h3, h4⟩
  have start : ∀ k, k ≤ p → Rel ρ (f k).mem (f k).next w ∧ Ev ρ ρ cx.floor st.mem st.next (f k).mem (f k).next w w := by
    intro k
    induction k with
    | zero => intro _; rw [g.f0]; exact ⟨hrel, Ev.refl _ _ _ _ _ hrel.dom⟩
    | succ k ih =>
      intro hk
      obtain ⟨hr, he⟩ := ih (by omega)
      obtain ⟨o, t, z, _, _, _, h3, h4⟩ := allocAt k (by omega)
      rw [h3, h4]
      refine ⟨hr.unborn _, he.trans ⟨Rho.le_refl _, fun _ _ => rfl, Nat.le_succ _, fun b hb _ cs ty hm => by rw [mget_mset_ne _ _ (by omega)]; exact hm, fun _ _ h _ => h, fun b l hb hl => by have := hr.dom b l hl; omega, Nat.le_refl _, rfl, rfl, rfl, fun _ _ => rfl⟩⟩
  have later : ∀ k k', k < k' → k' ≤ p → (f k).next < (f k').next ∧ mget (f k').mem (f k).next = mget (f (k + 1)).mem (f k).next := by
    intro k k' hk
    induction k' with
    | zero => omega
    | succ k' ih =>
      intro hk'
      obtain ⟨o, t, z, _, _, _, h3, h4⟩ := allocAt k' (by omega)
      by_cases e : k = k'
      · subst e; exact ⟨by omega, rfl⟩
      · obtain ⟨h1, h2⟩ := ih (by omega) (by omega)
        refine ⟨by omega, ?_⟩
        rw [h3, mget_mset_ne _ _ (by omega)]; exact h2
  obtain ⟨hrp, hep⟩ := start p (Nat.le_refl _)
  refine ⟨p, ?_, hd, henv.size, ?_, ?_, hp, ?_, ?_, hrp, hep, ?_⟩
  · intro j o _ hs; simp only [hf] at hs; cases hs
  · intro k o d _ _ hs; simp only [hf] at hs; cases hs
  · intro t _; exact henv.get t
  · intro k o hk ho hkd; exact (hpk k o hk ho).1 hkd
  · intro k o hk ho hc
    simp only [hf]
    constructor
    · intro h; cases h
    · intro h
      have := (hpk k o hk ho).2 h
      rcases hc with h' | h' <;> rw [h'] at this <;> cases this
  · intro k o t z hk ho hop hz _
    have hkp : k < p := (hpk k o hk ho).1 (by rw [hop]; rfl)
    obtain ⟨o', t', z', ho', hop', hz', h3, h4⟩ := allocAt k hkp
    rw [ho] at ho'
    obtain rfl := Option.some.inj ho'
    rw [hop] at hop'
    obtain rfl : t = t' := by injection hop'
    rw [hz] at hz'
    obtain rfl := Option.some.inj hz'
    obtain ⟨h5, h6⟩ := later k p hkp (Nat.le_refl _)
    have hge : st.next ≤ (f k).next := by
      have := g.next_le (a := 0) (b := k) (Nat.zero_le _) (by omega)
      rw [g.f0] at this; exact this
    refine ⟨hge, h5, ?_, ?_⟩
    · cases e : ρ (f k).next with
      | none => rfl
      | some l => have := hrel.dom _ l e; omega
    · rw [h6, h3, mget_mset_same]

theorem opsDraw_sound {S : Specs} {R : Runner} (hN : Named P) (hS : SpecsOk P S) (hRI : RInv R) (hR : ROk P R) {st' : St} (hcx : cx.floor ≤ st.next) (hchk : drawOk ops = true)
    (h : opsRunD P S R ops cx (drawList ops) [] st = some st') (ho : st'.ob = true) {ρ : Rho} {a : Act} {w : World} (hd : a.defers = D) (henv : EnvRel ρ st.env cx.n a.tmps) (hrel : Rel ρ st.mem st.next w) :
    wpAny P .any ops (Fin D ρ cx st st' w) ops.size (Array.replicate ops.size false) a w := by
  obtain ⟨f, f0, fn, fs, _, fp⟩ := opsRunD_trace (drawList ops) [] st st' h
  have hlen : (drawList ops).length = ops.size := by simp [drawList, drawOrder_length]
  rw [hlen] at fn
  have hstep : ∀ (k : Nat) (hk : k < (drawOrder ops).length), cx.floor ≤ (f k).next → Step1 P ops cx (lifts ops (drawOrder ops)[k], ops.getD (drawOrder ops)[k] default) (f k) (f (k + 1)) := by
    intro k hk hc
    have := fs k (by rw [hlen, ← drawOrder_length]; exact hk)
    simp only [drawList, List.getElem_map] at this
    exact step1_spec hN hS hRI hR hc this
  have hnx : ∀ k, k ≤ ops.size → cx.floor ≤ (f k).next := by
    intro k
    induction k with
    | zero => intro _; rw [f0]; exact hcx
    | succ k ih =>
      intro hk
      have hc := ih (by omega)
      exact Nat.le_trans hc (hstep k (by rw [drawOrder_length]; omega) hc).inv.nxt
  have hob : ∀ k, k ≤ ops.size → (f (ops.size - k)).ob = true := by
    intro k
    induction k with
    | zero => intro _; rw [Nat.sub_zero, fn]; exact ho
    | succ k ih =>
      intro hk
      have hk' : ops.size - (k + 1) < (drawOrder ops).length := by rw [drawOrder_length]; omega
      have s := hstep _ hk' (hnx _ (by omega))
      refine s.inv.ob ?_
      rw [show ops.size - (k + 1) + 1 = ops.size - k by omega]
      exact ih (by omega)
  have g : Reg P ops cx st f := ⟨drawOk_spec hchk, f0, hcx, fun k hk => by
    have := hob (ops.size - k) (by omega)
    rwa [show ops.size - (ops.size - k) = k by omega] at this, fun k hk => hstep k hk (hnx k (by rw [drawOrder_length] at hk; omega)), fun q k hq hk => by
      have := fp q k hq (by rw [hlen, ← drawOrder_length]; exact hk)
      simpa only [drawList, List.getElem_map] using this⟩
  obtain ⟨p, I⟩ := inv_start g hd henv hrel
  have := draw_any g henv.out hrel.bd ops.size (Array.replicate ops.size false) p ρ a w (by simp) (by
    rw [List.countP_eq_length.2]
    · simp
    · intro i hi
      have := List.mem_range.1 hi
      simp [this]) I
  rwa [fn] at this

/-! ### Runs -/
theorem opsRun_inv {S : Specs} {R : Runner} (hRI : RInv R) : ∀ (l : List (Bool × Oper)) (st st' : St), opsRun P S R ops cx l st = some st' → AInv cx.floor st st'
  | [], st, st', h => by
    have h : some st = some st' := h
    obtain rfl := Option.some.inj h
    exact AInv.refl _ _
  | x :: l, st, st', h => by
    rw [opsRun_cons, Option.bind_eq_some_iff] at h
    obtain ⟨st1, h1, h2⟩ := h
    refine AInv.trans ?_ (opsRun_inv hRI l st1 st' h2)
    unfold step1 at h1
    split at h1
    · cases h1
    · rename_i st2 hw
      obtain ⟨w1, w2, w3⟩ := aWanted_abs hw
      refine (AInv.same w1 w2 fun h => (w3 h).1).trans ?_
      unfold opStep at h1
      split at h1
      · split at h1
        · rename_i st3 ho
          obtain ⟨_, e2, e3, e4⟩ := owe_spec ho
          obtain ⟨p1, p2, p3, _⟩ := put_spec h1
          exact (AInv.same e2 e3 fun h => (e4 h).2).trans (AInv.same p1 p2 fun h => by rw [← p3]; exact h)
        · cases h1
      · split at h1
        · rename_i v st3 he
          obtain ⟨p1, p2, p3, _⟩ := put_spec h1
          exact (aEffect_inv hRI he).1.trans (AInv.same p1 p2 fun h => by rw [← p3]; exact h)
        · cases h1
    · rename_i st2 hw
      obtain ⟨w1, w2, w3⟩ := aWanted_abs hw
      obtain ⟨p1, p2, p3, _⟩ := put_spec h1
      exact (AInv.same w1 w2 fun h => (w3 h).1).trans (AInv.same p1 p2 fun h => by rw [← p3]; exact h)

theorem opsRunD_inv {S : Specs} {R : Runner} (hRI : RInv R) (l : List (Nat × Bool × Oper)) (acc : List Foot) (st st' : St) (h : opsRunD P S R ops cx l acc st = some st') : AInv cx.floor st st' := by
  obtain ⟨f, f0, fn, fs, _, _⟩ := opsRunD_trace l acc st st' h
  have : ∀ k, k ≤ l.length → AInv cx.floor st (f k) := by
    intro k
    induction k with
    | zero => intro _; rw [f0]; exact AInv.refl _ _
    | succ k ih =>
      intro hk
      refine (ih (by omega)).trans ?_
      have := fs k (by omega)
      exact opsRun_inv hRI [l[k].2] (f k) (f (k + 1)) (by rw [opsRun_cons, this]; rfl)
  rw [← fn]; exact this _ (Nat.le_refl _)

theorem runBody_inv {S : Specs} {Rc R : Runner} (hCI : RInv Rc) (hRI : RInv R) : RInv (runBody P S Rc R) := by
  intro cx todo st st' h
  unfold runBody at h
  split at h
  · obtain rfl := Option.some.inj h; exact AInv.refl _ _
  · obtain rfl := Option.some.inj h; exact AInv.refl _ _
  · exact hRI _ _ _ _ h
  · exact hRI _ _ _ _ h
  · exact hRI _ _ _ _ h
  · exact hRI _ _ _ _ h
  · exact hRI _ _ _ _ h
  · split at h
    · split at h
      rename_i e st1 ht
      obtain ⟨_, t2, t3, t4⟩ := test_spec ht
      exact (AInv.same t2 t3 fun h => (t4 h).2).trans (hRI _ _ _ _ h)
    · cases h
  · exact hRI _ _ _ _ h
  · exact hRI _ _ _ _ h
  · exact hRI _ _ _ _ h
  · exact hRI _ _ _ _ h
  · split at h
    · exact hRI _ _ _ _ h
    · cases h
  · split at h
    · rename_i st1 ho
      exact (opsRun_inv hCI _ _ _ ho).trans (hRI _ _ _ _ h)
    · cases h
  · obtain ⟨_, h⟩ := bif_inv h
    split at h
    · rename_i st1 ho
      exact (opsRunD_inv hCI _ _ _ _ ho).trans (hRI _ _ _ _ h)
    · cases h
  · cases h

theorem run_inv (S : Specs) : ∀ n, RInv (run P S n)
  | 0 => fun cx todo st st' h => by cases h
  | n + 1 => runBody_inv (run_inv S n) (run_inv S n)

end
end Go.Am
