/- append and copy, continued. -/
import Derived.Test.YtifflimkboemjaaAmG
namespace Go.Am

section
variable {P : Program} {ρ : Rho} {H : Old}

/-- There is room: the new cells are written behind the old ones. -/
theorem run_append_in {t u e : TypeId} {ut : TypeDesc} {i : TypeInfo} {type : TypeId} (hu : P.underlying t = some (.slice e)) (hut : P.underlying u = some ut) (hni : ∀ k, ut ≠ .int k) (hi : P.info? e = some i) {ts : List TypeId} {base : Option Addr} {len n c : Nat} {x : Value} {vs : Array Value} {xs : List Value} {w : World}
    (hlen : (Builtin.lenOf x).run P w = .ok n w) (hfirst : (Builtin.firstCells i.size n x).run P w = .ok vs w) (hroom : len + n ≤ c) {w' : World}
    (hst : ∀ a, base = some a → (storeCells (a.add (len * i.size)) vs.toList).run P w = .ok () w') (hno : base = none → w' = w) :
    (Builtin.append_ (t :: u :: ts).toArray type ((.slice base len c) :: x :: xs).toArray).run P w = .ok (.slice base (len + n) c) w' := by
  cases base with
  | none =>
    obtain rfl := hno rfl
    simp [Builtin.append_, run_underlying hu, run_underlying hut, size_run hi, hlen, hfirst, hroom]
  | some a =>
    have := hst a rfl
    simp [Builtin.append_, run_underlying hu, run_underlying hut, size_run hi, hlen, hfirst, hroom, this]

/-- There is no room: a new row, of some capacity. -/
theorem run_append_new {t u e : TypeId} {ut : TypeDesc} {i : TypeInfo} {type : TypeId} (hu : P.underlying t = some (.slice e)) (hut : P.underlying u = some ut) (hni : ∀ k, ut ≠ .int k) (hi : P.info? e = some i) {z : Value} (hz : i.zero = some z) {ts : List TypeId} {base : Option Addr} {len n c : Nat} {x : Value} {vs old : Array Value} {xs : List Value} {w : World}
    (hlen : (Builtin.lenOf x).run P w = .ok n w) (hfirst : (Builtin.firstCells i.size n x).run P w.drew = .ok vs w.drew) (hold : (Builtin.firstCells i.size len (.slice base len c)).run P w.drew = .ok old w.drew)
    (hroom : c < len + n) (hbytes : (len + n + 1) * (i.bytes + 1) ≤ 1099511627776) :
    ∃ newCap, len + n ≤ newCap ∧ ∃ rest : Array Value, rest.size = (newCap - (len + n)) * z.cells.size ∧
    (Builtin.append_ (t :: u :: ts).toArray type ((.slice base len c) :: x :: xs).toArray).run P w = .ok (.slice (some ⟨w.heap.size, 0, none⟩) (len + n) newCap) (w.drew.alloc (.cells (old ++ vs ++ rest) e)) := by
  have hmul : len + n + 1 ≤ (len + n + 1) * (i.bytes + 1) := Nat.le_mul_of_pos_right _ (by omega)
  have hr := room_ok hbytes hroom
  have hr' : ¬ 2 ^ 48 < Builtin.nextslicecap (len + n) c * i.bytes := hr
  have hr'' : ¬ 281474976710656 < Builtin.nextslicecap (len + n) c * i.bytes := hr
  have h1 : ¬ len + n ≤ c := by omega
  have h2 : ¬ (9223372036854775807 < (len : Int) + (n : Int)) := by omega
  have hq : (Question.appendCap (len + n) c e).forced = false := rfl
  have hzero : ∀ w, (zeroValue e).run P w = .ok z w := fun w => by simp [zeroValue, run_typeInfo w hi, hz]
  refine ⟨(Question.appendCap (len + n) c e).cut (w.tape w.drawn (Question.appendCap (len + n) c e)), by simp only [Question.cut]; omega, Builtin.zeroCells z.cells ((Question.appendCap (len + n) c e).cut (w.tape w.drawn (Question.appendCap (len + n) c e)) - (len + n)), by simp [Builtin.zeroCells], ?_⟩
  have hty : ∀ w, (typeInfo e).run P w = .ok i w := fun w => run_typeInfo w hi
  simp [Builtin.append_, run_underlying hu, run_underlying hut, size_run hi, hlen, h1, h2, hty, hr'', hq, hfirst, hold, hzero, newRow]

theorem VRels.append {a b : List AVal} {us vs : Array Value} (h : VRels ρ H a us) (k : VRels ρ H b vs) : VRels ρ H (a ++ b) (us ++ vs) := by
  refine ⟨by simp [h.1, k.1], fun i h1 h2 => ?_⟩
  by_cases hi : i < a.length
  · rw [List.getElem_append_left hi, Array.getElem_append_left (by rw [← h.1]; exact hi)]
    exact h.2 i hi (by rw [← h.1]; exact hi)
  · rw [List.getElem_append_right (by omega), Array.getElem_append_right (by rw [← h.1]; omega)]
    have e := h.1
    simp only [e]
    exact k.2 (i - us.size) (by simp at h1; omega) (by simp at h2; omega)

/-- A new row, some cells of which are told; the order of things has been drawn before. -/
theorem post_grown {st : St} {w : World} (h : Rel ρ H st.mem st.next w) (floor : Nat) {cs : List AVal} {vs : Array Value} (hr : VRels ρ H cs vs) (rest : Array Value) (ty el : TypeId) (v : AVal) (u : Value)
    (hval : ∀ ρ', ρ' st.next = some ⟨w.heap.size, 0, cs.length, vs.size + rest.size⟩ → VRel ρ' H v u) :
    Post ρ H floor st (aNew st cs ty) v w (rhoAdd ρ st.next ⟨w.heap.size, 0, cs.length, vs.size + rest.size⟩) u (w.drew.alloc (.cells (vs ++ rest) el)) := by
  have hd : Rel ρ H st.mem st.next w.drew := h.drawn _
  have := post_new hd floor cs ty (vs ++ rest) el (by rw [hr.1]; simp) (fun i h1 h2 => by
    rw [Array.getElem_append_left (by rw [← hr.1]; exact h1)]
    exact hr.2 i h1 (by rw [← hr.1]; exact h1)) v u (fun ρ' hρ' => hval ρ' (by simpa using hρ'))
  simp only [Array.size_append] at this
  exact ⟨this.val, this.rel, this.ev.drawn⟩

theorem aAppend_sound {st st' : St} {w : World} (h : Rel ρ H st.mem st.next w) (floor : Nat) {ts : Array TypeId} {type : TypeId} {xs : List AVal} {us : Array Value} {v : AVal} (ha : aAppend P floor st ts.toList xs = some (v, st')) (hx : All2 (VRel ρ H) xs us.toList) :
    ∃ ρ' u w', (Builtin.append_ ts type us).run P w = .ok u w' ∧ Post ρ H floor st st' v w ρ' u w' ∧ st'.env = st.env ∧ st'.ob = st.ob := by
  obtain ⟨ts⟩ := ts
  obtain ⟨us⟩ := us
  simp only at ha hx
  unfold aAppend at ha
  split at ha
  · rename_i t tu tts s x txs
    cases hx with
    | @cons _ su _ _ hs hx =>
      cases hx with
      | @cons _ ux _ uxs hx _ =>
        split at ha
        · rename_i e ut hu hut
          split at ha
          · cases ha
          · rename_i hni'
            have hni : ∀ k, ut ≠ .int k := fun k hk => hni' k hk
            split at ha
            · rename_i i _ hi _
              split at ha
              · rename_i n new zero hcs hz
                obtain ⟨i2, z, hi2, hz2, hzr, _⟩ := zeroOf_sound (ρ := ρ) (H := H) hz
                obtain rfl : i = i2 := by rw [hi] at hi2; exact Option.some.inj hi2
                cases hc : (Nat.beq zero.length i.size && Nat.beq new.length (n * i.size) && Nat.ble 1 i.size && new.all isSc) with
                | false => rw [hc] at ha; cases ha
                | true =>
                  rw [hc, cond_true] at ha
                  simp only [Bool.and_eq_true] at hc
                  obtain ⟨⟨⟨hzl, hnl⟩, hsz⟩, hsc⟩ := hc
                  have hzl := Nat.eq_of_beq_eq_true hzl
                  have hnl := Nat.eq_of_beq_eq_true hnl
                  have hsz := Nat.le_of_ble_eq_true hsz
                  have hzs : z.cells.size = i.size := by rw [← hzr.1]; exact hzl
                  obtain ⟨hlen, hfirst⟩ := cellsOfSlice_sound (P := P) h hcs hx hnl
                  obtain ⟨vs, hvs, hfc⟩ := hfirst n (Nat.le_refl _)
                  rw [List.take_of_length_le (by omega)] at hvs
                  have hvsz : vs.size = n * i.size := by rw [← hvs.1]; exact hnl
                  have hfc0 : (Builtin.firstCells i.size n ux).run P w = .ok vs w := hfc w.drawn
                  have hfc1 : (Builtin.firstCells i.size n ux).run P w.drew = .ok vs w.drew := hfc (w.drawn + 1)
                  have hone := VRel.cells_oneCell hvs hsc
                  split at ha
                  · -- nil
                    cases hs
                    cases hn0 : Nat.beq n 0 with
                    | true =>
                      rw [hn0, cond_true] at ha
                      simp only [Option.some.injEq, Prod.mk.injEq] at ha
                      obtain ⟨rfl, rfl⟩ := ha
                      have hn0 := Nat.eq_of_beq_eq_true hn0
                      subst hn0
                      have hrun := run_append_in (type := type) hu hut hni hi (ts := tts) (base := none) (len := 0) (c := 0) (xs := uxs) (hlen w) hfc0 (Nat.le_refl _) (w' := w) (fun a e => by cases e) (fun _ => rfl)
                      exact ⟨ρ, _, w, hrun, ⟨.nils, h, Ev.refl _ _ _ _ _ h.dom⟩, rfl, rfl⟩
                    | false =>
                      rw [hn0, cond_false] at ha
                      cases hrm : Nat.ble ((n + 1) * (i.bytes + 1)) room with
                      | false => rw [hrm] at ha; cases ha
                      | true =>
                        rw [hrm, cond_true] at ha
                        simp only [Option.some.injEq, Prod.mk.injEq] at ha
                        obtain ⟨rfl, rfl⟩ := ha
                        have hrm := Nat.le_of_ble_eq_true hrm
                        have hnpos : 0 < n := by
                          rcases Nat.eq_zero_or_pos n with e | e
                          · rw [e] at hn0; cases hn0
                          · exact e
                        obtain ⟨newCap, hcap, rest, hrest, hrun⟩ := run_append_new (type := type) hu hut hni hi hz2 (ts := tts) (base := none) (len := 0) (n := n) (c := 0) (xs := uxs) (hlen w) hfc1 (old := #[]) (by simp [Builtin.firstCells]) (by omega) (by simpa [room] using hrm)
                        simp only [Nat.zero_add, Array.empty_append] at hrun hcap hrest
                        have hsum : vs.size + rest.size = newCap * i.size := by rw [hvsz, hrest, hzs, ← Nat.add_mul]; congr 1; omega
                        refine ⟨_, _, _, hrun, post_grown h floor hvs rest e e _ _ (fun ρ' hρ' => ?_), rfl, rfl⟩
                        refine .sl _ 0 _ _ _ _ hρ' ?_ hcap
                        simp only [CapOk]
                        rw [hsum, hnl]
                        exact ⟨by rw [Nat.zero_add]; exact Nat.mul_le_mul_right _ hcap, by omega⟩
                  · -- a slice
                    rename_i b off len cap
                    split at ha
                    · rename_i blk hm
                      split at ha
                      · rename_i old hold
                        cases hrm : Nat.ble ((len + n + 1) * (i.bytes + 1)) room with
                        | false => rw [hrm] at ha; cases ha
                        | true =>
                          rw [hrm, cond_true] at ha
                          have hrm := Nat.le_of_ble_eq_true hrm
                          cases hs with
                          | sl _ _ _ _ l c hρ hcap hlc =>
                            obtain ⟨hpold, holdl, holdle⟩ := cut_spec hold
                            have hblk := h.blk b l blk hρ hm
                            have hln := hblk.n
                            have hmul : (len + n) * i.size = len * i.size + n * i.size := Nat.add_mul _ _ _
                            have hoff : off + len * i.size ≤ blk.cells.length ∨ len * i.size = 0 := by omega
                            -- the old cells, read
                            have hcos : cellsOfSlice st.mem i.size (.sl b off len cap) = some (len, old) := by simp [cellsOfSlice, hm, hold]
                            obtain ⟨_, hfo⟩ := cellsOfSlice_sound (P := P) h hcos (.sl b off len cap l c hρ hcap hlc) holdl
                            obtain ⟨ovs, hovs, hof⟩ := hfo len (Nat.le_refl _)
                            rw [List.take_of_length_le (by omega)] at hovs
                            have hovz : ovs.size = len * i.size := by rw [← hovs.1]; exact holdl
                            have hof1 : (Builtin.firstCells i.size len (.slice (some ⟨l.blk, l.base + off, none⟩) len c)).run P w.drew = .ok ovs w.drew := hof (w.drawn + 1)
                            -- in place, within what is told
                            have inplace : ∀ v st', len + n ≤ c → floor ≤ b → off + (len + n) * i.size ≤ blk.cells.length →
                                some (AVal.sl b off (len + n) cap, st.withMem (mset st.mem b (some ⟨blk.cells.take (off + len * i.size) ++ new ++ blk.cells.drop (off + (len + n) * i.size), blk.ty⟩))) = some (v, st') →
                                ∃ ρ' u w', (Builtin.append_ (t :: tu :: tts).toArray type ((.slice (some ⟨l.blk, l.base + off, none⟩) len c) :: ux :: uxs).toArray).run P w = .ok u w' ∧ Post ρ H floor st st' v w ρ' u w' ∧ st'.env = st.env ∧ st'.ob = st.ob := by
                              intro v st' hroom hfl hfit he
                              simp only [Option.some.injEq, Prod.mk.injEq] at he
                              obtain ⟨rfl, rfl⟩ := he
                              obtain ⟨cur, el, hw, hcsz, hrel⟩ := h.write hρ hm (off := off + len * i.size) (cs := new) (vs := vs.toList) (by simpa using hvs.1.symm) (by omega) (fun j h1 h2 => by simpa using hvs.2 j h1 (by simpa using h2))
                              have hst := run_storeCells_at P l.blk (l.base + off + len * i.size) el vs.toList 0 cur w hw (by rw [Nat.add_zero, Nat.add_assoc l.base]; exact hcsz) hone
                              rw [Nat.add_zero] at hst
                              have hrun := run_append_in (type := type) hu hut hni hi (ts := tts) (base := some ⟨l.blk, l.base + off, none⟩) (len := len) (c := c) (xs := uxs) (hlen w) hfc0 hroom (w' := w.setRow l.blk (cur.toList.take (l.base + off + len * i.size) ++ vs.toList ++ cur.toList.drop (l.base + off + len * i.size + vs.toList.length)).toArray)
                                (fun a e => by cases e; rw [addr_add]; exact hst) (fun e => by cases e)
                              refine ⟨ρ, _, _, hrun, ⟨.sl _ _ _ _ l c hρ hcap (by omega), ?_, Ev.ofWrite h hρ hfl _ _⟩, rfl, rfl⟩
                              have e1 : off + len * i.size + new.length = off + (len + n) * i.size := by omega
                              rw [e1] at hrel
                              simpa only [St.withMem, Nat.add_assoc] using hrel
                            -- a new row
                            have anew : ∀ v st' (st1 : St), c < len + n → Rel ρ H st1.mem st1.next w → Ev ρ ρ floor st.mem st.next st1.mem st1.next w w → st1.env = st.env → st1.ob = st.ob →
                                some (AVal.sl st1.next 0 (len + n) (.un i.size), aNew st1 (old ++ new) e) = some (v, st') →
                                ∃ ρ' u w', (Builtin.append_ (t :: tu :: tts).toArray type ((.slice (some ⟨l.blk, l.base + off, none⟩) len c) :: ux :: uxs).toArray).run P w = .ok u w' ∧ Post ρ H floor st st' v w ρ' u w' ∧ st'.env = st.env ∧ st'.ob = st.ob := by
                              intro v st' st1 hroom hrel1 hev1 henv hob he
                              simp only [Option.some.injEq, Prod.mk.injEq] at he
                              obtain ⟨rfl, rfl⟩ := he
                              obtain ⟨newCap, hcap', rest, hrest, hrun⟩ := run_append_new (type := type) hu hut hni hi hz2 (ts := tts) (base := some ⟨l.blk, l.base + off, none⟩) (len := len) (n := n) (c := c) (xs := uxs) (hlen w) hfc1 hof1 hroom (by simpa [room] using hrm)
                              have hov := hovs.append hvs
                              have hsum : (ovs ++ vs).size + rest.size = newCap * i.size := by rw [Array.size_append, hovz, hvsz, hrest, hzs, ← Nat.add_mul, ← Nat.add_mul]; congr 1; omega
                              have hp := post_grown hrel1 floor hov rest e e (.sl st1.next 0 (len + n) (.un i.size)) (.slice (some ⟨w.heap.size, 0, none⟩) (len + n) newCap) (fun ρ' hρ' => by
                                refine .sl _ 0 _ _ _ _ hρ' ?_ hcap'
                                simp only [CapOk]
                                rw [hsum]
                                exact ⟨by rw [Nat.zero_add, List.length_append, holdl, hnl, ← Nat.add_mul]; exact Nat.mul_le_mul_right _ hcap', by omega⟩)
                              refine ⟨_, _, _, hrun, ⟨hp.val, hp.rel, hev1.trans hp.ev⟩, ?_, ?_⟩
                              · simpa [aNew] using henv
                              · simpa [aNew] using hob
                            split at ha
                            · -- the capacity is known
                              rename_i k
                              simp only [CapOk] at hcap
                              subst hcap
                              cases hk : Nat.ble (len + n) c with
                              | true =>
                                rw [hk, cond_true] at ha
                                have hk := Nat.le_of_ble_eq_true hk
                                cases hf : (Nat.ble floor b && Nat.ble (off + (len + n) * i.size) blk.cells.length) with
                                | false => rw [hf] at ha; cases ha
                                | true =>
                                  rw [hf, cond_true] at ha
                                  simp only [Bool.and_eq_true] at hf
                                  exact inplace _ _ hk (Nat.le_of_ble_eq_true hf.1) (Nat.le_of_ble_eq_true hf.2) ha
                              | false =>
                                rw [hk, cond_false] at ha
                                have hk : ¬ len + n ≤ c := fun e => by rw [Nat.ble_eq_true_of_le e] at hk; cases hk
                                exact anew _ _ st (by omega) h (Ev.refl _ _ _ _ _ h.dom) rfl rfl ha
                            · -- it is not
                              rename_i zz
                              simp only [CapOk] at hcap
                              cases hf : (Nat.beq zz i.size && Nat.ble floor b) with
                              | false => rw [hf] at ha; cases ha
                              | true =>
                                rw [hf, cond_true] at ha
                                simp only [Bool.and_eq_true] at hf
                                have hzz := Nat.eq_of_beq_eq_true hf.1
                                have hfl := Nat.le_of_ble_eq_true hf.2
                                subst hzz
                                cases hk : Nat.ble (off + (len + n) * i.size) blk.cells.length with
                                | true =>
                                  rw [hk, cond_true] at ha
                                  have hk := Nat.le_of_ble_eq_true hk
                                  have hroom : len + n ≤ c := by
                                    rw [hln] at hcap
                                    have : (len + n) * i.size ≤ c * i.size := by omega
                                    exact Nat.le_of_mul_le_mul_right this hsz
                                  exact inplace _ _ hroom hfl hk ha
                                | false =>
                                  rw [hk, cond_false] at ha
                                  cases hend : Nat.beq (off + len * i.size) blk.cells.length with
                                  | false => rw [hend] at ha; cases ha
                                  | true =>
                                    rw [hend, cond_true] at ha
                                    have hend := Nat.eq_of_beq_eq_true hend
                                    by_cases hroom : len + n ≤ c
                                    · -- there is room: behind what is told
                                      simp only [Option.some.injEq, Prod.mk.injEq] at ha
                                      obtain ⟨rfl, rfl⟩ := ha
                                      have hcm : (len + n) * i.size ≤ c * i.size := Nat.mul_le_mul_right _ hroom
                                      obtain ⟨cur, el, hw, hcsz, hrel⟩ := h.beyond hρ hm (off := off) (new := new) (vs := vs.toList) e (by simpa using hvs.1.symm) (by omega) (by omega) (fun j h1 h2 => by simpa using hvs.2 j h1 (by simpa using h2))
                                      have hst := run_storeCells_at P l.blk (l.base + off + len * i.size) el vs.toList 0 cur w hw (by rw [Nat.add_zero, Nat.add_assoc l.base, hend]; exact hcsz) hone
                                      rw [Nat.add_zero] at hst
                                      have hrun := run_append_in (type := type) hu hut hni hi (ts := tts) (base := some ⟨l.blk, l.base + off, none⟩) (len := len) (c := c) (xs := uxs) (hlen w) hfc0 hroom (w' := w.setRow l.blk (cur.toList.take (l.base + off + len * i.size) ++ vs.toList ++ cur.toList.drop (l.base + off + len * i.size + vs.toList.length)).toArray)
                                        (fun a e => by cases e; rw [addr_add]; exact hst) (fun e => by cases e)
                                      have hod : old = blk.cells.drop off := by
                                        rw [hpold]; exact List.take_of_length_le (by simp; omega)
                                      refine ⟨_, _, _, hrun, ⟨.sl _ 0 _ _ ⟨l.blk, l.base + off, blk.cells.length - off + new.length, l.tot - off⟩ c (by simp [rhoAdd]) ?_ (by omega), ?_, Ev.ofBeyond h hρ hfl ⟨l.blk, l.base + off, blk.cells.length - off + new.length, l.tot - off⟩ rfl _ _⟩, rfl, rfl⟩
                                      · simp only [CapOk]; omega
                                      · rw [hod]
                                        have e2 : l.base + off + len * i.size = l.base + blk.cells.length := by omega
                                        rw [e2]
                                        simpa only [aNew, St.withMem] using hrel
                                    · exact anew _ _ (st.withMem (mset st.mem b none)) (by omega) (h.kill b) (Ev.ofKill h floor hρ) rfl rfl ha
                      · cases ha
                    · cases ha
                  · cases ha
              · cases ha
            · cases ha
        · cases ha
  · cases ha

theorem aCopy_sound {st st' : St} {w : World} (h : Rel ρ H st.mem st.next w) (floor : Nat) {ts : Array TypeId} {type : TypeId} {xs : List AVal} {us : Array Value} {v : AVal} (ha : aCopy P floor st ts.toList xs = some (v, st')) (hx : All2 (VRel ρ H) xs us.toList) :
    ∃ ρ' u w', (Builtin.copy_ ts type us).run P w = .ok u w' ∧ Post ρ H floor st st' v w ρ' u w' ∧ st'.env = st.env ∧ st'.ob = st.ob := by
  obtain ⟨ts⟩ := ts
  obtain ⟨us⟩ := us
  simp only at ha hx
  unfold aCopy at ha
  split at ha
  · rename_i t _ d x _
    cases hx with
    | @cons _ ud _ _ hd hx =>
      cases hx with
      | @cons _ ux _ uxs hx _ =>
        split at ha
        · rename_i e hu
          split at ha
          · rename_i i hi
            split at ha
            · rename_i m src hcs
              cases hc : (Nat.beq src.length (m * i.size) && src.all isSc) with
              | false => rw [hc] at ha; cases ha
              | true =>
                rw [hc, cond_true] at ha
                simp only [Bool.and_eq_true] at hc
                have hsl := Nat.eq_of_beq_eq_true hc.1
                have hsc := hc.2
                obtain ⟨hlen, hfirst⟩ := cellsOfSlice_sound (P := P) h hcs hx hsl
                split at ha
                · cases hd
                  simp only [Option.some.injEq, Prod.mk.injEq] at ha
                  obtain ⟨rfl, rfl⟩ := ha
                  obtain ⟨vs, hvs, hfc⟩ := hfirst 0 (Nat.zero_le _)
                  have hfc0 : (Builtin.firstCells i.size 0 ux).run P w = .ok vs w := hfc w.drawn
                  refine ⟨ρ, _, w, ?_, ⟨.int _ _, h, Ev.refl _ _ _ _ _ h.dom⟩, rfl, rfl⟩
                  simp [Builtin.copy_, run_underlying hu, hlen, size_run hi, hfc0, goInt]
                · rename_i b off len cap
                  split at ha
                  · rename_i blk hm
                    dsimp only at ha
                    cases hf : (Nat.ble floor b && Nat.ble (off + (Nat.min m len) * i.size) blk.cells.length) with
                    | false => rw [hf] at ha; cases ha
                    | true =>
                      rw [hf, cond_true] at ha
                      simp only [Bool.and_eq_true] at hf
                      have hfl := Nat.le_of_ble_eq_true hf.1
                      have hfit := Nat.le_of_ble_eq_true hf.2
                      simp only [Option.some.injEq, Prod.mk.injEq] at ha
                      obtain ⟨rfl, rfl⟩ := ha
                      cases hd with
                      | sl _ _ _ _ l c hρ hcap hlc =>
                        have hmin : Nat.min m len ≤ m := Nat.min_le_left _ _
                        have hmul : Nat.min m len * i.size ≤ m * i.size := Nat.mul_le_mul_right _ hmin
                        obtain ⟨vs, hvs, hfc⟩ := hfirst (Nat.min m len) hmin
                        have hfc0 : (Builtin.firstCells i.size (Nat.min m len) ux).run P w = .ok vs w := hfc w.drawn
                        have hone := VRel.cells_oneCell hvs (List.all_eq_true.2 fun a ha => List.all_eq_true.1 hsc a (List.mem_of_mem_take ha))
                        have hvl : (src.take (Nat.min m len * i.size)).length = Nat.min m len * i.size := by rw [List.length_take, hsl]; omega
                        obtain ⟨cur, el, hw, hcsz, hrel⟩ := h.write hρ hm (off := off) (cs := src.take (Nat.min m len * i.size)) (vs := vs.toList) (by simpa using hvs.1.symm) (by rw [hvl]; exact hfit) (fun j h1 h2 => by simpa using hvs.2 j h1 (by simpa using h2))
                        have hst := run_storeCells_at P l.blk (l.base + off) el vs.toList 0 cur w hw (by rw [Nat.add_zero]; exact hcsz) hone
                        rw [Nat.add_zero] at hst
                        refine ⟨ρ, .int .i64 (Nat.min m len), w.setRow l.blk (cur.toList.take (l.base + off) ++ vs.toList ++ cur.toList.drop (l.base + off + vs.toList.length)).toArray, ?_, ⟨.int _ _, ?_, Ev.ofWrite h hρ hfl _ _⟩, rfl, rfl⟩
                        · simp [Builtin.copy_, run_underlying hu, hlen, size_run hi, hfc0, goInt, hst, -Array.length_toList, -List.append_assoc]
                        · rw [hvl] at hrel
                          simpa only [St.withMem] using hrel
                  · cases ha
                · cases ha
            · cases ha
          · cases ha
        · cases ha
  · cases ha

end
end Go.Am
