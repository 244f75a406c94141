/- append and copy, continued. -/
import Derived.Test.YtdojgffcahimjaaAmG
import Derived.IntWalk
namespace Go.Am
set_option linter.unusedSimpArgs false

section
variable {P : Program} {ρ : Rho} 

/-- There is room: the new cells are written behind the old ones. -/
theorem run_append_in {t u e : TypeId} {ut : TypeDesc} {i : TypeInfo} {type : TypeId} (hu : P.underlying t = some (.slice e)) (hut : P.underlying u = some ut) (hni : ∀ k, ut ≠ .int k) (hi : P.info? e = some i) {ts : List TypeId} {base : Option Addr} {len n c : Nat} {x : Value} {vs : Array Value} {xs : List Value} {w : World}
    (hlen : (Builtin.lenOf x).run P w = .ok n w) (hfirst : (Builtin.firstCells i.size n x).run P w = .ok vs w) (hroom : len + n ≤ c) {w' : World}
    (hst : ∀ a, base = some a → (storeCells (a.add (len * i.size)) vs.toList).run P w = .ok () w') (hno : base = none → w' = w) :
    (Builtin.append_ (t :: u :: ts).toArray type ((.slice base len c) :: x :: xs).toArray).run P w = .ok (.slice base (len + n) c) w' := by
  cases base with
  | none =>
    obtain rfl := hno rfl
    simp [Builtin.append_, run_underlying hu, run_underlying hut, size_run hi, hlen, hfirst, hroom]
  | some a =>
    have := hst a rfl
    simp [Builtin.append_, run_underlying hu, run_underlying hut, size_run hi, hlen, hfirst, hroom, this]

/-- There is no room: a new row, of some capacity. -/
theorem run_append_new {t u e : TypeId} {ut : TypeDesc} {i : TypeInfo} {type : TypeId} (hu : P.underlying t = some (.slice e)) (hut : P.underlying u = some ut) (hni : ∀ k, ut ≠ .int k) (hi : P.info? e = some i) {z : Value} (hz : i.zero = some z) {ts : List TypeId} {base : Option Addr} {len n c : Nat} {x : Value} {vs old : Array Value} {xs : List Value} {w : World}
    (hlen : (Builtin.lenOf x).run P w = .ok n w) (hfirst : (Builtin.firstCells i.size n x).run P w.drew = .ok vs w.drew) (hold : (Builtin.firstCells i.size len (.slice base len c)).run P w.drew = .ok old w.drew)
    (hroom : c < len + n) (hbytes : (len + n + 1) * (i.bytes + 1) ≤ 1099511627776) :
    ∃ newCap, len + n ≤ newCap ∧ ∃ rest : Array Value, rest.size = (newCap - (len + n)) * z.cells.size ∧
    (Builtin.append_ (t :: u :: ts).toArray type ((.slice base len c) :: x :: xs).toArray).run P w = .ok (.slice (some ⟨w.heap.size, 0, none⟩) (len + n) newCap) (w.drew.alloc (.cells (old ++ vs ++ rest) e)) := by
  have hmul : len + n + 1 ≤ (len + n + 1) * (i.bytes + 1) := Nat.le_mul_of_pos_right _ (by omega)
  have hr := room_ok hbytes hroom
  have hr' : ¬ 2 ^ 48 < Builtin.nextslicecap (len + n) c * i.bytes := hr
  have hr'' : ¬ 281474976710656 < Builtin.nextslicecap (len + n) c * i.bytes := hr
  have h1 : ¬ len + n ≤ c := by omega
  have h2 : ¬ (9223372036854775807 < (len : Int) + (n : Int)) := by omega
  have hq : (Question.appendCap (len + n) c e).forced = false := rfl
  have hzero : ∀ w, (zeroValue e).run P w = .ok z w := fun w => by simp [zeroValue, run_typeInfo w hi, hz]
  refine ⟨(Question.appendCap (len + n) c e).cut (w.tape w.drawn (Question.appendCap (len + n) c e)), by simp only [Question.cut]; omega, Builtin.zeroCells z.cells ((Question.appendCap (len + n) c e).cut (w.tape w.drawn (Question.appendCap (len + n) c e)) - (len + n)), by simp [Builtin.zeroCells], ?_⟩
  have hty : ∀ w, (typeInfo e).run P w = .ok i w := fun w => run_typeInfo w hi
  simp [Builtin.append_, run_underlying hu, run_underlying hut, size_run hi, hlen, h1, h2, hty, hr'', hq, hfirst, hold, hzero, newRow]

theorem VRels.append {a b : List AVal} {us vs : Array Value} (h : VRels ρ a us) (k : VRels ρ b vs) : VRels ρ (a ++ b) (us ++ vs) := by
  refine ⟨by simp [h.1, k.1], fun i h1 h2 => ?_⟩
  by_cases hi : i < a.length
  · rw [List.getElem_append_left hi, Array.getElem_append_left (by rw [← h.1]; exact hi)]
    exact h.2 i hi (by rw [← h.1]; exact hi)
  · rw [List.getElem_append_right (by omega), Array.getElem_append_right (by rw [← h.1]; omega)]
    have e := h.1
    simp only [e]
    exact k.2 (i - us.size) (by simp at h1; omega) (by simp at h2; omega)

/-- A new row, some cells of which are told; the order of things has been drawn before. -/
theorem post_grown {st : St} {w : World} (h : Rel ρ st.mem st.next w) (floor : Nat) {cs : List AVal} {vs : Array Value} (hr : VRels ρ cs vs) (rest : Array Value) (ty el : TypeId) (v : AVal) (u : Value)
    (hval : ∀ ρ', ρ' st.next = some ⟨w.heap.size, 0, cs.length, vs.size + rest.size⟩ → VRel ρ' v u) :
    Post ρ floor st (aNew st cs ty) v w (rhoAdd ρ st.next ⟨w.heap.size, 0, cs.length, vs.size + rest.size⟩) u (w.drew.alloc (.cells (vs ++ rest) el)) := by
  have hd : Rel ρ st.mem st.next w.drew := h.drawn _
  have := post_new hd floor cs ty (vs ++ rest) el (by rw [hr.1]; simp) (fun i h1 h2 => by
    rw [Array.getElem_append_left (by rw [← hr.1]; exact h1)]
    exact hr.2 i h1 (by rw [← hr.1]; exact h1)) v u (fun ρ' hρ' => hval ρ' (by simpa using hρ'))
  simp only [Array.size_append] at this
  exact ⟨this.val, this.rel, this.ev.drawn⟩

theorem bif_inv0 {α : Type} {c : Bool} {x : Option α} {y : α} (h : (bif c then x else none) = some y) : c = true ∧ x = some y := by
  cases c with
  | false => cases h
  | true => exact ⟨rfl, h⟩

/-- What append does with what it is given: n elements, whose cells are vs. -/
structure Feeds (P : Program) (ρ : Rho) (t u e : TypeId) (i : TypeInfo) (z : Value) (ux : Value) (n : Nat) (new : List AVal) (vs : Array Value) (w : World) : Prop where
  rel : VRels ρ new vs
  hin : ∀ {type : TypeId} {ts : List TypeId} {base : Option Addr} {len c : Nat} {xs : List Value}, (n = 0 ∨ (n + 1) * (i.bytes + 1) ≤ 1099511627776) → len + n ≤ c → ∀ {w' : World}, (∀ a, base = some a → (storeCells (a.add (len * i.size)) vs.toList).run P w = .ok () w') → (base = none → w' = w) →
    (Builtin.append_ (t :: u :: ts).toArray type ((.slice base len c) :: ux :: xs).toArray).run P w = .ok (.slice base (len + n) c) w'
  hnew : ∀ {type : TypeId} {ts : List TypeId} {base : Option Addr} {len c : Nat} {xs : List Value} {old : Array Value}, (Builtin.firstCells i.size len (.slice base len c)).run P w.drew = .ok old w.drew → c < len + n → (len + n + 1) * (i.bytes + 1) ≤ 1099511627776 →
    ∃ newCap, len + n ≤ newCap ∧ ∃ rest : Array Value, rest.size = (newCap - (len + n)) * z.cells.size ∧
      (Builtin.append_ (t :: u :: ts).toArray type ((.slice base len c) :: ux :: xs).toArray).run P w = .ok (.slice (some ⟨w.heap.size, 0, none⟩) (len + n) newCap) (w.drew.alloc (.cells (old ++ vs ++ rest) e))

theorem wrap_small {n : Int} {bytes : Nat} (h0 : 0 ≤ n) (h : n.toNat = 0 ∨ (n.toNat + 1) * (bytes + 1) ≤ 1099511627776) : IntKind.i64.wrap n = n ∧ n * (bytes : Int) ≤ 281474976710656 := by
  rcases h with h | h
  · obtain rfl : n = 0 := by omega
    exact ⟨rfl, by omega⟩
  · have h1 : n.toNat + 1 ≤ (n.toNat + 1) * (bytes + 1) := Nat.le_mul_of_pos_right _ (by omega)
    have h2 : n.toNat * bytes ≤ (n.toNat + 1) * (bytes + 1) := Nat.mul_le_mul (by omega) (by omega)
    refine ⟨IntWalk.i64_in _ (by omega), ?_⟩
    have h3 : ((n.toNat * bytes : Nat) : Int) ≤ 1099511627776 := by omega
    rw [Int.natCast_mul, Int.toNat_of_nonneg h0] at h3
    omega

theorem newCells_sound {mem : Mem} {next : Nat} {w : World} (h : Rel ρ mem next w) {t u e : TypeId} {ut : TypeDesc} {i : TypeInfo} {z : Value} {zero : List AVal} {x : AVal} {ux : Value} {n : Nat} {new : List AVal} (hu : P.underlying t = some (.slice e)) (hut : P.underlying u = some ut) (hi : P.info? e = some i) (hz : i.zero = some z)
    (hzr : VRels ρ zero z.cells) (hzl : zero.length = i.size) (hc : newCells mem i.size zero ut x = some (n, new)) (hx : VRel ρ x ux) (hnl : new.length = n * i.size) : ∃ vs, Feeds P ρ t u e i z ux n new vs w := by
  unfold newCells at hc
  split at hc
  · rename_i kt
    split at hc
    · rename_i k m
      obtain ⟨h0, hc⟩ := bif_inv0 hc
      have h0 := of_decide_eq_true h0
      simp only [Option.some.injEq, Prod.mk.injEq] at hc
      obtain ⟨rfl, rfl⟩ := hc
      cases hx
      have hzs : z.cells.size = i.size := by rw [← hzr.1]; exact hzl
      refine ⟨Builtin.zeroCells z.cells m.toNat, ?_, ?_, ?_⟩
      · exact rep_rel hzr m.toNat (m.toNat * z.cells.size) (by rw [hzr.1])
      · intro type ts base len c xs hr hroom w' hst hno
        obtain ⟨hw, hb⟩ := wrap_small h0 hr
        have hb' : ¬ 281474976710656 < m * (i.bytes : Int) := by omega
        have hlt : ¬ m < 0 := by omega
        have hzv : ∀ w, (zeroValue e).run P w = .ok z w := fun w => by simp [zeroValue, run_typeInfo w hi, hz]
        have hty : ∀ w, (typeInfo e).run P w = .ok i w := fun w => run_typeInfo w hi
        by_cases hz0 : m.toNat * i.size = 0
        · have hze : Builtin.zeroCells z.cells m.toNat = #[] := by simp [Builtin.zeroCells, hzs, hz0]
          rw [hze] at hst
          cases base with
          | none =>
            obtain rfl := hno rfl
            simp [Builtin.append_, run_underlying hu, run_underlying hut, size_run hi, asInt, asIntOf, hw, hlt, hty, hb', hroom, hz0]
          | some a =>
            have := hst a rfl
            simp only [] at this
            simp [Builtin.append_, run_underlying hu, run_underlying hut, size_run hi, asInt, asIntOf, hw, hlt, hty, hb', hroom, hz0, this]
        · cases base with
          | none =>
            obtain rfl := hno rfl
            simp [Builtin.append_, run_underlying hu, run_underlying hut, size_run hi, asInt, asIntOf, hw, hlt, hty, hb', hroom, hz0, hzv]
          | some a =>
            have := hst a rfl
            simp [Builtin.append_, run_underlying hu, run_underlying hut, size_run hi, asInt, asIntOf, hw, hlt, hty, hb', hroom, hz0, hzv, this]
      · intro type ts base len c xs old hold hroom hbytes
        have hr : m.toNat = 0 ∨ (m.toNat + 1) * (i.bytes + 1) ≤ 1099511627776 := .inr (Nat.le_trans (Nat.mul_le_mul_right _ (by omega)) hbytes)
        obtain ⟨hw, hb⟩ := wrap_small h0 hr
        have hb' : ¬ 281474976710656 < m * (i.bytes : Int) := by omega
        have hlt : ¬ m < 0 := by omega
        have hmul : len + m.toNat + 1 ≤ (len + m.toNat + 1) * (i.bytes + 1) := Nat.le_mul_of_pos_right _ (by omega)
        have hr0 := room_ok hbytes hroom
        have hr'' : ¬ 281474976710656 < Builtin.nextslicecap (len + m.toNat) c * i.bytes := hr0
        have h1 : ¬ len + m.toNat ≤ c := by omega
        have h2 : ¬ (9223372036854775807 < (len : Int) + (m.toNat : Int)) := by omega
        have h2' : ¬ (9223372036854775807 < (len : Int) + max m 0) := by omega
        have hq : (Question.appendCap (len + m.toNat) c e).forced = false := rfl
        have hzv : ∀ w, (zeroValue e).run P w = .ok z w := fun w => by simp [zeroValue, run_typeInfo w hi, hz]
        have hty : ∀ w, (typeInfo e).run P w = .ok i w := fun w => run_typeInfo w hi
        refine ⟨(Question.appendCap (len + m.toNat) c e).cut (w.tape w.drawn (Question.appendCap (len + m.toNat) c e)), by simp only [Question.cut]; omega, Builtin.zeroCells z.cells ((Question.appendCap (len + m.toNat) c e).cut (w.tape w.drawn (Question.appendCap (len + m.toNat) c e)) - (len + m.toNat)), by simp [Builtin.zeroCells], ?_⟩
        by_cases hz0 : m.toNat * i.size = 0
        · have hze : Builtin.zeroCells z.cells m.toNat = #[] := by simp [Builtin.zeroCells, hzs, hz0]
          simp [Builtin.append_, run_underlying hu, run_underlying hut, size_run hi, asInt, asIntOf, hw, hlt, hb', h1, h2, h2', hty, hr'', hq, hold, hzv, newRow, hz0, hze]
        · simp [Builtin.append_, run_underlying hu, run_underlying hut, size_run hi, asInt, asIntOf, hw, hlt, hb', h1, h2, h2', hty, hr'', hq, hold, hzv, newRow, hz0]
    · cases hc
  · rename_i hni'
    have hni : ∀ k, ut ≠ .int k := fun k hk => hni' k hk
    obtain ⟨hlen, hfirst⟩ := cellsOfSlice_sound (P := P) h hc hx hnl
    obtain ⟨vs, hvs, hfc⟩ := hfirst n (Nat.le_refl _)
    rw [List.take_of_length_le (by omega)] at hvs
    have hfc0 : (Builtin.firstCells i.size n ux).run P w = .ok vs w := hfc w.drawn
    have hfc1 : (Builtin.firstCells i.size n ux).run P w.drew = .ok vs w.drew := hfc (w.drawn + 1)
    exact ⟨vs, hvs, fun _ hroom _ hst hno => run_append_in hu hut hni hi (hlen w) hfc0 hroom hst hno, fun hold hroom hbytes => run_append_new hu hut hni hi hz (hlen w) hfc1 hold hroom hbytes⟩

theorem aAppend_sound {st st' : St} {w : World} (h : Rel ρ st.mem st.next w) (floor : Nat) {ts : Array TypeId} {type : TypeId} {xs : List AVal} {us : Array Value} {v : AVal} (ha : aAppend P floor st ts.toList xs = some (v, st')) (hx : All2 (VRel ρ) xs us.toList) :
    ∃ ρ' u w', (Builtin.append_ ts type us).run P w = .ok u w' ∧ Post ρ floor st st' v w ρ' u w' ∧ st'.env = st.env ∧ st'.ob = st.ob := by
  obtain ⟨ts⟩ := ts
  obtain ⟨us⟩ := us
  simp only at ha hx
  unfold aAppend at ha
  split at ha
  · rename_i t tu tts s x txs
    cases hx with
    | @cons _ su _ _ hs hx =>
      cases hx with
      | @cons _ ux _ uxs hx _ =>
        split at ha
        · rename_i e ut hu hut
          split at ha
          · rename_i i zero hi hz
            split at ha
            · rename_i n new hcs
              obtain ⟨i2, z, hi2, hz2, hzr, _⟩ := zeroOf_sound (ρ := ρ) hz
              obtain rfl : i = i2 := by rw [hi] at hi2; exact Option.some.inj hi2
              cases hc : (Nat.beq zero.length i.size && Nat.beq new.length (n * i.size) && Nat.ble 1 i.size && new.all isSc) with
              | false => rw [hc] at ha; cases ha
              | true =>
                rw [hc, cond_true] at ha
                simp only [Bool.and_eq_true] at hc
                obtain ⟨⟨⟨hzl, hnl⟩, hsz⟩, hsc⟩ := hc
                have hzl := Nat.eq_of_beq_eq_true hzl
                have hnl := Nat.eq_of_beq_eq_true hnl
                have hsz := Nat.le_of_ble_eq_true hsz
                have hzs : z.cells.size = i.size := by rw [← hzr.1]; exact hzl
                obtain ⟨vs, hF⟩ := newCells_sound (P := P) h hu hut hi hz2 hzr hzl hcs hx hnl
                have hvs := hF.rel
                have hvsz : vs.size = n * i.size := by rw [← hvs.1]; exact hnl
                have hone := VRel.cells_oneCell hvs hsc
                split at ha
                · -- nil
                  cases hs
                  cases hn0 : Nat.beq n 0 with
                  | true =>
                    rw [hn0, cond_true] at ha
                    simp only [Option.some.injEq, Prod.mk.injEq] at ha
                    obtain ⟨rfl, rfl⟩ := ha
                    have hn0 := Nat.eq_of_beq_eq_true hn0
                    subst hn0
                    have hrun := hF.hin (type := type) (ts := tts) (base := none) (len := 0) (c := 0) (xs := uxs) (.inl rfl) (Nat.le_refl _) (w' := w) (fun a e => by cases e) (fun _ => rfl)
                    exact ⟨ρ, _, w, hrun, ⟨.nils, h, Ev.refl _ _ _ _ _ h.dom⟩, rfl, rfl⟩
                  | false =>
                    rw [hn0, cond_false] at ha
                    cases hrm : Nat.ble ((n + 1) * (i.bytes + 1)) room with
                    | false => rw [hrm] at ha; cases ha
                    | true =>
                      rw [hrm, cond_true] at ha
                      simp only [Option.some.injEq, Prod.mk.injEq] at ha
                      obtain ⟨rfl, rfl⟩ := ha
                      have hrm := Nat.le_of_ble_eq_true hrm
                      have hnpos : 0 < n := by
                        rcases Nat.eq_zero_or_pos n with e | e
                        · rw [e] at hn0; cases hn0
                        · exact e
                      obtain ⟨newCap, hcap, rest, hrest, hrun⟩ := hF.hnew (type := type) (ts := tts) (base := none) (len := 0) (c := 0) (xs := uxs) (old := #[]) (by simp [Builtin.firstCells]) (by omega) (by simpa [room] using hrm)
                      simp only [Nat.zero_add, Array.empty_append] at hrun hcap hrest
                      have hsum : vs.size + rest.size = newCap * i.size := by rw [hvsz, hrest, hzs, ← Nat.add_mul]; congr 1; omega
                      refine ⟨_, _, _, hrun, post_grown h floor hvs rest e e _ _ (fun ρ' hρ' => ?_), rfl, rfl⟩
                      refine .sl _ 0 _ _ _ _ hρ' ?_ hcap
                      simp only [CapOk]
                      rw [hsum, hnl]
                      exact ⟨by rw [Nat.zero_add]; exact Nat.mul_le_mul_right _ hcap, by omega⟩
                · -- a slice
                  rename_i b off len cap
                  split at ha
                  · rename_i blk hm
                    split at ha
                    · rename_i old hold
                      cases hrm : Nat.ble ((len + n + 1) * (i.bytes + 1)) room with
                      | false => rw [hrm] at ha; cases ha
                      | true =>
                        rw [hrm, cond_true] at ha
                        have hrm := Nat.le_of_ble_eq_true hrm
                        have hrn : n = 0 ∨ (n + 1) * (i.bytes + 1) ≤ 1099511627776 := .inr (Nat.le_trans (Nat.mul_le_mul_right _ (by omega)) hrm)
                        cases hs with
                        | sl _ _ _ _ l c hρ hcap hlc =>
                          obtain ⟨hpold, holdl, holdle⟩ := cut_spec hold
                          have hblk := h.blk b l blk hρ hm
                          have hln := hblk.n
                          have hmul : (len + n) * i.size = len * i.size + n * i.size := Nat.add_mul _ _ _
                          have hoff : off + len * i.size ≤ blk.cells.length ∨ len * i.size = 0 := by omega
                          -- the old cells, read
                          have hcos : cellsOfSlice st.mem i.size (.sl b off len cap) = some (len, old) := by simp [cellsOfSlice, hm, hold]
                          obtain ⟨_, hfo⟩ := cellsOfSlice_sound (P := P) h hcos (.sl b off len cap l c hρ hcap hlc) holdl
                          obtain ⟨ovs, hovs, hof⟩ := hfo len (Nat.le_refl _)
                          rw [List.take_of_length_le (by omega)] at hovs
                          have hovz : ovs.size = len * i.size := by rw [← hovs.1]; exact holdl
                          have hof1 : (Builtin.firstCells i.size len (.slice (some ⟨l.blk, l.base + off, none⟩) len c)).run P w.drew = .ok ovs w.drew := hof (w.drawn + 1)
                          -- in place, within what is told
                          have inplace : ∀ v st', len + n ≤ c → floor ≤ b → off + (len + n) * i.size ≤ blk.cells.length →
                              some (AVal.sl b off (len + n) cap, st.withMem (mset st.mem b (some ⟨blk.cells.take (off + len * i.size) ++ new ++ blk.cells.drop (off + (len + n) * i.size), blk.ty, none⟩))) = some (v, st') →
                              ∃ ρ' u w', (Builtin.append_ (t :: tu :: tts).toArray type ((.slice (some ⟨l.blk, l.base + off, none⟩) len c) :: ux :: uxs).toArray).run P w = .ok u w' ∧ Post ρ floor st st' v w ρ' u w' ∧ st'.env = st.env ∧ st'.ob = st.ob := by
                            intro v st' hroom hfl hfit he
                            simp only [Option.some.injEq, Prod.mk.injEq] at he
                            obtain ⟨rfl, rfl⟩ := he
                            obtain ⟨cur, el, hw, hcsz, hrel⟩ := h.write hρ hm (off := off + len * i.size) (cs := new) (vs := vs.toList) (by simpa using hvs.1.symm) (by omega) (fun j h1 h2 => by simpa using hvs.2 j h1 (by simpa using h2))
                            have hst := run_storeCells_at P l.blk (l.base + off + len * i.size) el vs.toList 0 cur w hw (by rw [Nat.add_zero, Nat.add_assoc l.base]; exact hcsz) hone
                            rw [Nat.add_zero] at hst
                            have hrun := hF.hin (type := type) (ts := tts) (base := some ⟨l.blk, l.base + off, none⟩) (len := len) (c := c) (xs := uxs) hrn hroom (w' := w.setRow l.blk (cur.toList.take (l.base + off + len * i.size) ++ vs.toList ++ cur.toList.drop (l.base + off + len * i.size + vs.toList.length)).toArray)
                              (fun a e => by cases e; rw [addr_add]; exact hst) (fun e => by cases e)
                            refine ⟨ρ, _, _, hrun, ⟨.sl _ _ _ _ l c hρ hcap (by omega), ?_, Ev.ofWrite h hρ hfl _ _⟩, rfl, rfl⟩
                            have e1 : off + len * i.size + new.length = off + (len + n) * i.size := by omega
                            rw [e1] at hrel
                            simpa only [St.withMem, Nat.add_assoc] using hrel
                          -- a new row
                          have anew : ∀ v st' (st1 : St), c < len + n → Rel ρ st1.mem st1.next w → Ev ρ ρ floor st.mem st.next st1.mem st1.next w w → st1.env = st.env → st1.ob = st.ob →
                              some (AVal.sl st1.next 0 (len + n) (.un i.size), aNew st1 (old ++ new) e) = some (v, st') →
                              ∃ ρ' u w', (Builtin.append_ (t :: tu :: tts).toArray type ((.slice (some ⟨l.blk, l.base + off, none⟩) len c) :: ux :: uxs).toArray).run P w = .ok u w' ∧ Post ρ floor st st' v w ρ' u w' ∧ st'.env = st.env ∧ st'.ob = st.ob := by
                            intro v st' st1 hroom hrel1 hev1 henv hob he
                            simp only [Option.some.injEq, Prod.mk.injEq] at he
                            obtain ⟨rfl, rfl⟩ := he
                            obtain ⟨newCap, hcap', rest, hrest, hrun⟩ := hF.hnew (type := type) (ts := tts) (base := some ⟨l.blk, l.base + off, none⟩) (len := len) (c := c) (xs := uxs) hof1 hroom (by simpa [room] using hrm)
                            have hov := hovs.append hvs
                            have hsum : (ovs ++ vs).size + rest.size = newCap * i.size := by rw [Array.size_append, hovz, hvsz, hrest, hzs, ← Nat.add_mul, ← Nat.add_mul]; congr 1; omega
                            have hp := post_grown hrel1 floor hov rest e e (.sl st1.next 0 (len + n) (.un i.size)) (.slice (some ⟨w.heap.size, 0, none⟩) (len + n) newCap) (fun ρ' hρ' => by
                              refine .sl _ 0 _ _ _ _ hρ' ?_ hcap'
                              simp only [CapOk]
                              rw [hsum]
                              exact ⟨by rw [Nat.zero_add, List.length_append, holdl, hnl, ← Nat.add_mul]; exact Nat.mul_le_mul_right _ hcap', by omega⟩)
                            refine ⟨_, _, _, hrun, ⟨hp.val, hp.rel, hev1.trans hp.ev⟩, ?_, ?_⟩
                            · simpa [aNew] using henv
                            · simpa [aNew] using hob
                          split at ha
                          · -- the capacity is known
                            rename_i k
                            simp only [CapOk] at hcap
                            subst hcap
                            cases hk : Nat.ble (len + n) c with
                            | true =>
                              rw [hk, cond_true] at ha
                              have hk := Nat.le_of_ble_eq_true hk
                              cases hf : (Nat.ble floor b && Nat.ble (off + (len + n) * i.size) blk.cells.length) with
                              | false => rw [hf] at ha; cases ha
                              | true =>
                                rw [hf, cond_true] at ha
                                simp only [Bool.and_eq_true] at hf
                                exact inplace _ _ hk (Nat.le_of_ble_eq_true hf.1) (Nat.le_of_ble_eq_true hf.2) ha
                            | false =>
                              rw [hk, cond_false] at ha
                              have hk : ¬ len + n ≤ c := fun e => by rw [Nat.ble_eq_true_of_le e] at hk; cases hk
                              exact anew _ _ st (by omega) h (Ev.refl _ _ _ _ _ h.dom) rfl rfl ha
                          · -- it is not
                            rename_i zz
                            simp only [CapOk] at hcap
                            cases hf : (Nat.beq zz i.size && Nat.ble floor b) with
                            | false => rw [hf] at ha; cases ha
                            | true =>
                              rw [hf, cond_true] at ha
                              simp only [Bool.and_eq_true] at hf
                              have hzz := Nat.eq_of_beq_eq_true hf.1
                              have hfl := Nat.le_of_ble_eq_true hf.2
                              subst hzz
                              cases hk : Nat.ble (off + (len + n) * i.size) blk.cells.length with
                              | true =>
                                rw [hk, cond_true] at ha
                                have hk := Nat.le_of_ble_eq_true hk
                                have hroom : len + n ≤ c := by
                                  rw [hln] at hcap
                                  have : (len + n) * i.size ≤ c * i.size := by omega
                                  exact Nat.le_of_mul_le_mul_right this hsz
                                exact inplace _ _ hroom hfl hk ha
                              | false =>
                                rw [hk, cond_false] at ha
                                cases hend : Nat.beq (off + len * i.size) blk.cells.length with
                                | false => rw [hend] at ha; cases ha
                                | true =>
                                  rw [hend, cond_true] at ha
                                  have hend := Nat.eq_of_beq_eq_true hend
                                  by_cases hroom : len + n ≤ c
                                  · -- there is room: behind what is told
                                    simp only [Option.some.injEq, Prod.mk.injEq] at ha
                                    obtain ⟨rfl, rfl⟩ := ha
                                    have hcm : (len + n) * i.size ≤ c * i.size := Nat.mul_le_mul_right _ hroom
                                    obtain ⟨cur, el, hw, hcsz, hrel⟩ := h.beyond hρ hm (off := off) (new := new) (vs := vs.toList) e (by simpa using hvs.1.symm) (by omega) (by omega) (fun j h1 h2 => by simpa using hvs.2 j h1 (by simpa using h2))
                                    have hst := run_storeCells_at P l.blk (l.base + off + len * i.size) el vs.toList 0 cur w hw (by rw [Nat.add_zero, Nat.add_assoc l.base, hend]; exact hcsz) hone
                                    rw [Nat.add_zero] at hst
                                    have hrun := hF.hin (type := type) (ts := tts) (base := some ⟨l.blk, l.base + off, none⟩) (len := len) (c := c) (xs := uxs) hrn hroom (w' := w.setRow l.blk (cur.toList.take (l.base + off + len * i.size) ++ vs.toList ++ cur.toList.drop (l.base + off + len * i.size + vs.toList.length)).toArray)
                                      (fun a e => by cases e; rw [addr_add]; exact hst) (fun e => by cases e)
                                    have hod : old = blk.cells.drop off := by
                                      rw [hpold]; exact List.take_of_length_le (by simp; omega)
                                    refine ⟨_, _, _, hrun, ⟨.sl _ 0 _ _ ⟨l.blk, l.base + off, blk.cells.length - off + new.length, l.tot - off⟩ c (by simp [rhoAdd]) ?_ (by omega), ?_, Ev.ofBeyond h hρ hfl ⟨l.blk, l.base + off, blk.cells.length - off + new.length, l.tot - off⟩ rfl _ _⟩, rfl, rfl⟩
                                    · simp only [CapOk]; omega
                                    · rw [hod]
                                      have e2 : l.base + off + len * i.size = l.base + blk.cells.length := by omega
                                      rw [e2]
                                      simpa only [aNew, St.withMem] using hrel
                                  · exact anew _ _ (st.withMem (mset st.mem b none)) (by omega) (h.kill b) (Ev.ofKill h floor hρ) rfl rfl ha
                    · cases ha
                  · cases ha
                · cases ha
            · cases ha
          · cases ha
        · cases ha
  · cases ha

theorem rows_app {get : Nat → List AVal} {off len n sz N : Nat} {new : List AVal} (hl : ∀ i, i < N → (get i).length = sz) (hN : off + len = N) (hnew : new.length = n * sz) :
    (∀ i, i < len + n → (appRow get off len sz new i).length = sz) ∧ rows (len + n) (appRow get off len sz new) = ((rows N get).drop (off * sz)).take (len * sz) ++ new := by
  have h1 : ∀ i, i < len + n → (appRow get off len sz new i).length = sz := fun i hi => by
    unfold appRow
    cases e : Nat.ble len i with
    | true =>
      have := Nat.le_of_ble_eq_true e
      simp only [cond_true, List.length_take, List.length_drop, hnew]
      have : (i - len + 1) * sz ≤ n * sz := Nat.mul_le_mul_right sz (by omega)
      rw [Nat.add_mul, Nat.one_mul] at this
      omega
    | false =>
      have : ¬ len ≤ i := fun h => by rw [Nat.ble_eq_true_of_le h] at e; cases e
      exact hl _ (by omega)
  refine ⟨h1, ?_⟩
  have hlen := rows_length (len + n) h1
  have hlenN := rows_length N hl
  have hd : ((rows N get).drop (off * sz)).length = len * sz := by rw [List.length_drop, hlenN, ← hN, Nat.add_mul]; omega
  rw [List.take_of_length_le (by omega)]
  apply List.ext_getElem?
  intro i
  by_cases hi : i < (len + n) * sz
  · have hsz : 0 < sz := by
      rcases Nat.eq_zero_or_pos sz with e | e
      · rw [e, Nat.mul_zero] at hi; omega
      · exact e
    have hj : i % sz < sz := Nat.mod_lt _ hsz
    have hq : i / sz < len + n := Nat.div_lt_of_lt_mul (by rw [Nat.mul_comm]; exact hi)
    have e : i = i / sz * sz + i % sz := by rw [Nat.mul_comm]; exact (Nat.div_add_mod i sz).symm
    generalize i / sz = q at *
    generalize i % sz = j at *
    subst e
    rw [rows_get (len + n) h1 q j hq hj]
    unfold appRow
    cases e : Nat.ble len q with
    | true =>
      have hle := Nat.le_of_ble_eq_true e
      have : len * sz ≤ q * sz := Nat.mul_le_mul_right sz hle
      simp only [cond_true]
      rw [List.getElem?_append_right (by omega), hd, List.getElem?_take, if_pos hj, List.getElem?_drop]
      congr 1
      rw [Nat.sub_mul]; omega
    | false =>
      have hlt : q < len := by
        rcases Nat.lt_or_ge q len with h | h
        · exact h
        · rw [Nat.ble_eq_true_of_le h] at e; cases e
      have : (q + 1) * sz ≤ len * sz := Nat.mul_le_mul_right sz hlt
      rw [Nat.add_mul, Nat.one_mul] at this
      simp only [cond_false]
      rw [List.getElem?_append_left (by omega), List.getElem?_drop, ← rows_get N hl (off + q) j (by omega) hj]
      congr 1
      rw [Nat.add_mul]; omega
  · rw [List.getElem?_eq_none (by omega), List.getElem?_eq_none (by rw [List.length_append, hd, hnew, ← Nat.add_mul]; omega)]

theorem rep_rows (n : Nat) (z : List AVal) : rep n z = rows n fun _ => z := by
  unfold rep rows
  rw [List.flatMap_def, List.map_const', List.length_range]

theorem Ev.remem {ρ' : Rho} {floor : Nat} {m m' m'' : Mem} {n n' : Nat} {w w' : World} (h : Ev ρ ρ' floor m n m' n' w w') (hm : ∀ b, b < n → ∀ cs ty, mget m b = some ⟨cs, ty, none⟩ → mget m'' b = mget m' b) : Ev ρ ρ' floor m n m'' n' w w' :=
  ⟨h.ext, h.new, h.nxt, fun b hb e cs ty hc => by rw [hm b hb cs ty hc]; exact h.unborn b hb e cs ty hc, h.frame, h.fresh, h.size, h.os, h.tape, h.output, h.still⟩

theorem Rel.remem {mem mem' : Mem} {next : Nat} {w : World} (h : Rel ρ mem next w) (hm : ∀ b, mget mem' b = mget mem b) : Rel ρ mem' next w :=
  ⟨h.dom, fun b b' l l' e e' he hs hs' => h.inj b b' l l' e e' he (by rw [← hm]; exact hs) (by rw [← hm]; exact hs'), fun b l ab e hc => h.blk b l ab e (by rw [← hm]; exact hc), h.old, fun b l e hs => h.sep b l e (by rw [← hm]; exact hs), h.real, fun b hb => by rw [hm]; exact h.bd b hb, h.ldom⟩

theorem aMakeSliceA_sound {cx : Ctx} {st st' : St} {w : World} (h : Rel ρ st.mem st.next w) {t : TypeId} {x y v : AVal} {ux uy : Value} (hb : aMakeSliceA P cx st t x y = some (v, st')) (hob : st'.ob = true) (hx : VRel ρ x ux) (hy : VRel ρ y uy) :
    ∃ ρ' u w', (Instr.makeSlice t ux uy).run P w = .ok u w' ∧ Post ρ cx.floor st st' v w ρ' u w' := by
  unfold aMakeSliceA at hb
  split at hb
  · rename_i e kl l kc c hu
    split at hb
    · rename_i i zero hi hz
      cases hchk : (Nat.beq zero.length i.size && Nat.ble 1 i.size) with
      | false => rw [hchk] at hb; cases hb
      | true =>
        rw [hchk, cond_true] at hb
        simp only [Bool.and_eq_true] at hchk
        obtain ⟨k1, k2⟩ := hchk
        have hzl := Nat.eq_of_beq_eq_true k1
        simp only [Option.map_eq_some_iff, Prod.mk.injEq] at hb
        obtain ⟨st1, ho, rfl, rfl⟩ := hb
        obtain ⟨o1, o2, o3, o4⟩ := owe_same ho
        obtain ⟨hc, _⟩ := o4 hob
        have m2 : st1.mem = mset st.mem st.next (some ⟨rows c.toNat fun _ => zero, e, some ⟨i.size, c.toNat, .flat fun _ => zero⟩⟩) := o2
        have n2 : st1.next = st.next + 1 := o3
        have h0 : aMakeSlice P st t (.int kl l) (.int kc c) = some (.sl st.next 0 l.toNat (.ex c.toNat), aNew st (rep c.toNat zero) e) := by
          unfold aMakeSlice
          simp only [hu, hi, hz, k1, hc, Bool.and_self, cond_true]
        obtain ⟨ρ', uv, w', hrun, hp, _, _⟩ := aMakeSlice_sound h cx.floor h0 hx hy
        refine ⟨ρ', uv, w', hrun, ?_, ?_, ?_⟩
        · have hv := hp.val
          cases hv with
          | sl _ _ _ _ l' c' hρ' hcap' hlen' =>
            have hbk := hp.rel.blk st.next l' ⟨rep c.toNat zero, e, none⟩ hρ' (mget_mset_same _ _ _)
            have hcn : c' = c.toNat := hcap'
            have q1 := hbk.n
            have q2 := hbk.tot
            simp only [rep_length, hzl] at q1
            have := VRel.sla (ρ := ρ') st.next i.size 0 l.toNat (.un i.size) l' c' hρ' (by simp only [CapOk, Nat.zero_mul, Nat.zero_add, hcn]; omega) hlen'
            rw [Nat.zero_mul] at this
            exact this
        · have hr : Rel ρ' (mset st.mem st.next (some ⟨rep c.toNat zero, e, none⟩)) (st.next + 1) w' := hp.rel
          rw [rep_rows] at hr
          rw [m2, n2]
          exact hr.setArr ⟨i.size, c.toNat, _⟩ rfl (Nat.le_of_ble_eq_true k2) fun _ _ => hzl
        · rw [m2, n2]
          refine hp.ev.remem fun b' hb' cs ty hcs => ?_
          show _ = mget (mset st.mem st.next _) b'
          rw [mget_mset_ne _ _ (by omega), mget_mset_ne _ _ (by omega)]
    · cases hb
  · cases hb

theorem aAppendA_sound {cx : Ctx} {st st' : St} {w : World} (h : Rel ρ st.mem st.next w) {ts : Array TypeId} {type : TypeId} {xs : List AVal} {us : Array Value} {v : AVal} (ha : aAppendA P cx st ts.toList xs = some (v, st')) (hob : st'.ob = true) (hx : All2 (VRel ρ) xs us.toList) :
    ∃ ρ' u w', (Builtin.append_ ts type us).run P w = .ok u w' ∧ Post ρ cx.floor st st' v w ρ' u w' := by
  obtain ⟨ul⟩ := us
  simp only at hx
  unfold aAppendA at ha
  split at ha
  · rename_i t u tr b sz off len z x xr hts
    split at ha
    · rename_i e ut hu hut
      split at ha
      · cases ha
      · rename_i hni
        split at ha
        · rename_i i hi
          split at ha
          · rename_i n new zero blk hc hz hm
            split at ha
            · rename_i A hA
              cases hchk : (Nat.beq zero.length i.size && Nat.beq new.length (n * i.size) && Nat.ble 1 i.size && new.all isSc && Nat.beq sz i.size && Nat.beq z sz && Nat.ble cx.floor b && Nat.ble 1 n) with
              | false => rw [hchk] at ha; cases ha
              | true =>
                rw [hchk, cond_true] at ha
                have hchk0 := hchk
                simp only [Bool.and_eq_true] at hchk
                obtain ⟨⟨⟨⟨⟨⟨⟨k1, k2⟩, k3⟩, k4⟩, k5⟩, k6⟩, k7⟩, k8⟩ := hchk
                obtain rfl := Nat.eq_of_beq_eq_true k5
                obtain rfl := Nat.eq_of_beq_eq_true k6
                have hnl := Nat.eq_of_beq_eq_true k2
                have hsz1 := Nat.le_of_ble_eq_true k3
                have hfl := Nat.le_of_ble_eq_true k7
                have hn1 := Nat.le_of_ble_eq_true k8
                simp only [Option.map_eq_some_iff, Prod.mk.injEq] at ha
                obtain ⟨st1, ho, rfl, rfl⟩ := ha
                obtain ⟨o1, o2, o3, o4⟩ := owe_same ho
                obtain ⟨hb, _⟩ := o4 hob
                simp only [Bool.and_eq_true, decide_eq_true_eq] at hb
                obtain ⟨hAs, hfull, hroom⟩ := hb
                have hAs := Nat.eq_of_beq_eq_true hAs
                have hbn : b < st.next := by
                  rcases Nat.lt_or_ge b st.next with g | g
                  · exact g
                  · rw [h.bd b g] at hm; cases hm
                have m2 : st1.mem = mset (mset st.mem b none) st.next (some ⟨rows (len + n) (appRow A.get off len i.size new), e, some ⟨i.size, len + n, appRow A.get off len i.size new⟩⟩) := o2
                have n2 : st1.next = st.next + 1 := o3
                cases hx with
                | cons ha0 hr =>
                  cases ha0 with
                  | sla _ _ _ _ _ l c hρ hcap hlen =>
                    obtain ⟨har1, har2, har3⟩ := (h.blk b l blk hρ hm).arr A hA
                    rw [hAs] at har3
                    obtain ⟨q1, q2⟩ := rows_app (new := new) har3 hfull hnl
                    have hlenr := rows_length A.n har3
                    have hmul : off * i.size + len * i.size = A.n * i.size := by rw [← Nat.add_mul, hfull]
                    have hcut : cut blk.cells (off * i.size) (len * i.size) = some ((blk.cells.drop (off * i.size)).take (len * i.size)) := by
                      unfold cut
                      simp only
                      rw [show Nat.beq ((blk.cells.drop (off * i.size)).take (len * i.size)).length (len * i.size) = true from by
                        rw [Nat.beq_eq]; simp [har1, hlenr]; omega]
                      rfl
                    have hroom' : Nat.ble ((len + n + 1) * (i.bytes + 1)) room = true := Nat.ble_eq_true_of_le hroom
                    have hnot : Nat.ble (off * i.size + (len + n) * i.size) blk.cells.length = false := by
                      have : 1 * i.size ≤ n * i.size := Nat.mul_le_mul_right _ hn1
                      cases g : Nat.ble (off * i.size + (len + n) * i.size) blk.cells.length with
                      | false => rfl
                      | true =>
                        have := Nat.le_of_ble_eq_true g
                        rw [har1, hlenr, Nat.add_mul] at this
                        omega
                    have hat : Nat.beq (off * i.size + len * i.size) blk.cells.length = true := by rw [har1, hlenr, hmul, Nat.beq_eq]
                    have h0 : aAppend P cx.floor st ts.toList (.sl b (off * i.size) len (.un i.size) :: x :: xr) = some (.sl st.next 0 (len + n) (.un i.size), aNew (st.withMem (mset st.mem b none)) (((blk.cells.drop (off * i.size)).take (len * i.size)) ++ new) e) := by
                      rw [hts]
                      unfold aAppend
                      simp only [hu, hut, hi, hz]
                      cases ut <;> first
                        | (exfalso; exact hni _ rfl)
                        | (simp only [newCells, hc, k1, k2, k3, k4, hm, hcut, hroom', k7, hnot, hat, Bool.and_self, cond_true, cond_false, Nat.beq_refl])
                    obtain ⟨ρ', uv, w', hrun, hp, _, _⟩ := aAppend_sound (type := type) h cx.floor h0 (us := ⟨_⟩) (.cons (.sl _ _ _ _ l c hρ hcap hlen) hr)
                    refine ⟨ρ', uv, w', hrun, ?_, ?_, ?_⟩
                    · have hv := hp.val
                      cases hv with
                      | sl _ _ _ _ l' c' hρ' hcap' hlen' =>
                        have := VRel.sla (ρ := ρ') st.next i.size 0 (len + n) (.un i.size) l' c' hρ' (by rw [Nat.zero_mul]; exact hcap') hlen'
                        rw [Nat.zero_mul] at this
                        exact this
                    · have hr := hp.rel
                      rw [m2, n2]
                      have hr : Rel ρ' (mset (mset st.mem b none) st.next (some ⟨((blk.cells.drop (off * i.size)).take (len * i.size)) ++ new, e, none⟩)) (st.next + 1) w' := hr
                      rw [har1, ← q2] at hr
                      exact hr.setArr ⟨i.size, len + n, _⟩ rfl hsz1 q1
                    · rw [m2, n2]
                      refine hp.ev.remem fun b' hb' cs ty hcs => ?_
                      have hne : b' ≠ b := fun e => by rw [e, hm] at hcs; cases hcs; cases hA
                      show _ = mget (mset (mset st.mem b none) st.next _) b'
                      rw [mget_mset_ne _ _ (by omega), mget_mset_ne _ _ hne, mget_mset_ne _ _ (by omega), mget_mset_ne _ _ hne]
                  | slan =>
                    have hq := rows_app (get := fun _ => List.replicate i.size AVal.undef) (off := 0) (len := 0) (N := 0) (new := new) (fun i hi => absurd hi (Nat.not_lt_zero _)) rfl hnl
                    have hfe : appRow (fun _ => List.replicate i.size AVal.undef) 0 0 i.size new = appRow A.get off 0 i.size new := rfl
                    rw [hfe] at hq
                    obtain ⟨q1, q2⟩ := hq
                    have hn0 : Nat.beq n 0 = false := by cases n with | zero => omega | succ n => rfl
                    have hroom' : Nat.ble ((n + 1) * (i.bytes + 1)) room = true := Nat.ble_eq_true_of_le (by rw [Nat.zero_add] at hroom; exact hroom)
                    have h0 : aAppend P cx.floor st ts.toList (.nils :: x :: xr) = some (.sl st.next 0 n (.un i.size), aNew st new e) := by
                      rw [hts]
                      unfold aAppend
                      simp only [hu, hut, hi, hz]
                      cases ut <;> first
                        | (exfalso; exact hni _ rfl)
                        | (simp only [newCells, hc, k1, k2, k3, k4, hn0, hroom', Bool.and_self, cond_true, cond_false])
                    obtain ⟨ρ', uv, w', hrun, hp, _, _⟩ := aAppend_sound (type := type) h cx.floor h0 (us := ⟨_⟩) (.cons .nils hr)
                    refine ⟨ρ', uv, w', hrun, ?_, ?_, ?_⟩
                    · have hv := hp.val
                      rw [Nat.zero_add]
                      cases hv with
                      | sl _ _ _ _ l' c' hρ' hcap' hlen' =>
                        have := VRel.sla (ρ := ρ') st.next i.size 0 n (.un i.size) l' c' hρ' (by rw [Nat.zero_mul]; exact hcap') hlen'
                        rw [Nat.zero_mul] at this
                        exact this
                    · have hr : Rel ρ' (mset st.mem st.next (some ⟨new, e, none⟩)) (st.next + 1) w' := hp.rel
                      have hr := hr.kill b
                      have hr : Rel ρ' (mset (mset st.mem b none) st.next (some ⟨new, e, none⟩)) (st.next + 1) w' := hr.remem fun b' => by
                        simp only [mget_mset]
                        by_cases e1 : b' = st.next
                        · rw [if_pos e1, if_neg (by omega), if_pos e1]
                        · rw [if_neg e1, if_neg e1]
                      rw [show new = rows (0 + n) (appRow A.get off 0 i.size new) by rw [q2]; simp] at hr
                      rw [m2, n2]
                      have := hr.setArr ⟨i.size, 0 + n, appRow A.get off 0 i.size new⟩ rfl hsz1 q1
                      exact this
                    · rw [m2, n2]
                      refine hp.ev.remem fun b' hb' cs ty hcs => ?_
                      have hne : b' ≠ b := fun e => by rw [e, hm] at hcs; cases hcs; cases hA
                      show _ = mget (mset st.mem st.next _) b'
                      rw [mget_mset_ne _ _ (by omega), mget_mset_ne _ _ hne, mget_mset_ne _ _ (by omega)]
            · cases ha
          · cases ha
        · cases ha
    · cases ha
  · cases ha

/-! ### append, row by row -/
theorem Rel.ghost {mem : Mem} {next : Nat} {w : World} (h : Rel ρ mem next w) (o : Option ABlk) : Rel ρ (mset mem next o) (next + 1) w := by
  have ne : ∀ c l, ρ c = some l → c ≠ next := fun c l e => Nat.ne_of_lt (h.dom c l e)
  refine ⟨fun c l e => Nat.lt_succ_of_lt (h.dom c l e), fun c c' m m' e e' he hs hs' => ?_, fun c m ac e hc => ?_, h.old, fun c m e hs => ?_, h.real, fun c hc => ?_, fun j l e => Nat.lt_succ_of_lt (h.ldom j l e)⟩
  · rw [mget_mset_ne _ _ (ne _ _ e)] at hs
    rw [mget_mset_ne _ _ (ne _ _ e')] at hs'
    exact h.inj c c' m m' e e' he hs hs'
  · rw [mget_mset_ne _ _ (ne _ _ e)] at hc
    exact h.blk c m ac e hc
  · rw [mget_mset_ne _ _ (ne _ _ e)] at hs
    exact h.sep c m e hs
  · rw [mget_mset_ne _ _ (by omega)]
    exact h.bd c (by omega)

theorem Ev.ghost {mem : Mem} {next : Nat} {w : World} (h : Rel ρ mem next w) (floor : Nat) (o : Option ABlk) : Ev ρ ρ floor mem next (mset mem next o) (next + 1) w w where
  ext := Rho.le_refl _
  new _ _ := rfl
  nxt := Nat.le_succ _
  unborn k hk _ cs ty hm := by rw [mget_mset_ne _ _ (Nat.ne_of_lt hk)]; exact hm
  frame _ _ hk _ := hk
  fresh k m hk e := by have := h.dom k m e; omega
  size := Nat.le_refl _
  os := rfl
  tape := rfl
  output := rfl
  still _ _ := rfl

/-- The rows of a slice that nobody writes. -/
theorem dat_cells {mem : Mem} {next : Nat} {w : World} (h : Rel ρ mem next w) {n sz : Nat} {g : Nat → List AVal} {ux : Value} (hx : VRel ρ (.dat n g) ux) (hg : ∀ i, i < n → (g i).length = sz) (hsz : 1 ≤ sz) :
    (∀ w, (Builtin.lenOf ux).run P w = .ok n w) ∧ ∃ vs : Array Value, VRels ρ (rows n g) vs ∧ ∀ d, (Builtin.firstCells sz n ux).run P { w with drawn := d } = .ok vs { w with drawn := d } := by
  cases hx with
  | datn => exact ⟨fun w => by simp [Builtin.lenOf], #[], ⟨by simp [rows], fun i h1 h2 => by simp [rows] at h1⟩, fun d => by simp [Builtin.firstCells]⟩
  | dat _ _ blk base sz' cap val hcap hsz' hv hh =>
    refine ⟨fun w => by simp [Builtin.lenOf], ?_⟩
    have hl := rows_length n hg
    have hdiv : ∀ k, k < n * sz → k / sz < n ∧ k % sz < sz ∧ k / sz * sz + k % sz = k := fun k hk =>
      ⟨Nat.div_lt_of_lt_mul (by rw [Nat.mul_comm]; exact hk), Nat.mod_lt _ hsz, by rw [Nat.mul_comm]; exact Nat.div_add_mod k sz⟩
    have hcell : ∀ (d k : Nat), k < n * sz → ({ w with drawn := d } : World).cell? ((⟨blk, base, none⟩ : Addr).add k) = some (val (k / sz) (k % sz)) := by
      intro d k hk
      obtain ⟨hq, hj, e4⟩ := hdiv k hk
      have hs : sz' = sz := by rw [← hsz' _ hq, hg _ hq]
      obtain ⟨cs, el, fz, e1, e2⟩ := hh (k / sz) (k % sz) hq (by omega)
      have e3 := h.old _ _ e1
      rw [hs, e4] at e2
      rw [addr_add]
      simp only [World.cell?, e3]
      exact e2
    refine ⟨_, ⟨?_, ?_⟩, fun d => by simp only [Builtin.firstCells]; exact run_loadCells _ _ _ (fun k => val (k / sz) (k % sz)) (hcell d)⟩
    · simp [hl]
    · intro k h1 h2
      obtain ⟨hq, hj, e4⟩ := hdiv k (by rw [← hl]; exact h1)
      have hj' : k % sz < (g (k / sz)).length := by rw [hg _ hq]; exact hj
      have hr := rows_get n hg (k / sz) (k % sz) hq hj
      rw [e4, List.getElem?_eq_getElem h1, List.getElem?_eq_getElem hj'] at hr
      rw [Option.some.inj hr]
      simpa using (hv (k / sz) (k % sz) hq hj').mono (bare_le ρ)

theorem rows_all {g : Nat → List AVal} {p : AVal → Bool} (n : Nat) (h : ∀ i, i < n → (g i).all p = true) : (rows n g).all p = true := by
  refine List.all_eq_true.2 fun a ha => ?_
  unfold rows at ha
  obtain ⟨i, hi, hai⟩ := List.mem_flatMap.1 ha
  exact List.all_eq_true.1 (h i (List.mem_range.1 hi)) a hai

theorem srcRows_sound {mem : Mem} {next : Nat} {w : World} (h : Rel ρ mem next w) {t u e : TypeId} {ut : TypeDesc} {i : TypeInfo} {z : Value} {zero : List AVal} {x : AVal} {ux : Value} {n : Nat} {g : Nat → List AVal} {o : Bool} (hu : P.underlying t = some (.slice e)) (hut : P.underlying u = some ut) (hi : P.info? e = some i) (hz : i.zero = some z)
    (hzr : VRels ρ zero z.cells) (hzl : zero.length = i.size) (hzs : zero.all isSc = true) (hsz : 1 ≤ i.size) (hc : srcRows i.size zero ut x = some (n, g, o)) (ho : o = true) (hx : VRel ρ x ux) :
    (∀ k, k < n → (g k).length = i.size) ∧ ∃ vs, Feeds P ρ t u e i z ux n (rows n g) vs w ∧ ∀ v ∈ vs.toList, v.oneCell' = true := by
  subst ho
  unfold srcRows at hc
  split at hc
  · rename_i k m
    split at hc
    · rename_i kt
      simp only [Option.some.injEq, Prod.mk.injEq] at hc
      obtain ⟨rfl, rfl, h0⟩ := hc
      have hcs : newCells mem i.size zero (.int kt) (.int k m) = some (m.toNat, rep m.toNat zero) := by
        unfold newCells
        simp only [h0, cond_true]
      obtain ⟨vs, hF⟩ := newCells_sound (P := P) (u := u) (t := t) h hu hut hi hz hzr hzl hcs hx (by rw [rep_length, hzl])
      rw [rep_rows] at hF
      exact ⟨fun _ _ => hzl, vs, hF, VRel.cells_oneCell hF.rel (rows_all _ fun _ _ => hzs)⟩
    · cases hc
  · rename_i nn gg
    split at hc
    · cases hc
    · rename_i hni
      simp only [Option.some.injEq, Prod.mk.injEq] at hc
      obtain ⟨rfl, rfl, h0⟩ := hc
      have hp := @of_decide_eq_true _ (Classical.propDecidable _) h0
      obtain ⟨hlen, vs, hvs, hfc⟩ := dat_cells (P := P) h hx (fun i hi => (hp i hi).1) hsz
      have hfc0 : (Builtin.firstCells i.size nn ux).run P w = .ok vs w := hfc w.drawn
      have hfc1 : (Builtin.firstCells i.size nn ux).run P w.drew = .ok vs w.drew := hfc (w.drawn + 1)
      exact ⟨fun i hi => (hp i hi).1, vs, ⟨hvs, fun _ hroom _ hst hno => run_append_in hu hut (fun k e => hni k e) hi (hlen w) hfc0 hroom hst hno, fun hold hroom hbytes => run_append_new hu hut (fun k e => hni k e) hi hz (hlen w) hfc1 hold hroom hbytes⟩,
        VRel.cells_oneCell hvs (rows_all _ fun i hi => (hp i hi).2)⟩
  · cases hc

/-- What append of rows leaves. -/
def Grown (P : Program) (ρ : Rho) (floor : Nat) (mem mem' : Mem) (next : Nat) (sz : Nat) (e : TypeId) (N : Nat) (G : Nat → List AVal) (w : World) (r : World → Result Value) : Prop :=
  ∃ ρ' u w', r w = .ok u w' ∧ VRel ρ' (.sla next sz 0 N (.un sz)) u ∧ Rel ρ' (mset mem' next (some ⟨rows N G, e, some ⟨sz, N, G⟩⟩)) (next + 1) w' ∧ Ev ρ ρ' floor mem next (mset mem' next (some ⟨rows N G, e, some ⟨sz, N, G⟩⟩)) (next + 1) w w'

theorem grown_block {mem : Mem} {next : Nat} {w : World} (h : Rel ρ mem next w) (floor : Nat) {t u e : TypeId} {type : TypeId} {ts : List TypeId} {xs : List Value} {i : TypeInfo} {z ux : Value} {n : Nat} {new : List AVal} {vs : Array Value} (hF : Feeds P ρ t u e i z ux n new vs w)
    (hone : ∀ v ∈ vs.toList, v.oneCell' = true) (hnl : new.length = n * i.size) (hzs : z.cells.size = i.size) (hsz : 1 ≤ i.size) {len c off b : Nat} {l : Loc} {blk : ABlk} (hrm : (len + n + 1) * (i.bytes + 1) ≤ room)
    (hρ : ρ b = some l) (hm : mget mem b = some blk) (hfl : floor ≤ b) (hoff : off + len * i.size ≤ blk.cells.length) (hlc : len ≤ c) (hcap : (l.n ≤ off + c * i.size ∧ off + c * i.size ≤ l.tot) ∨ c ≤ len)
    {G : Nat → List AVal} (hG : rows (len + n) G = (blk.cells.drop off).take (len * i.size) ++ new) (hGl : ∀ k, k < len + n → (G k).length = i.size) :
    Grown P ρ floor mem (mset mem b none) next i.size e (len + n) G w fun w => (Builtin.append_ (t :: u :: ts).toArray type ((.slice (some ⟨l.blk, l.base + off, none⟩) len c) :: ux :: xs).toArray).run P w := by
  have hvs := hF.rel
  have hvsz : vs.size = n * i.size := by rw [← hvs.1]; exact hnl
  have hbk := h.blk b l blk hρ hm
  have hln := hbk.n
  have htot := hbk.tot
  have hmul : (len + n) * i.size = len * i.size + n * i.size := Nat.add_mul _ _ _
  have hcut : cut blk.cells off (len * i.size) = some ((blk.cells.drop off).take (len * i.size)) := by
    unfold cut
    simp only
    rw [show Nat.beq ((blk.cells.drop off).take (len * i.size)).length (len * i.size) = true from by rw [Nat.beq_eq]; simp; omega]
    rfl
  have hcos : cellsOfSlice mem i.size (.sl b off len (.ex c)) = some (len, (blk.cells.drop off).take (len * i.size)) := by simp [cellsOfSlice, hm, hcut]
  have holdl : ((blk.cells.drop off).take (len * i.size)).length = len * i.size := by simp; omega
  obtain ⟨_, hfo⟩ := cellsOfSlice_sound (P := P) h hcos (.sl b off len (.ex c) l c hρ rfl hlc) holdl
  obtain ⟨ovs, hovs, hof⟩ := hfo len (Nat.le_refl _)
  rw [List.take_of_length_le (by omega)] at hovs
  have hovz : ovs.size = len * i.size := by rw [← hovs.1]; exact holdl
  have hof1 : (Builtin.firstCells i.size len (.slice (some ⟨l.blk, l.base + off, none⟩) len c)).run P w.drew = .ok ovs w.drew := hof (w.drawn + 1)
  have hrn : n = 0 ∨ (n + 1) * (i.bytes + 1) ≤ 1099511627776 := .inr (Nat.le_trans (Nat.mul_le_mul_right _ (by omega)) hrm)
  by_cases hroom : len + n ≤ c
  · -- there is room
    have hcm : (len + n) * i.size ≤ c * i.size := Nat.mul_le_mul_right _ hroom
    obtain ⟨T, t1, t2, t3⟩ : ∃ T, off + len * i.size - off + new.length ≤ T ∧ off + T ≤ l.tot ∧ c * i.size ≤ T := by
      rcases hcap with ⟨c1, c2⟩ | c1
      · exact ⟨l.tot - off, by omega, by omega, by omega⟩
      · have : n = 0 := by omega
        subst this
        have : c = len := by omega
        subst this
        exact ⟨c * i.size, by omega, by omega, by omega⟩
    obtain ⟨cur, el, hw, hcsz, hrel⟩ := h.beyond2 hρ hm (off := off) (m := off + len * i.size) (T := T) (new := new) (vs := vs.toList) e (by simpa using hvs.1.symm) (by omega) hoff t1 t2 (fun j h1 h2 => by simpa using hvs.2 j h1 (by simpa using h2))
    have hst := run_storeCells_at P l.blk (l.base + off + len * i.size) el vs.toList 0 cur w hw (by rw [Nat.add_zero, Nat.add_assoc l.base]; exact hcsz) hone
    rw [Nat.add_zero] at hst
    have hrun := hF.hin (type := type) (ts := ts) (base := some ⟨l.blk, l.base + off, none⟩) (len := len) (c := c) (xs := xs) hrn hroom (w' := w.setRow l.blk (cur.toList.take (l.base + off + len * i.size) ++ vs.toList ++ cur.toList.drop (l.base + off + len * i.size + vs.toList.length)).toArray)
      (fun a e => by cases e; rw [addr_add]; exact hst) (fun e => by cases e)
    have hdt : (blk.cells.take (off + len * i.size)).drop off = (blk.cells.drop off).take (len * i.size) := by
      rw [List.drop_take]; congr 1; omega
    rw [hdt, ← hG, ← Nat.add_assoc] at hrel
    refine ⟨_, _, _, hrun, ?_, hrel.setArr ⟨i.size, len + n, G⟩ rfl hsz hGl, ?_⟩
    · have := VRel.sla (ρ := rhoAdd ρ next ⟨l.blk, l.base + off, off + len * i.size - off + new.length, T⟩) next i.size 0 (len + n) (.un i.size) ⟨l.blk, l.base + off, off + len * i.size - off + new.length, T⟩ c (by simp [rhoAdd])
        (by simp only [CapOk, Nat.zero_mul, Nat.zero_add]; omega) (by omega)
      rw [Nat.zero_mul] at this
      exact this
    · exact Ev.ofBeyond h hρ hfl ⟨l.blk, l.base + off, off + len * i.size - off + new.length, T⟩ rfl _ _
  · -- a new row
    let st : St := ⟨.leaf, mem, next, [], true⟩
    have hrel1 : Rel ρ (st.withMem (mset mem b none)).mem (st.withMem (mset mem b none)).next w := h.kill b
    obtain ⟨newCap, hcap', rest, hrest, hrun⟩ := hF.hnew (type := type) (ts := ts) (base := some ⟨l.blk, l.base + off, none⟩) (len := len) (c := c) (xs := xs) hof1 (by omega) (by simpa [room] using hrm)
    have hov := hovs.append hvs
    have hsum : (ovs ++ vs).size + rest.size = newCap * i.size := by rw [Array.size_append, hovz, hvsz, hrest, hzs, ← Nat.add_mul, ← Nat.add_mul]; congr 1; omega
    have hp := post_grown hrel1 floor hov rest e e (.sla next i.size 0 (len + n) (.un i.size)) (.slice (some ⟨w.heap.size, 0, none⟩) (len + n) newCap) (fun ρ' hρ' => by
      have := VRel.sla (ρ := ρ') next i.size 0 (len + n) (.un i.size) _ newCap hρ' (by
        simp only [CapOk]
        rw [hsum]
        exact ⟨by rw [Nat.zero_mul, Nat.zero_add, List.length_append, holdl, hnl, ← Nat.add_mul]; exact Nat.mul_le_mul_right _ hcap', by omega⟩) hcap'
      rw [Nat.zero_mul] at this
      exact this)
    rw [← hG] at hp
    refine ⟨rhoAdd ρ next ⟨w.heap.size, 0, (rows (len + n) G).length, (ovs ++ vs).size + rest.size⟩, _, _, hrun, hp.val, ?_, ?_⟩
    · exact Rel.setArr hp.rel ⟨i.size, len + n, G⟩ rfl hsz hGl
    · refine ((Ev.ofKill h floor hρ).trans hp.ev).remem fun b' hb' cs ty hcs => ?_
      have hne : ¬ b' = next := Nat.ne_of_lt hb'
      show mget (mset (mset mem b none) next _) b' = mget (mset (mset mem b none) next _) b'
      simp only [mget_mset, if_neg hne]

theorem grown_nil {mem : Mem} {next : Nat} {w : World} (h : Rel ρ mem next w) (floor : Nat) {t u e : TypeId} {type : TypeId} {ts : List TypeId} {xs : List Value} {i : TypeInfo} {z ux : Value} {n : Nat} {new : List AVal} {vs : Array Value} (hF : Feeds P ρ t u e i z ux n new vs w)
    (hnl : new.length = n * i.size) (hzs : z.cells.size = i.size) (hsz : 1 ≤ i.size) (hrm : (0 + n + 1) * (i.bytes + 1) ≤ room) {G : Nat → List AVal} (hG : rows (0 + n) G = new) (hGl : ∀ k, k < 0 + n → (G k).length = i.size) :
    Grown P ρ floor mem mem next i.size e (0 + n) G w fun w => (Builtin.append_ (t :: u :: ts).toArray type ((.slice none 0 0) :: ux :: xs).toArray).run P w := by
  have hvs := hF.rel
  have hvsz : vs.size = n * i.size := by rw [← hvs.1]; exact hnl
  rcases Nat.eq_zero_or_pos n with hn0 | hnpos
  · subst hn0
    have hrun := hF.hin (type := type) (ts := ts) (base := none) (len := 0) (c := 0) (xs := xs) (.inl rfl) (Nat.le_refl _) (w' := w) (fun a e => by cases e) (fun _ => rfl)
    exact ⟨ρ, _, w, hrun, .slan _ _ _ _, h.ghost _, Ev.ghost h floor _⟩
  · obtain ⟨newCap, hcap, rest, hrest, hrun⟩ := hF.hnew (type := type) (ts := ts) (base := none) (len := 0) (c := 0) (xs := xs) (old := #[]) (by simp [Builtin.firstCells]) (by omega) (by simpa [room] using hrm)
    have e0 : (#[] : Array Value) ++ vs = vs := by simp
    rw [e0] at hrun
    have hsum : vs.size + rest.size = newCap * i.size := by rw [hvsz, hrest, hzs, ← Nat.add_mul]; congr 1; omega
    let st : St := ⟨.leaf, mem, next, [], true⟩
    have hrel1 : Rel ρ st.mem st.next w := h
    have hp := post_grown hrel1 floor hvs rest e e (.sla next i.size 0 (0 + n) (.un i.size)) (.slice (some ⟨w.heap.size, 0, none⟩) (0 + n) newCap) (fun ρ' hρ' => by
      have := VRel.sla (ρ := ρ') next i.size 0 (0 + n) (.un i.size) _ newCap hρ' (by
        simp only [CapOk]
        rw [hsum, hnl]
        exact ⟨by rw [Nat.zero_mul, Nat.zero_add]; exact Nat.mul_le_mul_right _ (by omega), by omega⟩) hcap
      rw [Nat.zero_mul] at this
      exact this)
    rw [← hG] at hp
    refine ⟨rhoAdd ρ next ⟨w.heap.size, 0, (rows (0 + n) G).length, vs.size + rest.size⟩, _, _, hrun, hp.val, Rel.setArr hp.rel ⟨i.size, 0 + n, G⟩ rfl hsz hGl, ?_⟩
    · refine hp.ev.remem fun b' hb' cs ty hcs => ?_
      have hne : ¬ b' = next := Nat.ne_of_lt hb'
      show mget (mset mem next _) b' = mget (mset mem next _) b'
      simp only [mget_mset, if_neg hne]

theorem flatMap_same {α β : Type} {f g : α → List β} : ∀ {l : List α}, (∀ a, a ∈ l → f a = g a) → l.flatMap f = l.flatMap g
  | [], _ => rfl
  | a :: l, h => by rw [List.flatMap_cons, List.flatMap_cons, h a (by simp), flatMap_same fun b hb => h b (by simp [hb])]

theorem rows_cat {get g : Nat → List AVal} {len n sz : Nat} (hl : ∀ i, i < len → (get i).length = sz) (hg : ∀ i, i < n → (g i).length = sz) :
    (∀ i, i < len + n → (catRow get len g i).length = sz) ∧ rows (len + n) (catRow get len g) = rows len get ++ rows n g := by
  have h1 : ∀ i, i < len + n → (catRow get len g i).length = sz := fun i hi => by
    unfold catRow
    cases e : Nat.ble len i with
    | true =>
      have := Nat.le_of_ble_eq_true e
      simp only [cond_true]
      exact hg _ (by omega)
    | false =>
      have : ¬ len ≤ i := fun h => by rw [Nat.ble_eq_true_of_le h] at e; cases e
      exact hl _ (by omega)
  refine ⟨h1, ?_⟩
  unfold rows
  rw [List.range_add, List.flatMap_append]
  congr 1
  · refine flatMap_same fun i hi => ?_
    have := List.mem_range.1 hi
    unfold catRow
    rw [show Nat.ble len i = false from Bool.eq_false_iff.2 fun e => by have := Nat.le_of_ble_eq_true e; omega]
    rfl
  · rw [List.flatMap_map]
    refine flatMap_same fun i hi => ?_
    unfold catRow
    rw [show Nat.ble len (len + i) = true from Nat.ble_eq_true_of_le (Nat.le_add_right _ _), cond_true, Nat.add_sub_cancel_left]

theorem rows_chunks {sz : Nat} : ∀ (n : Nat) (l : List AVal), l.length = n * sz → rows n (fun k => (l.drop (k * sz)).take sz) = l ∧ ∀ k, k < n → ((l.drop (k * sz)).take sz).length = sz := by
  intro n l hl
  have h1 : ∀ k, k < n → ((l.drop (k * sz)).take sz).length = sz := fun k hk => by
    have : (k + 1) * sz ≤ n * sz := Nat.mul_le_mul_right _ hk
    rw [Nat.add_mul, Nat.one_mul] at this
    simp; omega
  refine ⟨?_, h1⟩
  have hlen := rows_length n h1
  apply List.ext_getElem?
  intro i
  by_cases hi : i < n * sz
  · have hsz : 0 < sz := by
      rcases Nat.eq_zero_or_pos sz with e | e
      · rw [e, Nat.mul_zero] at hi; omega
      · exact e
    have hj : i % sz < sz := Nat.mod_lt _ hsz
    have hq : i / sz < n := Nat.div_lt_of_lt_mul (by rw [Nat.mul_comm]; exact hi)
    have e : i / sz * sz + i % sz = i := by rw [Nat.mul_comm]; exact Nat.div_add_mod i sz
    have := rows_get n h1 (i / sz) (i % sz) hq hj
    rw [e] at this
    rw [this, List.getElem?_take, if_pos hj, List.getElem?_drop, e]
  · rw [List.getElem?_eq_none (by omega), List.getElem?_eq_none (by omega)]

theorem rows_part {get : Nat → List AVal} {sz N off len : Nat} (hl : ∀ i, i < N → (get i).length = sz) (h : off + len ≤ N) : rows len (fun k => get (off + k)) = ((rows N get).drop (off * sz)).take (len * sz) := by
  have h1 : ∀ k, k < len → (get (off + k)).length = sz := fun k hk => hl _ (by omega)
  have hL := rows_length len h1
  have hN := rows_length N hl
  have hm : (off + len) * sz ≤ N * sz := Nat.mul_le_mul_right _ h
  rw [Nat.add_mul] at hm
  apply List.ext_getElem?
  intro i
  by_cases hi : i < len * sz
  · have hsz : 0 < sz := by
      rcases Nat.eq_zero_or_pos sz with e | e
      · rw [e, Nat.mul_zero] at hi; omega
      · exact e
    have hj : i % sz < sz := Nat.mod_lt _ hsz
    have hq : i / sz < len := Nat.div_lt_of_lt_mul (by rw [Nat.mul_comm]; exact hi)
    have e : i / sz * sz + i % sz = i := by rw [Nat.mul_comm]; exact Nat.div_add_mod i sz
    have a1 := rows_get len h1 (i / sz) (i % sz) hq hj
    have a2 := rows_get N hl (off + i / sz) (i % sz) (by omega) hj
    rw [e] at a1
    rw [a1, List.getElem?_take, if_pos hi, List.getElem?_drop, ← a2]
    congr 1
    rw [Nat.add_mul]; omega
  · rw [List.getElem?_eq_none (by omega), List.getElem?_eq_none (by simp; omega)]

theorem aAppendG_sound {cx : Ctx} {st st' : St} {w : World} (h : Rel ρ st.mem st.next w) {ts : Array TypeId} {type : TypeId} {xs : List AVal} {us : Array Value} {v : AVal} (ha : aAppendG P cx st ts.toList xs = some (v, st')) (hob : st'.ob = true) (hx : All2 (VRel ρ) xs us.toList) :
    ∃ ρ' u w', (Builtin.append_ ts type us).run P w = .ok u w' ∧ Post ρ cx.floor st st' v w ρ' u w' := by
  obtain ⟨ts⟩ := ts
  obtain ⟨us⟩ := us
  simp only at ha hx
  unfold aAppendG at ha
  split at ha
  · rename_i t tu tts s x txs
    cases hx with
    | @cons _ su _ _ hs hx =>
      cases hx with
      | @cons _ ux _ uxs hx _ =>
        split at ha
        · rename_i e ut hu hut
          split at ha
          · rename_i i zero hi hz
            split at ha
            · rename_i b len get o1 n g o2 ht hc
              obtain ⟨i2, z, hi2, hz2, hzr, _⟩ := zeroOf_sound (ρ := ρ) hz
              obtain rfl : i = i2 := by rw [hi] at hi2; exact Option.some.inj hi2
              obtain ⟨hchk, ha⟩ := bif_inv0 ha
              simp only [Bool.and_eq_true] at hchk
              obtain ⟨⟨⟨hzl, hzsc⟩, hsz⟩, hfl⟩ := hchk
              have hzl := Nat.eq_of_beq_eq_true hzl
              have hsz := Nat.le_of_ble_eq_true hsz
              have hzs : z.cells.size = i.size := by rw [← hzr.1]; exact hzl
              simp only [Option.map_eq_some_iff, Prod.mk.injEq] at ha
              obtain ⟨st1, ho, rfl, rfl⟩ := ha
              obtain ⟨_, m2, n2, o4⟩ := owe_same ho
              obtain ⟨hb, _⟩ := o4 hob
              simp only [Bool.and_eq_true, decide_eq_true_eq] at hb
              obtain ⟨hb1, hb2, hrm⟩ := hb
              have m2 : st1.mem = mset (killO st.mem b) st.next (some ⟨rows (len + n) (catRow get len g), e, some ⟨i.size, len + n, catRow get len g⟩⟩) := m2
              have n2 : st1.next = st.next + 1 := n2
              obtain ⟨hgl, vs, hF, hone⟩ := srcRows_sound (P := P) (u := tu) (t := t) h hu hut hi hz2 hzr hzl hzsc hsz hc hb2 hx
              have hnl := rows_length n hgl
              suffices Grown P ρ cx.floor st.mem (killO st.mem b) st.next i.size e (len + n) (catRow get len g) w fun w => (Builtin.append_ (t :: tu :: tts).toArray type (su :: ux :: uxs).toArray).run P w by
                obtain ⟨ρ', u, w', hrun, hv, hr, hev⟩ := this
                exact ⟨ρ', u, w', hrun, hv, by rw [m2, n2]; exact hr, by rw [m2, n2]; exact hev⟩
              unfold toldRows at ht
              split at ht
              · simp only [Option.some.injEq, Prod.mk.injEq] at ht
                obtain ⟨rfl, rfl, rfl, _⟩ := ht
                cases hs
                obtain ⟨q1, q2⟩ := rows_cat (get := fun _ => []) (len := 0) (fun i hi => absurd hi (Nat.not_lt_zero _)) hgl
                exact grown_nil h cx.floor hF hnl hzs hsz hrm (by rw [q2]; simp [rows]) q1
              · rename_i b0 off len0 cap
                split at ht
                · rename_i blk hm
                  split at ht
                  · rename_i old hold
                    obtain ⟨hcap0, ht⟩ := bif_inv0 ht
                    simp only [Bool.and_eq_true] at hcap0
                    obtain ⟨hcap0, hoff⟩ := hcap0
                    have hoff := Nat.le_of_ble_eq_true hoff
                    simp only [Option.some.injEq, Prod.mk.injEq] at ht
                    obtain ⟨rfl, rfl, rfl, _⟩ := ht
                    obtain ⟨k1, k2, k3⟩ := cut_spec hold
                    obtain ⟨r1, r2⟩ := rows_chunks len0 old k2
                    obtain ⟨q1, q2⟩ := rows_cat r2 hgl
                    cases hs with
                    | sl _ _ _ _ l c hρ hcap hlc =>
                      have hbk := h.blk b0 l blk hρ hm
                      have k4 : off + len0 * i.size ≤ blk.cells.length := by omega
                      refine grown_block h cx.floor hF hone hnl hzs hsz hrm hρ hm (Nat.le_of_ble_eq_true hfl) k4 hlc ?_ (by rw [q2, r1, k1]) q1
                      cases cap with
                      | ex k => exact .inr (by simp only [CapOk] at hcap; rw [hcap]; exact Nat.le_of_ble_eq_true hcap0)
                      | un zz =>
                        have := Nat.eq_of_beq_eq_true hcap0
                        simp only [CapOk] at hcap
                        exact .inl (by rw [← this]; exact hcap)
                  · cases ht
                · cases ht
              · rename_i b0 zz off len0 cap
                split at ht
                · rename_i blk hm
                  split at ht
                  · rename_i A hA
                    obtain ⟨hcap0, ht⟩ := bif_inv0 ht
                    simp only [Option.some.injEq, Prod.mk.injEq] at ht
                    obtain ⟨rfl, rfl, rfl, rfl⟩ := ht
                    simp only [Bool.and_eq_true, decide_eq_true_eq] at hb1
                    obtain ⟨hz1, hz2', hfit⟩ := hb1
                    obtain rfl := Nat.eq_of_beq_eq_true hz1
                    have hAs := Nat.eq_of_beq_eq_true hz2'
                    cases hs with
                    | sla _ _ _ _ _ l c hρ hcap hlc =>
                      obtain ⟨har1, har2, har3⟩ := (h.blk b0 l blk hρ hm).arr A hA
                      rw [hAs] at har3
                      have hlr := rows_length A.n har3
                      have hgl0 : ∀ k, k < len0 → (A.get (off + k)).length = i.size := fun k hk => har3 _ (by omega)
                      obtain ⟨q1, q2⟩ := rows_cat hgl0 hgl
                      have hm2 : (off + len0) * i.size ≤ A.n * i.size := Nat.mul_le_mul_right _ hfit
                      rw [Nat.add_mul] at hm2
                      refine grown_block h cx.floor hF hone hnl hzs hsz hrm hρ hm (Nat.le_of_ble_eq_true hfl) (by rw [har1, hlr]; exact hm2) hlc ?_ (by rw [q2, rows_part har3 hfit, har1]) q1
                      cases cap with
                      | ex k => exact .inr (by simp only [CapOk] at hcap; rw [hcap]; exact Nat.le_of_ble_eq_true hcap0)
                      | un zz =>
                        have := Nat.eq_of_beq_eq_true hcap0
                        simp only [CapOk] at hcap
                        exact .inl (by rw [← this] at hcap ⊢; exact hcap)
                    | slan =>
                      obtain ⟨q1, q2⟩ := rows_cat (get := fun k => A.get (off + k)) (len := 0) (fun i hi => absurd hi (Nat.not_lt_zero _)) hgl
                      obtain ⟨ρ', u, w', hrun, hv, hr, hev⟩ := grown_nil (P := P) (type := type) (ts := tts) (xs := uxs) h cx.floor hF hnl hzs hsz hrm (G := catRow (fun k => A.get (off + k)) 0 g) (by rw [q2]; simp [rows]) q1
                      have hbn : b0 < st.next := by
                        rcases Nat.lt_or_ge b0 st.next with g | g
                        · exact g
                        · rw [h.bd b0 g] at hm; cases hm
                      refine ⟨ρ', u, w', hrun, hv, ?_, ?_⟩
                      · refine (hr.kill b0).remem fun b' => ?_
                        simp only [killO, mget_mset]
                        by_cases e1 : b' = st.next
                        · rw [if_pos e1, if_neg (by omega), if_pos e1]
                        · rw [if_neg e1, if_neg e1]
                      · refine hev.remem fun b' hb' cs ty hcs => ?_
                        have hne : b' ≠ b0 := fun e => by rw [e, hm] at hcs; cases hcs; cases hA
                        show mget (mset (mset st.mem b0 none) st.next _) b' = mget (mset st.mem st.next _) b'
                        rw [mget_mset_ne _ _ (by omega), mget_mset_ne _ _ hne, mget_mset_ne _ _ (by omega)]
                  · cases ht
                · cases ht
              · cases ht
            · cases ha
          · cases ha
        · cases ha
  · cases ha

theorem aCopy_sound {st st' : St} {w : World} (h : Rel ρ st.mem st.next w) (floor : Nat) {ts : Array TypeId} {type : TypeId} {xs : List AVal} {us : Array Value} {v : AVal} (ha : aCopy P floor st ts.toList xs = some (v, st')) (hx : All2 (VRel ρ) xs us.toList) :
    ∃ ρ' u w', (Builtin.copy_ ts type us).run P w = .ok u w' ∧ Post ρ floor st st' v w ρ' u w' ∧ st'.env = st.env ∧ st'.ob = st.ob := by
  obtain ⟨ts⟩ := ts
  obtain ⟨us⟩ := us
  simp only at ha hx
  unfold aCopy at ha
  split at ha
  · rename_i t _ d x _
    cases hx with
    | @cons _ ud _ _ hd hx =>
      cases hx with
      | @cons _ ux _ uxs hx _ =>
        split at ha
        · rename_i e hu
          split at ha
          · rename_i i hi
            split at ha
            · rename_i m src hcs
              cases hc : (Nat.beq src.length (m * i.size) && src.all isSc) with
              | false => rw [hc] at ha; cases ha
              | true =>
                rw [hc, cond_true] at ha
                simp only [Bool.and_eq_true] at hc
                have hsl := Nat.eq_of_beq_eq_true hc.1
                have hsc := hc.2
                obtain ⟨hlen, hfirst⟩ := cellsOfSlice_sound (P := P) h hcs hx hsl
                split at ha
                · cases hd
                  simp only [Option.some.injEq, Prod.mk.injEq] at ha
                  obtain ⟨rfl, rfl⟩ := ha
                  obtain ⟨vs, hvs, hfc⟩ := hfirst 0 (Nat.zero_le _)
                  have hfc0 : (Builtin.firstCells i.size 0 ux).run P w = .ok vs w := hfc w.drawn
                  refine ⟨ρ, _, w, ?_, ⟨.int _ _, h, Ev.refl _ _ _ _ _ h.dom⟩, rfl, rfl⟩
                  simp [Builtin.copy_, run_underlying hu, hlen, size_run hi, hfc0, goInt]
                · rename_i b off len cap
                  split at ha
                  · rename_i blk hm
                    dsimp only at ha
                    cases hf : (Nat.ble floor b && Nat.ble (off + (Nat.min m len) * i.size) blk.cells.length) with
                    | false => rw [hf] at ha; cases ha
                    | true =>
                      rw [hf, cond_true] at ha
                      simp only [Bool.and_eq_true] at hf
                      have hfl := Nat.le_of_ble_eq_true hf.1
                      have hfit := Nat.le_of_ble_eq_true hf.2
                      simp only [Option.some.injEq, Prod.mk.injEq] at ha
                      obtain ⟨rfl, rfl⟩ := ha
                      cases hd with
                      | sl _ _ _ _ l c hρ hcap hlc =>
                        have hmin : Nat.min m len ≤ m := Nat.min_le_left _ _
                        have hmul : Nat.min m len * i.size ≤ m * i.size := Nat.mul_le_mul_right _ hmin
                        obtain ⟨vs, hvs, hfc⟩ := hfirst (Nat.min m len) hmin
                        have hfc0 : (Builtin.firstCells i.size (Nat.min m len) ux).run P w = .ok vs w := hfc w.drawn
                        have hone := VRel.cells_oneCell hvs (List.all_eq_true.2 fun a ha => List.all_eq_true.1 hsc a (List.mem_of_mem_take ha))
                        have hvl : (src.take (Nat.min m len * i.size)).length = Nat.min m len * i.size := by rw [List.length_take, hsl]; omega
                        obtain ⟨cur, el, hw, hcsz, hrel⟩ := h.write hρ hm (off := off) (cs := src.take (Nat.min m len * i.size)) (vs := vs.toList) (by simpa using hvs.1.symm) (by rw [hvl]; exact hfit) (fun j h1 h2 => by simpa using hvs.2 j h1 (by simpa using h2))
                        have hst := run_storeCells_at P l.blk (l.base + off) el vs.toList 0 cur w hw (by rw [Nat.add_zero]; exact hcsz) hone
                        rw [Nat.add_zero] at hst
                        refine ⟨ρ, .int .i64 (Nat.min m len), w.setRow l.blk (cur.toList.take (l.base + off) ++ vs.toList ++ cur.toList.drop (l.base + off + vs.toList.length)).toArray, ?_, ⟨.int _ _, ?_, Ev.ofWrite h hρ hfl _ _⟩, rfl, rfl⟩
                        · simp [Builtin.copy_, run_underlying hu, hlen, size_run hi, hfc0, goInt, hst, -Array.length_toList, -List.append_assoc]
                        · rw [hvl] at hrel
                          simpa only [St.withMem] using hrel
                  · cases ha
                · cases ha
            · cases ha
          · cases ha
        · cases ha
  · cases ha

theorem aClear_sound {st st' : St} {w : World} (h : Rel ρ st.mem st.next w) (floor : Nat) {ts : Array TypeId} {type : TypeId} {xs : List AVal} {us : Array Value} {v : AVal} (ha : aClear P floor st ts.toList xs = some (v, st')) (hx : All2 (VRel ρ) xs us.toList) :
    ∃ ρ' u w', (Builtin.clear_ ts type us).run P w = .ok u w' ∧ Post ρ floor st st' v w ρ' u w' ∧ st'.env = st.env ∧ st'.ob = st.ob := by
  obtain ⟨ts⟩ := ts
  obtain ⟨us⟩ := us
  simp only at ha hx
  unfold aClear at ha
  have unit : VRel ρ (.tup []) (.tuple #[]) := .tup [] #[] rfl fun i h1 _ => by simp at h1
  split at ha
  · rename_i t _ d _
    cases hx with
    | @cons _ ud _ _ hd _ =>
      split at ha
      · rename_i e hu
        split at ha
        · rename_i i zero hi hz
          obtain ⟨i2, z, hi2, _, hzr, hzv⟩ := zeroOf_sound (ρ := ρ) hz
          split at ha
          · cases hd
            simp only [Option.some.injEq, Prod.mk.injEq] at ha
            obtain ⟨rfl, rfl⟩ := ha
            exact ⟨ρ, .tuple #[], w, by simp [Builtin.clear_, run_underlying hu], ⟨unit, h, Ev.refl _ _ _ _ _ h.dom⟩, rfl, rfl⟩
          · rename_i b off len cap
            cases hd with
            | sl _ _ _ _ l c hρ hcap hlc =>
              rcases (by cases hl0 : Nat.beq len 0 with
                  | true => rw [hl0] at ha; exact .inl ⟨rfl, ha⟩
                  | false => rw [hl0] at ha; exact .inr ⟨rfl, ha⟩ : (Nat.beq len 0 = true ∧ _) ∨ (Nat.beq len 0 = false ∧ _)) with ⟨hl0, ha⟩ | ⟨hl0, ha⟩
              · have hl0 := Nat.eq_of_beq_eq_true hl0
                subst hl0
                simp only [cond_true, Option.some.injEq, Prod.mk.injEq] at ha
                obtain ⟨rfl, rfl⟩ := ha
                exact ⟨ρ, .tuple #[], w, by simp [Builtin.clear_, run_underlying hu], ⟨unit, h, Ev.refl _ _ _ _ _ h.dom⟩, rfl, rfl⟩
              · obtain ⟨hc, ha⟩ := bif_inv0 ha
                simp only [Bool.and_eq_true] at hc
                obtain ⟨⟨hzl, hzs⟩, hfl⟩ := hc
                have hzl := Nat.eq_of_beq_eq_true hzl
                have hfl := Nat.le_of_ble_eq_true hfl
                split at ha
                · rename_i blk hm
                  obtain ⟨hfit, ha⟩ := bif_inv0 ha
                  have hfit := Nat.le_of_ble_eq_true hfit
                  simp only [Option.some.injEq, Prod.mk.injEq] at ha
                  obtain ⟨rfl, rfl⟩ := ha
                  have hrl : (rep len zero).length = len * i.size := by rw [rep_length, hzl]
                  have hrep : VRels ρ (rep len zero) (Builtin.zeroCells z.cells len) := rep_rel hzr len (len * z.cells.size) (by rw [hzr.1])
                  have hone : ∀ v ∈ (Builtin.zeroCells z.cells len).toList, v.oneCell' = true := VRel.cells_oneCell hrep (by
                    refine List.all_eq_true.2 fun a ha => List.all_eq_true.1 hzs a ?_
                    unfold rep at ha
                    obtain ⟨l, hl, hal⟩ := List.mem_flatten.1 ha
                    rw [(List.mem_replicate.1 hl).2] at hal
                    exact hal)
                  obtain ⟨cur, el, hw, hcsz, hrel⟩ := h.write hρ hm (off := off) (cs := rep len zero) (vs := (Builtin.zeroCells z.cells len).toList) (by simpa using hrep.1.symm) (by rw [hrl]; exact hfit) (fun j h1 h2 => by simpa using hrep.2 j h1 (by simpa using h2))
                  have hst := run_storeCells_at P l.blk (l.base + off) el (Builtin.zeroCells z.cells len).toList 0 cur w hw (by rw [Nat.add_zero]; exact hcsz) hone
                  rw [Nat.add_zero] at hst
                  have hne : len ≠ 0 := fun e => by rw [e] at hl0; cases hl0
                  refine ⟨ρ, .tuple #[], w.setRow l.blk (cur.toList.take (l.base + off) ++ (Builtin.zeroCells z.cells len).toList ++ cur.toList.drop (l.base + off + (Builtin.zeroCells z.cells len).toList.length)).toArray, ?_, ⟨unit, ?_, Ev.ofWrite h hρ hfl _ _⟩, rfl, rfl⟩
                  · obtain ⟨len', rfl⟩ : ∃ k, len = k + 1 := ⟨len - 1, by omega⟩
                    simp [Builtin.clear_, run_underlying hu, hzv, hst, -Array.length_toList, -List.append_assoc]
                  · rw [hrl] at hrel
                    simpa only [St.withMem] using hrel
                · cases ha
          · cases ha
        · cases ha
      · cases ha
  · cases ha

end
end Go.Am
