/- A part of a proof: several texts in one. -/
import Derived.Test.YtpeijliglmfhnaaGreatKm0
import Derived.IntWalk
import Derived.AtR
import Derived.RangeFuncRecord
import Derived.RangeFuncNested
section
set_option linter.unusedVariables false
set_option linter.unusedSimpArgs false
namespace Go.Am
set_option linter.unusedSimpArgs false
section
variable {P : Program} {ρ : Rho}
theorem run_append_in {t u e : TypeId} {ut : TypeDesc} {i : TypeInfo} {type : TypeId} (hu : P.underlying t = some (.slice e)) (hut : P.underlying u = some ut) (hni : ∀ k, ut ≠ .int k) (hi : P.info? e = some i) {ts : List TypeId} {base : Option Addr} {len n c : Nat} {x : Value} {vs : Array Value} {xs : List Value} {w : World}
    (hlen : (Builtin.lenOf x).run P w = .ok n w) (hfirst : (Builtin.firstCells i.size n x).run P w = .ok vs w) (hroom : len + n ≤ c) {w' : World}
    (hst : ∀ a, base = some a → (storeCells (a.add (len * i.size)) vs.toList).run P w = .ok () w') (hno : base = none → w' = w) :
    (Builtin.append_ (t :: u :: ts).toArray type ((.slice base len c) :: x :: xs).toArray).run P w = .ok (.slice base (len + n) c) w' := by
  cases base with
  | none =>
    obtain rfl := hno rfl
    simp [Builtin.append_, run_underlying hu, run_underlying hut, size_run hi, hlen, hfirst, hroom]
  | some a =>
    have := hst a rfl
    simp [Builtin.append_, run_underlying hu, run_underlying hut, size_run hi, hlen, hfirst, hroom, this]
theorem run_append_new {t u e : TypeId} {ut : TypeDesc} {i : TypeInfo} {type : TypeId} (hu : P.underlying t = some (.slice e)) (hut : P.underlying u = some ut) (hni : ∀ k, ut ≠ .int k) (hi : P.info? e = some i) {z : Value} (hz : i.zero = some z) {ts : List TypeId} {base : Option Addr} {len n c : Nat} {x : Value} {vs old : Array Value} {xs : List Value} {w : World}
    (hlen : (Builtin.lenOf x).run P w = .ok n w) (hfirst : (Builtin.firstCells i.size n x).run P w.drew = .ok vs w.drew) (hold : (Builtin.firstCells i.size len (.slice base len c)).run P w.drew = .ok old w.drew)
    (hroom : c < len + n) (hbytes : (len + n + 1) * (i.bytes + 1) ≤ 1099511627776) :
    ∃ newCap, len + n ≤ newCap ∧ ∃ rest : Array Value, rest.size = (newCap - (len + n)) * z.cells.size ∧
    (Builtin.append_ (t :: u :: ts).toArray type ((.slice base len c) :: x :: xs).toArray).run P w = .ok (.slice (some ⟨w.heap.size, 0, none⟩) (len + n) newCap) (w.drew.alloc (.cells (old ++ vs ++ rest) e)) := by
  have hmul : len + n + 1 ≤ (len + n + 1) * (i.bytes + 1) := Nat.le_mul_of_pos_right _ (by omega)
  have hr := room_ok hbytes hroom
  have hr' : ¬ 2 ^ 48 < Builtin.nextslicecap (len + n) c * i.bytes := hr
  have hr'' : ¬ 281474976710656 < Builtin.nextslicecap (len + n) c * i.bytes := hr
  have h1 : ¬ len + n ≤ c := by omega
  have h2 : ¬ (9223372036854775807 < (len : Int) + (n : Int)) := by omega
  have hq : (Question.appendCap (len + n) c e).forced = false := rfl
  have hzero : ∀ w, (zeroValue e).run P w = .ok z w := fun w => by simp [zeroValue, run_typeInfo w hi, hz]
  refine ⟨(Question.appendCap (len + n) c e).cut (w.tape w.drawn (Question.appendCap (len + n) c e)), by simp only [Question.cut]; omega, Builtin.zeroCells z.cells ((Question.appendCap (len + n) c e).cut (w.tape w.drawn (Question.appendCap (len + n) c e)) - (len + n)), by simp [Builtin.zeroCells], ?_⟩
  have hty : ∀ w, (typeInfo e).run P w = .ok i w := fun w => run_typeInfo w hi
  simp [Builtin.append_, run_underlying hu, run_underlying hut, size_run hi, hlen, h1, h2, hty, hr'', hq, hfirst, hold, hzero, newRow]
theorem VRels.append {a b : List AVal} {us vs : Array Value} (h : VRels ρ a us) (k : VRels ρ b vs) : VRels ρ (a ++ b) (us ++ vs) := by
  refine ⟨by simp [h.1, k.1], fun i h1 h2 => ?_⟩
  by_cases hi : i < a.length
  · rw [List.getElem_append_left hi, Array.getElem_append_left (by rw [← h.1]; exact hi)]
    exact h.2 i hi (by rw [← h.1]; exact hi)
  · rw [List.getElem_append_right (by omega), Array.getElem_append_right (by rw [← h.1]; omega)]
    have e := h.1
    simp only [e]
    exact k.2 (i - us.size) (by simp at h1; omega) (by simp at h2; omega)
theorem post_grown {st : St} {w : World} (h : Rel ρ st.mem st.next w) (floor : Nat) {cs : List AVal} {vs : Array Value} (hr : VRels ρ cs vs) (rest : Array Value) (ty el : TypeId) (v : AVal) (u : Value)
    (hval : ∀ ρ', ρ' st.next = some ⟨w.heap.size, 0, cs.length, vs.size + rest.size⟩ → VRel ρ' v u) :
    Post ρ floor st (aNew st cs ty) v w (rhoAdd ρ st.next ⟨w.heap.size, 0, cs.length, vs.size + rest.size⟩) u (w.drew.alloc (.cells (vs ++ rest) el)) := by
  have hd : Rel ρ st.mem st.next w.drew := h.drawn _
  have := post_new hd floor cs ty (vs ++ rest) el (by rw [hr.1]; simp) (fun i h1 h2 => by
    rw [Array.getElem_append_left (by rw [← hr.1]; exact h1)]
    exact hr.2 i h1 (by rw [← hr.1]; exact h1)) v u (fun ρ' hρ' => hval ρ' (by simpa using hρ'))
  simp only [Array.size_append] at this
  exact ⟨this.val, this.rel, this.ev.drawn⟩
theorem bif_inv0 {α : Type} {c : Bool} {x : Option α} {y : α} (h : (bif c then x else none) = some y) : c = true ∧ x = some y := by
  cases c with
  | false => cases h
  | true => exact ⟨rfl, h⟩
structure Feeds (P : Program) (ρ : Rho) (t u e : TypeId) (i : TypeInfo) (z : Value) (ux : Value) (n : Nat) (new : List AVal) (vs : Array Value) (w : World) : Prop where
  rel : VRels ρ new vs
  hin : ∀ {type : TypeId} {ts : List TypeId} {base : Option Addr} {len c : Nat} {xs : List Value}, (n = 0 ∨ (n + 1) * (i.bytes + 1) ≤ 1099511627776) → len + n ≤ c → ∀ {w' : World}, (∀ a, base = some a → (storeCells (a.add (len * i.size)) vs.toList).run P w = .ok () w') → (base = none → w' = w) →
    (Builtin.append_ (t :: u :: ts).toArray type ((.slice base len c) :: ux :: xs).toArray).run P w = .ok (.slice base (len + n) c) w'
  hnew : ∀ {type : TypeId} {ts : List TypeId} {base : Option Addr} {len c : Nat} {xs : List Value} {old : Array Value}, (Builtin.firstCells i.size len (.slice base len c)).run P w.drew = .ok old w.drew → c < len + n → (len + n + 1) * (i.bytes + 1) ≤ 1099511627776 →
    ∃ newCap, len + n ≤ newCap ∧ ∃ rest : Array Value, rest.size = (newCap - (len + n)) * z.cells.size ∧
      (Builtin.append_ (t :: u :: ts).toArray type ((.slice base len c) :: ux :: xs).toArray).run P w = .ok (.slice (some ⟨w.heap.size, 0, none⟩) (len + n) newCap) (w.drew.alloc (.cells (old ++ vs ++ rest) e))
theorem wrap_small {n : Int} {bytes : Nat} (h0 : 0 ≤ n) (h : n.toNat = 0 ∨ (n.toNat + 1) * (bytes + 1) ≤ 1099511627776) : IntKind.i64.wrap n = n ∧ n * (bytes : Int) ≤ 281474976710656 := by
  rcases h with h | h
  · obtain rfl : n = 0 := by omega
    exact ⟨rfl, by omega⟩
  · have h1 : n.toNat + 1 ≤ (n.toNat + 1) * (bytes + 1) := Nat.le_mul_of_pos_right _ (by omega)
    have h2 : n.toNat * bytes ≤ (n.toNat + 1) * (bytes + 1) := Nat.mul_le_mul (by omega) (by omega)
    refine ⟨IntWalk.i64_in _ (by omega), ?_⟩
    have h3 : ((n.toNat * bytes : Nat) : Int) ≤ 1099511627776 := by omega
    rw [Int.natCast_mul, Int.toNat_of_nonneg h0] at h3
    omega
theorem newCells_sound {mem : Mem} {next : Nat} {w : World} (h : Rel ρ mem next w) {t u e : TypeId} {ut : TypeDesc} {i : TypeInfo} {z : Value} {zero : List AVal} {x : AVal} {ux : Value} {n : Nat} {new : List AVal} (hu : P.underlying t = some (.slice e)) (hut : P.underlying u = some ut) (hi : P.info? e = some i) (hz : i.zero = some z)
    (hzr : VRels ρ zero z.cells) (hzl : zero.length = i.size) (hc : newCells mem i.size zero ut x = some (n, new)) (hx : VRel ρ x ux) (hnl : new.length = n * i.size) : ∃ vs, Feeds P ρ t u e i z ux n new vs w := by
  unfold newCells at hc
  split at hc
  · rename_i kt
    split at hc
    · rename_i k m
      obtain ⟨h0, hc⟩ := bif_inv0 hc
      have h0 := of_decide_eq_true h0
      simp only [Option.some.injEq, Prod.mk.injEq] at hc
      obtain ⟨rfl, rfl⟩ := hc
      cases hx
      have hzs : z.cells.size = i.size := by rw [← hzr.1]; exact hzl
      refine ⟨Builtin.zeroCells z.cells m.toNat, ?_, ?_, ?_⟩
      · exact rep_rel hzr m.toNat (m.toNat * z.cells.size) (by rw [hzr.1])
      · intro type ts base len c xs hr hroom w' hst hno
        obtain ⟨hw, hb⟩ := wrap_small h0 hr
        have hb' : ¬ 281474976710656 < m * (i.bytes : Int) := by omega
        have hlt : ¬ m < 0 := by omega
        have hzv : ∀ w, (zeroValue e).run P w = .ok z w := fun w => by simp [zeroValue, run_typeInfo w hi, hz]
        have hty : ∀ w, (typeInfo e).run P w = .ok i w := fun w => run_typeInfo w hi
        by_cases hz0 : m.toNat * i.size = 0
        · have hze : Builtin.zeroCells z.cells m.toNat = #[] := by simp [Builtin.zeroCells, hzs, hz0]
          rw [hze] at hst
          cases base with
          | none =>
            obtain rfl := hno rfl
            simp [Builtin.append_, run_underlying hu, run_underlying hut, size_run hi, asInt, asIntOf, hw, hlt, hty, hb', hroom, hz0]
          | some a =>
            have := hst a rfl
            simp only [] at this
            simp [Builtin.append_, run_underlying hu, run_underlying hut, size_run hi, asInt, asIntOf, hw, hlt, hty, hb', hroom, hz0, this]
        · cases base with
          | none =>
            obtain rfl := hno rfl
            simp [Builtin.append_, run_underlying hu, run_underlying hut, size_run hi, asInt, asIntOf, hw, hlt, hty, hb', hroom, hz0, hzv]
          | some a =>
            have := hst a rfl
            simp [Builtin.append_, run_underlying hu, run_underlying hut, size_run hi, asInt, asIntOf, hw, hlt, hty, hb', hroom, hz0, hzv, this]
      · intro type ts base len c xs old hold hroom hbytes
        have hr : m.toNat = 0 ∨ (m.toNat + 1) * (i.bytes + 1) ≤ 1099511627776 := .inr (Nat.le_trans (Nat.mul_le_mul_right _ (by omega)) hbytes)
        obtain ⟨hw, hb⟩ := wrap_small h0 hr
        have hb' : ¬ 281474976710656 < m * (i.bytes : Int) := by omega
        have hlt : ¬ m < 0 := by omega
        have hmul : len + m.toNat + 1 ≤ (len + m.toNat + 1) * (i.bytes + 1) := Nat.le_mul_of_pos_right _ (by omega)
        have hr0 := room_ok hbytes hroom
        have hr'' : ¬ 281474976710656 < Builtin.nextslicecap (len + m.toNat) c * i.bytes := hr0
        have h1 : ¬ len + m.toNat ≤ c := by omega
        have h2 : ¬ (9223372036854775807 < (len : Int) + (m.toNat : Int)) := by omega
        have h2' : ¬ (9223372036854775807 < (len : Int) + max m 0) := by omega
        have hq : (Question.appendCap (len + m.toNat) c e).forced = false := rfl
        have hzv : ∀ w, (zeroValue e).run P w = .ok z w := fun w => by simp [zeroValue, run_typeInfo w hi, hz]
        have hty : ∀ w, (typeInfo e).run P w = .ok i w := fun w => run_typeInfo w hi
        refine ⟨(Question.appendCap (len + m.toNat) c e).cut (w.tape w.drawn (Question.appendCap (len + m.toNat) c e)), by simp only [Question.cut]; omega, Builtin.zeroCells z.cells ((Question.appendCap (len + m.toNat) c e).cut (w.tape w.drawn (Question.appendCap (len + m.toNat) c e)) - (len + m.toNat)), by simp [Builtin.zeroCells], ?_⟩
        by_cases hz0 : m.toNat * i.size = 0
        · have hze : Builtin.zeroCells z.cells m.toNat = #[] := by simp [Builtin.zeroCells, hzs, hz0]
          simp [Builtin.append_, run_underlying hu, run_underlying hut, size_run hi, asInt, asIntOf, hw, hlt, hb', h1, h2, h2', hty, hr'', hq, hold, hzv, newRow, hz0, hze]
        · simp [Builtin.append_, run_underlying hu, run_underlying hut, size_run hi, asInt, asIntOf, hw, hlt, hb', h1, h2, h2', hty, hr'', hq, hold, hzv, newRow, hz0]
    · cases hc
  · rename_i hni'
    have hni : ∀ k, ut ≠ .int k := fun k hk => hni' k hk
    obtain ⟨hlen, hfirst⟩ := cellsOfSlice_sound (P := P) h hc hx hnl
    obtain ⟨vs, hvs, hfc⟩ := hfirst n (Nat.le_refl _)
    rw [List.take_of_length_le (by omega)] at hvs
    have hfc0 : (Builtin.firstCells i.size n ux).run P w = .ok vs w := hfc w.drawn
    have hfc1 : (Builtin.firstCells i.size n ux).run P w.drew = .ok vs w.drew := hfc (w.drawn + 1)
    exact ⟨vs, hvs, fun _ hroom _ hst hno => run_append_in hu hut hni hi (hlen w) hfc0 hroom hst hno, fun hold hroom hbytes => run_append_new hu hut hni hi hz (hlen w) hfc1 hold hroom hbytes⟩
theorem aAppend_sound {st st' : St} {w : World} (h : Rel ρ st.mem st.next w) (floor : Nat) {ts : Array TypeId} {type : TypeId} {xs : List AVal} {us : Array Value} {v : AVal} (ha : aAppend P floor st ts.toList xs = some (v, st')) (hx : All2 (VRel ρ) xs us.toList) :
    ∃ ρ' u w', (Builtin.append_ ts type us).run P w = .ok u w' ∧ Post ρ floor st st' v w ρ' u w' ∧ st'.env = st.env ∧ st'.ob = st.ob := by
  obtain ⟨ts⟩ := ts
  obtain ⟨us⟩ := us
  simp only at ha hx
  unfold aAppend at ha
  split at ha
  · rename_i t tu tts s x txs
    cases hx with
    | @cons _ su _ _ hs hx =>
      cases hx with
      | @cons _ ux _ uxs hx _ =>
        split at ha
        · rename_i e ut hu hut
          split at ha
          · rename_i i zero hi hz
            split at ha
            · rename_i n new hcs
              obtain ⟨i2, z, hi2, hz2, hzr, _⟩ := zeroOf_sound (ρ := ρ) hz
              obtain rfl : i = i2 := by rw [hi] at hi2; exact Option.some.inj hi2
              cases hc : (Nat.beq zero.length i.size && Nat.beq new.length (n * i.size) && Nat.ble 1 i.size && new.all isSc) with
              | false => rw [hc] at ha; cases ha
              | true =>
                rw [hc, cond_true] at ha
                simp only [Bool.and_eq_true] at hc
                obtain ⟨⟨⟨hzl, hnl⟩, hsz⟩, hsc⟩ := hc
                have hzl := Nat.eq_of_beq_eq_true hzl
                have hnl := Nat.eq_of_beq_eq_true hnl
                have hsz := Nat.le_of_ble_eq_true hsz
                have hzs : z.cells.size = i.size := by rw [← hzr.1]; exact hzl
                obtain ⟨vs, hF⟩ := newCells_sound (P := P) h hu hut hi hz2 hzr hzl hcs hx hnl
                have hvs := hF.rel
                have hvsz : vs.size = n * i.size := by rw [← hvs.1]; exact hnl
                have hone := VRel.cells_oneCell hvs hsc
                split at ha
                · -- nil
                  cases hs
                  cases hn0 : Nat.beq n 0 with
                  | true =>
                    rw [hn0, cond_true] at ha
                    simp only [Option.some.injEq, Prod.mk.injEq] at ha
                    obtain ⟨rfl, rfl⟩ := ha
                    have hn0 := Nat.eq_of_beq_eq_true hn0
                    subst hn0
                    have hrun := hF.hin (type := type) (ts := tts) (base := none) (len := 0) (c := 0) (xs := uxs) (.inl rfl) (Nat.le_refl _) (w' := w) (fun a e => by cases e) (fun _ => rfl)
                    exact ⟨ρ, _, w, hrun, ⟨.nils, h, Ev.refl _ _ _ _ _ h.dom⟩, rfl, rfl⟩
                  | false =>
                    rw [hn0, cond_false] at ha
                    cases hrm : Nat.ble ((n + 1) * (i.bytes + 1)) room with
                    | false => rw [hrm] at ha; cases ha
                    | true =>
                      rw [hrm, cond_true] at ha
                      simp only [Option.some.injEq, Prod.mk.injEq] at ha
                      obtain ⟨rfl, rfl⟩ := ha
                      have hrm := Nat.le_of_ble_eq_true hrm
                      have hnpos : 0 < n := by
                        rcases Nat.eq_zero_or_pos n with e | e
                        · rw [e] at hn0; cases hn0
                        · exact e
                      obtain ⟨newCap, hcap, rest, hrest, hrun⟩ := hF.hnew (type := type) (ts := tts) (base := none) (len := 0) (c := 0) (xs := uxs) (old := #[]) (by simp [Builtin.firstCells]) (by omega) (by simpa [room] using hrm)
                      simp only [Nat.zero_add, Array.empty_append] at hrun hcap hrest
                      have hsum : vs.size + rest.size = newCap * i.size := by rw [hvsz, hrest, hzs, ← Nat.add_mul]; congr 1; omega
                      refine ⟨_, _, _, hrun, post_grown h floor hvs rest e e _ _ (fun ρ' hρ' => ?_), rfl, rfl⟩
                      refine .sl _ 0 _ _ _ _ hρ' ?_ hcap
                      simp only [CapOk]
                      rw [hsum, hnl]
                      exact ⟨by rw [Nat.zero_add]; exact Nat.mul_le_mul_right _ hcap, by omega⟩
                · -- a slice
                  rename_i b off len cap
                  split at ha
                  · rename_i blk hm
                    split at ha
                    · rename_i old hold
                      cases hrm : Nat.ble ((len + n + 1) * (i.bytes + 1)) room with
                      | false => rw [hrm] at ha; cases ha
                      | true =>
                        rw [hrm, cond_true] at ha
                        have hrm := Nat.le_of_ble_eq_true hrm
                        have hrn : n = 0 ∨ (n + 1) * (i.bytes + 1) ≤ 1099511627776 := .inr (Nat.le_trans (Nat.mul_le_mul_right _ (by omega)) hrm)
                        cases hs with
                        | sl _ _ _ _ l c hρ hcap hlc =>
                          obtain ⟨hpold, holdl, holdle⟩ := cut_spec hold
                          have hblk := h.blk b l blk hρ hm
                          have hln := hblk.n
                          have hmul : (len + n) * i.size = len * i.size + n * i.size := Nat.add_mul _ _ _
                          have hoff : off + len * i.size ≤ blk.cells.length ∨ len * i.size = 0 := by omega
                          have hcos : cellsOfSlice st.mem i.size (.sl b off len cap) = some (len, old) := by simp [cellsOfSlice, hm, hold]
                          obtain ⟨_, hfo⟩ := cellsOfSlice_sound (P := P) h hcos (.sl b off len cap l c hρ hcap hlc) holdl
                          obtain ⟨ovs, hovs, hof⟩ := hfo len (Nat.le_refl _)
                          rw [List.take_of_length_le (by omega)] at hovs
                          have hovz : ovs.size = len * i.size := by rw [← hovs.1]; exact holdl
                          have hof1 : (Builtin.firstCells i.size len (.slice (some ⟨l.blk, l.base + off, none⟩) len c)).run P w.drew = .ok ovs w.drew := hof (w.drawn + 1)
                          have inplace : ∀ v st', len + n ≤ c → floor ≤ b → off + (len + n) * i.size ≤ blk.cells.length →
                              some (AVal.sl b off (len + n) cap, st.withMem (mset st.mem b (some ⟨blk.cells.take (off + len * i.size) ++ new ++ blk.cells.drop (off + (len + n) * i.size), blk.ty, none⟩))) = some (v, st') →
                              ∃ ρ' u w', (Builtin.append_ (t :: tu :: tts).toArray type ((.slice (some ⟨l.blk, l.base + off, none⟩) len c) :: ux :: uxs).toArray).run P w = .ok u w' ∧ Post ρ floor st st' v w ρ' u w' ∧ st'.env = st.env ∧ st'.ob = st.ob := by
                            intro v st' hroom hfl hfit he
                            simp only [Option.some.injEq, Prod.mk.injEq] at he
                            obtain ⟨rfl, rfl⟩ := he
                            obtain ⟨cur, el, hw, hcsz, hrel⟩ := h.write hρ hm (off := off + len * i.size) (cs := new) (vs := vs.toList) (by simpa using hvs.1.symm) (by omega) (fun j h1 h2 => by simpa using hvs.2 j h1 (by simpa using h2))
                            have hst := run_storeCells_at P l.blk (l.base + off + len * i.size) el vs.toList 0 cur w hw (by rw [Nat.add_zero, Nat.add_assoc l.base]; exact hcsz) hone
                            rw [Nat.add_zero] at hst
                            have hrun := hF.hin (type := type) (ts := tts) (base := some ⟨l.blk, l.base + off, none⟩) (len := len) (c := c) (xs := uxs) hrn hroom (w' := w.setRow l.blk (cur.toList.take (l.base + off + len * i.size) ++ vs.toList ++ cur.toList.drop (l.base + off + len * i.size + vs.toList.length)).toArray)
                              (fun a e => by cases e; rw [addr_add]; exact hst) (fun e => by cases e)
                            refine ⟨ρ, _, _, hrun, ⟨.sl _ _ _ _ l c hρ hcap (by omega), ?_, Ev.ofWrite h hρ hfl _ _⟩, rfl, rfl⟩
                            have e1 : off + len * i.size + new.length = off + (len + n) * i.size := by omega
                            rw [e1] at hrel
                            simpa only [St.withMem, Nat.add_assoc] using hrel
                          have anew : ∀ v st' (st1 : St), c < len + n → Rel ρ st1.mem st1.next w → Ev ρ ρ floor st.mem st.next st1.mem st1.next w w → st1.env = st.env → st1.ob = st.ob →
                              some (AVal.sl st1.next 0 (len + n) (.un i.size), aNew st1 (old ++ new) e) = some (v, st') →
                              ∃ ρ' u w', (Builtin.append_ (t :: tu :: tts).toArray type ((.slice (some ⟨l.blk, l.base + off, none⟩) len c) :: ux :: uxs).toArray).run P w = .ok u w' ∧ Post ρ floor st st' v w ρ' u w' ∧ st'.env = st.env ∧ st'.ob = st.ob := by
                            intro v st' st1 hroom hrel1 hev1 henv hob he
                            simp only [Option.some.injEq, Prod.mk.injEq] at he
                            obtain ⟨rfl, rfl⟩ := he
                            obtain ⟨newCap, hcap', rest, hrest, hrun⟩ := hF.hnew (type := type) (ts := tts) (base := some ⟨l.blk, l.base + off, none⟩) (len := len) (c := c) (xs := uxs) hof1 hroom (by simpa [room] using hrm)
                            have hov := hovs.append hvs
                            have hsum : (ovs ++ vs).size + rest.size = newCap * i.size := by rw [Array.size_append, hovz, hvsz, hrest, hzs, ← Nat.add_mul, ← Nat.add_mul]; congr 1; omega
                            have hp := post_grown hrel1 floor hov rest e e (.sl st1.next 0 (len + n) (.un i.size)) (.slice (some ⟨w.heap.size, 0, none⟩) (len + n) newCap) (fun ρ' hρ' => by
                              refine .sl _ 0 _ _ _ _ hρ' ?_ hcap'
                              simp only [CapOk]
                              rw [hsum]
                              exact ⟨by rw [Nat.zero_add, List.length_append, holdl, hnl, ← Nat.add_mul]; exact Nat.mul_le_mul_right _ hcap', by omega⟩)
                            refine ⟨_, _, _, hrun, ⟨hp.val, hp.rel, hev1.trans hp.ev⟩, ?_, ?_⟩
                            · simpa [aNew] using henv
                            · simpa [aNew] using hob
                          split at ha
                          · -- the capacity is known
                            rename_i k
                            simp only [CapOk] at hcap
                            subst hcap
                            cases hk : Nat.ble (len + n) c with
                            | true =>
                              rw [hk, cond_true] at ha
                              have hk := Nat.le_of_ble_eq_true hk
                              cases hf : (Nat.ble floor b && Nat.ble (off + (len + n) * i.size) blk.cells.length) with
                              | false => rw [hf] at ha; cases ha
                              | true =>
                                rw [hf, cond_true] at ha
                                simp only [Bool.and_eq_true] at hf
                                exact inplace _ _ hk (Nat.le_of_ble_eq_true hf.1) (Nat.le_of_ble_eq_true hf.2) ha
                            | false =>
                              rw [hk, cond_false] at ha
                              have hk : ¬ len + n ≤ c := fun e => by rw [Nat.ble_eq_true_of_le e] at hk; cases hk
                              exact anew _ _ st (by omega) h (Ev.refl _ _ _ _ _ h.dom) rfl rfl ha
                          · -- it is not
                            rename_i zz
                            simp only [CapOk] at hcap
                            cases hf : (Nat.beq zz i.size && Nat.ble floor b) with
                            | false => rw [hf] at ha; cases ha
                            | true =>
                              rw [hf, cond_true] at ha
                              simp only [Bool.and_eq_true] at hf
                              have hzz := Nat.eq_of_beq_eq_true hf.1
                              have hfl := Nat.le_of_ble_eq_true hf.2
                              subst hzz
                              cases hk : Nat.ble (off + (len + n) * i.size) blk.cells.length with
                              | true =>
                                rw [hk, cond_true] at ha
                                have hk := Nat.le_of_ble_eq_true hk
                                have hroom : len + n ≤ c := by
                                  rw [hln] at hcap
                                  have : (len + n) * i.size ≤ c * i.size := by omega
                                  exact Nat.le_of_mul_le_mul_right this hsz
                                exact inplace _ _ hroom hfl hk ha
                              | false =>
                                rw [hk, cond_false] at ha
                                cases hend : Nat.beq (off + len * i.size) blk.cells.length with
                                | false => rw [hend] at ha; cases ha
                                | true =>
                                  rw [hend, cond_true] at ha
                                  have hend := Nat.eq_of_beq_eq_true hend
                                  by_cases hroom : len + n ≤ c
                                  · -- there is room: behind what is told
                                    simp only [Option.some.injEq, Prod.mk.injEq] at ha
                                    obtain ⟨rfl, rfl⟩ := ha
                                    have hcm : (len + n) * i.size ≤ c * i.size := Nat.mul_le_mul_right _ hroom
                                    obtain ⟨cur, el, hw, hcsz, hrel⟩ := h.beyond hρ hm (off := off) (new := new) (vs := vs.toList) e (by simpa using hvs.1.symm) (by omega) (by omega) (fun j h1 h2 => by simpa using hvs.2 j h1 (by simpa using h2))
                                    have hst := run_storeCells_at P l.blk (l.base + off + len * i.size) el vs.toList 0 cur w hw (by rw [Nat.add_zero, Nat.add_assoc l.base, hend]; exact hcsz) hone
                                    rw [Nat.add_zero] at hst
                                    have hrun := hF.hin (type := type) (ts := tts) (base := some ⟨l.blk, l.base + off, none⟩) (len := len) (c := c) (xs := uxs) hrn hroom (w' := w.setRow l.blk (cur.toList.take (l.base + off + len * i.size) ++ vs.toList ++ cur.toList.drop (l.base + off + len * i.size + vs.toList.length)).toArray)
                                      (fun a e => by cases e; rw [addr_add]; exact hst) (fun e => by cases e)
                                    have hod : old = blk.cells.drop off := by
                                      rw [hpold]; exact List.take_of_length_le (by simp; omega)
                                    refine ⟨_, _, _, hrun, ⟨.sl _ 0 _ _ ⟨l.blk, l.base + off, blk.cells.length - off + new.length, l.tot - off⟩ c (by simp [rhoAdd]) ?_ (by omega), ?_, Ev.ofBeyond h hρ hfl ⟨l.blk, l.base + off, blk.cells.length - off + new.length, l.tot - off⟩ rfl _ _⟩, rfl, rfl⟩
                                    · simp only [CapOk]; omega
                                    · rw [hod]
                                      have e2 : l.base + off + len * i.size = l.base + blk.cells.length := by omega
                                      rw [e2]
                                      simpa only [aNew, St.withMem] using hrel
                                  · exact anew _ _ (st.withMem (mset st.mem b none)) (by omega) (h.kill b) (Ev.ofKill h floor hρ) rfl rfl ha
                    · cases ha
                  · cases ha
                · cases ha
            · cases ha
          · cases ha
        · cases ha
  · cases ha
theorem rows_app {get : Nat → List AVal} {off len n sz N : Nat} {new : List AVal} (hl : ∀ i, i < N → (get i).length = sz) (hN : off + len = N) (hnew : new.length = n * sz) :
    (∀ i, i < len + n → (appRow get off len sz new i).length = sz) ∧ rows (len + n) (appRow get off len sz new) = ((rows N get).drop (off * sz)).take (len * sz) ++ new := by
  have h1 : ∀ i, i < len + n → (appRow get off len sz new i).length = sz := fun i hi => by
    unfold appRow
    cases e : Nat.ble len i with
    | true =>
      have := Nat.le_of_ble_eq_true e
      simp only [cond_true, List.length_take, List.length_drop, hnew]
      have : (i - len + 1) * sz ≤ n * sz := Nat.mul_le_mul_right sz (by omega)
      rw [Nat.add_mul, Nat.one_mul] at this
      omega
    | false =>
      have : ¬ len ≤ i := fun h => by rw [Nat.ble_eq_true_of_le h] at e; cases e
      exact hl _ (by omega)
  refine ⟨h1, ?_⟩
  have hlen := rows_length (len + n) h1
  have hlenN := rows_length N hl
  have hd : ((rows N get).drop (off * sz)).length = len * sz := by rw [List.length_drop, hlenN, ← hN, Nat.add_mul]; omega
  rw [List.take_of_length_le (by omega)]
  apply List.ext_getElem?
  intro i
  by_cases hi : i < (len + n) * sz
  · have hsz : 0 < sz := by
      rcases Nat.eq_zero_or_pos sz with e | e
      · rw [e, Nat.mul_zero] at hi; omega
      · exact e
    have hj : i % sz < sz := Nat.mod_lt _ hsz
    have hq : i / sz < len + n := Nat.div_lt_of_lt_mul (by rw [Nat.mul_comm]; exact hi)
    have e : i = i / sz * sz + i % sz := by rw [Nat.mul_comm]; exact (Nat.div_add_mod i sz).symm
    generalize i / sz = q at *
    generalize i % sz = j at *
    subst e
    rw [rows_get (len + n) h1 q j hq hj]
    unfold appRow
    cases e : Nat.ble len q with
    | true =>
      have hle := Nat.le_of_ble_eq_true e
      have : len * sz ≤ q * sz := Nat.mul_le_mul_right sz hle
      simp only [cond_true]
      rw [List.getElem?_append_right (by omega), hd, List.getElem?_take, if_pos hj, List.getElem?_drop]
      congr 1
      rw [Nat.sub_mul]; omega
    | false =>
      have hlt : q < len := by
        rcases Nat.lt_or_ge q len with h | h
        · exact h
        · rw [Nat.ble_eq_true_of_le h] at e; cases e
      have : (q + 1) * sz ≤ len * sz := Nat.mul_le_mul_right sz hlt
      rw [Nat.add_mul, Nat.one_mul] at this
      simp only [cond_false]
      rw [List.getElem?_append_left (by omega), List.getElem?_drop, ← rows_get N hl (off + q) j (by omega) hj]
      congr 1
      rw [Nat.add_mul]; omega
  · rw [List.getElem?_eq_none (by omega), List.getElem?_eq_none (by rw [List.length_append, hd, hnew, ← Nat.add_mul]; omega)]
theorem rep_rows (n : Nat) (z : List AVal) : rep n z = rows n fun _ => z := by
  unfold rep rows
  rw [List.flatMap_def, List.map_const', List.length_range]
theorem Ev.remem {ρ' : Rho} {floor : Nat} {m m' m'' : Mem} {n n' : Nat} {w w' : World} (h : Ev ρ ρ' floor m n m' n' w w') (hm : ∀ b, b < n → ∀ cs ty, mget m b = some ⟨cs, ty, none⟩ → mget m'' b = mget m' b) : Ev ρ ρ' floor m n m'' n' w w' :=
  ⟨h.ext, h.new, h.nxt, fun b hb e cs ty hc => by rw [hm b hb cs ty hc]; exact h.unborn b hb e cs ty hc, h.frame, h.fresh, h.size, h.os, h.tape, h.output, h.still⟩
theorem Rel.remem {mem mem' : Mem} {next : Nat} {w : World} (h : Rel ρ mem next w) (hm : ∀ b, mget mem' b = mget mem b) : Rel ρ mem' next w :=
  ⟨h.dom, fun b b' l l' e e' he hs hs' => h.inj b b' l l' e e' he (by rw [← hm]; exact hs) (by rw [← hm]; exact hs'), fun b l ab e hc => h.blk b l ab e (by rw [← hm]; exact hc), h.old, fun b l e hs => h.sep b l e (by rw [← hm]; exact hs), h.real, fun b hb => by rw [hm]; exact h.bd b hb, h.ldom⟩
theorem aMakeSliceA_sound {cx : Ctx} {st st' : St} {w : World} (h : Rel ρ st.mem st.next w) {t : TypeId} {x y v : AVal} {ux uy : Value} (hb : aMakeSliceA P cx st t x y = some (v, st')) (hob : st'.ob = true) (hx : VRel ρ x ux) (hy : VRel ρ y uy) :
    ∃ ρ' u w', (Instr.makeSlice t ux uy).run P w = .ok u w' ∧ Post ρ cx.floor st st' v w ρ' u w' := by
  unfold aMakeSliceA at hb
  split at hb
  · rename_i e kl l kc c hu
    split at hb
    · rename_i i zero hi hz
      cases hchk : (Nat.beq zero.length i.size && Nat.ble 1 i.size) with
      | false => rw [hchk] at hb; cases hb
      | true =>
        rw [hchk, cond_true] at hb
        simp only [Bool.and_eq_true] at hchk
        obtain ⟨k1, k2⟩ := hchk
        have hzl := Nat.eq_of_beq_eq_true k1
        simp only [Option.map_eq_some_iff, Prod.mk.injEq] at hb
        obtain ⟨st1, ho, rfl, rfl⟩ := hb
        obtain ⟨o1, o2, o3, o4⟩ := owe_same ho
        obtain ⟨hc, _⟩ := o4 hob
        have m2 : st1.mem = mset st.mem st.next (some ⟨rows c.toNat fun _ => zero, e, some ⟨i.size, c.toNat, .flat fun _ => zero⟩⟩) := o2
        have n2 : st1.next = st.next + 1 := o3
        have h0 : aMakeSlice P st t (.int kl l) (.int kc c) = some (.sl st.next 0 l.toNat (.ex c.toNat), aNew st (rep c.toNat zero) e) := by
          unfold aMakeSlice
          simp only [hu, hi, hz, k1, hc, Bool.and_self, cond_true]
        obtain ⟨ρ', uv, w', hrun, hp, _, _⟩ := aMakeSlice_sound h cx.floor h0 hx hy
        refine ⟨ρ', uv, w', hrun, ?_, ?_, ?_⟩
        · have hv := hp.val
          cases hv with
          | sl _ _ _ _ l' c' hρ' hcap' hlen' =>
            have hbk := hp.rel.blk st.next l' ⟨rep c.toNat zero, e, none⟩ hρ' (mget_mset_same _ _ _)
            have hcn : c' = c.toNat := hcap'
            have q1 := hbk.n
            have q2 := hbk.tot
            simp only [rep_length, hzl] at q1
            have := VRel.sla (ρ := ρ') st.next i.size 0 l.toNat (.un i.size) l' c' hρ' (by simp only [CapOk, Nat.zero_mul, Nat.zero_add, hcn]; omega) hlen'
            rw [Nat.zero_mul] at this
            exact this
        · have hr : Rel ρ' (mset st.mem st.next (some ⟨rep c.toNat zero, e, none⟩)) (st.next + 1) w' := hp.rel
          rw [rep_rows] at hr
          rw [m2, n2]
          exact hr.setArr ⟨i.size, c.toNat, _⟩ rfl (Nat.le_of_ble_eq_true k2) fun _ _ => hzl
        · rw [m2, n2]
          refine hp.ev.remem fun b' hb' cs ty hcs => ?_
          show _ = mget (mset st.mem st.next _) b'
          rw [mget_mset_ne _ _ (by omega), mget_mset_ne _ _ (by omega)]
    · cases hb
  · cases hb
theorem aAppendA_sound {cx : Ctx} {st st' : St} {w : World} (h : Rel ρ st.mem st.next w) {ts : Array TypeId} {type : TypeId} {xs : List AVal} {us : Array Value} {v : AVal} (ha : aAppendA P cx st ts.toList xs = some (v, st')) (hob : st'.ob = true) (hx : All2 (VRel ρ) xs us.toList) :
    ∃ ρ' u w', (Builtin.append_ ts type us).run P w = .ok u w' ∧ Post ρ cx.floor st st' v w ρ' u w' := by
  obtain ⟨ul⟩ := us
  simp only at hx
  unfold aAppendA at ha
  split at ha
  · rename_i t u tr b sz off len z x xr hts
    split at ha
    · rename_i e ut hu hut
      split at ha
      · cases ha
      · rename_i hni
        split at ha
        · rename_i i hi
          split at ha
          · rename_i n new zero blk hc hz hm
            split at ha
            · rename_i A hA
              cases hchk : (Nat.beq zero.length i.size && Nat.beq new.length (n * i.size) && Nat.ble 1 i.size && new.all isSc && Nat.beq sz i.size && Nat.beq z sz && Nat.ble cx.floor b && Nat.ble 1 n) with
              | false => rw [hchk] at ha; cases ha
              | true =>
                rw [hchk, cond_true] at ha
                have hchk0 := hchk
                simp only [Bool.and_eq_true] at hchk
                obtain ⟨⟨⟨⟨⟨⟨⟨k1, k2⟩, k3⟩, k4⟩, k5⟩, k6⟩, k7⟩, k8⟩ := hchk
                obtain rfl := Nat.eq_of_beq_eq_true k5
                obtain rfl := Nat.eq_of_beq_eq_true k6
                have hnl := Nat.eq_of_beq_eq_true k2
                have hsz1 := Nat.le_of_ble_eq_true k3
                have hfl := Nat.le_of_ble_eq_true k7
                have hn1 := Nat.le_of_ble_eq_true k8
                simp only [Option.map_eq_some_iff, Prod.mk.injEq] at ha
                obtain ⟨st1, ho, rfl, rfl⟩ := ha
                obtain ⟨o1, o2, o3, o4⟩ := owe_same ho
                obtain ⟨hb, _⟩ := o4 hob
                simp only [Bool.and_eq_true, decide_eq_true_eq] at hb
                obtain ⟨hAs, hfull, hroom⟩ := hb
                have hAs := Nat.eq_of_beq_eq_true hAs
                have hbn : b < st.next := by
                  rcases Nat.lt_or_ge b st.next with g | g
                  · exact g
                  · rw [h.bd b g] at hm; cases hm
                have m2 : st1.mem = mset (mset st.mem b none) st.next (some ⟨rows (len + n) (appRow A.get off len i.size new), e, some ⟨i.size, len + n, appRow A.get off len i.size new⟩⟩) := o2
                have n2 : st1.next = st.next + 1 := o3
                cases hx with
                | cons ha0 hr =>
                  cases ha0 with
                  | sla _ _ _ _ _ l c hρ hcap hlen =>
                    obtain ⟨har1, har2, har3⟩ := (h.blk b l blk hρ hm).arr A hA
                    rw [hAs] at har3
                    obtain ⟨q1, q2⟩ := rows_app (new := new) har3 hfull hnl
                    have hlenr := rows_length A.n har3
                    have hmul : off * i.size + len * i.size = A.n * i.size := by rw [← Nat.add_mul, hfull]
                    have hcut : cut blk.cells (off * i.size) (len * i.size) = some ((blk.cells.drop (off * i.size)).take (len * i.size)) := by
                      unfold cut
                      simp only
                      rw [show Nat.beq ((blk.cells.drop (off * i.size)).take (len * i.size)).length (len * i.size) = true from by
                        rw [Nat.beq_eq]; simp [har1, hlenr]; omega]
                      rfl
                    have hroom' : Nat.ble ((len + n + 1) * (i.bytes + 1)) room = true := Nat.ble_eq_true_of_le hroom
                    have hnot : Nat.ble (off * i.size + (len + n) * i.size) blk.cells.length = false := by
                      have : 1 * i.size ≤ n * i.size := Nat.mul_le_mul_right _ hn1
                      cases g : Nat.ble (off * i.size + (len + n) * i.size) blk.cells.length with
                      | false => rfl
                      | true =>
                        have := Nat.le_of_ble_eq_true g
                        rw [har1, hlenr, Nat.add_mul] at this
                        omega
                    have hat : Nat.beq (off * i.size + len * i.size) blk.cells.length = true := by rw [har1, hlenr, hmul, Nat.beq_eq]
                    have h0 : aAppend P cx.floor st ts.toList (.sl b (off * i.size) len (.un i.size) :: x :: xr) = some (.sl st.next 0 (len + n) (.un i.size), aNew (st.withMem (mset st.mem b none)) (((blk.cells.drop (off * i.size)).take (len * i.size)) ++ new) e) := by
                      rw [hts]
                      unfold aAppend
                      simp only [hu, hut, hi, hz]
                      cases ut <;> first
                        | (exfalso; exact hni _ rfl)
                        | (simp only [newCells, hc, k1, k2, k3, k4, hm, hcut, hroom', k7, hnot, hat, Bool.and_self, cond_true, cond_false, Nat.beq_refl])
                    obtain ⟨ρ', uv, w', hrun, hp, _, _⟩ := aAppend_sound (type := type) h cx.floor h0 (us := ⟨_⟩) (.cons (.sl _ _ _ _ l c hρ hcap hlen) hr)
                    refine ⟨ρ', uv, w', hrun, ?_, ?_, ?_⟩
                    · have hv := hp.val
                      cases hv with
                      | sl _ _ _ _ l' c' hρ' hcap' hlen' =>
                        have := VRel.sla (ρ := ρ') st.next i.size 0 (len + n) (.un i.size) l' c' hρ' (by rw [Nat.zero_mul]; exact hcap') hlen'
                        rw [Nat.zero_mul] at this
                        exact this
                    · have hr := hp.rel
                      rw [m2, n2]
                      have hr : Rel ρ' (mset (mset st.mem b none) st.next (some ⟨((blk.cells.drop (off * i.size)).take (len * i.size)) ++ new, e, none⟩)) (st.next + 1) w' := hr
                      rw [har1, ← q2] at hr
                      exact hr.setArr ⟨i.size, len + n, _⟩ rfl hsz1 q1
                    · rw [m2, n2]
                      refine hp.ev.remem fun b' hb' cs ty hcs => ?_
                      have hne : b' ≠ b := fun e => by rw [e, hm] at hcs; cases hcs; cases hA
                      show _ = mget (mset (mset st.mem b none) st.next _) b'
                      rw [mget_mset_ne _ _ (by omega), mget_mset_ne _ _ hne, mget_mset_ne _ _ (by omega), mget_mset_ne _ _ hne]
                  | slan =>
                    have hq := rows_app (get := fun _ => List.replicate i.size AVal.undef) (off := 0) (len := 0) (N := 0) (new := new) (fun i hi => absurd hi (Nat.not_lt_zero _)) rfl hnl
                    have hfe : appRow (fun _ => List.replicate i.size AVal.undef) 0 0 i.size new = appRow A.get off 0 i.size new := rfl
                    rw [hfe] at hq
                    obtain ⟨q1, q2⟩ := hq
                    have hn0 : Nat.beq n 0 = false := by cases n with | zero => omega | succ n => rfl
                    have hroom' : Nat.ble ((n + 1) * (i.bytes + 1)) room = true := Nat.ble_eq_true_of_le (by rw [Nat.zero_add] at hroom; exact hroom)
                    have h0 : aAppend P cx.floor st ts.toList (.nils :: x :: xr) = some (.sl st.next 0 n (.un i.size), aNew st new e) := by
                      rw [hts]
                      unfold aAppend
                      simp only [hu, hut, hi, hz]
                      cases ut <;> first
                        | (exfalso; exact hni _ rfl)
                        | (simp only [newCells, hc, k1, k2, k3, k4, hn0, hroom', Bool.and_self, cond_true, cond_false])
                    obtain ⟨ρ', uv, w', hrun, hp, _, _⟩ := aAppend_sound (type := type) h cx.floor h0 (us := ⟨_⟩) (.cons .nils hr)
                    refine ⟨ρ', uv, w', hrun, ?_, ?_, ?_⟩
                    · have hv := hp.val
                      rw [Nat.zero_add]
                      cases hv with
                      | sl _ _ _ _ l' c' hρ' hcap' hlen' =>
                        have := VRel.sla (ρ := ρ') st.next i.size 0 n (.un i.size) l' c' hρ' (by rw [Nat.zero_mul]; exact hcap') hlen'
                        rw [Nat.zero_mul] at this
                        exact this
                    · have hr : Rel ρ' (mset st.mem st.next (some ⟨new, e, none⟩)) (st.next + 1) w' := hp.rel
                      have hr := hr.kill b
                      have hr : Rel ρ' (mset (mset st.mem b none) st.next (some ⟨new, e, none⟩)) (st.next + 1) w' := hr.remem fun b' => by
                        simp only [mget_mset]
                        by_cases e1 : b' = st.next
                        · rw [if_pos e1, if_neg (by omega), if_pos e1]
                        · rw [if_neg e1, if_neg e1]
                      rw [show new = rows (0 + n) (appRow A.get off 0 i.size new) by rw [q2]; simp] at hr
                      rw [m2, n2]
                      have := hr.setArr ⟨i.size, 0 + n, appRow A.get off 0 i.size new⟩ rfl hsz1 q1
                      exact this
                    · rw [m2, n2]
                      refine hp.ev.remem fun b' hb' cs ty hcs => ?_
                      have hne : b' ≠ b := fun e => by rw [e, hm] at hcs; cases hcs; cases hA
                      show _ = mget (mset st.mem st.next _) b'
                      rw [mget_mset_ne _ _ (by omega), mget_mset_ne _ _ hne, mget_mset_ne _ _ (by omega)]
            · cases ha
          · cases ha
        · cases ha
    · cases ha
  · cases ha
theorem Rel.ghost {mem : Mem} {next : Nat} {w : World} (h : Rel ρ mem next w) (o : Option ABlk) : Rel ρ (mset mem next o) (next + 1) w := by
  have ne : ∀ c l, ρ c = some l → c ≠ next := fun c l e => Nat.ne_of_lt (h.dom c l e)
  refine ⟨fun c l e => Nat.lt_succ_of_lt (h.dom c l e), fun c c' m m' e e' he hs hs' => ?_, fun c m ac e hc => ?_, h.old, fun c m e hs => ?_, h.real, fun c hc => ?_, fun j l e => Nat.lt_succ_of_lt (h.ldom j l e)⟩
  · rw [mget_mset_ne _ _ (ne _ _ e)] at hs
    rw [mget_mset_ne _ _ (ne _ _ e')] at hs'
    exact h.inj c c' m m' e e' he hs hs'
  · rw [mget_mset_ne _ _ (ne _ _ e)] at hc
    exact h.blk c m ac e hc
  · rw [mget_mset_ne _ _ (ne _ _ e)] at hs
    exact h.sep c m e hs
  · rw [mget_mset_ne _ _ (by omega)]
    exact h.bd c (by omega)
theorem Ev.ghost {mem : Mem} {next : Nat} {w : World} (h : Rel ρ mem next w) (floor : Nat) (o : Option ABlk) : Ev ρ ρ floor mem next (mset mem next o) (next + 1) w w where
  ext := Rho.le_refl _
  new _ _ := rfl
  nxt := Nat.le_succ _
  unborn k hk _ cs ty hm := by rw [mget_mset_ne _ _ (Nat.ne_of_lt hk)]; exact hm
  frame _ _ hk _ := hk
  fresh k m hk e := by have := h.dom k m e; omega
  size := Nat.le_refl _
  os := rfl
  tape := rfl
  output := rfl
  still _ _ := rfl
theorem dat_cells {mem : Mem} {next : Nat} {w : World} (h : Rel ρ mem next w) {n sz : Nat} {g : Nat → List AVal} {ux : Value} (hx : VRel ρ (.dat n g) ux) (hg : ∀ i, i < n → (g i).length = sz) (hsz : 1 ≤ sz) :
    (∀ w, (Builtin.lenOf ux).run P w = .ok n w) ∧ ∃ vs : Array Value, VRels ρ (rows n g) vs ∧ ∀ d, (Builtin.firstCells sz n ux).run P { w with drawn := d } = .ok vs { w with drawn := d } := by
  cases hx with
  | datn => exact ⟨fun w => by simp [Builtin.lenOf], #[], ⟨by simp [rows], fun i h1 h2 => by simp [rows] at h1⟩, fun d => by simp [Builtin.firstCells]⟩
  | datz => exact ⟨fun w => by simp [Builtin.lenOf], #[], ⟨by simp [rows], fun i h1 h2 => by simp [rows] at h1⟩, fun d => by simp [Builtin.firstCells, loadCells, loadCellsFrom]⟩
  | dat _ _ blk base sz' cap val hcap hsz' hv hh =>
    refine ⟨fun w => by simp [Builtin.lenOf], ?_⟩
    have hl := rows_length n hg
    have hdiv : ∀ k, k < n * sz → k / sz < n ∧ k % sz < sz ∧ k / sz * sz + k % sz = k := fun k hk =>
      ⟨Nat.div_lt_of_lt_mul (by rw [Nat.mul_comm]; exact hk), Nat.mod_lt _ hsz, by rw [Nat.mul_comm]; exact Nat.div_add_mod k sz⟩
    have hcell : ∀ (d k : Nat), k < n * sz → ({ w with drawn := d } : World).cell? ((⟨blk, base, none⟩ : Addr).add k) = some (val (k / sz) (k % sz)) := by
      intro d k hk
      obtain ⟨hq, hj, e4⟩ := hdiv k hk
      have hs : sz' = sz := by rw [← hsz' _ hq, hg _ hq]
      obtain ⟨cs, el, fz, e1, e2⟩ := hh (k / sz) (k % sz) hq (by omega)
      have e3 := h.old _ _ e1
      rw [hs, e4] at e2
      rw [addr_add]
      simp only [World.cell?, e3]
      exact e2
    refine ⟨_, ⟨?_, ?_⟩, fun d => by simp only [Builtin.firstCells]; exact run_loadCells _ _ _ (fun k => val (k / sz) (k % sz)) (hcell d)⟩
    · simp [hl]
    · intro k h1 h2
      obtain ⟨hq, hj, e4⟩ := hdiv k (by rw [← hl]; exact h1)
      have hj' : k % sz < (g (k / sz)).length := by rw [hg _ hq]; exact hj
      have hr := rows_get n hg (k / sz) (k % sz) hq hj
      rw [e4, List.getElem?_eq_getElem h1, List.getElem?_eq_getElem hj'] at hr
      rw [Option.some.inj hr]
      simpa using (hv (k / sz) (k % sz) hq hj').mono (bare_le ρ)
theorem rows_all {g : Nat → List AVal} {p : AVal → Bool} (n : Nat) (h : ∀ i, i < n → (g i).all p = true) : (rows n g).all p = true := by
  refine List.all_eq_true.2 fun a ha => ?_
  unfold rows at ha
  obtain ⟨i, hi, hai⟩ := List.mem_flatMap.1 ha
  exact List.all_eq_true.1 (h i (List.mem_range.1 hi)) a hai
theorem srcRows_sound {mem : Mem} {next : Nat} {w : World} (h : Rel ρ mem next w) {t u e : TypeId} {ut : TypeDesc} {i : TypeInfo} {z : Value} {zero : List AVal} {x : AVal} {ux : Value} {n : Nat} {g : Nat → List AVal} {o : Bool} (hu : P.underlying t = some (.slice e)) (hut : P.underlying u = some ut) (hi : P.info? e = some i) (hz : i.zero = some z)
    (hzr : VRels ρ zero z.cells) (hzl : zero.length = i.size) (hzs : zero.all isSc = true) (hsz : 1 ≤ i.size) (hc : srcRows i.size zero ut x = some (n, g, o)) (ho : o = true) (hx : VRel ρ x ux) :
    (∀ k, k < n → (g k).length = i.size) ∧ ∃ vs, Feeds P ρ t u e i z ux n (rows n g) vs w ∧ ∀ v ∈ vs.toList, v.oneCell' = true := by
  subst ho
  unfold srcRows at hc
  split at hc
  · rename_i k m
    split at hc
    · rename_i kt
      simp only [Option.some.injEq, Prod.mk.injEq] at hc
      obtain ⟨rfl, rfl, h0⟩ := hc
      have hcs : newCells mem i.size zero (.int kt) (.int k m) = some (m.toNat, rep m.toNat zero) := by
        unfold newCells
        simp only [h0, cond_true]
      obtain ⟨vs, hF⟩ := newCells_sound (P := P) (u := u) (t := t) h hu hut hi hz hzr hzl hcs hx (by rw [rep_length, hzl])
      rw [rep_rows] at hF
      exact ⟨fun _ _ => hzl, vs, hF, VRel.cells_oneCell hF.rel (rows_all _ fun _ _ => hzs)⟩
    · cases hc
  · rename_i nn gg
    split at hc
    · cases hc
    · rename_i hni
      simp only [Option.some.injEq, Prod.mk.injEq] at hc
      obtain ⟨rfl, rfl, h0⟩ := hc
      have hp := @of_decide_eq_true _ (Classical.propDecidable _) h0
      obtain ⟨hlen, vs, hvs, hfc⟩ := dat_cells (P := P) h hx (fun i hi => (hp i hi).1) hsz
      have hfc0 : (Builtin.firstCells i.size nn ux).run P w = .ok vs w := hfc w.drawn
      have hfc1 : (Builtin.firstCells i.size nn ux).run P w.drew = .ok vs w.drew := hfc (w.drawn + 1)
      exact ⟨fun i hi => (hp i hi).1, vs, ⟨hvs, fun _ hroom _ hst hno => run_append_in hu hut (fun k e => hni k e) hi (hlen w) hfc0 hroom hst hno, fun hold hroom hbytes => run_append_new hu hut (fun k e => hni k e) hi hz (hlen w) hfc1 hold hroom hbytes⟩,
        VRel.cells_oneCell hvs (rows_all _ fun i hi => (hp i hi).2)⟩
  · split at hc
    · cases hc
    · rename_i hni
      simp only [Option.some.injEq, Prod.mk.injEq] at hc
      obtain ⟨rfl, rfl, _⟩ := hc
      have hcs : newCells mem i.size zero ut .nils = some (0, []) := by
        unfold newCells
        split
        · rename_i k; exact absurd rfl (hni k)
        · rfl
      obtain ⟨vs, hF⟩ := newCells_sound (P := P) (u := u) (t := t) h hu hut hi hz hzr hzl hcs hx (by simp)
      exact ⟨fun k hk => absurd hk (Nat.not_lt_zero _), vs, hF, VRel.cells_oneCell hF.rel rfl⟩
  · cases hc
def Grown (P : Program) (ρ : Rho) (floor : Nat) (mem mem' : Mem) (next : Nat) (sz : Nat) (e : TypeId) (N : Nat) (G : Nat → List AVal) (w : World) (r : World → Result Value) : Prop :=
  ∃ ρ' u w', r w = .ok u w' ∧ VRel ρ' (.sla next sz 0 N (.un sz)) u ∧ Rel ρ' (mset mem' next (some ⟨rows N G, e, some ⟨sz, N, G⟩⟩)) (next + 1) w' ∧ Ev ρ ρ' floor mem next (mset mem' next (some ⟨rows N G, e, some ⟨sz, N, G⟩⟩)) (next + 1) w w'
theorem grown_block {mem : Mem} {next : Nat} {w : World} (h : Rel ρ mem next w) (floor : Nat) {t u e : TypeId} {type : TypeId} {ts : List TypeId} {xs : List Value} {i : TypeInfo} {z ux : Value} {n : Nat} {new : List AVal} {vs : Array Value} (hF : Feeds P ρ t u e i z ux n new vs w)
    (hone : ∀ v ∈ vs.toList, v.oneCell' = true) (hnl : new.length = n * i.size) (hzs : z.cells.size = i.size) (hsz : 1 ≤ i.size) {len c off b : Nat} {l : Loc} {blk : ABlk} (hrm : (len + n + 1) * (i.bytes + 1) ≤ room)
    (hρ : ρ b = some l) (hm : mget mem b = some blk) (hfl : floor ≤ b) (hoff : off + len * i.size ≤ blk.cells.length) (hlc : len ≤ c) (hcap : (l.n ≤ off + c * i.size ∧ off + c * i.size ≤ l.tot) ∨ c ≤ len)
    {G : Nat → List AVal} (hG : rows (len + n) G = (blk.cells.drop off).take (len * i.size) ++ new) (hGl : ∀ k, k < len + n → (G k).length = i.size) :
    Grown P ρ floor mem (mset mem b none) next i.size e (len + n) G w fun w => (Builtin.append_ (t :: u :: ts).toArray type ((.slice (some ⟨l.blk, l.base + off, none⟩) len c) :: ux :: xs).toArray).run P w := by
  have hvs := hF.rel
  have hvsz : vs.size = n * i.size := by rw [← hvs.1]; exact hnl
  have hbk := h.blk b l blk hρ hm
  have hln := hbk.n
  have htot := hbk.tot
  have hmul : (len + n) * i.size = len * i.size + n * i.size := Nat.add_mul _ _ _
  have hcut : cut blk.cells off (len * i.size) = some ((blk.cells.drop off).take (len * i.size)) := by
    unfold cut
    simp only
    rw [show Nat.beq ((blk.cells.drop off).take (len * i.size)).length (len * i.size) = true from by rw [Nat.beq_eq]; simp; omega]
    rfl
  have hcos : cellsOfSlice mem i.size (.sl b off len (.ex c)) = some (len, (blk.cells.drop off).take (len * i.size)) := by simp [cellsOfSlice, hm, hcut]
  have holdl : ((blk.cells.drop off).take (len * i.size)).length = len * i.size := by simp; omega
  obtain ⟨_, hfo⟩ := cellsOfSlice_sound (P := P) h hcos (.sl b off len (.ex c) l c hρ rfl hlc) holdl
  obtain ⟨ovs, hovs, hof⟩ := hfo len (Nat.le_refl _)
  rw [List.take_of_length_le (by omega)] at hovs
  have hovz : ovs.size = len * i.size := by rw [← hovs.1]; exact holdl
  have hof1 : (Builtin.firstCells i.size len (.slice (some ⟨l.blk, l.base + off, none⟩) len c)).run P w.drew = .ok ovs w.drew := hof (w.drawn + 1)
  have hrn : n = 0 ∨ (n + 1) * (i.bytes + 1) ≤ 1099511627776 := .inr (Nat.le_trans (Nat.mul_le_mul_right _ (by omega)) hrm)
  by_cases hroom : len + n ≤ c
  · -- there is room
    have hcm : (len + n) * i.size ≤ c * i.size := Nat.mul_le_mul_right _ hroom
    obtain ⟨T, t1, t2, t3⟩ : ∃ T, off + len * i.size - off + new.length ≤ T ∧ off + T ≤ l.tot ∧ c * i.size ≤ T := by
      rcases hcap with ⟨c1, c2⟩ | c1
      · exact ⟨l.tot - off, by omega, by omega, by omega⟩
      · have : n = 0 := by omega
        subst this
        have : c = len := by omega
        subst this
        exact ⟨c * i.size, by omega, by omega, by omega⟩
    obtain ⟨cur, el, hw, hcsz, hrel⟩ := h.beyond2 hρ hm (off := off) (m := off + len * i.size) (T := T) (new := new) (vs := vs.toList) e (by simpa using hvs.1.symm) (by omega) hoff t1 t2 (fun j h1 h2 => by simpa using hvs.2 j h1 (by simpa using h2))
    have hst := run_storeCells_at P l.blk (l.base + off + len * i.size) el vs.toList 0 cur w hw (by rw [Nat.add_zero, Nat.add_assoc l.base]; exact hcsz) hone
    rw [Nat.add_zero] at hst
    have hrun := hF.hin (type := type) (ts := ts) (base := some ⟨l.blk, l.base + off, none⟩) (len := len) (c := c) (xs := xs) hrn hroom (w' := w.setRow l.blk (cur.toList.take (l.base + off + len * i.size) ++ vs.toList ++ cur.toList.drop (l.base + off + len * i.size + vs.toList.length)).toArray)
      (fun a e => by cases e; rw [addr_add]; exact hst) (fun e => by cases e)
    have hdt : (blk.cells.take (off + len * i.size)).drop off = (blk.cells.drop off).take (len * i.size) := by
      rw [List.drop_take]; congr 1; omega
    rw [hdt, ← hG, ← Nat.add_assoc] at hrel
    refine ⟨_, _, _, hrun, ?_, hrel.setArr ⟨i.size, len + n, G⟩ rfl hsz hGl, ?_⟩
    · have := VRel.sla (ρ := rhoAdd ρ next ⟨l.blk, l.base + off, off + len * i.size - off + new.length, T⟩) next i.size 0 (len + n) (.un i.size) ⟨l.blk, l.base + off, off + len * i.size - off + new.length, T⟩ c (by simp [rhoAdd])
        (by simp only [CapOk, Nat.zero_mul, Nat.zero_add]; omega) (by omega)
      rw [Nat.zero_mul] at this
      exact this
    · exact Ev.ofBeyond h hρ hfl ⟨l.blk, l.base + off, off + len * i.size - off + new.length, T⟩ rfl _ _
  · -- a new row
    let st : St := ⟨.leaf, mem, next, [], true⟩
    have hrel1 : Rel ρ (st.withMem (mset mem b none)).mem (st.withMem (mset mem b none)).next w := h.kill b
    obtain ⟨newCap, hcap', rest, hrest, hrun⟩ := hF.hnew (type := type) (ts := ts) (base := some ⟨l.blk, l.base + off, none⟩) (len := len) (c := c) (xs := xs) hof1 (by omega) (by simpa [room] using hrm)
    have hov := hovs.append hvs
    have hsum : (ovs ++ vs).size + rest.size = newCap * i.size := by rw [Array.size_append, hovz, hvsz, hrest, hzs, ← Nat.add_mul, ← Nat.add_mul]; congr 1; omega
    have hp := post_grown hrel1 floor hov rest e e (.sla next i.size 0 (len + n) (.un i.size)) (.slice (some ⟨w.heap.size, 0, none⟩) (len + n) newCap) (fun ρ' hρ' => by
      have := VRel.sla (ρ := ρ') next i.size 0 (len + n) (.un i.size) _ newCap hρ' (by
        simp only [CapOk]
        rw [hsum]
        exact ⟨by rw [Nat.zero_mul, Nat.zero_add, List.length_append, holdl, hnl, ← Nat.add_mul]; exact Nat.mul_le_mul_right _ hcap', by omega⟩) hcap'
      rw [Nat.zero_mul] at this
      exact this)
    rw [← hG] at hp
    refine ⟨rhoAdd ρ next ⟨w.heap.size, 0, (rows (len + n) G).length, (ovs ++ vs).size + rest.size⟩, _, _, hrun, hp.val, ?_, ?_⟩
    · exact Rel.setArr hp.rel ⟨i.size, len + n, G⟩ rfl hsz hGl
    · refine ((Ev.ofKill h floor hρ).trans hp.ev).remem fun b' hb' cs ty hcs => ?_
      have hne : ¬ b' = next := Nat.ne_of_lt hb'
      show mget (mset (mset mem b none) next _) b' = mget (mset (mset mem b none) next _) b'
      simp only [mget_mset, if_neg hne]
theorem grown_nil {mem : Mem} {next : Nat} {w : World} (h : Rel ρ mem next w) (floor : Nat) {t u e : TypeId} {type : TypeId} {ts : List TypeId} {xs : List Value} {i : TypeInfo} {z ux : Value} {n : Nat} {new : List AVal} {vs : Array Value} (hF : Feeds P ρ t u e i z ux n new vs w)
    (hnl : new.length = n * i.size) (hzs : z.cells.size = i.size) (hsz : 1 ≤ i.size) (hrm : (0 + n + 1) * (i.bytes + 1) ≤ room) {G : Nat → List AVal} (hG : rows (0 + n) G = new) (hGl : ∀ k, k < 0 + n → (G k).length = i.size) :
    Grown P ρ floor mem mem next i.size e (0 + n) G w fun w => (Builtin.append_ (t :: u :: ts).toArray type ((.slice none 0 0) :: ux :: xs).toArray).run P w := by
  have hvs := hF.rel
  have hvsz : vs.size = n * i.size := by rw [← hvs.1]; exact hnl
  rcases Nat.eq_zero_or_pos n with hn0 | hnpos
  · subst hn0
    have hrun := hF.hin (type := type) (ts := ts) (base := none) (len := 0) (c := 0) (xs := xs) (.inl rfl) (Nat.le_refl _) (w' := w) (fun a e => by cases e) (fun _ => rfl)
    exact ⟨ρ, _, w, hrun, .slan _ _ _ _, h.ghost _, Ev.ghost h floor _⟩
  · obtain ⟨newCap, hcap, rest, hrest, hrun⟩ := hF.hnew (type := type) (ts := ts) (base := none) (len := 0) (c := 0) (xs := xs) (old := #[]) (by simp [Builtin.firstCells]) (by omega) (by simpa [room] using hrm)
    have e0 : (#[] : Array Value) ++ vs = vs := by simp
    rw [e0] at hrun
    have hsum : vs.size + rest.size = newCap * i.size := by rw [hvsz, hrest, hzs, ← Nat.add_mul]; congr 1; omega
    let st : St := ⟨.leaf, mem, next, [], true⟩
    have hrel1 : Rel ρ st.mem st.next w := h
    have hp := post_grown hrel1 floor hvs rest e e (.sla next i.size 0 (0 + n) (.un i.size)) (.slice (some ⟨w.heap.size, 0, none⟩) (0 + n) newCap) (fun ρ' hρ' => by
      have := VRel.sla (ρ := ρ') next i.size 0 (0 + n) (.un i.size) _ newCap hρ' (by
        simp only [CapOk]
        rw [hsum, hnl]
        exact ⟨by rw [Nat.zero_mul, Nat.zero_add]; exact Nat.mul_le_mul_right _ (by omega), by omega⟩) hcap
      rw [Nat.zero_mul] at this
      exact this)
    rw [← hG] at hp
    refine ⟨rhoAdd ρ next ⟨w.heap.size, 0, (rows (0 + n) G).length, vs.size + rest.size⟩, _, _, hrun, hp.val, Rel.setArr hp.rel ⟨i.size, 0 + n, G⟩ rfl hsz hGl, ?_⟩
    · refine hp.ev.remem fun b' hb' cs ty hcs => ?_
      have hne : ¬ b' = next := Nat.ne_of_lt hb'
      show mget (mset mem next _) b' = mget (mset mem next _) b'
      simp only [mget_mset, if_neg hne]
theorem flatMap_same {α β : Type} {f g : α → List β} : ∀ {l : List α}, (∀ a, a ∈ l → f a = g a) → l.flatMap f = l.flatMap g
  | [], _ => rfl
  | a :: l, h => by rw [List.flatMap_cons, List.flatMap_cons, h a (by simp), flatMap_same fun b hb => h b (by simp [hb])]
theorem rows_cat {get g : Nat → List AVal} {len n sz : Nat} (hl : ∀ i, i < len → (get i).length = sz) (hg : ∀ i, i < n → (g i).length = sz) :
    (∀ i, i < len + n → (catRow get len g i).length = sz) ∧ rows (len + n) (catRow get len g) = rows len get ++ rows n g := by
  have h1 : ∀ i, i < len + n → (catRow get len g i).length = sz := fun i hi => by
    unfold catRow
    cases e : Nat.ble len i with
    | true =>
      have := Nat.le_of_ble_eq_true e
      simp only [cond_true]
      exact hg _ (by omega)
    | false =>
      have : ¬ len ≤ i := fun h => by rw [Nat.ble_eq_true_of_le h] at e; cases e
      exact hl _ (by omega)
  refine ⟨h1, ?_⟩
  unfold rows
  rw [List.range_add, List.flatMap_append]
  congr 1
  · refine flatMap_same fun i hi => ?_
    have := List.mem_range.1 hi
    unfold catRow
    rw [show Nat.ble len i = false from Bool.eq_false_iff.2 fun e => by have := Nat.le_of_ble_eq_true e; omega]
    rfl
  · rw [List.flatMap_map]
    refine flatMap_same fun i hi => ?_
    unfold catRow
    rw [show Nat.ble len (len + i) = true from Nat.ble_eq_true_of_le (Nat.le_add_right _ _), cond_true, Nat.add_sub_cancel_left]
theorem rows_chunks {sz : Nat} : ∀ (n : Nat) (l : List AVal), l.length = n * sz → rows n (fun k => (l.drop (k * sz)).take sz) = l ∧ ∀ k, k < n → ((l.drop (k * sz)).take sz).length = sz := by
  intro n l hl
  have h1 : ∀ k, k < n → ((l.drop (k * sz)).take sz).length = sz := fun k hk => by
    have : (k + 1) * sz ≤ n * sz := Nat.mul_le_mul_right _ hk
    rw [Nat.add_mul, Nat.one_mul] at this
    simp; omega
  refine ⟨?_, h1⟩
  have hlen := rows_length n h1
  apply List.ext_getElem?
  intro i
  by_cases hi : i < n * sz
  · have hsz : 0 < sz := by
      rcases Nat.eq_zero_or_pos sz with e | e
      · rw [e, Nat.mul_zero] at hi; omega
      · exact e
    have hj : i % sz < sz := Nat.mod_lt _ hsz
    have hq : i / sz < n := Nat.div_lt_of_lt_mul (by rw [Nat.mul_comm]; exact hi)
    have e : i / sz * sz + i % sz = i := by rw [Nat.mul_comm]; exact Nat.div_add_mod i sz
    have := rows_get n h1 (i / sz) (i % sz) hq hj
    rw [e] at this
    rw [this, List.getElem?_take, if_pos hj, List.getElem?_drop, e]
  · rw [List.getElem?_eq_none (by omega), List.getElem?_eq_none (by omega)]
theorem rows_part {get : Nat → List AVal} {sz N off len : Nat} (hl : ∀ i, i < N → (get i).length = sz) (h : off + len ≤ N) : rows len (fun k => get (off + k)) = ((rows N get).drop (off * sz)).take (len * sz) := by
  have h1 : ∀ k, k < len → (get (off + k)).length = sz := fun k hk => hl _ (by omega)
  have hL := rows_length len h1
  have hN := rows_length N hl
  have hm : (off + len) * sz ≤ N * sz := Nat.mul_le_mul_right _ h
  rw [Nat.add_mul] at hm
  apply List.ext_getElem?
  intro i
  by_cases hi : i < len * sz
  · have hsz : 0 < sz := by
      rcases Nat.eq_zero_or_pos sz with e | e
      · rw [e, Nat.mul_zero] at hi; omega
      · exact e
    have hj : i % sz < sz := Nat.mod_lt _ hsz
    have hq : i / sz < len := Nat.div_lt_of_lt_mul (by rw [Nat.mul_comm]; exact hi)
    have e : i / sz * sz + i % sz = i := by rw [Nat.mul_comm]; exact Nat.div_add_mod i sz
    have a1 := rows_get len h1 (i / sz) (i % sz) hq hj
    have a2 := rows_get N hl (off + i / sz) (i % sz) (by omega) hj
    rw [e] at a1
    rw [a1, List.getElem?_take, if_pos hi, List.getElem?_drop, ← a2]
    congr 1
    rw [Nat.add_mul]; omega
  · rw [List.getElem?_eq_none (by omega), List.getElem?_eq_none (by simp; omega)]
theorem aAppendG_sound {cx : Ctx} {st st' : St} {w : World} (h : Rel ρ st.mem st.next w) {ts : Array TypeId} {type : TypeId} {xs : List AVal} {us : Array Value} {v : AVal} (ha : aAppendG P cx st ts.toList xs = some (v, st')) (hob : st'.ob = true) (hx : All2 (VRel ρ) xs us.toList) :
    ∃ ρ' u w', (Builtin.append_ ts type us).run P w = .ok u w' ∧ Post ρ cx.floor st st' v w ρ' u w' := by
  obtain ⟨ts⟩ := ts
  obtain ⟨us⟩ := us
  simp only at ha hx
  unfold aAppendG at ha
  split at ha
  · rename_i t tu tts s x txs
    cases hx with
    | @cons _ su _ _ hs hx =>
      cases hx with
      | @cons _ ux _ uxs hx _ =>
        split at ha
        · rename_i e ut hu hut
          split at ha
          · rename_i i zero hi hz
            split at ha
            · rename_i b len get o1 n g o2 ht hc
              obtain ⟨i2, z, hi2, hz2, hzr, _⟩ := zeroOf_sound (ρ := ρ) hz
              obtain rfl : i = i2 := by rw [hi] at hi2; exact Option.some.inj hi2
              obtain ⟨hchk, ha⟩ := bif_inv0 ha
              simp only [Bool.and_eq_true] at hchk
              obtain ⟨⟨⟨hzl, hzsc⟩, hsz⟩, hfl⟩ := hchk
              have hzl := Nat.eq_of_beq_eq_true hzl
              have hsz := Nat.le_of_ble_eq_true hsz
              have hzs : z.cells.size = i.size := by rw [← hzr.1]; exact hzl
              simp only [Option.map_eq_some_iff, Prod.mk.injEq] at ha
              obtain ⟨st1, ho, rfl, rfl⟩ := ha
              obtain ⟨_, m2, n2, o4⟩ := owe_same ho
              obtain ⟨hb, _⟩ := o4 hob
              simp only [Bool.and_eq_true, decide_eq_true_eq] at hb
              obtain ⟨hb1, hb2, hrm⟩ := hb
              have m2 : st1.mem = mset (killO st.mem b) st.next (some ⟨rows (len + n) (catRow get len g), e, some ⟨i.size, len + n, catRow get len g⟩⟩) := m2
              have n2 : st1.next = st.next + 1 := n2
              obtain ⟨hgl, vs, hF, hone⟩ := srcRows_sound (P := P) (u := tu) (t := t) h hu hut hi hz2 hzr hzl hzsc hsz hc hb2 hx
              have hnl := rows_length n hgl
              suffices Grown P ρ cx.floor st.mem (killO st.mem b) st.next i.size e (len + n) (catRow get len g) w fun w => (Builtin.append_ (t :: tu :: tts).toArray type (su :: ux :: uxs).toArray).run P w by
                obtain ⟨ρ', u, w', hrun, hv, hr, hev⟩ := this
                exact ⟨ρ', u, w', hrun, hv, by rw [m2, n2]; exact hr, by rw [m2, n2]; exact hev⟩
              unfold toldRows at ht
              split at ht
              · simp only [Option.some.injEq, Prod.mk.injEq] at ht
                obtain ⟨rfl, rfl, rfl, _⟩ := ht
                cases hs
                obtain ⟨q1, q2⟩ := rows_cat (get := fun _ => []) (len := 0) (fun i hi => absurd hi (Nat.not_lt_zero _)) hgl
                exact grown_nil h cx.floor hF hnl hzs hsz hrm (by rw [q2]; simp [rows]) q1
              · rename_i b0 off len0 cap
                split at ht
                · rename_i blk hm
                  split at ht
                  · rename_i old hold
                    obtain ⟨hcap0, ht⟩ := bif_inv0 ht
                    simp only [Bool.and_eq_true] at hcap0
                    obtain ⟨hcap0, hoff⟩ := hcap0
                    have hoff := Nat.le_of_ble_eq_true hoff
                    simp only [Option.some.injEq, Prod.mk.injEq] at ht
                    obtain ⟨rfl, rfl, rfl, _⟩ := ht
                    obtain ⟨k1, k2, k3⟩ := cut_spec hold
                    obtain ⟨r1, r2⟩ := rows_chunks len0 old k2
                    obtain ⟨q1, q2⟩ := rows_cat r2 hgl
                    cases hs with
                    | sl _ _ _ _ l c hρ hcap hlc =>
                      have hbk := h.blk b0 l blk hρ hm
                      have k4 : off + len0 * i.size ≤ blk.cells.length := by omega
                      refine grown_block h cx.floor hF hone hnl hzs hsz hrm hρ hm (Nat.le_of_ble_eq_true hfl) k4 hlc ?_ (by rw [q2, r1, k1]) q1
                      cases cap with
                      | ex k => exact .inr (by simp only [CapOk] at hcap; rw [hcap]; exact Nat.le_of_ble_eq_true hcap0)
                      | un zz =>
                        have := Nat.eq_of_beq_eq_true hcap0
                        simp only [CapOk] at hcap
                        exact .inl (by rw [← this]; exact hcap)
                  · cases ht
                · cases ht
              · rename_i b0 zz off len0 cap
                split at ht
                · rename_i blk hm
                  split at ht
                  · rename_i A hA
                    obtain ⟨hcap0, ht⟩ := bif_inv0 ht
                    simp only [Option.some.injEq, Prod.mk.injEq] at ht
                    obtain ⟨rfl, rfl, rfl, rfl⟩ := ht
                    simp only [Bool.and_eq_true, decide_eq_true_eq] at hb1
                    obtain ⟨hz1, hz2', hfit⟩ := hb1
                    obtain rfl := Nat.eq_of_beq_eq_true hz1
                    have hAs := Nat.eq_of_beq_eq_true hz2'
                    cases hs with
                    | sla _ _ _ _ _ l c hρ hcap hlc =>
                      obtain ⟨har1, har2, har3⟩ := (h.blk b0 l blk hρ hm).arr A hA
                      rw [hAs] at har3
                      have hlr := rows_length A.n har3
                      have hgl0 : ∀ k, k < len0 → (A.get (off + k)).length = i.size := fun k hk => har3 _ (by omega)
                      obtain ⟨q1, q2⟩ := rows_cat hgl0 hgl
                      have hm2 : (off + len0) * i.size ≤ A.n * i.size := Nat.mul_le_mul_right _ hfit
                      rw [Nat.add_mul] at hm2
                      refine grown_block h cx.floor hF hone hnl hzs hsz hrm hρ hm (Nat.le_of_ble_eq_true hfl) (by rw [har1, hlr]; exact hm2) hlc ?_ (by rw [q2, rows_part har3 hfit, har1]) q1
                      cases cap with
                      | ex k => exact .inr (by simp only [CapOk] at hcap; rw [hcap]; exact Nat.le_of_ble_eq_true hcap0)
                      | un zz =>
                        have := Nat.eq_of_beq_eq_true hcap0
                        simp only [CapOk] at hcap
                        exact .inl (by rw [← this] at hcap ⊢; exact hcap)
                    | slan =>
                      obtain ⟨q1, q2⟩ := rows_cat (get := fun k => A.get (off + k)) (len := 0) (fun i hi => absurd hi (Nat.not_lt_zero _)) hgl
                      obtain ⟨ρ', u, w', hrun, hv, hr, hev⟩ := grown_nil (P := P) (type := type) (ts := tts) (xs := uxs) h cx.floor hF hnl hzs hsz hrm (G := catRow (fun k => A.get (off + k)) 0 g) (by rw [q2]; simp [rows]) q1
                      have hbn : b0 < st.next := by
                        rcases Nat.lt_or_ge b0 st.next with g | g
                        · exact g
                        · rw [h.bd b0 g] at hm; cases hm
                      refine ⟨ρ', u, w', hrun, hv, ?_, ?_⟩
                      · refine (hr.kill b0).remem fun b' => ?_
                        simp only [killO, mget_mset]
                        by_cases e1 : b' = st.next
                        · rw [if_pos e1, if_neg (by omega), if_pos e1]
                        · rw [if_neg e1, if_neg e1]
                      · refine hev.remem fun b' hb' cs ty hcs => ?_
                        have hne : b' ≠ b0 := fun e => by rw [e, hm] at hcs; cases hcs; cases hA
                        show mget (mset (mset st.mem b0 none) st.next _) b' = mget (mset st.mem st.next _) b'
                        rw [mget_mset_ne _ _ (by omega), mget_mset_ne _ _ hne, mget_mset_ne _ _ (by omega)]
                  · cases ht
                · cases ht
              · cases ht
            · cases ha
          · cases ha
        · cases ha
  · cases ha
theorem aCopy_sound {st st' : St} {w : World} (h : Rel ρ st.mem st.next w) (floor : Nat) {ts : Array TypeId} {type : TypeId} {xs : List AVal} {us : Array Value} {v : AVal} (ha : aCopy P floor st ts.toList xs = some (v, st')) (hx : All2 (VRel ρ) xs us.toList) :
    ∃ ρ' u w', (Builtin.copy_ ts type us).run P w = .ok u w' ∧ Post ρ floor st st' v w ρ' u w' ∧ st'.env = st.env ∧ st'.ob = st.ob := by
  obtain ⟨ts⟩ := ts
  obtain ⟨us⟩ := us
  simp only at ha hx
  unfold aCopy at ha
  split at ha
  · rename_i t _ d x _
    cases hx with
    | @cons _ ud _ _ hd hx =>
      cases hx with
      | @cons _ ux _ uxs hx _ =>
        split at ha
        · rename_i e hu
          split at ha
          · rename_i i hi
            split at ha
            · rename_i m src hcs
              cases hc : (Nat.beq src.length (m * i.size) && src.all isSc) with
              | false => rw [hc] at ha; cases ha
              | true =>
                rw [hc, cond_true] at ha
                simp only [Bool.and_eq_true] at hc
                have hsl := Nat.eq_of_beq_eq_true hc.1
                have hsc := hc.2
                obtain ⟨hlen, hfirst⟩ := cellsOfSlice_sound (P := P) h hcs hx hsl
                split at ha
                · cases hd
                  simp only [Option.some.injEq, Prod.mk.injEq] at ha
                  obtain ⟨rfl, rfl⟩ := ha
                  obtain ⟨vs, hvs, hfc⟩ := hfirst 0 (Nat.zero_le _)
                  have hfc0 : (Builtin.firstCells i.size 0 ux).run P w = .ok vs w := hfc w.drawn
                  refine ⟨ρ, _, w, ?_, ⟨.int _ _, h, Ev.refl _ _ _ _ _ h.dom⟩, rfl, rfl⟩
                  simp [Builtin.copy_, run_underlying hu, hlen, size_run hi, hfc0, goInt]
                · rename_i dn dg
                  obtain ⟨hdn, ha'⟩ := bif_inv0 ha
                  clear ha
                  obtain rfl := Nat.eq_of_beq_eq_true hdn
                  simp only [Option.some.injEq, Prod.mk.injEq] at ha'
                  obtain ⟨rfl, rfl⟩ := ha'
                  obtain ⟨vs, hvs, hfc⟩ := hfirst 0 (Nat.zero_le _)
                  have hfc0 : (Builtin.firstCells i.size 0 ux).run P w = .ok vs w := hfc w.drawn
                  have hv0 : vs = #[] := by
                    have : vs.size = 0 := by rw [← hvs.1]; simp
                    exact Array.eq_empty_of_size_eq_zero this
                  subst hv0
                  cases hd with
                  | datn =>
                    refine ⟨ρ, _, w, ?_, ⟨.int _ _, h, Ev.refl _ _ _ _ _ h.dom⟩, rfl, rfl⟩
                    simp [Builtin.copy_, run_underlying hu, hlen, size_run hi, hfc0, goInt]
                  | datz =>
                    refine ⟨ρ, _, w, ?_, ⟨.int _ _, h, Ev.refl _ _ _ _ _ h.dom⟩, rfl, rfl⟩
                    simp [Builtin.copy_, run_underlying hu, hlen, size_run hi, hfc0, goInt, storeCells]
                  | dat =>
                    refine ⟨ρ, _, w, ?_, ⟨.int _ _, h, Ev.refl _ _ _ _ _ h.dom⟩, rfl, rfl⟩
                    simp [Builtin.copy_, run_underlying hu, hlen, size_run hi, hfc0, goInt, storeCells]
                · rename_i b off len cap
                  split at ha
                  · rename_i blk hm
                    dsimp only at ha
                    cases hf : (Nat.ble floor b && Nat.ble (off + (Nat.min m len) * i.size) blk.cells.length) with
                    | false => rw [hf] at ha; cases ha
                    | true =>
                      rw [hf, cond_true] at ha
                      simp only [Bool.and_eq_true] at hf
                      have hfl := Nat.le_of_ble_eq_true hf.1
                      have hfit := Nat.le_of_ble_eq_true hf.2
                      simp only [Option.some.injEq, Prod.mk.injEq] at ha
                      obtain ⟨rfl, rfl⟩ := ha
                      cases hd with
                      | sl _ _ _ _ l c hρ hcap hlc =>
                        have hmin : Nat.min m len ≤ m := Nat.min_le_left _ _
                        have hmul : Nat.min m len * i.size ≤ m * i.size := Nat.mul_le_mul_right _ hmin
                        obtain ⟨vs, hvs, hfc⟩ := hfirst (Nat.min m len) hmin
                        have hfc0 : (Builtin.firstCells i.size (Nat.min m len) ux).run P w = .ok vs w := hfc w.drawn
                        have hone := VRel.cells_oneCell hvs (List.all_eq_true.2 fun a ha => List.all_eq_true.1 hsc a (List.mem_of_mem_take ha))
                        have hvl : (src.take (Nat.min m len * i.size)).length = Nat.min m len * i.size := by rw [List.length_take, hsl]; omega
                        obtain ⟨cur, el, hw, hcsz, hrel⟩ := h.write hρ hm (off := off) (cs := src.take (Nat.min m len * i.size)) (vs := vs.toList) (by simpa using hvs.1.symm) (by rw [hvl]; exact hfit) (fun j h1 h2 => by simpa using hvs.2 j h1 (by simpa using h2))
                        have hst := run_storeCells_at P l.blk (l.base + off) el vs.toList 0 cur w hw (by rw [Nat.add_zero]; exact hcsz) hone
                        rw [Nat.add_zero] at hst
                        refine ⟨ρ, .int .i64 (Nat.min m len), w.setRow l.blk (cur.toList.take (l.base + off) ++ vs.toList ++ cur.toList.drop (l.base + off + vs.toList.length)).toArray, ?_, ⟨.int _ _, ?_, Ev.ofWrite h hρ hfl _ _⟩, rfl, rfl⟩
                        · simp [Builtin.copy_, run_underlying hu, hlen, size_run hi, hfc0, goInt, hst, -Array.length_toList, -List.append_assoc]
                        · rw [hvl] at hrel
                          simpa only [St.withMem] using hrel
                  · cases ha
                · cases ha
            · cases ha
          · cases ha
        · cases ha
  · cases ha
theorem dat_first {mem : Mem} {next : Nat} {w : World} (h : Rel ρ mem next w) {n sz : Nat} {g : Nat → List AVal} {ux : Value} (hx : VRel ρ (.dat n g) ux) (hg : ∀ i, i < n → (g i).length = sz) (hsz : 1 ≤ sz) {m : Nat} (hm : m ≤ n) :
    (∀ w, (Builtin.lenOf ux).run P w = .ok n w) ∧ ∃ vs : Array Value, VRels ρ (rows m g) vs ∧ ∀ d, (Builtin.firstCells sz m ux).run P { w with drawn := d } = .ok vs { w with drawn := d } := by
  cases hx with
  | datn =>
    obtain rfl : m = 0 := by omega
    exact ⟨fun w => by simp [Builtin.lenOf], #[], ⟨by simp [rows], fun i h1 h2 => by simp [rows] at h1⟩, fun d => by simp [Builtin.firstCells]⟩
  | datz =>
    obtain rfl : m = 0 := by omega
    exact ⟨fun w => by simp [Builtin.lenOf], #[], ⟨by simp [rows], fun i h1 h2 => by simp [rows] at h1⟩, fun d => by simp [Builtin.firstCells, loadCells, loadCellsFrom]⟩
  | dat _ _ blk base sz' cap val hcap hsz' hv hh =>
    refine ⟨fun w => by simp [Builtin.lenOf], ?_⟩
    have hg' : ∀ i, i < m → (g i).length = sz := fun i hi => hg i (by omega)
    have hl := rows_length m hg'
    have hdiv : ∀ k, k < m * sz → k / sz < m ∧ k % sz < sz ∧ k / sz * sz + k % sz = k := fun k hk =>
      ⟨Nat.div_lt_of_lt_mul (by rw [Nat.mul_comm]; exact hk), Nat.mod_lt _ hsz, by rw [Nat.mul_comm]; exact Nat.div_add_mod k sz⟩
    have hcell : ∀ (d k : Nat), k < m * sz → ({ w with drawn := d } : World).cell? ((⟨blk, base, none⟩ : Addr).add k) = some (val (k / sz) (k % sz)) := by
      intro d k hk
      obtain ⟨hq, hj, e4⟩ := hdiv k hk
      have hs : sz' = sz := by rw [← hsz' (k / sz) (by omega), hg' _ hq]
      obtain ⟨cs, el, fz, e1, e2⟩ := hh (k / sz) (k % sz) (by omega) (by omega)
      have e3 := h.old _ _ e1
      rw [hs, e4] at e2
      rw [addr_add]
      simp only [World.cell?, e3]
      exact e2
    refine ⟨_, ⟨?_, ?_⟩, fun d => by simp only [Builtin.firstCells]; exact run_loadCells _ _ _ (fun k => val (k / sz) (k % sz)) (hcell d)⟩
    · simp [hl]
    · intro k h1 h2
      obtain ⟨hq, hj, e4⟩ := hdiv k (by rw [← hl]; exact h1)
      have hj' : k % sz < (g (k / sz)).length := by rw [hg' _ hq]; exact hj
      have hr := rows_get m hg' (k / sz) (k % sz) hq hj
      rw [e4, List.getElem?_eq_getElem h1, List.getElem?_eq_getElem hj'] at hr
      rw [Option.some.inj hr]
      simpa using (hv (k / sz) (k % sz) (by omega) hj').mono (bare_le ρ)
theorem rows_take {g : Nat → List AVal} {sz n m : Nat} (hg : ∀ i, i < n → (g i).length = sz) (hm : m ≤ n) : (rows n g).take (m * sz) = rows m g := by
  have := rows_part (off := 0) (len := m) hg (by omega)
  simp only [Nat.zero_mul, List.drop_zero, Nat.zero_add] at this
  exact this.symm
theorem rows_copy {get g : Nat → List AVal} {sz N off n : Nat} (hl : ∀ i, i < N → (get i).length = sz) (hg : ∀ i, i < n → (g i).length = sz) (h : off + n ≤ N) :
    (∀ i, i < N → (cpyRow get off n g i).length = sz) ∧ rows N (cpyRow get off n g) = (rows N get).take (off * sz) ++ rows n g ++ (rows N get).drop (off * sz + n * sz) := by
  have h1 : ∀ i, i < N → (cpyRow get off n g i).length = sz := fun i hi => by
    unfold cpyRow
    cases e : (Nat.ble off i && Nat.ble (i + 1) (off + n)) with
    | true =>
      simp only [Bool.and_eq_true] at e
      have e1 := Nat.le_of_ble_eq_true e.1
      have e2 := Nat.le_of_ble_eq_true e.2
      simp only [cond_true]
      exact hg _ (by omega)
    | false => exact hl _ hi
  refine ⟨h1, ?_⟩
  obtain ⟨r, rfl⟩ : ∃ r, N = off + (n + r) := ⟨N - off - n, by omega⟩
  have e2 : off * sz + n * sz = (off + n) * sz := (Nat.add_mul _ _ _).symm
  rw [rows_take hl (by omega), e2]
  have e3 : (rows (off + (n + r)) get).drop ((off + n) * sz) = rows r fun k => get (off + n + k) := by
    rw [rows_part (off := off + n) (len := r) hl (by omega)]
    rw [List.take_of_length_le]
    have := rows_length _ hl
    rw [List.length_drop, this, ← Nat.sub_mul, show off + (n + r) - (off + n) = r by omega]
    exact Nat.le_refl _
  rw [e3]
  unfold rows
  rw [List.range_add, List.range_add, List.flatMap_append, List.map_append, List.flatMap_append, ← List.append_assoc]
  congr 1
  · congr 1
    · refine flatMap_same fun i hi => ?_
      have := List.mem_range.1 hi
      unfold cpyRow
      rw [show Nat.ble off i = false from Bool.eq_false_iff.2 fun e => by have := Nat.le_of_ble_eq_true e; omega]
      rfl
    · rw [List.flatMap_map]
      refine flatMap_same fun i hi => ?_
      have := List.mem_range.1 hi
      unfold cpyRow
      rw [Nat.ble_eq_true_of_le (show off ≤ off + i by omega), Nat.ble_eq_true_of_le (show off + i + 1 ≤ off + n by omega), Nat.add_sub_cancel_left]
      rfl
  · rw [List.map_map, List.flatMap_map]
    refine flatMap_same fun i hi => ?_
    unfold cpyRow
    show (bif Nat.ble off (off + (n + i)) && Nat.ble (off + (n + i) + 1) (off + n) then _ else _) = _
    rw [show Nat.ble (off + (n + i) + 1) (off + n) = false from Bool.eq_false_iff.2 fun e => by have := Nat.le_of_ble_eq_true e; omega, Bool.and_false, cond_false]
    show get (off + (n + i)) = get (off + n + i)
    rw [Nat.add_assoc]
theorem copySrc_sound {mem : Mem} {next : Nat} {w : World} (h : Rel ρ mem next w) {sz : Nat} (hsz : 1 ≤ sz) {x : AVal} {ux : Value} {m : Nat} {g : Nat → List AVal} {o : Bool} (hc : copySrc mem sz x = some (m, g, o)) (ho : o = true) (hx : VRel ρ x ux) :
    (∀ k, k < m → (g k).length = sz ∧ (g k).all isSc = true) ∧ ∀ n, n ≤ m → (∀ w, (Builtin.lenOf ux).run P w = .ok m w) ∧ ∃ vs : Array Value, VRels ρ (rows n g) vs ∧ ∀ d, (Builtin.firstCells sz n ux).run P { w with drawn := d } = .ok vs { w with drawn := d } := by
  subst ho
  have part : ∀ (b z off len c : Nat) (l : Loc) (blk : ABlk) (A : Arr), ρ b = some l → mget mem b = some blk → blk.arr = some A → len ≤ c → (Nat.beq z sz && (Nat.beq A.sz sz && (decide (off + len ≤ A.n) && pd (∀ i, i < len → (A.get (off + i)).length = sz ∧ (A.get (off + i)).all isSc = true)))) = true →
      (∀ k, k < len → (A.get (off + k)).length = sz ∧ (A.get (off + k)).all isSc = true) ∧ ∀ n, n ≤ len → (∀ w, (Builtin.lenOf (.slice (some ⟨l.blk, l.base + off * z, none⟩) len c)).run P w = .ok len w) ∧ ∃ vs : Array Value, VRels ρ (rows n fun k => A.get (off + k)) vs ∧ ∀ d, (Builtin.firstCells sz n (.slice (some ⟨l.blk, l.base + off * z, none⟩) len c)).run P { w with drawn := d } = .ok vs { w with drawn := d } := by
    intro b z off len c l blk A hρ hm hA hlen ho
    simp only [Bool.and_eq_true, decide_eq_true_eq] at ho
    obtain ⟨k1, k2, k3, k4⟩ := ho
    obtain rfl := Nat.eq_of_beq_eq_true k1
    have k2 := Nat.eq_of_beq_eq_true k2
    have k4 := @of_decide_eq_true _ (Classical.propDecidable _) k4
    refine ⟨k4, fun n hn => ?_⟩
    obtain ⟨har1, har2, har3⟩ := (h.blk b l blk hρ hm).arr A hA
    rw [k2] at har3
    have hlr := rows_length A.n har3
    have hm2 : (off + len) * z ≤ A.n * z := Nat.mul_le_mul_right _ k3
    rw [Nat.add_mul] at hm2
    have hpl := rows_part har3 k3
    have hL : (rows len fun k => A.get (off + k)).length = len * z := rows_length len fun i hi => (k4 i hi).1
    have hcs : cellsOfSlice mem z (.sl b (off * z) len (.ex c)) = some (len, rows len fun k => A.get (off + k)) := by
      simp only [cellsOfSlice, hm]
      unfold cut
      simp only
      rw [har1, ← hpl, show Nat.beq (rows len fun k => A.get (off + k)).length (len * z) = true from by rw [hL, Nat.beq_refl]]
      rfl
    obtain ⟨q1, q2⟩ := cellsOfSlice_sound (P := P) h hcs (.sl b (off * z) len (.ex c) l c hρ rfl hlen) hL
    obtain ⟨vs, v1, v2⟩ := q2 n hn
    rw [rows_take (fun i hi => (k4 i hi).1) hn] at v1
    exact ⟨q1, vs, v1, v2⟩
  have none0 : ∀ (g : Nat → List AVal) (n : Nat) (p : Option Addr) (c : Nat), n ≤ 0 → (∀ w, (Builtin.lenOf (.slice p 0 c)).run P w = .ok 0 w) ∧ ∃ vs : Array Value, VRels ρ (rows n g) vs ∧ ∀ d, (Builtin.firstCells sz n (.slice p 0 c)).run P { w with drawn := d } = .ok vs { w with drawn := d } := by
    intro g n p c hn
    obtain rfl : n = 0 := by omega
    cases p with
    | none => exact ⟨fun w => by simp [Builtin.lenOf], #[], ⟨by simp [rows], fun i h1 h2 => by simp [rows] at h1⟩, fun d => by simp [Builtin.firstCells]⟩
    | some a =>
      refine ⟨fun w => by simp [Builtin.lenOf], _, ⟨?_, fun i h1 h2 => by simp [rows] at h1⟩, fun d => by simp only [Builtin.firstCells]; exact run_loadCells _ _ _ (fun _ => undef) fun k hk => by rw [Nat.zero_mul] at hk; exact absurd hk (Nat.not_lt_zero _)⟩
      simp [rows]
  unfold copySrc at hc
  split at hc
  · simp only [Option.some.injEq, Prod.mk.injEq] at hc
    obtain ⟨rfl, rfl, _⟩ := hc
    cases hx
    exact ⟨fun k hk => absurd hk (Nat.not_lt_zero _), fun n hn => none0 _ n none 0 hn⟩
  · rename_i n' g'
    simp only [Option.some.injEq, Prod.mk.injEq] at hc
    obtain ⟨rfl, rfl, h0⟩ := hc
    have hp := @of_decide_eq_true _ (Classical.propDecidable _) h0
    exact ⟨hp, fun n hn => dat_first (P := P) h hx (fun i hi => (hp i hi).1) hsz hn⟩
  · split at hc
    · rename_i blk hm
      split at hc
      · rename_i A hA
        simp only [Option.some.injEq, Prod.mk.injEq] at hc
        obtain ⟨rfl, rfl, h0⟩ := hc
        cases hx with
        | sla _ _ _ _ _ l c hρ hcap hlen => exact part _ _ _ _ _ l _ _ hρ hm hA hlen h0
        | slan => exact ⟨fun k hk => absurd hk (Nat.not_lt_zero _), fun n hn => none0 _ n none 0 hn⟩
      · cases hc
    · cases hc
  · split at hc
    · rename_i blk hm
      split at hc
      · rename_i A hA
        simp only [Option.some.injEq, Prod.mk.injEq] at hc
        obtain ⟨rfl, rfl, h0⟩ := hc
        cases hx with
        | slv _ _ _ _ l c hρ hlen => exact part _ _ _ _ _ l _ _ hρ hm hA hlen h0
        | slve => exact ⟨fun k hk => absurd hk (Nat.not_lt_zero _), fun n hn => none0 _ n _ _ hn⟩
        | slvn => exact ⟨fun k hk => absurd hk (Nat.not_lt_zero _), fun n hn => none0 _ n none 0 hn⟩
      · cases hc
    · cases hc
  · cases hc
theorem Rel.reblk {mem : Mem} {next : Nat} {w : World} (h : Rel ρ mem next w) {b : Nat} {blk blk' : ABlk} (hm : mget mem b = some blk) (hb : ∀ l, ρ b = some l → BlkRel ρ w blk l → BlkRel ρ w blk' l) : Rel ρ (mset mem b (some blk')) next w := by
  have iff : ∀ c, (mget (mset mem b (some blk')) c).isSome = true → (mget mem c).isSome = true := fun c hc => by
    rw [mget_mset] at hc
    by_cases e : c = b
    · rw [e, hm]; rfl
    · rwa [if_neg e] at hc
  have hlt : b < next := by
    rcases Nat.lt_or_ge b next with q | q
    · exact q
    · rw [h.bd b q] at hm; cases hm
  refine ⟨h.dom, fun c c' m m' e e' he hs hs' => h.inj c c' m m' e e' he (iff c hs) (iff c' hs'), fun c m ac e hc => ?_, h.old, fun c m e hs => h.sep c m e (iff c hs), h.real, fun c hc => ?_, h.ldom⟩
  · rw [mget_mset] at hc
    by_cases ec : c = b
    · subst ec
      rw [if_pos rfl] at hc
      obtain rfl := Option.some.inj hc
      exact hb m e (h.blk c m blk e hm)
    · rw [if_neg ec] at hc
      exact h.blk c m ac e hc
  · rw [mget_mset_ne _ _ (by omega)]
    exact h.bd c hc
theorem Ev.put {mem : Mem} {next : Nat} {w : World} (h : Rel ρ mem next w) (floor : Nat) {b : Nat} {blk : ABlk} {A : Arr} (hm : mget mem b = some blk) (hA : blk.arr = some A) (o : Option ABlk) : Ev ρ ρ floor mem next (mset mem b o) next w w where
  ext := Rho.le_refl _
  new _ _ := rfl
  nxt := Nat.le_refl _
  unborn k _ e cs ty hk := by
    by_cases hkb : k = b
    · subst hkb; rw [hm] at hk; cases hk; cases hA
    · rw [mget_mset_ne _ _ hkb]; exact hk
  frame _ _ hk _ := hk
  fresh k m hk e := by have := h.dom k m e; omega
  size := Nat.le_refl _
  os := rfl
  tape := rfl
  output := rfl
  still _ _ := rfl
theorem aCopyA_sound {cx : Ctx} {st st' : St} {w : World} (h : Rel ρ st.mem st.next w) {ts : Array TypeId} {type : TypeId} {us : Array Value} {b sz off len : Nat} {d x : AVal} {xs : List AVal} {v : AVal} (ha : aCopyA P cx st ts.toList b sz off len x = some (v, st')) (hob : st'.ob = true) (hx : All2 (VRel ρ) (d :: x :: xs) us.toList)
    (hd : ∀ u, VRel ρ d u → (∃ l c, ρ b = some l ∧ len ≤ c ∧ u = .slice (some ⟨l.blk, l.base + off * sz, none⟩) len c) ∨ (len = 0 ∧ ∃ p c, u = .slice p 0 c)) :
    ∃ ρ' u w', (Builtin.copy_ ts type us).run P w = .ok u w' ∧ Post ρ cx.floor st st' v w ρ' u w' := by
  obtain ⟨ts⟩ := ts
  obtain ⟨us⟩ := us
  simp only at ha hx
  unfold aCopyA at ha
  split at ha
  · rename_i t _
    cases hx with
    | @cons _ ud _ _ hd0 hx =>
      cases hx with
      | @cons _ ux _ uxs hx _ =>
        split at ha
        · rename_i e hu
          split at ha
          · rename_i i blk hi hm
            split at ha
            · rename_i A m g o hA hcs
              obtain ⟨hchk, ha⟩ := bif_inv0 ha
              simp only [Bool.and_eq_true] at hchk
              have hfl := Nat.le_of_ble_eq_true hchk.1
              have hsz := Nat.le_of_ble_eq_true hchk.2
              simp only [Option.map_eq_some_iff, Prod.mk.injEq] at ha
              obtain ⟨st1, ho, rfl, rfl⟩ := ha
              obtain ⟨_, m2, n2, o4⟩ := owe_same ho
              obtain ⟨hb, _⟩ := o4 hob
              simp only [Bool.and_eq_true, decide_eq_true_eq] at hb
              obtain ⟨k1, k2, k3, k4⟩ := hb
              obtain rfl := Nat.eq_of_beq_eq_true k1
              have k2 := Nat.eq_of_beq_eq_true k2
              have m2 : st1.mem = mset st.mem b (some ⟨rows A.n (cpyRow A.get off (Nat.min m len) g), blk.ty, some ⟨A.sz, A.n, cpyRow A.get off (Nat.min m len) g⟩⟩) := m2
              have n2 : st1.next = st.next := n2
              obtain ⟨hg, hfirst⟩ := copySrc_sound (P := P) h hsz hcs k4 hx
              have hmin : Nat.min m len ≤ m := Nat.min_le_left _ _
              have hmin2 : Nat.min m len ≤ len := Nat.min_le_right _ _
              obtain ⟨hlen, vs, hvs, hfc⟩ := hfirst (Nat.min m len) hmin
              have hfc0 : (Builtin.firstCells i.size (Nat.min m len) ux).run P w = .ok vs w := hfc w.drawn
              have hgl : ∀ k, k < Nat.min m len → (g k).length = i.size := fun k hk => (hg k (by omega)).1
              have hrl := rows_length (Nat.min m len) hgl
              have hone := VRel.cells_oneCell hvs (rows_all _ fun k hk => (hg k (by omega)).2)
              have hbn : b < st.next := by
                rcases Nat.lt_or_ge b st.next with q | q
                · exact q
                · rw [h.bd b q] at hm; cases hm
              have nothing : Nat.min m len = 0 → Rel ρ st1.mem st1.next w ∧ Ev ρ ρ cx.floor st.mem st.next st1.mem st1.next w w := fun e0 => by
                rw [m2, n2, e0]
                have same : ∀ k, cpyRow A.get off 0 g k = A.get k := fun k => by
                  unfold cpyRow
                  cases e : (Nat.ble off k && Nat.ble (k + 1) (off + 0)) with
                  | true =>
                    simp only [Bool.and_eq_true] at e
                    have e1 := Nat.le_of_ble_eq_true e.1
                    have e2 := Nat.le_of_ble_eq_true e.2
                    omega
                  | false => rfl
                have same : cpyRow A.get off 0 g = A.get := funext same
                rw [same]
                refine ⟨?_, Ev.put h cx.floor hm hA _⟩
                refine h.reblk hm fun l hρ hbk => ?_
                obtain ⟨har1, har2, har3⟩ := hbk.arr A hA
                refine ⟨by rw [hbk.n, har1], hbk.tot, fun B hB => ?_, ?_⟩
                · obtain rfl := Option.some.inj hB
                  exact ⟨rfl, har2, har3⟩
                · have := hbk.cells
                  rw [har1] at this
                  exact this
              rcases hd ud hd0 with ⟨l, c, hρ, hlc, rfl⟩ | ⟨rfl, p, c, rfl⟩
              · obtain ⟨har1, har2, har3⟩ := (h.blk b l blk hρ hm).arr A hA
                rw [k2] at har3
                have hlr := rows_length A.n har3
                have hfitN : off + Nat.min m len ≤ A.n := by omega
                obtain ⟨c1, c2⟩ := rows_copy har3 hgl hfitN
                have hm3 : (off + Nat.min m len) * i.size ≤ A.n * i.size := Nat.mul_le_mul_right _ hfitN
                rw [Nat.add_mul] at hm3
                obtain ⟨cur, el, hw, hcsz, hrel⟩ := h.write hρ hm (off := off * i.size) (cs := rows (Nat.min m len) g) (vs := vs.toList) (by simpa using hvs.1.symm) (by rw [hrl, har1, hlr]; exact hm3) (fun j h1 h2 => by simpa using hvs.2 j h1 (by simpa using h2))
                have hst := run_storeCells_at P l.blk (l.base + off * i.size) el vs.toList 0 cur w hw (by rw [Nat.add_zero]; exact hcsz) hone
                rw [Nat.add_zero] at hst
                rw [hrl, har1, ← c2] at hrel
                refine ⟨ρ, .int .i64 (Nat.min m len : Nat), w.setRow l.blk (cur.toList.take (l.base + off * i.size) ++ vs.toList ++ cur.toList.drop (l.base + off * i.size + vs.toList.length)).toArray, ?_, .int _ _, ?_, ?_⟩
                · have hl2 := hlen w
                  simp [Builtin.copy_, run_underlying hu, hlen, size_run hi, hfc0, goInt, hst, -Array.length_toList, -List.append_assoc]
                · rw [m2, n2]
                  have := hrel.setArr ⟨A.sz, A.n, .flat (cpyRow A.get off (Nat.min m len) g)⟩ rfl har2 (by rw [k2]; exact c1)
                  exact this
                · rw [m2, n2]
                  exact Ev.ofWrite h hρ hfl _ _
              · have e0 : Nat.min m 0 = 0 := Nat.min_zero m
                obtain ⟨n1, n3⟩ := nothing e0
                refine ⟨ρ, .int .i64 (Nat.min m 0 : Nat), w, ?_, .int _ _, n1, n3⟩
                rw [e0] at hfc0 hvs
                have hv0 : vs = #[] := by
                  have : vs.size = 0 := by rw [← hvs.1]; simp [rows]
                  exact Array.eq_empty_of_size_eq_zero this
                subst hv0
                cases p with
                | none => simp [Builtin.copy_, run_underlying hu, hlen, size_run hi, hfc0, goInt]
                | some a => simp [Builtin.copy_, run_underlying hu, hlen, size_run hi, hfc0, goInt, storeCells]
            · cases ha
          · cases ha
        · cases ha
  · cases ha
theorem aClear_sound {st st' : St} {w : World} (h : Rel ρ st.mem st.next w) (floor : Nat) {ts : Array TypeId} {type : TypeId} {xs : List AVal} {us : Array Value} {v : AVal} (ha : aClear P floor st ts.toList xs = some (v, st')) (hx : All2 (VRel ρ) xs us.toList) :
    ∃ ρ' u w', (Builtin.clear_ ts type us).run P w = .ok u w' ∧ Post ρ floor st st' v w ρ' u w' ∧ st'.env = st.env ∧ st'.ob = st.ob := by
  obtain ⟨ts⟩ := ts
  obtain ⟨us⟩ := us
  simp only at ha hx
  unfold aClear at ha
  have unit : VRel ρ (.tup []) (.tuple #[]) := .tup [] #[] rfl fun i h1 _ => by simp at h1
  split at ha
  · rename_i t _ d _
    cases hx with
    | @cons _ ud _ _ hd _ =>
      split at ha
      · rename_i e hu
        split at ha
        · rename_i i zero hi hz
          obtain ⟨i2, z, hi2, _, hzr, hzv⟩ := zeroOf_sound (ρ := ρ) hz
          split at ha
          · cases hd
            simp only [Option.some.injEq, Prod.mk.injEq] at ha
            obtain ⟨rfl, rfl⟩ := ha
            exact ⟨ρ, .tuple #[], w, by simp [Builtin.clear_, run_underlying hu], ⟨unit, h, Ev.refl _ _ _ _ _ h.dom⟩, rfl, rfl⟩
          · rename_i b off len cap
            cases hd with
            | sl _ _ _ _ l c hρ hcap hlc =>
              rcases (by cases hl0 : Nat.beq len 0 with
                  | true => rw [hl0] at ha; exact .inl ⟨rfl, ha⟩
                  | false => rw [hl0] at ha; exact .inr ⟨rfl, ha⟩ : (Nat.beq len 0 = true ∧ _) ∨ (Nat.beq len 0 = false ∧ _)) with ⟨hl0, ha⟩ | ⟨hl0, ha⟩
              · have hl0 := Nat.eq_of_beq_eq_true hl0
                subst hl0
                simp only [cond_true, Option.some.injEq, Prod.mk.injEq] at ha
                obtain ⟨rfl, rfl⟩ := ha
                exact ⟨ρ, .tuple #[], w, by simp [Builtin.clear_, run_underlying hu], ⟨unit, h, Ev.refl _ _ _ _ _ h.dom⟩, rfl, rfl⟩
              · obtain ⟨hc, ha⟩ := bif_inv0 ha
                simp only [Bool.and_eq_true] at hc
                obtain ⟨⟨hzl, hzs⟩, hfl⟩ := hc
                have hzl := Nat.eq_of_beq_eq_true hzl
                have hfl := Nat.le_of_ble_eq_true hfl
                split at ha
                · rename_i blk hm
                  obtain ⟨hfit, ha⟩ := bif_inv0 ha
                  have hfit := Nat.le_of_ble_eq_true hfit
                  simp only [Option.some.injEq, Prod.mk.injEq] at ha
                  obtain ⟨rfl, rfl⟩ := ha
                  have hrl : (rep len zero).length = len * i.size := by rw [rep_length, hzl]
                  have hrep : VRels ρ (rep len zero) (Builtin.zeroCells z.cells len) := rep_rel hzr len (len * z.cells.size) (by rw [hzr.1])
                  have hone : ∀ v ∈ (Builtin.zeroCells z.cells len).toList, v.oneCell' = true := VRel.cells_oneCell hrep (by
                    refine List.all_eq_true.2 fun a ha => List.all_eq_true.1 hzs a ?_
                    unfold rep at ha
                    obtain ⟨l, hl, hal⟩ := List.mem_flatten.1 ha
                    rw [(List.mem_replicate.1 hl).2] at hal
                    exact hal)
                  obtain ⟨cur, el, hw, hcsz, hrel⟩ := h.write hρ hm (off := off) (cs := rep len zero) (vs := (Builtin.zeroCells z.cells len).toList) (by simpa using hrep.1.symm) (by rw [hrl]; exact hfit) (fun j h1 h2 => by simpa using hrep.2 j h1 (by simpa using h2))
                  have hst := run_storeCells_at P l.blk (l.base + off) el (Builtin.zeroCells z.cells len).toList 0 cur w hw (by rw [Nat.add_zero]; exact hcsz) hone
                  rw [Nat.add_zero] at hst
                  have hne : len ≠ 0 := fun e => by rw [e] at hl0; cases hl0
                  refine ⟨ρ, .tuple #[], w.setRow l.blk (cur.toList.take (l.base + off) ++ (Builtin.zeroCells z.cells len).toList ++ cur.toList.drop (l.base + off + (Builtin.zeroCells z.cells len).toList.length)).toArray, ?_, ⟨unit, ?_, Ev.ofWrite h hρ hfl _ _⟩, rfl, rfl⟩
                  · obtain ⟨len', rfl⟩ : ∃ k, len = k + 1 := ⟨len - 1, by omega⟩
                    simp [Builtin.clear_, run_underlying hu, hzv, hst, -Array.length_toList, -List.append_assoc]
                  · rw [hrl] at hrel
                    simpa only [St.withMem] using hrel
                · cases ha
          · cases ha
        · cases ha
      · cases ha
  · cases ha
end
end Go.Am
end
section
set_option linter.unusedVariables false
set_option linter.unusedSimpArgs false
namespace Go.Am
section
variable {P : Program} {ρ : Rho}
structure AInv (floor : Nat) (st st' : St) : Prop where
  nxt : st.next ≤ st'.next
  bd : (∀ b, st.next ≤ b → mget st.mem b = none) → ∀ b, st'.next ≤ b → mget st'.mem b = none
  low : floor ≤ st.next → ∀ b, b < floor → mget st'.mem b = mget st.mem b
  ob : st'.ob = true → st.ob = true
theorem AInv.refl (floor : Nat) (st : St) : AInv floor st st := ⟨Nat.le_refl _, fun h => h, fun _ _ _ => rfl, fun h => h⟩
theorem AInv.trans {floor : Nat} {a b c : St} (h : AInv floor a b) (k : AInv floor b c) : AInv floor a c :=
  ⟨Nat.le_trans h.nxt k.nxt, fun x => k.bd (h.bd x), fun x d hd => (k.low (Nat.le_trans x h.nxt) d hd).trans (h.low x d hd), fun x => h.ob (k.ob x)⟩
theorem AInv.env {floor : Nat} {a b : St} (h : AInv floor a b) (e e' : T AVal) : AInv floor (a.withEnv e) (b.withEnv e') := ⟨h.nxt, h.bd, h.low, h.ob⟩
theorem AInv.write {floor : Nat} (st : St) {b : Nat} {ab : ABlk} (o : Option ABlk) (hf : floor ≤ b) (hm : mget st.mem b = some ab) : AInv floor st (st.withMem (mset st.mem b o)) where
  nxt := Nat.le_refl _
  bd h k hk := by
    have hne : k ≠ b := fun e => by rw [e, ] at hk; rw [h b hk] at hm; cases hm
    show mget (mset st.mem b o) k = none
    rw [mget_mset_ne _ _ hne]; exact h k hk
  low _ k hk := mget_mset_ne _ _ (by omega)
  ob h := h
theorem AInv.new {floor : Nat} (st : St) (cs : List AVal) (ty : TypeId) : AInv floor st (aNew st cs ty) where
  nxt := Nat.le_succ _
  bd h k hk := by
    have hk' : st.next + 1 ≤ k := hk
    show mget (mset st.mem st.next _) k = none
    rw [mget_mset_ne _ _ (by omega)]; exact h k (by omega)
  low hf k hk := mget_mset_ne _ _ (by omega)
  ob h := h
def RInv (R : Runner) : Prop := ∀ cx todo st st', R cx todo st = some st' → AInv cx.floor st st'
theorem owe_spec {cx : Ctx} {st st' : St} {b : Bool} (h : st.owe cx b = some st') : st'.env = st.env ∧ st'.mem = st.mem ∧ st'.next = st.next ∧ (st'.ob = true → b = true ∧ st.ob = true) := by
  obtain ⟨env, mem, next, orc, ob⟩ := st
  unfold St.owe at h
  dsimp only at h
  cases hs : cx.sym with
  | true =>
    rw [hs, cond_true] at h
    obtain rfl := Option.some.inj h
    exact ⟨rfl, rfl, rfl, fun h => by simp only [Bool.and_eq_true] at h; exact ⟨h.1, h.2⟩⟩
  | false =>
    rw [hs, cond_false] at h
    cases b with
    | false => cases h
    | true =>
      obtain rfl := Option.some.inj h
      exact ⟨rfl, rfl, rfl, fun h => ⟨rfl, h⟩⟩
theorem test_spec {st st' : St} {b e : Bool} (h : st.test b = (e, st')) : st'.env = st.env ∧ st'.mem = st.mem ∧ st'.next = st.next ∧ (st'.ob = true → e = b ∧ st.ob = true) := by
  obtain ⟨env, mem, next, orc, ob⟩ := st
  cases orc with
  | nil =>
    simp only [St.test, Prod.mk.injEq] at h
    obtain ⟨rfl, rfl⟩ := h
    exact ⟨rfl, rfl, rfl, fun h => ⟨rfl, h⟩⟩
  | cons c r =>
    simp only [St.test, Prod.mk.injEq] at h
    obtain ⟨rfl, rfl⟩ := h
    refine ⟨rfl, rfl, rfl, fun h => ?_⟩
    simp only [Bool.and_eq_true, beq_iff_eq] at h
    exact ⟨h.1.symm, h.2⟩
theorem put_spec {cx : Ctx} {st st' : St} {dst : Option Tmp} {v : AVal} (h : st.put cx dst v = some st') : st'.mem = st.mem ∧ st'.next = st.next ∧ st'.ob = st.ob ∧
    ((dst = none ∧ st'.env = st.env) ∨ ∃ d, dst = some d ∧ d < cx.n ∧ st'.env = T.set .undef st.env d v) := by
  obtain ⟨env, mem, next, orc, ob⟩ := st
  cases dst with
  | none =>
    simp only [St.put, Option.some.injEq] at h
    subst h
    exact ⟨rfl, rfl, rfl, .inl ⟨rfl, rfl⟩⟩
  | some d =>
    simp only [St.put] at h
    cases hb : Nat.ble (d + 1) cx.n with
    | false => rw [hb] at h; cases h
    | true =>
      rw [hb, cond_true] at h
      obtain rfl := Option.some.inj h
      exact ⟨rfl, rfl, rfl, .inr ⟨d, rfl, Nat.le_of_ble_eq_true hb, rfl⟩⟩
theorem AInv.same {floor : Nat} {st st' : St} (hm : st'.mem = st.mem) (hn : st'.next = st.next) (ho : st'.ob = true → st.ob = true) : AInv floor st st' :=
  ⟨by rw [hn]; exact Nat.le_refl _, fun h b hb => by rw [hm]; exact h b (by rw [← hn]; exact hb), fun _ b _ => by rw [hm], ho⟩
theorem bif_inv {α : Type} {c : Bool} {x : Option α} {y : α} (h : (bif c then x else none) = some y) : c = true ∧ x = some y := by
  cases c with
  | false => cases h
  | true => exact ⟨rfl, h⟩
theorem bif_or {α : Type} {c : Bool} {x z : Option α} {y : α} (h : (bif c then x else z) = some y) : (c = true ∧ x = some y) ∨ (c = false ∧ z = some y) := by
  cases c with
  | false => exact .inr ⟨rfl, h⟩
  | true => exact .inl ⟨rfl, h⟩
theorem aStore_inv {floor : Nat} {st st' : St} {t : TypeId} {x v : AVal} (h : aStore P floor st t x v = some st') : AInv floor st st' ∧ st'.env = st.env := by
  unfold aStore at h
  split at h
  · obtain ⟨hc, h⟩ := bif_inv h
    simp only [Bool.and_eq_true] at hc
    split at h
    · rename_i blk hm
      obtain ⟨_, h⟩ := bif_inv h
      obtain rfl := Option.some.inj h
      exact ⟨AInv.write st _ (Nat.le_of_ble_eq_true hc.1.1.1) hm, rfl⟩
    · cases h
  · cases h
theorem aStoreE_inv {cx : Ctx} {st st' : St} {t : TypeId} {x v : AVal} (h : aStoreE P cx st t x v = some st') : AInv cx.floor st st' ∧ st'.env = st.env := by
  unfold aStoreE at h
  split at h
  · obtain ⟨hc, h⟩ := bif_inv h
    simp only [Bool.and_eq_true] at hc
    split at h
    · rename_i blk hm
      split at h
      · split at h
        · rename_i rw1 st1 hset
          obtain ⟨s1, s2, s3, s4⟩ := setRow_spec hset
          obtain ⟨o1, o2, o3, o4⟩ := owe_spec h
          have a1 : AInv cx.floor st st1 := AInv.same s2 s3 fun x => (s4 x).2
          exact ⟨(a1.trans (AInv.write st1 _ (Nat.le_of_ble_eq_true hc.1.1.1.1) (by rw [s2]; exact hm))).trans (AInv.same o2 o3 fun x => (o4 x).2), o1.trans s1⟩
        · cases h
      · cases h
    · cases h
  · cases h
theorem aBuildSlice_inv {st st' : St} {t : TypeId} {len : Nat} {ps : List (Nat × AVal)} {v : AVal} {un : Bool} (floor : Nat) (h : aBuildSlice P un st t len ps = some (v, st')) : AInv floor st st' ∧ st'.env = st.env := by
  unfold aBuildSlice at h
  split at h
  · split at h
    · obtain ⟨_, h⟩ := bif_inv h
      split at h
      · simp only [Option.some.injEq, Prod.mk.injEq] at h
        obtain ⟨_, rfl⟩ := h
        exact ⟨AInv.new st _ _, rfl⟩
      · cases h
    · cases h
  · cases h
theorem aMakeSlice_inv {st st' : St} {t : TypeId} {x y v : AVal} (floor : Nat) (h : aMakeSlice P st t x y = some (v, st')) : AInv floor st st' ∧ st'.env = st.env := by
  unfold aMakeSlice at h
  split at h
  · split at h
    · obtain ⟨_, h⟩ := bif_inv h
      simp only [Option.some.injEq, Prod.mk.injEq] at h
      obtain ⟨_, rfl⟩ := h
      exact ⟨AInv.new st _ _, rfl⟩
    · cases h
  · cases h
theorem aAppend_inv {floor : Nat} {st st' : St} {ts : List TypeId} {xs : List AVal} {v : AVal} (h : aAppend P floor st ts xs = some (v, st')) : AInv floor st st' ∧ st'.env = st.env := by
  unfold aAppend at h
  split at h
  · split at h
    · split at h
      · split at h
        · obtain ⟨_, h⟩ := bif_inv h
          split at h
          · rcases bif_or h with ⟨_, h⟩ | ⟨_, h⟩
            · simp only [Option.some.injEq, Prod.mk.injEq] at h
              obtain ⟨_, rfl⟩ := h
              exact ⟨AInv.refl _ _, rfl⟩
            · obtain ⟨_, h⟩ := bif_inv h
              simp only [Option.some.injEq, Prod.mk.injEq] at h
              obtain ⟨_, rfl⟩ := h
              exact ⟨AInv.new st _ _, rfl⟩
          · split at h
            · rename_i blk hm
              split at h
              · obtain ⟨_, h⟩ := bif_inv h
                split at h
                · rcases bif_or h with ⟨_, h⟩ | ⟨_, h⟩
                  · obtain ⟨hc, h⟩ := bif_inv h
                    simp only [Bool.and_eq_true] at hc
                    simp only [Option.some.injEq, Prod.mk.injEq] at h
                    obtain ⟨_, rfl⟩ := h
                    exact ⟨AInv.write st _ (Nat.le_of_ble_eq_true hc.1) hm, rfl⟩
                  · simp only [Option.some.injEq, Prod.mk.injEq] at h
                    obtain ⟨_, rfl⟩ := h
                    exact ⟨AInv.new st _ _, rfl⟩
                · obtain ⟨hc, h⟩ := bif_inv h
                  simp only [Bool.and_eq_true] at hc
                  have hf := Nat.le_of_ble_eq_true hc.2
                  rcases bif_or h with ⟨_, h⟩ | ⟨_, h⟩
                  · simp only [Option.some.injEq, Prod.mk.injEq] at h
                    obtain ⟨_, rfl⟩ := h
                    exact ⟨AInv.write st _ hf hm, rfl⟩
                  · obtain ⟨_, h⟩ := bif_inv h
                    simp only [Option.some.injEq, Prod.mk.injEq] at h
                    obtain ⟨_, rfl⟩ := h
                    exact ⟨(AInv.write st none hf hm).trans (AInv.new _ _ _), rfl⟩
              · cases h
            · cases h
          · cases h
        · cases h
      · cases h
    · cases h
  · cases h
theorem AInv.put {floor : Nat} (st : St) (cs : Option ABlk) {st' : St} (hm : st'.mem = mset st.mem st.next cs) (hn : st'.next = st.next + 1) (ho : st'.ob = true → st.ob = true) : AInv floor st st' where
  nxt := by rw [hn]; exact Nat.le_succ _
  bd h k hk := by
    rw [hn] at hk
    rw [hm, mget_mset_ne _ _ (by omega)]; exact h k (by omega)
  low hf k hk := by rw [hm]; exact mget_mset_ne _ _ (by omega)
  ob := ho
theorem aMakeSliceA_inv {cx : Ctx} {st st' : St} {t : TypeId} {x y v : AVal} (h : aMakeSliceA P cx st t x y = some (v, st')) : AInv cx.floor st st' ∧ st'.env = st.env := by
  unfold aMakeSliceA at h
  split at h
  · split at h
    · obtain ⟨_, h⟩ := bif_inv h
      simp only [Option.map_eq_some_iff, Prod.mk.injEq] at h
      obtain ⟨_, h1, _, rfl⟩ := h
      obtain ⟨o1, o2, o3, o4⟩ := owe_spec h1
      exact ⟨AInv.put st _ o2 (o3.trans rfl) fun x => (o4 x).2, o1⟩
    · cases h
  · cases h
theorem aAppendA_inv {cx : Ctx} {st st' : St} {ts : List TypeId} {xs : List AVal} {v : AVal} (h : aAppendA P cx st ts xs = some (v, st')) : AInv cx.floor st st' ∧ st'.env = st.env := by
  unfold aAppendA at h
  split at h
  · split at h
    · split at h
      · cases h
      · split at h
        · split at h
          · rename_i hm
            split at h
            · obtain ⟨hc, h⟩ := bif_inv h
              simp only [Bool.and_eq_true] at hc
              simp only [Option.map_eq_some_iff, Prod.mk.injEq] at h
              obtain ⟨_, h1, _, rfl⟩ := h
              obtain ⟨o1, o2, o3, o4⟩ := owe_spec h1
              exact ⟨(AInv.write st none (Nat.le_of_ble_eq_true hc.1.2) hm).trans (AInv.put (st.withMem _) _ o2 (o3.trans rfl) fun x => (o4 x).2), o1⟩
            · cases h
          · cases h
        · cases h
    · cases h
  · cases h
theorem kill_inv {floor : Nat} {st : St} {sz len : Nat} {x : AVal} {b : Option Nat} {get : Nat → List AVal} {o : Bool} (ht : toldRows st.mem sz x = some (b, len, get, o)) (hf : floorOk floor b = true) : AInv floor st (st.withMem (killO st.mem b)) := by
  cases b with
  | none => exact AInv.refl _ _
  | some b =>
    have hm : ∃ ab, mget st.mem b = some ab := by
      unfold toldRows at ht
      split at ht
      · simp at ht
      · split at ht
        · rename_i blk hm
          split at ht
          · obtain ⟨_, ht⟩ := bif_inv ht
            simp only [Option.some.injEq, Prod.mk.injEq] at ht
            obtain ⟨rfl, _⟩ := ht
            exact ⟨_, hm⟩
          · cases ht
        · cases ht
      · split at ht
        · rename_i blk hm
          split at ht
          · obtain ⟨_, ht⟩ := bif_inv ht
            simp only [Option.some.injEq, Prod.mk.injEq] at ht
            obtain ⟨rfl, _⟩ := ht
            exact ⟨_, hm⟩
          · cases ht
        · cases ht
      · cases ht
    obtain ⟨ab, hm⟩ := hm
    exact AInv.write st none (Nat.le_of_ble_eq_true hf) hm
theorem aAppendG_inv {cx : Ctx} {st st' : St} {ts : List TypeId} {xs : List AVal} {v : AVal} (h : aAppendG P cx st ts xs = some (v, st')) : AInv cx.floor st st' ∧ st'.env = st.env := by
  unfold aAppendG at h
  split at h
  · split at h
    · split at h
      · split at h
        · rename_i ht _
          obtain ⟨hc, h⟩ := bif_inv h
          simp only [Bool.and_eq_true] at hc
          simp only [Option.map_eq_some_iff, Prod.mk.injEq] at h
          obtain ⟨_, h1, _, rfl⟩ := h
          obtain ⟨o1, o2, o3, o4⟩ := owe_spec h1
          exact ⟨(kill_inv ht hc.2).trans (AInv.put (st.withMem _) _ o2 (o3.trans rfl) fun x => (o4 x).2), o1⟩
        · cases h
      · cases h
    · cases h
  · cases h
theorem aAppend2_inv {cx : Ctx} {st st' : St} {ts : List TypeId} {xs : List AVal} {v : AVal} (h : aAppend2 P cx st ts xs = some (v, st')) : AInv cx.floor st st' ∧ st'.env = st.env := by
  unfold aAppend2 at h
  rcases bif_or h with ⟨_, h⟩ | ⟨_, h⟩
  · exact aAppendG_inv h
  · split at h
    · exact aAppendA_inv h
    · exact aAppend_inv h
theorem aCopy_inv {floor : Nat} {st st' : St} {ts : List TypeId} {xs : List AVal} {v : AVal} (h : aCopy P floor st ts xs = some (v, st')) : AInv floor st st' ∧ st'.env = st.env := by
  unfold aCopy at h
  split at h
  · split at h
    · split at h
      · split at h
        · obtain ⟨_, h⟩ := bif_inv h
          split at h
          · simp only [Option.some.injEq, Prod.mk.injEq] at h
            obtain ⟨_, rfl⟩ := h
            exact ⟨AInv.refl _ _, rfl⟩
          · obtain ⟨_, h⟩ := bif_inv h
            simp only [Option.some.injEq, Prod.mk.injEq] at h
            obtain ⟨_, rfl⟩ := h
            exact ⟨AInv.refl _ _, rfl⟩
          · dsimp only at h
            split at h
            · rename_i blk hm
              obtain ⟨hc, h⟩ := bif_inv h
              simp only [Bool.and_eq_true] at hc
              simp only [Option.some.injEq, Prod.mk.injEq] at h
              obtain ⟨_, rfl⟩ := h
              exact ⟨AInv.write st _ (Nat.le_of_ble_eq_true hc.1) hm, rfl⟩
            · cases h
          · cases h
        · cases h
      · cases h
    · cases h
  · cases h
theorem aClear_inv {floor : Nat} {st st' : St} {ts : List TypeId} {xs : List AVal} {v : AVal} (h : aClear P floor st ts xs = some (v, st')) : AInv floor st st' ∧ st'.env = st.env := by
  unfold aClear at h
  split at h
  · split at h
    · split at h
      · split at h
        · simp only [Option.some.injEq, Prod.mk.injEq] at h
          obtain ⟨_, rfl⟩ := h
          exact ⟨AInv.refl _ _, rfl⟩
        · rcases bif_or h with ⟨_, h⟩ | ⟨_, h⟩
          · simp only [Option.some.injEq, Prod.mk.injEq] at h
            obtain ⟨_, rfl⟩ := h
            exact ⟨AInv.refl _ _, rfl⟩
          · obtain ⟨hc, h⟩ := bif_inv h
            simp only [Bool.and_eq_true] at hc
            split at h
            · rename_i blk hm
              obtain ⟨_, h⟩ := bif_inv h
              simp only [Option.some.injEq, Prod.mk.injEq] at h
              obtain ⟨_, rfl⟩ := h
              exact ⟨AInv.write st _ (Nat.le_of_ble_eq_true hc.2) hm, rfl⟩
            · cases h
        · cases h
      · cases h
    · cases h
  · cases h
theorem aCall_inv {S : Specs} {R : Runner} (hR : RInv R) {lift : Bool} {f : FuncId} {args : List AVal} {cx : Ctx} {st st' : St} {v : AVal} (h : aCall P S R lift f args cx st = some (v, st')) :
    (AInv cx.floor st st' ∧ (lift = true → ∀ b, b < st.next → mget st'.mem b = mget st.mem b)) ∧ st'.env = st.env := by
  unfold aCall at h
  split at h
  · rcases bif_or h with ⟨_, h⟩ | ⟨_, h⟩
    · split at h
      · obtain ⟨_, h⟩ := bif_inv h
        simp only [Option.map_eq_some_iff, Prod.mk.injEq] at h
        obtain ⟨st1, h1, _, rfl⟩ := h
        obtain ⟨e1, e2, e3, e4⟩ := owe_spec h1
        exact ⟨⟨AInv.same e2 e3 fun x => (e4 x).2, fun _ b _ => by rw [e2]⟩, e1⟩
      · cases h
    · split at h
      split at h
      · obtain ⟨_, h⟩ := bif_inv h
        simp only [Option.map_eq_some_iff, Prod.mk.injEq] at h
        obtain ⟨st1, h1, _, rfl⟩ := h
        obtain ⟨e1, e2, e3, e4⟩ := owe_spec h1
        exact ⟨⟨AInv.same e2 e3 fun x => (e4 x).2, fun _ b _ => by rw [e2]⟩, e1⟩
      · cases h
  · split at h
    · rename_i v0 b blk o _
      split at h
      · rename_i ab hm
        obtain ⟨hc, h⟩ := bif_inv h
        simp only [Bool.and_eq_true, Bool.not_eq_true'] at hc
        simp only [Option.map_eq_some_iff, Prod.mk.injEq] at h
        obtain ⟨st1, h1, _, rfl⟩ := h
        obtain ⟨e1, e2, e3, e4⟩ := owe_spec h1
        exact ⟨⟨(AInv.write st (some blk) (Nat.le_of_ble_eq_true hc.2) hm).trans (AInv.same e2 e3 fun x => (e4 x).2), fun hl => by rw [hl] at hc; cases hc.1⟩, e1⟩
      · cases h
    · cases h
  · split at h
    · split at h
      · split at h
        · rename_i st2 hr
          split at h
          · simp only [Option.some.injEq, Prod.mk.injEq] at h
            obtain ⟨_, rfl⟩ := h
            have q := hR _ _ _ _ hr
            refine ⟨?_, rfl⟩
            cases lift with
            | false => exact ⟨⟨q.nxt, q.bd, q.low, q.ob⟩, fun x => by cases x⟩
            | true =>
              refine ⟨⟨q.nxt, q.bd, fun hf b hb => q.low (Nat.le_refl _) b (Nat.lt_of_lt_of_le hb hf), q.ob⟩, fun _ b hb => q.low (Nat.le_refl _) b hb⟩
          · cases h
        · cases h
      · cases h
    · cases h
theorem aCopyA_inv {cx : Ctx} {st st' : St} {ts : List TypeId} {b sz off len : Nat} {x v : AVal} (h : aCopyA P cx st ts b sz off len x = some (v, st')) : AInv cx.floor st st' ∧ st'.env = st.env := by
  unfold aCopyA at h
  split at h
  · split at h
    · split at h
      · rename_i hm
        split at h
        · obtain ⟨hc, h⟩ := bif_inv h
          simp only [Bool.and_eq_true] at hc
          simp only [Option.map_eq_some_iff, Prod.mk.injEq] at h
          obtain ⟨_, h1, _, rfl⟩ := h
          obtain ⟨o1, o2, o3, o4⟩ := owe_spec h1
          exact ⟨(AInv.write st _ (Nat.le_of_ble_eq_true hc.1) hm).trans (AInv.same o2 o3 fun x => (o4 x).2), o1⟩
        · cases h
      · cases h
    · cases h
  · cases h
theorem aCopy2_inv {cx : Ctx} {st st' : St} {ts : List TypeId} {xs : List AVal} {v : AVal} (h : aCopy2 P cx st ts xs = some (v, st')) : AInv cx.floor st st' ∧ st'.env = st.env := by
  unfold aCopy2 at h
  split at h
  · exact aCopyA_inv h
  · exact aCopyA_inv h
  · exact aCopy_inv h
theorem aEffect_inv {S : Specs} {R : Runner} (hR : RInv R) {lift : Bool} {op : Op} {cx : Ctx} {st st' : St} {v : AVal} (h : aEffect P S R lift op cx st = some (v, st')) : AInv cx.floor st st' ∧ st'.env = st.env := by
  unfold aEffect at h
  split at h
  · split at h
    · rename_i hl
      obtain ⟨l1, l2, l3, l4⟩ := aLoadO_spec hl
      simp only [Option.map_eq_some_iff, Prod.mk.injEq] at h
      obtain ⟨_, h1, _, rfl⟩ := h
      obtain ⟨e1, e2, e3, e4⟩ := owe_spec h1
      exact ⟨AInv.same (e2.trans l2) (e3.trans l3) fun x => (l4 (e4 x).2).2, e1.trans l1⟩
    · cases h
  · simp only [Option.map_eq_some_iff, Prod.mk.injEq] at h
    obtain ⟨_, _, _, rfl⟩ := h
    exact ⟨AInv.new st _ _, rfl⟩
  · obtain ⟨_, h⟩ := bif_inv h
    simp only [Option.some.injEq, Prod.mk.injEq] at h
    obtain ⟨_, rfl⟩ := h
    exact ⟨AInv.new st _ _, rfl⟩
  · exact aBuildSlice_inv _ h
  · split at h
    · simp only [Option.map_eq_some_iff, Prod.mk.injEq] at h
      obtain ⟨_, h, _, rfl⟩ := h
      exact aStoreE_inv h
    · simp only [Option.map_eq_some_iff, Prod.mk.injEq] at h
      obtain ⟨_, h, _, rfl⟩ := h
      exact aStore_inv h
  · rcases bif_or h with ⟨_, h⟩ | ⟨_, h⟩
    · rcases bif_or h with ⟨_, h⟩ | ⟨_, h⟩
      · have q := aMakeSlice_inv (st := st.dropO) cx.floor h
        exact ⟨⟨q.1.nxt, q.1.bd, q.1.low, q.1.ob⟩, q.2⟩
      · have q := aMakeSliceA_inv (st := st.dropO) h
        exact ⟨⟨q.1.nxt, q.1.bd, q.1.low, q.1.ob⟩, q.2⟩
    · exact aMakeSlice_inv _ h
  · exact aAppend2_inv h
  · exact aCopy2_inv h
  · exact aClear_inv h
  · split at h
    · obtain ⟨⟨h1, _⟩, h2⟩ := aCall_inv hR h
      exact ⟨h1, h2⟩
    · obtain ⟨⟨h1, _⟩, h2⟩ := aCall_inv hR h
      exact ⟨h1, h2⟩
    · cases h
  · cases h
def Same (x : Nat) (st st' : St) : Prop := mget st'.mem x = mget st.mem x
theorem same_write {x b : Nat} (st : St) (o : Option ABlk) (hn : b ≠ x) : Same x st (st.withMem (mset st.mem b o)) := mget_mset_ne _ _ fun e => hn e.symm
theorem same_new {x : Nat} (st : St) (cs : List AVal) (ty : TypeId) (hx : x < st.next) : Same x st (aNew st cs ty) := mget_mset_ne _ _ (Nat.ne_of_lt hx)
theorem aStore_same {x : Nat} {floor : Nat} {st st' : St} {t : TypeId} {a v : AVal} (h : aStore P floor st t a v = some st') (hn : ∀ off, a ≠ .ptr x off) : Same x st st' := by
  unfold aStore at h
  split at h
  · rename_i b off _ _
    obtain ⟨_, h⟩ := bif_inv h
    split at h
    · obtain ⟨_, h⟩ := bif_inv h
      obtain rfl := Option.some.inj h
      exact same_write st _ fun e => hn off (by rw [e])
    · cases h
  · cases h
theorem aStoreE_same {x : Nat} {cx : Ctx} {st st' : St} {t : TypeId} {a v : AVal} (h : aStoreE P cx st t a v = some st') (hn : ∀ sz r fo, a ≠ .epa x sz r fo) : Same x st st' := by
  unfold aStoreE at h
  split at h
  · rename_i b sz r fo _ _
    obtain ⟨_, h⟩ := bif_inv h
    split at h
    · split at h
      · split at h
        · rename_i rw1 st1 hset
          obtain ⟨_, s2, _, _⟩ := setRow_spec hset
          obtain ⟨_, o2, _, _⟩ := owe_spec h
          unfold Same
          rw [o2, ← s2]
          exact same_write st1 _ fun e => hn sz r fo (by rw [e])
        · cases h
      · cases h
    · cases h
  · cases h
theorem aBuildSlice_same {x : Nat} {st st' : St} {t : TypeId} {len : Nat} {ps : List (Nat × AVal)} {v : AVal} {un : Bool} (hx : x < st.next) (h : aBuildSlice P un st t len ps = some (v, st')) : Same x st st' := by
  unfold aBuildSlice at h
  split at h
  · split at h
    · obtain ⟨_, h⟩ := bif_inv h
      split at h
      · simp only [Option.some.injEq, Prod.mk.injEq] at h
        obtain ⟨_, rfl⟩ := h
        exact same_new st _ _ hx
      · cases h
    · cases h
  · cases h
theorem aMakeSlice_same {x : Nat} {st st' : St} {t : TypeId} {l c v : AVal} (hx : x < st.next) (h : aMakeSlice P st t l c = some (v, st')) : Same x st st' := by
  unfold aMakeSlice at h
  split at h
  · split at h
    · obtain ⟨_, h⟩ := bif_inv h
      simp only [Option.some.injEq, Prod.mk.injEq] at h
      obtain ⟨_, rfl⟩ := h
      exact same_new st _ _ hx
    · cases h
  · cases h
theorem aAppend_same {x floor : Nat} {st st' : St} {ts : List TypeId} {xs : List AVal} {v : AVal} (hx : x < st.next) (h : aAppend P floor st ts xs = some (v, st')) (hn : ∀ off len cap r, xs ≠ .sl x off len cap :: r) : Same x st st' := by
  unfold aAppend at h
  split at h
  · split at h
    · split at h
      · split at h
        · obtain ⟨_, h⟩ := bif_inv h
          split at h
          · rcases bif_or h with ⟨_, h⟩ | ⟨_, h⟩
            · simp only [Option.some.injEq, Prod.mk.injEq] at h
              obtain ⟨_, rfl⟩ := h
              rfl
            · obtain ⟨_, h⟩ := bif_inv h
              simp only [Option.some.injEq, Prod.mk.injEq] at h
              obtain ⟨_, rfl⟩ := h
              exact same_new st _ _ hx
          · have hb := fun e => hn _ _ _ _ (congrArg (fun b => AVal.sl b _ _ _ :: _) e)
            split at h
            · rename_i blk hm
              split at h
              · obtain ⟨_, h⟩ := bif_inv h
                split at h
                · rcases bif_or h with ⟨_, h⟩ | ⟨_, h⟩
                  · obtain ⟨hc, h⟩ := bif_inv h
                    simp only [Option.some.injEq, Prod.mk.injEq] at h
                    obtain ⟨_, rfl⟩ := h
                    exact same_write st _ hb
                  · simp only [Option.some.injEq, Prod.mk.injEq] at h
                    obtain ⟨_, rfl⟩ := h
                    exact same_new st _ _ hx
                · obtain ⟨hc, h⟩ := bif_inv h
                  rcases bif_or h with ⟨_, h⟩ | ⟨_, h⟩
                  · simp only [Option.some.injEq, Prod.mk.injEq] at h
                    obtain ⟨_, rfl⟩ := h
                    exact same_write st _ hb
                  · obtain ⟨_, h⟩ := bif_inv h
                    simp only [Option.some.injEq, Prod.mk.injEq] at h
                    obtain ⟨_, rfl⟩ := h
                    exact (same_new (st.withMem (mset st.mem _ none)) _ _ hx).trans (same_write st none hb)
              · cases h
            · cases h
          · cases h
        · cases h
      · cases h
    · cases h
  · cases h
theorem aMakeSliceA_same {x : Nat} {cx : Ctx} {st st' : St} {t : TypeId} {l c v : AVal} (hx : x < st.next) (h : aMakeSliceA P cx st t l c = some (v, st')) : Same x st st' := by
  unfold aMakeSliceA at h
  split at h
  · split at h
    · obtain ⟨_, h⟩ := bif_inv h
      simp only [Option.map_eq_some_iff, Prod.mk.injEq] at h
      obtain ⟨_, h1, _, rfl⟩ := h
      obtain ⟨_, o2, _, _⟩ := owe_spec h1
      unfold Same
      rw [o2]
      exact mget_mset_ne _ _ (Nat.ne_of_lt hx)
    · cases h
  · cases h
theorem aAppendA_same {x : Nat} {cx : Ctx} {st st' : St} {ts : List TypeId} {xs : List AVal} {v : AVal} (hx : x < st.next) (h : aAppendA P cx st ts xs = some (v, st')) (hn : ∀ sz off len cap r, xs ≠ .sla x sz off len cap :: r) : Same x st st' := by
  unfold aAppendA at h
  split at h
  · have hb := fun e => hn _ _ _ _ _ (congrArg (fun b => AVal.sla b _ _ _ _ :: _) e)
    split at h
    · split at h
      · cases h
      · split at h
        · split at h
          · split at h
            · obtain ⟨hc, h⟩ := bif_inv h
              simp only [Option.map_eq_some_iff, Prod.mk.injEq] at h
              obtain ⟨_, h1, _, rfl⟩ := h
              obtain ⟨_, o2, _, _⟩ := owe_spec h1
              unfold Same
              rw [o2]
              show mget (mset (mset st.mem _ none) st.next _) x = _
              rw [mget_mset_ne _ _ (Nat.ne_of_lt hx)]
              exact mget_mset_ne _ _ fun e => hb e.symm
            · cases h
          · cases h
        · cases h
    · cases h
  · cases h
theorem toldRows_block {m : Mem} {sz len b : Nat} {x : AVal} {get : Nat → List AVal} {o : Bool} (ht : toldRows m sz x = some (some b, len, get, o)) : (∃ off len cap, x = .sl b off len cap) ∨ ∃ sz off len cap, x = .sla b sz off len cap := by
  unfold toldRows at ht
  split at ht
  · simp at ht
  · split at ht
    · split at ht
      · obtain ⟨_, ht⟩ := bif_inv ht
        simp only [Option.some.injEq, Prod.mk.injEq] at ht
        obtain ⟨rfl, _⟩ := ht
        exact .inl ⟨_, _, _, rfl⟩
      · cases ht
    · cases ht
  · split at ht
    · split at ht
      · obtain ⟨_, ht⟩ := bif_inv ht
        simp only [Option.some.injEq, Prod.mk.injEq] at ht
        obtain ⟨rfl, _⟩ := ht
        exact .inr ⟨_, _, _, _, rfl⟩
      · cases ht
    · cases ht
  · cases ht
theorem aAppendG_same {x : Nat} {cx : Ctx} {st st' : St} {ts : List TypeId} {xs : List AVal} {v : AVal} (hx : x < st.next) (h : aAppendG P cx st ts xs = some (v, st')) (hn : ∀ off len cap r, xs ≠ .sl x off len cap :: r) (hn2 : ∀ sz off len cap r, xs ≠ .sla x sz off len cap :: r) : Same x st st' := by
  unfold aAppendG at h
  split at h
  · split at h
    · split at h
      · split at h
        · rename_i b len get o1 n g o2 ht _
          obtain ⟨hc, h⟩ := bif_inv h
          simp only [Option.map_eq_some_iff, Prod.mk.injEq] at h
          obtain ⟨_, h1, _, rfl⟩ := h
          obtain ⟨_, o2, _, _⟩ := owe_spec h1
          unfold Same
          rw [o2]
          show mget (mset (killO st.mem b) st.next _) x = _
          rw [mget_mset_ne _ _ (Nat.ne_of_lt hx)]
          cases b with
          | none => rfl
          | some b =>
            refine mget_mset_ne _ _ fun e => ?_
            subst e
            rcases toldRows_block ht with ⟨_, _, _, rfl⟩ | ⟨_, _, _, _, rfl⟩
            · exact hn _ _ _ _ rfl
            · exact hn2 _ _ _ _ _ rfl
        · cases h
      · cases h
    · cases h
  · cases h
theorem aAppend2_same {x : Nat} {cx : Ctx} {st st' : St} {ts : List TypeId} {xs : List AVal} {v : AVal} (hx : x < st.next) (h : aAppend2 P cx st ts xs = some (v, st')) (hn : ∀ off len cap r, xs ≠ .sl x off len cap :: r) (hn2 : ∀ sz off len cap r, xs ≠ .sla x sz off len cap :: r) : Same x st st' := by
  unfold aAppend2 at h
  rcases bif_or h with ⟨_, h⟩ | ⟨_, h⟩
  · exact aAppendG_same hx h hn hn2
  · split at h
    · exact aAppendA_same hx h hn2
    · exact aAppend_same hx h hn
theorem aCopy_same {x floor : Nat} {st st' : St} {ts : List TypeId} {xs : List AVal} {v : AVal} (h : aCopy P floor st ts xs = some (v, st')) (hn : ∀ off len cap r, xs ≠ .sl x off len cap :: r) : Same x st st' := by
  unfold aCopy at h
  split at h
  · split at h
    · split at h
      · split at h
        · obtain ⟨_, h⟩ := bif_inv h
          split at h
          · simp only [Option.some.injEq, Prod.mk.injEq] at h
            obtain ⟨_, rfl⟩ := h
            rfl
          · obtain ⟨_, h⟩ := bif_inv h
            simp only [Option.some.injEq, Prod.mk.injEq] at h
            obtain ⟨_, rfl⟩ := h
            rfl
          · have hb := fun e => hn _ _ _ _ (congrArg (fun b => AVal.sl b _ _ _ :: _) e)
            dsimp only at h
            split at h
            · obtain ⟨hc, h⟩ := bif_inv h
              simp only [Option.some.injEq, Prod.mk.injEq] at h
              obtain ⟨_, rfl⟩ := h
              exact same_write st _ hb
            · cases h
          · cases h
        · cases h
      · cases h
    · cases h
  · cases h
theorem aCopyA_same {x : Nat} {cx : Ctx} {st st' : St} {ts : List TypeId} {b sz off len : Nat} {y v : AVal} (h : aCopyA P cx st ts b sz off len y = some (v, st')) (hn : b ≠ x) : Same x st st' := by
  unfold aCopyA at h
  split at h
  · split at h
    · split at h
      · split at h
        · obtain ⟨_, h⟩ := bif_inv h
          simp only [Option.map_eq_some_iff, Prod.mk.injEq] at h
          obtain ⟨_, h1, _, rfl⟩ := h
          obtain ⟨_, o2, _, _⟩ := owe_spec h1
          show mget _ x = _
          rw [o2]
          exact same_write st _ hn
        · cases h
      · cases h
    · cases h
  · cases h
theorem aCopy2_same {x : Nat} {cx : Ctx} {st st' : St} {ts : List TypeId} {xs : List AVal} {v : AVal} (h : aCopy2 P cx st ts xs = some (v, st')) (hn : ∀ off len cap r, xs ≠ .sl x off len cap :: r) (hn2 : ∀ sz off len cap r, xs ≠ .sla x sz off len cap :: r) (hn3 : ∀ sz off len r, xs ≠ .slv x sz off len :: r) : Same x st st' := by
  unfold aCopy2 at h
  split at h
  · exact aCopyA_same h fun e => hn2 _ _ _ _ _ (by rw [e])
  · exact aCopyA_same h fun e => hn3 _ _ _ _ (by rw [e])
  · exact aCopy_same h hn
theorem aClear_same {x floor : Nat} {st st' : St} {ts : List TypeId} {xs : List AVal} {v : AVal} (h : aClear P floor st ts xs = some (v, st')) (hn : ∀ off len cap r, xs ≠ .sl x off len cap :: r) : Same x st st' := by
  unfold aClear at h
  split at h
  · split at h
    · split at h
      · split at h
        · simp only [Option.some.injEq, Prod.mk.injEq] at h
          obtain ⟨_, rfl⟩ := h
          rfl
        · have hb := fun e => hn _ _ _ _ (congrArg (fun b => AVal.sl b _ _ _ :: _) e)
          rcases bif_or h with ⟨_, h⟩ | ⟨_, h⟩
          · simp only [Option.some.injEq, Prod.mk.injEq] at h
            obtain ⟨_, rfl⟩ := h
            rfl
          · obtain ⟨hc, h⟩ := bif_inv h
            split at h
            · obtain ⟨_, h⟩ := bif_inv h
              simp only [Option.some.injEq, Prod.mk.injEq] at h
              obtain ⟨_, rfl⟩ := h
              exact same_write st _ hb
            · cases h
        · cases h
      · cases h
    · cases h
  · cases h
theorem aEffect_same {S : Specs} {R : Runner} {lift : Bool} {op : Op} {cx : Ctx} {st st' : St} {v : AVal} {x : Nat} (hk : kindOf op = .chain) (hx : x < st.next) (hn : wrOf op st.eval ≠ some x) (h : aEffect P S R lift op cx st = some (v, st')) : Same x st st' := by
  cases op with
  | store t a y =>
    simp only [aEffect] at h
    split at h
    · rename_i b sz r fo hb
      simp only [Option.map_eq_some_iff, Prod.mk.injEq] at h
      obtain ⟨_, h, _, rfl⟩ := h
      exact aStoreE_same h fun sz r fo e => hn (by simp only [wrOf, hb]; cases e; rfl)
    · simp only [Option.map_eq_some_iff, Prod.mk.injEq] at h
      obtain ⟨_, h, _, rfl⟩ := h
      exact aStore_same h fun off e => hn (by simp only [wrOf, e])
  | box t y =>
    unfold aEffect at h
    simp only at h
    obtain ⟨_, h⟩ := bif_inv h
    simp only [Option.some.injEq, Prod.mk.injEq] at h
    obtain ⟨_, rfl⟩ := h
    exact same_new st _ _ hx
  | buildSlice t n ps => exact aBuildSlice_same hx h
  | makeSlice t l c =>
    unfold aEffect at h
    simp only at h
    rcases bif_or h with ⟨_, h⟩ | ⟨_, h⟩
    · rcases bif_or h with ⟨_, h⟩ | ⟨_, h⟩
      · exact (aMakeSlice_same (st := st.dropO) hx h)
      · exact (aMakeSliceA_same (st := st.dropO) hx h)
    · exact aMakeSlice_same hx h
  | call c =>
    obtain ⟨callee, args, argTypes⟩ := c
    cases callee with
    | builtin b =>
      cases b <;> first
        | (simp [kindOf] at hk; done)
        | exact aAppend2_same hx h (fun off len cap r e => hn (by simp only [wrOf, e])) (fun sz off len cap r e => hn (by simp only [wrOf, e]))
        | exact aCopy2_same h (fun off len cap r e => hn (by simp only [wrOf, e])) (fun sz off len cap r e => hn (by simp only [wrOf, e])) (fun sz off len r e => hn (by simp only [wrOf, e]))
        | exact aClear_same h fun off len cap r e => hn (by simp only [wrOf, e])
    | value f => simp [kindOf] at hk
    | invoke r m => simp [kindOf] at hk
  | _ => simp [kindOf] at hk
theorem pf_sound : ∀ (d : Nat) (a : AVal) (u : Value), pf d a = true → VRel ρ a u → VRel ρ.bare a u
  | 0, _, _, h, _ => by simp [pf] at h
  | d + 1, a, u, h, hr => by
    cases hr with
    | undef => simp [pf] at h
    | bool => exact .bool _
    | int => exact .int _ _
    | str => exact .str _
    | agg cs vs hl hh =>
      simp only [pf, List.all_eq_true] at h
      exact .agg cs vs hl fun i h1 h2 => pf_sound d _ _ (h _ (List.getElem_mem h1)) (hh i h1 h2)
    | tup cs vs hl hh =>
      simp only [pf, List.all_eq_true] at h
      exact .tup cs vs hl fun i h1 h2 => pf_sound d _ _ (h _ (List.getElem_mem h1)) (hh i h1 h2)
    | ptr => simp [pf] at h
    | nilp => exact .nilp
    | sl => simp [pf] at h
    | sla => simp [pf] at h
    | slan => simp [pf] at h
    | slv => simp [pf] at h
    | slve => simp [pf] at h
    | slvn => simp [pf] at h
    | epa => simp [pf] at h
    | nils => exact .nils
    | fn => simp [pf] at h
    | nilf => exact .nilf
    | fnb => simp [pf] at h
    | yld => simp [pf] at h
    | ifc => simp [pf] at h
    | nili => exact .nili
    | dat len get blk base sz cap val hcap hsz hv hh => exact .dat len get blk base sz cap val hcap hsz hv hh
    | datn get => exact .datn get
    | datz get a c => exact .datz get a c
    | dptr cs blk base val hv hh => exact .dptr cs blk base val hv hh
def ValOk (P : Program) (f : FuncId) (F : List AVal → Option (AVal × Bool)) : Prop :=
  ∀ args v, F args = some (v, true) → ∀ (H : Old) (vals : Array Value) (w : World), All2 (VRel (rhoOf H)) args vals.toList → (∀ k o, H k = some o → w.heap[k]? = some o) →
    Calls P f vals w fun e w' => ∃ H' u, (∀ k o, H k = some o → H' k = some o) ∧ (∀ k o, H' k = some o → w'.heap[k]? = some o) ∧ (∀ k, k < w.heap.size → H' k = H k) ∧ e = .returned u ∧ VRel (rhoOf H') v u ∧ RowKit.Below w.heap.size w w'
def EffOk (P : Program) (f : FuncId) (F : List AVal → Mem → Option (AVal × Nat × ABlk × Bool)) : Prop :=
  ∀ args mem v b blk, F args mem = some (v, b, blk, true) → (mget mem b).isSome = true → ∀ (ρ : Rho) (next floor : Nat) (vals : Array Value) (w : World), floor ≤ b → All2 (VRel ρ) args vals.toList → Rel ρ mem next w →
    Calls P f vals w fun e w' => ∃ u, e = .returned u ∧ VRel ρ v u ∧ Rel ρ (mset mem b (some blk)) next w' ∧ Ev ρ ρ floor mem next (mset mem b (some blk)) next w w'
def SpecOk (P : Program) (f : FuncId) : Spec → Prop
  | .val F => ValOk P f F
  | .eff F => EffOk P f F
def SpecsOk (P : Program) (S : Specs) : Prop :=
  ∀ f F, S f = some F → (∃ fn, P.funcs[f]? = some fn ∧ fn.body.isSome = true) ∧ SpecOk P f F
def Named (P : Program) : Prop := ∀ (f : FuncId) (fn : Func), P.funcs[f]? = some fn → fn.body.isSome = true → (fn.name == "runtime.NumGoroutine") = false
def ROk (P : Program) (R : Runner) : Prop :=
  ∀ cx todo st st', cx.floor ≤ st.next → R cx todo st = some st' → st'.ob = true → ∀ (ρ : Rho) (a : Act) (w : World) (b : Frame) (cs : List Frame), a.defers = [] → EnvRel ρ st.env cx.n a.tmps → Rel ρ st.mem st.next w →
    ∃ ρ' a' todo' w', Steps P (lone (b.at a todo) cs w) (lone { b.at a' todo' with mode := .returning } cs w') ∧ a'.defers = [] ∧ EnvRel ρ' st'.env cx.n a'.tmps ∧ Rel ρ' st'.mem st'.next w' ∧
      Ev ρ ρ' cx.floor st.mem st.next st'.mem st'.next w w'
theorem envOf_get : ∀ (args : List AVal) (i : Nat) (t : T AVal) (k : Nat), T.get .undef (envOf args i t) k = if i ≤ k ∧ k < i + args.length then args.getD (k - i) .undef else T.get .undef t k
  | [], i, t, k => by
    rw [if_neg (by intro h; simp at h; omega)]; rfl
  | a :: r, i, t, k => by
    simp only [envOf]
    rw [envOf_get r (i + 1) _ k, T.get_set]
    by_cases h1 : k = i
    · subst h1
      rw [if_neg (by omega), if_pos rfl, if_pos (by simp)]
      simp
    · by_cases h2 : i + 1 ≤ k ∧ k < i + 1 + r.length
      · rw [if_pos h2, if_pos (by simp; omega)]
        have : k - i = (k - (i + 1)) + 1 := by omega
        rw [this]; simp
      · rw [if_neg h2, if_neg h1, if_neg (by simp; omega)]
def resRun (tmps : Array Value) : ResultVar → Sem Value
  | .tmp t => pure (tmps.getD t undef)
  | .cell a t => do loadVar t (← asAddr (tmps.getD a undef))
theorem results_eq (fn : Func) (tmps : Array Value) : results fn tmps = (do
    let vs ← fn.results.mapM (resRun tmps)
    pure (if h : vs.size = 1 then vs[0] else .tuple vs)) := by
  unfold results
  have : (fun r : ResultVar => (match r with | .tmp t => pure (tmps.getD t undef) | .cell a t => do loadVar t (← asAddr (tmps.getD a undef)) : Sem Value)) = resRun tmps := by
    funext r
    cases r <;> rfl
  rw [← this]
  rfl
theorem aResult_sound {st : St} {w : World} {tmps : Array Value} {n : Nat} (henv : EnvRel ρ st.env n tmps) (hrel : Rel ρ st.mem st.next w) {r : ResultVar} {v : AVal} (h : aResult P st r = some v) :
    ∃ u, VRel ρ v u ∧ (resRun tmps r).run P w = .ok u w := by
  have get : ∀ t, VRel ρ (st.tmp t) (tmps.getD t undef) := fun t => henv.get t
  cases r with
  | tmp t =>
    simp only [aResult, Option.some.injEq] at h
    subst h
    exact ⟨_, get t, rfl⟩
  | cell a t =>
    simp only [aResult] at h
    obtain ⟨z, hz, hr⟩ := aLoad_sound hrel h (get a)
    refine ⟨z, hz, ?_⟩
    have ha := get a
    unfold resRun
    simp only
    generalize tmps.getD a undef = u at ha hr ⊢
    unfold aLoad at h
    split at h
    · rename_i e
      rw [e] at ha
      cases ha
      simpa [Instr.loadAt, Instr.sureAddr, asAddr] using hr
    · rename_i e
      rw [e] at ha
      cases ha
      simpa [Instr.loadAt, Instr.sureAddr, asAddr] using hr
    · cases h
theorem aResults_sound {st : St} {w : World} {tmps : Array Value} {n : Nat} (henv : EnvRel ρ st.env n tmps) (hrel : Rel ρ st.mem st.next w) : ∀ {rs : List ResultVar} {vs : List AVal}, aResults P st rs = some vs →
    ∃ us, All2 (VRel ρ) vs us ∧ (rs.mapM (resRun tmps)).run P w = .ok us w
  | [], vs, h => by simp only [aResults, Option.some.injEq] at h; subst h; exact ⟨[], .nil, by simp⟩
  | r :: rs, vs, h => by
    unfold aResults at h
    split at h
    · rename_i v vs' h1 h2
      obtain rfl := Option.some.inj h
      obtain ⟨u, hu, hr⟩ := aResult_sound henv hrel h1
      obtain ⟨us, hus, hrs⟩ := aResults_sound henv hrel h2
      refine ⟨u :: us, .cons hu hus, ?_⟩
      rw [List.mapM_cons, Sem.run_bind, hr]
      simp only [Result.andThen_ok, Sem.run_bind, hrs, Sem.run_pure]
    · cases h
theorem results_sound {fn : Func} {st : St} {w : World} {tmps : Array Value} {n : Nat} (henv : EnvRel ρ st.env n tmps) (hrel : Rel ρ st.mem st.next w) {vs : List AVal} (h : aResults P st fn.results.toList = some vs) :
    ∃ u, VRel ρ (packed vs) u ∧ (results fn tmps).run P w = .ok u w := by
  obtain ⟨us, hus, hr⟩ := aResults_sound henv hrel h
  refine ⟨if h : us.toArray.size = 1 then us.toArray[0] else .tuple us.toArray, ?_, ?_⟩
  · cases hus with
    | nil => exact .tup [] _ rfl fun i h1 _ => by simp at h1
    | cons h1 hs => cases hs with
      | nil => simpa [packed] using h1
      | cons h2 hs =>
        have hall := All2.cons h1 (All2.cons h2 hs)
        have hl := hall.length
        simp only [packed]
        rw [dif_neg (by simp)]
        exact .tup _ _ (by simpa using hl) fun i h1 h2 => by simpa using hall.get i h1 (by simpa using h2)
  · rw [results_eq, Sem.run_bind, Array.mapM_eq_mapM_toList, Sem.run_map, hr]
    rfl
theorem env_start {args : List AVal} {vals : Array Value} (h : All2 (VRel ρ) args vals.toList) (ntmps : Nat) :
    EnvRel ρ (envOf args 0 .leaf) (Nat.max ntmps args.length) (vals ++ Array.replicate (ntmps - vals.size) undef) := by
  have hl : args.length = vals.size := by simpa using h.length
  have hmax : Nat.max ntmps args.length = vals.size + (ntmps - vals.size) := by
    have : Nat.max ntmps args.length = max ntmps args.length := rfl
    rw [this]; omega
  refine ⟨by rw [hmax]; simp, fun i => ?_, fun i hi => ?_⟩
  · rw [envOf_get]
    by_cases hi : i < args.length
    · rw [if_pos (by omega)]
      have h2 : i < vals.toList.length := by rw [← h.length]; exact hi
      have := h.get i hi h2
      have e1 : args.getD (i - 0) .undef = args[i] := by simp [hi]
      have e2 : (vals ++ Array.replicate (ntmps - vals.size) undef).getD i undef = vals.toList[i] := by
        have h3 : i < vals.size := by simpa using h2
        simp [Array.getElem?_append, h3]
      rw [e1, e2]; exact this
    · rw [if_neg (by omega)]
      exact .undef _
  · have hle : args.length ≤ Nat.max ntmps args.length := Nat.le_max_right _ _
    rw [envOf_get, if_neg (by omega)]; rfl
theorem fnCall_run {f : FuncId} {fn : Func} (hN : Named P) (hf : P.funcs[f]? = some fn) (hb : fn.body.isSome = true) (args : Array Value) (w : World) : (callFunc f args).run P w = .ok (.enter f args) w := by
  have h1 : ¬ fn.name = "runtime.NumGoroutine" := by simpa using hN f fn hf hb
  have h2 : ¬ fn.body = none := by intro e; rw [e] at hb; cases hb
  simp [callFunc, hf, h1, h2]
theorem viewV_sound {mem : Mem} {next : Nat} {w : World} (h : Rel ρ mem next w) {a a' : AVal} {o : Bool} (hv : viewV mem a = (a', o)) (ho : o = true) {u : Value} (hr : VRel ρ a u) (hp : pf 3 a' = true) : VRel (rhoOf fun k => w.heap[k]?) a' u := by
  subst ho
  have hle : ρ.bare.le (rhoOf fun k => w.heap[k]?) := ⟨fun _ _ e => (by cases e), fun k o e => h.old k o e, fun _ _ e => (by cases e)⟩
  unfold viewV at hv
  split at hv
  · rename_i b sz off len cap
    split at hv
    · rename_i blk hm
      split at hv
      · rename_i A hA
        simp only [Prod.mk.injEq, Bool.and_eq_true, decide_eq_true_eq] at hv
        obtain ⟨rfl, h1, h2, h3⟩ := hv
        obtain rfl := Nat.eq_of_beq_eq_true h1
        have h3 := @of_decide_eq_true _ (Classical.propDecidable _) h3
        cases hr with
        | slan => exact .datn _
        | sla _ _ _ _ _ l c hρ hcap hlen =>
          obtain ⟨har1, har2, har3⟩ := (h.blk b l blk hρ hm).arr A hA
          obtain ⟨cur, el, hh, _⟩ := (h.blk b l blk hρ hm).cells
          refine .dat len _ l.blk (l.base + off * A.sz) A.sz c (fun i j => (w.cell? ⟨l.blk, l.base + (off + i) * A.sz + j, none⟩).getD undef) hlen (fun i hi => har3 _ (by omega)) (fun i j hi hj => ?_) (fun i j hi hj => ?_)
          · obtain ⟨v, e1, e2⟩ := (h.rowAt hρ hm hA (r := off + i) (by omega)) j hj
            simp only [e1, Option.getD_some]
            exact (pf_sound 6 _ _ (List.all_eq_true.1 (h3 (off + i)) _ (List.getElem_mem hj)) e2).mono hle
          · obtain ⟨v, e1, e2⟩ := (h.rowAt hρ hm hA (r := off + i) (by omega)) j (by rw [har3 _ (by omega)]; exact hj)
            simp only [e1, Option.getD_some]
            refine ⟨cur, el, (0, 0), hh, ?_⟩
            simp only [World.cell?, hh] at e1
            rw [← e1]
            congr 1
            rw [Nat.add_mul]; omega
      · simp only [Prod.mk.injEq] at hv
        obtain ⟨rfl, _⟩ := hv
        simp [pf] at hp
    · simp only [Prod.mk.injEq] at hv
      obtain ⟨rfl, _⟩ := hv
      simp [pf] at hp
  · simp only [Prod.mk.injEq] at hv
    obtain ⟨rfl, _⟩ := hv
    exact (pf_sound 3 _ _ hp hr).mono hle
theorem viewL_sound {mem : Mem} {next : Nat} {w : World} (h : Rel ρ mem next w) {az : List AVal} {us : List Value} (hr : All2 (VRel ρ) az us) : ∀ {az' : List AVal} {o : Bool}, viewL mem az = (az', o) → o = true → az'.all (pf 3) = true → All2 (VRel (rhoOf fun k => w.heap[k]?)) az' us := by
  induction hr with
  | nil =>
    intro az' o hv _ _
    simp only [viewL, Prod.mk.injEq] at hv
    obtain ⟨rfl, _⟩ := hv
    exact .nil
  | @cons a b l m h1 _ ih =>
    intro az' o hv ho hp
    unfold viewL at hv
    split at hv
    rename_i a1 o1 as1 q1 e1 e2
    simp only [Prod.mk.injEq] at hv
    obtain ⟨rfl, rfl⟩ := hv
    simp only [Bool.and_eq_true] at ho
    simp only [List.all_cons, Bool.and_eq_true] at hp
    exact .cons (viewV_sound h e1 ho.1 h1 hp.1) (ih e2 ho.2 hp.2)
theorem scal_sound {σ : Rho} {v : AVal} {u : Value} (hs : scal v = true) (h : VRel σ v u) : VRel ρ v u := by
  cases h with
  | bool => exact .bool _
  | int => exact .int _ _
  | str => exact .str _
  | tup cs vs hl hh =>
    simp only [scal, List.all_eq_true] at hs
    refine .tup cs vs hl fun i h1 h2 => ?_
    have k1 := hs _ (List.getElem_mem h1)
    have k2 := hh i h1 h2
    generalize cs[i] = a at k1 k2
    generalize vs[i] = b at k2
    cases k2 with
    | bool => exact .bool _
    | int => exact .int _ _
    | str => exact .str _
    | _ => simp at k1
  | _ => simp [scal] at hs
theorem aCall_sound {S : Specs} {R : Runner} (hS : SpecsOk P S) (hR : ROk P R) {lift : Bool} {f : FuncId} {args : List AVal} {cx : Ctx} {st st' : St} {v : AVal} (hcx : cx.floor ≤ st.next) (h : aCall P S R lift f args cx st = some (v, st')) (hob : st'.ob = true)
    {vals : Array Value} (hargs : All2 (VRel ρ) args vals.toList) {w : World} (hrel : Rel ρ st.mem st.next w) :
    (∃ fn, P.funcs[f]? = some fn ∧ fn.body.isSome = true) ∧ Calls P f vals w fun e w' => ∃ ρ' u, e = .returned u ∧ Post ρ cx.floor st st' v w ρ' u w' := by
  unfold aCall at h
  split at h
  · rename_i F hF
    rcases bif_or h with ⟨hca, h⟩ | ⟨_, h⟩
    · split at h
      · rename_i v' b hFa
        obtain ⟨hc2, h⟩ := bif_inv h
        have hc1 := List.all_eq_true.1 hca
        simp only [Option.map_eq_some_iff, Prod.mk.injEq] at h
        obtain ⟨st1, h1, rfl, rfl⟩ := h
        obtain ⟨_, e2, e3, e4⟩ := owe_spec h1
        obtain ⟨rfl, _⟩ := e4 hob
        obtain ⟨hfn, hcall⟩ := hS f _ hF
        refine ⟨hfn, ?_⟩
        have hargs0 : All2 (VRel ρ.bare) args vals.toList := All2.of hargs.length fun i g1 g2 => pf_sound 3 _ _ (hc1 _ (List.getElem_mem g1)) (hargs.get i g1 g2)
        refine (hcall args v' hFa ρ.fz vals w hargs0 hrel.old).mono fun e w' ⟨H', u, hle, hold, hsame, he, hv, hb⟩ => ⟨⟨ρ.f, H', ρ.lp⟩, u, he, VRel.mono (ρ := rhoOf H') (ρ' := ⟨ρ.f, H', ρ.lp⟩) ⟨fun _ _ e => (by cases e), fun _ _ e => e, fun _ _ e => (by cases e)⟩ hv, ?_, ?_⟩
        · rw [e2, e3]
          have hle' : ρ.le ⟨ρ.f, H', ρ.lp⟩ := ⟨fun _ _ e => e, hle, fun _ _ e => e⟩
          exact ⟨hrel.dom, hrel.inj, fun b l ab q1 q2 => (hrel.blk b l ab q1 q2).world hle' (hb.block _ (hrel.real b l q1)), hold, fun b l q hs => (hsame _ (hrel.real b l q)).trans (hrel.sep b l q hs), fun b l q => Nat.lt_of_lt_of_le (hrel.real b l q) hb.size, hrel.bd, hrel.ldom⟩
        · rw [e2, e3]
          exact ⟨⟨fun _ _ e => e, hle, fun _ _ e => e⟩, fun _ _ => rfl, Nat.le_refl _, fun _ _ _ _ _ h => h, fun k o hk _ => by rw [hb.block k (Array.getElem?_eq_some_iff.1 hk).1]; exact hk,
            fun b l hb' hl => by have := hrel.dom b l hl; omega, hb.size, hb.os, hb.tape, hb.output, hsame⟩
      · cases h
    · split at h
      rename_i args' o hview
      split at h
      · rename_i v' b hFa
        obtain ⟨hc, h⟩ := bif_inv h
        simp only [Bool.and_eq_true] at hc
        simp only [Option.map_eq_some_iff, Prod.mk.injEq] at h
        obtain ⟨st1, h1, rfl, rfl⟩ := h
        obtain ⟨_, e2, e3, e4⟩ := owe_spec h1
        obtain ⟨hob1, _⟩ := e4 hob
        simp only [Bool.and_eq_true] at hob1
        obtain ⟨ho, rfl⟩ := hob1
        obtain ⟨hfn, hcall⟩ := hS f _ hF
        refine ⟨hfn, ?_⟩
        have hargs0 := viewL_sound hrel hargs hview ho hc.1
        refine (hcall args' v' hFa (fun k => w.heap[k]?) vals w hargs0 fun _ _ e => e).mono fun e w' ⟨H', u, hle, hold, hsame, he, hv, hb⟩ => ⟨ρ, u, he, scal_sound hc.2 hv, ?_, ?_⟩
        · rw [e2, e3]
          exact ⟨hrel.dom, hrel.inj, fun b l ab q1 q2 => (hrel.blk b l ab q1 q2).world (Rho.le_refl _) (hb.block _ (hrel.real b l q1)), fun k o q => by rw [hb.block k (Array.getElem?_eq_some_iff.1 (hrel.old k o q)).1]; exact hrel.old k o q, hrel.sep, fun b l q => Nat.lt_of_lt_of_le (hrel.real b l q) hb.size, hrel.bd, hrel.ldom⟩
        · rw [e2, e3]
          exact ⟨Rho.le_refl _, fun _ _ => rfl, Nat.le_refl _, fun _ _ _ _ _ h => h, fun k o hk _ => by rw [hb.block k (Array.getElem?_eq_some_iff.1 hk).1]; exact hk,
            fun b l hb' hl => by have := hrel.dom b l hl; omega, hb.size, hb.os, hb.tape, hb.output, fun _ _ => rfl⟩
      · cases h
  · rename_i F hF
    split at h
    · rename_i v0 b blk o hFa
      split at h
      · rename_i ab hm
        obtain ⟨hc, h⟩ := bif_inv h
        simp only [Bool.and_eq_true] at hc
        simp only [Option.map_eq_some_iff, Prod.mk.injEq] at h
        obtain ⟨st1, h1, rfl, rfl⟩ := h
        obtain ⟨_, e2, e3, e4⟩ := owe_spec h1
        obtain ⟨rfl, _⟩ := e4 hob
        obtain ⟨hfn, hcall⟩ := hS f _ hF
        refine ⟨hfn, ?_⟩
        refine (hcall args st.mem v0 b blk hFa (by rw [hm]; rfl) ρ st.next cx.floor vals w (Nat.le_of_ble_eq_true hc.2) hargs hrel).mono fun e w' ⟨u, he, hv, hr, hev⟩ => ⟨ρ, u, he, hv, ?_, ?_⟩
        · rw [e2, e3]; exact hr
        · rw [e2, e3]; exact hev
      · cases h
    · cases h
  · split at h
    · rename_i fn hf
      split at h
      · rename_i body hb
        split at h
        · rename_i st2 hr
          split at h
          · rename_i vs hvs
            simp only [Option.some.injEq, Prod.mk.injEq] at h
            obtain ⟨rfl, rfl⟩ := h
            refine ⟨⟨fn, hf, by rw [hb]; rfl⟩, ?_⟩
            intro cs
            let b : Frame := { (default : Frame) with fn := f, kind := .normal }
            have henter : Frame.enter P f vals .normal = b.at { tmps := vals ++ Array.replicate (fn.ntmps - vals.size) undef, defers := [] } [.code body] := by
              simp [Frame.enter, Frame.at, hf, hb, b]
            obtain ⟨ρ', a', todo', w', hsteps, hd, henv, hrel', hev⟩ := hR _ _ _ _ (by
              cases lift with
              | false => exact hcx
              | true => exact Nat.le_refl _) hr hob ρ { tmps := vals ++ Array.replicate (fn.ntmps - vals.size) undef, defers := [] } w b cs rfl (env_start hargs fn.ntmps) hrel
            obtain ⟨u, hu, hres⟩ := results_sound henv hrel' hvs
            rw [← henter] at hsteps
            refine ⟨.returned u, w', _, ⟨ρ', u, rfl, hu, hrel', ?_⟩, hsteps, rfl, rfl, hd, rfl, fn, hf, hres⟩
            refine hev.lower ?_
            cases lift with
            | false => exact Nat.le_refl _
            | true => exact hcx
          · cases h
        · cases h
      · cases h
    · cases h
theorem aEffect_sound {S : Specs} {R : Runner} (hN : Named P) (hS : SpecsOk P S) (hR : ROk P R) {lift : Bool} {o : Oper} {cx : Ctx} {st st' : St} {v : AVal} (hcx : cx.floor ≤ st.next)
    (h : aEffect P S R lift o.op cx st = some (v, st')) (hob : st'.ob = true) {ev : Operand → AVal} (hev : ∀ x, x ∈ o.op.operands → ev x = st.eval x) {a : Act} (hr : OpsRel ρ ev a.eval o.op) {w : World} (hrel : Rel ρ st.mem st.next w) :
    Does P o a w (Post ρ cx.floor st st' v w) := by
  obtain ⟨dst, op, type, pos, after, guard⟩ := o
  simp only at h hr hev
  replace hr : OpsRel ρ st.eval a.eval op := fun x hx => by rw [← hev x hx]; exact hr x hx
  clear hev
  unfold aEffect at h
  split at h
  · rename_i t x
    split at h
    · rename_i v' b st0 hv
      obtain ⟨l1, l2, l3, l4⟩ := aLoadO_spec hv
      simp only [Option.map_eq_some_iff, Prod.mk.injEq] at h
      obtain ⟨st1, h1, rfl, rfl⟩ := h
      obtain ⟨e1, e2, e3, e4⟩ := owe_spec h1
      obtain ⟨rfl, hob0⟩ := e4 hob
      obtain ⟨z, hz, hrun⟩ := aLoadP_sound hrel (l4 hob0).1 (hr x (by simp [Op.operands]))
      exact .inl ⟨ρ, z, w, by simp [execOp, hrun], hz, by rw [e2, e3, l2, l3]; exact hrel, by rw [e2, e3, l2, l3]; exact Ev.refl _ _ _ _ _ hrel.dom⟩
    · cases h
  · rename_i t
    simp only [Option.map_eq_some_iff, Prod.mk.injEq] at h
    obtain ⟨z, hz, rfl, rfl⟩ := h
    obtain ⟨_, zv, _, _, hzr, hzv⟩ := zeroOf_sound (ρ := ρ) hz
    refine .inl ⟨_, .pointer (some ⟨w.heap.size, 0, none⟩), _, ?_, post_new hrel cx.floor z t zv.cells t (by rw [hzr.1]; exact Nat.le_refl _) hzr.2 _ _ fun ρ' hρ' => .ptr _ 0 _ hρ'⟩
    simp [execOp, Instr.alloc, hzv, newVar, newRow]
  · rename_i t x
    obtain ⟨hbx, h⟩ := bif_inv h
    simp only [Option.some.injEq, Prod.mk.injEq] at h
    obtain ⟨rfl, rfl⟩ := h
    have hc := (hr x (by simp [Op.operands])).cells hbx
    refine .inl ⟨_, .pointer (some ⟨w.heap.size, 0, none⟩), _, ?_, post_new hrel cx.floor _ t (a.eval x).cells t (by rw [hc.1]; exact Nat.le_refl _) hc.2 _ _ fun ρ' hρ' => .ptr _ 0 _ hρ'⟩
    simp [execOp, Instr.box, newVar, newRow]
  · rename_i t len parts
    obtain ⟨ρ', u, w', hrun, hp, _, _⟩ := aBuildSlice_sound hrel cx.floor h (partsRel_of parts.toList fun p hp => hr p.2 (by simp only [Op.operands, List.mem_toArray, List.mem_map]; exact ⟨p, hp, rfl⟩))
    refine .inl ⟨ρ', u, w', ?_, hp⟩
    have : (parts.map fun (i, x) => (i, a.eval x)) = (parts.toList.map fun p => (p.1, a.eval p.2)).toArray := by
      apply Array.ext'; simp
    simp [execOp, this, hrun]
  · rename_i t x y
    split at h
    · rename_i b sz r fo hb
      simp only [Option.map_eq_some_iff, Prod.mk.injEq] at h
      obtain ⟨st1, h, rfl, rfl⟩ := h
      have hx := hr x (by simp [Op.operands])
      rw [hb] at hx
      obtain ⟨w', hrun, hp⟩ := aStoreE_sound hrel h hob hx (hr y (by simp [Op.operands]))
      exact .inr (.inl ⟨ρ, w', by simp [execOp, hrun], hp⟩)
    · simp only [Option.map_eq_some_iff, Prod.mk.injEq] at h
      obtain ⟨st1, h, rfl, rfl⟩ := h
      obtain ⟨w', hrun, hp, _, _⟩ := aStore_sound hrel h (hr x (by simp [Op.operands])) (hr y (by simp [Op.operands]))
      exact .inr (.inl ⟨ρ, w', by simp [execOp, hrun], hp⟩)
  · rename_i t l c
    rcases bif_or h with ⟨_, h⟩ | ⟨_, h⟩
    · rcases bif_or h with ⟨_, h⟩ | ⟨_, h⟩
      · obtain ⟨ρ', u, w', hrun, hp, _, _⟩ := aMakeSlice_sound (st := st.dropO) hrel cx.floor h (hr l (by simp [Op.operands])) (hr c (by simp [Op.operands]))
        exact .inl ⟨ρ', u, w', by simp [execOp, hrun], hp.val, hp.rel, hp.ev⟩
      · obtain ⟨ρ', u, w', hrun, hp⟩ := aMakeSliceA_sound (st := st.dropO) hrel h hob (hr l (by simp [Op.operands])) (hr c (by simp [Op.operands]))
        exact .inl ⟨ρ', u, w', by simp [execOp, hrun], hp.val, hp.rel, hp.ev⟩
    · obtain ⟨ρ', u, w', hrun, hp, _, _⟩ := aMakeSlice_sound hrel cx.floor h (hr l (by simp [Op.operands])) (hr c (by simp [Op.operands]))
      exact .inl ⟨ρ', u, w', by simp [execOp, hrun], hp⟩
  · rename_i args argTypes
    have hargs : All2 (VRel ρ) (args.toList.map st.eval) (args.map a.eval).toList := by
      rw [Array.toList_map]
      exact All2.maps _ _ _ fun x hx => hr x (by simp [Op.operands, Call.operands]; exact Array.mem_toList_iff.1 hx)
    unfold aAppend2 at h
    rcases bif_or h with ⟨_, h⟩ | ⟨_, h⟩
    · obtain ⟨ρ', u, w', hrun, hp⟩ := aAppendG_sound (type := type) hrel h hob hargs
      exact .inl ⟨ρ', u, w', by simp [execOp, resolve, invoke, builtin, hrun], hp⟩
    split at h
    · rename_i hxs
      obtain ⟨ρ', u, w', hrun, hp⟩ := aAppendA_sound (type := type) hrel h hob (hxs ▸ hargs)
      exact .inl ⟨ρ', u, w', by simp [execOp, resolve, invoke, builtin, hrun], hp⟩
    · obtain ⟨ρ', u, w', hrun, hp, _, _⟩ := aAppend_sound (type := type) hrel cx.floor h hargs
      exact .inl ⟨ρ', u, w', by simp [execOp, resolve, invoke, builtin, hrun], hp⟩
  · rename_i args argTypes
    have hargs : All2 (VRel ρ) (args.toList.map st.eval) (args.map a.eval).toList := by
      rw [Array.toList_map]
      exact All2.maps _ _ _ fun x hx => hr x (by simp [Op.operands, Call.operands]; exact Array.mem_toList_iff.1 hx)
    unfold aCopy2 at h
    split at h
    · rename_i b sz off len cap x xs hxs
      obtain ⟨ρ', u, w', hrun, hp⟩ := aCopyA_sound (type := type) (d := .sla b sz off len cap) hrel h hob (hxs ▸ hargs) fun u hu => by
        cases hu with
        | sla _ _ _ _ _ l c hρ _ hlen => exact .inl ⟨l, c, hρ, hlen, rfl⟩
        | slan => exact .inr ⟨rfl, none, 0, rfl⟩
      exact .inl ⟨ρ', u, w', by simp [execOp, resolve, invoke, builtin, hrun], hp⟩
    · rename_i b sz off len x xs hxs
      obtain ⟨ρ', u, w', hrun, hp⟩ := aCopyA_sound (type := type) (d := .slv b sz off len) hrel h hob (hxs ▸ hargs) fun u hu => by
        cases hu with
        | slv _ _ _ _ l c hρ hlen => exact .inl ⟨l, c, hρ, hlen, rfl⟩
        | slve _ _ _ blk base c => exact .inr ⟨rfl, _, _, rfl⟩
        | slvn => exact .inr ⟨rfl, none, 0, rfl⟩
      exact .inl ⟨ρ', u, w', by simp [execOp, resolve, invoke, builtin, hrun], hp⟩
    · obtain ⟨ρ', u, w', hrun, hp, _, _⟩ := aCopy_sound (type := type) hrel cx.floor h hargs
      exact .inl ⟨ρ', u, w', by simp [execOp, resolve, invoke, builtin, hrun], hp⟩
  · rename_i args argTypes
    have hargs : All2 (VRel ρ) (args.toList.map st.eval) (args.map a.eval).toList := by
      rw [Array.toList_map]
      exact All2.maps _ _ _ fun x hx => hr x (by simp [Op.operands, Call.operands]; exact Array.mem_toList_iff.1 hx)
    obtain ⟨ρ', u, w', hrun, hp, _, _⟩ := aClear_sound (type := type) hrel cx.floor h hargs
    exact .inl ⟨ρ', u, w', by simp [execOp, resolve, invoke, builtin, hrun], hp⟩
  · rename_i f args argTypes
    split at h
    · rename_i g caps hg
      have hf := hr f (by simp [Op.operands, Call.operands])
      rw [hg] at hf
      generalize hw : a.eval f = u at hf
      cases hf with
      | fn _ _ cvs hl hh =>
        have hargs : All2 (VRel ρ) (args.toList.map st.eval ++ caps) (args.map a.eval ++ cvs).toList := by
          rw [Array.toList_append, Array.toList_map]
          exact All2.append (All2.maps _ _ _ fun x hx => hr x (by simp [Op.operands, Call.operands]; exact .inr (Array.mem_toList_iff.1 hx))) (All2.of (by simpa using hl) fun i h1 h2 => by simpa using hh i h1 (by simpa using h2))
        obtain ⟨⟨fn, hfn, hb⟩, hc⟩ := aCall_sound hS hR hcx h hob hargs hrel
        refine .inr (.inr ⟨g, args.map a.eval ++ cvs, ?_, hc⟩)
        have := fnCall_run hN hfn hb (args.map a.eval ++ cvs) w
        simp [execOp, resolve, Deferred.ofValue, hw, invoke, this]
    · rename_i g first hg
      have hf := hr f (by simp [Op.operands, Call.operands])
      rw [hg] at hf
      generalize hw : a.eval f = u at hf
      cases hf with
      | fnb _ _ cvs hl hh =>
        have hargs : All2 (VRel ρ) (first ++ args.toList.map st.eval) (cvs ++ args.map a.eval).toList := by
          rw [Array.toList_append, Array.toList_map]
          exact All2.append (All2.of (by simpa using hl) fun i h1 h2 => by simpa using hh i h1 (by simpa using h2)) (All2.maps _ _ _ fun x hx => hr x (by simp [Op.operands, Call.operands]; exact .inr (Array.mem_toList_iff.1 hx)))
        obtain ⟨⟨fn, hfn, hb⟩, hc⟩ := aCall_sound hS hR hcx h hob hargs hrel
        refine .inr (.inr ⟨g, cvs ++ args.map a.eval, ?_, hc⟩)
        have := fnCall_run hN hfn hb (cvs ++ args.map a.eval) w
        simp [execOp, resolve, Deferred.ofValue, hw, invoke, this]
    · cases h
  · cases h
end
end Go.Am
end
section
set_option linter.unusedVariables false
set_option linter.unusedSimpArgs false
namespace Go.Am
section
variable {P : Program} {ρ : Rho}
theorem EnvRel.congr {env env' : T AVal} {n : Nat} {tmps : Array Value} (h : EnvRel ρ env n tmps) (he : ∀ t, T.get .undef env' t = T.get .undef env t) : EnvRel ρ env' n tmps :=
  ⟨h.size, fun i => by rw [he]; exact h.get i, fun i hi => by rw [he]; exact h.out i hi⟩
theorem EnvRel.eval {st : St} {n : Nat} {a : Act} (h : EnvRel ρ st.env n a.tmps) (x : Operand) : VRel ρ (st.eval x) (a.eval x) := by
  cases x with
  | tmp t => exact h.get t
  | const v => exact ofV_rel v
  | global g => exact .undef _
  | func f => exact .fn f [] #[] rfl fun i h1 _ => by simp at h1
theorem EnvRel.put {env env' : T AVal} {n : Nat} {a : Act} (h : EnvRel ρ env n a.tmps) {dst : Option Tmp} {v : AVal} {u : Value} (hv : VRel ρ v u)
    (hp : (dst = none ∧ env' = env) ∨ ∃ d, dst = some d ∧ d < n ∧ env' = T.set .undef env d v) : EnvRel ρ env' n (a.put dst u).tmps := by
  rcases hp with ⟨rfl, rfl⟩ | ⟨d, rfl, hd, rfl⟩
  · exact h
  · have hsz := h.size
    refine ⟨by simp [Act.put, hsz], fun i => ?_, fun i hi => ?_⟩
    · rw [T.get_set]
      by_cases hi : i = d
      · subst hi
        rw [if_pos rfl]
        have : i < a.tmps.size := by rw [hsz]; exact hd
        simpa [Act.put, this] using hv
      · rw [if_neg hi]
        have := h.get i
        simpa [Act.put, Array.getElem?_setIfInBounds_ne (Ne.symm hi)] using this
    · rw [T.get_set, if_neg (Nat.ne_of_gt (Nat.lt_of_lt_of_le hd hi))]
      exact h.out i hi
theorem Act.put_defers' (a : Act) (dst : Option Tmp) (v : Value) : (a.put dst v).defers = a.defers := by cases dst <;> rfl
theorem aWant0_abs {ops : Array Oper} {o : Oper} {cx : Ctx} {st st' : St} {e : Bool} (h : aWant0 ops o cx st = some (e, st')) : st'.mem = st.mem ∧ st'.next = st.next ∧ (st'.ob = true → st.ob = true ∧ ∀ t, st'.tmp t = st.tmp t) := by
  unfold aWant0 at h
  split at h
  · simp only [Option.some.injEq, Prod.mk.injEq] at h
    obtain ⟨_, rfl⟩ := h
    exact ⟨rfl, rfl, fun h => ⟨h, fun _ => rfl⟩⟩
  · split at h
    · cases h
    · rename_i d hd
      split at h
      · rename_i b hb
        split at h
        rename_i e1 st1 ht
        split at h
        · rename_i st2 hp
          simp only [Option.some.injEq, Prod.mk.injEq] at h
          obtain ⟨_, rfl⟩ := h
          obtain ⟨t1, t2, t3, t4⟩ := test_spec ht
          obtain ⟨p1, p2, p3, p4⟩ := put_spec hp
          refine ⟨p1.trans t2, p2.trans t3, fun ho => ?_⟩
          rw [p3] at ho
          obtain ⟨rfl, ho⟩ := t4 ho
          refine ⟨ho, fun t => ?_⟩
          rcases p4 with ⟨e, _⟩ | ⟨d', e, _, he⟩
          · cases e
          · obtain rfl := Option.some.inj e
            show T.get .undef st2.env t = T.get .undef st.env t
            rw [he, t1, T.get_set]
            split
            · rename_i h; subst h; exact hb.symm
            · rfl
        · cases h
      · simp only [Option.some.injEq, Prod.mk.injEq] at h
        obtain ⟨_, rfl⟩ := h
        exact ⟨rfl, rfl, fun h => ⟨h, fun _ => rfl⟩⟩
      · cases h
def guardSlot (ops : Array Oper) (o : Oper) : Option Tmp := o.guard.bind fun g => (ops[g.1]?).bind (·.dst)
theorem aWant0_conc {ops : Array Oper} {o : Oper} {cx : Ctx} {st st' : St} {e : Bool} (h : aWant0 ops o cx st = some (e, st')) (ho : st'.ob = true) {tmps : Array Value} (hsz : tmps.size = cx.n)
    (hr : ∀ d, guardSlot ops o = some d → VRel ρ (st.tmp d) (tmps.getD d undef)) : Region.wanted o (yielded ops tmps) = e := by
  unfold aWant0 at h
  unfold Region.wanted
  split at h
  · rename_i hg
    simp only [Option.some.injEq, Prod.mk.injEq] at h
    obtain ⟨rfl, _⟩ := h
    rw [hg]
  · rename_i j want hg
    rw [hg]
    simp only
    split at h
    · cases h
    · rename_i d hd
      have hrd := hr d (by simp [guardSlot, hg, hd])
      split at h
      · rename_i b hb
        split at h
        rename_i e1 st1 ht
        split at h
        · rename_i st2 hp
          simp only [Option.some.injEq, Prod.mk.injEq] at h
          obtain ⟨rfl, rfl⟩ := h
          obtain ⟨_, _, _, t4⟩ := test_spec ht
          obtain ⟨_, _, p3, p4⟩ := put_spec hp
          rw [p3] at ho
          obtain ⟨rfl, _⟩ := t4 ho
          rcases p4 with ⟨e, _⟩ | ⟨d', e, hlt, _⟩
          · cases e
          · obtain rfl := Option.some.inj e
            rw [hb] at hrd
            have hlt' : d < tmps.size := by rw [hsz]; exact hlt
            have hget : tmps.getD d undef = tmps[d] := by simp [hlt']
            rw [hget] at hrd
            have : yielded ops tmps j = some e1 := by
              unfold yielded
              rw [hd]
              simp only [Option.bind_some, Array.getElem?_eq_getElem hlt']
              generalize tmps[d] = u at hrd
              cases hrd
              rfl
            rw [this]
            cases e1 <;> cases want <;> rfl
        · cases h
      · rename_i hb
        simp only [Option.some.injEq, Prod.mk.injEq] at h
        obtain ⟨rfl, rfl⟩ := h
        rw [hb] at hrd
        have : yielded ops tmps j = none := by
          unfold yielded
          rw [hd]
          simp only [Option.bind_some]
          by_cases hlt : d < tmps.size
          · have hget : tmps.getD d undef = tmps[d] := by simp [hlt]
            rw [hget] at hrd
            rw [Array.getElem?_eq_getElem hlt]
            generalize tmps[d] = u at hrd
            cases hrd
            rfl
          · rw [Array.getElem?_eq_none (Nat.le_of_not_lt hlt)]
        rw [this]
        rfl
      · cases h
theorem conc_spec {cx : Ctx} {t : Nat} {kd : IntKind} {n : Int} {st st' : St} (ht : st.tmp t = .int kd n) (h : st.conc cx t kd n = some st') : st'.mem = st.mem ∧ st'.next = st.next ∧ (st'.ob = true → st.ob = true ∧ ∀ t, st'.tmp t = st.tmp t) := by
  obtain ⟨env, mem, next, orc, ob⟩ := st
  cases orc with
  | nil =>
    obtain rfl := Option.some.inj h
    exact ⟨rfl, rfl, fun h => ⟨h, fun _ => rfl⟩⟩
  | cons o r =>
    unfold St.conc at h
    obtain ⟨_, h⟩ := bif_inv h
    obtain rfl := Option.some.inj h
    refine ⟨rfl, rfl, fun ho => ?_⟩
    simp only [Bool.and_eq_true, decide_eq_true_eq] at ho
    refine ⟨ho.2, fun k => ?_⟩
    show T.get .undef (T.set .undef env t _) k = T.get .undef env k
    rw [T.get_set]
    split
    · rename_i e
      subst e
      rw [← ho.1]
      exact ht.symm
    · rfl
theorem aConc_spec {o : Oper} {cx : Ctx} {st st' : St} (h : aConc o cx st = some st') : st'.mem = st.mem ∧ st'.next = st.next ∧ (st'.ob = true → st.ob = true ∧ ∀ t, st'.tmp t = st.tmp t) := by
  have same : some st = some st' → st'.mem = st.mem ∧ st'.next = st.next ∧ (st'.ob = true → st.ob = true ∧ ∀ t, st'.tmp t = st.tmp t) := fun e => by
    obtain rfl := Option.some.inj e
    exact ⟨rfl, rfl, fun h => ⟨h, fun _ => rfl⟩⟩
  unfold aConc at h
  split at h
  · split at h
    · split at h
      · rename_i ht; exact conc_spec ht h
      · exact same h
    · split at h
      · rename_i ht; exact conc_spec ht h
      · exact same h
    · exact same h
  · split at h
    · split at h
      · rename_i ht; exact conc_spec ht h
      · exact same h
    · exact same h
  · exact same h
theorem aWanted_parts {ops : Array Oper} {o : Oper} {cx : Ctx} {st st' : St} {e : Bool} (h : aWanted ops o cx st = some (e, st')) : ∃ st1, aWant0 ops o cx st = some (e, st1) ∧ st'.mem = st1.mem ∧ st'.next = st1.next ∧ (st'.ob = true → st1.ob = true ∧ ∀ t, st'.tmp t = st1.tmp t) ∧ (kindOf o.op = .alloc ∨ e = false → st' = st1) := by
  unfold aWanted at h
  split at h
  · rename_i st1 h1
    split at h
    · rename_i st2 h2
      simp only [Option.some.injEq, Prod.mk.injEq] at h
      obtain ⟨rfl, rfl⟩ := h
      obtain ⟨c1, c2, c3⟩ := aConc_spec h2
      refine ⟨st1, h1, c1, c2, c3, fun hk => ?_⟩
      rcases hk with hk | hk
      · unfold aConc at h2
        split at h2
        · rename_i ho; rw [ho] at hk; cases hk
        · rename_i ho; rw [ho] at hk; cases hk
        · exact (Option.some.inj h2).symm
      · cases hk
    · cases h
  · exact ⟨st', h, rfl, rfl, fun h => ⟨h, fun _ => rfl⟩, fun _ => rfl⟩
theorem aWanted_abs {ops : Array Oper} {o : Oper} {cx : Ctx} {st st' : St} {e : Bool} (h : aWanted ops o cx st = some (e, st')) : st'.mem = st.mem ∧ st'.next = st.next ∧ (st'.ob = true → st.ob = true ∧ ∀ t, st'.tmp t = st.tmp t) := by
  obtain ⟨st1, h1, c1, c2, c3, _⟩ := aWanted_parts h
  obtain ⟨w1, w2, w3⟩ := aWant0_abs h1
  exact ⟨c1.trans w1, c2.trans w2, fun ho => ⟨(w3 (c3 ho).1).1, fun t => ((c3 ho).2 t).trans ((w3 (c3 ho).1).2 t)⟩⟩
theorem aWanted_conc {ops : Array Oper} {o : Oper} {cx : Ctx} {st st' : St} {e : Bool} (h : aWanted ops o cx st = some (e, st')) (ho : st'.ob = true) {tmps : Array Value} (hsz : tmps.size = cx.n)
    (hg : ∀ d, guardSlot ops o = some d → VRel ρ (st.tmp d) (tmps.getD d undef)) : Region.wanted o (yielded ops tmps) = e := by
  obtain ⟨st1, h1, _, _, c3, _⟩ := aWanted_parts h
  exact aWant0_conc h1 (c3 ho).1 hsz hg
structure Stepped (P : Program) (cx : Ctx) (o : Oper) (st st' : St) (v : AVal) : Prop where
  ob : st.ob = true
  does : ∀ (ρ : Rho) (a : Act) (w : World) (ev : Operand → AVal), (∀ x, x ∈ o.op.operands → ev x = st.eval x) → OpsRel ρ ev a.eval o.op → Rel ρ st.mem st.next w → Does P o a w (Post ρ cx.floor st st' v w)
  calm : (kindOf o.op = .pure ∨ kindOf o.op = .read) → ∀ (ρ : Rho) (a : Act) (w : World) (ev : Operand → AVal) (mem : Mem) (next : Nat), (∀ x, x ∈ o.op.operands → ev x = st.eval x) → OpsRel ρ ev a.eval o.op → Rel ρ mem next w →
    (∀ t y b ab, o.op = .load t y → rdOf o.op ev = some b → mget st.mem b = some ab → mget mem b = some ab) → ∃ u, (execOp a.eval o).run P w = .ok (.value u) w ∧ VRel ρ v u
theorem kind_pure {op : Op} {ev : Operand → AVal} {x : AVal × Bool} (h : aPure P op ev = some x) : kindOf op = .pure := by
  cases op with
  | call c =>
    obtain ⟨callee, args, argTypes⟩ := c
    cases callee with
    | builtin b => cases b <;> first | rfl | (simp [aPure, aBuiltin] at h)
    | value f => simp [aPure] at h
    | invoke r m => rfl
  | _ => first | rfl | (simp [aPure] at h; done)
theorem opStep_spec {S : Specs} {R : Runner} (hN : Named P) (hS : SpecsOk P S) (hRI : RInv R) (hR : ROk P R) {lift : Bool} {o : Oper} {cx : Ctx} {st st' : St} (hcx : cx.floor ≤ st.next) (h : opStep P S R lift o cx st = some st') :
    ∃ v stm, stm.put cx o.dst v = some st' ∧ stm.env = st.env ∧ AInv cx.floor st stm ∧ ((kindOf o.op = .pure ∨ kindOf o.op = .read) → stm.mem = st.mem ∧ stm.next = st.next) ∧
      (lift = true → kindOf o.op = .call → ∀ b, b < st.next → mget stm.mem b = mget st.mem b) ∧
      (kindOf o.op = .chain → ∀ b, b < st.next → wrOf o.op st.eval ≠ some b → mget stm.mem b = mget st.mem b) ∧
      (kindOf o.op = .alloc → v = .ptr st.next 0 ∧ ∃ t z, o.op = .alloc t ∧ zeroOf P t = some z ∧ stm = aNew st z t) ∧
      (st'.ob = true → Stepped P cx o st stm v) := by
  unfold opStep at h
  split at h
  · rename_i v b hp
    have hk := kind_pure hp
    split at h
    · rename_i st1 h1
      obtain ⟨e1, e2, e3, e4⟩ := owe_spec h1
      refine ⟨v, st1, h, e1, AInv.same e2 e3 fun x => (e4 x).2, fun _ => ⟨e2, e3⟩, (fun _ hc => by rw [hk] at hc; cases hc), (fun hc => by rw [hk] at hc; cases hc), (fun hc => by rw [hk] at hc; cases hc), fun ho => ?_⟩
      obtain ⟨_, _, p3, _⟩ := put_spec h
      rw [p3] at ho
      obtain ⟨rfl, ho1⟩ := e4 ho
      refine ⟨ho1, fun ρ a w ev hev hr hrel => ?_, fun _ ρ a w ev mem next hev hr hrel hag => ?_⟩
      · have hr' : OpsRel ρ st.eval a.eval o.op := fun x hx => by rw [← hev x hx]; exact hr x hx
        obtain ⟨u, hu, hrun⟩ := aPure_sound hp rfl hr'
        exact .inl ⟨ρ, u, w, hrun w, hu, by rw [e2, e3]; exact hrel, by rw [e2, e3]; exact Ev.refl _ _ _ _ _ hrel.dom⟩
      · have hr' : OpsRel ρ st.eval a.eval o.op := fun x hx => by rw [← hev x hx]; exact hr x hx
        obtain ⟨u, hu, hrun⟩ := aPure_sound hp rfl hr'
        exact ⟨u, hrun w, hu⟩
    · cases h
  · split at h
    · rename_i v stm he
      obtain ⟨hinv, henv⟩ := aEffect_inv hRI he
      refine ⟨v, stm, h, henv, hinv, fun hk => ?_, fun hl hk b hb => ?_, fun hk b hb hn => aEffect_same hk hb hn he, fun hk => ?_, fun ho => ?_⟩
      · obtain ⟨dst, op, type, pos, after, guard⟩ := o
        simp only at hk he
        cases op with
        | load t x =>
          simp only [aEffect] at he
          split at he
          · rename_i hl
            obtain ⟨l1, l2, l3, l4⟩ := aLoadO_spec hl
            simp only [Option.map_eq_some_iff, Prod.mk.injEq] at he
            obtain ⟨_, h1, _, rfl⟩ := he
            obtain ⟨_, e2, e3, _⟩ := owe_spec h1
            exact ⟨e2.trans l2, e3.trans l3⟩
          · cases he
        | call c =>
          obtain ⟨callee, args, argTypes⟩ := c
          cases callee with
          | builtin b => cases b <;> first | (simp [aEffect] at he; done) | (simp [kindOf] at hk; done)
          | value f => simp [kindOf] at hk
          | invoke r m => simp [aEffect] at he
        | _ => first | (simp [aEffect] at he; done) | (simp [kindOf] at hk; done)
      · obtain ⟨dst, op, type, pos, after, guard⟩ := o
        simp only at hk he
        cases op with
        | call c =>
          obtain ⟨callee, args, argTypes⟩ := c
          cases callee with
          | builtin b => cases b <;> first | (simp [aEffect] at he; done) | (simp [kindOf] at hk; done)
          | value f =>
            simp only [aEffect] at he
            split at he
            · exact (aCall_inv hRI he).1.2 hl b hb
            · exact (aCall_inv hRI he).1.2 hl b hb
            · cases he
          | invoke r m => simp [aEffect] at he
        | _ => first | (simp [aEffect] at he; done) | (simp [kindOf] at hk; done)
      · obtain ⟨dst, op, type, pos, after, guard⟩ := o
        simp only at hk he
        cases op with
        | alloc t =>
          simp only [aEffect, Option.map_eq_some_iff, Prod.mk.injEq] at he
          obtain ⟨z, hz, rfl, rfl⟩ := he
          exact ⟨rfl, t, z, rfl, hz, rfl⟩
        | call c =>
          obtain ⟨callee, args, argTypes⟩ := c
          cases callee with
          | builtin b => cases b <;> first | (simp [aEffect] at he; done) | (simp [kindOf] at hk; done)
          | value f => simp [kindOf] at hk
          | invoke r m => simp [aEffect] at he
        | _ => first | (simp [aEffect] at he; done) | (simp [kindOf] at hk; done)
      · obtain ⟨_, _, p3, _⟩ := put_spec h
        rw [p3] at ho
        refine ⟨hinv.ob ho, fun ρ a w ev hev hr hrel => aEffect_sound hN hS hR hcx he ho hev hr hrel, fun hk ρ a w ev mem next hev hr hrel hag => ?_⟩
        obtain ⟨dst, op, type, pos, after, guard⟩ := o
        simp only at hk he hev hr hag
        cases op with
        | load t x =>
          simp only [aEffect] at he
          split at he
          · rename_i v' bb st0 hv
            obtain ⟨l1, l2, l3, l4⟩ := aLoadO_spec hv
            simp only [Option.map_eq_some_iff, Prod.mk.injEq] at he
            obtain ⟨st1, h1, rfl, rfl⟩ := he
            obtain ⟨_, _, _, e4⟩ := owe_spec h1
            obtain ⟨rfl, hob0⟩ := e4 ho
            have hv := (l4 hob0).1
            have hx : x ∈ (Op.load t x).operands := by simp [Op.operands]
            have hl : aLoadP P mem t (ev x) = some (v', true) := by
              rw [hev x hx]
              have hag' : ∀ b ab, rdOf (.load t x) st.eval = some b → mget st.mem b = some ab → mget mem b = some ab := fun b ab q1 q2 => hag t x b ab rfl (by simp only [rdOf, hev x hx] at q1 ⊢; exact q1) q2
              unfold aLoadP at hv ⊢
              split at hv
              · rename_i b sz r fo hb
                simp only [rdOf, hb] at hag'
                split at hv
                · rename_i ab hm
                  rw [hag' b ab rfl hm]
                  exact hv
                · cases hv
              · rename_i y hy
                unfold aLoad at hv ⊢
                split at hv
                · rename_i b off hb
                  simp only [rdOf, hb] at hag'
                  split at hv
                  · rename_i ab hm
                    rw [hag' b ab rfl hm]
                    exact hv
                  · cases hv
                · exact hv
                · cases hv
            obtain ⟨z, hz, hrun⟩ := aLoadP_sound hrel hl (hr x hx)
            exact ⟨z, by simp [execOp, hrun], hz⟩
          · cases he
        | call c =>
          obtain ⟨callee, args, argTypes⟩ := c
          cases callee with
          | builtin b => cases b <;> first | (simp [aEffect] at he; done) | (simp [kindOf] at hk; done)
          | value f => simp [kindOf] at hk
          | invoke r m => simp [aEffect] at he
        | _ => first | (simp [aEffect] at he; done) | (simp [kindOf] at hk; done)
    · cases h
theorem opsRun_cons {S : Specs} {R : Runner} {ops : Array Oper} {cx : Ctx} {x : Bool × Oper} {l : List (Bool × Oper)} {st : St} : opsRun P S R ops cx (x :: l) st = (step1 P S R ops cx x st).bind (opsRun P S R ops cx l) := by
  show (match aWanted ops x.2 cx st with
    | none => none
    | some (true, st) => match opStep P S R x.1 x.2 cx st with
      | some st => opsRun P S R ops cx l st
      | none => none
    | some (false, st) => match st.put cx x.2.dst (.tup []) with
      | some st => opsRun P S R ops cx l st
      | none => none) = _
  unfold step1
  cases h : aWanted ops x.2 cx st with
  | none => rfl
  | some y =>
    obtain ⟨e, st1⟩ := y
    cases e with
    | true => simp only []; cases opStep P S R x.1 x.2 cx st1 <;> rfl
    | false => simp only []; cases st1.put cx x.2.dst (.tup []) <;> rfl
structure Step1 (P : Program) (ops : Array Oper) (cx : Ctx) (x : Bool × Oper) (st st' : St) : Prop where
  inv : AInv cx.floor st st'
  stay : (kindOf x.2.op = .pure ∨ kindOf x.2.op = .read) → st'.mem = st.mem ∧ st'.next = st.next
  lift : x.1 = true → kindOf x.2.op = .call → ∀ b, b < st.next → mget st'.mem b = mget st.mem b
  foot : st'.ob = true → kindOf x.2.op = .chain → ∀ b, b < st.next → wrOf x.2.op st.eval ≠ some b → mget st'.mem b = mget st.mem b
  alloc : kindOf x.2.op = .alloc → x.2.guard = none → ∃ t z, x.2.op = .alloc t ∧ zeroOf P t = some z ∧ st'.mem = (aNew st z t).mem ∧ st'.next = (aNew st z t).next ∧ ∀ d, x.2.dst = some d → st'.tmp d = .ptr st.next 0
  slot : ∀ d, x.2.dst = some d → d < cx.n
  other : st'.ob = true → ∀ t, x.2.dst ≠ some t → st'.tmp t = st.tmp t
  does : st'.ob = true → ∀ (ρ : Rho) (a : Act) (w : World) (ev : Operand → AVal), a.tmps.size = cx.n → (∀ y, y ∈ x.2.op.operands → ev y = st.eval y) → (∀ d, guardSlot ops x.2 = some d → VRel ρ (st.tmp d) (a.tmps.getD d undef)) → OpsRel ρ ev a.eval x.2.op → Rel ρ st.mem st.next w →
    ∀ (K : Act → World → Prop) (Q : Exit → Act → World → Prop), (∀ ρ' u w', (∀ d, x.2.dst = some d → VRel ρ' (st'.tmp d) u) → Rel ρ' st'.mem st'.next w' → Ev ρ ρ' cx.floor st.mem st.next st'.mem st'.next w w' → K (a.put x.2.dst u) w') →
      if Region.wanted x.2 (yielded ops a.tmps) then x.2.wp P a w K Q else K (a.put x.2.dst undef) w
  calm : st'.ob = true → (kindOf x.2.op = .pure ∨ kindOf x.2.op = .read) → ∀ (ρ : Rho) (a : Act) (w : World) (ev : Operand → AVal) (mem : Mem) (next : Nat), a.tmps.size = cx.n → (∀ y, y ∈ x.2.op.operands → ev y = st.eval y) → (∀ d, guardSlot ops x.2 = some d → VRel ρ (st.tmp d) (a.tmps.getD d undef)) → OpsRel ρ ev a.eval x.2.op → Rel ρ mem next w →
    (∀ t y b ab, x.2.op = .load t y → rdOf x.2.op ev = some b → mget st.mem b = some ab → mget mem b = some ab) → ∀ (K : Act → World → Prop) (Q : Exit → Act → World → Prop), (∀ u, (∀ d, x.2.dst = some d → VRel ρ (st'.tmp d) u) → K (a.put x.2.dst u) w) →
      if Region.wanted x.2 (yielded ops a.tmps) then x.2.wp P a w K Q else K (a.put x.2.dst undef) w
theorem step1_spec {S : Specs} {R : Runner} (hN : Named P) (hS : SpecsOk P S) (hRI : RInv R) (hR : ROk P R) {ops : Array Oper} {x : Bool × Oper} {cx : Ctx} {st st' : St} (hcx : cx.floor ≤ st.next) (h : step1 P S R ops cx x st = some st') :
    Step1 P ops cx x st st' := by
  unfold step1 at h
  split at h
  · cases h
  · rename_i st1 hw
    obtain ⟨w1, w2, w3⟩ := aWanted_abs hw
    obtain ⟨v, stm, hp, henv, hinv, hstay, hlift, hfoot, halloc, hdo⟩ := opStep_spec hN hS hRI hR (by rw [w2]; exact hcx) h
    obtain ⟨p1, p2, p3, p4⟩ := put_spec hp
    have hput : ∀ d, x.2.dst = some d → st'.tmp d = v := fun d hd => by
      rcases p4 with ⟨e, _⟩ | ⟨d', e, _, he⟩
      · rw [hd] at e; cases e
      · rw [hd] at e
        obtain rfl := Option.some.inj e
        show T.get .undef st'.env d = v
        rw [he, T.get_set, if_pos rfl]
    have hi1 : AInv cx.floor st st1 := AInv.same w1 w2 fun ho => (w3 ho).1
    have hi2 : AInv cx.floor stm st' := AInv.same p1 p2 fun ho => by rw [← p3]; exact ho
    refine ⟨(hi1.trans hinv).trans hi2, fun hk => ?_, fun hl hk b hb => ?_, fun ho hk b hb hn => ?_, fun hk hg => ?_, fun d hd => ?_, fun ho t ht => ?_, fun ho ρ a w ev hsz hev hgr hr hrel K Q hK => ?_, fun ho hk ρ a w ev mem next hsz hev hgr hr hrel hag K Q hK => ?_⟩
    · obtain ⟨s1, s2⟩ := hstay hk
      exact ⟨p1.trans (s1.trans w1), p2.trans (s2.trans w2)⟩
    · rw [p1, hlift hl hk b (by rw [w2]; exact hb), w1]
    · have ho1 : st1.ob = true := hinv.ob (by rw [← p3]; exact ho)
      have hsame : st1.eval = st.eval := by
        funext y
        cases y with
        | tmp t => exact (w3 ho1).2 t
        | _ => rfl
      rw [p1, hfoot hk b (by rw [w2]; exact hb) (by rw [hsame]; exact hn), w1]
    · obtain ⟨e1, t, z, e2, e3, e4⟩ := halloc hk
      have hst : st1 = st := by
        obtain ⟨st0, hw0, _, _, _, hw1⟩ := aWanted_parts hw
        rw [hw1 (.inl hk)]
        unfold aWant0 at hw0
        rw [hg] at hw0
        simp only [Option.some.injEq, Prod.mk.injEq] at hw0
        exact hw0.2.symm
      subst hst
      exact ⟨t, z, e2, e3, by rw [p1, e4], by rw [p2, e4], fun d hd => by rw [hput d hd, e1]⟩
    · rcases p4 with ⟨e, _⟩ | ⟨d', e, hlt, _⟩
      · rw [hd] at e; cases e
      · rw [hd] at e; obtain rfl := Option.some.inj e; exact hlt
    · have ho1 : st1.ob = true := hinv.ob (by rw [← p3]; exact ho)
      rw [← (w3 ho1).2 t]
      show T.get .undef st'.env t = T.get .undef st1.env t
      rcases p4 with ⟨_, he⟩ | ⟨d, e, _, he⟩
      · rw [he, henv]
      · rw [he, henv, T.get_set, if_neg (by intro htd; subst htd; exact ht e)]
    · have ho1 : st1.ob = true := hinv.ob (by rw [← p3]; exact ho)
      have hsame := (w3 ho1).2
      have hev' : ∀ y, st1.eval y = st.eval y := fun y => by cases y <;> first | rfl | exact hsame _
      rw [aWanted_conc hw ho1 hsz hgr, if_pos rfl]
      refine ((hdo ho).does ρ a w ev (fun y hy => by rw [hev' y]; exact hev y hy) hr (by rw [w1, w2]; exact hrel)).wp fun ρ' u w' hpost => ?_
      have he := hpost.ev
      rw [w1, w2] at he
      exact hK ρ' u w' (fun d hd => by rw [hput d hd]; exact hpost.val) (by rw [p1, p2]; exact hpost.rel) (by rw [p1, p2]; exact he)
    · have ho1 : st1.ob = true := hinv.ob (by rw [← p3]; exact ho)
      have hsame := (w3 ho1).2
      have hev' : ∀ y, st1.eval y = st.eval y := fun y => by cases y <;> first | rfl | exact hsame _
      rw [aWanted_conc hw ho1 hsz hgr, if_pos rfl]
      obtain ⟨u, hrun, hu⟩ := (hdo ho).calm hk ρ a w ev mem next (fun y hy => by rw [hev' y]; exact hev y hy) hr hrel (fun t y b ab q1 q2 q3 => hag t y b ab q1 q2 (by rw [← w1]; exact q3))
      unfold Oper.wp
      rw [hrun]
      exact hK u fun d hd => by rw [hput d hd]; exact hu
  · rename_i st1 hw
    obtain ⟨w1, w2, w3⟩ := aWanted_abs hw
    obtain ⟨p1, p2, p3, p4⟩ := put_spec h
    have hput : ∀ d, x.2.dst = some d → st'.tmp d = .tup [] := fun d hd => by
      rcases p4 with ⟨e, _⟩ | ⟨d', e, _, he⟩
      · rw [hd] at e; cases e
      · rw [hd] at e
        obtain rfl := Option.some.inj e
        show T.get .undef st'.env d = .tup []
        rw [he, T.get_set, if_pos rfl]
    refine ⟨AInv.same (p1.trans w1) (p2.trans w2) fun ho => (w3 (by rw [← p3]; exact ho)).1, fun _ => ⟨p1.trans w1, p2.trans w2⟩, fun _ _ b _ => by rw [p1, w1], fun _ _ b _ _ => by rw [p1, w1], fun hk hg => ?_, fun d hd => ?_, fun ho t ht => ?_, fun ho ρ a w ev hsz hev hgr hr hrel K Q hK => ?_, fun ho hk ρ a w ev mem next hsz hev hgr hr hrel hag K Q hK => ?_⟩
    · obtain ⟨st0, hw0, _⟩ := aWanted_parts hw
      unfold aWant0 at hw0
      rw [hg] at hw0
      simp at hw0
    · rcases p4 with ⟨e, _⟩ | ⟨d', e, hlt, _⟩
      · rw [hd] at e; cases e
      · rw [hd] at e; obtain rfl := Option.some.inj e; exact hlt
    · rw [← (w3 (by rw [← p3]; exact ho)).2 t]
      show T.get .undef st'.env t = T.get .undef st1.env t
      rcases p4 with ⟨_, he⟩ | ⟨d, e, _, he⟩
      · rw [he]
      · rw [he, T.get_set, if_neg (by intro htd; subst htd; exact ht e)]
    · have ho1 : st1.ob = true := by rw [← p3]; exact ho
      rw [aWanted_conc hw ho1 hsz hgr, if_neg (by simp)]
      refine hK ρ undef w (fun d hd => by rw [hput d hd]; exact .tup [] #[] rfl fun i h1 _ => by simp at h1) ?_ ?_
      · rw [p1, p2, w1, w2]; exact hrel
      · rw [p1, p2, w1, w2]; exact Ev.refl _ _ _ _ _ hrel.dom
    · have ho1 : st1.ob = true := by rw [← p3]; exact ho
      rw [aWanted_conc hw ho1 hsz hgr, if_neg (by simp)]
      exact hK undef fun d hd => by rw [hput d hd]; exact .tup [] #[] rfl fun i h1 _ => by simp at h1
def Fin (D : List Deferred) (ρ : Rho) (cx : Ctx) (st st' : St) (w : World) : Exit → Act → World → Prop := fun e a' w' =>
  e = .normal ∧ a'.defers = D ∧ ∃ ρ', EnvRel ρ' st'.env cx.n a'.tmps ∧ Rel ρ' st'.mem st'.next w' ∧ Ev ρ ρ' cx.floor st.mem st.next st'.mem st'.next w w'
end
end Go.Am
end
section
set_option linter.unusedVariables false
set_option linter.unusedSimpArgs false
namespace Go.Am
section
variable {ops : Array Oper}
def Closed (ops : Array Oper) (S : Nat → Bool) : Prop := ∀ j o, ops[j]? = some o → S j = true → ∀ e ∈ o.after.toList, Region.binds .any e = true → S e.on = true
def Ready (S : Nat → Bool) (o : Oper) : Prop := ∀ e ∈ o.after.toList, Region.binds .any e = true → S e.on = true
def Forced (ops : Array Oper) (i : Nat) (o : Oper) : Prop := ∀ S, Closed ops S → Ready S o → S i = true
theorem fold_bits (acc : List Nat) (i : Nat) : ∀ (es : List Edge) (s : Nat), (es.foldl (fun s e => bif Region.binds .any e then s ||| (2 ^ e.on) ||| acc.getD e.on 0 else s) s).testBit i = true →
    s.testBit i = true ∨ ∃ e ∈ es, Region.binds .any e = true ∧ (e.on = i ∨ (acc.getD e.on 0).testBit i = true)
  | [], s, h => .inl h
  | e :: es, s, h => by
    simp only [List.foldl_cons] at h
    rcases fold_bits acc i es _ h with h | ⟨e', he', h1, h2⟩
    · cases hb : Region.binds .any e with
      | false => rw [hb] at h; exact .inl h
      | true =>
        rw [hb, cond_true, Nat.testBit_or, Nat.testBit_or, Bool.or_eq_true, Bool.or_eq_true] at h
        rcases h with (h | h) | h
        · exact .inl h
        · rw [Nat.testBit_two_pow] at h
          exact .inr ⟨e, by simp, hb, .inl (by simpa using h)⟩
        · exact .inr ⟨e, by simp, hb, .inr h⟩
    · exact .inr ⟨e', by simp [he'], h1, h2⟩
theorem befs_spec (hord : ∀ (j : Nat) o, ops[j]? = some o → ∀ e ∈ o.after.toList, Region.binds .any e = true → e.on < j) : ∀ (l : List Oper) (acc : List Nat), acc.length + l.length = ops.size → (∀ k, l[k]? = ops[acc.length + k]?) →
    (∀ k o, k < acc.length → ops[k]? = some o → ∀ i, (acc.getD k 0).testBit i = true → i < k ∧ Forced ops i o) →
    ∀ k o, ops[k]? = some o → ∀ i, ((befs l acc).getD k 0).testBit i = true → i < k ∧ Forced ops i o
  | [], acc, hlen, _, hacc, k, o, ho, i, h => by
    have hk : k < ops.size := (Array.getElem?_eq_some_iff.1 ho).1
    simp at hlen
    exact hacc k o (by omega) ho i h
  | x :: l, acc, hlen, hl, hacc, k, o, ho, i, h => by
    unfold befs at h
    refine befs_spec hord l (acc ++ [x.after.toList.foldl (fun s e => bif Region.binds .any e then s ||| (2 ^ e.on) ||| acc.getD e.on 0 else s) 0]) (by simp at hlen ⊢; omega) (fun k => by
      have := hl (k + 1)
      simpa [Nat.add_assoc, Nat.add_comm 1 k] using this) (fun k' o' hk' ho' i' hi' => ?_) k o ho i h
    by_cases hlt : k' < acc.length
    · refine hacc k' o' hlt ho' i' ?_
      rw [List.getD, List.getElem?_append_left hlt] at hi'
      exact hi'
    · have hk2 : k' = acc.length := by simp at hk'; omega
      subst hk2
      have hx : ops[acc.length]? = some x := by simpa using (hl 0).symm
      rw [hx] at ho'
      obtain rfl := Option.some.inj ho'
      have hg : (acc ++ [x.after.toList.foldl (fun s e => bif Region.binds .any e then s ||| (2 ^ e.on) ||| acc.getD e.on 0 else s) 0]).getD acc.length 0 = x.after.toList.foldl (fun s e => bif Region.binds .any e then s ||| (2 ^ e.on) ||| acc.getD e.on 0 else s) 0 := by
        simp [List.getD]
      rw [hg] at hi'
      rcases fold_bits acc i' _ _ hi' with h0 | ⟨e, he, hb, h1⟩
      · simp at h0
      · have hlt' := hord _ _ hx e he hb
        rcases h1 with rfl | h1
        · exact ⟨hlt', fun S _ hr => hr e he hb⟩
        · have ho2 : ops[e.on]? = some (ops[e.on]'(by simp at hlen; omega)) := by simp
          obtain ⟨q1, q2⟩ := hacc e.on _ hlt' ho2 i' h1
          exact ⟨by omega, fun S hc hr => q2 S hc fun e' he' hb' => hc e.on _ ho2 (hr e he hb) e' he' hb'⟩
structure Checked (ops : Array Oper) : Prop where
  ord : ∀ (j : Nat) o, ops[j]? = some o → ∀ e ∈ o.after.toList, Region.binds .any e = true → e.on < j
  guard : ∀ (j : Nat) o, ops[j]? = some o → kindOf o.op = .alloc → o.guard = none
  bits : ∀ (j : Nat) o, ops[j]? = some o → ∀ i, ((befs ops.toList []).getD j 0).testBit i = true → i < j ∧ Forced ops i o
  pair : ∀ (i j : Nat) p o, i < j → ops[i]? = some p → ops[j]? = some o → Forced ops i o ∨ (p.apart ops o = true ∧ kindsOk (kindOf p.op) (kindOf o.op) = true ∧ (kindOf o.op = .read → lifts ops i = true) ∧ (kindOf p.op = .read → lifts ops j = true))
  dst : ∀ (i j : Nat) p o d, i < j → ops[i]? = some p → ops[j]? = some o → p.dst = some d → o.dst ≠ some d
  alloc : ∀ (i j : Nat) p o, i < j → ops[i]? = some p → ops[j]? = some o → kindOf o.op = .alloc → p.apart ops o = true
theorem drawOk_spec (h : drawOk ops = true) : Checked ops := by
  have hj : ∀ (j : Nat) o, ops[j]? = some o → (o.after.toList.all (fun e => !Region.binds .any e || Nat.ble (e.on + 1) j) = true ∧ (!(kindOf o.op == .alloc) || o.guard.isNone) = true) ∧ ∀ (i : Nat) p, i < j → ops[i]? = some p → pairOk ops i j p o = true := by
    intro j o ho
    have hlt : j < ops.size := (Array.getElem?_eq_some_iff.1 ho).1
    have := List.all_eq_true.1 h j (List.mem_range.2 hlt)
    rw [ho] at this
    simp only [Bool.and_eq_true] at this
    refine ⟨this.1, fun i p hi hp => ?_⟩
    have := List.all_eq_true.1 this.2 i (List.mem_range.2 hi)
    rwa [hp] at this
  have ord : ∀ (j : Nat) o, ops[j]? = some o → ∀ e ∈ o.after.toList, Region.binds .any e = true → e.on < j := by
    intro j o ho e he hb
    have := List.all_eq_true.1 (hj j o ho).1.1 e he
    rw [hb] at this
    exact Nat.le_of_ble_eq_true (by simpa using this)
  have bits := befs_spec ord ops.toList [] (by simp) (fun k => by simp) (fun k o hk => by simp at hk)
  refine ⟨ord, fun j o ho hk => ?_, fun j o ho i hb => bits j o ho i hb, fun i j p o hij hp ho => ?_, fun i j p o d hij hp ho hd => ?_, fun i j p o hij hp ho hk => ?_⟩
  · have := (hj j o ho).1.2
    rw [hk] at this
    simpa using this
  · have hpo := (hj j o ho).2 i p hij hp
    unfold pairOk at hpo
    simp only [Bool.and_eq_true, Bool.or_eq_true] at hpo
    cases hb : ((befs ops.toList []).getD j 0).testBit i with
    | true => exact .inl (bits j o ho i hb).2
    | false =>
      right
      rcases hpo.1.1 with h1 | ⟨h1, h2⟩
      · rw [hb] at h1; cases h1
      · have hi : i < ops.size := (Array.getElem?_eq_some_iff.1 hp).1
        have hjl : j < ops.size := (Array.getElem?_eq_some_iff.1 ho).1
        refine ⟨h1, h2, fun hr => ?_, fun hr => ?_⟩
        · unfold lifts
          rw [List.any_eq_true]
          refine ⟨j, List.mem_range.2 hjl, ?_⟩
          rw [ho, Option.any_some, hr, hb]
          have : Nat.ble (i + 1) j = true := Nat.ble_eq_true_of_le hij
          rw [this]; simp
        · unfold lifts
          rw [List.any_eq_true]
          refine ⟨i, List.mem_range.2 hi, ?_⟩
          rw [hp, Option.any_some, hr, hb]
          have : Nat.ble (i + 1) j = true := Nat.ble_eq_true_of_le hij
          rw [this]; simp
  · have hpo := (hj j o ho).2 i p hij hp
    unfold pairOk at hpo
    simp only [Bool.and_eq_true] at hpo
    have := hpo.1.2
    rw [hd] at this
    intro e
    rw [e] at this
    simp at this
  · have hpo := (hj j o ho).2 i p hij hp
    unfold pairOk at hpo
    simp only [Bool.and_eq_true] at hpo
    have := hpo.2
    rw [hk] at this
    simpa using this
theorem isAlloc_iff {i : Nat} {o : Oper} (ho : ops[i]? = some o) : isAlloc ops i = true ↔ kindOf o.op = .alloc := by
  unfold isAlloc
  rw [ho, Option.any_some]
  simp
theorem drawOrder_mem (i : Nat) : i ∈ drawOrder ops ↔ i < ops.size := by
  unfold drawOrder
  simp only [List.mem_append, List.mem_filter, List.mem_range]
  cases isAlloc ops i <;> simp
theorem drawOrder_length : (drawOrder ops).length = ops.size := by
  unfold drawOrder
  rw [List.length_append, ← List.countP_eq_length_filter, ← List.countP_eq_length_filter]
  have := List.length_eq_countP_add_countP (isAlloc ops) (l := List.range ops.size)
  simp only [List.length_range] at this
  have e : (fun i => !isAlloc ops i) = (fun i => decide (¬ isAlloc ops i = true)) := by funext i; cases isAlloc ops i <;> rfl
  rw [e]; omega
def Ord (ops : Array Oper) (i j : Nat) : Prop := (isAlloc ops i = true ∧ isAlloc ops j = false) ∨ (isAlloc ops i = isAlloc ops j ∧ i < j)
theorem drawOrder_pairwise : (drawOrder ops).Pairwise (Ord ops) := by
  unfold drawOrder
  rw [List.pairwise_append]
  have hr : (List.range ops.size).Pairwise (· < ·) := List.pairwise_lt_range
  refine ⟨?_, ?_, ?_⟩
  · refine ((hr.filter _).imp_of_mem fun {a b} ha hb h => ?_)
    have h1 := (List.mem_filter.1 ha).2
    have h2 := (List.mem_filter.1 hb).2
    exact .inr ⟨h1.trans h2.symm, h⟩
  · refine ((hr.filter _).imp_of_mem fun {a b} ha hb h => ?_)
    have h1 := (List.mem_filter.1 ha).2
    have h2 := (List.mem_filter.1 hb).2
    refine .inr ⟨?_, h⟩
    cases e1 : isAlloc ops a <;> cases e2 : isAlloc ops b <;> simp_all
  · intro a ha b hb
    have h1 := (List.mem_filter.1 ha).2
    have h2 := (List.mem_filter.1 hb).2
    exact .inl ⟨h1, by simpa using h2⟩
theorem drawOrder_ord {k1 k2 : Nat} (h : k1 < k2) (h2 : k2 < (drawOrder ops).length) : Ord ops ((drawOrder ops)[k1]'(by omega)) (drawOrder ops)[k2] :=
  List.pairwise_iff_getElem.1 drawOrder_pairwise k1 k2 (by omega) h2 h
end
theorem opsRun_trace {P : Program} {S : Specs} {R : Runner} {ops : Array Oper} {cx : Ctx} : ∀ (l : List (Bool × Oper)) (st st' : St), opsRun P S R ops cx l st = some st' →
    ∃ f : Nat → St, f 0 = st ∧ f l.length = st' ∧ ∀ (k : Nat) (h : k < l.length), step1 P S R ops cx l[k] (f k) = some (f (k + 1))
  | [], st, st', h => by
    have h : some st = some st' := h
    obtain rfl := Option.some.inj h
    exact ⟨fun _ => st, rfl, rfl, fun k h => by simp at h⟩
  | x :: l, st, st', h => by
    rw [opsRun_cons, Option.bind_eq_some_iff] at h
    obtain ⟨st1, h1, h2⟩ := h
    obtain ⟨f, f0, fn, fs⟩ := opsRun_trace l st1 st' h2
    refine ⟨fun k => match k with | 0 => st | k + 1 => f k, rfl, fn, fun k hk => ?_⟩
    cases k with
    | zero => simpa [f0] using h1
    | succ k => simpa using fs k (by simpa using hk)
def FootOk (ops : Array Oper) (x y : Foot) : Prop := clash x.2.1 y.2.2 = true ∨ clash x.2.2 y.2.1 = true → ordered ops x.1 y.1 = true
theorem footOk_spec {ops : Array Oper} {x y : Foot} (h : footOk ops x y = true) : FootOk ops x y := by
  intro hc
  unfold footOk at h
  simp only [Bool.or_eq_true, Bool.not_eq_true', Bool.or_eq_false_iff] at h
  rcases h with ⟨h1, h2⟩ | h
  · rcases hc with hc | hc
    · rw [h1] at hc; cases hc
    · rw [h2] at hc; cases hc
  · exact h
theorem opsRunD_trace {P : Program} {S : Specs} {R : Runner} {ops : Array Oper} {cx : Ctx} : ∀ (l : List (Nat × Bool × Oper)) (acc : List Foot) (st st' : St), opsRunD P S R ops cx l acc st = some st' →
    ∃ f : Nat → St, f 0 = st ∧ f l.length = st' ∧ (∀ (k : Nat) (h : k < l.length), step1 P S R ops cx l[k].2 (f k) = some (f (k + 1))) ∧
      (∀ (k : Nat) (h : k < l.length), ∀ y ∈ acc, FootOk ops (footOf l[k] (f k).eval) y) ∧
      ∀ (q k : Nat) (hq : q < k) (h : k < l.length), FootOk ops (footOf l[k] (f k).eval) (footOf (l[q]'(by omega)) (f q).eval)
  | [], acc, st, st', h => by
    have h : some st = some st' := h
    obtain rfl := Option.some.inj h
    exact ⟨fun _ => st, rfl, rfl, fun k h => by simp at h, fun k h => by simp at h, fun q k _ h => by simp at h⟩
  | x :: l, acc, st, st', h => by
    have h : (bif acc.all (footOk ops (footOf x st.eval)) then
        match step1 P S R ops cx x.2 st with
        | some st' => opsRunD P S R ops cx l (footOf x st.eval :: acc) st'
        | none => none
      else none) = some st' := h
    obtain ⟨hacc, h⟩ := bif_inv h
    split at h
    · rename_i st1 h1
      obtain ⟨f, f0, fn, fs, fa, fp⟩ := opsRunD_trace l _ st1 st' h
      refine ⟨fun k => match k with | 0 => st | k + 1 => f k, rfl, fn, fun k hk => ?_, fun k hk y hy => ?_, fun q k hqk hk => ?_⟩
      · cases k with
        | zero => simpa [f0] using h1
        | succ k => simpa using fs k (by simpa using hk)
      · cases k with
        | zero => exact footOk_spec (List.all_eq_true.1 hacc y hy)
        | succ k => simpa using fa k (by simpa using hk) y (by simp [hy])
      · cases k with
        | zero => omega
        | succ k =>
          cases q with
          | zero => simpa using fa k (by simpa using hk) (footOf x st.eval) (by simp)
          | succ q => simpa using fp q k (by omega) (by simpa using hk)
    · cases h
end Go.Am
end
section
set_option linter.unusedVariables false
set_option linter.unusedSimpArgs false
namespace Go.Am
theorem countP_update (p q : Nat → Bool) (i : Nat) : ∀ (n : Nat), (∀ k, k ≠ i → q k = p k) → p i = true → q i = false → i < n → (List.range n).countP q + 1 = (List.range n).countP p
  | 0, _, _, _, h => absurd h (Nat.not_lt_zero _)
  | n + 1, hpq, hp, hq, h => by
    rw [List.range_succ, List.countP_append, List.countP_append]
    by_cases hi : i < n
    · have := countP_update p q i n hpq hp hq hi
      have e : q n = p n := hpq n (by omega)
      simp only [List.countP_cons, List.countP_nil, e]
      omega
    · have hin : i = n := by omega
      subst hin
      have e : (List.range i).countP q = (List.range i).countP p := List.countP_congr fun k hk => by
        rw [hpq k (by have := List.mem_range.1 hk; omega)]
      simp [e, hp, hq]
section
variable {P : Program}
theorem Rel.unborn {ρ : Rho} {mem : Mem} {next : Nat} {w : World} (h : Rel ρ mem next w) (o : Option ABlk) : Rel ρ (mset mem next o) (next + 1) w := by
  have ne : ∀ b l, ρ b = some l → b ≠ next := fun b l e => by have := h.dom b l e; omega
  refine ⟨fun b l e => by have := h.dom b l e; omega, fun b b' l l' e e' he hs hs' => ?_, fun b l ab e hm => ?_, h.old, fun b l e hs => h.sep b l e (by rwa [mget_mset_ne _ _ (ne b l e)] at hs), h.real, fun b hb => by rw [mget_mset_ne _ _ (by omega)]; exact h.bd b (by omega), fun j l e => Nat.lt_succ_of_lt (h.ldom j l e)⟩
  · rw [mget_mset_ne _ _ (ne b l e)] at hs
    rw [mget_mset_ne _ _ (ne b' l' e')] at hs'
    exact h.inj b b' l l' e e' he hs hs'
  · rw [mget_mset_ne _ _ (ne b l e)] at hm
    exact h.blk b l ab e hm
theorem Rel.birth {ρ : Rho} {mem : Mem} {next : Nat} {w : World} (h : Rel ρ mem next w) {b : Nat} {cs : List AVal} {ty : TypeId} (hb : b < next) (hn : ρ b = none) (hm : mget mem b = some ⟨cs, ty, none⟩) {vs : Array Value} (el : TypeId) (hv : VRels ρ cs vs) :
    Rel (rhoAdd ρ b ⟨w.heap.size, 0, cs.length, vs.size⟩) mem next { w with heap := w.heap.push (.cells vs el) } := by
  have hle := rhoAdd_le (l := ⟨w.heap.size, 0, cs.length, vs.size⟩) hn
  have hget : ∀ c l, rhoAdd ρ b ⟨w.heap.size, 0, cs.length, vs.size⟩ c = some l → (c = b ∧ l = ⟨w.heap.size, 0, cs.length, vs.size⟩) ∨ (c ≠ b ∧ ρ c = some l) := fun c l e => by
    rw [rhoAdd_get] at e
    by_cases hc : c = b
    · rw [if_pos hc] at e; exact .inl ⟨hc, (Option.some.inj e).symm⟩
    · rw [if_neg hc] at e; exact .inr ⟨hc, e⟩
  refine ⟨fun c l e => ?_, fun c c' l l' e e' hbl hs hs' => ?_, fun c l ab e hc => ?_, fun k o e => ?_, fun c l e => ?_, fun c l e => ?_, h.bd, h.ldom⟩
  · rcases hget c l e with ⟨rfl, _⟩ | ⟨_, e⟩
    · exact hb
    · exact h.dom c l e
  · rcases hget c l e with ⟨hc, hl⟩ | ⟨hc, e2⟩ <;> rcases hget c' l' e' with ⟨hc', hl'⟩ | ⟨hc', e2'⟩
    · rw [hc, hc']
    · have := h.real c' l' e2'; rw [hl] at hbl; simp at hbl; omega
    · have := h.real c l e2; rw [hl'] at hbl; simp at hbl; omega
    · exact h.inj c c' l l' e2 e2' hbl hs hs'
  · rcases hget c l e with ⟨rfl, rfl⟩ | ⟨_, e⟩
    · rw [hm] at hc
      obtain rfl := Option.some.inj hc
      have h1 := hv.1
      refine ⟨rfl, by simp only; omega, (fun A e => by cases e), vs, el, by simp, by simp, fun i hi => ?_⟩
      have h2 : i < vs.size := by simp only at hi; omega
      exact ⟨vs[i], by simp [Array.getElem?_eq_getElem h2], (hv.2 i hi h2).mono hle⟩
    · refine (h.blk c l ab e hc).world hle ?_
      have := h.real c l e
      simp [Array.getElem?_push, Nat.ne_of_lt this]
  · have hk := h.old k o e
    have : k < w.heap.size := (Array.getElem?_eq_some_iff.1 hk).1
    simp only [Array.getElem?_push, Nat.ne_of_lt this, if_false]
    exact hk
  · intro hs
    rcases hget c l e with ⟨rfl, rfl⟩ | ⟨_, e⟩
    · exact h.hold _ (Nat.le_refl _)
    · exact h.sep c l e hs
  · rcases hget c l e with ⟨rfl, rfl⟩ | ⟨_, e⟩
    · simp
    · have := h.real c l e; simp; omega
structure Reg (P : Program) (ops : Array Oper) (cx : Ctx) (st : St) (f : Nat → St) : Prop where
  chk : Checked ops
  f0 : f 0 = st
  hcx : cx.floor ≤ st.next
  ob : ∀ k, k ≤ ops.size → (f k).ob = true
  step : ∀ (k : Nat) (h : k < (drawOrder ops).length), Step1 P ops cx (lifts ops (drawOrder ops)[k], ops.getD (drawOrder ops)[k] default) (f k) (f (k + 1))
  foot : ∀ (q k : Nat) (hq : q < k) (h : k < (drawOrder ops).length), FootOk ops (footOf ((drawOrder ops)[k], lifts ops (drawOrder ops)[k], ops.getD (drawOrder ops)[k] default) (f k).eval) (footOf ((drawOrder ops)[q], lifts ops (drawOrder ops)[q], ops.getD (drawOrder ops)[q] default) (f q).eval)
variable {ops : Array Oper} {cx : Ctx} {st : St} {f : Nat → St}
def at_ (ops : Array Oper) (k : Nat) : Nat := (drawOrder ops).getD k ops.size
theorem at_lt {k : Nat} (h : k < ops.size) : at_ ops k < ops.size := by
  have hl : k < (drawOrder ops).length := by rw [drawOrder_length]; exact h
  have : at_ ops k = (drawOrder ops)[k] := by simp [at_, hl]
  rw [this]
  exact (drawOrder_mem _).1 (List.getElem_mem hl)
theorem at_ord {k1 k2 : Nat} (h : k1 < k2) (h2 : k2 < ops.size) : Ord ops (at_ ops k1) (at_ ops k2) := by
  have hl2 : k2 < (drawOrder ops).length := by rw [drawOrder_length]; exact h2
  have hl1 : k1 < (drawOrder ops).length := by omega
  have := drawOrder_ord h hl2
  simpa [at_, hl1, hl2] using this
theorem at_of {i : Nat} (h : i < ops.size) : ∃ k, k < ops.size ∧ at_ ops k = i := by
  obtain ⟨k, hk, e⟩ := List.getElem_of_mem ((drawOrder_mem (ops := ops) i).2 h)
  exact ⟨k, by rw [drawOrder_length] at hk; exact hk, by simp [at_, hk, e]⟩
theorem Reg.step' (g : Reg P ops cx st f) {k : Nat} (h : k < ops.size) : ∃ o, ops[at_ ops k]? = some o ∧ Step1 P ops cx (lifts ops (at_ ops k), o) (f k) (f (k + 1)) := by
  have hl : k < (drawOrder ops).length := by rw [drawOrder_length]; exact h
  have e : at_ ops k = (drawOrder ops)[k] := by simp [at_, hl]
  have hlt := at_lt h
  refine ⟨ops[at_ ops k], by simp [hlt], ?_⟩
  have := g.step k hl
  rw [← e] at this
  have hd : ops.getD (at_ ops k) default = ops[at_ ops k] := by simp [hlt]
  rw [hd] at this
  exact this
theorem Reg.foot' (g : Reg P ops cx st f) {q k : Nat} (hq : q < k) (h : k < ops.size) {o x : Oper} (ho : ops[at_ ops k]? = some o) (hx : ops[at_ ops q]? = some x) :
    FootOk ops (at_ ops k, rdOf o.op (f k).eval, wrOf o.op (f k).eval) (at_ ops q, rdOf x.op (f q).eval, wrOf x.op (f q).eval) := by
  have hl : k < (drawOrder ops).length := by rw [drawOrder_length]; exact h
  have hl2 : q < (drawOrder ops).length := by omega
  have e : at_ ops k = (drawOrder ops)[k] := by simp [at_, hl]
  have e2 : at_ ops q = (drawOrder ops)[q] := by simp [at_, hl2]
  have := g.foot q k hq hl
  rw [← e, ← e2] at this
  have hd : ops.getD (at_ ops k) default = o := by simp [ho]
  have hd2 : ops.getD (at_ ops q) default = x := by simp [hx]
  rw [hd, hd2] at this
  exact this
theorem Reg.next_le (g : Reg P ops cx st f) : ∀ {a b : Nat}, a ≤ b → b ≤ ops.size → (f a).next ≤ (f b).next := by
  intro a b hab hb
  induction b with
  | zero => have : a = 0 := by omega
            subst this; exact Nat.le_refl _
  | succ b ih =>
    by_cases e : a = b + 1
    · subst e; exact Nat.le_refl _
    · obtain ⟨o, _, s⟩ := g.step' (k := b) (by omega)
      exact Nat.le_trans (ih (by omega) (by omega)) s.inv.nxt
theorem Reg.bd (g : Reg P ops cx st f) (h0 : ∀ b, st.next ≤ b → mget st.mem b = none) : ∀ {k : Nat}, k ≤ ops.size → ∀ b, (f k).next ≤ b → mget (f k).mem b = none := by
  intro k hk
  induction k with
  | zero => rw [g.f0]; exact h0
  | succ k ih =>
    obtain ⟨o, _, s⟩ := g.step' (k := k) (by omega)
    exact s.inv.bd (ih (by omega))
theorem Reg.slot_stays (g : Reg P ops cx st f) {t : Tmp} : ∀ {a b : Nat}, a ≤ b → b ≤ ops.size → (∀ k o, a ≤ k → k < b → ops[at_ ops k]? = some o → o.dst ≠ some t) → (f b).tmp t = (f a).tmp t := by
  intro a b hab hb hno
  induction b with
  | zero => have : a = 0 := by omega
            subst this; rfl
  | succ b ih =>
    by_cases e : a = b + 1
    · subst e; rfl
    · obtain ⟨o, ho, s⟩ := g.step' (k := b) (by omega)
      rw [s.other (g.ob _ hb) t (hno b o (by omega) (by omega) ho)]
      exact ih (by omega) (by omega) fun k o h1 h2 => hno k o h1 (by omega)
def chainy (o : Oper) : Prop := kindOf o.op = .chain ∨ kindOf o.op = .call
theorem kinds (o : Oper) : kindOf o.op = .pure ∨ kindOf o.op = .read ∨ kindOf o.op = .alloc ∨ chainy o := by
  unfold chainy
  cases kindOf o.op <;> simp
theorem Reg.mem_stays (g : Reg P ops cx st f) : ∀ {a b : Nat}, a ≤ b → b ≤ ops.size → (∀ k o, a ≤ k → k < b → ops[at_ ops k]? = some o → kindOf o.op = .pure ∨ kindOf o.op = .read) → (f b).mem = (f a).mem ∧ (f b).next = (f a).next := by
  intro a b hab hb hno
  induction b with
  | zero => have : a = 0 := by omega
            subst this; exact ⟨rfl, rfl⟩
  | succ b ih =>
    by_cases e : a = b + 1
    · subst e; exact ⟨rfl, rfl⟩
    · obtain ⟨o, ho, s⟩ := g.step' (k := b) (by omega)
      obtain ⟨e1, e2⟩ := s.stay (hno b o (by omega) (by omega) ho)
      obtain ⟨e3, e4⟩ := ih (by omega) (by omega) fun k o h1 h2 => hno k o h1 (by omega)
      exact ⟨e1.trans e3, e2.trans e4⟩
theorem Reg.blk_stays (g : Reg P ops cx st f) {x : Nat} : ∀ {a b : Nat}, a ≤ b → b ≤ ops.size → x < (f a).next →
    (∀ k o, a ≤ k → k < b → ops[at_ ops k]? = some o → kindOf o.op = .pure ∨ kindOf o.op = .read ∨ (kindOf o.op = .call ∧ lifts ops (at_ ops k) = true) ∨ (kindOf o.op = .chain ∧ wrOf o.op (f k).eval ≠ some x)) → mget (f b).mem x = mget (f a).mem x := by
  intro a b hab hb hx hno
  induction b with
  | zero => have : a = 0 := by omega
            subst this; rfl
  | succ b ih =>
    by_cases e : a = b + 1
    · subst e; rfl
    · obtain ⟨o, ho, s⟩ := g.step' (k := b) (by omega)
      have ih := ih (by omega) (by omega) fun k o h1 h2 => hno k o h1 (by omega)
      rw [← ih]
      rcases hno b o (by omega) (by omega) ho with h1 | h1 | ⟨h1, h2⟩ | ⟨h1, h2⟩
      · rw [(s.stay (.inl h1)).1]
      · rw [(s.stay (.inr h1)).1]
      · exact s.lift h2 h1 x (Nat.lt_of_lt_of_le hx (g.next_le (by omega) (by omega)))
      · exact s.foot (g.ob _ hb) h1 x (Nat.lt_of_lt_of_le hx (g.next_le (by omega) (by omega))) h2
structure Inv (P : Program) (D : List Deferred) (ops : Array Oper) (cx : Ctx) (st : St) (f : Nat → St) (ρ0 : Rho) (w0 : World) (S : Nat → Bool) (p : Nat) (ρ : Rho) (a : Act) (w : World) : Prop where
  closed : Closed ops S
  defers : a.defers = D
  tsz : a.tmps.size = cx.n
  done : ∀ k o d, k < ops.size → ops[at_ ops k]? = some o → S (at_ ops k) = true → o.dst = some d → VRel ρ ((f (k + 1)).tmp d) (a.tmps.getD d undef)
  undone : ∀ t, (∀ i o, ops[i]? = some o → S i = true → o.dst ≠ some t) → VRel ρ (st.tmp t) (a.tmps.getD t undef)
  ple : p ≤ ops.size
  past : ∀ k o, k < ops.size → ops[at_ ops k]? = some o → kindOf o.op = .alloc → k < p
  chain : ∀ k o, k < ops.size → ops[at_ ops k]? = some o → chainy o → (S (at_ ops k) = true ↔ k < p)
  rel : Rel ρ (f p).mem (f p).next w
  ev : Ev ρ0 ρ cx.floor st.mem st.next (f p).mem (f p).next w0 w
  allocs : ∀ k o t z, k < ops.size → ops[at_ ops k]? = some o → o.op = .alloc t → zeroOf P t = some z → S (at_ ops k) = false → st.next ≤ (f k).next ∧ (f k).next < (f p).next ∧ ρ (f k).next = none ∧ mget (f p).mem (f k).next = some ⟨z, t, none⟩
theorem looksAt_operand {o : Oper} {t : Tmp} (h : Operand.tmp t ∈ o.op.operands) : t ∈ o.looksAt ops := by
  unfold Oper.looksAt
  rw [List.mem_append]
  left
  rw [List.mem_filterMap]
  exact ⟨.tmp t, Array.mem_toList_iff.2 h, rfl⟩
theorem looksAt_guard {o : Oper} {d : Tmp} (h : guardSlot ops o = some d) : d ∈ o.looksAt ops := by
  unfold Oper.looksAt
  rw [List.mem_append]
  right
  unfold guardSlot at h
  cases hg : o.guard with
  | none => rw [hg] at h; cases h
  | some g =>
    obtain ⟨j, want⟩ := g
    rw [hg] at h
    simp only [Option.bind_some] at h
    simp [h]
theorem alloc_looks (g : Reg P ops cx st f) {i : Nat} {o : Oper} (ho : ops[i]? = some o) (hk : kindOf o.op = .alloc) : o.looksAt ops = [] := by
  unfold Oper.looksAt
  rw [g.chk.guard i o ho hk]
  obtain ⟨dst, op, type, pos, after, guard⟩ := o
  simp only at hk ⊢
  cases op with
  | alloc t => rfl
  | call c =>
    obtain ⟨callee, args, argTypes⟩ := c
    cases callee with
    | builtin b => cases b <;> cases hk
    | value f => cases hk
    | invoke r m => cases hk
  | _ => cases hk
section
variable {D : List Deferred} {ρ0 : Rho} {w0 : World} {S : Nat → Bool} {p : Nat} {ρ : Rho} {a : Act} {w : World}
theorem distinct (g : Reg P ops cx st f) {i j : Nat} {x y : Oper} {d : Tmp} (hi : ops[i]? = some x) (hj : ops[j]? = some y) (hx : x.dst = some d) (hy : y.dst = some d) : i = j := by
  rcases Nat.lt_trichotomy i j with h | h | h
  · exact absurd hy (g.chk.dst i j x y d h hi hj hx)
  · exact h
  · exact absurd hx (g.chk.dst j i y x d h hj hi hy)
theorem Inv.looks (g : Reg P ops cx st f) (I : Inv P D ops cx st f ρ0 w0 S p ρ a w) {k : Nat} {o : Oper} (hk : k < ops.size) (ho : ops[at_ ops k]? = some o) (hns : S (at_ ops k) = false) (hready : Ready S o) {t : Tmp} (ht : t ∈ o.looksAt ops) :
    VRel ρ ((f k).tmp t) (a.tmps.getD t undef) := by
  by_cases hw : ∃ i x, ops[i]? = some x ∧ S i = true ∧ x.dst = some t
  · obtain ⟨i, x, hx, hs, hd⟩ := hw
    have hil : i < ops.size := (Array.getElem?_eq_some_iff.1 hx).1
    obtain ⟨k', hk', rfl⟩ := at_of hil
    have hne : k' ≠ k := fun e => by rw [e, hns] at hs; cases hs
    have hlt : k' < k := by
      rcases Nat.lt_or_ge k' k with h | h
      · exact h
      · exfalso
        have hkk : k < k' := by omega
        rcases Nat.lt_trichotomy (at_ ops k) (at_ ops k') with hij | hij | hij
        · rcases g.chk.pair _ _ _ _ hij ho hx with hf | ⟨hap, _⟩
          · have := hf S I.closed (fun e he hb => I.closed _ _ hx hs e he hb)
            rw [hns] at this; cases this
          · obtain ⟨_, _, h3⟩ := Oper.apart_spec hap
            exact h3 t hd ht
        · rw [hij, hs] at hns; cases hns
        · rcases at_ord hkk hk' with ⟨h1, _⟩ | ⟨_, h2⟩
          · rw [alloc_looks g ho ((isAlloc_iff ho).1 h1)] at ht; cases ht
          · omega
    have hst : (f k).tmp t = (f (k' + 1)).tmp t := g.slot_stays (by omega) (by omega) fun q y h1 h2 hy hyd => by
      have := distinct g hx hy hd hyd
      have e : at_ ops k' = at_ ops q := this
      rcases at_ord (ops := ops) (k1 := k') (k2 := q) (by omega) (by omega) with ⟨h1, h2⟩ | ⟨_, h2⟩
      · rw [e, h2] at h1; cases h1
      · omega
    rw [hst]
    exact I.done k' x t hk' hx hs hd
  · have hno : ∀ i x, ops[i]? = some x → S i = true → x.dst ≠ some t := fun i x hx hs hd => hw ⟨i, x, hx, hs, hd⟩
    have hst : (f k).tmp t = (f 0).tmp t := g.slot_stays (Nat.zero_le _) (by omega) fun q y _ h2 hy hyd => by
      have hqs : S (at_ ops q) = false := by
        cases e : S (at_ ops q) with
        | false => rfl
        | true => exact absurd hyd (hno _ y hy e)
      rcases Nat.lt_trichotomy (at_ ops q) (at_ ops k) with hij | hij | hij
      · rcases g.chk.pair _ _ _ _ hij hy ho with hf | ⟨hap, _⟩
        · have := hf S I.closed hready
          rw [hqs] at this; cases this
        · obtain ⟨h1, _, _⟩ := Oper.apart_spec hap
          exact h1 t hyd ht
      · rcases at_ord (ops := ops) h2 hk with ⟨h1, h3⟩ | ⟨_, h3⟩
        · rw [hij, h3] at h1; cases h1
        · omega
      · rcases at_ord (ops := ops) h2 hk with ⟨h1, _⟩ | ⟨_, h3⟩
        · have hap := g.chk.alloc _ _ _ _ hij ho hy ((isAlloc_iff hy).1 h1)
          obtain ⟨_, _, h3⟩ := Oper.apart_spec hap
          exact h3 t hyd ht
        · omega
    rw [hst, g.f0]
    exact I.undone t hno
theorem Inv.operands (g : Reg P ops cx st f) (I : Inv P D ops cx st f ρ0 w0 S p ρ a w) {k : Nat} {o : Oper} (hk : k < ops.size) (ho : ops[at_ ops k]? = some o) (hns : S (at_ ops k) = false) (hready : Ready S o) : OpsRel ρ (f k).eval a.eval o.op := by
  intro x hx
  cases x with
  | tmp t => exact I.looks g hk ho hns hready (looksAt_operand hx)
  | const v => exact ofV_rel v
  | global g => exact .undef _
  | func f => exact .fn f [] #[] rfl fun i h1 _ => by simp at h1
theorem Inv.slots (g : Reg P ops cx st f) (I : Inv P D ops cx st f ρ0 w0 S p ρ a w) {k : Nat} {o : Oper} (hk : k < ops.size) (ho : ops[at_ ops k]? = some o) (hns : S (at_ ops k) = false) {ρ' : Rho} (hle : ρ.le ρ') {u : Value}
    (hval : ∀ d, o.dst = some d → VRel ρ' ((f (k + 1)).tmp d) u) {S' : Nat → Bool} (hS : ∀ i, S' i = (S i || i == at_ ops k)) :
    (∀ k' x d, k' < ops.size → ops[at_ ops k']? = some x → S' (at_ ops k') = true → x.dst = some d → VRel ρ' ((f (k' + 1)).tmp d) ((a.put o.dst u).tmps.getD d undef)) ∧
    (∀ t, (∀ i x, ops[i]? = some x → S' i = true → x.dst ≠ some t) → VRel ρ' (st.tmp t) ((a.put o.dst u).tmps.getD t undef)) := by
  have other : ∀ t, o.dst ≠ some t → (a.put o.dst u).tmps.getD t undef = a.tmps.getD t undef := fun t ht => by
    cases hd : o.dst with
    | none => rfl
    | some d =>
      have hne : d ≠ t := fun e => ht (by rw [hd, e])
      simp [Act.put, Array.getElem?_setIfInBounds_ne hne]
  obtain ⟨_, ho', s⟩ := g.step' hk
  rw [ho] at ho'
  obtain rfl := Option.some.inj ho'
  refine ⟨fun k' x d hk' hx hs hd => ?_, fun t hno => ?_⟩
  · by_cases hod : o.dst = some d
    · have e := distinct g ho hx hod hd
      have hkk : k' = k := by
        rcases Nat.lt_trichotomy k' k with h | h | h
        · rcases at_ord (ops := ops) h hk with ⟨h1, h3⟩ | ⟨_, h3⟩
          · rw [← e, h3] at h1; cases h1
          · omega
        · exact h
        · rcases at_ord (ops := ops) h hk' with ⟨h1, h3⟩ | ⟨_, h3⟩
          · rw [e, h3] at h1; cases h1
          · omega
      subst hkk
      have hlt : d < a.tmps.size := by rw [I.tsz]; exact s.slot d hod
      have : (a.put o.dst u).tmps.getD d undef = u := by simp [Act.put, hod, hlt]
      rw [this]
      exact hval d hod
    · rw [other d hod]
      have hne : at_ ops k' ≠ at_ ops k := fun e => by
        rw [e, ho] at hx
        obtain rfl := Option.some.inj hx
        exact hod hd
      have hs' : S (at_ ops k') = true := by
        rw [hS] at hs
        simpa [hne] using hs
      exact (I.done k' x d hk' hx hs' hd).mono hle
  · have hod : o.dst ≠ some t := hno _ o ho (by rw [hS]; simp)
    rw [other t hod]
    exact (I.undone t fun i x hx hs => hno i x hx (by rw [hS, hs]; rfl)).mono hle
theorem Inv.closes (I : Inv P D ops cx st f ρ0 w0 S p ρ a w) {i : Nat} {o : Oper} (ho : ops[i]? = some o) (hready : Ready S o) {S' : Nat → Bool} (hS : ∀ j, S' j = (S j || j == i)) : Closed ops S' := by
  intro j x hx hs e he hb
  rw [hS] at hs ⊢
  by_cases hj : j = i
  · subst hj
    rw [ho] at hx
    obtain rfl := Option.some.inj hx
    rw [hready e he hb]; rfl
  · have : S j = true := by simpa [hj] using hs
    rw [I.closed j x hx this e he hb]; rfl
theorem Inv.between (g : Reg P ops cx st f) (I : Inv P D ops cx st f ρ0 w0 S p ρ a w) {k : Nat} {o : Oper} (hk : k < ops.size) (ho : ops[at_ ops k]? = some o) (hns : S (at_ ops k) = false) (hready : Ready S o) (hread : kindOf o.op = .read) {b : Nat} (hb : rdOf o.op (f k).eval = some b) :
    (∀ q x, p ≤ q → q < k → ops[at_ ops q]? = some x → kindOf x.op = .pure ∨ kindOf x.op = .read ∨ (kindOf x.op = .call ∧ lifts ops (at_ ops q) = true) ∨ (kindOf x.op = .chain ∧ wrOf x.op (f q).eval ≠ some b)) ∧
    (∀ q x, k ≤ q → q < p → ops[at_ ops q]? = some x → kindOf x.op = .pure ∨ kindOf x.op = .read ∨ (kindOf x.op = .call ∧ lifts ops (at_ ops q) = true) ∨ (kindOf x.op = .chain ∧ wrOf x.op (f q).eval ≠ some b)) := by
  have nal : isAlloc ops (at_ ops k) = false := by
    cases e : isAlloc ops (at_ ops k) with
    | false => rfl
    | true => have := (isAlloc_iff ho).1 e; rw [hread] at this; cases this
  constructor
  · intro q x h1 h2 hx
    rcases kinds x with h | h | h | h
    · exact .inl h
    · exact .inr (.inl h)
    · have := I.past q x (by omega) hx h; omega
    · have hqs : S (at_ ops q) = false := by
        cases e : S (at_ ops q) with
        | false => rfl
        | true => have := (I.chain q x (by omega) hx h).1 e; omega
      have hlt : at_ ops q < at_ ops k := by
        rcases at_ord (ops := ops) h2 hk with ⟨h3, _⟩ | ⟨_, h3⟩
        · have := I.past q x (by omega) hx ((isAlloc_iff hx).1 h3); omega
        · exact h3
      rcases g.chk.pair _ _ _ _ hlt hx ho with hf | ⟨_, hkd, hl, _⟩
      · have := hf S I.closed hready
        rw [hqs] at this; cases this
      · rcases h with h | h
        · refine .inr (.inr (.inr ⟨h, fun hw => ?_⟩))
          have := g.foot' h2 hk ho hx (.inl (by rw [hb, hw]; exact Nat.beq_refl b))
          unfold ordered at this
          simp only [Bool.or_eq_true] at this
          rcases this with this | this
          · have := (g.chk.bits _ _ hx _ this).1; omega
          · have := (g.chk.bits _ _ ho _ this).2 S I.closed hready
            rw [hqs] at this; cases this
        · exact .inr (.inr (.inl ⟨h, hl hread⟩))
  · intro q x h1 h2 hx
    have hp := I.ple
    rcases kinds x with h | h | h | h
    · exact .inl h
    · exact .inr (.inl h)
    · by_cases hqk : q = k
      · subst hqk; rw [ho] at hx; obtain rfl := Option.some.inj hx; rw [hread] at h; cases h
      · rcases at_ord (ops := ops) (k1 := k) (k2 := q) (by omega) (by omega) with ⟨h3, _⟩ | ⟨h3, _⟩
        · rw [nal] at h3; cases h3
        · rw [nal, (isAlloc_iff hx).2 h] at h3; cases h3
    · have hqs : S (at_ ops q) = true := (I.chain q x (by omega) hx h).2 h2
      have hne : q ≠ k := fun e => by rw [e, hns] at hqs; cases hqs
      have hlt : at_ ops k < at_ ops q := by
        rcases at_ord (ops := ops) (k1 := k) (k2 := q) (by omega) (by omega) with ⟨h3, _⟩ | ⟨_, h3⟩
        · rw [nal] at h3; cases h3
        · exact h3
      rcases g.chk.pair _ _ _ _ hlt ho hx with hf | ⟨_, hkd, _, hl⟩
      · have := hf S I.closed fun e he hb => I.closed _ _ hx hqs e he hb
        rw [hns] at this; cases this
      · rcases h with h | h
        · refine .inr (.inr (.inr ⟨h, fun hw => ?_⟩))
          have := g.foot' (q := k) (k := q) (by omega) (by omega) hx ho (.inr (by rw [hb, hw]; exact Nat.beq_refl b))
          unfold ordered at this
          simp only [Bool.or_eq_true] at this
          rcases this with this | this
          · have := (g.chk.bits _ _ ho _ this).1; omega
          · have := (g.chk.bits _ _ hx _ this).2 S I.closed fun e he hb => I.closed _ _ hx hqs e he hb
            rw [hns] at this; cases this
        · exact .inr (.inr (.inl ⟨h, hl hread⟩))
theorem Inv.next_chain (g : Reg P ops cx st f) (I : Inv P D ops cx st f ρ0 w0 S p ρ a w) {k : Nat} {o : Oper} (hk : k < ops.size) (ho : ops[at_ ops k]? = some o) (hns : S (at_ ops k) = false) (hready : Ready S o) (hch : chainy o) :
    p ≤ k ∧ (∀ q x, q < ops.size → ops[at_ ops q]? = some x → chainy x → (S (at_ ops q) = true ↔ q < k)) := by
  have nal : isAlloc ops (at_ ops k) = false := by
    cases e : isAlloc ops (at_ ops k) with
    | false => rfl
    | true => have := (isAlloc_iff ho).1 e; rcases hch with h | h <;> rw [h] at this <;> cases this
  have key : ∀ q x, q < ops.size → ops[at_ ops q]? = some x → chainy x → (S (at_ ops q) = true ↔ q < k) := by
    intro q x hq hx hxc
    have nalx : isAlloc ops (at_ ops q) = false := by
      cases e : isAlloc ops (at_ ops q) with
      | false => rfl
      | true => have := (isAlloc_iff hx).1 e; rcases hxc with h | h <;> rw [h] at this <;> cases this
    have nok : ∀ (x y : Oper), chainy x → chainy y → kindsOk (kindOf x.op) (kindOf y.op) = false := by
      intro x y hx hy
      rcases hx with h | h <;> rcases hy with h' | h' <;> rw [h, h'] <;> rfl
    constructor
    · intro hs
      rcases Nat.lt_trichotomy q k with h | h | h
      · exact h
      · subst h; rw [hns] at hs; cases hs
      · exfalso
        have hlt : at_ ops k < at_ ops q := by
          rcases at_ord (ops := ops) h hq with ⟨h3, _⟩ | ⟨_, h3⟩
          · rw [nal] at h3; cases h3
          · exact h3
        rcases g.chk.pair _ _ _ _ hlt ho hx with hf | ⟨_, hkd, _⟩
        · have := hf S I.closed fun e he hb => I.closed _ _ hx hs e he hb
          rw [hns] at this; cases this
        · rw [nok o x hch hxc] at hkd; cases hkd
    · intro h
      have hlt : at_ ops q < at_ ops k := by
        rcases at_ord (ops := ops) h hk with ⟨h3, _⟩ | ⟨_, h3⟩
        · rw [nalx] at h3; cases h3
        · exact h3
      rcases g.chk.pair _ _ _ _ hlt hx ho with hf | ⟨_, hkd, _⟩
      · exact hf S I.closed hready
      · rw [nok x o hxc hch] at hkd; cases hkd
  refine ⟨?_, key⟩
  rcases Nat.lt_or_ge k p with h | h
  · have := (I.chain k o hk ho hch).2 h
    rw [hns] at this; cases this
  · exact h
end
end
end Go.Am
end
section
set_option linter.unusedVariables false
set_option linter.unusedSimpArgs false
namespace Go.Am
section
variable {P : Program} {D : List Deferred} {ops : Array Oper} {cx : Ctx} {st : St} {f : Nat → St}
theorem alloc_run {ρ : Rho} {o : Oper} {t : TypeId} {z : List AVal} (ho : o.op = .alloc t) (hz : zeroOf P t = some z) (a : Act) (w : World) :
    ∃ vs : Array Value, VRels ρ z vs ∧ (execOp a.eval o).run P w = .ok (.value (.pointer (some ⟨w.heap.size, 0, none⟩))) { w with heap := w.heap.push (.cells vs t) } := by
  obtain ⟨dst, op, type, pos, after, guard⟩ := o
  simp only at ho
  subst ho
  obtain ⟨_, zv, _, _, hzr, hzv⟩ := zeroOf_sound (ρ := ρ) hz
  exact ⟨zv.cells, hzr, by simp [execOp, Instr.alloc, hzv, newVar, newRow]⟩
theorem draw_any (g : Reg P ops cx st f) {ρ0 : Rho} {w0 : World} (hout : ∀ i, cx.n ≤ i → T.get .undef st.env i = .undef) (hbd : ∀ b, st.next ≤ b → mget st.mem b = none) : ∀ (fuel : Nat) (listed : Array Bool) (p : Nat) (ρ : Rho) (a : Act) (w : World), listed.size = ops.size →
    (List.range ops.size).countP (fun i => !listed.getD i false) = fuel → Inv P D ops cx st f ρ0 w0 (fun i => listed.getD i false) p ρ a w → wpAny P .any ops (Fin D ρ0 cx st (f ops.size) w0) fuel listed a w := by
  have someReady : ∀ listed : Array Bool, listed.size = ops.size → ∀ i, i < ops.size → listed.getD i false = false → ∃ j, j ∈ Region.ready .any ops listed := by
    intro listed hsz i
    induction i using Nat.strongRecOn with
    | _ i ih =>
      intro hi hl
      by_cases h : ∃ e ∈ (ops[i]).after.toList, Region.binds .any e = true ∧ listed.getD e.on false = false
      · obtain ⟨e, he, hb, hf⟩ := h
        have hlt := g.chk.ord i ops[i] (by simp [hi]) e he hb
        exact ih e.on hlt (by omega) hf
      · refine ⟨i, mem_ready.2 ⟨?_, ops[i], by simp [hi], fun e he hb => ?_⟩⟩
        · have : i < listed.size := by omega
          simpa [this] using hl
        · cases hf : listed.getD e.on false with
          | true => rfl
          | false => exact absurd ⟨e, Array.mem_toList_iff.2 he, hb, hf⟩ h
  intro fuel
  induction fuel with
  | zero =>
    intro listed p ρ a w hsz hcnt I
    have hall : ∀ i, i < ops.size → listed.getD i false = true := by
      intro i hi
      have := List.countP_eq_zero.1 hcnt i (List.mem_range.2 hi)
      simpa using this
    refine ⟨?_, rfl, I.defers, ρ, ?_, ?_, ?_⟩
    · cases hr : Region.ready .any ops listed with
      | nil => rfl
      | cons j r =>
        have hj : j ∈ Region.ready .any ops listed := by rw [hr]; simp
        obtain ⟨h1, o, ho, _⟩ := mem_ready.1 hj
        have hjl : j < ops.size := (Array.getElem?_eq_some_iff.1 ho).1
        have := hall j hjl
        have hj2 : j < listed.size := by omega
        simp [hj2] at h1 this
        rw [h1] at this; cases this
    · refine ⟨I.tsz, fun t => ?_, fun i hi => ?_⟩
      · by_cases hw : ∃ (i : Nat) (x : Oper), ops[i]? = some x ∧ x.dst = some t
        · obtain ⟨i, x, hx, hd⟩ := hw
          have hil : i < ops.size := (Array.getElem?_eq_some_iff.1 hx).1
          obtain ⟨k, hk, rfl⟩ := at_of hil
          have hst : (f ops.size).tmp t = (f (k + 1)).tmp t := g.slot_stays (by omega) (Nat.le_refl _) fun q y h1 h2 hy hyd => by
            have e : at_ ops k = at_ ops q := distinct g hx hy hd hyd
            rcases at_ord (ops := ops) (k1 := k) (k2 := q) (by omega) h2 with ⟨h3, h4⟩ | ⟨_, h4⟩
            · rw [e, h4] at h3; cases h3
            · omega
          show VRel ρ ((f ops.size).tmp t) _
          rw [hst]
          exact I.done k x t hk hx (hall _ hil) hd
        · have hst : (f ops.size).tmp t = (f 0).tmp t := g.slot_stays (Nat.zero_le _) (Nat.le_refl _) fun q y _ h2 hy hyd => hw ⟨_, y, hy, hyd⟩
          show VRel ρ ((f ops.size).tmp t) _
          rw [hst, g.f0]
          exact I.undone t fun i x hx _ hd => hw ⟨i, x, hx, hd⟩
      · have hst : (f ops.size).tmp i = (f 0).tmp i := g.slot_stays (Nat.zero_le _) (Nat.le_refl _) fun q y _ h2 hy hyd => by
          obtain ⟨o, ho, s⟩ := g.step' h2
          rw [hy] at ho
          obtain rfl := Option.some.inj ho
          exact absurd hi (Nat.not_le_of_lt (s.slot i hyd))
        show (f ops.size).tmp i = _
        rw [hst, g.f0]
        exact hout i hi
    · obtain ⟨e1, e2⟩ := g.mem_stays I.ple (Nat.le_refl _) fun k o h1 h2 ho => by
        rcases kinds o with h | h | h | h
        · exact .inl h
        · exact .inr h
        · have := I.past k o h2 ho h; omega
        · have := (I.chain k o h2 ho h).1 (hall _ (at_lt h2)); omega
      rw [e1, e2]; exact I.rel
    · obtain ⟨e1, e2⟩ := g.mem_stays I.ple (Nat.le_refl _) fun k o h1 h2 ho => by
        rcases kinds o with h | h | h | h
        · exact .inl h
        · exact .inr h
        · have := I.past k o h2 ho h; omega
        · have := (I.chain k o h2 ho h).1 (hall _ (at_lt h2)); omega
      rw [e1, e2]; exact I.ev
  | succ fuel ih =>
    intro listed p ρ a w hsz hcnt I
    refine ⟨fun hr => ?_, fun i hi => ?_⟩
    · exfalso
      have : ∃ i, i < ops.size ∧ listed.getD i false = false := by
        have hpos : 0 < (List.range ops.size).countP (fun i => !listed.getD i false) := by omega
        obtain ⟨i, hi, h⟩ := List.countP_pos_iff.1 hpos
        exact ⟨i, List.mem_range.1 hi, by simpa using h⟩
      obtain ⟨i, hi, h⟩ := this
      obtain ⟨j, hj⟩ := someReady listed hsz i hi h
      rw [hr] at hj; cases hj
    · obtain ⟨hun, o, ho, hafter⟩ := mem_ready.1 hi
      have hil : i < ops.size := (Array.getElem?_eq_some_iff.1 ho).1
      obtain ⟨k, hk, rfl⟩ := at_of hil
      have hil2 : at_ ops k < listed.size := by omega
      have hns : listed.getD (at_ ops k) false = false := by simpa [hil2] using hun
      have hready : Ready (fun i => listed.getD i false) o := fun e he hb => hafter e (Array.mem_toList_iff.1 he) hb
      have hS : ∀ j, (listed.setIfInBounds (at_ ops k) true).getD j false = (listed.getD j false || j == at_ ops k) := by
        intro j
        by_cases hj : j = at_ ops k
        · subst hj; simp [hil2]
        · have : (j == at_ ops k) = false := by simpa using hj
          simp [this, Array.getElem?_setIfInBounds_ne (Ne.symm hj)]
      have hcnt' : (List.range ops.size).countP (fun i => !(listed.setIfInBounds (at_ ops k) true).getD i false) = fuel := by
        have := countP_update (fun i => !listed.getD i false) (fun i => !(listed.setIfInBounds (at_ ops k) true).getD i false) (at_ ops k) ops.size (fun j hj => by
          rw [hS]; simp [hj]) (by simp only [hns]; rfl) (by rw [hS]; simp) hil
        omega
      have hsz' : (listed.setIfInBounds (at_ ops k) true).size = ops.size := by simpa using hsz
      have hclosed := I.closes ho hready hS
      obtain ⟨o', ho', s⟩ := g.step' hk
      rw [ho] at ho'
      obtain rfl := Option.some.inj ho'
      have hops := I.operands g hk ho hns hready
      have hguard : ∀ d, guardSlot ops o = some d → VRel ρ ((f k).tmp d) (a.tmps.getD d undef) := fun d hd => I.looks g hk ho hns hready (looksAt_guard hd)
      have hob := g.ob (k + 1) (by omega)
      have finish : ∀ {q : Prop}, (if Region.wanted o (yielded ops a.tmps) then o.wp P a w (wpAny P .any ops (Fin D ρ0 cx st (f ops.size) w0) fuel (listed.setIfInBounds (at_ ops k) true)) (Fin D ρ0 cx st (f ops.size) w0) else wpAny P .any ops (Fin D ρ0 cx st (f ops.size) w0) fuel (listed.setIfInBounds (at_ ops k) true) (a.put o.dst undef) w) →
          wpOp P ops (Fin D ρ0 cx st (f ops.size) w0) (at_ ops k) (wpAny P .any ops (Fin D ρ0 cx st (f ops.size) w0) fuel (listed.setIfInBounds (at_ ops k) true)) a w := by
        intro _ h
        unfold wpOp
        rw [ho]
        simp only
        split
        · rename_i hw; rw [if_pos hw] at h; exact .inl h
        · rename_i hw; rw [if_neg hw] at h; exact h
      have calm : (kindOf o.op = .pure ∨ kindOf o.op = .read) → wpOp P ops (Fin D ρ0 cx st (f ops.size) w0) (at_ ops k) (wpAny P .any ops (Fin D ρ0 cx st (f ops.size) w0) fuel (listed.setIfInBounds (at_ ops k) true)) a w := by
        intro hkd
        refine finish (q := True) (s.calm hob hkd ρ a w (f k).eval (f p).mem (f p).next I.tsz (fun _ _ => rfl) hguard hops I.rel ?_ _ _ fun u hval => ?_)
        · intro t y b ab hop hrd hm
          have hread : kindOf o.op = .read := by rw [hop]; rfl
          obtain ⟨b1, b2⟩ := I.between g hk ho hns hready hread hrd
          have hρ : ∃ l, ρ b = some l := by
            have := hops y (by rw [hop]; simp [Op.operands])
            rw [hop] at hrd
            simp only [rdOf] at hrd
            generalize a.eval y = uy at this
            split at hrd
            · rename_i hy
              rw [hy] at this
              obtain rfl := Option.some.inj hrd
              cases this with
              | ptr _ _ l h => exact ⟨l, h⟩
            · rename_i hy
              rw [hy] at this
              obtain rfl := Option.some.inj hrd
              cases this with
              | epa _ _ _ _ l h => exact ⟨l, h⟩
            · cases hrd
          obtain ⟨l, hl⟩ := hρ
          rcases Nat.le_total p k with hpk | hpk
          · have := g.blk_stays (x := b) hpk (by omega) (I.rel.dom b l hl) b1
            rw [← this]; exact hm
          · have hbn : b < (f k).next := by
              rcases Nat.lt_or_ge b (f k).next with h | h
              · exact h
              · rw [g.bd hbd (by omega) b h] at hm; cases hm
            have := g.blk_stays (x := b) hpk I.ple hbn b2
            rw [this]; exact hm
        · obtain ⟨d1, d2⟩ := I.slots g hk ho hns (Rho.le_refl ρ) hval hS
          refine ih _ p ρ _ w hsz' hcnt' ⟨hclosed, by rw [Act.put_defers']; exact I.defers, by cases h : o.dst <;> simp [Act.put, I.tsz], d1, d2, I.ple, I.past, fun q x hq hx hc => ?_, I.rel, I.ev, fun q x t z hq hx hop hz hs => ?_⟩
          · have hne : at_ ops q ≠ at_ ops k := fun e => by
              rw [e, ho] at hx
              obtain rfl := Option.some.inj hx
              rcases hc with h | h <;> rcases hkd with h' | h' <;> rw [h] at h' <;> cases h'
            rw [hS]
            simpa [hne] using I.chain q x hq hx hc
          · rw [hS] at hs
            simp only [Bool.or_eq_false_iff] at hs
            exact I.allocs q x t z hq hx hop hz hs.1
      rcases kinds o with hkd | hkd | hkd | hkd
      · exact calm (.inl hkd)
      · exact calm (.inr hkd)
      · -- a variable is made
        obtain ⟨t, z, hop, hz, _, _, hptr⟩ := s.alloc hkd (g.chk.guard _ o ho hkd)
        obtain ⟨l1, l2, l3, l4⟩ := I.allocs k o t z hk ho hop hz hns
        obtain ⟨vs, hvs, hrun⟩ := alloc_run (P := P) (ρ := ρ) hop hz a w
        have hrel' := I.rel.birth l2 l3 l4 t hvs
        refine finish (q := True) ?_
        rw [if_pos (by unfold Region.wanted; rw [g.chk.guard _ o ho hkd])]
        unfold Oper.wp
        rw [hrun]
        have hle : ρ.le (rhoAdd ρ (f k).next ⟨w.heap.size, 0, z.length, vs.size⟩) := rhoAdd_le l3
        obtain ⟨d1, d2⟩ := I.slots g hk ho hns hle (u := .pointer (some ⟨w.heap.size, 0, none⟩)) (fun d hd => by
          rw [hptr d hd]
          exact .ptr _ 0 ⟨w.heap.size, 0, z.length, vs.size⟩ (by simp [rhoAdd])) hS
        have ev' : Ev ρ0 (rhoAdd ρ (f k).next ⟨w.heap.size, 0, z.length, vs.size⟩) cx.floor st.mem st.next (f p).mem (f p).next w0 { w with heap := w.heap.push (.cells vs t) } := by
          have e := I.ev
          refine ⟨Rho.le_trans e.ext hle, fun b hb => ?_, e.nxt, e.unborn, fun q ob hq hf => ?_, fun b l hb hl => ?_, ?_, e.os, e.tape, e.output, e.still⟩
          · rw [← e.new b hb]; rw [rhoAdd_get, if_neg (by omega)]
          · have := e.frame q ob hq hf
            have hlt : q < w.heap.size := (Array.getElem?_eq_some_iff.1 this).1
            simp only [Array.getElem?_push, Nat.ne_of_lt hlt, if_false]
            exact this
          · rw [rhoAdd_get] at hl
            by_cases hbk : b = (f k).next
            · rw [if_pos hbk] at hl
              obtain rfl := Option.some.inj hl
              exact .inl e.size
            · rw [if_neg hbk] at hl; exact e.fresh b l hb hl
          · have := e.size; simp; omega
        refine ih _ p _ _ _ hsz' hcnt' ⟨hclosed, by rw [Act.put_defers']; exact I.defers, by cases h : o.dst <;> simp [Act.put, I.tsz], d1, d2, I.ple, I.past, fun q x hq hx hc => ?_, hrel', ev', fun q x t' z' hq hx hop' hz' hs => ?_⟩
        · have hne : at_ ops q ≠ at_ ops k := fun e => by
            rw [e, ho] at hx
            obtain rfl := Option.some.inj hx
            rcases hc with h | h <;> rw [h] at hkd <;> cases hkd
          rw [hS]
          simpa [hne] using I.chain q x hq hx hc
        · rw [hS] at hs
          simp only [Bool.or_eq_false_iff] at hs
          obtain ⟨m1, m2, m3, m4⟩ := I.allocs q x t' z' hq hx hop' hz' hs.1
          refine ⟨m1, m2, ?_, m4⟩
          have hne : (f q).next ≠ (f k).next := by
            have hqk : q ≠ k := fun e => by rw [e] at hs; simp at hs
            have up : ∀ q x t z, q < ops.size → ops[at_ ops q]? = some x → x.op = .alloc t → zeroOf P t = some z → (f (q + 1)).next = (f q).next + 1 := by
              intro q x t z hq hx hop hz
              obtain ⟨x', hx', s'⟩ := g.step' hq
              rw [hx] at hx'
              obtain rfl := Option.some.inj hx'
              have hkx : kindOf x.op = .alloc := by rw [hop]; rfl
              obtain ⟨_, _, _, _, _, h6, _⟩ := s'.alloc hkx (g.chk.guard _ x hx hkx)
              exact h6
            rcases Nat.lt_trichotomy q k with h | h | h
            · have h1 := up q x t' z' hq hx hop' hz'
              have h2 := g.next_le (a := q + 1) (b := k) (by omega) (by omega)
              omega
            · exact absurd h hqk
            · have h1 := up k o t z hk ho hop hz
              have h2 := g.next_le (a := k + 1) (b := q) (by omega) (by omega)
              omega
          rw [rhoAdd_get]
          rw [if_neg hne]; exact m3
      · -- the next one that may write
        obtain ⟨hpk, hch⟩ := I.next_chain g hk ho hns hready hkd
        obtain ⟨e1, e2⟩ := g.mem_stays hpk (by omega) fun q x h1 h2 hx => by
          rcases kinds x with h | h | h | h
          · exact .inl h
          · exact .inr h
          · have := I.past q x (by omega) hx h; omega
          · have := (I.chain q x (by omega) hx h).1 ((hch q x (by omega) hx h).2 h2); omega
        have hrel : Rel ρ (f k).mem (f k).next w := by rw [e1, e2]; exact I.rel
        refine finish (q := True) (s.does hob ρ a w (f k).eval I.tsz (fun _ _ => rfl) hguard hops hrel _ _ fun ρ' u w' hval hrel' hev => ?_)
        obtain ⟨d1, d2⟩ := I.slots g hk ho hns hev.ext hval hS
        rw [e1, e2] at hev
        refine ih _ (k + 1) ρ' _ w' hsz' hcnt' ⟨hclosed, by rw [Act.put_defers']; exact I.defers, by cases h : o.dst <;> simp [Act.put, I.tsz], d1, d2, by omega, fun q x hq hx hc => by have := I.past q x hq hx hc; omega, fun q x hq hx hc => ?_, hrel', I.ev.trans hev, fun q x t z hq hx hop hz hs => ?_⟩
        · rw [hS]
          by_cases hqk : q = k
          · subst hqk; simp
          · have hne : at_ ops q ≠ at_ ops k := fun e => by
              rcases Nat.lt_or_ge q k with h | h
              · rcases at_ord (ops := ops) h hk with ⟨h3, h4⟩ | ⟨_, h4⟩
                · rw [e, h4] at h3; cases h3
                · omega
              · rcases at_ord (ops := ops) (k1 := k) (k2 := q) (by omega) hq with ⟨h3, h4⟩ | ⟨_, h4⟩
                · rw [← e, h4] at h3; cases h3
                · omega
            have := hch q x hq hx hc
            simp only [beq_eq_false_iff_ne.2 hne, Bool.or_false]
            rw [this]; omega
        · rw [hS] at hs
          simp only [Bool.or_eq_false_iff] at hs
          obtain ⟨m1, m2, m3, m4⟩ := I.allocs q x t z hq hx hop hz hs.1
          refine ⟨m1, Nat.lt_of_lt_of_le m2 hev.nxt, by rw [hev.new _ m2]; exact m3, hev.unborn _ m2 m3 _ _ m4⟩
theorem inv_start (g : Reg P ops cx st f) {ρ : Rho} {a : Act} {w : World} (hd : a.defers = D) (henv : EnvRel ρ st.env cx.n a.tmps) (hrel : Rel ρ st.mem st.next w) :
    ∃ p, Inv P D ops cx st f ρ w (fun i => (Array.replicate ops.size false).getD i false) p ρ a w := by
  have hf : ∀ i, (Array.replicate ops.size false).getD i false = false := fun i => by
    by_cases h : i < ops.size
    · simp [h]
    · simp [h]
  have hA : ∃ p, p ≤ ops.size ∧ ∀ k o, k < ops.size → ops[at_ ops k]? = some o → (kindOf o.op = .alloc ↔ k < p) := by
    have hmono : ∀ k1 k2, k1 < k2 → k2 < ops.size → isAlloc ops (at_ ops k2) = true → isAlloc ops (at_ ops k1) = true := by
      intro k1 k2 h1 h2 h3
      rcases at_ord (ops := ops) h1 h2 with ⟨h, _⟩ | ⟨h, _⟩
      · exact h
      · rw [h]; exact h3
    have : ∀ n, n ≤ ops.size → ∃ p, p ≤ n ∧ ∀ k, k < n → (isAlloc ops (at_ ops k) = true ↔ k < p) := by
      intro n
      induction n with
      | zero => intro _; exact ⟨0, Nat.le_refl _, fun k h => by omega⟩
      | succ n ih =>
        intro hn
        obtain ⟨p, hp, hk⟩ := ih (by omega)
        cases e : isAlloc ops (at_ ops n) with
        | true =>
          refine ⟨n + 1, Nat.le_refl _, fun k h => ⟨fun _ => h, fun _ => ?_⟩⟩
          by_cases hkn : k = n
          · rw [hkn]; exact e
          · exact hmono k n (by omega) (by omega) e
        | false =>
          refine ⟨p, by omega, fun k h => ?_⟩
          by_cases hkn : k = n
          · rw [hkn, e]
            constructor
            · intro h; cases h
            · intro h; omega
          · exact hk k (by omega)
    obtain ⟨p, hp, hk⟩ := this ops.size (Nat.le_refl _)
    exact ⟨p, hp, fun k o h ho => by rw [← isAlloc_iff ho]; exact hk k h⟩
  obtain ⟨p, hp, hpk⟩ := hA
  have allocAt : ∀ k, k < p → ∃ o t z, ops[at_ ops k]? = some o ∧ o.op = .alloc t ∧ zeroOf P t = some z ∧ (f (k + 1)).mem = mset (f k).mem (f k).next (some ⟨z, t, none⟩) ∧ (f (k + 1)).next = (f k).next + 1 := by
    intro k hk
    obtain ⟨o, ho, s⟩ := g.step' (k := k) (by omega)
    have hkd := (hpk k o (by omega) ho).2 hk
    obtain ⟨t, z, h1, h2, h3, h4, _⟩ := s.alloc hkd (g.chk.guard _ o ho hkd)
    exact ⟨o, t, z, ho, h1, h2, h3, h4⟩
  have start : ∀ k, k ≤ p → Rel ρ (f k).mem (f k).next w ∧ Ev ρ ρ cx.floor st.mem st.next (f k).mem (f k).next w w := by
    intro k
    induction k with
    | zero => intro _; rw [g.f0]; exact ⟨hrel, Ev.refl _ _ _ _ _ hrel.dom⟩
    | succ k ih =>
      intro hk
      obtain ⟨hr, he⟩ := ih (by omega)
      obtain ⟨o, t, z, _, _, _, h3, h4⟩ := allocAt k (by omega)
      rw [h3, h4]
      refine ⟨hr.unborn _, he.trans ⟨Rho.le_refl _, fun _ _ => rfl, Nat.le_succ _, fun b hb _ cs ty hm => by rw [mget_mset_ne _ _ (by omega)]; exact hm, fun _ _ h _ => h, fun b l hb hl => by have := hr.dom b l hl; omega, Nat.le_refl _, rfl, rfl, rfl, fun _ _ => rfl⟩⟩
  have later : ∀ k k', k < k' → k' ≤ p → (f k).next < (f k').next ∧ mget (f k').mem (f k).next = mget (f (k + 1)).mem (f k).next := by
    intro k k' hk
    induction k' with
    | zero => omega
    | succ k' ih =>
      intro hk'
      obtain ⟨o, t, z, _, _, _, h3, h4⟩ := allocAt k' (by omega)
      by_cases e : k = k'
      · subst e; exact ⟨by omega, rfl⟩
      · obtain ⟨h1, h2⟩ := ih (by omega) (by omega)
        refine ⟨by omega, ?_⟩
        rw [h3, mget_mset_ne _ _ (by omega)]; exact h2
  obtain ⟨hrp, hep⟩ := start p (Nat.le_refl _)
  refine ⟨p, ?_, hd, henv.size, ?_, ?_, hp, ?_, ?_, hrp, hep, ?_⟩
  · intro j o _ hs; simp only [hf] at hs; cases hs
  · intro k o d _ _ hs; simp only [hf] at hs; cases hs
  · intro t _; exact henv.get t
  · intro k o hk ho hkd; exact (hpk k o hk ho).1 hkd
  · intro k o hk ho hc
    simp only [hf]
    constructor
    · intro h; cases h
    · intro h
      have := (hpk k o hk ho).2 h
      rcases hc with h' | h' <;> rw [h'] at this <;> cases this
  · intro k o t z hk ho hop hz _
    have hkp : k < p := (hpk k o hk ho).1 (by rw [hop]; rfl)
    obtain ⟨o', t', z', ho', hop', hz', h3, h4⟩ := allocAt k hkp
    rw [ho] at ho'
    obtain rfl := Option.some.inj ho'
    rw [hop] at hop'
    obtain rfl : t = t' := by injection hop'
    rw [hz] at hz'
    obtain rfl := Option.some.inj hz'
    obtain ⟨h5, h6⟩ := later k p hkp (Nat.le_refl _)
    have hge : st.next ≤ (f k).next := by
      have := g.next_le (a := 0) (b := k) (Nat.zero_le _) (by omega)
      rw [g.f0] at this; exact this
    refine ⟨hge, h5, ?_, ?_⟩
    · cases e : ρ (f k).next with
      | none => rfl
      | some l => have := hrel.dom _ l e; omega
    · rw [h6, h3, mget_mset_same]
theorem opsDraw_sound {S : Specs} {R : Runner} (hN : Named P) (hS : SpecsOk P S) (hRI : RInv R) (hR : ROk P R) {st' : St} (hcx : cx.floor ≤ st.next) (hchk : drawOk ops = true)
    (h : opsRunD P S R ops cx (drawList ops) [] st = some st') (ho : st'.ob = true) {ρ : Rho} {a : Act} {w : World} (hd : a.defers = D) (henv : EnvRel ρ st.env cx.n a.tmps) (hrel : Rel ρ st.mem st.next w) :
    wpAny P .any ops (Fin D ρ cx st st' w) ops.size (Array.replicate ops.size false) a w := by
  obtain ⟨f, f0, fn, fs, _, fp⟩ := opsRunD_trace (drawList ops) [] st st' h
  have hlen : (drawList ops).length = ops.size := by simp [drawList, drawOrder_length]
  rw [hlen] at fn
  have hstep : ∀ (k : Nat) (hk : k < (drawOrder ops).length), cx.floor ≤ (f k).next → Step1 P ops cx (lifts ops (drawOrder ops)[k], ops.getD (drawOrder ops)[k] default) (f k) (f (k + 1)) := by
    intro k hk hc
    have := fs k (by rw [hlen, ← drawOrder_length]; exact hk)
    simp only [drawList, List.getElem_map] at this
    exact step1_spec hN hS hRI hR hc this
  have hnx : ∀ k, k ≤ ops.size → cx.floor ≤ (f k).next := by
    intro k
    induction k with
    | zero => intro _; rw [f0]; exact hcx
    | succ k ih =>
      intro hk
      have hc := ih (by omega)
      exact Nat.le_trans hc (hstep k (by rw [drawOrder_length]; omega) hc).inv.nxt
  have hob : ∀ k, k ≤ ops.size → (f (ops.size - k)).ob = true := by
    intro k
    induction k with
    | zero => intro _; rw [Nat.sub_zero, fn]; exact ho
    | succ k ih =>
      intro hk
      have hk' : ops.size - (k + 1) < (drawOrder ops).length := by rw [drawOrder_length]; omega
      have s := hstep _ hk' (hnx _ (by omega))
      refine s.inv.ob ?_
      rw [show ops.size - (k + 1) + 1 = ops.size - k by omega]
      exact ih (by omega)
  have g : Reg P ops cx st f := ⟨drawOk_spec hchk, f0, hcx, fun k hk => by
    have := hob (ops.size - k) (by omega)
    rwa [show ops.size - (ops.size - k) = k by omega] at this, fun k hk => hstep k hk (hnx k (by rw [drawOrder_length] at hk; omega)), fun q k hq hk => by
      have := fp q k hq (by rw [hlen, ← drawOrder_length]; exact hk)
      simpa only [drawList, List.getElem_map] using this⟩
  obtain ⟨p, I⟩ := inv_start g hd henv hrel
  have := draw_any g henv.out hrel.bd ops.size (Array.replicate ops.size false) p ρ a w (by simp) (by
    rw [List.countP_eq_length.2]
    · simp
    · intro i hi
      have := List.mem_range.1 hi
      simp [this]) I
  rwa [fn] at this
theorem opsRun_inv {S : Specs} {R : Runner} (hRI : RInv R) : ∀ (l : List (Bool × Oper)) (st st' : St), opsRun P S R ops cx l st = some st' → AInv cx.floor st st'
  | [], st, st', h => by
    have h : some st = some st' := h
    obtain rfl := Option.some.inj h
    exact AInv.refl _ _
  | x :: l, st, st', h => by
    rw [opsRun_cons, Option.bind_eq_some_iff] at h
    obtain ⟨st1, h1, h2⟩ := h
    refine AInv.trans ?_ (opsRun_inv hRI l st1 st' h2)
    unfold step1 at h1
    split at h1
    · cases h1
    · rename_i st2 hw
      obtain ⟨w1, w2, w3⟩ := aWanted_abs hw
      refine (AInv.same w1 w2 fun h => (w3 h).1).trans ?_
      unfold opStep at h1
      split at h1
      · split at h1
        · rename_i st3 ho
          obtain ⟨_, e2, e3, e4⟩ := owe_spec ho
          obtain ⟨p1, p2, p3, _⟩ := put_spec h1
          exact (AInv.same e2 e3 fun h => (e4 h).2).trans (AInv.same p1 p2 fun h => by rw [← p3]; exact h)
        · cases h1
      · split at h1
        · rename_i v st3 he
          obtain ⟨p1, p2, p3, _⟩ := put_spec h1
          exact (aEffect_inv hRI he).1.trans (AInv.same p1 p2 fun h => by rw [← p3]; exact h)
        · cases h1
    · rename_i st2 hw
      obtain ⟨w1, w2, w3⟩ := aWanted_abs hw
      obtain ⟨p1, p2, p3, _⟩ := put_spec h1
      exact (AInv.same w1 w2 fun h => (w3 h).1).trans (AInv.same p1 p2 fun h => by rw [← p3]; exact h)
theorem opsRunD_inv {S : Specs} {R : Runner} (hRI : RInv R) (l : List (Nat × Bool × Oper)) (acc : List Foot) (st st' : St) (h : opsRunD P S R ops cx l acc st = some st') : AInv cx.floor st st' := by
  obtain ⟨f, f0, fn, fs, _, _⟩ := opsRunD_trace l acc st st' h
  have : ∀ k, k ≤ l.length → AInv cx.floor st (f k) := by
    intro k
    induction k with
    | zero => intro _; rw [f0]; exact AInv.refl _ _
    | succ k ih =>
      intro hk
      refine (ih (by omega)).trans ?_
      have := fs k (by omega)
      exact opsRun_inv hRI [l[k].2] (f k) (f (k + 1)) (by rw [opsRun_cons, this]; rfl)
  rw [← fn]; exact this _ (Nat.le_refl _)
end
end Go.Am
end
section
set_option linter.unusedVariables false
set_option linter.unusedSimpArgs false
namespace Go.Am
section
variable {P : Program}
theorem rel_empty {H : Old} {w : World} (hH : ∀ k o, H k = some o → w.heap[k]? = some o) : Rel (rhoOf H) .leaf 0 w :=
  ⟨(fun b l h => by cases h), (fun b b' l l' h => by cases h), (fun b l ab h => by cases h), hH, (fun b l h => by cases h), (fun b l h => by cases h), (fun b _ => rfl), (fun j l h => by cases h)⟩
structure Out (H : Old) (w : World) (ρ : Rho) (v : AVal) (u : Value) (w' : World) : Prop where
  val : VRel ρ v u
  le : ∀ k o, H k = some o → ρ.fz k = some o
  old : ∀ k o, ρ.fz k = some o → w'.heap[k]? = some o
  same : ∀ k, k < w.heap.size → ρ.fz k = H k
  below : RowKit.Below w.heap.size w w'
theorem out_of {H : Old} {w w' : World} {ρ : Rho} {v : AVal} {u : Value} {mem : Mem} {next floor : Nat} (hv : VRel ρ v u) (hr : Rel ρ mem next w') (hev : Ev (rhoOf H) ρ floor .leaf 0 mem next w w') : Out H w ρ v u w' :=
  ⟨hv, hev.ext.2.1, hr.old, hev.still, hev.os, hev.tape, hev.output, hev.size, fun k hk => by
    have : w.heap[k]? = some w.heap[k] := by simp [hk]
    rw [this]
    exact hev.frame k _ this fun b l hl => by cases hl⟩
def noSpecs : Specs := fun _ => none
theorem noSpecs_ok : SpecsOk P noSpecs := fun f F h => by cases h
end
end Go.Am
end
section
set_option linter.unusedVariables false
set_option linter.unusedSimpArgs false
namespace Go.Am
abbrev RegOps := Array Oper × Nat × List Oper
structure AFr where
  cx : Ctx
  ro : Option RegOps
  todo : List Item
  rnd : Option Nat
  rs : List ResultVar
  env : T AVal
structure ALoop where
  st : LoopState
  pend : Option Code
  n : Nat
  env : T AVal
  params : List Tmp
  assign : Code
  body : Code
abbrev Loops := T (Option ALoop)
noncomputable def lget (m : Loops) (b : Nat) : Option ALoop := T.get none m b
noncomputable def lset (m : Loops) (b : Nat) (o : Option ALoop) : Loops := T.set none m b o
structure Cfg where
  cx : Ctx
  ro : Option RegOps
  todo : List Item
  rnd : Option Nat
  rs : List ResultVar
  st : St
  cs : List AFr
  lps : Loops
noncomputable def popS (v : AVal) (st : St) (lps : Loops) : List AFr → Option Cfg
  | ⟨cx, some (ops, i, o :: l), todo, rnd, rs, env⟩ :: cs => match (st.withEnv env).put cx o.dst v with
    | some st' => some ⟨cx, some (ops, i + 1, l), todo, rnd, rs, st', cs, lps⟩
    | none => none
  | ⟨cx, none, .inRangeFunc j :: k, rnd, rs, env⟩ :: cs => some ⟨cx, none, .endRangeFunc j :: k, rnd, rs, st.withEnv env, cs, lps⟩
  | _ => none
def jumpSt : Option Code → LoopState
  | none => .ready
  | some _ => .done
noncomputable def rndOk (lps : Loops) : Option Nat → Bool
  | none => true
  | some j => (lget lps j).isSome
noncomputable def leaveS (P : Program) (rnd : Option Nat) (rs : List ResultVar) (st : St) (cs : List AFr) (lps : Loops) (jump : Option Code) : Option Cfg :=
  match rnd with
  | none => match aResults P st rs with
    | some vs => popS (packed vs) st lps cs
    | none => none
  | some j => match lget lps j with
    | some ⟨_, _, n, env, params, assign, body⟩ =>
      popS (.bool jump.isNone) st (lset lps j (some ⟨jumpSt jump, jump, n, env, params, assign, body⟩)) cs
    | none => none
noncomputable def setArgs (n : Nat) : List Tmp → List AVal → T AVal → Option (T AVal)
  | [], [], env => some env
  | t :: ts, a :: l, env => bif Nat.ble (t + 1) n then setArgs n ts l (T.set .undef env t a) else none
  | _, _, _ => none
noncomputable def enterS (P : Program) (f : FuncId) (args : List AVal) (fr : AFr) (st : St) (cs : List AFr) (lps : Loops) : Option Cfg :=
  match P.funcs[f]? with
  | some fn => match fn.body with
    | some body => some ⟨⟨Nat.max fn.ntmps args.length, fr.cx.floor, fr.cx.sym⟩, none, [.code body], none, fn.results.toList, st.withEnv (envOf args 0 .leaf), fr :: cs, lps⟩
    | none => none
  | none => none
noncomputable def roundS (j : Nat) (args : List AVal) (fr : AFr) (st : St) (cs : List AFr) (lps : Loops) : Option Cfg :=
  match lget lps j with
  | some ⟨_, _, n, env, params, assign, body⟩ => match setArgs n params args env with
    | some env' => some ⟨⟨n, fr.cx.floor, fr.cx.sym⟩, none, [.code assign, .beginRound, .code body], some j, [], st.withEnv env', fr :: cs, lps⟩
    | none => none
  | none => none
noncomputable def callee (S : Specs) (st : St) (op : Op) : Option ((FuncId × List AVal) ⊕ (Nat × List AVal)) :=
  match op with
  | .call { callee := .value f, args, argTypes := _ } => match st.eval f with
    | .fn g caps => match S g with
      | some _ => none
      | none => some (.inl (g, args.toList.map st.eval ++ caps))
    | .fnb g first => match S g with
      | some _ => none
      | none => some (.inl (g, first ++ args.toList.map st.eval))
    | .yld j => some (.inr (j, args.toList.map st.eval))
    | _ => none
  | _ => none
noncomputable def stepOp (P : Program) (S : Specs) (Rc : Runner) (cx : Ctx) (ops : Array Oper) (i : Nat) (o : Oper) (l : List Oper) (todo : List Item) (rnd : Option Nat) (rs : List ResultVar) (st : St) (cs : List AFr) (lps : Loops) : Option Cfg :=
  match aWanted ops o cx st with
  | some (true, st) => match callee S st o.op with
    | some (.inl (g, args)) => enterS P g args ⟨cx, some (ops, i, o :: l), todo, rnd, rs, st.env⟩ st cs lps
    | some (.inr (j, args)) => roundS j args ⟨cx, some (ops, i, o :: l), todo, rnd, rs, st.env⟩ st cs lps
    | none => match opStep P S Rc false o cx st with
      | some st => some ⟨cx, some (ops, i + 1, l), todo, rnd, rs, st, cs, lps⟩
      | none => none
  | some (false, st) => match st.put cx o.dst (.tup []) with
    | some st => some ⟨cx, some (ops, i + 1, l), todo, rnd, rs, st, cs, lps⟩
    | none => none
  | none => none
def noDefer (ops : Array Oper) : Bool := ops.toList.all fun o => match o.op with
  | .defer _ => false
  | _ => true
def St.nextId : St → Nat × St
  | ⟨env, mem, next, orc, ob⟩ => (next, ⟨env, mem, next + 1, orc, ob⟩)
noncomputable def stepS (P : Program) (S : Specs) (Rc : Runner) : Cfg → Option Cfg
  | ⟨cx, some (_, _, []), todo, rnd, rs, st, cs, lps⟩ => some ⟨cx, none, todo, rnd, rs, st, cs, lps⟩
  | ⟨cx, some (ops, i, o :: l), todo, rnd, rs, st, cs, lps⟩ => stepOp P S Rc cx ops i o l todo rnd rs st cs lps
  | ⟨cx, none, todo, rnd, rs, st, cs, lps⟩ => match todo with
    | [] => leaveS P rnd rs st cs lps none
    | .code .ret :: _ => leaveS P rnd rs st cs lps (some .ret)
    | .code .skip :: k => some ⟨cx, none, k, rnd, rs, st, cs, lps⟩
    | .code (.label _) :: k => some ⟨cx, none, k, rnd, rs, st, cs, lps⟩
    | .inBlock _ :: k => some ⟨cx, none, k, rnd, rs, st, cs, lps⟩
    | .inScope _ :: k => some ⟨cx, none, k, rnd, rs, st, cs, lps⟩
    | .code (.seq a b) :: k => some ⟨cx, none, .code a :: .code b :: k, rnd, rs, st, cs, lps⟩
    | .code (.cond c a b) :: k => match st.eval c with
      | .bool v => match st.test v with
        | (e, st) => some ⟨cx, none, .code (bif e then a else b) :: k, rnd, rs, st, cs, lps⟩
      | _ => none
    | .code (.block id body) :: k => some ⟨cx, none, .code body :: .inBlock id :: k, rnd, rs, st, cs, lps⟩
    | .code (.scope body) :: k => some ⟨cx, none, .code body :: .inScope body :: k, rnd, rs, st, cs, lps⟩
    | .code (.loop body) :: k => some ⟨cx, none, .code body :: .inLoop body :: k, rnd, rs, st, cs, lps⟩
    | .inLoop body :: k => some ⟨cx, none, .code body :: .inLoop body :: k, rnd, rs, st, cs, lps⟩
    | .code (.exit id) :: k => match exitTo id k with
      | some k => some ⟨cx, none, k, rnd, rs, st, cs, lps⟩
      | none => match rnd with
        | some _ => leaveS P rnd rs st cs lps (some (.exit id))
        | none => none
    | .code (.region _ ops false) :: k => bif noDefer ops then some ⟨cx, some (ops, 0, ops.toList), k, rnd, rs, st, cs, lps⟩ else none
    | .code (.region _ ops true) :: k => bif drawOk ops && noDefer ops then
        match opsRunD P S Rc ops cx (drawList ops) [] st with
        | some st => some ⟨cx, none, k, rnd, rs, st, cs, lps⟩
        | none => none
      else none
    | .code (.rangeFunc f params assign body) :: k => match st.eval f with
      | .fn g caps => match st.nextId with
        | (j, st') => bif rndOk lps rnd then enterS P g (.yld j :: caps) ⟨cx, none, .inRangeFunc j :: k, rnd, rs, st.env⟩ st' cs (lset lps j (some ⟨.ready, none, cx.n, st.env, params.toList, assign, body⟩)) else none
      | _ => none
    | .beginRound :: k => match rnd with
      | some j => match lget lps j with
        | some ⟨.ready, pend, n, env, params, assign, body⟩ => some ⟨cx, none, k, rnd, rs, st, cs, lset lps j (some ⟨.busy, pend, n, env, params, assign, body⟩)⟩
        | _ => none
      | none => none
    | .endRangeFunc j :: k => match lget lps j with
      | some ⟨.busy, _, _, _, _, _, _⟩ => none
      | some ⟨_, pend, n, env, params, assign, body⟩ => some ⟨cx, none, (pend.map Item.code).toList ++ k, rnd, rs, st, cs, lset lps j (some ⟨.exhausted, pend, n, env, params, assign, body⟩)⟩
      | none => none
    | _ => none
def finalS : Cfg → Bool
  | ⟨_, none, [], none, _, _, [], _⟩ => true
  | ⟨_, none, .code .ret :: _, none, _, _, [], _⟩ => true
  | _ => false
noncomputable def runS (P : Program) (S : Specs) (Rc : Runner) (n : Nat) : Cfg → Option Cfg :=
  Nat.rec (motive := fun _ => Cfg → Option Cfg) (fun _ => none) (fun _ R C => bif finalS C then some C else match stepS P S Rc C with
    | some C' => R C'
    | none => none) n
def plainItem : Item → Bool
  | .code _ | .inBlock _ | .inLoop _ | .inScope _ | .beginRound => true
  | _ => false
noncomputable def runR (P : Program) (S : Specs) (n : Nat) (d : Nat) : Runner :=
  Nat.rec (motive := fun _ => Runner) (fun _ _ _ => none) (fun _ R cx todo st => bif todo.all plainItem && Nat.ble cx.floor st.next then match runS P S R n ⟨cx, none, todo, none, [], st, [], .leaf⟩ with
    | some C => bif Nat.beq C.cx.n cx.n then some C.st else none
    | none => none
    else none) d
end Go.Am
end
section
set_option linter.unusedVariables false
set_option linter.unusedSimpArgs false
namespace Go.Am
set_option linter.unusedVariables false
section
variable {P : Program}
section ops
variable {b : Frame} {a : Act} {k : List Item} {cs : List Frame} {w : World} {ops : Array Oper}
theorem op_steps {i : Nat} {rest : List Nat} {o : Oper} {K : Act → World → Prop} {Q : Exit → Act → World → Prop} (hQ : ∀ e a w, Q e a w → e = .normal) (ho : ops[i]? = some o) (hnd : ∀ c, o.op ≠ .defer c)
    (h : if Region.wanted o (yielded ops a.tmps) then o.wp P a w K Q else K (a.put o.dst undef) w) :
    ∃ a' w', K a' w' ∧ Steps P (lone (b.atR a (.inRegion ops (i :: rest) :: k)) cs w) (lone (b.atR a' (.inRegion ops rest :: k)) cs w') := by
  by_cases hw : Region.wanted o (yielded ops a.tmps) = true
  · rw [if_pos hw] at h
    have hg := stepGR_op (P := P) (b := b) (k := k) (cs := cs) (w := w) (rest := rest) ho hw
    rw [Oper.semAt_eq _ _ _ hnd] at hg
    have fin : ∀ (a : Act) (v : Value), (b.atR a (.inRegion ops (i :: rest) :: k)).finish v = b.atR (a.put o.dst v) (.inRegion ops rest :: k) := fun a v => by rw [Frame.finish_atR, ho]; rfl
    unfold Oper.wp at h
    generalize hr : (execOp a.eval o).run P w = r at h
    cases r with
    | ok n w' =>
      cases n <;> simp only [Oper.upon] at h
      case value v =>
        exact ⟨_, w', h, .one (step_lone_go (by rw [hg, ← fin a v]; simp [stepG.apply, hr]))⟩
      case skip =>
        exact ⟨_, w', h, .one (step_lone_go (by rw [hg, ← fin a undef]; simp [stepG.apply, hr]))⟩
      case defer d =>
        refine ⟨_, w', h, .one (step_lone_go ?_)⟩
        have e := fin { a with defers := d :: a.defers } undef
        rw [hg, ← e]
        simp [stepG.apply, hr, Frame.atR]
      case enter f args =>
        obtain ⟨e, w'', fr, hR, hsteps, _, hleave⟩ := h (b.atR a (.inRegion ops (i :: rest) :: k) :: cs)
        have henter : step P (lone (b.atR a (.inRegion ops (i :: rest) :: k)) cs w) = .next (lone (Frame.enter P f args .normal) (b.atR a (.inRegion ops (i :: rest) :: k) :: cs) w') :=
          step_lone_go (by rw [hg]; simp [stepG.apply, hr, Frame.atR])
        cases e with
        | returned v =>
          refine ⟨_, w'', hR, .head henter (hsteps.trans (.one ?_))⟩
          rw [← fin a v]; exact step_leave_returned hleave
        | panicked chain => exact absurd (hQ _ _ _ hR) (by simp)
        | outgrown => obtain ⟨_, _, hq⟩ := hR; exact absurd (hQ _ _ _ hq) (by simp)
      case row row args =>
        obtain ⟨v, w'', hR, hsteps⟩ := h (b.atR a (.inRegion ops (i :: rest) :: k)) cs
        have henter : step P (lone (b.atR a (.inRegion ops (i :: rest) :: k)) cs w) = .next (lone (Frame.ofRow P row args .normal) (b.atR a (.inRegion ops (i :: rest) :: k) :: cs) w') :=
          step_lone_go (by rw [hg]; simp [stepG.apply, hr, Frame.atR])
        refine ⟨_, w'', hR, .head henter ?_⟩
        rw [← fin a v]; exact hsteps
      all_goals exact h.elim
    | halt x w' => cases x <;> simp only [Oper.upon] at h <;> first | exact h.elim | exact absurd (hQ _ _ _ h) (by simp)
  · rw [if_neg hw] at h
    have hs := stepR_op_skip (P := P) (b := b) (a := a) (k := k) (cs := cs) (w := w) (ops := ops) (i := i) (rest := rest) (by simp [ho]; simpa using hw)
    rw [ho] at hs
    exact ⟨_, w, h, .one hs⟩
theorem ops_steps {R : Act → World → Prop} {Q : Exit → Act → World → Prop} (hQ : ∀ e a w, Q e a w → e = .normal ∧ R a w) (hnd : noDefer ops = true) : ∀ (l : List Nat) (a : Act) (w : World), wpOps P ops Q l a w →
    ∃ a' w', R a' w' ∧ Steps P (lone (b.atR a (.inRegion ops l :: k)) cs w) (lone (b.atR a' k) cs w')
  | [], a, w, h => ⟨a, w, (hQ _ _ _ h).2, .one stepR_region_end⟩
  | i :: l, a, w, h => by
    simp only [wpOps] at h
    cases ho : ops[i]? with
    | none =>
      rw [ho] at h
      obtain ⟨a', w', hR, hs⟩ := ops_steps hQ hnd l a w h
      have h1 := stepR_op_skip (P := P) (b := b) (a := a) (k := k) (cs := cs) (w := w) (ops := ops) (i := i) (rest := l) (by simp [ho])
      rw [ho] at h1
      exact ⟨a', w', hR, .head h1 hs⟩
    | some o =>
      rw [ho] at h
      have hno : ∀ c, o.op ≠ .defer c := by
        intro c hc
        have hm : o ∈ ops.toList := by rw [Array.mem_toList_iff]; exact Array.mem_of_getElem? ho
        have := List.all_eq_true.1 hnd o hm
        rw [hc] at this; cases this
      have h' : if Region.wanted o (yielded ops a.tmps) then o.wp P a w (wpOps P ops Q l) Q else wpOps P ops Q l (a.put o.dst undef) w := by
        by_cases hw : Region.wanted o (yielded ops a.tmps) = true
        · simp only [hw, if_true] at h ⊢
          rcases h with h | ⟨_, a0, w0, h0⟩
          · exact h
          · exact absurd (hQ _ _ _ h0).1 (by simp)
        · simp only [hw, if_false, Bool.false_eq_true] at h ⊢
          exact h
      obtain ⟨a1, w1, h1, s1⟩ := op_steps (b := b) (k := k) (cs := cs) (rest := l) (fun e a w q => (hQ e a w q).1) ho hno h'
      obtain ⟨a', w', hR, hs⟩ := ops_steps hQ hnd l a1 w1 h1
      exact ⟨a', w', hR, s1.trans hs⟩
end ops
end
end Go.Am
end
