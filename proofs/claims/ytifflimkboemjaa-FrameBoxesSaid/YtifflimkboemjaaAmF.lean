/- Operations that read, make or write memory. -/
import Derived.Test.YtifflimkboemjaaAmE
namespace Go.Am

section
variable {P : Program} {ρ : Rho} {H : Old}

/-! ### Reading -/
/-- Cells in a row in the world. -/
def CellsAt (ρ : Rho) (H : Old) (w : World) (blk o : Nat) (cs : List AVal) : Prop :=
  ∀ (i : Nat) (h : i < cs.length), ∃ v, w.cell? ⟨blk, o + i, none⟩ = some v ∧ VRel ρ H cs[i] v

theorem Rel.cellsAt {mem : Mem} {next : Nat} {w : World} (h : Rel ρ H mem next w) {b : Nat} {l : Loc} {ab : ABlk} (hb : ρ b = some l) (hm : mget mem b = some ab) : CellsAt ρ H w l.blk l.base ab.cells := by
  obtain ⟨_, _, cs, el, h1, h2, h3⟩ := h.blk b l ab hb hm
  intro i hi
  obtain ⟨v, e, f⟩ := h3 i hi
  exact ⟨v, by simp [World.cell?, h1, e], f⟩

theorem Rel.dataAt {mem : Mem} {next : Nat} {w : World} (h : Rel ρ H mem next w) {cs : List AVal} {blk base : Nat} {val : Nat → Value} (hv : ∀ (j : Nat) (hj : j < cs.length), VRel rho0 H cs[j] (val j))
    (hh : ∀ j, j < cs.length → HCell H blk (base + j) (val j)) : CellsAt ρ H w blk base cs := by
  intro i hi
  obtain ⟨arr, el, fz, e, f⟩ := hh i hi
  have := h.old _ _ e
  exact ⟨val i, by simp [World.cell?, this, f], (hv i hi).mono (rho0_le ρ)⟩

theorem CellsAt.load {w : World} {blk o : Nat} {cs : List AVal} (h : CellsAt ρ H w blk o cs) {off n : Nat} (hn : off + n ≤ cs.length ∨ n = 0) :
    ∃ vs : Array Value, vs.size = n ∧ (∀ (i : Nat) (h1 : off + i < cs.length) (h2 : i < vs.size), VRel ρ H cs[off + i] vs[i]) ∧ (loadCells ⟨blk, o + off, none⟩ n).run P w = .ok vs w := by
  have hc : ∀ j, j < n → w.cell? ((⟨blk, o + off, none⟩ : Addr).add j) = some ((w.cell? ⟨blk, o + (off + j), none⟩).getD undef) := by
    intro j hj
    obtain ⟨v, e, _⟩ := h (off + j) (by omega)
    rw [addr_add, Nat.add_assoc, e]; rfl
  refine ⟨_, ?_, ?_, run_loadCells w _ n (fun j => (w.cell? ⟨blk, o + (off + j), none⟩).getD undef) hc⟩
  · simp
  · intro i h1 h2
    obtain ⟨v, e, f⟩ := h (off + i) h1
    simpa [e] using f

theorem CellsAt.part {w : World} {blk o : Nat} {cs : List AVal} (h : CellsAt ρ H w blk o cs) {t : TypeId} {off : Nat} {v : AVal} (hp : partOf P t cs off = some v) :
    ∃ z, VRel ρ H v z ∧ (loadVar t ⟨blk, o + off, none⟩).run P w = .ok z w := by
  unfold partOf at hp
  split at hp
  · rename_i i ha hi
    simp only [Option.map_eq_some_iff] at hp
    obtain ⟨p, hc, rfl⟩ := hp
    obtain ⟨_, hl, hle⟩ := cut_spec hc
    obtain ⟨vs, hs, hv, hr⟩ := h.load (P := P) (off := off) (n := i.size) (by omega)
    refine ⟨.agg vs, .agg _ _ (by omega) fun j h1 h2 => ?_, ?_⟩
    · obtain ⟨h3, e⟩ := cut_get hc j h1
      rw [e]; exact hv j h3 h2
    · simp [loadVar, isAggT_run ha, size_run hi, hr]
  · rename_i i ha hi
    obtain ⟨hlt, rfl⟩ := List.getElem?_eq_some_iff.1 hp
    obtain ⟨v, e, f⟩ := h off hlt
    exact ⟨v, f, by simp [loadVar, isAggT_run ha, e]⟩
  · cases hp

theorem aLoad_sound {mem : Mem} {next : Nat} {w : World} (h : Rel ρ H mem next w) {t : TypeId} {x v : AVal} {u : Value} (hl : aLoad P mem t x = some v) (hx : VRel ρ H x u) :
    ∃ z, VRel ρ H v z ∧ (Instr.loadAt t u).run P w = .ok z w := by
  unfold aLoad at hl
  split at hl
  · split at hl
    · rename_i b off _ blk hm
      cases hx with
      | ptr _ _ l hρ =>
        obtain ⟨z, hz, hr⟩ := (h.cellsAt hρ hm).part hl
        exact ⟨z, hz, by simp [Instr.loadAt, Instr.sureAddr, hr]⟩
    · cases hl
  · cases hx with
    | dptr _ blk base val hv hh =>
      obtain ⟨z, hz, hr⟩ := (h.dataAt hv hh).part hl
      exact ⟨z, hz, by simpa [Instr.loadAt, Instr.sureAddr] using hr⟩
  · cases hl

/-! ### What an operation leaves -/
structure Post (ρ : Rho) (H : Old) (floor : Nat) (st st' : St) (v : AVal) (w : World) (ρ' : Rho) (u : Value) (w' : World) : Prop where
  val : VRel ρ' H v u
  rel : Rel ρ' H st'.mem st'.next w'
  ev : Ev ρ ρ' floor st.mem st.next st'.mem st'.next w w'

/-- The operation is carried out, or a call that it makes is. -/
def Does (P : Program) (o : Oper) (a : Act) (w : World) (K : Rho → Value → World → Prop) : Prop :=
  (∃ ρ' u w', (execOp a.eval o).run P w = .ok (.value u) w' ∧ K ρ' u w') ∨
  (∃ ρ' w', (execOp a.eval o).run P w = .ok .skip w' ∧ K ρ' undef w') ∨
  (∃ f args, (execOp a.eval o).run P w = .ok (.enter f args) w ∧ Calls P f args w fun e w' => ∃ ρ' u, e = .returned u ∧ K ρ' u w')

theorem Does.wp {o : Oper} {a : Act} {w : World} {K : Rho → Value → World → Prop} {next : Act → World → Prop} {Q : Exit → Act → World → Prop} (h : Does P o a w K) (hk : ∀ ρ' u w', K ρ' u w' → next (a.put o.dst u) w') : o.wp P a w next Q := by
  unfold Oper.wp
  rcases h with ⟨ρ', u, w', e, k⟩ | ⟨ρ', w', e, k⟩ | ⟨f, args, e, hc⟩
  · rw [e]; exact hk _ _ _ k
  · rw [e]; exact hk _ _ _ k
  · rw [e]
    exact hc.mono fun e w' ⟨ρ', u, he, k⟩ => by subst he; exact hk _ _ _ k

theorem Rel.hold {mem : Mem} {next : Nat} {w : World} (h : Rel ρ H mem next w) : ∀ k, w.heap.size ≤ k → H k = none := by
  intro k hk
  cases e : H k with
  | none => rfl
  | some o =>
    have := (Array.getElem?_eq_some_iff.1 (h.old k o e)).1
    omega

/-- A row is made. -/
theorem post_new {st : St} {w : World} (h : Rel ρ H st.mem st.next w) (floor : Nat) (cs : List AVal) (ty : TypeId) (vs : Array Value) (el : TypeId) (hn : cs.length ≤ vs.size)
    (hv : ∀ (i : Nat) (h1 : i < cs.length) (h2 : i < vs.size), VRel ρ H cs[i] vs[i]) (v : AVal) (u : Value) (hval : ∀ ρ', ρ' st.next = some ⟨w.heap.size, 0, cs.length, vs.size⟩ → VRel ρ' H v u) :
    Post ρ H floor st (aNew st cs ty) v w (rhoAdd ρ st.next ⟨w.heap.size, 0, cs.length, vs.size⟩) u { w with heap := w.heap.push (.cells vs el) } :=
  ⟨hval _ (by simp [rhoAdd]), h.new cs ty vs el h.hold hn hv, Ev.ofNew h floor _ _ _ (Nat.le_refl _)⟩

theorem aStore_sound {st st' : St} {w : World} (h : Rel ρ H st.mem st.next w) {floor : Nat} {t : TypeId} {x v : AVal} {u z : Value} (hs : aStore P floor st t x v = some st') (hx : VRel ρ H x u) (hv : VRel ρ H v z) :
    ∃ w', (Instr.storeAt t u z).run P w = .ok () w' ∧ Post ρ H floor st st' (.tup []) w ρ undef w' ∧ st'.env = st.env ∧ st'.ob = st.ob := by
  unfold aStore at hs
  split at hs
  · rename_i b off i hi
    simp only at hs
    cases hc : (Nat.ble floor b && Nat.beq v.cells.length i.size && boxable v && v.cells.all isSc) with
    | false => rw [hc] at hs; cases hs
    | true =>
      rw [hc, cond_true] at hs
      simp only [Bool.and_eq_true] at hc
      obtain ⟨⟨⟨hf, hn⟩, hbx⟩, hsc⟩ := hc
      have hf := Nat.le_of_ble_eq_true hf
      have hn := Nat.eq_of_beq_eq_true hn
      split at hs
      · rename_i blk hm
        cases hfit : Nat.ble (off + i.size) blk.cells.length with
        | false => rw [hfit] at hs; cases hs
        | true =>
          rw [hfit, cond_true] at hs
          have hfit := Nat.le_of_ble_eq_true hfit
          obtain rfl := Option.some.inj hs
          cases hx with
          | ptr _ _ l hρ =>
            have hcells := hv.cells hbx
            have hone := VRel.cells_oneCell hcells hsc
            have hlen : z.cells.toList.length = v.cells.length := by simpa using hcells.1.symm
            obtain ⟨cur, el, hw, hsz, hrel⟩ := h.write hρ hm (off := off) (cs := v.cells) (vs := z.cells.toList) hlen (by omega) (fun j h1 h2 => by simpa using hcells.2 j h1 (by simpa using h2))
            have hrun := run_storeCells_at P l.blk (l.base + off) el z.cells.toList 0 cur w hw (by omega) hone
            refine ⟨w.setRow l.blk (cur.toList.take (l.base + off) ++ z.cells.toList ++ cur.toList.drop (l.base + off + z.cells.toList.length)).toArray, ?_, ⟨.tup [] #[] rfl (fun j h1 _ => by simp at h1), ?_, Ev.ofWrite h hρ hf _ _⟩, rfl, rfl⟩
            · have hzs : z.cells.size = i.size := by simpa [hn] using hcells.1.symm
              simp only [Nat.add_zero] at hrun
              simp [Instr.storeAt, Instr.sureAddr, storeVar, size_run hi, hzs, -List.append_assoc, -Array.length_toList, hrun]
            · rw [hn] at hrel
              simpa [St.withMem] using hrel
      · cases hs
  · cases hs

/-! ### Rows of one value -/
theorem range0_map (f : Nat → Value) : (Array.range 0).map f = #[] := Array.eq_empty_of_size_eq_zero (by simp)

theorem rep_length (n : Nat) (l : List AVal) : (rep n l).length = n * l.length := by
  induction n with
  | zero => simp [rep]
  | succ n ih => simp only [rep, List.replicate_succ, List.flatten_cons, List.length_append] at *; rw [ih, Nat.succ_mul, Nat.add_comm]

theorem rep_get (l : List AVal) : ∀ (n i : Nat) (h : i < (rep n l).length) (hl : i % l.length < l.length), (rep n l)[i] = l[i % l.length]
  | 0, i, h, _ => by simp [rep] at h
  | n + 1, i, h, hl => by
    have e : rep (n + 1) l = l ++ rep n l := by simp [rep, List.replicate_succ]
    have hpos : 0 < l.length := by omega
    by_cases hi : i < l.length
    · simp only [e, List.getElem_append_left hi, Nat.mod_eq_of_lt hi]
    · have h2 : i - l.length < (rep n l).length := by rw [e] at h; simp at h; omega
      simp only [e]
      rw [List.getElem_append_right (by omega)]
      have hm : (i - l.length) % l.length = i % l.length := (Nat.mod_eq_sub_mod (by omega)).symm
      rw [rep_get l n (i - l.length) h2 (by omega)]
      simp only [hm]

theorem rep_rel {zero : List AVal} {zs : Array Value} (h : VRels ρ H zero zs) (n m : Nat) (hm : m = n * zero.length) : VRels ρ H (rep n zero) ((Array.range m).map (zs[· % zs.size]!)) := by
  refine ⟨by rw [rep_length]; simp [hm], fun i h1 h2 => ?_⟩
  have hi : i < n * zero.length := by rw [rep_length] at h1; exact h1
  have hpos : 0 < zero.length := by
    rcases Nat.eq_zero_or_pos zero.length with e | e
    · rw [e] at hi; simp at hi
    · exact e
  have hlt : i % zero.length < zero.length := Nat.mod_lt _ hpos
  rw [rep_get zero n i h1 hlt]
  have hlt2 : i % zero.length < zs.size := by rw [← h.1]; exact hlt
  have := h.2 (i % zero.length) hlt hlt2
  simp only [Array.getElem_map, Array.getElem_range]
  rw [← h.1]
  simpa [getElem!_pos, hlt2] using this

theorem aBuildSlice_sound {st st' : St} {w : World} (h : Rel ρ H st.mem st.next w) (floor : Nat) {t : TypeId} {len : Nat} {ps : List (Nat × AVal)} {qs : List (Nat × Value)} {v : AVal} (hb : aBuildSlice P st t len ps = some (v, st')) (hp : PartsRel ρ H ps qs) :
    ∃ ρ' u w', (Instr.buildSlice t len qs.toArray).run P w = .ok u w' ∧ Post ρ H floor st st' v w ρ' u w' ∧ st'.env = st.env ∧ st'.ob = st.ob := by
  unfold aBuildSlice at hb
  split at hb
  · rename_i e hu
    split at hb
    · rename_i i zero hi hz
      cases hc : (Nat.ble (len * i.size) 16777216 && Nat.beq zero.length i.size) with
      | false => rw [hc] at hb; cases hb
      | true =>
        rw [hc, cond_true] at hb
        simp only [Bool.and_eq_true] at hc
        have hle := Nat.le_of_ble_eq_true hc.1
        have hzl := Nat.eq_of_beq_eq_true hc.2
        split at hb
        · rename_i cells hcells
          simp only [Option.some.injEq, Prod.mk.injEq] at hb
          obtain ⟨rfl, rfl⟩ := hb
          obtain ⟨_, z, _, _, hzr, hzv⟩ := zeroOf_sound (ρ := ρ) (H := H) hz
          have hrep := rep_rel hzr len (len * i.size) (by rw [hzl])
          obtain ⟨arr, h1, h2⟩ := aFill_sound hcells hrep hp
          have hlen : len ≤ len := Nat.le_refl _
          refine ⟨_, .slice (some ⟨w.heap.size, 0, none⟩) len len, _, ?_, post_new h floor cells e arr e (by rw [h2.1]; exact Nat.le_refl _) h2.2 _ _ (fun ρ' hρ' => .sl _ 0 _ _ _ _ hρ' rfl hlen), rfl, rfl⟩
          have hgt : ¬ len * i.size > 2 ^ 24 := by omega
          by_cases h0 : len * i.size = 0
          · have h1' : Instr.fill (fun j => some (j * i.size, i.size)) #[] qs = some arr := by
              rw [h0] at h1
              rw [← h1]
              congr 1
              exact (Array.eq_empty_of_size_eq_zero (by simp)).symm
            simp [Instr.buildSlice, run_underlying hu, size_run hi, h0, h1', newRow, range0_map]
          · have hgt' : ¬ 2 ^ 24 < len * i.size := hgt
            simp [Instr.buildSlice, run_underlying hu, size_run hi, h0, hzv, h1, newRow, hgt']
        · cases hb
    · cases hb
  · cases hb

theorem wrap64_small {n : Int} (h0 : 0 ≤ n) (h1 : n ≤ 1099511627776) : IntKind.i64.wrap n = n := by
  have hm : n % (2 ^ IntKind.i64.bits : Int) = n := by
    apply Int.emod_eq_of_lt h0
    have : (2 ^ IntKind.i64.bits : Int) = 18446744073709551616 := by decide
    omega
  unfold IntKind.wrap
  simp only [hm]
  have : ¬ (n ≥ (2 ^ (IntKind.i64.bits - 1) : Int)) := by
    have : (2 ^ (IntKind.i64.bits - 1) : Int) = 9223372036854775808 := by decide
    omega
  simp [this]

theorem aMakeSlice_sound {st st' : St} {w : World} (h : Rel ρ H st.mem st.next w) (floor : Nat) {t : TypeId} {x y v : AVal} {ux uy : Value} (hb : aMakeSlice P st t x y = some (v, st')) (hx : VRel ρ H x ux) (hy : VRel ρ H y uy) :
    ∃ ρ' u w', (Instr.makeSlice t ux uy).run P w = .ok u w' ∧ Post ρ H floor st st' v w ρ' u w' ∧ st'.env = st.env ∧ st'.ob = st.ob := by
  unfold aMakeSlice at hb
  split at hb
  · rename_i e _ l _ c hu
    cases hx; cases hy
    split at hb
    · rename_i i zero hi hz
      cases hc : (Nat.beq zero.length i.size && (decide (0 ≤ l) && decide (l ≤ c) && decide (c * i.bytes ≤ 1099511627776) && decide (c ≤ 1099511627776))) with
      | false => rw [hc] at hb; cases hb
      | true =>
        rw [hc, cond_true] at hb
        simp only [Bool.and_eq_true, decide_eq_true_eq] at hc
        obtain ⟨hzl, ⟨⟨h0, hlc⟩, hcb⟩, hc40⟩ := hc
        have hzl := Nat.eq_of_beq_eq_true hzl
        simp only [Option.some.injEq, Prod.mk.injEq] at hb
        obtain ⟨rfl, rfl⟩ := hb
        obtain ⟨_, z, _, _, hzr, hzv⟩ := zeroOf_sound (ρ := ρ) (H := H) hz
        have hrep := rep_rel hzr c.toNat (c.toNat * i.size) (by rw [hzl])
        have wl := wrap64_small (n := l) h0 (by omega)
        have wc := wrap64_small (n := c) (by omega) hc40
        have e1 : ¬ c < 0 := by omega
        have e2 : ¬ (281474976710656 < (i.bytes : Int) * c) := by rw [Int.mul_comm]; omega
        have e3 : ¬ l < 0 := by omega
        have e4 : ¬ c < l := by omega
        by_cases hz0 : c.toNat * i.size = 0
        · rw [hz0] at hrep
          refine ⟨_, .slice (some ⟨w.heap.size, 0, none⟩) l.toNat c.toNat, _, ?_, post_new h floor (rep c.toNat zero) e #[] e (by rw [rep_length, hzl]; simp [hz0]) (fun j h1 h2 => by simp at h2) _ _ (fun ρ' hρ' => .sl _ 0 _ _ _ _ hρ' rfl (by omega)), rfl, rfl⟩
          simp [Instr.makeSlice, run_underlying hu, asInt, asIntOf, run_typeInfo w hi, wl, wc, e1, e2, e3, e4, size_run hi, hz0, newRow, range0_map]
        · refine ⟨_, .slice (some ⟨w.heap.size, 0, none⟩) l.toNat c.toNat, _, ?_, post_new h floor (rep c.toNat zero) e _ e (by rw [hrep.1]; exact Nat.le_refl _) hrep.2 _ _ (fun ρ' hρ' => .sl _ 0 _ _ _ _ hρ' rfl (by omega)), rfl, rfl⟩
          simp [Instr.makeSlice, run_underlying hu, asInt, asIntOf, run_typeInfo w hi, wl, wc, e1, e2, e3, e4, size_run hi, hz0, newRow, hzv]
    · cases hb
  · cases hb

end
end Go.Am
