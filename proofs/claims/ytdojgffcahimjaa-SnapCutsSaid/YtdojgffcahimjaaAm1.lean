/- A library function that puts other integers into the cells of one slice (slices.Sort), as a contract of the machine. -/
import Derived.Test.YtdojgffcahimjaaAmZ
import Derived.Sort.Grow
namespace Go.Am
open Go.Sort Go.RowKit
set_option linter.unusedVariables false
variable {P : Program} {ρ : Rho}

theorem Rel.rewritten {mem : Mem} {next : Nat} {w w' : World} (h : Rel ρ mem next w) {b : Nat} {l : Loc} {ab : ABlk} (hb : ρ b = some l) (hm : mget mem b = some ab) {cs : List AVal}
    (hlen : cs.length = ab.cells.length) (hsame : ∀ k, k < w.heap.size → k ≠ l.blk → w'.heap[k]? = w.heap[k]?) (hsize : w.heap.size ≤ w'.heap.size)
    (hnew : ∃ cur el, w'.heap[l.blk]? = some (.cells cur el (0, 0)) ∧ l.base + l.tot ≤ cur.size ∧ ∀ (i : Nat) (hi : i < cs.length), ∃ v, cur[l.base + i]? = some v ∧ VRel ρ cs[i] v) :
    Rel ρ (mset mem b (some ⟨cs, ab.ty, none⟩)) next w' := by
  have hbk := h.blk b l ab hb hm
  refine ⟨h.dom, fun c c' m m' e e' he hs hs' => ?_, fun c m ac e hc => ?_, fun k o e => ?_, fun c m e hs => h.sep c m e (by
    by_cases hcb : c = b
    · rw [hcb, hm]; rfl
    · rwa [mget_mset_ne _ _ hcb] at hs), fun c m e => Nat.lt_of_lt_of_le (h.real c m e) hsize, fun c hc => by have := h.dom b l hb; rw [mget_mset_ne _ _ (by omega)]; exact h.bd c hc, h.ldom⟩
  · refine h.inj c c' m m' e e' he ?_ ?_
    · by_cases hcb : c = b
      · rw [hcb, hm]; rfl
      · rwa [mget_mset_ne _ _ hcb] at hs
    · by_cases hcb : c' = b
      · rw [hcb, hm]; rfl
      · rwa [mget_mset_ne _ _ hcb] at hs'
  · by_cases hcb : c = b
    · subst hcb
      rw [mget_mset_same] at hc
      obtain rfl := Option.some.inj hc
      rw [hb] at e
      obtain rfl := Option.some.inj e
      exact ⟨by rw [hlen]; exact hbk.n, hbk.tot, (fun A e => by cases e), hnew⟩
    · rw [mget_mset_ne _ _ hcb] at hc
      refine (h.blk c m ac e hc).world (Rho.le_refl _) (hsame m.blk (h.real c m e) fun heq => hcb ?_)
      exact h.inj c b m l e hb heq (by rw [hc]; rfl) (by rw [hm]; rfl)
  · have hk := h.old k o e
    rw [hsame k ?_ ?_]
    · exact hk
    · exact (Array.getElem?_eq_some_iff.1 hk).1
    · intro heq
      have := h.sep b l hb (by rw [hm]; rfl)
      rw [← heq, e] at this
      cases this

/-- The integers of a list that is told by rows. -/
def intsOf (n : Nat) (c : Nat → Int) : List Int := (List.range n).map c
/-- Other integers are put into a list. -/
noncomputable def fRow (srt : List Int → List Int) (args : List AVal) (mem : Mem) : Option (AVal × Nat × ABlk × Bool) := match args with
  | [.sla b sz off n cap] => match mget mem b with
    | some ⟨_, ty, some A⟩ => some (.tup [], b, ⟨rows A.n (iget (listC (srt (intsOf n (cOf A.get))))), ty, some ⟨1, A.n, iget (listC (srt (intsOf n (cOf A.get))))⟩⟩,
        Nat.beq sz 1 && (Nat.beq A.sz 1 && (Nat.beq off 0 && (decide (n = A.n) && (isI A.get && decide (n < 4611686018427387904))))))
    | _ => none
  | _ => none

theorem rows_iget_get (n : Nat) (c : Nat → Int) (i : Nat) (h : i < n) : (rows n (iget c))[i]? = some (.int .i64 (c i)) := by
  have := rows_get (get := iget c) (sz := 1) n (fun _ _ => rfl) i 0 h Nat.one_pos
  simpa [iget] using this
theorem rows_iget_len (n : Nat) (c : Nat → Int) : (rows n (iget c)).length = n := by
  rw [rows_length (sz := 1) n fun _ _ => rfl, Nat.mul_one]

theorem heap_row (w : World) (n blk off : Nat) (d : Array Int) (os : Array Obj) (k : Nat) (hk : k < w.heap.size) :
    (grow (putRow (Value.int .i64) (Go.Sort.ahead w n) blk off d) os).heap[k]? = if k = blk then (w.heap[k]?).map (onCells (putCells (Value.int .i64) off d)) else w.heap[k]? := by
  show (((Go.Sort.ahead w n).heap.modify blk (onCells (putCells (Value.int .i64) off d))) ++ os)[k]? = _
  rw [Array.getElem?_append_left (by simp; exact hk), Array.getElem?_modify]
  show (if blk = k then _ else _) = _
  by_cases h : k = blk
  · rw [if_pos h.symm, if_pos h]; rfl
  · rw [if_neg (fun e => h e.symm), if_neg h]; rfl

theorem Ev.rewritten {mem : Mem} {next floor : Nat} {w w' : World} (h : Rel ρ mem next w) {b : Nat} (o : Option ABlk) (hb : ∀ l, ρ b = some l → floor ≤ b) (hnone : ρ b = none → ∀ cs ty, mget mem b ≠ some ⟨cs, ty, none⟩)
    (hsame : ∀ k, k < w.heap.size → (∀ l, ρ b = some l → k ≠ l.blk) → w'.heap[k]? = w.heap[k]?) (hsize : w.heap.size ≤ w'.heap.size) (h1 : w'.os = w.os) (h2 : w'.tape = w.tape) (h3 : w'.output = w.output) :
    Ev ρ ρ floor mem next (mset mem b o) next w w' where
  ext := Rho.le_refl _
  new _ _ := rfl
  nxt := Nat.le_refl _
  unborn k _ e cs ty hm := by
    by_cases hk : k = b
    · subst hk; exact absurd hm (hnone e cs ty)
    · rw [mget_mset_ne _ _ hk]; exact hm
  frame k o hk hfr := by
    rw [hsame k (Array.getElem?_eq_some_iff.1 hk).1 fun l hl heq => hfr b l hl (hb l hl) heq.symm]
    exact hk
  fresh k m hk e := by have := h.dom k m e; omega
  size := hsize
  os := h1
  tape := h2
  output := h3
  still _ _ := rfl

theorem Rel.unbornSet {mem : Mem} {next : Nat} {w : World} (h : Rel ρ mem next w) {b : Nat} (hb : ρ b = none) (hlt : b < next) (o : Option ABlk) : Rel ρ (mset mem b o) next w := by
  have ne : ∀ c l, ρ c = some l → c ≠ b := fun c l e he => by rw [he, hb] at e; cases e
  refine ⟨h.dom, fun c c' m m' e e' he hs hs' => ?_, fun c m ac e hc => ?_, h.old, fun c m e hs => ?_, h.real, fun c hc => ?_, h.ldom⟩
  · rw [mget_mset_ne _ _ (ne _ _ e)] at hs
    rw [mget_mset_ne _ _ (ne _ _ e')] at hs'
    exact h.inj c c' m m' e e' he hs hs'
  · rw [mget_mset_ne _ _ (ne _ _ e)] at hc
    exact h.blk c m ac e hc
  · rw [mget_mset_ne _ _ (ne _ _ e)] at hs
    exact h.sep c m e hs
  · rw [mget_mset_ne _ _ (by omega)]
    exact h.bd c hc

theorem eff_row {f : FuncId} {srt : List Int → List Int} (hsl : ∀ zs, (srt zs).length = zs.length)
    (hC : ∀ (blk off cap : Nat) (zs : List Int) (w : World), Holds (Value.int .i64) w blk off zs.toArray → blk < w.heap.size → zs.length < 4611686018427387904 →
      Calls P f #[.slice (some ⟨blk, off, none⟩) zs.length cap] w fun e w' => e = .returned (.tuple #[]) ∧ ∃ n os, w' = grow (putRow (Value.int .i64) (Go.Sort.ahead w n) blk off (srt zs).toArray) os)
    (hN : ∀ (p : Option Addr) (cap : Nat) (w : World), Calls P f #[.slice p 0 cap] w fun e w' => e = .returned (.tuple #[]) ∧ w' = w) : EffOk P f (fRow srt) := by
  intro args mem v b blk h hsome ρ next floor vals w hfl hargs hrel
  unfold fRow at h
  split at h
  · rename_i b0 sz off n cap
    split at h
    · rename_i cells ty A hm
      obtain ⟨asz, an, get⟩ := A
      simp only [Option.some.injEq, Prod.mk.injEq, Bool.and_eq_true] at h
      obtain ⟨rfl, rfl, rfl, h1, h2, h3, h4, h5, h6⟩ := h
      have g1 := Nat.eq_of_beq_eq_true h1
      have g2 := Nat.eq_of_beq_eq_true h2
      have g3 := Nat.eq_of_beq_eq_true h3
      have g4 : n = an := of_decide_eq_true h4
      have h6 : n < 4611686018427387904 := of_decide_eq_true h6
      subst g1
      subst g2
      subst g3
      subst g4
      obtain ⟨c, hcg⟩ := isI_spec h5
      have e0 : cOf (iget c) = c := rfl
      simp only [hcg, e0]
      -- the one argument
      obtain ⟨u, hu, hvals⟩ : ∃ u, VRel ρ (.sla b0 1 0 n cap) u ∧ vals = #[u] := by
        obtain ⟨vl⟩ := vals
        cases hargs with
        | cons h1 h2 => cases h2; exact ⟨_, h1, rfl⟩
      subst hvals
      have hlt : b0 < next := by
        rcases Nat.lt_or_ge b0 next with h | h
        · exact h
        · have := hrel.bd b0 h; rw [hm] at this; cases this
      generalize hL : srt (intsOf n c) = L
      have hLl : L.length = n := by rw [← hL, hsl, intsOf, List.length_map, List.length_range]
      have hnn : ρ b0 = none → ∀ cs ty', mget mem b0 ≠ some ⟨cs, ty', none⟩ := fun _ cs ty' e => by rw [hm] at e; cases e
      cases hu with
      | sla _ _ _ _ _ l cc e hc hlen =>
        have hbk := hrel.blk b0 l _ e hm
        obtain ⟨har, _, _⟩ := hbk.arr _ rfl
        simp only [hcg] at har
        subst har
        obtain ⟨cur, el, hh, hsz, hcells⟩ := hbk.cells
        simp only [rows_iget_len] at hcells
        have hcell : ∀ i, i < n → cur[l.base + i]? = some (.int .i64 (c i)) := fun i hi => by
          obtain ⟨v, e1, e2⟩ := hcells i hi
          rw [show (rows n (iget c))[i]'(by rw [rows_iget_len]; exact hi) = .int .i64 (c i) from Option.some.inj (by rw [← List.getElem?_eq_getElem, rows_iget_get n c i hi])] at e2
          cases e2
          exact e1
        have hblk := hrel.real b0 l e
        have hzs : (intsOf n c).length = n := by rw [intsOf, List.length_map, List.length_range]
        have hH : Holds (Value.int .i64) w l.blk (l.base + 0 * 1) (intsOf n c).toArray := fun j hj => by
          have hj : j < n := by simpa [hzs] using hj
          refine ⟨?_, ?_⟩
          · simp only [World.cell?, hh, Nat.zero_mul, Nat.add_zero]
            rw [hcell j hj]
            simp [intsOf, hj]
          · simp [World.frozen?, hh]
        have hcall := hC l.blk (l.base + 0 * 1) cc (intsOf n c) w hH hblk (by omega)
        rw [hzs, hL] at hcall
        refine hcall.mono fun e' w' ⟨he, q, os, hw'⟩ => ⟨_, he, ?_, ?_, ?_⟩
        · exact .tup [] #[] rfl fun i h1 h2 => absurd h1 (Nat.not_lt_zero _)
        · subst hw'
          refine Rel.setArr ?_ ⟨1, n, iget (listC L)⟩ rfl (Nat.le_refl 1) fun _ _ => rfl
          refine Rel.rewritten hrel e hm (by simp only [rows_iget_len]) (fun k hk hne => ?_) ?_ ?_
          · rw [heap_row _ _ _ _ _ _ _ hk, if_neg hne]
          · show _ ≤ (((Go.Sort.ahead w q).heap.modify _ _) ++ os).size
            simp only [Array.size_append, Array.size_modify]
            exact Nat.le_add_right _ _
          · refine ⟨putCells (Value.int .i64) (l.base + 0 * 1) L.toArray cur, el, ?_, ?_, fun i hi => ?_⟩
            · rw [heap_row _ _ _ _ _ _ _ hblk, if_pos rfl, hh]; rfl
            · simp only [putCells, Array.size_mapIdx]; exact hsz
            · rw [rows_iget_len] at hi
              refine ⟨.int .i64 (listC L i), ?_, ?_⟩
              · simp only [putCells, Array.getElem?_mapIdx, hcell i hi, Option.map_some, Nat.zero_mul, Nat.add_zero]
                rw [if_pos ⟨by omega, by simp [hLl]; omega⟩]
                congr 1
                simp [listC, hLl, hi]
              · rw [show (rows n (iget (listC L)))[i]'(by rw [rows_iget_len]; exact hi) = .int .i64 (listC L i) from Option.some.inj (by rw [← List.getElem?_eq_getElem, rows_iget_get n _ i hi])]
                exact .int _ _
        · subst hw'
          refine Ev.rewritten hrel _ (fun l' _ => hfl) hnn (fun k hk hne => ?_) ?_ rfl rfl rfl
          · rw [heap_row _ _ _ _ _ _ _ hk, if_neg (hne l e)]
          · show _ ≤ (((Go.Sort.ahead w q).heap.modify _ _) ++ os).size
            simp only [Array.size_append, Array.size_modify]
            exact Nat.le_add_right _ _
      | slan =>
        refine (hN none 0 w).mono fun e' w' ⟨he, hw'⟩ => ⟨_, he, ?_, ?_, ?_⟩
        · exact .tup [] #[] rfl fun i h1 h2 => absurd h1 (Nat.not_lt_zero _)
        · subst hw'
          refine Rel.setArr ?_ ⟨1, 0, iget (listC L)⟩ rfl (Nat.le_refl 1) fun _ _ => rfl
          cases e : ρ b0 with
          | none => exact Rel.unbornSet hrel e hlt _
          | some l =>
            have hbk := hrel.blk b0 l _ e hm
            obtain ⟨har, _, _⟩ := hbk.arr _ rfl
            simp only [hcg] at har
            subst har
            obtain ⟨cur, el, hh, hsz, hcells⟩ := hbk.cells
            exact Rel.rewritten hrel e hm rfl (fun _ _ _ => rfl) (Nat.le_refl _) ⟨cur, el, hh, hsz, fun i hi => absurd hi (Nat.not_lt_zero _)⟩
        · subst hw'
          exact Ev.rewritten hrel _ (fun l' _ => hfl) hnn (fun _ _ _ => rfl) (Nat.le_refl _) rfl rfl rfl
    · cases h
  · cases h
/-- Other integers are put into a list; it is handed back, cut. -/
noncomputable def fCut (srt : List Int → List Int) (res : List Int → Nat) (args : List AVal) (mem : Mem) : Option (AVal × Nat × ABlk × Bool) := match args with
  | [.sla b sz off n cap] => match mget mem b with
    | some ⟨_, ty, some A⟩ => some (.sla b 1 0 (res (intsOf n (cOf A.get))) cap, b, ⟨rows A.n (iget (listC (srt (intsOf n (cOf A.get))))), ty, some ⟨1, A.n, iget (listC (srt (intsOf n (cOf A.get))))⟩⟩,
        Nat.beq sz 1 && (Nat.beq A.sz 1 && (Nat.beq off 0 && (decide (n = A.n) && (isI A.get && decide (n < 4611686018427387904))))))
    | _ => none
  | _ => none

theorem eff_cut {f : FuncId} {srt : List Int → List Int} {res : List Int → Nat} (hsl : ∀ zs, (srt zs).length = zs.length) (hres : ∀ zs, res zs ≤ zs.length)
    (hC : ∀ (blk off cap : Nat) (zs : List Int) (w : World), Holds (Value.int .i64) w blk off zs.toArray → blk < w.heap.size → zs.length < 4611686018427387904 → zs.length ≤ cap →
      Calls P f #[.slice (some ⟨blk, off, none⟩) zs.length cap] w fun e w' => e = .returned (.slice (some ⟨blk, off, none⟩) (res zs) cap) ∧ ∃ n os, w' = grow (putRow (Value.int .i64) (Go.Sort.ahead w n) blk off (srt zs).toArray) os)
    (hN : ∀ (p : Option Addr) (cap : Nat) (w : World), Calls P f #[.slice p 0 cap] w fun e w' => e = .returned (.slice p 0 cap) ∧ w' = w) : EffOk P f (fCut srt res) := by
  intro args mem v b blk h hsome ρ next floor vals w hfl hargs hrel
  unfold fCut at h
  split at h
  · rename_i b0 sz off n cap
    split at h
    · rename_i cells ty A hm
      obtain ⟨asz, an, get⟩ := A
      simp only [Option.some.injEq, Prod.mk.injEq, Bool.and_eq_true] at h
      obtain ⟨rfl, rfl, rfl, h1, h2, h3, h4, h5, h6⟩ := h
      have g1 := Nat.eq_of_beq_eq_true h1
      have g2 := Nat.eq_of_beq_eq_true h2
      have g3 := Nat.eq_of_beq_eq_true h3
      have g4 : n = an := of_decide_eq_true h4
      have h6 : n < 4611686018427387904 := of_decide_eq_true h6
      subst g1
      subst g2
      subst g3
      subst g4
      obtain ⟨c, hcg⟩ := isI_spec h5
      have e0 : cOf (iget c) = c := rfl
      simp only [hcg, e0]
      -- the one argument
      obtain ⟨u, hu, hvals⟩ : ∃ u, VRel ρ (.sla b0 1 0 n cap) u ∧ vals = #[u] := by
        obtain ⟨vl⟩ := vals
        cases hargs with
        | cons h1 h2 => cases h2; exact ⟨_, h1, rfl⟩
      subst hvals
      have hlt : b0 < next := by
        rcases Nat.lt_or_ge b0 next with h | h
        · exact h
        · have := hrel.bd b0 h; rw [hm] at this; cases this
      generalize hL : srt (intsOf n c) = L
      have hLl : L.length = n := by rw [← hL, hsl, intsOf, List.length_map, List.length_range]
      have hnn : ρ b0 = none → ∀ cs ty', mget mem b0 ≠ some ⟨cs, ty', none⟩ := fun _ cs ty' e => by rw [hm] at e; cases e
      cases hu with
      | sla _ _ _ _ _ l cc e hc hlen =>
        have hbk := hrel.blk b0 l _ e hm
        obtain ⟨har, _, _⟩ := hbk.arr _ rfl
        simp only [hcg] at har
        subst har
        obtain ⟨cur, el, hh, hsz, hcells⟩ := hbk.cells
        simp only [rows_iget_len] at hcells
        have hcell : ∀ i, i < n → cur[l.base + i]? = some (.int .i64 (c i)) := fun i hi => by
          obtain ⟨v, e1, e2⟩ := hcells i hi
          rw [show (rows n (iget c))[i]'(by rw [rows_iget_len]; exact hi) = .int .i64 (c i) from Option.some.inj (by rw [← List.getElem?_eq_getElem, rows_iget_get n c i hi])] at e2
          cases e2
          exact e1
        have hblk := hrel.real b0 l e
        have hzs : (intsOf n c).length = n := by rw [intsOf, List.length_map, List.length_range]
        have hH : Holds (Value.int .i64) w l.blk (l.base + 0 * 1) (intsOf n c).toArray := fun j hj => by
          have hj : j < n := by simpa [hzs] using hj
          refine ⟨?_, ?_⟩
          · simp only [World.cell?, hh, Nat.zero_mul, Nat.add_zero]
            rw [hcell j hj]
            simp [intsOf, hj]
          · simp [World.frozen?, hh]
        have hcall := hC l.blk (l.base + 0 * 1) cc (intsOf n c) w hH hblk (by omega) (by omega)
        rw [hzs, hL] at hcall
        refine hcall.mono fun e' w' ⟨he, q, os, hw'⟩ => ⟨_, he, ?_, ?_, ?_⟩
        · exact .sla _ _ _ _ _ l cc e hc (Nat.le_trans (hres _) (by omega))
        · subst hw'
          refine Rel.setArr ?_ ⟨1, n, iget (listC L)⟩ rfl (Nat.le_refl 1) fun _ _ => rfl
          refine Rel.rewritten hrel e hm (by simp only [rows_iget_len]) (fun k hk hne => ?_) ?_ ?_
          · rw [heap_row _ _ _ _ _ _ _ hk, if_neg hne]
          · show _ ≤ (((Go.Sort.ahead w q).heap.modify _ _) ++ os).size
            simp only [Array.size_append, Array.size_modify]
            exact Nat.le_add_right _ _
          · refine ⟨putCells (Value.int .i64) (l.base + 0 * 1) L.toArray cur, el, ?_, ?_, fun i hi => ?_⟩
            · rw [heap_row _ _ _ _ _ _ _ hblk, if_pos rfl, hh]; rfl
            · simp only [putCells, Array.size_mapIdx]; exact hsz
            · rw [rows_iget_len] at hi
              refine ⟨.int .i64 (listC L i), ?_, ?_⟩
              · simp only [putCells, Array.getElem?_mapIdx, hcell i hi, Option.map_some, Nat.zero_mul, Nat.add_zero]
                rw [if_pos ⟨by omega, by simp [hLl]; omega⟩]
                congr 1
                simp [listC, hLl, hi]
              · rw [show (rows n (iget (listC L)))[i]'(by rw [rows_iget_len]; exact hi) = .int .i64 (listC L i) from Option.some.inj (by rw [← List.getElem?_eq_getElem, rows_iget_get n _ i hi])]
                exact .int _ _
        · subst hw'
          refine Ev.rewritten hrel _ (fun l' _ => hfl) hnn (fun k hk hne => ?_) ?_ rfl rfl rfl
          · rw [heap_row _ _ _ _ _ _ _ hk, if_neg (hne l e)]
          · show _ ≤ (((Go.Sort.ahead w q).heap.modify _ _) ++ os).size
            simp only [Array.size_append, Array.size_modify]
            exact Nat.le_add_right _ _
      | slan =>
        refine (hN none 0 w).mono fun e' w' ⟨he, hw'⟩ => ⟨_, he, ?_, ?_, ?_⟩
        · rw [show res (intsOf 0 c) = 0 from Nat.le_zero.1 (hres _)]
          exact .slan _ _ _ _
        · subst hw'
          refine Rel.setArr ?_ ⟨1, 0, iget (listC L)⟩ rfl (Nat.le_refl 1) fun _ _ => rfl
          cases e : ρ b0 with
          | none => exact Rel.unbornSet hrel e hlt _
          | some l =>
            have hbk := hrel.blk b0 l _ e hm
            obtain ⟨har, _, _⟩ := hbk.arr _ rfl
            simp only [hcg] at har
            subst har
            obtain ⟨cur, el, hh, hsz, hcells⟩ := hbk.cells
            exact Rel.rewritten hrel e hm rfl (fun _ _ _ => rfl) (Nat.le_refl _) ⟨cur, el, hh, hsz, fun i hi => absurd hi (Nat.not_lt_zero _)⟩
        · subst hw'
          exact Ev.rewritten hrel _ (fun l' _ => hfl) hnn (fun _ _ _ => rfl) (Nat.le_refl _) rfl rfl rfl
    · cases h
  · cases h
end Go.Am
