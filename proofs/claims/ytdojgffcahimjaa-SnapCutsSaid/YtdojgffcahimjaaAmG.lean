/- append and copy. -/
import Derived.Test.YtdojgffcahimjaaAmF
namespace Go.Am

section
variable {P : Program} {ρ : Rho} 

theorem Rel.kill {mem : Mem} {next : Nat} {w : World} (h : Rel ρ mem next w) (b : Nat) : Rel ρ (mset mem b none) next w :=
  ⟨h.dom, fun c c' m m' e e' he hs hs' => by
    have hc : c ≠ b := fun e => by rw [e, mget_mset_same] at hs; cases hs
    have hc' : c' ≠ b := fun e => by rw [e, mget_mset_same] at hs'; cases hs'
    rw [mget_mset_ne _ _ hc] at hs
    rw [mget_mset_ne _ _ hc'] at hs'
    exact h.inj c c' m m' e e' he hs hs',
   fun c m ab e hc => by
    have hcb : c ≠ b := fun e => by rw [e, mget_mset_same] at hc; cases hc
    rw [mget_mset_ne _ _ hcb] at hc
    exact h.blk c m ab e hc, h.old, fun c m e hs => by
    have hcb : c ≠ b := fun e => by rw [e, mget_mset_same] at hs; cases hs
    rw [mget_mset_ne _ _ hcb] at hs
    exact h.sep c m e hs, h.real, fun c hc => by
    by_cases hcb : c = b
    · rw [hcb, mget_mset_same]
    · rw [mget_mset_ne _ _ hcb]; exact h.bd c hc, h.ldom⟩

theorem Ev.ofKill {mem : Mem} {next : Nat} {w : World} (h : Rel ρ mem next w) (floor : Nat) {b : Nat} {l : Loc} (hb : ρ b = some l) : Ev ρ ρ floor mem next (mset mem b none) next w w where
  ext := Rho.le_refl _
  new _ _ := rfl
  nxt := Nat.le_refl _
  unborn k _ e cs ty hm := by rw [mget_mset_ne _ _ fun hk => by rw [hk, hb] at e; cases e]; exact hm
  frame _ _ hk _ := hk
  fresh k m hk e := by have := h.dom k m e; omega
  size := Nat.le_refl _
  os := rfl
  tape := rfl
  output := rfl
  still _ _ := rfl

/-- More cells are written behind the told ones of block b: a new abstract block for them and those before, from off on; b is told no more. -/
theorem Rel.beyond {mem : Mem} {next : Nat} {w : World} (h : Rel ρ mem next w) {b : Nat} {l : Loc} {ab : ABlk} (hb : ρ b = some l) (hm : mget mem b = some ab) {off : Nat} {new : List AVal} {vs : List Value} (ty : TypeId)
    (hlen : vs.length = new.length) (hoff : off ≤ ab.cells.length) (hfit : ab.cells.length + new.length ≤ l.tot) (hv : ∀ (i : Nat) (h1 : i < new.length) (h2 : i < vs.length), VRel ρ new[i] vs[i]) :
    ∃ cur el, w.heap[l.blk]? = some (.cells cur el (0, 0)) ∧ l.base + ab.cells.length + vs.length ≤ cur.size ∧
      Rel (rhoAdd ρ next ⟨l.blk, l.base + off, ab.cells.length - off + new.length, l.tot - off⟩) (mset (mset mem b none) next (some ⟨ab.cells.drop off ++ new, ty, none⟩)) (next + 1)
        (w.setRow l.blk (cur.toList.take (l.base + ab.cells.length) ++ vs ++ cur.toList.drop (l.base + ab.cells.length + vs.length)).toArray) := by
  obtain ⟨hn, ht, _, cur, el, h1, h2, h3⟩ := h.blk b l ab hb hm
  have hbn : b < next := h.dom b l hb
  have hle := rhoAdd_le (l := ⟨l.blk, l.base + off, ab.cells.length - off + new.length, l.tot - off⟩) h.none_next
  have hfc : l.base + ab.cells.length + vs.length ≤ cur.toList.length := by simp; omega
  have hget : ∀ c m, rhoAdd ρ next ⟨l.blk, l.base + off, ab.cells.length - off + new.length, l.tot - off⟩ c = some m → (c = next ∧ m = ⟨l.blk, l.base + off, ab.cells.length - off + new.length, l.tot - off⟩) ∨ (c ≠ next ∧ ρ c = some m) := fun c m e => by
    rw [rhoAdd_get] at e
    by_cases hc : c = next
    · rw [if_pos hc] at e; exact .inl ⟨hc, (Option.some.inj e).symm⟩
    · rw [if_neg hc] at e; exact .inr ⟨hc, e⟩
  have live : ∀ c, c ≠ next → (mget (mset (mset mem b none) next (some ⟨ab.cells.drop off ++ new, ty, none⟩)) c).isSome = true → c ≠ b ∧ (mget mem c).isSome = true := fun c hc hs => by
    rw [mget_mset_ne _ _ hc] at hs
    have hcb : c ≠ b := fun e => by rw [e, mget_mset_same] at hs; cases hs
    rw [mget_mset_ne _ _ hcb] at hs
    exact ⟨hcb, hs⟩
  refine ⟨cur, el, h1, by simpa using hfc, fun c m e => ?_, fun c c' m m' e e' he hs hs' => ?_, fun c m ac e hc => ?_, fun k o e => ?_, fun c m e => ?_, fun c m e => ?_, fun c hc => by rw [mget_mset_ne _ _ (by omega), mget_mset_ne _ _ (by omega)]; exact h.bd c (by omega), fun j l e => Nat.lt_succ_of_lt (h.ldom j l e)⟩
  · rcases hget c m e with ⟨rfl, _⟩ | ⟨_, e⟩
    · omega
    · have := h.dom c m e; omega
  · rcases hget c m e with ⟨hc, hl⟩ | ⟨hc, e2⟩ <;> rcases hget c' m' e' with ⟨hc', hl'⟩ | ⟨hc', e2'⟩
    · rw [hc, hc']
    · obtain ⟨hcb, hs'⟩ := live c' hc' hs'
      rw [hl] at he
      exact absurd (h.inj c' b m' l e2' hb he.symm hs' (by rw [hm]; rfl)) hcb
    · obtain ⟨hcb, hs⟩ := live c hc hs
      rw [hl'] at he
      exact absurd (h.inj c b m l e2 hb he hs (by rw [hm]; rfl)) hcb
    · obtain ⟨_, hs⟩ := live c hc hs
      obtain ⟨_, hs'⟩ := live c' hc' hs'
      exact h.inj c c' m m' e2 e2' he hs hs'
  · rcases hget c m e with ⟨rfl, rfl⟩ | ⟨hcn, e2⟩
    · rw [mget_mset_same] at hc
      obtain rfl := Option.some.inj hc
      refine ⟨by simp, by simp; omega, (fun A e => by cases e), _, el, setRow_heap w l.blk cur _ el (0, 0) h1, ?_, fun i hi => ?_⟩
      · rw [List.size_toArray, splice_length _ _ _ hfc]; simp at h2 ⊢; omega
      · simp only [List.length_append, List.length_drop] at hi
        simp only [List.getElem?_toArray]
        rw [splice_get _ _ _ _ hfc]
        by_cases g1 : off + i < ab.cells.length
        · rw [if_pos (by omega), List.getElem_append_left (by simp; omega)]
          obtain ⟨v, e1, e2⟩ := h3 (off + i) g1
          exact ⟨v, by simpa [Nat.add_assoc] using e1, by simpa using e2.mono hle⟩
        · rw [if_neg (by omega), if_pos (by omega), List.getElem_append_right (by simp; omega)]
          have hi2 : l.base + off + i - (l.base + ab.cells.length) < vs.length := by omega
          refine ⟨vs[l.base + off + i - (l.base + ab.cells.length)], List.getElem?_eq_getElem hi2, ?_⟩
          have e3 : i - (ab.cells.drop off).length = l.base + off + i - (l.base + ab.cells.length) := by simp; omega
          have := hv (l.base + off + i - (l.base + ab.cells.length)) (by omega) hi2
          simp only [e3]
          exact this.mono hle
    · have hcs : (mget mem c).isSome = true ∧ c ≠ b := by
        have := live c hcn (by rw [hc]; rfl)
        exact ⟨this.2, this.1⟩
      rw [mget_mset_ne _ _ hcn, mget_mset_ne _ _ hcs.2] at hc
      refine (h.blk c m ac e2 hc).world hle (setRow_other w l.blk m.blk _ fun heq => hcs.2 ?_)
      exact h.inj c b m l e2 hb heq hcs.1 (by rw [hm]; rfl)
  · have e : ρ.fz k = some o := e
    have hk := h.old k o e
    rw [setRow_other]
    · exact hk
    · intro heq
      have := h.sep b l hb (by rw [hm]; rfl)
      rw [← heq, e] at this
      cases this
  · intro hs
    rcases hget c m e with ⟨rfl, rfl⟩ | ⟨hcn, e⟩
    · exact h.sep b l hb (by rw [hm]; rfl)
    · exact h.sep c m e (live c hcn hs).2
  · rw [setRow_size]
    rcases hget c m e with ⟨rfl, rfl⟩ | ⟨_, e⟩
    · exact h.real b l hb
    · exact h.real c m e

/-- Cells are written from a place of block b on: a new abstract block for them and those before, from off on; b is told no more. -/
theorem Rel.beyond2 {mem : Mem} {next : Nat} {w : World} (h : Rel ρ mem next w) {b : Nat} {l : Loc} {ab : ABlk} (hb : ρ b = some l) (hm : mget mem b = some ab) {off m T : Nat} {new : List AVal} {vs : List Value} (ty : TypeId)
    (hlen : vs.length = new.length) (hoff : off ≤ m) (hmc : m ≤ ab.cells.length) (hfit : m - off + new.length ≤ T) (hT : off + T ≤ l.tot) (hv : ∀ (i : Nat) (h1 : i < new.length) (h2 : i < vs.length), VRel ρ new[i] vs[i]) :
    ∃ cur el, w.heap[l.blk]? = some (.cells cur el (0, 0)) ∧ l.base + m + vs.length ≤ cur.size ∧
      Rel (rhoAdd ρ next ⟨l.blk, l.base + off, m - off + new.length, T⟩) (mset (mset mem b none) next (some ⟨(ab.cells.take m).drop off ++ new, ty, none⟩)) (next + 1)
        (w.setRow l.blk (cur.toList.take (l.base + m) ++ vs ++ cur.toList.drop (l.base + m + vs.length)).toArray) := by
  obtain ⟨hn, ht, _, cur, el, h1, h2, h3⟩ := h.blk b l ab hb hm
  have hbn : b < next := h.dom b l hb
  have hle := rhoAdd_le (l := ⟨l.blk, l.base + off, m - off + new.length, T⟩) h.none_next
  have hfc : l.base + m + vs.length ≤ cur.toList.length := by simp; omega
  have hget : ∀ c lm, rhoAdd ρ next ⟨l.blk, l.base + off, m - off + new.length, T⟩ c = some lm → (c = next ∧ lm = ⟨l.blk, l.base + off, m - off + new.length, T⟩) ∨ (c ≠ next ∧ ρ c = some lm) := fun c lm e => by
    rw [rhoAdd_get] at e
    by_cases hc : c = next
    · rw [if_pos hc] at e; exact .inl ⟨hc, (Option.some.inj e).symm⟩
    · rw [if_neg hc] at e; exact .inr ⟨hc, e⟩
  have live : ∀ c, c ≠ next → (mget (mset (mset mem b none) next (some ⟨(ab.cells.take m).drop off ++ new, ty, none⟩)) c).isSome = true → c ≠ b ∧ (mget mem c).isSome = true := fun c hc hs => by
    rw [mget_mset_ne _ _ hc] at hs
    have hcb : c ≠ b := fun e => by rw [e, mget_mset_same] at hs; cases hs
    rw [mget_mset_ne _ _ hcb] at hs
    exact ⟨hcb, hs⟩
  refine ⟨cur, el, h1, by simpa using hfc, fun c lm e => ?_, fun c c' lm lm' e e' he hs hs' => ?_, fun c lm ac e hc => ?_, fun k o e => ?_, fun c lm e => ?_, fun c lm e => ?_, fun c hc => by rw [mget_mset_ne _ _ (by omega), mget_mset_ne _ _ (by omega)]; exact h.bd c (by omega), fun j l e => Nat.lt_succ_of_lt (h.ldom j l e)⟩
  · rcases hget c lm e with ⟨rfl, _⟩ | ⟨_, e⟩
    · omega
    · have := h.dom c lm e; omega
  · rcases hget c lm e with ⟨hc, hl⟩ | ⟨hc, e2⟩ <;> rcases hget c' lm' e' with ⟨hc', hl'⟩ | ⟨hc', e2'⟩
    · rw [hc, hc']
    · obtain ⟨hcb, hs'⟩ := live c' hc' hs'
      rw [hl] at he
      exact absurd (h.inj c' b lm' l e2' hb he.symm hs' (by rw [hm]; rfl)) hcb
    · obtain ⟨hcb, hs⟩ := live c hc hs
      rw [hl'] at he
      exact absurd (h.inj c b lm l e2 hb he hs (by rw [hm]; rfl)) hcb
    · obtain ⟨_, hs⟩ := live c hc hs
      obtain ⟨_, hs'⟩ := live c' hc' hs'
      exact h.inj c c' lm lm' e2 e2' he hs hs'
  · rcases hget c lm e with ⟨rfl, rfl⟩ | ⟨hcn, e2⟩
    · rw [mget_mset_same] at hc
      obtain rfl := Option.some.inj hc
      have htl : ((ab.cells.take m).drop off).length = m - off := by rw [List.length_drop, List.length_take]; omega
      refine ⟨by rw [List.length_append, htl], hfit, (fun A e => by cases e), _, el, setRow_heap w l.blk cur _ el (0, 0) h1, ?_, fun i hi => ?_⟩
      · rw [List.size_toArray, splice_length _ _ _ hfc]; simp at h2 ⊢; omega
      · simp only [] at hi
        rw [List.length_append, htl] at hi
        simp only [List.getElem?_toArray]
        rw [splice_get _ _ _ _ hfc]
        by_cases g1 : off + i < m
        · rw [if_pos (by omega), List.getElem_append_left (by rw [htl]; omega)]
          obtain ⟨v, e1, e2⟩ := h3 (off + i) (by omega)
          exact ⟨v, by simpa [Nat.add_assoc] using e1, by simpa using e2.mono hle⟩
        · rw [if_neg (by omega), if_pos (by omega), List.getElem_append_right (by rw [htl]; omega)]
          have hi2 : l.base + off + i - (l.base + m) < vs.length := by omega
          refine ⟨vs[l.base + off + i - (l.base + m)], List.getElem?_eq_getElem hi2, ?_⟩
          have e3 : i - ((ab.cells.take m).drop off).length = l.base + off + i - (l.base + m) := by rw [htl]; omega
          have := hv (l.base + off + i - (l.base + m)) (by omega) hi2
          simp only [e3]
          exact this.mono hle
    · have hcs : (mget mem c).isSome = true ∧ c ≠ b := by
        have := live c hcn (by rw [hc]; rfl)
        exact ⟨this.2, this.1⟩
      rw [mget_mset_ne _ _ hcn, mget_mset_ne _ _ hcs.2] at hc
      refine (h.blk c lm ac e2 hc).world hle (setRow_other w l.blk lm.blk _ fun heq => hcs.2 ?_)
      exact h.inj c b lm l e2 hb heq hcs.1 (by rw [hm]; rfl)
  · have e : ρ.fz k = some o := e
    have hk := h.old k o e
    rw [setRow_other]
    · exact hk
    · intro heq
      have := h.sep b l hb (by rw [hm]; rfl)
      rw [← heq, e] at this
      cases this
  · intro hs
    rcases hget c lm e with ⟨rfl, rfl⟩ | ⟨hcn, e⟩
    · exact h.sep b l hb (by rw [hm]; rfl)
    · exact h.sep c lm e (live c hcn hs).2
  · rw [setRow_size]
    rcases hget c lm e with ⟨rfl, rfl⟩ | ⟨_, e⟩
    · exact h.real b l hb
    · exact h.real c lm e

theorem Ev.ofBeyond {mem : Mem} {next : Nat} {w : World} (h : Rel ρ mem next w) {floor b : Nat} {l : Loc} (hb : ρ b = some l) (hf : floor ≤ b) (l' : Loc) (hl : l'.blk = l.blk) (o : Option ABlk) (cs : Array Value) :
    Ev ρ (rhoAdd ρ next l') floor mem next (mset (mset mem b none) next o) (next + 1) w (w.setRow l.blk cs) where
  ext := rhoAdd_le h.none_next
  new k hk := by simp [rhoAdd, Nat.ne_of_lt hk]
  nxt := Nat.le_succ _
  unborn k hk e cs ty hm := by
    rw [mget_mset_ne _ _ (Nat.ne_of_lt hk), mget_mset_ne _ _ fun hkb => by rw [hkb, hb] at e; cases e]
    exact hm
  frame k o hk hfr := by
    rw [setRow_other]
    · exact hk
    · exact fun heq => hfr b l hb hf heq.symm
  fresh k m hk e := by
    rw [rhoAdd_get] at e
    by_cases hkn : k = next
    · rw [if_pos hkn] at e; obtain rfl := Option.some.inj e; exact .inr ⟨b, l, hb, hf, hl.symm⟩
    · rw [if_neg hkn] at e; have := h.dom k m e; omega
  size := by rw [setRow_size]; exact Nat.le_refl _
  os := rfl
  tape := rfl
  output := rfl
  still _ _ := rfl

/-! ### What is appended or copied -/
theorem cellsOfSlice_sound {mem : Mem} {next : Nat} {w : World} (h : Rel ρ mem next w) {sz : Nat} {x : AVal} {u : Value} {len : Nat} {cs : List AVal} (hc : cellsOfSlice mem sz x = some (len, cs)) (hx : VRel ρ x u) (hl : cs.length = len * sz) :
    (∀ w, (Builtin.lenOf u).run P w = .ok len w) ∧ ∀ n, n ≤ len → ∃ vs : Array Value, VRels ρ (cs.take (n * sz)) vs ∧ ∀ d, (Builtin.firstCells sz n u).run P { w with drawn := d } = .ok vs { w with drawn := d } := by
  unfold cellsOfSlice at hc
  split at hc
  · simp only [Option.some.injEq, Prod.mk.injEq] at hc
    obtain ⟨rfl, rfl⟩ := hc
    cases hx
    refine ⟨fun w => by simp [Builtin.lenOf], fun n hn => ⟨#[], ⟨by simp, fun i h1 _ => by simp at h1⟩, fun d => by simp [Builtin.firstCells]⟩⟩
  · rename_i b off len' cap
    split at hc
    · rename_i blk hm
      simp only [Option.map_eq_some_iff, Prod.mk.injEq] at hc
      obtain ⟨p, hp, rfl, rfl⟩ := hc
      cases hx with
      | sl _ _ _ _ l c hρ hcap hlen =>
        refine ⟨fun w => by simp [Builtin.lenOf], fun n hn => ?_⟩
        obtain ⟨_, hpl, hle⟩ := cut_spec hp
        have hmul : n * sz ≤ len' * sz := Nat.mul_le_mul_right sz hn
        have hex : ∀ d, ∃ vs : Array Value, VRels ρ (p.take (n * sz)) vs ∧ (Builtin.firstCells sz n (.slice (some ⟨l.blk, l.base + off, none⟩) len' c)).run P { w with drawn := d } = .ok vs { w with drawn := d } := by
          intro d
          obtain ⟨vs, hs, hv, hr⟩ := ((h.drawn d).cellsAt hρ hm).load (P := P) (off := off) (n := n * sz) (by omega)
          refine ⟨vs, ⟨by simp; omega, fun i h1 h2 => ?_⟩, by simpa [Builtin.firstCells] using hr⟩
          have h1' : i < p.length := by simp at h1; omega
          obtain ⟨h3, e⟩ := cut_get hp i h1'
          rw [List.getElem_take, e]
          exact hv i h3 h2
        obtain ⟨vs, hv, hr⟩ := hex 0
        refine ⟨vs, hv, fun d => ?_⟩
        obtain ⟨b', e1, e2⟩ : ∃ b', (∀ d, (loadCells ⟨l.blk, l.base + off, none⟩ (n * sz)).run P { w with drawn := d } = .ok b' { w with drawn := d }) ∧ True := by
          have hc : ∀ d j, j < n * sz → ({ w with drawn := d } : World).cell? ((⟨l.blk, l.base + off, none⟩ : Addr).add j) = some ((w.cell? ⟨l.blk, l.base + (off + j), none⟩).getD undef) := by
            intro d j hj
            obtain ⟨v, e, _⟩ := (h.cellsAt hρ hm) (off + j) (by omega)
            rw [addr_add, Nat.add_assoc]
            show w.cell? _ = _
            rw [e]; rfl
          exact ⟨_, fun d => run_loadCells _ _ _ _ (hc d), trivial⟩
        have h0 := e1 0
        simp only [Builtin.firstCells] at hr ⊢
        rw [h0] at hr
        have : b' = vs := by injection hr
        rw [← this]; exact e1 d
    · cases hc
  · cases hc

theorem growBy_le (n : Nat) : ∀ (r c : Nat), c < n → Builtin.growBy n r c ≤ n + (n + 768) / 4
  | 0, c, h => by simp only [Builtin.growBy]; omega
  | r + 1, c, h => by
    unfold Builtin.growBy
    rw [if_neg (by omega)]
    by_cases h2 : c + (c + 768) / 4 < n
    · exact growBy_le n r _ h2
    · cases r with
      | zero => simp only [Builtin.growBy]; omega
      | succ r => unfold Builtin.growBy; rw [if_pos (by omega)]; omega

theorem nextslicecap_le (n c : Nat) (h : c < n) : Builtin.nextslicecap n c ≤ 2 * n + 192 := by
  unfold Builtin.nextslicecap
  split
  · omega
  · split
    · omega
    · have := growBy_le n 4 c h; omega

theorem room_ok {need c bytes : Nat} (h : (need + 1) * (bytes + 1) ≤ 1099511627776) (hc : c < need) : ¬ Builtin.nextslicecap need c * bytes > 2 ^ 48 := by
  have h1 := nextslicecap_le need c hc
  have h2 : Builtin.nextslicecap need c * bytes ≤ (192 * (need + 1)) * (bytes + 1) := Nat.mul_le_mul (by omega) (by omega)
  rw [Nat.mul_assoc] at h2
  omega

end
end Go.Am
