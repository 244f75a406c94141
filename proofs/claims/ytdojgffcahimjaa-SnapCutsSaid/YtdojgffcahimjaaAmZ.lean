/- States told with less: slices that grow become rows; blocks are dropped; nil slices get a block that is not there yet. -/
import Derived.Test.YtdojgffcahimjaaAmY
namespace Go.Am
set_option linter.unusedVariables false

/-- A value told with less. -/
inductive VLe : AVal → AVal → Prop
  | refl (v : AVal) : VLe v v
  | undef (v : AVal) : VLe v .undef
  | nils (b sz off : Nat) (cap : ACap) : VLe .nils (.sla b sz off 0 cap)
  | sl (b sz q len : Nat) (cap : ACap) : VLe (.sl b (q * sz) len cap) (.sla b sz q len cap)
  | nild (g : Nat → List AVal) : VLe .nils (.dat 0 g)
  | dat (n : Nat) (g g' : Nat → List AVal) (h : ∀ i, i < n → g i = g' i) : VLe (.dat n g) (.dat n g')

theorem VLe.sound {ρ : Rho} {a a' : AVal} {v : Value} (h : VLe a a') (hv : VRel ρ a v) : VRel ρ a' v := by
  cases h with
  | refl => exact hv
  | undef => exact .undef _
  | nils b sz off cap => cases hv; exact .slan b sz off cap
  | sl b sz q len cap => cases hv with | sl _ _ _ _ l c h hc hlen => exact .sla b sz q len cap l c h hc hlen
  | nild g => cases hv; exact .datn _
  | dat n g g' hg =>
    cases hv with
    | datn => exact .datn _
    | dat _ _ blk base sz cap val hcap hsz hv hh =>
      refine .dat n g' blk base sz cap val hcap (fun i hi => by rw [← hg i hi]; exact hsz i hi) (fun i j hi hj => ?_) hh
      have e := hg i hi
      have hj' : j < (g i).length := by rw [e]; exact hj
      have := hv i j hi hj'
      simp only [e] at this
      exact this

theorem VLe.of_undef {a : AVal} (h : VLe .undef a) : a = .undef := by cases h <;> rfl

/-- A row told with less. -/
inductive RLe : List AVal → List AVal → Prop
  | nil : RLe [] []
  | cons {a b : AVal} {l m : List AVal} (h : VLe a b) (t : RLe l m) : RLe (a :: l) (b :: m)
theorem RLe.refl : ∀ l : List AVal, RLe l l
  | [] => .nil
  | a :: l => .cons (.refl a) (RLe.refl l)
theorem RLe.len {l m : List AVal} (h : RLe l m) : l.length = m.length := by
  induction h with
  | nil => rfl
  | cons _ _ ih => simp [ih]
theorem RLe.get {l m : List AVal} (h : RLe l m) : ∀ (i : Nat) (h1 : i < l.length) (h2 : i < m.length), VLe l[i] m[i] := by
  induction h with
  | nil => intro i h1; simp at h1
  | cons h _ ih =>
    intro i h1 h2
    cases i with
    | zero => exact h
    | succ i => exact ih i (by simpa using h1) (by simpa using h2)

/-- A block told with less. -/
inductive BLe : Option ABlk → Option ABlk → Prop
  | refl (b : Option ABlk) : BLe b b
  | drop (b : Option ABlk) : BLe b none
  | rowed (cells : List AVal) (ty : TypeId) (a : Option Arr) (sz n : Nat) (g : Nat → List AVal) (hc : cells = rows n g) (h1 : 1 ≤ sz) (hl : ∀ i, i < n → (g i).length = sz) : BLe (some ⟨cells, ty, a⟩) (some ⟨rows n g, ty, some ⟨sz, n, g⟩⟩)
  | rws (ty : TypeId) (sz n : Nat) (a a' : Rws) (h : ∀ k, k < n → RLe (a.get k) (a'.get k)) : BLe (some ⟨rows n a.get, ty, some ⟨sz, n, a⟩⟩) (some ⟨rows n a'.get, ty, some ⟨sz, n, a'⟩⟩)

theorem BLe.sound {ρ : Rho} {w : World} {a a' : ABlk} {l : Loc} (h : BLe (some a) (some a')) (hb : BlkRel ρ w a l) : BlkRel ρ w a' l := by
  cases h with
  | refl => exact hb
  | rowed cells ty a sz n g hc h1 hl =>
    subst hc
    refine ⟨hb.n, hb.tot, fun A hA => ?_, hb.cells⟩
    obtain rfl := Option.some.inj hA
    exact ⟨rfl, h1, hl⟩
  | rws ty sz n a a' h =>
    obtain ⟨_, h1, hl⟩ := hb.arr _ rfl
    have h1 : 1 ≤ sz := h1
    have hl : ∀ k, k < n → (a.get k).length = sz := hl
    have hl' : ∀ k, k < n → (a'.get k).length = sz := fun k hk => by rw [← (h k hk).len]; exact hl k hk
    have k1 := rows_length n hl
    have k2 := rows_length n hl'
    obtain ⟨cs, el, g1, g2, g3⟩ := hb.cells
    refine ⟨by rw [hb.n]; show (rows n a.get).length = (rows n a'.get).length; rw [k1, k2], hb.tot, fun A hA => ?_, cs, el, g1, g2, fun i hi => ?_⟩
    · obtain rfl := Option.some.inj hA
      exact ⟨rfl, h1, hl'⟩
    · have hi2 : i < (rows n a'.get).length := hi
      have hi' : i < n * sz := by rw [← k2]; exact hi
      have hj : i % sz < sz := Nat.mod_lt _ h1
      have hq : i / sz < n := Nat.div_lt_of_lt_mul (by rw [Nat.mul_comm]; exact hi')
      have e : i / sz * sz + i % sz = i := by rw [Nat.mul_comm]; exact Nat.div_add_mod i sz
      have hic : i < (rows n a.get).length := by rw [k1]; exact hi'
      have r1 := rows_get n hl (i / sz) (i % sz) hq hj
      have r2 := rows_get n hl' (i / sz) (i % sz) hq hj
      rw [e] at r1 r2
      have j1 : i % sz < (a.get (i / sz)).length := by rw [hl _ hq]; exact hj
      have j2 : i % sz < (a'.get (i / sz)).length := by rw [hl' _ hq]; exact hj
      obtain ⟨v, q1, q2⟩ := g3 i hic
      have q2 : VRel ρ ((rows n a.get)[i]'hic) v := q2
      refine ⟨v, q1, ?_⟩
      show VRel ρ ((rows n a'.get)[i]'hi2) v
      rw [List.getElem?_eq_getElem hic, List.getElem?_eq_getElem j1] at r1
      rw [List.getElem?_eq_getElem hi2, List.getElem?_eq_getElem j2] at r2
      rw [Option.some.inj r1] at q2
      rw [Option.some.inj r2]
      exact ((h _ hq).get _ j1 j2).sound q2
theorem BLe.some_of {a : Option ABlk} {a' : ABlk} (h : BLe a (some a')) : ∃ a0, a = some a0 := by
  cases h with
  | refl => exact ⟨_, rfl⟩
  | rowed => exact ⟨_, rfl⟩
  | rws => exact ⟨_, rfl⟩

theorem goes_weak {P : Program} {cx : Ctx} {todo : List Item} {rs : List ResultVar} {env env' : T AVal} {mem mem' : Mem} {k k' : Nat} {o o' : List Bool} {b0 b0' : Bool} {cs : List AFr}
    (hE : ∀ t, VLe (T.get .undef env t) (T.get .undef env' t)) (hM : ∀ b, b < k → BLe (mget mem b) (mget mem' b)) (hk : k ≤ k') (hbd : ∀ b, k' ≤ b → mget mem' b = none) :
    Goes P ⟨cx, none, todo, none, rs, ⟨env, mem, k, o, b0⟩, cs, .leaf⟩ ⟨cx, none, todo, none, rs, ⟨env', mem', k', o', b0'⟩, cs, .leaf⟩ :=
  fun H w0 ρ b a t css w ma mb hs he cs0 => by
    have hr := hs.rel
    simp only at hr he
    refine ⟨ρ, b, a, t, css, w, ma, mb, Steps.refl _ _, ⟨⟨?_, hs.top.defers, hs.top.todo, hs.top.ro, hs.top.rnd⟩, hs.lv, hs.rest, ?_⟩, ?_, rfl⟩
    · refine ⟨hs.top.env.size, fun t => (hE t).sound (hs.top.env.get t), fun t ht => ?_⟩
      have h1 := hE t
      rw [show T.get .undef env t = .undef from hs.top.env.out t ht] at h1
      exact h1.of_undef
    · have lift : ∀ c l, ρ c = some l → (mget mem' c).isSome = true → (mget mem c).isSome = true := fun c l hc h => by
        obtain ⟨x, hx⟩ := Option.isSome_iff_exists.1 h
        have h2 := hM c (hr.dom c l hc)
        rw [hx] at h2
        obtain ⟨a0, e⟩ := h2.some_of
        rw [e]; rfl
      refine ⟨fun c l hc => Nat.lt_of_lt_of_le (hr.dom c l hc) hk, fun c c' l l' hc hc' hl h1 h2 => hr.inj c c' l l' hc hc' hl (lift c l hc h1) (lift c' l' hc' h2), fun c l ab hc h1 => ?_, hr.old, fun c l hc h1 => hr.sep c l hc (lift c l hc h1), hr.real, hbd, fun j l hj => Nat.lt_of_lt_of_le (hr.ldom j l hj) hk⟩
      have h2 := hM c (hr.dom c l hc)
      rw [h1] at h2
      obtain ⟨a0, e⟩ := h2.some_of
      rw [e] at h2
      exact h2.sound (hr.blk c l a0 hc e)
    · exact ⟨he.ext, fun _ hb => absurd hb (Nat.not_lt_zero _), Nat.zero_le _, fun _ hb => absurd hb (Nat.not_lt_zero _), he.frame, he.fresh, he.size, he.os, he.tape, he.output, he.still⟩

/-- Slots and blocks, listed, told with less. -/
inductive LLe : List (Nat × AVal) → List (Nat × AVal) → Prop
  | nil : LLe [] []
  | cons (t : Nat) (v v' : AVal) (l l' : List (Nat × AVal)) (h : VLe v v') (hl : LLe l l') : LLe ((t, v) :: l) ((t, v') :: l')
inductive MLe : List ABlk → List ABlk → Prop
  | nil (l : List ABlk) : MLe [] l
  | cons (b b' : ABlk) (l l' : List ABlk) (h : BLe (some b) (some b')) (hl : MLe l l') : MLe (b :: l) (b' :: l')

theorem LLe.get {l l' : List (Nat × AVal)} (h : LLe l l') (t : Nat) : VLe (T.get .undef (envL l) t) (T.get .undef (envL l') t) := by
  induction h with
  | nil => exact .refl _
  | cons s v v' l l' h _ ih =>
    simp only [envL, T.get_set]
    split
    · exact h
    · exact ih

theorem memL_get : ∀ (m : List ABlk) (i b : Nat), mget (memL m i) b = if i ≤ b then m[b - i]? else none
  | [], i, b => by
    have : mget (memL [] i) b = none := by
      show T.get none .leaf b = none
      exact T.get_leaf none b
    rw [this]; split <;> simp
  | x :: m, i, b => by
    simp only [memL, mget_mset, memL_get m (i + 1) b]
    by_cases h : b = i
    · subst h; simp
    · rw [if_neg h]
      by_cases h2 : i + 1 ≤ b
      · rw [if_pos h2, if_pos (by omega), show b - i = (b - (i + 1)) + 1 by omega, List.getElem?_cons_succ]
      · rw [if_neg h2, if_neg (by omega)]

theorem MLe.get {m m' : List ABlk} (h : MLe m m') : ∀ b, b < m.length → BLe m[b]? m'[b]? := by
  induction h with
  | nil l => intro b hb; exact absurd hb (Nat.not_lt_zero _)
  | cons x x' l l' h _ ih =>
    intro b hb
    cases b with
    | zero => simpa using h
    | succ b => simpa using ih b (by simpa using hb)
theorem MLe.len {m m' : List ABlk} (h : MLe m m') : m.length ≤ m'.length := by
  induction h with
  | nil l => exact Nat.zero_le _
  | cons x x' l l' _ _ ih => simpa using ih

/-- A head's state told with less. -/
theorem goes_less {P : Program} {cx : Ctx} {todo : List Item} {rs : List ResultVar} {l l' : List (Nat × AVal)} {m m' : List ABlk} {cs : List AFr} (hl : LLe l l') (hm : MLe m m') :
    Goes P ⟨cx, none, todo, none, rs, ⟨envL l, memL m 0, m.length, [], true⟩, cs, .leaf⟩ ⟨cx, none, todo, none, rs, ⟨envL l', memL m' 0, m'.length, [], true⟩, cs, .leaf⟩ :=
  goes_weak hl.get (fun b hb => by
    rw [memL_get, memL_get, if_pos (Nat.zero_le _), if_pos (Nat.zero_le _), Nat.sub_zero]
    exact hm.get b hb) hm.len fun b hb => by
    rw [memL_get, if_pos (Nat.zero_le _), Nat.sub_zero]
    exact List.getElem?_eq_none hb

/-- Rows of integers: one behind the others. -/
def appC (c : Nat → Int) (n : Nat) (x : Int) : Nat → Int := fun k => bif Nat.ble n k then x else c k
theorem rows_congr {g h : Nat → List AVal} : ∀ (n : Nat), (∀ i, i < n → g i = h i) → rows n g = rows n h
  | 0, _ => rfl
  | n + 1, e => by rw [rows_succ, rows_succ, rows_congr n fun i hi => e i (by omega), e n (by omega)]
/-- The first n rows are these integers. -/
def SameI (n : Nat) (g : Nat → List AVal) (c : Nat → Int) : Prop := ∀ i, i < n → g i = iget c i
theorem SameI.rfl' (n : Nat) (c : Nat → Int) : SameI n (iget c) c := fun _ _ => rfl
theorem SameI.app {n : Nat} {g : Nat → List AVal} {c : Nat → Int} (h : SameI n g c) (x : Int) : SameI (n + 1) (appRow g 0 n 1 [.int .i64 x]) (appC c n x) := fun i hi => by
  unfold appRow iget appC
  cases e : Nat.ble n i with
  | true =>
    have := Nat.le_of_ble_eq_true e
    have : i = n := by omega
    subst this
    simp
  | false =>
    have : ¬ n ≤ i := fun q => by rw [Nat.ble_eq_true_of_le q] at e; cases e
    simp [h i (by omega), iget]
def updC (c : Nat → Int) (r : Nat) (x : Int) : Nat → Int := fun k => bif Nat.beq k r then x else c k
theorem SameI.upd {n : Nat} {g : Nat → List AVal} {c : Nat → Int} (h : SameI n g c) (r : Nat) (x : Int) : SameI n (updRow g r 0 [.int .i64 x]) (updC c r x) := fun i hi => by
  unfold updRow updC iget
  cases e : Nat.beq i r with
  | true =>
    have := Nat.eq_of_beq_eq_true e
    subst this
    simp [h i hi, iget]
  | false => rw [cond_false, h i hi]; simp only [iget]; rw [e]; rfl
theorem BLe.same (ty : TypeId) (a : Option Arr) {n : Nat} {g : Nat → List AVal} {c : Nat → Int} (h : SameI n g c) : BLe (some ⟨Go.Am.rows n g, ty, a⟩) (some ⟨Go.Am.rows n (iget c), ty, some ⟨1, n, iget c⟩⟩) :=
  .rowed _ _ _ _ _ _ (rows_congr _ h) (Nat.le_refl 1) fun _ _ => rfl
/-- A list of told integers. -/
def listC (l : List Int) : Nat → Int := fun k => l.getD k 0
theorem BLe.told (cells : List AVal) (ty : TypeId) (a : Option Arr) (n : Nat) (c : Nat → Int) (h : cells = Go.Am.rows n (iget c)) : BLe (some ⟨cells, ty, a⟩) (some ⟨Go.Am.rows n (iget c), ty, some ⟨1, n, iget c⟩⟩) :=
  .rowed _ _ _ _ _ _ h (Nat.le_refl 1) fun _ _ => rfl
/-- A list that is not written any more, as the machine says it. -/
noncomputable def frzS (asz sz off len n : Nat) (get : Nat → List AVal) : AVal := bif Nat.beq asz sz && Nat.ble (off + len) n then .dat len (fun k => get (off + k)) else .undef
theorem frzS_eq (sz n : Nat) (g : Nat → List AVal) : frzS sz sz 0 n n g = .dat n g := by
  unfold frzS
  rw [show (Nat.beq sz sz && Nat.ble (0 + n) n) = true by simp [Nat.beq_refl, Nat.ble_eq], cond_true]
  congr 1
  funext k
  rw [Nat.zero_add]
/-- No row has an address. -/
noncomputable def flatG (g : Nat → List AVal) : Bool := pd (∀ i, (g i).all (pf 6) = true)
theorem flatG_iget (c : Nat → Int) : flatG (iget c) = true := pd_true fun _ => rfl
theorem flatG_nums (x : Int) : flatG (fun _ => [.int .i64 x]) = true := pd_true fun _ => rfl
theorem all_take {p : AVal → Bool} {l : List AVal} (h : l.all p = true) (n : Nat) : (l.take n).all p = true :=
  List.all_eq_true.2 fun x hx => List.all_eq_true.1 h x (List.mem_of_mem_take hx)
theorem all_drop {p : AVal → Bool} {l : List AVal} (h : l.all p = true) (n : Nat) : (l.drop n).all p = true :=
  List.all_eq_true.2 fun x hx => List.all_eq_true.1 h x (List.mem_of_mem_drop hx)
theorem flatG_app {g : Nat → List AVal} {off len sz : Nat} {new : List AVal} (h : flatG g = true) (hn : new.all (pf 6) = true) : flatG (appRow g off len sz new) = true := pd_true fun i => by
  unfold appRow
  cases Nat.ble len i with
  | true => exact all_take (all_drop hn _) _
  | false => exact pd_of h _
theorem flatG_upd {g : Nat → List AVal} {r fo : Nat} {cs : List AVal} (h : flatG g = true) (hn : cs.all (pf 6) = true) : flatG (updRow g r fo cs) = true := pd_true fun i => by
  unfold updRow
  cases Nat.beq i r with
  | true =>
    rw [cond_true, List.all_append, List.all_append, all_take (pd_of h r), hn, all_drop (pd_of h r)]
    rfl
  | false => exact pd_of h _
/-- A list told by other rows that are the same. -/
theorem vrel_dat_congr {ρ : Rho} {n : Nat} {g g' : Nat → List AVal} (h : ∀ i, i < n → g i = g' i) {u : Value} (hv : VRel ρ (.dat n g) u) : VRel ρ (.dat n g') u := by
  cases hv with
  | dat _ _ blk base sz cap val hcap hsz hv hh =>
    refine .dat n g' blk base sz cap val hcap (fun i hi => by rw [← h i hi]; exact hsz i hi) (fun i j hi hj => ?_) hh
    have e := h i hi
    have hj' : j < (g i).length := by rw [e]; exact hj
    have := hv i j hi hj'
    simp only [e] at this
    exact this
  | datn => exact .datn _
theorem vrel_nils_dat {ρ : Rho} {g : Nat → List AVal} {u : Value} (hv : VRel ρ .nils u) : VRel ρ (.dat 0 g) u := by
  cases hv; exact .datn _

/-- One more contract, whose value is told in another way. -/
theorem with_ends' {P : Program} {S : Specs} (hS : SpecsOk P S) {f : FuncId} {F : List AVal → Option (AVal × Bool)} (hf : (P.funcs[f]?).any (fun fn => fn.body.isSome) = true)
    (hF : ∀ args v, F args = some (v, true) → ∃ vs, (∀ (ρ : Rho) (u : Value), VRel ρ (packed vs) u → VRel ρ v u) ∧ Ends P (resultsOf P f) (startC P f args true []) vs ∧ ∃ d, pf d (packed vs) = true) : SpecsOk P (S.with f F) := by
  intro g G hg
  unfold Specs.with at hg
  cases hgf : Nat.beq g f with
  | false => rw [hgf] at hg; exact hS g G hg
  | true =>
    rw [hgf] at hg
    obtain rfl : Spec.val F = G := Option.some.inj hg
    obtain rfl : g = f := Nat.eq_of_beq_eq_true hgf
    refine ⟨?_, fun args v hv H vals w hargs hH => ?_⟩
    · cases hfn : P.funcs[g]? with
      | none => rw [hfn] at hf; cases hf
      | some fn => rw [hfn] at hf; exact ⟨fn, rfl, hf⟩
    · obtain ⟨vs, hw, ⟨C', g1, g2, g3⟩, d, hp⟩ := hF args v hv
      exact (goes_call hf g1 g2 (by rw [startC_rs]; exact g3) hargs hH).mono fun e w' ⟨ρ, u, he, ho⟩ => ⟨ρ.fz, u, ho.le, ho.old, ho.same, he, hw _ _ (pf_sound d _ u hp ho.val), ho.below⟩

/-! ### Rows behind rows -/
def catC (c : Nat → Int) (len : Nat) (d : Nat → Int) : Nat → Int := fun k => bif Nat.ble len k then d (k - len) else c k
theorem SameI.nil (g : Nat → List AVal) (c : Nat → Int) : SameI 0 g c := fun _ h => absurd h (Nat.not_lt_zero _)
theorem SameI.cat {len n : Nat} {g h : Nat → List AVal} {c d : Nat → Int} (p : SameI len g c) (q : SameI n h d) : SameI (len + n) (catRow g len h) (catC c len d) := fun i hi => by
  unfold catRow catC iget
  cases e : Nat.ble len i with
  | true =>
    have := Nat.le_of_ble_eq_true e
    rw [cond_true, q (i - len) (by omega)]
    simp only [iget]; rw [e]; rfl
  | false =>
    have : ¬ len ≤ i := fun q => by rw [Nat.ble_eq_true_of_le q] at e; cases e
    rw [cond_false, p i (by omega)]
    simp only [iget]; rw [e]; rfl
theorem SameI.cat0 {n : Nat} {g h : Nat → List AVal} {d : Nat → Int} (q : SameI n h d) : SameI (0 + n) (catRow g 0 h) d := fun i hi => q i (by omega)
theorem SameI.shift0 {N : Nat} {g : Nat → List AVal} {c : Nat → Int} (q : SameI N g c) : SameI N (fun k => g (0 + k)) c := fun i hi => by
  show g (0 + i) = _
  rw [Nat.zero_add]; exact q i hi
theorem flatG_none : flatG (fun _ => []) = true := pd_true fun _ => rfl
theorem flatG_empty (s t : Nat) : flatG (fun k => (([] : List AVal).drop (k * s)).take t) = true := pd_true fun i => by simp
theorem flatG_shift {g : Nat → List AVal} {o : Nat} (h : flatG g = true) : flatG (fun k => g (o + k)) = true := pd_true fun i => pd_of h (o + i)
theorem flatG_cat {g h : Nat → List AVal} {len : Nat} (p : flatG g = true) (q : flatG h = true) : flatG (catRow g len h) = true := pd_true fun i => by
  unfold catRow
  cases Nat.ble len i with
  | true => exact pd_of q _
  | false => exact pd_of p _
/-- Rows that can be appended. -/
noncomputable def datOk (sz n : Nat) (g : Nat → List AVal) : Bool := pd (∀ i, i < n → (g i).length = sz ∧ (g i).all isSc = true)
theorem datOk_iget (n : Nat) (c : Nat → Int) : datOk 1 n (iget c) = true := pd_true fun _ _ => ⟨rfl, rfl⟩
theorem datOk_num (n : Nat) (x : Int) : datOk 1 n (fun _ => [.int .i64 x]) = true := pd_true fun _ _ => ⟨rfl, rfl⟩
theorem isI_of {g : Nat → List AVal} {c : Nat → Int} (h : g = iget c) : isI g = true := by subst h; exact isI_iget c
theorem catRow_iget (c d : Nat → Int) (len : Nat) : catRow (iget c) len (iget d) = iget (catC c len d) := by
  funext k
  show (bif Nat.ble len k then [AVal.int .i64 (d (k - len))] else [AVal.int .i64 (c k)]) = [AVal.int .i64 (bif Nat.ble len k then d (k - len) else c k)]
  cases Nat.ble len k <;> rfl
theorem catRow_zero (g : Nat → List AVal) (d : Nat → Int) : catRow g 0 (iget d) = iget d := rfl
theorem shift_iget (c : Nat → Int) : (fun k => iget c (0 + k)) = iget c := by funext k; rw [Nat.zero_add]

/-- The contract of a call without arguments, out of its run. -/
def fClosed (v : AVal) : List AVal → Option (AVal × Bool)
  | [] => some (v, true)
  | _ => none
theorem with_closed {P : Program} {S : Specs} (hS : SpecsOk P S) {f : FuncId} {v : AVal} (hf : (P.funcs[f]?).any (fun fn => fn.body.isSome) = true) {C' : Cfg} (h : Goes P (startC P f [] false []) C') (hfin : finalS C' = true)
    (hob : aResults P C'.st (startC P f [] false []).rs = some [v]) (hp : pf 4 v = true) : SpecsOk P (S.with f (fClosed v)) := by
  intro g G hg
  unfold Specs.with at hg
  cases hgf : Nat.beq g f with
  | false => rw [hgf] at hg; exact hS g G hg
  | true =>
    rw [hgf] at hg
    obtain rfl : Spec.val (fClosed v) = G := Option.some.inj hg
    obtain rfl : g = f := Nat.eq_of_beq_eq_true hgf
    refine ⟨?_, fun args v' hv H vals w hargs hH => ?_⟩
    · cases hfn : P.funcs[g]? with
      | none => rw [hfn] at hf; cases hf
      | some fn => rw [hfn] at hf; exact ⟨fn, rfl, hf⟩
    · unfold fClosed at hv
      split at hv
      · simp only [Option.some.injEq, Prod.mk.injEq, and_true] at hv
        subst hv
        exact (goes_call hf h hfin hob hargs hH).mono fun e w' ⟨ρ, u, he, ho⟩ => ⟨ρ.fz, u, ho.le, ho.old, ho.same, he, pf_sound 4 _ u hp ho.val, ho.below⟩
      · cases hv
end Go.Am
