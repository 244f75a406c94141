/- What the abstract memory says of a real one: relations, and the laws of making and writing a block. -/
import Derived.Test.YtdojgffcahimjaaAmA
import Derived.Below
import Derived.Laws.Sem
import Derived.Laws.Tables
import Derived.Laws.CopyRow
import Derived.Laws.Cells
import Derived.Laws.Entries
namespace Go.Am

/-! ### Trees -/
theorem beq_even (m : Nat) : Nat.beq (m % 2) 0 = true ↔ m % 2 = 0 := by
  constructor
  · exact fun h => Nat.eq_of_beq_eq_true h
  · intro h; rw [h]; rfl

@[simp] theorem T.get_leaf {α : Type} (d : α) (n : Nat) : T.get d .leaf n = d := rfl
@[simp] theorem T.get_zero {α : Type} (d v : α) (l r : T α) : T.get d (.node v l r) 0 = v := rfl
theorem T.get_succ {α : Type} (d v : α) (l r : T α) (m : Nat) : T.get d (.node v l r) (m + 1) = if m % 2 = 0 then T.get d l (m / 2) else T.get d r (m / 2) := by
  show (bif Nat.beq (m % 2) 0 then T.get d l (m / 2) else T.get d r (m / 2)) = _
  by_cases h : m % 2 = 0
  · rw [if_pos h, (beq_even m).2 h]; rfl
  · rw [if_neg h, show Nat.beq (m % 2) 0 = false from Bool.eq_false_iff.2 (fun e => h ((beq_even m).1 e))]; rfl

theorem T.setF_leaf_zero {α : Type} (d v : α) (f : Nat) : T.setF d v (f + 1) .leaf 0 = .node v .leaf .leaf := rfl
theorem T.setF_node_zero {α : Type} (d v u : α) (l r : T α) (f : Nat) : T.setF d v (f + 1) (.node u l r) 0 = .node v l r := rfl
theorem T.setF_leaf_succ {α : Type} (d v : α) (f m : Nat) : T.setF d v (f + 1) .leaf (m + 1) =
    if m % 2 = 0 then .node d (T.setF d v f .leaf (m / 2)) .leaf else .node d .leaf (T.setF d v f .leaf (m / 2)) := by
  show (bif Nat.beq (m % 2) 0 then (_ : T α) else _) = _
  by_cases h : m % 2 = 0
  · rw [if_pos h, (beq_even m).2 h]; rfl
  · rw [if_neg h, show Nat.beq (m % 2) 0 = false from Bool.eq_false_iff.2 (fun e => h ((beq_even m).1 e))]; rfl
theorem T.setF_node_succ {α : Type} (d v u : α) (l r : T α) (f m : Nat) : T.setF d v (f + 1) (.node u l r) (m + 1) =
    if m % 2 = 0 then .node u (T.setF d v f l (m / 2)) r else .node u l (T.setF d v f r (m / 2)) := by
  show (bif Nat.beq (m % 2) 0 then (_ : T α) else _) = _
  by_cases h : m % 2 = 0
  · rw [if_pos h, (beq_even m).2 h]; rfl
  · rw [if_neg h, show Nat.beq (m % 2) 0 = false from Bool.eq_false_iff.2 (fun e => h ((beq_even m).1 e))]; rfl

theorem T.get_setF {α : Type} (d v : α) : ∀ (f : Nat) (t : T α) (n k : Nat), n < f → T.get d (T.setF d v f t n) k = if k = n then v else T.get d t k
  | 0, _, _, _, h => absurd h (Nat.not_lt_zero _)
  | f + 1, .leaf, 0, k, _ => by
    rw [T.setF_leaf_zero]
    cases k with
    | zero => simp
    | succ k => rw [T.get_succ]; simp
  | f + 1, .node u l r, 0, k, _ => by
    rw [T.setF_node_zero]
    cases k with
    | zero => simp
    | succ k => rw [T.get_succ, T.get_succ]; simp
  | f + 1, .leaf, m + 1, k, h => by
    rw [T.setF_leaf_succ]
    have hm : m / 2 < f := by omega
    cases k with
    | zero => split <;> simp
    | succ k =>
      have ih := T.get_setF d v f .leaf (m / 2) (k / 2) hm
      by_cases hp : m % 2 = 0
      · rw [if_pos hp, T.get_succ]
        by_cases hk : k % 2 = 0
        · rw [if_pos hk, ih]
          by_cases e : k / 2 = m / 2
          · rw [if_pos e, if_pos (by omega)]
          · rw [if_neg e, if_neg (by omega)]; simp
        · rw [if_neg hk, if_neg (by omega)]; simp
      · rw [if_neg hp, T.get_succ]
        by_cases hk : k % 2 = 0
        · rw [if_pos hk, if_neg (by omega)]; simp
        · rw [if_neg hk, ih]
          by_cases e : k / 2 = m / 2
          · rw [if_pos e, if_pos (by omega)]
          · rw [if_neg e, if_neg (by omega)]; simp
  | f + 1, .node u l r, m + 1, k, h => by
    rw [T.setF_node_succ]
    have hm : m / 2 < f := by omega
    cases k with
    | zero => split <;> simp
    | succ k =>
      by_cases hp : m % 2 = 0
      · rw [if_pos hp, T.get_succ, T.get_succ]
        by_cases hk : k % 2 = 0
        · rw [if_pos hk, if_pos hk, T.get_setF d v f l (m / 2) (k / 2) hm]
          by_cases e : k / 2 = m / 2
          · rw [if_pos e, if_pos (by omega)]
          · rw [if_neg e, if_neg (by omega)]
        · rw [if_neg hk, if_neg hk, if_neg (by omega)]
      · rw [if_neg hp, T.get_succ, T.get_succ]
        by_cases hk : k % 2 = 0
        · rw [if_pos hk, if_pos hk, if_neg (by omega)]
        · rw [if_neg hk, if_neg hk, T.get_setF d v f r (m / 2) (k / 2) hm]
          by_cases e : k / 2 = m / 2
          · rw [if_pos e, if_pos (by omega)]
          · rw [if_neg e, if_neg (by omega)]

theorem T.get_set {α : Type} (d : α) (t : T α) (n : Nat) (v : α) (k : Nat) : T.get d (T.set d t n v) k = if k = n then v else T.get d t k :=
  T.get_setF d v (n + 1) t n k (Nat.lt_succ_self n)

theorem mget_mset (m : Mem) (b : Nat) (o : Option ABlk) (k : Nat) : mget (mset m b o) k = if k = b then o else mget m k := T.get_set none m b o k
theorem mget_mset_same (m : Mem) (b : Nat) (o : Option ABlk) : mget (mset m b o) b = o := by rw [mget_mset, if_pos rfl]
theorem mget_mset_ne (m : Mem) {b k : Nat} (o : Option ABlk) (h : k ≠ b) : mget (mset m b o) k = mget m k := by rw [mget_mset, if_neg h]

inductive All2 {α β : Type} (R : α → β → Prop) : List α → List β → Prop
  | nil : All2 R [] []
  | cons {a : α} {b : β} {l : List α} {m : List β} (h : R a b) (t : All2 R l m) : All2 R (a :: l) (b :: m)

theorem All2.length {α β : Type} {R : α → β → Prop} {l : List α} {m : List β} (h : All2 R l m) : l.length = m.length := by
  induction h with
  | nil => rfl
  | cons _ _ ih => simp [ih]

theorem All2.get {α β : Type} {R : α → β → Prop} {l : List α} {m : List β} (h : All2 R l m) : ∀ (i : Nat) (h1 : i < l.length) (h2 : i < m.length), R l[i] m[i] := by
  induction h with
  | nil => intro i h1; simp at h1
  | cons h _ ih =>
    intro i h1 h2
    cases i with
    | zero => exact h
    | succ i => exact ih i (by simpa using h1) (by simpa using h2)

theorem All2.append {α β : Type} {R : α → β → Prop} {l l' : List α} {m m' : List β} (h : All2 R l m) (k : All2 R l' m') : All2 R (l ++ l') (m ++ m') := by
  induction h with
  | nil => exact k
  | cons h _ ih => exact .cons h ih

theorem All2.of {α β : Type} {R : α → β → Prop} : ∀ {l : List α} {m : List β}, l.length = m.length → (∀ (i : Nat) (h1 : i < l.length) (h2 : i < m.length), R l[i] m[i]) → All2 R l m
  | [], [], _, _ => .nil
  | [], _ :: _, h, _ => by simp at h
  | _ :: _, [], h, _ => by simp at h
  | a :: l, b :: m, h, hr => .cons (hr 0 (by simp) (by simp)) (All2.of (by simpa using h) fun i h1 h2 => hr (i + 1) (by simpa using h1) (by simpa using h2))

theorem All2.map {α β γ δ : Type} {R : γ → δ → Prop} (f : α → γ) (g : β → δ) {Q : α → β → Prop} {l : List α} {m : List β} (h : All2 Q l m) (hr : ∀ a b, a ∈ l → Q a b → R (f a) (g b)) : All2 R (l.map f) (m.map g) := by
  induction h with
  | nil => exact .nil
  | cons h _ ih => exact .cons (hr _ _ (by simp) h) (ih fun a b ha => hr a b (by simp [ha]))

theorem All2.maps {α γ δ : Type} {R : γ → δ → Prop} (f : α → γ) (g : α → δ) : ∀ (l : List α), (∀ a, a ∈ l → R (f a) (g a)) → All2 R (l.map f) (l.map g)
  | [], _ => .nil
  | a :: l, h => .cons (h a (by simp)) (All2.maps f g l fun b hb => h b (by simp [hb]))

/-! ### Values -/
structure Loc where
  blk : Nat
  base : Nat
  n : Nat
  tot : Nat
abbrev Old := Nat → Option Obj
/-- Where the abstract blocks lie; fz: the blocks that nobody writes any more. -/
structure Rho where
  f : Nat → Option Loc
  fz : Old
  lp : Nat → Option Nat
instance : CoeFun Rho (fun _ => Nat → Option Loc) := ⟨Rho.f⟩
def Rho.bare (ρ : Rho) : Rho := ⟨fun _ => none, ρ.fz, fun _ => none⟩
def rhoOf (H : Old) : Rho := ⟨fun _ => none, H, fun _ => none⟩

def CapOk (l : Loc) (off : Nat) : ACap → Nat → Prop
  | .ex k, c => c = k
  | .un sz, c => l.n ≤ off + c * sz ∧ off + c * sz ≤ l.tot

def HCell (H : Old) (blk o : Nat) (v : Value) : Prop := ∃ cs el fz, H blk = some (.cells cs el fz) ∧ cs[o]? = some v

inductive VRel : Rho → AVal → Value → Prop
  | undef {ρ : Rho} (v : Value) : VRel ρ .undef v
  | bool {ρ : Rho} (b : Bool) : VRel ρ (.bool b) (.bool b)
  | int {ρ : Rho} (k : IntKind) (n : Int) : VRel ρ (.int k n) (.int k n)
  | str {ρ : Rho} (s : List UInt8) : VRel ρ (.str s) (.string ⟨s.toArray⟩)
  | agg {ρ : Rho} (cs : List AVal) (vs : Array Value) (hl : cs.length = vs.size) (h : ∀ (i : Nat) (h1 : i < cs.length) (h2 : i < vs.size), VRel ρ cs[i] vs[i]) : VRel ρ (.agg cs) (.agg vs)
  | tup {ρ : Rho} (cs : List AVal) (vs : Array Value) (hl : cs.length = vs.size) (h : ∀ (i : Nat) (h1 : i < cs.length) (h2 : i < vs.size), VRel ρ cs[i] vs[i]) : VRel ρ (.tup cs) (.tuple vs)
  | ptr {ρ : Rho} (b off : Nat) (l : Loc) (h : ρ b = some l) : VRel ρ (.ptr b off) (.pointer (some ⟨l.blk, l.base + off, none⟩))
  | nilp {ρ : Rho} : VRel ρ .nilp (.pointer none)
  | sl {ρ : Rho} (b off len : Nat) (cap : ACap) (l : Loc) (c : Nat) (h : ρ b = some l) (hc : CapOk l off cap c) (hlen : len ≤ c) : VRel ρ (.sl b off len cap) (.slice (some ⟨l.blk, l.base + off, none⟩) len c)
  | nils {ρ : Rho} : VRel ρ .nils (.slice none 0 0)
  | sla {ρ : Rho} (b sz off len : Nat) (cap : ACap) (l : Loc) (c : Nat) (h : ρ b = some l) (hc : CapOk l (off * sz) cap c) (hlen : len ≤ c) : VRel ρ (.sla b sz off len cap) (.slice (some ⟨l.blk, l.base + off * sz, none⟩) len c)
  | slan {ρ : Rho} (b sz off : Nat) (cap : ACap) : VRel ρ (.sla b sz off 0 cap) (.slice none 0 0)
  | epa {ρ : Rho} (b sz i fo : Nat) (l : Loc) (h : ρ b = some l) : VRel ρ (.epa b sz i fo) (.pointer (some ⟨l.blk, l.base + (i * sz + fo), none⟩))
  | fn {ρ : Rho} (f : FuncId) (cs : List AVal) (vs : Array Value) (hl : cs.length = vs.size) (h : ∀ (i : Nat) (h1 : i < cs.length) (h2 : i < vs.size), VRel ρ cs[i] vs[i]) : VRel ρ (.fn f cs) (.func (.func f) #[] vs)
  | nilf {ρ : Rho} : VRel ρ .nilf .nilFunc
  | fnb {ρ : Rho} (f : FuncId) (cs : List AVal) (vs : Array Value) (hl : cs.length = vs.size) (h : ∀ (i : Nat) (h1 : i < cs.length) (h2 : i < vs.size), VRel ρ cs[i] vs[i]) : VRel ρ (.fnb f cs) (.func (.func f) vs #[])
  | yld {ρ : Rho} (j l : Nat) (h : ρ.lp j = some l) : VRel ρ (.yld j) (.func (.yield l) #[] #[])
  | ifc {ρ : Rho} (t : TypeId) (a : AVal) (v : Value) (h : VRel ρ a v) : VRel ρ (.ifc t a) (.iface t v)
  | nili {ρ : Rho} : VRel ρ .nili .nilIface
  | dat {ρ : Rho} (len : Nat) (get : Nat → List AVal) (blk base sz cap : Nat) (val : Nat → Nat → Value) (hcap : len ≤ cap) (hsz : ∀ i, i < len → (get i).length = sz)
      (hv : ∀ (i j : Nat) (_ : i < len) (hj : j < (get i).length), VRel ρ.bare (get i)[j] (val i j)) (hh : ∀ i j, i < len → j < sz → HCell ρ.fz blk (base + (i * sz + j)) (val i j)) : VRel ρ (.dat len get) (.slice (some ⟨blk, base, none⟩) len cap)
  | datn {ρ : Rho} (get : Nat → List AVal) : VRel ρ (.dat 0 get) (.slice none 0 0)
  | dptr {ρ : Rho} (cs : List AVal) (blk base : Nat) (val : Nat → Value) (hv : ∀ (j : Nat) (hj : j < cs.length), VRel ρ.bare cs[j] (val j)) (hh : ∀ j, j < cs.length → HCell ρ.fz blk (base + j) (val j)) : VRel ρ (.dptr cs) (.pointer (some ⟨blk, base, none⟩))

/-- Lists of values. -/
def VRels (ρ : Rho) (cs : List AVal) (vs : Array Value) : Prop := cs.length = vs.size ∧ ∀ (i : Nat) (h1 : i < cs.length) (h2 : i < vs.size), VRel ρ cs[i] vs[i]

def Rho.le (ρ ρ' : Rho) : Prop := (∀ b l, ρ b = some l → ρ' b = some l) ∧ (∀ k o, ρ.fz k = some o → ρ'.fz k = some o) ∧ ∀ j l, ρ.lp j = some l → ρ'.lp j = some l

theorem Rho.le_refl (ρ : Rho) : ρ.le ρ := ⟨fun _ _ h => h, fun _ _ h => h, fun _ _ h => h⟩
theorem Rho.le_trans {a b c : Rho} (h : a.le b) (k : b.le c) : a.le c := ⟨fun x l e => k.1 x l (h.1 x l e), fun x l e => k.2.1 x l (h.2.1 x l e), fun x l e => k.2.2 x l (h.2.2 x l e)⟩
theorem Rho.le.bare {ρ ρ' : Rho} (h : ρ.le ρ') : ρ.bare.le ρ'.bare := ⟨fun _ _ e => (by cases e), h.2.1, fun _ _ e => (by cases e)⟩
theorem bare_le (ρ : Rho) : ρ.bare.le ρ := ⟨fun _ _ e => (by cases e), fun _ _ e => e, fun _ _ e => (by cases e)⟩
theorem HCell.mono {ρ ρ' : Rho} (h : ρ.le ρ') {blk o : Nat} {v : Value} (hc : HCell ρ.fz blk o v) : HCell ρ'.fz blk o v := by
  obtain ⟨cs, el, fz, h1, h2⟩ := hc
  exact ⟨cs, el, fz, h.2.1 _ _ h1, h2⟩

theorem VRel.mono {ρ ρ' : Rho} (h : ρ.le ρ') {a : AVal} {v : Value} (hv : VRel ρ a v) : VRel ρ' a v := by
  induction hv generalizing ρ' with
  | undef v => exact .undef v
  | bool b => exact .bool b
  | int k n => exact .int k n
  | str s => exact .str s
  | agg cs vs hl _ ih => exact .agg cs vs hl fun i h1 h2 => ih i h1 h2 h
  | tup cs vs hl _ ih => exact .tup cs vs hl fun i h1 h2 => ih i h1 h2 h
  | ptr b off l e => exact .ptr b off l (h.1 _ _ e)
  | nilp => exact .nilp
  | sl b off len cap l c e hc hlen => exact .sl b off len cap l c (h.1 _ _ e) hc hlen
  | nils => exact .nils
  | sla b sz off len cap l c e hc hlen => exact .sla b sz off len cap l c (h.1 _ _ e) hc hlen
  | slan b sz off cap => exact .slan b sz off cap
  | epa b sz i fo l e => exact .epa b sz i fo l (h.1 _ _ e)
  | fn f cs vs hl _ ih => exact .fn f cs vs hl fun i h1 h2 => ih i h1 h2 h
  | nilf => exact .nilf
  | fnb f cs vs hl _ ih => exact .fnb f cs vs hl fun i h1 h2 => ih i h1 h2 h
  | yld j l e => exact .yld j l (h.2.2 _ _ e)
  | ifc t a v _ ih => exact .ifc t a v (ih h)
  | nili => exact .nili
  | dat len get blk base sz cap val hcap hsz hv hh ih => exact .dat len get blk base sz cap val hcap hsz (fun i j hi hj => ih i j hi hj h.bare) fun i j hi hj => (hh i j hi hj).mono h
  | datn get => exact .datn get
  | dptr cs blk base val hv hh ih => exact .dptr cs blk base val (fun j hj => ih j hj h.bare) fun j hj => (hh j hj).mono h

theorem VRels.mono {ρ ρ' : Rho} (h : ρ.le ρ') {cs : List AVal} {vs : Array Value} (hv : VRels ρ cs vs) : VRels ρ' cs vs :=
  ⟨hv.1, fun i h1 h2 => (hv.2 i h1 h2).mono h⟩

theorem VRel.oneCell {ρ : Rho} {a : AVal} {v : Value} (h : VRel ρ a v) (hs : isSc a = true) : v.oneCell' = true := by
  cases h <;> first | rfl | (simp [isSc] at hs)

theorem VRel.cells {ρ : Rho} {a : AVal} {v : Value} (h : VRel ρ a v) (hu : boxable a = true) : VRels ρ a.cells v.cells := by
  cases h
  case agg cs vs hl hh => exact ⟨hl, hh⟩
  all_goals first
    | (simp [boxable] at hu; done)
    | (refine ⟨rfl, fun i h1 h2 => ?_⟩
       have h0 : i = 0 := by simp [AVal.cells] at h1; exact h1
       subst h0
       simp only [AVal.cells, Value.cells, List.getElem_cons_zero, List.getElem_toArray]
       constructor <;> assumption)

theorem VRel.cells_oneCell {ρ : Rho} {cs : List AVal} {vs : Array Value} (h : VRels ρ cs vs) (hs : cs.all isSc = true) : ∀ v ∈ vs.toList, v.oneCell' = true := by
  intro v hv
  obtain ⟨i, hi, rfl⟩ := List.getElem_of_mem hv
  have h2 : i < vs.size := by simpa using hi
  have h1 : i < cs.length := by rw [h.1]; exact h2
  simpa using (h.2 i h1 h2).oneCell (List.all_eq_true.1 hs _ (List.getElem_mem h1))

/-! ### Memory -/
structure BlkRel (ρ : Rho) (w : World) (ab : ABlk) (l : Loc) : Prop where
  n : l.n = ab.cells.length
  tot : l.n ≤ l.tot
  arr : ∀ A, ab.arr = some A → ab.cells = rows A.n A.get ∧ 1 ≤ A.sz ∧ ∀ i, i < A.n → (A.get i).length = A.sz
  cells : ∃ cs el, w.heap[l.blk]? = some (.cells cs el (0, 0)) ∧ l.base + l.tot ≤ cs.size ∧
    ∀ (i : Nat) (h : i < ab.cells.length), ∃ v, cs[l.base + i]? = some v ∧ VRel ρ ab.cells[i] v

structure Rel (ρ : Rho) (mem : Mem) (next : Nat) (w : World) : Prop where
  dom : ∀ b l, ρ b = some l → b < next
  inj : ∀ b b' l l', ρ b = some l → ρ b' = some l' → l.blk = l'.blk → (mget mem b).isSome = true → (mget mem b').isSome = true → b = b'
  blk : ∀ b l ab, ρ b = some l → mget mem b = some ab → BlkRel ρ w ab l
  old : ∀ k o, ρ.fz k = some o → w.heap[k]? = some o
  sep : ∀ b l, ρ b = some l → (mget mem b).isSome = true → ρ.fz l.blk = none
  real : ∀ b l, ρ b = some l → l.blk < w.heap.size
  bd : ∀ b, next ≤ b → mget mem b = none
  ldom : ∀ j l, ρ.lp j = some l → j < next

/-- How a run changes things. -/
structure Ev (ρ ρ' : Rho) (floor : Nat) (m : Mem) (next : Nat) (m' : Mem) (next' : Nat) (w w' : World) : Prop where
  ext : ρ.le ρ'
  new : ∀ b, b < next → ρ' b = ρ b
  nxt : next ≤ next'
  unborn : ∀ b, b < next → ρ b = none → ∀ cs ty, mget m b = some ⟨cs, ty, none⟩ → mget m' b = some ⟨cs, ty, none⟩
  frame : ∀ k o, w.heap[k]? = some o → (∀ b l, ρ b = some l → floor ≤ b → l.blk ≠ k) → w'.heap[k]? = some o
  fresh : ∀ b l, next ≤ b → ρ' b = some l → w.heap.size ≤ l.blk ∨ ∃ b0 l0, ρ b0 = some l0 ∧ floor ≤ b0 ∧ l0.blk = l.blk
  size : w.heap.size ≤ w'.heap.size
  os : w'.os = w.os
  tape : w'.tape = w.tape
  output : w'.output = w.output
  still : ∀ k, k < w.heap.size → ρ'.fz k = ρ.fz k

theorem Ev.refl (ρ : Rho) (floor : Nat) (m : Mem) (next : Nat) (w : World) (hd : ∀ b l, ρ b = some l → b < next) : Ev ρ ρ floor m next m next w w :=
  ⟨Rho.le_refl _, fun _ _ => rfl, Nat.le_refl _, fun _ _ _ _ _ h => h, fun _ _ h _ => h, fun b l hb h => absurd (hd b l h) (by omega), Nat.le_refl _, rfl, rfl, rfl, fun _ _ => rfl⟩

theorem Ev.drawn {ρ ρ' : Rho} {floor : Nat} {m m' : Mem} {next next' : Nat} {w w' : World} (h : Ev ρ ρ' floor m next m' next' { w with drawn := w.drawn + 1 } w') : Ev ρ ρ' floor m next m' next' w w' :=
  ⟨h.ext, h.new, h.nxt, h.unborn, h.frame, h.fresh, h.size, h.os, h.tape, h.output, h.still⟩

theorem Ev.trans {ρ ρ1 ρ2 : Rho} {floor : Nat} {m m1 m2 : Mem} {n n1 n2 : Nat} {w w1 w2 : World} (h : Ev ρ ρ1 floor m n m1 n1 w w1) (k : Ev ρ1 ρ2 floor m1 n1 m2 n2 w1 w2) : Ev ρ ρ2 floor m n m2 n2 w w2 where
  ext := Rho.le_trans h.ext k.ext
  new b hb := by rw [k.new b (Nat.lt_of_lt_of_le hb h.nxt), h.new b hb]
  nxt := Nat.le_trans h.nxt k.nxt
  unborn b hb e cs ty hm := k.unborn b (Nat.lt_of_lt_of_le hb h.nxt) (by rw [h.new b hb]; exact e) cs ty (h.unborn b hb e cs ty hm)
  frame i o hi hf := by
    refine k.frame i o (h.frame i o hi hf) fun b l hl hfl hlb => ?_
    by_cases hb : b < n
    · rw [h.new b hb] at hl; exact hf b l hl hfl hlb
    · have hlt : i < w.heap.size := (Array.getElem?_eq_some_iff.1 hi).1
      rcases h.fresh b l (by omega) hl with h1 | ⟨b0, l0, e0, f0, g0⟩
      · omega
      · exact hf b0 l0 e0 f0 (g0.trans hlb)
  fresh b l hb hl := by
    by_cases hb1 : b < n1
    · rw [k.new b hb1] at hl; exact h.fresh b l hb hl
    · rcases k.fresh b l (by omega) hl with h1 | ⟨b0, l0, e0, f0, g0⟩
      · exact .inl (Nat.le_trans h.size h1)
      · by_cases hb0 : b0 < n
        · rw [h.new b0 hb0] at e0; exact .inr ⟨b0, l0, e0, f0, g0⟩
        · rcases h.fresh b0 l0 (by omega) e0 with h1 | ⟨b3, l3, e3, f3, g3⟩
          · exact .inl (by omega)
          · exact .inr ⟨b3, l3, e3, f3, g3.trans g0⟩
  size := Nat.le_trans h.size k.size
  os := k.os.trans h.os
  tape := k.tape.trans h.tape
  output := k.output.trans h.output
  still i hi := (k.still i (Nat.lt_of_lt_of_le hi h.size)).trans (h.still i hi)

theorem Ev.lower {ρ ρ' : Rho} {floor floor' : Nat} {m m' : Mem} {n n' : Nat} {w w' : World} (h : Ev ρ ρ' floor' m n m' n' w w') (hf : floor ≤ floor') : Ev ρ ρ' floor m n m' n' w w' :=
  ⟨h.ext, h.new, h.nxt, h.unborn, fun k o e g => h.frame k o e fun b l hl hfl => g b l hl (Nat.le_trans hf hfl),
   fun b l hb hl => (h.fresh b l hb hl).imp id fun ⟨b0, l0, e, f, g⟩ => ⟨b0, l0, e, Nat.le_trans hf f, g⟩, h.size, h.os, h.tape, h.output, h.still⟩

theorem Rel.drawn {ρ : Rho} {mem : Mem} {next : Nat} {w : World} (h : Rel ρ mem next w) (n : Nat) : Rel ρ mem next { w with drawn := n } :=
  ⟨h.dom, h.inj, fun b l ab e f => let ⟨a, t, r, c⟩ := h.blk b l ab e f; ⟨a, t, r, c⟩, h.old, h.sep, h.real, h.bd, h.ldom⟩

/-! ### A new block -/
def rhoAdd (ρ : Rho) (b : Nat) (l : Loc) : Rho := ⟨fun k => if k = b then some l else ρ k, ρ.fz, ρ.lp⟩
theorem rhoAdd_get (ρ : Rho) (b : Nat) (l : Loc) (k : Nat) : rhoAdd ρ b l k = if k = b then some l else ρ k := rfl

theorem rhoAdd_le {ρ : Rho} {b : Nat} {l : Loc} (h : ρ b = none) : ρ.le (rhoAdd ρ b l) := ⟨fun k l' e => by
  rw [rhoAdd_get]
  by_cases hk : k = b
  · subst hk; rw [h] at e; cases e
  · rw [if_neg hk]; exact e, fun _ _ e => e, fun _ _ e => e⟩

theorem Rel.none_next {ρ : Rho} {mem : Mem} {next : Nat} {w : World} (h : Rel ρ mem next w) : ρ next = none := by
  cases e : ρ next with
  | none => rfl
  | some l => exact absurd (h.dom _ _ e) (Nat.lt_irrefl _)

theorem BlkRel.world {ρ ρ' : Rho} {w w' : World} {ab : ABlk} {l : Loc} (h : BlkRel ρ w ab l) (hr : ρ.le ρ') (hw : w'.heap[l.blk]? = w.heap[l.blk]?) : BlkRel ρ' w' ab l := by
  obtain ⟨n, t, ar, cs, el, h1, h2, h3⟩ := h
  exact ⟨n, t, ar, cs, el, by rw [hw]; exact h1, h2, fun i hi => let ⟨v, e, f⟩ := h3 i hi; ⟨v, e, f.mono hr⟩⟩

/-- A new abstract block b for a real block that is made: n cells of it are told, all of them may be used. -/
theorem Rel.new {ρ : Rho} {mem : Mem} {next : Nat} {w : World} (h : Rel ρ mem next w) (cs : List AVal) (ty : TypeId) (vs : Array Value) (el : TypeId) (hH : ∀ k, w.heap.size ≤ k → ρ.fz k = none)
    (hn : cs.length ≤ vs.size) (hv : ∀ (i : Nat) (h1 : i < cs.length) (h2 : i < vs.size), VRel ρ cs[i] vs[i]) :
    Rel (rhoAdd ρ next ⟨w.heap.size, 0, cs.length, vs.size⟩) (mset mem next (some ⟨cs, ty, none⟩)) (next + 1) { w with heap := w.heap.push (.cells vs el) } := by
  have hle := rhoAdd_le (l := ⟨w.heap.size, 0, cs.length, vs.size⟩) h.none_next
  have hget : ∀ b l, rhoAdd ρ next ⟨w.heap.size, 0, cs.length, vs.size⟩ b = some l → (b = next ∧ l = ⟨w.heap.size, 0, cs.length, vs.size⟩) ∨ (b ≠ next ∧ ρ b = some l) := fun b l e => by
    rw [rhoAdd_get] at e
    by_cases hb : b = next
    · rw [if_pos hb] at e; exact .inl ⟨hb, (Option.some.inj e).symm⟩
    · rw [if_neg hb] at e; exact .inr ⟨hb, e⟩
  refine ⟨fun b l e => ?_, fun b b' l l' e e' hbl hs hs' => ?_, fun b l ab e hm => ?_, fun k o e => ?_, fun b l e => ?_, fun b l e => ?_, fun b hb => by rw [mget_mset_ne _ _ (by omega)]; exact h.bd b (by omega), fun j l e => Nat.lt_succ_of_lt (h.ldom j l e)⟩
  · rcases hget b l e with ⟨rfl, _⟩ | ⟨_, e⟩
    · omega
    · have := h.dom b l e; omega
  · rcases hget b l e with ⟨hb, hl⟩ | ⟨hb, e2⟩ <;> rcases hget b' l' e' with ⟨hb', hl'⟩ | ⟨hb', e2'⟩
    · rw [hb, hb']
    · have := h.real b' l' e2'; rw [hl] at hbl; simp at hbl; omega
    · have := h.real b l e2; rw [hl'] at hbl; simp at hbl; omega
    · rw [mget_mset_ne _ _ hb] at hs
      rw [mget_mset_ne _ _ hb'] at hs'
      exact h.inj b b' l l' e2 e2' hbl hs hs'
  · rcases hget b l e with ⟨rfl, rfl⟩ | ⟨hb, e⟩
    · rw [mget_mset_same] at hm
      obtain rfl := Option.some.inj hm
      refine ⟨rfl, hn, (fun A e => by cases e), vs, el, by simp, by simp, fun i hi => ⟨vs[i]'(by simp at hi; omega), by simp [Array.getElem?_eq_getElem (show i < vs.size by simp at hi; omega)], (hv i hi (by simp at hi; omega)).mono hle⟩⟩
    · rw [mget_mset_ne _ _ hb] at hm
      refine (h.blk b l ab e hm).world hle ?_
      have := h.real b l e
      simp [Array.getElem?_push, Nat.ne_of_lt this]
  · have hk := h.old k o e
    have : k < w.heap.size := (Array.getElem?_eq_some_iff.1 hk).1
    simp only [Array.getElem?_push, Nat.ne_of_lt this, if_false]
    exact hk
  · intro hs
    rcases hget b l e with ⟨rfl, rfl⟩ | ⟨hne, e⟩
    · exact hH _ (Nat.le_refl _)
    · rw [mget_mset_ne _ _ hne] at hs
      exact h.sep b l e hs
  · rcases hget b l e with ⟨rfl, rfl⟩ | ⟨_, e⟩
    · simp
    · have := h.real b l e; simp; omega

theorem Ev.ofNew {ρ : Rho} {mem : Mem} {next : Nat} {w : World} (h : Rel ρ mem next w) (floor : Nat) (l : Loc) (o : Option ABlk) (ob : Obj) (hl : w.heap.size ≤ l.blk) :
    Ev ρ (rhoAdd ρ next l) floor mem next (mset mem next o) (next + 1) w { w with heap := w.heap.push ob } where
  ext := rhoAdd_le h.none_next
  new b hb := by simp [rhoAdd, Nat.ne_of_lt hb]
  nxt := Nat.le_succ _
  unborn b hb _ cs ty hm := by rw [mget_mset_ne _ _ (Nat.ne_of_lt hb)]; exact hm
  frame k o hk _ := by
    have : k < w.heap.size := (Array.getElem?_eq_some_iff.1 hk).1
    simp only [Array.getElem?_push, Nat.ne_of_lt this, if_false]
    exact hk
  fresh b l' hb e := by
    rw [rhoAdd_get] at e
    by_cases hbn : b = next
    · rw [if_pos hbn] at e; obtain rfl := Option.some.inj e; exact .inl hl
    · rw [if_neg hbn] at e; have := h.dom b l' e; omega
  size := by simp
  os := rfl
  tape := rfl
  output := rfl
  still _ _ := rfl

/-! ### A write -/
theorem splice_get {α : Type} (l c : List α) (off i : Nat) (h : off + c.length ≤ l.length) :
    (l.take off ++ c ++ l.drop (off + c.length))[i]? = if i < off then l[i]? else if i < off + c.length then c[i - off]? else l[i]? := by
  have ht : (l.take off).length = off := by simp; omega
  by_cases h1 : i < off
  · rw [if_pos h1, List.append_assoc, List.getElem?_append_left (by omega), List.getElem?_take, if_pos h1]
  · rw [if_neg h1]
    by_cases h2 : i < off + c.length
    · rw [if_pos h2, List.getElem?_append_left (by simp; omega), List.getElem?_append_right (by omega), ht]
    · rw [if_neg h2, List.getElem?_append_right (by simp; omega), List.getElem?_drop]
      congr 1
      simp [ht]; omega

theorem splice_length {α : Type} (l c : List α) (off : Nat) (h : off + c.length ≤ l.length) : (l.take off ++ c ++ l.drop (off + c.length)).length = l.length := by
  simp; omega

/-- Cells are written into a told block. -/
theorem Rel.write {ρ : Rho} {mem : Mem} {next : Nat} {w : World} (h : Rel ρ mem next w) {b : Nat} {l : Loc} {ab : ABlk} (hb : ρ b = some l) (hm : mget mem b = some ab) {off : Nat} {cs : List AVal} {vs : List Value}
    (hlen : vs.length = cs.length) (hfit : off + cs.length ≤ ab.cells.length) (hv : ∀ (i : Nat) (h1 : i < cs.length) (h2 : i < vs.length), VRel ρ cs[i] vs[i]) :
    ∃ cur el, w.heap[l.blk]? = some (.cells cur el (0, 0)) ∧ l.base + off + vs.length ≤ cur.size ∧
      Rel ρ (mset mem b (some ⟨ab.cells.take off ++ cs ++ ab.cells.drop (off + cs.length), ab.ty, none⟩)) next (w.setRow l.blk (cur.toList.take (l.base + off) ++ vs ++ cur.toList.drop (l.base + off + vs.length)).toArray) := by
  obtain ⟨hn, ht, har, cur, el, h1, h2, h3⟩ := h.blk b l ab hb hm
  have hfc : l.base + off + vs.length ≤ cur.toList.length := by simp; omega
  refine ⟨cur, el, h1, by simpa using hfc, h.dom, fun c c' m m' e e' he hs hs' => ?_, fun c m ac e hc => ?_, fun k o e => ?_, fun c m e hs => h.sep c m e (by
    by_cases hcb : c = b
    · rw [hcb, hm]; rfl
    · rwa [mget_mset_ne _ _ hcb] at hs), fun c m e => ?_, fun c hc => by have := h.dom b l hb; rw [mget_mset_ne _ _ (by omega)]; exact h.bd c hc, h.ldom⟩
  · refine h.inj c c' m m' e e' he ?_ ?_
    · by_cases hcb : c = b
      · rw [hcb, hm]; rfl
      · rwa [mget_mset_ne _ _ hcb] at hs
    · by_cases hcb : c' = b
      · rw [hcb, hm]; rfl
      · rwa [mget_mset_ne _ _ hcb] at hs'
  · by_cases hcb : c = b
    · subst hcb
      rw [mget_mset_same] at hc
      obtain rfl := Option.some.inj hc
      rw [hb] at e
      obtain rfl := Option.some.inj e
      refine ⟨by rw [splice_length _ _ _ hfit]; exact hn, ht, (fun A e => by cases e), _, el, setRow_heap w l.blk cur _ el (0, 0) h1, ?_, fun i hi => ?_⟩
      · rw [List.size_toArray, splice_length _ _ _ hfc]; simpa using h2
      · rw [splice_length _ _ _ hfit] at hi
        have hg := splice_get ab.cells cs off i hfit
        rw [List.getElem?_eq_getElem (by rw [splice_length _ _ _ hfit]; exact hi)] at hg
        simp only [List.getElem?_toArray]
        rw [splice_get _ _ _ _ hfc]
        by_cases g1 : i < off
        · rw [if_pos (by omega)]
          rw [if_pos g1, List.getElem?_eq_getElem hi] at hg
          obtain ⟨v, e1, e2⟩ := h3 i hi
          exact ⟨v, by simpa using e1, by rw [Option.some.inj hg]; exact e2⟩
        · by_cases g2 : i < off + cs.length
          · rw [if_neg (by omega), if_pos (by omega)]
            rw [if_neg g1, if_pos g2, List.getElem?_eq_getElem (by omega)] at hg
            refine ⟨vs[i - off]'(by omega), by rw [show l.base + i - (l.base + off) = i - off by omega, List.getElem?_eq_getElem], ?_⟩
            rw [Option.some.inj hg]
            exact hv (i - off) (by omega) (by omega)
          · rw [if_neg (by omega), if_neg (by omega)]
            rw [if_neg g1, if_neg g2, List.getElem?_eq_getElem hi] at hg
            obtain ⟨v, e1, e2⟩ := h3 i hi
            exact ⟨v, by simpa using e1, by rw [Option.some.inj hg]; exact e2⟩
    · rw [mget_mset_ne _ _ hcb] at hc
      refine (h.blk c m ac e hc).world (Rho.le_refl _) (setRow_other w l.blk m.blk _ fun heq => hcb ?_)
      exact h.inj c b m l e hb heq (by rw [hc]; rfl) (by rw [hm]; rfl)
  · have hk := h.old k o e
    rw [setRow_other]
    · exact hk
    · intro heq
      have := h.sep b l hb (by rw [hm]; rfl)
      rw [← heq, e] at this
      cases this
  · rw [setRow_size]; exact h.real c m e

theorem Ev.ofWrite {ρ : Rho} {mem : Mem} {next : Nat} {w : World} (h : Rel ρ mem next w) {floor b : Nat} {l : Loc} (hb : ρ b = some l) (hf : floor ≤ b) (o : Option ABlk) (cs : Array Value) :
    Ev ρ ρ floor mem next (mset mem b o) next w (w.setRow l.blk cs) where
  ext := Rho.le_refl _
  new _ _ := rfl
  nxt := Nat.le_refl _
  unborn k _ e cs ty hm := by rw [mget_mset_ne _ _ fun hk => by rw [hk, hb] at e; cases e]; exact hm
  frame k o hk hfr := by
    rw [setRow_other]
    · exact hk
    · exact fun heq => hfr b l hb hf heq.symm
  fresh k m hk e := by have := h.dom k m e; omega
  size := by rw [setRow_size]; exact Nat.le_refl _
  os := rfl
  tape := rfl
  output := rfl
  still _ _ := rfl

/-! ### Frames -/
structure EnvRel (ρ : Rho) (env : T AVal) (n : Nat) (tmps : Array Value) : Prop where
  size : tmps.size = n
  get : ∀ i, VRel ρ (T.get .undef env i) (tmps.getD i undef)
  out : ∀ i, n ≤ i → T.get .undef env i = .undef

theorem EnvRel.mono {ρ ρ' : Rho} {env : T AVal} {n : Nat} {tmps : Array Value} (h : EnvRel ρ env n tmps) (hr : ρ.le ρ') : EnvRel ρ' env n tmps :=
  ⟨h.size, fun i => (h.get i).mono hr, h.out⟩

end Go.Am
