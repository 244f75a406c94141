/- A part of a proof: several texts in one. -/
import Derived.Test.YtmanggcjimaehaaGreatKt1
import Derived.Sort.Grow
import Derived.Deep.Slices
import Derived.Deep.Fields
import Derived.ChangeSame
import Derived.OpenShut
import Derived.Test.YtmanggcjimaehaaGreatProg
import Derived.Sort.AssemblyPlain
import Derived.Lib.BitFns
import Derived.Shelf.GgSortFunc.InsertionK
import Derived.Shelf.Sort.Plain
import Derived.Ground.Names2Prog
import Derived.Shelf.Slices.CompactI
import Derived.Shelf.Slices.SearchI
import Derived.Shelf.Slices.Cells
import Derived.Shelf.Slices.In.SortNone
import Derived.Shelf.SlSortCmp.WholeK
import Derived.Ground.SlsfProg
set_option maxRecDepth 1000000
set_option maxHeartbeats 8000000
set_option linter.unusedVariables false
set_option linter.unusedSimpArgs false
noncomputable section
namespace Go.Am
inductive VLe : AVal → AVal → Prop
 | refl (v : AVal) : VLe v v
 | undef (v : AVal) : VLe v .undef
 | nils (b sz off : Nat) (cap : v0a) : VLe .nils (.sla b sz off 0 cap)
 | sl (b sz q len : Nat) (cap : v0a) : VLe (.sl b (q * sz) len cap) (.sla b sz q len cap)
 | nild (g : Nat → List AVal) : VLe .nils (.dat 0 g)
 | dat (n : Nat) (g g' : Nat → List AVal) (h : ∀ i, i < n → g i = g' i) : VLe (.dat n g) (.dat n g')
theorem VLe.sound {ρ : Rho} {a a' : AVal} {v : Value} (h : VLe a a') (hv : Yv ρ a v) : Yv ρ a' v := by
 cases h with
 | refl => exact hv
 | undef => exact .undef _
 | nils b sz off cap => cases hv; exact .slan b sz off cap
 | sl b sz q len cap => cases hv with | sl _ _ _ _ l c h hc hlen => exact .sla b sz q len cap l c h hc hlen
 | nild g => cases hv; exact .datn _
 | dat n g g' hg =>
  cases hv with
  | datn => exact .datn _
  | datz => exact .datz _ _ _
  | dat _ _ blk base sz cap val hcap hsz hv hh =>
   refine .dat n g' blk base sz cap val hcap (fun i hi => by rw [← hg i hi]; exact hsz i hi) (fun i j hi hj => ?_) hh
   have e := hg i hi
   have hj' : j < (g i).length := by rw [e]; exact hj
   have := hv i j hi hj'
   simp only [e] at this
   exact this
theorem VLe.of_undef {a : AVal} (h : VLe .undef a) : a = .undef := by cases h <;> rfl
inductive RLe : List AVal → List AVal → Prop
 | nil : RLe [] []
 | cons {a b : AVal} {l m : List AVal} (h : VLe a b) (t : RLe l m) : RLe (a :: l) (b :: m)
theorem RLe.refl : ∀ l : List AVal, RLe l l
 | [] => .nil
 | a :: l => .cons (.refl a) (RLe.refl l)
theorem RLe.len {l m : List AVal} (h : RLe l m) : l.length = m.length := by
 induction h with
 | nil => rfl
 | cons _ _ ih => simp [ih]
theorem RLe.get {l m : List AVal} (h : RLe l m) : ∀ (i : Nat) (h1 : i < l.length) (h2 : i < m.length), VLe l[i] m[i] := by
 induction h with
 | nil => intro i h1; simp at h1
 | cons h _ ih =>
  intro i h1 h2
  cases i with
  | zero => exact h
  | succ i => exact ih i (by simpa using h1) (by simpa using h2)
inductive BLe : Option ABlk → Option ABlk → Prop
 | refl (b : Option ABlk) : BLe b b
 | drop (b : Option ABlk) : BLe b none
 | rowed (cells : List AVal) (ty : TypeId) (a : Option Arr) (sz n : Nat) (g : Nat → List AVal) (hc : cells = Yg n g) (h1 : 1 ≤ sz) (hl : ∀ i, i < n → (g i).length = sz) : BLe (some ⟨cells, ty, a⟩) (some ⟨Yg n g, ty, some ⟨sz, n, g⟩⟩)
 | rws (ty : TypeId) (sz n : Nat) (a a' : Rws) (h : ∀ k, k < n → RLe (a.get k) (a'.get k)) : BLe (some ⟨Yg n a.get, ty, some ⟨sz, n, a⟩⟩) (some ⟨Yg n a'.get, ty, some ⟨sz, n, a'⟩⟩)
theorem BLe.sound {ρ : Rho} {w : World} {a a' : ABlk} {l : Loc} (h : BLe (some a) (some a')) (hb : Qr ρ w a l) : Qr ρ w a' l := by
 cases h with
 | refl => exact hb
 | rowed cells ty a sz n g hc h1 hl =>
  subst hc
  refine ⟨hb.n, hb.tot, fun A hA => ?_, hb.cells⟩
  obtain rfl := Option.some.inj hA
  exact ⟨rfl, h1, hl⟩
 | rws ty sz n a a' h =>
  obtain ⟨_, h1, hl⟩ := hb.arr _ rfl
  have h1 : 1 ≤ sz := h1
  have hl : ∀ k, k < n → (a.get k).length = sz := hl
  have hl' : ∀ k, k < n → (a'.get k).length = sz := fun k hk => by rw [← (h k hk).len]; exact hl k hk
  have k1 := Yk n hl
  have k2 := Yk n hl'
  obtain ⟨cs, el, g1, g2, g3⟩ := hb.cells
  refine ⟨by rw [hb.n]; show (Yg n a.get).length = (Yg n a'.get).length; rw [k1, k2], hb.tot, fun A hA => ?_, cs, el, g1, g2, fun i hi => ?_⟩
  ·obtain rfl := Option.some.inj hA
   exact ⟨rfl, h1, hl'⟩
  ·have hi2 : i < (Yg n a'.get).length := hi
   have hi' : i < n * sz := by rw [← k2]; exact hi
   have hj : i % sz < sz := Nat.mod_lt _ h1
   have hq : i / sz < n := Nat.div_lt_of_lt_mul (by rw [Nat.mul_comm]; exact hi')
   have e : i / sz * sz + i % sz = i := by rw [Nat.mul_comm]; exact Nat.div_add_mod i sz
   have hic : i < (Yg n a.get).length := by rw [k1]; exact hi'
   have r1 := Wd n hl (i / sz) (i % sz) hq hj
   have r2 := Wd n hl' (i / sz) (i % sz) hq hj
   rw [e] at r1 r2
   have j1 : i % sz < (a.get (i / sz)).length := by rw [hl _ hq]; exact hj
   have j2 : i % sz < (a'.get (i / sz)).length := by rw [hl' _ hq]; exact hj
   obtain ⟨v, q1, q2⟩ := g3 i hic
   have q2 : Yv ρ ((Yg n a.get)[i]'hic) v := q2
   refine ⟨v, q1, ?_⟩
   show Yv ρ ((Yg n a'.get)[i]'hi2) v
   rw [List.getElem?_eq_getElem hic, List.getElem?_eq_getElem j1] at r1
   rw [List.getElem?_eq_getElem hi2, List.getElem?_eq_getElem j2] at r2
   rw [Option.some.inj r1] at q2
   rw [Option.some.inj r2]
   exact ((h _ hq).get _ j1 j2).sound q2
theorem z6f {g h : Nat → List AVal} : ∀ (n : Nat), (∀ i, i < n → g i = h i) → Yg n g = Yg n h
 | 0, _ => rfl
 | n + 1, e => by rw [z4s, z4s, z6f n fun i hi => e i (by omega), e n (by omega)]
def z3k (l : List Int) : Nat → Int := fun k => l.getD k 0
def z4k (asz sz off len n : Nat) (get : Nat → List AVal) : AVal := bif Nat.beq asz sz && Nat.ble (off + len) n then .dat len (fun k => get (off + k)) else .undef
theorem v6q (sz n : Nat) (g : Nat → List AVal) : z4k sz sz 0 n n g = .dat n g := by
 unfold z4k
 rw [show (Nat.beq sz sz && Nat.ble (0 + n) n) = true by simp [Nat.beq_refl, Nat.ble_eq], cond_true]
 congr 1
 funext k
 rw [Nat.zero_add]
def Qq (g : Nat → List AVal) : Bool := pd (∀ i, (g i).all (pf 6) = true)
theorem x5v {p : AVal → Bool} {l : List AVal} (h : l.all p = true) (n : Nat) : (l.take n).all p = true :=
 List.all_eq_true.2 fun x hx => List.all_eq_true.1 h x (List.mem_of_mem_take hx)
theorem x5w {p : AVal → Bool} {l : List AVal} (h : l.all p = true) (n : Nat) : (l.drop n).all p = true :=
 List.all_eq_true.2 fun x hx => List.all_eq_true.1 h x (List.mem_of_mem_drop hx)
theorem w3l {g : Nat → List AVal} {off len sz : Nat} {new : List AVal} (h : Qq g = true) (hn : new.all (pf 6) = true) : Qq (Zd g off len sz new) = true := pd_true fun i => by
 unfold Zd
 cases Nat.ble len i with
 | true => exact x5v (x5w hn _) _
 | false => exact Vf h _
theorem w3i {g : Nat → List AVal} {r fo : Nat} {cs : List AVal} (h : Qq g = true) (hn : cs.all (pf 6) = true) : Qq (Xb g r fo cs) = true := pd_true fun i => by
 unfold Xb
 cases Nat.beq i r with
 | true =>
  rw [cond_true, List.all_append, List.all_append, x5v (Vf h r), hn, x5w (Vf h r)]
  rfl
 | false => exact Vf h _
theorem x6b {P : Program} {S : Specs} (hS : Zk P S) {f : FuncId} {F : List AVal → Option (AVal × Bool)} (hf : (P.funcs[f]?).any (fun fn => fn.body.isSome) = true)
  (hF : ∀ args v, F args = some (v, true) → ∃ vs, (∀ (ρ : Rho) (u : Value), Yv ρ (Ks vs) u → Yv ρ v u) ∧ Je P (Zy P f) (Zf P f args true []) vs ∧ ∃ d, pf d (Ks vs) = true) : Zk P (S.with f F) := by
 intro g G hg
 unfold Specs.with at hg
 cases hgf : Nat.beq g f with
 | false => rw [hgf] at hg; exact hS g G hg
 | true =>
  rw [hgf] at hg
  obtain rfl : Spec.val F = G := Option.some.inj hg
  obtain rfl : g = f := Nat.eq_of_beq_eq_true hgf
  refine ⟨?_, fun args v hv H vals w hargs hH => ?_⟩
  ·cases hfn : P.funcs[g]? with
   | none => rw [hfn] at hf; cases hf
   | some fn => rw [hfn] at hf; exact ⟨fn, rfl, hf⟩
  ·obtain ⟨vs, hw, ⟨C', g1, g2, g3⟩, d, hp⟩ := hF args v hv
   exact (goes_call hf g1 g2 (by rw [y6r]; exact g3) hargs hH).mono fun e w' ⟨ρ, u, he, ho⟩ => ⟨ρ.fz, u, ho.le, ho.old, ho.same, he, hw _ _ (Kp d _ u hp ho.val), ho.below⟩
theorem x8j : Qq (fun _ => []) = true := pd_true fun _ => rfl
theorem x2n (s t : Nat) : Qq (fun k => (([] : List AVal).drop (k * s)).take t) = true := pd_true fun i => by simp
theorem y1m {g : Nat → List AVal} {o : Nat} (h : Qq g = true) : Qq (fun k => g (o + k)) = true := pd_true fun i => Vf h (o + i)
theorem w3k {g h : Nat → List AVal} {len : Nat} (p : Qq g = true) (q : Qq h = true) : Qq (Jq g len h) = true := pd_true fun i => by
 unfold Jq
 cases Nat.ble len i with
 | true => exact Vf q _
 | false => exact Vf p _
def y8m (sz n : Nat) (g : Nat → List AVal) : Bool := pd (∀ i, i < n → (g i).length = sz ∧ (g i).all z7p = true)
end Go.Am
namespace Go.Am
open Go.Sort Go.RowKit
variable {P : Program} {ρ : Rho}
theorem Rel.rewritten {mem : Mem} {next : Nat} {w w' : World} (h : Rel ρ mem next w) {b : Nat} {l : Loc} {ab : ABlk} (hb : ρ b = some l) (hm : Xx mem b = some ab) {cs : List AVal}
  (hlen : cs.length = ab.cells.length) (hsame : ∀ k, k < w.heap.size → k ≠ l.blk → w'.heap[k]? = w.heap[k]?) (hsize : w.heap.size ≤ w'.heap.size)
  (hnew : ∃ cur el, w'.heap[l.blk]? = some (.cells cur el (0, 0)) ∧ l.base + l.tot ≤ cur.size ∧ ∀ (i : Nat) (hi : i < cs.length), ∃ v, cur[l.base + i]? = some v ∧ Yv ρ cs[i] v) :
  Rel ρ (Wm mem b (some ⟨cs, ab.ty, none⟩)) next w' := by
 have hbk := h.blk b l ab hb hm
 refine ⟨h.dom, fun c c' m m' e e' he hs hs' => ?_, fun c m ac e hc => ?_, fun k o e => ?_, fun c m e hs => h.sep c m e (by
  by_cases hcb : c = b
  ·rw [hcb, hm]; rfl
  ·rwa [Zw _ _ hcb] at hs), fun c m e => Nat.lt_of_lt_of_le (h.real c m e) hsize, fun c hc => by have := h.dom b l hb; rw [Zw _ _ (by omega)]; exact h.bd c hc, h.ldom⟩
 ·refine h.inj c c' m m' e e' he ?_ ?_
  ·by_cases hcb : c = b
   ·rw [hcb, hm]; rfl
   ·rwa [Zw _ _ hcb] at hs
  ·by_cases hcb : c' = b
   ·rw [hcb, hm]; rfl
   ·rwa [Zw _ _ hcb] at hs'
 ·by_cases hcb : c = b
  ·subst hcb
   rw [Yd] at hc
   obtain rfl := Option.some.inj hc
   rw [hb] at e
   obtain rfl := Option.some.inj e
   exact ⟨by rw [hlen]; exact hbk.n, hbk.tot, (fun A e => by cases e), hnew⟩
  ·rw [Zw _ _ hcb] at hc
   refine (h.blk c m ac e hc).world (Rho.le_refl _) (hsame m.blk (h.real c m e) fun heq => hcb ?_)
   exact h.inj c b m l e hb heq (by rw [hc]; rfl) (by rw [hm]; rfl)
 ·have hk := h.old k o e
  rw [hsame k ?_ ?_]
  ·exact hk
  ·exact (Array.getElem?_eq_some_iff.1 hk).1
  ·intro heq
   have := h.sep b l hb (by rw [hm]; rfl)
   rw [← heq, e] at this
   cases this
def Zt (n : Nat) (c : Nat → Int) : List Int := (List.range n).map c
def fRow (srt : List Int → List Int) (args : List AVal) (mem : Mem) : Option (AVal × Nat × ABlk × Bool) := match args with
 | [.sla b sz off n cap] => match Xx mem b with
  | some ⟨_, ty, some A⟩ => some (.tup [], b, ⟨Yg A.n (y3r (z3k (srt (Zt n (cOf A.get))))), ty, some ⟨1, A.n, y3r (z3k (srt (Zt n (cOf A.get))))⟩⟩,
    Nat.beq sz 1 && (Nat.beq A.sz 1 && (Nat.beq off 0 && (decide (n = A.n) && (isI A.get && decide (n < 4611686018427387904))))))
  | _ => none
 | _ => none
theorem Kj (n : Nat) (c : Nat → Int) (i : Nat) (h : i < n) : (Yg n (y3r c))[i]? = some (.int .i64 (c i)) := by
 have := Wd (get := y3r c) (sz := 1) n (fun _ _ => rfl) i 0 h Nat.one_pos
 simpa [y3r] using this
theorem Xr (n : Nat) (c : Nat → Int) : (Yg n (y3r c)).length = n := by
 rw [Yk (sz := 1) n fun _ _ => rfl, Nat.mul_one]
theorem z3b (w : World) (n blk off : Nat) (d : Array Int) (os : Array Obj) (k : Nat) (hk : k < w.heap.size) :
  (grow (putRow (Value.int .i64) (Go.Sort.ahead w n) blk off d) os).heap[k]? = if k = blk then (w.heap[k]?).map (onCells (putCells (Value.int .i64) off d)) else w.heap[k]? := by
 show (((Go.Sort.ahead w n).heap.modify blk (onCells (putCells (Value.int .i64) off d))) ++ os)[k]? = _
 rw [Array.getElem?_append_left (by simp; exact hk), Array.getElem?_modify]
 show (if blk = k then _ else _) = _
 by_cases h : k = blk
 ·rw [if_pos h.symm, if_pos h]; rfl
 ·rw [if_neg (fun e => h e.symm), if_neg h]; rfl
theorem Ev.rewritten {mem : Mem} {next floor : Nat} {w w' : World} (h : Rel ρ mem next w) {b : Nat} (o : Option ABlk) (hb : ∀ l, ρ b = some l → floor ≤ b) (hnone : ρ b = none → ∀ cs ty, Xx mem b ≠ some ⟨cs, ty, none⟩)
  (hsame : ∀ k, k < w.heap.size → (∀ l, ρ b = some l → k ≠ l.blk) → w'.heap[k]? = w.heap[k]?) (hsize : w.heap.size ≤ w'.heap.size) (h1 : w'.os = w.os) (h2 : w'.tape = w.tape) (h3 : w'.output = w.output) :
  Ev ρ ρ floor mem next (Wm mem b o) next w w' where
 ext := Rho.le_refl _
 new _ _ := rfl
 nxt := Nat.le_refl _
 unborn k _ e cs ty hm := by
  by_cases hk : k = b
  ·subst hk; exact absurd hm (hnone e cs ty)
  ·rw [Zw _ _ hk]; exact hm
 frame k o hk hfr := by
  rw [hsame k (Array.getElem?_eq_some_iff.1 hk).1 fun l hl heq => hfr b l hl (hb l hl) heq.symm]
  exact hk
 fresh k m hk e := by have := h.dom k m e; omega
 size := hsize
 os := h1
 tape := h2
 output := h3
 still _ _ := rfl
theorem Rel.unbornSet {mem : Mem} {next : Nat} {w : World} (h : Rel ρ mem next w) {b : Nat} (hb : ρ b = none) (hlt : b < next) (o : Option ABlk) : Rel ρ (Wm mem b o) next w := by
 have ne : ∀ c l, ρ c = some l → c ≠ b := fun c l e he => by rw [he, hb] at e; cases e
 refine ⟨h.dom, fun c c' m m' e e' he hs hs' => ?_, fun c m ac e hc => ?_, h.old, fun c m e hs => ?_, h.real, fun c hc => ?_, h.ldom⟩
 ·rw [Zw _ _ (ne _ _ e)] at hs
  rw [Zw _ _ (ne _ _ e')] at hs'
  exact h.inj c c' m m' e e' he hs hs'
 ·rw [Zw _ _ (ne _ _ e)] at hc
  exact h.blk c m ac e hc
 ·rw [Zw _ _ (ne _ _ e)] at hs
  exact h.sep c m e hs
 ·rw [Zw _ _ (by omega)]
  exact h.bd c hc
theorem v8a {f : FuncId} {srt : List Int → List Int} (hsl : ∀ zs, (srt zs).length = zs.length)
  (hC : ∀ (blk off cap : Nat) (zs : List Int) (w : World), Holds (Value.int .i64) w blk off zs.toArray → blk < w.heap.size → zs.length < 4611686018427387904 →
   Calls P f #[.slice (some ⟨blk, off, none⟩) zs.length cap] w fun e w' => e = .returned (.tuple #[]) ∧ ∃ n os, w' = grow (putRow (Value.int .i64) (Go.Sort.ahead w n) blk off (srt zs).toArray) os)
  (hN : ∀ (p : Option Addr) (cap : Nat) (w : World), Calls P f #[.slice p 0 cap] w fun e w' => e = .returned (.tuple #[]) ∧ w' = w) : y9i P f (fRow srt) := by
 intro args mem v b blk h hsome ρ next floor vals w hfl hargs hrel
 unfold fRow at h
 split at h
 ·rename_i b0 sz off n cap
  split at h
  ·rename_i cells ty A hm
   obtain ⟨asz, an, get⟩ := A
   simp only [Option.some.injEq, Prod.mk.injEq, Bool.and_eq_true] at h
   obtain ⟨rfl, rfl, rfl, h1, h2, h3, h4, h5, h6⟩ := h
   have g1 := Nat.eq_of_beq_eq_true h1
   have g2 := Nat.eq_of_beq_eq_true h2
   have g3 := Nat.eq_of_beq_eq_true h3
   have g4 : n = an := of_decide_eq_true h4
   have h6 : n < 4611686018427387904 := of_decide_eq_true h6
   subst g1
   subst g2
   subst g3
   subst g4
   obtain ⟨c, hcg⟩ := x5l h5
   have e0 : cOf (y3r c) = c := rfl
   simp only [hcg, e0]
   obtain ⟨u, hu, hvals⟩ : ∃ u, Yv ρ (.sla b0 1 0 n cap) u ∧ vals = #[u] := by
    obtain ⟨vl⟩ := vals
    cases hargs with
    | cons h1 h2 => cases h2; exact ⟨_, h1, rfl⟩
   subst hvals
   have hlt : b0 < next := by
    rcases Nat.lt_or_ge b0 next with h | h
    ·exact h
    ·have := hrel.bd b0 h; rw [hm] at this; cases this
   generalize hL : srt (Zt n c) = L
   have hLl : L.length = n := by rw [← hL, hsl, Zt, List.length_map, List.length_range]
   have hnn : ρ b0 = none → ∀ cs ty', Xx mem b0 ≠ some ⟨cs, ty', none⟩ := fun _ cs ty' e => by rw [hm] at e; cases e
   cases hu with
   | sla _ _ _ _ _ l cc e hc hlen =>
    have hbk := hrel.blk b0 l _ e hm
    obtain ⟨har, _, _⟩ := hbk.arr _ rfl
    simp only [hcg] at har
    subst har
    obtain ⟨cur, el, hh, hsz, hcells⟩ := hbk.cells
    simp only [Xr] at hcells
    have hcell : ∀ i, i < n → cur[l.base + i]? = some (.int .i64 (c i)) := fun i hi => by
     obtain ⟨v, e1, e2⟩ := hcells i hi
     rw [show (Yg n (y3r c))[i]'(by rw [Xr]; exact hi) = .int .i64 (c i) from Option.some.inj (by rw [← List.getElem?_eq_getElem, Kj n c i hi])] at e2
     cases e2
     exact e1
    have hblk := hrel.real b0 l e
    have hzs : (Zt n c).length = n := by rw [Zt, List.length_map, List.length_range]
    have hH : Holds (Value.int .i64) w l.blk (l.base + 0 * 1) (Zt n c).toArray := fun j hj => by
     have hj : j < n := by simpa [hzs] using hj
     refine ⟨?_, ?_⟩
     ·simp only [World.cell?, hh, Nat.zero_mul, Nat.add_zero]
      rw [hcell j hj]
      simp [Zt, hj]
     ·simp [World.frozen?, hh]
    have hcall := hC l.blk (l.base + 0 * 1) cc (Zt n c) w hH hblk (by omega)
    rw [hzs, hL] at hcall
    refine hcall.mono fun e' w' ⟨he, q, os, hw'⟩ => ⟨_, he, ?_, ?_, ?_⟩
    ·exact .tup [] #[] rfl fun i h1 h2 => absurd h1 (Nat.not_lt_zero _)
    ·subst hw'
     refine Rel.setArr ?_ ⟨1, n, y3r (z3k L)⟩ rfl (Nat.le_refl 1) fun _ _ => rfl
     refine Rel.rewritten hrel e hm (by simp only [Xr]) (fun k hk hne => ?_) ?_ ?_
     ·rw [z3b _ _ _ _ _ _ _ hk, if_neg hne]
     ·show _ ≤ (((Go.Sort.ahead w q).heap.modify _ _) ++ os).size
      simp only [Array.size_append, Array.size_modify]
      exact Nat.le_add_right _ _
     ·refine ⟨putCells (Value.int .i64) (l.base + 0 * 1) L.toArray cur, el, ?_, ?_, fun i hi => ?_⟩
      ·rw [z3b _ _ _ _ _ _ _ hblk, if_pos rfl, hh]; rfl
      ·simp only [putCells, Array.size_mapIdx]; exact hsz
      ·rw [Xr] at hi
       refine ⟨.int .i64 (z3k L i), ?_, ?_⟩
       ·simp only [putCells, Array.getElem?_mapIdx, hcell i hi, Option.map_some, Nat.zero_mul, Nat.add_zero]
        rw [if_pos ⟨by omega, by simp [hLl]; omega⟩]
        congr 1
        simp [z3k, hLl, hi]
       ·rw [show (Yg n (y3r (z3k L)))[i]'(by rw [Xr]; exact hi) = .int .i64 (z3k L i) from Option.some.inj (by rw [← List.getElem?_eq_getElem, Kj n _ i hi])]
        exact .int _ _
    ·subst hw'
     refine Ev.rewritten hrel _ (fun l' _ => hfl) hnn (fun k hk hne => ?_) ?_ rfl rfl rfl
     ·rw [z3b _ _ _ _ _ _ _ hk, if_neg (hne l e)]
     ·show _ ≤ (((Go.Sort.ahead w q).heap.modify _ _) ++ os).size
      simp only [Array.size_append, Array.size_modify]
      exact Nat.le_add_right _ _
   | slan =>
    refine (hN none 0 w).mono fun e' w' ⟨he, hw'⟩ => ⟨_, he, ?_, ?_, ?_⟩
    ·exact .tup [] #[] rfl fun i h1 h2 => absurd h1 (Nat.not_lt_zero _)
    ·subst hw'
     refine Rel.setArr ?_ ⟨1, 0, y3r (z3k L)⟩ rfl (Nat.le_refl 1) fun _ _ => rfl
     cases e : ρ b0 with
     | none => exact Rel.unbornSet hrel e hlt _
     | some l =>
      have hbk := hrel.blk b0 l _ e hm
      obtain ⟨har, _, _⟩ := hbk.arr _ rfl
      simp only [hcg] at har
      subst har
      obtain ⟨cur, el, hh, hsz, hcells⟩ := hbk.cells
      exact Rel.rewritten hrel e hm rfl (fun _ _ _ => rfl) (Nat.le_refl _) ⟨cur, el, hh, hsz, fun i hi => absurd hi (Nat.not_lt_zero _)⟩
    ·subst hw'
     exact Ev.rewritten hrel _ (fun l' _ => hfl) hnn (fun _ _ _ => rfl) (Nat.le_refl _) rfl rfl rfl
  ·cases h
 ·cases h
def fCut (srt : List Int → List Int) (res : List Int → Nat) (args : List AVal) (mem : Mem) : Option (AVal × Nat × ABlk × Bool) := match args with
 | [.sla b sz off n cap] => match Xx mem b with
  | some ⟨_, ty, some A⟩ => some (.sla b 1 0 (res (Zt n (cOf A.get))) cap, b, ⟨Yg A.n (y3r (z3k (srt (Zt n (cOf A.get))))), ty, some ⟨1, A.n, y3r (z3k (srt (Zt n (cOf A.get))))⟩⟩,
    Nat.beq sz 1 && (Nat.beq A.sz 1 && (Nat.beq off 0 && (decide (n = A.n) && (isI A.get && decide (n < 4611686018427387904))))))
  | _ => none
 | _ => none
theorem v8b {f : FuncId} {srt : List Int → List Int} {res : List Int → Nat} (hsl : ∀ zs, (srt zs).length = zs.length) (hres : ∀ zs, res zs ≤ zs.length)
  (hC : ∀ (blk off cap : Nat) (zs : List Int) (w : World), Holds (Value.int .i64) w blk off zs.toArray → blk < w.heap.size → zs.length < 4611686018427387904 → zs.length ≤ cap →
   Calls P f #[.slice (some ⟨blk, off, none⟩) zs.length cap] w fun e w' => e = .returned (.slice (some ⟨blk, off, none⟩) (res zs) cap) ∧ ∃ n os, w' = grow (putRow (Value.int .i64) (Go.Sort.ahead w n) blk off (srt zs).toArray) os)
  (hN : ∀ (p : Option Addr) (cap : Nat) (w : World), Calls P f #[.slice p 0 cap] w fun e w' => e = .returned (.slice p 0 cap) ∧ w' = w) : y9i P f (fCut srt res) := by
 intro args mem v b blk h hsome ρ next floor vals w hfl hargs hrel
 unfold fCut at h
 split at h
 ·rename_i b0 sz off n cap
  split at h
  ·rename_i cells ty A hm
   obtain ⟨asz, an, get⟩ := A
   simp only [Option.some.injEq, Prod.mk.injEq, Bool.and_eq_true] at h
   obtain ⟨rfl, rfl, rfl, h1, h2, h3, h4, h5, h6⟩ := h
   have g1 := Nat.eq_of_beq_eq_true h1
   have g2 := Nat.eq_of_beq_eq_true h2
   have g3 := Nat.eq_of_beq_eq_true h3
   have g4 : n = an := of_decide_eq_true h4
   have h6 : n < 4611686018427387904 := of_decide_eq_true h6
   subst g1
   subst g2
   subst g3
   subst g4
   obtain ⟨c, hcg⟩ := x5l h5
   have e0 : cOf (y3r c) = c := rfl
   simp only [hcg, e0]
   obtain ⟨u, hu, hvals⟩ : ∃ u, Yv ρ (.sla b0 1 0 n cap) u ∧ vals = #[u] := by
    obtain ⟨vl⟩ := vals
    cases hargs with
    | cons h1 h2 => cases h2; exact ⟨_, h1, rfl⟩
   subst hvals
   have hlt : b0 < next := by
    rcases Nat.lt_or_ge b0 next with h | h
    ·exact h
    ·have := hrel.bd b0 h; rw [hm] at this; cases this
   generalize hL : srt (Zt n c) = L
   have hLl : L.length = n := by rw [← hL, hsl, Zt, List.length_map, List.length_range]
   have hnn : ρ b0 = none → ∀ cs ty', Xx mem b0 ≠ some ⟨cs, ty', none⟩ := fun _ cs ty' e => by rw [hm] at e; cases e
   cases hu with
   | sla _ _ _ _ _ l cc e hc hlen =>
    have hbk := hrel.blk b0 l _ e hm
    obtain ⟨har, _, _⟩ := hbk.arr _ rfl
    simp only [hcg] at har
    subst har
    obtain ⟨cur, el, hh, hsz, hcells⟩ := hbk.cells
    simp only [Xr] at hcells
    have hcell : ∀ i, i < n → cur[l.base + i]? = some (.int .i64 (c i)) := fun i hi => by
     obtain ⟨v, e1, e2⟩ := hcells i hi
     rw [show (Yg n (y3r c))[i]'(by rw [Xr]; exact hi) = .int .i64 (c i) from Option.some.inj (by rw [← List.getElem?_eq_getElem, Kj n c i hi])] at e2
     cases e2
     exact e1
    have hblk := hrel.real b0 l e
    have hzs : (Zt n c).length = n := by rw [Zt, List.length_map, List.length_range]
    have hH : Holds (Value.int .i64) w l.blk (l.base + 0 * 1) (Zt n c).toArray := fun j hj => by
     have hj : j < n := by simpa [hzs] using hj
     refine ⟨?_, ?_⟩
     ·simp only [World.cell?, hh, Nat.zero_mul, Nat.add_zero]
      rw [hcell j hj]
      simp [Zt, hj]
     ·simp [World.frozen?, hh]
    have hcall := hC l.blk (l.base + 0 * 1) cc (Zt n c) w hH hblk (by omega) (by omega)
    rw [hzs, hL] at hcall
    refine hcall.mono fun e' w' ⟨he, q, os, hw'⟩ => ⟨_, he, ?_, ?_, ?_⟩
    ·exact .sla _ _ _ _ _ l cc e hc (Nat.le_trans (hres _) (by omega))
    ·subst hw'
     refine Rel.setArr ?_ ⟨1, n, y3r (z3k L)⟩ rfl (Nat.le_refl 1) fun _ _ => rfl
     refine Rel.rewritten hrel e hm (by simp only [Xr]) (fun k hk hne => ?_) ?_ ?_
     ·rw [z3b _ _ _ _ _ _ _ hk, if_neg hne]
     ·show _ ≤ (((Go.Sort.ahead w q).heap.modify _ _) ++ os).size
      simp only [Array.size_append, Array.size_modify]
      exact Nat.le_add_right _ _
     ·refine ⟨putCells (Value.int .i64) (l.base + 0 * 1) L.toArray cur, el, ?_, ?_, fun i hi => ?_⟩
      ·rw [z3b _ _ _ _ _ _ _ hblk, if_pos rfl, hh]; rfl
      ·simp only [putCells, Array.size_mapIdx]; exact hsz
      ·rw [Xr] at hi
       refine ⟨.int .i64 (z3k L i), ?_, ?_⟩
       ·simp only [putCells, Array.getElem?_mapIdx, hcell i hi, Option.map_some, Nat.zero_mul, Nat.add_zero]
        rw [if_pos ⟨by omega, by simp [hLl]; omega⟩]
        congr 1
        simp [z3k, hLl, hi]
       ·rw [show (Yg n (y3r (z3k L)))[i]'(by rw [Xr]; exact hi) = .int .i64 (z3k L i) from Option.some.inj (by rw [← List.getElem?_eq_getElem, Kj n _ i hi])]
        exact .int _ _
    ·subst hw'
     refine Ev.rewritten hrel _ (fun l' _ => hfl) hnn (fun k hk hne => ?_) ?_ rfl rfl rfl
     ·rw [z3b _ _ _ _ _ _ _ hk, if_neg (hne l e)]
     ·show _ ≤ (((Go.Sort.ahead w q).heap.modify _ _) ++ os).size
      simp only [Array.size_append, Array.size_modify]
      exact Nat.le_add_right _ _
   | slan =>
    refine (hN none 0 w).mono fun e' w' ⟨he, hw'⟩ => ⟨_, he, ?_, ?_, ?_⟩
    ·rw [show res (Zt 0 c) = 0 from Nat.le_zero.1 (hres _)]
     exact .slan _ _ _ _
    ·subst hw'
     refine Rel.setArr ?_ ⟨1, 0, y3r (z3k L)⟩ rfl (Nat.le_refl 1) fun _ _ => rfl
     cases e : ρ b0 with
     | none => exact Rel.unbornSet hrel e hlt _
     | some l =>
      have hbk := hrel.blk b0 l _ e hm
      obtain ⟨har, _, _⟩ := hbk.arr _ rfl
      simp only [hcg] at har
      subst har
      obtain ⟨cur, el, hh, hsz, hcells⟩ := hbk.cells
      exact Rel.rewritten hrel e hm rfl (fun _ _ _ => rfl) (Nat.le_refl _) ⟨cur, el, hh, hsz, fun i hi => absurd hi (Nat.not_lt_zero _)⟩
    ·subst hw'
     exact Ev.rewritten hrel _ (fun l' _ => hfl) hnn (fun _ _ _ => rfl) (Nat.le_refl _) rfl rfl rfl
  ·cases h
 ·cases h
end Go.Am
namespace Go.Am
theorem y7r (a : Nat) : (Nat.beq a a == true) = true := by simp [Nat.beq_refl]
end Go.Am
namespace Go.Am
inductive VP where
 | keep
 | drop
  | grow (b sz : Nat)
  | list (n : Nat) (g : Nat → List AVal)
  | len (n : Nat)
  | frz (n n' : Nat) (a g : Nat → List AVal)
def Jv (n : Nat) (a g : Nat → List AVal) : Bool := pd (∀ i, i < n → a i = g i)
def w1d (cells : List AVal) (sz n : Nat) (g : Nat → List AVal) : Bool := pd (cells = Yg n g ∧ 1 ≤ sz ∧ ∀ i, i < n → (g i).length = sz)
def rlesR (n : Nat) (a g : Nat → List AVal) : Bool := pd (∀ i, i < n → RLe (a i) (g i))
def y5l (a b : Nat) : Bool := pd (a = b)
theorem Ux {a b : Nat} (h : a = b) : y5l a b = true := pd_true h
def w3g (v : AVal) (n : Nat) (a : Nat → List AVal) : Bool := pd (v = .dat n a)
theorem w8w (sz n : Nat) (g : Nat → List AVal) : w3g (z4k sz sz 0 n n g) n g = true := pd_true (v6q sz n g)
theorem w3f (n : Nat) (g : Nat → List AVal) : w3g (.dat n g) n g = true := pd_true rfl
def y7v : VP → AVal → Bool → AVal × Bool
 | .keep, v, ob => (v, ob)
 | .drop, _, ob => (.undef, ob)
 | .grow b sz, v, ob => match v with
  | .nils => (.sla b sz 0 0 (.un sz), ob)
  | .sl b o len cap => (.sla b sz 0 len cap, Nat.beq o 0 && ob)
  | v => (v, ob)
 | .list n' g, v, ob => match v with
  | .nils => (.dat 0 g, ob)
  | .dat n a => (.dat n' g, y5l n n' && (Jv n a g && ob))
  | v => (v, ob)
 | .len n', v, ob => match v with
  | .sla b sz off n cap => (.sla b sz off n' cap, y5l n n' && ob)
  | v => (v, ob)
 | .frz n n' a g, v, ob => (.dat n' g, w3g v n a && (y5l n n' && (Jv n a g && ob)))
theorem x5g {p : VP} {v : AVal} {ob : Bool} (h : (y7v p v ob).2 = true) : VLe v (y7v p v ob).1 ∧ ob = true := by
 cases p with
 | keep => exact ⟨.refl _, h⟩
 | drop => exact ⟨.undef _, h⟩
 | grow b sz =>
  cases v with
  | nils => exact ⟨.nils _ _ _ _, h⟩
  | sl b' o len cap =>
   simp only [y7v, Bool.and_eq_true] at h
   have e := Nat.eq_of_beq_eq_true h.1
   subst e
   have := VLe.sl b' sz 0 len cap
   rw [Nat.zero_mul] at this
   exact ⟨this, h.2⟩
  | _ => exact ⟨.refl _, h⟩
 | list n' g =>
  cases v with
  | nils => exact ⟨.nild _, h⟩
  | dat n a =>
   simp only [y7v, Bool.and_eq_true] at h
   obtain rfl := Vf h.1
   exact ⟨.dat _ _ _ (Vf h.2.1), h.2.2⟩
  | _ => exact ⟨.refl _, h⟩
 | len n' =>
  cases v with
  | sla b sz off n cap =>
   simp only [y7v, Bool.and_eq_true] at h
   obtain rfl := Vf h.1
   exact ⟨.refl _, h.2⟩
  | _ => exact ⟨.refl _, h⟩
 | frz n n' a g =>
  simp only [y7v, Bool.and_eq_true] at h
  obtain rfl := Vf h.1
  obtain rfl := Vf h.2.1
  exact ⟨.dat _ _ _ (Vf h.2.2.1), h.2.2.2⟩
def y7u : List VP → List AVal → Bool → List AVal × Bool
 | _, [], ob => ([], ob)
 | [], l, ob => (l, ob)
 | p :: ps, v :: l, ob => match y7u ps l ob with
  | (l', ob) => match y7v p v ob with
   | (v', ob) => (v' :: l', ob)
theorem y1b : ∀ {ps : List VP} {l : List AVal} {ob : Bool}, (y7u ps l ob).2 = true → RLe l (y7u ps l ob).1 ∧ ob = true
 | [], [], _, h => ⟨.nil, h⟩
 | _ :: _, [], _, h => ⟨.nil, h⟩
 | [], a :: l, _, h => ⟨RLe.refl _, h⟩
 | p :: ps, v :: l, ob, h => by
  simp only [y7u] at h ⊢
  obtain ⟨h1, h2⟩ := x5g h
  obtain ⟨h3, h4⟩ := y1b h2
  exact ⟨.cons h1 h3, h4⟩
inductive BP where
 | keep
 | drop
 | cells (ps : List VP)
 | rowed (sz n : Nat) (g : Nat → List AVal)
 | rws (a : Rws)
def y1c : BP → Option ABlk → Bool → Option ABlk × Bool
 | .keep, o, ob => (o, ob)
 | .drop, _, ob => (none, ob)
 | .cells ps, o, ob => match o with
  | some ⟨cells, ty, none⟩ => match y7u ps cells ob with
   | (cs, ob) => (some ⟨cs, ty, none⟩, ob)
  | o => (o, ob)
 | .rowed sz n g, o, ob => match o with
  | some ⟨cells, ty, none⟩ => (some ⟨Yg n g, ty, some ⟨sz, n, .flat g⟩⟩, w1d cells sz n g && ob)
  | some ⟨_, ty, some ⟨sz', n', a⟩⟩ => (some ⟨Yg n g, ty, some ⟨sz', n, .flat g⟩⟩, y5l n' n && (Jv n' a.get g && ob))
  | o => (o, ob)
 | .rws a', o, ob => match o with
  | some ⟨_, ty, some ⟨sz, n, a⟩⟩ => (some ⟨Yg n a'.get, ty, some ⟨sz, n, a'⟩⟩, rlesR n a.get a'.get && ob)
  | o => (o, ob)
theorem RLe.sound {ρ : Rho} {l m : List AVal} (h : RLe l m) (i : Nat) (h1 : i < l.length) (h2 : i < m.length) {v : Value} (hv : Yv ρ l[i] v) : Yv ρ m[i] v := (h.get i h1 h2).sound hv
theorem x1w {p : BP} {o : Option ABlk} {ob : Bool} {x' : ABlk} (h : (y1c p o ob).2 = true) (hx : (y1c p o ob).1 = some x') : ob = true ∧ ∃ x, o = some x ∧ ∀ (ρ : Rho) (w : World) (l : Loc), Qr ρ w x l → Qr ρ w x' l := by
 cases p with
 | keep => exact ⟨h, x', hx, fun _ _ _ q => q⟩
 | drop => cases hx
 | cells ps =>
  rcases o with _ | ⟨cells, ty, _ | A⟩
  ·cases hx
  ·simp only [y1c] at h hx
   obtain ⟨h1, h2⟩ := y1b h
   obtain rfl := Option.some.inj hx
   refine ⟨h2, _, rfl, fun ρ w l hb => ?_⟩
   obtain ⟨cs, el, g1, g2, g3⟩ := hb.cells
   refine ⟨by rw [hb.n]; exact h1.len, hb.tot, (fun A hA => by cases hA), cs, el, g1, g2, fun i hi => ?_⟩
   have hi0 : i < cells.length := by rw [h1.len]; exact hi
   obtain ⟨v, q1, q2⟩ := g3 i hi0
   exact ⟨v, q1, h1.sound i hi0 hi q2⟩
  ·exact ⟨h, _, rfl, fun ρ w l hb => by obtain rfl := Option.some.inj hx; exact hb⟩
 | rowed sz n g =>
  rcases o with _ | ⟨cells, ty, _ | ⟨sz', n', a⟩⟩
  ·cases hx
  ·simp only [y1c, Bool.and_eq_true] at h hx
   obtain rfl := Option.some.inj hx
   obtain ⟨h1, h2, h3⟩ := Vf h.1
   exact ⟨h.2, _, rfl, fun ρ w l hb => (BLe.rowed cells ty none sz n g h1 h2 h3).sound hb⟩
  ·simp only [y1c, Bool.and_eq_true] at h hx
   obtain rfl := Option.some.inj hx
   obtain rfl := Vf h.1
   have h1 := Vf h.2.1
   refine ⟨h.2.2, _, rfl, fun ρ w l hb => ?_⟩
   obtain ⟨q1, q2, q3⟩ := hb.arr _ rfl
   exact (BLe.rowed cells ty _ sz' n' g (q1.trans (z6f _ h1)) q2 fun i hi => by rw [← h1 i hi]; exact q3 i hi).sound hb
 | rws a' =>
  rcases o with _ | ⟨cells, ty, _ | ⟨sz', n', a⟩⟩
  ·cases hx
  ·exact ⟨h, _, rfl, fun ρ w l hb => by obtain rfl := Option.some.inj hx; exact hb⟩
  ·simp only [y1c, Bool.and_eq_true] at h hx
   obtain rfl := Option.some.inj hx
   refine ⟨h.2, _, rfl, fun ρ w l hb => ?_⟩
   obtain ⟨q1, _, _⟩ := hb.arr _ rfl
   have q1 : cells = Yg n' a.get := q1
   subst q1
   exact (BLe.rws ty sz' n' a a' (Vf h.1)).sound hb
def x7x : List (Nat × VP) → T AVal → Bool → T AVal × Bool
 | [], env, ob => (env, ob)
 | (t, p) :: l, env, ob => match x7x l env ob with
  | (e, ob) => match y7v p (T.get .undef e t) ob with
   | (v, ob) => (T.set .undef e t v, ob)
def ELe (e e' : T AVal) : Prop := ∀ t, (∀ (ρ : Rho) (v : Value), Yv ρ (T.get .undef e t) v → Yv ρ (T.get .undef e' t) v) ∧ (T.get .undef e t = .undef → T.get .undef e' t = .undef)
theorem ELe.refl (e : T AVal) : ELe e e := fun _ => ⟨fun _ _ h => h, fun h => h⟩
theorem y5k : ∀ {l : List (Nat × VP)} {env : T AVal} {ob : Bool}, (x7x l env ob).2 = true → ELe env (x7x l env ob).1 ∧ ob = true
 | [], _, _, h => ⟨ELe.refl _, h⟩
 | (t, p) :: l, env, ob, h => by
  simp only [x7x] at h ⊢
  obtain ⟨h1, h2⟩ := x5g h
  obtain ⟨h3, h4⟩ := y5k h2
  refine ⟨fun s => ?_, h4⟩
  rw [T.get_set]
  by_cases e : s = t
  ·subst e
   rw [if_pos rfl]
   exact ⟨fun ρ v hv => h1.sound ((h3 s).1 ρ v hv), fun hu => by have e := (h3 s).2 hu; rw [e] at h1 ⊢; exact h1.of_undef⟩
  ·rw [if_neg e]; exact h3 s
def x1v : List BP → Nat → Mem → Bool → Mem × Bool
 | [], _, m, ob => (m, ob)
 | p :: ps, i, m, ob => match x1v ps (i + 1) m ob with
  | (m', ob) => match y1c p (Xx m i) ob with
   | (x, ob) => (Wm m' i x, ob)
theorem w8l {p : BP} {o : Option ABlk} {ob : Bool} (h : (y1c p o ob).2 = true) : ob = true := by
 cases p with
 | keep => exact h
 | drop => exact h
 | cells ps =>
  rcases o with _ | ⟨cells, ty, _ | A⟩
  ·exact h
  ·exact (y1b h).2
  ·exact h
 | rowed sz n g =>
  rcases o with _ | ⟨cells, ty, _ | A⟩
  ·exact h
  ·simp only [y1c, Bool.and_eq_true] at h; exact h.2
  ·simp only [y1c, Bool.and_eq_true] at h; exact h.2.2
 | rws a =>
  rcases o with _ | ⟨cells, ty, _ | A⟩
  ·exact h
  ·exact h
  ·simp only [y1c, Bool.and_eq_true] at h; exact h.2
theorem y3o : ∀ {ps : List BP} {i : Nat} {m : Mem} {ob : Bool}, (x1v ps i m ob).2 = true → ob = true ∧ ∀ b x', Xx (x1v ps i m ob).1 b = some x' → ∃ x, Xx m b = some x ∧ ∀ (ρ : Rho) (w : World) (l : Loc), Qr ρ w x l → Qr ρ w x' l
 | [], _, _, _, h => ⟨h, fun b x' hb => ⟨x', hb, fun _ _ _ q => q⟩⟩
 | p :: ps, i, m, ob, h => by
  simp only [x1v] at h ⊢
  have hob : (x1v ps (i + 1) m ob).2 = true := w8l h
  obtain ⟨h1, h2⟩ := y3o hob
  refine ⟨h1, fun b x' hb => ?_⟩
  rw [Wi] at hb
  by_cases e : b = i
  ·subst e
   rw [if_pos rfl] at hb
   exact (x1w h hb).2
  ·rw [if_neg e] at hb
   exact h2 b x' hb
def x7w : List (List (Nat × VP)) → List AFr → Bool → List AFr × Bool
 | _, [], ob => ([], ob)
 | [], l, ob => (l, ob)
 | p :: ps, ⟨cx, ro, todo, rnd, rs, env⟩ :: l, ob => match x7w ps l ob with
  | (l', ob) => match x7x p env ob with
   | (e, ob) => (⟨cx, ro, todo, rnd, rs, e⟩ :: l', ob)
def FLe (a a' : AFr) : Prop := a.cx = a'.cx ∧ a.ro = a'.ro ∧ a.todo = a'.todo ∧ a.rnd = a'.rnd ∧ a.rs = a'.rs ∧ ELe a.env a'.env
theorem FLe.refl (a : AFr) : FLe a a := ⟨rfl, rfl, rfl, rfl, rfl, ELe.refl _⟩
theorem Wt.refl' : ∀ l : List AFr, Wt FLe l l
 | [] => .nil
 | a :: l => .cons (FLe.refl a) (Wt.refl' l)
theorem x5h : ∀ {ps : List (List (Nat × VP))} {l : List AFr} {ob : Bool}, (x7w ps l ob).2 = true → Wt FLe l (x7w ps l ob).1 ∧ ob = true
 | [], [], _, h => ⟨.nil, h⟩
 | _ :: _, [], _, h => ⟨.nil, h⟩
 | [], a :: l, _, h => ⟨Wt.refl' _, h⟩
 | p :: ps, ⟨cx, ro, todo, rnd, rs, env⟩ :: l, ob, h => by
  simp only [x7w] at h ⊢
  obtain ⟨h1, h2⟩ := y5k h
  obtain ⟨h3, h4⟩ := x5h h2
  exact ⟨.cons ⟨rfl, rfl, rfl, rfl, rfl, h1⟩ h3, h4⟩
structure Less where
 slots : List (Nat × VP) := []
 blks : List BP := []
 cs : List (List (Nat × VP)) := []
def x7z (L : Less) : Cfg → Cfg
 | ⟨cx, ro, todo, rnd, rs, ⟨env, mem, next, orc, ob⟩, cs, lps⟩ => match x7w L.cs cs ob with
  | (cs', ob) => match x1v L.blks 0 mem ob with
   | (mem', ob) => match x7x L.slots env ob with
    | (env', ob) => ⟨cx, ro, todo, rnd, rs, ⟨env', mem', next, orc, ob⟩, cs', lps⟩
def y8i : List (TypeId × Nat × (Nat → List AVal)) → Nat → Mem → Mem
 | [], _, m => m
 | (ty, sz, g) :: l, i, m => Wm (y8i l (i + 1) m) i (some ⟨[], ty, some ⟨sz, 0, .flat g⟩⟩)
def x5n (gs : List (TypeId × Nat × (Nat → List AVal))) : Cfg → Cfg
 | ⟨cx, ro, todo, rnd, rs, ⟨env, mem, next, orc, ob⟩, cs, lps⟩ => ⟨cx, ro, todo, rnd, rs, ⟨env, y8i gs next mem, next + gs.length, orc, ob⟩, cs, lps⟩
theorem z6q : ∀ (gs : List (TypeId × Nat × (Nat → List AVal))) (i : Nat) (m : Mem) (b : Nat), (b < i → Xx (y8i gs i m) b = Xx m b) ∧ (i + gs.length ≤ b → Xx (y8i gs i m) b = Xx m b)
 | [], i, m, b => ⟨fun _ => rfl, fun _ => rfl⟩
 | (ty, sz, g) :: l, i, m, b => by
  obtain ⟨h1, h2⟩ := z6q l (i + 1) m b
  simp only [y8i, Wi, List.length_cons]
  exact ⟨fun h => by rw [if_neg (by omega)]; exact h1 (by omega), fun h => by rw [if_neg (by omega)]; exact h2 (by omega)⟩
theorem x9p.less {P : Program} {ρ : Rho} {cs : List AFr} {css : List Frame} {mss : List Nat} (h : x9p P ρ cs css mss) : ∀ {cs' : List AFr}, Wt FLe cs cs' → x9p P ρ cs' css mss := by
 induction h with
 | nil => intro cs' h; cases h; exact .nil
 | @cons af b a k ms cs css mss hf hl t ih =>
  intro cs' h
  cases h with
  | @cons _ af' _ cs'' h1 h2 =>
   obtain ⟨e1, e2, e3, e4, e5, e6⟩ := h1
   have hne : cs'' ≠ [] → cs ≠ [] := fun hn he => by subst he; cases h2; exact hn rfl
   rw [show Wf af.ro k = Wf af'.ro k by rw [e2]]
   exact .cons ⟨by rw [← e1]; exact ⟨hf.env.size, fun t => (e6 t).1 _ _ (hf.env.get t), fun t ht => (e6 t).2 (hf.env.out t ht)⟩, hf.defers, by rw [← e3]; exact hf.todo, by rw [← e2]; exact hf.ro, by rw [← e4]; exact hf.rnd⟩
    (fun hn => by rw [← e4, ← e5]; exact hl (hne hn)) (ih h2)
theorem z6p {P : Program} {cx : Ctx} {ro : Option RegOps} {todo : List Item} {rnd : Option Nat} {rs : List ResultVar} {env env' : T AVal} {mem mem' : Mem} {k k' : Nat} {o o' : List Bool} {b0 b0' : Bool} {cs cs' : List AFr} {lps : Loops}
  (hE : ELe env env') (hC : Wt FLe cs cs') (hM : ∀ b x', b < k → Xx mem' b = some x' → ∃ x, Xx mem b = some x ∧ ∀ (ρ : Rho) (w : World) (l : Loc), Qr ρ w x l → Qr ρ w x' l) (hk : k ≤ k') (hbd : (∀ b, k ≤ b → Xx mem b = none) → ∀ b, k' ≤ b → Xx mem' b = none) :
  z8g P ⟨cx, ro, todo, rnd, rs, ⟨env, mem, k, o, b0⟩, cs, lps⟩ ⟨cx, ro, todo, rnd, rs, ⟨env', mem', k', o', b0'⟩, cs', lps⟩ :=
 fun H w0 ρ b a t css w ma mb hs he cs0 => by
  have hr := hs.rel
  simp only at hr he
  have hne : cs' ≠ [] → cs ≠ [] := fun hn e => by subst e; cases hC; exact hn rfl
  refine ⟨ρ, b, a, t, css, w, ma, mb, Steps.refl _ _, ⟨⟨?_, hs.top.defers, hs.top.todo, hs.top.ro, hs.top.rnd⟩, fun hn => hs.lv (hne hn), ⟨hs.rest.cs.less hC, hs.rest.nodup, hs.rest.marks, hs.rest.loops, hs.rest.inj⟩, ?_⟩, ?_, rfl⟩
  ·exact ⟨hs.top.env.size, fun t => (hE t).1 _ _ (hs.top.env.get t), fun t ht => (hE t).2 (hs.top.env.out t ht)⟩
  ·have lift : ∀ c l, ρ c = some l → (Xx mem' c).isSome = true → (Xx mem c).isSome = true := fun c l hc h => by
    obtain ⟨x, hx⟩ := Option.isSome_iff_exists.1 h
    obtain ⟨y, hy, _⟩ := hM c x (hr.dom c l hc) hx
    rw [hy]; rfl
   refine ⟨fun c l hc => Nat.lt_of_lt_of_le (hr.dom c l hc) hk, fun c c' l l' hc hc' hl h1 h2 => hr.inj c c' l l' hc hc' hl (lift c l hc h1) (lift c' l' hc' h2), fun c l ab hc h1 => ?_, hr.old, fun c l hc h1 => hr.sep c l hc (lift c l hc h1), hr.real, hbd hr.bd, fun j l hj => Nat.lt_of_lt_of_le (hr.ldom j l hj) hk⟩
   obtain ⟨y, hy, h2⟩ := hM c ab (hr.dom c l hc) h1
   exact h2 _ _ _ (hr.blk c l y hc hy)
  ·exact ⟨he.ext, fun _ hb => absurd hb (Nat.not_lt_zero _), Nat.zero_le _, fun _ hb => absurd hb (Nat.not_lt_zero _), he.frame, he.fresh, he.size, he.os, he.tape, he.output, he.still⟩
theorem x7y {P : Program} {L : Less} {C : Cfg} (ho : (x7z L C).st.ob = true) : C.st.ob = true ∧ z8g P C (x7z L C) := by
 obtain ⟨cx, ro, todo, rnd, rs, ⟨env, mem, next, orc, ob⟩, cs, lps⟩ := C
 simp only [x7z] at ho ⊢
 obtain ⟨h1, h2⟩ := y5k ho
 obtain ⟨h3, h4⟩ := y3o h2
 obtain ⟨h5, h6⟩ := x5h h3
 refine ⟨h6, z6p h1 h5 (fun b x' _ hb => h4 b x' hb) (Nat.le_refl _) fun hbd b hb => ?_⟩
 cases hq : Xx (x1v L.blks 0 mem (x7w L.cs cs ob).2).1 b with
 | none => rfl
 | some x' =>
  obtain ⟨x, hx, _⟩ := h4 b x' hq
  rw [hbd b hb] at hx; cases hx
theorem x2j {P : Program} (gs : List (TypeId × Nat × (Nat → List AVal))) (C : Cfg) : z8g P C (x5n gs C) ∧ (x5n gs C).st.ob = C.st.ob := by
 obtain ⟨cx, ro, todo, rnd, rs, ⟨env, mem, next, orc, ob⟩, cs, lps⟩ := C
 exact ⟨z6p (ELe.refl _) (Wt.refl' _) (fun b x' hb h => ⟨x', by rw [← (z6q gs next mem b).1 hb]; exact h, fun _ _ _ q => q⟩) (Nat.le_add_right _ _) fun hbd b hb => by
  rw [(z6q gs next mem b).2 hb]; exact hbd b (by omega), rfl⟩
theorem x8g {P : Program} {C C' : Cfg} {orc : List Bool} {ob : Bool} (g : z8g P (C.withO orc) (C'.withB ob)) : z8g P C C' := by
 obtain ⟨cx, ro, todo, rnd, rs, ⟨env, mem, next, o, b⟩, cs, lps⟩ := C
 obtain ⟨cx', ro', todo', rnd', rs', ⟨env', mem', next', o', b'⟩, cs', lps'⟩ := C'
 exact fun H w0 ρ b a k css w ma mb hs he cs0 => by
  obtain ⟨ρ', b', a', k', css', w', ma', mb', h1, h2, h3, h4⟩ := g H w0 ρ b a k css w ma mb ⟨hs.top, hs.lv, hs.rest, hs.rel⟩ he cs0
  exact ⟨ρ', b', a', k', css', w', ma', mb', h1, ⟨h2.top, h2.lv, h2.rest, h2.rel⟩, h3, h4⟩
theorem w5r {P : Program} {S : Specs} (hN : z7c P) (hmx : P.follows .mixedOrders = true) (hS : Zk P S) {n m d : Nat} {C C' : Cfg} (gs : List (TypeId × Nat × (Nat → List AVal))) (N : z6b) (L : Less) (orc : List Bool) (ob : Bool)
  (h : (((w8q P S (v4q P S m d) n (C.withO orc)).map (x5n gs)).bind (w7z P N)).map (x7z L) = some (C'.withB ob)) (ho : ob = true) (hfl : fl0 C = true) : z8g P C C' := by
 rw [Option.map_eq_some_iff] at h
 obtain ⟨C2, h1, h2⟩ := h
 rw [Option.bind_eq_some_iff] at h1
 obtain ⟨C1, h3, h4⟩ := h1
 rw [Option.map_eq_some_iff] at h3
 obtain ⟨C0, h5, rfl⟩ := h3
 have hfo : fl0 (C.withO orc) = true := by
  obtain ⟨cx, ro, todo, rnd, rs, ⟨env, mem, next, o, b⟩, cs, lps⟩ := C
  exact hfl
 obtain ⟨hCI, hC⟩ := w0w hN hmx hS m d
 obtain ⟨f1, f2, f3⟩ := y8b hN hmx hS hCI hC n (C.withO orc) C0 (w8z hfo) h5
 have hob : (x7z L C2).st.ob = true := by
  rw [h2]
  obtain ⟨cx, ro, todo, rnd, rs, ⟨env, mem, next, o, b⟩, cs, lps⟩ := C'
  exact ho
 obtain ⟨l1, l2⟩ := x7y (P := P) hob
 obtain ⟨g1, g2, _⟩ := x7t h4 l1
 obtain ⟨q1, q2⟩ := x2j (P := P) gs C0
 rw [q2] at g1
 have := (((f3 g1).goes.trans q1).trans g2).trans l2
 rw [h2] at this
 exact x8g this
theorem y4s (n : Nat) (g : Nat → List AVal) : Jv n g g = true := pd_true fun _ _ => rfl
theorem w0r (a g : Nat → List AVal) : Jv 0 a g = true := pd_true fun _ h => absurd h (Nat.not_lt_zero _)
theorem w9s {a b : Nat} (h : ¬ a ≤ b) : Nat.ble a b = false := Bool.eq_false_iff.2 fun e => h (Nat.le_of_ble_eq_true e)
theorem w4p {a b : Nat} (h : a ≤ b) : Nat.ble a b = true := Nat.ble_eq_true_of_le h
theorem w0u {n N sz : Nat} {G H H' : Nat → List AVal} {cells : List AVal} (m : Nat) (h : Jv n G H = true) (hN : N = n + m) (h0 : ∀ i, i < n → H' i = H i) (h1 : ∀ i, i < m → (cells.drop (i * sz)).take sz = H' (n + i)) : Jv N (Zd G 0 n sz cells) H' = true := pd_true fun i hi => by
 unfold Zd
 by_cases e : n ≤ i
 ·rw [w4p e, cond_true, h1 (i - n) (by omega), show n + (i - n) = i by omega]
 ·rw [w9s e, cond_false, Nat.zero_add, Vf h i (by omega), h0 i (by omega)]
theorem z6t {α : Type} {sz : Nat} : ∀ (l : List (List α)) (i : Nat), (∀ x ∈ l, x.length = sz) → i < l.length → (l.flatten.drop (i * sz)).take sz = l.getD i []
 | [], i, _, h => absurd h (Nat.not_lt_zero _)
 | x :: l, 0, hl, _ => by
  have := hl x (by simp)
  simp [List.take_append_of_le_length, this]
 | x :: l, i + 1, hl, h => by
  have hx := hl x (by simp)
  rw [List.flatten_cons, List.getD_cons_succ, ← z6t l i (fun y hy => hl y (by simp [hy])) (by simpa using h)]
  rw [List.drop_append, hx, show (i + 1) * sz - sz = i * sz by rw [Nat.add_mul, Nat.one_mul]; omega, List.drop_eq_nil_of_le (by rw [hx, Nat.add_mul, Nat.one_mul]; omega), List.nil_append]
theorem w0t {m N : Nat} {G H H' : Nat → List AVal} (h' : Jv m H H' = true) (hN : N = 0 + m) : Jv N (Jq G 0 H) H' = true := pd_true fun i hi => Vf h' i (by omega)
theorem x0f {n : Nat} {G H : Nat → List AVal} (h : Jv n G H = true) : Jv n (fun k => G (0 + k)) H = true := pd_true fun i hi => by
 show G (0 + i) = _
 rw [Nat.zero_add]; exact Vf h i hi
theorem w6s {cells : List AVal} {sz n : Nat} {g : Nat → List AVal} (h : cells = Yg n g) (h1 : Nat.ble 1 sz = true) (h2 : ∀ i, (g i).length = sz) : w1d cells sz n g = true := pd_true ⟨h, Nat.le_of_ble_eq_true h1, fun i _ => h2 i⟩
end Go.Am
namespace Go.Am
def z7l : List (Nat × ABlk) → Mem
 | [] => .leaf
 | (i, b) :: l => Wm (z7l l) i (some b)
def z7m : List (Nat × ALoop) → Loops
 | [] => .leaf
 | (i, b) :: l => x9m (z7m l) i (some b)
class Xw (α : Type) where
 w : Nat
 d : α
 cells : α → List AVal
 of : List AVal → α
 len : ∀ a, (cells a).length = w
 pos : 1 ≤ w
 flat : ∀ a, (cells a).all (pf 6) = true
 sc : ∀ a, (cells a).all z7p = true
 back : ∀ a, of (cells a) = a
def iOf : AVal → Int
 | .int _ n => n
 | _ => 0
def oOf : AVal → Bool
 | .bool b => b
 | _ => false
instance : Xw Int where
 w := 1
 d := 0
 cells x := [.int .i64 x]
 of l := iOf (l.getD 0 .undef)
 len _ := rfl
 pos := Nat.le_refl 1
 flat _ := rfl
 sc _ := rfl
 back _ := rfl
instance : Xw Bool where
 w := 1
 d := false
 cells x := [.bool x]
 of l := oOf (l.getD 0 .undef)
 len _ := rfl
 pos := Nat.le_refl 1
 flat _ := rfl
 sc _ := rfl
 back _ := rfl
structure R2 where
 (a b : Int)
 deriving DecidableEq
structure R3 where
 (a b c : Int)
 deriving DecidableEq
structure R4 where
 (a b c d : Int)
 deriving DecidableEq
structure R6 where
 (a b c d e f : Int)
 deriving DecidableEq
instance : Xw R2 where
 w := 2
 d := ⟨0, 0⟩
 cells x := [.int .i64 x.a, .int .i64 x.b]
 of l := ⟨iOf (l.getD 0 .undef), iOf (l.getD 1 .undef)⟩
 len _ := rfl
 pos := by decide
 flat _ := rfl
 sc _ := rfl
 back _ := rfl
instance : Xw R3 where
 w := 3
 d := ⟨0, 0, 0⟩
 cells x := [.int .i64 x.a, .int .i64 x.b, .int .i64 x.c]
 of l := ⟨iOf (l.getD 0 .undef), iOf (l.getD 1 .undef), iOf (l.getD 2 .undef)⟩
 len _ := rfl
 pos := by decide
 flat _ := rfl
 sc _ := rfl
 back _ := rfl
instance : Xw R4 where
 w := 4
 d := ⟨0, 0, 0, 0⟩
 cells x := [.int .i64 x.a, .int .i64 x.b, .int .i64 x.c, .int .i64 x.d]
 of l := ⟨iOf (l.getD 0 .undef), iOf (l.getD 1 .undef), iOf (l.getD 2 .undef), iOf (l.getD 3 .undef)⟩
 len _ := rfl
 pos := by decide
 flat _ := rfl
 sc _ := rfl
 back _ := rfl
instance : Xw R6 where
 w := 6
 d := ⟨0, 0, 0, 0, 0, 0⟩
 cells x := [.int .i64 x.a, .int .i64 x.b, .int .i64 x.c, .int .i64 x.d, .int .i64 x.e, .int .i64 x.f]
 of l := ⟨iOf (l.getD 0 .undef), iOf (l.getD 1 .undef), iOf (l.getD 2 .undef), iOf (l.getD 3 .undef), iOf (l.getD 4 .undef), iOf (l.getD 5 .undef)⟩
 len _ := rfl
 pos := by decide
 flat _ := rfl
 sc _ := rfl
 back _ := rfl
theorem w4t {p : AVal → Bool} {l : List AVal} (h : l.all p = true) (n : Nat) : (l.take n).all p = true := List.all_eq_true.2 fun x hx => List.all_eq_true.1 h x (List.mem_of_mem_take hx)
theorem w4u {p : AVal → Bool} {l : List AVal} (h : l.all p = true) (n : Nat) : (l.drop n).all p = true := List.all_eq_true.2 fun x hx => List.all_eq_true.1 h x (List.mem_of_mem_drop hx)
section
variable {α : Type} [Xw α]
def rd (L : List α) (k : Nat) : α := L.getD k Xw.d
def Zz (L : List α) : Nat → List AVal := fun k => Xw.cells (rd L k)
def lst (α : Type) [Xw α] (n : Nat) (g : Nat → List AVal) : List α := (List.range n).map fun k => Xw.of (g k)
def isT (α : Type) [Xw α] (n : Nat) (g : Nat → List AVal) : Bool := pd (∀ i, i < n → g i = Xw.cells (Xw.of (g i) : α))
theorem Xj {L : List α} {k : Nat} (h : k < L.length) : rd L k = L[k] := by unfold rd; rw [List.getD_eq_getElem?_getD, List.getElem?_eq_getElem h]; rfl
theorem Vt {L M : List α} {k : Nat} (h : k < L.length) : rd (L ++ M) k = rd L k := by
 unfold rd; rw [List.getD_eq_getElem?_getD, List.getD_eq_getElem?_getD, List.getElem?_append_left h]
theorem Ve {L M : List α} {k : Nat} (h : L.length ≤ k) : rd (L ++ M) k = rd M (k - L.length) := by
 unfold rd; rw [List.getD_eq_getElem?_getD, List.getD_eq_getElem?_getD, List.getElem?_append_right h]
theorem Zq (L : List α) : lst α L.length (Zz L) = L := by
 apply List.ext_getElem
 ·simp [lst]
 ·intro i h1 h2
  simp only [lst, List.getElem_map, List.getElem_range, Zz]
  rw [Xw.back, Xj h2]
def cvT (L : List α) : List α := lst α L.length (Zz L)
theorem Zg (L : List α) : cvT L = L := Zq L
theorem z6j (n : Nat) (g : Nat → List AVal) : (lst α n g).length = n := by simp [lst]
theorem lst_part (L : List α) {off n : Nat} (h : off + n ≤ L.length) : lst α n (fun k => Zz L (off + k)) = (L.drop off).take n := by
 apply List.ext_getElem
 ·simp [lst]; omega
 ·intro i h1 h2
  simp only [lst, List.getElem_map, List.getElem_range, Zz]
  have : off + i < L.length := by simp at h2; omega
  rw [Xw.back, Xj this, List.getElem_take, List.getElem_drop]
theorem z9m (L : List α) (n : Nat) : isT α n (Zz L) = true := pd_true fun i _ => by simp only [Zz]; rw [Xw.back]
theorem y8c (L : List α) (off n : Nat) : isT α n (fun k => Zz L (off + k)) = true := pd_true fun i _ => by simp only [Zz]; rw [Xw.back]
theorem x5j (g : Nat → List AVal) : isT α 0 g = true := pd_true fun i h => absurd h (Nat.not_lt_zero _)
theorem x5k {n : Nat} {g : Nat → List AVal} (h : isT α n g = true) : ∀ i, i < n → g i = Zz (lst α n g) i := fun i hi => by
 rw [Vf h i hi]
 unfold Zz
 rw [Xj (by rw [z6j]; exact hi)]
 simp [lst]
theorem Xk (L : List α) : Qq (Zz L) = true := pd_true fun _ => Xw.flat _
theorem x8r {sz : Nat} (L : List α) (n : Nat) (h : sz = Xw.w α) : y8m sz n (Zz L) = true := pd_true fun _ _ => ⟨by rw [h]; exact Xw.len _, Xw.sc _⟩
theorem x8s {sz : Nat} (L : List α) (off n : Nat) (h : sz = Xw.w α) : y8m sz n (fun k => Zz L (off + k)) = true := pd_true fun _ _ => ⟨by rw [h]; exact Xw.len _, Xw.sc _⟩
theorem x2t {sz N off m : Nat} {G : Nat → List AVal} (h : y8m sz N G = true) (hb : decide (off + m ≤ N) = true) : y8m sz m (fun k => G (off + k)) = true := pd_true fun i hi => by
 have hb := of_decide_eq_true hb
 exact Vf h (off + i) (by omega)
theorem w4c {sz n N m : Nat} {G : Nat → List AVal} {cells : List AVal} (h : y8m sz n G = true) (hN : N = n + m) (hc : cells.length = m * sz) (hs : cells.all z7p = true) : y8m sz N (Zd G 0 n sz cells) = true := pd_true fun i hi => by
 unfold Zd
 by_cases e : n ≤ i
 ·rw [w4p e, cond_true]
  have : (i - n) * sz + sz ≤ m * sz := by
   have := Nat.mul_le_mul_right sz (show i - n + 1 ≤ m by omega)
   rwa [Nat.add_mul, Nat.one_mul] at this
  exact ⟨by rw [List.length_take, List.length_drop, hc]; omega, w4t (w4u hs _) _⟩
 ·rw [w9s e, cond_false, Nat.zero_add]
  exact Vf h i (by omega)
theorem x4i {L M : List α} {n N sz : Nat} {G : Nat → List AVal} {cells : List AVal} (h : Jv n G (Zz L) = true) (hn : n = L.length) (hN : N = n + M.length) (hsz : sz = Xw.w α) (hc : cells = (M.map Xw.cells).flatten) : Jv N (Zd G 0 n sz cells) (Zz (L ++ M)) = true := by
 subst hn
 refine w0u M.length h hN (fun i hi => ?_) fun i hi => ?_
 ·simp only [Zz]; rw [Vt hi]
 ·subst hc
  rw [z6t _ _ (fun x hx => by obtain ⟨y, _, rfl⟩ := List.mem_map.1 hx; rw [Xw.len, hsz]) (by simpa using hi)]
  simp only [Zz]
  rw [Ve (Nat.le_add_right _ _), Nat.add_sub_cancel_left, Xj hi]
  rw [List.getD_eq_getElem?_getD, List.getElem?_map, List.getElem?_eq_getElem hi]; rfl
theorem v1u {L : List α} {r k : Nat} {y : α} (hk : k < L.length) : rd (L.set r y) k = if k = r then y else rd L k := by
 rw [Xj (by simpa using hk), Xj hk, List.getElem_set]
 by_cases e : r = k
 ·subst e; simp
 ·rw [if_neg e, if_neg fun q => e q.symm]
theorem x4h {L : List α} {n r fo : Nat} {G : Nat → List AVal} {cs : List AVal} {y : α} (h : Jv n G (Zz L) = true) (hn : n = L.length) (hy : Xw.cells y = (Xw.cells (rd L r)).take fo ++ cs ++ (Xw.cells (rd L r)).drop (fo + cs.length)) : Jv n (Xb G r fo cs) (Zz (L.set r y)) = true := by
 subst hn
 refine pd_true fun i hi => ?_
 unfold Xb
 simp only [Zz]
 rw [v1u hi]
 cases e : Nat.beq i r with
 | true =>
  have := Nat.eq_of_beq_eq_true e
  subst this
  rw [cond_true, if_pos rfl, Vf h i hi, hy]; rfl
 | false =>
  have : i ≠ r := fun q => by rw [q, Nat.beq_refl] at e; cases e
  rw [cond_false, if_neg this, Vf h i hi]; rfl
theorem w6k {n : Nat} {cs : List AVal} {y : α} {G : Nat → List AVal} (hG : G = fun _ => cs) (hy : Xw.cells y = cs) : Jv n G (Zz (List.replicate n y)) = true := pd_true fun i hi => by
 rw [hG]
 simp only [Zz]
 rw [Xj (by simpa using hi), List.getElem_replicate, hy]
theorem w0s {L M : List α} {n m N : Nat} {G H : Nat → List AVal} (h : Jv n G (Zz L) = true) (hn : n = L.length) (h' : Jv m H (Zz M) = true) (hN : N = n + m) : Jv N (Jq G n H) (Zz (L ++ M)) = true := by
 subst hn
 refine pd_true fun i hi => ?_
 unfold Jq
 by_cases e : L.length ≤ i
 ·rw [w4p e, cond_true, Vf h' _ (by omega)]; simp only [Zz]; rw [Ve e]
 ·rw [w9s e, cond_false, Vf h i (by omega)]; simp only [Zz]; rw [Vt (by omega)]
def lenR (n : Nat) (g : Nat → List AVal) (sz : Nat) : Bool := pd (∀ i, i < n → (g i).length = sz)
theorem w2w {sz : Nat} (L : List α) (n : Nat) (h : sz = Xw.w α) : lenR n (Zz L) sz = true := pd_true fun _ _ => by rw [h]; exact Xw.len _
theorem x8a {sz n : Nat} {L : List α} {off : Nat} (h : sz = Xw.w α) : lenR n (fun k => Zz L (off + k)) sz = true := pd_true fun _ _ => by rw [h]; exact Xw.len _
def Xe (L : List α) (off n : Nat) : List α := (List.range n).map fun k => rd L (off + k)
theorem Uf (L : List α) (off n : Nat) : (Xe L off n).length = n := by simp [Xe]
theorem y5b {L : List α} {off n k : Nat} (h : k < n) : rd (Xe L off n) k = rd L (off + k) := by
 rw [Xj (by rw [Uf]; exact h)]; simp [Xe]
theorem w7t {L : List α} {off n : Nat} (h : off + n ≤ L.length) : Xe L off n = (L.drop off).take n := by
 apply List.ext_getElem
 ·simp [Xe]; omega
 ·intro i h1 h2
  have : off + i < L.length := by simp at h2; omega
  simp only [Xe, List.getElem_map, List.getElem_range]
  rw [Xj this, List.getElem_take, List.getElem_drop]
theorem x6w {L : List α} {N off n : Nat} {G : Nat → List AVal} (h : Jv N G (Zz L) = true) (hb : decide (off + n ≤ N) = true) : Jv n (fun k => G (off + k)) (Zz (Xe L off n)) = true := pd_true fun i hi => by
 have hb := of_decide_eq_true hb
 simp only [Zz]
 rw [y5b hi, Vf h _ (by omega)]; rfl
theorem x6v {L : List α} {off n : Nat} : Jv n (fun k => Zz L (off + k)) (Zz (Xe L off n)) = true := pd_true fun i hi => by
 simp only [Zz]
 rw [y5b hi]
theorem Va (L : List α) : lst α L.length (fun k => Zz L (0 + k)) = L := by
 have := Zq L
 simpa only [Nat.zero_add] using this
theorem w8r (L : List Int) : isI (Zz L) = true := pd_true rfl
theorem Qz (L : List Int) : Zt L.length (cOf (Zz L)) = L := Zq L
def y2p (L : List α) (off n : Nat) (M : List α) : List α := (List.range L.length).map fun k => bif Nat.ble off k && Nat.ble (k + 1) (off + n) then rd M (k - off) else rd L k
theorem Uv (L : List α) (off n : Nat) (M : List α) : (y2p L off n M).length = L.length := by simp [y2p]
theorem w1r {L M : List α} {off n k : Nat} (h : k < L.length) : rd (y2p L off n M) k = bif Nat.ble off k && Nat.ble (k + 1) (off + n) then rd M (k - off) else rd L k := by
 rw [Xj (by rw [Uv]; exact h)]; simp [y2p]
theorem w6l {L M : List α} {N off n m : Nat} {G H : Nat → List AVal} (h : Jv N G (Zz L) = true) (hN : N = L.length) (h' : Jv m H (Zz M) = true) (hm : n ≤ m) : Jv N (Vi G off n H) (Zz (y2p L off n M)) = true := by
 subst hN
 refine pd_true fun i hi => ?_
 unfold Vi
 simp only [Zz]
 rw [w1r hi]
 cases e : (Nat.ble off i && Nat.ble (i + 1) (off + n)) with
 | true =>
  simp only [Bool.and_eq_true] at e
  have e1 := Nat.le_of_ble_eq_true e.1
  have e2 := Nat.le_of_ble_eq_true e.2
  rw [cond_true, cond_true, Vf h' _ (by omega)]; rfl
 | false => rw [cond_false, cond_false, Vf h i hi]; rfl
theorem w3j {g h : Nat → List AVal} {off n : Nat} (p : Qq g = true) (q : Qq h = true) : Qq (Vi g off n h) = true := pd_true fun i => by
 unfold Vi
 cases (Nat.ble off i && Nat.ble (i + 1) (off + n)) with
 | true => exact Vf q _
 | false => exact Vf p _
end
theorem Wn {P : Program} {rs : List ResultVar} {σ : Type} {cfg : σ → Cfg} {C C' : Cfg} (g : z8g P C C') : ∀ {o : Xo σ}, Xn P rs cfg C' o → Xn P rs cfg C o
 | .stuck, _ => trivial
 | .ret _, ⟨D, h, h2, h3⟩ => ⟨D, g.trans h, h2, h3⟩
 | .to _, h => g.trans h
theorem x5t : ∀ {az bs : List AVal} (i : Nat) {t u : T AVal}, Wt VLe az bs → ELe t u → ELe (z6s az i t) (z6s bs i u)
 | _, _, i, t, u, .nil, h => h
 | _, _, i, t, u, .cons (a := a) (b := b) h1 h2, h => by
  refine x5t (i + 1) h2 fun s => ?_
  rw [T.get_set, T.get_set]
  by_cases e : s = i
  ·rw [if_pos e, if_pos e]; exact ⟨fun ρ v hv => h1.sound hv, fun q => by subst q; exact h1.of_undef⟩
  ·rw [if_neg e, if_neg e]; exact h s
theorem y8l {P : Program} {f : FuncId} {az bs : List AVal} {vs : List AVal} (h : Wt VLe az bs) (k : Je P (Zy P f) (Zf P f bs true []) vs) : Je P (Zy P f) (Zf P f az true []) vs := by
 obtain ⟨C', g, h2, h3⟩ := k
 refine ⟨C', z8g.trans ?_ g, h2, h3⟩
 unfold Zf
 cases P.funcs[f]? with
 | none => exact z8g.refl _
 | some fn =>
  simp only
  rw [h.length]
  exact z6p (x5t 0 h (ELe.refl _)) .nil (fun b x' hb => absurd hb (Nat.not_lt_zero _)) (Nat.le_refl _) fun hbd b hb => hbd b hb
theorem x6a {P : Program} {S : Specs} (hS : Zk P S) {f : FuncId} {F : List AVal → Option (AVal × Bool)} (hf : (P.funcs[f]?).any (fun fn => fn.body.isSome) = true)
  (hF : ∀ args v, F args = some (v, true) → ∃ bs vs, Wt VLe args bs ∧ Ks vs = v ∧ Je P (Zy P f) (Zf P f bs true []) vs ∧ ∃ d, pf d v = true) : Zk P (S.with f F) :=
 x9r hS hf fun args v h => by
  obtain ⟨bs, vs, h1, h2, h3, d, h4⟩ := hF args v h
  exact ⟨vs, h2, y8l h1 h3, d, h4⟩
def asL (α : Type) [Xw α] : AVal → Option (List α × (Nat → List AVal) × Nat)
 | .nils => some ([], fun _ => [], 0)
 | .dat n g => some (lst α n g, g, n)
 | _ => none
theorem asL_le {α : Type} [Xw α] {v : AVal} {L : List α} {g : Nat → List AVal} {n : Nat} (h : asL α v = some (L, g, n)) (ho : isT α n g = true) : VLe v (.dat L.length (Zz L)) := by
 unfold asL at h
 split at h
 ·simp only [Option.some.injEq, Prod.mk.injEq] at h
  obtain ⟨rfl, _, _⟩ := h
  exact .nild _
 ·simp only [Option.some.injEq, Prod.mk.injEq] at h
  obtain ⟨rfl, rfl, rfl⟩ := h
  rw [z6j]
  exact .dat _ _ _ (x5k ho)
 ·cases h
end Go.Am
namespace Go.Am
open Go.ChangeShapes Go.WideShapes Go.Deep
section
variable {P : Program}
def y5m (P : Program) (rec : TypeId → Option (List IntKind)) : List Field → Nat → Option (List IntKind)
 | [], _ => some []
 | f :: r, o => bif Nat.beq f.offset o then match rec f.type with
   | some ks => bif Nat.beq (P.cellsOf f.type) ks.length then (y5m P rec r (o + ks.length)).map (ks ++ ·) else none
   | none => none
  else none
def y7x (P : Program) : Nat → TypeId → Option (List IntKind)
 | 0, _ => none
 | d + 1, t => match P.underlying t with
  | some (.int k) => some [k]
  | some (.struct fs) => match y5m P (y7x P d) fs.toList 0 with
   | some ks => bif Nat.beq (P.cellsOf t) ks.length then some ks else none
   | none => none
  | _ => none
def w9y (ks : List IntKind) (cs : List Value) : Prop := ∃ ns : List Int, ns.length = ks.length ∧ cs = List.zipWith Value.int ks ns ∧ ∀ p ∈ List.zip ks ns, p.1.has p.2
theorem w9y.append {a b : List IntKind} {x y : List Value} (h : w9y a x) (k : w9y b y) : w9y (a ++ b) (x ++ y) := by
 obtain ⟨ns, h1, rfl, h3⟩ := h
 obtain ⟨ms, k1, rfl, k3⟩ := k
 refine ⟨ns ++ ms, by simp [h1, k1], ?_, fun p hp => ?_⟩
 ·rw [List.zipWith_append h1.symm]
 ·rw [List.zip_append h1.symm, List.mem_append] at hp
  rcases hp with hp | hp
  ·exact h3 p hp
  ·exact k3 p hp
theorem w9y.length {ks : List IntKind} {cs : List Value} (h : w9y ks cs) : cs.length = ks.length := by
 obtain ⟨ns, h1, rfl, _⟩ := h
 simp [h1]
variable {HH : Type} {enc : TypeId × Value → HH} {w : World} {base : Nat} {spare : Nat → Bool} {held : Bool}
theorem z7o {rec : TypeId → Option (List IntKind)} (hr : ∀ t ks, rec t = some ks → ∀ fuel cs x, DataW.trod enc P w base spare held fuel t cs = some x → w9y ks cs) (cs : List Value) :
  ∀ (l : List Field) (o : Nat) (ks : List IntKind), y5m P rec l o = some ks → o + ks.length ≤ cs.length → (∀ f ∈ l, ∃ fuel x, DataW.trod enc P w base spare held fuel f.type ((cs.drop f.offset).take (P.cellsOf f.type)) = some x) → w9y ks ((cs.drop o).take ks.length)
 | [], o, ks, h, _, _ => by
  obtain rfl := Option.some.inj h
  exact ⟨[], rfl, by simp, by simp⟩
 | f :: r, o, ks, h, hl, hf => by
  unfold y5m at h
  obtain ⟨ho, h⟩ := Yz h
  obtain rfl := Nat.eq_of_beq_eq_true ho
  split at h
  ·rename_i ks1 h1
   obtain ⟨hc, h⟩ := Yz h
   have hc := Nat.eq_of_beq_eq_true hc
   simp only [Option.map_eq_some_iff] at h
   obtain ⟨ks2, h2, rfl⟩ := h
   obtain ⟨fuel, x, hx⟩ := hf f (by simp)
   have i1 := hr _ _ h1 _ _ _ hx
   rw [hc] at i1
   rw [List.length_append] at hl
   have i2 := z7o hr cs r _ ks2 h2 (by omega) fun g hg => hf g (by simp [hg])
   have : (cs.drop f.offset).take (ks1 ++ ks2).length = (cs.drop f.offset).take ks1.length ++ (cs.drop (f.offset + ks1.length)).take ks2.length := by
    rw [List.length_append, List.take_add, List.drop_drop]
   rw [this]
   exact i1.append i2
  ·cases h
theorem y1e : ∀ (d : Nat) (t : TypeId) (ks : List IntKind), y7x P d t = some ks → ∀ (fuel : Nat) (cs : List Value) (x : DataW HH × List MemPlace), DataW.trod enc P w base spare held fuel t cs = some x → w9y ks cs
 | 0, _, _, h => by cases h
 | d + 1, t, ks, h => by
  intro fuel cs x hx
  unfold y7x at h
  split at h
  ·rename_i k hk
   obtain rfl := Option.some.inj h
   obtain ⟨m, rfl, _, hw⟩ := DataW.trod_int hk hx
   refine ⟨[m], rfl, rfl, fun p hp => ?_⟩
   obtain rfl : p = (k, m) := by simpa using hp
   simpa [Lit.wf, IntKind.has] using hw
  ·rename_i fs hs
   split at h
   ·rename_i ks1 h1
    obtain ⟨hc, h⟩ := Yz h
    obtain rfl := Option.some.inj h
    have hc := Nat.eq_of_beq_eq_true hc
    obtain ⟨xs, n, _, _, hl, hlen, hf⟩ := DataW.trod_struct hs hx
    have hl : cs.length = ks1.length := hl.trans hc
    have := z7o (fun t ks ht fuel cs x hx => y1e d t ks ht fuel cs x hx) cs fs.toList 0 ks1 h1 (by omega) fun f hf' => by
     obtain ⟨j, hj, rfl⟩ := List.getElem_of_mem hf'
     have hj2 : j < fs.size := by simpa using hj
     have := hf j fs[j] (by simp [hj2])
     refine ⟨n, xs[j]'(by omega), ?_⟩
     simpa [hlen, hj2] using this
    rwa [List.drop_zero, List.take_of_length_le (by omega)] at this
   ·cases h
  ·cases h
def rowOf (ks : List IntKind) (c : Nat → Int) : List AVal := List.zipWith AVal.int ks ((List.range ks.length).map c)
theorem w1e (ks : List IntKind) (c : Nat → Int) (j : Nat) (h : j < (rowOf ks c).length) : ∃ hk : j < ks.length, (rowOf ks c)[j] = .int ks[j] (c j) := by
 have hk : j < ks.length := by simpa [rowOf] using h
 exact ⟨hk, by simp [rowOf]⟩
theorem w9m {e : TypeId} {ks : List IntKind} (hk : y7x P 30 e = some ks) {blk off len cap m fl : Nat} {D : Nat → DataW HH} {Pl : Nat → List MemPlace} (hl : len ≤ cap) (hlm : len ≤ m)
  (hi : ∀ i, i < m → ∃ cs', w.cells? base ((⟨blk, off, none⟩ : Addr).add (i * P.cellsOf e)) (P.cellsOf e) = some cs' ∧ DataW.trod enc P w base spare held fl e cs' = some (D i, Pl i)) :
  ∃ c : Nat → Nat → Int, Yv (z1z fun k => w.heap[k]?) (.dat len (fun i => rowOf ks (c i))) (.slice (some ⟨blk, off, none⟩) len cap) ∧ ∀ i, i < len → ∀ (j : Nat) (k : IntKind), ks[j]? = some k → k.has (c i j) := by
 have key : ∀ i, i < len → ∃ ns : List Int, ns.length = ks.length ∧ (∀ j, j < ks.length → ∃ k, ks[j]? = some k ∧ w.cell? ⟨blk, off + (i * ks.length + j), none⟩ = some (.int k (ns.getD j 0)) ∧ k.has (ns.getD j 0)) := by
  intro i hil
  obtain ⟨cs', hc', ht'⟩ := hi i (by omega)
  have I := y1e 30 e ks hk _ _ _ ht'
  obtain ⟨_, hlen, hcell⟩ := World.cells?_some hc'
  have hce : P.cellsOf e = ks.length := by rw [← hlen]; exact I.length
  obtain ⟨ns, n1, n2, n3⟩ := I
  refine ⟨ns, n1, fun j hj => ?_⟩
  have hj2 : j < ns.length := by omega
  refine ⟨ks[j], by simp [hj], ?_, ?_⟩
  ·have := hcell j (by omega)
   rw [hce] at this
   simp only [Xm] at this
   rw [show off + i * ks.length + j = off + (i * ks.length + j) by omega] at this
   rw [this, n2]
   simp [List.getElem?_zipWith, hj, hj2]
  ·have : (ks[j], ns[j]) ∈ List.zip ks ns := by
    rw [List.mem_iff_getElem]
    exact ⟨j, by rw [List.length_zip]; omega, by simp⟩
   have := n3 _ this
   simpa [hj2] using this
 let c : Nat → Nat → Int := fun i j => if hil : i < len then ((key i hil).choose).getD j 0 else 0
 have hcs : ∀ i, i < len → ∀ j, j < ks.length → ∃ k, ks[j]? = some k ∧ w.cell? ⟨blk, off + (i * ks.length + j), none⟩ = some (.int k (c i j)) ∧ k.has (c i j) := by
  intro i hil j hj
  have := (key i hil).choose_spec.2 j hj
  simp only [c, hil, dif_pos]
  exact this
 refine ⟨c, .dat len _ blk off ks.length cap (fun i j => .int (ks.getD j .i64) (c i j)) hl (fun i _ => by simp [rowOf]) (fun i j hil hj => ?_) (fun i j hil hj => ?_), fun i hil j k hkj => ?_⟩
 ·obtain ⟨hk2, e2⟩ := w1e ks (c i) j hj
  rw [e2]
  have : ks.getD j .i64 = ks[j] := by simp [hk2]
  rw [this]
  exact .int _ _
 ·obtain ⟨k, e1, e2, _⟩ := hcs i hil j hj
  have : ks.getD j .i64 = k := by simp [e1]
  rw [this]
  unfold World.cell? at e2
  split at e2
  ·rename_i cl el fz hb2
   simp only [Option.isSome_none, Bool.false_eq_true, if_false] at e2
   exact ⟨cl, el, fz, hb2, e2⟩
  ·cases e2
 ·have hj : j < ks.length := (List.getElem?_eq_some_iff.1 hkj).1
  obtain ⟨k', e1, _, e3⟩ := hcs i hil j hj
  rw [hkj] at e1
  obtain rfl := Option.some.inj e1
  exact e3
theorem open_dat {t e : TypeId} {ks : List IntKind} {v : Value} {d : DataW HH} {p : List MemPlace} (ht : P.underlying t = some (.slice e)) (hk : y7x P 30 e = some ks) {b0 : Nat} (hv : Value.okWide P w .any b0 t v) (h : DataW.Trod enc P w base spare held t v d p) :
  ∃ (n : Nat) (c : Nat → Nat → Int), Yv (z1z fun k => w.heap[k]?) (.dat n (fun i => rowOf ks (c i))) v ∧ (∀ i, i < n → ∀ (j : Nat) (k : IntKind), ks[j]? = some k → k.has (c i j)) ∧ n ≤ maxLen := by
 obtain ⟨fuel, h⟩ := h
 have hvc : v.cells.toList = [v] := by
  unfold Value.okWide at hv
  rw [ht] at hv
  unfold Cell.okWide at hv
  rw [ht] at hv
  cases v <;> first | rfl | (simp [Cell.ok, ht] at hv)
 rcases open_slice ht h with ⟨h0, _⟩ | ⟨a, len, cap, m, fl, D, Pl, hcs, hb, hl, hcap, hm, _, hi⟩
 ·rw [hvc] at h0
  obtain rfl : v = .slice none 0 0 := by simpa using h0
  exact ⟨0, fun _ _ => 0, .datn _, fun i hi => absurd hi (Nat.not_lt_zero _), Nat.zero_le _⟩
 ·rw [hvc] at hcs
  obtain rfl : v = .slice (some a) len cap := by simpa using hcs
  have hspot : a.spot = none := by
   unfold Value.okWide at hv
   rw [ht] at hv
   unfold Cell.okWide at hv
   rw [ht] at hv
   simp only [Cell.ok, ht] at hv
   exact hv.2.2.2.1
  obtain ⟨blk, off, spot⟩ := a
  simp only at hspot
  subst hspot
  have hlm : len ≤ m := by rw [hm]; split <;> omega
  obtain ⟨c, h1, h2⟩ := w9m hk hl hlm hi
  exact ⟨len, c, h1, h2, by omega⟩
end
end Go.Am
namespace Go.Am
open Go.Proofs
def namedB (P : Program) : Bool := P.funcs.toList.all fun fn => fn.body.isNone || !(fn.name == "runtime.NumGoroutine")
theorem w8f {P : Program} (h : namedB P = true) : z7c P := by
 intro f fn hf hb
 have hm : fn ∈ P.funcs.toList := by
  rw [Array.mem_toList_iff]
  exact Array.mem_of_getElem? hf
 have := List.all_eq_true.mp h fn hm
 cases hbb : fn.body with
 | none => rw [hbb] at hb; cases hb
 | some b => simpa [hbb] using this
theorem named : z7c Tryz.prog := w8f (by kernel_rfl)
theorem mixed : Tryz.prog.follows .mixedOrders = true := by kernel_rfl
end Go.Am
section

end
namespace Go.Am
open Go.Proofs
instance {α : Type} [Xw α] : Xw (List α) where
 w := 1
 d := []
 cells l := [.dat l.length (Zz l)]
 of cs := match cs.getD 0 .undef with
  | .dat n g => lst α n g
  | _ => []
 len _ := rfl
 pos := Nat.le_refl 1
 flat _ := rfl
 sc _ := rfl
 back l := Zq l
theorem x0g {α : Type} [Xw α] {L : List α} {n off sz : Nat} {cells : List AVal} (hn : n = L.length) (hsz : sz = Xw.w α) (hc : (cells.drop off).take (n * sz) = (L.map Xw.cells).flatten) : Jv n (Xs cells off sz) (Zz L) = true := pd_true fun i hi => by
 have e : ((((cells.drop off).take (n * sz)).drop (i * sz)).take sz) = (cells.drop (off + i * sz)).take sz := by
  rw [List.drop_take, List.take_take, List.drop_drop, Nat.min_eq_left]
  have := Nat.mul_le_mul_right sz (show i + 1 ≤ n by omega)
  rw [Nat.add_mul, Nat.one_mul] at this
  omega
 have h := z6t (sz := sz) (L.map Xw.cells) i (fun x hx => by obtain ⟨y, _, rfl⟩ := List.mem_map.1 hx; rw [Xw.len, hsz]) (by simpa using by omega)
 unfold Xs
 rw [← e, hc, h]
 simp only [Zz]
 rw [Xj (show i < L.length by omega), List.getD_eq_getElem?_getD, List.getElem?_map, List.getElem?_eq_getElem (show i < L.length by omega)]; rfl
structure OB where
 b : Bool
 h : b = true
def nn : OB := ⟨true, rfl⟩
def pp (q r : OB) : OB := ⟨q.b && r.b, z7k q.h r.h⟩
def tt {c v : Bool} (k : c = v) (r : OB) : OB := ⟨(c == v) && r.b, z7k (w2f k) r.h⟩
def ww {c : Bool} (k : c = true) (r : OB) : OB := ⟨c && r.b, z7k k r.h⟩
def fl {α : Type} [Xw α] (L : List α) (r : OB) : OB := ⟨Qq (Zz L) && r.b, z7k (Xk L) r.h⟩
theorem bne_f {a b : Int} (k : (a == b) = false) : ((a != b) == true) = true := by unfold bne; rw [k]; rfl
def yt {c : Bool} (k : c = true) (r : OB) : OB := ⟨c && r.b, z7k k r.h⟩
def xw {c : Bool} (k : c = true) : OB := ⟨c, k⟩
def xI (α : Type) [Xw α] (n : Nat) (g : Nat → List AVal) (h : isT α n g = true := by first | with_reducible exact z9m _ _ | exact z9m _ _ | exact x5j _ | exact y8c _ _ _ | assumption) : OB := ⟨isT α n g, h⟩
def xr {α : Type} [Xw α] (L : List α) : OB := ⟨isT α L.length (Zz L), z9m L _⟩
def xL (a b : Nat) (h : y5l a b = true := by first | exact Ux rfl | exact Ux (by simp only [List.length_append, List.length_cons, List.length_nil, List.length_set, Uv, Uf, List.length_replicate] <;> omega) | assumption) : OB := ⟨y5l a b, h⟩
def xS (n : Nat) (G H : Nat → List AVal) (h : Jv n G H = true := by
  repeat' (first | exact y4s _ _ | assumption | exact w0r _ _ | exact x6v | exact x0g rfl rfl rfl | rfl | (refine x4i ?_ ?_ rfl rfl rfl) | (refine x4h ?_ ?_ rfl) | (refine w6l ?_ ?_ ?_ (Nat.min_le_left _ _)) | exact x6w (by repeat' (first | exact y4s _ _ | (refine x4i ?_ ?_ rfl rfl rfl) | (refine x4h ?_ ?_ rfl) | (simp only [List.length_append, List.length_cons, List.length_nil, List.length_set, Uv]; done) | omega)) (by assumption) | (refine w0s ?_ ?_ ?_ rfl) | exact w0t (y4s _ _) rfl | apply x0f | exact w6k rfl rfl | (simp only [List.length_append, List.length_cons, List.length_nil, List.length_set, Uv, Uf, List.length_replicate] <;> omega))) : OB := ⟨Jv n G H, h⟩
def xF (G : Nat → List AVal) (h : Qq G = true := by
  repeat' (first | with_reducible exact Xk _ | apply w3l | apply w3i | apply w3k | apply w3j | exact Xk _ | exact x8j | exact x2n _ _ | apply y1m | rfl | assumption)) : OB := ⟨Qq G, h⟩
def xZ (v : AVal) (n : Nat) (g : Nat → List AVal) (h : w3g v n g = true := by first | exact w8w _ _ _ | exact w3f _ _) : OB := ⟨w3g v n g, h⟩
def xG (c : Bool) (h : c = true := by
  repeat' (first | with_reducible (first | assumption | exact y7r _ | exact w8e _ | exact w2i _ | exact w9i _ | exact w2l _ | apply z7k | apply w2f) | rfl | exact w8r _ | exact x8r _ _ rfl | exact x8s _ _ _ rfl | exact w2w _ _ rfl | exact x8a rfl | exact w6s rfl rfl (fun _ => rfl) | (refine x2t ?_ (by assumption)) | (refine w4c ?_ rfl rfl rfl) | exact z9m _ _ | exact x5j _ | exact y8c _ _ _ | exact Xk _ | apply y1m | apply z7k | apply w2f)) : OB := ⟨c, h⟩
def gg (c : Bool) (k : c = true) (r : OB) : OB := ⟨c && r.b, z7k k r.h⟩
def kpB (n : Nat) (l : List BP) : List BP := Nat.rec l (fun _ r => .keep :: r) n
abbrev tn (n : Int) : Nat := Int.toNat n
abbrev ii (n : Int) : AVal := .int .i64 n
abbrev wr (n : Int) : Int := IntKind.wrap .i64 n
def trs (n : Nat) (l : List Bool) : List Bool := Nat.rec l (fun _ r => true :: r) n
theorem sl {S : Specs} (hS : Zk Tryz.prog S) (n : Nat) (gs : List (TypeId × Nat × (Nat → List AVal))) (N : z6b) (L : Less) (orc : List Bool) (ob : OB) {C C' : Cfg}
  (h : (((w8q Tryz.prog S (v4q Tryz.prog S 100000 4) n (C.withO orc)).map (x5n gs)).bind (w7z Tryz.prog N)).map (x7z L) = some (C'.withB ob.b) := by kernel_rfl) (hfl : fl0 C = true := by rfl) : z8g Tryz.prog C C' :=
 w5r named mixed hS gs N L orc ob.b h ob.h hfl
def rC (n f : Nat) (p : List Nat) (j r : Nat) (env : List (Nat × AVal)) : Cfg := ⟨⟨n, 0, true⟩, none, Za Tryz.prog f p j, none, Zy Tryz.prog r, ⟨Ym env, Jw [] 0, 0, [], true⟩, [], .leaf⟩
theorem lr {σ : Type} {cfg : σ → Cfg} {C : Cfg} {rs : List ResultVar} {vs : List AVal} (n f : Nat) (p : List Nat) (j r : Nat) (env : List (Nat × AVal)) (h : z8g Tryz.prog C (rC n f p j r env)) (hf : z3o (rC n f p j r env) = true := by rfl)
  (hr : Jy Tryz.prog (rC n f p j r env).st rs = some vs := by kernel_rfl) : Xn Tryz.prog rs cfg C (.ret vs) := w8m _ h hf hr
theorem lb {rs : List ResultVar} {σ : Type} {cfg : σ → Cfg} {C : Cfg} {c : Bool} {a b : Xo σ} (ha : c = true → Xn Tryz.prog rs cfg C a) (hb : c = false → Xn Tryz.prog rs cfg C b) : Xn Tryz.prog rs cfg C (bif c then a else b) := x5i ha hb
theorem lo {rs : List ResultVar} {σ : Type} {cfg : σ → Cfg} {C : Cfg} {c : Bool} {a : Xo σ} (ha : c = true → Xn Tryz.prog rs cfg C a) : Xn Tryz.prog rs cfg C (bif c then a else .stuck) := w8n ha
end Go.Am
namespace Go.Am
open Go.Proofs
inductive rsortS where
 | h0 (v3 : List Int) (v4 : Int)
 | h1 (v3 : List Int) (v4 : Int) (v5 : Int)
def w1a (l0 : List Int) : rsortS → Cfg
 | .h0 v3 v4 => ⟨⟨63, 0, true⟩, none, (Za Tryz.prog 70 [1, 1, 0, 1, 0, 0] 0), none, (Zy Tryz.prog 3), ⟨Ym [(0, (.dat l0.length (Zz l0))), (3, (.sla 0 1 0 v3.length (.un 1))), (4, (ii v4))], Jw [⟨Yg v3.length (Zz v3), 3, some ⟨1, v3.length, (Zz v3)⟩⟩] 0, 1, [], true⟩, [], .leaf⟩
 | .h1 v3 v4 v5 => ⟨⟨63, 0, true⟩, none, (Za Tryz.prog 70 [1, 1, 0, 1, 0, 0, 1, 0, 0, 1, 0, 0, 0] 0), none, (Zy Tryz.prog 3), ⟨Ym [(0, (.dat l0.length (Zz l0))), (3, (.sla 0 1 0 v3.length (.un 1))), (4, (ii v4)), (5, (ii v5))], Jw [⟨Yg v3.length (Zz v3), 3, some ⟨1, v3.length, (Zz v3)⟩⟩] 0, 1, [], true⟩, [], .leaf⟩
def y4v : List (Option (List Nat)) := [some [0, 3, 4]]
def y4w : List (Option (List Nat)) := []
def w0y : List (Option (List Nat)) := [some [0, 3, 4, 5]]
def w0z : List (Option (List Nat)) := []
def Vq (l0 : List Int) : rsortS → Xo rsortS
 | .h0 v3 v4 => (bif (decide (v4 < (l0.length : Int))) then (.to (.h1 v3 v4 (v3.length : Int))) else (.ret [(.dat v3.length (Zz v3))]))
 | .h1 v3 v4 v5 => (bif (decide (v5 > 0)) then (bif ((decide (0 ≤ (IntKind.wrap .i64 (v5 - 1)) ∧ (IntKind.wrap .i64 (v5 - 1)) < (v3.length : Int))) && true) then (bif (decide ((0 + (Int.toNat (IntKind.wrap .i64 (v5 - 1)))) < v3.length)) then (bif ((decide (0 ≤ v4 ∧ v4 < (l0.length : Int))) && true) then (bif (decide ((rd v3 (0 + (Int.toNat (IntKind.wrap .i64 (v5 - 1))))) > (rd l0 v4.toNat))) then (.to (.h1 v3 v4 (IntKind.wrap .i64 (v5 - 1)))) else (bif ((rd v3 (0 + (Int.toNat (IntKind.wrap .i64 (v5 - 1))))) == (rd l0 v4.toNat)) then (.to (.h0 v3 (IntKind.wrap .i64 (v4 + 1)))) else (bif (Nat.beq 1 1 && ((decide (0 + v3.length = v3.length)) && decide ((v3.length + 1 + 1) * (8 + 1) ≤ Ur))) then (bif (true && ((decide (0 ≤ (IntKind.wrap .i64 (v5 + 1)))) && (decide ((v3.length + 1) ≤ (v3.length + 1)) && decide ((Int.toNat (IntKind.wrap .i64 (v5 + 1))) ≤ (v3.length + 1))))) then (bif (true && ((decide (0 ≤ v5)) && (decide ((v3.length + 1) ≤ (v3.length + 1)) && decide (v5.toNat ≤ (v3.length + 1))))) then (bif (decide ((0 + v5.toNat) + ((v3.length + 1) - v5.toNat) ≤ (v3.length + 1))) then (bif (decide ((0 + (Int.toNat (IntKind.wrap .i64 (v5 + 1)))) + ((v3.length + 1) - (Int.toNat (IntKind.wrap .i64 (v5 + 1)))) ≤ (v3.length + 1))) then (bif ((decide (0 ≤ v5 ∧ v5 < (((v3.length + 1) : Nat) : Int))) && true) then (bif (decide ((0 + v5.toNat) < (v3.length + 1))) then (.to (.h0 ((y2p (v3 ++ [0]) (0 + (Int.toNat (IntKind.wrap .i64 (v5 + 1)))) (Nat.min ((v3.length + 1) - v5.toNat) ((v3.length + 1) - (Int.toNat (IntKind.wrap .i64 (v5 + 1))))) (Xe (v3 ++ [0]) (0 + v5.toNat) ((v3.length + 1) - v5.toNat))).set (0 + v5.toNat) (rd l0 v4.toNat)) (IntKind.wrap .i64 (v4 + 1)))) else .stuck) else .stuck) else .stuck) else .stuck) else .stuck) else .stuck) else .stuck))) else .stuck) else .stuck) else .stuck) else (bif (Nat.beq 1 1 && ((decide (0 + v3.length = v3.length)) && decide ((v3.length + 1 + 1) * (8 + 1) ≤ Ur))) then (bif (true && ((decide (0 ≤ (IntKind.wrap .i64 (v5 + 1)))) && (decide ((v3.length + 1) ≤ (v3.length + 1)) && decide ((Int.toNat (IntKind.wrap .i64 (v5 + 1))) ≤ (v3.length + 1))))) then (bif (true && ((decide (0 ≤ v5)) && (decide ((v3.length + 1) ≤ (v3.length + 1)) && decide (v5.toNat ≤ (v3.length + 1))))) then (bif (decide ((0 + v5.toNat) + ((v3.length + 1) - v5.toNat) ≤ (v3.length + 1))) then (bif (decide ((0 + (Int.toNat (IntKind.wrap .i64 (v5 + 1)))) + ((v3.length + 1) - (Int.toNat (IntKind.wrap .i64 (v5 + 1)))) ≤ (v3.length + 1))) then (bif ((decide (0 ≤ v4 ∧ v4 < (l0.length : Int))) && true) then (bif ((decide (0 ≤ v5 ∧ v5 < (((v3.length + 1) : Nat) : Int))) && true) then (bif (decide ((0 + v5.toNat) < (v3.length + 1))) then (.to (.h0 ((y2p (v3 ++ [0]) (0 + (Int.toNat (IntKind.wrap .i64 (v5 + 1)))) (Nat.min ((v3.length + 1) - v5.toNat) ((v3.length + 1) - (Int.toNat (IntKind.wrap .i64 (v5 + 1))))) (Xe (v3 ++ [0]) (0 + v5.toNat) ((v3.length + 1) - v5.toNat))).set (0 + v5.toNat) (rd l0 v4.toNat)) (IntKind.wrap .i64 (v4 + 1)))) else .stuck) else .stuck) else .stuck) else .stuck) else .stuck) else .stuck) else .stuck) else .stuck))
def z2s (l0 : List Int) : Xo rsortS := (.to (.h0 ([] : List Int) 0))
theorem y6x (l0 : List Int) : ∀ s, Xn Tryz.prog (Zy Tryz.prog 70) (w1a l0) (w1a l0 s) (Vq l0 s)
 | .h0 v3 v4 => (lb (fun k0 => (sl Zm 21 [] ⟨[0], [], w0y, w0z⟩ ⟨[], [], []⟩ [true] (pp (fl v3 nn) (tt k0 nn)))) (fun k0 => (lr 63 3 [1, 1, 1, 1, 1, 1, 1, 0] 1 3 [(2, (.dat v3.length (Zz v3)))] (sl Zm 15 [] ⟨[], [0], [some [2]], []⟩ ⟨[(2, .frz v3.length v3.length (Zz v3) (Zz v3))], [], []⟩ [false] (pp (xZ (z4k 1 1 0 v3.length v3.length (Zz v3)) v3.length (Zz v3)) (pp (xL v3.length v3.length) (pp (xS v3.length (Zz v3) (Zz v3)) (pp (fl v3 nn) (tt k0 nn)))))))))
 | .h1 v3 v4 v5 => (lb (fun k0 => (lo fun o1_0 => (lo fun o1_1 => (lo fun o1_2 => (lb (fun k1 => (sl Zm 13 [] ⟨[0], [], w0y, w0z⟩ ⟨[], [], []⟩ (trs 11 []) (pp (fl v3 nn) (tt k1 (ww o1_2 (ww o1_1 (ww o1_0 (tt k0 nn)))))))) (fun k1 => (lb (fun k2 => (sl Zm 16 [] ⟨[0], [], y4v, y4w⟩ ⟨[], [], []⟩ (trs 10 [false, true, true, true, true, true, true, true, true, true, true, true]) (pp (fl v3 nn) (tt k2 (ww o1_2 (ww o1_1 (ww o1_0 (tt k0 (tt k1 (ww o1_2 (ww o1_1 (ww o1_0 (tt k0 nn))))))))))))) (fun k2 => (lo fun o0 => (lo fun o1 => (lo fun o2 => (lo fun o3 => (lo fun o4 => (lo fun o5 => (lo fun o6 => (sl Zm 36 [] ⟨[2], [], y4v, y4w⟩ ⟨[(3, .len ((y2p (v3 ++ [0]) (0 + (tn (wr (v5 + 1)))) (Nat.min ((v3.length + 1) - (tn v5)) ((v3.length + 1) - (tn (wr (v5 + 1))))) (Xe (v3 ++ [0]) (0 + (tn v5)) ((v3.length + 1) - (tn v5)))).set (0 + (tn v5)) (rd l0 (tn v4))).length)], [.rowed 1 ((y2p (v3 ++ [0]) (0 + (tn (wr (v5 + 1)))) (Nat.min ((v3.length + 1) - (tn v5)) ((v3.length + 1) - (tn (wr (v5 + 1))))) (Xe (v3 ++ [0]) (0 + (tn v5)) ((v3.length + 1) - (tn v5)))).set (0 + (tn v5)) (rd l0 (tn v4))).length (Zz ((y2p (v3 ++ [0]) (0 + (tn (wr (v5 + 1)))) (Nat.min ((v3.length + 1) - (tn v5)) ((v3.length + 1) - (tn (wr (v5 + 1))))) (Xe (v3 ++ [0]) (0 + (tn v5)) ((v3.length + 1) - (tn v5)))).set (0 + (tn v5)) (rd l0 (tn v4))))], []⟩ (trs 10 [false, true, true, true, true, true, true, true, true, true, true, false]) (pp (xL (v3.length + 1) ((y2p (v3 ++ [0]) (0 + (tn (wr (v5 + 1)))) (Nat.min ((v3.length + 1) - (tn v5)) ((v3.length + 1) - (tn (wr (v5 + 1))))) (Xe (v3 ++ [0]) (0 + (tn v5)) ((v3.length + 1) - (tn v5)))).set (0 + (tn v5)) (rd l0 (tn v4))).length) (pp (xL (v3.length + 1) ((y2p (v3 ++ [0]) (0 + (tn (wr (v5 + 1)))) (Nat.min ((v3.length + 1) - (tn v5)) ((v3.length + 1) - (tn (wr (v5 + 1))))) (Xe (v3 ++ [0]) (0 + (tn v5)) ((v3.length + 1) - (tn v5)))).set (0 + (tn v5)) (rd l0 (tn v4))).length) (pp (xS (v3.length + 1) (Xb (Vi (Zd (Zz v3) 0 v3.length 1 [(ii 0)]) (0 + (tn (wr (v5 + 1)))) (Nat.min ((v3.length + 1) - (tn v5)) ((v3.length + 1) - (tn (wr (v5 + 1))))) (fun k => (Zd (Zz v3) 0 v3.length 1 [(ii 0)]) ((0 + (tn v5)) + k))) (0 + (tn v5)) 0 [(ii (rd l0 (tn v4)))]) (Zz ((y2p (v3 ++ [0]) (0 + (tn (wr (v5 + 1)))) (Nat.min ((v3.length + 1) - (tn v5)) ((v3.length + 1) - (tn (wr (v5 + 1))))) (Xe (v3 ++ [0]) (0 + (tn v5)) ((v3.length + 1) - (tn v5)))).set (0 + (tn v5)) (rd l0 (tn v4))))) (pp (pp (xF (Xb (Vi (Zd (Zz v3) 0 v3.length 1 [(ii 0)]) (0 + (tn (wr (v5 + 1)))) (Nat.min ((v3.length + 1) - (tn v5)) ((v3.length + 1) - (tn (wr (v5 + 1))))) (fun k => (Zd (Zz v3) 0 v3.length 1 [(ii 0)]) ((0 + (tn v5)) + k))) (0 + (tn v5)) 0 [(ii (rd l0 (tn v4)))])) nn) (ww o6 (ww o5 (ww o1_2 (pp (pp (xG (Nat.beq 1 1)) (pp (xG (Nat.beq 1 1)) (pp (xw o4) (pp (xG (Nat.beq 1 1)) (pp (xG (Nat.beq 1 1)) (pp (xG (decide ((0 + (tn v5)) + ((v3.length + 1) - (tn v5)) ≤ (v3.length + 1)))) (xG (y8m 1 ((v3.length + 1) - (tn v5)) (fun k => (Zd (Zz v3) 0 v3.length 1 [(ii 0)]) ((0 + (tn v5)) + k)))))))))) (ww o2 (ww o1 (ww o0 (tt k2 (ww o1_2 (ww o1_1 (ww o1_0 (tt k0 (tt k1 (ww o1_2 (ww o1_1 (ww o1_0 (tt k0 nn))))))))))))))))))))))))))))))))))))) (fun k0 => (lo fun o0 => (lo fun o1 => (lo fun o2 => (lo fun o3 => (lo fun o4 => (lo fun o5 => (lo fun o6 => (lo fun o7 => (sl Zm 36 [] ⟨[2], [], y4v, y4w⟩ ⟨[(3, .len ((y2p (v3 ++ [0]) (0 + (tn (wr (v5 + 1)))) (Nat.min ((v3.length + 1) - (tn v5)) ((v3.length + 1) - (tn (wr (v5 + 1))))) (Xe (v3 ++ [0]) (0 + (tn v5)) ((v3.length + 1) - (tn v5)))).set (0 + (tn v5)) (rd l0 (tn v4))).length)], [.rowed 1 ((y2p (v3 ++ [0]) (0 + (tn (wr (v5 + 1)))) (Nat.min ((v3.length + 1) - (tn v5)) ((v3.length + 1) - (tn (wr (v5 + 1))))) (Xe (v3 ++ [0]) (0 + (tn v5)) ((v3.length + 1) - (tn v5)))).set (0 + (tn v5)) (rd l0 (tn v4))).length (Zz ((y2p (v3 ++ [0]) (0 + (tn (wr (v5 + 1)))) (Nat.min ((v3.length + 1) - (tn v5)) ((v3.length + 1) - (tn (wr (v5 + 1))))) (Xe (v3 ++ [0]) (0 + (tn v5)) ((v3.length + 1) - (tn v5)))).set (0 + (tn v5)) (rd l0 (tn v4))))], []⟩ [false, false, false, false, false, false, false, false, false, false, false, false, false, false, false, false, false, false, false, false, false, false] (pp (xL (v3.length + 1) ((y2p (v3 ++ [0]) (0 + (tn (wr (v5 + 1)))) (Nat.min ((v3.length + 1) - (tn v5)) ((v3.length + 1) - (tn (wr (v5 + 1))))) (Xe (v3 ++ [0]) (0 + (tn v5)) ((v3.length + 1) - (tn v5)))).set (0 + (tn v5)) (rd l0 (tn v4))).length) (pp (xL (v3.length + 1) ((y2p (v3 ++ [0]) (0 + (tn (wr (v5 + 1)))) (Nat.min ((v3.length + 1) - (tn v5)) ((v3.length + 1) - (tn (wr (v5 + 1))))) (Xe (v3 ++ [0]) (0 + (tn v5)) ((v3.length + 1) - (tn v5)))).set (0 + (tn v5)) (rd l0 (tn v4))).length) (pp (xS (v3.length + 1) (Xb (Vi (Zd (Zz v3) 0 v3.length 1 [(ii 0)]) (0 + (tn (wr (v5 + 1)))) (Nat.min ((v3.length + 1) - (tn v5)) ((v3.length + 1) - (tn (wr (v5 + 1))))) (fun k => (Zd (Zz v3) 0 v3.length 1 [(ii 0)]) ((0 + (tn v5)) + k))) (0 + (tn v5)) 0 [(ii (rd l0 (tn v4)))]) (Zz ((y2p (v3 ++ [0]) (0 + (tn (wr (v5 + 1)))) (Nat.min ((v3.length + 1) - (tn v5)) ((v3.length + 1) - (tn (wr (v5 + 1))))) (Xe (v3 ++ [0]) (0 + (tn v5)) ((v3.length + 1) - (tn v5)))).set (0 + (tn v5)) (rd l0 (tn v4))))) (pp (pp (xF (Xb (Vi (Zd (Zz v3) 0 v3.length 1 [(ii 0)]) (0 + (tn (wr (v5 + 1)))) (Nat.min ((v3.length + 1) - (tn v5)) ((v3.length + 1) - (tn (wr (v5 + 1))))) (fun k => (Zd (Zz v3) 0 v3.length 1 [(ii 0)]) ((0 + (tn v5)) + k))) (0 + (tn v5)) 0 [(ii (rd l0 (tn v4)))])) nn) (ww o7 (ww o6 (ww o5 (pp (pp (xG (Nat.beq 1 1)) (pp (xG (Nat.beq 1 1)) (pp (xw o4) (pp (xG (Nat.beq 1 1)) (pp (xG (Nat.beq 1 1)) (pp (xG (decide ((0 + (tn v5)) + ((v3.length + 1) - (tn v5)) ≤ (v3.length + 1)))) (xG (y8m 1 ((v3.length + 1) - (tn v5)) (fun k => (Zd (Zz v3) 0 v3.length 1 [(ii 0)]) ((0 + (tn v5)) + k)))))))))) (ww o2 (ww o1 (ww o0 (tt k0 (tt k0 nn))))))))))))))))))))))))
theorem y4u (l0 : List Int) : Xn Tryz.prog (Zy Tryz.prog 70) (w1a l0) (Zf Tryz.prog 70 [(.dat l0.length (Zz l0))] true []) (z2s l0) := (sl Zm 15 [(3, 1, Zz ([] : List Int))] ⟨[0], [], y4v, y4w⟩ ⟨[(3, .grow 0 1)], [], []⟩ [] (pp (fl ([] : List Int) nn) nn))
theorem x7a (l0 : List Int) (n : Nat) (vs : List AVal) (h : Ya (Vq l0) n (z2s l0) = .ret vs) : Je Tryz.prog (Zy Tryz.prog 70) (Zf Tryz.prog 70 [(.dat l0.length (Zz l0))] true []) vs := by
 have := Zn (y6x l0) n _ (y4u l0)
 rwa [h] at this
inductive rcanS where
 | h0 (v5 : List R2) (v6 : Int)
def v5o (l0 : List Int) (l1 : List Bool) : rcanS → Cfg
 | .h0 v5 v6 => ⟨⟨61, 0, true⟩, none, (Za Tryz.prog 142 [1, 1, 0, 1, 0, 0] 0), none, (Zy Tryz.prog 5), ⟨Ym [(0, (.dat l0.length (Zz l0))), (1, (.dat l1.length (Zz l1))), (5, (.sla 0 2 0 v5.length (.un 2))), (6, (ii v6))], Jw [⟨Yg v5.length (Zz v5), 183, some ⟨2, v5.length, (Zz v5)⟩⟩] 0, 1, [], true⟩, [], .leaf⟩
def y7j : List (Option (List Nat)) := [some [0, 1, 5, 6]]
def y7k : List (Option (List Nat)) := []
def Kq (l0 : List Int) (l1 : List Bool) : rcanS → Xo rcanS
 | .h0 v5 v6 => (bif (decide ((IntKind.wrap .i64 (v6 + 1)) < (l0.length : Int))) then (bif ((decide (0 ≤ v6 ∧ v6 < (l1.length : Int))) && true) then (bif (!(rd l1 v6.toNat)) then (.to (.h0 v5 (IntKind.wrap .i64 (v6 + 1)))) else (bif (decide ((v5.length : Int) > 0)) then (bif ((decide (0 ≤ (IntKind.wrap .i64 ((v5.length : Int) - 1)) ∧ (IntKind.wrap .i64 ((v5.length : Int) - 1)) < (v5.length : Int))) && true) then (bif (decide ((0 + (Int.toNat (IntKind.wrap .i64 ((v5.length : Int) - 1)))) < v5.length)) then (bif ((decide (0 ≤ v6 ∧ v6 < (l0.length : Int))) && true) then (bif ((rd v5 (0 + (Int.toNat (IntKind.wrap .i64 ((v5.length : Int) - 1))))).b == (rd l0 v6.toNat)) then (bif ((decide (0 ≤ (IntKind.wrap .i64 (v6 + 1)) ∧ (IntKind.wrap .i64 (v6 + 1)) < (l0.length : Int))) && true) then (.to (.h0 (v5.set (0 + (Int.toNat (IntKind.wrap .i64 ((v5.length : Int) - 1)))) (R2.mk (rd v5 (0 + (Int.toNat (IntKind.wrap .i64 ((v5.length : Int) - 1))))).a (rd l0 (Int.toNat (IntKind.wrap .i64 (v6 + 1)))))) (IntKind.wrap .i64 (v6 + 1)))) else .stuck) else (bif ((decide (0 ≤ (IntKind.wrap .i64 (v6 + 1)) ∧ (IntKind.wrap .i64 (v6 + 1)) < (l0.length : Int))) && true) then (bif (Nat.beq 2 2 && ((decide (0 + v5.length = v5.length)) && decide ((v5.length + 1 + 1) * (16 + 1) ≤ Ur))) then (.to (.h0 (v5 ++ [(R2.mk (rd l0 v6.toNat) (rd l0 (Int.toNat (IntKind.wrap .i64 (v6 + 1)))))]) (IntKind.wrap .i64 (v6 + 1)))) else .stuck) else .stuck)) else .stuck) else .stuck) else .stuck) else (bif ((decide (0 ≤ v6 ∧ v6 < (l0.length : Int))) && true) then (bif ((decide (0 ≤ (IntKind.wrap .i64 (v6 + 1)) ∧ (IntKind.wrap .i64 (v6 + 1)) < (l0.length : Int))) && true) then (bif (Nat.beq 2 2 && ((decide (0 + v5.length = v5.length)) && decide ((v5.length + 1 + 1) * (16 + 1) ≤ Ur))) then (.to (.h0 (v5 ++ [(R2.mk (rd l0 v6.toNat) (rd l0 (Int.toNat (IntKind.wrap .i64 (v6 + 1)))))]) (IntKind.wrap .i64 (v6 + 1)))) else .stuck) else .stuck) else .stuck))) else .stuck) else (.ret [(.dat v5.length (Zz v5))]))
def z5b (l0 : List Int) (l1 : List Bool) : Xo rcanS := (.to (.h0 ([] : List R2) 0))
theorem x1a (l0 : List Int) (l1 : List Bool) : ∀ s, Xn Tryz.prog (Zy Tryz.prog 142) (v5o l0 l1) (v5o l0 l1 s) (Kq l0 l1 s)
 | .h0 v5 v6 => (lb (fun k0 => (lo fun o1_0 => (lb (fun k1 => (sl Zm 30 [] ⟨[0], [], y7j, y7k⟩ ⟨[], [], []⟩ [true, true] (pp (fl v5 nn) (tt k1 (ww o1_0 (tt k0 nn)))))) (fun k1 => (lb (fun k2 => (lo fun o3_0 => (lo fun o3_1 => (lo fun o3_2 => (lb (fun k3 => (lo fun o0 => (sl Zm 53 [] ⟨[0], [], y7j, y7k⟩ ⟨[(5, .len (v5.set (0 + (tn (wr ((v5.length : Int) - 1)))) (R2.mk (rd v5 (0 + (tn (wr ((v5.length : Int) - 1))))).a (rd l0 (tn (wr (v6 + 1)))))).length)], [.rowed 2 (v5.set (0 + (tn (wr ((v5.length : Int) - 1)))) (R2.mk (rd v5 (0 + (tn (wr ((v5.length : Int) - 1))))).a (rd l0 (tn (wr (v6 + 1)))))).length (Zz (v5.set (0 + (tn (wr ((v5.length : Int) - 1)))) (R2.mk (rd v5 (0 + (tn (wr ((v5.length : Int) - 1))))).a (rd l0 (tn (wr (v6 + 1)))))))], []⟩ [true, false, true, true, true, true, true, true, true, true, true, true, true, true] (pp (xL v5.length (v5.set (0 + (tn (wr ((v5.length : Int) - 1)))) (R2.mk (rd v5 (0 + (tn (wr ((v5.length : Int) - 1))))).a (rd l0 (tn (wr (v6 + 1)))))).length) (pp (xL v5.length (v5.set (0 + (tn (wr ((v5.length : Int) - 1)))) (R2.mk (rd v5 (0 + (tn (wr ((v5.length : Int) - 1))))).a (rd l0 (tn (wr (v6 + 1)))))).length) (pp (xS v5.length (Xb (Zz v5) (0 + (tn (wr ((v5.length : Int) - 1)))) 1 [(ii (rd l0 (tn (wr (v6 + 1)))))]) (Zz (v5.set (0 + (tn (wr ((v5.length : Int) - 1)))) (R2.mk (rd v5 (0 + (tn (wr ((v5.length : Int) - 1))))).a (rd l0 (tn (wr (v6 + 1)))))))) (pp (pp (xF (Xb (Zz v5) (0 + (tn (wr ((v5.length : Int) - 1)))) 1 [(ii (rd l0 (tn (wr (v6 + 1)))))])) nn) (ww o3_1 (ww o3_0 (ww o0 (tt k3 (ww o3_2 (ww o3_1 (ww o3_0 (tt k2 (tt k1 (ww o1_0 (tt k0 nn)))))))))))))))))) (fun k3 => (lo fun o0 => (lo fun o1 => (sl Zm 41 [] ⟨[2], [], y7j, y7k⟩ ⟨[(5, .len (v5 ++ [(R2.mk (rd l0 (tn v6)) (rd l0 (tn (wr (v6 + 1)))))]).length)], [.rowed 2 (v5 ++ [(R2.mk (rd l0 (tn v6)) (rd l0 (tn (wr (v6 + 1)))))]).length (Zz (v5 ++ [(R2.mk (rd l0 (tn v6)) (rd l0 (tn (wr (v6 + 1)))))]))], []⟩ [true, false, true, true, true, true, true, true, true, true, true, true, true, false] (pp (xL (v5.length + 1) (v5 ++ [(R2.mk (rd l0 (tn v6)) (rd l0 (tn (wr (v6 + 1)))))]).length) (pp (xL (v5.length + 1) (v5 ++ [(R2.mk (rd l0 (tn v6)) (rd l0 (tn (wr (v6 + 1)))))]).length) (pp (xS (v5.length + 1) (Zd (Zz v5) 0 v5.length 2 [(ii (rd l0 (tn v6))), (ii (rd l0 (tn (wr (v6 + 1)))))]) (Zz (v5 ++ [(R2.mk (rd l0 (tn v6)) (rd l0 (tn (wr (v6 + 1)))))]))) (pp (pp (xF (Zd (Zz v5) 0 v5.length 2 [(ii (rd l0 (tn v6))), (ii (rd l0 (tn (wr (v6 + 1)))))])) nn) (ww o1 (ww o0 (ww o3_2 (tt k3 (ww o3_2 (ww o3_1 (ww o3_0 (tt k2 (tt k1 (ww o1_0 (tt k0 nn)))))))))))))))))))))))) (fun k2 => (lo fun o0 => (lo fun o1 => (lo fun o2 => (sl Zm 41 [] ⟨[2], [], y7j, y7k⟩ ⟨[(5, .len (v5 ++ [(R2.mk (rd l0 (tn v6)) (rd l0 (tn (wr (v6 + 1)))))]).length)], [.rowed 2 (v5 ++ [(R2.mk (rd l0 (tn v6)) (rd l0 (tn (wr (v6 + 1)))))]).length (Zz (v5 ++ [(R2.mk (rd l0 (tn v6)) (rd l0 (tn (wr (v6 + 1)))))]))], []⟩ [true, false, false, false, false, false, false, false, false, false, false, false, false, false] (pp (xL (v5.length + 1) (v5 ++ [(R2.mk (rd l0 (tn v6)) (rd l0 (tn (wr (v6 + 1)))))]).length) (pp (xL (v5.length + 1) (v5 ++ [(R2.mk (rd l0 (tn v6)) (rd l0 (tn (wr (v6 + 1)))))]).length) (pp (xS (v5.length + 1) (Zd (Zz v5) 0 v5.length 2 [(ii (rd l0 (tn v6))), (ii (rd l0 (tn (wr (v6 + 1)))))]) (Zz (v5 ++ [(R2.mk (rd l0 (tn v6)) (rd l0 (tn (wr (v6 + 1)))))]))) (pp (pp (xF (Zd (Zz v5) 0 v5.length 2 [(ii (rd l0 (tn v6))), (ii (rd l0 (tn (wr (v6 + 1)))))])) nn) (ww o2 (ww o1 (ww o0 (tt k2 (tt k1 (ww o1_0 (tt k0 nn))))))))))))))))))))) (fun k0 => (lr 61 3 [1, 1, 1, 1, 1, 1, 1, 0] 1 5 [(4, (.dat v5.length (Zz v5)))] (sl Zm 16 [] ⟨[], [0], [some [4]], []⟩ ⟨[(4, .frz v5.length v5.length (Zz v5) (Zz v5))], [], []⟩ [false] (pp (xZ (z4k 2 2 0 v5.length v5.length (Zz v5)) v5.length (Zz v5)) (pp (xL v5.length v5.length) (pp (xS v5.length (Zz v5) (Zz v5)) (pp (fl v5 nn) (tt k0 nn)))))))))
theorem y7i (l0 : List Int) (l1 : List Bool) : Xn Tryz.prog (Zy Tryz.prog 142) (v5o l0 l1) (Zf Tryz.prog 142 [(.dat l0.length (Zz l0)), (.dat l1.length (Zz l1))] true []) (z5b l0 l1) := (sl Zm 15 [(183, 2, Zz ([] : List R2))] ⟨[0], [], y7j, y7k⟩ ⟨[(5, .grow 0 2)], [], []⟩ [] (pp (fl ([] : List R2) nn) nn))
theorem w1z (l0 : List Int) (l1 : List Bool) (n : Nat) (vs : List AVal) (h : Ya (Kq l0 l1) n (z5b l0 l1) = .ret vs) : Je Tryz.prog (Zy Tryz.prog 142) (Zf Tryz.prog 142 [(.dat l0.length (Zz l0)), (.dat l1.length (Zz l1))] true []) vs := by
 have := Zn (x1a l0 l1) n _ (y7i l0 l1)
 rwa [h] at this
inductive rsmS where
 | h0 (v5 : Int)
def rsmC (l0 : List R2) (l1 : List R2) : rsmS → Cfg
 | .h0 v5 => ⟨⟨26, 0, true⟩, none, (Za Tryz.prog 169 [1, 1, 0, 1, 0, 0] 0), none, (Zy Tryz.prog 5), ⟨Ym [(0, (.dat l0.length (Zz l0))), (1, (.dat l1.length (Zz l1))), (5, (ii v5))], Jw [] 0, 0, [], true⟩, [], .leaf⟩
def rsmN0 : List (Option (List Nat)) := [some [0, 1, 5]]
def rsmM0 : List (Option (List Nat)) := []
def z3w (l0 : List R2) (l1 : List R2) : rsmS → Xo rsmS
 | .h0 v5 => (bif (decide (v5 < (l0.length : Int))) then (bif ((decide (0 ≤ v5 ∧ v5 < (l0.length : Int))) && true) then (bif ((decide (0 ≤ v5 ∧ v5 < (l1.length : Int))) && true) then (bif (!(((rd l0 v5.toNat).a == (rd l1 v5.toNat).a) && (((rd l0 v5.toNat).b == (rd l1 v5.toNat).b) && true))) then (.ret [(.bool false)]) else (.to (.h0 (IntKind.wrap .i64 (v5 + 1))))) else .stuck) else .stuck) else (.ret [(.bool true)]))
def z4q (l0 : List R2) (l1 : List R2) : Xo rsmS := (bif ((l0.length : Int) != (l1.length : Int)) then (.ret [(.bool false)]) else (.to (.h0 0)))
theorem x7b (l0 : List R2) (l1 : List R2) : ∀ s, Xn Tryz.prog (Zy Tryz.prog 169) (rsmC l0 l1) (rsmC l0 l1 s) (z3w l0 l1 s)
 | .h0 v5 => (lb (fun k0 => (lo fun o1_0 => (lo fun o1_1 => (lb (fun k1 => (lr 26 169 [1, 1, 0, 1, 0, 0, 1, 0, 0, 1, 0, 0] 1 5 [(4, (.bool false))] (sl Zm 19 [] ⟨[], [], [some [4]], []⟩ ⟨[], [], []⟩ [true, true] (tt k1 (ww o1_1 (ww o1_0 (tt k0 nn))))))) (fun k1 => (sl Zm 23 [] ⟨[], [], rsmN0, rsmM0⟩ ⟨[], [], []⟩ [true, false] (tt k1 (ww o1_1 (ww o1_0 (tt k0 nn)))))))))) (fun k0 => (lr 26 3 [1, 1, 1, 1, 1, 1, 1, 0] 1 5 [(4, (.bool true))] (sl Zm 14 [] ⟨[], [], [some [4]], []⟩ ⟨[], [], []⟩ [false] (tt k0 nn)))))
theorem x0k (l0 : List R2) (l1 : List R2) : Xn Tryz.prog (Zy Tryz.prog 169) (rsmC l0 l1) (Zf Tryz.prog 169 [(.dat l0.length (Zz l0)), (.dat l1.length (Zz l1))] true []) (z4q l0 l1) := (lb (fun k0 => (lr 26 169 [1, 0, 1, 0, 0] 1 5 [(4, (.bool false))] (sl Zm 18 [] ⟨[], [], [some [4]], []⟩ ⟨[], [], []⟩ [true] (tt k0 nn)))) (fun k0 => (sl Zm 22 [] ⟨[], [], rsmN0, rsmM0⟩ ⟨[], [], []⟩ [false] (tt k0 nn))))
theorem w6p (l0 : List R2) (l1 : List R2) (n : Nat) (vs : List AVal) (h : Ya (z3w l0 l1) n (z4q l0 l1) = .ret vs) : Je Tryz.prog (Zy Tryz.prog 169) (Zf Tryz.prog 169 [(.dat l0.length (Zz l0)), (.dat l1.length (Zz l1))] true []) vs := by
 have := Zn (x7b l0 l1) n _ (x0k l0 l1)
 rwa [h] at this
inductive rhasS where
 | h0 (v7 : Int)
def v5e (l0 : List R4) (x1 : Int) (x2 : Int) : rhasS → Cfg
 | .h0 v7 => ⟨⟨48, 0, true⟩, none, (Za Tryz.prog 168 [1, 0, 1, 0, 0] 0), none, (Zy Tryz.prog 8), ⟨Ym [(0, (.dat l0.length (Zz l0))), (1, (ii x1)), (2, (ii x2)), (7, (ii v7))], Jw [] 0, 0, [], true⟩, [], .leaf⟩
def y7a : List (Option (List Nat)) := [some [0, 1, 2, 7]]
def y7b : List (Option (List Nat)) := []
def z2u (l0 : List R4) (x1 : Int) (x2 : Int) : rhasS → Xo rhasS
 | .h0 v7 => (bif (decide (v7 < (l0.length : Int))) then (bif ((decide (0 ≤ v7 ∧ v7 < (l0.length : Int))) && true) then (bif (decide ((rd l0 v7.toNat).a ≤ x1)) then (bif (decide (x1 < (rd l0 v7.toNat).c)) then (bif (decide ((rd l0 v7.toNat).b ≤ x2)) then (bif (decide (x2 < (rd l0 v7.toNat).d)) then (.ret [(.bool true)]) else (.to (.h0 (IntKind.wrap .i64 (v7 + 1))))) else (.to (.h0 (IntKind.wrap .i64 (v7 + 1))))) else (.to (.h0 (IntKind.wrap .i64 (v7 + 1))))) else (.to (.h0 (IntKind.wrap .i64 (v7 + 1))))) else .stuck) else (.ret [(.bool false)]))
def z4v (l0 : List R4) (x1 : Int) (x2 : Int) : Xo rhasS := (.to (.h0 0))
theorem x0r (l0 : List R4) (x1 : Int) (x2 : Int) : ∀ s, Xn Tryz.prog (Zy Tryz.prog 168) (v5e l0 x1 x2) (v5e l0 x1 x2 s) (z2u l0 x1 x2 s)
 | .h0 v7 => (lb (fun k0 => (lo fun o1_0 => (lb (fun k1 => (lb (fun k2 => (lb (fun k3 => (lb (fun k4 => (lr 48 168 [1, 0, 1, 0, 0, 1, 0, 0, 1, 0, 0] 1 8 [(6, (.bool true))] (sl Zm 54 [] ⟨[], [], [some [6]], []⟩ ⟨[], [], []⟩ (trs 23 []) (tt k4 (ww o1_0 (tt k3 (ww o1_0 (tt k2 (ww o1_0 (tt k1 (ww o1_0 (tt k0 nn)))))))))))) (fun k4 => (sl Zm 58 [] ⟨[], [], y7a, y7b⟩ ⟨[], [], []⟩ (trs 22 [false]) (tt k4 (ww o1_0 (tt k3 (ww o1_0 (tt k2 (ww o1_0 (tt k1 (ww o1_0 (tt k0 nn))))))))))))) (fun k3 => (sl Zm 58 [] ⟨[], [], y7a, y7b⟩ ⟨[], [], []⟩ (trs 15 [false, false, false, false, false, false, false, false]) (tt k3 (ww o1_0 (tt k2 (ww o1_0 (tt k1 (ww o1_0 (tt k0 nn))))))))))) (fun k2 => (sl Zm 58 [] ⟨[], [], y7a, y7b⟩ ⟨[], [], []⟩ (trs 8 [false, false, false, false, false, false, false, false, false, false, false, false, false, false, false]) (tt k2 (ww o1_0 (tt k1 (ww o1_0 (tt k0 nn))))))))) (fun k1 => (sl Zm 58 [] ⟨[], [], y7a, y7b⟩ ⟨[], [], []⟩ [true, false, false, false, false, false, false, false, false, false, false, false, false, false, false, false, false, false, false, false, false, false, false] (tt k1 (ww o1_0 (tt k0 nn)))))))) (fun k0 => (lr 48 3 [1, 1, 1, 1, 1, 1, 1, 0] 1 8 [(6, (.bool false))] (sl Zm 14 [] ⟨[], [], [some [6]], []⟩ ⟨[], [], []⟩ [false] (tt k0 nn)))))
theorem y6z (l0 : List R4) (x1 : Int) (x2 : Int) : Xn Tryz.prog (Zy Tryz.prog 168) (v5e l0 x1 x2) (Zf Tryz.prog 168 [(.dat l0.length (Zz l0)), (.int .i64 x1), (.int .i64 x2)] true []) (z4v l0 x1 x2) := (sl Zm 11 [] ⟨[], [], y7a, y7b⟩ ⟨[], [], []⟩ [] nn)
theorem w1j (l0 : List R4) (x1 : Int) (x2 : Int) (n : Nat) (vs : List AVal) (h : Ya (z2u l0 x1 x2) n (z4v l0 x1 x2) = .ret vs) : Je Tryz.prog (Zy Tryz.prog 168) (Zf Tryz.prog 168 [(.dat l0.length (Zz l0)), (.int .i64 x1), (.int .i64 x2)] true []) vs := by
 have := Zn (x0r l0 x1 x2) n _ (y6z l0 x1 x2)
 rwa [h] at this
inductive rsrS where
 | h0 (v5 : Int)
def rsrC (l0 : List R4) (l1 : List R4) : rsrS → Cfg
 | .h0 v5 => ⟨⟨26, 0, true⟩, none, (Za Tryz.prog 128 [1, 1, 0, 1, 0, 0] 0), none, (Zy Tryz.prog 5), ⟨Ym [(0, (.dat l0.length (Zz l0))), (1, (.dat l1.length (Zz l1))), (5, (ii v5))], Jw [] 0, 0, [], true⟩, [], .leaf⟩
def rsrN0 : List (Option (List Nat)) := [some [0, 1, 5]]
def rsrM0 : List (Option (List Nat)) := []
def z3v (l0 : List R4) (l1 : List R4) : rsrS → Xo rsrS
 | .h0 v5 => (bif (decide (v5 < (l0.length : Int))) then (bif ((decide (0 ≤ v5 ∧ v5 < (l0.length : Int))) && true) then (bif ((decide (0 ≤ v5 ∧ v5 < (l1.length : Int))) && true) then (bif (!(((rd l0 v5.toNat).a == (rd l1 v5.toNat).a) && (((rd l0 v5.toNat).b == (rd l1 v5.toNat).b) && (((rd l0 v5.toNat).c == (rd l1 v5.toNat).c) && (((rd l0 v5.toNat).d == (rd l1 v5.toNat).d) && true))))) then (.ret [(.bool false)]) else (.to (.h0 (IntKind.wrap .i64 (v5 + 1))))) else .stuck) else .stuck) else (.ret [(.bool true)]))
def z4p (l0 : List R4) (l1 : List R4) : Xo rsrS := (bif ((l0.length : Int) != (l1.length : Int)) then (.ret [(.bool false)]) else (.to (.h0 0)))
theorem x6z (l0 : List R4) (l1 : List R4) : ∀ s, Xn Tryz.prog (Zy Tryz.prog 128) (rsrC l0 l1) (rsrC l0 l1 s) (z3v l0 l1 s)
 | .h0 v5 => (lb (fun k0 => (lo fun o1_0 => (lo fun o1_1 => (lb (fun k1 => (lr 26 128 [1, 1, 0, 1, 0, 0, 1, 0, 0, 1, 0, 0] 1 5 [(4, (.bool false))] (sl Zm 19 [] ⟨[], [], [some [4]], []⟩ ⟨[], [], []⟩ [true, true] (tt k1 (ww o1_1 (ww o1_0 (tt k0 nn))))))) (fun k1 => (sl Zm 23 [] ⟨[], [], rsrN0, rsrM0⟩ ⟨[], [], []⟩ [true, false] (tt k1 (ww o1_1 (ww o1_0 (tt k0 nn)))))))))) (fun k0 => (lr 26 3 [1, 1, 1, 1, 1, 1, 1, 0] 1 5 [(4, (.bool true))] (sl Zm 14 [] ⟨[], [], [some [4]], []⟩ ⟨[], [], []⟩ [false] (tt k0 nn)))))
theorem x0j (l0 : List R4) (l1 : List R4) : Xn Tryz.prog (Zy Tryz.prog 128) (rsrC l0 l1) (Zf Tryz.prog 128 [(.dat l0.length (Zz l0)), (.dat l1.length (Zz l1))] true []) (z4p l0 l1) := (lb (fun k0 => (lr 26 128 [1, 0, 1, 0, 0] 1 5 [(4, (.bool false))] (sl Zm 18 [] ⟨[], [], [some [4]], []⟩ ⟨[], [], []⟩ [true] (tt k0 nn)))) (fun k0 => (sl Zm 22 [] ⟨[], [], rsrN0, rsrM0⟩ ⟨[], [], []⟩ [false] (tt k0 nn))))
theorem w6o (l0 : List R4) (l1 : List R4) (n : Nat) (vs : List AVal) (h : Ya (z3v l0 l1) n (z4p l0 l1) = .ret vs) : Je Tryz.prog (Zy Tryz.prog 128) (Zf Tryz.prog 128 [(.dat l0.length (Zz l0)), (.dat l1.length (Zz l1))] true []) vs := by
 have := Zn (x6z l0 l1) n _ (x0j l0 l1)
 rwa [h] at this
inductive rsbS where
 | h0 (v5 : Int)
def rsbC (l0 : List R6) (l1 : List R6) : rsbS → Cfg
 | .h0 v5 => ⟨⟨26, 0, true⟩, none, (Za Tryz.prog 20 [1, 1, 0, 1, 0, 0] 0), none, (Zy Tryz.prog 5), ⟨Ym [(0, (.dat l0.length (Zz l0))), (1, (.dat l1.length (Zz l1))), (5, (ii v5))], Jw [] 0, 0, [], true⟩, [], .leaf⟩
def rsbN0 : List (Option (List Nat)) := [some [0, 1, 5]]
def rsbM0 : List (Option (List Nat)) := []
def z3x (l0 : List R6) (l1 : List R6) : rsbS → Xo rsbS
 | .h0 v5 => (bif (decide (v5 < (l0.length : Int))) then (bif ((decide (0 ≤ v5 ∧ v5 < (l0.length : Int))) && true) then (bif ((decide (0 ≤ v5 ∧ v5 < (l1.length : Int))) && true) then (bif (!((((rd l0 v5.toNat).a == (rd l1 v5.toNat).a) && (((rd l0 v5.toNat).b == (rd l1 v5.toNat).b) && (((rd l0 v5.toNat).c == (rd l1 v5.toNat).c) && true))) && ((((rd l0 v5.toNat).d == (rd l1 v5.toNat).d) && (((rd l0 v5.toNat).e == (rd l1 v5.toNat).e) && (((rd l0 v5.toNat).f == (rd l1 v5.toNat).f) && true))) && true))) then (.ret [(.bool false)]) else (.to (.h0 (IntKind.wrap .i64 (v5 + 1))))) else .stuck) else .stuck) else (.ret [(.bool true)]))
def z4r (l0 : List R6) (l1 : List R6) : Xo rsbS := (bif ((l0.length : Int) != (l1.length : Int)) then (.ret [(.bool false)]) else (.to (.h0 0)))
theorem x7c (l0 : List R6) (l1 : List R6) : ∀ s, Xn Tryz.prog (Zy Tryz.prog 20) (rsbC l0 l1) (rsbC l0 l1 s) (z3x l0 l1 s)
 | .h0 v5 => (lb (fun k0 => (lo fun o1_0 => (lo fun o1_1 => (lb (fun k1 => (lr 26 20 [1, 1, 0, 1, 0, 0, 1, 0, 0, 1, 0, 0] 1 5 [(4, (.bool false))] (sl Zm 19 [] ⟨[], [], [some [4]], []⟩ ⟨[], [], []⟩ [true, true] (tt k1 (ww o1_1 (ww o1_0 (tt k0 nn))))))) (fun k1 => (sl Zm 23 [] ⟨[], [], rsbN0, rsbM0⟩ ⟨[], [], []⟩ [true, false] (tt k1 (ww o1_1 (ww o1_0 (tt k0 nn)))))))))) (fun k0 => (lr 26 3 [1, 1, 1, 1, 1, 1, 1, 0] 1 5 [(4, (.bool true))] (sl Zm 14 [] ⟨[], [], [some [4]], []⟩ ⟨[], [], []⟩ [false] (tt k0 nn)))))
theorem x0l (l0 : List R6) (l1 : List R6) : Xn Tryz.prog (Zy Tryz.prog 20) (rsbC l0 l1) (Zf Tryz.prog 20 [(.dat l0.length (Zz l0)), (.dat l1.length (Zz l1))] true []) (z4r l0 l1) := (lb (fun k0 => (lr 26 20 [1, 0, 1, 0, 0] 1 5 [(4, (.bool false))] (sl Zm 18 [] ⟨[], [], [some [4]], []⟩ ⟨[], [], []⟩ [true] (tt k0 nn)))) (fun k0 => (sl Zm 22 [] ⟨[], [], rsbN0, rsbM0⟩ ⟨[], [], []⟩ [false] (tt k0 nn))))
theorem w6q (l0 : List R6) (l1 : List R6) (n : Nat) (vs : List AVal) (h : Ya (z3x l0 l1) n (z4r l0 l1) = .ret vs) : Je Tryz.prog (Zy Tryz.prog 20) (Zf Tryz.prog 20 [(.dat l0.length (Zz l0)), (.dat l1.length (Zz l1))] true []) vs := by
 have := Zn (x7c l0 l1) n _ (x0l l0 l1)
 rwa [h] at this
inductive ratS where
 | h0 (v5 : List R4) (v6 : Int)
def ratC (l0 : List R6) (x1 : Int) : ratS → Cfg
 | .h0 v5 v6 => ⟨⟨60, 0, true⟩, none, (Za Tryz.prog 127 [1, 1, 0, 1, 0, 0] 0), none, (Zy Tryz.prog 5), ⟨Ym [(0, (.dat l0.length (Zz l0))), (1, (ii x1)), (5, (.sla 0 4 0 v5.length (.un 4))), (6, (ii v6))], Jw [⟨Yg v5.length (Zz v5), 88, some ⟨4, v5.length, (Zz v5)⟩⟩] 0, 1, [], true⟩, [], .leaf⟩
def w7l : List (Option (List Nat)) := [some [0, 1, 5, 6]]
def w7m : List (Option (List Nat)) := []
def z3z (l0 : List R6) (x1 : Int) : ratS → Xo ratS
 | .h0 v5 v6 => (bif (decide (v6 < (l0.length : Int))) then (bif ((decide (0 ≤ v6 ∧ v6 < (l0.length : Int))) && true) then (bif (decide ((rd l0 v6.toNat).c ≤ x1)) then (bif (decide (x1 < (rd l0 v6.toNat).f)) then (bif (Nat.beq 4 4 && ((decide (0 + v5.length = v5.length)) && decide ((v5.length + 1 + 1) * (32 + 1) ≤ Ur))) then (.to (.h0 (v5 ++ [(R4.mk (rd l0 v6.toNat).a (rd l0 v6.toNat).b (rd l0 v6.toNat).d (rd l0 v6.toNat).e)]) (IntKind.wrap .i64 (v6 + 1)))) else .stuck) else (.to (.h0 v5 (IntKind.wrap .i64 (v6 + 1))))) else (.to (.h0 v5 (IntKind.wrap .i64 (v6 + 1))))) else .stuck) else (.ret [(.dat v5.length (Zz v5))]))
def z9d (l0 : List R6) (x1 : Int) : Xo ratS := (.to (.h0 ([] : List R4) 0))
theorem x7m (l0 : List R6) (x1 : Int) : ∀ s, Xn Tryz.prog (Zy Tryz.prog 127) (ratC l0 x1) (ratC l0 x1 s) (z3z l0 x1 s)
 | .h0 v5 v6 => (lb (fun k0 => (lo fun o1_0 => (lb (fun k1 => (lb (fun k2 => (lo fun o0 => (sl Zm 42 [] ⟨[2], [], w7l, w7m⟩ ⟨[(5, .len (v5 ++ [(R4.mk (rd l0 (tn v6)).a (rd l0 (tn v6)).b (rd l0 (tn v6)).d (rd l0 (tn v6)).e)]).length)], [.rowed 4 (v5 ++ [(R4.mk (rd l0 (tn v6)).a (rd l0 (tn v6)).b (rd l0 (tn v6)).d (rd l0 (tn v6)).e)]).length (Zz (v5 ++ [(R4.mk (rd l0 (tn v6)).a (rd l0 (tn v6)).b (rd l0 (tn v6)).d (rd l0 (tn v6)).e)]))], []⟩ (trs 10 []) (pp (xL (v5.length + 1) (v5 ++ [(R4.mk (rd l0 (tn v6)).a (rd l0 (tn v6)).b (rd l0 (tn v6)).d (rd l0 (tn v6)).e)]).length) (pp (xL (v5.length + 1) (v5 ++ [(R4.mk (rd l0 (tn v6)).a (rd l0 (tn v6)).b (rd l0 (tn v6)).d (rd l0 (tn v6)).e)]).length) (pp (xS (v5.length + 1) (Zd (Zz v5) 0 v5.length 4 [(ii (rd l0 (tn v6)).a), (ii (rd l0 (tn v6)).b), (ii (rd l0 (tn v6)).d), (ii (rd l0 (tn v6)).e)]) (Zz (v5 ++ [(R4.mk (rd l0 (tn v6)).a (rd l0 (tn v6)).b (rd l0 (tn v6)).d (rd l0 (tn v6)).e)]))) (pp (pp (xF (Zd (Zz v5) 0 v5.length 4 [(ii (rd l0 (tn v6)).a), (ii (rd l0 (tn v6)).b), (ii (rd l0 (tn v6)).d), (ii (rd l0 (tn v6)).e)])) nn) (ww o0 (ww o1_0 (ww o1_0 (ww o1_0 (ww o1_0 (tt k2 (ww o1_0 (tt k1 (ww o1_0 (tt k0 nn))))))))))))))))) (fun k2 => (sl Zm 42 [] ⟨[0], [], w7l, w7m⟩ ⟨[], [], []⟩ (trs 9 [false]) (pp (fl v5 nn) (tt k2 (ww o1_0 (tt k1 (ww o1_0 (tt k0 nn)))))))))) (fun k1 => (sl Zm 42 [] ⟨[0], [], w7l, w7m⟩ ⟨[], [], []⟩ [true, false, false, false, false, false, false, false, false, false] (pp (fl v5 nn) (tt k1 (ww o1_0 (tt k0 nn))))))))) (fun k0 => (lr 60 3 [1, 1, 1, 1, 1, 1, 1, 0] 1 5 [(4, (.dat v5.length (Zz v5)))] (sl Zm 15 [] ⟨[], [0], [some [4]], []⟩ ⟨[(4, .frz v5.length v5.length (Zz v5) (Zz v5))], [], []⟩ [false] (pp (xZ (z4k 4 4 0 v5.length v5.length (Zz v5)) v5.length (Zz v5)) (pp (xL v5.length v5.length) (pp (xS v5.length (Zz v5) (Zz v5)) (pp (fl v5 nn) (tt k0 nn)))))))))
theorem x1b (l0 : List R6) (x1 : Int) : Xn Tryz.prog (Zy Tryz.prog 127) (ratC l0 x1) (Zf Tryz.prog 127 [(.dat l0.length (Zz l0)), (.int .i64 x1)] true []) (z9d l0 x1) := (sl Zm 15 [(88, 4, Zz ([] : List R4))] ⟨[0], [], w7l, w7m⟩ ⟨[(5, .grow 0 4)], [], []⟩ [] (pp (fl ([] : List R4) nn) nn))
theorem w7k (l0 : List R6) (x1 : Int) (n : Nat) (vs : List AVal) (h : Ya (z3z l0 x1) n (z9d l0 x1) = .ret vs) : Je Tryz.prog (Zy Tryz.prog 127) (Zf Tryz.prog 127 [(.dat l0.length (Zz l0)), (.int .i64 x1)] true []) vs := by
 have := Zn (x7m l0 x1) n _ (x1b l0 x1)
 rwa [h] at this
inductive eqaS where
 | h0 (v13 : Int)
def eqaC (l0 : List R2) (l1 : List R2) : eqaS → Cfg
 | .h0 v13 => ⟨⟨26, 0, true⟩, none, (Za Tryz.prog 188 [1, 1, 0, 1, 0, 0] 0), none, (Zy Tryz.prog 5), ⟨Ym [(0, (.dat l0.length (Zz l0))), (1, (.dat l1.length (Zz l1))), (12, (ii (l0.length : Int))), (13, (ii v13))], Jw [] 0, 0, [], true⟩, [], .leaf⟩
def eqaN0 : List (Option (List Nat)) := [some [0, 1, 12, 13]]
def eqaM0 : List (Option (List Nat)) := []
def z4g (l0 : List R2) (l1 : List R2) : eqaS → Xo eqaS
 | .h0 v13 => (bif (decide (v13 < (l0.length : Int))) then (bif ((decide (0 ≤ v13 ∧ v13 < (l0.length : Int))) && true) then (bif ((decide (0 ≤ v13 ∧ v13 < (l1.length : Int))) && true) then (bif (!(((rd l0 v13.toNat).a == (rd l1 v13.toNat).a) && (((rd l0 v13.toNat).b == (rd l1 v13.toNat).b) && true))) then (.ret [(.bool false)]) else (.to (.h0 (IntKind.wrap .i64 (v13 + 1))))) else .stuck) else .stuck) else (.ret [(.bool true)]))
def z5p (l0 : List R2) (l1 : List R2) : Xo eqaS := (bif ((l0.length : Int) != (l1.length : Int)) then (.ret [(.bool false)]) else (.to (.h0 0)))
theorem x8p (l0 : List R2) (l1 : List R2) : ∀ s, Xn Tryz.prog (Zy Tryz.prog 188) (eqaC l0 l1) (eqaC l0 l1 s) (z4g l0 l1 s)
 | .h0 v13 => (lb (fun k0 => (lo fun o1_0 => (lo fun o1_1 => (lb (fun k1 => (lr 26 188 [1, 1, 0, 1, 0, 0, 1, 1, 0, 0, 1, 1, 0, 0] 1 5 [(4, (.bool false))] (sl Zm 21 [] ⟨[], [], [some [4]], []⟩ ⟨[], [], []⟩ [true, true] (tt k1 (ww o1_1 (ww o1_0 (tt k0 nn))))))) (fun k1 => (sl Zm 24 [] ⟨[], [], eqaN0, eqaM0⟩ ⟨[], [], []⟩ [true, false] (tt k1 (ww o1_1 (ww o1_0 (tt k0 nn)))))))))) (fun k0 => (lr 26 3 [1, 1, 1, 1, 1, 1, 1, 0] 1 5 [(4, (.bool true))] (sl Zm 11 [] ⟨[], [], [some [4]], []⟩ ⟨[], [], []⟩ [false] (tt k0 nn)))))
theorem x2q (l0 : List R2) (l1 : List R2) : Xn Tryz.prog (Zy Tryz.prog 188) (eqaC l0 l1) (Zf Tryz.prog 188 [(.dat l0.length (Zz l0)), (.dat l1.length (Zz l1))] true []) (z5p l0 l1) := (lb (fun k0 => (lr 26 188 [1, 0, 1, 0, 0] 1 5 [(4, (.bool false))] (sl Zm 18 [] ⟨[], [], [some [4]], []⟩ ⟨[], [], []⟩ [true] (tt k0 nn)))) (fun k0 => (sl Zm 24 [] ⟨[], [], eqaN0, eqaM0⟩ ⟨[], [], []⟩ [false] (tt k0 nn))))
theorem w9h (l0 : List R2) (l1 : List R2) (n : Nat) (vs : List AVal) (h : Ya (z4g l0 l1) n (z5p l0 l1) = .ret vs) : Je Tryz.prog (Zy Tryz.prog 188) (Zf Tryz.prog 188 [(.dat l0.length (Zz l0)), (.dat l1.length (Zz l1))] true []) vs := by
 have := Zn (x8p l0 l1) n _ (x2q l0 l1)
 rwa [h] at this
inductive eqbS where
 | h0 (v13 : Int)
def eqbC (l0 : List R4) (l1 : List R4) : eqbS → Cfg
 | .h0 v13 => ⟨⟨26, 0, true⟩, none, (Za Tryz.prog 172 [1, 1, 0, 1, 0, 0] 0), none, (Zy Tryz.prog 5), ⟨Ym [(0, (.dat l0.length (Zz l0))), (1, (.dat l1.length (Zz l1))), (12, (ii (l0.length : Int))), (13, (ii v13))], Jw [] 0, 0, [], true⟩, [], .leaf⟩
def eqbN0 : List (Option (List Nat)) := [some [0, 1, 12, 13]]
def eqbM0 : List (Option (List Nat)) := []
def z4f (l0 : List R4) (l1 : List R4) : eqbS → Xo eqbS
 | .h0 v13 => (bif (decide (v13 < (l0.length : Int))) then (bif ((decide (0 ≤ v13 ∧ v13 < (l0.length : Int))) && true) then (bif ((decide (0 ≤ v13 ∧ v13 < (l1.length : Int))) && true) then (bif (!(((rd l0 v13.toNat).a == (rd l1 v13.toNat).a) && (((rd l0 v13.toNat).b == (rd l1 v13.toNat).b) && (((rd l0 v13.toNat).c == (rd l1 v13.toNat).c) && (((rd l0 v13.toNat).d == (rd l1 v13.toNat).d) && true))))) then (.ret [(.bool false)]) else (.to (.h0 (IntKind.wrap .i64 (v13 + 1))))) else .stuck) else .stuck) else (.ret [(.bool true)]))
def z5o (l0 : List R4) (l1 : List R4) : Xo eqbS := (bif ((l0.length : Int) != (l1.length : Int)) then (.ret [(.bool false)]) else (.to (.h0 0)))
theorem x8o (l0 : List R4) (l1 : List R4) : ∀ s, Xn Tryz.prog (Zy Tryz.prog 172) (eqbC l0 l1) (eqbC l0 l1 s) (z4f l0 l1 s)
 | .h0 v13 => (lb (fun k0 => (lo fun o1_0 => (lo fun o1_1 => (lb (fun k1 => (lr 26 172 [1, 1, 0, 1, 0, 0, 1, 1, 0, 0, 1, 1, 0, 0] 1 5 [(4, (.bool false))] (sl Zm 21 [] ⟨[], [], [some [4]], []⟩ ⟨[], [], []⟩ [true, true] (tt k1 (ww o1_1 (ww o1_0 (tt k0 nn))))))) (fun k1 => (sl Zm 24 [] ⟨[], [], eqbN0, eqbM0⟩ ⟨[], [], []⟩ [true, false] (tt k1 (ww o1_1 (ww o1_0 (tt k0 nn)))))))))) (fun k0 => (lr 26 3 [1, 1, 1, 1, 1, 1, 1, 0] 1 5 [(4, (.bool true))] (sl Zm 11 [] ⟨[], [], [some [4]], []⟩ ⟨[], [], []⟩ [false] (tt k0 nn)))))
theorem x2p (l0 : List R4) (l1 : List R4) : Xn Tryz.prog (Zy Tryz.prog 172) (eqbC l0 l1) (Zf Tryz.prog 172 [(.dat l0.length (Zz l0)), (.dat l1.length (Zz l1))] true []) (z5o l0 l1) := (lb (fun k0 => (lr 26 172 [1, 0, 1, 0, 0] 1 5 [(4, (.bool false))] (sl Zm 18 [] ⟨[], [], [some [4]], []⟩ ⟨[], [], []⟩ [true] (tt k0 nn)))) (fun k0 => (sl Zm 24 [] ⟨[], [], eqbN0, eqbM0⟩ ⟨[], [], []⟩ [false] (tt k0 nn))))
theorem w9g (l0 : List R4) (l1 : List R4) (n : Nat) (vs : List AVal) (h : Ya (z4f l0 l1) n (z5o l0 l1) = .ret vs) : Je Tryz.prog (Zy Tryz.prog 172) (Zf Tryz.prog 172 [(.dat l0.length (Zz l0)), (.dat l1.length (Zz l1))] true []) vs := by
 have := Zn (x8o l0 l1) n _ (x2p l0 l1)
 rwa [h] at this
inductive eqcS where
 | h0 (v13 : Int)
def eqcC (l0 : List R6) (l1 : List R6) : eqcS → Cfg
 | .h0 v13 => ⟨⟨26, 0, true⟩, none, (Za Tryz.prog 99 [1, 1, 0, 1, 0, 0] 0), none, (Zy Tryz.prog 5), ⟨Ym [(0, (.dat l0.length (Zz l0))), (1, (.dat l1.length (Zz l1))), (12, (ii (l0.length : Int))), (13, (ii v13))], Jw [] 0, 0, [], true⟩, [], .leaf⟩
def eqcN0 : List (Option (List Nat)) := [some [0, 1, 12, 13]]
def eqcM0 : List (Option (List Nat)) := []
def z4e (l0 : List R6) (l1 : List R6) : eqcS → Xo eqcS
 | .h0 v13 => (bif (decide (v13 < (l0.length : Int))) then (bif ((decide (0 ≤ v13 ∧ v13 < (l0.length : Int))) && true) then (bif ((decide (0 ≤ v13 ∧ v13 < (l1.length : Int))) && true) then (bif (!((((rd l0 v13.toNat).a == (rd l1 v13.toNat).a) && (((rd l0 v13.toNat).b == (rd l1 v13.toNat).b) && (((rd l0 v13.toNat).c == (rd l1 v13.toNat).c) && true))) && ((((rd l0 v13.toNat).d == (rd l1 v13.toNat).d) && (((rd l0 v13.toNat).e == (rd l1 v13.toNat).e) && (((rd l0 v13.toNat).f == (rd l1 v13.toNat).f) && true))) && true))) then (.ret [(.bool false)]) else (.to (.h0 (IntKind.wrap .i64 (v13 + 1))))) else .stuck) else .stuck) else (.ret [(.bool true)]))
def z5n (l0 : List R6) (l1 : List R6) : Xo eqcS := (bif ((l0.length : Int) != (l1.length : Int)) then (.ret [(.bool false)]) else (.to (.h0 0)))
theorem x8n (l0 : List R6) (l1 : List R6) : ∀ s, Xn Tryz.prog (Zy Tryz.prog 99) (eqcC l0 l1) (eqcC l0 l1 s) (z4e l0 l1 s)
 | .h0 v13 => (lb (fun k0 => (lo fun o1_0 => (lo fun o1_1 => (lb (fun k1 => (lr 26 99 [1, 1, 0, 1, 0, 0, 1, 1, 0, 0, 1, 1, 0, 0] 1 5 [(4, (.bool false))] (sl Zm 21 [] ⟨[], [], [some [4]], []⟩ ⟨[], [], []⟩ [true, true] (tt k1 (ww o1_1 (ww o1_0 (tt k0 nn))))))) (fun k1 => (sl Zm 24 [] ⟨[], [], eqcN0, eqcM0⟩ ⟨[], [], []⟩ [true, false] (tt k1 (ww o1_1 (ww o1_0 (tt k0 nn)))))))))) (fun k0 => (lr 26 3 [1, 1, 1, 1, 1, 1, 1, 0] 1 5 [(4, (.bool true))] (sl Zm 11 [] ⟨[], [], [some [4]], []⟩ ⟨[], [], []⟩ [false] (tt k0 nn)))))
theorem x2o (l0 : List R6) (l1 : List R6) : Xn Tryz.prog (Zy Tryz.prog 99) (eqcC l0 l1) (Zf Tryz.prog 99 [(.dat l0.length (Zz l0)), (.dat l1.length (Zz l1))] true []) (z5n l0 l1) := (lb (fun k0 => (lr 26 99 [1, 0, 1, 0, 0] 1 5 [(4, (.bool false))] (sl Zm 18 [] ⟨[], [], [some [4]], []⟩ ⟨[], [], []⟩ [true] (tt k0 nn)))) (fun k0 => (sl Zm 24 [] ⟨[], [], eqcN0, eqcM0⟩ ⟨[], [], []⟩ [false] (tt k0 nn))))
theorem w9f (l0 : List R6) (l1 : List R6) (n : Nat) (vs : List AVal) (h : Ya (z4e l0 l1) n (z5n l0 l1) = .ret vs) : Je Tryz.prog (Zy Tryz.prog 99) (Zf Tryz.prog 99 [(.dat l0.length (Zz l0)), (.dat l1.length (Zz l1))] true []) vs := by
 have := Zn (x8n l0 l1) n _ (x2o l0 l1)
 rwa [h] at this
inductive holS where
def holC (x0 : Int) (x1 : Bool) (x2 : Bool) : holS → Cfg
 := nofun
def x2f (x0 : Int) (x1 : Bool) (x2 : Bool) : holS → Xo holS
 := nofun
def z9n (x0 : Int) (x1 : Bool) (x2 : Bool) : Xo holS := (bif (x0 == 1) then (bif x1 then (.ret [(.bool x2)]) else (.ret [(.bool false)])) else (bif (x0 == 2) then (bif x1 then (.ret [(.bool true)]) else (.ret [(.bool x2)])) else (bif x1 then (.ret [(.bool (!x2))]) else (.ret [(.bool false)]))))
theorem x8e (x0 : Int) (x1 : Bool) (x2 : Bool) : ∀ s, Xn Tryz.prog (Zy Tryz.prog 167) (holC x0 x1 x2) (holC x0 x1 x2 s) (x2f x0 x1 x2 s)
 := nofun
theorem x2g (x0 : Int) (x1 : Bool) (x2 : Bool) : Xn Tryz.prog (Zy Tryz.prog 167) (holC x0 x1 x2) (Zf Tryz.prog 167 [(.int .i64 x0), (.bool x1), (.bool x2)] true []) (z9n x0 x1 x2) := (lb (fun k0 => (lb (fun k1 => (lr 24 167 [1, 0, 1, 0, 0] 1 8 [(6, (.bool x2))] (sl Zm 19 [] ⟨[], [], [some [6]], []⟩ ⟨[], [], []⟩ [true, true] (tt k1 (tt k0 nn))))) (fun k1 => (lr 24 167 [1, 0, 1, 0, 0] 1 8 [(6, (.bool false))] (sl Zm 19 [] ⟨[], [], [some [6]], []⟩ ⟨[], [], []⟩ [true, false] (tt k1 (tt k0 nn))))))) (fun k0 => (lb (fun k1 => (lb (fun k2 => (lr 24 167 [1, 1, 0, 1, 0, 0] 1 8 [(6, (.bool true))] (sl Zm 27 [] ⟨[], [], [some [6]], []⟩ ⟨[], [], []⟩ [false, true, true] (tt k2 (tt k1 (tt k0 nn)))))) (fun k2 => (lr 24 167 [1, 1, 0, 1, 0, 0] 1 8 [(6, (.bool x2))] (sl Zm 27 [] ⟨[], [], [some [6]], []⟩ ⟨[], [], []⟩ [false, true, false] (tt k2 (tt k1 (tt k0 nn)))))))) (fun k1 => (lb (fun k2 => (lr 24 3 [1, 1, 1, 1, 1, 1, 1, 0] 1 8 [(6, (.bool (!x2)))] (sl Zm 29 [] ⟨[], [], [some [6]], []⟩ ⟨[], [], []⟩ [false, false, true, true] (tt k2 (tt k1 (tt k0 nn)))))) (fun k2 => (lr 24 3 [1, 1, 1, 1, 1, 1, 1, 0] 1 8 [(6, (.bool false))] (sl Zm 29 [] ⟨[], [], [some [6]], []⟩ ⟨[], [], []⟩ [false, false, false, false] (tt k2 (tt k1 (tt k0 nn)))))))))))
theorem w8t (x0 : Int) (x1 : Bool) (x2 : Bool) (n : Nat) (vs : List AVal) (h : Ya (x2f x0 x1 x2) n (z9n x0 x1 x2) = .ret vs) : Je Tryz.prog (Zy Tryz.prog 167) (Zf Tryz.prog 167 [(.int .i64 x0), (.bool x1), (.bool x2)] true []) vs := by
 have := Zn (x8e x0 x1 x2) n _ (x2g x0 x1 x2)
 rwa [h] at this
inductive fstS where
def fstC (x0 : Bool) (x1 : Bool) : fstS → Cfg
 := nofun
def x2k (x0 : Bool) (x1 : Bool) : fstS → Xo fstS
 := nofun
def y5p (x0 : Bool) (x1 : Bool) : Xo fstS := (.ret [(.bool x0)])
theorem x8h (x0 : Bool) (x1 : Bool) : ∀ s, Xn Tryz.prog (Zy Tryz.prog 187) (fstC x0 x1) (fstC x0 x1 s) (x2k x0 x1 s)
 := nofun
theorem x2l (x0 : Bool) (x1 : Bool) : Xn Tryz.prog (Zy Tryz.prog 187) (fstC x0 x1) (Zf Tryz.prog 187 [(.bool x0), (.bool x1)] true []) (y5p x0 x1) := (lr 6 3 [1, 1, 1, 1, 1, 1, 1, 0] 1 5 [(4, (.bool x0))] (sl Zm 9 [] ⟨[], [], [some [4]], []⟩ ⟨[], [], []⟩ [] nn))
theorem w8v (x0 : Bool) (x1 : Bool) (n : Nat) (vs : List AVal) (h : Ya (x2k x0 x1) n (y5p x0 x1) = .ret vs) : Je Tryz.prog (Zy Tryz.prog 187) (Zf Tryz.prog 187 [(.bool x0), (.bool x1)] true []) vs := by
 have := Zn (x8h x0 x1) n _ (x2l x0 x1)
 rwa [h] at this
end Go.Am
namespace Go.Am
theorem Zs {a b : Int} (h : a < b) : decide (a < b) = true := decide_eq_true h
theorem Yx {a b : Int} (h : ¬ a < b) : decide (a < b) = false := decide_eq_false h
theorem Xq {a b : Int} (h : a ≤ b) : decide (a ≤ b) = true := decide_eq_true h
theorem x8q {a b : Int} (h : ¬ a ≤ b) : decide (a ≤ b) = false := decide_eq_false h
theorem Yf {a b : Int} (h : a > b) : decide (a > b) = true := decide_eq_true h
theorem Xy {a b : Int} (h : ¬ a > b) : decide (a > b) = false := decide_eq_false h
theorem w3y {a b : Int} (h : a ≥ b) : decide (a ≥ b) = true := decide_eq_true h
theorem w9l {a b : Int} (h : ¬ a ≥ b) : decide (a ≥ b) = false := decide_eq_false h
theorem Yy {a b : Nat} (h : a < b) : decide (a < b) = true := decide_eq_true h
theorem Yq {a b : Nat} (h : a ≤ b) : decide (a ≤ b) = true := decide_eq_true h
theorem Yw {a b : Nat} (h : a = b) : decide (a = b) = true := decide_eq_true h
theorem Zr {a b : Int} (h : 0 ≤ a ∧ a < b) : decide (0 ≤ a ∧ a < b) = true := decide_eq_true h
theorem Zc {a : Nat} (h : a ≤ 1099511627776) : decide (a ≤ Ur) = true := decide_eq_true h
theorem Zj {n : Int} (h : -9223372036854775808 ≤ n ∧ n ≤ 9223372036854775807) : IntKind.wrap .i64 n = n := w_in h.1 h.2
theorem z2n : ((0 : Nat) : Int) = 0 := rfl
theorem Zx (i : Nat) : (i : Int) + 1 = ((i + 1 : Nat) : Int) := rfl
theorem Zo (i : Nat) : ((i + 1 : Nat) : Int) - 1 = (i : Int) := by omega
theorem Qj {a b : Int} (h : a ≠ b) : (a != b) = true := by simp [h]
theorem Qk {a b : Int} (h : a = b) : (a != b) = false := by simp [h]
theorem w4q {a b : Int} (h : a = b) : (a == b) = true := by simp [h]
theorem v3f {a b : Int} (h : a ≠ b) : (a == b) = false := by simp [h]
theorem Yu (n : Nat) : Nat.beq n n = true := Nat.beq_refl n
theorem Zu (n : Nat) : Int.toNat (n : Int) = n := Int.toNat_natCast n
theorem Yc (b : Bool) : b = true ∨ b = false := by cases b <;> simp
theorem Yi {α : Type} [Xw α] {L : List α} {i : Nat} (h : i < L.length) : L.drop i = rd L i :: L.drop (i + 1) := by
 rw [Xj h]; exact List.drop_eq_getElem_cons h
theorem z1b {P : Program} {S : Specs} (hS : Zk P S) {f : FuncId} {F : List AVal → Option (AVal × Bool)} (hf : (P.funcs[f]?).any (fun fn => fn.body.isSome) = true)
  (hF : ∀ args v, F args = some (v, true) → ∃ bs vs, Wt VLe args bs ∧ Ks vs = v ∧ Je P (Zy P f) (Zf P f bs true []) vs ∧ ∃ d, pf d v = true) : Zk P (S.with f F) := x6a hS hf hF
end Go.Am
namespace Go.Am
open Go.Proofs
def x1f (out : List Int) (x : Int) : Nat → Nat
 | 0 => 0
 | k + 1 => bif decide (rd out k > x) then x1f out x k else k + 1
def y1h (out : List Int) (x : Int) : List Int :=
 match x1f out x out.length with
 | 0 => x :: out
 | k + 1 => bif rd out k == x then out else out.take (k + 1) ++ x :: out.drop (k + 1)
def z1o (l : List Int) : List Int := l.foldl y1h []
def Ji (l : List Int) : Bool := decide (l.length ≤ 100000)
theorem y1g (out : List Int) (x : Int) : (y1h out x).length ≤ out.length + 1 := by
 unfold y1h
 split
 ·simp
 ·rename_i k _
  cases (rd out k == x) <;> simp <;> omega
theorem y8d (out : List Int) (x : Int) (k : Nat) (hk : k ≤ out.length) :
  (y2p (out ++ [0]) (k + 1) (Nat.min (out.length + 1 - k) (out.length + 1 - (k + 1))) (Xe (out ++ [0]) k (out.length + 1 - k))).set k x = out.take k ++ x :: out.drop k := by
 have hm : Nat.min (out.length + 1 - k) (out.length + 1 - (k + 1)) = out.length - k := by
  show min _ _ = _
  omega
 rw [hm]
 apply List.ext_getElem
 ·simp [Uv]; omega
 ·intro i h1 h2
  have hi : i < out.length + 1 := by simpa [Uv] using h1
  rw [← Xj h1, ← Xj h2]
  rw [v1u (by simpa [Uv] using hi)]
  by_cases e : i = k
  ·subst e
   rw [if_pos rfl, Ve (by simp only [List.length_take]; omega), Xj (by simp; omega)]
   simp [Nat.min_eq_left hk]
  ·rw [if_neg e, w1r (by simpa using hi)]
   by_cases h : i < k
   ·rw [w9s (show ¬ k + 1 ≤ i by omega), Bool.false_and, cond_false, Vt (by omega), Vt (by simp; omega)]
    rw [Xj (by omega), Xj (by simp; omega), List.getElem_take]
   ·rw [w4p (show k + 1 ≤ i by omega), w4p (show i + 1 ≤ k + 1 + (out.length - k) by omega), Bool.true_and, cond_true, y5b (by omega), Vt (by omega)]
    rw [Ve (by simp; omega), Xj (by omega), Xj (by simp; omega)]
    obtain ⟨j, rfl⟩ : ∃ j, i = k + 1 + j := ⟨i - k - 1, by omega⟩
    simp only [List.length_take, Nat.min_eq_left hk]
    rw [List.getElem_cons, dif_neg (by omega), List.getElem_drop]
    congr 1
theorem x4j (l : List Int) (out : List Int) (i : Nat) (hi : i < l.length) (hl : l.length ≤ 100000) (ho : out.length ≤ i) : ∀ (k N : Nat), k ≤ out.length →
  (x1f out (rd l i) out.length = x1f out (rd l i) k) → ∃ m, ∀ N, Ya (Vq l) (N + m) (.to (.h1 out (i : Int) (k : Int))) = Ya (Vq l) N (.to (.h0 (y1h out (rd l i)) ((i + 1 : Nat) : Int)))
 | 0, N, hk, hp => by
  refine ⟨1, fun N => ?_⟩
  have hins : y1h out (rd l i) = (y2p (out ++ [0]) (0 + 1) (Nat.min (out.length + 1 - 0) (out.length + 1 - (0 + 1))) (Xe (out ++ [0]) 0 (out.length + 1 - 0))).set 0 (rd l i) := by
   rw [y8d out _ 0 (Nat.zero_le _)]
   unfold y1h
   rw [hp]; rfl
  rw [hins, Zv]
  simp (disch := omega) only [Vq, Zc, decide_true, Xy, Zs, Xq, Yy, Yq, Yw, Zr, Zj, Zx, Yu, Zu, Nat.zero_add, Bool.and_true, Bool.true_and, cond_true, cond_false]
 | k + 1, N, hk, hp => by
  rcases Yc (decide (rd out k > rd l i)) with h | h
  ·have hp' : x1f out (rd l i) out.length = x1f out (rd l i) k := by rw [hp]; conv => lhs; unfold x1f; rw [h, cond_true]
   obtain ⟨m, hm⟩ := x4j l out i hi hl ho k N (by omega) hp'
   refine ⟨m + 1, fun N => ?_⟩
   rw [← hm N, ← Nat.add_assoc, Zv]
   simp (disch := omega) only [Vq, Zo, h, Zc, decide_true, Yf, Zs, Xq, Yy, Yq, Yw, Zr, Zj, Zx, Yu, Zu, Nat.zero_add, Bool.and_true, Bool.true_and, cond_true, cond_false]
  ·have hpk : x1f out (rd l i) out.length = k + 1 := by rw [hp]; unfold x1f; rw [h]; rfl
   refine ⟨1, fun N => ?_⟩
   rw [Zv]
   rcases Yc (rd out k == rd l i) with q | q
   ·have hins : y1h out (rd l i) = out := by unfold y1h; rw [hpk]; simp only [q, cond_true]
    rw [hins]
    simp (disch := omega) only [Vq, Zo, h, q, Zc, decide_true, Yf, Zs, Xq, Yy, Yq, Yw, Zr, Zj, Zx, Yu, Zu, Nat.zero_add, Bool.and_true, Bool.true_and, cond_true, cond_false]
   ·have hins : y1h out (rd l i) = (y2p (out ++ [0]) (k + 1 + 1) (Nat.min (out.length + 1 - (k + 1)) (out.length + 1 - (k + 1 + 1))) (Xe (out ++ [0]) (k + 1) (out.length + 1 - (k + 1)))).set (k + 1) (rd l i) := by
     rw [y8d out _ (k + 1) hk]
     unfold y1h
     rw [hpk]; simp only [q, cond_false]
    rw [hins]
    simp (disch := omega) only [Vq, Zo, h, q, Zc, decide_true, Yf, Zs, Xq, Yy, Yq, Yw, Zr, Zj, Zx, Yu, Zu, Nat.zero_add, Bool.and_true, Bool.true_and, cond_true, cond_false]
theorem x4k (l : List Int) (hl : l.length ≤ 100000) : ∀ (k i : Nat) (out : List Int), i + k = l.length → out.length ≤ i → ∃ m, Ya (Vq l) m (.to (.h0 out (i : Int))) = .ret [.dat ((l.drop i).foldl y1h out).length (Zz ((l.drop i).foldl y1h out))]
 | 0, i, out, h, ho => by
  refine ⟨1, ?_⟩
  rw [Zv]
  simp (disch := omega) only [Vq, Yx, cond_false]
  rw [List.drop_eq_nil_of_le (by omega)]; rfl
 | k + 1, i, out, h, ho => by
  obtain ⟨m1, h1⟩ := x4j l out i (by omega) hl ho out.length 0 (Nat.le_refl _) rfl
  obtain ⟨m2, h2⟩ := x4k l hl k (i + 1) (y1h out (rd l i)) (by omega) (Nat.le_trans (y1g _ _) (by omega))
  refine ⟨m2 + m1 + 1, ?_⟩
  rw [Zv]
  simp (disch := omega) only [Vq, Zs, cond_true]
  rw [h1 m2, h2, Yi (show i < l.length by omega)]; rfl
theorem w0x (l : List Int) (h : Ji l = true) : ∃ N, Ya (Vq l) N (z2s l) = .ret [.dat (z1o l).length (Zz (z1o l))] := by
 have := x4k l (of_decide_eq_true h) l.length 0 [] (by omega) (Nat.le_refl _)
 simpa [z2s, z1o] using this
end Go.Am
namespace Go.Am
open Go.Proofs
theorem Ze (n : Nat) : Int.toNat ((n : Int) - 1) = n - 1 := by omega
theorem w7p (x y : R2) : ((x.a == y.a) && (x.b == y.b)) = decide (x = y) := by
 obtain ⟨a, b⟩ := x; obtain ⟨c, d⟩ := y
 rw [Bool.eq_iff_iff]; simp
theorem w7o (x y : R4) : ((x.a == y.a) && ((x.b == y.b) && ((x.c == y.c) && (x.d == y.d)))) = decide (x = y) := by
 obtain ⟨a, b, c, d⟩ := x; obtain ⟨e, f, g, h⟩ := y
 rw [Bool.eq_iff_iff]; simp
theorem w7n (x y : R6) : (((x.a == y.a) && ((x.b == y.b) && (x.c == y.c))) && ((x.d == y.d) && ((x.e == y.e) && (x.f == y.f)))) = decide (x = y) := by
 obtain ⟨a, b, c, d, e, f⟩ := x; obtain ⟨a', b', c', d', e', f'⟩ := y
 rw [Bool.eq_iff_iff]; simp [and_assoc]
def Jr (l m : List R2) : Bool := decide (l = m)
def Vs (l m : List R4) : Bool := decide (l = m)
def Jo (l m : List R6) : Bool := decide (l = m)
def Vj (l m : List R2) : Bool := decide (l.length ≤ 1000000)
def Ww (l m : List R4) : Bool := decide (l.length ≤ 1000000)
def Uw (l m : List R6) : Bool := decide (l.length ≤ 1000000)
theorem z3c {α : Type} [DecidableEq α] (x y : α) (l m : List α) : decide (x :: l = y :: m) = (decide (x = y) && decide (l = m)) := by
 rw [← Bool.decide_and]; congr 1; simp
theorem v1d (l m : List R2) (hl : l.length ≤ 1000000) (hm : l.length = m.length) : ∀ (k i : Nat), i + k = l.length → ∃ N, Ya (z3w l m) N (.to (.h0 (i : Int))) = .ret [.bool (decide (l.drop i = m.drop i))]
 | 0, i, h => by
  refine ⟨1, ?_⟩
  rw [Zv, List.drop_eq_nil_of_le (show l.length ≤ i by omega), List.drop_eq_nil_of_le (show m.length ≤ i by omega)]
  simp (disch := omega) only [z3w, Xy, Yf, Zs, Yx, Xq, Yy, Yq, Yw, Zr, Zj, Zc, Qj, Qk, decide_true, Zx, Zo, Ze, Yu, Zu, Nat.zero_add, Bool.and_true, Bool.true_and, cond_true, cond_false, Bool.not_true, Bool.not_false, Zp]
 | k + 1, i, h => by
  obtain ⟨N, hN⟩ := v1d l m hl hm k (i + 1) (by omega)
  refine ⟨N + 1, ?_⟩
  rw [Zv, Yi (show i < l.length by omega), Yi (show i < m.length by omega), z3c]
  rcases Yc (decide (rd l i = rd m i)) with q | q
  ·simp (disch := omega) only [z3w, w7p, q, Xy, Yf, Zs, Yx, Xq, Yy, Yq, Yw, Zr, Zj, Zc, Qj, Qk, decide_true, Zx, Zo, Ze, Yu, Zu, Nat.zero_add, Bool.and_true, Bool.true_and, cond_true, cond_false, Bool.not_true, Bool.not_false, Zp]
   exact hN
  ·simp (disch := omega) only [z3w, w7p, q, Xy, Yf, Zs, Yx, Xq, Yy, Yq, Yw, Zr, Zj, Zc, Qj, Qk, decide_true, Zx, Zo, Ze, Yu, Zu, Nat.zero_add, Bool.and_true, Bool.true_and, cond_true, cond_false, Bool.not_true, Bool.not_false, Zp, Bool.false_and]
theorem v4s (l m : List R2) (h : Vj l m = true) : ∃ N, Ya (z3w l m) N (z4q l m) = .ret [.bool (Jr l m)] := by
 have hl : l.length ≤ 1000000 := of_decide_eq_true h
 by_cases hm : l.length = m.length
 ·obtain ⟨N, hN⟩ := v1d l m hl hm l.length 0 (Nat.zero_add _)
  refine ⟨N, ?_⟩
  unfold z4q
  rw [Qk (show (l.length : Int) = (m.length : Nat) by omega)]
  exact hN
 ·refine ⟨0, ?_⟩
  unfold z4q
  rw [Qj (show (l.length : Int) ≠ (m.length : Nat) by omega)]
  have : Jr l m = false := decide_eq_false fun e => hm (by rw [e])
  rw [this]; rfl
theorem v1c (l m : List R4) (hl : l.length ≤ 1000000) (hm : l.length = m.length) : ∀ (k i : Nat), i + k = l.length → ∃ N, Ya (z3v l m) N (.to (.h0 (i : Int))) = .ret [.bool (decide (l.drop i = m.drop i))]
 | 0, i, h => by
  refine ⟨1, ?_⟩
  rw [Zv, List.drop_eq_nil_of_le (show l.length ≤ i by omega), List.drop_eq_nil_of_le (show m.length ≤ i by omega)]
  simp (disch := omega) only [z3v, Xy, Yf, Zs, Yx, Xq, Yy, Yq, Yw, Zr, Zj, Zc, Qj, Qk, decide_true, Zx, Zo, Ze, Yu, Zu, Nat.zero_add, Bool.and_true, Bool.true_and, cond_true, cond_false, Bool.not_true, Bool.not_false, Zp]
 | k + 1, i, h => by
  obtain ⟨N, hN⟩ := v1c l m hl hm k (i + 1) (by omega)
  refine ⟨N + 1, ?_⟩
  rw [Zv, Yi (show i < l.length by omega), Yi (show i < m.length by omega), z3c]
  rcases Yc (decide (rd l i = rd m i)) with q | q
  ·simp (disch := omega) only [z3v, w7o, q, Xy, Yf, Zs, Yx, Xq, Yy, Yq, Yw, Zr, Zj, Zc, Qj, Qk, decide_true, Zx, Zo, Ze, Yu, Zu, Nat.zero_add, Bool.and_true, Bool.true_and, cond_true, cond_false, Bool.not_true, Bool.not_false, Zp]
   exact hN
  ·simp (disch := omega) only [z3v, w7o, q, Xy, Yf, Zs, Yx, Xq, Yy, Yq, Yw, Zr, Zj, Zc, Qj, Qk, decide_true, Zx, Zo, Ze, Yu, Zu, Nat.zero_add, Bool.and_true, Bool.true_and, cond_true, cond_false, Bool.not_true, Bool.not_false, Zp, Bool.false_and]
theorem v4r (l m : List R4) (h : Ww l m = true) : ∃ N, Ya (z3v l m) N (z4p l m) = .ret [.bool (Vs l m)] := by
 have hl : l.length ≤ 1000000 := of_decide_eq_true h
 by_cases hm : l.length = m.length
 ·obtain ⟨N, hN⟩ := v1c l m hl hm l.length 0 (Nat.zero_add _)
  refine ⟨N, ?_⟩
  unfold z4p
  rw [Qk (show (l.length : Int) = (m.length : Nat) by omega)]
  exact hN
 ·refine ⟨0, ?_⟩
  unfold z4p
  rw [Qj (show (l.length : Int) ≠ (m.length : Nat) by omega)]
  have : Vs l m = false := decide_eq_false fun e => hm (by rw [e])
  rw [this]; rfl
theorem v1e (l m : List R6) (hl : l.length ≤ 1000000) (hm : l.length = m.length) : ∀ (k i : Nat), i + k = l.length → ∃ N, Ya (z3x l m) N (.to (.h0 (i : Int))) = .ret [.bool (decide (l.drop i = m.drop i))]
 | 0, i, h => by
  refine ⟨1, ?_⟩
  rw [Zv, List.drop_eq_nil_of_le (show l.length ≤ i by omega), List.drop_eq_nil_of_le (show m.length ≤ i by omega)]
  simp (disch := omega) only [z3x, Xy, Yf, Zs, Yx, Xq, Yy, Yq, Yw, Zr, Zj, Zc, Qj, Qk, decide_true, Zx, Zo, Ze, Yu, Zu, Nat.zero_add, Bool.and_true, Bool.true_and, cond_true, cond_false, Bool.not_true, Bool.not_false, Zp]
 | k + 1, i, h => by
  obtain ⟨N, hN⟩ := v1e l m hl hm k (i + 1) (by omega)
  refine ⟨N + 1, ?_⟩
  rw [Zv, Yi (show i < l.length by omega), Yi (show i < m.length by omega), z3c]
  rcases Yc (decide (rd l i = rd m i)) with q | q
  ·simp (disch := omega) only [z3x, w7n, q, Xy, Yf, Zs, Yx, Xq, Yy, Yq, Yw, Zr, Zj, Zc, Qj, Qk, decide_true, Zx, Zo, Ze, Yu, Zu, Nat.zero_add, Bool.and_true, Bool.true_and, cond_true, cond_false, Bool.not_true, Bool.not_false, Zp]
   exact hN
  ·simp (disch := omega) only [z3x, w7n, q, Xy, Yf, Zs, Yx, Xq, Yy, Yq, Yw, Zr, Zj, Zc, Qj, Qk, decide_true, Zx, Zo, Ze, Yu, Zu, Nat.zero_add, Bool.and_true, Bool.true_and, cond_true, cond_false, Bool.not_true, Bool.not_false, Zp, Bool.false_and]
theorem v4t (l m : List R6) (h : Uw l m = true) : ∃ N, Ya (z3x l m) N (z4r l m) = .ret [.bool (Jo l m)] := by
 have hl : l.length ≤ 1000000 := of_decide_eq_true h
 by_cases hm : l.length = m.length
 ·obtain ⟨N, hN⟩ := v1e l m hl hm l.length 0 (Nat.zero_add _)
  refine ⟨N, ?_⟩
  unfold z4r
  rw [Qk (show (l.length : Int) = (m.length : Nat) by omega)]
  exact hN
 ·refine ⟨0, ?_⟩
  unfold z4r
  rw [Qj (show (l.length : Int) ≠ (m.length : Nat) by omega)]
  have : Jo l m = false := decide_eq_false fun e => hm (by rw [e])
  rw [this]; rfl
theorem v2z (l m : List R2) (hl : l.length ≤ 1000000) (hm : l.length = m.length) : ∀ (k i : Nat), i + k = l.length → ∃ N, Ya (z4g l m) N (.to (.h0 (i : Int))) = .ret [.bool (decide (l.drop i = m.drop i))]
 | 0, i, h => by
  refine ⟨1, ?_⟩
  rw [Zv, List.drop_eq_nil_of_le (show l.length ≤ i by omega), List.drop_eq_nil_of_le (show m.length ≤ i by omega)]
  simp (disch := omega) only [z4g, Xy, Yf, Zs, Yx, Xq, Yy, Yq, Yw, Zr, Zj, Zc, Qj, Qk, decide_true, Zx, Zo, Ze, Yu, Zu, Nat.zero_add, Bool.and_true, Bool.true_and, cond_true, cond_false, Bool.not_true, Bool.not_false, Zp]
 | k + 1, i, h => by
  obtain ⟨N, hN⟩ := v2z l m hl hm k (i + 1) (by omega)
  refine ⟨N + 1, ?_⟩
  rw [Zv, Yi (show i < l.length by omega), Yi (show i < m.length by omega), z3c]
  rcases Yc (decide (rd l i = rd m i)) with q | q
  ·simp (disch := omega) only [z4g, w7p, q, Xy, Yf, Zs, Yx, Xq, Yy, Yq, Yw, Zr, Zj, Zc, Qj, Qk, decide_true, Zx, Zo, Ze, Yu, Zu, Nat.zero_add, Bool.and_true, Bool.true_and, cond_true, cond_false, Bool.not_true, Bool.not_false, Zp]
   exact hN
  ·simp (disch := omega) only [z4g, w7p, q, Xy, Yf, Zs, Yx, Xq, Yy, Yq, Yw, Zr, Zj, Zc, Qj, Qk, decide_true, Zx, Zo, Ze, Yu, Zu, Nat.zero_add, Bool.and_true, Bool.true_and, cond_true, cond_false, Bool.not_true, Bool.not_false, Zp, Bool.false_and]
theorem v7x (l m : List R2) (h : Vj l m = true) : ∃ N, Ya (z4g l m) N (z5p l m) = .ret [.bool (Jr l m)] := by
 have hl : l.length ≤ 1000000 := of_decide_eq_true h
 by_cases hm : l.length = m.length
 ·obtain ⟨N, hN⟩ := v2z l m hl hm l.length 0 (Nat.zero_add _)
  refine ⟨N, ?_⟩
  unfold z5p
  rw [Qk (show (l.length : Int) = (m.length : Nat) by omega)]
  exact hN
 ·refine ⟨0, ?_⟩
  unfold z5p
  rw [Qj (show (l.length : Int) ≠ (m.length : Nat) by omega)]
  have : Jr l m = false := decide_eq_false fun e => hm (by rw [e])
  rw [this]; rfl
theorem v2y (l m : List R4) (hl : l.length ≤ 1000000) (hm : l.length = m.length) : ∀ (k i : Nat), i + k = l.length → ∃ N, Ya (z4f l m) N (.to (.h0 (i : Int))) = .ret [.bool (decide (l.drop i = m.drop i))]
 | 0, i, h => by
  refine ⟨1, ?_⟩
  rw [Zv, List.drop_eq_nil_of_le (show l.length ≤ i by omega), List.drop_eq_nil_of_le (show m.length ≤ i by omega)]
  simp (disch := omega) only [z4f, Xy, Yf, Zs, Yx, Xq, Yy, Yq, Yw, Zr, Zj, Zc, Qj, Qk, decide_true, Zx, Zo, Ze, Yu, Zu, Nat.zero_add, Bool.and_true, Bool.true_and, cond_true, cond_false, Bool.not_true, Bool.not_false, Zp]
 | k + 1, i, h => by
  obtain ⟨N, hN⟩ := v2y l m hl hm k (i + 1) (by omega)
  refine ⟨N + 1, ?_⟩
  rw [Zv, Yi (show i < l.length by omega), Yi (show i < m.length by omega), z3c]
  rcases Yc (decide (rd l i = rd m i)) with q | q
  ·simp (disch := omega) only [z4f, w7o, q, Xy, Yf, Zs, Yx, Xq, Yy, Yq, Yw, Zr, Zj, Zc, Qj, Qk, decide_true, Zx, Zo, Ze, Yu, Zu, Nat.zero_add, Bool.and_true, Bool.true_and, cond_true, cond_false, Bool.not_true, Bool.not_false, Zp]
   exact hN
  ·simp (disch := omega) only [z4f, w7o, q, Xy, Yf, Zs, Yx, Xq, Yy, Yq, Yw, Zr, Zj, Zc, Qj, Qk, decide_true, Zx, Zo, Ze, Yu, Zu, Nat.zero_add, Bool.and_true, Bool.true_and, cond_true, cond_false, Bool.not_true, Bool.not_false, Zp, Bool.false_and]
theorem v7w (l m : List R4) (h : Ww l m = true) : ∃ N, Ya (z4f l m) N (z5o l m) = .ret [.bool (Vs l m)] := by
 have hl : l.length ≤ 1000000 := of_decide_eq_true h
 by_cases hm : l.length = m.length
 ·obtain ⟨N, hN⟩ := v2y l m hl hm l.length 0 (Nat.zero_add _)
  refine ⟨N, ?_⟩
  unfold z5o
  rw [Qk (show (l.length : Int) = (m.length : Nat) by omega)]
  exact hN
 ·refine ⟨0, ?_⟩
  unfold z5o
  rw [Qj (show (l.length : Int) ≠ (m.length : Nat) by omega)]
  have : Vs l m = false := decide_eq_false fun e => hm (by rw [e])
  rw [this]; rfl
theorem v2x (l m : List R6) (hl : l.length ≤ 1000000) (hm : l.length = m.length) : ∀ (k i : Nat), i + k = l.length → ∃ N, Ya (z4e l m) N (.to (.h0 (i : Int))) = .ret [.bool (decide (l.drop i = m.drop i))]
 | 0, i, h => by
  refine ⟨1, ?_⟩
  rw [Zv, List.drop_eq_nil_of_le (show l.length ≤ i by omega), List.drop_eq_nil_of_le (show m.length ≤ i by omega)]
  simp (disch := omega) only [z4e, Xy, Yf, Zs, Yx, Xq, Yy, Yq, Yw, Zr, Zj, Zc, Qj, Qk, decide_true, Zx, Zo, Ze, Yu, Zu, Nat.zero_add, Bool.and_true, Bool.true_and, cond_true, cond_false, Bool.not_true, Bool.not_false, Zp]
 | k + 1, i, h => by
  obtain ⟨N, hN⟩ := v2x l m hl hm k (i + 1) (by omega)
  refine ⟨N + 1, ?_⟩
  rw [Zv, Yi (show i < l.length by omega), Yi (show i < m.length by omega), z3c]
  rcases Yc (decide (rd l i = rd m i)) with q | q
  ·simp (disch := omega) only [z4e, w7n, q, Xy, Yf, Zs, Yx, Xq, Yy, Yq, Yw, Zr, Zj, Zc, Qj, Qk, decide_true, Zx, Zo, Ze, Yu, Zu, Nat.zero_add, Bool.and_true, Bool.true_and, cond_true, cond_false, Bool.not_true, Bool.not_false, Zp]
   exact hN
  ·simp (disch := omega) only [z4e, w7n, q, Xy, Yf, Zs, Yx, Xq, Yy, Yq, Yw, Zr, Zj, Zc, Qj, Qk, decide_true, Zx, Zo, Ze, Yu, Zu, Nat.zero_add, Bool.and_true, Bool.true_and, cond_true, cond_false, Bool.not_true, Bool.not_false, Zp, Bool.false_and]
theorem v7v (l m : List R6) (h : Uw l m = true) : ∃ N, Ya (z4e l m) N (z5n l m) = .ret [.bool (Jo l m)] := by
 have hl : l.length ≤ 1000000 := of_decide_eq_true h
 by_cases hm : l.length = m.length
 ·obtain ⟨N, hN⟩ := v2x l m hl hm l.length 0 (Nat.zero_add _)
  refine ⟨N, ?_⟩
  unfold z5n
  rw [Qk (show (l.length : Int) = (m.length : Nat) by omega)]
  exact hN
 ·refine ⟨0, ?_⟩
  unfold z5n
  rw [Qj (show (l.length : Int) ≠ (m.length : Nat) by omega)]
  have : Jo l m = false := decide_eq_false fun e => hm (by rw [e])
  rw [this]; rfl
def in4 (x y : Int) (r : R4) : Bool := decide (r.a ≤ x) && (decide (x < r.c) && (decide (r.b ≤ y) && decide (y < r.d)))
def has4V (l : List R4) (x y : Int) : Bool := l.any (in4 x y)
def Kf (l : List R4) (x y : Int) : Bool := decide (l.length ≤ 1000000)
theorem w1i (l : List R4) (x y : Int) (hl : l.length ≤ 1000000) : ∀ (k i : Nat), i + k = l.length → ∃ N, Ya (z2u l x y) N (.to (.h0 (i : Int))) = .ret [.bool ((l.drop i).any (in4 x y))]
 | 0, i, h => by
  refine ⟨1, ?_⟩
  rw [Zv, List.drop_eq_nil_of_le (show l.length ≤ i by omega)]
  simp (disch := omega) only [z2u, Xy, Yf, Zs, Yx, Xq, Yy, Yq, Yw, Zr, Zj, Zc, Qj, Qk, decide_true, Zx, Zo, Ze, Yu, Zu, Nat.zero_add, Bool.and_true, Bool.true_and, cond_true, cond_false, Bool.not_true, Bool.not_false, Zp]
  rfl
 | k + 1, i, h => by
  obtain ⟨N, hN⟩ := w1i l x y hl k (i + 1) (by omega)
  refine ⟨N + 1, ?_⟩
  rw [Zv, Yi (show i < l.length by omega), List.any_cons]
  unfold in4 at hN ⊢
  rcases Yc (decide ((rd l i).a ≤ x)) with q1 | q1 <;> rcases Yc (decide (x < (rd l i).c)) with q2 | q2 <;> rcases Yc (decide ((rd l i).b ≤ y)) with q3 | q3 <;> rcases Yc (decide (y < (rd l i).d)) with q4 | q4 <;>
   simp (disch := omega) only [z2u, q1, q2, q3, q4, Xy, Yf, Zs, Yx, Xq, Yy, Yq, Yw, Zr, Zj, Zc, Qj, Qk, decide_true, Zx, Zo, Ze, Yu, Zu, Nat.zero_add, Bool.and_true, Bool.true_and, cond_true, cond_false, Bool.not_true, Bool.not_false, Zp, Bool.false_and, Bool.and_false, Bool.false_or, Bool.true_or] <;> exact hN
theorem w6v (l : List R4) (x y : Int) (h : Kf l x y = true) : ∃ N, Ya (z2u l x y) N (z4v l x y) = .ret [.bool (has4V l x y)] := by
 have := w1i l x y (of_decide_eq_true h) l.length 0 (Nat.zero_add _)
 simpa [z4v, has4V] using this
def on6 (z : Int) (b : R6) : Bool := decide (b.c ≤ z) && decide (z < b.f)
def v6r (b : R6) : R4 := ⟨b.a, b.b, b.d, b.e⟩
def atV (l : List R6) (z : Int) : List R4 := (l.filter (on6 z)).map v6r
def z3h (l : List R6) (z : Int) : Bool := decide (l.length ≤ 1000000)
theorem w2a (l : List R6) (z : Int) (hl : l.length ≤ 1000000) : ∀ (k i : Nat) (out : List R4), i + k = l.length → out.length ≤ i → ∃ N, Ya (z3z l z) N (.to (.h0 out (i : Int))) = .ret [.dat (out ++ atV (l.drop i) z).length (Zz (out ++ atV (l.drop i) z))]
 | 0, i, out, h, ho => by
  refine ⟨1, ?_⟩
  rw [Zv, List.drop_eq_nil_of_le (show l.length ≤ i by omega)]
  simp (disch := omega) only [z3z, Xy, Yf, Zs, Yx, Xq, Yy, Yq, Yw, Zr, Zj, Zc, Qj, Qk, decide_true, Zx, Zo, Ze, Yu, Zu, Nat.zero_add, Bool.and_true, Bool.true_and, cond_true, cond_false, Bool.not_true, Bool.not_false, Zp, atV, List.filter_nil, List.map_nil, List.append_nil]
 | k + 1, i, out, h, ho => by
  rw [Yi (show i < l.length by omega)]
  have e : atV (rd l i :: l.drop (i + 1)) z = (bif on6 z (rd l i) then [v6r (rd l i)] else []) ++ atV (l.drop (i + 1)) z := by
   unfold atV; rw [List.filter_cons]; cases on6 z (rd l i) <;> rfl
  rw [e, ← List.append_assoc]
  rcases Yc (decide ((rd l i).c ≤ z)) with q1 | q1 <;> rcases Yc (decide (z < (rd l i).f)) with q2 | q2
  ·obtain ⟨N, hN⟩ := w2a l z hl k (i + 1) (out ++ [v6r (rd l i)]) (by omega) (by simp; omega)
   refine ⟨N + 1, ?_⟩
   rw [Zv]
   simp (disch := omega) only [z3z, q1, q2, on6, Xy, Yf, Zs, Yx, Xq, Yy, Yq, Yw, Zr, Zj, Zc, Qj, Qk, decide_true, Zx, Zo, Ze, Yu, Zu, Nat.zero_add, Bool.and_true, Bool.true_and, cond_true, cond_false, Bool.not_true, Bool.not_false, Zp]
   exact hN
  all_goals
   obtain ⟨N, hN⟩ := w2a l z hl k (i + 1) out (by omega) (by omega)
   refine ⟨N + 1, ?_⟩
   rw [Zv]
   simp (disch := omega) only [z3z, q1, q2, on6, Xy, Yf, Zs, Yx, Xq, Yy, Yq, Yw, Zr, Zj, Zc, Qj, Qk, decide_true, Zx, Zo, Ze, Yu, Zu, Nat.zero_add, Bool.and_true, Bool.true_and, cond_true, cond_false, Bool.not_true, Bool.not_false, Zp, Bool.false_and, Bool.and_false, List.append_nil]
   exact hN
theorem v5p (l : List R6) (z : Int) (h : z3h l z = true) : ∃ N, Ya (z3z l z) N (z9d l z) = .ret [.dat (atV l z).length (Zz (atV l z))] := by
 have := w2a l z (of_decide_eq_true h) l.length 0 [] (Nat.zero_add _) (Nat.le_refl _)
 simpa [z9d] using this
def x9n (cuts : List Int) (ins : List Bool) : Nat → Nat → List R2 → List R2
 | 0, _, out => out
 | k + 1, i, out => x9n cuts ins k (i + 1) (bif rd ins i then (bif decide (0 < out.length) && ((rd out (out.length - 1)).b == rd cuts i) then out.set (out.length - 1) ⟨(rd out (out.length - 1)).a, rd cuts (i + 1)⟩ else out ++ [⟨rd cuts i, rd cuts (i + 1)⟩]) else out)
def z8a (cuts : List Int) (ins : List Bool) : List R2 := x9n cuts ins (cuts.length - 1) 0 []
def z5x (cuts : List Int) (ins : List Bool) : Bool := decide (cuts.length ≤ 1000000 ∧ cuts.length ≤ ins.length + 1)
theorem y5c (cuts : List Int) (ins : List Bool) (hl : cuts.length ≤ 1000000) (hi : cuts.length ≤ ins.length + 1) : ∀ (k i : Nat) (out : List R2), k = cuts.length - 1 - i → i ≤ cuts.length → out.length ≤ i → ∃ N, Ya (Kq cuts ins) N (.to (.h0 out (i : Int))) = .ret [.dat (x9n cuts ins k i out).length (Zz (x9n cuts ins k i out))]
 | 0, i, out, h, hi2, ho => by
  refine ⟨1, ?_⟩
  rw [Zv]
  simp (disch := omega) only [Kq, Xy, Yf, Zs, Yx, Xq, Yy, Yq, Yw, Zr, Zj, Zc, Qj, Qk, decide_true, Zx, Zo, Ze, Yu, Zu, Nat.zero_add, Bool.and_true, Bool.true_and, cond_true, cond_false, Bool.not_true, Bool.not_false, Zp, x9n]
 | k + 1, i, out, h, hi2, ho => by
  unfold x9n
  rcases Yc (rd ins i) with q | q
  ·rcases Yc (decide (0 < out.length) && ((rd out (out.length - 1)).b == rd cuts i)) with q2 | q2
   ·obtain ⟨N, hN⟩ := y5c cuts ins hl hi k (i + 1) (out.set (out.length - 1) ⟨(rd out (out.length - 1)).a, rd cuts (i + 1)⟩) (by omega) (by omega) (by simp; omega)
    refine ⟨N + 1, ?_⟩
    rw [Zv, q, q2]
    simp only [Bool.and_eq_true, decide_eq_true_eq] at q2
    simp (disch := omega) only [Kq, q, q2.2, Xy, Yf, Zs, Yx, Xq, Yy, Yq, Yw, Zr, Zj, Zc, Qj, Qk, decide_true, Zx, Zo, Ze, Yu, Zu, Nat.zero_add, Bool.and_true, Bool.true_and, cond_true, cond_false, Bool.not_true, Bool.not_false, Zp]
    exact hN
   ·obtain ⟨N, hN⟩ := y5c cuts ins hl hi k (i + 1) (out ++ [⟨rd cuts i, rd cuts (i + 1)⟩]) (by omega) (by omega) (by simp; omega)
    refine ⟨N + 1, ?_⟩
    rw [Zv, q, q2]
    by_cases h0 : 0 < out.length
    ·rw [decide_eq_true h0, Bool.true_and] at q2
     simp (disch := omega) only [Kq, q, q2, Xy, Yf, Zs, Yx, Xq, Yy, Yq, Yw, Zr, Zj, Zc, Qj, Qk, decide_true, Zx, Zo, Ze, Yu, Zu, Nat.zero_add, Bool.and_true, Bool.true_and, cond_true, cond_false, Bool.not_true, Bool.not_false, Zp]
     exact hN
    ·simp (disch := omega) only [Kq, q, Xy, Yf, Zs, Yx, Xq, Yy, Yq, Yw, Zr, Zj, Zc, Qj, Qk, decide_true, Zx, Zo, Ze, Yu, Zu, Nat.zero_add, Bool.and_true, Bool.true_and, cond_true, cond_false, Bool.not_true, Bool.not_false, Zp]
     exact hN
  ·obtain ⟨N, hN⟩ := y5c cuts ins hl hi k (i + 1) out (by omega) (by omega) (by omega)
   refine ⟨N + 1, ?_⟩
   rw [Zv, q]
   simp (disch := omega) only [Kq, q, Xy, Yf, Zs, Yx, Xq, Yy, Yq, Yw, Zr, Zj, Zc, Qj, Qk, decide_true, Zx, Zo, Ze, Yu, Zu, Nat.zero_add, Bool.and_true, Bool.true_and, cond_true, cond_false, Bool.not_true, Bool.not_false, Zp]
   exact hN
theorem w7j (cuts : List Int) (ins : List Bool) (h : z5x cuts ins = true) : ∃ N, Ya (Kq cuts ins) N (z5b cuts ins) = .ret [.dat (z8a cuts ins).length (Zz (z8a cuts ins))] := by
 obtain ⟨h1, h2⟩ := of_decide_eq_true h
 have := y5c cuts ins h1 h2 (cuts.length - 1) 0 [] (by omega) (Nat.zero_le _) (Nat.le_refl _)
 simpa [z5b, z8a] using this
end Go.Am
namespace Go.Am
abbrev w2n : Nat := 70
abbrev v2p : Nat := 142
abbrev v2h : Nat := 169
abbrev v2o : Nat := 167
abbrev nHas4 : Nat := 168
abbrev v2g : Nat := 128
abbrev nXs : Nat := 165
abbrev nYs : Nat := 166
abbrev v2n : Nat := 126
abbrev v2f : Nat := 20
abbrev nAt : Nat := 127
abbrev nCuts : Nat := 125
abbrev v2m : Nat := 72
abbrev w2r : Nat := 53
abbrev nEq2 : Nat := 188
abbrev nEq4 : Nat := 172
abbrev nEq6 : Nat := 99
abbrev v2e : Nat := 200
abbrev x5d : Nat := 201
abbrev nSort : Nat := 63
abbrev x5e : Nat := 64
abbrev nFst : Nat := 187
abbrev y7s : Nat := 157
abbrev x5b : Nat := 65
abbrev w2q : Nat := 121
abbrev x4z : Nat := 120
abbrev x4y : Nat := 94
abbrev w2p : Nat := 87
abbrev y7t : Nat := 51
abbrev w2t : Nat := 82
abbrev v2j : Nat := 83
abbrev w2s : Nat := 85
abbrev v2i : Nat := 84
abbrev nCont : Nat := 88
abbrev nRel : Nat := 81
abbrev v2l : Nat := 35
abbrev nORel : Nat := 30
-- not there: gambrel/occlude.Near
abbrev v2k : Nat := 31
abbrev nOCov : Nat := 32
abbrev x5c : Nat := 75
abbrev x5f : Nat := 27
abbrev x4x : Nat := 191
abbrev nSpU1 : Nat := 164
abbrev nSpE1 : Nat := 170
abbrev nSpD1 : Nat := 163
abbrev nSpU : Nat := 124
abbrev nSpE : Nat := 129
abbrev nSpD : Nat := 123
abbrev x5a : Nat := 189
abbrev nRgU : Nat := 67
abbrev nRgE : Nat := 79
abbrev nRgD : Nat := 66
abbrev nSlU : Nat := 34
abbrev nSlE : Nat := 28
abbrev nSlD : Nat := 29
abbrev w2o : Nat := 33
end Go.Am
namespace Go.Am
open Go.Proofs
def Qn (k : Int) (a b : Bool) : Bool := bif k == 1 then a && b else bif k == 2 then a || b else a && !b
def x5o (a b : Bool) : Bool := a
theorem v6n (k : Int) (a b : Bool) : ∃ N, Ya (x2f k a b) N (z9n k a b) = .ret [.bool (Qn k a b)] := by
 refine ⟨0, ?_⟩
 unfold z9n Qn
 cases a <;> cases b <;> rcases Yc (k == 1) with q | q <;> rcases Yc (k == 2) with q2 | q2 <;> rw [q] <;> (try rw [q2]) <;> rfl
theorem v6p (a b : Bool) : ∃ N, Ya (x2k a b) N (y5p a b) = .ret [.bool (x5o a b)] := ⟨0, rfl⟩
def fSrt : List AVal → Option (AVal × Bool)
 | [a0] => match asL Int a0 with
  | some (L0, g0, n0) => some (.dat (z1o L0).length (Zz (z1o L0)), isT Int n0 g0 && (Ji L0))
  | _ => none
 | _ => none
theorem v6x {S : Specs} (hS : Zk Tryz.prog S) : Zk Tryz.prog (S.with w2n fSrt) := by
 refine z1b hS (by kernel_rfl) fun args v h => ?_
 unfold fSrt at h
 split at h
 ·rename_i a0
  split at h
  ·rename_i L0 g0 n0 e0
   simp only [Option.some.injEq, Prod.mk.injEq, Bool.and_eq_true] at h
   obtain ⟨rfl, ho0, hw⟩ := h
   obtain ⟨N, hN⟩ := w0x L0 hw
   exact ⟨_, _, (.cons (asL_le e0 ho0) .nil), rfl, x7a L0 N _ hN, 3, rfl⟩
  ·cases h
 ·cases h
def fCan : List AVal → Option (AVal × Bool)
 | [a0, a1] => match asL Int a0, asL Bool a1 with
  | some (L0, g0, n0), some (L1, g1, n1) => some (.dat (z8a L0 L1).length (Zz (z8a L0 L1)), isT Int n0 g0 && (isT Bool n1 g1 && (z5x L0 L1)))
  | _, _ => none
 | _ => none
theorem v7t {S : Specs} (hS : Zk Tryz.prog S) : Zk Tryz.prog (S.with v2p fCan) := by
 refine z1b hS (by kernel_rfl) fun args v h => ?_
 unfold fCan at h
 split at h
 ·rename_i a0 a1
  split at h
  ·rename_i L0 g0 n0 L1 g1 n1 e0 e1
   simp only [Option.some.injEq, Prod.mk.injEq, Bool.and_eq_true] at h
   obtain ⟨rfl, ho0, ho1, hw⟩ := h
   obtain ⟨N, hN⟩ := w7j L0 L1 hw
   exact ⟨_, _, (.cons (asL_le e0 ho0) (.cons (asL_le e1 ho1) .nil)), rfl, w1z L0 L1 N _ hN, 3, rfl⟩
  ·cases h
 ·cases h
def y3w : List AVal → Option (AVal × Bool)
 | [a0, a1] => match asL R2 a0, asL R2 a1 with
  | some (L0, g0, n0), some (L1, g1, n1) => some (.bool (Jr L0 L1), isT R2 n0 g0 && (isT R2 n1 g1 && (Vj L0 L1)))
  | _, _ => none
 | _ => none
theorem w3q {S : Specs} (hS : Zk Tryz.prog S) : Zk Tryz.prog (S.with v2h y3w) := by
 refine z1b hS (by kernel_rfl) fun args v h => ?_
 unfold y3w at h
 split at h
 ·rename_i a0 a1
  split at h
  ·rename_i L0 g0 n0 L1 g1 n1 e0 e1
   simp only [Option.some.injEq, Prod.mk.injEq, Bool.and_eq_true] at h
   obtain ⟨rfl, ho0, ho1, hw⟩ := h
   obtain ⟨N, hN⟩ := v4s L0 L1 hw
   exact ⟨_, _, (.cons (asL_le e0 ho0) (.cons (asL_le e1 ho1) .nil)), rfl, w6p L0 L1 N _ hN, 3, rfl⟩
  ·cases h
 ·cases h
def y3v : List AVal → Option (AVal × Bool)
 | [a0, a1] => match asL R4 a0, asL R4 a1 with
  | some (L0, g0, n0), some (L1, g1, n1) => some (.bool (Vs L0 L1), isT R4 n0 g0 && (isT R4 n1 g1 && (Ww L0 L1)))
  | _, _ => none
 | _ => none
theorem w3p {S : Specs} (hS : Zk Tryz.prog S) : Zk Tryz.prog (S.with v2g y3v) := by
 refine z1b hS (by kernel_rfl) fun args v h => ?_
 unfold y3v at h
 split at h
 ·rename_i a0 a1
  split at h
  ·rename_i L0 g0 n0 L1 g1 n1 e0 e1
   simp only [Option.some.injEq, Prod.mk.injEq, Bool.and_eq_true] at h
   obtain ⟨rfl, ho0, ho1, hw⟩ := h
   obtain ⟨N, hN⟩ := v4r L0 L1 hw
   exact ⟨_, _, (.cons (asL_le e0 ho0) (.cons (asL_le e1 ho1) .nil)), rfl, w6o L0 L1 N _ hN, 3, rfl⟩
  ·cases h
 ·cases h
def y3u : List AVal → Option (AVal × Bool)
 | [a0, a1] => match asL R6 a0, asL R6 a1 with
  | some (L0, g0, n0), some (L1, g1, n1) => some (.bool (Jo L0 L1), isT R6 n0 g0 && (isT R6 n1 g1 && (Uw L0 L1)))
  | _, _ => none
 | _ => none
theorem w3o {S : Specs} (hS : Zk Tryz.prog S) : Zk Tryz.prog (S.with v2f y3u) := by
 refine z1b hS (by kernel_rfl) fun args v h => ?_
 unfold y3u at h
 split at h
 ·rename_i a0 a1
  split at h
  ·rename_i L0 g0 n0 L1 g1 n1 e0 e1
   simp only [Option.some.injEq, Prod.mk.injEq, Bool.and_eq_true] at h
   obtain ⟨rfl, ho0, ho1, hw⟩ := h
   obtain ⟨N, hN⟩ := v4t L0 L1 hw
   exact ⟨_, _, (.cons (asL_le e0 ho0) (.cons (asL_le e1 ho1) .nil)), rfl, w6q L0 L1 N _ hN, 3, rfl⟩
  ·cases h
 ·cases h
def v7n : List AVal → Option (AVal × Bool)
 | [a0, .int .i64 x1, .int .i64 x2] => match asL R4 a0 with
  | some (L0, g0, n0) => some (.bool (has4V L0 x1 x2), isT R4 n0 g0 && (Kf L0 x1 x2))
  | _ => none
 | _ => none
theorem w9b {S : Specs} (hS : Zk Tryz.prog S) : Zk Tryz.prog (S.with nHas4 v7n) := by
 refine z1b hS (by kernel_rfl) fun args v h => ?_
 unfold v7n at h
 split at h
 ·rename_i a0 x1 x2
  split at h
  ·rename_i L0 g0 n0 e0
   simp only [Option.some.injEq, Prod.mk.injEq, Bool.and_eq_true] at h
   obtain ⟨rfl, ho0, hw⟩ := h
   obtain ⟨N, hN⟩ := w6v L0 x1 x2 hw
   exact ⟨_, _, (.cons (asL_le e0 ho0) (.cons (.refl _) (.cons (.refl _) .nil))), rfl, w1j L0 x1 x2 N _ hN, 3, rfl⟩
  ·cases h
 ·cases h
def fAt : List AVal → Option (AVal × Bool)
 | [a0, .int .i64 x1] => match asL R6 a0 with
  | some (L0, g0, n0) => some (.dat (atV L0 x1).length (Zz (atV L0 x1)), isT R6 n0 g0 && (z3h L0 x1))
  | _ => none
 | _ => none
theorem fAt_ok {S : Specs} (hS : Zk Tryz.prog S) : Zk Tryz.prog (S.with nAt fAt) := by
 refine z1b hS (by kernel_rfl) fun args v h => ?_
 unfold fAt at h
 split at h
 ·rename_i a0 x1
  split at h
  ·rename_i L0 g0 n0 e0
   simp only [Option.some.injEq, Prod.mk.injEq, Bool.and_eq_true] at h
   obtain ⟨rfl, ho0, hw⟩ := h
   obtain ⟨N, hN⟩ := v5p L0 x1 hw
   exact ⟨_, _, (.cons (asL_le e0 ho0) (.cons (.refl _) .nil)), rfl, w7k L0 x1 N _ hN, 3, rfl⟩
  ·cases h
 ·cases h
def w3t : List AVal → Option (AVal × Bool)
 | [.int .i64 x0, .bool b1, .bool b2] => some (.bool (Qn x0 b1 b2), true)
 | _ => none
theorem w3s {S : Specs} (hS : Zk Tryz.prog S) : Zk Tryz.prog (S.with v2o w3t) := by
 refine z1b hS (by kernel_rfl) fun args v h => ?_
 unfold w3t at h
 split at h
 ·rename_i x0 b1 b2
  simp only [Option.some.injEq, Prod.mk.injEq, and_true] at h
  subst h
  obtain ⟨N, hN⟩ := v6n x0 b1 b2
  exact ⟨_, _, (.cons (.refl _) (.cons (.refl _) (.cons (.refl _) .nil))), rfl, w8t x0 b1 b2 N _ hN, 3, rfl⟩
 ·cases h
def fFst : List AVal → Option (AVal × Bool)
 | [.bool b0, .bool b1] => some (.bool (x5o b0 b1), true)
 | _ => none
theorem v7p {S : Specs} (hS : Zk Tryz.prog S) : Zk Tryz.prog (S.with nFst fFst) := by
 refine z1b hS (by kernel_rfl) fun args v h => ?_
 unfold fFst at h
 split at h
 ·rename_i b0 b1
  simp only [Option.some.injEq, Prod.mk.injEq, and_true] at h
  subst h
  obtain ⟨N, hN⟩ := v6p b0 b1
  exact ⟨_, _, (.cons (.refl _) (.cons (.refl _) .nil)), rfl, w8v b0 b1 N _ hN, 3, rfl⟩
 ·cases h
theorem x8m {S : Specs} (hS : Zk Tryz.prog S) : Zk Tryz.prog (S.with nEq2 y3w) := by
 refine z1b hS (by kernel_rfl) fun args v h => ?_
 unfold y3w at h
 split at h
 ·rename_i a0 a1
  split at h
  ·rename_i L0 g0 n0 L1 g1 n1 e0 e1
   simp only [Option.some.injEq, Prod.mk.injEq, Bool.and_eq_true] at h
   obtain ⟨rfl, ho0, ho1, hw⟩ := h
   obtain ⟨N, hN⟩ := v7x L0 L1 hw
   exact ⟨_, _, (.cons (asL_le e0 ho0) (.cons (asL_le e1 ho1) .nil)), rfl, w9h L0 L1 N _ hN, 3, rfl⟩
  ·cases h
 ·cases h
theorem x8l {S : Specs} (hS : Zk Tryz.prog S) : Zk Tryz.prog (S.with nEq4 y3v) := by
 refine z1b hS (by kernel_rfl) fun args v h => ?_
 unfold y3v at h
 split at h
 ·rename_i a0 a1
  split at h
  ·rename_i L0 g0 n0 L1 g1 n1 e0 e1
   simp only [Option.some.injEq, Prod.mk.injEq, Bool.and_eq_true] at h
   obtain ⟨rfl, ho0, ho1, hw⟩ := h
   obtain ⟨N, hN⟩ := v7w L0 L1 hw
   exact ⟨_, _, (.cons (asL_le e0 ho0) (.cons (asL_le e1 ho1) .nil)), rfl, w9g L0 L1 N _ hN, 3, rfl⟩
  ·cases h
 ·cases h
theorem x8k {S : Specs} (hS : Zk Tryz.prog S) : Zk Tryz.prog (S.with nEq6 y3u) := by
 refine z1b hS (by kernel_rfl) fun args v h => ?_
 unfold y3u at h
 split at h
 ·rename_i a0 a1
  split at h
  ·rename_i L0 g0 n0 L1 g1 n1 e0 e1
   simp only [Option.some.injEq, Prod.mk.injEq, Bool.and_eq_true] at h
   obtain ⟨rfl, ho0, ho1, hw⟩ := h
   obtain ⟨N, hN⟩ := v7v L0 L1 hw
   exact ⟨_, _, (.cons (asL_le e0 ho0) (.cons (asL_le e1 ho1) .nil)), rfl, w9f L0 L1 N _ hN, 3, rfl⟩
  ·cases h
 ·cases h
def T1 : Specs := ((((((((((((noSpecs.with w2n fSrt).with v2p fCan).with v2h y3w).with v2g y3v).with v2f y3u).with nHas4 v7n).with nAt fAt).with v2o w3t).with nFst fFst).with nEq2 y3w).with nEq4 y3v).with nEq6 y3u)
theorem z1n : Zk Tryz.prog T1 := x8k (x8l (x8m (v7p (w3s (fAt_ok (w9b (w3o (w3p (w3q (v7t (v6x Zm)))))))))))
end Go.Am
namespace Go.Am
open Go.Proofs
inductive rxsS where
 | h0 (v5 : List Int) (v6 : Int)
 | h1 (v5 : List Int) (v7 : Int)
def rxsC (l0 : List R4) (l1 : List R4) : rxsS → Cfg
 | .h0 v5 v6 => ⟨⟨48, 0, true⟩, none, (Za Tryz.prog 165 [1, 1, 0, 1, 0, 0] 0), none, (Zy Tryz.prog 5), ⟨Ym [(0, (.dat l0.length (Zz l0))), (1, (.dat l1.length (Zz l1))), (5, (.sla 0 1 0 v5.length (.un 1))), (6, (ii v6))], Jw [⟨Yg v5.length (Zz v5), 3, some ⟨1, v5.length, (Zz v5)⟩⟩] 0, 1, [], true⟩, [], .leaf⟩
 | .h1 v5 v7 => ⟨⟨48, 0, true⟩, none, (Za Tryz.prog 165 [1, 1, 1, 0, 1, 0, 0] 0), none, (Zy Tryz.prog 5), ⟨Ym [(1, (.dat l1.length (Zz l1))), (5, (.sla 0 1 0 v5.length (.un 1))), (7, (ii v7))], Jw [⟨Yg v5.length (Zz v5), 3, some ⟨1, v5.length, (Zz v5)⟩⟩] 0, 1, [], true⟩, [], .leaf⟩
def rxsN0 : List (Option (List Nat)) := [some [0, 1, 5, 6]]
def rxsM0 : List (Option (List Nat)) := []
def rxsN1 : List (Option (List Nat)) := [some [1, 5, 7]]
def rxsM1 : List (Option (List Nat)) := []
def z0w (l0 : List R4) (l1 : List R4) : rxsS → Xo rxsS
 | .h0 v5 v6 => (bif (decide (v6 < (l0.length : Int))) then (bif ((decide (0 ≤ v6 ∧ v6 < (l0.length : Int))) && true) then (bif (Nat.beq 1 1 && ((decide (0 + v5.length = v5.length)) && decide ((v5.length + 2 + 1) * (8 + 1) ≤ Ur))) then (.to (.h0 (v5 ++ [(rd l0 v6.toNat).a, (rd l0 v6.toNat).c]) (IntKind.wrap .i64 (v6 + 1)))) else .stuck) else .stuck) else (.to (.h1 v5 0)))
 | .h1 v5 v7 => (bif (decide (v7 < (l1.length : Int))) then (bif ((decide (0 ≤ v7 ∧ v7 < (l1.length : Int))) && true) then (bif (Nat.beq 1 1 && ((decide (0 + v5.length = v5.length)) && decide ((v5.length + 2 + 1) * (8 + 1) ≤ Ur))) then (.to (.h1 (v5 ++ [(rd l1 v7.toNat).a, (rd l1 v7.toNat).c]) (IntKind.wrap .i64 (v7 + 1)))) else .stuck) else .stuck) else (bif (Ji (cvT v5)) then (.ret [(.dat (z1o (cvT v5)).length (Zz (z1o (cvT v5))))]) else .stuck))
def z8v (l0 : List R4) (l1 : List R4) : Xo rxsS := (.to (.h0 ([] : List Int) 0))
theorem x6y (l0 : List R4) (l1 : List R4) : ∀ s, Xn Tryz.prog (Zy Tryz.prog 165) (rxsC l0 l1) (rxsC l0 l1 s) (z0w l0 l1 s)
 | .h0 v5 v6 => (lb (fun k0 => (lo fun o0 => (lo fun o1 => (sl z1n 20 [] ⟨[2], [], rxsN0, rxsM0⟩ ⟨[(5, .len (v5 ++ [(rd l0 (tn v6)).a, (rd l0 (tn v6)).c]).length)], [.rowed 1 (v5 ++ [(rd l0 (tn v6)).a, (rd l0 (tn v6)).c]).length (Zz (v5 ++ [(rd l0 (tn v6)).a, (rd l0 (tn v6)).c]))], []⟩ [true] (pp (xL (v5.length + 2) (v5 ++ [(rd l0 (tn v6)).a, (rd l0 (tn v6)).c]).length) (pp (xL (v5.length + 2) (v5 ++ [(rd l0 (tn v6)).a, (rd l0 (tn v6)).c]).length) (pp (xS (v5.length + 2) (Zd (Zz v5) 0 v5.length 1 [(ii (rd l0 (tn v6)).a), (ii (rd l0 (tn v6)).c)]) (Zz (v5 ++ [(rd l0 (tn v6)).a, (rd l0 (tn v6)).c]))) (pp (pp (xF (Zd (Zz v5) 0 v5.length 1 [(ii (rd l0 (tn v6)).a), (ii (rd l0 (tn v6)).c)])) nn) (ww o1 (ww o0 (ww o0 (tt k0 nn)))))))))))) (fun k0 => (sl z1n 17 [] ⟨[0], [], rxsN1, rxsM1⟩ ⟨[], [], []⟩ [false] (pp (fl v5 nn) (tt k0 nn)))))
 | .h1 v5 v7 => (lb (fun k0 => (lo fun o0 => (lo fun o1 => (sl z1n 20 [] ⟨[2], [], rxsN1, rxsM1⟩ ⟨[(5, .len (v5 ++ [(rd l1 (tn v7)).a, (rd l1 (tn v7)).c]).length)], [.rowed 1 (v5 ++ [(rd l1 (tn v7)).a, (rd l1 (tn v7)).c]).length (Zz (v5 ++ [(rd l1 (tn v7)).a, (rd l1 (tn v7)).c]))], []⟩ [true] (pp (xL (v5.length + 2) (v5 ++ [(rd l1 (tn v7)).a, (rd l1 (tn v7)).c]).length) (pp (xL (v5.length + 2) (v5 ++ [(rd l1 (tn v7)).a, (rd l1 (tn v7)).c]).length) (pp (xS (v5.length + 2) (Zd (Zz v5) 0 v5.length 1 [(ii (rd l1 (tn v7)).a), (ii (rd l1 (tn v7)).c)]) (Zz (v5 ++ [(rd l1 (tn v7)).a, (rd l1 (tn v7)).c]))) (pp (pp (xF (Zd (Zz v5) 0 v5.length 1 [(ii (rd l1 (tn v7)).a), (ii (rd l1 (tn v7)).c)])) nn) (ww o1 (ww o0 (ww o0 (tt k0 nn)))))))))))) (fun k0 => (Wn (sl z1n (C' := ⟨⟨48, 0, true⟩, (We Tryz.prog 165 [1, 1, 1, 1, 0] 1), (Za Tryz.prog 165 [1, 1, 1, 1, 0] 1), none, (Zy Tryz.prog 5), ⟨Ym [(46, (.dat v5.length (Zz v5)))], Jw [] 0, 0, [], true⟩, [], .leaf⟩) 13 [] ⟨[], [0], [some [46]], []⟩ ⟨[(46, .frz v5.length v5.length (Zz v5) (Zz v5))], [], []⟩ [false] (pp (xZ (z4k 1 1 0 v5.length v5.length (Zz v5)) v5.length (Zz v5)) (pp (xL v5.length v5.length) (pp (xS v5.length (Zz v5) (Zz v5)) (pp (fl v5 nn) (tt k0 nn)))))) (lo fun o0 => (lr 48 3 [1, 1, 1, 1, 1, 1, 1, 0] 1 5 [(4, (.dat (z1o (cvT v5)).length (Zz (z1o (cvT v5)))))] (sl z1n 3 [] ⟨[], [], [some [4]], []⟩ ⟨[], [], []⟩ [] (pp (pp (xr v5) (xw o0)) nn)))))))
theorem x0i (l0 : List R4) (l1 : List R4) : Xn Tryz.prog (Zy Tryz.prog 165) (rxsC l0 l1) (Zf Tryz.prog 165 [(.dat l0.length (Zz l0)), (.dat l1.length (Zz l1))] true []) (z8v l0 l1) := (sl z1n 15 [(3, 1, Zz ([] : List Int))] ⟨[0], [], rxsN0, rxsM0⟩ ⟨[(5, .grow 0 1)], [], []⟩ [] (pp (fl ([] : List Int) nn) nn))
theorem w6n (l0 : List R4) (l1 : List R4) (n : Nat) (vs : List AVal) (h : Ya (z0w l0 l1) n (z8v l0 l1) = .ret vs) : Je Tryz.prog (Zy Tryz.prog 165) (Zf Tryz.prog 165 [(.dat l0.length (Zz l0)), (.dat l1.length (Zz l1))] true []) vs := by
 have := Zn (x6y l0 l1) n _ (x0i l0 l1)
 rwa [h] at this
inductive rysS where
 | h0 (v5 : List Int) (v6 : Int)
 | h1 (v5 : List Int) (v7 : Int)
def rysC (l0 : List R4) (l1 : List R4) : rysS → Cfg
 | .h0 v5 v6 => ⟨⟨48, 0, true⟩, none, (Za Tryz.prog 166 [1, 1, 0, 1, 0, 0] 0), none, (Zy Tryz.prog 5), ⟨Ym [(0, (.dat l0.length (Zz l0))), (1, (.dat l1.length (Zz l1))), (5, (.sla 0 1 0 v5.length (.un 1))), (6, (ii v6))], Jw [⟨Yg v5.length (Zz v5), 3, some ⟨1, v5.length, (Zz v5)⟩⟩] 0, 1, [], true⟩, [], .leaf⟩
 | .h1 v5 v7 => ⟨⟨48, 0, true⟩, none, (Za Tryz.prog 166 [1, 1, 1, 0, 1, 0, 0] 0), none, (Zy Tryz.prog 5), ⟨Ym [(1, (.dat l1.length (Zz l1))), (5, (.sla 0 1 0 v5.length (.un 1))), (7, (ii v7))], Jw [⟨Yg v5.length (Zz v5), 3, some ⟨1, v5.length, (Zz v5)⟩⟩] 0, 1, [], true⟩, [], .leaf⟩
def rysN0 : List (Option (List Nat)) := [some [0, 1, 5, 6]]
def rysM0 : List (Option (List Nat)) := []
def rysN1 : List (Option (List Nat)) := [some [1, 5, 7]]
def rysM1 : List (Option (List Nat)) := []
def z0v (l0 : List R4) (l1 : List R4) : rysS → Xo rysS
 | .h0 v5 v6 => (bif (decide (v6 < (l0.length : Int))) then (bif ((decide (0 ≤ v6 ∧ v6 < (l0.length : Int))) && true) then (bif (Nat.beq 1 1 && ((decide (0 + v5.length = v5.length)) && decide ((v5.length + 2 + 1) * (8 + 1) ≤ Ur))) then (.to (.h0 (v5 ++ [(rd l0 v6.toNat).b, (rd l0 v6.toNat).d]) (IntKind.wrap .i64 (v6 + 1)))) else .stuck) else .stuck) else (.to (.h1 v5 0)))
 | .h1 v5 v7 => (bif (decide (v7 < (l1.length : Int))) then (bif ((decide (0 ≤ v7 ∧ v7 < (l1.length : Int))) && true) then (bif (Nat.beq 1 1 && ((decide (0 + v5.length = v5.length)) && decide ((v5.length + 2 + 1) * (8 + 1) ≤ Ur))) then (.to (.h1 (v5 ++ [(rd l1 v7.toNat).b, (rd l1 v7.toNat).d]) (IntKind.wrap .i64 (v7 + 1)))) else .stuck) else .stuck) else (bif (Ji (cvT v5)) then (.ret [(.dat (z1o (cvT v5)).length (Zz (z1o (cvT v5))))]) else .stuck))
def z8u (l0 : List R4) (l1 : List R4) : Xo rysS := (.to (.h0 ([] : List Int) 0))
theorem x6x (l0 : List R4) (l1 : List R4) : ∀ s, Xn Tryz.prog (Zy Tryz.prog 166) (rysC l0 l1) (rysC l0 l1 s) (z0v l0 l1 s)
 | .h0 v5 v6 => (lb (fun k0 => (lo fun o0 => (lo fun o1 => (sl z1n 20 [] ⟨[2], [], rysN0, rysM0⟩ ⟨[(5, .len (v5 ++ [(rd l0 (tn v6)).b, (rd l0 (tn v6)).d]).length)], [.rowed 1 (v5 ++ [(rd l0 (tn v6)).b, (rd l0 (tn v6)).d]).length (Zz (v5 ++ [(rd l0 (tn v6)).b, (rd l0 (tn v6)).d]))], []⟩ [true] (pp (xL (v5.length + 2) (v5 ++ [(rd l0 (tn v6)).b, (rd l0 (tn v6)).d]).length) (pp (xL (v5.length + 2) (v5 ++ [(rd l0 (tn v6)).b, (rd l0 (tn v6)).d]).length) (pp (xS (v5.length + 2) (Zd (Zz v5) 0 v5.length 1 [(ii (rd l0 (tn v6)).b), (ii (rd l0 (tn v6)).d)]) (Zz (v5 ++ [(rd l0 (tn v6)).b, (rd l0 (tn v6)).d]))) (pp (pp (xF (Zd (Zz v5) 0 v5.length 1 [(ii (rd l0 (tn v6)).b), (ii (rd l0 (tn v6)).d)])) nn) (ww o1 (ww o0 (ww o0 (tt k0 nn)))))))))))) (fun k0 => (sl z1n 17 [] ⟨[0], [], rysN1, rysM1⟩ ⟨[], [], []⟩ [false] (pp (fl v5 nn) (tt k0 nn)))))
 | .h1 v5 v7 => (lb (fun k0 => (lo fun o0 => (lo fun o1 => (sl z1n 20 [] ⟨[2], [], rysN1, rysM1⟩ ⟨[(5, .len (v5 ++ [(rd l1 (tn v7)).b, (rd l1 (tn v7)).d]).length)], [.rowed 1 (v5 ++ [(rd l1 (tn v7)).b, (rd l1 (tn v7)).d]).length (Zz (v5 ++ [(rd l1 (tn v7)).b, (rd l1 (tn v7)).d]))], []⟩ [true] (pp (xL (v5.length + 2) (v5 ++ [(rd l1 (tn v7)).b, (rd l1 (tn v7)).d]).length) (pp (xL (v5.length + 2) (v5 ++ [(rd l1 (tn v7)).b, (rd l1 (tn v7)).d]).length) (pp (xS (v5.length + 2) (Zd (Zz v5) 0 v5.length 1 [(ii (rd l1 (tn v7)).b), (ii (rd l1 (tn v7)).d)]) (Zz (v5 ++ [(rd l1 (tn v7)).b, (rd l1 (tn v7)).d]))) (pp (pp (xF (Zd (Zz v5) 0 v5.length 1 [(ii (rd l1 (tn v7)).b), (ii (rd l1 (tn v7)).d)])) nn) (ww o1 (ww o0 (ww o0 (tt k0 nn)))))))))))) (fun k0 => (Wn (sl z1n (C' := ⟨⟨48, 0, true⟩, (We Tryz.prog 166 [1, 1, 1, 1, 0] 1), (Za Tryz.prog 166 [1, 1, 1, 1, 0] 1), none, (Zy Tryz.prog 5), ⟨Ym [(46, (.dat v5.length (Zz v5)))], Jw [] 0, 0, [], true⟩, [], .leaf⟩) 13 [] ⟨[], [0], [some [46]], []⟩ ⟨[(46, .frz v5.length v5.length (Zz v5) (Zz v5))], [], []⟩ [false] (pp (xZ (z4k 1 1 0 v5.length v5.length (Zz v5)) v5.length (Zz v5)) (pp (xL v5.length v5.length) (pp (xS v5.length (Zz v5) (Zz v5)) (pp (fl v5 nn) (tt k0 nn)))))) (lo fun o0 => (lr 48 3 [1, 1, 1, 1, 1, 1, 1, 0] 1 5 [(4, (.dat (z1o (cvT v5)).length (Zz (z1o (cvT v5)))))] (sl z1n 3 [] ⟨[], [], [some [4]], []⟩ ⟨[], [], []⟩ [] (pp (pp (xr v5) (xw o0)) nn)))))))
theorem x0h (l0 : List R4) (l1 : List R4) : Xn Tryz.prog (Zy Tryz.prog 166) (rysC l0 l1) (Zf Tryz.prog 166 [(.dat l0.length (Zz l0)), (.dat l1.length (Zz l1))] true []) (z8u l0 l1) := (sl z1n 15 [(3, 1, Zz ([] : List Int))] ⟨[0], [], rysN0, rysM0⟩ ⟨[(5, .grow 0 1)], [], []⟩ [] (pp (fl ([] : List Int) nn) nn))
theorem w6m (l0 : List R4) (l1 : List R4) (n : Nat) (vs : List AVal) (h : Ya (z0v l0 l1) n (z8u l0 l1) = .ret vs) : Je Tryz.prog (Zy Tryz.prog 166) (Zf Tryz.prog 166 [(.dat l0.length (Zz l0)), (.dat l1.length (Zz l1))] true []) vs := by
 have := Zn (x6x l0 l1) n _ (x0h l0 l1)
 rwa [h] at this
inductive rcutS where
 | h0 (v5 : List Int) (v6 : Int)
 | h1 (v5 : List Int) (v7 : Int)
def v5m (l0 : List R6) (l1 : List R6) : rcutS → Cfg
 | .h0 v5 v6 => ⟨⟨52, 0, true⟩, none, (Za Tryz.prog 125 [1, 1, 0, 1, 0, 0] 0), none, (Zy Tryz.prog 5), ⟨Ym [(0, (.dat l0.length (Zz l0))), (1, (.dat l1.length (Zz l1))), (5, (.sla 0 1 0 v5.length (.un 1))), (6, (ii v6))], Jw [⟨Yg v5.length (Zz v5), 3, some ⟨1, v5.length, (Zz v5)⟩⟩] 0, 1, [], true⟩, [], .leaf⟩
 | .h1 v5 v7 => ⟨⟨52, 0, true⟩, none, (Za Tryz.prog 125 [1, 1, 1, 0, 1, 0, 0] 0), none, (Zy Tryz.prog 5), ⟨Ym [(1, (.dat l1.length (Zz l1))), (5, (.sla 0 1 0 v5.length (.un 1))), (7, (ii v7))], Jw [⟨Yg v5.length (Zz v5), 3, some ⟨1, v5.length, (Zz v5)⟩⟩] 0, 1, [], true⟩, [], .leaf⟩
def v1w : List (Option (List Nat)) := [some [0, 1, 5, 6]]
def v1y : List (Option (List Nat)) := []
def v1v : List (Option (List Nat)) := [some [1, 5, 7]]
def v1x : List (Option (List Nat)) := []
def Kk (l0 : List R6) (l1 : List R6) : rcutS → Xo rcutS
 | .h0 v5 v6 => (bif (decide (v6 < (l0.length : Int))) then (bif ((decide (0 ≤ v6 ∧ v6 < (l0.length : Int))) && true) then (bif (Nat.beq 1 1 && ((decide (0 + v5.length = v5.length)) && decide ((v5.length + 2 + 1) * (8 + 1) ≤ Ur))) then (.to (.h0 (v5 ++ [(rd l0 v6.toNat).c, (rd l0 v6.toNat).f]) (IntKind.wrap .i64 (v6 + 1)))) else .stuck) else .stuck) else (.to (.h1 v5 0)))
 | .h1 v5 v7 => (bif (decide (v7 < (l1.length : Int))) then (bif ((decide (0 ≤ v7 ∧ v7 < (l1.length : Int))) && true) then (bif (Nat.beq 1 1 && ((decide (0 + v5.length = v5.length)) && decide ((v5.length + 2 + 1) * (8 + 1) ≤ Ur))) then (.to (.h1 (v5 ++ [(rd l1 v7.toNat).c, (rd l1 v7.toNat).f]) (IntKind.wrap .i64 (v7 + 1)))) else .stuck) else .stuck) else (bif (Ji (cvT v5)) then (.ret [(.dat (z1o (cvT v5)).length (Zz (z1o (cvT v5))))]) else .stuck))
def z4z (l0 : List R6) (l1 : List R6) : Xo rcutS := (.to (.h0 ([] : List Int) 0))
theorem x0y (l0 : List R6) (l1 : List R6) : ∀ s, Xn Tryz.prog (Zy Tryz.prog 125) (v5m l0 l1) (v5m l0 l1 s) (Kk l0 l1 s)
 | .h0 v5 v6 => (lb (fun k0 => (lo fun o0 => (lo fun o1 => (sl z1n 20 [] ⟨[2], [], v1w, v1y⟩ ⟨[(5, .len (v5 ++ [(rd l0 (tn v6)).c, (rd l0 (tn v6)).f]).length)], [.rowed 1 (v5 ++ [(rd l0 (tn v6)).c, (rd l0 (tn v6)).f]).length (Zz (v5 ++ [(rd l0 (tn v6)).c, (rd l0 (tn v6)).f]))], []⟩ [true] (pp (xL (v5.length + 2) (v5 ++ [(rd l0 (tn v6)).c, (rd l0 (tn v6)).f]).length) (pp (xL (v5.length + 2) (v5 ++ [(rd l0 (tn v6)).c, (rd l0 (tn v6)).f]).length) (pp (xS (v5.length + 2) (Zd (Zz v5) 0 v5.length 1 [(ii (rd l0 (tn v6)).c), (ii (rd l0 (tn v6)).f)]) (Zz (v5 ++ [(rd l0 (tn v6)).c, (rd l0 (tn v6)).f]))) (pp (pp (xF (Zd (Zz v5) 0 v5.length 1 [(ii (rd l0 (tn v6)).c), (ii (rd l0 (tn v6)).f)])) nn) (ww o1 (ww o0 (ww o0 (tt k0 nn)))))))))))) (fun k0 => (sl z1n 17 [] ⟨[0], [], v1v, v1x⟩ ⟨[], [], []⟩ [false] (pp (fl v5 nn) (tt k0 nn)))))
 | .h1 v5 v7 => (lb (fun k0 => (lo fun o0 => (lo fun o1 => (sl z1n 20 [] ⟨[2], [], v1v, v1x⟩ ⟨[(5, .len (v5 ++ [(rd l1 (tn v7)).c, (rd l1 (tn v7)).f]).length)], [.rowed 1 (v5 ++ [(rd l1 (tn v7)).c, (rd l1 (tn v7)).f]).length (Zz (v5 ++ [(rd l1 (tn v7)).c, (rd l1 (tn v7)).f]))], []⟩ [true] (pp (xL (v5.length + 2) (v5 ++ [(rd l1 (tn v7)).c, (rd l1 (tn v7)).f]).length) (pp (xL (v5.length + 2) (v5 ++ [(rd l1 (tn v7)).c, (rd l1 (tn v7)).f]).length) (pp (xS (v5.length + 2) (Zd (Zz v5) 0 v5.length 1 [(ii (rd l1 (tn v7)).c), (ii (rd l1 (tn v7)).f)]) (Zz (v5 ++ [(rd l1 (tn v7)).c, (rd l1 (tn v7)).f]))) (pp (pp (xF (Zd (Zz v5) 0 v5.length 1 [(ii (rd l1 (tn v7)).c), (ii (rd l1 (tn v7)).f)])) nn) (ww o1 (ww o0 (ww o0 (tt k0 nn)))))))))))) (fun k0 => (Wn (sl z1n (C' := ⟨⟨52, 0, true⟩, (We Tryz.prog 125 [1, 1, 1, 1, 0] 1), (Za Tryz.prog 125 [1, 1, 1, 1, 0] 1), none, (Zy Tryz.prog 5), ⟨Ym [(50, (.dat v5.length (Zz v5)))], Jw [] 0, 0, [], true⟩, [], .leaf⟩) 13 [] ⟨[], [0], [some [50]], []⟩ ⟨[(50, .frz v5.length v5.length (Zz v5) (Zz v5))], [], []⟩ [false] (pp (xZ (z4k 1 1 0 v5.length v5.length (Zz v5)) v5.length (Zz v5)) (pp (xL v5.length v5.length) (pp (xS v5.length (Zz v5) (Zz v5)) (pp (fl v5 nn) (tt k0 nn)))))) (lo fun o0 => (lr 52 3 [1, 1, 1, 1, 1, 1, 1, 0] 1 5 [(4, (.dat (z1o (cvT v5)).length (Zz (z1o (cvT v5)))))] (sl z1n 3 [] ⟨[], [], [some [4]], []⟩ ⟨[], [], []⟩ [] (pp (pp (xr v5) (xw o0)) nn)))))))
theorem y7g (l0 : List R6) (l1 : List R6) : Xn Tryz.prog (Zy Tryz.prog 125) (v5m l0 l1) (Zf Tryz.prog 125 [(.dat l0.length (Zz l0)), (.dat l1.length (Zz l1))] true []) (z4z l0 l1) := (sl z1n 15 [(3, 1, Zz ([] : List Int))] ⟨[0], [], v1w, v1y⟩ ⟨[(5, .grow 0 1)], [], []⟩ [] (pp (fl ([] : List Int) nn) nn))
theorem w1v (l0 : List R6) (l1 : List R6) (n : Nat) (vs : List AVal) (h : Ya (Kk l0 l1) n (z4z l0 l1) = .ret vs) : Je Tryz.prog (Zy Tryz.prog 125) (Zf Tryz.prog 125 [(.dat l0.length (Zz l0)), (.dat l1.length (Zz l1))] true []) vs := by
 have := Zn (x0y l0 l1) n _ (y7g l0 l1)
 rwa [h] at this
end Go.Am
namespace Go.Am
open Go.Proofs
def z1t (l : List R4) : List Int := l.flatMap fun r => [r.a, r.c]
def z0r (l : List R4) : List Int := l.flatMap fun r => [r.b, r.d]
def z1s (l : List R6) : List Int := l.flatMap fun r => [r.c, r.f]
def xsV (l m : List R4) : List Int := z1o (z1t l ++ z1t m)
def z8i (l m : List R4) : Bool := decide (l.length ≤ 10000 ∧ m.length ≤ 10000)
theorem Qb (l : List R4) : (z1t l).length = 2 * l.length := by
 induction l with
 | nil => rfl
 | cons r l ih => show (_ :: _ :: z1t l).length = _; simp only [List.length_cons, ih]; omega
theorem y3a (l : List R4) (i : Nat) (h : i < l.length) : z1t (l.drop i) = z1t [rd l i] ++ z1t (l.drop (i + 1)) := by
 rw [Yi h]; rfl
theorem v1a (l m : List R4) (hl : l.length ≤ 10000) (hm : m.length ≤ 10000) : ∀ (k i : Nat) (out : List Int), i + k = m.length → out.length = 2 * l.length + 2 * i → ∃ N, Ya (z0w l m) N (.to (.h1 out (i : Int))) = .ret [.dat (z1o (out ++ z1t (m.drop i))).length (Zz (z1o (out ++ z1t (m.drop i))))]
 | 0, i, out, h, ho => by
  refine ⟨1, ?_⟩
  have hw : Ji out = true := decide_eq_true (by omega)
  rw [Zv, List.drop_eq_nil_of_le (show m.length ≤ i by omega), show z1t [] = [] from rfl, List.append_nil]
  simp (disch := omega) only [z0w, Xy, Yf, Zs, Yx, Xq, Yy, Yq, Yw, Zr, Zj, Zc, Qj, Qk, decide_true, Zx, Zo, Ze, Yu, Zu, Nat.zero_add, Bool.and_true, Bool.true_and, cond_true, cond_false, Bool.not_true, Bool.not_false, Zp, Zg, Zq, Va, Xk, hw]
 | k + 1, i, out, h, ho => by
  obtain ⟨N, hN⟩ := v1a l m hl hm k (i + 1) (out ++ z1t [rd m i]) (by omega) (by rw [List.length_append, Qb]; simp; omega)
  refine ⟨N + 1, ?_⟩
  rw [y3a m i (by omega), ← List.append_assoc, Zv]
  simp (disch := omega) only [z0w, Xy, Yf, Zs, Yx, Xq, Yy, Yq, Yw, Zr, Zj, Zc, Qj, Qk, decide_true, Zx, Zo, Ze, Yu, Zu, Nat.zero_add, Bool.and_true, Bool.true_and, cond_true, cond_false, Bool.not_true, Bool.not_false, Zp, Zg, Zq, Va, Xk]
  exact hN
theorem v1b (l m : List R4) (hl : l.length ≤ 10000) (hm : m.length ≤ 10000) : ∀ (k i : Nat) (out : List Int), i + k = l.length → out.length = 2 * i → ∃ N, Ya (z0w l m) N (.to (.h0 out (i : Int))) = .ret [.dat (z1o (out ++ z1t (l.drop i) ++ z1t m)).length (Zz (z1o (out ++ z1t (l.drop i) ++ z1t m)))]
 | 0, i, out, h, ho => by
  obtain ⟨N, hN⟩ := v1a l m hl hm m.length 0 out (Nat.zero_add _) (by omega)
  refine ⟨N + 1, ?_⟩
  rw [Zv, List.drop_eq_nil_of_le (show l.length ≤ i by omega), show z1t [] = [] from rfl, List.append_nil]
  simp (disch := omega) only [z0w, Xy, Yf, Zs, Yx, Xq, Yy, Yq, Yw, Zr, Zj, Zc, Qj, Qk, decide_true, Zx, Zo, Ze, Yu, Zu, Nat.zero_add, Bool.and_true, Bool.true_and, cond_true, cond_false, Bool.not_true, Bool.not_false, Zp, Zg, Zq, Va, Xk]
  exact hN
 | k + 1, i, out, h, ho => by
  obtain ⟨N, hN⟩ := v1b l m hl hm k (i + 1) (out ++ z1t [rd l i]) (by omega) (by rw [List.length_append, Qb]; simp; omega)
  refine ⟨N + 1, ?_⟩
  rw [y3a l i (by omega), ← List.append_assoc, Zv]
  simp (disch := omega) only [z0w, Xy, Yf, Zs, Yx, Xq, Yy, Yq, Yw, Zr, Zj, Zc, Qj, Qk, decide_true, Zx, Zo, Ze, Yu, Zu, Nat.zero_add, Bool.and_true, Bool.true_and, cond_true, cond_false, Bool.not_true, Bool.not_false, Zp, Zg, Zq, Va, Xk]
  exact hN
theorem v4p (l m : List R4) (h : z8i l m = true) : ∃ N, Ya (z0w l m) N (z8v l m) = .ret [.dat (xsV l m).length (Zz (xsV l m))] := by
 obtain ⟨h1, h2⟩ := of_decide_eq_true h
 have := v1b l m h1 h2 l.length 0 [] (Nat.zero_add _) rfl
 simpa [z8v, xsV] using this
def ysV (l m : List R4) : List Int := z1o (z0r l ++ z0r m)
def z8h (l m : List R4) : Bool := decide (l.length ≤ 10000 ∧ m.length ≤ 10000)
theorem Qa (l : List R4) : (z0r l).length = 2 * l.length := by
 induction l with
 | nil => rfl
 | cons r l ih => show (_ :: _ :: z0r l).length = _; simp only [List.length_cons, ih]; omega
theorem y2z (l : List R4) (i : Nat) (h : i < l.length) : z0r (l.drop i) = z0r [rd l i] ++ z0r (l.drop (i + 1)) := by
 rw [Yi h]; rfl
theorem v0y (l m : List R4) (hl : l.length ≤ 10000) (hm : m.length ≤ 10000) : ∀ (k i : Nat) (out : List Int), i + k = m.length → out.length = 2 * l.length + 2 * i → ∃ N, Ya (z0v l m) N (.to (.h1 out (i : Int))) = .ret [.dat (z1o (out ++ z0r (m.drop i))).length (Zz (z1o (out ++ z0r (m.drop i))))]
 | 0, i, out, h, ho => by
  refine ⟨1, ?_⟩
  have hw : Ji out = true := decide_eq_true (by omega)
  rw [Zv, List.drop_eq_nil_of_le (show m.length ≤ i by omega), show z0r [] = [] from rfl, List.append_nil]
  simp (disch := omega) only [z0v, Xy, Yf, Zs, Yx, Xq, Yy, Yq, Yw, Zr, Zj, Zc, Qj, Qk, decide_true, Zx, Zo, Ze, Yu, Zu, Nat.zero_add, Bool.and_true, Bool.true_and, cond_true, cond_false, Bool.not_true, Bool.not_false, Zp, Zg, Zq, Va, Xk, hw]
 | k + 1, i, out, h, ho => by
  obtain ⟨N, hN⟩ := v0y l m hl hm k (i + 1) (out ++ z0r [rd m i]) (by omega) (by rw [List.length_append, Qa]; simp; omega)
  refine ⟨N + 1, ?_⟩
  rw [y2z m i (by omega), ← List.append_assoc, Zv]
  simp (disch := omega) only [z0v, Xy, Yf, Zs, Yx, Xq, Yy, Yq, Yw, Zr, Zj, Zc, Qj, Qk, decide_true, Zx, Zo, Ze, Yu, Zu, Nat.zero_add, Bool.and_true, Bool.true_and, cond_true, cond_false, Bool.not_true, Bool.not_false, Zp, Zg, Zq, Va, Xk]
  exact hN
theorem v0z (l m : List R4) (hl : l.length ≤ 10000) (hm : m.length ≤ 10000) : ∀ (k i : Nat) (out : List Int), i + k = l.length → out.length = 2 * i → ∃ N, Ya (z0v l m) N (.to (.h0 out (i : Int))) = .ret [.dat (z1o (out ++ z0r (l.drop i) ++ z0r m)).length (Zz (z1o (out ++ z0r (l.drop i) ++ z0r m)))]
 | 0, i, out, h, ho => by
  obtain ⟨N, hN⟩ := v0y l m hl hm m.length 0 out (Nat.zero_add _) (by omega)
  refine ⟨N + 1, ?_⟩
  rw [Zv, List.drop_eq_nil_of_le (show l.length ≤ i by omega), show z0r [] = [] from rfl, List.append_nil]
  simp (disch := omega) only [z0v, Xy, Yf, Zs, Yx, Xq, Yy, Yq, Yw, Zr, Zj, Zc, Qj, Qk, decide_true, Zx, Zo, Ze, Yu, Zu, Nat.zero_add, Bool.and_true, Bool.true_and, cond_true, cond_false, Bool.not_true, Bool.not_false, Zp, Zg, Zq, Va, Xk]
  exact hN
 | k + 1, i, out, h, ho => by
  obtain ⟨N, hN⟩ := v0z l m hl hm k (i + 1) (out ++ z0r [rd l i]) (by omega) (by rw [List.length_append, Qa]; simp; omega)
  refine ⟨N + 1, ?_⟩
  rw [y2z l i (by omega), ← List.append_assoc, Zv]
  simp (disch := omega) only [z0v, Xy, Yf, Zs, Yx, Xq, Yy, Yq, Yw, Zr, Zj, Zc, Qj, Qk, decide_true, Zx, Zo, Ze, Yu, Zu, Nat.zero_add, Bool.and_true, Bool.true_and, cond_true, cond_false, Bool.not_true, Bool.not_false, Zp, Zg, Zq, Va, Xk]
  exact hN
theorem v4o (l m : List R4) (h : z8h l m = true) : ∃ N, Ya (z0v l m) N (z8u l m) = .ret [.dat (ysV l m).length (Zz (ysV l m))] := by
 obtain ⟨h1, h2⟩ := of_decide_eq_true h
 have := v0z l m h1 h2 l.length 0 [] (Nat.zero_add _) rfl
 simpa [z8u, ysV] using this
def Yt (l m : List R6) : List Int := z1o (z1s l ++ z1s m)
def z5v (l m : List R6) : Bool := decide (l.length ≤ 10000 ∧ m.length ≤ 10000)
theorem Qg (l : List R6) : (z1s l).length = 2 * l.length := by
 induction l with
 | nil => rfl
 | cons r l ih => show (_ :: _ :: z1s l).length = _; simp only [List.length_cons, ih]; omega
theorem y2x (l : List R6) (i : Nat) (h : i < l.length) : z1s (l.drop i) = z1s [rd l i] ++ z1s (l.drop (i + 1)) := by
 rw [Yi h]; rfl
theorem w1t (l m : List R6) (hl : l.length ≤ 10000) (hm : m.length ≤ 10000) : ∀ (k i : Nat) (out : List Int), i + k = m.length → out.length = 2 * l.length + 2 * i → ∃ N, Ya (Kk l m) N (.to (.h1 out (i : Int))) = .ret [.dat (z1o (out ++ z1s (m.drop i))).length (Zz (z1o (out ++ z1s (m.drop i))))]
 | 0, i, out, h, ho => by
  refine ⟨1, ?_⟩
  have hw : Ji out = true := decide_eq_true (by omega)
  rw [Zv, List.drop_eq_nil_of_le (show m.length ≤ i by omega), show z1s [] = [] from rfl, List.append_nil]
  simp (disch := omega) only [Kk, Xy, Yf, Zs, Yx, Xq, Yy, Yq, Yw, Zr, Zj, Zc, Qj, Qk, decide_true, Zx, Zo, Ze, Yu, Zu, Nat.zero_add, Bool.and_true, Bool.true_and, cond_true, cond_false, Bool.not_true, Bool.not_false, Zp, Zg, Zq, Va, Xk, hw]
 | k + 1, i, out, h, ho => by
  obtain ⟨N, hN⟩ := w1t l m hl hm k (i + 1) (out ++ z1s [rd m i]) (by omega) (by rw [List.length_append, Qg]; simp; omega)
  refine ⟨N + 1, ?_⟩
  rw [y2x m i (by omega), ← List.append_assoc, Zv]
  simp (disch := omega) only [Kk, Xy, Yf, Zs, Yx, Xq, Yy, Yq, Yw, Zr, Zj, Zc, Qj, Qk, decide_true, Zx, Zo, Ze, Yu, Zu, Nat.zero_add, Bool.and_true, Bool.true_and, cond_true, cond_false, Bool.not_true, Bool.not_false, Zp, Zg, Zq, Va, Xk]
  exact hN
theorem w1u (l m : List R6) (hl : l.length ≤ 10000) (hm : m.length ≤ 10000) : ∀ (k i : Nat) (out : List Int), i + k = l.length → out.length = 2 * i → ∃ N, Ya (Kk l m) N (.to (.h0 out (i : Int))) = .ret [.dat (z1o (out ++ z1s (l.drop i) ++ z1s m)).length (Zz (z1o (out ++ z1s (l.drop i) ++ z1s m)))]
 | 0, i, out, h, ho => by
  obtain ⟨N, hN⟩ := w1t l m hl hm m.length 0 out (Nat.zero_add _) (by omega)
  refine ⟨N + 1, ?_⟩
  rw [Zv, List.drop_eq_nil_of_le (show l.length ≤ i by omega), show z1s [] = [] from rfl, List.append_nil]
  simp (disch := omega) only [Kk, Xy, Yf, Zs, Yx, Xq, Yy, Yq, Yw, Zr, Zj, Zc, Qj, Qk, decide_true, Zx, Zo, Ze, Yu, Zu, Nat.zero_add, Bool.and_true, Bool.true_and, cond_true, cond_false, Bool.not_true, Bool.not_false, Zp, Zg, Zq, Va, Xk]
  exact hN
 | k + 1, i, out, h, ho => by
  obtain ⟨N, hN⟩ := w1u l m hl hm k (i + 1) (out ++ z1s [rd l i]) (by omega) (by rw [List.length_append, Qg]; simp; omega)
  refine ⟨N + 1, ?_⟩
  rw [y2x l i (by omega), ← List.append_assoc, Zv]
  simp (disch := omega) only [Kk, Xy, Yf, Zs, Yx, Xq, Yy, Yq, Yw, Zr, Zj, Zc, Qj, Qk, decide_true, Zx, Zo, Ze, Yu, Zu, Nat.zero_add, Bool.and_true, Bool.true_and, cond_true, cond_false, Bool.not_true, Bool.not_false, Zp, Zg, Zq, Va, Xk]
  exact hN
theorem w7h (l m : List R6) (h : z5v l m = true) : ∃ N, Ya (Kk l m) N (z4z l m) = .ret [.dat (Yt l m).length (Zz (Yt l m))] := by
 obtain ⟨h1, h2⟩ := of_decide_eq_true h
 have := w1u l m h1 h2 l.length 0 [] (Nat.zero_add _) rfl
 simpa [z4z, Yt] using this
def fXs : List AVal → Option (AVal × Bool)
 | [a0, a1] => match asL R4 a0, asL R4 a1 with
  | some (L0, g0, n0), some (L1, g1, n1) => some (.dat (xsV L0 L1).length (Zz (xsV L0 L1)), isT R4 n0 g0 && (isT R4 n1 g1 && (z8i L0 L1)))
  | _, _ => none
 | _ => none
theorem fXs_ok {S : Specs} (hS : Zk Tryz.prog S) : Zk Tryz.prog (S.with nXs fXs) := by
 refine z1b hS (by kernel_rfl) fun args v h => ?_
 unfold fXs at h
 split at h
 ·rename_i a0 a1
  split at h
  ·rename_i L0 g0 n0 L1 g1 n1 e0 e1
   simp only [Option.some.injEq, Prod.mk.injEq, Bool.and_eq_true] at h
   obtain ⟨rfl, ho0, ho1, hw⟩ := h
   obtain ⟨N, hN⟩ := v4p L0 L1 hw
   exact ⟨_, _, (.cons (asL_le e0 ho0) (.cons (asL_le e1 ho1) .nil)), rfl, w6n L0 L1 N _ hN, 3, rfl⟩
  ·cases h
 ·cases h
def fYs : List AVal → Option (AVal × Bool)
 | [a0, a1] => match asL R4 a0, asL R4 a1 with
  | some (L0, g0, n0), some (L1, g1, n1) => some (.dat (ysV L0 L1).length (Zz (ysV L0 L1)), isT R4 n0 g0 && (isT R4 n1 g1 && (z8h L0 L1)))
  | _, _ => none
 | _ => none
theorem fYs_ok {S : Specs} (hS : Zk Tryz.prog S) : Zk Tryz.prog (S.with nYs fYs) := by
 refine z1b hS (by kernel_rfl) fun args v h => ?_
 unfold fYs at h
 split at h
 ·rename_i a0 a1
  split at h
  ·rename_i L0 g0 n0 L1 g1 n1 e0 e1
   simp only [Option.some.injEq, Prod.mk.injEq, Bool.and_eq_true] at h
   obtain ⟨rfl, ho0, ho1, hw⟩ := h
   obtain ⟨N, hN⟩ := v4o L0 L1 hw
   exact ⟨_, _, (.cons (asL_le e0 ho0) (.cons (asL_le e1 ho1) .nil)), rfl, w6m L0 L1 N _ hN, 3, rfl⟩
  ·cases h
 ·cases h
def v7q : List AVal → Option (AVal × Bool)
 | [a0, a1] => match asL R6 a0, asL R6 a1 with
  | some (L0, g0, n0), some (L1, g1, n1) => some (.dat (Yt L0 L1).length (Zz (Yt L0 L1)), isT R6 n0 g0 && (isT R6 n1 g1 && (z5v L0 L1)))
  | _, _ => none
 | _ => none
theorem w9c {S : Specs} (hS : Zk Tryz.prog S) : Zk Tryz.prog (S.with nCuts v7q) := by
 refine z1b hS (by kernel_rfl) fun args v h => ?_
 unfold v7q at h
 split at h
 ·rename_i a0 a1
  split at h
  ·rename_i L0 g0 n0 L1 g1 n1 e0 e1
   simp only [Option.some.injEq, Prod.mk.injEq, Bool.and_eq_true] at h
   obtain ⟨rfl, ho0, ho1, hw⟩ := h
   obtain ⟨N, hN⟩ := w7h L0 L1 hw
   exact ⟨_, _, (.cons (asL_le e0 ho0) (.cons (asL_le e1 ho1) .nil)), rfl, w1v L0 L1 N _ hN, 3, rfl⟩
  ·cases h
 ·cases h
def T2 : Specs := ((T1.with nXs fXs).with nYs fYs).with nCuts v7q
theorem z7b : Zk Tryz.prog T2 := w9c (fYs_ok (fXs_ok z1n))
end Go.Am
namespace Go.Am
open Go.Proofs
inductive rjoS where
 | h0 (v9 : List R4) (v10 : List R2) (v11 : Int) (v12 : Int)
 | h1 (v9 : List R4) (v10 : List R2) (v11 : Int) (v12 : Int) (v13 : List Bool) (v14 : Int)
 | h2 (v9 : List R4) (v10 : List R2) (v11 : Int) (v12 : Int) (v15 : List R2) (v17 : Int)
 | h3 (v9 : List R4) (v10 : List R2) (v11 : Int) (v12 : Int) (v16 : Int)
def rjoC (x0 : Int) (l1 : List R4) (l2 : List R4) : rjoS → Cfg
 | .h0 v9 v10 v11 v12 => ⟨⟨121, 0, true⟩, none, (Za Tryz.prog 126 [1, 1, 1, 1, 1, 0, 1, 0, 0] 0), none, (Zy Tryz.prog 8), ⟨Ym [(0, (ii x0)), (1, (.dat l1.length (Zz l1))), (2, (.dat l2.length (Zz l2))), (7, (.dat (xsV (cvT l1) (cvT l2)).length (Zz (xsV (cvT l1) (cvT l2))))), (8, (.dat (ysV (cvT l1) (cvT l2)).length (Zz (ysV (cvT l1) (cvT l2))))), (9, (.sla 0 4 0 v9.length (.un 4))), (10, (.dat v10.length (Zz v10))), (11, (ii v11)), (12, (ii v12))], Jw [⟨Yg v9.length (Zz v9), 88, some ⟨4, v9.length, (Zz v9)⟩⟩] 0, 1, [], true⟩, [], .leaf⟩
 | .h1 v9 v10 v11 v12 v13 v14 => ⟨⟨121, 0, true⟩, none, (Za Tryz.prog 126 [1, 1, 1, 1, 1, 0, 1, 0, 0, 1, 0, 0, 1, 0, 1, 0, 0] 0), none, (Zy Tryz.prog 8), ⟨Ym [(0, (ii x0)), (1, (.dat l1.length (Zz l1))), (2, (.dat l2.length (Zz l2))), (7, (.dat (xsV (cvT l1) (cvT l2)).length (Zz (xsV (cvT l1) (cvT l2))))), (8, (.dat (ysV (cvT l1) (cvT l2)).length (Zz (ysV (cvT l1) (cvT l2))))), (9, (.sla 1 4 0 v9.length (.un 4))), (10, (.dat v10.length (Zz v10))), (11, (ii v11)), (12, (ii v12)), (13, (.sla 0 1 0 v13.length (.un 1))), (14, (ii v14))], Jw [⟨Yg v13.length (Zz v13), 4, some ⟨1, v13.length, (Zz v13)⟩⟩, ⟨Yg v9.length (Zz v9), 88, some ⟨4, v9.length, (Zz v9)⟩⟩] 0, 2, [], true⟩, [], .leaf⟩
 | .h2 v9 v10 v11 v12 v15 v17 => ⟨⟨121, 0, true⟩, none, (Za Tryz.prog 126 [1, 1, 1, 1, 1, 0, 1, 0, 0, 1, 0, 0, 1, 1, 1, 1, 1, 1, 0, 0] 0), none, (Zy Tryz.prog 8), ⟨Ym [(0, (ii x0)), (1, (.dat l1.length (Zz l1))), (2, (.dat l2.length (Zz l2))), (7, (.dat (xsV (cvT l1) (cvT l2)).length (Zz (xsV (cvT l1) (cvT l2))))), (8, (.dat (ysV (cvT l1) (cvT l2)).length (Zz (ysV (cvT l1) (cvT l2))))), (9, (.sla 0 4 0 v9.length (.un 4))), (10, (.dat v10.length (Zz v10))), (11, (ii v11)), (12, (ii v12)), (15, (.dat v15.length (Zz v15))), (17, (ii v17))], Jw [⟨Yg v9.length (Zz v9), 88, some ⟨4, v9.length, (Zz v9)⟩⟩] 0, 1, [], true⟩, [], .leaf⟩
 | .h3 v9 v10 v11 v12 v16 => ⟨⟨121, 0, true⟩, none, (Za Tryz.prog 126 [1, 1, 1, 1, 1, 0, 1, 0, 0, 1, 0, 0, 1, 1, 1, 0, 1, 0, 0, 1, 0, 0] 0), none, (Zy Tryz.prog 8), ⟨Ym [(0, (ii x0)), (1, (.dat l1.length (Zz l1))), (2, (.dat l2.length (Zz l2))), (7, (.dat (xsV (cvT l1) (cvT l2)).length (Zz (xsV (cvT l1) (cvT l2))))), (8, (.dat (ysV (cvT l1) (cvT l2)).length (Zz (ysV (cvT l1) (cvT l2))))), (9, (.sla 0 4 0 v9.length (.un 4))), (10, (.dat v10.length (Zz v10))), (11, (ii v11)), (12, (ii v12)), (16, (ii v16))], Jw [⟨Yg v9.length (Zz v9), 88, some ⟨4, v9.length, (Zz v9)⟩⟩] 0, 1, [], true⟩, [], .leaf⟩
def v5b : List (Option (List Nat)) := [some [0, 1, 2, 7, 8, 9, 10, 11, 12]]
def v5d : List (Option (List Nat)) := []
def rjoN1 : List (Option (List Nat)) := [some [0, 1, 2, 7, 8, 9, 10, 11, 12, 13, 14]]
def rjoM1 : List (Option (List Nat)) := []
def v5a : List (Option (List Nat)) := [some [0, 1, 2, 7, 8, 9, 10, 11, 12, 15, 17]]
def v5c : List (Option (List Nat)) := []
def rjoN3 : List (Option (List Nat)) := [some [0, 1, 2, 7, 8, 9, 10, 11, 12, 16]]
def rjoM3 : List (Option (List Nat)) := []
def Wr (x0 : Int) (l1 : List R4) (l2 : List R4) : rjoS → Xo rjoS
 | .h0 v9 v10 v11 v12 => (bif (decide ((IntKind.wrap .i64 (v12 + 1)) < (((xsV (cvT l1) (cvT l2)).length : Nat) : Int))) then (.to (.h1 v9 v10 v11 v12 ([] : List Bool) 0)) else (.ret [(.dat v9.length (Zz v9))]))
 | .h1 v9 v10 v11 v12 v13 v14 => (bif (decide (v14 < (((ysV (cvT l1) (cvT l2)).length : Nat) : Int))) then (bif (Kf (cvT l1) (rd (xsV (cvT l1) (cvT l2)) v12.toNat) (rd (ysV (cvT l1) (cvT l2)) v14.toNat)) then (bif ((decide (0 ≤ v12 ∧ v12 < (((xsV (cvT l1) (cvT l2)).length : Nat) : Int))) && true) then (bif ((decide (0 ≤ v14 ∧ v14 < (((ysV (cvT l1) (cvT l2)).length : Nat) : Int))) && true) then (bif (Kf (cvT l2) (rd (xsV (cvT l1) (cvT l2)) v12.toNat) (rd (ysV (cvT l1) (cvT l2)) v14.toNat)) then (bif (Nat.beq 1 1 && ((decide (0 + v13.length = v13.length)) && decide ((v13.length + 1 + 1) * (1 + 1) ≤ Ur))) then (.to (.h1 v9 v10 v11 v12 (v13 ++ [(Qn x0 (has4V (cvT l1) (rd (xsV (cvT l1) (cvT l2)) v12.toNat) (rd (ysV (cvT l1) (cvT l2)) v14.toNat)) (has4V (cvT l2) (rd (xsV (cvT l1) (cvT l2)) v12.toNat) (rd (ysV (cvT l1) (cvT l2)) v14.toNat)))]) (IntKind.wrap .i64 (v14 + 1)))) else .stuck) else .stuck) else .stuck) else .stuck) else .stuck) else (bif (z5x (cvT (ysV (cvT l1) (cvT l2))) (cvT v13)) then (bif (decide (v12 > 0)) then (bif (Vj (cvT (z8a (cvT (ysV (cvT l1) (cvT l2))) (cvT v13))) (cvT v10)) then (bif (Jr (cvT (z8a (cvT (ysV (cvT l1) (cvT l2))) (cvT v13))) (cvT v10)) then (.to (.h3 v9 v10 v11 v12 v11)) else (.to (.h2 v9 (z8a (cvT (ysV (cvT l1) (cvT l2))) (cvT v13)) (v9.length : Int) v12 (z8a (cvT (ysV (cvT l1) (cvT l2))) (cvT v13)) 0))) else .stuck) else (.to (.h2 v9 (z8a (cvT (ysV (cvT l1) (cvT l2))) (cvT v13)) (v9.length : Int) v12 (z8a (cvT (ysV (cvT l1) (cvT l2))) (cvT v13)) 0))) else .stuck))
 | .h2 v9 v10 v11 v12 v15 v17 => (bif (decide (v17 < (v15.length : Int))) then (bif ((decide (0 ≤ v12 ∧ v12 < (((xsV (cvT l1) (cvT l2)).length : Nat) : Int))) && true) then (bif ((decide (0 ≤ (IntKind.wrap .i64 (v12 + 1)) ∧ (IntKind.wrap .i64 (v12 + 1)) < (((xsV (cvT l1) (cvT l2)).length : Nat) : Int))) && true) then (bif ((decide (0 ≤ v17 ∧ v17 < (v15.length : Int))) && true) then (bif (Nat.beq 4 4 && ((decide (0 + v9.length = v9.length)) && decide ((v9.length + 1 + 1) * (32 + 1) ≤ Ur))) then (.to (.h2 (v9 ++ [(R4.mk (rd (xsV (cvT l1) (cvT l2)) v12.toNat) (rd v15 v17.toNat).a (rd (xsV (cvT l1) (cvT l2)) (Int.toNat (IntKind.wrap .i64 (v12 + 1)))) (rd v15 v17.toNat).b)]) v10 v11 v12 v15 (IntKind.wrap .i64 (v17 + 1)))) else .stuck) else .stuck) else .stuck) else .stuck) else (.to (.h0 v9 v10 v11 (IntKind.wrap .i64 (v12 + 1)))))
 | .h3 v9 v10 v11 v12 v16 => (bif (decide (v16 < (v9.length : Int))) then (bif ((decide (0 ≤ (IntKind.wrap .i64 (v12 + 1)) ∧ (IntKind.wrap .i64 (v12 + 1)) < (((xsV (cvT l1) (cvT l2)).length : Nat) : Int))) && true) then (bif ((decide (0 ≤ v16 ∧ v16 < (v9.length : Int))) && true) then (bif (decide ((0 + v16.toNat) < v9.length)) then (.to (.h3 (v9.set (0 + v16.toNat) (R4.mk (rd v9 (0 + v16.toNat)).a (rd v9 (0 + v16.toNat)).b (rd (xsV (cvT l1) (cvT l2)) (Int.toNat (IntKind.wrap .i64 (v12 + 1)))) (rd v9 (0 + v16.toNat)).d)) v10 v11 v12 (IntKind.wrap .i64 (v16 + 1)))) else .stuck) else .stuck) else .stuck) else (.to (.h0 v9 v10 v11 (IntKind.wrap .i64 (v12 + 1)))))
def z8y (x0 : Int) (l1 : List R4) (l2 : List R4) : Xo rjoS := (bif (z8i (cvT l1) (cvT l2)) then (bif (z8h (cvT l1) (cvT l2)) then (.to (.h0 ([] : List R4) ([] : List R2) 0 0)) else .stuck) else .stuck)
theorem x7e (x0 : Int) (l1 : List R4) (l2 : List R4) : ∀ s, Xn Tryz.prog (Zy Tryz.prog 126) (rjoC x0 l1 l2) (rjoC x0 l1 l2 s) (Wr x0 l1 l2 s)
 | .h0 v9 v10 v11 v12 => (lb (fun k0 => (sl z7b 24 [(4, 1, Zz ([] : List Bool))] ⟨[1, 0], [], rjoN1, rjoM1⟩ ⟨[(13, .grow 0 1)], [], []⟩ [true] (pp (fl ([] : List Bool) (fl v9 nn)) (tt k0 nn)))) (fun k0 => (lr 121 3 [1, 1, 1, 1, 1, 1, 1, 0] 1 8 [(6, (.dat v9.length (Zz v9)))] (sl z7b 16 [] ⟨[], [0], [some [6]], []⟩ ⟨[(6, .frz v9.length v9.length (Zz v9) (Zz v9))], [], []⟩ [false] (pp (xZ (z4k 4 4 0 v9.length v9.length (Zz v9)) v9.length (Zz v9)) (pp (xL v9.length v9.length) (pp (xS v9.length (Zz v9) (Zz v9)) (pp (fl v9 nn) (tt k0 nn)))))))))
 | .h1 v9 v10 v11 v12 v13 v14 => (lb (fun k0 => (lo fun o0 => (lo fun o1 => (lo fun o2 => (lo fun o3 => (lo fun o4 => (sl z7b 20 [] ⟨[3, 1], [], rjoN1, rjoM1⟩ ⟨[(13, .len (v13 ++ [(Qn x0 (has4V (cvT l1) (rd (xsV (cvT l1) (cvT l2)) (tn v12)) (rd (ysV (cvT l1) (cvT l2)) (tn v14))) (has4V (cvT l2) (rd (xsV (cvT l1) (cvT l2)) (tn v12)) (rd (ysV (cvT l1) (cvT l2)) (tn v14))))]).length)], [.rowed 1 (v13 ++ [(Qn x0 (has4V (cvT l1) (rd (xsV (cvT l1) (cvT l2)) (tn v12)) (rd (ysV (cvT l1) (cvT l2)) (tn v14))) (has4V (cvT l2) (rd (xsV (cvT l1) (cvT l2)) (tn v12)) (rd (ysV (cvT l1) (cvT l2)) (tn v14))))]).length (Zz (v13 ++ [(Qn x0 (has4V (cvT l1) (rd (xsV (cvT l1) (cvT l2)) (tn v12)) (rd (ysV (cvT l1) (cvT l2)) (tn v14))) (has4V (cvT l2) (rd (xsV (cvT l1) (cvT l2)) (tn v12)) (rd (ysV (cvT l1) (cvT l2)) (tn v14))))])), .keep], []⟩ [true] (pp (xL (v13.length + 1) (v13 ++ [(Qn x0 (has4V (cvT l1) (rd (xsV (cvT l1) (cvT l2)) (tn v12)) (rd (ysV (cvT l1) (cvT l2)) (tn v14))) (has4V (cvT l2) (rd (xsV (cvT l1) (cvT l2)) (tn v12)) (rd (ysV (cvT l1) (cvT l2)) (tn v14))))]).length) (pp (xL (v13.length + 1) (v13 ++ [(Qn x0 (has4V (cvT l1) (rd (xsV (cvT l1) (cvT l2)) (tn v12)) (rd (ysV (cvT l1) (cvT l2)) (tn v14))) (has4V (cvT l2) (rd (xsV (cvT l1) (cvT l2)) (tn v12)) (rd (ysV (cvT l1) (cvT l2)) (tn v14))))]).length) (pp (xS (v13.length + 1) (Zd (Zz v13) 0 v13.length 1 [(.bool (Qn x0 (has4V (cvT l1) (rd (xsV (cvT l1) (cvT l2)) (tn v12)) (rd (ysV (cvT l1) (cvT l2)) (tn v14))) (has4V (cvT l2) (rd (xsV (cvT l1) (cvT l2)) (tn v12)) (rd (ysV (cvT l1) (cvT l2)) (tn v14)))))]) (Zz (v13 ++ [(Qn x0 (has4V (cvT l1) (rd (xsV (cvT l1) (cvT l2)) (tn v12)) (rd (ysV (cvT l1) (cvT l2)) (tn v14))) (has4V (cvT l2) (rd (xsV (cvT l1) (cvT l2)) (tn v12)) (rd (ysV (cvT l1) (cvT l2)) (tn v14))))]))) (pp (pp (xF (Zd (Zz v13) 0 v13.length 1 [(.bool (Qn x0 (has4V (cvT l1) (rd (xsV (cvT l1) (cvT l2)) (tn v12)) (rd (ysV (cvT l1) (cvT l2)) (tn v14))) (has4V (cvT l2) (rd (xsV (cvT l1) (cvT l2)) (tn v12)) (rd (ysV (cvT l1) (cvT l2)) (tn v14)))))])) (fl v9 nn)) (ww o4 (pp (pp (xr l2) (xw o3)) (ww o2 (ww o1 (pp (pp (xr l1) (xw o0)) (ww o2 (ww o1 (tt k0 nn))))))))))))))))))) (fun k0 => (Wn (sl z7b (C' := ⟨⟨121, 0, true⟩, (We Tryz.prog 126 [1, 1, 1, 1, 1, 0, 1, 0, 0, 1, 0, 0, 1, 1, 0] 2), (Za Tryz.prog 126 [1, 1, 1, 1, 1, 0, 1, 0, 0, 1, 0, 0, 1, 1, 0] 1), none, (Zy Tryz.prog 8), ⟨Ym [(0, (ii x0)), (1, (.dat l1.length (Zz l1))), (2, (.dat l2.length (Zz l2))), (7, (.dat (xsV (cvT l1) (cvT l2)).length (Zz (xsV (cvT l1) (cvT l2))))), (8, (.dat (ysV (cvT l1) (cvT l2)).length (Zz (ysV (cvT l1) (cvT l2))))), (9, (.sla 0 4 0 v9.length (.un 4))), (10, (.dat v10.length (Zz v10))), (11, (ii v11)), (12, (ii v12)), (62, (.dat (ysV (cvT l1) (cvT l2)).length (Zz (ysV (cvT l1) (cvT l2))))), (63, (.dat v13.length (Zz v13)))], Jw [⟨Yg v9.length (Zz v9), 88, some ⟨4, v9.length, (Zz v9)⟩⟩] 0, 1, [], true⟩, [], .leaf⟩) 14 [] ⟨[1], [0], [some [0, 1, 2, 7, 8, 9, 10, 11, 12, 62, 63]], []⟩ ⟨[(63, .frz v13.length v13.length (Zz v13) (Zz v13))], [], []⟩ [false] (pp (xZ (z4k 1 1 0 v13.length v13.length (Zz v13)) v13.length (Zz v13)) (pp (xL v13.length v13.length) (pp (xS v13.length (Zz v13) (Zz v13)) (pp (fl v9 nn) (pp (fl v13 nn) (tt k0 nn))))))) (lo fun o1_0 => (lb (fun k1 => (lo fun o2_0 => (lb (fun k2 => (sl z7b 23 [] ⟨[0], [], rjoN3, rjoM3⟩ ⟨[], [], []⟩ (trs 4 []) (pp (fl v9 nn) (tt k2 (pp (pp (xI R2 (z8a (cvT (ysV (cvT l1) (cvT l2))) (cvT v13)).length (Zz (z8a (cvT (ysV (cvT l1) (cvT l2))) (cvT v13)))) (pp (xr v10) (xw o2_0))) (tt k1 (pp (pp (xI Int (ysV (cvT l1) (cvT l2)).length (Zz (ysV (cvT l1) (cvT l2)))) (pp (xr v13) (xw o1_0))) nn))))))) (fun k2 => (sl z7b 30 [] ⟨[0], [], v5a, v5c⟩ ⟨[], [], []⟩ (trs 3 [false]) (pp (fl v9 nn) (tt k2 (pp (pp (xI R2 (z8a (cvT (ysV (cvT l1) (cvT l2))) (cvT v13)).length (Zz (z8a (cvT (ysV (cvT l1) (cvT l2))) (cvT v13)))) (pp (xr v10) (xw o2_0))) (tt k1 (pp (pp (xI Int (ysV (cvT l1) (cvT l2)).length (Zz (ysV (cvT l1) (cvT l2)))) (pp (xr v13) (xw o1_0))) nn)))))))))) (fun k1 => (sl z7b 30 [] ⟨[0], [], v5a, v5c⟩ ⟨[], [], []⟩ [false, false, false, false] (pp (fl v9 nn) (tt k1 (pp (pp (xI Int (ysV (cvT l1) (cvT l2)).length (Zz (ysV (cvT l1) (cvT l2)))) (pp (xr v13) (xw o1_0))) nn))))))))))
 | .h2 v9 v10 v11 v12 v15 v17 => (lb (fun k0 => (lo fun o0 => (lo fun o1 => (lo fun o2 => (lo fun o3 => (sl z7b 20 [] ⟨[2], [], v5a, v5c⟩ ⟨[(9, .len (v9 ++ [(R4.mk (rd (xsV (cvT l1) (cvT l2)) (tn v12)) (rd v15 (tn v17)).a (rd (xsV (cvT l1) (cvT l2)) (tn (wr (v12 + 1)))) (rd v15 (tn v17)).b)]).length)], [.rowed 4 (v9 ++ [(R4.mk (rd (xsV (cvT l1) (cvT l2)) (tn v12)) (rd v15 (tn v17)).a (rd (xsV (cvT l1) (cvT l2)) (tn (wr (v12 + 1)))) (rd v15 (tn v17)).b)]).length (Zz (v9 ++ [(R4.mk (rd (xsV (cvT l1) (cvT l2)) (tn v12)) (rd v15 (tn v17)).a (rd (xsV (cvT l1) (cvT l2)) (tn (wr (v12 + 1)))) (rd v15 (tn v17)).b)]))], []⟩ [true] (pp (xL (v9.length + 1) (v9 ++ [(R4.mk (rd (xsV (cvT l1) (cvT l2)) (tn v12)) (rd v15 (tn v17)).a (rd (xsV (cvT l1) (cvT l2)) (tn (wr (v12 + 1)))) (rd v15 (tn v17)).b)]).length) (pp (xL (v9.length + 1) (v9 ++ [(R4.mk (rd (xsV (cvT l1) (cvT l2)) (tn v12)) (rd v15 (tn v17)).a (rd (xsV (cvT l1) (cvT l2)) (tn (wr (v12 + 1)))) (rd v15 (tn v17)).b)]).length) (pp (xS (v9.length + 1) (Zd (Zz v9) 0 v9.length 4 [(ii (rd (xsV (cvT l1) (cvT l2)) (tn v12))), (ii (rd v15 (tn v17)).a), (ii (rd (xsV (cvT l1) (cvT l2)) (tn (wr (v12 + 1))))), (ii (rd v15 (tn v17)).b)]) (Zz (v9 ++ [(R4.mk (rd (xsV (cvT l1) (cvT l2)) (tn v12)) (rd v15 (tn v17)).a (rd (xsV (cvT l1) (cvT l2)) (tn (wr (v12 + 1)))) (rd v15 (tn v17)).b)]))) (pp (pp (xF (Zd (Zz v9) 0 v9.length 4 [(ii (rd (xsV (cvT l1) (cvT l2)) (tn v12))), (ii (rd v15 (tn v17)).a), (ii (rd (xsV (cvT l1) (cvT l2)) (tn (wr (v12 + 1))))), (ii (rd v15 (tn v17)).b)])) nn) (ww o3 (ww o2 (ww o1 (ww o2 (ww o0 (tt k0 nn)))))))))))))))) (fun k0 => (sl z7b 17 [] ⟨[0], [], v5b, v5d⟩ ⟨[], [], []⟩ [false] (pp (fl v9 nn) (tt k0 nn)))))
 | .h3 v9 v10 v11 v12 v16 => (lb (fun k0 => (lo fun o0 => (lo fun o1 => (lo fun o2 => (sl z7b 31 [] ⟨[0], [], rjoN3, rjoM3⟩ ⟨[(9, .len (v9.set (0 + (tn v16)) (R4.mk (rd v9 (0 + (tn v16))).a (rd v9 (0 + (tn v16))).b (rd (xsV (cvT l1) (cvT l2)) (tn (wr (v12 + 1)))) (rd v9 (0 + (tn v16))).d)).length)], [.rowed 4 (v9.set (0 + (tn v16)) (R4.mk (rd v9 (0 + (tn v16))).a (rd v9 (0 + (tn v16))).b (rd (xsV (cvT l1) (cvT l2)) (tn (wr (v12 + 1)))) (rd v9 (0 + (tn v16))).d)).length (Zz (v9.set (0 + (tn v16)) (R4.mk (rd v9 (0 + (tn v16))).a (rd v9 (0 + (tn v16))).b (rd (xsV (cvT l1) (cvT l2)) (tn (wr (v12 + 1)))) (rd v9 (0 + (tn v16))).d)))], []⟩ [true] (pp (xL v9.length (v9.set (0 + (tn v16)) (R4.mk (rd v9 (0 + (tn v16))).a (rd v9 (0 + (tn v16))).b (rd (xsV (cvT l1) (cvT l2)) (tn (wr (v12 + 1)))) (rd v9 (0 + (tn v16))).d)).length) (pp (xL v9.length (v9.set (0 + (tn v16)) (R4.mk (rd v9 (0 + (tn v16))).a (rd v9 (0 + (tn v16))).b (rd (xsV (cvT l1) (cvT l2)) (tn (wr (v12 + 1)))) (rd v9 (0 + (tn v16))).d)).length) (pp (xS v9.length (Xb (Zz v9) (0 + (tn v16)) 2 [(ii (rd (xsV (cvT l1) (cvT l2)) (tn (wr (v12 + 1)))))]) (Zz (v9.set (0 + (tn v16)) (R4.mk (rd v9 (0 + (tn v16))).a (rd v9 (0 + (tn v16))).b (rd (xsV (cvT l1) (cvT l2)) (tn (wr (v12 + 1)))) (rd v9 (0 + (tn v16))).d)))) (pp (pp (xF (Xb (Zz v9) (0 + (tn v16)) 2 [(ii (rd (xsV (cvT l1) (cvT l2)) (tn (wr (v12 + 1)))))])) nn) (ww o2 (ww o1 (ww o0 (tt k0 nn))))))))))))) (fun k0 => (sl z7b 17 [] ⟨[0], [], v5b, v5d⟩ ⟨[], [], []⟩ [false] (pp (fl v9 nn) (tt k0 nn)))))
theorem x0p (x0 : Int) (l1 : List R4) (l2 : List R4) : Xn Tryz.prog (Zy Tryz.prog 126) (rjoC x0 l1 l2) (Zf Tryz.prog 126 [(.int .i64 x0), (.dat l1.length (Zz l1)), (.dat l2.length (Zz l2))] true []) (z8y x0 l1 l2) := (lo fun o0 => (lo fun o1 => (sl z7b 34 [(88, 4, Zz ([] : List R4))] ⟨[0], [], v5b, v5d⟩ ⟨[(9, .grow 0 4), (10, .list 0 (Zz ([] : List R2)))], [], []⟩ [] (pp (fl ([] : List R4) nn) (pp (pp (xr l1) (pp (xr l2) (xw o1))) (pp (pp (xr l1) (pp (xr l2) (xw o0))) nn))))))
theorem w6u (x0 : Int) (l1 : List R4) (l2 : List R4) (n : Nat) (vs : List AVal) (h : Ya (Wr x0 l1 l2) n (z8y x0 l1 l2) = .ret vs) : Je Tryz.prog (Zy Tryz.prog 126) (Zf Tryz.prog 126 [(.int .i64 x0), (.dat l1.length (Zz l1)), (.dat l2.length (Zz l2))] true []) vs := by
 have := Zn (x7e x0 l1 l2) n _ (x0p x0 l1 l2)
 rwa [h] at this
end Go.Am
namespace Go.Am
open Go.Proofs
theorem z0l : ∀ (l out : List Int), (l.foldl y1h out).length ≤ out.length + l.length
 | [], out => Nat.le_refl _
 | x :: l, out => Nat.le_trans (z0l l (y1h out x)) (by have := y1g out x; simp; omega)
theorem z3t (l : List Int) : (z1o l).length ≤ l.length := by
 have := z0l l []
 simpa [z1o] using this
theorem y1x (cuts : List Int) (ins : List Bool) : ∀ (k i : Nat) (out : List R2), (x9n cuts ins k i out).length ≤ out.length + k
 | 0, _, out => Nat.le_refl _
 | k + 1, i, out => by
  unfold x9n
  refine Nat.le_trans (y1x cuts ins k (i + 1) _) ?_
  cases rd ins i
  ·simp only [cond_false]; omega
  ·simp only [cond_true]
   cases (decide (0 < out.length) && ((rd out (out.length - 1)).b == rd cuts i)) <;> simp <;> omega
theorem x3f (cuts : List Int) (ins : List Bool) : (z8a cuts ins).length ≤ cuts.length := by
 have := y1x cuts ins (cuts.length - 1) 0 []
 unfold z8a
 simp only [List.length_nil] at this
 omega
section
variable (kind : Int) (l m : List R4)
def w9p (x : Int) (y : Int) : Bool := Qn kind (has4V l x y) (has4V m x y)
def x4f (x : Int) : List R2 := z8a (ysV l m) ((ysV l m).map (w9p kind l m x))
def w5l (out : List R4) (first : Nat) (x : Int) : List R4 := out.take first ++ (out.drop first).map fun r => ⟨r.a, r.b, x, r.d⟩
def v5r (x x' : Int) (s : List R2) : List R4 := s.map fun p => ⟨x, p.a, x', p.b⟩
def jF : Nat → Nat → List R4 → List R2 → Nat → List R4
 | 0, _, out, _, _ => out
 | k + 1, i, out, last, first =>
  bif decide (0 < i) && Jr (x4f kind l m (rd (xsV l m) i)) last then jF k (i + 1) (w5l out first (rd (xsV l m) (i + 1))) last first
  else jF k (i + 1) (out ++ v5r (rd (xsV l m) i) (rd (xsV l m) (i + 1)) (x4f kind l m (rd (xsV l m) i))) (x4f kind l m (rd (xsV l m) i)) out.length
def joV : List R4 := jF kind l m ((xsV l m).length - 1) 0 [] [] 0
end
def Qi (_ : Int) (l m : List R4) : Bool := decide (l.length ≤ 10000 ∧ m.length ≤ 10000)
theorem Jp (l m : List R4) : (xsV l m).length ≤ 2 * l.length + 2 * m.length := by
 refine Nat.le_trans (z3t _) ?_
 rw [List.length_append, Qb, Qb]; omega
theorem y2y (l m : List R4) : (ysV l m).length ≤ 2 * l.length + 2 * m.length := by
 refine Nat.le_trans (z3t _) ?_
 rw [List.length_append, Qa, Qa]; omega
section
variable (kind : Int) (l m : List R4) (hl : l.length ≤ 10000) (hm : m.length ≤ 10000)
include hl hm
theorem v1k (out : List R4) (last : List R2) (first : Int) (i : Nat) (hi : i + 1 < (xsV l m).length) : ∀ (k j : Nat) (acc : List Bool), j + k = (ysV l m).length → acc.length = j →
  ∃ n, ∀ N, Ya (Wr kind l m) (N + n) (.to (.h1 out last first (i : Int) acc (j : Int))) = Ya (Wr kind l m) N (.to (.h1 out last first (i : Int) (acc ++ ((ysV l m).drop j).map (w9p kind l m (rd (xsV l m) i))) ((ysV l m).length : Int)))
 | 0, j, acc, h, ha => by
  refine ⟨0, fun N => ?_⟩
  rw [List.drop_eq_nil_of_le (by omega), List.map_nil, List.append_nil, Nat.add_zero]
  rw [show j = (ysV l m).length by omega]
 | k + 1, j, acc, h, ha => by
  have hx := Jp l m
  have hy := y2y l m
  obtain ⟨n, hn⟩ := v1k out last first i hi k (j + 1) (acc ++ [w9p kind l m (rd (xsV l m) i) (rd (ysV l m) j)]) (by omega) (by simp [ha])
  refine ⟨n + 1, fun N => ?_⟩
  have w1 : ∀ x y, Kf l x y = true := fun x y => decide_eq_true (by omega)
  have w2 : ∀ x y, Kf m x y = true := fun x y => decide_eq_true (by omega)
  rw [Yi (show j < (ysV l m).length by omega), List.map_cons, ← Nat.add_assoc, Zv]
  simp (disch := omega) only [Wr, Zg, Zq, w1, w2, Zs, Zr, Yq, Yw, Zc, Zj, Zx, Yu, Zu, Nat.zero_add, decide_true, Bool.and_true, Bool.true_and, cond_true]
  have := hn N
  rw [List.append_assoc] at this
  exact this
theorem v1j (last : List R2) (first : Int) (i : Nat) (hi : i + 1 < (xsV l m).length) (s : List R2) (hs : s.length ≤ 1000000) : ∀ (k j : Nat) (out : List R4), j + k = s.length → out.length ≤ 10000000000 + j →
  ∃ n, ∀ N, Ya (Wr kind l m) (N + n) (.to (.h2 out last first (i : Int) s (j : Int))) = Ya (Wr kind l m) N (.to (.h0 (out ++ v5r (rd (xsV l m) i) (rd (xsV l m) (i + 1)) (s.drop j)) last first ((i + 1 : Nat) : Int)))
 | 0, j, out, h, ho => by
  have hx := Jp l m
  refine ⟨1, fun N => ?_⟩
  rw [List.drop_eq_nil_of_le (by omega), Zv]
  simp (disch := omega) only [Wr, Zg, Zq, Yx, Zj, Zx, cond_false, v5r, List.map_nil, List.append_nil]
 | k + 1, j, out, h, ho => by
  have hx := Jp l m
  obtain ⟨n, hn⟩ := v1j last first i hi s hs k (j + 1) (out ++ v5r (rd (xsV l m) i) (rd (xsV l m) (i + 1)) [rd s j]) (by omega) (by simp [v5r]; omega)
  refine ⟨n + 1, fun N => ?_⟩
  have := hn N
  rw [Yi (show j < s.length by omega), ← Nat.add_assoc, Zv]
  simp (disch := omega) only [Wr, Zg, Zq, Zs, Zr, Yq, Yw, Zc, Zj, Zx, Yu, Zu, Nat.zero_add, decide_true, Bool.and_true, Bool.true_and, cond_true]
  rw [List.append_assoc] at this
  exact this
theorem w9e (out : List R4) (j : Nat) (x : Int) (h : j < out.length) : w5l (out.set j ⟨(rd out j).a, (rd out j).b, x, (rd out j).d⟩) (j + 1) x = w5l out j x := by
 have _uhl := hl
 have _uhm := hm
 unfold w5l
 rw [Yi h, List.map_cons]
 have e1 : (out.set j ⟨(rd out j).a, (rd out j).b, x, (rd out j).d⟩).take (j + 1) = out.take j ++ [⟨(rd out j).a, (rd out j).b, x, (rd out j).d⟩] := by
  apply List.ext_getElem
  ·simp; omega
  ·intro n h1 h2
   simp only [List.getElem_take, List.getElem_set]
   by_cases e : j = n
   ·subst e
    rw [if_pos rfl, List.getElem_append_right (by simp only [List.length_take]; omega)]
    simp
   ·rw [if_neg e, List.getElem_append_left (by simp at h1 ⊢; omega), List.getElem_take]
 have e2 : (out.set j ⟨(rd out j).a, (rd out j).b, x, (rd out j).d⟩).drop (j + 1) = out.drop (j + 1) := by
  rw [List.drop_set]; rw [if_pos (by omega)]
 rw [e1, e2, List.append_assoc]; rfl
theorem v1i (last : List R2) (first : Int) (i : Nat) (hi : i + 1 < (xsV l m).length) : ∀ (k j : Nat) (out : List R4), j + k = out.length → out.length ≤ 10000000000 →
  ∃ n, ∀ N, Ya (Wr kind l m) (N + n) (.to (.h3 out last first (i : Int) (j : Int))) = Ya (Wr kind l m) N (.to (.h0 (w5l out j (rd (xsV l m) (i + 1))) last first ((i + 1 : Nat) : Int)))
 | 0, j, out, h, ho => by
  have hx := Jp l m
  refine ⟨1, fun N => ?_⟩
  have e : w5l out j (rd (xsV l m) (i + 1)) = out := by
   unfold w5l; rw [List.drop_eq_nil_of_le (by omega), List.map_nil, List.append_nil, List.take_of_length_le (by omega)]
  rw [e, Zv]
  simp (disch := omega) only [Wr, Zg, Zq, Yx, Zj, Zx, cond_false]
 | k + 1, j, out, h, ho => by
  have hx := Jp l m
  obtain ⟨n, hn⟩ := v1i last first i hi k (j + 1) (out.set j ⟨(rd out j).a, (rd out j).b, rd (xsV l m) (i + 1), (rd out j).d⟩) (by simp; omega) (by simpa using ho)
  refine ⟨n + 1, fun N => ?_⟩
  have := hn N
  rw [w9e l m hl hm out j _ (by omega)] at this
  rw [← Nat.add_assoc, Zv]
  simp (disch := omega) only [Wr, Zg, Zq, Zs, Zr, Yy, Yq, Yw, Zc, Zj, Zx, Yu, Zu, Nat.zero_add, decide_true, Bool.and_true, Bool.true_and, cond_true]
  exact this
theorem w1h : ∀ (k i : Nat) (out : List R4) (last : List R2) (first : Nat), k = (xsV l m).length - 1 - i → i ≤ (xsV l m).length → out.length ≤ i * 40000 → last.length ≤ 40000 → first ≤ out.length →
  ∃ n, Ya (Wr kind l m) n (.to (.h0 out last (first : Int) (i : Int))) = .ret [.dat (jF kind l m k i out last first).length (Zz (jF kind l m k i out last first))]
 | 0, i, out, last, first, h, hi, ho, hla, hf => by
  have hx := Jp l m
  refine ⟨1, ?_⟩
  rw [Zv]
  simp (disch := omega) only [Wr, Zg, Zq, Yx, Zj, Zx, cond_false, Zp, jF]
 | k + 1, i, out, last, first, h, hi, ho, hla, hf => by
  have hx := Jp l m
  have hy := y2y l m
  have hi1 : i + 1 < (xsV l m).length := by omega
  have hsl : (x4f kind l m (rd (xsV l m) i)).length ≤ 40000 := Nat.le_trans (x3f _ _) (by omega)
  have hbig : i * 40000 ≤ 40000 * 40000 := Nat.mul_le_mul_right _ (by omega)
  obtain ⟨n1, h1⟩ := v1k kind l m hl hm out last first i hi1 (ysV l m).length 0 [] (Nat.zero_add _) rfl
  simp only [List.drop_zero, List.nil_append, z2n] at h1
  have w3 : z5x (ysV l m) ((ysV l m).map (w9p kind l m (rd (xsV l m) i))) = true := decide_eq_true ⟨by omega, by rw [List.length_map]; omega⟩
  have w4 : Vj (z8a (ysV l m) ((ysV l m).map (w9p kind l m (rd (xsV l m) i)))) last = true := decide_eq_true (Nat.le_trans hsl (by omega))
  have hy2 : ((ysV l m).length : Int) = (((ysV l m).length : Nat) : Int) := rfl
  unfold jF
  rcases Yc (decide (0 < i) && Jr (x4f kind l m (rd (xsV l m) i)) last) with q | q
  ·obtain ⟨n3, h3⟩ := v1i kind l m hl hm last first i hi1 (out.length - first) first out (by omega) (by omega)
   obtain ⟨n0, h0⟩ := w1h k (i + 1) (w5l out first (rd (xsV l m) (i + 1))) last first (by omega) (by omega) (by simp [w5l]; omega) hla (by simp [w5l]; omega)
   refine ⟨n0 + n3 + 1 + n1 + 1, ?_⟩
   rw [q, cond_true, Zv]
   simp only [Bool.and_eq_true, decide_eq_true_eq] at q
   have q2 : Jr (z8a (ysV l m) ((ysV l m).map (w9p kind l m (rd (xsV l m) i)))) last = true := q.2
   simp (disch := omega) only [Wr, Zg, Zq, Zs, Zj, Zx, cond_true]
   have h1' := h1 (n0 + n3 + 1)
   rw [h1', Zv]
   simp (disch := omega) only [Wr, Zg, Zq, Yx, Yf, q2, w3, w4, cond_true, cond_false]
   rw [h3 n0, h0]
  ·obtain ⟨n2, h2⟩ := v1j kind l m hl hm (x4f kind l m (rd (xsV l m) i)) (out.length : Int) i hi1 (x4f kind l m (rd (xsV l m) i)) (by omega) (x4f kind l m (rd (xsV l m) i)).length 0 out (Nat.zero_add _) (by omega)
   obtain ⟨n0, h0⟩ := w1h k (i + 1) (out ++ v5r (rd (xsV l m) i) (rd (xsV l m) (i + 1)) (x4f kind l m (rd (xsV l m) i))) (x4f kind l m (rd (xsV l m) i)) out.length (by omega) (by omega) (by simp [v5r]; omega) hsl (by simp)
   refine ⟨n0 + n2 + 1 + n1 + 1, ?_⟩
   rw [q, cond_false, Zv]
   simp (disch := omega) only [Wr, Zg, Zq, Zs, Zj, Zx, cond_true]
   have h1' := h1 (n0 + n2 + 1)
   rw [h1', Zv]
   have h2' := h2 n0
   simp only [List.drop_zero, z2n] at h2'
   by_cases hi0 : 0 < i
   ·rw [decide_eq_true hi0, Bool.true_and] at q
    have q2 : Jr (z8a (ysV l m) ((ysV l m).map (w9p kind l m (rd (xsV l m) i)))) last = false := q
    simp (disch := omega) only [Wr, Zg, Zq, Yx, Yf, q2, w3, w4, cond_true, cond_false]
    rw [← h0]; exact h2'
   ·simp (disch := omega) only [Wr, Zg, Zq, Yx, Xy, w3, w4, cond_true, cond_false]
    rw [← h0]; exact h2'
end
theorem v4z (kind : Int) (l m : List R4) (h : Qi kind l m = true) : ∃ N, Ya (Wr kind l m) N (z8y kind l m) = .ret [.dat (joV kind l m).length (Zz (joV kind l m))] := by
 obtain ⟨hl, hm⟩ := of_decide_eq_true h
 obtain ⟨N, hN⟩ := w1h kind l m hl hm ((xsV l m).length - 1) 0 [] [] 0 rfl (Nat.zero_le _) (Nat.zero_le _) (Nat.zero_le _) (Nat.le_refl _)
 refine ⟨N, ?_⟩
 have w1 : z8i l m = true := decide_eq_true ⟨hl, hm⟩
 have w2 : z8h l m = true := decide_eq_true ⟨hl, hm⟩
 simp only [z8y, Zg, Zq, w1, w2, cond_true]
 exact hN
end Go.Am
namespace Go.Am
open Go.Proofs
theorem v6v {P : Program} {S : Specs} (hS : Zk P S) {f : FuncId} {F : List AVal → Option (AVal × Bool)} (hf : (P.funcs[f]?).any (fun fn => fn.body.isSome) = true)
  (hF : ∀ args v, F args = some (v, true) → ∃ bs vs, Wt VLe args bs ∧ (∀ (ρ : Rho) (u : Value), Yv ρ (Ks vs) u → Yv ρ v u) ∧ Je P (Zy P f) (Zf P f bs true []) vs ∧ ∃ d, pf d (Ks vs) = true) : Zk P (S.with f F) :=
 x6b hS hf fun args v h => by
  obtain ⟨bs, vs, h1, h2, h3, d, h4⟩ := hF args v h
  exact ⟨vs, h2, y8l h1 h3, d, h4⟩
theorem z9z {cs cs' : List AVal} (h : RLe cs cs') (ρ : Rho) (u : Value) (hv : Yv ρ (.tup cs) u) : Yv ρ (.tup cs') u := by
 cases hv with
 | tup _ vs hl hh => exact .tup cs' vs (by rw [← h.len]; exact hl) fun i h1 h2 => h.sound i (by rw [h.len]; exact h1) h1 (hh i (by rw [h.len]; exact h1) h2)
theorem z4c (α : Type) [Xw α] : VLe .nils (.dat ([] : List α).length (Zz ([] : List α))) := .nild _
def fJo : List AVal → Option (AVal × Bool)
 | [.int .i64 x0, a1, a2] => match asL R4 a1, asL R4 a2 with
  | some (L1, g1, n1), some (L2, g2, n2) => some (.dat (joV x0 L1 L2).length (Zz (joV x0 L1 L2)), isT R4 n1 g1 && (isT R4 n2 g2 && (Qi x0 L1 L2)))
  | _, _ => none
 | _ => none
theorem fJo_ok {S : Specs} (hS : Zk Tryz.prog S) : Zk Tryz.prog (S.with v2n fJo) := by
 refine z1b hS (by kernel_rfl) fun args v h => ?_
 unfold fJo at h
 split at h
 ·rename_i x0 a1 a2
  split at h
  ·rename_i L1 g1 n1 L2 g2 n2 e1 e2
   simp only [Option.some.injEq, Prod.mk.injEq, Bool.and_eq_true] at h
   obtain ⟨rfl, ho1, ho2, hw⟩ := h
   obtain ⟨N, hN⟩ := v4z x0 L1 L2 hw
   exact ⟨_, _, (.cons (.refl _) (.cons (asL_le e1 ho1) (.cons (asL_le e2 ho2) .nil))), rfl, w6u x0 L1 L2 N _ hN, 3, rfl⟩
  ·cases h
 ·cases h
def T3 : Specs := T2.with v2n fJo
theorem z7a : Zk Tryz.prog T3 := fJo_ok z7b
end Go.Am
namespace Go.Am
open Go.Proofs Go.Sort
def bnd3 (r : R3) : Bool := decide (-1000000000 ≤ r.a ∧ r.a ≤ 1000000000)
def z8b (l : List R3) : Bool := l.all bnd3
abbrev E3 := { r : R3 // bnd3 r = true }
instance : Inhabited E3 := ⟨⟨⟨0, 0, 0⟩, rfl⟩⟩
def cf3 (x y : E3) : Int := x.1.a - y.1.a
def lt3 (x y : E3) : Bool := decide (cf3 x y < 0)
theorem swo3 : SWO lt3 where
 irrefl x := by unfold lt3 cf3; simp
 trans x y z h1 h2 := by unfold lt3 cf3 at *; simp at *; omega
 ntrans x y z h1 h2 := by unfold lt3 cf3 at *; simp at *; omega
def y6n : (l : List R3) → z8b l = true → List E3
 | [], _ => []
 | r :: l, h => ⟨r, by simp [z8b] at h; exact h.1⟩ :: y6n l (by simp [z8b] at h ⊢; exact h.2)
theorem z9t : ∀ (l : List R3) (h : z8b l = true), (y6n l h).map Subtype.val = l
 | [], _ => rfl
 | r :: l, h => by rw [y6n, List.map_cons, z9t l]
theorem Jc (l : List R3) (h : z8b l = true) : (y6n l h).length = l.length := by
 have := congrArg List.length (z9t l h)
 simpa using this
def Qc (l : List R3) : List R3 := if h : z8b l = true then (pdq lt3 (y6n l h).toArray 0 l.length (Lib.bitLen l.length) true true).toList.map Subtype.val else l
theorem Jn (l : List R3) (h : z8b l = true) : (Qc l).Perm l ∧ ∀ i j, i < j → j < (Qc l).length → (rd (Qc l) i).a ≤ (rd (Qc l) j).a := by
 have hp := pdq_sorts lt3 swo3 (y6n l h).toArray 0 l.length (Lib.bitLen l.length) true true (Nat.zero_le _) (by simp [Jc]) (Or.inl rfl)
 obtain ⟨⟨h1, h2, h3⟩, h4⟩ := hp
 have e : Qc l = (pdq lt3 (y6n l h).toArray 0 l.length (Lib.bitLen l.length) true true).toList.map Subtype.val := by unfold Qc; rw [dif_pos h]
 generalize pdq lt3 (y6n l h).toArray 0 l.length (Lib.bitLen l.length) true true = d at *
 have hs : d.size = l.length := by rw [h1]; simp [Jc]
 constructor
 ·rw [e]
  have x1 : (d.extract 0 l.length).toList = d.toList := by rw [← hs]; simp
  have x2 : ((y6n l h).toArray.extract 0 l.length).toList = y6n l h := by
   rw [show l.length = (y6n l h).toArray.size by simp [Jc]]; simp
  rw [x1, x2] at h3
  have := h3.map Subtype.val
  rw [z9t] at this
  exact this
 ·intro i j hij hj
  rw [e] at hj ⊢
  have hj' : j < d.size := by simpa using hj
  have := h4 i j (Nat.zero_le _) hij (by omega)
  rw [getElem!_pos d i (by omega), getElem!_pos d j hj'] at this
  rw [Xj (by simp; omega), Xj hj]
  simp only [List.getElem_map, Array.getElem_toList]
  unfold lt3 cf3 at this
  have := of_decide_eq_false this
  omega
end Go.Am
namespace Go.Am
open Go.Sort Go.RowKit Go.Proofs Go.Shelf
variable {P : Program} {ρ : Rho}
def valOf : AVal → Value
 | .int k n => .int k n
 | .bool b => .bool b
 | _ => .tuple #[]
def x2e : AVal → Bool
 | .int _ _ => true
 | .bool _ => true
 | _ => false
theorem x9v {a : AVal} (h : x2e a = true) : Yv ρ a (valOf a) := by
 cases a <;> first
  | exact .int _ _
  | exact .bool _
  | (simp [x2e] at h; done)
theorem w1p {a : AVal} {v : Value} (h : x2e a = true) (hv : Yv ρ a v) : v = valOf a := by
 cases hv <;> first
  | rfl
  | (simp [x2e] at h; done)
class v3j (α : Type) extends Xw α where
 num : ∀ a : α, (cells a).all x2e = true
instance : v3j R2 where num _ := rfl
instance : v3j R3 where num _ := rfl
instance : v3j R4 where num _ := rfl
instance : v3j R6 where num _ := rfl
instance {α : Type} [Xw α] : Inhabited α := ⟨Xw.d⟩
section
variable {α : Type} [v3j α]
def y4a (a : α) : List Value := (Xw.cells a).map valOf
theorem y1s (a : α) : (y4a a).length = Xw.w α := by rw [y4a, List.length_map, Xw.len]
theorem x5r (L : List α) (t : Nat) (h : t < L.length * Xw.w α) : (flatK y4a (Xw.w α) L.toArray)[t]? = (Xw.cells (rd L (t / Xw.w α)))[t % Xw.w α]?.map valOf := by
 have hw := Xw.pos (α := α)
 have hq : t / Xw.w α < L.length := Nat.div_lt_of_lt_mul (by rw [Nat.mul_comm]; exact h)
 have hj : t % Xw.w α < Xw.w α := Nat.mod_lt _ hw
 have hs : t < (flatK y4a (Xw.w α) L.toArray).size := by rw [size_flatK]; exact h
 rw [Array.getElem?_eq_getElem hs, ← getElem!_pos (flatK y4a (Xw.w α) L.toArray) t hs, get_flatK y4a (Xw.w α) L.toArray t (by simpa using h)]
 have e1 : L.toArray[t / Xw.w α]! = rd L (t / Xw.w α) := by
  rw [Xj hq, getElem!_pos L.toArray _ (by simpa using hq)]; simp
 rw [e1]
 have hl : t % Xw.w α < (y4a (rd L (t / Xw.w α))).length := by rw [y1s]; exact hj
 have hl2 : t % Xw.w α < (Xw.cells (rd L (t / Xw.w α))).length := by rw [Xw.len]; exact hj
 rw [getElem!_pos (y4a (rd L (t / Xw.w α))) _ hl, List.getElem?_eq_getElem hl2]
 simp [y4a]
theorem w1c (L : List α) (N t : Nat) (h : t < N * Xw.w α) : (Yg N (Zz L))[t]? = (Xw.cells (rd L (t / Xw.w α)))[t % Xw.w α]? := by
 have hw := Xw.pos (α := α)
 have := Wd (get := Zz L) (sz := Xw.w α) N (fun _ _ => Xw.len _) (t / Xw.w α) (t % Xw.w α) (Nat.div_lt_of_lt_mul (by rw [Nat.mul_comm]; exact h)) (Nat.mod_lt _ hw)
 rw [show t / Xw.w α * Xw.w α + t % Xw.w α = t by rw [Nat.mul_comm]; exact Nat.div_add_mod t _] at this
 exact this
theorem z0h (L : List α) (N : Nat) : (Yg N (Zz L)).length = N * Xw.w α := Yk N fun _ _ => Xw.len _
theorem y1j (w : World) (n blk off : Nat) (d : Array Value) (os : Array Obj) (k : Nat) (hk : k < w.heap.size) :
  (grow (putRow id (Go.Sort.ahead w n) blk off d) os).heap[k]? = if k = blk then (w.heap[k]?).map (onCells (putCells id off d)) else w.heap[k]? := by
 show (((Go.Sort.ahead w n).heap.modify blk (onCells (putCells id off d))) ++ os)[k]? = _
 rw [Array.getElem?_append_left (by simp; exact hk), Array.getElem?_modify]
 show (if blk = k then _ else _) = _
 by_cases h : k = blk
 ·rw [if_pos h.symm, if_pos h]; rfl
 ·rw [if_neg (fun e => h e.symm), if_neg h]; rfl
def x5s (α : Type) [Xw α] (srt : List α → List α) (bnd : List α → Bool) (g : FuncId) (args : List AVal) (mem : Mem) : Option (AVal × Nat × ABlk × Bool) := match args with
 | [.sla b sz off n cap, .fn f []] => bif Nat.beq f g then match Xx mem b with
  | some ⟨_, ty, some A⟩ => some (.tup [], b, ⟨Yg A.n (Zz (srt (lst α n A.get))), ty, some ⟨Xw.w α, A.n, Zz (srt (lst α n A.get))⟩⟩,
    Nat.beq sz (Xw.w α) && (Nat.beq A.sz (Xw.w α) && (Nat.beq off 0 && ((decide (n = A.n) && (isT α n A.get && decide (n < 4611686018427387904))) && bnd (lst α n A.get)))))
  | _ => none
  else none
 | _ => none
theorem w3w {f g : FuncId} {srt : List α → List α} {bnd : List α → Bool} (hsl : ∀ L, (srt L).length = L.length)
  (hC : ∀ (blk off cap : Nat) (L : List α) (w : World), bnd L = true → HoldsK y4a (Xw.w α) w blk off L.toArray → blk < w.heap.size → L.length < 4611686018427387904 →
   Calls P f #[.slice (some ⟨blk, off, none⟩) L.length cap, .func (.func g) #[] #[]] w fun e w' => e = .returned (.tuple #[]) ∧ ∃ n os, w' = sortWorldK y4a (Xw.w α) w blk off n (srt L).toArray os)
  (hN : ∀ (p : Option Addr) (cap : Nat) (fv : Value) (w : World), Calls P f #[.slice p 0 cap, fv] w fun e w' => e = .returned (.tuple #[]) ∧ w' = w) : y9i P f (x5s α srt bnd g) := by
 intro args mem v b blk h hsome ρ next floor vals w hfl hargs hrel
 have hw0 := Xw.pos (α := α)
 unfold x5s at h
 split at h
 ·rename_i b0 sz off n cap f0
  obtain ⟨hfg, h'⟩ := Ka h
  clear h
  obtain rfl := Nat.eq_of_beq_eq_true hfg
  have h := h'
  clear h'
  split at h
  ·rename_i cells ty A hm
   obtain ⟨asz, an, get⟩ := A
   simp only [Option.some.injEq, Prod.mk.injEq, Bool.and_eq_true] at h
   obtain ⟨rfl, rfl, rfl, h1, h2, h3, ⟨h4, h5, h6⟩, h7⟩ := h
   have g1 := Nat.eq_of_beq_eq_true h1
   have g2 := Nat.eq_of_beq_eq_true h2
   have g3 := Nat.eq_of_beq_eq_true h3
   have g4 : n = an := of_decide_eq_true h4
   have h6 : n < 4611686018427387904 := of_decide_eq_true h6
   have g2 : asz = Xw.w α := g2
   subst g1
   subst g2
   subst g3
   subst g4
   have h7 : bnd (lst α n get.get) = true := h7
   have hget := x5k h5
   have hget : ∀ i, i < n → get.get i = Zz (lst α n get.get) i := hget
   have hrows : Yg n get.get = Yg n (Zz (lst α n get.get)) := z6f n hget
   obtain ⟨u, hu, hvals⟩ : ∃ u, Yv ρ (.sla b0 (Xw.w α) 0 n cap) u ∧ vals = #[u, .func (.func f0) #[] #[]] := by
    obtain ⟨vl⟩ := vals
    cases hargs with
    | cons q1 q2 => cases q2 with
     | cons q3 q4 =>
      cases q4
      cases q3 with
      | fn _ _ cvs hl _ =>
       have : cvs = #[] := Array.eq_empty_of_size_eq_zero (by simpa using hl.symm)
       subst this
       exact ⟨_, q1, rfl⟩
   subst hvals
   have hlt : b0 < next := by
    rcases Nat.lt_or_ge b0 next with q | q
    ·exact q
    ·have := hrel.bd b0 q; rw [hm] at this; cases this
   show Calls P f _ w _
   have hAget : (Arr.get ⟨Xw.w α, n, get⟩) = get.get := rfl
   rw [hAget] at *
   generalize hI : lst α n get.get = I at *
   have hIl : I.length = n := by rw [← hI]; exact z6j _ _
   generalize hL : srt I = L
   have hLl : L.length = n := by rw [← hL, hsl, hIl]
   have hnn : ρ b0 = none → ∀ cs ty', Xx mem b0 ≠ some ⟨cs, ty', none⟩ := fun _ cs ty' e => by rw [hm] at e; cases e
   cases hu with
   | sla _ _ _ _ _ l cc e hc hlen =>
    have hbk := hrel.blk b0 l _ e hm
    obtain ⟨har, _, _⟩ := hbk.arr _ rfl
    have har : cells = Yg n get.get := har
    rw [hrows] at har
    subst har
    obtain ⟨cur, el, hh, hsz, hcells⟩ := hbk.cells
    simp only [z0h] at hcells
    have htot := hbk.tot
    have hln := hbk.n
    simp only [z0h] at hln
    have hcell : ∀ t, t < n * Xw.w α → cur[l.base + t]? = (Xw.cells (rd I (t / Xw.w α)))[t % Xw.w α]?.map valOf := fun t ht => by
     obtain ⟨v, e1, e2⟩ := hcells t ht
     have hj : t % Xw.w α < Xw.w α := Nat.mod_lt _ hw0
     have hl2 : t % Xw.w α < (Xw.cells (rd I (t / Xw.w α))).length := by rw [Xw.len]; exact hj
     have e3 := w1c I n t ht
     rw [List.getElem?_eq_getElem (by rw [z0h]; exact ht), List.getElem?_eq_getElem hl2] at e3
     rw [Option.some.inj e3] at e2
     rw [e1, List.getElem?_eq_getElem hl2, Option.map_some, w1p (List.all_eq_true.1 (v3j.num _) _ (List.getElem_mem hl2)) e2]
    have hblk := hrel.real b0 l e
    have hH : HoldsK y4a (Xw.w α) w l.blk (l.base + 0 * Xw.w α) I.toArray := fun j hj => by
     have hj : j < n * Xw.w α := by simpa [hIl] using hj
     have hs : j < (flatK y4a (Xw.w α) I.toArray).size := by simpa [hIl] using hj
     have e1 := x5r I j (by rw [hIl]; exact hj)
     rw [Array.getElem?_eq_getElem hs] at e1
     refine ⟨?_, ?_⟩
     ·simp only [World.cell?, hh, Nat.zero_mul, Nat.add_zero, id]
      rw [hcell j hj, ← e1, getElem!_pos (flatK y4a (Xw.w α) I.toArray) j hs]
      simp
     ·simp [World.frozen?, hh]
    have hcall := hC l.blk (l.base + 0 * Xw.w α) cc I w h7 hH hblk (by omega)
    rw [hIl, hL] at hcall
    refine hcall.mono fun e' w' ⟨he, q, os, hw'⟩ => ⟨_, he, ?_, ?_, ?_⟩
    ·exact .tup [] #[] rfl fun i h1 h2 => absurd h1 (Nat.not_lt_zero _)
    ·subst hw'
     refine Rel.setArr ?_ ⟨Xw.w α, n, .flat (Zz L)⟩ rfl hw0 fun _ _ => Xw.len _
     refine Rel.rewritten hrel e hm (by simp only [z0h]) (fun k hk hne => ?_) ?_ ?_
     ·exact (y1j _ _ _ _ _ _ _ hk).trans (if_neg hne)
     ·show _ ≤ (((Go.Sort.ahead w q).heap.modify _ _) ++ os).size
      simp only [Array.size_append, Array.size_modify]
      exact Nat.le_add_right _ _
     ·refine ⟨putCells id (l.base + 0 * Xw.w α) (flatK y4a (Xw.w α) L.toArray) cur, el, ?_, ?_, fun i hi => ?_⟩
      ·refine (y1j _ _ _ _ _ _ _ hblk).trans ?_
       rw [if_pos rfl, hh]; rfl
      ·simp only [putCells, Array.size_mapIdx]; exact hsz
      ·rw [z0h] at hi
       have hj : i % Xw.w α < Xw.w α := Nat.mod_lt _ hw0
       have hl2 : i % Xw.w α < (Xw.cells (rd L (i / Xw.w α))).length := by rw [Xw.len]; exact hj
       have hl3 : i % Xw.w α < (Xw.cells (rd I (i / Xw.w α))).length := by rw [Xw.len]; exact hj
       have e1 := x5r L i (by rw [hLl]; exact hi)
       rw [List.getElem?_eq_getElem hl2, Option.map_some] at e1
       have hs : i < (flatK y4a (Xw.w α) L.toArray).size := by simpa [hLl] using hi
       rw [Array.getElem?_eq_getElem hs] at e1
       have e3 := w1c L n i hi
       rw [List.getElem?_eq_getElem (by rw [z0h]; exact hi), List.getElem?_eq_getElem hl2] at e3
       refine ⟨valOf (Xw.cells (rd L (i / Xw.w α)))[i % Xw.w α], ?_, ?_⟩
       ·have hc0 := hcell i hi
        rw [List.getElem?_eq_getElem hl3, Option.map_some] at hc0
        simp only [putCells, Array.getElem?_mapIdx, hc0, Option.map_some, Nat.zero_mul, Nat.add_zero]
        rw [if_pos ⟨by omega, by omega⟩]
        congr 1
        rw [show l.base + i - l.base = i by omega, id, getElem!_pos (flatK y4a (Xw.w α) L.toArray) i hs]
        exact Option.some.inj e1
       ·rw [Option.some.inj e3]
        exact x9v (List.all_eq_true.1 (v3j.num _) _ (List.getElem_mem hl2))
    ·subst hw'
     refine Ev.rewritten hrel _ (fun l' _ => hfl) hnn (fun k hk hne => ?_) ?_ rfl rfl rfl
     ·exact (y1j _ _ _ _ _ _ _ hk).trans (if_neg (hne l e))
     ·show _ ≤ (((Go.Sort.ahead w q).heap.modify _ _) ++ os).size
      simp only [Array.size_append, Array.size_modify]
      exact Nat.le_add_right _ _
   | slan =>
    have hI0 : I = [] := List.eq_nil_of_length_eq_zero hIl
    have hL0 : L = [] := List.eq_nil_of_length_eq_zero hLl
    refine (hN none 0 _ w).mono fun e' w' ⟨he, hw'⟩ => ⟨_, he, ?_, ?_, ?_⟩
    ·exact .tup [] #[] rfl fun i h1 h2 => absurd h1 (Nat.not_lt_zero _)
    ·subst hw'
     refine hrel.reblk hm fun l hρ hbk => ?_
     obtain ⟨har, har2, _⟩ := hbk.arr _ rfl
     have har : cells = Yg 0 get.get := har
     subst har
     exact ⟨hbk.n, hbk.tot, fun B hB => by obtain rfl := Option.some.inj hB; exact ⟨rfl, hw0, fun i hi => absurd hi (Nat.not_lt_zero _)⟩, hbk.cells⟩
    ·subst hw'
     exact Ev.rewritten hrel _ (fun l' _ => hfl) hnn (fun _ _ _ => rfl) (Nat.le_refl _) rfl rfl rfl
  ·cases h
 ·cases h
end
def Specs.withE (S : Specs) (f : FuncId) (F : List AVal → Mem → Option (AVal × Nat × ABlk × Bool)) : Specs := fun g => bif Nat.beq g f then some (.eff F) else S g
theorem y4i {P : Program} {S : Specs} (hS : Zk P S) {f : FuncId} {F : List AVal → Mem → Option (AVal × Nat × ABlk × Bool)} (hf : (P.funcs[f]?).any (fun fn => fn.body.isSome) = true) (hF : y9i P f F) : Zk P (S.withE f F) := by
 intro g G hg
 unfold Specs.withE at hg
 cases hgf : Nat.beq g f with
 | false => rw [hgf] at hg; exact hS g G hg
 | true =>
  rw [hgf] at hg
  obtain rfl : Spec.eff F = G := Option.some.inj hg
  obtain rfl : g = f := Nat.eq_of_beq_eq_true hgf
  refine ⟨?_, hF⟩
  cases hfn : P.funcs[g]? with
  | none => rw [hfn] at hf; cases hf
  | some fn => rw [hfn] at hf; exact ⟨fn, rfl, hf⟩
end Go.Am
namespace Go.Proofs
open Go.Shelf
def Tryz.lays189_ren : Go.Shelf.Ren := ⟨fun | 189 => 63 | 125 => 117 | 257 => 116 | 128 => 152 | 129 => 153 | 294 => 143 | 295 => 144 | 296 => 145 | 297 => 146 | 298 => 147 | 299 => 148 | 216 => 149 | 300 => 150 | 301 => 151 | 328 => 176 | 329 => 177 | 330 => 178 | 331 => 179 | 332 => 180 | 215 => 181 | 343 => 194 | n => n, fun | 28 => 93 | 3 => 3 | 46 => 147 | 0 => 0 | 51 => 194 | 53 => 196 | 4 => 4 | 183 => 186 | 182 => 185 | 131 => 191 | 5 => 5 | 9 => 9 | 218 => 224 | 222 => 228 | 228 => 239 | 229 => 91 | n => n, fun | n => n⟩
theorem Tryz.lays189 : Go.Proofs.Lays.n189 Tryz.prog Tryz.lays189_ren := {
 mixed := by kernel_rfl
 f125 := Tryz.func117.trans (congrArg some (by kernel_rfl))
 f128 := Tryz.func152.trans (congrArg some (by kernel_rfl))
 f129 := Tryz.func153.trans (congrArg some (by kernel_rfl))
 f189 := Tryz.func63.trans (congrArg some (by kernel_rfl))
 f215 := Tryz.func181.trans (congrArg some (by kernel_rfl))
 f216 := Tryz.func149.trans (congrArg some (by kernel_rfl))
 f257 := Tryz.func116.trans (congrArg some (by kernel_rfl))
 f294 := Tryz.func143.trans (congrArg some (by kernel_rfl))
 f295 := Tryz.func144.trans (congrArg some (by kernel_rfl))
 f296 := Tryz.func145.trans (congrArg some (by kernel_rfl))
 f297 := Tryz.func146.trans (congrArg some (by kernel_rfl))
 f298 := Tryz.func147.trans (congrArg some (by kernel_rfl))
 f299 := Tryz.func148.trans (congrArg some (by kernel_rfl))
 f300 := Tryz.func150.trans (congrArg some (by kernel_rfl))
 f301 := Tryz.func151.trans (congrArg some (by kernel_rfl))
 f328 := Tryz.func176.trans (congrArg some (by kernel_rfl))
 f329 := Tryz.func177.trans (congrArg some (by kernel_rfl))
 f330 := Tryz.func178.trans (congrArg some (by kernel_rfl))
 f331 := Tryz.func179.trans (congrArg some (by kernel_rfl))
 f332 := Tryz.func180.trans (congrArg some (by kernel_rfl))
 f343 := Tryz.func194.trans (congrArg some (by kernel_rfl))
 t0 := Tryz.underlying0
 a0 := Tryz.isAgg0
 z0 := Tryz.sizeOf0
 v0 := Tryz.zeroValue0
 t3 := Tryz.underlying3
 a3 := Tryz.isAgg3
 z3 := Tryz.sizeOf3
 v3 := Tryz.zeroValue3
 t4 := Tryz.underlying4
 a4 := Tryz.isAgg4
 z4 := Tryz.sizeOf4
 v4 := Tryz.zeroValue4
 t5 := Tryz.underlying5
 a5 := Tryz.isAgg5
 z5 := Tryz.sizeOf5
 v5 := Tryz.zeroValue5
 t9 := Tryz.underlying9
 a9 := Tryz.isAgg9
 z9 := Tryz.sizeOf9
 v9 := Tryz.zeroValue9
 t28 := Tryz.underlying93
 a28 := Tryz.isAgg93
 z28 := Tryz.sizeOf93
 v28 := Tryz.zeroValue93
 t46 := Tryz.underlying147
 a46 := Tryz.isAgg147
 z46 := Tryz.sizeOf147
 v46 := Tryz.zeroValue147
 t51 := Tryz.underlying194
 a51 := Tryz.isAgg194
 z51 := Tryz.sizeOf194
 v51 := Tryz.zeroValue194
 t53 := Tryz.underlying196
 a53 := Tryz.isAgg196
 z53 := Tryz.sizeOf196
 v53 := Tryz.zeroValue196
 t131 := Tryz.underlying191
 a131 := Tryz.isAgg191
 z131 := Tryz.sizeOf191
 v131 := Tryz.zeroValue191
 t182 := Tryz.underlying185
 a182 := Tryz.isAgg185
 z182 := Tryz.sizeOf185
 v182 := Tryz.zeroValue185
 t183 := Tryz.underlying186
 a183 := Tryz.isAgg186
 z183 := Tryz.sizeOf186
 v183 := Tryz.zeroValue186
 t218 := Tryz.underlying224
 a218 := Tryz.isAgg224
 z218 := Tryz.sizeOf224
 v218 := Tryz.zeroValue224
 t222 := Tryz.underlying228
 a222 := Tryz.isAgg228
 z222 := Tryz.sizeOf228
 v222 := Tryz.zeroValue228
 t228 := Tryz.underlying239
 a228 := Tryz.isAgg239
 z228 := Tryz.sizeOf239
 v228 := Tryz.zeroValue239
 t229 := Tryz.underlying91
 a229 := Tryz.isAgg91
 z229 := Tryz.sizeOf91
 v229 := Tryz.zeroValue91 }
open Go.Sort Go.RowKit in
theorem Tryz.slices_Sort_int (blk off cap : Nat) (zs : List Int) (w : World) (hH : Holds (Value.int .i64) w blk off zs.toArray) (hblk : blk < w.heap.size) (hsz : zs.length < 4611686018427387904) :
  Calls Tryz.prog 63 #[.slice (some ⟨blk, off, none⟩) zs.length cap] w fun e w' =>
   e = .returned (.tuple #[]) ∧ ∃ n os, w' = grow (putRow (Value.int .i64) (Sort.ahead w n) blk off (zs.mergeSort fun x y => decide (x ≤ y)).toArray) os := Any.slices_Sort_int Tryz.lays189 blk off cap zs w hH hblk hsz
def Tryz.laysNm220_ren : Go.Shelf.Ren := ⟨fun | 20 => 64 | n => n, fun | 22 => 93 | 3 => 3 | 4 => 4 | 0 => 0 | n => n, fun | n => n⟩
theorem Tryz.laysNm220 : Go.Proofs.Lays2.n20 Tryz.prog Tryz.laysNm220_ren := {
 mixed := by kernel_rfl
 f20 := Tryz.func64.trans (congrArg some (by kernel_rfl))
 t0 := Tryz.underlying0
 a0 := Tryz.isAgg0
 z0 := Tryz.sizeOf0
 v0 := Tryz.zeroValue0
 t3 := Tryz.underlying3
 a3 := Tryz.isAgg3
 z3 := Tryz.sizeOf3
 v3 := Tryz.zeroValue3
 t4 := Tryz.underlying4
 a4 := Tryz.isAgg4
 z4 := Tryz.sizeOf4
 v4 := Tryz.zeroValue4
 t22 := Tryz.underlying93
 a22 := Tryz.isAgg93
 z22 := Tryz.sizeOf93
 v22 := Tryz.zeroValue93
 i3 := by kernel_rfl }
open Go.RowKit Go.Lib Go.Sort in
theorem Tryz.slices_Compact_int (blk off cap : Nat) (zs : List Int) (w : World) (hH : Holds (Value.int .i64) w blk off zs.toArray) (hsz : zs.length ≤ 9223372036854775807) (hcap : zs.length ≤ cap) :
  Calls Tryz.prog 64 #[.slice (some ⟨blk, off, none⟩) zs.length cap] w fun e w' => e = .returned (.slice (some ⟨blk, off, none⟩) (Lib.compact zs).length cap) ∧ ∃ q, w' = putRow (Value.int .i64) (Sort.ahead w q) blk off (Lib.compact zs ++ List.replicate (zs.length - (Lib.compact zs).length) 0).toArray := Any.slices_Compact_int Tryz.laysNm220 blk off cap zs w hH hsz hcap
open Go.RowKit Go.Lib Go.Sort in
theorem Tryz.slices_Compact_int_empty (a : Option Addr) (cap : Nat) (w : World) :
  Calls Tryz.prog 64 #[.slice a 0 cap] w fun e w' => e = .returned (.slice a 0 cap) ∧ w' = w := Any.slices_Compact_int_empty Tryz.laysNm220 a cap w
open Go.RowKit Go.Sort in
theorem Tryz.slices_Sort_int_none (p : Option Addr) (cap : Nat) (w : World) :
  Calls Tryz.prog 63 #[.slice p 0 cap] w fun e w' => e = .returned (.tuple #[]) ∧ w' = w := Any.slices_Sort_int_none Tryz.lays189 p cap w
def Tryz.sortEnd_ren : Go.Shelf.Ren := ⟨fun | 6 => 200 | 15 => 117 | 14 => 204 | 28 => 152 | 29 => 153 | 20 => 206 | 21 => 207 | 22 => 208 | 23 => 209 | 24 => 210 | 25 => 211 | 26 => 212 | 27 => 213 | 46 => 214 | 47 => 177 | 48 => 178 | 49 => 215 | 50 => 216 | 57 => 217 | n => n, fun | 22 => 248 | 24 => 246 | 25 => 250 | 3 => 3 | 39 => 147 | 0 => 0 | 53 => 194 | 55 => 196 | 4 => 4 | 46 => 186 | 45 => 185 | 50 => 191 | 5 => 5 | 9 => 9 | 66 => 224 | 70 => 228 | 76 => 239 | 77 => 91 | n => n, fun | n => n⟩
theorem Tryz.sortEnd : Go.Proofs.SlLaysF0.n6 Tryz.prog Tryz.sortEnd_ren := {
 mixed := by kernel_rfl
 f6 := ⟨Tryz.f200.name, by decide, Tryz.func200.trans (congrArg some (by kernel_rfl))⟩
 f14 := ⟨Tryz.f204.name, by decide, Tryz.func204.trans (congrArg some (by kernel_rfl))⟩
 f15 := Tryz.func117.trans (congrArg some (by kernel_rfl))
 f20 := ⟨Tryz.f206.name, by decide, Tryz.func206.trans (congrArg some (by kernel_rfl))⟩
 f21 := ⟨Tryz.f207.name, by decide, Tryz.func207.trans (congrArg some (by kernel_rfl))⟩
 f22 := ⟨Tryz.f208.name, by decide, Tryz.func208.trans (congrArg some (by kernel_rfl))⟩
 f23 := ⟨Tryz.f209.name, by decide, Tryz.func209.trans (congrArg some (by kernel_rfl))⟩
 f24 := ⟨Tryz.f210.name, by decide, Tryz.func210.trans (congrArg some (by kernel_rfl))⟩
 f25 := ⟨Tryz.f211.name, by decide, Tryz.func211.trans (congrArg some (by kernel_rfl))⟩
 f26 := ⟨Tryz.f212.name, by decide, Tryz.func212.trans (congrArg some (by kernel_rfl))⟩
 f27 := ⟨Tryz.f213.name, by decide, Tryz.func213.trans (congrArg some (by kernel_rfl))⟩
 f28 := Tryz.func152.trans (congrArg some (by kernel_rfl))
 f29 := Tryz.func153.trans (congrArg some (by kernel_rfl))
 f46 := ⟨Tryz.f214.name, by decide, Tryz.func214.trans (congrArg some (by kernel_rfl))⟩
 f47 := Tryz.func177.trans (congrArg some (by kernel_rfl))
 f48 := Tryz.func178.trans (congrArg some (by kernel_rfl))
 f49 := ⟨Tryz.f215.name, by decide, Tryz.func215.trans (congrArg some (by kernel_rfl))⟩
 f50 := ⟨Tryz.f216.name, by decide, Tryz.func216.trans (congrArg some (by kernel_rfl))⟩
 f57 := ⟨Tryz.f217.name, by decide, Tryz.func217.trans (congrArg some (by kernel_rfl))⟩
 t0 := Tryz.underlying0
 a0 := Tryz.isAgg0
 z0 := Tryz.sizeOf0
 v0 := Tryz.zeroValue0
 t3 := Tryz.underlying3
 a3 := Tryz.isAgg3
 z3 := Tryz.sizeOf3
 v3 := Tryz.zeroValue3
 t4 := Tryz.underlying4
 a4 := Tryz.isAgg4
 z4 := Tryz.sizeOf4
 v4 := Tryz.zeroValue4
 t5 := Tryz.underlying5
 a5 := Tryz.isAgg5
 z5 := Tryz.sizeOf5
 v5 := Tryz.zeroValue5
 t9 := Tryz.underlying9
 a9 := Tryz.isAgg9
 z9 := Tryz.sizeOf9
 v9 := Tryz.zeroValue9
 t22 := Tryz.underlying248
 a22 := Tryz.isAgg248
 z22 := Tryz.sizeOf248
 v22 := Tryz.zeroValue248
 t25 := Tryz.underlying250
 a25 := Tryz.isAgg250
 z25 := Tryz.sizeOf250
 v25 := Tryz.zeroValue250
 t39 := Tryz.underlying147
 a39 := Tryz.isAgg147
 z39 := Tryz.sizeOf147
 v39 := Tryz.zeroValue147
 t45 := Tryz.underlying185
 a45 := Tryz.isAgg185
 z45 := Tryz.sizeOf185
 v45 := Tryz.zeroValue185
 t46 := Tryz.underlying186
 a46 := Tryz.isAgg186
 z46 := Tryz.sizeOf186
 v46 := Tryz.zeroValue186
 t50 := Tryz.underlying191
 a50 := Tryz.isAgg191
 z50 := Tryz.sizeOf191
 v50 := Tryz.zeroValue191
 t53 := Tryz.underlying194
 a53 := Tryz.isAgg194
 z53 := Tryz.sizeOf194
 v53 := Tryz.zeroValue194
 t55 := Tryz.underlying196
 a55 := Tryz.isAgg196
 z55 := Tryz.sizeOf196
 v55 := Tryz.zeroValue196
 t66 := Tryz.underlying224
 a66 := Tryz.isAgg224
 z66 := Tryz.sizeOf224
 v66 := Tryz.zeroValue224
 t70 := Tryz.underlying228
 a70 := Tryz.isAgg228
 z70 := Tryz.sizeOf228
 v70 := Tryz.zeroValue228
 t76 := Tryz.underlying239
 a76 := Tryz.isAgg239
 z76 := Tryz.sizeOf239
 v76 := Tryz.zeroValue239
 t77 := Tryz.underlying91
 a77 := Tryz.isAgg91
 z77 := Tryz.sizeOf91
 v77 := Tryz.zeroValue91 }
end Go.Proofs
namespace Go.Proofs
open Go.Shelf Go.RowKit Go.Lib Go.Sort
theorem Tryz.cmpEnd (a b c a' b' c' : Int) (h : -1000000000 ≤ a ∧ a ≤ 1000000000) (h' : -1000000000 ≤ a' ∧ a' ≤ 1000000000) (W : World) :
  Calls Tryz.prog 201 #[.agg #[.int .i64 a, .int .i64 b, .int .i64 c], .agg #[.int .i64 a', .int .i64 b', .int .i64 c']] W fun e w' => e = .returned (.int .i64 (a - a')) ∧ ∃ q os', w' = grow (W.drewN q) os' := by
 go_enter Tryz.func201, Tryz.ntmps201
 go_wp2
 go_ret
 exact ⟨rfl, 0, _, by rw [alloc_eq_grow, alloc_eq_grow, grow_grow]; rfl⟩
end Go.Proofs
namespace Go.Am
open Go.Proofs
inductive rjsS where
 | h0 (v9 : List R6) (v10 : List R4) (v11 : Int) (v12 : Int)
 | h1 (v9 : List R6) (v10 : List R4) (v11 : Int) (v12 : Int) (v13 : List R4) (v15 : Int)
 | h2 (v9 : List R6) (v10 : List R4) (v11 : Int) (v12 : Int) (v14 : Int)
def rjsC (x0 : Int) (l1 : List R6) (l2 : List R6) : rjsS → Cfg
 | .h0 v9 v10 v11 v12 => ⟨⟨137, 0, true⟩, none, (Za Tryz.prog 72 [1, 1, 1, 1, 1, 0, 1, 0, 0] 0), none, (Zy Tryz.prog 32), ⟨Ym [(0, (ii x0)), (1, (.dat l1.length (Zz l1))), (2, (.dat l2.length (Zz l2))), (8, (.dat (Yt (cvT l1) (cvT l2)).length (Zz (Yt (cvT l1) (cvT l2))))), (9, (.sla 0 6 0 v9.length (.un 6))), (10, (.dat v10.length (Zz v10))), (11, (ii v11)), (12, (ii v12))], Jw [⟨Yg v9.length (Zz v9), 67, some ⟨6, v9.length, (Zz v9)⟩⟩] 0, 1, [], true⟩, [], .leaf⟩
 | .h1 v9 v10 v11 v12 v13 v15 => ⟨⟨137, 0, true⟩, none, (Za Tryz.prog 72 [1, 1, 1, 1, 1, 0, 1, 0, 0, 1, 0, 0, 1, 1, 1, 1, 1, 0, 0] 0), none, (Zy Tryz.prog 32), ⟨Ym [(0, (ii x0)), (1, (.dat l1.length (Zz l1))), (2, (.dat l2.length (Zz l2))), (8, (.dat (Yt (cvT l1) (cvT l2)).length (Zz (Yt (cvT l1) (cvT l2))))), (9, (.sla 0 6 0 v9.length (.un 6))), (10, (.dat v10.length (Zz v10))), (11, (ii v11)), (12, (ii v12)), (13, (.dat v13.length (Zz v13))), (15, (ii v15))], Jw [⟨Yg v9.length (Zz v9), 67, some ⟨6, v9.length, (Zz v9)⟩⟩] 0, 1, [], true⟩, [], .leaf⟩
 | .h2 v9 v10 v11 v12 v14 => ⟨⟨137, 0, true⟩, none, (Za Tryz.prog 72 [1, 1, 1, 1, 1, 0, 1, 0, 0, 1, 0, 0, 1, 1, 0, 1, 0, 0, 1, 0, 0] 0), none, (Zy Tryz.prog 32), ⟨Ym [(0, (ii x0)), (1, (.dat l1.length (Zz l1))), (2, (.dat l2.length (Zz l2))), (8, (.dat (Yt (cvT l1) (cvT l2)).length (Zz (Yt (cvT l1) (cvT l2))))), (9, (.sla 0 6 0 v9.length (.un 6))), (10, (.dat v10.length (Zz v10))), (11, (ii v11)), (12, (ii v12)), (14, (ii v14))], Jw [⟨Yg v9.length (Zz v9), 67, some ⟨6, v9.length, (Zz v9)⟩⟩] 0, 1, [], true⟩, [], .leaf⟩
def v4w : List (Option (List Nat)) := [some [0, 1, 2, 8, 9, 10, 11, 12]]
def v4y : List (Option (List Nat)) := []
def v4v : List (Option (List Nat)) := [some [0, 1, 2, 8, 9, 10, 11, 12, 13, 15]]
def v4x : List (Option (List Nat)) := []
def rjsN2 : List (Option (List Nat)) := [some [0, 1, 2, 8, 9, 10, 11, 12, 14]]
def rjsM2 : List (Option (List Nat)) := []
def Vk (x0 : Int) (l1 : List R6) (l2 : List R6) : rjsS → Xo rjsS
 | .h0 v9 v10 v11 v12 => (bif (decide ((IntKind.wrap .i64 (v12 + 1)) < (((Yt (cvT l1) (cvT l2)).length : Nat) : Int))) then (bif (z3h (cvT l1) (rd (Yt (cvT l1) (cvT l2)) v12.toNat)) then (bif ((decide (0 ≤ v12 ∧ v12 < (((Yt (cvT l1) (cvT l2)).length : Nat) : Int))) && true) then (bif (z3h (cvT l2) (rd (Yt (cvT l1) (cvT l2)) v12.toNat)) then (bif (Qi x0 (cvT (atV (cvT l1) (rd (Yt (cvT l1) (cvT l2)) v12.toNat))) (cvT (atV (cvT l2) (rd (Yt (cvT l1) (cvT l2)) v12.toNat)))) then (bif (decide ((((joV x0 (cvT (atV (cvT l1) (rd (Yt (cvT l1) (cvT l2)) v12.toNat))) (cvT (atV (cvT l2) (rd (Yt (cvT l1) (cvT l2)) v12.toNat)))).length : Nat) : Int) > 400)) then (.ret [.nils, (.bool false)]) else (bif (Qi 2 (cvT (atV (cvT l1) (rd (Yt (cvT l1) (cvT l2)) v12.toNat))) ([] : List R4)) then (bif (decide ((((joV 2 (cvT (atV (cvT l1) (rd (Yt (cvT l1) (cvT l2)) v12.toNat))) ([] : List R4)).length : Nat) : Int) > 400)) then (.ret [.nils, (.bool false)]) else (bif (Qi 2 (cvT (atV (cvT l2) (rd (Yt (cvT l1) (cvT l2)) v12.toNat))) ([] : List R4)) then (bif (decide ((((joV 2 (cvT (atV (cvT l2) (rd (Yt (cvT l1) (cvT l2)) v12.toNat))) ([] : List R4)).length : Nat) : Int) > 400)) then (.ret [.nils, (.bool false)]) else (bif (decide (v12 > 0)) then (bif (Ww (cvT (joV x0 (cvT (atV (cvT l1) (rd (Yt (cvT l1) (cvT l2)) v12.toNat))) (cvT (atV (cvT l2) (rd (Yt (cvT l1) (cvT l2)) v12.toNat))))) (cvT v10)) then (bif (Vs (cvT (joV x0 (cvT (atV (cvT l1) (rd (Yt (cvT l1) (cvT l2)) v12.toNat))) (cvT (atV (cvT l2) (rd (Yt (cvT l1) (cvT l2)) v12.toNat))))) (cvT v10)) then (.to (.h2 v9 v10 v11 v12 v11)) else (.to (.h1 v9 (joV x0 (cvT (atV (cvT l1) (rd (Yt (cvT l1) (cvT l2)) v12.toNat))) (cvT (atV (cvT l2) (rd (Yt (cvT l1) (cvT l2)) v12.toNat)))) (v9.length : Int) v12 (joV x0 (cvT (atV (cvT l1) (rd (Yt (cvT l1) (cvT l2)) v12.toNat))) (cvT (atV (cvT l2) (rd (Yt (cvT l1) (cvT l2)) v12.toNat)))) 0))) else .stuck) else (.to (.h1 v9 (joV x0 (cvT (atV (cvT l1) (rd (Yt (cvT l1) (cvT l2)) v12.toNat))) (cvT (atV (cvT l2) (rd (Yt (cvT l1) (cvT l2)) v12.toNat)))) (v9.length : Int) v12 (joV x0 (cvT (atV (cvT l1) (rd (Yt (cvT l1) (cvT l2)) v12.toNat))) (cvT (atV (cvT l2) (rd (Yt (cvT l1) (cvT l2)) v12.toNat)))) 0)))) else .stuck)) else .stuck)) else .stuck) else .stuck) else .stuck) else .stuck) else (.ret [(.dat v9.length (Zz v9)), (.bool (decide ((v9.length : Int) ≤ 400)))]))
 | .h1 v9 v10 v11 v12 v13 v15 => (bif (decide (v15 < (v13.length : Int))) then (bif ((decide (0 ≤ v12 ∧ v12 < (((Yt (cvT l1) (cvT l2)).length : Nat) : Int))) && true) then (bif ((decide (0 ≤ v15 ∧ v15 < (v13.length : Int))) && true) then (bif ((decide (0 ≤ (IntKind.wrap .i64 (v12 + 1)) ∧ (IntKind.wrap .i64 (v12 + 1)) < (((Yt (cvT l1) (cvT l2)).length : Nat) : Int))) && true) then (bif (Nat.beq 6 6 && ((decide (0 + v9.length = v9.length)) && decide ((v9.length + 1 + 1) * (48 + 1) ≤ Ur))) then (.to (.h1 (v9 ++ [(R6.mk (rd v13 v15.toNat).a (rd v13 v15.toNat).b (rd (Yt (cvT l1) (cvT l2)) v12.toNat) (rd v13 v15.toNat).c (rd v13 v15.toNat).d (rd (Yt (cvT l1) (cvT l2)) (Int.toNat (IntKind.wrap .i64 (v12 + 1)))))]) v10 v11 v12 v13 (IntKind.wrap .i64 (v15 + 1)))) else .stuck) else .stuck) else .stuck) else .stuck) else (.to (.h0 v9 v10 v11 (IntKind.wrap .i64 (v12 + 1)))))
 | .h2 v9 v10 v11 v12 v14 => (bif (decide (v14 < (v9.length : Int))) then (bif ((decide (0 ≤ (IntKind.wrap .i64 (v12 + 1)) ∧ (IntKind.wrap .i64 (v12 + 1)) < (((Yt (cvT l1) (cvT l2)).length : Nat) : Int))) && true) then (bif ((decide (0 ≤ v14 ∧ v14 < (v9.length : Int))) && true) then (bif (decide ((0 + v14.toNat) < v9.length)) then (.to (.h2 (v9.set (0 + v14.toNat) (R6.mk (rd v9 (0 + v14.toNat)).a (rd v9 (0 + v14.toNat)).b (rd v9 (0 + v14.toNat)).c (rd v9 (0 + v14.toNat)).d (rd v9 (0 + v14.toNat)).e (rd (Yt (cvT l1) (cvT l2)) (Int.toNat (IntKind.wrap .i64 (v12 + 1)))))) v10 v11 v12 (IntKind.wrap .i64 (v14 + 1)))) else .stuck) else .stuck) else .stuck) else (.to (.h0 v9 v10 v11 (IntKind.wrap .i64 (v12 + 1)))))
def z8x (x0 : Int) (l1 : List R6) (l2 : List R6) : Xo rjsS := (bif (z5v (cvT l1) (cvT l2)) then (.to (.h0 ([] : List R6) ([] : List R4) 0 0)) else .stuck)
theorem x7d (x0 : Int) (l1 : List R6) (l2 : List R6) : ∀ s, Xn Tryz.prog (Zy Tryz.prog 72) (rjsC x0 l1 l2) (rjsC x0 l1 l2 s) (Vk x0 l1 l2 s)
 | .h0 v9 v10 v11 v12 => (lb (fun k0 => (lo fun o1_0 => (lo fun o1_1 => (lo fun o1_2 => (lo fun o1_3 => (lb (fun k1 => (lr 137 72 [1, 1, 1, 1, 1, 0, 1, 0, 0, 1, 0, 0, 1, 0, 1, 0, 0] 1 32 [(6, .nils), (7, (.bool false))] (sl z7a 50 [] ⟨[], [], [some [6, 7]], []⟩ ⟨[], [], []⟩ (trs 20 []) (tt k1 (pp (pp (xI R4 (atV (cvT l1) (rd (Yt (cvT l1) (cvT l2)) (tn v12))).length (Zz (atV (cvT l1) (rd (Yt (cvT l1) (cvT l2)) (tn v12))))) (pp (xI R4 (atV (cvT l2) (rd (Yt (cvT l1) (cvT l2)) (tn v12))).length (Zz (atV (cvT l2) (rd (Yt (cvT l1) (cvT l2)) (tn v12))))) (xw o1_3))) (pp (pp (xr l2) (xw o1_2)) (ww o1_1 (pp (pp (xr l1) (xw o1_0)) (ww o1_1 (tt k0 nn)))))))))) (fun k1 => (lo fun o2_0 => (lb (fun k2 => (lr 137 72 [1, 1, 1, 1, 1, 0, 1, 0, 0, 1, 0, 0, 1, 0, 1, 0, 0] 1 32 [(6, .nils), (7, (.bool false))] (sl z7a 50 [] ⟨[], [], [some [6, 7]], []⟩ ⟨[], [], []⟩ [true, false, false, false, false, false, false, false, false, false, true, true, true, true, true, true, true, true, true, true] (tt k2 (pp (pp (xI R4 (atV (cvT l1) (rd (Yt (cvT l1) (cvT l2)) (tn v12))).length (Zz (atV (cvT l1) (rd (Yt (cvT l1) (cvT l2)) (tn v12))))) (pp (xI R4 0 (fun _ => [])) (xw o2_0))) (pp (pp (xr l1) (xw o1_0)) (ww o1_1 (tt k1 (pp (pp (xI R4 (atV (cvT l1) (rd (Yt (cvT l1) (cvT l2)) (tn v12))).length (Zz (atV (cvT l1) (rd (Yt (cvT l1) (cvT l2)) (tn v12))))) (pp (xI R4 (atV (cvT l2) (rd (Yt (cvT l1) (cvT l2)) (tn v12))).length (Zz (atV (cvT l2) (rd (Yt (cvT l1) (cvT l2)) (tn v12))))) (xw o1_3))) (pp (pp (xr l2) (xw o1_2)) (ww o1_1 (pp (pp (xr l1) (xw o1_0)) (ww o1_1 (tt k0 nn)))))))))))))) (fun k2 => (lo fun o3_0 => (lb (fun k3 => (lr 137 72 [1, 1, 1, 1, 1, 0, 1, 0, 0, 1, 0, 0, 1, 0, 1, 0, 0] 1 32 [(6, .nils), (7, (.bool false))] (sl z7a 50 [] ⟨[], [], [some [6, 7]], []⟩ ⟨[], [], []⟩ [true, false, false, false, false, false, false, false, false, false, false, false, false, false, false, false, false, false, false, true] (tt k3 (pp (pp (xI R4 (atV (cvT l2) (rd (Yt (cvT l1) (cvT l2)) (tn v12))).length (Zz (atV (cvT l2) (rd (Yt (cvT l1) (cvT l2)) (tn v12))))) (pp (xI R4 0 (fun _ => [])) (xw o3_0))) (pp (pp (xr l2) (xw o1_2)) (ww o1_1 (tt k2 (pp (pp (xI R4 (atV (cvT l1) (rd (Yt (cvT l1) (cvT l2)) (tn v12))).length (Zz (atV (cvT l1) (rd (Yt (cvT l1) (cvT l2)) (tn v12))))) (pp (xI R4 0 (fun _ => [])) (xw o2_0))) (pp (pp (xr l1) (xw o1_0)) (ww o1_1 (tt k1 (pp (pp (xI R4 (atV (cvT l1) (rd (Yt (cvT l1) (cvT l2)) (tn v12))).length (Zz (atV (cvT l1) (rd (Yt (cvT l1) (cvT l2)) (tn v12))))) (pp (xI R4 (atV (cvT l2) (rd (Yt (cvT l1) (cvT l2)) (tn v12))).length (Zz (atV (cvT l2) (rd (Yt (cvT l1) (cvT l2)) (tn v12))))) (xw o1_3))) (pp (pp (xr l2) (xw o1_2)) (ww o1_1 (pp (pp (xr l1) (xw o1_0)) (ww o1_1 (tt k0 nn)))))))))))))))))) (fun k3 => (lb (fun k4 => (lo fun o5_0 => (lb (fun k5 => (sl z7a 66 [] ⟨[0], [], rjsN2, rjsM2⟩ ⟨[], [], []⟩ [true, false, false, false, false, false, false, false, false, false, false, false, false, false, false, false, false, false, false, false, true, true, true, true] (pp (fl v9 nn) (tt k5 (pp (pp (xI R4 (joV x0 (cvT (atV (cvT l1) (rd (Yt (cvT l1) (cvT l2)) (tn v12)))) (cvT (atV (cvT l2) (rd (Yt (cvT l1) (cvT l2)) (tn v12))))).length (Zz (joV x0 (cvT (atV (cvT l1) (rd (Yt (cvT l1) (cvT l2)) (tn v12)))) (cvT (atV (cvT l2) (rd (Yt (cvT l1) (cvT l2)) (tn v12))))))) (pp (xr v10) (xw o5_0))) (tt k4 (tt k3 (pp (pp (xI R4 (atV (cvT l2) (rd (Yt (cvT l1) (cvT l2)) (tn v12))).length (Zz (atV (cvT l2) (rd (Yt (cvT l1) (cvT l2)) (tn v12))))) (pp (xI R4 0 (fun _ => [])) (xw o3_0))) (pp (pp (xr l2) (xw o1_2)) (ww o1_1 (tt k2 (pp (pp (xI R4 (atV (cvT l1) (rd (Yt (cvT l1) (cvT l2)) (tn v12))).length (Zz (atV (cvT l1) (rd (Yt (cvT l1) (cvT l2)) (tn v12))))) (pp (xI R4 0 (fun _ => [])) (xw o2_0))) (pp (pp (xr l1) (xw o1_0)) (ww o1_1 (tt k1 (pp (pp (xI R4 (atV (cvT l1) (rd (Yt (cvT l1) (cvT l2)) (tn v12))).length (Zz (atV (cvT l1) (rd (Yt (cvT l1) (cvT l2)) (tn v12))))) (pp (xI R4 (atV (cvT l2) (rd (Yt (cvT l1) (cvT l2)) (tn v12))).length (Zz (atV (cvT l2) (rd (Yt (cvT l1) (cvT l2)) (tn v12))))) (xw o1_3))) (pp (pp (xr l2) (xw o1_2)) (ww o1_1 (pp (pp (xr l1) (xw o1_0)) (ww o1_1 (tt k0 nn))))))))))))))))))))) (fun k5 => (sl z7a 73 [] ⟨[0], [], v4v, v4x⟩ ⟨[], [], []⟩ [true, false, false, false, false, false, false, false, false, false, false, false, false, false, false, false, false, false, false, false, true, true, true, false] (pp (fl v9 nn) (tt k5 (pp (pp (xI R4 (joV x0 (cvT (atV (cvT l1) (rd (Yt (cvT l1) (cvT l2)) (tn v12)))) (cvT (atV (cvT l2) (rd (Yt (cvT l1) (cvT l2)) (tn v12))))).length (Zz (joV x0 (cvT (atV (cvT l1) (rd (Yt (cvT l1) (cvT l2)) (tn v12)))) (cvT (atV (cvT l2) (rd (Yt (cvT l1) (cvT l2)) (tn v12))))))) (pp (xr v10) (xw o5_0))) (tt k4 (tt k3 (pp (pp (xI R4 (atV (cvT l2) (rd (Yt (cvT l1) (cvT l2)) (tn v12))).length (Zz (atV (cvT l2) (rd (Yt (cvT l1) (cvT l2)) (tn v12))))) (pp (xI R4 0 (fun _ => [])) (xw o3_0))) (pp (pp (xr l2) (xw o1_2)) (ww o1_1 (tt k2 (pp (pp (xI R4 (atV (cvT l1) (rd (Yt (cvT l1) (cvT l2)) (tn v12))).length (Zz (atV (cvT l1) (rd (Yt (cvT l1) (cvT l2)) (tn v12))))) (pp (xI R4 0 (fun _ => [])) (xw o2_0))) (pp (pp (xr l1) (xw o1_0)) (ww o1_1 (tt k1 (pp (pp (xI R4 (atV (cvT l1) (rd (Yt (cvT l1) (cvT l2)) (tn v12))).length (Zz (atV (cvT l1) (rd (Yt (cvT l1) (cvT l2)) (tn v12))))) (pp (xI R4 (atV (cvT l2) (rd (Yt (cvT l1) (cvT l2)) (tn v12))).length (Zz (atV (cvT l2) (rd (Yt (cvT l1) (cvT l2)) (tn v12))))) (xw o1_3))) (pp (pp (xr l2) (xw o1_2)) (ww o1_1 (pp (pp (xr l1) (xw o1_0)) (ww o1_1 (tt k0 nn)))))))))))))))))))))))) (fun k4 => (sl z7a 73 [] ⟨[0], [], v4v, v4x⟩ ⟨[], [], []⟩ [true, false, false, false, false, false, false, false, false, false, false, false, false, false, false, false, false, false, false, false, false, false, false, false] (pp (fl v9 nn) (tt k4 (tt k3 (pp (pp (xI R4 (atV (cvT l2) (rd (Yt (cvT l1) (cvT l2)) (tn v12))).length (Zz (atV (cvT l2) (rd (Yt (cvT l1) (cvT l2)) (tn v12))))) (pp (xI R4 0 (fun _ => [])) (xw o3_0))) (pp (pp (xr l2) (xw o1_2)) (ww o1_1 (tt k2 (pp (pp (xI R4 (atV (cvT l1) (rd (Yt (cvT l1) (cvT l2)) (tn v12))).length (Zz (atV (cvT l1) (rd (Yt (cvT l1) (cvT l2)) (tn v12))))) (pp (xI R4 0 (fun _ => [])) (xw o2_0))) (pp (pp (xr l1) (xw o1_0)) (ww o1_1 (tt k1 (pp (pp (xI R4 (atV (cvT l1) (rd (Yt (cvT l1) (cvT l2)) (tn v12))).length (Zz (atV (cvT l1) (rd (Yt (cvT l1) (cvT l2)) (tn v12))))) (pp (xI R4 (atV (cvT l2) (rd (Yt (cvT l1) (cvT l2)) (tn v12))).length (Zz (atV (cvT l2) (rd (Yt (cvT l1) (cvT l2)) (tn v12))))) (xw o1_3))) (pp (pp (xr l2) (xw o1_2)) (ww o1_1 (pp (pp (xr l1) (xw o1_0)) (ww o1_1 (tt k0 nn))))))))))))))))))))))))))))))))) (fun k0 => (lr 137 3 [1, 1, 1, 1, 1, 1, 1, 0] 1 32 [(6, (.dat v9.length (Zz v9))), (7, (.bool (decide ((v9.length : Int) ≤ 400))))] (sl z7a 20 [] ⟨[], [0], [some [6, 7]], []⟩ ⟨[(6, .frz v9.length v9.length (Zz v9) (Zz v9))], [], []⟩ [false] (pp (xZ (z4k 6 6 0 v9.length v9.length (Zz v9)) v9.length (Zz v9)) (pp (xL v9.length v9.length) (pp (xS v9.length (Zz v9) (Zz v9)) (pp (fl v9 nn) (tt k0 nn)))))))))
 | .h1 v9 v10 v11 v12 v13 v15 => (lb (fun k0 => (lo fun o0 => (lo fun o1 => (lo fun o2 => (lo fun o3 => (sl z7a 20 [] ⟨[2], [], v4v, v4x⟩ ⟨[(9, .len (v9 ++ [(R6.mk (rd v13 (tn v15)).a (rd v13 (tn v15)).b (rd (Yt (cvT l1) (cvT l2)) (tn v12)) (rd v13 (tn v15)).c (rd v13 (tn v15)).d (rd (Yt (cvT l1) (cvT l2)) (tn (wr (v12 + 1)))))]).length)], [.rowed 6 (v9 ++ [(R6.mk (rd v13 (tn v15)).a (rd v13 (tn v15)).b (rd (Yt (cvT l1) (cvT l2)) (tn v12)) (rd v13 (tn v15)).c (rd v13 (tn v15)).d (rd (Yt (cvT l1) (cvT l2)) (tn (wr (v12 + 1)))))]).length (Zz (v9 ++ [(R6.mk (rd v13 (tn v15)).a (rd v13 (tn v15)).b (rd (Yt (cvT l1) (cvT l2)) (tn v12)) (rd v13 (tn v15)).c (rd v13 (tn v15)).d (rd (Yt (cvT l1) (cvT l2)) (tn (wr (v12 + 1)))))]))], []⟩ [true] (pp (xL (v9.length + 1) (v9 ++ [(R6.mk (rd v13 (tn v15)).a (rd v13 (tn v15)).b (rd (Yt (cvT l1) (cvT l2)) (tn v12)) (rd v13 (tn v15)).c (rd v13 (tn v15)).d (rd (Yt (cvT l1) (cvT l2)) (tn (wr (v12 + 1)))))]).length) (pp (xL (v9.length + 1) (v9 ++ [(R6.mk (rd v13 (tn v15)).a (rd v13 (tn v15)).b (rd (Yt (cvT l1) (cvT l2)) (tn v12)) (rd v13 (tn v15)).c (rd v13 (tn v15)).d (rd (Yt (cvT l1) (cvT l2)) (tn (wr (v12 + 1)))))]).length) (pp (xS (v9.length + 1) (Zd (Zz v9) 0 v9.length 6 [(ii (rd v13 (tn v15)).a), (ii (rd v13 (tn v15)).b), (ii (rd (Yt (cvT l1) (cvT l2)) (tn v12))), (ii (rd v13 (tn v15)).c), (ii (rd v13 (tn v15)).d), (ii (rd (Yt (cvT l1) (cvT l2)) (tn (wr (v12 + 1)))))]) (Zz (v9 ++ [(R6.mk (rd v13 (tn v15)).a (rd v13 (tn v15)).b (rd (Yt (cvT l1) (cvT l2)) (tn v12)) (rd v13 (tn v15)).c (rd v13 (tn v15)).d (rd (Yt (cvT l1) (cvT l2)) (tn (wr (v12 + 1)))))]))) (pp (pp (xF (Zd (Zz v9) 0 v9.length 6 [(ii (rd v13 (tn v15)).a), (ii (rd v13 (tn v15)).b), (ii (rd (Yt (cvT l1) (cvT l2)) (tn v12))), (ii (rd v13 (tn v15)).c), (ii (rd v13 (tn v15)).d), (ii (rd (Yt (cvT l1) (cvT l2)) (tn (wr (v12 + 1)))))])) nn) (ww o3 (ww o2 (ww o1 (ww o1 (ww o0 (ww o1 (ww o1 (tt k0 nn)))))))))))))))))) (fun k0 => (sl z7a 17 [] ⟨[0], [], v4w, v4y⟩ ⟨[], [], []⟩ [false] (pp (fl v9 nn) (tt k0 nn)))))
 | .h2 v9 v10 v11 v12 v14 => (lb (fun k0 => (lo fun o0 => (lo fun o1 => (lo fun o2 => (sl z7a 32 [] ⟨[0], [], rjsN2, rjsM2⟩ ⟨[(9, .len (v9.set (0 + (tn v14)) (R6.mk (rd v9 (0 + (tn v14))).a (rd v9 (0 + (tn v14))).b (rd v9 (0 + (tn v14))).c (rd v9 (0 + (tn v14))).d (rd v9 (0 + (tn v14))).e (rd (Yt (cvT l1) (cvT l2)) (tn (wr (v12 + 1)))))).length)], [.rowed 6 (v9.set (0 + (tn v14)) (R6.mk (rd v9 (0 + (tn v14))).a (rd v9 (0 + (tn v14))).b (rd v9 (0 + (tn v14))).c (rd v9 (0 + (tn v14))).d (rd v9 (0 + (tn v14))).e (rd (Yt (cvT l1) (cvT l2)) (tn (wr (v12 + 1)))))).length (Zz (v9.set (0 + (tn v14)) (R6.mk (rd v9 (0 + (tn v14))).a (rd v9 (0 + (tn v14))).b (rd v9 (0 + (tn v14))).c (rd v9 (0 + (tn v14))).d (rd v9 (0 + (tn v14))).e (rd (Yt (cvT l1) (cvT l2)) (tn (wr (v12 + 1)))))))], []⟩ [true] (pp (xL v9.length (v9.set (0 + (tn v14)) (R6.mk (rd v9 (0 + (tn v14))).a (rd v9 (0 + (tn v14))).b (rd v9 (0 + (tn v14))).c (rd v9 (0 + (tn v14))).d (rd v9 (0 + (tn v14))).e (rd (Yt (cvT l1) (cvT l2)) (tn (wr (v12 + 1)))))).length) (pp (xL v9.length (v9.set (0 + (tn v14)) (R6.mk (rd v9 (0 + (tn v14))).a (rd v9 (0 + (tn v14))).b (rd v9 (0 + (tn v14))).c (rd v9 (0 + (tn v14))).d (rd v9 (0 + (tn v14))).e (rd (Yt (cvT l1) (cvT l2)) (tn (wr (v12 + 1)))))).length) (pp (xS v9.length (Xb (Zz v9) (0 + (tn v14)) 5 [(ii (rd (Yt (cvT l1) (cvT l2)) (tn (wr (v12 + 1)))))]) (Zz (v9.set (0 + (tn v14)) (R6.mk (rd v9 (0 + (tn v14))).a (rd v9 (0 + (tn v14))).b (rd v9 (0 + (tn v14))).c (rd v9 (0 + (tn v14))).d (rd v9 (0 + (tn v14))).e (rd (Yt (cvT l1) (cvT l2)) (tn (wr (v12 + 1)))))))) (pp (pp (xF (Xb (Zz v9) (0 + (tn v14)) 5 [(ii (rd (Yt (cvT l1) (cvT l2)) (tn (wr (v12 + 1)))))])) nn) (ww o2 (ww o1 (ww o0 (tt k0 nn))))))))))))) (fun k0 => (sl z7a 17 [] ⟨[0], [], v4w, v4y⟩ ⟨[], [], []⟩ [false] (pp (fl v9 nn) (tt k0 nn)))))
theorem x0o (x0 : Int) (l1 : List R6) (l2 : List R6) : Xn Tryz.prog (Zy Tryz.prog 72) (rjsC x0 l1 l2) (Zf Tryz.prog 72 [(.int .i64 x0), (.dat l1.length (Zz l1)), (.dat l2.length (Zz l2))] true []) (z8x x0 l1 l2) := (lo fun o0 => (sl z7a 31 [(67, 6, Zz ([] : List R6))] ⟨[0], [], v4w, v4y⟩ ⟨[(9, .grow 0 6), (10, .list 0 (Zz ([] : List R4)))], [], []⟩ [] (pp (fl ([] : List R6) nn) (pp (pp (xr l1) (pp (xr l2) (xw o0))) nn))))
theorem w6t (x0 : Int) (l1 : List R6) (l2 : List R6) (n : Nat) (vs : List AVal) (h : Ya (Vk x0 l1 l2) n (z8x x0 l1 l2) = .ret vs) : Je Tryz.prog (Zy Tryz.prog 72) (Zf Tryz.prog 72 [(.int .i64 x0), (.dat l1.length (Zz l1)), (.dat l2.length (Zz l2))] true []) vs := by
 have := Zn (x7d x0 l1 l2) n _ (x0o x0 l1 l2)
 rwa [h] at this
end Go.Am
end
