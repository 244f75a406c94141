/- A part of a proof: several texts in one. -/
import Derived.Test.YtijpnpkolglajaaGreatKa0
import Derived.AtR
import Derived.RangeFuncRecord
import Derived.RangeFuncNested
set_option maxRecDepth 1000000
set_option maxHeartbeats 8000000
set_option linter.unusedVariables false
set_option linter.unusedSimpArgs false
noncomputable section
namespace Go.Am
section
variable {P : Program} {ρ : Rho}
structure Xp (floor : Nat) (st st' : St) : Prop where
 nxt : st.next ≤ st'.next
 bd : (∀ b, st.next ≤ b → Yb st.mem b = none) → ∀ b, st'.next ≤ b → Yb st'.mem b = none
 low : floor ≤ st.next → ∀ b, b < floor → Yb st'.mem b = Yb st.mem b
 ob : st'.ob = true → st.ob = true
theorem Xp.refl (floor : Nat) (st : St) : Xp floor st st := ⟨Nat.le_refl _, fun h => h, fun _ _ _ => rfl, fun h => h⟩
theorem Xp.trans {floor : Nat} {a b c : St} (h : Xp floor a b) (k : Xp floor b c) : Xp floor a c :=
 ⟨Nat.le_trans h.nxt k.nxt, fun x => k.bd (h.bd x), fun x d hd => (k.low (Nat.le_trans x h.nxt) d hd).trans (h.low x d hd), fun x => h.ob (k.ob x)⟩
theorem Xp.env {floor : Nat} {a b : St} (h : Xp floor a b) (e e' : T AVal) : Xp floor (a.withEnv e) (b.withEnv e') := ⟨h.nxt, h.bd, h.low, h.ob⟩
theorem Xp.write {floor : Nat} (st : St) {b : Nat} {ab : ABlk} (o : Option ABlk) (hf : floor ≤ b) (hm : Yb st.mem b = some ab) : Xp floor st (st.withMem (Xa st.mem b o)) where
 nxt := Nat.le_refl _
 bd h k hk := by
  have hne : k ≠ b := fun e => by rw [e, ] at hk; rw [h b hk] at hm; cases hm
  show Yb (Xa st.mem b o) k = none
  rw [Zx _ _ hne]; exact h k hk
 low _ k hk := Zx _ _ (by omega)
 ob h := h
theorem Xp.new {floor : Nat} (st : St) (cs : List AVal) (ty : TypeId) : Xp floor st (z6f st cs ty) where
 nxt := Nat.le_succ _
 bd h k hk := by
  have hk' : st.next + 1 ≤ k := hk
  show Yb (Xa st.mem st.next _) k = none
  rw [Zx _ _ (by omega)]; exact h k (by omega)
 low hf k hk := Zx _ _ (by omega)
 ob h := h
def x3e (R : Runner) : Prop := ∀ cx todo st st', R cx todo st = some st' → Xp cx.floor st st'
theorem Xw {cx : Ctx} {st st' : St} {b : Bool} (h : st.owe cx b = some st') : st'.env = st.env ∧ st'.mem = st.mem ∧ st'.next = st.next ∧ (st'.ob = true → b = true ∧ st.ob = true) := by
 obtain ⟨env, mem, next, orc, ob⟩ := st
 unfold St.owe at h
 dsimp only at h
 cases hs : cx.sym with
 | true =>
  rw [hs, cond_true] at h
  obtain rfl := Option.some.inj h
  exact ⟨rfl, rfl, rfl, fun h => by simp only [Bool.and_eq_true] at h; exact ⟨h.1, h.2⟩⟩
 | false =>
  rw [hs, cond_false] at h
  cases b with
  | false => cases h
  | true =>
   obtain rfl := Option.some.inj h
   exact ⟨rfl, rfl, rfl, fun h => ⟨rfl, h⟩⟩
theorem z6j {st st' : St} {b e : Bool} (h : st.test b = (e, st')) : st'.env = st.env ∧ st'.mem = st.mem ∧ st'.next = st.next ∧ (st'.ob = true → e = b ∧ st.ob = true) := by
 obtain ⟨env, mem, next, orc, ob⟩ := st
 cases orc with
 | nil =>
  simp only [St.test, Prod.mk.injEq] at h
  obtain ⟨rfl, rfl⟩ := h
  exact ⟨rfl, rfl, rfl, fun h => ⟨rfl, h⟩⟩
 | cons c r =>
  simp only [St.test, Prod.mk.injEq] at h
  obtain ⟨rfl, rfl⟩ := h
  refine ⟨rfl, rfl, rfl, fun h => ?_⟩
  simp only [Bool.and_eq_true, beq_iff_eq] at h
  exact ⟨h.1.symm, h.2⟩
theorem Vn {cx : Ctx} {st st' : St} {dst : Option Tmp} {v : AVal} (h : st.put cx dst v = some st') : st'.mem = st.mem ∧ st'.next = st.next ∧ st'.ob = st.ob ∧
  ((dst = none ∧ st'.env = st.env) ∨ ∃ d, dst = some d ∧ d < cx.n ∧ st'.env = T.set .undef st.env d v) := by
 obtain ⟨env, mem, next, orc, ob⟩ := st
 cases dst with
 | none =>
  simp only [St.put, Option.some.injEq] at h
  subst h
  exact ⟨rfl, rfl, rfl, .inl ⟨rfl, rfl⟩⟩
 | some d =>
  simp only [St.put] at h
  cases hb : Nat.ble (d + 1) cx.n with
  | false => rw [hb] at h; cases h
  | true =>
   rw [hb, cond_true] at h
   obtain rfl := Option.some.inj h
   exact ⟨rfl, rfl, rfl, .inr ⟨d, rfl, Nat.le_of_ble_eq_true hb, rfl⟩⟩
theorem Xp.same {floor : Nat} {st st' : St} (hm : st'.mem = st.mem) (hn : st'.next = st.next) (ho : st'.ob = true → st.ob = true) : Xp floor st st' :=
 ⟨by rw [hn]; exact Nat.le_refl _, fun h b hb => by rw [hm]; exact h b (by rw [← hn]; exact hb), fun _ b _ => by rw [hm], ho⟩
theorem Zc {α : Type} {c : Bool} {x : Option α} {y : α} (h : (bif c then x else none) = some y) : c = true ∧ x = some y := by
 cases c with
 | false => cases h
 | true => exact ⟨rfl, h⟩
theorem Vu {α : Type} {c : Bool} {x z : Option α} {y : α} (h : (bif c then x else z) = some y) : (c = true ∧ x = some y) ∨ (c = false ∧ z = some y) := by
 cases c with
 | false => exact .inr ⟨rfl, h⟩
 | true => exact .inl ⟨rfl, h⟩
theorem x2o {floor : Nat} {st st' : St} {t : TypeId} {x v : AVal} (h : z7z P floor st t x v = some st') : Xp floor st st' ∧ st'.env = st.env := by
 unfold z7z at h
 split at h
 ·obtain ⟨hc, h⟩ := Zc h
  simp only [Bool.and_eq_true] at hc
  split at h
  ·rename_i blk hm
   obtain ⟨_, h⟩ := Zc h
   obtain rfl := Option.some.inj h
   exact ⟨Xp.write st _ (Nat.le_of_ble_eq_true hc.1.1.1) hm, rfl⟩
  ·cases h
 ·cases h
theorem y8c {cx : Ctx} {st st' : St} {t : TypeId} {x v : AVal} (h : z1q P cx st t x v = some st') : Xp cx.floor st st' ∧ st'.env = st.env := by
 unfold z1q at h
 split at h
 ·obtain ⟨hc, h⟩ := Zc h
  simp only [Bool.and_eq_true] at hc
  split at h
  ·rename_i blk hm
   split at h
   ·split at h
    ·rename_i rw1 st1 hset
     obtain ⟨s1, s2, s3, s4⟩ := z1c hset
     obtain ⟨o1, o2, o3, o4⟩ := Xw h
     have a1 : Xp cx.floor st st1 := Xp.same s2 s3 fun x => (s4 x).2
     exact ⟨(a1.trans (Xp.write st1 _ (Nat.le_of_ble_eq_true hc.1.1.1.1) (by rw [s2]; exact hm))).trans (Xp.same o2 o3 fun x => (o4 x).2), o1.trans s1⟩
    ·cases h
   ·cases h
  ·cases h
 ·cases h
theorem z8i {st st' : St} {t : TypeId} {len : Nat} {ps : List (Nat × AVal)} {v : AVal} {un : Bool} (floor : Nat) (h : Vz P un st t len ps = some (v, st')) : Xp floor st st' ∧ st'.env = st.env := by
 unfold Vz at h
 split at h
 ·split at h
  ·obtain ⟨_, h⟩ := Zc h
   split at h
   ·simp only [Option.some.injEq, Prod.mk.injEq] at h
    obtain ⟨_, rfl⟩ := h
    exact ⟨Xp.new st _ _, rfl⟩
   ·cases h
  ·cases h
 ·cases h
theorem z0y {st st' : St} {t : TypeId} {x y v : AVal} (floor : Nat) (h : Wp P st t x y = some (v, st')) : Xp floor st st' ∧ st'.env = st.env := by
 unfold Wp at h
 split at h
 ·split at h
  ·obtain ⟨_, h⟩ := Zc h
   simp only [Option.some.injEq, Prod.mk.injEq] at h
   obtain ⟨_, rfl⟩ := h
   exact ⟨Xp.new st _ _, rfl⟩
  ·cases h
 ·cases h
theorem y8j {floor : Nat} {st st' : St} {ts : List TypeId} {xs : List AVal} {v : AVal} (h : Jy P floor st ts xs = some (v, st')) : Xp floor st st' ∧ st'.env = st.env := by
 unfold Jy at h
 split at h
 ·split at h
  ·split at h
   ·split at h
    ·obtain ⟨_, h⟩ := Zc h
     split at h
     ·rcases Vu h with ⟨_, h⟩ | ⟨_, h⟩
      ·simp only [Option.some.injEq, Prod.mk.injEq] at h
       obtain ⟨_, rfl⟩ := h
       exact ⟨Xp.refl _ _, rfl⟩
      ·obtain ⟨_, h⟩ := Zc h
       simp only [Option.some.injEq, Prod.mk.injEq] at h
       obtain ⟨_, rfl⟩ := h
       exact ⟨Xp.new st _ _, rfl⟩
     ·split at h
      ·rename_i blk hm
       split at h
       ·obtain ⟨_, h⟩ := Zc h
        split at h
        ·rcases Vu h with ⟨_, h⟩ | ⟨_, h⟩
         ·obtain ⟨hc, h⟩ := Zc h
          simp only [Bool.and_eq_true] at hc
          simp only [Option.some.injEq, Prod.mk.injEq] at h
          obtain ⟨_, rfl⟩ := h
          exact ⟨Xp.write st _ (Nat.le_of_ble_eq_true hc.1) hm, rfl⟩
         ·simp only [Option.some.injEq, Prod.mk.injEq] at h
          obtain ⟨_, rfl⟩ := h
          exact ⟨Xp.new st _ _, rfl⟩
        ·obtain ⟨hc, h⟩ := Zc h
         simp only [Bool.and_eq_true] at hc
         have hf := Nat.le_of_ble_eq_true hc.2
         rcases Vu h with ⟨_, h⟩ | ⟨_, h⟩
         ·simp only [Option.some.injEq, Prod.mk.injEq] at h
          obtain ⟨_, rfl⟩ := h
          exact ⟨Xp.write st _ hf hm, rfl⟩
         ·obtain ⟨_, h⟩ := Zc h
          simp only [Option.some.injEq, Prod.mk.injEq] at h
          obtain ⟨_, rfl⟩ := h
          exact ⟨(Xp.write st none hf hm).trans (Xp.new _ _ _), rfl⟩
       ·cases h
      ·cases h
     ·cases h
    ·cases h
   ·cases h
  ·cases h
 ·cases h
theorem Xp.put {floor : Nat} (st : St) (cs : Option ABlk) {st' : St} (hm : st'.mem = Xa st.mem st.next cs) (hn : st'.next = st.next + 1) (ho : st'.ob = true → st.ob = true) : Xp floor st st' where
 nxt := by rw [hn]; exact Nat.le_succ _
 bd h k hk := by
  rw [hn] at hk
  rw [hm, Zx _ _ (by omega)]; exact h k (by omega)
 low hf k hk := by rw [hm]; exact Zx _ _ (by omega)
 ob := ho
theorem z8b {cx : Ctx} {st st' : St} {t : TypeId} {x y v : AVal} (h : Wt P cx st t x y = some (v, st')) : Xp cx.floor st st' ∧ st'.env = st.env := by
 unfold Wt at h
 split at h
 ·split at h
  ·obtain ⟨_, h⟩ := Zc h
   simp only [Option.map_eq_some_iff, Prod.mk.injEq] at h
   obtain ⟨_, h1, _, rfl⟩ := h
   obtain ⟨o1, o2, o3, o4⟩ := Xw h1
   exact ⟨Xp.put st _ o2 (o3.trans rfl) fun x => (o4 x).2, o1⟩
  ·cases h
 ·cases h
theorem y4k {cx : Ctx} {st st' : St} {ts : List TypeId} {xs : List AVal} {v : AVal} (h : Qu P cx st ts xs = some (v, st')) : Xp cx.floor st st' ∧ st'.env = st.env := by
 unfold Qu at h
 split at h
 ·split at h
  ·split at h
   ·cases h
   ·split at h
    ·split at h
     ·rename_i hm
      split at h
      ·obtain ⟨hc, h⟩ := Zc h
       simp only [Bool.and_eq_true] at hc
       simp only [Option.map_eq_some_iff, Prod.mk.injEq] at h
       obtain ⟨_, h1, _, rfl⟩ := h
       obtain ⟨o1, o2, o3, o4⟩ := Xw h1
       exact ⟨(Xp.write st none (Nat.le_of_ble_eq_true hc.1.2) hm).trans (Xp.put (st.withMem _) _ o2 (o3.trans rfl) fun x => (o4 x).2), o1⟩
      ·cases h
     ·cases h
    ·cases h
  ·cases h
 ·cases h
theorem w0f {floor : Nat} {st : St} {sz len : Nat} {x : AVal} {b : Option Nat} {get : Nat → List AVal} {o : Bool} (ht : Qr st.mem sz x = some (b, len, get, o)) (hf : x6l floor b = true) : Xp floor st (st.withMem (y6p st.mem b)) := by
 cases b with
 | none => exact Xp.refl _ _
 | some b =>
  have hm : ∃ ab, Yb st.mem b = some ab := by
   unfold Qr at ht
   split at ht
   ·simp at ht
   ·split at ht
    ·rename_i blk hm
     split at ht
     ·obtain ⟨_, ht⟩ := Zc ht
      simp only [Option.some.injEq, Prod.mk.injEq] at ht
      obtain ⟨rfl, _⟩ := ht
      exact ⟨_, hm⟩
     ·cases ht
    ·cases ht
   ·split at ht
    ·rename_i blk hm
     split at ht
     ·obtain ⟨_, ht⟩ := Zc ht
      simp only [Option.some.injEq, Prod.mk.injEq] at ht
      obtain ⟨rfl, _⟩ := ht
      exact ⟨_, hm⟩
     ·cases ht
    ·cases ht
   ·cases ht
  obtain ⟨ab, hm⟩ := hm
  exact Xp.write st none (Nat.le_of_ble_eq_true hf) hm
theorem y4j {cx : Ctx} {st st' : St} {ts : List TypeId} {xs : List AVal} {v : AVal} (h : Qv P cx st ts xs = some (v, st')) : Xp cx.floor st st' ∧ st'.env = st.env := by
 unfold Qv at h
 split at h
 ·split at h
  ·split at h
   ·split at h
    ·rename_i ht _
     obtain ⟨hc, h⟩ := Zc h
     simp only [Bool.and_eq_true] at hc
     simp only [Option.map_eq_some_iff, Prod.mk.injEq] at h
     obtain ⟨_, h1, _, rfl⟩ := h
     obtain ⟨o1, o2, o3, o4⟩ := Xw h1
     exact ⟨(w0f ht hc.2).trans (Xp.put (st.withMem _) _ o2 (o3.trans rfl) fun x => (o4 x).2), o1⟩
    ·cases h
   ·cases h
  ·cases h
 ·cases h
theorem y4l {cx : Ctx} {st st' : St} {ts : List TypeId} {xs : List AVal} {v : AVal} (h : z0p P cx st ts xs = some (v, st')) : Xp cx.floor st st' ∧ st'.env = st.env := by
 unfold z0p at h
 rcases Vu h with ⟨_, h⟩ | ⟨_, h⟩
 ·exact y4j h
 ·split at h
  ·exact y4k h
  ·exact y8j h
theorem x7q {floor : Nat} {st st' : St} {ts : List TypeId} {xs : List AVal} {v : AVal} (h : y8h P floor st ts xs = some (v, st')) : Xp floor st st' ∧ st'.env = st.env := by
 unfold y8h at h
 split at h
 ·split at h
  ·split at h
   ·split at h
    ·obtain ⟨_, h⟩ := Zc h
     split at h
     ·simp only [Option.some.injEq, Prod.mk.injEq] at h
      obtain ⟨_, rfl⟩ := h
      exact ⟨Xp.refl _ _, rfl⟩
     ·obtain ⟨_, h⟩ := Zc h
      simp only [Option.some.injEq, Prod.mk.injEq] at h
      obtain ⟨_, rfl⟩ := h
      exact ⟨Xp.refl _ _, rfl⟩
     ·dsimp only at h
      split at h
      ·rename_i blk hm
       obtain ⟨hc, h⟩ := Zc h
       simp only [Bool.and_eq_true] at hc
       simp only [Option.some.injEq, Prod.mk.injEq] at h
       obtain ⟨_, rfl⟩ := h
       exact ⟨Xp.write st _ (Nat.le_of_ble_eq_true hc.1) hm, rfl⟩
      ·cases h
     ·cases h
    ·cases h
   ·cases h
  ·cases h
 ·cases h
theorem x2s {floor : Nat} {st st' : St} {ts : List TypeId} {xs : List AVal} {v : AVal} (h : z8g P floor st ts xs = some (v, st')) : Xp floor st st' ∧ st'.env = st.env := by
 unfold z8g at h
 split at h
 ·split at h
  ·split at h
   ·split at h
    ·simp only [Option.some.injEq, Prod.mk.injEq] at h
     obtain ⟨_, rfl⟩ := h
     exact ⟨Xp.refl _ _, rfl⟩
    ·rcases Vu h with ⟨_, h⟩ | ⟨_, h⟩
     ·simp only [Option.some.injEq, Prod.mk.injEq] at h
      obtain ⟨_, rfl⟩ := h
      exact ⟨Xp.refl _ _, rfl⟩
     ·obtain ⟨hc, h⟩ := Zc h
      simp only [Bool.and_eq_true] at hc
      split at h
      ·rename_i blk hm
       obtain ⟨_, h⟩ := Zc h
       simp only [Option.some.injEq, Prod.mk.injEq] at h
       obtain ⟨_, rfl⟩ := h
       exact ⟨Xp.write st _ (Nat.le_of_ble_eq_true hc.2) hm, rfl⟩
      ·cases h
    ·cases h
   ·cases h
  ·cases h
 ·cases h
theorem z3h {S : Specs} {R : Runner} (hR : x3e R) {lift : Bool} {f : FuncId} {args : List AVal} {cx : Ctx} {st st' : St} {v : AVal} (h : x2t P S R lift f args cx st = some (v, st')) :
  (Xp cx.floor st st' ∧ (lift = true → ∀ b, b < st.next → Yb st'.mem b = Yb st.mem b)) ∧ st'.env = st.env := by
 unfold x2t at h
 split at h
 ·rcases Vu h with ⟨_, h⟩ | ⟨_, h⟩
  ·split at h
   ·obtain ⟨_, h⟩ := Zc h
    simp only [Option.map_eq_some_iff, Prod.mk.injEq] at h
    obtain ⟨st1, h1, _, rfl⟩ := h
    obtain ⟨e1, e2, e3, e4⟩ := Xw h1
    exact ⟨⟨Xp.same e2 e3 fun x => (e4 x).2, fun _ b _ => by rw [e2]⟩, e1⟩
   ·cases h
  ·split at h
   split at h
   ·obtain ⟨_, h⟩ := Zc h
    simp only [Option.map_eq_some_iff, Prod.mk.injEq] at h
    obtain ⟨st1, h1, _, rfl⟩ := h
    obtain ⟨e1, e2, e3, e4⟩ := Xw h1
    exact ⟨⟨Xp.same e2 e3 fun x => (e4 x).2, fun _ b _ => by rw [e2]⟩, e1⟩
   ·cases h
 ·split at h
  ·rename_i v0 b blk o _
   split at h
   ·rename_i ab hm
    obtain ⟨hc, h⟩ := Zc h
    simp only [Bool.and_eq_true, Bool.not_eq_true'] at hc
    simp only [Option.map_eq_some_iff, Prod.mk.injEq] at h
    obtain ⟨st1, h1, _, rfl⟩ := h
    obtain ⟨e1, e2, e3, e4⟩ := Xw h1
    exact ⟨⟨(Xp.write st (some blk) (Nat.le_of_ble_eq_true hc.2) hm).trans (Xp.same e2 e3 fun x => (e4 x).2), fun hl => by rw [hl] at hc; cases hc.1⟩, e1⟩
   ·cases h
  ·cases h
 ·split at h
  ·split at h
   ·split at h
    ·rename_i st2 hr
     split at h
     ·simp only [Option.some.injEq, Prod.mk.injEq] at h
      obtain ⟨_, rfl⟩ := h
      have q := hR _ _ _ _ hr
      refine ⟨?_, rfl⟩
      cases lift with
      | false => exact ⟨⟨q.nxt, q.bd, q.low, q.ob⟩, fun x => by cases x⟩
      | true =>
       refine ⟨⟨q.nxt, q.bd, fun hf b hb => q.low (Nat.le_refl _) b (Nat.lt_of_lt_of_le hb hf), q.ob⟩, fun _ b hb => q.low (Nat.le_refl _) b hb⟩
     ·cases h
    ·cases h
   ·cases h
  ·cases h
theorem y0a {cx : Ctx} {st st' : St} {ts : List TypeId} {b sz off len : Nat} {x v : AVal} (h : z4t P cx st ts b sz off len x = some (v, st')) : Xp cx.floor st st' ∧ st'.env = st.env := by
 unfold z4t at h
 split at h
 ·split at h
  ·split at h
   ·rename_i hm
    split at h
    ·obtain ⟨hc, h⟩ := Zc h
     simp only [Bool.and_eq_true] at hc
     simp only [Option.map_eq_some_iff, Prod.mk.injEq] at h
     obtain ⟨_, h1, _, rfl⟩ := h
     obtain ⟨o1, o2, o3, o4⟩ := Xw h1
     exact ⟨(Xp.write st _ (Nat.le_of_ble_eq_true hc.1) hm).trans (Xp.same o2 o3 fun x => (o4 x).2), o1⟩
    ·cases h
   ·cases h
  ·cases h
 ·cases h
theorem x2q {cx : Ctx} {st st' : St} {ts : List TypeId} {xs : List AVal} {v : AVal} (h : y0b P cx st ts xs = some (v, st')) : Xp cx.floor st st' ∧ st'.env = st.env := by
 unfold y0b at h
 split at h
 ·exact y0a h
 ·exact y0a h
 ·exact x7q h
theorem z8e {S : Specs} {R : Runner} (hR : x3e R) {lift : Bool} {op : Op} {cx : Ctx} {st st' : St} {v : AVal} (h : Xm P S R lift op cx st = some (v, st')) : Xp cx.floor st st' ∧ st'.env = st.env := by
 unfold Xm at h
 split at h
 ·split at h
  ·rename_i hl
   obtain ⟨l1, l2, l3, l4⟩ := Qy hl
   simp only [Option.map_eq_some_iff, Prod.mk.injEq] at h
   obtain ⟨_, h1, _, rfl⟩ := h
   obtain ⟨e1, e2, e3, e4⟩ := Xw h1
   exact ⟨Xp.same (e2.trans l2) (e3.trans l3) fun x => (l4 (e4 x).2).2, e1.trans l1⟩
  ·cases h
 ·simp only [Option.map_eq_some_iff, Prod.mk.injEq] at h
  obtain ⟨_, _, _, rfl⟩ := h
  exact ⟨Xp.new st _ _, rfl⟩
 ·obtain ⟨_, h⟩ := Zc h
  simp only [Option.some.injEq, Prod.mk.injEq] at h
  obtain ⟨_, rfl⟩ := h
  exact ⟨Xp.new st _ _, rfl⟩
 ·exact z8i _ h
 ·split at h
  ·simp only [Option.map_eq_some_iff, Prod.mk.injEq] at h
   obtain ⟨_, h, _, rfl⟩ := h
   exact y8c h
  ·simp only [Option.map_eq_some_iff, Prod.mk.injEq] at h
   obtain ⟨_, h, _, rfl⟩ := h
   exact x2o h
 ·rcases Vu h with ⟨_, h⟩ | ⟨_, h⟩
  ·rcases Vu h with ⟨_, h⟩ | ⟨_, h⟩
   ·have q := z0y (st := st.dropO) cx.floor h
    exact ⟨⟨q.1.nxt, q.1.bd, q.1.low, q.1.ob⟩, q.2⟩
   ·have q := z8b (st := st.dropO) h
    exact ⟨⟨q.1.nxt, q.1.bd, q.1.low, q.1.ob⟩, q.2⟩
  ·exact z0y _ h
 ·exact y4l h
 ·exact x2q h
 ·exact x2s h
 ·split at h
  ·obtain ⟨⟨h1, _⟩, h2⟩ := z3h hR h
   exact ⟨h1, h2⟩
  ·obtain ⟨⟨h1, _⟩, h2⟩ := z3h hR h
   exact ⟨h1, h2⟩
  ·cases h
 ·cases h
def y0c (x : Nat) (st st' : St) : Prop := Yb st'.mem x = Yb st.mem x
theorem Vx {x b : Nat} (st : St) (o : Option ABlk) (hn : b ≠ x) : y0c x st (st.withMem (Xa st.mem b o)) := Zx _ _ fun e => hn e.symm
theorem Qs {x : Nat} (st : St) (cs : List AVal) (ty : TypeId) (hx : x < st.next) : y0c x st (z6f st cs ty) := Zx _ _ (Nat.ne_of_lt hx)
theorem y8b {x : Nat} {floor : Nat} {st st' : St} {t : TypeId} {a v : AVal} (h : z7z P floor st t a v = some st') (hn : ∀ off, a ≠ .ptr x off) : y0c x st st' := by
 unfold z7z at h
 split at h
 ·rename_i b off _ _
  obtain ⟨_, h⟩ := Zc h
  split at h
  ·obtain ⟨_, h⟩ := Zc h
   obtain rfl := Option.some.inj h
   exact Vx st _ fun e => hn off (by rw [e])
  ·cases h
 ·cases h
theorem y4b {x : Nat} {cx : Ctx} {st st' : St} {t : TypeId} {a v : AVal} (h : z1q P cx st t a v = some st') (hn : ∀ sz r fo, a ≠ .epa x sz r fo) : y0c x st st' := by
 unfold z1q at h
 split at h
 ·rename_i b sz r fo _ _
  obtain ⟨_, h⟩ := Zc h
  split at h
  ·split at h
   ·split at h
    ·rename_i rw1 st1 hset
     obtain ⟨_, s2, _, _⟩ := z1c hset
     obtain ⟨_, o2, _, _⟩ := Xw h
     unfold y0c
     rw [o2, ← s2]
     exact Vx st1 _ fun e => hn sz r fo (by rw [e])
    ·cases h
   ·cases h
  ·cases h
 ·cases h
theorem z5a {x : Nat} {st st' : St} {t : TypeId} {len : Nat} {ps : List (Nat × AVal)} {v : AVal} {un : Bool} (hx : x < st.next) (h : Vz P un st t len ps = some (v, st')) : y0c x st st' := by
 unfold Vz at h
 split at h
 ·split at h
  ·obtain ⟨_, h⟩ := Zc h
   split at h
   ·simp only [Option.some.injEq, Prod.mk.injEq] at h
    obtain ⟨_, rfl⟩ := h
    exact Qs st _ _ hx
   ·cases h
  ·cases h
 ·cases h
theorem Qo {x : Nat} {st st' : St} {t : TypeId} {l c v : AVal} (hx : x < st.next) (h : Wp P st t l c = some (v, st')) : y0c x st st' := by
 unfold Wp at h
 split at h
 ·split at h
  ·obtain ⟨_, h⟩ := Zc h
   simp only [Option.some.injEq, Prod.mk.injEq] at h
   obtain ⟨_, rfl⟩ := h
   exact Qs st _ _ hx
  ·cases h
 ·cases h
theorem y4i {x floor : Nat} {st st' : St} {ts : List TypeId} {xs : List AVal} {v : AVal} (hx : x < st.next) (h : Jy P floor st ts xs = some (v, st')) (hn : ∀ off len cap r, xs ≠ .sl x off len cap :: r) : y0c x st st' := by
 unfold Jy at h
 split at h
 ·split at h
  ·split at h
   ·split at h
    ·obtain ⟨_, h⟩ := Zc h
     split at h
     ·rcases Vu h with ⟨_, h⟩ | ⟨_, h⟩
      ·simp only [Option.some.injEq, Prod.mk.injEq] at h
       obtain ⟨_, rfl⟩ := h
       rfl
      ·obtain ⟨_, h⟩ := Zc h
       simp only [Option.some.injEq, Prod.mk.injEq] at h
       obtain ⟨_, rfl⟩ := h
       exact Qs st _ _ hx
     ·have hb := fun e => hn _ _ _ _ (congrArg (fun b => AVal.sl b _ _ _ :: _) e)
      split at h
      ·rename_i blk hm
       split at h
       ·obtain ⟨_, h⟩ := Zc h
        split at h
        ·rcases Vu h with ⟨_, h⟩ | ⟨_, h⟩
         ·obtain ⟨hc, h⟩ := Zc h
          simp only [Option.some.injEq, Prod.mk.injEq] at h
          obtain ⟨_, rfl⟩ := h
          exact Vx st _ hb
         ·simp only [Option.some.injEq, Prod.mk.injEq] at h
          obtain ⟨_, rfl⟩ := h
          exact Qs st _ _ hx
        ·obtain ⟨hc, h⟩ := Zc h
         rcases Vu h with ⟨_, h⟩ | ⟨_, h⟩
         ·simp only [Option.some.injEq, Prod.mk.injEq] at h
          obtain ⟨_, rfl⟩ := h
          exact Vx st _ hb
         ·obtain ⟨_, h⟩ := Zc h
          simp only [Option.some.injEq, Prod.mk.injEq] at h
          obtain ⟨_, rfl⟩ := h
          exact (Qs (st.withMem (Xa st.mem _ none)) _ _ hx).trans (Vx st none hb)
       ·cases h
      ·cases h
     ·cases h
    ·cases h
   ·cases h
  ·cases h
 ·cases h
theorem z4x {x : Nat} {cx : Ctx} {st st' : St} {t : TypeId} {l c v : AVal} (hx : x < st.next) (h : Wt P cx st t l c = some (v, st')) : y0c x st st' := by
 unfold Wt at h
 split at h
 ·split at h
  ·obtain ⟨_, h⟩ := Zc h
   simp only [Option.map_eq_some_iff, Prod.mk.injEq] at h
   obtain ⟨_, h1, _, rfl⟩ := h
   obtain ⟨_, o2, _, _⟩ := Xw h1
   unfold y0c
   rw [o2]
   exact Zx _ _ (Nat.ne_of_lt hx)
  ·cases h
 ·cases h
theorem y1u {x : Nat} {cx : Ctx} {st st' : St} {ts : List TypeId} {xs : List AVal} {v : AVal} (hx : x < st.next) (h : Qu P cx st ts xs = some (v, st')) (hn : ∀ sz off len cap r, xs ≠ .sla x sz off len cap :: r) : y0c x st st' := by
 unfold Qu at h
 split at h
 ·have hb := fun e => hn _ _ _ _ _ (congrArg (fun b => AVal.sla b _ _ _ _ :: _) e)
  split at h
  ·split at h
   ·cases h
   ·split at h
    ·split at h
     ·split at h
      ·obtain ⟨hc, h⟩ := Zc h
       simp only [Option.map_eq_some_iff, Prod.mk.injEq] at h
       obtain ⟨_, h1, _, rfl⟩ := h
       obtain ⟨_, o2, _, _⟩ := Xw h1
       unfold y0c
       rw [o2]
       show Yb (Xa (Xa st.mem _ none) st.next _) x = _
       rw [Zx _ _ (Nat.ne_of_lt hx)]
       exact Zx _ _ fun e => hb e.symm
      ·cases h
     ·cases h
    ·cases h
  ·cases h
 ·cases h
theorem z8q {m : Mem} {sz len b : Nat} {x : AVal} {get : Nat → List AVal} {o : Bool} (ht : Qr m sz x = some (some b, len, get, o)) : (∃ off len cap, x = .sl b off len cap) ∨ ∃ sz off len cap, x = .sla b sz off len cap := by
 unfold Qr at ht
 split at ht
 ·simp at ht
 ·split at ht
  ·split at ht
   ·obtain ⟨_, ht⟩ := Zc ht
    simp only [Option.some.injEq, Prod.mk.injEq] at ht
    obtain ⟨rfl, _⟩ := ht
    exact .inl ⟨_, _, _, rfl⟩
   ·cases ht
  ·cases ht
 ·split at ht
  ·split at ht
   ·obtain ⟨_, ht⟩ := Zc ht
    simp only [Option.some.injEq, Prod.mk.injEq] at ht
    obtain ⟨rfl, _⟩ := ht
    exact .inr ⟨_, _, _, _, rfl⟩
   ·cases ht
  ·cases ht
 ·cases ht
theorem y1t {x : Nat} {cx : Ctx} {st st' : St} {ts : List TypeId} {xs : List AVal} {v : AVal} (hx : x < st.next) (h : Qv P cx st ts xs = some (v, st')) (hn : ∀ off len cap r, xs ≠ .sl x off len cap :: r) (hn2 : ∀ sz off len cap r, xs ≠ .sla x sz off len cap :: r) : y0c x st st' := by
 unfold Qv at h
 split at h
 ·split at h
  ·split at h
   ·split at h
    ·rename_i b len get o1 n g o2 ht _
     obtain ⟨hc, h⟩ := Zc h
     simp only [Option.map_eq_some_iff, Prod.mk.injEq] at h
     obtain ⟨_, h1, _, rfl⟩ := h
     obtain ⟨_, o2, _, _⟩ := Xw h1
     unfold y0c
     rw [o2]
     show Yb (Xa (y6p st.mem b) st.next _) x = _
     rw [Zx _ _ (Nat.ne_of_lt hx)]
     cases b with
     | none => rfl
     | some b =>
      refine Zx _ _ fun e => ?_
      subst e
      rcases z8q ht with ⟨_, _, _, rfl⟩ | ⟨_, _, _, _, rfl⟩
      ·exact hn _ _ _ _ rfl
      ·exact hn2 _ _ _ _ _ rfl
    ·cases h
   ·cases h
  ·cases h
 ·cases h
theorem y1v {x : Nat} {cx : Ctx} {st st' : St} {ts : List TypeId} {xs : List AVal} {v : AVal} (hx : x < st.next) (h : z0p P cx st ts xs = some (v, st')) (hn : ∀ off len cap r, xs ≠ .sl x off len cap :: r) (hn2 : ∀ sz off len cap r, xs ≠ .sla x sz off len cap :: r) : y0c x st st' := by
 unfold z0p at h
 rcases Vu h with ⟨_, h⟩ | ⟨_, h⟩
 ·exact y1t hx h hn hn2
 ·split at h
  ·exact y1u hx h hn2
  ·exact y4i hx h hn
theorem x2p {x floor : Nat} {st st' : St} {ts : List TypeId} {xs : List AVal} {v : AVal} (h : y8h P floor st ts xs = some (v, st')) (hn : ∀ off len cap r, xs ≠ .sl x off len cap :: r) : y0c x st st' := by
 unfold y8h at h
 split at h
 ·split at h
  ·split at h
   ·split at h
    ·obtain ⟨_, h⟩ := Zc h
     split at h
     ·simp only [Option.some.injEq, Prod.mk.injEq] at h
      obtain ⟨_, rfl⟩ := h
      rfl
     ·obtain ⟨_, h⟩ := Zc h
      simp only [Option.some.injEq, Prod.mk.injEq] at h
      obtain ⟨_, rfl⟩ := h
      rfl
     ·have hb := fun e => hn _ _ _ _ (congrArg (fun b => AVal.sl b _ _ _ :: _) e)
      dsimp only at h
      split at h
      ·obtain ⟨hc, h⟩ := Zc h
       simp only [Option.some.injEq, Prod.mk.injEq] at h
       obtain ⟨_, rfl⟩ := h
       exact Vx st _ hb
      ·cases h
     ·cases h
    ·cases h
   ·cases h
  ·cases h
 ·cases h
theorem z8f {x : Nat} {cx : Ctx} {st st' : St} {ts : List TypeId} {b sz off len : Nat} {y v : AVal} (h : z4t P cx st ts b sz off len y = some (v, st')) (hn : b ≠ x) : y0c x st st' := by
 unfold z4t at h
 split at h
 ·split at h
  ·split at h
   ·split at h
    ·obtain ⟨_, h⟩ := Zc h
     simp only [Option.map_eq_some_iff, Prod.mk.injEq] at h
     obtain ⟨_, h1, _, rfl⟩ := h
     obtain ⟨_, o2, _, _⟩ := Xw h1
     show Yb _ x = _
     rw [o2]
     exact Vx st _ hn
    ·cases h
   ·cases h
  ·cases h
 ·cases h
theorem y8g {x : Nat} {cx : Ctx} {st st' : St} {ts : List TypeId} {xs : List AVal} {v : AVal} (h : y0b P cx st ts xs = some (v, st')) (hn : ∀ off len cap r, xs ≠ .sl x off len cap :: r) (hn2 : ∀ sz off len cap r, xs ≠ .sla x sz off len cap :: r) (hn3 : ∀ sz off len r, xs ≠ .slv x sz off len :: r) : y0c x st st' := by
 unfold y0b at h
 split at h
 ·exact z8f h fun e => hn2 _ _ _ _ _ (by rw [e])
 ·exact z8f h fun e => hn3 _ _ _ _ (by rw [e])
 ·exact x2p h hn
theorem y8i {x floor : Nat} {st st' : St} {ts : List TypeId} {xs : List AVal} {v : AVal} (h : z8g P floor st ts xs = some (v, st')) (hn : ∀ off len cap r, xs ≠ .sl x off len cap :: r) : y0c x st st' := by
 unfold z8g at h
 split at h
 ·split at h
  ·split at h
   ·split at h
    ·simp only [Option.some.injEq, Prod.mk.injEq] at h
     obtain ⟨_, rfl⟩ := h
     rfl
    ·have hb := fun e => hn _ _ _ _ (congrArg (fun b => AVal.sl b _ _ _ :: _) e)
     rcases Vu h with ⟨_, h⟩ | ⟨_, h⟩
     ·simp only [Option.some.injEq, Prod.mk.injEq] at h
      obtain ⟨_, rfl⟩ := h
      rfl
     ·obtain ⟨hc, h⟩ := Zc h
      split at h
      ·obtain ⟨_, h⟩ := Zc h
       simp only [Option.some.injEq, Prod.mk.injEq] at h
       obtain ⟨_, rfl⟩ := h
       exact Vx st _ hb
      ·cases h
    ·cases h
   ·cases h
  ·cases h
 ·cases h
theorem y4f {S : Specs} {R : Runner} {lift : Bool} {op : Op} {cx : Ctx} {st st' : St} {v : AVal} {x : Nat} (hk : Zh op = .chain) (hx : x < st.next) (hn : y2c op st.eval ≠ some x) (h : Xm P S R lift op cx st = some (v, st')) : y0c x st st' := by
 cases op with
 | store t a y =>
  simp only [Xm] at h
  split at h
  ·rename_i b sz r fo hb
   simp only [Option.map_eq_some_iff, Prod.mk.injEq] at h
   obtain ⟨_, h, _, rfl⟩ := h
   exact y4b h fun sz r fo e => hn (by simp only [y2c, hb]; cases e; rfl)
  ·simp only [Option.map_eq_some_iff, Prod.mk.injEq] at h
   obtain ⟨_, h, _, rfl⟩ := h
   exact y8b h fun off e => hn (by simp only [y2c, e])
 | box t y =>
  unfold Xm at h
  simp only at h
  obtain ⟨_, h⟩ := Zc h
  simp only [Option.some.injEq, Prod.mk.injEq] at h
  obtain ⟨_, rfl⟩ := h
  exact Qs st _ _ hx
 | buildSlice t n ps => exact z5a hx h
 | makeSlice t l c =>
  unfold Xm at h
  simp only at h
  rcases Vu h with ⟨_, h⟩ | ⟨_, h⟩
  ·rcases Vu h with ⟨_, h⟩ | ⟨_, h⟩
   ·exact (Qo (st := st.dropO) hx h)
   ·exact (z4x (st := st.dropO) hx h)
  ·exact Qo hx h
 | call c =>
  obtain ⟨callee, args, argTypes⟩ := c
  cases callee with
  | builtin b =>
   cases b <;> first
    | (simp [Zh] at hk; done)
    | exact y1v hx h (fun off len cap r e => hn (by simp only [y2c, e])) (fun sz off len cap r e => hn (by simp only [y2c, e]))
    | exact y8g h (fun off len cap r e => hn (by simp only [y2c, e])) (fun sz off len cap r e => hn (by simp only [y2c, e])) (fun sz off len r e => hn (by simp only [y2c, e]))
    | exact y8i h fun off len cap r e => hn (by simp only [y2c, e])
  | value f => simp [Zh] at hk
  | invoke r m => simp [Zh] at hk
 | _ => simp [Zh] at hk
theorem Uk : ∀ (d : Nat) (a : AVal) (u : Value), pf d a = true → Ze ρ a u → Ze ρ.bare a u
 | 0, _, _, h, _ => by simp [pf] at h
 | d + 1, a, u, h, hr => by
  cases hr with
  | undef => simp [pf] at h
  | bool => exact .bool _
  | int => exact .int _ _
  | str => exact .str _
  | agg cs vs hl hh =>
   simp only [pf, List.all_eq_true] at h
   exact .agg cs vs hl fun i h1 h2 => Uk d _ _ (h _ (List.getElem_mem h1)) (hh i h1 h2)
  | tup cs vs hl hh =>
   simp only [pf, List.all_eq_true] at h
   exact .tup cs vs hl fun i h1 h2 => Uk d _ _ (h _ (List.getElem_mem h1)) (hh i h1 h2)
  | ptr => simp [pf] at h
  | nilp => exact .nilp
  | sl => simp [pf] at h
  | sla => simp [pf] at h
  | slan => simp [pf] at h
  | slv => simp [pf] at h
  | slve => simp [pf] at h
  | slvn => simp [pf] at h
  | epa => simp [pf] at h
  | nils => exact .nils
  | fn => simp [pf] at h
  | nilf => exact .nilf
  | fnb => simp [pf] at h
  | yld => simp [pf] at h
  | ifc => simp [pf] at h
  | nili => exact .nili
  | dat len get blk base sz cap val hcap hsz hv hh => exact .dat len get blk base sz cap val hcap hsz hv hh
  | datn get => exact .datn get
  | datz get a c => exact .datz get a c
  | dptr cs blk base val hv hh => exact .dptr cs blk base val hv hh
def ValOk (P : Program) (f : FuncId) (F : List AVal → Option (AVal × Bool)) : Prop :=
 ∀ args v, F args = some (v, true) → ∀ (H : Old) (vals : Array Value) (w : World), Wz (Ze (Qg H)) args vals.toList → (∀ k o, H k = some o → w.heap[k]? = some o) →
  Calls P f vals w fun e w' => ∃ H' u, (∀ k o, H k = some o → H' k = some o) ∧ (∀ k o, H' k = some o → w'.heap[k]? = some o) ∧ (∀ k, k < w.heap.size → H' k = H k) ∧ e = .returned u ∧ Ze (Qg H') v u ∧ RowKit.Below w.heap.size w w'
def y4q (P : Program) (f : FuncId) (F : List AVal → Mem → Option (AVal × Nat × ABlk × Bool)) : Prop :=
 ∀ args mem v b blk, F args mem = some (v, b, blk, true) → (Yb mem b).isSome = true → ∀ (ρ : Rho) (next floor : Nat) (vals : Array Value) (w : World), floor ≤ b → Wz (Ze ρ) args vals.toList → Rel ρ mem next w →
  Calls P f vals w fun e w' => ∃ u, e = .returned u ∧ Ze ρ v u ∧ Rel ρ (Xa mem b (some blk)) next w' ∧ Ev ρ ρ floor mem next (Xa mem b (some blk)) next w w'
def SpecOk (P : Program) (f : FuncId) : Spec → Prop
 | .val F => ValOk P f F
 | .eff F => y4q P f F
def Zu (P : Program) (S : Specs) : Prop :=
 ∀ f F, S f = some F → (∃ fn, P.funcs[f]? = some fn ∧ fn.body.isSome = true) ∧ SpecOk P f F
def z4c (P : Program) : Prop := ∀ (f : FuncId) (fn : Func), P.funcs[f]? = some fn → fn.body.isSome = true → (fn.name == "runtime.NumGoroutine") = false
def ROk (P : Program) (R : Runner) : Prop :=
 ∀ cx todo st st', cx.floor ≤ st.next → R cx todo st = some st' → st'.ob = true → ∀ (ρ : Rho) (a : Act) (w : World) (b : Frame) (cs : List Frame), a.defers = [] → Xq ρ st.env cx.n a.tmps → Rel ρ st.mem st.next w →
  ∃ ρ' a' todo' w', Steps P (lone (b.at a todo) cs w) (lone { b.at a' todo' with mode := .returning } cs w') ∧ a'.defers = [] ∧ Xq ρ' st'.env cx.n a'.tmps ∧ Rel ρ' st'.mem st'.next w' ∧
   Ev ρ ρ' cx.floor st.mem st.next st'.mem st'.next w w'
theorem z7q : ∀ (args : List AVal) (i : Nat) (t : T AVal) (k : Nat), T.get .undef (z3u args i t) k = if i ≤ k ∧ k < i + args.length then args.getD (k - i) .undef else T.get .undef t k
 | [], i, t, k => by
  rw [if_neg (by intro h; simp at h; omega)]; rfl
 | a :: r, i, t, k => by
  simp only [z3u]
  rw [z7q r (i + 1) _ k, T.get_set]
  by_cases h1 : k = i
  ·subst h1
   rw [if_neg (by omega), if_pos rfl, if_pos (by simp)]
   simp
  ·by_cases h2 : i + 1 ≤ k ∧ k < i + 1 + r.length
   ·rw [if_pos h2, if_pos (by simp; omega)]
    have : k - i = (k - (i + 1)) + 1 := by omega
    rw [this]; simp
   ·rw [if_neg h2, if_neg h1, if_neg (by simp; omega)]
def y2n (tmps : Array Value) : ResultVar → Sem Value
 | .tmp t => pure (tmps.getD t undef)
 | .cell a t => do loadVar t (← asAddr (tmps.getD a undef))
theorem x1d (fn : Func) (tmps : Array Value) : results fn tmps = (do
  let vs ← fn.results.mapM (y2n tmps)
  pure (if h : vs.size = 1 then vs[0] else .tuple vs)) := by
 unfold results
 have : (fun r : ResultVar => (match r with | .tmp t => pure (tmps.getD t undef) | .cell a t => do loadVar t (← asAddr (tmps.getD a undef)) : Sem Value)) = y2n tmps := by
  funext r
  cases r <;> rfl
 rw [← this]
 rfl
theorem y1q {st : St} {w : World} {tmps : Array Value} {n : Nat} (henv : Xq ρ st.env n tmps) (hrel : Rel ρ st.mem st.next w) {r : ResultVar} {v : AVal} (h : y1r P st r = some v) :
  ∃ u, Ze ρ v u ∧ (y2n tmps r).run P w = .ok u w := by
 have get : ∀ t, Ze ρ (st.tmp t) (tmps.getD t undef) := fun t => henv.get t
 cases r with
 | tmp t =>
  simp only [y1r, Option.some.injEq] at h
  subst h
  exact ⟨_, get t, rfl⟩
 | cell a t =>
  simp only [y1r] at h
  obtain ⟨z, hz, hr⟩ := z8c hrel h (get a)
  refine ⟨z, hz, ?_⟩
  have ha := get a
  unfold y2n
  simp only
  generalize tmps.getD a undef = u at ha hr ⊢
  unfold y8d at h
  split at h
  ·rename_i e
   rw [e] at ha
   cases ha
   simpa [Instr.loadAt, Instr.sureAddr, asAddr] using hr
  ·rename_i e
   rw [e] at ha
   cases ha
   simpa [Instr.loadAt, Instr.sureAddr, asAddr] using hr
  ·cases h
theorem z0x {st : St} {w : World} {tmps : Array Value} {n : Nat} (henv : Xq ρ st.env n tmps) (hrel : Rel ρ st.mem st.next w) : ∀ {rs : List ResultVar} {vs : List AVal}, Vp P st rs = some vs →
  ∃ us, Wz (Ze ρ) vs us ∧ (rs.mapM (y2n tmps)).run P w = .ok us w
 | [], vs, h => by simp only [Vp, Option.some.injEq] at h; subst h; exact ⟨[], .nil, by simp⟩
 | r :: rs, vs, h => by
  unfold Vp at h
  split at h
  ·rename_i v vs' h1 h2
   obtain rfl := Option.some.inj h
   obtain ⟨u, hu, hr⟩ := y1q henv hrel h1
   obtain ⟨us, hus, hrs⟩ := z0x henv hrel h2
   refine ⟨u :: us, .cons hu hus, ?_⟩
   rw [List.mapM_cons, Sem.run_bind, hr]
   simp only [Result.andThen_ok, Sem.run_bind, hrs, Sem.run_pure]
  ·cases h
theorem Ki {fn : Func} {st : St} {w : World} {tmps : Array Value} {n : Nat} (henv : Xq ρ st.env n tmps) (hrel : Rel ρ st.mem st.next w) {vs : List AVal} (h : Vp P st fn.results.toList = some vs) :
  ∃ u, Ze ρ (Ur vs) u ∧ (results fn tmps).run P w = .ok u w := by
 obtain ⟨us, hus, hr⟩ := z0x henv hrel h
 refine ⟨if h : us.toArray.size = 1 then us.toArray[0] else .tuple us.toArray, ?_, ?_⟩
 ·cases hus with
  | nil => exact .tup [] _ rfl fun i h1 _ => by simp at h1
  | cons h1 hs => cases hs with
   | nil => simpa [Ur] using h1
   | cons h2 hs =>
    have hall := Wz.cons h1 (Wz.cons h2 hs)
    have hl := hall.length
    simp only [Ur]
    rw [dif_neg (by simp)]
    exact .tup _ _ (by simpa using hl) fun i h1 h2 => by simpa using hall.get i h1 (by simpa using h2)
 ·rw [x1d, Sem.run_bind, Array.mapM_eq_mapM_toList, Sem.run_map, hr]
  rfl
theorem z7p {args : List AVal} {vals : Array Value} (h : Wz (Ze ρ) args vals.toList) (ntmps : Nat) :
  Xq ρ (z3u args 0 .leaf) (Nat.max ntmps args.length) (vals ++ Array.replicate (ntmps - vals.size) undef) := by
 have hl : args.length = vals.size := by simpa using h.length
 have hmax : Nat.max ntmps args.length = vals.size + (ntmps - vals.size) := by
  have : Nat.max ntmps args.length = max ntmps args.length := rfl
  rw [this]; omega
 refine ⟨by rw [hmax]; simp, fun i => ?_, fun i hi => ?_⟩
 ·rw [z7q]
  by_cases hi : i < args.length
  ·rw [if_pos (by omega)]
   have h2 : i < vals.toList.length := by rw [← h.length]; exact hi
   have := h.get i hi h2
   have e1 : args.getD (i - 0) .undef = args[i] := by simp [hi]
   have e2 : (vals ++ Array.replicate (ntmps - vals.size) undef).getD i undef = vals.toList[i] := by
    have h3 : i < vals.size := by simpa using h2
    simp [Array.getElem?_append, h3]
   rw [e1, e2]; exact this
  ·rw [if_neg (by omega)]
   exact .undef _
 ·have hle : args.length ≤ Nat.max ntmps args.length := Nat.le_max_right _ _
  rw [z7q, if_neg (by omega)]; rfl
theorem Kp {f : FuncId} {fn : Func} (hN : z4c P) (hf : P.funcs[f]? = some fn) (hb : fn.body.isSome = true) (args : Array Value) (w : World) : (callFunc f args).run P w = .ok (.enter f args) w := by
 have h1 : ¬ fn.name = "runtime.NumGoroutine" := by simpa using hN f fn hf hb
 have h2 : ¬ fn.body = none := by intro e; rw [e] at hb; cases hb
 simp [callFunc, hf, h1, h2]
theorem y4w {mem : Mem} {next : Nat} {w : World} (h : Rel ρ mem next w) {a a' : AVal} {o : Bool} (hv : w5c mem a = (a', o)) (ho : o = true) {u : Value} (hr : Ze ρ a u) (hp : pf 3 a' = true) : Ze (Qg fun k => w.heap[k]?) a' u := by
 subst ho
 have hle : ρ.bare.le (Qg fun k => w.heap[k]?) := ⟨fun _ _ e => (by cases e), fun k o e => h.old k o e, fun _ _ e => (by cases e)⟩
 unfold w5c at hv
 split at hv
 ·rename_i b sz off len cap
  split at hv
  ·rename_i blk hm
   split at hv
   ·rename_i A hA
    simp only [Prod.mk.injEq, Bool.and_eq_true, decide_eq_true_eq] at hv
    obtain ⟨rfl, h1, h2, h3⟩ := hv
    obtain rfl := Nat.eq_of_beq_eq_true h1
    have h3 := @of_decide_eq_true _ (Classical.propDecidable _) h3
    cases hr with
    | slan => exact .datn _
    | sla _ _ _ _ _ l c hρ hcap hlen =>
     obtain ⟨har1, har2, har3⟩ := (h.blk b l blk hρ hm).arr A hA
     obtain ⟨cur, el, hh, _⟩ := (h.blk b l blk hρ hm).cells
     refine .dat len _ l.blk (l.base + off * A.sz) A.sz c (fun i j => (w.cell? ⟨l.blk, l.base + (off + i) * A.sz + j, none⟩).getD undef) hlen (fun i hi => har3 _ (by omega)) (fun i j hi hj => ?_) (fun i j hi hj => ?_)
     ·obtain ⟨v, e1, e2⟩ := (h.rowAt hρ hm hA (r := off + i) (by omega)) j hj
      simp only [e1, Option.getD_some]
      exact (Uk 6 _ _ (List.all_eq_true.1 (h3 (off + i)) _ (List.getElem_mem hj)) e2).mono hle
     ·obtain ⟨v, e1, e2⟩ := (h.rowAt hρ hm hA (r := off + i) (by omega)) j (by rw [har3 _ (by omega)]; exact hj)
      simp only [e1, Option.getD_some]
      refine ⟨cur, el, (0, 0), hh, ?_⟩
      simp only [World.cell?, hh] at e1
      rw [← e1]
      congr 1
      rw [Nat.add_mul]; omega
   ·simp only [Prod.mk.injEq] at hv
    obtain ⟨rfl, _⟩ := hv
    simp [pf] at hp
  ·simp only [Prod.mk.injEq] at hv
   obtain ⟨rfl, _⟩ := hv
   simp [pf] at hp
 ·simp only [Prod.mk.injEq] at hv
  obtain ⟨rfl, _⟩ := hv
  exact (Uk 3 _ _ hp hr).mono hle
theorem y4x {mem : Mem} {next : Nat} {w : World} (h : Rel ρ mem next w) {az : List AVal} {us : List Value} (hr : Wz (Ze ρ) az us) : ∀ {az' : List AVal} {o : Bool}, x3i mem az = (az', o) → o = true → az'.all (pf 3) = true → Wz (Ze (Qg fun k => w.heap[k]?)) az' us := by
 induction hr with
 | nil =>
  intro az' o hv _ _
  simp only [x3i, Prod.mk.injEq] at hv
  obtain ⟨rfl, _⟩ := hv
  exact .nil
 | @cons a b l m h1 _ ih =>
  intro az' o hv ho hp
  unfold x3i at hv
  split at hv
  rename_i a1 o1 as1 q1 e1 e2
  simp only [Prod.mk.injEq] at hv
  obtain ⟨rfl, rfl⟩ := hv
  simp only [Bool.and_eq_true] at ho
  simp only [List.all_cons, Bool.and_eq_true] at hp
  exact .cons (y4w h e1 ho.1 h1 hp.1) (ih e2 ho.2 hp.2)
theorem x0p {σ : Rho} {v : AVal} {u : Value} (hs : scal v = true) (h : Ze σ v u) : Ze ρ v u := by
 cases h with
 | bool => exact .bool _
 | int => exact .int _ _
 | str => exact .str _
 | tup cs vs hl hh =>
  simp only [scal, List.all_eq_true] at hs
  refine .tup cs vs hl fun i h1 h2 => ?_
  have k1 := hs _ (List.getElem_mem h1)
  have k2 := hh i h1 h2
  generalize cs[i] = a at k1 k2
  generalize vs[i] = b at k2
  cases k2 with
  | bool => exact .bool _
  | int => exact .int _ _
  | str => exact .str _
  | _ => simp at k1
 | _ => simp [scal] at hs
theorem z8h {S : Specs} {R : Runner} (hS : Zu P S) (hR : ROk P R) {lift : Bool} {f : FuncId} {args : List AVal} {cx : Ctx} {st st' : St} {v : AVal} (hcx : cx.floor ≤ st.next) (h : x2t P S R lift f args cx st = some (v, st')) (hob : st'.ob = true)
  {vals : Array Value} (hargs : Wz (Ze ρ) args vals.toList) {w : World} (hrel : Rel ρ st.mem st.next w) :
  (∃ fn, P.funcs[f]? = some fn ∧ fn.body.isSome = true) ∧ Calls P f vals w fun e w' => ∃ ρ' u, e = .returned u ∧ y2b ρ cx.floor st st' v w ρ' u w' := by
 unfold x2t at h
 split at h
 ·rename_i F hF
  rcases Vu h with ⟨hca, h⟩ | ⟨_, h⟩
  ·split at h
   ·rename_i v' b hFa
    obtain ⟨hc2, h⟩ := Zc h
    have hc1 := List.all_eq_true.1 hca
    simp only [Option.map_eq_some_iff, Prod.mk.injEq] at h
    obtain ⟨st1, h1, rfl, rfl⟩ := h
    obtain ⟨_, e2, e3, e4⟩ := Xw h1
    obtain ⟨rfl, _⟩ := e4 hob
    obtain ⟨hfn, hcall⟩ := hS f _ hF
    refine ⟨hfn, ?_⟩
    have hargs0 : Wz (Ze ρ.bare) args vals.toList := Wz.of hargs.length fun i g1 g2 => Uk 3 _ _ (hc1 _ (List.getElem_mem g1)) (hargs.get i g1 g2)
    refine (hcall args v' hFa ρ.fz vals w hargs0 hrel.old).mono fun e w' ⟨H', u, hle, hold, hsame, he, hv, hb⟩ => ⟨⟨ρ.f, H', ρ.lp⟩, u, he, Ze.mono (ρ := Qg H') (ρ' := ⟨ρ.f, H', ρ.lp⟩) ⟨fun _ _ e => (by cases e), fun _ _ e => e, fun _ _ e => (by cases e)⟩ hv, ?_, ?_⟩
    ·rw [e2, e3]
     have hle' : ρ.le ⟨ρ.f, H', ρ.lp⟩ := ⟨fun _ _ e => e, hle, fun _ _ e => e⟩
     exact ⟨hrel.dom, hrel.inj, fun b l ab q1 q2 => (hrel.blk b l ab q1 q2).world hle' (hb.block _ (hrel.real b l q1)), hold, fun b l q hs => (hsame _ (hrel.real b l q)).trans (hrel.sep b l q hs), fun b l q => Nat.lt_of_lt_of_le (hrel.real b l q) hb.size, hrel.bd, hrel.ldom⟩
    ·rw [e2, e3]
     exact ⟨⟨fun _ _ e => e, hle, fun _ _ e => e⟩, fun _ _ => rfl, Nat.le_refl _, fun _ _ _ _ _ h => h, fun k o hk _ => by rw [hb.block k (Array.getElem?_eq_some_iff.1 hk).1]; exact hk,
      fun b l hb' hl => by have := hrel.dom b l hl; omega, hb.size, hb.os, hb.tape, hb.output, hsame⟩
   ·cases h
  ·split at h
   rename_i args' o hview
   split at h
   ·rename_i v' b hFa
    obtain ⟨hc, h⟩ := Zc h
    simp only [Bool.and_eq_true] at hc
    simp only [Option.map_eq_some_iff, Prod.mk.injEq] at h
    obtain ⟨st1, h1, rfl, rfl⟩ := h
    obtain ⟨_, e2, e3, e4⟩ := Xw h1
    obtain ⟨hob1, _⟩ := e4 hob
    simp only [Bool.and_eq_true] at hob1
    obtain ⟨ho, rfl⟩ := hob1
    obtain ⟨hfn, hcall⟩ := hS f _ hF
    refine ⟨hfn, ?_⟩
    have hargs0 := y4x hrel hargs hview ho hc.1
    refine (hcall args' v' hFa (fun k => w.heap[k]?) vals w hargs0 fun _ _ e => e).mono fun e w' ⟨H', u, hle, hold, hsame, he, hv, hb⟩ => ⟨ρ, u, he, x0p hc.2 hv, ?_, ?_⟩
    ·rw [e2, e3]
     exact ⟨hrel.dom, hrel.inj, fun b l ab q1 q2 => (hrel.blk b l ab q1 q2).world (Rho.le_refl _) (hb.block _ (hrel.real b l q1)), fun k o q => by rw [hb.block k (Array.getElem?_eq_some_iff.1 (hrel.old k o q)).1]; exact hrel.old k o q, hrel.sep, fun b l q => Nat.lt_of_lt_of_le (hrel.real b l q) hb.size, hrel.bd, hrel.ldom⟩
    ·rw [e2, e3]
     exact ⟨Rho.le_refl _, fun _ _ => rfl, Nat.le_refl _, fun _ _ _ _ _ h => h, fun k o hk _ => by rw [hb.block k (Array.getElem?_eq_some_iff.1 hk).1]; exact hk,
      fun b l hb' hl => by have := hrel.dom b l hl; omega, hb.size, hb.os, hb.tape, hb.output, fun _ _ => rfl⟩
   ·cases h
 ·rename_i F hF
  split at h
  ·rename_i v0 b blk o hFa
   split at h
   ·rename_i ab hm
    obtain ⟨hc, h⟩ := Zc h
    simp only [Bool.and_eq_true] at hc
    simp only [Option.map_eq_some_iff, Prod.mk.injEq] at h
    obtain ⟨st1, h1, rfl, rfl⟩ := h
    obtain ⟨_, e2, e3, e4⟩ := Xw h1
    obtain ⟨rfl, _⟩ := e4 hob
    obtain ⟨hfn, hcall⟩ := hS f _ hF
    refine ⟨hfn, ?_⟩
    refine (hcall args st.mem v0 b blk hFa (by rw [hm]; rfl) ρ st.next cx.floor vals w (Nat.le_of_ble_eq_true hc.2) hargs hrel).mono fun e w' ⟨u, he, hv, hr, hev⟩ => ⟨ρ, u, he, hv, ?_, ?_⟩
    ·rw [e2, e3]; exact hr
    ·rw [e2, e3]; exact hev
   ·cases h
  ·cases h
 ·split at h
  ·rename_i fn hf
   split at h
   ·rename_i body hb
    split at h
    ·rename_i st2 hr
     split at h
     ·rename_i vs hvs
      simp only [Option.some.injEq, Prod.mk.injEq] at h
      obtain ⟨rfl, rfl⟩ := h
      refine ⟨⟨fn, hf, by rw [hb]; rfl⟩, ?_⟩
      intro cs
      let b : Frame := { (default : Frame) with fn := f, kind := .normal }
      have henter : Frame.enter P f vals .normal = b.at { tmps := vals ++ Array.replicate (fn.ntmps - vals.size) undef, defers := [] } [.code body] := by
       simp [Frame.enter, Frame.at, hf, hb, b]
      obtain ⟨ρ', a', todo', w', hsteps, hd, henv, hrel', hev⟩ := hR _ _ _ _ (by
       cases lift with
       | false => exact hcx
       | true => exact Nat.le_refl _) hr hob ρ { tmps := vals ++ Array.replicate (fn.ntmps - vals.size) undef, defers := [] } w b cs rfl (z7p hargs fn.ntmps) hrel
      obtain ⟨u, hu, hres⟩ := Ki henv hrel' hvs
      rw [← henter] at hsteps
      refine ⟨.returned u, w', _, ⟨ρ', u, rfl, hu, hrel', ?_⟩, hsteps, rfl, rfl, hd, rfl, fn, hf, hres⟩
      refine hev.lower ?_
      cases lift with
      | false => exact Nat.le_refl _
      | true => exact hcx
     ·cases h
    ·cases h
   ·cases h
  ·cases h
theorem y1s {S : Specs} {R : Runner} (hN : z4c P) (hS : Zu P S) (hR : ROk P R) {lift : Bool} {o : Oper} {cx : Ctx} {st st' : St} {v : AVal} (hcx : cx.floor ≤ st.next)
  (h : Xm P S R lift o.op cx st = some (v, st')) (hob : st'.ob = true) {ev : Operand → AVal} (hev : ∀ x, x ∈ o.op.operands → ev x = st.eval x) {a : Act} (hr : z0z ρ ev a.eval o.op) {w : World} (hrel : Rel ρ st.mem st.next w) :
  Does P o a w (y2b ρ cx.floor st st' v w) := by
 obtain ⟨dst, op, type, pos, after, guard⟩ := o
 simp only at h hr hev
 replace hr : z0z ρ st.eval a.eval op := fun x hx => by rw [← hev x hx]; exact hr x hx
 clear hev
 unfold Xm at h
 split at h
 ·rename_i t x
  split at h
  ·rename_i v' b st0 hv
   obtain ⟨l1, l2, l3, l4⟩ := Qy hv
   simp only [Option.map_eq_some_iff, Prod.mk.injEq] at h
   obtain ⟨st1, h1, rfl, rfl⟩ := h
   obtain ⟨e1, e2, e3, e4⟩ := Xw h1
   obtain ⟨rfl, hob0⟩ := e4 hob
   obtain ⟨z, hz, hrun⟩ := z4r hrel (l4 hob0).1 (hr x (by simp [Op.operands]))
   exact .inl ⟨ρ, z, w, by simp [execOp, hrun], hz, by rw [e2, e3, l2, l3]; exact hrel, by rw [e2, e3, l2, l3]; exact Ev.refl _ _ _ _ _ hrel.dom⟩
  ·cases h
 ·rename_i t
  simp only [Option.map_eq_some_iff, Prod.mk.injEq] at h
  obtain ⟨z, hz, rfl, rfl⟩ := h
  obtain ⟨_, zv, _, _, hzr, hzv⟩ := Xh (ρ := ρ) hz
  refine .inl ⟨_, .pointer (some ⟨w.heap.size, 0, none⟩), _, ?_, z0e hrel cx.floor z t zv.cells t (by rw [hzr.1]; exact Nat.le_refl _) hzr.2 _ _ fun ρ' hρ' => .ptr _ 0 _ hρ'⟩
  simp [execOp, Instr.alloc, hzv, newVar, newRow]
 ·rename_i t x
  obtain ⟨hbx, h⟩ := Zc h
  simp only [Option.some.injEq, Prod.mk.injEq] at h
  obtain ⟨rfl, rfl⟩ := h
  have hc := (hr x (by simp [Op.operands])).cells hbx
  refine .inl ⟨_, .pointer (some ⟨w.heap.size, 0, none⟩), _, ?_, z0e hrel cx.floor _ t (a.eval x).cells t (by rw [hc.1]; exact Nat.le_refl _) hc.2 _ _ fun ρ' hρ' => .ptr _ 0 _ hρ'⟩
  simp [execOp, Instr.box, newVar, newRow]
 ·rename_i t len parts
  obtain ⟨ρ', u, w', hrun, hp, _, _⟩ := z3z hrel cx.floor h (z6t parts.toList fun p hp => hr p.2 (by simp only [Op.operands, List.mem_toArray, List.mem_map]; exact ⟨p, hp, rfl⟩))
  refine .inl ⟨ρ', u, w', ?_, hp⟩
  have : (parts.map fun (i, x) => (i, a.eval x)) = (parts.toList.map fun p => (p.1, a.eval p.2)).toArray := by
   apply Array.ext'; simp
  simp [execOp, this, hrun]
 ·rename_i t x y
  split at h
  ·rename_i b sz r fo hb
   simp only [Option.map_eq_some_iff, Prod.mk.injEq] at h
   obtain ⟨st1, h, rfl, rfl⟩ := h
   have hx := hr x (by simp [Op.operands])
   rw [hb] at hx
   obtain ⟨w', hrun, hp⟩ := y1p hrel h hob hx (hr y (by simp [Op.operands]))
   exact .inr (.inl ⟨ρ, w', by simp [execOp, hrun], hp⟩)
  ·simp only [Option.map_eq_some_iff, Prod.mk.injEq] at h
   obtain ⟨st1, h, rfl, rfl⟩ := h
   obtain ⟨w', hrun, hp, _, _⟩ := y4a hrel h (hr x (by simp [Op.operands])) (hr y (by simp [Op.operands]))
   exact .inr (.inl ⟨ρ, w', by simp [execOp, hrun], hp⟩)
 ·rename_i t l c
  rcases Vu h with ⟨_, h⟩ | ⟨_, h⟩
  ·rcases Vu h with ⟨_, h⟩ | ⟨_, h⟩
   ·obtain ⟨ρ', u, w', hrun, hp, _, _⟩ := Uy (st := st.dropO) hrel cx.floor h (hr l (by simp [Op.operands])) (hr c (by simp [Op.operands]))
    exact .inl ⟨ρ', u, w', by simp [execOp, hrun], hp.val, hp.rel, hp.ev⟩
   ·obtain ⟨ρ', u, w', hrun, hp⟩ := z3w (st := st.dropO) hrel h hob (hr l (by simp [Op.operands])) (hr c (by simp [Op.operands]))
    exact .inl ⟨ρ', u, w', by simp [execOp, hrun], hp.val, hp.rel, hp.ev⟩
  ·obtain ⟨ρ', u, w', hrun, hp, _, _⟩ := Uy hrel cx.floor h (hr l (by simp [Op.operands])) (hr c (by simp [Op.operands]))
   exact .inl ⟨ρ', u, w', by simp [execOp, hrun], hp⟩
 ·rename_i args argTypes
  have hargs : Wz (Ze ρ) (args.toList.map st.eval) (args.map a.eval).toList := by
   rw [Array.toList_map]
   exact Wz.maps _ _ _ fun x hx => hr x (by simp [Op.operands, Call.operands]; exact Array.mem_toList_iff.1 hx)
  unfold z0p at h
  rcases Vu h with ⟨_, h⟩ | ⟨_, h⟩
  ·obtain ⟨ρ', u, w', hrun, hp⟩ := z8t (type := type) hrel h hob hargs
   exact .inl ⟨ρ', u, w', by simp [execOp, resolve, invoke, builtin, hrun], hp⟩
  split at h
  ·rename_i hxs
   obtain ⟨ρ', u, w', hrun, hp⟩ := z8u (type := type) hrel h hob (hxs ▸ hargs)
   exact .inl ⟨ρ', u, w', by simp [execOp, resolve, invoke, builtin, hrun], hp⟩
  ·obtain ⟨ρ', u, w', hrun, hp, _, _⟩ := Qw (type := type) hrel cx.floor h hargs
   exact .inl ⟨ρ', u, w', by simp [execOp, resolve, invoke, builtin, hrun], hp⟩
 ·rename_i args argTypes
  have hargs : Wz (Ze ρ) (args.toList.map st.eval) (args.map a.eval).toList := by
   rw [Array.toList_map]
   exact Wz.maps _ _ _ fun x hx => hr x (by simp [Op.operands, Call.operands]; exact Array.mem_toList_iff.1 hx)
  unfold y0b at h
  split at h
  ·rename_i b sz off len cap x xs hxs
   obtain ⟨ρ', u, w', hrun, hp⟩ := z4s (type := type) (d := .sla b sz off len cap) hrel h hob (hxs ▸ hargs) fun u hu => by
    cases hu with
    | sla _ _ _ _ _ l c hρ _ hlen => exact .inl ⟨l, c, hρ, hlen, rfl⟩
    | slan => exact .inr ⟨rfl, none, 0, rfl⟩
   exact .inl ⟨ρ', u, w', by simp [execOp, resolve, invoke, builtin, hrun], hp⟩
  ·rename_i b sz off len x xs hxs
   obtain ⟨ρ', u, w', hrun, hp⟩ := z4s (type := type) (d := .slv b sz off len) hrel h hob (hxs ▸ hargs) fun u hu => by
    cases hu with
    | slv _ _ _ _ l c hρ hlen => exact .inl ⟨l, c, hρ, hlen, rfl⟩
    | slve _ _ _ blk base c => exact .inr ⟨rfl, _, _, rfl⟩
    | slvn => exact .inr ⟨rfl, none, 0, rfl⟩
   exact .inl ⟨ρ', u, w', by simp [execOp, resolve, invoke, builtin, hrun], hp⟩
  ·obtain ⟨ρ', u, w', hrun, hp, _, _⟩ := y8f (type := type) hrel cx.floor h hargs
   exact .inl ⟨ρ', u, w', by simp [execOp, resolve, invoke, builtin, hrun], hp⟩
 ·rename_i args argTypes
  have hargs : Wz (Ze ρ) (args.toList.map st.eval) (args.map a.eval).toList := by
   rw [Array.toList_map]
   exact Wz.maps _ _ _ fun x hx => hr x (by simp [Op.operands, Call.operands]; exact Array.mem_toList_iff.1 hx)
  obtain ⟨ρ', u, w', hrun, hp, _, _⟩ := y4g (type := type) hrel cx.floor h hargs
  exact .inl ⟨ρ', u, w', by simp [execOp, resolve, invoke, builtin, hrun], hp⟩
 ·rename_i f args argTypes
  split at h
  ·rename_i g caps hg
   have hf := hr f (by simp [Op.operands, Call.operands])
   rw [hg] at hf
   generalize hw : a.eval f = u at hf
   cases hf with
   | fn _ _ cvs hl hh =>
    have hargs : Wz (Ze ρ) (args.toList.map st.eval ++ caps) (args.map a.eval ++ cvs).toList := by
     rw [Array.toList_append, Array.toList_map]
     exact Wz.append (Wz.maps _ _ _ fun x hx => hr x (by simp [Op.operands, Call.operands]; exact .inr (Array.mem_toList_iff.1 hx))) (Wz.of (by simpa using hl) fun i h1 h2 => by simpa using hh i h1 (by simpa using h2))
    obtain ⟨⟨fn, hfn, hb⟩, hc⟩ := z8h hS hR hcx h hob hargs hrel
    refine .inr (.inr ⟨g, args.map a.eval ++ cvs, ?_, hc⟩)
    have := Kp hN hfn hb (args.map a.eval ++ cvs) w
    simp [execOp, resolve, Deferred.ofValue, hw, invoke, this]
  ·rename_i g first hg
   have hf := hr f (by simp [Op.operands, Call.operands])
   rw [hg] at hf
   generalize hw : a.eval f = u at hf
   cases hf with
   | fnb _ _ cvs hl hh =>
    have hargs : Wz (Ze ρ) (first ++ args.toList.map st.eval) (cvs ++ args.map a.eval).toList := by
     rw [Array.toList_append, Array.toList_map]
     exact Wz.append (Wz.of (by simpa using hl) fun i h1 h2 => by simpa using hh i h1 (by simpa using h2)) (Wz.maps _ _ _ fun x hx => hr x (by simp [Op.operands, Call.operands]; exact .inr (Array.mem_toList_iff.1 hx)))
    obtain ⟨⟨fn, hfn, hb⟩, hc⟩ := z8h hS hR hcx h hob hargs hrel
    refine .inr (.inr ⟨g, cvs ++ args.map a.eval, ?_, hc⟩)
    have := Kp hN hfn hb (cvs ++ args.map a.eval) w
    simp [execOp, resolve, Deferred.ofValue, hw, invoke, this]
  ·cases h
 ·cases h
end
end Go.Am
namespace Go.Am
section
variable {P : Program} {ρ : Rho}
theorem Xq.congr {env env' : T AVal} {n : Nat} {tmps : Array Value} (h : Xq ρ env n tmps) (he : ∀ t, T.get .undef env' t = T.get .undef env t) : Xq ρ env' n tmps :=
 ⟨h.size, fun i => by rw [he]; exact h.get i, fun i hi => by rw [he]; exact h.out i hi⟩
theorem Xq.eval {st : St} {n : Nat} {a : Act} (h : Xq ρ st.env n a.tmps) (x : Operand) : Ze ρ (st.eval x) (a.eval x) := by
 cases x with
 | tmp t => exact h.get t
 | const v => exact x5l v
 | global g => exact .undef _
 | func f => exact .fn f [] #[] rfl fun i h1 _ => by simp at h1
theorem Xq.put {env env' : T AVal} {n : Nat} {a : Act} (h : Xq ρ env n a.tmps) {dst : Option Tmp} {v : AVal} {u : Value} (hv : Ze ρ v u)
  (hp : (dst = none ∧ env' = env) ∨ ∃ d, dst = some d ∧ d < n ∧ env' = T.set .undef env d v) : Xq ρ env' n (a.put dst u).tmps := by
 rcases hp with ⟨rfl, rfl⟩ | ⟨d, rfl, hd, rfl⟩
 ·exact h
 ·have hsz := h.size
  refine ⟨by simp [Act.put, hsz], fun i => ?_, fun i hi => ?_⟩
  ·rw [T.get_set]
   by_cases hi : i = d
   ·subst hi
    rw [if_pos rfl]
    have : i < a.tmps.size := by rw [hsz]; exact hd
    simpa [Act.put, this] using hv
   ·rw [if_neg hi]
    have := h.get i
    simpa [Act.put, Array.getElem?_setIfInBounds_ne (Ne.symm hi)] using this
  ·rw [T.get_set, if_neg (Nat.ne_of_gt (Nat.lt_of_lt_of_le hd hi))]
   exact h.out i hi
theorem Act.put_defers' (a : Act) (dst : Option Tmp) (v : Value) : (a.put dst v).defers = a.defers := by cases dst <;> rfl
theorem x2n {ops : Array Oper} {o : Oper} {cx : Ctx} {st st' : St} {e : Bool} (h : z4q ops o cx st = some (e, st')) : st'.mem = st.mem ∧ st'.next = st.next ∧ (st'.ob = true → st.ob = true ∧ ∀ t, st'.tmp t = st.tmp t) := by
 unfold z4q at h
 split at h
 ·simp only [Option.some.injEq, Prod.mk.injEq] at h
  obtain ⟨_, rfl⟩ := h
  exact ⟨rfl, rfl, fun h => ⟨h, fun _ => rfl⟩⟩
 ·split at h
  ·cases h
  ·rename_i d hd
   split at h
   ·rename_i b hb
    split at h
    rename_i e1 st1 ht
    split at h
    ·rename_i st2 hp
     simp only [Option.some.injEq, Prod.mk.injEq] at h
     obtain ⟨_, rfl⟩ := h
     obtain ⟨t1, t2, t3, t4⟩ := z6j ht
     obtain ⟨p1, p2, p3, p4⟩ := Vn hp
     refine ⟨p1.trans t2, p2.trans t3, fun ho => ?_⟩
     rw [p3] at ho
     obtain ⟨rfl, ho⟩ := t4 ho
     refine ⟨ho, fun t => ?_⟩
     rcases p4 with ⟨e, _⟩ | ⟨d', e, _, he⟩
     ·cases e
     ·obtain rfl := Option.some.inj e
      show T.get .undef st2.env t = T.get .undef st.env t
      rw [he, t1, T.get_set]
      split
      ·rename_i h; subst h; exact hb.symm
      ·rfl
    ·cases h
   ·simp only [Option.some.injEq, Prod.mk.injEq] at h
    obtain ⟨_, rfl⟩ := h
    exact ⟨rfl, rfl, fun h => ⟨h, fun _ => rfl⟩⟩
   ·cases h
def Vs (ops : Array Oper) (o : Oper) : Option Tmp := o.guard.bind fun g => (ops[g.1]?).bind (·.dst)
theorem y8a {ops : Array Oper} {o : Oper} {cx : Ctx} {st st' : St} {e : Bool} (h : z4q ops o cx st = some (e, st')) (ho : st'.ob = true) {tmps : Array Value} (hsz : tmps.size = cx.n)
  (hr : ∀ d, Vs ops o = some d → Ze ρ (st.tmp d) (tmps.getD d undef)) : Region.wanted o (yielded ops tmps) = e := by
 unfold z4q at h
 unfold Region.wanted
 split at h
 ·rename_i hg
  simp only [Option.some.injEq, Prod.mk.injEq] at h
  obtain ⟨rfl, _⟩ := h
  rw [hg]
 ·rename_i j want hg
  rw [hg]
  simp only
  split at h
  ·cases h
  ·rename_i d hd
   have hrd := hr d (by simp [Vs, hg, hd])
   split at h
   ·rename_i b hb
    split at h
    rename_i e1 st1 ht
    split at h
    ·rename_i st2 hp
     simp only [Option.some.injEq, Prod.mk.injEq] at h
     obtain ⟨rfl, rfl⟩ := h
     obtain ⟨_, _, _, t4⟩ := z6j ht
     obtain ⟨_, _, p3, p4⟩ := Vn hp
     rw [p3] at ho
     obtain ⟨rfl, _⟩ := t4 ho
     rcases p4 with ⟨e, _⟩ | ⟨d', e, hlt, _⟩
     ·cases e
     ·obtain rfl := Option.some.inj e
      rw [hb] at hrd
      have hlt' : d < tmps.size := by rw [hsz]; exact hlt
      have hget : tmps.getD d undef = tmps[d] := by simp [hlt']
      rw [hget] at hrd
      have : yielded ops tmps j = some e1 := by
       unfold yielded
       rw [hd]
       simp only [Option.bind_some, Array.getElem?_eq_getElem hlt']
       generalize tmps[d] = u at hrd
       cases hrd
       rfl
      rw [this]
      cases e1 <;> cases want <;> rfl
    ·cases h
   ·rename_i hb
    simp only [Option.some.injEq, Prod.mk.injEq] at h
    obtain ⟨rfl, rfl⟩ := h
    rw [hb] at hrd
    have : yielded ops tmps j = none := by
     unfold yielded
     rw [hd]
     simp only [Option.bind_some]
     by_cases hlt : d < tmps.size
     ·have hget : tmps.getD d undef = tmps[d] := by simp [hlt]
      rw [hget] at hrd
      rw [Array.getElem?_eq_getElem hlt]
      generalize tmps[d] = u at hrd
      cases hrd
      rfl
     ·rw [Array.getElem?_eq_none (Nat.le_of_not_lt hlt)]
    rw [this]
    rfl
   ·cases h
theorem z7w {cx : Ctx} {t : Nat} {kd : IntKind} {n : Int} {st st' : St} (ht : st.tmp t = .int kd n) (h : st.conc cx t kd n = some st') : st'.mem = st.mem ∧ st'.next = st.next ∧ (st'.ob = true → st.ob = true ∧ ∀ t, st'.tmp t = st.tmp t) := by
 obtain ⟨env, mem, next, orc, ob⟩ := st
 cases orc with
 | nil =>
  obtain rfl := Option.some.inj h
  exact ⟨rfl, rfl, fun h => ⟨h, fun _ => rfl⟩⟩
 | cons o r =>
  unfold St.conc at h
  obtain ⟨_, h⟩ := Zc h
  obtain rfl := Option.some.inj h
  refine ⟨rfl, rfl, fun ho => ?_⟩
  simp only [Bool.and_eq_true, decide_eq_true_eq] at ho
  refine ⟨ho.2, fun k => ?_⟩
  show T.get .undef (T.set .undef env t _) k = T.get .undef env k
  rw [T.get_set]
  split
  ·rename_i e
   subst e
   rw [← ho.1]
   exact ht.symm
  ·rfl
theorem x2r {o : Oper} {cx : Ctx} {st st' : St} (h : w1y o cx st = some st') : st'.mem = st.mem ∧ st'.next = st.next ∧ (st'.ob = true → st.ob = true ∧ ∀ t, st'.tmp t = st.tmp t) := by
 have same : some st = some st' → st'.mem = st.mem ∧ st'.next = st.next ∧ (st'.ob = true → st.ob = true ∧ ∀ t, st'.tmp t = st.tmp t) := fun e => by
  obtain rfl := Option.some.inj e
  exact ⟨rfl, rfl, fun h => ⟨h, fun _ => rfl⟩⟩
 unfold w1y at h
 split at h
 ·split at h
  ·split at h
   ·rename_i ht; exact z7w ht h
   ·exact same h
  ·split at h
   ·rename_i ht; exact z7w ht h
   ·exact same h
  ·exact same h
 ·split at h
  ·split at h
   ·rename_i ht; exact z7w ht h
   ·exact same h
  ·exact same h
 ·exact same h
theorem Ua {ops : Array Oper} {o : Oper} {cx : Ctx} {st st' : St} {e : Bool} (h : Jt ops o cx st = some (e, st')) : ∃ st1, z4q ops o cx st = some (e, st1) ∧ st'.mem = st1.mem ∧ st'.next = st1.next ∧ (st'.ob = true → st1.ob = true ∧ ∀ t, st'.tmp t = st1.tmp t) ∧ (Zh o.op = .alloc ∨ e = false → st' = st1) := by
 unfold Jt at h
 split at h
 ·rename_i st1 h1
  split at h
  ·rename_i st2 h2
   simp only [Option.some.injEq, Prod.mk.injEq] at h
   obtain ⟨rfl, rfl⟩ := h
   obtain ⟨c1, c2, c3⟩ := x2r h2
   refine ⟨st1, h1, c1, c2, c3, fun hk => ?_⟩
   rcases hk with hk | hk
   ·unfold w1y at h2
    split at h2
    ·rename_i ho; rw [ho] at hk; cases hk
    ·rename_i ho; rw [ho] at hk; cases hk
    ·exact (Option.some.inj h2).symm
   ·cases hk
  ·cases h
 ·exact ⟨st', h, rfl, rfl, fun h => ⟨h, fun _ => rfl⟩, fun _ => rfl⟩
theorem Jz {ops : Array Oper} {o : Oper} {cx : Ctx} {st st' : St} {e : Bool} (h : Jt ops o cx st = some (e, st')) : st'.mem = st.mem ∧ st'.next = st.next ∧ (st'.ob = true → st.ob = true ∧ ∀ t, st'.tmp t = st.tmp t) := by
 obtain ⟨st1, h1, c1, c2, c3, _⟩ := Ua h
 obtain ⟨w1, w2, w3⟩ := x2n h1
 exact ⟨c1.trans w1, c2.trans w2, fun ho => ⟨(w3 (c3 ho).1).1, fun t => ((c3 ho).2 t).trans ((w3 (c3 ho).1).2 t)⟩⟩
theorem Vt {ops : Array Oper} {o : Oper} {cx : Ctx} {st st' : St} {e : Bool} (h : Jt ops o cx st = some (e, st')) (ho : st'.ob = true) {tmps : Array Value} (hsz : tmps.size = cx.n)
  (hg : ∀ d, Vs ops o = some d → Ze ρ (st.tmp d) (tmps.getD d undef)) : Region.wanted o (yielded ops tmps) = e := by
 obtain ⟨st1, h1, _, _, c3, _⟩ := Ua h
 exact y8a h1 (c3 ho).1 hsz hg
structure w8t (P : Program) (cx : Ctx) (o : Oper) (st st' : St) (v : AVal) : Prop where
 ob : st.ob = true
 does : ∀ (ρ : Rho) (a : Act) (w : World) (ev : Operand → AVal), (∀ x, x ∈ o.op.operands → ev x = st.eval x) → z0z ρ ev a.eval o.op → Rel ρ st.mem st.next w → Does P o a w (y2b ρ cx.floor st st' v w)
 calm : (Zh o.op = .pure ∨ Zh o.op = .read) → ∀ (ρ : Rho) (a : Act) (w : World) (ev : Operand → AVal) (mem : Mem) (next : Nat), (∀ x, x ∈ o.op.operands → ev x = st.eval x) → z0z ρ ev a.eval o.op → Rel ρ mem next w →
  (∀ t y b ab, o.op = .load t y → x4w o.op ev = some b → Yb st.mem b = some ab → Yb mem b = some ab) → ∃ u, (execOp a.eval o).run P w = .ok (.value u) w ∧ Ze ρ v u
theorem x6a {op : Op} {ev : Operand → AVal} {x : AVal × Bool} (h : Vi P op ev = some x) : Zh op = .pure := by
 cases op with
 | call c =>
  obtain ⟨callee, args, argTypes⟩ := c
  cases callee with
  | builtin b => cases b <;> first | rfl | (simp [Vi, z6g] at h)
  | value f => simp [Vi] at h
  | invoke r m => rfl
 | _ => first | rfl | (simp [Vi] at h; done)
theorem y6i {S : Specs} {R : Runner} (hN : z4c P) (hS : Zu P S) (hRI : x3e R) (hR : ROk P R) {lift : Bool} {o : Oper} {cx : Ctx} {st st' : St} (hcx : cx.floor ≤ st.next) (h : z4h P S R lift o cx st = some st') :
  ∃ v stm, stm.put cx o.dst v = some st' ∧ stm.env = st.env ∧ Xp cx.floor st stm ∧ ((Zh o.op = .pure ∨ Zh o.op = .read) → stm.mem = st.mem ∧ stm.next = st.next) ∧
   (lift = true → Zh o.op = .call → ∀ b, b < st.next → Yb stm.mem b = Yb st.mem b) ∧
   (Zh o.op = .chain → ∀ b, b < st.next → y2c o.op st.eval ≠ some b → Yb stm.mem b = Yb st.mem b) ∧
   (Zh o.op = .alloc → v = .ptr st.next 0 ∧ ∃ t z, o.op = .alloc t ∧ Vo P t = some z ∧ stm = z6f st z t) ∧
   (st'.ob = true → w8t P cx o st stm v) := by
 unfold z4h at h
 split at h
 ·rename_i v b hp
  have hk := x6a hp
  split at h
  ·rename_i st1 h1
   obtain ⟨e1, e2, e3, e4⟩ := Xw h1
   refine ⟨v, st1, h, e1, Xp.same e2 e3 fun x => (e4 x).2, fun _ => ⟨e2, e3⟩, (fun _ hc => by rw [hk] at hc; cases hc), (fun hc => by rw [hk] at hc; cases hc), (fun hc => by rw [hk] at hc; cases hc), fun ho => ?_⟩
   obtain ⟨_, _, p3, _⟩ := Vn h
   rw [p3] at ho
   obtain ⟨rfl, ho1⟩ := e4 ho
   refine ⟨ho1, fun ρ a w ev hev hr hrel => ?_, fun _ ρ a w ev mem next hev hr hrel hag => ?_⟩
   ·have hr' : z0z ρ st.eval a.eval o.op := fun x hx => by rw [← hev x hx]; exact hr x hx
    obtain ⟨u, hu, hrun⟩ := z8a hp rfl hr'
    exact .inl ⟨ρ, u, w, hrun w, hu, by rw [e2, e3]; exact hrel, by rw [e2, e3]; exact Ev.refl _ _ _ _ _ hrel.dom⟩
   ·have hr' : z0z ρ st.eval a.eval o.op := fun x hx => by rw [← hev x hx]; exact hr x hx
    obtain ⟨u, hu, hrun⟩ := z8a hp rfl hr'
    exact ⟨u, hrun w, hu⟩
  ·cases h
 ·split at h
  ·rename_i v stm he
   obtain ⟨hinv, henv⟩ := z8e hRI he
   refine ⟨v, stm, h, henv, hinv, fun hk => ?_, fun hl hk b hb => ?_, fun hk b hb hn => y4f hk hb hn he, fun hk => ?_, fun ho => ?_⟩
   ·obtain ⟨dst, op, type, pos, after, guard⟩ := o
    simp only at hk he
    cases op with
    | load t x =>
     simp only [Xm] at he
     split at he
     ·rename_i hl
      obtain ⟨l1, l2, l3, l4⟩ := Qy hl
      simp only [Option.map_eq_some_iff, Prod.mk.injEq] at he
      obtain ⟨_, h1, _, rfl⟩ := he
      obtain ⟨_, e2, e3, _⟩ := Xw h1
      exact ⟨e2.trans l2, e3.trans l3⟩
     ·cases he
    | call c =>
     obtain ⟨callee, args, argTypes⟩ := c
     cases callee with
     | builtin b => cases b <;> first | (simp [Xm] at he; done) | (simp [Zh] at hk; done)
     | value f => simp [Zh] at hk
     | invoke r m => simp [Xm] at he
    | _ => first | (simp [Xm] at he; done) | (simp [Zh] at hk; done)
   ·obtain ⟨dst, op, type, pos, after, guard⟩ := o
    simp only at hk he
    cases op with
    | call c =>
     obtain ⟨callee, args, argTypes⟩ := c
     cases callee with
     | builtin b => cases b <;> first | (simp [Xm] at he; done) | (simp [Zh] at hk; done)
     | value f =>
      simp only [Xm] at he
      split at he
      ·exact (z3h hRI he).1.2 hl b hb
      ·exact (z3h hRI he).1.2 hl b hb
      ·cases he
     | invoke r m => simp [Xm] at he
    | _ => first | (simp [Xm] at he; done) | (simp [Zh] at hk; done)
   ·obtain ⟨dst, op, type, pos, after, guard⟩ := o
    simp only at hk he
    cases op with
    | alloc t =>
     simp only [Xm, Option.map_eq_some_iff, Prod.mk.injEq] at he
     obtain ⟨z, hz, rfl, rfl⟩ := he
     exact ⟨rfl, t, z, rfl, hz, rfl⟩
    | call c =>
     obtain ⟨callee, args, argTypes⟩ := c
     cases callee with
     | builtin b => cases b <;> first | (simp [Xm] at he; done) | (simp [Zh] at hk; done)
     | value f => simp [Zh] at hk
     | invoke r m => simp [Xm] at he
    | _ => first | (simp [Xm] at he; done) | (simp [Zh] at hk; done)
   ·obtain ⟨_, _, p3, _⟩ := Vn h
    rw [p3] at ho
    refine ⟨hinv.ob ho, fun ρ a w ev hev hr hrel => y1s hN hS hR hcx he ho hev hr hrel, fun hk ρ a w ev mem next hev hr hrel hag => ?_⟩
    obtain ⟨dst, op, type, pos, after, guard⟩ := o
    simp only at hk he hev hr hag
    cases op with
    | load t x =>
     simp only [Xm] at he
     split at he
     ·rename_i v' bb st0 hv
      obtain ⟨l1, l2, l3, l4⟩ := Qy hv
      simp only [Option.map_eq_some_iff, Prod.mk.injEq] at he
      obtain ⟨st1, h1, rfl, rfl⟩ := he
      obtain ⟨_, _, _, e4⟩ := Xw h1
      obtain ⟨rfl, hob0⟩ := e4 ho
      have hv := (l4 hob0).1
      have hx : x ∈ (Op.load t x).operands := by simp [Op.operands]
      have hl : z8d P mem t (ev x) = some (v', true) := by
       rw [hev x hx]
       have hag' : ∀ b ab, x4w (.load t x) st.eval = some b → Yb st.mem b = some ab → Yb mem b = some ab := fun b ab q1 q2 => hag t x b ab rfl (by simp only [x4w, hev x hx] at q1 ⊢; exact q1) q2
       unfold z8d at hv ⊢
       split at hv
       ·rename_i b sz r fo hb
        simp only [x4w, hb] at hag'
        split at hv
        ·rename_i ab hm
         rw [hag' b ab rfl hm]
         exact hv
        ·cases hv
       ·rename_i y hy
        unfold y8d at hv ⊢
        split at hv
        ·rename_i b off hb
         simp only [x4w, hb] at hag'
         split at hv
         ·rename_i ab hm
          rw [hag' b ab rfl hm]
          exact hv
         ·cases hv
        ·exact hv
        ·cases hv
      obtain ⟨z, hz, hrun⟩ := z4r hrel hl (hr x hx)
      exact ⟨z, by simp [execOp, hrun], hz⟩
     ·cases he
    | call c =>
     obtain ⟨callee, args, argTypes⟩ := c
     cases callee with
     | builtin b => cases b <;> first | (simp [Xm] at he; done) | (simp [Zh] at hk; done)
     | value f => simp [Zh] at hk
     | invoke r m => simp [Xm] at he
    | _ => first | (simp [Xm] at he; done) | (simp [Zh] at hk; done)
  ·cases h
theorem z1i {S : Specs} {R : Runner} {ops : Array Oper} {cx : Ctx} {x : Bool × Oper} {l : List (Bool × Oper)} {st : St} : z9j P S R ops cx (x :: l) st = (z4u P S R ops cx x st).bind (z9j P S R ops cx l) := by
 show (match Jt ops x.2 cx st with
  | none => none
  | some (true, st) => match z4h P S R x.1 x.2 cx st with
   | some st => z9j P S R ops cx l st
   | none => none
  | some (false, st) => match st.put cx x.2.dst (.tup []) with
   | some st => z9j P S R ops cx l st
   | none => none) = _
 unfold z4u
 cases h : Jt ops x.2 cx st with
 | none => rfl
 | some y =>
  obtain ⟨e, st1⟩ := y
  cases e with
  | true => simp only []; cases z4h P S R x.1 x.2 cx st1 <;> rfl
  | false => simp only []; cases st1.put cx x.2.dst (.tup []) <;> rfl
structure w1z (P : Program) (ops : Array Oper) (cx : Ctx) (x : Bool × Oper) (st st' : St) : Prop where
 inv : Xp cx.floor st st'
 stay : (Zh x.2.op = .pure ∨ Zh x.2.op = .read) → st'.mem = st.mem ∧ st'.next = st.next
 lift : x.1 = true → Zh x.2.op = .call → ∀ b, b < st.next → Yb st'.mem b = Yb st.mem b
 foot : st'.ob = true → Zh x.2.op = .chain → ∀ b, b < st.next → y2c x.2.op st.eval ≠ some b → Yb st'.mem b = Yb st.mem b
 alloc : Zh x.2.op = .alloc → x.2.guard = none → ∃ t z, x.2.op = .alloc t ∧ Vo P t = some z ∧ st'.mem = (z6f st z t).mem ∧ st'.next = (z6f st z t).next ∧ ∀ d, x.2.dst = some d → st'.tmp d = .ptr st.next 0
 slot : ∀ d, x.2.dst = some d → d < cx.n
 other : st'.ob = true → ∀ t, x.2.dst ≠ some t → st'.tmp t = st.tmp t
 does : st'.ob = true → ∀ (ρ : Rho) (a : Act) (w : World) (ev : Operand → AVal), a.tmps.size = cx.n → (∀ y, y ∈ x.2.op.operands → ev y = st.eval y) → (∀ d, Vs ops x.2 = some d → Ze ρ (st.tmp d) (a.tmps.getD d undef)) → z0z ρ ev a.eval x.2.op → Rel ρ st.mem st.next w →
  ∀ (K : Act → World → Prop) (Q : Exit → Act → World → Prop), (∀ ρ' u w', (∀ d, x.2.dst = some d → Ze ρ' (st'.tmp d) u) → Rel ρ' st'.mem st'.next w' → Ev ρ ρ' cx.floor st.mem st.next st'.mem st'.next w w' → K (a.put x.2.dst u) w') →
   if Region.wanted x.2 (yielded ops a.tmps) then x.2.wp P a w K Q else K (a.put x.2.dst undef) w
 calm : st'.ob = true → (Zh x.2.op = .pure ∨ Zh x.2.op = .read) → ∀ (ρ : Rho) (a : Act) (w : World) (ev : Operand → AVal) (mem : Mem) (next : Nat), a.tmps.size = cx.n → (∀ y, y ∈ x.2.op.operands → ev y = st.eval y) → (∀ d, Vs ops x.2 = some d → Ze ρ (st.tmp d) (a.tmps.getD d undef)) → z0z ρ ev a.eval x.2.op → Rel ρ mem next w →
  (∀ t y b ab, x.2.op = .load t y → x4w x.2.op ev = some b → Yb st.mem b = some ab → Yb mem b = some ab) → ∀ (K : Act → World → Prop) (Q : Exit → Act → World → Prop), (∀ u, (∀ d, x.2.dst = some d → Ze ρ (st'.tmp d) u) → K (a.put x.2.dst u) w) →
   if Region.wanted x.2 (yielded ops a.tmps) then x.2.wp P a w K Q else K (a.put x.2.dst undef) w
theorem z9c {S : Specs} {R : Runner} (hN : z4c P) (hS : Zu P S) (hRI : x3e R) (hR : ROk P R) {ops : Array Oper} {x : Bool × Oper} {cx : Ctx} {st st' : St} (hcx : cx.floor ≤ st.next) (h : z4u P S R ops cx x st = some st') :
  w1z P ops cx x st st' := by
 unfold z4u at h
 split at h
 ·cases h
 ·rename_i st1 hw
  obtain ⟨w1, w2, w3⟩ := Jz hw
  obtain ⟨v, stm, hp, henv, hinv, hstay, hlift, hfoot, halloc, hdo⟩ := y6i hN hS hRI hR (by rw [w2]; exact hcx) h
  obtain ⟨p1, p2, p3, p4⟩ := Vn hp
  have hput : ∀ d, x.2.dst = some d → st'.tmp d = v := fun d hd => by
   rcases p4 with ⟨e, _⟩ | ⟨d', e, _, he⟩
   ·rw [hd] at e; cases e
   ·rw [hd] at e
    obtain rfl := Option.some.inj e
    show T.get .undef st'.env d = v
    rw [he, T.get_set, if_pos rfl]
  have hi1 : Xp cx.floor st st1 := Xp.same w1 w2 fun ho => (w3 ho).1
  have hi2 : Xp cx.floor stm st' := Xp.same p1 p2 fun ho => by rw [← p3]; exact ho
  refine ⟨(hi1.trans hinv).trans hi2, fun hk => ?_, fun hl hk b hb => ?_, fun ho hk b hb hn => ?_, fun hk hg => ?_, fun d hd => ?_, fun ho t ht => ?_, fun ho ρ a w ev hsz hev hgr hr hrel K Q hK => ?_, fun ho hk ρ a w ev mem next hsz hev hgr hr hrel hag K Q hK => ?_⟩
  ·obtain ⟨s1, s2⟩ := hstay hk
   exact ⟨p1.trans (s1.trans w1), p2.trans (s2.trans w2)⟩
  ·rw [p1, hlift hl hk b (by rw [w2]; exact hb), w1]
  ·have ho1 : st1.ob = true := hinv.ob (by rw [← p3]; exact ho)
   have hsame : st1.eval = st.eval := by
    funext y
    cases y with
    | tmp t => exact (w3 ho1).2 t
    | _ => rfl
   rw [p1, hfoot hk b (by rw [w2]; exact hb) (by rw [hsame]; exact hn), w1]
  ·obtain ⟨e1, t, z, e2, e3, e4⟩ := halloc hk
   have hst : st1 = st := by
    obtain ⟨st0, hw0, _, _, _, hw1⟩ := Ua hw
    rw [hw1 (.inl hk)]
    unfold z4q at hw0
    rw [hg] at hw0
    simp only [Option.some.injEq, Prod.mk.injEq] at hw0
    exact hw0.2.symm
   subst hst
   exact ⟨t, z, e2, e3, by rw [p1, e4], by rw [p2, e4], fun d hd => by rw [hput d hd, e1]⟩
  ·rcases p4 with ⟨e, _⟩ | ⟨d', e, hlt, _⟩
   ·rw [hd] at e; cases e
   ·rw [hd] at e; obtain rfl := Option.some.inj e; exact hlt
  ·have ho1 : st1.ob = true := hinv.ob (by rw [← p3]; exact ho)
   rw [← (w3 ho1).2 t]
   show T.get .undef st'.env t = T.get .undef st1.env t
   rcases p4 with ⟨_, he⟩ | ⟨d, e, _, he⟩
   ·rw [he, henv]
   ·rw [he, henv, T.get_set, if_neg (by intro htd; subst htd; exact ht e)]
  ·have ho1 : st1.ob = true := hinv.ob (by rw [← p3]; exact ho)
   have hsame := (w3 ho1).2
   have hev' : ∀ y, st1.eval y = st.eval y := fun y => by cases y <;> first | rfl | exact hsame _
   rw [Vt hw ho1 hsz hgr, if_pos rfl]
   refine ((hdo ho).does ρ a w ev (fun y hy => by rw [hev' y]; exact hev y hy) hr (by rw [w1, w2]; exact hrel)).wp fun ρ' u w' hpost => ?_
   have he := hpost.ev
   rw [w1, w2] at he
   exact hK ρ' u w' (fun d hd => by rw [hput d hd]; exact hpost.val) (by rw [p1, p2]; exact hpost.rel) (by rw [p1, p2]; exact he)
  ·have ho1 : st1.ob = true := hinv.ob (by rw [← p3]; exact ho)
   have hsame := (w3 ho1).2
   have hev' : ∀ y, st1.eval y = st.eval y := fun y => by cases y <;> first | rfl | exact hsame _
   rw [Vt hw ho1 hsz hgr, if_pos rfl]
   obtain ⟨u, hrun, hu⟩ := (hdo ho).calm hk ρ a w ev mem next (fun y hy => by rw [hev' y]; exact hev y hy) hr hrel (fun t y b ab q1 q2 q3 => hag t y b ab q1 q2 (by rw [← w1]; exact q3))
   unfold Oper.wp
   rw [hrun]
   exact hK u fun d hd => by rw [hput d hd]; exact hu
 ·rename_i st1 hw
  obtain ⟨w1, w2, w3⟩ := Jz hw
  obtain ⟨p1, p2, p3, p4⟩ := Vn h
  have hput : ∀ d, x.2.dst = some d → st'.tmp d = .tup [] := fun d hd => by
   rcases p4 with ⟨e, _⟩ | ⟨d', e, _, he⟩
   ·rw [hd] at e; cases e
   ·rw [hd] at e
    obtain rfl := Option.some.inj e
    show T.get .undef st'.env d = .tup []
    rw [he, T.get_set, if_pos rfl]
  refine ⟨Xp.same (p1.trans w1) (p2.trans w2) fun ho => (w3 (by rw [← p3]; exact ho)).1, fun _ => ⟨p1.trans w1, p2.trans w2⟩, fun _ _ b _ => by rw [p1, w1], fun _ _ b _ _ => by rw [p1, w1], fun hk hg => ?_, fun d hd => ?_, fun ho t ht => ?_, fun ho ρ a w ev hsz hev hgr hr hrel K Q hK => ?_, fun ho hk ρ a w ev mem next hsz hev hgr hr hrel hag K Q hK => ?_⟩
  ·obtain ⟨st0, hw0, _⟩ := Ua hw
   unfold z4q at hw0
   rw [hg] at hw0
   simp at hw0
  ·rcases p4 with ⟨e, _⟩ | ⟨d', e, hlt, _⟩
   ·rw [hd] at e; cases e
   ·rw [hd] at e; obtain rfl := Option.some.inj e; exact hlt
  ·rw [← (w3 (by rw [← p3]; exact ho)).2 t]
   show T.get .undef st'.env t = T.get .undef st1.env t
   rcases p4 with ⟨_, he⟩ | ⟨d, e, _, he⟩
   ·rw [he]
   ·rw [he, T.get_set, if_neg (by intro htd; subst htd; exact ht e)]
  ·have ho1 : st1.ob = true := by rw [← p3]; exact ho
   rw [Vt hw ho1 hsz hgr, if_neg (by simp)]
   refine hK ρ undef w (fun d hd => by rw [hput d hd]; exact .tup [] #[] rfl fun i h1 _ => by simp at h1) ?_ ?_
   ·rw [p1, p2, w1, w2]; exact hrel
   ·rw [p1, p2, w1, w2]; exact Ev.refl _ _ _ _ _ hrel.dom
  ·have ho1 : st1.ob = true := by rw [← p3]; exact ho
   rw [Vt hw ho1 hsz hgr, if_neg (by simp)]
   exact hK undef fun d hd => by rw [hput d hd]; exact .tup [] #[] rfl fun i h1 _ => by simp at h1
def Fin (D : List Deferred) (ρ : Rho) (cx : Ctx) (st st' : St) (w : World) : Exit → Act → World → Prop := fun e a' w' =>
 e = .normal ∧ a'.defers = D ∧ ∃ ρ', Xq ρ' st'.env cx.n a'.tmps ∧ Rel ρ' st'.mem st'.next w' ∧ Ev ρ ρ' cx.floor st.mem st.next st'.mem st'.next w w'
end
end Go.Am
namespace Go.Am
section
variable {ops : Array Oper}
def z8m (ops : Array Oper) (S : Nat → Bool) : Prop := ∀ j o, ops[j]? = some o → S j = true → ∀ e ∈ o.after.toList, Region.binds .any e = true → S e.on = true
def y4n (S : Nat → Bool) (o : Oper) : Prop := ∀ e ∈ o.after.toList, Region.binds .any e = true → S e.on = true
def y0f (ops : Array Oper) (i : Nat) (o : Oper) : Prop := ∀ S, z8m ops S → y4n S o → S i = true
theorem y3u (acc : List Nat) (i : Nat) : ∀ (es : List Edge) (s : Nat), (es.foldl (fun s e => bif Region.binds .any e then s ||| (2 ^ e.on) ||| acc.getD e.on 0 else s) s).testBit i = true →
  s.testBit i = true ∨ ∃ e ∈ es, Region.binds .any e = true ∧ (e.on = i ∨ (acc.getD e.on 0).testBit i = true)
 | [], s, h => .inl h
 | e :: es, s, h => by
  simp only [List.foldl_cons] at h
  rcases y3u acc i es _ h with h | ⟨e', he', h1, h2⟩
  ·cases hb : Region.binds .any e with
   | false => rw [hb] at h; exact .inl h
   | true =>
    rw [hb, cond_true, Nat.testBit_or, Nat.testBit_or, Bool.or_eq_true, Bool.or_eq_true] at h
    rcases h with (h | h) | h
    ·exact .inl h
    ·rw [Nat.testBit_two_pow] at h
     exact .inr ⟨e, by simp, hb, .inl (by simpa using h)⟩
    ·exact .inr ⟨e, by simp, hb, .inr h⟩
  ·exact .inr ⟨e', by simp [he'], h1, h2⟩
theorem y3z (hord : ∀ (j : Nat) o, ops[j]? = some o → ∀ e ∈ o.after.toList, Region.binds .any e = true → e.on < j) : ∀ (l : List Oper) (acc : List Nat), acc.length + l.length = ops.size → (∀ k, l[k]? = ops[acc.length + k]?) →
  (∀ k o, k < acc.length → ops[k]? = some o → ∀ i, (acc.getD k 0).testBit i = true → i < k ∧ y0f ops i o) →
  ∀ k o, ops[k]? = some o → ∀ i, ((x7g l acc).getD k 0).testBit i = true → i < k ∧ y0f ops i o
 | [], acc, hlen, _, hacc, k, o, ho, i, h => by
  have hk : k < ops.size := (Array.getElem?_eq_some_iff.1 ho).1
  simp at hlen
  exact hacc k o (by omega) ho i h
 | x :: l, acc, hlen, hl, hacc, k, o, ho, i, h => by
  unfold x7g at h
  refine y3z hord l (acc ++ [x.after.toList.foldl (fun s e => bif Region.binds .any e then s ||| (2 ^ e.on) ||| acc.getD e.on 0 else s) 0]) (by simp at hlen ⊢; omega) (fun k => by
   have := hl (k + 1)
   simpa [Nat.add_assoc, Nat.add_comm 1 k] using this) (fun k' o' hk' ho' i' hi' => ?_) k o ho i h
  by_cases hlt : k' < acc.length
  ·refine hacc k' o' hlt ho' i' ?_
   rw [List.getD, List.getElem?_append_left hlt] at hi'
   exact hi'
  ·have hk2 : k' = acc.length := by simp at hk'; omega
   subst hk2
   have hx : ops[acc.length]? = some x := by simpa using (hl 0).symm
   rw [hx] at ho'
   obtain rfl := Option.some.inj ho'
   have hg : (acc ++ [x.after.toList.foldl (fun s e => bif Region.binds .any e then s ||| (2 ^ e.on) ||| acc.getD e.on 0 else s) 0]).getD acc.length 0 = x.after.toList.foldl (fun s e => bif Region.binds .any e then s ||| (2 ^ e.on) ||| acc.getD e.on 0 else s) 0 := by
    simp [List.getD]
   rw [hg] at hi'
   rcases y3u acc i' _ _ hi' with h0 | ⟨e, he, hb, h1⟩
   ·simp at h0
   ·have hlt' := hord _ _ hx e he hb
    rcases h1 with rfl | h1
    ·exact ⟨hlt', fun S _ hr => hr e he hb⟩
    ·have ho2 : ops[e.on]? = some (ops[e.on]'(by simp at hlen; omega)) := by simp
     obtain ⟨q1, q2⟩ := hacc e.on _ hlt' ho2 i' h1
     exact ⟨by omega, fun S hc hr => q2 S hc fun e' he' hb' => hc e.on _ ho2 (hr e he hb) e' he' hb'⟩
structure x7u (ops : Array Oper) : Prop where
 ord : ∀ (j : Nat) o, ops[j]? = some o → ∀ e ∈ o.after.toList, Region.binds .any e = true → e.on < j
 guard : ∀ (j : Nat) o, ops[j]? = some o → Zh o.op = .alloc → o.guard = none
 bits : ∀ (j : Nat) o, ops[j]? = some o → ∀ i, ((x7g ops.toList []).getD j 0).testBit i = true → i < j ∧ y0f ops i o
 pair : ∀ (i j : Nat) p o, i < j → ops[i]? = some p → ops[j]? = some o → y0f ops i o ∨ (p.apart ops o = true ∧ y6o (Zh p.op) (Zh o.op) = true ∧ (Zh o.op = .read → z3n ops i = true) ∧ (Zh p.op = .read → z3n ops j = true))
 dst : ∀ (i j : Nat) p o d, i < j → ops[i]? = some p → ops[j]? = some o → p.dst = some d → o.dst ≠ some d
 alloc : ∀ (i j : Nat) p o, i < j → ops[i]? = some p → ops[j]? = some o → Zh o.op = .alloc → p.apart ops o = true
theorem z1p (h : y3x ops = true) : x7u ops := by
 have hj : ∀ (j : Nat) o, ops[j]? = some o → (o.after.toList.all (fun e => !Region.binds .any e || Nat.ble (e.on + 1) j) = true ∧ (!(Zh o.op == .alloc) || o.guard.isNone) = true) ∧ ∀ (i : Nat) p, i < j → ops[i]? = some p → y2x ops i j p o = true := by
  intro j o ho
  have hlt : j < ops.size := (Array.getElem?_eq_some_iff.1 ho).1
  have := List.all_eq_true.1 h j (List.mem_range.2 hlt)
  rw [ho] at this
  simp only [Bool.and_eq_true] at this
  refine ⟨this.1, fun i p hi hp => ?_⟩
  have := List.all_eq_true.1 this.2 i (List.mem_range.2 hi)
  rwa [hp] at this
 have ord : ∀ (j : Nat) o, ops[j]? = some o → ∀ e ∈ o.after.toList, Region.binds .any e = true → e.on < j := by
  intro j o ho e he hb
  have := List.all_eq_true.1 (hj j o ho).1.1 e he
  rw [hb] at this
  exact Nat.le_of_ble_eq_true (by simpa using this)
 have bits := y3z ord ops.toList [] (by simp) (fun k => by simp) (fun k o hk => by simp at hk)
 refine ⟨ord, fun j o ho hk => ?_, fun j o ho i hb => bits j o ho i hb, fun i j p o hij hp ho => ?_, fun i j p o d hij hp ho hd => ?_, fun i j p o hij hp ho hk => ?_⟩
 ·have := (hj j o ho).1.2
  rw [hk] at this
  simpa using this
 ·have hpo := (hj j o ho).2 i p hij hp
  unfold y2x at hpo
  simp only [Bool.and_eq_true, Bool.or_eq_true] at hpo
  cases hb : ((x7g ops.toList []).getD j 0).testBit i with
  | true => exact .inl (bits j o ho i hb).2
  | false =>
   right
   rcases hpo.1.1 with h1 | ⟨h1, h2⟩
   ·rw [hb] at h1; cases h1
   ·have hi : i < ops.size := (Array.getElem?_eq_some_iff.1 hp).1
    have hjl : j < ops.size := (Array.getElem?_eq_some_iff.1 ho).1
    refine ⟨h1, h2, fun hr => ?_, fun hr => ?_⟩
    ·unfold z3n
     rw [List.any_eq_true]
     refine ⟨j, List.mem_range.2 hjl, ?_⟩
     rw [ho, Option.any_some, hr, hb]
     have : Nat.ble (i + 1) j = true := Nat.ble_eq_true_of_le hij
     rw [this]; simp
    ·unfold z3n
     rw [List.any_eq_true]
     refine ⟨i, List.mem_range.2 hi, ?_⟩
     rw [hp, Option.any_some, hr, hb]
     have : Nat.ble (i + 1) j = true := Nat.ble_eq_true_of_le hij
     rw [this]; simp
 ·have hpo := (hj j o ho).2 i p hij hp
  unfold y2x at hpo
  simp only [Bool.and_eq_true] at hpo
  have := hpo.1.2
  rw [hd] at this
  intro e
  rw [e] at this
  simp at this
 ·have hpo := (hj j o ho).2 i p hij hp
  unfold y2x at hpo
  simp only [Bool.and_eq_true] at hpo
  have := hpo.2
  rw [hk] at this
  simpa using this
theorem Wc {i : Nat} {o : Oper} (ho : ops[i]? = some o) : isAlloc ops i = true ↔ Zh o.op = .alloc := by
 unfold isAlloc
 rw [ho, Option.any_some]
 simp
theorem z3a (i : Nat) : i ∈ Zs ops ↔ i < ops.size := by
 unfold Zs
 simp only [List.mem_append, List.mem_filter, List.mem_range]
 cases isAlloc ops i <;> simp
theorem Yg : (Zs ops).length = ops.size := by
 unfold Zs
 rw [List.length_append, ← List.countP_eq_length_filter, ← List.countP_eq_length_filter]
 have := List.length_eq_countP_add_countP (isAlloc ops) (l := List.range ops.size)
 simp only [List.length_range] at this
 have e : (fun i => !isAlloc ops i) = (fun i => decide (¬ isAlloc ops i = true)) := by funext i; cases isAlloc ops i <;> rfl
 rw [e]; omega
def Ord (ops : Array Oper) (i j : Nat) : Prop := (isAlloc ops i = true ∧ isAlloc ops j = false) ∨ (isAlloc ops i = isAlloc ops j ∧ i < j)
theorem z2z : (Zs ops).Pairwise (Ord ops) := by
 unfold Zs
 rw [List.pairwise_append]
 have hr : (List.range ops.size).Pairwise (· < ·) := List.pairwise_lt_range
 refine ⟨?_, ?_, ?_⟩
 ·refine ((hr.filter _).imp_of_mem fun {a b} ha hb h => ?_)
  have h1 := (List.mem_filter.1 ha).2
  have h2 := (List.mem_filter.1 hb).2
  exact .inr ⟨h1.trans h2.symm, h⟩
 ·refine ((hr.filter _).imp_of_mem fun {a b} ha hb h => ?_)
  have h1 := (List.mem_filter.1 ha).2
  have h2 := (List.mem_filter.1 hb).2
  refine .inr ⟨?_, h⟩
  cases e1 : isAlloc ops a <;> cases e2 : isAlloc ops b <;> simp_all
 ·intro a ha b hb
  have h1 := (List.mem_filter.1 ha).2
  have h2 := (List.mem_filter.1 hb).2
  exact .inl ⟨h1, by simpa using h2⟩
theorem y1d {k1 k2 : Nat} (h : k1 < k2) (h2 : k2 < (Zs ops).length) : Ord ops ((Zs ops)[k1]'(by omega)) (Zs ops)[k2] :=
 List.pairwise_iff_getElem.1 z2z k1 k2 (by omega) h2 h
end
theorem y2y {P : Program} {S : Specs} {R : Runner} {ops : Array Oper} {cx : Ctx} : ∀ (l : List (Bool × Oper)) (st st' : St), z9j P S R ops cx l st = some st' →
  ∃ f : Nat → St, f 0 = st ∧ f l.length = st' ∧ ∀ (k : Nat) (h : k < l.length), z4u P S R ops cx l[k] (f k) = some (f (k + 1))
 | [], st, st', h => by
  have h : some st = some st' := h
  obtain rfl := Option.some.inj h
  exact ⟨fun _ => st, rfl, rfl, fun k h => by simp at h⟩
 | x :: l, st, st', h => by
  rw [z1i, Option.bind_eq_some_iff] at h
  obtain ⟨st1, h1, h2⟩ := h
  obtain ⟨f, f0, fn, fs⟩ := y2y l st1 st' h2
  refine ⟨fun k => match k with | 0 => st | k + 1 => f k, rfl, fn, fun k hk => ?_⟩
  cases k with
  | zero => simpa [f0] using h1
  | succ k => simpa using fs k (by simpa using hk)
def y4p (ops : Array Oper) (x y : Foot) : Prop := clash x.2.1 y.2.2 = true ∨ clash x.2.2 y.2.1 = true → ordered ops x.1 y.1 = true
theorem y7c {ops : Array Oper} {x y : Foot} (h : y9t ops x y = true) : y4p ops x y := by
 intro hc
 unfold y9t at h
 simp only [Bool.or_eq_true, Bool.not_eq_true', Bool.or_eq_false_iff] at h
 rcases h with ⟨h1, h2⟩ | h
 ·rcases hc with hc | hc
  ·rw [h1] at hc; cases hc
  ·rw [h2] at hc; cases hc
 ·exact h
theorem Kn {P : Program} {S : Specs} {R : Runner} {ops : Array Oper} {cx : Ctx} : ∀ (l : List (Nat × Bool × Oper)) (acc : List Foot) (st st' : St), z3l P S R ops cx l acc st = some st' →
  ∃ f : Nat → St, f 0 = st ∧ f l.length = st' ∧ (∀ (k : Nat) (h : k < l.length), z4u P S R ops cx l[k].2 (f k) = some (f (k + 1))) ∧
   (∀ (k : Nat) (h : k < l.length), ∀ y ∈ acc, y4p ops (z0u l[k] (f k).eval) y) ∧
   ∀ (q k : Nat) (hq : q < k) (h : k < l.length), y4p ops (z0u l[k] (f k).eval) (z0u (l[q]'(by omega)) (f q).eval)
 | [], acc, st, st', h => by
  have h : some st = some st' := h
  obtain rfl := Option.some.inj h
  exact ⟨fun _ => st, rfl, rfl, fun k h => by simp at h, fun k h => by simp at h, fun q k _ h => by simp at h⟩
 | x :: l, acc, st, st', h => by
  have h : (bif acc.all (y9t ops (z0u x st.eval)) then
    match z4u P S R ops cx x.2 st with
    | some st' => z3l P S R ops cx l (z0u x st.eval :: acc) st'
    | none => none
   else none) = some st' := h
  obtain ⟨hacc, h⟩ := Zc h
  split at h
  ·rename_i st1 h1
   obtain ⟨f, f0, fn, fs, fa, fp⟩ := Kn l _ st1 st' h
   refine ⟨fun k => match k with | 0 => st | k + 1 => f k, rfl, fn, fun k hk => ?_, fun k hk y hy => ?_, fun q k hqk hk => ?_⟩
   ·cases k with
    | zero => simpa [f0] using h1
    | succ k => simpa using fs k (by simpa using hk)
   ·cases k with
    | zero => exact y7c (List.all_eq_true.1 hacc y hy)
    | succ k => simpa using fa k (by simpa using hk) y (by simp [hy])
   ·cases k with
    | zero => omega
    | succ k =>
     cases q with
     | zero => simpa using fa k (by simpa using hk) (z0u x st.eval) (by simp)
     | succ q => simpa using fp q k (by omega) (by simpa using hk)
  ·cases h
end Go.Am
namespace Go.Am
theorem Ks (p q : Nat → Bool) (i : Nat) : ∀ (n : Nat), (∀ k, k ≠ i → q k = p k) → p i = true → q i = false → i < n → (List.range n).countP q + 1 = (List.range n).countP p
 | 0, _, _, _, h => absurd h (Nat.not_lt_zero _)
 | n + 1, hpq, hp, hq, h => by
  rw [List.range_succ, List.countP_append, List.countP_append]
  by_cases hi : i < n
  ·have := Ks p q i n hpq hp hq hi
   have e : q n = p n := hpq n (by omega)
   simp only [List.countP_cons, List.countP_nil, e]
   omega
  ·have hin : i = n := by omega
   subst hin
   have e : (List.range i).countP q = (List.range i).countP p := List.countP_congr fun k hk => by
    rw [hpq k (by have := List.mem_range.1 hk; omega)]
   simp [e, hp, hq]
section
variable {P : Program}
theorem Rel.unborn {ρ : Rho} {mem : Mem} {next : Nat} {w : World} (h : Rel ρ mem next w) (o : Option ABlk) : Rel ρ (Xa mem next o) (next + 1) w := by
 have ne : ∀ b l, ρ b = some l → b ≠ next := fun b l e => by have := h.dom b l e; omega
 refine ⟨fun b l e => by have := h.dom b l e; omega, fun b b' l l' e e' he hs hs' => ?_, fun b l ab e hm => ?_, h.old, fun b l e hs => h.sep b l e (by rwa [Zx _ _ (ne b l e)] at hs), h.real, fun b hb => by rw [Zx _ _ (by omega)]; exact h.bd b (by omega), fun j l e => Nat.lt_succ_of_lt (h.ldom j l e)⟩
 ·rw [Zx _ _ (ne b l e)] at hs
  rw [Zx _ _ (ne b' l' e')] at hs'
  exact h.inj b b' l l' e e' he hs hs'
 ·rw [Zx _ _ (ne b l e)] at hm
  exact h.blk b l ab e hm
theorem Rel.birth {ρ : Rho} {mem : Mem} {next : Nat} {w : World} (h : Rel ρ mem next w) {b : Nat} {cs : List AVal} {ty : TypeId} (hb : b < next) (hn : ρ b = none) (hm : Yb mem b = some ⟨cs, ty, none⟩) {vs : Array Value} (el : TypeId) (hv : We ρ cs vs) :
  Rel (Wu ρ b ⟨w.heap.size, 0, cs.length, vs.size⟩) mem next { w with heap := w.heap.push (.cells vs el) } := by
 have hle := Uh (l := ⟨w.heap.size, 0, cs.length, vs.size⟩) hn
 have hget : ∀ c l, Wu ρ b ⟨w.heap.size, 0, cs.length, vs.size⟩ c = some l → (c = b ∧ l = ⟨w.heap.size, 0, cs.length, vs.size⟩) ∨ (c ≠ b ∧ ρ c = some l) := fun c l e => by
  rw [Wq] at e
  by_cases hc : c = b
  ·rw [if_pos hc] at e; exact .inl ⟨hc, (Option.some.inj e).symm⟩
  ·rw [if_neg hc] at e; exact .inr ⟨hc, e⟩
 refine ⟨fun c l e => ?_, fun c c' l l' e e' hbl hs hs' => ?_, fun c l ab e hc => ?_, fun k o e => ?_, fun c l e => ?_, fun c l e => ?_, h.bd, h.ldom⟩
 ·rcases hget c l e with ⟨rfl, _⟩ | ⟨_, e⟩
  ·exact hb
  ·exact h.dom c l e
 ·rcases hget c l e with ⟨hc, hl⟩ | ⟨hc, e2⟩ <;> rcases hget c' l' e' with ⟨hc', hl'⟩ | ⟨hc', e2'⟩
  ·rw [hc, hc']
  ·have := h.real c' l' e2'; rw [hl] at hbl; simp at hbl; omega
  ·have := h.real c l e2; rw [hl'] at hbl; simp at hbl; omega
  ·exact h.inj c c' l l' e2 e2' hbl hs hs'
 ·rcases hget c l e with ⟨rfl, rfl⟩ | ⟨_, e⟩
  ·rw [hm] at hc
   obtain rfl := Option.some.inj hc
   have h1 := hv.1
   refine ⟨rfl, by simp only; omega, (fun A e => by cases e), vs, el, by simp, by simp, fun i hi => ?_⟩
   have h2 : i < vs.size := by simp only at hi; omega
   exact ⟨vs[i], by simp [Array.getElem?_eq_getElem h2], (hv.2 i hi h2).mono hle⟩
  ·refine (h.blk c l ab e hc).world hle ?_
   have := h.real c l e
   simp [Array.getElem?_push, Nat.ne_of_lt this]
 ·have hk := h.old k o e
  have : k < w.heap.size := (Array.getElem?_eq_some_iff.1 hk).1
  simp only [Array.getElem?_push, Nat.ne_of_lt this, if_false]
  exact hk
 ·intro hs
  rcases hget c l e with ⟨rfl, rfl⟩ | ⟨_, e⟩
  ·exact h.hold _ (Nat.le_refl _)
  ·exact h.sep c l e hs
 ·rcases hget c l e with ⟨rfl, rfl⟩ | ⟨_, e⟩
  ·simp
  ·have := h.real c l e; simp; omega
structure Reg (P : Program) (ops : Array Oper) (cx : Ctx) (st : St) (f : Nat → St) : Prop where
 chk : x7u ops
 f0 : f 0 = st
 hcx : cx.floor ≤ st.next
 ob : ∀ k, k ≤ ops.size → (f k).ob = true
 step : ∀ (k : Nat) (h : k < (Zs ops).length), w1z P ops cx (z3n ops (Zs ops)[k], ops.getD (Zs ops)[k] default) (f k) (f (k + 1))
 foot : ∀ (q k : Nat) (hq : q < k) (h : k < (Zs ops).length), y4p ops (z0u ((Zs ops)[k], z3n ops (Zs ops)[k], ops.getD (Zs ops)[k] default) (f k).eval) (z0u ((Zs ops)[q], z3n ops (Zs ops)[q], ops.getD (Zs ops)[q] default) (f q).eval)
variable {ops : Array Oper} {cx : Ctx} {st : St} {f : Nat → St}
def at_ (ops : Array Oper) (k : Nat) : Nat := (Zs ops).getD k ops.size
theorem w8r {k : Nat} (h : k < ops.size) : at_ ops k < ops.size := by
 have hl : k < (Zs ops).length := by rw [Yg]; exact h
 have : at_ ops k = (Zs ops)[k] := by simp [at_, hl]
 rw [this]
 exact (z3a _).1 (List.getElem_mem hl)
theorem Ut {k1 k2 : Nat} (h : k1 < k2) (h2 : k2 < ops.size) : Ord ops (at_ ops k1) (at_ ops k2) := by
 have hl2 : k2 < (Zs ops).length := by rw [Yg]; exact h2
 have hl1 : k1 < (Zs ops).length := by omega
 have := y1d h hl2
 simpa [at_, hl1, hl2] using this
theorem w8q {i : Nat} (h : i < ops.size) : ∃ k, k < ops.size ∧ at_ ops k = i := by
 obtain ⟨k, hk, e⟩ := List.getElem_of_mem ((z3a (ops := ops) i).2 h)
 exact ⟨k, by rw [Yg] at hk; exact hk, by simp [at_, hk, e]⟩
theorem Reg.step' (g : Reg P ops cx st f) {k : Nat} (h : k < ops.size) : ∃ o, ops[at_ ops k]? = some o ∧ w1z P ops cx (z3n ops (at_ ops k), o) (f k) (f (k + 1)) := by
 have hl : k < (Zs ops).length := by rw [Yg]; exact h
 have e : at_ ops k = (Zs ops)[k] := by simp [at_, hl]
 have hlt := w8r h
 refine ⟨ops[at_ ops k], by simp [hlt], ?_⟩
 have := g.step k hl
 rw [← e] at this
 have hd : ops.getD (at_ ops k) default = ops[at_ ops k] := by simp [hlt]
 rw [hd] at this
 exact this
theorem Reg.foot' (g : Reg P ops cx st f) {q k : Nat} (hq : q < k) (h : k < ops.size) {o x : Oper} (ho : ops[at_ ops k]? = some o) (hx : ops[at_ ops q]? = some x) :
  y4p ops (at_ ops k, x4w o.op (f k).eval, y2c o.op (f k).eval) (at_ ops q, x4w x.op (f q).eval, y2c x.op (f q).eval) := by
 have hl : k < (Zs ops).length := by rw [Yg]; exact h
 have hl2 : q < (Zs ops).length := by omega
 have e : at_ ops k = (Zs ops)[k] := by simp [at_, hl]
 have e2 : at_ ops q = (Zs ops)[q] := by simp [at_, hl2]
 have := g.foot q k hq hl
 rw [← e, ← e2] at this
 have hd : ops.getD (at_ ops k) default = o := by simp [ho]
 have hd2 : ops.getD (at_ ops q) default = x := by simp [hx]
 rw [hd, hd2] at this
 exact this
theorem Reg.next_le (g : Reg P ops cx st f) : ∀ {a b : Nat}, a ≤ b → b ≤ ops.size → (f a).next ≤ (f b).next := by
 intro a b hab hb
 induction b with
 | zero => have : a = 0 := by omega
           subst this; exact Nat.le_refl _
 | succ b ih =>
  by_cases e : a = b + 1
  ·subst e; exact Nat.le_refl _
  ·obtain ⟨o, _, s⟩ := g.step' (k := b) (by omega)
   exact Nat.le_trans (ih (by omega) (by omega)) s.inv.nxt
theorem Reg.bd (g : Reg P ops cx st f) (h0 : ∀ b, st.next ≤ b → Yb st.mem b = none) : ∀ {k : Nat}, k ≤ ops.size → ∀ b, (f k).next ≤ b → Yb (f k).mem b = none := by
 intro k hk
 induction k with
 | zero => rw [g.f0]; exact h0
 | succ k ih =>
  obtain ⟨o, _, s⟩ := g.step' (k := k) (by omega)
  exact s.inv.bd (ih (by omega))
theorem Reg.slot_stays (g : Reg P ops cx st f) {t : Tmp} : ∀ {a b : Nat}, a ≤ b → b ≤ ops.size → (∀ k o, a ≤ k → k < b → ops[at_ ops k]? = some o → o.dst ≠ some t) → (f b).tmp t = (f a).tmp t := by
 intro a b hab hb hno
 induction b with
 | zero => have : a = 0 := by omega
           subst this; rfl
 | succ b ih =>
  by_cases e : a = b + 1
  ·subst e; rfl
  ·obtain ⟨o, ho, s⟩ := g.step' (k := b) (by omega)
   rw [s.other (g.ob _ hb) t (hno b o (by omega) (by omega) ho)]
   exact ih (by omega) (by omega) fun k o h1 h2 => hno k o h1 (by omega)
def z4p (o : Oper) : Prop := Zh o.op = .chain ∨ Zh o.op = .call
theorem x1r (o : Oper) : Zh o.op = .pure ∨ Zh o.op = .read ∨ Zh o.op = .alloc ∨ z4p o := by
 unfold z4p
 cases Zh o.op <;> simp
theorem Reg.mem_stays (g : Reg P ops cx st f) : ∀ {a b : Nat}, a ≤ b → b ≤ ops.size → (∀ k o, a ≤ k → k < b → ops[at_ ops k]? = some o → Zh o.op = .pure ∨ Zh o.op = .read) → (f b).mem = (f a).mem ∧ (f b).next = (f a).next := by
 intro a b hab hb hno
 induction b with
 | zero => have : a = 0 := by omega
           subst this; exact ⟨rfl, rfl⟩
 | succ b ih =>
  by_cases e : a = b + 1
  ·subst e; exact ⟨rfl, rfl⟩
  ·obtain ⟨o, ho, s⟩ := g.step' (k := b) (by omega)
   obtain ⟨e1, e2⟩ := s.stay (hno b o (by omega) (by omega) ho)
   obtain ⟨e3, e4⟩ := ih (by omega) (by omega) fun k o h1 h2 => hno k o h1 (by omega)
   exact ⟨e1.trans e3, e2.trans e4⟩
theorem Reg.blk_stays (g : Reg P ops cx st f) {x : Nat} : ∀ {a b : Nat}, a ≤ b → b ≤ ops.size → x < (f a).next →
  (∀ k o, a ≤ k → k < b → ops[at_ ops k]? = some o → Zh o.op = .pure ∨ Zh o.op = .read ∨ (Zh o.op = .call ∧ z3n ops (at_ ops k) = true) ∨ (Zh o.op = .chain ∧ y2c o.op (f k).eval ≠ some x)) → Yb (f b).mem x = Yb (f a).mem x := by
 intro a b hab hb hx hno
 induction b with
 | zero => have : a = 0 := by omega
           subst this; rfl
 | succ b ih =>
  by_cases e : a = b + 1
  ·subst e; rfl
  ·obtain ⟨o, ho, s⟩ := g.step' (k := b) (by omega)
   have ih := ih (by omega) (by omega) fun k o h1 h2 => hno k o h1 (by omega)
   rw [← ih]
   rcases hno b o (by omega) (by omega) ho with h1 | h1 | ⟨h1, h2⟩ | ⟨h1, h2⟩
   ·rw [(s.stay (.inl h1)).1]
   ·rw [(s.stay (.inr h1)).1]
   ·exact s.lift h2 h1 x (Nat.lt_of_lt_of_le hx (g.next_le (by omega) (by omega)))
   ·exact s.foot (g.ob _ hb) h1 x (Nat.lt_of_lt_of_le hx (g.next_le (by omega) (by omega))) h2
structure Inv (P : Program) (D : List Deferred) (ops : Array Oper) (cx : Ctx) (st : St) (f : Nat → St) (ρ0 : Rho) (w0 : World) (S : Nat → Bool) (p : Nat) (ρ : Rho) (a : Act) (w : World) : Prop where
 closed : z8m ops S
 defers : a.defers = D
 tsz : a.tmps.size = cx.n
 done : ∀ k o d, k < ops.size → ops[at_ ops k]? = some o → S (at_ ops k) = true → o.dst = some d → Ze ρ ((f (k + 1)).tmp d) (a.tmps.getD d undef)
 undone : ∀ t, (∀ i o, ops[i]? = some o → S i = true → o.dst ≠ some t) → Ze ρ (st.tmp t) (a.tmps.getD t undef)
 ple : p ≤ ops.size
 past : ∀ k o, k < ops.size → ops[at_ ops k]? = some o → Zh o.op = .alloc → k < p
 chain : ∀ k o, k < ops.size → ops[at_ ops k]? = some o → z4p o → (S (at_ ops k) = true ↔ k < p)
 rel : Rel ρ (f p).mem (f p).next w
 ev : Ev ρ0 ρ cx.floor st.mem st.next (f p).mem (f p).next w0 w
 allocs : ∀ k o t z, k < ops.size → ops[at_ ops k]? = some o → o.op = .alloc t → Vo P t = some z → S (at_ ops k) = false → st.next ≤ (f k).next ∧ (f k).next < (f p).next ∧ ρ (f k).next = none ∧ Yb (f p).mem (f k).next = some ⟨z, t, none⟩
theorem z7b {o : Oper} {t : Tmp} (h : Operand.tmp t ∈ o.op.operands) : t ∈ o.looksAt ops := by
 unfold Oper.looksAt
 rw [List.mem_append]
 left
 rw [List.mem_filterMap]
 exact ⟨.tmp t, Array.mem_toList_iff.2 h, rfl⟩
theorem y0y {o : Oper} {d : Tmp} (h : Vs ops o = some d) : d ∈ o.looksAt ops := by
 unfold Oper.looksAt
 rw [List.mem_append]
 right
 unfold Vs at h
 cases hg : o.guard with
 | none => rw [hg] at h; cases h
 | some g =>
  obtain ⟨j, want⟩ := g
  rw [hg] at h
  simp only [Option.bind_some] at h
  simp [h]
theorem y7z (g : Reg P ops cx st f) {i : Nat} {o : Oper} (ho : ops[i]? = some o) (hk : Zh o.op = .alloc) : o.looksAt ops = [] := by
 unfold Oper.looksAt
 rw [g.chk.guard i o ho hk]
 obtain ⟨dst, op, type, pos, after, guard⟩ := o
 simp only at hk ⊢
 cases op with
 | alloc t => rfl
 | call c =>
  obtain ⟨callee, args, argTypes⟩ := c
  cases callee with
  | builtin b => cases b <;> cases hk
  | value f => cases hk
  | invoke r m => cases hk
 | _ => cases hk
section
variable {D : List Deferred} {ρ0 : Rho} {w0 : World} {S : Nat → Bool} {p : Nat} {ρ : Rho} {a : Act} {w : World}
theorem y1e (g : Reg P ops cx st f) {i j : Nat} {x y : Oper} {d : Tmp} (hi : ops[i]? = some x) (hj : ops[j]? = some y) (hx : x.dst = some d) (hy : y.dst = some d) : i = j := by
 rcases Nat.lt_trichotomy i j with h | h | h
 ·exact absurd hy (g.chk.dst i j x y d h hi hj hx)
 ·exact h
 ·exact absurd hx (g.chk.dst j i y x d h hj hi hy)
theorem Inv.looks (g : Reg P ops cx st f) (I : Inv P D ops cx st f ρ0 w0 S p ρ a w) {k : Nat} {o : Oper} (hk : k < ops.size) (ho : ops[at_ ops k]? = some o) (hns : S (at_ ops k) = false) (hready : y4n S o) {t : Tmp} (ht : t ∈ o.looksAt ops) :
  Ze ρ ((f k).tmp t) (a.tmps.getD t undef) := by
 by_cases hw : ∃ i x, ops[i]? = some x ∧ S i = true ∧ x.dst = some t
 ·obtain ⟨i, x, hx, hs, hd⟩ := hw
  have hil : i < ops.size := (Array.getElem?_eq_some_iff.1 hx).1
  obtain ⟨k', hk', rfl⟩ := w8q hil
  have hne : k' ≠ k := fun e => by rw [e, hns] at hs; cases hs
  have hlt : k' < k := by
   rcases Nat.lt_or_ge k' k with h | h
   ·exact h
   ·exfalso
    have hkk : k < k' := by omega
    rcases Nat.lt_trichotomy (at_ ops k) (at_ ops k') with hij | hij | hij
    ·rcases g.chk.pair _ _ _ _ hij ho hx with hf | ⟨hap, _⟩
     ·have := hf S I.closed (fun e he hb => I.closed _ _ hx hs e he hb)
      rw [hns] at this; cases this
     ·obtain ⟨_, _, h3⟩ := Oper.apart_spec hap
      exact h3 t hd ht
    ·rw [hij, hs] at hns; cases hns
    ·rcases Ut hkk hk' with ⟨h1, _⟩ | ⟨_, h2⟩
     ·rw [y7z g ho ((Wc ho).1 h1)] at ht; cases ht
     ·omega
  have hst : (f k).tmp t = (f (k' + 1)).tmp t := g.slot_stays (by omega) (by omega) fun q y h1 h2 hy hyd => by
   have := y1e g hx hy hd hyd
   have e : at_ ops k' = at_ ops q := this
   rcases Ut (ops := ops) (k1 := k') (k2 := q) (by omega) (by omega) with ⟨h1, h2⟩ | ⟨_, h2⟩
   ·rw [e, h2] at h1; cases h1
   ·omega
  rw [hst]
  exact I.done k' x t hk' hx hs hd
 ·have hno : ∀ i x, ops[i]? = some x → S i = true → x.dst ≠ some t := fun i x hx hs hd => hw ⟨i, x, hx, hs, hd⟩
  have hst : (f k).tmp t = (f 0).tmp t := g.slot_stays (Nat.zero_le _) (by omega) fun q y _ h2 hy hyd => by
   have hqs : S (at_ ops q) = false := by
    cases e : S (at_ ops q) with
    | false => rfl
    | true => exact absurd hyd (hno _ y hy e)
   rcases Nat.lt_trichotomy (at_ ops q) (at_ ops k) with hij | hij | hij
   ·rcases g.chk.pair _ _ _ _ hij hy ho with hf | ⟨hap, _⟩
    ·have := hf S I.closed hready
     rw [hqs] at this; cases this
    ·obtain ⟨h1, _, _⟩ := Oper.apart_spec hap
     exact h1 t hyd ht
   ·rcases Ut (ops := ops) h2 hk with ⟨h1, h3⟩ | ⟨_, h3⟩
    ·rw [hij, h3] at h1; cases h1
    ·omega
   ·rcases Ut (ops := ops) h2 hk with ⟨h1, _⟩ | ⟨_, h3⟩
    ·have hap := g.chk.alloc _ _ _ _ hij ho hy ((Wc hy).1 h1)
     obtain ⟨_, _, h3⟩ := Oper.apart_spec hap
     exact h3 t hyd ht
    ·omega
  rw [hst, g.f0]
  exact I.undone t hno
theorem Inv.operands (g : Reg P ops cx st f) (I : Inv P D ops cx st f ρ0 w0 S p ρ a w) {k : Nat} {o : Oper} (hk : k < ops.size) (ho : ops[at_ ops k]? = some o) (hns : S (at_ ops k) = false) (hready : y4n S o) : z0z ρ (f k).eval a.eval o.op := by
 intro x hx
 cases x with
 | tmp t => exact I.looks g hk ho hns hready (z7b hx)
 | const v => exact x5l v
 | global g => exact .undef _
 | func f => exact .fn f [] #[] rfl fun i h1 _ => by simp at h1
theorem Inv.slots (g : Reg P ops cx st f) (I : Inv P D ops cx st f ρ0 w0 S p ρ a w) {k : Nat} {o : Oper} (hk : k < ops.size) (ho : ops[at_ ops k]? = some o) (hns : S (at_ ops k) = false) {ρ' : Rho} (hle : ρ.le ρ') {u : Value}
  (hval : ∀ d, o.dst = some d → Ze ρ' ((f (k + 1)).tmp d) u) {S' : Nat → Bool} (hS : ∀ i, S' i = (S i || i == at_ ops k)) :
  (∀ k' x d, k' < ops.size → ops[at_ ops k']? = some x → S' (at_ ops k') = true → x.dst = some d → Ze ρ' ((f (k' + 1)).tmp d) ((a.put o.dst u).tmps.getD d undef)) ∧
  (∀ t, (∀ i x, ops[i]? = some x → S' i = true → x.dst ≠ some t) → Ze ρ' (st.tmp t) ((a.put o.dst u).tmps.getD t undef)) := by
 have other : ∀ t, o.dst ≠ some t → (a.put o.dst u).tmps.getD t undef = a.tmps.getD t undef := fun t ht => by
  cases hd : o.dst with
  | none => rfl
  | some d =>
   have hne : d ≠ t := fun e => ht (by rw [hd, e])
   simp [Act.put, Array.getElem?_setIfInBounds_ne hne]
 obtain ⟨_, ho', s⟩ := g.step' hk
 rw [ho] at ho'
 obtain rfl := Option.some.inj ho'
 refine ⟨fun k' x d hk' hx hs hd => ?_, fun t hno => ?_⟩
 ·by_cases hod : o.dst = some d
  ·have e := y1e g ho hx hod hd
   have hkk : k' = k := by
    rcases Nat.lt_trichotomy k' k with h | h | h
    ·rcases Ut (ops := ops) h hk with ⟨h1, h3⟩ | ⟨_, h3⟩
     ·rw [← e, h3] at h1; cases h1
     ·omega
    ·exact h
    ·rcases Ut (ops := ops) h hk' with ⟨h1, h3⟩ | ⟨_, h3⟩
     ·rw [e, h3] at h1; cases h1
     ·omega
   subst hkk
   have hlt : d < a.tmps.size := by rw [I.tsz]; exact s.slot d hod
   have : (a.put o.dst u).tmps.getD d undef = u := by simp [Act.put, hod, hlt]
   rw [this]
   exact hval d hod
  ·rw [other d hod]
   have hne : at_ ops k' ≠ at_ ops k := fun e => by
    rw [e, ho] at hx
    obtain rfl := Option.some.inj hx
    exact hod hd
   have hs' : S (at_ ops k') = true := by
    rw [hS] at hs
    simpa [hne] using hs
   exact (I.done k' x d hk' hx hs' hd).mono hle
 ·have hod : o.dst ≠ some t := hno _ o ho (by rw [hS]; simp)
  rw [other t hod]
  exact (I.undone t fun i x hx hs => hno i x hx (by rw [hS, hs]; rfl)).mono hle
theorem Inv.closes (I : Inv P D ops cx st f ρ0 w0 S p ρ a w) {i : Nat} {o : Oper} (ho : ops[i]? = some o) (hready : y4n S o) {S' : Nat → Bool} (hS : ∀ j, S' j = (S j || j == i)) : z8m ops S' := by
 intro j x hx hs e he hb
 rw [hS] at hs ⊢
 by_cases hj : j = i
 ·subst hj
  rw [ho] at hx
  obtain rfl := Option.some.inj hx
  rw [hready e he hb]; rfl
 ·have : S j = true := by simpa [hj] using hs
  rw [I.closed j x hx this e he hb]; rfl
theorem Inv.between (g : Reg P ops cx st f) (I : Inv P D ops cx st f ρ0 w0 S p ρ a w) {k : Nat} {o : Oper} (hk : k < ops.size) (ho : ops[at_ ops k]? = some o) (hns : S (at_ ops k) = false) (hready : y4n S o) (hread : Zh o.op = .read) {b : Nat} (hb : x4w o.op (f k).eval = some b) :
  (∀ q x, p ≤ q → q < k → ops[at_ ops q]? = some x → Zh x.op = .pure ∨ Zh x.op = .read ∨ (Zh x.op = .call ∧ z3n ops (at_ ops q) = true) ∨ (Zh x.op = .chain ∧ y2c x.op (f q).eval ≠ some b)) ∧
  (∀ q x, k ≤ q → q < p → ops[at_ ops q]? = some x → Zh x.op = .pure ∨ Zh x.op = .read ∨ (Zh x.op = .call ∧ z3n ops (at_ ops q) = true) ∨ (Zh x.op = .chain ∧ y2c x.op (f q).eval ≠ some b)) := by
 have nal : isAlloc ops (at_ ops k) = false := by
  cases e : isAlloc ops (at_ ops k) with
  | false => rfl
  | true => have := (Wc ho).1 e; rw [hread] at this; cases this
 constructor
 ·intro q x h1 h2 hx
  rcases x1r x with h | h | h | h
  ·exact .inl h
  ·exact .inr (.inl h)
  ·have := I.past q x (by omega) hx h; omega
  ·have hqs : S (at_ ops q) = false := by
    cases e : S (at_ ops q) with
    | false => rfl
    | true => have := (I.chain q x (by omega) hx h).1 e; omega
   have hlt : at_ ops q < at_ ops k := by
    rcases Ut (ops := ops) h2 hk with ⟨h3, _⟩ | ⟨_, h3⟩
    ·have := I.past q x (by omega) hx ((Wc hx).1 h3); omega
    ·exact h3
   rcases g.chk.pair _ _ _ _ hlt hx ho with hf | ⟨_, hkd, hl, _⟩
   ·have := hf S I.closed hready
    rw [hqs] at this; cases this
   ·rcases h with h | h
    ·refine .inr (.inr (.inr ⟨h, fun hw => ?_⟩))
     have := g.foot' h2 hk ho hx (.inl (by rw [hb, hw]; exact Nat.beq_refl b))
     unfold ordered at this
     simp only [Bool.or_eq_true] at this
     rcases this with this | this
     ·have := (g.chk.bits _ _ hx _ this).1; omega
     ·have := (g.chk.bits _ _ ho _ this).2 S I.closed hready
      rw [hqs] at this; cases this
    ·exact .inr (.inr (.inl ⟨h, hl hread⟩))
 ·intro q x h1 h2 hx
  have hp := I.ple
  rcases x1r x with h | h | h | h
  ·exact .inl h
  ·exact .inr (.inl h)
  ·by_cases hqk : q = k
   ·subst hqk; rw [ho] at hx; obtain rfl := Option.some.inj hx; rw [hread] at h; cases h
   ·rcases Ut (ops := ops) (k1 := k) (k2 := q) (by omega) (by omega) with ⟨h3, _⟩ | ⟨h3, _⟩
    ·rw [nal] at h3; cases h3
    ·rw [nal, (Wc hx).2 h] at h3; cases h3
  ·have hqs : S (at_ ops q) = true := (I.chain q x (by omega) hx h).2 h2
   have hne : q ≠ k := fun e => by rw [e, hns] at hqs; cases hqs
   have hlt : at_ ops k < at_ ops q := by
    rcases Ut (ops := ops) (k1 := k) (k2 := q) (by omega) (by omega) with ⟨h3, _⟩ | ⟨_, h3⟩
    ·rw [nal] at h3; cases h3
    ·exact h3
   rcases g.chk.pair _ _ _ _ hlt ho hx with hf | ⟨_, hkd, _, hl⟩
   ·have := hf S I.closed fun e he hb => I.closed _ _ hx hqs e he hb
    rw [hns] at this; cases this
   ·rcases h with h | h
    ·refine .inr (.inr (.inr ⟨h, fun hw => ?_⟩))
     have := g.foot' (q := k) (k := q) (by omega) (by omega) hx ho (.inr (by rw [hb, hw]; exact Nat.beq_refl b))
     unfold ordered at this
     simp only [Bool.or_eq_true] at this
     rcases this with this | this
     ·have := (g.chk.bits _ _ ho _ this).1; omega
     ·have := (g.chk.bits _ _ hx _ this).2 S I.closed fun e he hb => I.closed _ _ hx hqs e he hb
      rw [hns] at this; cases this
    ·exact .inr (.inr (.inl ⟨h, hl hread⟩))
theorem Inv.next_chain (g : Reg P ops cx st f) (I : Inv P D ops cx st f ρ0 w0 S p ρ a w) {k : Nat} {o : Oper} (hk : k < ops.size) (ho : ops[at_ ops k]? = some o) (hns : S (at_ ops k) = false) (hready : y4n S o) (hch : z4p o) :
  p ≤ k ∧ (∀ q x, q < ops.size → ops[at_ ops q]? = some x → z4p x → (S (at_ ops q) = true ↔ q < k)) := by
 have nal : isAlloc ops (at_ ops k) = false := by
  cases e : isAlloc ops (at_ ops k) with
  | false => rfl
  | true => have := (Wc ho).1 e; rcases hch with h | h <;> rw [h] at this <;> cases this
 have key : ∀ q x, q < ops.size → ops[at_ ops q]? = some x → z4p x → (S (at_ ops q) = true ↔ q < k) := by
  intro q x hq hx hxc
  have nalx : isAlloc ops (at_ ops q) = false := by
   cases e : isAlloc ops (at_ ops q) with
   | false => rfl
   | true => have := (Wc hx).1 e; rcases hxc with h | h <;> rw [h] at this <;> cases this
  have nok : ∀ (x y : Oper), z4p x → z4p y → y6o (Zh x.op) (Zh y.op) = false := by
   intro x y hx hy
   rcases hx with h | h <;> rcases hy with h' | h' <;> rw [h, h'] <;> rfl
  constructor
  ·intro hs
   rcases Nat.lt_trichotomy q k with h | h | h
   ·exact h
   ·subst h; rw [hns] at hs; cases hs
   ·exfalso
    have hlt : at_ ops k < at_ ops q := by
     rcases Ut (ops := ops) h hq with ⟨h3, _⟩ | ⟨_, h3⟩
     ·rw [nal] at h3; cases h3
     ·exact h3
    rcases g.chk.pair _ _ _ _ hlt ho hx with hf | ⟨_, hkd, _⟩
    ·have := hf S I.closed fun e he hb => I.closed _ _ hx hs e he hb
     rw [hns] at this; cases this
    ·rw [nok o x hch hxc] at hkd; cases hkd
  ·intro h
   have hlt : at_ ops q < at_ ops k := by
    rcases Ut (ops := ops) h hk with ⟨h3, _⟩ | ⟨_, h3⟩
    ·rw [nalx] at h3; cases h3
    ·exact h3
   rcases g.chk.pair _ _ _ _ hlt hx ho with hf | ⟨_, hkd, _⟩
   ·exact hf S I.closed hready
   ·rw [nok x o hxc hch] at hkd; cases hkd
 refine ⟨?_, key⟩
 rcases Nat.lt_or_ge k p with h | h
 ·have := (I.chain k o hk ho hch).2 h
  rw [hns] at this; cases this
 ·exact h
end
end
end Go.Am
namespace Go.Am
section
variable {P : Program} {D : List Deferred} {ops : Array Oper} {cx : Ctx} {st : St} {f : Nat → St}
theorem x7i {ρ : Rho} {o : Oper} {t : TypeId} {z : List AVal} (ho : o.op = .alloc t) (hz : Vo P t = some z) (a : Act) (w : World) :
  ∃ vs : Array Value, We ρ z vs ∧ (execOp a.eval o).run P w = .ok (.value (.pointer (some ⟨w.heap.size, 0, none⟩))) { w with heap := w.heap.push (.cells vs t) } := by
 obtain ⟨dst, op, type, pos, after, guard⟩ := o
 simp only at ho
 subst ho
 obtain ⟨_, zv, _, _, hzr, hzv⟩ := Xh (ρ := ρ) hz
 exact ⟨zv.cells, hzr, by simp [execOp, Instr.alloc, hzv, newVar, newRow]⟩
theorem w1d (g : Reg P ops cx st f) {ρ0 : Rho} {w0 : World} (hout : ∀ i, cx.n ≤ i → T.get .undef st.env i = .undef) (hbd : ∀ b, st.next ≤ b → Yb st.mem b = none) : ∀ (fuel : Nat) (listed : Array Bool) (p : Nat) (ρ : Rho) (a : Act) (w : World), listed.size = ops.size →
  (List.range ops.size).countP (fun i => !listed.getD i false) = fuel → Inv P D ops cx st f ρ0 w0 (fun i => listed.getD i false) p ρ a w → wpAny P .any ops (Fin D ρ0 cx st (f ops.size) w0) fuel listed a w := by
 have someReady : ∀ listed : Array Bool, listed.size = ops.size → ∀ i, i < ops.size → listed.getD i false = false → ∃ j, j ∈ Region.ready .any ops listed := by
  intro listed hsz i
  induction i using Nat.strongRecOn with
  | _ i ih =>
   intro hi hl
   by_cases h : ∃ e ∈ (ops[i]).after.toList, Region.binds .any e = true ∧ listed.getD e.on false = false
   ·obtain ⟨e, he, hb, hf⟩ := h
    have hlt := g.chk.ord i ops[i] (by simp [hi]) e he hb
    exact ih e.on hlt (by omega) hf
   ·refine ⟨i, mem_ready.2 ⟨?_, ops[i], by simp [hi], fun e he hb => ?_⟩⟩
    ·have : i < listed.size := by omega
     simpa [this] using hl
    ·cases hf : listed.getD e.on false with
     | true => rfl
     | false => exact absurd ⟨e, Array.mem_toList_iff.2 he, hb, hf⟩ h
 intro fuel
 induction fuel with
 | zero =>
  intro listed p ρ a w hsz hcnt I
  have hall : ∀ i, i < ops.size → listed.getD i false = true := by
   intro i hi
   have := List.countP_eq_zero.1 hcnt i (List.mem_range.2 hi)
   simpa using this
  refine ⟨?_, rfl, I.defers, ρ, ?_, ?_, ?_⟩
  ·cases hr : Region.ready .any ops listed with
   | nil => rfl
   | cons j r =>
    have hj : j ∈ Region.ready .any ops listed := by rw [hr]; simp
    obtain ⟨h1, o, ho, _⟩ := mem_ready.1 hj
    have hjl : j < ops.size := (Array.getElem?_eq_some_iff.1 ho).1
    have := hall j hjl
    have hj2 : j < listed.size := by omega
    simp [hj2] at h1 this
    rw [h1] at this; cases this
  ·refine ⟨I.tsz, fun t => ?_, fun i hi => ?_⟩
   ·by_cases hw : ∃ (i : Nat) (x : Oper), ops[i]? = some x ∧ x.dst = some t
    ·obtain ⟨i, x, hx, hd⟩ := hw
     have hil : i < ops.size := (Array.getElem?_eq_some_iff.1 hx).1
     obtain ⟨k, hk, rfl⟩ := w8q hil
     have hst : (f ops.size).tmp t = (f (k + 1)).tmp t := g.slot_stays (by omega) (Nat.le_refl _) fun q y h1 h2 hy hyd => by
      have e : at_ ops k = at_ ops q := y1e g hx hy hd hyd
      rcases Ut (ops := ops) (k1 := k) (k2 := q) (by omega) h2 with ⟨h3, h4⟩ | ⟨_, h4⟩
      ·rw [e, h4] at h3; cases h3
      ·omega
     show Ze ρ ((f ops.size).tmp t) _
     rw [hst]
     exact I.done k x t hk hx (hall _ hil) hd
    ·have hst : (f ops.size).tmp t = (f 0).tmp t := g.slot_stays (Nat.zero_le _) (Nat.le_refl _) fun q y _ h2 hy hyd => hw ⟨_, y, hy, hyd⟩
     show Ze ρ ((f ops.size).tmp t) _
     rw [hst, g.f0]
     exact I.undone t fun i x hx _ hd => hw ⟨i, x, hx, hd⟩
   ·have hst : (f ops.size).tmp i = (f 0).tmp i := g.slot_stays (Nat.zero_le _) (Nat.le_refl _) fun q y _ h2 hy hyd => by
     obtain ⟨o, ho, s⟩ := g.step' h2
     rw [hy] at ho
     obtain rfl := Option.some.inj ho
     exact absurd hi (Nat.not_le_of_lt (s.slot i hyd))
    show (f ops.size).tmp i = _
    rw [hst, g.f0]
    exact hout i hi
  ·obtain ⟨e1, e2⟩ := g.mem_stays I.ple (Nat.le_refl _) fun k o h1 h2 ho => by
    rcases x1r o with h | h | h | h
    ·exact .inl h
    ·exact .inr h
    ·have := I.past k o h2 ho h; omega
    ·have := (I.chain k o h2 ho h).1 (hall _ (w8r h2)); omega
   rw [e1, e2]; exact I.rel
  ·obtain ⟨e1, e2⟩ := g.mem_stays I.ple (Nat.le_refl _) fun k o h1 h2 ho => by
    rcases x1r o with h | h | h | h
    ·exact .inl h
    ·exact .inr h
    ·have := I.past k o h2 ho h; omega
    ·have := (I.chain k o h2 ho h).1 (hall _ (w8r h2)); omega
   rw [e1, e2]; exact I.ev
 | succ fuel ih =>
  intro listed p ρ a w hsz hcnt I
  refine ⟨fun hr => ?_, fun i hi => ?_⟩
  ·exfalso
   have : ∃ i, i < ops.size ∧ listed.getD i false = false := by
    have hpos : 0 < (List.range ops.size).countP (fun i => !listed.getD i false) := by omega
    obtain ⟨i, hi, h⟩ := List.countP_pos_iff.1 hpos
    exact ⟨i, List.mem_range.1 hi, by simpa using h⟩
   obtain ⟨i, hi, h⟩ := this
   obtain ⟨j, hj⟩ := someReady listed hsz i hi h
   rw [hr] at hj; cases hj
  ·obtain ⟨hun, o, ho, hafter⟩ := mem_ready.1 hi
   have hil : i < ops.size := (Array.getElem?_eq_some_iff.1 ho).1
   obtain ⟨k, hk, rfl⟩ := w8q hil
   have hil2 : at_ ops k < listed.size := by omega
   have hns : listed.getD (at_ ops k) false = false := by simpa [hil2] using hun
   have hready : y4n (fun i => listed.getD i false) o := fun e he hb => hafter e (Array.mem_toList_iff.1 he) hb
   have hS : ∀ j, (listed.setIfInBounds (at_ ops k) true).getD j false = (listed.getD j false || j == at_ ops k) := by
    intro j
    by_cases hj : j = at_ ops k
    ·subst hj; simp [hil2]
    ·have : (j == at_ ops k) = false := by simpa using hj
     simp [this, Array.getElem?_setIfInBounds_ne (Ne.symm hj)]
   have hcnt' : (List.range ops.size).countP (fun i => !(listed.setIfInBounds (at_ ops k) true).getD i false) = fuel := by
    have := Ks (fun i => !listed.getD i false) (fun i => !(listed.setIfInBounds (at_ ops k) true).getD i false) (at_ ops k) ops.size (fun j hj => by
     rw [hS]; simp [hj]) (by simp only [hns]; rfl) (by rw [hS]; simp) hil
    omega
   have hsz' : (listed.setIfInBounds (at_ ops k) true).size = ops.size := by simpa using hsz
   have hclosed := I.closes ho hready hS
   obtain ⟨o', ho', s⟩ := g.step' hk
   rw [ho] at ho'
   obtain rfl := Option.some.inj ho'
   have hops := I.operands g hk ho hns hready
   have hguard : ∀ d, Vs ops o = some d → Ze ρ ((f k).tmp d) (a.tmps.getD d undef) := fun d hd => I.looks g hk ho hns hready (y0y hd)
   have hob := g.ob (k + 1) (by omega)
   have finish : ∀ {q : Prop}, (if Region.wanted o (yielded ops a.tmps) then o.wp P a w (wpAny P .any ops (Fin D ρ0 cx st (f ops.size) w0) fuel (listed.setIfInBounds (at_ ops k) true)) (Fin D ρ0 cx st (f ops.size) w0) else wpAny P .any ops (Fin D ρ0 cx st (f ops.size) w0) fuel (listed.setIfInBounds (at_ ops k) true) (a.put o.dst undef) w) →
     wpOp P ops (Fin D ρ0 cx st (f ops.size) w0) (at_ ops k) (wpAny P .any ops (Fin D ρ0 cx st (f ops.size) w0) fuel (listed.setIfInBounds (at_ ops k) true)) a w := by
    intro _ h
    unfold wpOp
    rw [ho]
    simp only
    split
    ·rename_i hw; rw [if_pos hw] at h; exact .inl h
    ·rename_i hw; rw [if_neg hw] at h; exact h
   have calm : (Zh o.op = .pure ∨ Zh o.op = .read) → wpOp P ops (Fin D ρ0 cx st (f ops.size) w0) (at_ ops k) (wpAny P .any ops (Fin D ρ0 cx st (f ops.size) w0) fuel (listed.setIfInBounds (at_ ops k) true)) a w := by
    intro hkd
    refine finish (q := True) (s.calm hob hkd ρ a w (f k).eval (f p).mem (f p).next I.tsz (fun _ _ => rfl) hguard hops I.rel ?_ _ _ fun u hval => ?_)
    ·intro t y b ab hop hrd hm
     have hread : Zh o.op = .read := by rw [hop]; rfl
     obtain ⟨b1, b2⟩ := I.between g hk ho hns hready hread hrd
     have hρ : ∃ l, ρ b = some l := by
      have := hops y (by rw [hop]; simp [Op.operands])
      rw [hop] at hrd
      simp only [x4w] at hrd
      generalize a.eval y = uy at this
      split at hrd
      ·rename_i hy
       rw [hy] at this
       obtain rfl := Option.some.inj hrd
       cases this with
       | ptr _ _ l h => exact ⟨l, h⟩
      ·rename_i hy
       rw [hy] at this
       obtain rfl := Option.some.inj hrd
       cases this with
       | epa _ _ _ _ l h => exact ⟨l, h⟩
      ·cases hrd
     obtain ⟨l, hl⟩ := hρ
     rcases Nat.le_total p k with hpk | hpk
     ·have := g.blk_stays (x := b) hpk (by omega) (I.rel.dom b l hl) b1
      rw [← this]; exact hm
     ·have hbn : b < (f k).next := by
       rcases Nat.lt_or_ge b (f k).next with h | h
       ·exact h
       ·rw [g.bd hbd (by omega) b h] at hm; cases hm
      have := g.blk_stays (x := b) hpk I.ple hbn b2
      rw [this]; exact hm
    ·obtain ⟨d1, d2⟩ := I.slots g hk ho hns (Rho.le_refl ρ) hval hS
     refine ih _ p ρ _ w hsz' hcnt' ⟨hclosed, by rw [Act.put_defers']; exact I.defers, by cases h : o.dst <;> simp [Act.put, I.tsz], d1, d2, I.ple, I.past, fun q x hq hx hc => ?_, I.rel, I.ev, fun q x t z hq hx hop hz hs => ?_⟩
     ·have hne : at_ ops q ≠ at_ ops k := fun e => by
       rw [e, ho] at hx
       obtain rfl := Option.some.inj hx
       rcases hc with h | h <;> rcases hkd with h' | h' <;> rw [h] at h' <;> cases h'
      rw [hS]
      simpa [hne] using I.chain q x hq hx hc
     ·rw [hS] at hs
      simp only [Bool.or_eq_false_iff] at hs
      exact I.allocs q x t z hq hx hop hz hs.1
   rcases x1r o with hkd | hkd | hkd | hkd
   ·exact calm (.inl hkd)
   ·exact calm (.inr hkd)
   ·-- a variable is made
    obtain ⟨t, z, hop, hz, _, _, hptr⟩ := s.alloc hkd (g.chk.guard _ o ho hkd)
    obtain ⟨l1, l2, l3, l4⟩ := I.allocs k o t z hk ho hop hz hns
    obtain ⟨vs, hvs, hrun⟩ := x7i (P := P) (ρ := ρ) hop hz a w
    have hrel' := I.rel.birth l2 l3 l4 t hvs
    refine finish (q := True) ?_
    rw [if_pos (by unfold Region.wanted; rw [g.chk.guard _ o ho hkd])]
    unfold Oper.wp
    rw [hrun]
    have hle : ρ.le (Wu ρ (f k).next ⟨w.heap.size, 0, z.length, vs.size⟩) := Uh l3
    obtain ⟨d1, d2⟩ := I.slots g hk ho hns hle (u := .pointer (some ⟨w.heap.size, 0, none⟩)) (fun d hd => by
     rw [hptr d hd]
     exact .ptr _ 0 ⟨w.heap.size, 0, z.length, vs.size⟩ (by simp [Wu])) hS
    have ev' : Ev ρ0 (Wu ρ (f k).next ⟨w.heap.size, 0, z.length, vs.size⟩) cx.floor st.mem st.next (f p).mem (f p).next w0 { w with heap := w.heap.push (.cells vs t) } := by
     have e := I.ev
     refine ⟨Rho.le_trans e.ext hle, fun b hb => ?_, e.nxt, e.unborn, fun q ob hq hf => ?_, fun b l hb hl => ?_, ?_, e.os, e.tape, e.output, e.still⟩
     ·rw [← e.new b hb]; rw [Wq, if_neg (by omega)]
     ·have := e.frame q ob hq hf
      have hlt : q < w.heap.size := (Array.getElem?_eq_some_iff.1 this).1
      simp only [Array.getElem?_push, Nat.ne_of_lt hlt, if_false]
      exact this
     ·rw [Wq] at hl
      by_cases hbk : b = (f k).next
      ·rw [if_pos hbk] at hl
       obtain rfl := Option.some.inj hl
       exact .inl e.size
      ·rw [if_neg hbk] at hl; exact e.fresh b l hb hl
     ·have := e.size; simp; omega
    refine ih _ p _ _ _ hsz' hcnt' ⟨hclosed, by rw [Act.put_defers']; exact I.defers, by cases h : o.dst <;> simp [Act.put, I.tsz], d1, d2, I.ple, I.past, fun q x hq hx hc => ?_, hrel', ev', fun q x t' z' hq hx hop' hz' hs => ?_⟩
    ·have hne : at_ ops q ≠ at_ ops k := fun e => by
      rw [e, ho] at hx
      obtain rfl := Option.some.inj hx
      rcases hc with h | h <;> rw [h] at hkd <;> cases hkd
     rw [hS]
     simpa [hne] using I.chain q x hq hx hc
    ·rw [hS] at hs
     simp only [Bool.or_eq_false_iff] at hs
     obtain ⟨m1, m2, m3, m4⟩ := I.allocs q x t' z' hq hx hop' hz' hs.1
     refine ⟨m1, m2, ?_, m4⟩
     have hne : (f q).next ≠ (f k).next := by
      have hqk : q ≠ k := fun e => by rw [e] at hs; simp at hs
      have up : ∀ q x t z, q < ops.size → ops[at_ ops q]? = some x → x.op = .alloc t → Vo P t = some z → (f (q + 1)).next = (f q).next + 1 := by
       intro q x t z hq hx hop hz
       obtain ⟨x', hx', s'⟩ := g.step' hq
       rw [hx] at hx'
       obtain rfl := Option.some.inj hx'
       have hkx : Zh x.op = .alloc := by rw [hop]; rfl
       obtain ⟨_, _, _, _, _, h6, _⟩ := s'.alloc hkx (g.chk.guard _ x hx hkx)
       exact h6
      rcases Nat.lt_trichotomy q k with h | h | h
      ·have h1 := up q x t' z' hq hx hop' hz'
       have h2 := g.next_le (a := q + 1) (b := k) (by omega) (by omega)
       omega
      ·exact absurd h hqk
      ·have h1 := up k o t z hk ho hop hz
       have h2 := g.next_le (a := k + 1) (b := q) (by omega) (by omega)
       omega
     rw [Wq]
     rw [if_neg hne]; exact m3
   ·-- the next one that may write
    obtain ⟨hpk, hch⟩ := I.next_chain g hk ho hns hready hkd
    obtain ⟨e1, e2⟩ := g.mem_stays hpk (by omega) fun q x h1 h2 hx => by
     rcases x1r x with h | h | h | h
     ·exact .inl h
     ·exact .inr h
     ·have := I.past q x (by omega) hx h; omega
     ·have := (I.chain q x (by omega) hx h).1 ((hch q x (by omega) hx h).2 h2); omega
    have hrel : Rel ρ (f k).mem (f k).next w := by rw [e1, e2]; exact I.rel
    refine finish (q := True) (s.does hob ρ a w (f k).eval I.tsz (fun _ _ => rfl) hguard hops hrel _ _ fun ρ' u w' hval hrel' hev => ?_)
    obtain ⟨d1, d2⟩ := I.slots g hk ho hns hev.ext hval hS
    rw [e1, e2] at hev
    refine ih _ (k + 1) ρ' _ w' hsz' hcnt' ⟨hclosed, by rw [Act.put_defers']; exact I.defers, by cases h : o.dst <;> simp [Act.put, I.tsz], d1, d2, by omega, fun q x hq hx hc => by have := I.past q x hq hx hc; omega, fun q x hq hx hc => ?_, hrel', I.ev.trans hev, fun q x t z hq hx hop hz hs => ?_⟩
    ·rw [hS]
     by_cases hqk : q = k
     ·subst hqk; simp
     ·have hne : at_ ops q ≠ at_ ops k := fun e => by
       rcases Nat.lt_or_ge q k with h | h
       ·rcases Ut (ops := ops) h hk with ⟨h3, h4⟩ | ⟨_, h4⟩
        ·rw [e, h4] at h3; cases h3
        ·omega
       ·rcases Ut (ops := ops) (k1 := k) (k2 := q) (by omega) hq with ⟨h3, h4⟩ | ⟨_, h4⟩
        ·rw [← e, h4] at h3; cases h3
        ·omega
      have := hch q x hq hx hc
      simp only [beq_eq_false_iff_ne.2 hne, Bool.or_false]
      rw [this]; omega
    ·rw [hS] at hs
     simp only [Bool.or_eq_false_iff] at hs
     obtain ⟨m1, m2, m3, m4⟩ := I.allocs q x t z hq hx hop hz hs.1
     refine ⟨m1, Nat.lt_of_lt_of_le m2 hev.nxt, by rw [hev.new _ m2]; exact m3, hev.unborn _ m2 m3 _ _ m4⟩
theorem x6e (g : Reg P ops cx st f) {ρ : Rho} {a : Act} {w : World} (hd : a.defers = D) (henv : Xq ρ st.env cx.n a.tmps) (hrel : Rel ρ st.mem st.next w) :
  ∃ p, Inv P D ops cx st f ρ w (fun i => (Array.replicate ops.size false).getD i false) p ρ a w := by
 have hf : ∀ i, (Array.replicate ops.size false).getD i false = false := fun i => by
  by_cases h : i < ops.size
  ·simp [h]
  ·simp [h]
 have hA : ∃ p, p ≤ ops.size ∧ ∀ k o, k < ops.size → ops[at_ ops k]? = some o → (Zh o.op = .alloc ↔ k < p) := by
  have hmono : ∀ k1 k2, k1 < k2 → k2 < ops.size → isAlloc ops (at_ ops k2) = true → isAlloc ops (at_ ops k1) = true := by
   intro k1 k2 h1 h2 h3
   rcases Ut (ops := ops) h1 h2 with ⟨h, _⟩ | ⟨h, _⟩
   ·exact h
   ·rw [h]; exact h3
  have : ∀ n, n ≤ ops.size → ∃ p, p ≤ n ∧ ∀ k, k < n → (isAlloc ops (at_ ops k) = true ↔ k < p) := by
   intro n
   induction n with
   | zero => intro _; exact ⟨0, Nat.le_refl _, fun k h => by omega⟩
   | succ n ih =>
    intro hn
    obtain ⟨p, hp, hk⟩ := ih (by omega)
    cases e : isAlloc ops (at_ ops n) with
    | true =>
     refine ⟨n + 1, Nat.le_refl _, fun k h => ⟨fun _ => h, fun _ => ?_⟩⟩
     by_cases hkn : k = n
     ·rw [hkn]; exact e
     ·exact hmono k n (by omega) (by omega) e
    | false =>
     refine ⟨p, by omega, fun k h => ?_⟩
     by_cases hkn : k = n
     ·rw [hkn, e]
      constructor
      ·intro h; cases h
      ·intro h; omega
     ·exact hk k (by omega)
  obtain ⟨p, hp, hk⟩ := this ops.size (Nat.le_refl _)
  exact ⟨p, hp, fun k o h ho => by rw [← Wc ho]; exact hk k h⟩
 obtain ⟨p, hp, hpk⟩ := hA
 have allocAt : ∀ k, k < p → ∃ o t z, ops[at_ ops k]? = some o ∧ o.op = .alloc t ∧ Vo P t = some z ∧ (f (k + 1)).mem = Xa (f k).mem (f k).next (some ⟨z, t, none⟩) ∧ (f (k + 1)).next = (f k).next + 1 := by
  intro k hk
  obtain ⟨o, ho, s⟩ := g.step' (k := k) (by omega)
  have hkd := (hpk k o (by omega) ho).2 hk
  obtain ⟨t, z, h1, h2, h3, h4, _⟩ := s.alloc hkd (g.chk.guard _ o ho hkd)
  exact ⟨o, t, z, ho, h1, h2, h3, h4⟩
 have start : ∀ k, k ≤ p → Rel ρ (f k).mem (f k).next w ∧ Ev ρ ρ cx.floor st.mem st.next (f k).mem (f k).next w w := by
  intro k
  induction k with
  | zero => intro _; rw [g.f0]; exact ⟨hrel, Ev.refl _ _ _ _ _ hrel.dom⟩
  | succ k ih =>
   intro hk
   obtain ⟨hr, he⟩ := ih (by omega)
   obtain ⟨o, t, z, _, _, _, h3, h4⟩ := allocAt k (by omega)
   rw [h3, h4]
   refine ⟨hr.unborn _, he.trans ⟨Rho.le_refl _, fun _ _ => rfl, Nat.le_succ _, fun b hb _ cs ty hm => by rw [Zx _ _ (by omega)]; exact hm, fun _ _ h _ => h, fun b l hb hl => by have := hr.dom b l hl; omega, Nat.le_refl _, rfl, rfl, rfl, fun _ _ => rfl⟩⟩
 have later : ∀ k k', k < k' → k' ≤ p → (f k).next < (f k').next ∧ Yb (f k').mem (f k).next = Yb (f (k + 1)).mem (f k).next := by
  intro k k' hk
  induction k' with
  | zero => omega
  | succ k' ih =>
   intro hk'
   obtain ⟨o, t, z, _, _, _, h3, h4⟩ := allocAt k' (by omega)
   by_cases e : k = k'
   ·subst e; exact ⟨by omega, rfl⟩
   ·obtain ⟨h1, h2⟩ := ih (by omega) (by omega)
    refine ⟨by omega, ?_⟩
    rw [h3, Zx _ _ (by omega)]; exact h2
 obtain ⟨hrp, hep⟩ := start p (Nat.le_refl _)
 refine ⟨p, ?_, hd, henv.size, ?_, ?_, hp, ?_, ?_, hrp, hep, ?_⟩
 ·intro j o _ hs; simp only [hf] at hs; cases hs
 ·intro k o d _ _ hs; simp only [hf] at hs; cases hs
 ·intro t _; exact henv.get t
 ·intro k o hk ho hkd; exact (hpk k o hk ho).1 hkd
 ·intro k o hk ho hc
  simp only [hf]
  constructor
  ·intro h; cases h
  ·intro h
   have := (hpk k o hk ho).2 h
   rcases hc with h' | h' <;> rw [h'] at this <;> cases this
 ·intro k o t z hk ho hop hz _
  have hkp : k < p := (hpk k o hk ho).1 (by rw [hop]; rfl)
  obtain ⟨o', t', z', ho', hop', hz', h3, h4⟩ := allocAt k hkp
  rw [ho] at ho'
  obtain rfl := Option.some.inj ho'
  rw [hop] at hop'
  obtain rfl : t = t' := by injection hop'
  rw [hz] at hz'
  obtain rfl := Option.some.inj hz'
  obtain ⟨h5, h6⟩ := later k p hkp (Nat.le_refl _)
  have hge : st.next ≤ (f k).next := by
   have := g.next_le (a := 0) (b := k) (Nat.zero_le _) (by omega)
   rw [g.f0] at this; exact this
  refine ⟨hge, h5, ?_, ?_⟩
  ·cases e : ρ (f k).next with
   | none => rfl
   | some l => have := hrel.dom _ l e; omega
  ·rw [h6, h3, Yw]
theorem z2o {S : Specs} {R : Runner} (hN : z4c P) (hS : Zu P S) (hRI : x3e R) (hR : ROk P R) {st' : St} (hcx : cx.floor ≤ st.next) (hchk : y3x ops = true)
  (h : z3l P S R ops cx (Jn ops) [] st = some st') (ho : st'.ob = true) {ρ : Rho} {a : Act} {w : World} (hd : a.defers = D) (henv : Xq ρ st.env cx.n a.tmps) (hrel : Rel ρ st.mem st.next w) :
  wpAny P .any ops (Fin D ρ cx st st' w) ops.size (Array.replicate ops.size false) a w := by
 obtain ⟨f, f0, fn, fs, _, fp⟩ := Kn (Jn ops) [] st st' h
 have hlen : (Jn ops).length = ops.size := by simp [Jn, Yg]
 rw [hlen] at fn
 have hstep : ∀ (k : Nat) (hk : k < (Zs ops).length), cx.floor ≤ (f k).next → w1z P ops cx (z3n ops (Zs ops)[k], ops.getD (Zs ops)[k] default) (f k) (f (k + 1)) := by
  intro k hk hc
  have := fs k (by rw [hlen, ← Yg]; exact hk)
  simp only [Jn, List.getElem_map] at this
  exact z9c hN hS hRI hR hc this
 have hnx : ∀ k, k ≤ ops.size → cx.floor ≤ (f k).next := by
  intro k
  induction k with
  | zero => intro _; rw [f0]; exact hcx
  | succ k ih =>
   intro hk
   have hc := ih (by omega)
   exact Nat.le_trans hc (hstep k (by rw [Yg]; omega) hc).inv.nxt
 have hob : ∀ k, k ≤ ops.size → (f (ops.size - k)).ob = true := by
  intro k
  induction k with
  | zero => intro _; rw [Nat.sub_zero, fn]; exact ho
  | succ k ih =>
   intro hk
   have hk' : ops.size - (k + 1) < (Zs ops).length := by rw [Yg]; omega
   have s := hstep _ hk' (hnx _ (by omega))
   refine s.inv.ob ?_
   rw [show ops.size - (k + 1) + 1 = ops.size - k by omega]
   exact ih (by omega)
 have g : Reg P ops cx st f := ⟨z1p hchk, f0, hcx, fun k hk => by
  have := hob (ops.size - k) (by omega)
  rwa [show ops.size - (ops.size - k) = k by omega] at this, fun k hk => hstep k hk (hnx k (by rw [Yg] at hk; omega)), fun q k hq hk => by
   have := fp q k hq (by rw [hlen, ← Yg]; exact hk)
   simpa only [Jn, List.getElem_map] using this⟩
 obtain ⟨p, I⟩ := x6e g hd henv hrel
 have := w1d g henv.out hrel.bd ops.size (Array.replicate ops.size false) p ρ a w (by simp) (by
  rw [List.countP_eq_length.2]
  ·simp
  ·intro i hi
   have := List.mem_range.1 hi
   simp [this]) I
 rwa [fn] at this
theorem z9i {S : Specs} {R : Runner} (hRI : x3e R) : ∀ (l : List (Bool × Oper)) (st st' : St), z9j P S R ops cx l st = some st' → Xp cx.floor st st'
 | [], st, st', h => by
  have h : some st = some st' := h
  obtain rfl := Option.some.inj h
  exact Xp.refl _ _
 | x :: l, st, st', h => by
  rw [z1i, Option.bind_eq_some_iff] at h
  obtain ⟨st1, h1, h2⟩ := h
  refine Xp.trans ?_ (z9i hRI l st1 st' h2)
  unfold z4u at h1
  split at h1
  ·cases h1
  ·rename_i st2 hw
   obtain ⟨w1, w2, w3⟩ := Jz hw
   refine (Xp.same w1 w2 fun h => (w3 h).1).trans ?_
   unfold z4h at h1
   split at h1
   ·split at h1
    ·rename_i st3 ho
     obtain ⟨_, e2, e3, e4⟩ := Xw ho
     obtain ⟨p1, p2, p3, _⟩ := Vn h1
     exact (Xp.same e2 e3 fun h => (e4 h).2).trans (Xp.same p1 p2 fun h => by rw [← p3]; exact h)
    ·cases h1
   ·split at h1
    ·rename_i v st3 he
     obtain ⟨p1, p2, p3, _⟩ := Vn h1
     exact (z8e hRI he).1.trans (Xp.same p1 p2 fun h => by rw [← p3]; exact h)
    ·cases h1
  ·rename_i st2 hw
   obtain ⟨w1, w2, w3⟩ := Jz hw
   obtain ⟨p1, p2, p3, _⟩ := Vn h1
   exact (Xp.same w1 w2 fun h => (w3 h).1).trans (Xp.same p1 p2 fun h => by rw [← p3]; exact h)
theorem z6v {S : Specs} {R : Runner} (hRI : x3e R) (l : List (Nat × Bool × Oper)) (acc : List Foot) (st st' : St) (h : z3l P S R ops cx l acc st = some st') : Xp cx.floor st st' := by
 obtain ⟨f, f0, fn, fs, _, _⟩ := Kn l acc st st' h
 have : ∀ k, k ≤ l.length → Xp cx.floor st (f k) := by
  intro k
  induction k with
  | zero => intro _; rw [f0]; exact Xp.refl _ _
  | succ k ih =>
   intro hk
   refine (ih (by omega)).trans ?_
   have := fs k (by omega)
   exact z9i hRI [l[k].2] (f k) (f (k + 1)) (by rw [z1i, this]; rfl)
 rw [← fn]; exact this _ (Nat.le_refl _)
end
end Go.Am
namespace Go.Am
section
variable {P : Program}
theorem y2q {H : Old} {w : World} (hH : ∀ k o, H k = some o → w.heap[k]? = some o) : Rel (Qg H) .leaf 0 w :=
 ⟨(fun b l h => by cases h), (fun b b' l l' h => by cases h), (fun b l ab h => by cases h), hH, (fun b l h => by cases h), (fun b l h => by cases h), (fun b _ => rfl), (fun j l h => by cases h)⟩
structure Out (H : Old) (w : World) (ρ : Rho) (v : AVal) (u : Value) (w' : World) : Prop where
 val : Ze ρ v u
 le : ∀ k o, H k = some o → ρ.fz k = some o
 old : ∀ k o, ρ.fz k = some o → w'.heap[k]? = some o
 same : ∀ k, k < w.heap.size → ρ.fz k = H k
 below : RowKit.Below w.heap.size w w'
theorem out_of {H : Old} {w w' : World} {ρ : Rho} {v : AVal} {u : Value} {mem : Mem} {next floor : Nat} (hv : Ze ρ v u) (hr : Rel ρ mem next w') (hev : Ev (Qg H) ρ floor .leaf 0 mem next w w') : Out H w ρ v u w' :=
 ⟨hv, hev.ext.2.1, hr.old, hev.still, hev.os, hev.tape, hev.output, hev.size, fun k hk => by
  have : w.heap[k]? = some w.heap[k] := by simp [hk]
  rw [this]
  exact hev.frame k _ this fun b l hl => by cases hl⟩
def noSpecs : Specs := fun _ => none
theorem Zj : Zu P noSpecs := fun f F h => by cases h
end
end Go.Am
namespace Go.Am
abbrev RegOps := Array Oper × Nat × List Oper
structure AFr where
 cx : Ctx
 ro : Option RegOps
 todo : List Item
 rnd : Option Nat
 rs : List ResultVar
 env : T AVal
structure ALoop where
 st : LoopState
 pend : Option Code
 n : Nat
 env : T AVal
 params : List Tmp
 assign : Code
 body : Code
abbrev Loops := T (Option ALoop)
def z5u (m : Loops) (b : Nat) : Option ALoop := T.get none m b
def x2y (m : Loops) (b : Nat) (o : Option ALoop) : Loops := T.set none m b o
structure Cfg where
 cx : Ctx
 ro : Option RegOps
 todo : List Item
 rnd : Option Nat
 rs : List ResultVar
 st : St
 cs : List AFr
 lps : Loops
def popS (v : AVal) (st : St) (lps : Loops) : List AFr → Option Cfg
 | ⟨cx, some (ops, i, o :: l), todo, rnd, rs, env⟩ :: cs => match (st.withEnv env).put cx o.dst v with
  | some st' => some ⟨cx, some (ops, i + 1, l), todo, rnd, rs, st', cs, lps⟩
  | none => none
 | ⟨cx, none, .inRangeFunc j :: k, rnd, rs, env⟩ :: cs => some ⟨cx, none, .endRangeFunc j :: k, rnd, rs, st.withEnv env, cs, lps⟩
 | _ => none
def y3l : Option Code → LoopState
 | none => .ready
 | some _ => .done
def rndOk (lps : Loops) : Option Nat → Bool
 | none => true
 | some j => (z5u lps j).isSome
def y3i (P : Program) (rnd : Option Nat) (rs : List ResultVar) (st : St) (cs : List AFr) (lps : Loops) (jump : Option Code) : Option Cfg :=
 match rnd with
 | none => match Vp P st rs with
  | some vs => popS (Ur vs) st lps cs
  | none => none
 | some j => match z5u lps j with
  | some ⟨_, _, n, env, params, assign, body⟩ =>
   popS (.bool jump.isNone) st (x2y lps j (some ⟨y3l jump, jump, n, env, params, assign, body⟩)) cs
  | none => none
def y0i (n : Nat) : List Tmp → List AVal → T AVal → Option (T AVal)
 | [], [], env => some env
 | t :: ts, a :: l, env => bif Nat.ble (t + 1) n then y0i n ts l (T.set .undef env t a) else none
 | _, _, _ => none
def z9t (P : Program) (f : FuncId) (args : List AVal) (fr : AFr) (st : St) (cs : List AFr) (lps : Loops) : Option Cfg :=
 match P.funcs[f]? with
 | some fn => match fn.body with
  | some body => some ⟨⟨Nat.max fn.ntmps args.length, fr.cx.floor, fr.cx.sym⟩, none, [.code body], none, fn.results.toList, st.withEnv (z3u args 0 .leaf), fr :: cs, lps⟩
  | none => none
 | none => none
def w2z (j : Nat) (args : List AVal) (fr : AFr) (st : St) (cs : List AFr) (lps : Loops) : Option Cfg :=
 match z5u lps j with
 | some ⟨_, _, n, env, params, assign, body⟩ => match y0i n params args env with
  | some env' => some ⟨⟨n, fr.cx.floor, fr.cx.sym⟩, none, [.code assign, .beginRound, .code body], some j, [], st.withEnv env', fr :: cs, lps⟩
  | none => none
 | none => none
def callee (S : Specs) (st : St) (op : Op) : Option ((FuncId × List AVal) ⊕ (Nat × List AVal)) :=
 match op with
 | .call { callee := .value f, args, argTypes := _ } => match st.eval f with
  | .fn g caps => match S g with
   | some _ => none
   | none => some (.inl (g, args.toList.map st.eval ++ caps))
  | .fnb g first => match S g with
   | some _ => none
   | none => some (.inl (g, first ++ args.toList.map st.eval))
  | .yld j => some (.inr (j, args.toList.map st.eval))
  | _ => none
 | _ => none
def x3n (P : Program) (S : Specs) (Rc : Runner) (cx : Ctx) (ops : Array Oper) (i : Nat) (o : Oper) (l : List Oper) (todo : List Item) (rnd : Option Nat) (rs : List ResultVar) (st : St) (cs : List AFr) (lps : Loops) : Option Cfg :=
 match Jt ops o cx st with
 | some (true, st) => match callee S st o.op with
  | some (.inl (g, args)) => z9t P g args ⟨cx, some (ops, i, o :: l), todo, rnd, rs, st.env⟩ st cs lps
  | some (.inr (j, args)) => w2z j args ⟨cx, some (ops, i, o :: l), todo, rnd, rs, st.env⟩ st cs lps
  | none => match z4h P S Rc false o cx st with
   | some st => some ⟨cx, some (ops, i + 1, l), todo, rnd, rs, st, cs, lps⟩
   | none => none
 | some (false, st) => match st.put cx o.dst (.tup []) with
  | some st => some ⟨cx, some (ops, i + 1, l), todo, rnd, rs, st, cs, lps⟩
  | none => none
 | none => none
def Qe (ops : Array Oper) : Bool := ops.toList.all fun o => match o.op with
 | .defer _ => false
 | _ => true
def stubOp (o : Oper) : Oper := ⟨none, .move (.const (.bool true)), o.type, o.pos, o.after, none⟩
def Xb (ops : Array Oper) : Array Oper := ⟨ops.toList.take (ops.size - 1) ++ (ops.toList.drop (ops.size - 1)).map stubOp⟩
def w2e (ops : Array Oper) : Bool :=
 Qe ops && (y3x (Xb ops) && ((List.range (ops.size - 1)).all fun i => ((x7g (Xb ops).toList []).getD (ops.size - 1) 0).testBit i && match ops[i]? with
  | some ⟨_, _, _, _, _, some (j, _)⟩ => Nat.ble (j + 1) (ops.size - 1)
  | _ => true))
def w6y (st : St) : Oper → Bool
 | ⟨_, .call ⟨.value f, _, _⟩, _, _, _, _⟩ => match st.eval f with
  | .yld _ => true
  | _ => false
 | _ => false
def w5d (ops : Array Oper) (st : St) : Option Oper :=
 match ops.toList.drop (ops.size - 1) with
 | [o] => bif w6y st o && w2e ops then some o else none
 | _ => none
def St.nextId : St → Nat × St
 | ⟨env, mem, next, orc, ob⟩ => (next, ⟨env, mem, next + 1, orc, ob⟩)
def x0k (P : Program) (S : Specs) (Rc : Runner) : Cfg → Option Cfg
 | ⟨cx, some (_, _, []), todo, rnd, rs, st, cs, lps⟩ => some ⟨cx, none, todo, rnd, rs, st, cs, lps⟩
 | ⟨cx, some (ops, i, o :: l), todo, rnd, rs, st, cs, lps⟩ => x3n P S Rc cx ops i o l todo rnd rs st cs lps
 | ⟨cx, none, todo, rnd, rs, st, cs, lps⟩ => match todo with
  | [] => y3i P rnd rs st cs lps none
  | .code .ret :: _ => y3i P rnd rs st cs lps (some .ret)
  | .code .skip :: k => some ⟨cx, none, k, rnd, rs, st, cs, lps⟩
  | .code (.label _) :: k => some ⟨cx, none, k, rnd, rs, st, cs, lps⟩
  | .inBlock _ :: k => some ⟨cx, none, k, rnd, rs, st, cs, lps⟩
  | .inScope _ :: k => some ⟨cx, none, k, rnd, rs, st, cs, lps⟩
  | .code (.seq a b) :: k => some ⟨cx, none, .code a :: .code b :: k, rnd, rs, st, cs, lps⟩
  | .code (.cond c a b) :: k => match st.eval c with
   | .bool v => match st.test v with
    | (e, st) => some ⟨cx, none, .code (bif e then a else b) :: k, rnd, rs, st, cs, lps⟩
   | _ => none
  | .code (.block id body) :: k => some ⟨cx, none, .code body :: .inBlock id :: k, rnd, rs, st, cs, lps⟩
  | .code (.scope body) :: k => some ⟨cx, none, .code body :: .inScope body :: k, rnd, rs, st, cs, lps⟩
  | .code (.loop body) :: k => some ⟨cx, none, .code body :: .inLoop body :: k, rnd, rs, st, cs, lps⟩
  | .inLoop body :: k => some ⟨cx, none, .code body :: .inLoop body :: k, rnd, rs, st, cs, lps⟩
  | .code (.exit id) :: k => match exitTo id k with
   | some k => some ⟨cx, none, k, rnd, rs, st, cs, lps⟩
   | none => match rnd with
    | some _ => y3i P rnd rs st cs lps (some (.exit id))
    | none => none
  | .code (.region _ ops false) :: k => bif Qe ops then some ⟨cx, some (ops, 0, ops.toList), k, rnd, rs, st, cs, lps⟩ else none
  | .code (.region _ ops true) :: k => match w5d ops st with
   | some o => match z3l P S Rc (Xb ops) cx (Jn (Xb ops)) [] st with
    | some st => some ⟨cx, some (ops, ops.size - 1, [o]), k, rnd, rs, st, cs, lps⟩
    | none => none
   | none => bif y3x ops && Qe ops then
    match z3l P S Rc ops cx (Jn ops) [] st with
    | some st => some ⟨cx, none, k, rnd, rs, st, cs, lps⟩
    | none => none
   else none
  | .code (.rangeFunc f params assign body) :: k => match st.eval f with
   | .fn g caps => match st.nextId with
    | (j, st') => bif rndOk lps rnd then z9t P g (.yld j :: caps) ⟨cx, none, .inRangeFunc j :: k, rnd, rs, st.env⟩ st' cs (x2y lps j (some ⟨.ready, none, cx.n, st.env, params.toList, assign, body⟩)) else none
   | _ => none
  | .beginRound :: k => match rnd with
   | some j => match z5u lps j with
    | some ⟨.ready, pend, n, env, params, assign, body⟩ => some ⟨cx, none, k, rnd, rs, st, cs, x2y lps j (some ⟨.busy, pend, n, env, params, assign, body⟩)⟩
    | _ => none
   | none => none
  | .endRangeFunc j :: k => match z5u lps j with
   | some ⟨.busy, _, _, _, _, _, _⟩ => none
   | some ⟨_, pend, n, env, params, assign, body⟩ => some ⟨cx, none, (pend.map Item.code).toList ++ k, rnd, rs, st, cs, x2y lps j (some ⟨.exhausted, pend, n, env, params, assign, body⟩)⟩
   | none => none
  | _ => none
def z0v : Cfg → Bool
 | ⟨_, none, [], none, _, _, [], _⟩ => true
 | ⟨_, none, .code .ret :: _, none, _, _, [], _⟩ => true
 | _ => false
def runS (P : Program) (S : Specs) (Rc : Runner) (n : Nat) : Cfg → Option Cfg :=
 Nat.rec (motive := fun _ => Cfg → Option Cfg) (fun _ => none) (fun _ R C => bif z0v C then some C else match x0k P S Rc C with
  | some C' => R C'
  | none => none) n
def Un : Item → Bool
 | .code _ | .inBlock _ | .inLoop _ | .inScope _ | .beginRound => true
 | _ => false
def w5o (P : Program) (S : Specs) (n : Nat) (d : Nat) : Runner :=
 Nat.rec (motive := fun _ => Runner) (fun _ _ _ => none) (fun _ R cx todo st => bif todo.all Un && Nat.ble cx.floor st.next then match runS P S R n ⟨cx, none, todo, none, [], st, [], .leaf⟩ with
  | some C => bif Nat.beq C.cx.n cx.n then some C.st else none
  | none => none
  else none) d
end Go.Am
namespace Go.Am
section
variable {P : Program}
section ops
variable {b : Frame} {a : Act} {k : List Item} {cs : List Frame} {w : World} {ops : Array Oper}
theorem y0v {i : Nat} {rest : List Nat} {o : Oper} {K : Act → World → Prop} {Q : Exit → Act → World → Prop} (hQ : ∀ e a w, Q e a w → e = .normal) (ho : ops[i]? = some o) (hnd : ∀ c, o.op ≠ .defer c)
  (h : if Region.wanted o (yielded ops a.tmps) then o.wp P a w K Q else K (a.put o.dst undef) w) :
  ∃ a' w', K a' w' ∧ Steps P (lone (b.atR a (.inRegion ops (i :: rest) :: k)) cs w) (lone (b.atR a' (.inRegion ops rest :: k)) cs w') := by
 by_cases hw : Region.wanted o (yielded ops a.tmps) = true
 ·rw [if_pos hw] at h
  have hg := stepGR_op (P := P) (b := b) (k := k) (cs := cs) (w := w) (rest := rest) ho hw
  rw [Oper.semAt_eq _ _ _ hnd] at hg
  have fin : ∀ (a : Act) (v : Value), (b.atR a (.inRegion ops (i :: rest) :: k)).finish v = b.atR (a.put o.dst v) (.inRegion ops rest :: k) := fun a v => by rw [Frame.finish_atR, ho]; rfl
  unfold Oper.wp at h
  generalize hr : (execOp a.eval o).run P w = r at h
  cases r with
  | ok n w' =>
   cases n <;> simp only [Oper.upon] at h
   case value v =>
    exact ⟨_, w', h, .one (step_lone_go (by rw [hg, ← fin a v]; simp [stepG.apply, hr]))⟩
   case skip =>
    exact ⟨_, w', h, .one (step_lone_go (by rw [hg, ← fin a undef]; simp [stepG.apply, hr]))⟩
   case defer d =>
    refine ⟨_, w', h, .one (step_lone_go ?_)⟩
    have e := fin { a with defers := d :: a.defers } undef
    rw [hg, ← e]
    simp [stepG.apply, hr, Frame.atR]
   case enter f args =>
    obtain ⟨e, w'', fr, hR, hsteps, _, hleave⟩ := h (b.atR a (.inRegion ops (i :: rest) :: k) :: cs)
    have henter : step P (lone (b.atR a (.inRegion ops (i :: rest) :: k)) cs w) = .next (lone (Frame.enter P f args .normal) (b.atR a (.inRegion ops (i :: rest) :: k) :: cs) w') :=
     step_lone_go (by rw [hg]; simp [stepG.apply, hr, Frame.atR])
    cases e with
    | returned v =>
     refine ⟨_, w'', hR, .head henter (hsteps.trans (.one ?_))⟩
     rw [← fin a v]; exact step_leave_returned hleave
    | panicked chain => exact absurd (hQ _ _ _ hR) (by simp)
    | outgrown => obtain ⟨_, _, hq⟩ := hR; exact absurd (hQ _ _ _ hq) (by simp)
   case row row args =>
    obtain ⟨v, w'', hR, hsteps⟩ := h (b.atR a (.inRegion ops (i :: rest) :: k)) cs
    have henter : step P (lone (b.atR a (.inRegion ops (i :: rest) :: k)) cs w) = .next (lone (Frame.ofRow P row args .normal) (b.atR a (.inRegion ops (i :: rest) :: k) :: cs) w') :=
     step_lone_go (by rw [hg]; simp [stepG.apply, hr, Frame.atR])
    refine ⟨_, w'', hR, .head henter ?_⟩
    rw [← fin a v]; exact hsteps
   all_goals exact h.elim
  | halt x w' => cases x <;> simp only [Oper.upon] at h <;> first | exact h.elim | exact absurd (hQ _ _ _ h) (by simp)
 ·rw [if_neg hw] at h
  have hs := stepR_op_skip (P := P) (b := b) (a := a) (k := k) (cs := cs) (w := w) (ops := ops) (i := i) (rest := rest) (by simp [ho]; simpa using hw)
  rw [ho] at hs
  exact ⟨_, w, h, .one hs⟩
theorem z6u {R : Act → World → Prop} {Q : Exit → Act → World → Prop} (hQ : ∀ e a w, Q e a w → e = .normal ∧ R a w) (hnd : Qe ops = true) : ∀ (l : List Nat) (a : Act) (w : World), wpOps P ops Q l a w →
  ∃ a' w', R a' w' ∧ Steps P (lone (b.atR a (.inRegion ops l :: k)) cs w) (lone (b.atR a' k) cs w')
 | [], a, w, h => ⟨a, w, (hQ _ _ _ h).2, .one stepR_region_end⟩
 | i :: l, a, w, h => by
  simp only [wpOps] at h
  cases ho : ops[i]? with
  | none =>
   rw [ho] at h
   obtain ⟨a', w', hR, hs⟩ := z6u hQ hnd l a w h
   have h1 := stepR_op_skip (P := P) (b := b) (a := a) (k := k) (cs := cs) (w := w) (ops := ops) (i := i) (rest := l) (by simp [ho])
   rw [ho] at h1
   exact ⟨a', w', hR, .head h1 hs⟩
  | some o =>
   rw [ho] at h
   have hno : ∀ c, o.op ≠ .defer c := by
    intro c hc
    have hm : o ∈ ops.toList := by rw [Array.mem_toList_iff]; exact Array.mem_of_getElem? ho
    have := List.all_eq_true.1 hnd o hm
    rw [hc] at this; cases this
   have h' : if Region.wanted o (yielded ops a.tmps) then o.wp P a w (wpOps P ops Q l) Q else wpOps P ops Q l (a.put o.dst undef) w := by
    by_cases hw : Region.wanted o (yielded ops a.tmps) = true
    ·simp only [hw, if_true] at h ⊢
     rcases h with h | ⟨_, a0, w0, h0⟩
     ·exact h
     ·exact absurd (hQ _ _ _ h0).1 (by simp)
    ·simp only [hw, if_false, Bool.false_eq_true] at h ⊢
     exact h
   obtain ⟨a1, w1, h1, s1⟩ := y0v (b := b) (k := k) (cs := cs) (rest := l) (fun e a w q => (hQ e a w q).1) ho hno h'
   obtain ⟨a', w', hR, hs⟩ := z6u hQ hnd l a1 w1 h1
   exact ⟨a', w', hR, s1.trans hs⟩
end ops
end
end Go.Am
namespace Go.Am
section
variable {P : Program}
def Sp (ρ : Rho) (w : World) (r : Nat) : Prop := r < w.heap.size ∧ ρ.fz r = none ∧ ∀ b l, ρ b = some l → l.blk ≠ r
theorem Sp.ev {ρ ρ' : Rho} {floor : Nat} {m m' : Mem} {n n' : Nat} {w w' : World} (he : Ev ρ ρ' floor m n m' n' w w') {r : Nat} (hs : Sp ρ w r) : Sp ρ' w' r ∧ w'.heap[r]? = w.heap[r]? := by
 obtain ⟨h1, h2, h3⟩ := hs
 refine ⟨⟨Nat.lt_of_lt_of_le h1 he.size, by rw [he.still r h1]; exact h2, fun b l hl => ?_⟩, ?_⟩
 ·by_cases hb : b < n
  ·rw [he.new b hb] at hl; exact h3 b l hl
  ·rcases he.fresh b l (by omega) hl with h | ⟨b0, l0, e0, _, g0⟩
   ·omega
   ·rw [← g0]; exact h3 b0 l0 e0
 ·have : w.heap[r]? = some w.heap[r] := by simp [h1]
  rw [this]
  exact he.frame r _ this fun b l hl _ => h3 b l hl
structure Xs (m : List Nat) (w w' : World) : Prop where
 size : w'.heap.size = w.heap.size
 other : ∀ k, k ∉ m → w'.heap[k]? = w.heap[k]?
 os : w'.os = w.os
 tape : w'.tape = w.tape
 output : w'.output = w.output
theorem Xs.refl (m : List Nat) (w : World) : Xs m w w := ⟨rfl, fun _ _ => rfl, rfl, rfl, rfl⟩
theorem Xs.put (w : World) (r : Nat) (o : Obj) : Xs [r] w (w.putObj r o) := ⟨World.putObj_size, fun k hk => World.putObj_heap_other (by simpa using hk), rfl, rfl, rfl⟩
theorem Xs.trans {m m' : List Nat} {a b c : World} (h : Xs m a b) (k : Xs m' b c) : Xs (m ++ m') a c :=
 ⟨k.size.trans h.size, fun i hi => by simp only [List.mem_append, not_or] at hi; exact (k.other i hi.2).trans (h.other i hi.1), k.os.trans h.os, k.tape.trans h.tape, k.output.trans h.output⟩
theorem Rel.turned {ρ : Rho} {mem : Mem} {next : Nat} {w w' : World} (h : Rel ρ mem next w) {m : List Nat} (hm : ∀ r ∈ m, Sp ρ w r) (ht : Xs m w w') : Rel ρ mem next w' :=
 ⟨h.dom, h.inj, fun b l ab e g => (h.blk b l ab e g).world (Rho.le_refl ρ) (ht.other _ fun hr => (hm _ hr).2.2 b l e rfl), fun k o e => by
  rw [ht.other k fun hr => by rw [(hm _ hr).2.1] at e; cases e]; exact h.old k o e,
  h.sep, fun b l e => by rw [ht.size]; exact h.real b l e, h.bd, h.ldom⟩
theorem Ev.turned {ρ0 ρ : Rho} {floor : Nat} {m0 mem : Mem} {n0 next : Nat} {w0 w w' : World} (h : Ev ρ0 ρ floor m0 n0 mem next w0 w) {m : List Nat} (hm : ∀ r ∈ m, w0.heap.size ≤ r) (ht : Xs m w w') : Ev ρ0 ρ floor m0 n0 mem next w0 w' :=
 ⟨h.ext, h.new, h.nxt, h.unborn, fun k o hk hf => by
  have hlt : k < w0.heap.size := (Array.getElem?_eq_some_iff.1 hk).1
  rw [ht.other k fun hr => by have := hm k hr; omega]
  exact h.frame k o hk hf, h.fresh, by rw [ht.size]; exact h.size, ht.os.trans h.os, ht.tape.trans h.tape, ht.output.trans h.output, h.still⟩
theorem Sp.turned {ρ : Rho} {w w' : World} {r : Nat} (h : Sp ρ w r) {m : List Nat} (ht : Xs m w w') : Sp ρ w' r := ⟨by rw [ht.size]; exact h.1, h.2.1, h.2.2⟩
theorem Rel.grow {ρ : Rho} {mem : Mem} {next : Nat} {w : World} (h : Rel ρ mem next w) (o : Obj) : Rel ρ mem next (w.alloc o) := by
 have same : ∀ k, k < w.heap.size → (w.alloc o).heap[k]? = w.heap[k]? := fun k hk => by
  show (w.heap.push o)[k]? = _
  simp [Array.getElem?_push, Nat.ne_of_lt hk]
 exact ⟨h.dom, h.inj, fun b l ab e g => (h.blk b l ab e g).world (Rho.le_refl ρ) (same _ (h.real b l e)), fun k ob e => by
  have := h.old k ob e
  rw [same k (Array.getElem?_eq_some_iff.1 this).1]; exact this, h.sep, fun b l e => by
  have := h.real b l e
  show l.blk < (w.heap.push o).size
  simp; omega, h.bd, h.ldom⟩
theorem Ev.grow {ρ0 ρ : Rho} {floor : Nat} {m0 mem : Mem} {n0 next : Nat} {w0 w : World} (h : Ev ρ0 ρ floor m0 n0 mem next w0 w) (o : Obj) : Ev ρ0 ρ floor m0 n0 mem next w0 (w.alloc o) :=
 ⟨h.ext, h.new, h.nxt, h.unborn, fun k ob hk hf => by
  have := h.frame k ob hk hf
  have hlt := (Array.getElem?_eq_some_iff.1 this).1
  show (w.heap.push o)[k]? = _
  simp only [Array.getElem?_push, Nat.ne_of_lt hlt, if_false]; exact this, h.fresh, by
  have := h.size
  show _ ≤ (w.heap.push o).size
  simp; omega, h.os, h.tape, h.output, h.still⟩
theorem Sp.grow {ρ : Rho} {w : World} {r : Nat} (h : Sp ρ w r) (o : Obj) : Sp ρ (w.alloc o) r ∧ (w.alloc o).heap[r]? = w.heap[r]? := by
 refine ⟨⟨?_, h.2.1, h.2.2⟩, ?_⟩
 ·have := h.1
  show r < (w.heap.push o).size
  simp; omega
 ·show (w.heap.push o)[r]? = _
  simp [Array.getElem?_push, Nat.ne_of_lt h.1]
theorem Sp.fresh {ρ : Rho} {mem : Mem} {next : Nat} {w : World} (h : Rel ρ mem next w) (o : Obj) : Sp ρ (w.alloc o) w.heap.size :=
 ⟨by show _ < (w.heap.push o).size; simp, h.hold _ (Nat.le_refl _), fun b l e => Nat.ne_of_lt (h.real b l e)⟩
def lpAdd (ρ : Rho) (j l : Nat) : Rho := ⟨ρ.f, ρ.fz, fun k => if k = j then some l else ρ.lp k⟩
theorem Rel.lp_none {ρ : Rho} {mem : Mem} {next : Nat} {w : World} (h : Rel ρ mem next w) : ρ.lp next = none := by
 cases e : ρ.lp next with
 | none => rfl
 | some l => exact absurd (h.ldom _ _ e) (Nat.lt_irrefl _)
theorem y0x {ρ : Rho} {j l : Nat} (h : ρ.lp j = none) : ρ.le (lpAdd ρ j l) := ⟨fun _ _ e => e, fun _ _ e => e, fun k l' e => by
 show (if k = j then some l else ρ.lp k) = some l'
 by_cases hk : k = j
 ·subst hk; rw [h] at e; cases e
 ·rw [if_neg hk]; exact e⟩
theorem Rel.lpAdd {ρ : Rho} {mem : Mem} {next : Nat} {w : World} (h : Rel ρ mem next w) (l : Nat) : Rel (lpAdd ρ next l) mem (next + 1) w :=
 ⟨fun b l' e => Nat.lt_succ_of_lt (h.dom b l' e), h.inj, fun b l' ab e g => (h.blk b l' ab e g).world (y0x h.lp_none) rfl, h.old, h.sep, h.real, fun b hb => h.bd b (by omega), fun j l' e => by
  have e : (if j = next then some l else ρ.lp j) = some l' := e
  by_cases hj : j = next
  ·omega
  ·rw [if_neg hj] at e; exact Nat.lt_succ_of_lt (h.ldom j l' e)⟩
theorem Ev.lpAdd {ρ0 ρ : Rho} {floor : Nat} {m0 mem : Mem} {n0 next : Nat} {w0 w : World} (h : Ev ρ0 ρ floor m0 n0 mem next w0 w) (hr : Rel ρ mem next w) (l : Nat) : Ev ρ0 (lpAdd ρ next l) floor m0 n0 mem (next + 1) w0 w :=
 ⟨Rho.le_trans h.ext (y0x hr.lp_none), h.new, Nat.le_succ_of_le h.nxt, h.unborn, h.frame, h.fresh, h.size, h.os, h.tape, h.output, h.still⟩
inductive x0a (ρ : Rho) : Item → Item → Prop
 | same (x : Item) (h : Un x = true) : x0a ρ x x
 | inR (j l : Nat) (h : ρ.lp j = some l) : x0a ρ (.inRangeFunc j) (.inRangeFunc l)
 | endR (j l : Nat) (h : ρ.lp j = some l) : x0a ρ (.endRangeFunc j) (.endRangeFunc l)
abbrev z8p (ρ : Rho) : List Item → List Item → Prop := Wz (x0a ρ)
theorem Wz.mono {α β : Type} {R R' : α → β → Prop} (hr : ∀ a b, R a b → R' a b) {l : List α} {m : List β} (h : Wz R l m) : Wz R' l m := by
 induction h with
 | nil => exact .nil
 | cons h _ ih => exact .cons (hr _ _ h) ih
theorem x0a.mono {ρ ρ' : Rho} (h : ρ.le ρ') {x y : Item} (hx : x0a ρ x y) : x0a ρ' x y := by
 cases hx with
 | same x hx => exact .same x hx
 | inR j l e => exact .inR j l (h.2.2 _ _ e)
 | endR j l e => exact .endR j l (h.2.2 _ _ e)
theorem z8p.exit {ρ : Rho} {k k' : List Item} (h : z8p ρ k k') (id : Nat) : (∀ r, exitTo id k = some r → ∃ r', exitTo id k' = some r' ∧ z8p ρ r r') ∧ (exitTo id k = none → exitTo id k' = none) := by
 induction h with
 | nil => exact ⟨fun r e => (by cases e), fun _ => rfl⟩
 | @cons x y l m hx t ih =>
  cases hx with
  | same x hx =>
   cases x with
   | inBlock id' =>
    unfold exitTo
    by_cases he : (id' == id) = true
    ·rw [if_pos he, if_pos he]
     exact ⟨fun r e => ⟨m, rfl, by obtain rfl := Option.some.inj e; exact t⟩, fun e => by cases e⟩
    ·rw [if_neg he, if_neg he]; exact ih
   | code _ => exact ih
   | inLoop _ => exact ih
   | inScope _ => exact ih
   | beginRound => exact ih
   | inRegion _ _ => cases hx
   | inRangeFunc _ => cases hx
   | endRangeFunc _ => cases hx
   | call _ _ _ _ => cases hx
   | extern _ _ => cases hx
  | inR j l e => exact ih
  | endR j l e => exact ih
def w6t (r : Nat) : Deferred := { target := .collected r, args := #[] }
def Xd (ro : Option RegOps) (k : List Item) : List Item := match ro with
 | none => k
 | some (ops, i, _) => .inRegion ops ((List.range ops.size).drop i) :: k
def roOk : Option RegOps → Prop
 | none => True
 | some (ops, i, l) => l = ops.toList.drop i ∧ Qe ops = true
structure x3f (ρ : Rho) (cx : Ctx) (ro : Option RegOps) (todo : List Item) (rnd : Option Nat) (env : T AVal) (b : Frame) (a : Act) (k : List Item) (ms : List Nat) : Prop where
 env : Xq ρ env cx.n a.tmps
 defers : a.defers = ms.map w6t
 todo : z8p ρ todo k
 ro : roOk ro
 rnd : match rnd with
  | none => b.roundOf = none
  | some j => ms = [] ∧ ∃ l, ρ.lp j = some l ∧ b.roundOf = some l
theorem x3f.mono {ρ ρ' : Rho} (h : ρ.le ρ') {cx : Ctx} {ro : Option RegOps} {todo : List Item} {rnd : Option Nat} {env : T AVal} {b : Frame} {a : Act} {k : List Item} {ms : List Nat} (hf : x3f ρ cx ro todo rnd env b a k ms) : x3f ρ' cx ro todo rnd env b a k ms :=
 ⟨hf.env.mono h, hf.defers, hf.todo.mono fun _ _ => x0a.mono h, hf.ro, by
  have := hf.rnd
  cases rnd with
  | none => exact this
  | some j => obtain ⟨h0, l, h1, h2⟩ := this; exact ⟨h0, l, h.2.2 _ _ h1, h2⟩⟩
def x7s (P : Program) (rnd : Option Nat) (rs : List ResultVar) (b : Frame) : Prop := b.kind = .normal ∧ (rnd = none → ∃ fn, P.funcs[b.fn]? = some fn ∧ fn.results.toList = rs)
inductive x3g (P : Program) (ρ : Rho) : List AFr → List Frame → List Nat → Prop
 | nil : x3g P ρ [] [] []
 | cons {af : AFr} {b : Frame} {a : Act} {k : List Item} {ms : List Nat} {cs : List AFr} {css : List Frame} {mss : List Nat} (h : x3f ρ af.cx af.ro af.todo af.rnd af.env b a k ms)
   (hl : cs ≠ [] → x7s P af.rnd af.rs b) (t : x3g P ρ cs css mss) : x3g P ρ (af :: cs) (b.atR a (Xd af.ro k) :: css) (ms ++ mss)
theorem x3g.mono {ρ ρ' : Rho} (h : ρ.le ρ') {cs : List AFr} {css : List Frame} {mss : List Nat} (hc : x3g P ρ cs css mss) : x3g P ρ' cs css mss := by
 induction hc with
 | nil => exact .nil
 | cons hf hl t ih => exact .cons (hf.mono h) hl ih
structure y0e (base : Nat) (ρ : Rho) (w : World) (j : Nat) (L : ALoop) (l : Nat) : Prop where
 lp : ρ.lp j = some l
 low : base ≤ l
 sp : Sp ρ w l
 obj : ∃ tmps fn d, w.heap[l]? = some (.loop ⟨L.st, L.pend, fn, tmps, L.params.toArray, L.assign, L.body, d⟩) ∧ Xq ρ L.env L.n tmps
structure y0d (P : Program) (base : Nat) (ρ : Rho) (cs : List AFr) (lps : Loops) (css : List Frame) (w : World) (m0 m1 : List Nat) : Prop where
 cs : x3g P ρ cs css m1
 nodup : (m0 ++ m1).Nodup
 marks : ∀ r ∈ m0 ++ m1, base ≤ r ∧ Sp ρ w r ∧ w.heap[r]? = some (.deferred (some []))
 loops : ∀ j L, z5u lps j = some L → ∃ l, y0e base ρ w j L l
 inj : ∀ j j' L L' l, z5u lps j = some L → z5u lps j' = some L' → ρ.lp j = some l → ρ.lp j' = some l → j = j'
theorem y0e.ev {base : Nat} {ρ ρ' : Rho} {floor : Nat} {m m' : Mem} {n n' : Nat} {w w' : World} (he : Ev ρ ρ' floor m n m' n' w w') {j : Nat} {L : ALoop} {l : Nat} (h : y0e base ρ w j L l) : y0e base ρ' w' j L l := by
 obtain ⟨h1, h2, h3, tmps, fn, d, h4, h5⟩ := h
 obtain ⟨s1, s2⟩ := h3.ev he
 exact ⟨he.ext.2.2 _ _ h1, h2, s1, tmps, fn, d, by rw [s2]; exact h4, h5.mono he.ext⟩
theorem y0d.ev {base : Nat} {ρ ρ' : Rho} {floor : Nat} {m m' : Mem} {n n' : Nat} {w w' : World} (he : Ev ρ ρ' floor m n m' n' w w') {cs : List AFr} {lps : Loops} {css : List Frame} {m0 m1 : List Nat} (h : y0d P base ρ cs lps css w m0 m1) : y0d P base ρ' cs lps css w' m0 m1 := by
 refine ⟨h.cs.mono he.ext, h.nodup, fun r hr => ?_, fun j L hL => ?_, fun j j' L L' l hL hL' e e' => ?_⟩
 ·obtain ⟨h1, h2, h3⟩ := h.marks r hr
  obtain ⟨s1, s2⟩ := h2.ev he
  exact ⟨h1, s1, by rw [s2]; exact h3⟩
 ·obtain ⟨l, hl⟩ := h.loops j L hL
  exact ⟨l, hl.ev he⟩
 ·obtain ⟨l1, hl1⟩ := h.loops j L hL
  obtain ⟨l2, hl2⟩ := h.loops j' L' hL'
  have e1 := he.ext.2.2 _ _ hl1.lp
  have e2 := he.ext.2.2 _ _ hl2.lp
  rw [e] at e1; rw [e'] at e2
  obtain rfl := Option.some.inj e1
  obtain rfl := Option.some.inj e2
  exact h.inj j j' L L' l hL hL' hl1.lp hl2.lp
theorem y0d.turned {base : Nat} {ρ : Rho} {w w' : World} {cs : List AFr} {lps : Loops} {css : List Frame} {m0 m0' m1 : List Nat} (h : y0d P base ρ cs lps css w m0 m1) {m : List Nat} (ht : Xs m w w') (hsub : m0'.Sublist m0) (hm : ∀ r ∈ m, r ∉ m0' ++ m1) (hl : ∀ r ∈ m, ∃ ds, w.heap[r]? = some (.deferred ds)) :
  y0d P base ρ cs lps css w' m0' m1 := by
 refine ⟨h.cs, h.nodup.sublist (hsub.append (List.Sublist.refl _)), fun r hr => ?_, fun j L hL => ?_, h.inj⟩
 ·obtain ⟨h1, h2, h3⟩ := h.marks r ((hsub.append (List.Sublist.refl m1)).subset hr)
  exact ⟨h1, h2.turned ht, by rw [ht.other r fun hrm => hm r hrm hr]; exact h3⟩
 ·obtain ⟨l, h1, h2, h3, tmps, fn, d, h4, h5⟩ := h.loops j L hL
  refine ⟨l, h1, h2, h3.turned ht, tmps, fn, d, ?_, h5⟩
  rw [ht.other l fun hlm => ?_]
  ·exact h4
  ·obtain ⟨ds, hd⟩ := hl l hlm
   rw [h4] at hd; cases hd
theorem y0d.record {base : Nat} {ρ : Rho} {w w' : World} {cs : List AFr} {lps : Loops} {css : List Frame} {m0 m1 : List Nat} (h : y0d P base ρ cs lps css w m0 m1) {j l : Nat} {L L' : ALoop} (hj : z5u lps j = some L) (hl : y0e base ρ w j L l)
  (hL : y0e base ρ w' j L' l) (ht : Xs [l] w w') : y0d P base ρ cs (x2y lps j (some L')) css w' m0 m1 := by
 have hobj := hl.obj
 obtain ⟨tmps, fn, d, h4, _⟩ := hobj
 have get : ∀ i, z5u (x2y lps j (some L')) i = if i = j then some L' else z5u lps i := fun i => T.get_set none lps j (some L') i
 refine ⟨h.cs, h.nodup, fun r hr => ?_, fun i M hM => ?_, fun i i' M M' l' hM hM' e e' => ?_⟩
 ·obtain ⟨h1, h2, h3⟩ := h.marks r hr
  refine ⟨h1, h2.turned ht, ?_⟩
  rw [ht.other r fun hrm => ?_]
  ·exact h3
  ·obtain rfl : r = l := by simpa using hrm
   rw [h4] at h3; cases h3
 ·rw [get] at hM
  by_cases hij : i = j
  ·subst hij
   rw [if_pos rfl] at hM
   obtain rfl := Option.some.inj hM
   exact ⟨l, hL⟩
  ·rw [if_neg hij] at hM
   obtain ⟨l2, q1, q2, q3, tmps2, fn2, d2, q4, q5⟩ := h.loops i M hM
   refine ⟨l2, q1, q2, q3.turned ht, tmps2, fn2, d2, ?_, q5⟩
   rw [ht.other l2 fun hlm => ?_]
   ·exact q4
   ·obtain rfl : l2 = l := by simpa using hlm
    exact hij (h.inj i j M L l2 hM hj q1 hl.lp)
 ·rw [get] at hM hM'
  have old : ∀ x N, (if x = j then some L' else z5u lps x) = some N → ∃ N', z5u lps x = some N' := fun x N hx => by
   by_cases hxj : x = j
   ·exact ⟨L, by rw [hxj]; exact hj⟩
   ·rw [if_neg hxj] at hx; exact ⟨N, hx⟩
  obtain ⟨N, hN⟩ := old i M hM
  obtain ⟨N', hN'⟩ := old i' M' hM'
  exact h.inj i i' N N' l' hN hN' e e'
end
end Go.Am
namespace Go.Am
section
variable {P : Program}
structure w8v (P : Program) (base : Nat) (C : Cfg) (ρ : Rho) (b : Frame) (a : Act) (k : List Item) (css : List Frame) (w : World) (ma mb : List Nat) : Prop where
 top : x3f ρ C.cx C.ro C.todo C.rnd C.st.env b a k ma
 lv : C.cs ≠ [] → x7s P C.rnd C.rs b
 rest : y0d P base ρ C.cs C.lps css w ma mb
 rel : Rel ρ C.st.mem C.st.next w
structure Fl (fl : Nat) (C : Cfg) : Prop where
 cx : C.cx.floor = fl
 cs : ∀ af ∈ C.cs, af.cx.floor = fl
 le : fl ≤ C.st.next
def y7w (b : Frame) : List Frame → FuncId × CallKind × Option Nat
 | [] => (b.fn, b.kind, b.roundOf)
 | c :: css => y7w c css
def z4d (P : Program) (fl : Nat) (C C' : Cfg) : Prop :=
 ∀ (m0 : Mem) (n0 : Nat) (ρ0 : Rho) (w0 : World) (ρ : Rho) (b : Frame) (a : Act) (k : List Item) (css : List Frame) (w : World) (ma mb : List Nat), w8v P w0.heap.size C ρ b a k css w ma mb → Ev ρ0 ρ fl m0 n0 C.st.mem C.st.next w0 w → ∀ cs0 : List Frame,
  ∃ ρ' b' a' k' css' w' ma' mb', Steps P (lone (b.atR a (Xd C.ro k)) (css ++ cs0) w) (lone (b'.atR a' (Xd C'.ro k')) (css' ++ cs0) w') ∧ w8v P w0.heap.size C' ρ' b' a' k' css' w' ma' mb' ∧ Ev ρ0 ρ' fl m0 n0 C'.st.mem C'.st.next w0 w' ∧ y7w b' css' = y7w b css
theorem z4d.refl (fl : Nat) (C : Cfg) : z4d P fl C C := fun m0 n0 ρ0 w0 ρ b a k css w ma mb hs he cs0 => ⟨ρ, b, a, k, css, w, ma, mb, Steps.refl _ _, hs, he, rfl⟩
structure Sim (P : Program) (fl : Nat) (C C' : Cfg) : Prop where
 fls : Fl fl C'
 inv : Xp fl C.st C'.st
 leads : C'.st.ob = true → z4d P fl C C'
theorem Sim.move {fl : Nat} {cx : Ctx} {todo todo' : List Item} {rnd : Option Nat} {rs : List ResultVar} {st : St} {cs : List AFr} {lps : Loops} (hfl : Fl fl ⟨cx, none, todo, rnd, rs, st, cs, lps⟩)
  (hk : ∀ (ρ : Rho) (k : List Item), z8p ρ todo k → ∃ k', z8p ρ todo' k' ∧ ∀ (b : Frame) (a : Act) (css : List Frame) (w : World), step P (lone (b.atR a k) css w) = .next (lone (b.atR a k') css w)) :
  Sim P fl ⟨cx, none, todo, rnd, rs, st, cs, lps⟩ ⟨cx, none, todo', rnd, rs, st, cs, lps⟩ :=
 ⟨⟨hfl.cx, hfl.cs, hfl.le⟩, Xp.refl _ _, fun ho m0 n0 ρ0 w0 ρ b a k css w ma mb hs he cs0 => by
   obtain ⟨k', ht, hstep⟩ := hk ρ k hs.top.todo
   exact ⟨ρ, b, a, k', css, w, ma, mb, .one (hstep b a _ w), ⟨⟨hs.top.env, hs.top.defers, ht, trivial, hs.top.rnd⟩, hs.lv, hs.rest, hs.rel⟩, he, rfl⟩⟩
theorem z8p.code {ρ : Rho} {c : Code} {t k : List Item} (h : z8p ρ (.code c :: t) k) : ∃ k', k = .code c :: k' ∧ z8p ρ t k' := by
 cases h with
 | cons hx ht => cases hx; exact ⟨_, rfl, ht⟩
theorem z4f {cs : List Frame} : ∀ (ms : List Nat) (fr : Frame) (w : World), fr.mode = .returning → fr.defers = ms.map w6t → ms.Nodup → (∀ r ∈ ms, w.heap[r]? = some (.deferred (some []))) →
  ∃ w', Steps P (lone fr cs w) (lone { fr with defers := [] } cs w') ∧ Xs ms w w'
 | [], fr, w, hm, hd, _, _ => ⟨w, by
   have : { fr with defers := [] } = fr := by cases fr; simp only at hd; subst hd; rfl
   rw [this]; exact Steps.refl _ _, Xs.refl _ _⟩
 | r :: ms, fr, w, hm, hd, hn, ho => by
  have hr := ho r (by simp)
  have h1 := step_collected (P := P) (cs := cs) (fr := fr) (d := w6t r) (ds := ms.map w6t) (by rw [hm]; simp) (by rw [hd]; rfl) rfl (run_takeDeferred hr)
  rw [List.nodup_cons] at hn
  obtain ⟨w', hs, ht⟩ := z4f (cs := cs) ms { fr with defers := ms.map w6t } (w.putObj r (.deferred none)) hm rfl hn.2 fun r' hr' => by
   rw [World.putObj_heap_other (fun e => hn.1 (by rw [← e]; exact hr'))]; exact ho r' (by simp [hr'])
  exact ⟨w', .head h1 hs, (Xs.put w r _).trans ht⟩
theorem z7s {fl base : Nat} {C : Cfg} {ρ : Rho} {b : Frame} {a : Act} {k : List Item} {css : List Frame} {w : World} {ma mb : List Nat} (hs : w8v P base C ρ b a k css w ma mb) (hro : C.ro = none) (hrnd : C.rnd = none) (htodo : C.todo = [] ∨ ∃ t, C.todo = .code .ret :: t)
  {m0 : Mem} {n0 : Nat} {ρ0 : Rho} {w0 : World} (hb : base = w0.heap.size) (he : Ev ρ0 ρ fl m0 n0 C.st.mem C.st.next w0 w) (cs0 : List Frame) :
  ∃ w', Steps P (lone (b.atR a (Xd C.ro k)) cs0 w) (lone { b.atR { a with defers := [] } k with mode := .returning } cs0 w') ∧ Xq ρ C.st.env C.cx.n a.tmps ∧ Rel ρ C.st.mem C.st.next w' ∧ Ev ρ0 ρ fl m0 n0 C.st.mem C.st.next w0 w' ∧ y0d P base ρ C.cs C.lps css w' [] mb := by
 have hrn := hs.top.rnd
 rw [hrnd] at hrn
 have h1 : step P (lone (b.atR a (Xd C.ro k)) cs0 w) = .next (lone { b.atR a k with mode := .returning } cs0 w) := by
  rw [hro]
  have ht := hs.top.todo
  rcases htodo with e | ⟨t, e⟩
  ·rw [e] at ht
   cases ht
   exact stepR_end hrn
  ·rw [e] at ht
   obtain ⟨k', rfl, _⟩ := ht.code
   exact stepR_ret hrn
 have hnd : ma.Nodup := (List.nodup_append.1 hs.rest.nodup).1
 obtain ⟨w', h2, ht⟩ := z4f (P := P) (cs := cs0) ma { b.atR a k with mode := .returning } w rfl hs.top.defers hnd fun r hr => (hs.rest.marks r (by simp [hr])).2.2
 refine ⟨w', .head h1 h2, hs.top.env, hs.rel.turned (fun r hr => (hs.rest.marks r (by simp [hr])).2.1) ht, he.turned (fun r hr => by rw [← hb]; exact (hs.rest.marks r (by simp [hr])).1) ht, hs.rest.turned ht (List.nil_sublist _) (fun r hr hrm => ?_) (fun r hr => ⟨_, (hs.rest.marks r (by simp [hr])).2.2⟩)⟩
 rw [List.nil_append] at hrm
 exact (List.nodup_append.1 hs.rest.nodup).2.2 r hr r hrm rfl
theorem y0u {fl base : Nat} {v : AVal} {st : St} {lps : Loops} {cs : List AFr} {C' : Cfg} (h : popS v st lps cs = some C') (hcs : ∀ af ∈ cs, af.cx.floor = fl) (hle : fl ≤ st.next) :
  Fl fl C' ∧ C'.st.mem = st.mem ∧ C'.st.next = st.next ∧ C'.st.ob = st.ob ∧ (cs ≠ []) ∧ ∀ (ρ : Rho) (css : List Frame) (w : World) (mb : List Nat) (u : Value), Ze ρ v u → y0d P base ρ cs lps css w [] mb → Rel ρ st.mem st.next w →
   ∃ c css' b' a' k' ma' mb', css = c :: css' ∧ c.finish u = b'.atR a' (Xd C'.ro k') ∧ w8v P base C' ρ b' a' k' css' w ma' mb' ∧ y7w b' css' = y7w c css' := by
 unfold popS at h
 split at h
 ·rename_i cx ops i o l todo rnd rs env cs'
  split at h
  ·rename_i st' hp
   obtain rfl := Option.some.inj h
   obtain ⟨p1, p2, p3, p4⟩ := Vn hp
   refine ⟨⟨hcs _ (List.mem_cons_self ..), fun af haf => hcs af (by simp [haf]), by rw [show st'.next = st.next from p2]; exact hle⟩, p1, p2, p3, by simp, fun ρ css w mb u hv hr hrel => ?_⟩
   obtain ⟨hc, hnd, hmk, hlp, hinj⟩ := hr
   cases hc with
   | @cons _ b a k ms _ css' mss hf hl ht =>
    simp only at hf hl
    refine ⟨_, css', b, a.put o.dst u, k, ms, mss, rfl, ?_, ⟨⟨hf.env.put hv ?_, by rw [Act.put_defers']; exact hf.defers, hf.todo, ?_, hf.rnd⟩, hl, ⟨ht, hnd, hmk, hlp, hinj⟩, ?_⟩, by cases css' <;> rfl⟩
    ·obtain ⟨hro, _⟩ := hf.ro
     have hi : ops.toList[i]? = some o := by
      have := congrArg (·[0]?) hro
      simpa using this.symm
     have hi' : ops[i]? = some o := by simpa using hi
     have hlt : i < ops.size := (Array.getElem?_eq_some_iff.1 hi').1
     have hd : (List.range ops.size).drop i = i :: (List.range ops.size).drop (i + 1) := by
      rw [List.drop_eq_getElem_cons (by simpa using hlt)]; simp
     simp only [Xd, hd]
     rw [Frame.finish_atR, hi']
     rfl
    ·rcases p4 with ⟨e, e2⟩ | ⟨d, e, hlt, e2⟩
     ·exact .inl ⟨e, e2⟩
     ·exact .inr ⟨d, e, hlt, e2⟩
    ·obtain ⟨hro, hnod⟩ := hf.ro
     refine ⟨?_, hnod⟩
     have := congrArg List.tail hro
     simpa using this
    ·show Rel ρ st'.mem st'.next w
     rw [show st'.mem = st.mem from p1, show st'.next = st.next from p2]; exact hrel
  ·cases h
 ·rename_i cx j k rnd rs env cs'
  obtain rfl := Option.some.inj h
  refine ⟨⟨hcs _ (List.mem_cons_self ..), fun af haf => hcs af (by simp [haf]), hle⟩, rfl, rfl, rfl, by simp, fun ρ css w mb u hv hr hrel => ?_⟩
  obtain ⟨hc, hnd, hmk, hlp, hinj⟩ := hr
  cases hc with
  | @cons _ b a k0 ms _ css' mss hf hl ht =>
   simp only at hf hl
   have htd := hf.todo
   cases htd with
   | cons hx htl =>
    cases hx with
    | same _ hp => cases hp
    | inR _ l hlj =>
     exact ⟨_, css', b, a, _, ms, mss, rfl, finish_atR_inRangeFunc l u, ⟨⟨hf.env, hf.defers, .cons (.endR _ l hlj) htl, trivial, hf.rnd⟩, hl, ⟨ht, hnd, hmk, hlp, hinj⟩, hrel⟩, by cases css' <;> rfl⟩
 ·cases h
theorem x0j {b : Frame} {a : Act} {k : List Item} {cs : List Frame} {w : World} {ops : Array Oper} {i : Nat} {rest : List Nat} {o : Oper} {f : FuncId} {args : Array Value} (ho : ops[i]? = some o) (hnd : ∀ c, o.op ≠ .defer c) (hw : Region.wanted o (yielded ops a.tmps) = true)
  (hr : (execOp a.eval o).run P w = .ok (.enter f args) w) : step P (lone (b.atR a (.inRegion ops (i :: rest) :: k)) cs w) = .next (lone (Frame.enter P f args .normal) (b.atR a (.inRegion ops (i :: rest) :: k) :: cs) w) := by
 have hg := stepGR_op (P := P) (b := b) (k := k) (cs := cs) (w := w) (rest := rest) ho hw
 rw [Oper.semAt_eq _ _ _ hnd] at hg
 exact step_lone_go (by rw [hg]; simp [stepG.apply, hr, Frame.atR])
theorem x0i {b : Frame} {a : Act} {k : List Item} {cs : List Frame} {w : World} {ops : Array Oper} {i : Nat} {rest : List Nat} {o : Oper} {l : Nat} {f : FuncId} {tmps : Array Value} {assign body : Code} (ho : ops[i]? = some o) (hnd : ∀ c, o.op ≠ .defer c) (hw : Region.wanted o (yielded ops a.tmps) = true)
  (hr : (execOp a.eval o).run P w = .ok (.round l f tmps assign body) w) : step P (lone (b.atR a (.inRegion ops (i :: rest) :: k)) cs w) = .next (lone (Frame.round l f tmps assign body .normal) (b.atR a (.inRegion ops (i :: rest) :: k) :: cs) w) := by
 have hg := stepGR_op (P := P) (b := b) (k := k) (cs := cs) (w := w) (rest := rest) ho hw
 rw [Oper.semAt_eq _ _ _ hnd] at hg
 exact step_lone_go (by rw [hg]; simp [stepG.apply, hr, Frame.atR])
theorem Ke {ρ : Rho} {n : Nat} : ∀ {ps : List Tmp} {args : List AVal} {env env' : T AVal} {vals : List Value} {tmps : Array Value}, y0i n ps args env = some env' → Xq ρ env n tmps → Wz (Ze ρ) args vals →
  ps.length = vals.length ∧ Xq ρ env' n ((ps.zip vals).foldl (fun t p => t.setIfInBounds p.1 p.2) tmps)
 | [], [], env, env', vals, tmps, h, he, ha => by
  cases ha
  obtain rfl := Option.some.inj h
  exact ⟨rfl, he⟩
 | t :: ps, x :: args, env, env', vals, tmps, h, he, ha => by
  cases ha with
  | @cons _ u _ vals hx ha =>
   unfold y0i at h
   obtain ⟨hc, h⟩ := Zc h
   have hlt := Nat.le_of_ble_eq_true hc
   have he' : Xq ρ (T.set .undef env t x) n (tmps.setIfInBounds t u) := by
    have := Xq.put (a := ⟨tmps, []⟩) (dst := some t) he hx (.inr ⟨t, rfl, hlt, rfl⟩)
    exact this
   obtain ⟨h1, h2⟩ := Ke h he' ha
   exact ⟨by simp [h1], h2⟩
 | [], _ :: _, _, _, _, _, h, _, _ => by cases h
 | _ :: _, [], _, _, _, _, h, _, _ => by cases h
theorem Fl.enter {fl : Nat} {cx : Ctx} {ro : Option RegOps} {todo : List Item} {rnd : Option Nat} {rs : List ResultVar} {st : St} {cs : List AFr} {lps lps' : Loops} (h : Fl fl ⟨cx, ro, todo, rnd, rs, st, cs, lps⟩) {n : Nat} {todo' : List Item} {rnd' : Option Nat} {rs' : List ResultVar} {st' : St} {ro' : Option RegOps} {td : List Item} {e : T AVal} (hn : st.next ≤ st'.next) :
  Fl fl ⟨⟨n, cx.floor, cx.sym⟩, none, todo', rnd', rs', st', ⟨cx, ro', td, rnd, rs, e⟩ :: cs, lps'⟩ :=
 ⟨h.cx, fun af haf => by
  rcases List.mem_cons.1 haf with rfl | haf
  ·exact h.cx
  ·exact h.cs af haf, Nat.le_trans h.le hn⟩
theorem z9s {base : Nat} {ρ : Rho} {f : FuncId} {args : List AVal} {cx : Ctx} {ro' : Option RegOps} {td : List Item} {rnd : Option Nat} {rs : List ResultVar} {e : T AVal} {st : St} {cs : List AFr} {lps : Loops} {C' : Cfg} {b : Frame} {a : Act} {k : List Item} {css : List Frame} {w : World} {ma mb : List Nat} {vals : Array Value}
  (h : z9t P f args ⟨cx, ro', td, rnd, rs, e⟩ st cs lps = some C') (hf : x3f ρ cx ro' td rnd e b a k ma) (hlv : cs ≠ [] → x7s P rnd rs b) (hr : y0d P base ρ cs lps css w ma mb) (hrel : Rel ρ st.mem st.next w) (hargs : Wz (Ze ρ) args vals.toList) :
  ∃ fn body, P.funcs[f]? = some fn ∧ fn.body = some body ∧ C' = ⟨⟨Nat.max fn.ntmps args.length, cx.floor, cx.sym⟩, none, [.code body], none, fn.results.toList, st.withEnv (z3u args 0 .leaf), ⟨cx, ro', td, rnd, rs, e⟩ :: cs, lps⟩ ∧
   ∃ b' a' k', Frame.enter P f vals .normal = b'.atR a' (Xd none k') ∧ w8v P base C' ρ b' a' k' (b.atR a (Xd ro' k) :: css) w [] (ma ++ mb) := by
 unfold z9t at h
 split at h
 ·rename_i fn hfn
  split at h
  ·rename_i body hb
   obtain rfl := Option.some.inj h
   refine ⟨fn, body, hfn, hb, rfl, ⟨f, #[], [], [], .run, .normal, none⟩, { tmps := vals ++ Array.replicate (fn.ntmps - vals.size) undef, defers := [] }, [.code body], ?_, ⟨⟨z7p hargs fn.ntmps, rfl, .cons (.same _ rfl) .nil, trivial, rfl⟩, fun _ => ⟨rfl, fun _ => ⟨fn, hfn, rfl⟩⟩, ?_, hrel⟩⟩
   ·simp [Frame.enter, Frame.atR, hfn, hb, Xd]
   ·exact ⟨.cons hf hlv hr.cs, hr.nodup, hr.marks, hr.loops, hr.inj⟩
  ·cases h
 ·cases h
theorem z1u {ρ : Rho} {ops : Array Oper} {o : Oper} {cx : Ctx} {st st1 : St} {e : Bool} (h : Jt ops o cx st = some (e, st1)) : st1.mem = st.mem ∧ st1.next = st.next ∧ (st1.ob = true → st.ob = true ∧ ∀ {tmps : Array Value}, Xq ρ st.env cx.n tmps → Xq ρ st1.env cx.n tmps ∧ Region.wanted o (yielded ops tmps) = e) := by
 obtain ⟨w1, w2, w3⟩ := Jz h
 refine ⟨w1, w2, fun ho => ⟨(w3 ho).1, fun {tmps} he => ⟨he.congr fun t => (w3 ho).2 t, Vt h ho he.size fun d _ => he.get d⟩⟩⟩
theorem y5s {ops : Array Oper} {i : Nat} {o : Oper} {l : List Oper} (h : o :: l = ops.toList.drop i) : ops[i]? = some o ∧ l = ops.toList.drop (i + 1) ∧ (List.range ops.size).drop i = i :: (List.range ops.size).drop (i + 1) := by
 have hi : ops.toList[i]? = some o := by
  have := congrArg (·[0]?) h
  simpa using this.symm
 have hi' : ops[i]? = some o := by simpa using hi
 have hlt : i < ops.size := (Array.getElem?_eq_some_iff.1 hi').1
 refine ⟨hi', ?_, ?_⟩
 ·have := congrArg List.tail h
  simpa using this
 ·rw [List.drop_eq_getElem_cons (by simpa using hlt)]; simp
theorem Je {ops : Array Oper} (h : Qe ops = true) {i : Nat} {o : Oper} (ho : ops[i]? = some o) (c : Call) : o.op ≠ .defer c := by
 intro hc
 have hm : o ∈ ops.toList := by rw [Array.mem_toList_iff]; exact Array.mem_of_getElem? ho
 have := List.all_eq_true.1 h o hm
 rw [hc] at this; cases this
theorem z7y {ρ : Rho} {st : St} {n : Nat} {a : Act} (he : Xq ρ st.env n a.tmps) (args : Array Operand) : Wz (Ze ρ) (args.toList.map st.eval) (args.map a.eval).toList := by
 rw [Array.toList_map]
 exact Wz.maps _ _ _ fun x _ => he.eval x
theorem y4y {ops : Array Oper} {i : Nat} (h : i < ops.size - 1) : (Xb ops)[i]? = ops[i]? := by
 unfold Xb
 have h2 : i < (ops.toList.take (ops.size - 1)).length := by simp; omega
 rw [List.getElem?_toArray, List.getElem?_append_left h2, List.getElem?_take, if_pos h, Array.getElem?_toList]
theorem y4z {ops : Array Oper} {i : Nat} (h : ops.size - 1 ≤ i) : (Xb ops)[i]? = (ops[i]?).map stubOp := by
 unfold Xb
 have hl : (ops.toList.take (ops.size - 1)).length = ops.size - 1 := by simp
 rw [List.getElem?_toArray, List.getElem?_append_right (by rw [hl]; exact h), hl, List.getElem?_map, List.getElem?_drop, show ops.size - 1 + (i - (ops.size - 1)) = i by omega, Array.getElem?_toList]
theorem y2d (ops : Array Oper) : (Xb ops).size = ops.size := by
 simp [Xb]
theorem z3j (ops : Array Oper) (i : Nat) : ((Xb ops)[i]?).map (·.after) = (ops[i]?).map (·.after) := by
 by_cases h : i < ops.size - 1
 ·rw [y4y h]
 ·rw [y4z (by omega)]
  cases ops[i]? <;> rfl
theorem x0h (md : Region.Mode) (ops : Array Oper) (listed : Array Bool) : Region.ready md (Xb ops) listed = Region.ready md ops listed := by
 unfold Region.ready
 rw [y2d]
 refine List.filter_congr fun i _ => ?_
 have h := z3j ops i
 cases h1 : (Xb ops)[i]? <;> cases h2 : ops[i]? <;> rw [h1, h2] at h <;> simp at h ⊢
 rw [h]
theorem y8l (md : Region.Mode) (ops : Array Oper) : ∀ (fuel t : Nat) (listed : Array Bool) (acc : List Nat), Region.linearise.go md (Xb ops) fuel t listed acc = Region.linearise.go md ops fuel t listed acc
 | 0, t, listed, acc => rfl
 | fuel + 1, t, listed, acc => by
  have e := x0h md ops listed
  unfold Region.ready at e
  simp only [Region.linearise.go]
  rw [e]
  split
  ·exact y8l md ops fuel _ _ _
  ·rfl
theorem x0n {ops : Array Oper} (hord : ∀ (j : Nat) o, ops[j]? = some o → ∀ e ∈ o.after.toList, Region.binds .any e = true → e.on < j) : ∀ listed : Array Bool, listed.size = ops.size → ∀ i, i < ops.size → listed.getD i false = false → ∃ j, j ∈ Region.ready .any ops listed := by
 intro listed hsz i
 induction i using Nat.strongRecOn with
 | _ i ih =>
  intro hi hl
  by_cases h : ∃ e ∈ (ops[i]).after.toList, Region.binds .any e = true ∧ listed.getD e.on false = false
  ·obtain ⟨e, he, hb, hf⟩ := h
   have hlt := hord i ops[i] (by simp [hi]) e he hb
   exact ih e.on hlt (by omega) hf
  ·refine ⟨i, mem_ready.2 ⟨?_, ops[i], by simp [hi], fun e he hb => ?_⟩⟩
   ·have : i < listed.size := by omega
    simpa [this] using hl
   ·cases hf : listed.getD e.on false with
    | true => rfl
    | false => exact absurd ⟨e, Array.mem_toList_iff.2 he, hb, hf⟩ h
theorem w0b {ops : Array Oper} {m : Nat} {o : Oper} (hord : ∀ (j : Nat) o, ops[j]? = some o → ∀ e ∈ o.after.toList, Region.binds .any e = true → e.on < j) (hm : ops.size = m + 1) (ho : ops[m]? = some o) (hf : ∀ i, i < m → y0f ops i o) :
  ∀ (fuel t : Nat) (listed : Array Bool), listed.size = ops.size → z8m ops (fun i => listed.getD i false) → (List.range ops.size).countP (fun i => !listed.getD i false) = fuel → listed.getD m false = false →
   ∃ l, Region.linearise.go .any ops fuel t listed [] = l ++ [m] ∧ ∀ i ∈ l, i < m := by
 intro fuel
 induction fuel with
 | zero =>
  intro t listed hsz _ hc hl
  have := List.countP_eq_zero.1 hc m (List.mem_range.2 (by omega))
  rw [hl] at this; simp at this
 | succ fuel ih =>
  intro t listed hsz hcl hc hl
  obtain ⟨j0, hj0⟩ := x0n hord listed hsz m (by omega) hl
  have hne : Region.ready .any ops listed ≠ [] := fun e => by rw [e] at hj0; cases hj0
  have hlt : t % (Region.ready .any ops listed).length < (Region.ready .any ops listed).length := Nat.mod_lt _ (List.length_pos_iff.2 hne)
  have hgo : Region.linearise.go .any ops (fuel + 1) t listed [] = (match (Region.ready .any ops listed)[t % (Region.ready .any ops listed).length]? with
   | some i => Region.linearise.go .any ops fuel (t / (Region.ready .any ops listed).length) (listed.setIfInBounds i true) [i]
   | none => [].reverse) := rfl
  rw [hgo, List.getElem?_eq_getElem hlt]
  simp only
  have hi := List.getElem_mem hlt
  generalize (Region.ready .any ops listed)[t % (Region.ready .any ops listed).length] = i at hi
  obtain ⟨h1, x, hx, hr⟩ := mem_ready.1 hi
  have hil : i < ops.size := (Array.getElem?_eq_some_iff.1 hx).1
  have hils : i < listed.size := by omega
  have hif : listed.getD i false = false := by simpa [hils] using h1
  rw [linearise_go_acc, List.reverse_singleton, List.singleton_append]
  have hset : ∀ q, (listed.setIfInBounds i true).getD q false = (listed.getD q false || q == i) := fun q => by
   by_cases hq : q = i
   ·subst hq; simp [hils]
   ·have : (q == i) = false := by simp [hq]
    rw [this, Bool.or_false]
    simp [Array.getD_eq_getD_getElem?, Ne.symm hq]
  have hready : y4n (fun i => listed.getD i false) x := fun e he hb => hr e (Array.mem_toList_iff.1 he) hb
  have hcl' : z8m ops (fun q => (listed.setIfInBounds i true).getD q false) := fun j y hy hs e he hb => by
   simp only [hset] at hs ⊢
   by_cases hji : j = i
   ·subst hji
    rw [hx] at hy
    obtain rfl := Option.some.inj hy
    have := hready e he hb
    simp only at this
    rw [this]; rfl
   ·have hs' : listed.getD j false = true := by simpa [hji] using hs
    have := hcl j y hy hs' e he hb
    simp only at this
    rw [this]; rfl
  have hc' : (List.range ops.size).countP (fun q => !(listed.setIfInBounds i true).getD q false) = fuel := by
   have := Ks (fun q => !listed.getD q false) (fun q => !(listed.setIfInBounds i true).getD q false) i ops.size (fun k hk => by simp only [hset]; simp [hk]) (by simp only [hif]; rfl) (by simp only [hset]; simp) hil
   omega
  by_cases him : i = m
  ·subst him
   rw [ho] at hx
   obtain rfl := Option.some.inj hx
   have hall : ∀ q, q < i → listed.getD q false = true := fun q hq => hf q hq _ hcl hready
   have h0 : fuel = 0 := by
    rw [← hc', List.countP_eq_zero]
    intro q hq
    have := List.mem_range.1 hq
    simp only [hset]
    by_cases hqi : q = i
    ·simp [hqi]
    ·rw [hall q (by omega)]; simp
   subst h0
   exact ⟨[], rfl, fun q hq => by cases hq⟩
  ·have hml : (listed.setIfInBounds i true).getD m false = false := by
    rw [hset, hl]; simpa using Ne.symm him
   obtain ⟨l, h2, h3⟩ := ih (t / (Region.ready .any ops listed).length) (listed.setIfInBounds i true) (by simpa using hsz) hcl' hc' hml
   exact ⟨i :: l, by rw [h2]; rfl, fun q hq => by
    rcases List.mem_cons.1 hq with rfl | hq
    ·omega
    ·exact h3 q hq⟩
theorem z9a {b : Frame} {k : List Item} {cs : List Frame} {ops : Array Oper} {Q : Exit → Act → World → Prop} (hQ : ∀ e a w, Q e a w → e = .normal) {m : Nat} {o : Oper} (hm : ops.size = m + 1) (ho : ops[m]? = some o) (hnd : Qe ops = true)
  (hg : ∀ i x g, i < m → ops[i]? = some x → x.guard = some g → g.1 < m) : ∀ (l : List Nat) (a : Act) (w : World), (∀ i ∈ l, i < m) → wpOps P (Xb ops) Q (l ++ [m]) a w →
   ∃ a' w', Q .normal a' w' ∧ Steps P (lone (b.atR a (.inRegion ops (l ++ [m]) :: k)) cs w) (lone (b.atR a' (.inRegion ops [m] :: k)) cs w')
 | [], a, w, _, h => by
  simp only [List.nil_append, wpOps] at h
  rw [y4z (by omega), ho] at h
  simp only [Option.map_some] at h
  have hw : Region.wanted (stubOp o) (yielded (Xb ops) a.tmps) = true := rfl
  rw [if_pos hw] at h
  rcases h with h | ⟨_, a0, w0, h0⟩
  ·refine ⟨a, w, ?_, Steps.refl _ _⟩
   have h : Q .normal (a.put none (a.eval (.const (.bool true)))) w := h
   exact h
  ·exact absurd (hQ _ _ _ h0) (by simp)
 | i :: l, a, w, hl, h => by
  have him := hl i (by simp)
  have hi' : i < ops.size - 1 := by omega
  simp only [List.cons_append, wpOps] at h
  rw [y4y hi'] at h
  have hil : i < ops.size := by omega
  obtain ⟨x, hx⟩ : ∃ x, ops[i]? = some x := ⟨ops[i], by simp [hil]⟩
  rw [hx] at h
  simp only at h
  have hy : Region.wanted x (yielded (Xb ops) a.tmps) = Region.wanted x (yielded ops a.tmps) := by
   unfold Region.wanted
   cases hgx : x.guard with
   | none => rfl
   | some g =>
    obtain ⟨j, want⟩ := g
    have hj := hg i x _ him hx hgx
    simp only at hj ⊢
    unfold yielded
    rw [y4y (by omega)]
  rw [hy] at h
  have h' : if Region.wanted x (yielded ops a.tmps) then x.wp P a w (wpOps P (Xb ops) Q (l ++ [m])) Q else wpOps P (Xb ops) Q (l ++ [m]) (a.put x.dst undef) w := by
   by_cases hw : Region.wanted x (yielded ops a.tmps) = true
   ·simp only [hw, if_true] at h ⊢
    rcases h with h | ⟨_, a0, w0, h0⟩
    ·exact h
    ·exact absurd (hQ _ _ _ h0) (by simp)
   ·simp only [hw, if_false, Bool.false_eq_true] at h ⊢
    exact h
  obtain ⟨a1, w1, h1, s1⟩ := y0v (b := b) (k := k) (cs := cs) (rest := l ++ [m]) hQ hx (Je hnd hx) h'
  obtain ⟨a', w', hR, hs⟩ := z9a hQ hm ho hnd hg l a1 w1 (fun q hq => hl q (by simp [hq])) h1
  exact ⟨a', w', hR, s1.trans hs⟩
theorem x0g {ops : Array Oper} {st : St} {o : Oper} (h : w5d ops st = some o) : ∃ m, ops.size = m + 1 ∧ ops[m]? = some o ∧ ops.size - 1 = m ∧ [o] = ops.toList.drop m ∧ Qe ops = true ∧ y3x (Xb ops) = true ∧ (∀ i, i < m → y0f (Xb ops) i (stubOp o)) ∧
  ∀ i x g, i < m → ops[i]? = some x → x.guard = some g → g.1 < m := by
 unfold w5d at h
 split at h
 ·rename_i o' hd
  obtain ⟨hc, h⟩ := Zc h
  obtain rfl := Option.some.inj h
  simp only [w2e, Bool.and_eq_true] at hc
  obtain ⟨_, hnd, hdr, hall⟩ := hc
  have hlen := congrArg List.length hd
  simp at hlen
  have hm : ops.size = (ops.size - 1) + 1 := by omega
  have ho : ops[ops.size - 1]? = some o' := by
   have := congrArg (·[0]?) hd
   simpa using this
  refine ⟨ops.size - 1, hm, ho, rfl, hd.symm, hnd, hdr, fun i hi => ?_, fun i x g hi hx hgx => ?_⟩
  ·have := List.all_eq_true.1 hall i (List.mem_range.2 hi)
   simp only [Bool.and_eq_true] at this
   exact ((z1p hdr).bits (ops.size - 1) (stubOp o') (by rw [y4z (Nat.le_refl _), ho]; rfl) i this.1).2
  ·have := List.all_eq_true.1 hall i (List.mem_range.2 hi)
   simp only [Bool.and_eq_true] at this
   have h2 := this.2
   rw [hx] at h2
   obtain ⟨dst, op, type, pos, after, guard⟩ := x
   simp only at hgx
   subst hgx
   obtain ⟨j, want⟩ := g
   exact Nat.le_of_ble_eq_true h2
 ·cases h
end
end Go.Am
namespace Go.Am
section
variable {P : Program}
theorem x0l {S : Specs} {Rc : Runner} (hN : z4c P) (hS : Zu P S) (hCI : x3e Rc) (hC : ROk P Rc) {fl : Nat} {cx : Ctx} {ops : Array Oper} {i : Nat} {o : Oper} {l : List Oper} {todo : List Item} {rnd : Option Nat} {rs : List ResultVar} {st : St} {cs : List AFr} {lps : Loops} {C' : Cfg}
  (hfl : Fl fl ⟨cx, some (ops, i, o :: l), todo, rnd, rs, st, cs, lps⟩) (h : x3n P S Rc cx ops i o l todo rnd rs st cs lps = some C') : Sim P fl ⟨cx, some (ops, i, o :: l), todo, rnd, rs, st, cs, lps⟩ C' := by
 have plain : ∀ st2, z4u P S Rc ops cx (false, o) st = some st2 → Sim P fl ⟨cx, some (ops, i, o :: l), todo, rnd, rs, st, cs, lps⟩ ⟨cx, some (ops, i + 1, l), todo, rnd, rs, st2, cs, lps⟩ := by
  intro st2 h1
  have hcx : cx.floor ≤ st.next := by have := hfl.le; have e := hfl.cx; simp only at e this; omega
  have s1 := z9c hN hS hCI hC hcx h1
  have e := hfl.cx
  simp only at e
  refine ⟨⟨e, hfl.cs, Nat.le_trans hfl.le s1.inv.nxt⟩, by rw [← e]; exact s1.inv, fun ho m0 n0 ρ0 w0 ρ b a k css w ma mb hs he cs0 => ?_⟩
  obtain ⟨henv, hdf, htd, ⟨hro, hnod⟩, hrnd⟩ := hs.top
  simp only at henv hdf htd hro hrnd
  obtain ⟨ho_i, hl', hdrop⟩ := y5s hro
  have key := s1.does ho ρ a w st.eval henv.size (fun _ _ => rfl) (fun d _ => henv.get d) (fun y _ => henv.eval y) hs.rel
   (fun a' w' => ∃ ρ', a'.defers = a.defers ∧ Xq ρ' st2.env cx.n a'.tmps ∧ Rel ρ' st2.mem st2.next w' ∧ Ev ρ ρ' cx.floor st.mem st.next st2.mem st2.next w w') (fun e _ _ => e = .normal) (fun ρ' u w' hval hrel' hev => by
    refine ⟨ρ', Act.put_defers' _ _ _, ?_, hrel', hev⟩
    cases hdst : o.dst with
    | none => exact ((henv.mono hev.ext).congr fun t => s1.other ho t (by rw [hdst]; simp))
    | some d =>
     refine ((henv.mono hev.ext).put (hval d hdst) (.inr ⟨d, rfl, s1.slot d hdst, rfl⟩)).congr fun t => ?_
     rw [T.get_set]
     split
     ·rename_i e; subst e; rfl
     ·rename_i e; exact s1.other ho t (by rw [hdst]; intro h; exact e (Option.some.inj h).symm))
  obtain ⟨a', w', ⟨ρ', hd', he', hr', hev⟩, hsteps⟩ := y0v (b := b) (k := k) (cs := css ++ cs0) (rest := (List.range ops.size).drop (i + 1)) (fun e a w h => h) ho_i (Je hnod ho_i) key
  refine ⟨ρ', b, a', k, css, w', ma, mb, by rw [Xd, hdrop]; exact hsteps, ⟨⟨he', by rw [hd']; exact hdf, htd.mono fun _ _ => x0a.mono hev.ext, ⟨hl', hnod⟩, ?_⟩, hs.lv, hs.rest.ev hev, hr'⟩, he.trans (by rw [← e]; exact hev), rfl⟩
  exact ((⟨henv, hdf, htd, ⟨hro, hnod⟩, hrnd⟩ : x3f ρ cx (some (ops, i, o :: l)) todo rnd st.env b a k ma).mono hev.ext).rnd
 unfold x3n at h
 split at h
 ·rename_i st1 hw
  split at h
  ·-- a function is entered
   rename_i g args hcal
   obtain ⟨w1, w2, w3⟩ := z1u (ρ := ⟨fun _ => none, fun _ => none, fun _ => none⟩) hw
   have hCeq : ∃ fn body, P.funcs[g]? = some fn ∧ fn.body = some body ∧ C' = ⟨⟨Nat.max fn.ntmps args.length, cx.floor, cx.sym⟩, none, [.code body], none, fn.results.toList, st1.withEnv (z3u args 0 .leaf), ⟨cx, some (ops, i, o :: l), todo, rnd, rs, st1.env⟩ :: cs, lps⟩ := by
    unfold z9t at h
    split at h
    ·rename_i fn hfn
     split at h
     ·rename_i body hb
      exact ⟨fn, body, hfn, hb, (Option.some.inj h).symm⟩
     ·cases h
    ·cases h
   obtain ⟨fn, body, hfn, hb, hCe⟩ := hCeq
   have hmem : C'.st.mem = st.mem := by rw [hCe]; exact w1
   have hnext : C'.st.next = st.next := by rw [hCe]; exact w2
   refine ⟨by rw [hCe]; exact hfl.enter (Nat.le_of_eq w2.symm), Xp.same hmem hnext fun ho => (w3 (by rw [hCe] at ho; exact ho)).1, fun ho m0 n0 ρ0 w0 ρ b a k css w ma mb hs he cs0 => ?_⟩
   have ho1 : st1.ob = true := by rw [hCe] at ho; exact ho
   obtain ⟨henv, hdf, htd, ⟨hro, hnod⟩, hrnd⟩ := hs.top
   simp only at henv hdf htd hro hrnd
   obtain ⟨ho_i, hl', hdrop⟩ := y5s hro
   obtain ⟨_, _, w3'⟩ := z1u (ρ := ρ) hw
   obtain ⟨henv1, hwt⟩ := (w3' ho1).2 henv
   have hexec : ∃ vals, (execOp a.eval o).run P w = .ok (.enter g vals) w ∧ Wz (Ze ρ) args vals.toList := by
    obtain ⟨dst, op, type, pos, after, guard⟩ := o
    simp only at hcal ⊢
    unfold callee at hcal
    split at hcal
    ·rename_i f cargs argTypes
     split at hcal
     ·rename_i g' caps hg
      split at hcal
      ·cases hcal
      ·simp only [Option.some.injEq, Sum.inl.injEq, Prod.mk.injEq] at hcal
       obtain ⟨rfl, rfl⟩ := hcal
       have hf := henv1.eval f
       rw [hg] at hf
       generalize hw' : a.eval f = u at hf
       cases hf with
       | fn _ _ cvs hl hh =>
        have := Kp hN hfn (by rw [hb]; rfl) (cargs.map a.eval ++ cvs) w
        refine ⟨cargs.map a.eval ++ cvs, by simp [execOp, resolve, Deferred.ofValue, hw', invoke, this], ?_⟩
        rw [Array.toList_append]
        exact Wz.append (z7y henv1 cargs) (Wz.of (by simpa using hl) fun i h1 h2 => by simpa using hh i h1 (by simpa using h2))
     ·rename_i g' first hg
      split at hcal
      ·cases hcal
      ·simp only [Option.some.injEq, Sum.inl.injEq, Prod.mk.injEq] at hcal
       obtain ⟨rfl, rfl⟩ := hcal
       have hf := henv1.eval f
       rw [hg] at hf
       generalize hw' : a.eval f = u at hf
       cases hf with
       | fnb _ _ cvs hl hh =>
        have := Kp hN hfn (by rw [hb]; rfl) (cvs ++ cargs.map a.eval) w
        refine ⟨cvs ++ cargs.map a.eval, by simp [execOp, resolve, Deferred.ofValue, hw', invoke, this], ?_⟩
        rw [Array.toList_append]
        exact Wz.append (Wz.of (by simpa using hl) fun i h1 h2 => by simpa using hh i h1 (by simpa using h2)) (z7y henv1 cargs)
     ·cases hcal
     ·cases hcal
    ·cases hcal
   obtain ⟨vals, hex, hargs⟩ := hexec
   have hstep := x0j (b := b) (k := k) (cs := css ++ cs0) (rest := (List.range ops.size).drop (i + 1)) ho_i (Je hnod ho_i) hwt hex
   obtain ⟨_, _, _, _, _, b', a', k', hen, hsr⟩ := z9s h (⟨henv1, hdf, htd, ⟨hro, hnod⟩, hrnd⟩) hs.lv hs.rest (by rw [w1, w2]; exact hs.rel) hargs
   refine ⟨ρ, b', a', k', _, w, _, _, .one ?_, hsr, by rw [hmem, hnext]; exact he, by cases css <;> rfl⟩
   rw [show C'.ro = none by rw [hCe], ← hen]
   simp only [Xd, hdrop]
   exact hstep
  ·-- a round is entered
   rename_i j args hcal
   obtain ⟨w1, w2, w3⟩ := z1u (ρ := ⟨fun _ => none, fun _ => none, fun _ => none⟩) hw
   unfold w2z at h
   split at h
   ·rename_i lst lpend ln lenv lparams lassign lbody hlg
    split at h
    ·rename_i env' hsa
     obtain rfl := Option.some.inj h
     refine ⟨hfl.enter (Nat.le_of_eq w2.symm), Xp.same w1 w2 fun ho => (w3 ho).1, fun ho m0 n0 ρ0 w0 ρ b a k css w ma mb hs he cs0 => ?_⟩
     have ho1 : st1.ob = true := ho
     obtain ⟨henv, hdf, htd, ⟨hro, hnod⟩, hrnd⟩ := hs.top
     simp only at henv hdf htd hro hrnd
     obtain ⟨ho_i, hl', hdrop⟩ := y5s hro
     obtain ⟨_, _, w3'⟩ := z1u (ρ := ρ) hw
     obtain ⟨henv1, hwt⟩ := (w3' ho1).2 henv
     obtain ⟨lr, hlp, hlow, hsp, ltmps, lfn, ld, hobj, hlenv⟩ := hs.rest.loops j _ hlg
     simp only at hobj hlenv
     have hexec : ∃ vals : Array Value, Wz (Ze ρ) args vals.toList ∧ (execOp a.eval o).run P w = .ok (.round lr lfn ((lparams.toArray.zip vals).foldl (fun tmps (t, x) => tmps.setIfInBounds t x) ltmps) lassign lbody) w := by
      obtain ⟨dst, op, type, pos, after, guard⟩ := o
      simp only at hcal ⊢
      unfold callee at hcal
      split at hcal
      ·rename_i f cargs argTypes
       split at hcal
       ·split at hcal <;> cases hcal
       ·split at hcal <;> cases hcal
       ·rename_i j' hg
        simp only [Option.some.injEq, Sum.inr.injEq, Prod.mk.injEq] at hcal
        obtain ⟨rfl, rfl⟩ := hcal
        have hf := henv1.eval f
        rw [hg] at hf
        generalize hw' : a.eval f = u at hf
        cases hf with
        | yld _ l' hl' =>
         rw [hlp] at hl'
         obtain rfl := Option.some.inj hl'
         have hca := z7y henv1 cargs
         obtain ⟨hlen, _⟩ := Ke hsa hlenv hca
         refine ⟨cargs.map a.eval, hca, ?_⟩
         have := run_yield (P := P) (args := cargs.map a.eval) hobj (by simpa using hlen.symm)
         simp [execOp, resolve, Deferred.ofValue, hw', invoke, this]
       ·cases hcal
      ·cases hcal
     obtain ⟨vals, hargs, hex⟩ := hexec
     obtain ⟨_, henv'⟩ := Ke hsa hlenv hargs
     have hstep := x0i (b := b) (k := k) (cs := css ++ cs0) (rest := (List.range ops.size).drop (i + 1)) ho_i (Je hnod ho_i) hwt hex
     refine ⟨ρ, ⟨lfn, #[], [], [], .run, .normal, some lr⟩, { tmps := (lparams.toArray.zip vals).foldl (fun tmps (t, x) => tmps.setIfInBounds t x) ltmps, defers := [] }, [.code lassign, .beginRound, .code lbody], b.atR a (Xd (some (ops, i, o :: l)) k) :: css, w, [], ma ++ mb, .one ?_, ⟨⟨?_, rfl, .cons (.same _ rfl) (.cons (.same _ rfl) (.cons (.same _ rfl) .nil)), trivial, ⟨rfl, lr, hlp, rfl⟩⟩, fun _ => ⟨rfl, fun h0 => by cases h0⟩, ?_, by rw [show (st1.withEnv env').mem = st.mem from w1, show (st1.withEnv env').next = st.next from w2]; exact hs.rel⟩, by rw [show (st1.withEnv env').mem = st.mem from w1, show (st1.withEnv env').next = st.next from w2]; exact he, by cases css <;> rfl⟩
     ·simp only [Xd, hdrop]
      exact hstep
     ·have : (lparams.toArray.zip vals).foldl (fun tmps (t, x) => tmps.setIfInBounds t x) ltmps = (lparams.zip vals.toList).foldl (fun t p => t.setIfInBounds p.1 p.2) ltmps := by
       rw [← Array.foldl_toList]; simp
      simp only [this]
      exact henv'
     ·exact ⟨.cons ⟨henv1, hdf, htd, ⟨hro, hnod⟩, hrnd⟩ hs.lv hs.rest.cs, hs.rest.nodup, hs.rest.marks, hs.rest.loops, hs.rest.inj⟩
    ·cases h
   ·cases h
  ·split at h
   ·rename_i st2 hop
    obtain rfl := Option.some.inj h
    exact plain st2 (by unfold z4u; rw [hw]; exact hop)
   ·cases h
 ·rename_i st1 hw
  split at h
  ·rename_i st2 hp
   obtain rfl := Option.some.inj h
   exact plain st2 (by unfold z4u; rw [hw]; exact hp)
  ·cases h
 ·cases h
end
end Go.Am
namespace Go.Am
section
variable {P : Program}
theorem z8p.item {ρ : Rho} {x : Item} {t k : List Item} (hx : Un x = true) (h : z8p ρ (x :: t) k) : ∃ k', k = x :: k' ∧ z8p ρ t k' := by
 cases h with
 | cons h ht =>
  cases h with
  | same _ _ => exact ⟨_, rfl, ht⟩
  | inR j l e => cases hx
  | endR j l e => cases hx
theorem z7e {fl : Nat} {cx : Ctx} {todo : List Item} {rnd : Option Nat} {rs : List ResultVar} {st : St} {cs : List AFr} {lps : Loops} {jump : Option Code} {C' : Cfg} (hfl : Fl fl ⟨cx, none, todo, rnd, rs, st, cs, lps⟩)
  (h : y3i P rnd rs st cs lps jump = some C') (hj : (todo = [] ∧ jump = none) ∨ (∃ t, todo = .code .ret :: t ∧ jump = some .ret) ∨ (∃ id t, todo = .code (.exit id) :: t ∧ exitTo id t = none ∧ jump = some (.exit id) ∧ rnd.isSome = true)) :
  Sim P fl ⟨cx, none, todo, rnd, rs, st, cs, lps⟩ C' := by
 unfold y3i at h
 split at h
 ·split at h
  ·rename_i vs hvs
   obtain ⟨hfl', hm, hn, hob, hne, key⟩ := y0u (P := P) (base := 0) h hfl.cs hfl.le
   refine ⟨hfl', Xp.same hm hn fun ho => by rw [← hob]; exact ho, fun ho m0 n0 ρ0 w0 ρ b a k css w ma mb hs he cs0 => ?_⟩
   obtain ⟨_, _, _, _, _, key⟩ := y0u (P := P) (base := w0.heap.size) h hfl.cs hfl.le
   have htd : todo = [] ∨ ∃ t, todo = .code .ret :: t := by
    rcases hj with ⟨e, _⟩ | ⟨t, e, _⟩ | ⟨_, _, _, _, _, e⟩
    ·exact .inl e
    ·exact .inr ⟨t, e⟩
    ·cases e
   obtain ⟨w', hsteps, henv, hrel, hev, hrest⟩ := z7s hs rfl rfl htd rfl he (css ++ cs0)
   obtain ⟨hk, hfn⟩ := hs.lv hne
   obtain ⟨fn, hfn, hrs⟩ := hfn rfl
   simp only at hrs hfn
   obtain ⟨u, hu, hres⟩ := Ki (fn := fn) henv hrel (by rw [hrs]; exact hvs)
   obtain ⟨c, css', b', a', k', ma', mb', rfl, hfin, hsr, hbot⟩ := key ρ css w' mb u hu hrest hrel
   refine ⟨ρ, b', a', k', css', w', ma', mb', hsteps.trans (.one ?_), hsr, by rw [hm, hn]; exact hev, by rw [hbot]; rfl⟩
   rw [← hfin]
   exact step_leave_returned (fr := { b.atR { a with defers := [] } k with mode := .returning }) ⟨rfl, rfl, hk, fn, hfn, hres⟩
  ·cases h
 ·rename_i j
  split at h
  ·rename_i lst lpend ln lenv lparams lassign lbody hlg
   obtain ⟨hfl', hm, hn, hob, hne, _⟩ := y0u (P := P) (base := 0) h hfl.cs hfl.le
   refine ⟨hfl', Xp.same hm hn fun ho => by rw [← hob]; exact ho, fun ho m0 n0 ρ0 w0 ρ b a k css w ma mb hs he cs0 => ?_⟩
   obtain ⟨_, _, _, _, _, key⟩ := y0u (P := P) (base := w0.heap.size) h hfl.cs hfl.le
   obtain ⟨rfl, lr0, hlp0, hro⟩ := hs.top.rnd
   obtain ⟨lr, hla⟩ := hs.rest.loops j _ hlg
   have hla' := hla
   obtain ⟨hlp, hlow, hsp, ltmps, lfn, ld, hobj, hlenv⟩ := hla
   rw [hlp] at hlp0
   obtain rfl := Option.some.inj hlp0
   have hrun := run_endRound (P := P) jump hobj
   have hlst : (if jump.isNone then LoopState.ready else LoopState.done) = y3l jump := by cases jump <;> rfl
   rw [hlst] at hrun
   have hrest := hs.rest.record (w' := w.putObj lr (.loop ⟨y3l jump, jump, lfn, ltmps, lparams.toArray, lassign, lbody, ld⟩)) hlg hla' (L' := ⟨y3l jump, jump, ln, lenv, lparams, lassign, lbody⟩)
    ⟨hlp, hlow, hsp.turned (Xs.put _ _ _), ltmps, lfn, ld, World.putObj_heap_same hsp.1, hlenv⟩ (Xs.put _ _ _)
   obtain ⟨c, css', b', a', k', ma', mb', rfl, hfin, hsr, hbot⟩ := key ρ css _ mb (.bool jump.isNone) (.bool _) hrest (hs.rel.turned (fun r hr => by rw [List.mem_singleton.1 hr]; exact hsp) (Xs.put _ _ _))
   have hev := he.turned (m := [lr]) (fun r hr => by rw [List.mem_singleton.1 hr]; exact hlow) (Xs.put w lr (.loop ⟨y3l jump, jump, lfn, ltmps, lparams.toArray, lassign, lbody, ld⟩))
   refine ⟨ρ, b', a', k', css', _, ma', mb', .one ?_, hsr, by rw [hm, hn]; exact hev, by rw [hbot]; rfl⟩
   obtain ⟨hk, _⟩ := hs.lv hne
   rw [← hfin]
   have htd := hs.top.todo
   rcases hj with ⟨rfl, rfl⟩ | ⟨t, rfl, rfl⟩ | ⟨id, t, rfl, hx, rfl, _⟩
   ·cases htd
    exact stepR_round_end hro hk hrun
   ·obtain ⟨k', rfl, _⟩ := htd.code
    exact stepR_round_ret hro hk hrun
   ·obtain ⟨k', rfl, ht⟩ := htd.code
    exact stepR_round_exit hro hk ((ht.exit id).2 hx) hrun
  ·cases h
theorem y2e {S : Specs} {Rc : Runner} (hN : z4c P) (hmx : P.follows .mixedOrders = true) (hS : Zu P S) (hCI : x3e Rc) (hC : ROk P Rc) {fl : Nat} {C C' : Cfg} (hfl : Fl fl C) (h : x0k P S Rc C = some C') : Sim P fl C C' := by
 unfold x0k at h
 split at h
 ·-- a region's end
  rename_i ops i todo rnd rs st cs lps
  obtain rfl := Option.some.inj h
  refine ⟨⟨hfl.cx, hfl.cs, hfl.le⟩, Xp.refl _ _, fun ho m0 n0 ρ0 w0 ρ b a k css w ma mb hs he cs0 => ?_⟩
  obtain ⟨henv, hdf, htd, ⟨hro, hnod⟩, hrnd⟩ := hs.top
  refine ⟨ρ, b, a, k, css, w, ma, mb, .one ?_, ⟨⟨henv, hdf, htd, trivial, hrnd⟩, hs.lv, hs.rest, hs.rel⟩, he, rfl⟩
  have hge : ops.size ≤ i := by
   have := congrArg List.length hro
   simp at this; omega
  have : (List.range ops.size).drop i = [] := List.drop_eq_nil_of_le (by simpa using hge)
  simp only [Xd, this]
  exact stepR_region_end
 ·exact x0l hN hS hCI hC hfl h
 ·rename_i cx todo rnd rs st cs lps
  split at h
  ·exact z7e hfl h (.inl ⟨rfl, rfl⟩)
  ·exact z7e hfl h (.inr (.inl ⟨_, rfl, rfl⟩))
  ·obtain rfl := Option.some.inj h
   exact Sim.move hfl fun ρ k hk => by obtain ⟨k', rfl, ht⟩ := hk.code; exact ⟨k', ht, fun b a css w => stepR_skip⟩
  ·obtain rfl := Option.some.inj h
   exact Sim.move hfl fun ρ k hk => by obtain ⟨k', rfl, ht⟩ := hk.code; exact ⟨k', ht, fun b a css w => stepR_label⟩
  ·obtain rfl := Option.some.inj h
   exact Sim.move hfl fun ρ k hk => by obtain ⟨k', rfl, ht⟩ := z8p.item rfl hk; exact ⟨k', ht, fun b a css w => stepR_inBlock⟩
  ·obtain rfl := Option.some.inj h
   exact Sim.move hfl fun ρ k hk => by
    obtain ⟨k', rfl, ht⟩ := z8p.item rfl hk
    exact ⟨k', ht, fun b a css w => step_lone_go (by simp [stepG, stepG.exec, Frame.atR])⟩
  ·obtain rfl := Option.some.inj h
   exact Sim.move hfl fun ρ k hk => by obtain ⟨k', rfl, ht⟩ := hk.code; exact ⟨_, .cons (.same _ rfl) (.cons (.same _ rfl) ht), fun b a css w => stepR_seq⟩
  ·-- a test
   rename_i c x y k0
   split at h
   ·rename_i v hv
    split at h
    rename_i e st1 ht
    obtain rfl := Option.some.inj h
    obtain ⟨t1, t2, t3, t4⟩ := z6j ht
    refine ⟨⟨hfl.cx, hfl.cs, by have := hfl.le; simp only at this ⊢; omega⟩, Xp.same t2 t3 fun ho => (t4 ho).2, fun ho m0 n0 ρ0 w0 ρ b a k css w ma mb hs he cs0 => ?_⟩
    obtain ⟨rfl, _⟩ := t4 ho
    obtain ⟨henv, hdf, htd, hro, hrnd⟩ := hs.top
    obtain ⟨k', rfl, htl⟩ := htd.code
    have hc := henv.eval c
    rw [hv] at hc
    have hev : a.eval c = .bool e := by
     generalize a.eval c = u at hc
     cases hc; rfl
    refine ⟨ρ, b, a, _, css, w, ma, mb, .one (stepR_cond hev), ⟨⟨by rw [t1]; exact henv, hdf, .cons ?_ htl, trivial, hrnd⟩, hs.lv, hs.rest, by rw [t2, t3]; exact hs.rel⟩, by rw [t2, t3]; exact he, rfl⟩
    cases e <;> exact .same _ rfl
   ·cases h
  ·obtain rfl := Option.some.inj h
   exact Sim.move hfl fun ρ k hk => by obtain ⟨k', rfl, ht⟩ := hk.code; exact ⟨_, .cons (.same _ rfl) (.cons (.same _ rfl) ht), fun b a css w => stepR_block⟩
  ·obtain rfl := Option.some.inj h
   exact Sim.move hfl fun ρ k hk => by
    obtain ⟨k', rfl, ht⟩ := hk.code
    exact ⟨_, .cons (.same _ rfl) (.cons (.same _ rfl) ht), fun b a css w => step_lone_go (by simp [stepG, stepG.exec, Frame.atR])⟩
  ·obtain rfl := Option.some.inj h
   exact Sim.move hfl fun ρ k hk => by obtain ⟨k', rfl, ht⟩ := hk.code; exact ⟨_, .cons (.same _ rfl) (.cons (.same _ rfl) ht), fun b a css w => stepR_loop⟩
  ·obtain rfl := Option.some.inj h
   exact Sim.move hfl fun ρ k hk => by obtain ⟨k', rfl, ht⟩ := z8p.item rfl hk; exact ⟨_, .cons (.same _ rfl) (.cons (.same _ rfl) ht), fun b a css w => stepR_inLoop⟩
  ·-- an exit
   rename_i id k0
   split at h
   ·rename_i k1 hx
    obtain rfl := Option.some.inj h
    exact Sim.move hfl fun ρ k hk => by
     obtain ⟨k', rfl, ht⟩ := hk.code
     obtain ⟨r', h1, h2⟩ := (ht.exit id).1 _ hx
     exact ⟨r', h2, fun b a css w => stepR_exit h1⟩
   ·rename_i hx
    split at h
    ·exact z7e hfl h (.inr (.inr ⟨id, k0, rfl, hx, rfl, rfl⟩))
    ·cases h
  ·-- a region in the order of the text
   rename_i id ops k0
   obtain ⟨hnod, h⟩ := Zc h
   obtain rfl := Option.some.inj h
   refine ⟨⟨hfl.cx, hfl.cs, hfl.le⟩, Xp.refl _ _, fun ho m0 n0 ρ0 w0 ρ b a k css w ma mb hs he cs0 => ?_⟩
   obtain ⟨henv, hdf, htd, hro, hrnd⟩ := hs.top
   obtain ⟨k', rfl, htl⟩ := htd.code
   exact ⟨ρ, b, a, k', css, w, ma, mb, .one stepR_region, ⟨⟨henv, hdf, htl, ⟨rfl, hnod⟩, hrnd⟩, hs.lv, hs.rest, hs.rel⟩, he, rfl⟩
  ·-- a region that draws its order
   rename_i id ops k0
   split at h
   ·-- its last operation hands out a round
    rename_i o hty
    split at h
    ·rename_i st1 hop
     obtain rfl := Option.some.inj h
     obtain ⟨m, hm, ho_m, hme, hdrop, hnod, hchk, hfor, hgd⟩ := x0g hty
     have hi := z6v hCI _ _ _ _ hop
     have e := hfl.cx
     simp only at e
     have hcx : cx.floor ≤ st.next := by have := hfl.le; simp only at this; omega
     refine ⟨⟨e, hfl.cs, Nat.le_trans hfl.le hi.nxt⟩, by rw [← e]; exact hi, fun ho m0 n0 ρ0 w0 ρ b a k css w ma mb hs he cs0 => ?_⟩
     obtain ⟨henv, hdf, htd, hro, hrnd⟩ := hs.top
     obtain ⟨k', rfl, htl⟩ := htd.code
     have hw := z2o hN hS hCI hC hcx hchk hop ho hdf henv (hs.rel.drawn (w.drawn + 1))
     have hw2 := wpAny_sound (Xb ops).size (w.tape w.drawn (.order b.fn id)) _ a _ hw
     rw [y8l, y2d] at hw2
     have hord : ∀ (j : Nat) x, ops[j]? = some x → ∀ e ∈ x.after.toList, Region.binds .any e = true → e.on < j := fun j x hx e he hb => by
      have hsa := z3j ops j
      rw [hx] at hsa
      cases hsx : (Xb ops)[j]? with
      | none => rw [hsx] at hsa; cases hsa
      | some y =>
       rw [hsx] at hsa
       simp only [Option.map_some, Option.some.injEq] at hsa
       exact (z1p hchk).ord j y hsx e (by rw [hsa]; exact he) hb
     have hcl0 : ∀ S, z8m ops S → z8m (Xb ops) S := fun S hc j y hy hS e he hb => by
      have hsa := z3j ops j
      rw [hy] at hsa
      cases hsx : ops[j]? with
      | none => rw [hsx] at hsa; cases hsa
      | some x =>
       rw [hsx] at hsa
       simp only [Option.map_some, Option.some.injEq] at hsa
       exact hc j x hsx hS e (by rw [← hsa]; exact he) hb
     have hrep : ∀ i, (Array.replicate ops.size false).getD i false = false := fun i => by
      by_cases hi : i < ops.size <;> simp [hi]
     obtain ⟨l, hl, hlm⟩ := w0b hord hm ho_m (fun i hi S hc hr => hfor i hi S (hcl0 S hc) hr) ops.size (w.tape w.drawn (.order b.fn id)) (Array.replicate ops.size false) (by simp) (fun j x hx hS => by simp only [hrep] at hS; cases hS) (by
      rw [List.countP_eq_length.2]
      ·simp
      ·intro i _; simp only [hrep]; rfl) (hrep m)
     rw [hl] at hw2
     obtain ⟨a', w', ⟨_, hd', ρ', q1, q2, q3⟩, hsteps⟩ := z9a (b := b) (k := k') (cs := css ++ cs0) (fun e a w hq => hq.1) hm ho_m hnod hgd l a _ hlm hw2
     have hev := q3.drawn
     refine ⟨ρ', b, a', k', css, w', ma, mb, .head stepR_region_draw ?_, ⟨⟨q1, hd', htl.mono fun _ _ => x0a.mono hev.ext, ⟨by rw [hme]; exact hdrop, hnod⟩, ?_⟩, hs.lv, hs.rest.ev hev, q2⟩, he.trans (by rw [← e]; exact hev), rfl⟩
     ·simp only [Region.schedule, hmx, Bool.true_or, if_true, Xd]
      have hr : (List.range ops.size).drop (ops.size - 1) = [m] := by
       rw [hm]; simp [List.range_succ]
      rw [hr, Region.linearise, hl]
      exact hsteps
     ·exact ((⟨henv, hdf, htd, hro, hrnd⟩ : x3f ρ cx none _ rnd st.env b a _ ma).mono hev.ext).rnd
    ·cases h
   obtain ⟨hc, h⟩ := Zc h
   simp only [Bool.and_eq_true] at hc
   obtain ⟨hchk, hnod⟩ := hc
   split at h
   ·rename_i st1 hop
    obtain rfl := Option.some.inj h
    have hi := z6v hCI _ _ _ _ hop
    have e := hfl.cx
    simp only at e
    have hcx : cx.floor ≤ st.next := by have := hfl.le; simp only at this; omega
    refine ⟨⟨e, hfl.cs, Nat.le_trans hfl.le hi.nxt⟩, by rw [← e]; exact hi, fun ho m0 n0 ρ0 w0 ρ b a k css w ma mb hs he cs0 => ?_⟩
    obtain ⟨henv, hdf, htd, hro, hrnd⟩ := hs.top
    obtain ⟨k', rfl, htl⟩ := htd.code
    have hw := z2o hN hS hCI hC hcx hchk hop ho hdf henv (hs.rel.drawn (w.drawn + 1))
    have hw2 := wpAny_sound ops.size (w.tape w.drawn (.order b.fn id)) _ a _ hw
    obtain ⟨a', w', ⟨hd', ρ', q1, q2, q3⟩, hsteps⟩ := z6u (b := b) (k := k') (cs := css ++ cs0) (fun e a w hq => hq) hnod _ _ _ hw2
    have hev := q3.drawn
    refine ⟨ρ', b, a', k', css, w', ma, mb, .head stepR_region_draw ?_, ⟨⟨q1, hd', htl.mono fun _ _ => x0a.mono hev.ext, trivial, ?_⟩, hs.lv, hs.rest.ev hev, q2⟩, he.trans (by rw [← e]; exact hev), rfl⟩
    ·simp only [Region.schedule, hmx, Bool.true_or, if_true]
     exact hsteps
    ·exact ((⟨henv, hdf, htd, hro, hrnd⟩ : x3f ρ cx none _ rnd st.env b a _ ma).mono hev.ext).rnd
   ·cases h
  ·-- a loop over a function
   rename_i f params assign body k0
   split at h
   ·rename_i g caps hg
    obtain ⟨env, mem, next, orc, ob⟩ := st
    simp only [St.nextId] at h
    obtain ⟨hrk, h⟩ := Zc h
    have hCeq : ∃ fn fbody, P.funcs[g]? = some fn ∧ fn.body = some fbody ∧ C' = ⟨⟨Nat.max fn.ntmps (AVal.yld next :: caps).length, cx.floor, cx.sym⟩, none, [.code fbody], none, fn.results.toList, St.withEnv ⟨env, mem, next + 1, orc, ob⟩ (z3u (AVal.yld next :: caps) 0 .leaf), ⟨cx, none, .inRangeFunc next :: k0, rnd, rs, env⟩ :: cs, x2y lps next (some ⟨.ready, none, cx.n, env, params.toList, assign, body⟩)⟩ := by
     unfold z9t at h
     split at h
     ·rename_i fn hfn
      split at h
      ·rename_i fbody hb
       exact ⟨fn, fbody, hfn, hb, (Option.some.inj h).symm⟩
      ·cases h
     ·cases h
    obtain ⟨fn, fbody, hfn, hb, hCe⟩ := hCeq
    refine ⟨by rw [hCe]; exact hfl.enter (Nat.le_succ _), ?_, fun ho m0 n0 ρ0 w0 ρ b a k css w ma mb hs he cs0 => ?_⟩
    ·rw [hCe]
     exact ⟨Nat.le_succ _, fun hbd x hx => hbd x (Nat.le_of_succ_le hx), fun _ _ _ => rfl, fun ho => ho⟩
    obtain ⟨henv, hdf, htd, hro, hrnd⟩ := hs.top
    obtain ⟨k', rfl, htl⟩ := htd.code
    have hrel := hs.rel
    simp only at henv hrel he hrnd hdf htl
    have lay : ∃ l mk w1 d, (Instr.enterLoop b.fn a.tmps params assign body b.roundOf).run P w = .ok (l, (mk : List Nat).map w6t) w1 ∧ w1.heap[l]? = some (.loop ⟨.ready, none, b.fn, a.tmps, params, assign, body, d⟩) ∧ w0.heap.size ≤ l ∧ Sp ρ w1 l ∧ Rel ρ mem next w1 ∧ Ev ρ0 ρ fl m0 n0 mem next w0 w1 ∧ (rnd.isSome = true → mk = []) ∧
      y0d P w0.heap.size ρ cs lps css w1 (mk ++ ma) mb ∧ (∀ j L l', z5u lps j = some L → ρ.lp j = some l' → l' ≠ l) := by
     have gr : ∀ (w1 : World) (o : Obj) (mk : List Nat), y0d P w0.heap.size ρ cs lps css w1 mk mb → y0d P w0.heap.size ρ cs lps css (w1.alloc o) mk mb := fun w1 o mk hr =>
      ⟨hr.cs, hr.nodup, fun r hx => by obtain ⟨q1, q2, q3⟩ := hr.marks r hx; exact ⟨q1, (q2.grow o).1, by rw [(q2.grow o).2]; exact q3⟩, fun j L hL => by
       obtain ⟨l, q1, q2, q3, tm, fn', d, q4, q5⟩ := hr.loops j L hL
       exact ⟨l, q1, q2, (q3.grow o).1, tm, fn', d, by rw [(q3.grow o).2]; exact q4, q5⟩, hr.inj⟩
     have far : ∀ (w1 : World), y0d P w0.heap.size ρ cs lps css w1 ma mb → ∀ j L l', z5u lps j = some L → ρ.lp j = some l' → l' < w1.heap.size := fun w1 hr j L l' hL e => by
      obtain ⟨l2, q⟩ := hr.loops j L hL
      have := q.lp
      rw [e] at this
      obtain rfl := Option.some.inj this
      exact q.sp.1
     cases hr : b.roundOf with
     | none =>
      have hrn : rnd = none := by
       cases rnd with
       | none => rfl
       | some j => obtain ⟨_, l, _, e2⟩ := hrnd; rw [hr] at e2; cases e2
      subst hrn
      have hs1 : Sp ρ (w.alloc (.deferred (some []))) w.heap.size := Sp.fresh hrel _
      have hrel1 := hrel.grow (.deferred (some []))
      have hsz1 : (w.alloc (.deferred (some []))).heap.size = w.heap.size + 1 := by show (w.heap.push _).size = _; simp
      have hrest1 : y0d P w0.heap.size ρ cs lps css (w.alloc (.deferred (some []))) ([w.heap.size] ++ ma) mb := by
       have hr1 := gr w (.deferred (some [])) ma hs.rest
       have hnin : w.heap.size ∉ ma ++ mb := fun hin => by have := (hs.rest.marks _ hin).2.1.1; omega
       refine ⟨hr1.cs, by rw [List.append_assoc]; exact List.nodup_cons.2 ⟨hnin, hr1.nodup⟩, fun r hx => ?_, hr1.loops, hr1.inj⟩
       simp only [List.cons_append, List.nil_append, List.mem_cons] at hx
       rcases hx with rfl | hx
       ·exact ⟨he.size, hs1, by show (w.heap.push _)[w.heap.size]? = _; simp⟩
       ·exact hr1.marks r hx
      refine ⟨w.heap.size + 1, [w.heap.size], _, w.heap.size, run_enterLoop_outer _ _ _ _ _, ?_, by have := he.size; omega, ?_, hrel1.grow _, (he.grow _).grow _, (fun e => by cases e), gr _ _ _ hrest1, fun j L l' hL e => ?_⟩
      ·have := World.alloc_heap_new (w.alloc (.deferred (some []))) (.loop { state := .ready, pending := none, fn := b.fn, tmps := a.tmps, params := params, assign, body, defers := w.heap.size })
       rw [hsz1] at this; exact this
      ·have := Sp.fresh hrel1 (.loop { state := .ready, pending := none, fn := b.fn, tmps := a.tmps, params := params, assign, body, defers := w.heap.size })
       rw [hsz1] at this; exact this
      ·have := far w hs.rest j L l' hL e; omega
     | some l0 =>
      obtain ⟨j0, rfl⟩ : ∃ j0, rnd = some j0 := by
       cases rnd with
       | none => have e2 : b.roundOf = none := hrnd; rw [hr] at e2; cases e2
       | some j => exact ⟨j, rfl⟩
      obtain ⟨hma, l1, hlp1, e2⟩ := hrnd
      rw [hr] at e2
      obtain rfl := Option.some.inj e2
      subst hma
      have hsome : ∃ L0, z5u lps j0 = some L0 := Option.isSome_iff_exists.1 hrk
      obtain ⟨L0, hL0⟩ := hsome
      obtain ⟨l2, q1, q2, q3, tm, fn', d, q4, q5⟩ := hs.rest.loops j0 L0 hL0
      rw [hlp1] at q1
      obtain rfl := Option.some.inj q1
      refine ⟨w.heap.size, [], _, _, run_enterLoop_inner q4 _ _ _ _ _, World.alloc_heap_new _ _, he.size, Sp.fresh hrel _, hrel.grow _, he.grow _, (fun _ => rfl), gr _ _ _ hs.rest, fun j L l' hL e => ?_⟩
      have := far w hs.rest j L l' hL e; omega
    obtain ⟨l, mk, w1, d, hen, hobj, hlow, hsp, hrel1, hev1, hmk, hrest1, hne⟩ := lay
    have hle : ρ.le (lpAdd ρ next l) := y0x hrel1.lp_none
    have hlpj : (lpAdd ρ next l).lp next = some l := if_pos rfl
    have get : ∀ i L, z5u (x2y lps next (some L)) i = if i = next then some L else z5u lps i := fun i L => T.get_set none lps next (some L) i
    have hlps : ∀ j L l', z5u lps j = some L → (lpAdd ρ next l).lp j = some l' → j ≠ next → ρ.lp j = some l' := fun j L l' _ e hj => by
     have e : (if j = next then some l else ρ.lp j) = some l' := e
     rwa [if_neg hj] at e
    have hrest2 : y0d P w0.heap.size (lpAdd ρ next l) cs (x2y lps next (some ⟨.ready, none, cx.n, env, params.toList, assign, body⟩)) css w1 (mk ++ ma) mb := by
     refine ⟨hrest1.cs.mono hle, hrest1.nodup, hrest1.marks, fun j L hL => ?_, fun j j' L L' l' hL hL' e e' => ?_⟩
     ·rw [get] at hL
      by_cases hj : j = next
      ·subst hj
       rw [if_pos rfl] at hL
       obtain rfl := Option.some.inj hL
       exact ⟨l, hlpj, hlow, hsp, a.tmps, b.fn, d, by simpa using hobj, henv.mono hle⟩
      ·rw [if_neg hj] at hL
       obtain ⟨l2, q1, q2, q3, tm, fn', d', q4, q5⟩ := hrest1.loops j L hL
       exact ⟨l2, hle.2.2 _ _ q1, q2, q3, tm, fn', d', q4, q5.mono hle⟩
     ·rw [get] at hL hL'
      by_cases hj : j = next <;> by_cases hj' : j' = next
      ·rw [hj, hj']
      ·subst hj
       rw [if_neg hj'] at hL'
       rw [hlpj] at e
       exact absurd (Option.some.inj e).symm (hne j' L' l' hL' (hlps _ _ _ hL' e' hj'))
      ·subst hj'
       rw [if_neg hj] at hL
       rw [hlpj] at e'
       exact absurd (Option.some.inj e').symm (hne j L l' hL (hlps _ _ _ hL e hj))
      ·rw [if_neg hj] at hL
       rw [if_neg hj'] at hL'
       exact hrest1.inj j j' L L' l' hL hL' (hlps _ _ _ hL e hj) (hlps _ _ _ hL' e' hj')
    have hf := (show Xq ρ (St.env ⟨env, mem, next, orc, ob⟩) cx.n a.tmps from henv).eval f
    rw [hg] at hf
    generalize hw' : a.eval f = u at hf
    cases hf with
    | fn _ _ cvs hl hh =>
     have hargs : Wz (Ze (lpAdd ρ next l)) (AVal.yld next :: caps) (#[Value.func (.yield l) #[] #[]] ++ cvs).toList := by
      rw [Array.toList_append]
      exact .cons (.yld _ _ hlpj) (Wz.of (by simpa using hl) fun i h1 h2 => by simpa using (hh i h1 (by simpa using h2)).mono hle)
     have hcall := Kp hN hfn (by rw [hb]; rfl) (#[Value.func (.yield l) #[] #[]] ++ cvs) w1
     have hstep := stepR_rangeFunc (P := P) (b := b) (a := a) (k := k') (cs := css ++ cs0) (g := f) (d := ⟨.fn (.func g) cvs, #[Value.func (.yield l) #[] #[]]⟩) (w₁' := w1) hen
      (by simp only [resolve, hw', Deferred.ofValue]; simp [Act.eval]) (by simp only [invoke]; exact hcall)
     have hfr : x3f (lpAdd ρ next l) cx none (.inRangeFunc next :: k0) rnd env b { a with defers := mk.map w6t ++ a.defers } (.inRangeFunc l :: k') (mk ++ ma) :=
      ⟨henv.mono hle, by rw [List.map_append, hdf], .cons (.inR _ _ hlpj) (htl.mono fun _ _ => x0a.mono hle), trivial, by
       cases rnd with
       | none => exact hrnd
       | some j =>
        obtain ⟨h0, l', h1, h2⟩ := hrnd
        exact ⟨by rw [hmk rfl, h0]; rfl, l', hle.2.2 _ _ h1, h2⟩⟩
     obtain ⟨_, _, _, _, _, b', a', k2, hent, hsr⟩ := z9s h hfr hs.lv hrest2 (show Rel _ mem (next + 1) w1 from hrel1.lpAdd l) hargs
     refine ⟨lpAdd ρ next l, b', a', k2, _, w1, _, _, .one ?_, hsr, ?_, by cases css <;> rfl⟩
     ·rw [show C'.ro = none by rw [hCe], ← hent]
      exact hstep
     ·rw [hCe]
      exact hev1.lpAdd hrel1 l
   ·cases h
  ·-- a round begins
   rename_i k0
   split at h
   ·rename_i j
    split at h
    ·rename_i pend n env params assign body hlg
     obtain rfl := Option.some.inj h
     refine ⟨⟨hfl.cx, hfl.cs, hfl.le⟩, Xp.refl _ _, fun ho m0 n0 ρ0 w0 ρ b a k css w ma mb hs he cs0 => ?_⟩
     obtain ⟨henv, hdf, htd, hro, hrnd⟩ := hs.top
     obtain ⟨rfl, lr0, hlp0, hrb⟩ := hrnd
     obtain ⟨k', rfl, htl⟩ := z8p.item rfl htd
     obtain ⟨lr, hla⟩ := hs.rest.loops j _ hlg
     have hla' := hla
     obtain ⟨hlp, hlow, hsp, ltmps, lfn, ld, hobj, hlenv⟩ := hla
     rw [hlp] at hlp0
     obtain rfl := Option.some.inj hlp0
     have hrun := run_beginRound (P := P) hobj rfl
     have hrest := hs.rest.record (w' := w.putObj lr (.loop ⟨.busy, pend, lfn, ltmps, params.toArray, assign, body, ld⟩)) hlg hla' (L' := ⟨.busy, pend, n, env, params, assign, body⟩)
      ⟨hlp, hlow, hsp.turned (Xs.put _ _ _), ltmps, lfn, ld, World.putObj_heap_same hsp.1, hlenv⟩ (Xs.put _ _ _)
     refine ⟨ρ, b, a, k', css, _, [], mb, .one (stepR_beginRound hrb hrun), ⟨⟨henv, hdf, htl, trivial, ⟨rfl, lr, hlp, hrb⟩⟩, hs.lv, hrest, hs.rel.turned (fun r hr => by rw [List.mem_singleton.1 hr]; exact hsp) (Xs.put _ _ _)⟩, he.turned (m := [lr]) (fun r hr => by rw [List.mem_singleton.1 hr]; exact hlow) (Xs.put _ _ _), rfl⟩
    ·cases h
   ·cases h
  ·-- a loop's end
   rename_i j k0
   split at h
   ·cases h
   ·rename_i lst pend n env params assign body hnb hlg
    obtain rfl := Option.some.inj h
    refine ⟨⟨hfl.cx, hfl.cs, hfl.le⟩, Xp.refl _ _, fun ho m0 n0 ρ0 w0 ρ b a k css w ma mb hs he cs0 => ?_⟩
    obtain ⟨henv, hdf, htd, hro, hrnd⟩ := hs.top
    obtain ⟨lr, hla⟩ := hs.rest.loops j _ hlg
    have hla' := hla
    obtain ⟨hlp, hlow, hsp, ltmps, lfn, ld, hobj, hlenv⟩ := hla
    cases htd with
    | @cons _ y _ k' hx htl =>
     cases hx with
     | same _ hp => cases hp
     | endR _ l hl =>
      rw [hlp] at hl
      obtain rfl := Option.some.inj hl
      have hb : lst ≠ .busy := fun e => by subst e; exact hnb rfl
      have hrun := run_endLoop (P := P) hobj hb
      have hrest := hs.rest.record (w' := w.putObj lr (.loop ⟨.exhausted, pend, lfn, ltmps, params.toArray, assign, body, ld⟩)) hlg hla' (L' := ⟨.exhausted, pend, n, env, params, assign, body⟩)
       ⟨hlp, hlow, hsp.turned (Xs.put _ _ _), ltmps, lfn, ld, World.putObj_heap_same hsp.1, hlenv⟩ (Xs.put _ _ _)
      refine ⟨ρ, b, a, _, css, _, ma, mb, .one (stepR_endRangeFunc hrun), ⟨⟨henv, hdf, ?_, trivial, hrnd⟩, hs.lv, hrest, hs.rel.turned (fun r hr => by rw [List.mem_singleton.1 hr]; exact hsp) (Xs.put _ _ _)⟩, he.turned (m := [lr]) (fun r hr => by rw [List.mem_singleton.1 hr]; exact hlow) (Xs.put _ _ _), rfl⟩
      cases pend with
      | none => exact htl
      | some c => exact .cons (.same _ rfl) htl
   ·cases h
  ·cases h
theorem x3z {S : Specs} {Rc : Runner} {n : Nat} {C : Cfg} : runS P S Rc (n + 1) C = (bif z0v C then some C else match x0k P S Rc C with
  | some C' => runS P S Rc n C'
  | none => none) := rfl
theorem z7o {C : Cfg} (h : z0v C = true) : C.ro = none ∧ C.rnd = none ∧ C.cs = [] ∧ (C.todo = [] ∨ ∃ t, C.todo = .code .ret :: t) := by
 unfold z0v at h
 split at h
 ·exact ⟨rfl, rfl, rfl, .inl rfl⟩
 ·exact ⟨rfl, rfl, rfl, .inr ⟨_, rfl⟩⟩
 ·cases h
theorem z4d.trans {fl : Nat} {A B C : Cfg} (h : z4d P fl A B) (k : z4d P fl B C) : z4d P fl A C := by
 intro m0 n0 ρ0 w0 ρ b a t css w ma mb hs he cs0
 obtain ⟨ρ1, b1, a1, t1, css1, w1, ma1, mb1, s1, r1, e1, q1⟩ := h m0 n0 ρ0 w0 ρ b a t css w ma mb hs he cs0
 obtain ⟨ρ2, b2, a2, t2, css2, w2, ma2, mb2, s2, r2, e2, q2⟩ := k m0 n0 ρ0 w0 ρ1 b1 a1 t1 css1 w1 ma1 mb1 r1 e1 cs0
 exact ⟨ρ2, b2, a2, t2, css2, w2, ma2, mb2, s1.trans s2, r2, e2, q2.trans q1⟩
theorem y0k {S : Specs} {Rc : Runner} (hN : z4c P) (hmx : P.follows .mixedOrders = true) (hS : Zu P S) (hCI : x3e Rc) (hC : ROk P Rc) {fl : Nat} : ∀ (n : Nat) (C C' : Cfg), Fl fl C → runS P S Rc n C = some C' → z0v C' = true ∧ Xp fl C.st C'.st ∧ (C'.st.ob = true → z4d P fl C C')
 | 0, C, st', _, h => by cases h
 | n + 1, C, C', hfl, h => by
  rw [x3z] at h
  cases hf : z0v C with
  | true =>
   rw [hf] at h
   obtain rfl := Option.some.inj h
   exact ⟨hf, Xp.refl _ _, fun _ => z4d.refl fl C⟩
  | false =>
   rw [hf, cond_false] at h
   split at h
   ·rename_i C1 h1
    have s1 := y2e hN hmx hS hCI hC hfl h1
    obtain ⟨f1, f4, f5⟩ := y0k hN hmx hS hCI hC n C1 C' s1.fls h
    exact ⟨f1, s1.inv.trans f4, fun ho => (s1.leads (f4.ob ho)).trans (f5 ho)⟩
   ·cases h
theorem z8p.refl_plain {ρ : Rho} : ∀ (k : List Item), k.all Un = true → z8p ρ k k
 | [], _ => .nil
 | x :: k, h => by
  simp only [List.all_cons, Bool.and_eq_true] at h
  exact .cons (.same x h.1) (z8p.refl_plain k h.2)
theorem z9f (base : Nat) (ρ : Rho) (w : World) : y0d P base ρ [] .leaf [] w [] [] :=
 ⟨.nil, List.nodup_nil, (fun r hr => by cases hr), (fun j L hL => by cases hL), (fun j j' L L' l hL => by cases hL)⟩
theorem x4a (hN : z4c P) (hmx : P.follows .mixedOrders = true) {S : Specs} (hS : Zu P S) (n : Nat) : ∀ d, x3e (w5o P S n d) ∧ ROk P (w5o P S n d)
 | 0 => ⟨(fun cx todo st st' h => by cases h), (fun cx todo st st' _ h => by cases h)⟩
 | d + 1 => by
  obtain ⟨hCI, hC⟩ := x4a hN hmx hS n d
  have key : ∀ {cx todo st st'}, w5o P S n (d + 1) cx todo st = some st' → todo.all Un = true ∧ Fl cx.floor ⟨cx, none, todo, none, [], st, [], .leaf⟩ ∧ ∃ C', runS P S (w5o P S n d) n ⟨cx, none, todo, none, [], st, [], .leaf⟩ = some C' ∧ C'.cx.n = cx.n ∧ C'.st = st' := by
   intro cx todo st st' h
   have h : (bif todo.all Un && Nat.ble cx.floor st.next then match runS P S (w5o P S n d) n ⟨cx, none, todo, none, [], st, [], .leaf⟩ with
    | some C => bif Nat.beq C.cx.n cx.n then some C.st else none
    | none => none
    else none) = some st' := h
   obtain ⟨hp, h⟩ := Zc h
   simp only [Bool.and_eq_true] at hp
   refine ⟨hp.1, ⟨rfl, fun af haf => (by cases haf), Nat.le_of_ble_eq_true hp.2⟩, ?_⟩
   split at h
   ·rename_i C' hr
    obtain ⟨hn, h⟩ := Zc h
    exact ⟨C', hr, Nat.eq_of_beq_eq_true hn, Option.some.inj h⟩
   ·cases h
  refine ⟨fun cx todo st st' h => ?_, fun cx todo st st' hcx h ho ρ a w b cs hd henv hrel => ?_⟩
  ·obtain ⟨_, hfl, C', hr, _, rfl⟩ := key h
   exact (y0k hN hmx hS hCI hC n _ C' hfl hr).2.1
  ·obtain ⟨hpl, hfl, C', hr, hn, rfl⟩ := key h
   obtain ⟨f1, f2, f3⟩ := y0k hN hmx hS hCI hC n _ C' hfl hr
   obtain ⟨e1, e2, e3, e4⟩ := z7o f1
   obtain ⟨ρ', b', a', k', css', w', ma', mb', s1, r1, v1, q1⟩ := f3 ho st.mem st.next ρ w ρ { b with roundOf := none } a todo [] w [] []
    ⟨⟨henv, hd, z8p.refl_plain todo hpl, trivial, rfl⟩, fun h => absurd rfl h, z9f _ _ _, hrel⟩ (Ev.refl _ _ _ _ _ hrel.dom) cs
   have hcs := r1.rest.cs
   rw [e3] at hcs
   cases hcs
   obtain ⟨w2, s2, henv', hrel', hev', _⟩ := z7s r1 e1 e2 e4 rfl v1 cs
   refine ⟨ρ', { a' with defers := [] }, k', w2, ?_, rfl, by rw [← hn]; exact henv', hrel', hev'⟩
   have hb : b.at a todo = Frame.atR { b with roundOf := none } a (Xd none todo) := rfl
   have hb' : Frame.atR b' { a' with defers := [] } k' = b.at { a' with defers := [] } k' := by
    have q : (b'.fn, b'.kind, b'.roundOf) = (b.fn, b.kind, none) := q1
    simp only [Prod.mk.injEq] at q
    simp [Frame.atR, Frame.at, q.1, q.2.1, q.2.2]
   rw [hb, ← hb']
   exact s1.trans s2
end
end Go.Am
end
