/- Calls, and every operation. -/
import Derived.Test.YtdojgffcahimjaaAmH
namespace Go.Am

section
variable {P : Program} {ρ : Rho} 

/-! ### What abstract steps keep -/
structure AInv (floor : Nat) (st st' : St) : Prop where
  nxt : st.next ≤ st'.next
  bd : (∀ b, st.next ≤ b → mget st.mem b = none) → ∀ b, st'.next ≤ b → mget st'.mem b = none
  low : floor ≤ st.next → ∀ b, b < floor → mget st'.mem b = mget st.mem b
  ob : st'.ob = true → st.ob = true

theorem AInv.refl (floor : Nat) (st : St) : AInv floor st st := ⟨Nat.le_refl _, fun h => h, fun _ _ _ => rfl, fun h => h⟩
theorem AInv.trans {floor : Nat} {a b c : St} (h : AInv floor a b) (k : AInv floor b c) : AInv floor a c :=
  ⟨Nat.le_trans h.nxt k.nxt, fun x => k.bd (h.bd x), fun x d hd => (k.low (Nat.le_trans x h.nxt) d hd).trans (h.low x d hd), fun x => h.ob (k.ob x)⟩
theorem AInv.lower {floor floor' : Nat} {a b : St} (h : AInv floor' a b) (hf : floor ≤ floor') (hn : floor' ≤ a.next) : AInv floor a b :=
  ⟨h.nxt, h.bd, fun _ d hd => h.low hn d (Nat.lt_of_lt_of_le hd hf), h.ob⟩
theorem AInv.env {floor : Nat} {a b : St} (h : AInv floor a b) (e e' : T AVal) : AInv floor (a.withEnv e) (b.withEnv e') := ⟨h.nxt, h.bd, h.low, h.ob⟩

theorem AInv.write {floor : Nat} (st : St) {b : Nat} {ab : ABlk} (o : Option ABlk) (hf : floor ≤ b) (hm : mget st.mem b = some ab) : AInv floor st (st.withMem (mset st.mem b o)) where
  nxt := Nat.le_refl _
  bd h k hk := by
    have hne : k ≠ b := fun e => by rw [e, ] at hk; rw [h b hk] at hm; cases hm
    show mget (mset st.mem b o) k = none
    rw [mget_mset_ne _ _ hne]; exact h k hk
  low _ k hk := mget_mset_ne _ _ (by omega)
  ob h := h

theorem AInv.new {floor : Nat} (st : St) (cs : List AVal) (ty : TypeId) : AInv floor st (aNew st cs ty) where
  nxt := Nat.le_succ _
  bd h k hk := by
    have hk' : st.next + 1 ≤ k := hk
    show mget (mset st.mem st.next _) k = none
    rw [mget_mset_ne _ _ (by omega)]; exact h k (by omega)
  low hf k hk := mget_mset_ne _ _ (by omega)
  ob h := h

def RInv (R : Runner) : Prop := ∀ cx todo st st', R cx todo st = some st' → AInv cx.floor st st'

theorem owe_spec {cx : Ctx} {st st' : St} {b : Bool} (h : st.owe cx b = some st') : st'.env = st.env ∧ st'.mem = st.mem ∧ st'.next = st.next ∧ (st'.ob = true → b = true ∧ st.ob = true) := by
  obtain ⟨env, mem, next, orc, ob⟩ := st
  unfold St.owe at h
  dsimp only at h
  cases hs : cx.sym with
  | true =>
    rw [hs, cond_true] at h
    obtain rfl := Option.some.inj h
    exact ⟨rfl, rfl, rfl, fun h => by simp only [Bool.and_eq_true] at h; exact ⟨h.1, h.2⟩⟩
  | false =>
    rw [hs, cond_false] at h
    cases b with
    | false => cases h
    | true =>
      obtain rfl := Option.some.inj h
      exact ⟨rfl, rfl, rfl, fun h => ⟨rfl, h⟩⟩

theorem test_spec {st st' : St} {b e : Bool} (h : st.test b = (e, st')) : st'.env = st.env ∧ st'.mem = st.mem ∧ st'.next = st.next ∧ (st'.ob = true → e = b ∧ st.ob = true) := by
  obtain ⟨env, mem, next, orc, ob⟩ := st
  cases orc with
  | nil =>
    simp only [St.test, Prod.mk.injEq] at h
    obtain ⟨rfl, rfl⟩ := h
    exact ⟨rfl, rfl, rfl, fun h => ⟨rfl, h⟩⟩
  | cons c r =>
    simp only [St.test, Prod.mk.injEq] at h
    obtain ⟨rfl, rfl⟩ := h
    refine ⟨rfl, rfl, rfl, fun h => ?_⟩
    simp only [Bool.and_eq_true, beq_iff_eq] at h
    exact ⟨h.1.symm, h.2⟩

theorem put_spec {cx : Ctx} {st st' : St} {dst : Option Tmp} {v : AVal} (h : st.put cx dst v = some st') : st'.mem = st.mem ∧ st'.next = st.next ∧ st'.ob = st.ob ∧
    ((dst = none ∧ st'.env = st.env) ∨ ∃ d, dst = some d ∧ d < cx.n ∧ st'.env = T.set .undef st.env d v) := by
  obtain ⟨env, mem, next, orc, ob⟩ := st
  cases dst with
  | none =>
    simp only [St.put, Option.some.injEq] at h
    subst h
    exact ⟨rfl, rfl, rfl, .inl ⟨rfl, rfl⟩⟩
  | some d =>
    simp only [St.put] at h
    cases hb : Nat.ble (d + 1) cx.n with
    | false => rw [hb] at h; cases h
    | true =>
      rw [hb, cond_true] at h
      obtain rfl := Option.some.inj h
      exact ⟨rfl, rfl, rfl, .inr ⟨d, rfl, Nat.le_of_ble_eq_true hb, rfl⟩⟩

theorem AInv.same {floor : Nat} {st st' : St} (hm : st'.mem = st.mem) (hn : st'.next = st.next) (ho : st'.ob = true → st.ob = true) : AInv floor st st' :=
  ⟨by rw [hn]; exact Nat.le_refl _, fun h b hb => by rw [hm]; exact h b (by rw [← hn]; exact hb), fun _ b _ => by rw [hm], ho⟩

theorem bif_inv {α : Type} {c : Bool} {x : Option α} {y : α} (h : (bif c then x else none) = some y) : c = true ∧ x = some y := by
  cases c with
  | false => cases h
  | true => exact ⟨rfl, h⟩

theorem bif_or {α : Type} {c : Bool} {x z : Option α} {y : α} (h : (bif c then x else z) = some y) : (c = true ∧ x = some y) ∨ (c = false ∧ z = some y) := by
  cases c with
  | false => exact .inr ⟨rfl, h⟩
  | true => exact .inl ⟨rfl, h⟩

theorem aStore_inv {floor : Nat} {st st' : St} {t : TypeId} {x v : AVal} (h : aStore P floor st t x v = some st') : AInv floor st st' ∧ st'.env = st.env := by
  unfold aStore at h
  split at h
  · obtain ⟨hc, h⟩ := bif_inv h
    simp only [Bool.and_eq_true] at hc
    split at h
    · rename_i blk hm
      obtain ⟨_, h⟩ := bif_inv h
      obtain rfl := Option.some.inj h
      exact ⟨AInv.write st _ (Nat.le_of_ble_eq_true hc.1.1.1) hm, rfl⟩
    · cases h
  · cases h

theorem aStoreE_inv {cx : Ctx} {st st' : St} {t : TypeId} {x v : AVal} (h : aStoreE P cx st t x v = some st') : AInv cx.floor st st' ∧ st'.env = st.env := by
  unfold aStoreE at h
  split at h
  · obtain ⟨hc, h⟩ := bif_inv h
    simp only [Bool.and_eq_true] at hc
    split at h
    · rename_i blk hm
      split at h
      · split at h
        · rename_i rw1 st1 hset
          obtain ⟨s1, s2, s3, s4⟩ := setRow_spec hset
          obtain ⟨o1, o2, o3, o4⟩ := owe_spec h
          have a1 : AInv cx.floor st st1 := AInv.same s2 s3 fun x => (s4 x).2
          exact ⟨(a1.trans (AInv.write st1 _ (Nat.le_of_ble_eq_true hc.1.1.1.1) (by rw [s2]; exact hm))).trans (AInv.same o2 o3 fun x => (o4 x).2), o1.trans s1⟩
        · cases h
      · cases h
    · cases h
  · cases h

theorem aNew_env (st : St) (cs : List AVal) (ty : TypeId) : (aNew st cs ty).env = st.env := rfl

theorem aBuildSlice_inv {st st' : St} {t : TypeId} {len : Nat} {ps : List (Nat × AVal)} {v : AVal} {un : Bool} (floor : Nat) (h : aBuildSlice P un st t len ps = some (v, st')) : AInv floor st st' ∧ st'.env = st.env := by
  unfold aBuildSlice at h
  split at h
  · split at h
    · obtain ⟨_, h⟩ := bif_inv h
      split at h
      · simp only [Option.some.injEq, Prod.mk.injEq] at h
        obtain ⟨_, rfl⟩ := h
        exact ⟨AInv.new st _ _, rfl⟩
      · cases h
    · cases h
  · cases h

theorem aMakeSlice_inv {st st' : St} {t : TypeId} {x y v : AVal} (floor : Nat) (h : aMakeSlice P st t x y = some (v, st')) : AInv floor st st' ∧ st'.env = st.env := by
  unfold aMakeSlice at h
  split at h
  · split at h
    · obtain ⟨_, h⟩ := bif_inv h
      simp only [Option.some.injEq, Prod.mk.injEq] at h
      obtain ⟨_, rfl⟩ := h
      exact ⟨AInv.new st _ _, rfl⟩
    · cases h
  · cases h

theorem aAppend_inv {floor : Nat} {st st' : St} {ts : List TypeId} {xs : List AVal} {v : AVal} (h : aAppend P floor st ts xs = some (v, st')) : AInv floor st st' ∧ st'.env = st.env := by
  unfold aAppend at h
  split at h
  · split at h
    · split at h
      · split at h
        · obtain ⟨_, h⟩ := bif_inv h
          split at h
          · rcases bif_or h with ⟨_, h⟩ | ⟨_, h⟩
            · simp only [Option.some.injEq, Prod.mk.injEq] at h
              obtain ⟨_, rfl⟩ := h
              exact ⟨AInv.refl _ _, rfl⟩
            · obtain ⟨_, h⟩ := bif_inv h
              simp only [Option.some.injEq, Prod.mk.injEq] at h
              obtain ⟨_, rfl⟩ := h
              exact ⟨AInv.new st _ _, rfl⟩
          · split at h
            · rename_i blk hm
              split at h
              · obtain ⟨_, h⟩ := bif_inv h
                split at h
                · rcases bif_or h with ⟨_, h⟩ | ⟨_, h⟩
                  · obtain ⟨hc, h⟩ := bif_inv h
                    simp only [Bool.and_eq_true] at hc
                    simp only [Option.some.injEq, Prod.mk.injEq] at h
                    obtain ⟨_, rfl⟩ := h
                    exact ⟨AInv.write st _ (Nat.le_of_ble_eq_true hc.1) hm, rfl⟩
                  · simp only [Option.some.injEq, Prod.mk.injEq] at h
                    obtain ⟨_, rfl⟩ := h
                    exact ⟨AInv.new st _ _, rfl⟩
                · obtain ⟨hc, h⟩ := bif_inv h
                  simp only [Bool.and_eq_true] at hc
                  have hf := Nat.le_of_ble_eq_true hc.2
                  rcases bif_or h with ⟨_, h⟩ | ⟨_, h⟩
                  · simp only [Option.some.injEq, Prod.mk.injEq] at h
                    obtain ⟨_, rfl⟩ := h
                    exact ⟨AInv.write st _ hf hm, rfl⟩
                  · obtain ⟨_, h⟩ := bif_inv h
                    simp only [Option.some.injEq, Prod.mk.injEq] at h
                    obtain ⟨_, rfl⟩ := h
                    exact ⟨(AInv.write st none hf hm).trans (AInv.new _ _ _), rfl⟩
              · cases h
            · cases h
          · cases h
        · cases h
      · cases h
    · cases h
  · cases h

theorem AInv.put {floor : Nat} (st : St) (cs : Option ABlk) {st' : St} (hm : st'.mem = mset st.mem st.next cs) (hn : st'.next = st.next + 1) (ho : st'.ob = true → st.ob = true) : AInv floor st st' where
  nxt := by rw [hn]; exact Nat.le_succ _
  bd h k hk := by
    rw [hn] at hk
    rw [hm, mget_mset_ne _ _ (by omega)]; exact h k (by omega)
  low hf k hk := by rw [hm]; exact mget_mset_ne _ _ (by omega)
  ob := ho

theorem aMakeSliceA_inv {cx : Ctx} {st st' : St} {t : TypeId} {x y v : AVal} (h : aMakeSliceA P cx st t x y = some (v, st')) : AInv cx.floor st st' ∧ st'.env = st.env := by
  unfold aMakeSliceA at h
  split at h
  · split at h
    · obtain ⟨_, h⟩ := bif_inv h
      simp only [Option.map_eq_some_iff, Prod.mk.injEq] at h
      obtain ⟨_, h1, _, rfl⟩ := h
      obtain ⟨o1, o2, o3, o4⟩ := owe_spec h1
      exact ⟨AInv.put st _ o2 (o3.trans rfl) fun x => (o4 x).2, o1⟩
    · cases h
  · cases h

theorem aAppendA_inv {cx : Ctx} {st st' : St} {ts : List TypeId} {xs : List AVal} {v : AVal} (h : aAppendA P cx st ts xs = some (v, st')) : AInv cx.floor st st' ∧ st'.env = st.env := by
  unfold aAppendA at h
  split at h
  · split at h
    · split at h
      · cases h
      · split at h
        · split at h
          · rename_i hm
            split at h
            · obtain ⟨hc, h⟩ := bif_inv h
              simp only [Bool.and_eq_true] at hc
              simp only [Option.map_eq_some_iff, Prod.mk.injEq] at h
              obtain ⟨_, h1, _, rfl⟩ := h
              obtain ⟨o1, o2, o3, o4⟩ := owe_spec h1
              exact ⟨(AInv.write st none (Nat.le_of_ble_eq_true hc.1.2) hm).trans (AInv.put (st.withMem _) _ o2 (o3.trans rfl) fun x => (o4 x).2), o1⟩
            · cases h
          · cases h
        · cases h
    · cases h
  · cases h

theorem kill_inv {floor : Nat} {st : St} {sz len : Nat} {x : AVal} {b : Option Nat} {get : Nat → List AVal} {o : Bool} (ht : toldRows st.mem sz x = some (b, len, get, o)) (hf : floorOk floor b = true) : AInv floor st (st.withMem (killO st.mem b)) := by
  cases b with
  | none => exact AInv.refl _ _
  | some b =>
    have hm : ∃ ab, mget st.mem b = some ab := by
      unfold toldRows at ht
      split at ht
      · simp at ht
      · split at ht
        · rename_i blk hm
          split at ht
          · obtain ⟨_, ht⟩ := bif_inv ht
            simp only [Option.some.injEq, Prod.mk.injEq] at ht
            obtain ⟨rfl, _⟩ := ht
            exact ⟨_, hm⟩
          · cases ht
        · cases ht
      · split at ht
        · rename_i blk hm
          split at ht
          · obtain ⟨_, ht⟩ := bif_inv ht
            simp only [Option.some.injEq, Prod.mk.injEq] at ht
            obtain ⟨rfl, _⟩ := ht
            exact ⟨_, hm⟩
          · cases ht
        · cases ht
      · cases ht
    obtain ⟨ab, hm⟩ := hm
    exact AInv.write st none (Nat.le_of_ble_eq_true hf) hm

theorem aAppendG_inv {cx : Ctx} {st st' : St} {ts : List TypeId} {xs : List AVal} {v : AVal} (h : aAppendG P cx st ts xs = some (v, st')) : AInv cx.floor st st' ∧ st'.env = st.env := by
  unfold aAppendG at h
  split at h
  · split at h
    · split at h
      · split at h
        · rename_i ht _
          obtain ⟨hc, h⟩ := bif_inv h
          simp only [Bool.and_eq_true] at hc
          simp only [Option.map_eq_some_iff, Prod.mk.injEq] at h
          obtain ⟨_, h1, _, rfl⟩ := h
          obtain ⟨o1, o2, o3, o4⟩ := owe_spec h1
          exact ⟨(kill_inv ht hc.2).trans (AInv.put (st.withMem _) _ o2 (o3.trans rfl) fun x => (o4 x).2), o1⟩
        · cases h
      · cases h
    · cases h
  · cases h

theorem aAppend2_inv {cx : Ctx} {st st' : St} {ts : List TypeId} {xs : List AVal} {v : AVal} (h : aAppend2 P cx st ts xs = some (v, st')) : AInv cx.floor st st' ∧ st'.env = st.env := by
  unfold aAppend2 at h
  rcases bif_or h with ⟨_, h⟩ | ⟨_, h⟩
  · exact aAppendG_inv h
  · split at h
    · exact aAppendA_inv h
    · exact aAppend_inv h

theorem aCopy_inv {floor : Nat} {st st' : St} {ts : List TypeId} {xs : List AVal} {v : AVal} (h : aCopy P floor st ts xs = some (v, st')) : AInv floor st st' ∧ st'.env = st.env := by
  unfold aCopy at h
  split at h
  · split at h
    · split at h
      · split at h
        · obtain ⟨_, h⟩ := bif_inv h
          split at h
          · simp only [Option.some.injEq, Prod.mk.injEq] at h
            obtain ⟨_, rfl⟩ := h
            exact ⟨AInv.refl _ _, rfl⟩
          · dsimp only at h
            split at h
            · rename_i blk hm
              obtain ⟨hc, h⟩ := bif_inv h
              simp only [Bool.and_eq_true] at hc
              simp only [Option.some.injEq, Prod.mk.injEq] at h
              obtain ⟨_, rfl⟩ := h
              exact ⟨AInv.write st _ (Nat.le_of_ble_eq_true hc.1) hm, rfl⟩
            · cases h
          · cases h
        · cases h
      · cases h
    · cases h
  · cases h

theorem aClear_inv {floor : Nat} {st st' : St} {ts : List TypeId} {xs : List AVal} {v : AVal} (h : aClear P floor st ts xs = some (v, st')) : AInv floor st st' ∧ st'.env = st.env := by
  unfold aClear at h
  split at h
  · split at h
    · split at h
      · split at h
        · simp only [Option.some.injEq, Prod.mk.injEq] at h
          obtain ⟨_, rfl⟩ := h
          exact ⟨AInv.refl _ _, rfl⟩
        · rcases bif_or h with ⟨_, h⟩ | ⟨_, h⟩
          · simp only [Option.some.injEq, Prod.mk.injEq] at h
            obtain ⟨_, rfl⟩ := h
            exact ⟨AInv.refl _ _, rfl⟩
          · obtain ⟨hc, h⟩ := bif_inv h
            simp only [Bool.and_eq_true] at hc
            split at h
            · rename_i blk hm
              obtain ⟨_, h⟩ := bif_inv h
              simp only [Option.some.injEq, Prod.mk.injEq] at h
              obtain ⟨_, rfl⟩ := h
              exact ⟨AInv.write st _ (Nat.le_of_ble_eq_true hc.2) hm, rfl⟩
            · cases h
        · cases h
      · cases h
    · cases h
  · cases h

theorem aCall_inv {S : Specs} {R : Runner} (hR : RInv R) {lift : Bool} {f : FuncId} {args : List AVal} {cx : Ctx} {st st' : St} {v : AVal} (h : aCall P S R lift f args cx st = some (v, st')) :
    (AInv cx.floor st st' ∧ (lift = true → ∀ b, b < st.next → mget st'.mem b = mget st.mem b)) ∧ st'.env = st.env := by
  unfold aCall at h
  split at h
  · rcases bif_or h with ⟨_, h⟩ | ⟨_, h⟩
    · split at h
      · obtain ⟨_, h⟩ := bif_inv h
        simp only [Option.map_eq_some_iff, Prod.mk.injEq] at h
        obtain ⟨st1, h1, _, rfl⟩ := h
        obtain ⟨e1, e2, e3, e4⟩ := owe_spec h1
        exact ⟨⟨AInv.same e2 e3 fun x => (e4 x).2, fun _ b _ => by rw [e2]⟩, e1⟩
      · cases h
    · split at h
      split at h
      · obtain ⟨_, h⟩ := bif_inv h
        simp only [Option.map_eq_some_iff, Prod.mk.injEq] at h
        obtain ⟨st1, h1, _, rfl⟩ := h
        obtain ⟨e1, e2, e3, e4⟩ := owe_spec h1
        exact ⟨⟨AInv.same e2 e3 fun x => (e4 x).2, fun _ b _ => by rw [e2]⟩, e1⟩
      · cases h
  · split at h
    · rename_i v0 b blk o _
      split at h
      · rename_i ab hm
        obtain ⟨hc, h⟩ := bif_inv h
        simp only [Bool.and_eq_true, Bool.not_eq_true'] at hc
        simp only [Option.map_eq_some_iff, Prod.mk.injEq] at h
        obtain ⟨st1, h1, _, rfl⟩ := h
        obtain ⟨e1, e2, e3, e4⟩ := owe_spec h1
        exact ⟨⟨(AInv.write st (some blk) (Nat.le_of_ble_eq_true hc.2) hm).trans (AInv.same e2 e3 fun x => (e4 x).2), fun hl => by rw [hl] at hc; cases hc.1⟩, e1⟩
      · cases h
    · cases h
  · split at h
    · split at h
      · split at h
        · rename_i st2 hr
          split at h
          · simp only [Option.some.injEq, Prod.mk.injEq] at h
            obtain ⟨_, rfl⟩ := h
            have q := hR _ _ _ _ hr
            refine ⟨?_, rfl⟩
            cases lift with
            | false => exact ⟨⟨q.nxt, q.bd, q.low, q.ob⟩, fun x => by cases x⟩
            | true =>
              refine ⟨⟨q.nxt, q.bd, fun hf b hb => q.low (Nat.le_refl _) b (Nat.lt_of_lt_of_le hb hf), q.ob⟩, fun _ b hb => q.low (Nat.le_refl _) b hb⟩
          · cases h
        · cases h
      · cases h
    · cases h

theorem aEffect_inv {S : Specs} {R : Runner} (hR : RInv R) {lift : Bool} {op : Op} {cx : Ctx} {st st' : St} {v : AVal} (h : aEffect P S R lift op cx st = some (v, st')) : AInv cx.floor st st' ∧ st'.env = st.env := by
  unfold aEffect at h
  split at h
  · split at h
    · rename_i hl
      obtain ⟨l1, l2, l3, l4⟩ := aLoadO_spec hl
      simp only [Option.map_eq_some_iff, Prod.mk.injEq] at h
      obtain ⟨_, h1, _, rfl⟩ := h
      obtain ⟨e1, e2, e3, e4⟩ := owe_spec h1
      exact ⟨AInv.same (e2.trans l2) (e3.trans l3) fun x => (l4 (e4 x).2).2, e1.trans l1⟩
    · cases h
  · simp only [Option.map_eq_some_iff, Prod.mk.injEq] at h
    obtain ⟨_, _, _, rfl⟩ := h
    exact ⟨AInv.new st _ _, rfl⟩
  · obtain ⟨_, h⟩ := bif_inv h
    simp only [Option.some.injEq, Prod.mk.injEq] at h
    obtain ⟨_, rfl⟩ := h
    exact ⟨AInv.new st _ _, rfl⟩
  · exact aBuildSlice_inv _ h
  · split at h
    · simp only [Option.map_eq_some_iff, Prod.mk.injEq] at h
      obtain ⟨_, h, _, rfl⟩ := h
      exact aStoreE_inv h
    · simp only [Option.map_eq_some_iff, Prod.mk.injEq] at h
      obtain ⟨_, h, _, rfl⟩ := h
      exact aStore_inv h
  · rcases bif_or h with ⟨_, h⟩ | ⟨_, h⟩
    · exact aMakeSliceA_inv h
    · exact aMakeSlice_inv _ h
  · exact aAppend2_inv h
  · exact aCopy_inv h
  · exact aClear_inv h
  · split at h
    · obtain ⟨⟨h1, _⟩, h2⟩ := aCall_inv hR h
      exact ⟨h1, h2⟩
    · obtain ⟨⟨h1, _⟩, h2⟩ := aCall_inv hR h
      exact ⟨h1, h2⟩
    · cases h
  · cases h

/-- Blocks that an operation leaves alone. -/
def Same (x : Nat) (st st' : St) : Prop := mget st'.mem x = mget st.mem x

theorem same_write {x b : Nat} (st : St) (o : Option ABlk) (hn : b ≠ x) : Same x st (st.withMem (mset st.mem b o)) := mget_mset_ne _ _ fun e => hn e.symm
theorem same_new {x : Nat} (st : St) (cs : List AVal) (ty : TypeId) (hx : x < st.next) : Same x st (aNew st cs ty) := mget_mset_ne _ _ (Nat.ne_of_lt hx)

theorem aStore_same {x : Nat} {floor : Nat} {st st' : St} {t : TypeId} {a v : AVal} (h : aStore P floor st t a v = some st') (hn : ∀ off, a ≠ .ptr x off) : Same x st st' := by
  unfold aStore at h
  split at h
  · rename_i b off _ _
    obtain ⟨_, h⟩ := bif_inv h
    split at h
    · obtain ⟨_, h⟩ := bif_inv h
      obtain rfl := Option.some.inj h
      exact same_write st _ fun e => hn off (by rw [e])
    · cases h
  · cases h

theorem aStoreE_same {x : Nat} {cx : Ctx} {st st' : St} {t : TypeId} {a v : AVal} (h : aStoreE P cx st t a v = some st') (hn : ∀ sz r fo, a ≠ .epa x sz r fo) : Same x st st' := by
  unfold aStoreE at h
  split at h
  · rename_i b sz r fo _ _
    obtain ⟨_, h⟩ := bif_inv h
    split at h
    · split at h
      · split at h
        · rename_i rw1 st1 hset
          obtain ⟨_, s2, _, _⟩ := setRow_spec hset
          obtain ⟨_, o2, _, _⟩ := owe_spec h
          unfold Same
          rw [o2, ← s2]
          exact same_write st1 _ fun e => hn sz r fo (by rw [e])
        · cases h
      · cases h
    · cases h
  · cases h

theorem aBuildSlice_same {x : Nat} {st st' : St} {t : TypeId} {len : Nat} {ps : List (Nat × AVal)} {v : AVal} {un : Bool} (hx : x < st.next) (h : aBuildSlice P un st t len ps = some (v, st')) : Same x st st' := by
  unfold aBuildSlice at h
  split at h
  · split at h
    · obtain ⟨_, h⟩ := bif_inv h
      split at h
      · simp only [Option.some.injEq, Prod.mk.injEq] at h
        obtain ⟨_, rfl⟩ := h
        exact same_new st _ _ hx
      · cases h
    · cases h
  · cases h

theorem aMakeSlice_same {x : Nat} {st st' : St} {t : TypeId} {l c v : AVal} (hx : x < st.next) (h : aMakeSlice P st t l c = some (v, st')) : Same x st st' := by
  unfold aMakeSlice at h
  split at h
  · split at h
    · obtain ⟨_, h⟩ := bif_inv h
      simp only [Option.some.injEq, Prod.mk.injEq] at h
      obtain ⟨_, rfl⟩ := h
      exact same_new st _ _ hx
    · cases h
  · cases h

theorem aAppend_same {x floor : Nat} {st st' : St} {ts : List TypeId} {xs : List AVal} {v : AVal} (hx : x < st.next) (h : aAppend P floor st ts xs = some (v, st')) (hn : ∀ off len cap r, xs ≠ .sl x off len cap :: r) : Same x st st' := by
  unfold aAppend at h
  split at h
  · split at h
    · split at h
      · split at h
        · obtain ⟨_, h⟩ := bif_inv h
          split at h
          · rcases bif_or h with ⟨_, h⟩ | ⟨_, h⟩
            · simp only [Option.some.injEq, Prod.mk.injEq] at h
              obtain ⟨_, rfl⟩ := h
              rfl
            · obtain ⟨_, h⟩ := bif_inv h
              simp only [Option.some.injEq, Prod.mk.injEq] at h
              obtain ⟨_, rfl⟩ := h
              exact same_new st _ _ hx
          · have hb := fun e => hn _ _ _ _ (congrArg (fun b => AVal.sl b _ _ _ :: _) e)
            split at h
            · rename_i blk hm
              split at h
              · obtain ⟨_, h⟩ := bif_inv h
                split at h
                · rcases bif_or h with ⟨_, h⟩ | ⟨_, h⟩
                  · obtain ⟨hc, h⟩ := bif_inv h
                    simp only [Option.some.injEq, Prod.mk.injEq] at h
                    obtain ⟨_, rfl⟩ := h
                    exact same_write st _ hb
                  · simp only [Option.some.injEq, Prod.mk.injEq] at h
                    obtain ⟨_, rfl⟩ := h
                    exact same_new st _ _ hx
                · obtain ⟨hc, h⟩ := bif_inv h
                  rcases bif_or h with ⟨_, h⟩ | ⟨_, h⟩
                  · simp only [Option.some.injEq, Prod.mk.injEq] at h
                    obtain ⟨_, rfl⟩ := h
                    exact same_write st _ hb
                  · obtain ⟨_, h⟩ := bif_inv h
                    simp only [Option.some.injEq, Prod.mk.injEq] at h
                    obtain ⟨_, rfl⟩ := h
                    exact (same_new (st.withMem (mset st.mem _ none)) _ _ hx).trans (same_write st none hb)
              · cases h
            · cases h
          · cases h
        · cases h
      · cases h
    · cases h
  · cases h

theorem aMakeSliceA_same {x : Nat} {cx : Ctx} {st st' : St} {t : TypeId} {l c v : AVal} (hx : x < st.next) (h : aMakeSliceA P cx st t l c = some (v, st')) : Same x st st' := by
  unfold aMakeSliceA at h
  split at h
  · split at h
    · obtain ⟨_, h⟩ := bif_inv h
      simp only [Option.map_eq_some_iff, Prod.mk.injEq] at h
      obtain ⟨_, h1, _, rfl⟩ := h
      obtain ⟨_, o2, _, _⟩ := owe_spec h1
      unfold Same
      rw [o2]
      exact mget_mset_ne _ _ (Nat.ne_of_lt hx)
    · cases h
  · cases h

theorem aAppendA_same {x : Nat} {cx : Ctx} {st st' : St} {ts : List TypeId} {xs : List AVal} {v : AVal} (hx : x < st.next) (h : aAppendA P cx st ts xs = some (v, st')) (hn : ∀ sz off len cap r, xs ≠ .sla x sz off len cap :: r) : Same x st st' := by
  unfold aAppendA at h
  split at h
  · have hb := fun e => hn _ _ _ _ _ (congrArg (fun b => AVal.sla b _ _ _ _ :: _) e)
    split at h
    · split at h
      · cases h
      · split at h
        · split at h
          · split at h
            · obtain ⟨hc, h⟩ := bif_inv h
              simp only [Option.map_eq_some_iff, Prod.mk.injEq] at h
              obtain ⟨_, h1, _, rfl⟩ := h
              obtain ⟨_, o2, _, _⟩ := owe_spec h1
              unfold Same
              rw [o2]
              show mget (mset (mset st.mem _ none) st.next _) x = _
              rw [mget_mset_ne _ _ (Nat.ne_of_lt hx)]
              exact mget_mset_ne _ _ fun e => hb e.symm
            · cases h
          · cases h
        · cases h
    · cases h
  · cases h

theorem toldRows_block {m : Mem} {sz len b : Nat} {x : AVal} {get : Nat → List AVal} {o : Bool} (ht : toldRows m sz x = some (some b, len, get, o)) : (∃ off len cap, x = .sl b off len cap) ∨ ∃ sz off len cap, x = .sla b sz off len cap := by
  unfold toldRows at ht
  split at ht
  · simp at ht
  · split at ht
    · split at ht
      · obtain ⟨_, ht⟩ := bif_inv ht
        simp only [Option.some.injEq, Prod.mk.injEq] at ht
        obtain ⟨rfl, _⟩ := ht
        exact .inl ⟨_, _, _, rfl⟩
      · cases ht
    · cases ht
  · split at ht
    · split at ht
      · obtain ⟨_, ht⟩ := bif_inv ht
        simp only [Option.some.injEq, Prod.mk.injEq] at ht
        obtain ⟨rfl, _⟩ := ht
        exact .inr ⟨_, _, _, _, rfl⟩
      · cases ht
    · cases ht
  · cases ht

theorem aAppendG_same {x : Nat} {cx : Ctx} {st st' : St} {ts : List TypeId} {xs : List AVal} {v : AVal} (hx : x < st.next) (h : aAppendG P cx st ts xs = some (v, st')) (hn : ∀ off len cap r, xs ≠ .sl x off len cap :: r) (hn2 : ∀ sz off len cap r, xs ≠ .sla x sz off len cap :: r) : Same x st st' := by
  unfold aAppendG at h
  split at h
  · split at h
    · split at h
      · split at h
        · rename_i b len get o1 n g o2 ht _
          obtain ⟨hc, h⟩ := bif_inv h
          simp only [Option.map_eq_some_iff, Prod.mk.injEq] at h
          obtain ⟨_, h1, _, rfl⟩ := h
          obtain ⟨_, o2, _, _⟩ := owe_spec h1
          unfold Same
          rw [o2]
          show mget (mset (killO st.mem b) st.next _) x = _
          rw [mget_mset_ne _ _ (Nat.ne_of_lt hx)]
          cases b with
          | none => rfl
          | some b =>
            refine mget_mset_ne _ _ fun e => ?_
            subst e
            rcases toldRows_block ht with ⟨_, _, _, rfl⟩ | ⟨_, _, _, _, rfl⟩
            · exact hn _ _ _ _ rfl
            · exact hn2 _ _ _ _ _ rfl
        · cases h
      · cases h
    · cases h
  · cases h

theorem aAppend2_same {x : Nat} {cx : Ctx} {st st' : St} {ts : List TypeId} {xs : List AVal} {v : AVal} (hx : x < st.next) (h : aAppend2 P cx st ts xs = some (v, st')) (hn : ∀ off len cap r, xs ≠ .sl x off len cap :: r) (hn2 : ∀ sz off len cap r, xs ≠ .sla x sz off len cap :: r) : Same x st st' := by
  unfold aAppend2 at h
  rcases bif_or h with ⟨_, h⟩ | ⟨_, h⟩
  · exact aAppendG_same hx h hn hn2
  · split at h
    · exact aAppendA_same hx h hn2
    · exact aAppend_same hx h hn

theorem aCopy_same {x floor : Nat} {st st' : St} {ts : List TypeId} {xs : List AVal} {v : AVal} (h : aCopy P floor st ts xs = some (v, st')) (hn : ∀ off len cap r, xs ≠ .sl x off len cap :: r) : Same x st st' := by
  unfold aCopy at h
  split at h
  · split at h
    · split at h
      · split at h
        · obtain ⟨_, h⟩ := bif_inv h
          split at h
          · simp only [Option.some.injEq, Prod.mk.injEq] at h
            obtain ⟨_, rfl⟩ := h
            rfl
          · have hb := fun e => hn _ _ _ _ (congrArg (fun b => AVal.sl b _ _ _ :: _) e)
            dsimp only at h
            split at h
            · obtain ⟨hc, h⟩ := bif_inv h
              simp only [Option.some.injEq, Prod.mk.injEq] at h
              obtain ⟨_, rfl⟩ := h
              exact same_write st _ hb
            · cases h
          · cases h
        · cases h
      · cases h
    · cases h
  · cases h

theorem aClear_same {x floor : Nat} {st st' : St} {ts : List TypeId} {xs : List AVal} {v : AVal} (h : aClear P floor st ts xs = some (v, st')) (hn : ∀ off len cap r, xs ≠ .sl x off len cap :: r) : Same x st st' := by
  unfold aClear at h
  split at h
  · split at h
    · split at h
      · split at h
        · simp only [Option.some.injEq, Prod.mk.injEq] at h
          obtain ⟨_, rfl⟩ := h
          rfl
        · have hb := fun e => hn _ _ _ _ (congrArg (fun b => AVal.sl b _ _ _ :: _) e)
          rcases bif_or h with ⟨_, h⟩ | ⟨_, h⟩
          · simp only [Option.some.injEq, Prod.mk.injEq] at h
            obtain ⟨_, rfl⟩ := h
            rfl
          · obtain ⟨hc, h⟩ := bif_inv h
            split at h
            · obtain ⟨_, h⟩ := bif_inv h
              simp only [Option.some.injEq, Prod.mk.injEq] at h
              obtain ⟨_, rfl⟩ := h
              exact same_write st _ hb
            · cases h
        · cases h
      · cases h
    · cases h
  · cases h

theorem aEffect_same {S : Specs} {R : Runner} {lift : Bool} {op : Op} {cx : Ctx} {st st' : St} {v : AVal} {x : Nat} (hk : kindOf op = .chain) (hx : x < st.next) (hn : wrOf op st.eval ≠ some x) (h : aEffect P S R lift op cx st = some (v, st')) : Same x st st' := by
  cases op with
  | store t a y =>
    simp only [aEffect] at h
    split at h
    · rename_i b sz r fo hb
      simp only [Option.map_eq_some_iff, Prod.mk.injEq] at h
      obtain ⟨_, h, _, rfl⟩ := h
      exact aStoreE_same h fun sz r fo e => hn (by simp only [wrOf, hb]; cases e; rfl)
    · simp only [Option.map_eq_some_iff, Prod.mk.injEq] at h
      obtain ⟨_, h, _, rfl⟩ := h
      exact aStore_same h fun off e => hn (by simp only [wrOf, e])
  | box t y =>
    unfold aEffect at h
    simp only at h
    obtain ⟨_, h⟩ := bif_inv h
    simp only [Option.some.injEq, Prod.mk.injEq] at h
    obtain ⟨_, rfl⟩ := h
    exact same_new st _ _ hx
  | buildSlice t n ps => exact aBuildSlice_same hx h
  | makeSlice t l c =>
    unfold aEffect at h
    simp only at h
    rcases bif_or h with ⟨_, h⟩ | ⟨_, h⟩
    · exact aMakeSliceA_same hx h
    · exact aMakeSlice_same hx h
  | call c =>
    obtain ⟨callee, args, argTypes⟩ := c
    cases callee with
    | builtin b =>
      cases b <;> first
        | (simp [kindOf] at hk; done)
        | exact aAppend2_same hx h (fun off len cap r e => hn (by simp only [wrOf, e])) (fun sz off len cap r e => hn (by simp only [wrOf, e]))
        | exact aCopy_same h fun off len cap r e => hn (by simp only [wrOf, e])
        | exact aClear_same h fun off len cap r e => hn (by simp only [wrOf, e])
    | value f => simp [kindOf] at hk
    | invoke r m => simp [kindOf] at hk
  | _ => simp [kindOf] at hk

/-! ### Calls -/
theorem pf_sound : ∀ (d : Nat) (a : AVal) (u : Value), pf d a = true → VRel ρ a u → VRel ρ.bare a u
  | 0, _, _, h, _ => by simp [pf] at h
  | d + 1, a, u, h, hr => by
    cases hr with
    | undef => simp [pf] at h
    | bool => exact .bool _
    | int => exact .int _ _
    | str => exact .str _
    | agg cs vs hl hh =>
      simp only [pf, List.all_eq_true] at h
      exact .agg cs vs hl fun i h1 h2 => pf_sound d _ _ (h _ (List.getElem_mem h1)) (hh i h1 h2)
    | tup cs vs hl hh =>
      simp only [pf, List.all_eq_true] at h
      exact .tup cs vs hl fun i h1 h2 => pf_sound d _ _ (h _ (List.getElem_mem h1)) (hh i h1 h2)
    | ptr => simp [pf] at h
    | nilp => exact .nilp
    | sl => simp [pf] at h
    | sla => simp [pf] at h
    | slan => simp [pf] at h
    | epa => simp [pf] at h
    | nils => exact .nils
    | fn => simp [pf] at h
    | nilf => exact .nilf
    | fnb => simp [pf] at h
    | yld => simp [pf] at h
    | ifc => simp [pf] at h
    | nili => exact .nili
    | dat len get blk base sz cap val hcap hsz hv hh => exact .dat len get blk base sz cap val hcap hsz hv hh
    | datn get => exact .datn get
    | dptr cs blk base val hv hh => exact .dptr cs blk base val hv hh

/-- What is known of functions that are not looked into. -/
def ValOk (P : Program) (f : FuncId) (F : List AVal → Option (AVal × Bool)) : Prop :=
  ∀ args v, F args = some (v, true) → ∀ (H : Old) (vals : Array Value) (w : World), All2 (VRel (rhoOf H)) args vals.toList → (∀ k o, H k = some o → w.heap[k]? = some o) →
    Calls P f vals w fun e w' => ∃ H' u, (∀ k o, H k = some o → H' k = some o) ∧ (∀ k o, H' k = some o → w'.heap[k]? = some o) ∧ (∀ k, k < w.heap.size → H' k = H k) ∧ e = .returned u ∧ VRel (rhoOf H') v u ∧ RowKit.Below w.heap.size w w'

/-- A function that turns a block. -/
def EffOk (P : Program) (f : FuncId) (F : List AVal → Mem → Option (AVal × Nat × ABlk × Bool)) : Prop :=
  ∀ args mem v b blk, F args mem = some (v, b, blk, true) → (mget mem b).isSome = true → ∀ (ρ : Rho) (next floor : Nat) (vals : Array Value) (w : World), floor ≤ b → All2 (VRel ρ) args vals.toList → Rel ρ mem next w →
    Calls P f vals w fun e w' => ∃ u, e = .returned u ∧ VRel ρ v u ∧ Rel ρ (mset mem b (some blk)) next w' ∧ Ev ρ ρ floor mem next (mset mem b (some blk)) next w w'

def SpecOk (P : Program) (f : FuncId) : Spec → Prop
  | .val F => ValOk P f F
  | .eff F => EffOk P f F
def SpecsOk (P : Program) (S : Specs) : Prop :=
  ∀ f F, S f = some F → (∃ fn, P.funcs[f]? = some fn ∧ fn.body.isSome = true) ∧ SpecOk P f F

/-- No function with a body has the one name that the machine answers itself. -/
def Named (P : Program) : Prop := ∀ (f : FuncId) (fn : Func), P.funcs[f]? = some fn → fn.body.isSome = true → (fn.name == "runtime.NumGoroutine") = false

def ROk (P : Program) (R : Runner) : Prop :=
  ∀ cx todo st st', cx.floor ≤ st.next → R cx todo st = some st' → st'.ob = true → ∀ (ρ : Rho) (a : Act) (w : World) (b : Frame) (cs : List Frame), a.defers = [] → EnvRel ρ st.env cx.n a.tmps → Rel ρ st.mem st.next w →
    ∃ ρ' a' todo' w', Steps P (lone (b.at a todo) cs w) (lone { b.at a' todo' with mode := .returning } cs w') ∧ a'.defers = [] ∧ EnvRel ρ' st'.env cx.n a'.tmps ∧ Rel ρ' st'.mem st'.next w' ∧
      Ev ρ ρ' cx.floor st.mem st.next st'.mem st'.next w w'

theorem envOf_get : ∀ (args : List AVal) (i : Nat) (t : T AVal) (k : Nat), T.get .undef (envOf args i t) k = if i ≤ k ∧ k < i + args.length then args.getD (k - i) .undef else T.get .undef t k
  | [], i, t, k => by
    rw [if_neg (by intro h; simp at h; omega)]; rfl
  | a :: r, i, t, k => by
    simp only [envOf]
    rw [envOf_get r (i + 1) _ k, T.get_set]
    by_cases h1 : k = i
    · subst h1
      rw [if_neg (by omega), if_pos rfl, if_pos (by simp)]
      simp
    · by_cases h2 : i + 1 ≤ k ∧ k < i + 1 + r.length
      · rw [if_pos h2, if_pos (by simp; omega)]
        have : k - i = (k - (i + 1)) + 1 := by omega
        rw [this]; simp
      · rw [if_neg h2, if_neg h1, if_neg (by simp; omega)]

def resRun (tmps : Array Value) : ResultVar → Sem Value
  | .tmp t => pure (tmps.getD t undef)
  | .cell a t => do loadVar t (← asAddr (tmps.getD a undef))

theorem results_eq (fn : Func) (tmps : Array Value) : results fn tmps = (do
    let vs ← fn.results.mapM (resRun tmps)
    pure (if h : vs.size = 1 then vs[0] else .tuple vs)) := by
  unfold results
  have : (fun r : ResultVar => (match r with | .tmp t => pure (tmps.getD t undef) | .cell a t => do loadVar t (← asAddr (tmps.getD a undef)) : Sem Value)) = resRun tmps := by
    funext r
    cases r <;> rfl
  rw [← this]
  rfl

theorem aResult_sound {st : St} {w : World} {tmps : Array Value} {n : Nat} (henv : EnvRel ρ st.env n tmps) (hrel : Rel ρ st.mem st.next w) {r : ResultVar} {v : AVal} (h : aResult P st r = some v) :
    ∃ u, VRel ρ v u ∧ (resRun tmps r).run P w = .ok u w := by
  have get : ∀ t, VRel ρ (st.tmp t) (tmps.getD t undef) := fun t => henv.get t
  cases r with
  | tmp t =>
    simp only [aResult, Option.some.injEq] at h
    subst h
    exact ⟨_, get t, rfl⟩
  | cell a t =>
    simp only [aResult] at h
    obtain ⟨z, hz, hr⟩ := aLoad_sound hrel h (get a)
    refine ⟨z, hz, ?_⟩
    have ha := get a
    unfold resRun
    simp only
    generalize tmps.getD a undef = u at ha hr ⊢
    unfold aLoad at h
    split at h
    · rename_i e
      rw [e] at ha
      cases ha
      simpa [Instr.loadAt, Instr.sureAddr, asAddr] using hr
    · rename_i e
      rw [e] at ha
      cases ha
      simpa [Instr.loadAt, Instr.sureAddr, asAddr] using hr
    · cases h

theorem aResults_sound {st : St} {w : World} {tmps : Array Value} {n : Nat} (henv : EnvRel ρ st.env n tmps) (hrel : Rel ρ st.mem st.next w) : ∀ {rs : List ResultVar} {vs : List AVal}, aResults P st rs = some vs →
    ∃ us, All2 (VRel ρ) vs us ∧ (rs.mapM (resRun tmps)).run P w = .ok us w
  | [], vs, h => by simp only [aResults, Option.some.injEq] at h; subst h; exact ⟨[], .nil, by simp⟩
  | r :: rs, vs, h => by
    unfold aResults at h
    split at h
    · rename_i v vs' h1 h2
      obtain rfl := Option.some.inj h
      obtain ⟨u, hu, hr⟩ := aResult_sound henv hrel h1
      obtain ⟨us, hus, hrs⟩ := aResults_sound henv hrel h2
      refine ⟨u :: us, .cons hu hus, ?_⟩
      rw [List.mapM_cons, Sem.run_bind, hr]
      simp only [Result.andThen_ok, Sem.run_bind, hrs, Sem.run_pure]
    · cases h

theorem results_sound {fn : Func} {st : St} {w : World} {tmps : Array Value} {n : Nat} (henv : EnvRel ρ st.env n tmps) (hrel : Rel ρ st.mem st.next w) {vs : List AVal} (h : aResults P st fn.results.toList = some vs) :
    ∃ u, VRel ρ (packed vs) u ∧ (results fn tmps).run P w = .ok u w := by
  obtain ⟨us, hus, hr⟩ := aResults_sound henv hrel h
  refine ⟨if h : us.toArray.size = 1 then us.toArray[0] else .tuple us.toArray, ?_, ?_⟩
  · cases hus with
    | nil => exact .tup [] _ rfl fun i h1 _ => by simp at h1
    | cons h1 hs => cases hs with
      | nil => simpa [packed] using h1
      | cons h2 hs =>
        have hall := All2.cons h1 (All2.cons h2 hs)
        have hl := hall.length
        simp only [packed]
        rw [dif_neg (by simp)]
        exact .tup _ _ (by simpa using hl) fun i h1 h2 => by simpa using hall.get i h1 (by simpa using h2)
  · rw [results_eq, Sem.run_bind, Array.mapM_eq_mapM_toList, Sem.run_map, hr]
    rfl

/-- The frame of a call, at its start. -/
theorem env_start {args : List AVal} {vals : Array Value} (h : All2 (VRel ρ) args vals.toList) (ntmps : Nat) :
    EnvRel ρ (envOf args 0 .leaf) (Nat.max ntmps args.length) (vals ++ Array.replicate (ntmps - vals.size) undef) := by
  have hl : args.length = vals.size := by simpa using h.length
  have hmax : Nat.max ntmps args.length = vals.size + (ntmps - vals.size) := by
    have : Nat.max ntmps args.length = max ntmps args.length := rfl
    rw [this]; omega
  refine ⟨by rw [hmax]; simp, fun i => ?_, fun i hi => ?_⟩
  · rw [envOf_get]
    by_cases hi : i < args.length
    · rw [if_pos (by omega)]
      have h2 : i < vals.toList.length := by rw [← h.length]; exact hi
      have := h.get i hi h2
      have e1 : args.getD (i - 0) .undef = args[i] := by simp [hi]
      have e2 : (vals ++ Array.replicate (ntmps - vals.size) undef).getD i undef = vals.toList[i] := by
        have h3 : i < vals.size := by simpa using h2
        simp [Array.getElem?_append, h3]
      rw [e1, e2]; exact this
    · rw [if_neg (by omega)]
      exact .undef _
  · have hle : args.length ≤ Nat.max ntmps args.length := Nat.le_max_right _ _
    rw [envOf_get, if_neg (by omega)]; rfl

theorem fnCall_run {f : FuncId} {fn : Func} (hN : Named P) (hf : P.funcs[f]? = some fn) (hb : fn.body.isSome = true) (args : Array Value) (w : World) : (callFunc f args).run P w = .ok (.enter f args) w := by
  have h1 : ¬ fn.name = "runtime.NumGoroutine" := by simpa using hN f fn hf hb
  have h2 : ¬ fn.body = none := by intro e; rw [e] at hb; cases hb
  simp [callFunc, hf, h1, h2]

theorem viewV_sound {mem : Mem} {next : Nat} {w : World} (h : Rel ρ mem next w) {a a' : AVal} {o : Bool} (hv : viewV mem a = (a', o)) (ho : o = true) {u : Value} (hr : VRel ρ a u) (hp : pf 3 a' = true) : VRel (rhoOf fun k => w.heap[k]?) a' u := by
  subst ho
  have hle : ρ.bare.le (rhoOf fun k => w.heap[k]?) := ⟨fun _ _ e => (by cases e), fun k o e => h.old k o e, fun _ _ e => (by cases e)⟩
  unfold viewV at hv
  split at hv
  · rename_i b sz off len cap
    split at hv
    · rename_i blk hm
      split at hv
      · rename_i A hA
        simp only [Prod.mk.injEq, Bool.and_eq_true, decide_eq_true_eq] at hv
        obtain ⟨rfl, h1, h2, h3⟩ := hv
        obtain rfl := Nat.eq_of_beq_eq_true h1
        have h3 := @of_decide_eq_true _ (Classical.propDecidable _) h3
        cases hr with
        | slan => exact .datn _
        | sla _ _ _ _ _ l c hρ hcap hlen =>
          obtain ⟨har1, har2, har3⟩ := (h.blk b l blk hρ hm).arr A hA
          obtain ⟨cur, el, hh, _⟩ := (h.blk b l blk hρ hm).cells
          refine .dat len _ l.blk (l.base + off * A.sz) A.sz c (fun i j => (w.cell? ⟨l.blk, l.base + (off + i) * A.sz + j, none⟩).getD undef) hlen (fun i hi => har3 _ (by omega)) (fun i j hi hj => ?_) (fun i j hi hj => ?_)
          · obtain ⟨v, e1, e2⟩ := (h.rowAt hρ hm hA (r := off + i) (by omega)) j hj
            simp only [e1, Option.getD_some]
            exact (pf_sound 6 _ _ (List.all_eq_true.1 (h3 (off + i)) _ (List.getElem_mem hj)) e2).mono hle
          · obtain ⟨v, e1, e2⟩ := (h.rowAt hρ hm hA (r := off + i) (by omega)) j (by rw [har3 _ (by omega)]; exact hj)
            simp only [e1, Option.getD_some]
            refine ⟨cur, el, (0, 0), hh, ?_⟩
            simp only [World.cell?, hh] at e1
            rw [← e1]
            congr 1
            rw [Nat.add_mul]; omega
      · simp only [Prod.mk.injEq] at hv
        obtain ⟨rfl, _⟩ := hv
        simp [pf] at hp
    · simp only [Prod.mk.injEq] at hv
      obtain ⟨rfl, _⟩ := hv
      simp [pf] at hp
  · simp only [Prod.mk.injEq] at hv
    obtain ⟨rfl, _⟩ := hv
    exact (pf_sound 3 _ _ hp hr).mono hle

theorem viewL_sound {mem : Mem} {next : Nat} {w : World} (h : Rel ρ mem next w) {as : List AVal} {us : List Value} (hr : All2 (VRel ρ) as us) : ∀ {as' : List AVal} {o : Bool}, viewL mem as = (as', o) → o = true → as'.all (pf 3) = true → All2 (VRel (rhoOf fun k => w.heap[k]?)) as' us := by
  induction hr with
  | nil =>
    intro as' o hv _ _
    simp only [viewL, Prod.mk.injEq] at hv
    obtain ⟨rfl, _⟩ := hv
    exact .nil
  | @cons a b l m h1 _ ih =>
    intro as' o hv ho hp
    unfold viewL at hv
    split at hv
    rename_i a1 o1 as1 q1 e1 e2
    simp only [Prod.mk.injEq] at hv
    obtain ⟨rfl, rfl⟩ := hv
    simp only [Bool.and_eq_true] at ho
    simp only [List.all_cons, Bool.and_eq_true] at hp
    exact .cons (viewV_sound h e1 ho.1 h1 hp.1) (ih e2 ho.2 hp.2)

theorem scal_sound {σ : Rho} {v : AVal} {u : Value} (hs : scal v = true) (h : VRel σ v u) : VRel ρ v u := by
  cases h with
  | bool => exact .bool _
  | int => exact .int _ _
  | str => exact .str _
  | tup cs vs hl hh =>
    simp only [scal, List.all_eq_true] at hs
    refine .tup cs vs hl fun i h1 h2 => ?_
    have k1 := hs _ (List.getElem_mem h1)
    have k2 := hh i h1 h2
    generalize cs[i] = a at k1 k2
    generalize vs[i] = b at k2
    cases k2 with
    | bool => exact .bool _
    | int => exact .int _ _
    | str => exact .str _
    | _ => simp at k1
  | _ => simp [scal] at hs

theorem aCall_sound {S : Specs} {R : Runner} (hS : SpecsOk P S) (hR : ROk P R) {lift : Bool} {f : FuncId} {args : List AVal} {cx : Ctx} {st st' : St} {v : AVal} (hcx : cx.floor ≤ st.next) (h : aCall P S R lift f args cx st = some (v, st')) (hob : st'.ob = true)
    {vals : Array Value} (hargs : All2 (VRel ρ) args vals.toList) {w : World} (hrel : Rel ρ st.mem st.next w) :
    (∃ fn, P.funcs[f]? = some fn ∧ fn.body.isSome = true) ∧ Calls P f vals w fun e w' => ∃ ρ' u, e = .returned u ∧ Post ρ cx.floor st st' v w ρ' u w' := by
  unfold aCall at h
  split at h
  · rename_i F hF
    rcases bif_or h with ⟨hca, h⟩ | ⟨_, h⟩
    · split at h
      · rename_i v' b hFa
        obtain ⟨hc2, h⟩ := bif_inv h
        have hc1 := List.all_eq_true.1 hca
        simp only [Option.map_eq_some_iff, Prod.mk.injEq] at h
        obtain ⟨st1, h1, rfl, rfl⟩ := h
        obtain ⟨_, e2, e3, e4⟩ := owe_spec h1
        obtain ⟨rfl, _⟩ := e4 hob
        obtain ⟨hfn, hcall⟩ := hS f _ hF
        refine ⟨hfn, ?_⟩
        have hargs0 : All2 (VRel ρ.bare) args vals.toList := All2.of hargs.length fun i g1 g2 => pf_sound 3 _ _ (hc1 _ (List.getElem_mem g1)) (hargs.get i g1 g2)
        refine (hcall args v' hFa ρ.fz vals w hargs0 hrel.old).mono fun e w' ⟨H', u, hle, hold, hsame, he, hv, hb⟩ => ⟨⟨ρ.f, H', ρ.lp⟩, u, he, VRel.mono (ρ := rhoOf H') (ρ' := ⟨ρ.f, H', ρ.lp⟩) ⟨fun _ _ e => (by cases e), fun _ _ e => e, fun _ _ e => (by cases e)⟩ hv, ?_, ?_⟩
        · rw [e2, e3]
          have hle' : ρ.le ⟨ρ.f, H', ρ.lp⟩ := ⟨fun _ _ e => e, hle, fun _ _ e => e⟩
          exact ⟨hrel.dom, hrel.inj, fun b l ab q1 q2 => (hrel.blk b l ab q1 q2).world hle' (hb.block _ (hrel.real b l q1)), hold, fun b l q hs => (hsame _ (hrel.real b l q)).trans (hrel.sep b l q hs), fun b l q => Nat.lt_of_lt_of_le (hrel.real b l q) hb.size, hrel.bd, hrel.ldom⟩
        · rw [e2, e3]
          exact ⟨⟨fun _ _ e => e, hle, fun _ _ e => e⟩, fun _ _ => rfl, Nat.le_refl _, fun _ _ _ _ _ h => h, fun k o hk _ => by rw [hb.block k (Array.getElem?_eq_some_iff.1 hk).1]; exact hk,
            fun b l hb' hl => by have := hrel.dom b l hl; omega, hb.size, hb.os, hb.tape, hb.output, hsame⟩
      · cases h
    · split at h
      rename_i args' o hview
      split at h
      · rename_i v' b hFa
        obtain ⟨hc, h⟩ := bif_inv h
        simp only [Bool.and_eq_true] at hc
        simp only [Option.map_eq_some_iff, Prod.mk.injEq] at h
        obtain ⟨st1, h1, rfl, rfl⟩ := h
        obtain ⟨_, e2, e3, e4⟩ := owe_spec h1
        obtain ⟨hob1, _⟩ := e4 hob
        simp only [Bool.and_eq_true] at hob1
        obtain ⟨ho, rfl⟩ := hob1
        obtain ⟨hfn, hcall⟩ := hS f _ hF
        refine ⟨hfn, ?_⟩
        have hargs0 := viewL_sound hrel hargs hview ho hc.1
        refine (hcall args' v' hFa (fun k => w.heap[k]?) vals w hargs0 fun _ _ e => e).mono fun e w' ⟨H', u, hle, hold, hsame, he, hv, hb⟩ => ⟨ρ, u, he, scal_sound hc.2 hv, ?_, ?_⟩
        · rw [e2, e3]
          exact ⟨hrel.dom, hrel.inj, fun b l ab q1 q2 => (hrel.blk b l ab q1 q2).world (Rho.le_refl _) (hb.block _ (hrel.real b l q1)), fun k o q => by rw [hb.block k (Array.getElem?_eq_some_iff.1 (hrel.old k o q)).1]; exact hrel.old k o q, hrel.sep, fun b l q => Nat.lt_of_lt_of_le (hrel.real b l q) hb.size, hrel.bd, hrel.ldom⟩
        · rw [e2, e3]
          exact ⟨Rho.le_refl _, fun _ _ => rfl, Nat.le_refl _, fun _ _ _ _ _ h => h, fun k o hk _ => by rw [hb.block k (Array.getElem?_eq_some_iff.1 hk).1]; exact hk,
            fun b l hb' hl => by have := hrel.dom b l hl; omega, hb.size, hb.os, hb.tape, hb.output, fun _ _ => rfl⟩
      · cases h
  · rename_i F hF
    split at h
    · rename_i v0 b blk o hFa
      split at h
      · rename_i ab hm
        obtain ⟨hc, h⟩ := bif_inv h
        simp only [Bool.and_eq_true] at hc
        simp only [Option.map_eq_some_iff, Prod.mk.injEq] at h
        obtain ⟨st1, h1, rfl, rfl⟩ := h
        obtain ⟨_, e2, e3, e4⟩ := owe_spec h1
        obtain ⟨rfl, _⟩ := e4 hob
        obtain ⟨hfn, hcall⟩ := hS f _ hF
        refine ⟨hfn, ?_⟩
        refine (hcall args st.mem v0 b blk hFa (by rw [hm]; rfl) ρ st.next cx.floor vals w (Nat.le_of_ble_eq_true hc.2) hargs hrel).mono fun e w' ⟨u, he, hv, hr, hev⟩ => ⟨ρ, u, he, hv, ?_, ?_⟩
        · rw [e2, e3]; exact hr
        · rw [e2, e3]; exact hev
      · cases h
    · cases h
  · split at h
    · rename_i fn hf
      split at h
      · rename_i body hb
        split at h
        · rename_i st2 hr
          split at h
          · rename_i vs hvs
            simp only [Option.some.injEq, Prod.mk.injEq] at h
            obtain ⟨rfl, rfl⟩ := h
            refine ⟨⟨fn, hf, by rw [hb]; rfl⟩, ?_⟩
            intro cs
            let b : Frame := { (default : Frame) with fn := f, kind := .normal }
            have henter : Frame.enter P f vals .normal = b.at { tmps := vals ++ Array.replicate (fn.ntmps - vals.size) undef, defers := [] } [.code body] := by
              simp [Frame.enter, Frame.at, hf, hb, b]
            obtain ⟨ρ', a', todo', w', hsteps, hd, henv, hrel', hev⟩ := hR _ _ _ _ (by
              cases lift with
              | false => exact hcx
              | true => exact Nat.le_refl _) hr hob ρ { tmps := vals ++ Array.replicate (fn.ntmps - vals.size) undef, defers := [] } w b cs rfl (env_start hargs fn.ntmps) hrel
            obtain ⟨u, hu, hres⟩ := results_sound henv hrel' hvs
            rw [← henter] at hsteps
            refine ⟨.returned u, w', _, ⟨ρ', u, rfl, hu, hrel', ?_⟩, hsteps, rfl, rfl, hd, rfl, fn, hf, hres⟩
            refine hev.lower ?_
            cases lift with
            | false => exact Nat.le_refl _
            | true => exact hcx
          · cases h
        · cases h
      · cases h
    · cases h

/-! ### Every operation that touches memory -/
theorem aEffect_sound {S : Specs} {R : Runner} (hN : Named P) (hS : SpecsOk P S) (hR : ROk P R) {lift : Bool} {o : Oper} {cx : Ctx} {st st' : St} {v : AVal} (hcx : cx.floor ≤ st.next)
    (h : aEffect P S R lift o.op cx st = some (v, st')) (hob : st'.ob = true) {ev : Operand → AVal} (hev : ∀ x, x ∈ o.op.operands → ev x = st.eval x) {a : Act} (hr : OpsRel ρ ev a.eval o.op) {w : World} (hrel : Rel ρ st.mem st.next w) :
    Does P o a w (Post ρ cx.floor st st' v w) := by
  obtain ⟨dst, op, type, pos, after, guard⟩ := o
  simp only at h hr hev
  replace hr : OpsRel ρ st.eval a.eval op := fun x hx => by rw [← hev x hx]; exact hr x hx
  clear hev
  unfold aEffect at h
  split at h
  · rename_i t x
    split at h
    · rename_i v' b st0 hv
      obtain ⟨l1, l2, l3, l4⟩ := aLoadO_spec hv
      simp only [Option.map_eq_some_iff, Prod.mk.injEq] at h
      obtain ⟨st1, h1, rfl, rfl⟩ := h
      obtain ⟨e1, e2, e3, e4⟩ := owe_spec h1
      obtain ⟨rfl, hob0⟩ := e4 hob
      obtain ⟨z, hz, hrun⟩ := aLoadP_sound hrel (l4 hob0).1 (hr x (by simp [Op.operands]))
      exact .inl ⟨ρ, z, w, by simp [execOp, hrun], hz, by rw [e2, e3, l2, l3]; exact hrel, by rw [e2, e3, l2, l3]; exact Ev.refl _ _ _ _ _ hrel.dom⟩
    · cases h
  · rename_i t
    simp only [Option.map_eq_some_iff, Prod.mk.injEq] at h
    obtain ⟨z, hz, rfl, rfl⟩ := h
    obtain ⟨_, zv, _, _, hzr, hzv⟩ := zeroOf_sound (ρ := ρ) hz
    refine .inl ⟨_, .pointer (some ⟨w.heap.size, 0, none⟩), _, ?_, post_new hrel cx.floor z t zv.cells t (by rw [hzr.1]; exact Nat.le_refl _) hzr.2 _ _ fun ρ' hρ' => .ptr _ 0 _ hρ'⟩
    simp [execOp, Instr.alloc, hzv, newVar, newRow]
  · rename_i t x
    obtain ⟨hbx, h⟩ := bif_inv h
    simp only [Option.some.injEq, Prod.mk.injEq] at h
    obtain ⟨rfl, rfl⟩ := h
    have hc := (hr x (by simp [Op.operands])).cells hbx
    refine .inl ⟨_, .pointer (some ⟨w.heap.size, 0, none⟩), _, ?_, post_new hrel cx.floor _ t (a.eval x).cells t (by rw [hc.1]; exact Nat.le_refl _) hc.2 _ _ fun ρ' hρ' => .ptr _ 0 _ hρ'⟩
    simp [execOp, Instr.box, newVar, newRow]
  · rename_i t len parts
    obtain ⟨ρ', u, w', hrun, hp, _, _⟩ := aBuildSlice_sound hrel cx.floor h (partsRel_of parts.toList fun p hp => hr p.2 (by simp only [Op.operands, List.mem_toArray, List.mem_map]; exact ⟨p, hp, rfl⟩))
    refine .inl ⟨ρ', u, w', ?_, hp⟩
    have : (parts.map fun (i, x) => (i, a.eval x)) = (parts.toList.map fun p => (p.1, a.eval p.2)).toArray := by
      apply Array.ext'; simp
    simp [execOp, this, hrun]
  · rename_i t x y
    split at h
    · rename_i b sz r fo hb
      simp only [Option.map_eq_some_iff, Prod.mk.injEq] at h
      obtain ⟨st1, h, rfl, rfl⟩ := h
      have hx := hr x (by simp [Op.operands])
      rw [hb] at hx
      obtain ⟨w', hrun, hp⟩ := aStoreE_sound hrel h hob hx (hr y (by simp [Op.operands]))
      exact .inr (.inl ⟨ρ, w', by simp [execOp, hrun], hp⟩)
    · simp only [Option.map_eq_some_iff, Prod.mk.injEq] at h
      obtain ⟨st1, h, rfl, rfl⟩ := h
      obtain ⟨w', hrun, hp, _, _⟩ := aStore_sound hrel h (hr x (by simp [Op.operands])) (hr y (by simp [Op.operands]))
      exact .inr (.inl ⟨ρ, w', by simp [execOp, hrun], hp⟩)
  · rename_i t l c
    rcases bif_or h with ⟨_, h⟩ | ⟨_, h⟩
    · obtain ⟨ρ', u, w', hrun, hp⟩ := aMakeSliceA_sound hrel h hob (hr l (by simp [Op.operands])) (hr c (by simp [Op.operands]))
      exact .inl ⟨ρ', u, w', by simp [execOp, hrun], hp⟩
    · obtain ⟨ρ', u, w', hrun, hp, _, _⟩ := aMakeSlice_sound hrel cx.floor h (hr l (by simp [Op.operands])) (hr c (by simp [Op.operands]))
      exact .inl ⟨ρ', u, w', by simp [execOp, hrun], hp⟩
  · rename_i args argTypes
    have hargs : All2 (VRel ρ) (args.toList.map st.eval) (args.map a.eval).toList := by
      rw [Array.toList_map]
      exact All2.maps _ _ _ fun x hx => hr x (by simp [Op.operands, Call.operands]; exact Array.mem_toList_iff.1 hx)
    unfold aAppend2 at h
    rcases bif_or h with ⟨_, h⟩ | ⟨_, h⟩
    · obtain ⟨ρ', u, w', hrun, hp⟩ := aAppendG_sound (type := type) hrel h hob hargs
      exact .inl ⟨ρ', u, w', by simp [execOp, resolve, invoke, builtin, hrun], hp⟩
    split at h
    · rename_i hxs
      obtain ⟨ρ', u, w', hrun, hp⟩ := aAppendA_sound (type := type) hrel h hob (hxs ▸ hargs)
      exact .inl ⟨ρ', u, w', by simp [execOp, resolve, invoke, builtin, hrun], hp⟩
    · obtain ⟨ρ', u, w', hrun, hp, _, _⟩ := aAppend_sound (type := type) hrel cx.floor h hargs
      exact .inl ⟨ρ', u, w', by simp [execOp, resolve, invoke, builtin, hrun], hp⟩
  · rename_i args argTypes
    have hargs : All2 (VRel ρ) (args.toList.map st.eval) (args.map a.eval).toList := by
      rw [Array.toList_map]
      exact All2.maps _ _ _ fun x hx => hr x (by simp [Op.operands, Call.operands]; exact Array.mem_toList_iff.1 hx)
    obtain ⟨ρ', u, w', hrun, hp, _, _⟩ := aCopy_sound (type := type) hrel cx.floor h hargs
    exact .inl ⟨ρ', u, w', by simp [execOp, resolve, invoke, builtin, hrun], hp⟩
  · rename_i args argTypes
    have hargs : All2 (VRel ρ) (args.toList.map st.eval) (args.map a.eval).toList := by
      rw [Array.toList_map]
      exact All2.maps _ _ _ fun x hx => hr x (by simp [Op.operands, Call.operands]; exact Array.mem_toList_iff.1 hx)
    obtain ⟨ρ', u, w', hrun, hp, _, _⟩ := aClear_sound (type := type) hrel cx.floor h hargs
    exact .inl ⟨ρ', u, w', by simp [execOp, resolve, invoke, builtin, hrun], hp⟩
  · rename_i f args argTypes
    split at h
    · rename_i g caps hg
      have hf := hr f (by simp [Op.operands, Call.operands])
      rw [hg] at hf
      generalize hw : a.eval f = u at hf
      cases hf with
      | fn _ _ cvs hl hh =>
        have hargs : All2 (VRel ρ) (args.toList.map st.eval ++ caps) (args.map a.eval ++ cvs).toList := by
          rw [Array.toList_append, Array.toList_map]
          exact All2.append (All2.maps _ _ _ fun x hx => hr x (by simp [Op.operands, Call.operands]; exact .inr (Array.mem_toList_iff.1 hx))) (All2.of (by simpa using hl) fun i h1 h2 => by simpa using hh i h1 (by simpa using h2))
        obtain ⟨⟨fn, hfn, hb⟩, hc⟩ := aCall_sound hS hR hcx h hob hargs hrel
        refine .inr (.inr ⟨g, args.map a.eval ++ cvs, ?_, hc⟩)
        have := fnCall_run hN hfn hb (args.map a.eval ++ cvs) w
        simp [execOp, resolve, Deferred.ofValue, hw, invoke, this]
    · rename_i g first hg
      have hf := hr f (by simp [Op.operands, Call.operands])
      rw [hg] at hf
      generalize hw : a.eval f = u at hf
      cases hf with
      | fnb _ _ cvs hl hh =>
        have hargs : All2 (VRel ρ) (first ++ args.toList.map st.eval) (cvs ++ args.map a.eval).toList := by
          rw [Array.toList_append, Array.toList_map]
          exact All2.append (All2.of (by simpa using hl) fun i h1 h2 => by simpa using hh i h1 (by simpa using h2)) (All2.maps _ _ _ fun x hx => hr x (by simp [Op.operands, Call.operands]; exact .inr (Array.mem_toList_iff.1 hx)))
        obtain ⟨⟨fn, hfn, hb⟩, hc⟩ := aCall_sound hS hR hcx h hob hargs hrel
        refine .inr (.inr ⟨g, cvs ++ args.map a.eval, ?_, hc⟩)
        have := fnCall_run hN hfn hb (cvs ++ args.map a.eval) w
        simp [execOp, resolve, Deferred.ofValue, hw, invoke, this]
    · cases h
  · cases h

end
end Go.Am
