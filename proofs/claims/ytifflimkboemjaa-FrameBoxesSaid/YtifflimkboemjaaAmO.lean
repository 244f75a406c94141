/- Loops over data: what an abstract state comes to, step by step through the heads of the loops. -/
import Derived.Test.YtifflimkboemjaaAmN
namespace Go.Am
set_option linter.unusedVariables false

section
variable {P : Program} {H : Old}

/-! ### Fewer slots, fewer blocks -/
theorem keepEnv_get (env : T AVal) : ∀ (L : List Nat) (t : Nat), T.get .undef (keepEnv env L) t = if t ∈ L then T.get .undef env t else .undef
  | [], t => by simp [keepEnv]
  | x :: L, t => by
    unfold keepEnv
    rw [T.get_set, keepEnv_get env L t]
    by_cases h : t = x
    · subst h; simp
    · simp [h]

def below (ρ : Rho) (N : Nat) : Rho := fun b => if b < N then ρ b else none

theorem below_some {ρ : Rho} {N b : Nat} {l : Loc} (h : below ρ N b = some l) : b < N ∧ ρ b = some l := by
  unfold below at h
  by_cases hb : b < N
  · rw [if_pos hb] at h; exact ⟨hb, h⟩
  · rw [if_neg hb] at h; cases h
theorem below_of {ρ : Rho} {N b : Nat} {l : Loc} (hb : b < N) (h : ρ b = some l) : below ρ N b = some l := by unfold below; rw [if_pos hb]; exact h

theorem low_sound {ρ : Rho} {N : Nat} : ∀ (d : Nat) (a : AVal) (u : Value), low N d a = true → VRel ρ H a u → VRel (below ρ N) H a u
  | 0, _, _, h, _ => by simp [low] at h
  | d + 1, a, u, h, hv => by
    have ih := fun a u => low_sound (ρ := ρ) (N := N) d a u
    cases hv with
    | undef => exact .undef _
    | bool b => exact .bool b
    | int k n => exact .int k n
    | str s => exact .str s
    | agg cs vs hl hh =>
      simp only [low] at h
      exact .agg cs vs hl fun i h1 h2 => ih _ _ (List.all_eq_true.1 h _ (List.getElem_mem h1)) (hh i h1 h2)
    | tup cs vs hl hh =>
      simp only [low] at h
      exact .tup cs vs hl fun i h1 h2 => ih _ _ (List.all_eq_true.1 h _ (List.getElem_mem h1)) (hh i h1 h2)
    | ptr b off l e =>
      simp only [low] at h
      exact .ptr b off l (below_of (Nat.le_of_ble_eq_true h) e)
    | nilp => exact .nilp
    | sl b off len cap l c e hc hlen =>
      simp only [low] at h
      exact .sl b off len cap l c (below_of (Nat.le_of_ble_eq_true h) e) hc hlen
    | nils => exact .nils
    | fn f cs vs hl hh =>
      simp only [low] at h
      exact .fn f cs vs hl fun i h1 h2 => ih _ _ (List.all_eq_true.1 h _ (List.getElem_mem h1)) (hh i h1 h2)
    | nilf => exact .nilf
    | ifc t a v hv =>
      simp only [low] at h
      exact .ifc t a v (ih _ _ h hv)
    | nili => exact .nili
    | dat len get blk base sz cap val hcap hsz hv hh => exact .dat len get blk base sz cap val hcap hsz hv hh
    | datn get => exact .datn get
    | dptr cs blk base val hv hh => exact .dptr cs blk base val hv hh

theorem cutMem_spec {mem : Mem} {N : Nat} : ∀ {k : Nat} {m : Mem}, cutMem mem N k = some m → (∀ b, mget m b = if b < k then mget mem b else none) ∧ ∀ b ab, b < k → mget mem b = some ab → ab.cells.all (low N 6) = true
  | 0, m, h => by
    have h : some T.leaf = some m := h
    obtain rfl := Option.some.inj h
    exact ⟨fun b => by simp [mget], fun b ab hb => by omega⟩
  | k + 1, m, h => by
    unfold cutMem at h
    split at h
    · cases h
    · rename_i m1 h1
      obtain ⟨i1, i2⟩ := cutMem_spec h1
      split at h
      · rename_i hm
        obtain rfl := Option.some.inj h
        refine ⟨fun b => ?_, fun b ab hb hab => ?_⟩
        · rw [i1]
          by_cases hb : b < k
          · rw [if_pos hb, if_pos (by omega)]
          · rw [if_neg hb]
            by_cases e : b = k
            · subst e; rw [if_pos (by omega), hm]
            · rw [if_neg (by omega)]
        · by_cases e : b = k
          · subst e; rw [hm] at hab; cases hab
          · exact i2 b ab (by omega) hab
      · rename_i blk hm
        obtain ⟨hl, h⟩ := bif_inv h
        obtain rfl := Option.some.inj h
        refine ⟨fun b => ?_, fun b ab hb hab => ?_⟩
        · rw [mget_mset, i1]
          by_cases e : b = k
          · subst e; rw [if_pos rfl, if_pos (by omega), hm]
          · rw [if_neg e]
            by_cases hb : b < k
            · rw [if_pos hb, if_pos (by omega)]
            · rw [if_neg hb, if_neg (by omega)]
        · by_cases e : b = k
          · subst e; rw [hm] at hab; obtain rfl := Option.some.inj hab; exact hl
          · exact i2 b ab (by omega) hab

theorem keep_spec {L : List Nat} {N : Nat} {st s : St} (h : st.keep L N = some s) : N ≤ st.next ∧ s.next = N ∧ s.ob = st.ob ∧ s.env = keepEnv st.env L ∧ cutMem st.mem N N = some s.mem ∧ ∀ t ∈ L, low N 6 (T.get .undef st.env t) = true := by
  obtain ⟨env, mem, next, orc, ob⟩ := st
  unfold St.keep at h
  obtain ⟨hc, h⟩ := bif_inv h
  simp only [Bool.and_eq_true] at hc
  simp only [Option.map_eq_some_iff] at h
  obtain ⟨m, hm, rfl⟩ := h
  exact ⟨Nat.le_of_ble_eq_true hc.2, rfl, rfl, rfl, hm, fun t ht => List.all_eq_true.1 hc.1 t ht⟩

theorem EnvRel.keep {ρ : Rho} {env : T AVal} {n N : Nat} {tmps : Array Value} (h : EnvRel ρ H env n tmps) {L : List Nat} (hl : ∀ t ∈ L, low N 6 (T.get .undef env t) = true) : EnvRel (below ρ N) H (keepEnv env L) n tmps := by
  refine ⟨h.size, fun i => ?_, fun i hi => ?_⟩
  · rw [keepEnv_get]
    by_cases hL : i ∈ L
    · rw [if_pos hL]; exact low_sound 6 _ _ (hl i hL) (h.get i)
    · rw [if_neg hL]; exact .undef _
  · rw [keepEnv_get]
    by_cases hL : i ∈ L
    · rw [if_pos hL]; exact h.out i hi
    · rw [if_neg hL]

theorem Rel.keep {ρ : Rho} {mem m : Mem} {next N : Nat} {w : World} (h : Rel ρ H mem next w) (hm : cutMem mem N N = some m) : Rel (below ρ N) H m N w := by
  obtain ⟨e1, e2⟩ := cutMem_spec hm
  have is : ∀ b, b < N → mget m b = mget mem b := fun b hb => by rw [e1, if_pos hb]
  refine ⟨fun b l e => (below_some e).1, fun b b' l l' e e' hbl hs hs' => ?_, fun b l ab e hab => ?_, h.old, fun b l e => h.sep b l (below_some e).2, fun b l e => h.real b l (below_some e).2, fun b hb => by rw [e1, if_neg (by omega)]⟩
  · obtain ⟨h1, h2⟩ := below_some e
    obtain ⟨h3, h4⟩ := below_some e'
    exact h.inj b b' l l' h2 h4 hbl (by rw [← is b h1]; exact hs) (by rw [← is b' h3]; exact hs')
  · obtain ⟨h1, h2⟩ := below_some e
    rw [is b h1] at hab
    have hlow := e2 b ab h1 hab
    obtain ⟨n, t, cs, el, g1, g2, g3⟩ := h.blk b l ab h2 hab
    exact ⟨n, t, cs, el, g1, g2, fun i hi => let ⟨v, q1, q2⟩ := g3 i hi; ⟨v, q1, low_sound 6 _ _ (List.all_eq_true.1 hlow _ (List.getElem_mem hi)) q2⟩⟩

theorem Ev.keep {ρ0 ρ : Rho} {floor : Nat} {m0 mem m : Mem} {n0 next N : Nat} {w0 w : World} (h : Ev ρ0 ρ floor m0 n0 mem next w0 w) (hm : cutMem mem N N = some m) (hn : n0 ≤ N) (h0 : ∀ b l, ρ0 b = some l → b < n0) : Ev ρ0 (below ρ N) floor m0 n0 m N w0 w := by
  obtain ⟨e1, e2⟩ := cutMem_spec hm
  refine ⟨fun b l e => below_of (Nat.lt_of_lt_of_le (h0 b l e) hn) (h.ext b l e), fun b hb => ?_, hn, fun b hb e => ?_, h.frame, fun b l hb hl => h.fresh b l hb (below_some hl).2, h.size, h.os, h.tape, h.output⟩
  · unfold below; rw [if_pos (by omega)]; exact h.new b hb
  · rw [e1, if_pos (by omega)]; exact h.unborn b hb e

/-! ### The continuation -/
/-- The worlds in which a frame began told only of blocks that there were. -/
def Begun (_H : Old) (n0 : Nat) (ρ0 : Rho) : Prop := ∀ b l, ρ0 b = some l → b < n0

def ROkB (P : Program) (H : Old) (m0 : Mem) (n0 : Nat) (R : Runner) : Prop :=
  ∀ cx todo st st', R cx todo st = some st' → st'.ob = true → cx.floor ≤ st.next → n0 ≤ st.next → ∀ (ρ0 : Rho) (w0 : World) (ρ : Rho) (a : Act) (w : World) (b : Frame) (cs : List Frame), Begun H n0 ρ0 → Ev ρ0 ρ cx.floor m0 n0 st.mem st.next w0 w → a.defers = [] → EnvRel ρ H st.env cx.n a.tmps → Rel ρ H st.mem st.next w →
    ∃ ρ' a' todo' w', Steps P (lone (b.at a todo) cs w) (lone { b.at a' todo' with mode := .returning } cs w') ∧ a'.defers = [] ∧ EnvRel ρ' H st'.env cx.n a'.tmps ∧ Rel ρ' H st'.mem st'.next w' ∧
      Ev ρ0 ρ' cx.floor m0 n0 st'.mem st'.next w0 w'

theorem runBody_B {m0 : Mem} {n0 : Nat} {S : Specs} {Rc R : Runner} (hN : Named P) (hm : P.follows .mixedOrders = true) (hS : SpecsOk P H S) (hCI : RInv Rc) (hC : ROk P H Rc) (hRM : RMono R) (hR : ROkB P H m0 n0 R) : ROkB P H m0 n0 (runBody P S Rc R) := by
  intro cx todo st st' h ho hcx hn0 ρ0 w0 ρ a w b cs h0 hev0 hd henv hrel
  rcases runBody_step hN hm hS hCI hC hRM hcx h ho ρ a w b cs hd henv hrel with ⟨rfl, todo', hs⟩ | ⟨todo1, st1, ρ1, a1, w1, hs, hr, hc, hd1, he1, hr1, hev⟩
  · exact ⟨ρ, a, todo', w, hs, hd, henv, hrel, hev0⟩
  · obtain ⟨ρ', a', todo', w', h1, h2, h3, h4, h5⟩ := hR cx todo1 st1 st' hr ho hc (Nat.le_trans hn0 hev.nxt) ρ0 w0 ρ1 a1 w1 b cs h0 (hev0.trans hev) hd1 he1 hr1
    exact ⟨ρ', a', todo', w', hs.trans h1, h2, h3, h4, h5⟩

theorem runBody_mono {S : Specs} {Rc R : Runner} (hCI : RInv Rc) (hRM : RMono R) : RMono (runBody P S Rc R) := by
  intro cx todo st st' h ho
  -- RInv of a runner that only hands on what is owed
  unfold runBody at h
  split at h
  · obtain rfl := Option.some.inj h; exact ho
  · obtain rfl := Option.some.inj h; exact ho
  · exact hRM _ _ _ _ h ho
  · exact hRM _ _ _ _ h ho
  · exact hRM _ _ _ _ h ho
  · exact hRM _ _ _ _ h ho
  · exact hRM _ _ _ _ h ho
  · split at h
    · split at h
      rename_i e st1 ht
      obtain ⟨_, _, _, t4⟩ := test_spec ht
      exact (t4 (hRM _ _ _ _ h ho)).2
    · cases h
  · exact hRM _ _ _ _ h ho
  · exact hRM _ _ _ _ h ho
  · exact hRM _ _ _ _ h ho
  · exact hRM _ _ _ _ h ho
  · split at h
    · exact hRM _ _ _ _ h ho
    · cases h
  · split at h
    · rename_i st1 hop
      exact (opsRun_inv hCI _ _ _ hop).ob (hRM _ _ _ _ h ho)
    · cases h
  · obtain ⟨_, h⟩ := bif_inv h
    split at h
    · rename_i st1 hop
      exact (opsRunD_inv hCI _ _ _ _ hop).ob (hRM _ _ _ _ h ho)
    · cases h
  · cases h

theorem runH_succ {S : Specs} {Rc K : Runner} {n : Nat} {cx : Ctx} {todo : List Item} {st : St} : runH P S Rc K (n + 1) cx todo st = (match todo with
        | .inLoop body :: k => K cx (.code body :: .inLoop body :: k) st
        | .code (.loop body) :: k => K cx (.code body :: .inLoop body :: k) st
        | todo => runBody P S Rc (runH P S Rc K n) cx todo st) := rfl

theorem runH_B {m0 : Mem} {n0 : Nat} {S : Specs} {Rc K : Runner} (hN : Named P) (hm : P.follows .mixedOrders = true) (hS : SpecsOk P H S) (hCI : RInv Rc) (hC : ROk P H Rc) (hKM : RMono K) (hK : ROkB P H m0 n0 K) (n : Nat) : RMono (runH P S Rc K n) ∧ ROkB P H m0 n0 (runH P S Rc K n) := by
  induction n with
  | zero => exact ⟨fun cx todo st st' h => (by cases h), fun cx todo st st' h => (by cases h)⟩
  | succ n ih =>
    refine ⟨fun cx todo st st' h ho => ?_, fun cx todo st st' h ho hcx => ?_⟩
    · rw [runH_succ] at h
      split at h
      · exact hKM _ _ _ _ h ho
      · exact hKM _ _ _ _ h ho
      · exact runBody_mono hCI ih.1 _ _ _ _ h ho
    · rw [runH_succ] at h
      split at h
      · exact runBody_B hN hm hS hCI hC hKM hK cx (.inLoop _ :: _) st st' (by unfold runBody; exact h) ho hcx
      · exact runBody_B hN hm hS hCI hC hKM hK cx (.code (.loop _) :: _) st st' (by unfold runBody; exact h) ho hcx
      · exact runBody_B hN hm hS hCI hC ih.1 ih.2 cx _ st st' h ho hcx

theorem kp_mono {K : Runner} (hK : RMono K) (L : List Nat) (N : Nat) : RMono (kp L N K) := fun cx todo st st' h ho => by
  unfold kp at h
  split at h
  · rename_i s hs
    rw [← (keep_spec hs).2.2.1]
    exact hK _ _ _ _ h ho
  · cases h

theorem kp_B {m0 : Mem} {n0 : Nat} {K : Runner} (hK : ROkB P H m0 n0 K) (L : List Nat) (N : Nat) (hle : ∀ cx todo s st', K cx todo s = some st' → cx.floor ≤ s.next ∧ n0 ≤ s.next) : ROkB P H m0 n0 (kp L N K) := by
  intro cx todo st st' h ho hcx hn0 ρ0 w0 ρ a w b cs h0 hev hd henv hrel
  unfold kp at h
  split at h
  · rename_i s hs
    obtain ⟨k1, k2, k3, k4, k5, k6⟩ := keep_spec hs
    obtain ⟨l1, l2⟩ := hle _ _ _ _ h
    refine hK cx todo s st' h ho l1 l2 ρ0 w0 (below ρ N) a w b cs h0 ?_ hd ?_ ?_
    · rw [k2]; exact hev.keep k5 (by rw [← k2]; exact l2) h0
    · rw [k4]; exact henv.keep k6
    · rw [k2]; exact hrel.keep k5
  · cases h

/-- What is told of an end: the values of the results. (n0: how many blocks there were when the frame began.) -/
def Comes (P : Program) (H : Old) (cx : Ctx) (m0 : Mem) (n0 : Nat) (todo : List Item) (st : St) (rs : List ResultVar) (vs : List AVal) : Prop :=
  ∃ st', (st'.ob = true ∧ aResults P st' rs = some vs) ∧ cx.floor ≤ st.next ∧ n0 ≤ st.next ∧ st.ob = true ∧ ∀ (ρ0 : Rho) (w0 : World) (ρ : Rho) (a : Act) (w : World) (b : Frame) (cs : List Frame), Begun H n0 ρ0 → Ev ρ0 ρ cx.floor m0 n0 st.mem st.next w0 w → a.defers = [] → EnvRel ρ H st.env cx.n a.tmps → Rel ρ H st.mem st.next w →
    ∃ ρ' a' todo' w', Steps P (lone (b.at a todo) cs w) (lone { b.at a' todo' with mode := .returning } cs w') ∧ a'.defers = [] ∧ EnvRel ρ' H st'.env cx.n a'.tmps ∧ Rel ρ' H st'.mem st'.next w' ∧
      Ev ρ0 ρ' cx.floor m0 n0 st'.mem st'.next w0 w'

/-- A continuation that knows one end alone. -/
noncomputable def endAt (P : Program) (H : Old) (cx0 : Ctx) (m0 : Mem) (n0 : Nat) (todo1 : List Item) (st1 st' : St) : Runner := fun cx todo st =>
  @ite _ (cx = cx0 ∧ todo = todo1 ∧ st = st1) (Classical.propDecidable _) (some st') none

/-- The results of a run, with what is owed. -/
noncomputable def ends (P : Program) (rs : List ResultVar) (r : Option St) : Option (List AVal × Bool) := r.bind fun s => (aResults P s rs).map fun vs => (vs, s.ob)

theorem ok_and {a b : Bool} (h : a = true) (k : b = true) : (a && b) = true := by rw [h, k]; rfl
theorem ok_beq {a b : Bool} (h : a = b) : (a == b) = true := by rw [h]; exact beq_self_eq_true b
theorem ok_some {vs : List AVal} {b : Bool} (h : b = true) : some (vs, b) = some (vs, true) := by rw [h]
theorem ok_k (K : Runner) {cx : Ctx} {todo : List Item} {env : T AVal} {mem : Mem} {next : Nat} {o : List Bool} {b : Bool} (h : b = true) : K cx todo ⟨env, mem, next, o, b⟩ = K cx todo ⟨env, mem, next, o, true⟩ := by rw [h]

/-- A stretch from a place to the head of a loop. -/
theorem Comes.seg {S : Specs} (hN : Named P) (hm : P.follows .mixedOrders = true) (hS : SpecsOk P H S) {cx : Ctx} {m0 : Mem} {n0 : Nat} {todo todo1 : List Item} {env : T AVal} {mem : Mem} {next : Nat} {o : List Bool} {st1 : St} {L : List Nat} {N m n : Nat} {rs : List ResultVar} {vs : List AVal}
    (h : ∀ K, runH P S (run P S m) (kp L N K) n cx todo ⟨env, mem, next, o, true⟩ = K cx todo1 st1) (hf : cx.floor ≤ next) (hn : n0 ≤ next) (hr : Comes P H cx m0 n0 todo1 st1 rs vs) : Comes P H cx m0 n0 todo ⟨env, mem, next, [], true⟩ rs vs := by
  obtain ⟨st', ⟨h1, h2⟩, h3, h4, h5, h6⟩ := hr
  have hk := h (endAt P H cx m0 n0 todo1 st1 st')
  rw [show endAt P H cx m0 n0 todo1 st1 st' cx todo1 st1 = some st' from if_pos ⟨rfl, rfl, rfl⟩] at hk
  have inv : ∀ cx' todo' s s', endAt P H cx m0 n0 todo1 st1 st' cx' todo' s = some s' → cx' = cx ∧ todo' = todo1 ∧ s = st1 ∧ s' = st' := fun cx' todo' s s' hs => by
    unfold endAt at hs
    by_cases hc : cx' = cx ∧ todo' = todo1 ∧ s = st1
    · rw [if_pos hc] at hs; exact ⟨hc.1, hc.2.1, hc.2.2, (Option.some.inj hs).symm⟩
    · rw [if_neg hc] at hs; cases hs
  have hKM : RMono (endAt P H cx m0 n0 todo1 st1 st') := fun cx' todo' s s' hs _ => by
    obtain ⟨_, _, rfl, _⟩ := inv _ _ _ _ hs; exact h5
  have hK : ROkB P H m0 n0 (endAt P H cx m0 n0 todo1 st1 st') := fun cx' todo' s s' hs _ _ _ => by
    obtain ⟨rfl, rfl, rfl, rfl⟩ := inv _ _ _ _ hs; exact h6
  have hle : ∀ cx' todo' s s', endAt P H cx m0 n0 todo1 st1 st' cx' todo' s = some s' → cx'.floor ≤ s.next ∧ n0 ≤ s.next := fun cx' todo' s s' hs => by
    obtain ⟨rfl, rfl, rfl, rfl⟩ := inv _ _ _ _ hs; exact ⟨h3, h4⟩
  exact ⟨st', ⟨h1, h2⟩, hf, hn, rfl, (runH_B hN hm hS (run_inv S m) (run_sound hN hm hS m) (kp_mono hKM L N) (kp_B hK L N hle) n).2 cx todo ⟨env, mem, next, o, true⟩ st' hk h1 hf hn⟩

/-- A stretch from a place to the end. -/
theorem Comes.ret {S : Specs} (hN : Named P) (hm : P.follows .mixedOrders = true) (hS : SpecsOk P H S) {cx : Ctx} {m0 : Mem} {n0 : Nat} {todo : List Item} {env : T AVal} {mem : Mem} {next : Nat} {o : List Bool} {m n : Nat} {rs : List ResultVar} {vs : List AVal} {L : List Nat} {N : Nat}
    (h : ∀ K, ends P rs (runH P S (run P S m) (kp L N K) n cx todo ⟨env, mem, next, o, true⟩) = some (vs, true)) (hf : cx.floor ≤ next) (hn : n0 ≤ next) : Comes P H cx m0 n0 todo ⟨env, mem, next, [], true⟩ rs vs := by
  have hk := h fun _ _ _ => none
  unfold ends at hk
  rw [Option.bind_eq_some_iff] at hk
  obtain ⟨s, hs, hv⟩ := hk
  simp only [Option.map_eq_some_iff, Prod.mk.injEq] at hv
  obtain ⟨vs', hv, rfl, ho⟩ := hv
  have hKM : RMono (fun _ _ _ => none : Runner) := fun _ _ _ _ hs _ => by cases hs
  have hK : ROkB P H m0 n0 (fun _ _ _ => none : Runner) := fun _ _ _ _ hs => by cases hs
  exact ⟨s, ⟨ho, hv⟩, hf, hn, rfl, (runH_B hN hm hS (run_inv S m) (run_sound hN hm hS m) (kp_mono hKM L N) (kp_B hK L N fun _ _ _ _ hs => by cases hs) n).2 cx todo ⟨env, mem, next, o, true⟩ s hs ho hf hn⟩

/-- A function whose body comes to its results. -/
theorem Comes.call {f : FuncId} {fn : Func} {body : Code} {args : List AVal} {vs : List AVal} {sy : Bool} (hf : P.funcs[f]? = some fn) (hb : fn.body = some body)
    (h : Comes P H ⟨Nat.max fn.ntmps args.length, 0, sy⟩ .leaf 0 [.code body] ⟨envOf args 0 .leaf, .leaf, 0, [], true⟩ fn.results.toList vs) {vals : Array Value} {w : World}
    (hargs : All2 (VRel rho0 H) args vals.toList) (hH : ∀ k o, H k = some o → w.heap[k]? = some o) :
    Calls P f vals w fun e w' => ∃ ρ u, e = .returned u ∧ VRel ρ H (packed vs) u ∧ RowKit.Below w.heap.size w w' := by
  obtain ⟨st', ⟨h3, h4⟩, _, _, _, h1⟩ := h
  intro cs
  let b : Frame := { (default : Frame) with fn := f, kind := .normal }
  have henter : Frame.enter P f vals .normal = b.at { tmps := vals ++ Array.replicate (fn.ntmps - vals.size) undef, defers := [] } [.code body] := by
    simp [Frame.enter, Frame.at, hf, hb, b]
  have hr0 := rel_empty (H := H) hH
  obtain ⟨ρ', a', todo', w', hsteps, hd, henv, hrel', hev⟩ := h1 rho0 w rho0 { tmps := vals ++ Array.replicate (fn.ntmps - vals.size) undef, defers := [] } w b cs (fun b l e => by cases e) (Ev.refl _ _ _ _ _ hr0.dom) rfl (env_start hargs fn.ntmps) hr0
  obtain ⟨u, hu, hres⟩ := results_sound henv hrel' h4
  rw [← henter] at hsteps
  refine ⟨.returned u, w', _, ⟨ρ', u, rfl, hu, hev.os, hev.tape, hev.output, hev.size, fun k hk => ?_⟩, hsteps, rfl, rfl, hd, rfl, fn, hf, hres⟩
  have : w.heap[k]? = some w.heap[k] := by simp [hk]
  rw [this]
  exact hev.frame k _ this fun b l hl => by cases hl

end
end Go.Am
