/- The machine with its stack: calls are frames, and so are the rounds of a loop over a function. Nothing is claimed here. -/
import Derived.Test.YtdojgffcahimjaaAmN
namespace Go.Am

/-- What is left of a region: its operations, the number of the next one, and those from it on. -/
abbrev RegOps := Array Oper × Nat × List Oper

/-- A frame that waits. -/
structure AFr where
  cx : Ctx
  ro : Option RegOps
  todo : List Item
  rnd : Option Nat
  rs : List ResultVar
  env : T AVal

/-- The record of a loop over a function. -/
structure ALoop where
  st : LoopState
  pend : Option Code
  n : Nat
  env : T AVal
  params : List Tmp
  assign : Code
  body : Code

abbrev Loops := T (Option ALoop)
noncomputable def lget (m : Loops) (b : Nat) : Option ALoop := T.get none m b
noncomputable def lset (m : Loops) (b : Nat) (o : Option ALoop) : Loops := T.set none m b o

/-- The frame that runs, those that wait, the records of loops. -/
structure Cfg where
  cx : Ctx
  ro : Option RegOps
  todo : List Item
  rnd : Option Nat
  rs : List ResultVar
  st : St
  cs : List AFr
  lps : Loops

/-- A value comes back to a frame. -/
noncomputable def popS (v : AVal) (st : St) (lps : Loops) : List AFr → Option Cfg
  | ⟨cx, some (ops, i, o :: l), todo, rnd, rs, env⟩ :: cs => match (st.withEnv env).put cx o.dst v with
    | some st' => some ⟨cx, some (ops, i + 1, l), todo, rnd, rs, st', cs, lps⟩
    | none => none
  | ⟨cx, none, .inRangeFunc j :: k, rnd, rs, env⟩ :: cs => some ⟨cx, none, .endRangeFunc j :: k, rnd, rs, st.withEnv env, cs, lps⟩
  | _ => none

/-- What a round leaves of its record. -/
def jumpSt : Option Code → LoopState
  | none => .ready
  | some _ => .done

noncomputable def rndOk (lps : Loops) : Option Nat → Bool
  | none => true
  | some j => (lget lps j).isSome

/-- The frame that runs is left. -/
noncomputable def leaveS (P : Program) (rnd : Option Nat) (rs : List ResultVar) (st : St) (cs : List AFr) (lps : Loops) (jump : Option Code) : Option Cfg :=
  match rnd with
  | none => match aResults P st rs with
    | some vs => popS (packed vs) st lps cs
    | none => none
  | some j => match lget lps j with
    | some ⟨_, _, n, env, params, assign, body⟩ =>
      popS (.bool jump.isNone) st (lset lps j (some ⟨jumpSt jump, jump, n, env, params, assign, body⟩)) cs
    | none => none

/-- Arguments into slots. -/
noncomputable def setArgs (n : Nat) : List Tmp → List AVal → T AVal → Option (T AVal)
  | [], [], env => some env
  | t :: ts, a :: l, env => bif Nat.ble (t + 1) n then setArgs n ts l (T.set .undef env t a) else none
  | _, _, _ => none

/-- A function is entered; fr waits for it. -/
noncomputable def enterS (P : Program) (f : FuncId) (args : List AVal) (fr : AFr) (st : St) (cs : List AFr) (lps : Loops) : Option Cfg :=
  match P.funcs[f]? with
  | some fn => match fn.body with
    | some body => some ⟨⟨Nat.max fn.ntmps args.length, fr.cx.floor, fr.cx.sym⟩, none, [.code body], none, fn.results.toList, st.withEnv (envOf args 0 .leaf), fr :: cs, lps⟩
    | none => none
  | none => none

/-- A round is entered; fr waits for it. -/
noncomputable def roundS (j : Nat) (args : List AVal) (fr : AFr) (st : St) (cs : List AFr) (lps : Loops) : Option Cfg :=
  match lget lps j with
  | some ⟨_, _, n, env, params, assign, body⟩ => match setArgs n params args env with
    | some env' => some ⟨⟨n, fr.cx.floor, fr.cx.sym⟩, none, [.code assign, .beginRound, .code body], some j, [], st.withEnv env', fr :: cs, lps⟩
    | none => none
  | none => none

/-- The call that is looked into: of a function that has no contract, or of a loop's round. -/
noncomputable def callee (S : Specs) (st : St) (op : Op) : Option ((FuncId × List AVal) ⊕ (Nat × List AVal)) :=
  match op with
  | .call { callee := .value f, args, argTypes := _ } => match st.eval f with
    | .fn g caps => match S g with
      | some _ => none
      | none => some (.inl (g, args.toList.map st.eval ++ caps))
    | .fnb g first => match S g with
      | some _ => none
      | none => some (.inl (g, first ++ args.toList.map st.eval))
    | .yld j => some (.inr (j, args.toList.map st.eval))
    | _ => none
  | _ => none

/-- One operation of a region in the order of the text. -/
noncomputable def stepOp (P : Program) (S : Specs) (Rc : Runner) (cx : Ctx) (ops : Array Oper) (i : Nat) (o : Oper) (l : List Oper) (todo : List Item) (rnd : Option Nat) (rs : List ResultVar) (st : St) (cs : List AFr) (lps : Loops) : Option Cfg :=
  match aWanted ops o cx st with
  | some (true, st) => match callee S st o.op with
    | some (.inl (g, args)) => enterS P g args ⟨cx, some (ops, i, o :: l), todo, rnd, rs, st.env⟩ st cs lps
    | some (.inr (j, args)) => roundS j args ⟨cx, some (ops, i, o :: l), todo, rnd, rs, st.env⟩ st cs lps
    | none => match opStep P S Rc false o cx st with
      | some st => some ⟨cx, some (ops, i + 1, l), todo, rnd, rs, st, cs, lps⟩
      | none => none
  | some (false, st) => match st.put cx o.dst (.tup []) with
    | some st => some ⟨cx, some (ops, i + 1, l), todo, rnd, rs, st, cs, lps⟩
    | none => none
  | none => none

def noDefer (ops : Array Oper) : Bool := ops.toList.all fun o => match o.op with
  | .defer _ => false
  | _ => true

/-- An id that nothing has, neither a block nor a loop. -/
def St.nextId : St → Nat × St
  | ⟨env, mem, next, orc, ob⟩ => (next, ⟨env, mem, next + 1, orc, ob⟩)

noncomputable def stepS (P : Program) (S : Specs) (Rc : Runner) : Cfg → Option Cfg
  | ⟨cx, some (_, _, []), todo, rnd, rs, st, cs, lps⟩ => some ⟨cx, none, todo, rnd, rs, st, cs, lps⟩
  | ⟨cx, some (ops, i, o :: l), todo, rnd, rs, st, cs, lps⟩ => stepOp P S Rc cx ops i o l todo rnd rs st cs lps
  | ⟨cx, none, todo, rnd, rs, st, cs, lps⟩ => match todo with
    | [] => leaveS P rnd rs st cs lps none
    | .code .ret :: _ => leaveS P rnd rs st cs lps (some .ret)
    | .code .skip :: k => some ⟨cx, none, k, rnd, rs, st, cs, lps⟩
    | .code (.label _) :: k => some ⟨cx, none, k, rnd, rs, st, cs, lps⟩
    | .inBlock _ :: k => some ⟨cx, none, k, rnd, rs, st, cs, lps⟩
    | .inScope _ :: k => some ⟨cx, none, k, rnd, rs, st, cs, lps⟩
    | .code (.seq a b) :: k => some ⟨cx, none, .code a :: .code b :: k, rnd, rs, st, cs, lps⟩
    | .code (.cond c a b) :: k => match st.eval c with
      | .bool v => match st.test v with
        | (e, st) => some ⟨cx, none, .code (bif e then a else b) :: k, rnd, rs, st, cs, lps⟩
      | _ => none
    | .code (.block id body) :: k => some ⟨cx, none, .code body :: .inBlock id :: k, rnd, rs, st, cs, lps⟩
    | .code (.scope body) :: k => some ⟨cx, none, .code body :: .inScope body :: k, rnd, rs, st, cs, lps⟩
    | .code (.loop body) :: k => some ⟨cx, none, .code body :: .inLoop body :: k, rnd, rs, st, cs, lps⟩
    | .inLoop body :: k => some ⟨cx, none, .code body :: .inLoop body :: k, rnd, rs, st, cs, lps⟩
    | .code (.exit id) :: k => match exitTo id k with
      | some k => some ⟨cx, none, k, rnd, rs, st, cs, lps⟩
      | none => match rnd with
        | some _ => leaveS P rnd rs st cs lps (some (.exit id))
        | none => none
    | .code (.region _ ops false) :: k => bif noDefer ops then some ⟨cx, some (ops, 0, ops.toList), k, rnd, rs, st, cs, lps⟩ else none
    | .code (.region _ ops true) :: k => bif drawOk ops && noDefer ops then
        match opsRunD P S Rc ops cx (drawList ops) [] st with
        | some st => some ⟨cx, none, k, rnd, rs, st, cs, lps⟩
        | none => none
      else none
    | .code (.rangeFunc f params assign body) :: k => match st.eval f with
      | .fn g caps => match st.nextId with
        | (j, st') => bif rndOk lps rnd then enterS P g (.yld j :: caps) ⟨cx, none, .inRangeFunc j :: k, rnd, rs, st.env⟩ st' cs (lset lps j (some ⟨.ready, none, cx.n, st.env, params.toList, assign, body⟩)) else none
      | _ => none
    | .beginRound :: k => match rnd with
      | some j => match lget lps j with
        | some ⟨.ready, pend, n, env, params, assign, body⟩ => some ⟨cx, none, k, rnd, rs, st, cs, lset lps j (some ⟨.busy, pend, n, env, params, assign, body⟩)⟩
        | _ => none
      | none => none
    | .endRangeFunc j :: k => match lget lps j with
      | some ⟨.busy, _, _, _, _, _, _⟩ => none
      | some ⟨_, pend, n, env, params, assign, body⟩ => some ⟨cx, none, (pend.map Item.code).toList ++ k, rnd, rs, st, cs, lset lps j (some ⟨.exhausted, pend, n, env, params, assign, body⟩)⟩
      | none => none
    | _ => none

/-- The last frame is at its end. -/
def finalS : Cfg → Bool
  | ⟨_, none, [], none, _, _, [], _⟩ => true
  | ⟨_, none, .code .ret :: _, none, _, _, [], _⟩ => true
  | _ => false

noncomputable def runS (P : Program) (S : Specs) (Rc : Runner) (n : Nat) : Cfg → Option Cfg :=
  Nat.rec (motive := fun _ => Cfg → Option Cfg) (fun _ => none) (fun _ R C => bif finalS C then some C else match stepS P S Rc C with
    | some C' => R C'
    | none => none) n

def plainItem : Item → Bool
  | .code _ | .inBlock _ | .inLoop _ | .inScope _ | .beginRound => true
  | _ => false

/-- A run with its stack; d: how deep calls in regions that draw their order may go. -/
noncomputable def runR (P : Program) (S : Specs) (n : Nat) (d : Nat) : Runner :=
  Nat.rec (motive := fun _ => Runner) (fun _ _ _ => none) (fun _ R cx todo st => bif todo.all plainItem && Nat.ble cx.floor st.next then match runS P S R n ⟨cx, none, todo, none, [], st, [], .leaf⟩ with
    | some C => bif Nat.beq C.cx.n cx.n then some C.st else none
    | none => none
    else none) d

/-- A call that the run with its stack carries out to its end. -/
noncomputable def callS (P : Program) (S : Specs) (fuel d : Nat) (sym : Bool) (orc : List Bool) (f : FuncId) (args : List AVal) : Option (AVal × Bool) :=
  (aCall P S (runR P S fuel d) false f args ⟨0, 0, sym⟩ ⟨.leaf, .leaf, 0, orc, true⟩).map fun x => (x.1, x.2.ob)
end Go.Am
