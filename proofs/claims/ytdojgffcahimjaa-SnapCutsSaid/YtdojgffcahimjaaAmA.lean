/- The abstract interpreter: its values, its memory and its operations. Nothing is claimed here. -/
import Derived.Calls
import Derived.Orders
import Derived.KernelRfl
import Derived.DeepKeys
namespace Go.Am

inductive ACap where
  | ex (k : Nat)
  | un (sz : Nat)

inductive AVal where
  | undef
  | bool (b : Bool)
  | int (k : IntKind) (n : Int)
  | str (s : List UInt8)
  | agg (cs : List AVal)
  | tup (vs : List AVal)
  | ptr (b off : Nat)
  | nilp
  | sl (b off len : Nat) (cap : ACap)
  | nils
  | fn (f : FuncId) (caps : List AVal)
  | nilf
  /-- A function with its first arguments. -/
  | fnb (f : FuncId) (first : List AVal)
  | ifc (t : TypeId) (v : AVal)
  | nili
  | dat (len : Nat) (get : Nat → List AVal)
  | dptr (cs : List AVal)
  /-- A slice of a block that is told row by row: sz cells a row; its first row; its length. It may be nil where its length is 0. -/
  | sla (b sz off len : Nat) (cap : ACap)
  /-- The address of a cell of a row. -/
  | epa (b sz i fo : Nat)
  /-- The function that a loop over a function hands out. -/
  | yld (j : Nat)

inductive T (α : Type) where
  | leaf
  | node (v : α) (l r : T α)

noncomputable def T.get {α : Type} (d : α) (t : T α) : Nat → α :=
  T.rec (motive := fun _ => Nat → α) (fun _ => d)
    (fun v _ _ gl gr n => Nat.rec (motive := fun _ => α) v (fun m _ => bif Nat.beq (m % 2) 0 then gl (m / 2) else gr (m / 2)) n) t

noncomputable def T.setF {α : Type} (d : α) (v : α) (f : Nat) : T α → Nat → T α :=
  Nat.rec (motive := fun _ => T α → Nat → T α) (fun t _ => t)
    (fun _ rec t n =>
      T.casesOn (motive := fun _ => T α) t
        (Nat.rec (motive := fun _ => T α) (.node v .leaf .leaf)
          (fun m _ => bif Nat.beq (m % 2) 0 then .node d (rec .leaf (m / 2)) .leaf else .node d .leaf (rec .leaf (m / 2))) n)
        (fun u l r => Nat.rec (motive := fun _ => T α) (.node v l r)
          (fun m _ => bif Nat.beq (m % 2) 0 then .node u (rec l (m / 2)) r else .node u l (rec r (m / 2))) n)) f

noncomputable def T.set {α : Type} (d : α) (t : T α) (n : Nat) (v : α) : T α := T.setF d v (n + 1) t n

/-- How rows are told: all alike; one of them by itself; by two ways. -/
inductive Rws where
  | flat (g : Nat → List AVal)
  | one (r : Nat) (cs : List AVal) (b : Rws)
  | alt (c : Nat → Bool) (a b : Rws)
def Rws.get : Rws → Nat → List AVal
  | .flat g => g
  | .one r cs b => fun k => bif Nat.beq k r then cs else b.get k
  | .alt c a b => fun k => bif c k then a.get k else b.get k
instance : Coe (Nat → List AVal) Rws := ⟨.flat⟩
/-- Rows of cells, sz of them each. -/
structure Arr where
  sz : Nat
  n : Nat
  rw : Rws
def Arr.get (A : Arr) : Nat → List AVal := A.rw.get

def rows (n : Nat) (get : Nat → List AVal) : List AVal := (List.range n).flatMap get

/-- A block; arr: its cells row by row, where they are told so. -/
structure ABlk where
  cells : List AVal
  ty : TypeId
  arr : Option Arr

abbrev Mem := T (Option ABlk)
noncomputable def mget (m : Mem) (b : Nat) : Option ABlk := T.get none m b
noncomputable def mset (m : Mem) (b : Nat) (o : Option ABlk) : Mem := T.set none m b o

/-- What stays as it is while a frame runs: its slots; blocks below floor are not written; sym: what is owed is gathered, and tests go by the oracle. -/
structure Ctx where
  n : Nat
  floor : Nat
  sym : Bool

/-- The state of a frame, with the memory. -/
structure St where
  env : T AVal
  mem : Mem
  next : Nat
  orc : List Bool
  ob : Bool

noncomputable def St.tmp : St → Nat → AVal
  | ⟨env, _, _, _, _⟩, t => T.get .undef env t
noncomputable def St.put (cx : Ctx) : St → Option Tmp → AVal → Option St
  | ⟨env, mem, next, orc, ob⟩, some d, v => bif Nat.ble (d + 1) cx.n then some ⟨T.set .undef env d v, mem, next, orc, ob⟩ else none
  | st, none, _ => some st
def St.withMem : St → Mem → St
  | ⟨env, _, next, orc, ob⟩, m => ⟨env, m, next, orc, ob⟩
def St.withEnv : St → T AVal → St
  | ⟨_, mem, next, orc, ob⟩, e => ⟨e, mem, next, orc, ob⟩

/-- What is owed. -/
def St.owe (cx : Ctx) : St → Bool → Option St
  | ⟨env, mem, next, orc, ob⟩, b => bif cx.sym then some ⟨env, mem, next, orc, b && ob⟩ else bif b then some ⟨env, mem, next, orc, ob⟩ else none

def St.test : St → Bool → Bool × St
  | ⟨env, mem, next, [], ob⟩, b => (b, ⟨env, mem, next, [], ob⟩)
  | ⟨env, mem, next, e :: r, ob⟩, b => (e, ⟨env, mem, next, r, (b == e) && ob⟩)

def ofScalar : Value → AVal
  | .bool b => .bool b
  | .int k n => .int k n
  | .string s => .str s.data.toList
  | .pointer none => .nilp
  | .slice none 0 0 => .nils
  | .nilFunc => .nilf
  | .nilIface => .nili
  | _ => .undef

def ofV : Value → AVal
  | .agg cs => .agg (cs.toList.map ofScalar)
  | v => ofScalar v

noncomputable def St.eval (st : St) : Operand → AVal
  | .tmp t => st.tmp t
  | .const v => ofV v
  | .global _ => .undef
  | .func f => .fn f []

def AVal.cells : AVal → List AVal
  | .agg cs => cs
  | v => [v]

/-- It has told cells: no undef, no tuple. -/
def boxable : AVal → Bool
  | .undef | .tup _ => false
  | _ => true

/-- Numbers and the like. -/
def isPlain : AVal → Bool
  | .sl _ _ _ _ | .sla _ _ _ _ _ | .ptr _ _ | .epa _ _ _ _ | .dat _ _ | .nils => false
  | _ => true

/-- A value of one cell. -/
def isSc : AVal → Bool
  | .undef | .agg _ | .tup _ => false
  | _ => true

def isAggT (P : Program) (t : TypeId) : Option Bool :=
  match P.underlying t with
  | some (.struct _) | some (.array _ _) => some true
  | some _ => some false
  | none => none

/-- n cells from off on. -/
def cut (cs : List AVal) (off n : Nat) : Option (List AVal) :=
  let p := (cs.drop off).take n
  bif Nat.beq p.length n then some p else none

/-- The value of type t in cells from off on. -/
def partOf (P : Program) (t : TypeId) (cs : List AVal) (off : Nat) : Option AVal :=
  match isAggT P t, P.info? t with
  | some true, some i => (cut cs off i.size).map .agg
  | some false, some _ => cs[off]?
  | _, _ => none

/-- Two lists of parts, each of type t at off, are equal. -/
def eqParts (rec : TypeId → AVal → AVal → Option Bool) (P : Program) (xs ys : List AVal) : List (TypeId × Nat) → Option Bool
  | [] => some true
  | (t, off) :: r =>
    match partOf P t xs off, partOf P t ys off with
    | some a, some b => match rec t a b, eqParts rec P xs ys r with
      | some e, some f => some (e && f)
      | _, _ => none
    | _, _ => none

def aEq (P : Program) : Nat → TypeId → AVal → AVal → Option Bool
  | 0, _, _, _ => none
  | d + 1, t, x, y =>
    match P.underlying t with
    | some .bool => match x, y with
      | .bool a, .bool b => some (a == b)
      | _, _ => none
    | some (.int _) => match x, y with
      | .int k a, .int k' b => if k = k' then some (a == b) else none
      | _, _ => none
    | some .string => match x, y with
      | .str a, .str b => some (a == b)
      | _, _ => none
    | some (.array n e) => match x, y, P.info? e with
      | .agg xs, .agg ys, some i => eqParts (aEq P d) P xs ys ((List.range n).map fun j => (e, j * i.size))
      | _, _, _ => none
    | some (.struct fs) => match x, y with
      | .agg xs, .agg ys =>
        bif P.stoodInHeld t then none else bif fs.toList.any (fun f => f.name == "_") then none else
        eqParts (aEq P d) P xs ys (fs.toList.map fun f => (f.type, f.offset))
      | _, _ => none
    | _ => none

def aBits (op : BinOp) (k : IntKind) (a b : Int) : Option Int :=
  match op with
  | .and => some (k.wrap ((BitVec.ofInt k.bits a) &&& (BitVec.ofInt k.bits b)).toNat)
  | .or => some (k.wrap ((BitVec.ofInt k.bits a) ||| (BitVec.ofInt k.bits b)).toNat)
  | .xor => some (k.wrap ((BitVec.ofInt k.bits a) ^^^ (BitVec.ofInt k.bits b)).toNat)
  | .andNot => some (k.wrap ((BitVec.ofInt k.bits a) &&& ~~~(BitVec.ofInt k.bits b)).toNat)
  | _ => none

def aBin (P : Program) (op : BinOp) (t : TypeId) (x y : AVal) : Option (AVal × Bool) :=
  match x, y with
  | .int k a, .int k' b =>
    match op with
    | .shl => some (.int k (k.wrap (a * 2 ^ (min b.toNat k.bits))), !decide (b < 0))
    | .shr => some (.int k (a.fdiv (2 ^ (min b.toNat k.bits))), !decide (b < 0))
    | _ => if k = k' then
        match op with
        | .add => some (.int k (k.wrap (a + b)), true)
        | .sub => some (.int k (k.wrap (a - b)), true)
        | .mul => some (.int k (k.wrap (a * b)), true)
        | .quo => some (.int k (k.wrap (a.tdiv b)), !decide (b = 0))
        | .rem => some (.int k (a.tmod b), !decide (b = 0))
        | .eql => some (.bool (a == b), true)
        | .neq => some (.bool (a != b), true)
        | .lss => some (.bool (decide (a < b)), true)
        | .leq => some (.bool (decide (a ≤ b)), true)
        | .gtr => some (.bool (decide (a > b)), true)
        | .geq => some (.bool (decide (a ≥ b)), true)
        | op => (aBits op k a b).map fun n => (.int k n, true)
      else none
  | .bool a, .bool b => match P.underlying t with
    | some .bool => match op with
      | .eql => some (.bool (a == b), true)
      | .neq => some (.bool (!(a == b)), true)
      | _ => none
    | _ => none
  | .agg a, .agg b =>
    bif P.eqGuardType P.depth t then none else
    match op with
    | .eql => (aEq P 30 t (.agg a) (.agg b)).map fun r => (.bool r, true)
    | .neq => (aEq P 30 t (.agg a) (.agg b)).map fun r => (.bool (!r), true)
    | _ => none
  | .sl _ _ _ _, .nils => match P.underlying t with
    | some (.slice _) => match op with
      | .eql => some (.bool false, true)
      | .neq => some (.bool true, true)
      | _ => none
    | _ => none
  | .nils, .nils => match P.underlying t with
    | some (.slice _) => match op with
      | .eql => some (.bool true, true)
      | .neq => some (.bool false, true)
      | _ => none
    | _ => none
  | .str a, .str b => match op with
    | .eql => some (.bool (a == b), true)
    | .neq => some (.bool (!(a == b)), true)
    | _ => none
  | _, _ => none

def aUn (op : UnOp) (x : AVal) : Option AVal :=
  match op, x with
  | .neg, .int k n => some (.int k (k.wrap (0 - n)))
  | .xor, .int k n => (aBits .xor k (if k.signed then -1 else k.max) n).map (.int k)
  | .not, .bool b => some (.bool !b)
  | _, _ => none

/-- Parts laid into cells. -/
def aFill (place : Nat → Option (Nat × Nat)) (cells : List AVal) : List (Nat × AVal) → Option (List AVal)
  | [] => some cells
  | (i, v) :: r =>
    match place i with
    | none => none
    | some (off, size) =>
      bif boxable v && Nat.beq v.cells.length size && Nat.ble (off + size) cells.length then
        aFill place (cells.take off ++ v.cells ++ cells.drop (off + size)) r
      else none

/-- The cells of a zero value; all plain. -/
def zeroOf (P : Program) (t : TypeId) : Option (List AVal) :=
  match P.info? t with
  | some i => i.zero.map fun v => (ofV v).cells
  | none => none

def fieldPlaces (P : Program) : List Field → Option (List (Nat × Nat))
  | [] => some []
  | f :: r => match P.info? f.type, fieldPlaces P r with
    | some i, some l => some ((f.offset, i.size) :: l)
    | _, _ => none

def aBuild (P : Program) (t : TypeId) (parts : List (Nat × AVal)) : Option AVal :=
  match P.underlying t, zeroOf P t with
  | some (.struct fs), some zero => match fieldPlaces P fs.toList with
    | some pl => (aFill (pl[·]?) zero parts).map .agg
    | none => none
  | some (.array _ e), some zero => match P.info? e with
    | some i => (aFill (fun j => some (j * i.size, i.size)) zero parts).map .agg
    | none => none
  | _, _ => none

def aIndexAddr (P : Program) (t : TypeId) (x i : AVal) : Option (AVal × Bool) :=
  match P.underlying t, x, i with
  | some (.array len e), .ptr b off, .int _ i => (P.info? e).map fun s => (.ptr b (off + i.toNat * s.size), decide (0 ≤ i ∧ i < len))
  | some (.array len e), .dptr cs, .int _ i => (P.info? e).map fun s => (.dptr (cs.drop (i.toNat * s.size)), decide (0 ≤ i ∧ i < len))
  | some (.slice e), .sl b off len _, .int _ i => (P.info? e).map fun s => (.ptr b (off + i.toNat * s.size), decide (0 ≤ i ∧ i < len))
  | some (.slice e), .dat len get, .int _ i => (P.info? e).map fun s => (.dptr (get i.toNat), decide (0 ≤ i ∧ i < len) && Nat.beq (get i.toNat).length s.size)
  | some (.slice e), .sla b sz off len _, .int _ i => (P.info? e).map fun s => (.epa b sz (off + i.toNat) 0, decide (0 ≤ i ∧ i < len) && Nat.beq s.size sz)
  | some (.array len e), .epa b sz r fo, .int _ i => (P.info? e).map fun s => (.epa b sz r (fo + i.toNat * s.size), decide (0 ≤ i ∧ i < len))
  | _, _, _ => none

def aFieldAddr (P : Program) (t : TypeId) (x : AVal) (f : Nat) : Option AVal :=
  match P.underlying t with
  | some (.struct fs) => match fs[f]? with
    | some f => match P.info? f.type with
      | some i => bif Nat.beq i.size 0 then none else match x with
        | .ptr b off => some (.ptr b (off + f.offset))
        | .dptr cs => some (.dptr (cs.drop f.offset))
        | .epa b sz r fo => some (.epa b sz r (fo + f.offset))
        | _ => none
      | none => none
    | none => none
  | _ => none

def aField (P : Program) (t : TypeId) (x : AVal) (f : Nat) : Option AVal :=
  match P.underlying t, x with
  | some (.struct fs), .agg cs => match fs[f]? with
    | some f => partOf P f.type cs f.offset
    | none => none
  | _, _ => none

def aIndex (P : Program) (t : TypeId) (x i : AVal) : Option (AVal × Bool) :=
  match P.underlying t, x, i with
  | some (.array len e), .agg cs, .int _ i =>
    match P.info? e with
    | some s => (partOf P e cs (i.toNat * s.size)).map fun v => (v, decide (0 ≤ i ∧ i < len))
    | none => none
  | some .string, .str s, .int _ i => (s[i.toNat]?).map fun b => (.int .u8 b.toNat, decide (0 ≤ i))
  | _, _, _ => none

def iMin (x y : Int) : Int := if y < x then y else x
def iMax (x y : Int) : Int := if y > x then y else x
def minInts (k : IntKind) (x : Int) : List AVal → Option Int
  | [] => some x
  | .int _ y :: r => minInts k (iMin x y) r
  | _ => none
def maxInts (k : IntKind) (x : Int) : List AVal → Option Int
  | [] => some x
  | .int _ y :: r => maxInts k (iMax x y) r
  | _ => none

def aBuiltin (P : Program) (b : Builtin) (argTypes : List TypeId) (args : List AVal) : Option AVal :=
  match b, argTypes, args with
  | .len, t :: _, x :: _ => match P.underlying t, x with
    | some .string, .str s => some (.int .i64 s.length)
    | some (.array n _), _ => some (.int .i64 n)
    | some (.slice _), .sl _ _ n _ => some (.int .i64 n)
    | some (.slice _), .nils => some (.int .i64 0)
    | some (.slice _), .dat n _ => some (.int .i64 n)
    | some (.slice _), .sla _ _ _ n _ => some (.int .i64 n)
    | _, _ => none
  | .min, _, .int k x :: r => (minInts k x r).map (.int k)
  | .max, _, .int k x :: r => (maxInts k x r).map (.int k)
  | .cap, t :: _, x :: _ => match P.underlying t, x with
    | some (.slice _), .sl _ _ _ (.ex c) => some (.int .i64 c)
    | some (.slice _), .nils => some (.int .i64 0)
    | _, _ => none
  | _, _, _ => none

/-- A bound of a slice expression; the default. -/
def bound (st : Operand → AVal) (o : Option Operand) (d : Nat) : Option (Nat × Bool) :=
  match o with
  | none => some (d, true)
  | some x => match st x with
    | .int _ i => some (i.toNat, decide (0 ≤ i))
    | _ => none

/-- s[lo:hi:mx]. -/
def aSlice (P : Program) (ev : Operand → AVal) (t : TypeId) (x : Operand) (lo hi mx : Option Operand) : Option (AVal × Bool) :=
  match P.underlying t, ev x with
  | some (.slice e), .nils =>
    match P.info? e, mx, bound ev lo 0, bound ev hi 0 with
    | some _, none, some (l, a), some (h, b) => some (.nils, a && b && Nat.beq l 0 && Nat.beq h 0)
    | _, _, _, _ => none
  | some (.slice e), .sl b off len (.ex c) =>
    match P.info? e, bound ev mx c, bound ev hi len, bound ev lo 0 with
    | some s, some (m, x1), some (h, x2), some (l, x3) =>
      if mx.isSome && hi.isNone then none else
      some (.sl b (bif Nat.beq m l then off else off + l * s.size) (h - l) (.ex (m - l)), x1 && x2 && x3 && Nat.ble m c && Nat.ble h m && Nat.ble l h)
    | _, _, _, _ => none
  | some (.slice e), .sl b off len (.un z) =>
    match P.info? e, mx, bound ev hi len, bound ev lo 0 with
    | some s, none, some (h, x2), some (l, x3) =>
      -- what is left must lie within what is told, and something must be left, so that the address moves on
      bif Nat.beq z s.size then
        some (.sl b (off + l * s.size) (h - l) (.un z), x2 && x3 && Nat.ble h len && Nat.ble l h && (Nat.ble (l + 1) len || Nat.beq l 0))
      else none
    | some s, some _, some (h, x2), some (l, x3) =>
      match bound ev mx 0 with
      | some (m, x1) =>
        bif Nat.beq z s.size && hi.isSome then
          some (.sl b (bif Nat.beq m l then off else off + l * s.size) (h - l) (.ex (m - l)), x1 && x2 && x3 && Nat.ble m len && Nat.ble h m && Nat.ble l h)
        else none
      | none => none
    | _, _, _, _ => none
  | some (.slice e), .sla b sz off len (.un z) =>
    match P.info? e, mx, bound ev hi len, bound ev lo 0 with
    | some s, none, some (h, x2), some (l, x3) =>
      bif Nat.beq z s.size && Nat.beq sz z then
        some (.sla b sz (off + l) (h - l) (.un z), x2 && (x3 && (decide (h ≤ len) && (decide (l ≤ h) && (decide (l < len) || Nat.beq l 0)))))
      else none
    | _, _, _, _ => none
  | some (.array n e), .ptr b off =>
    match P.info? e, bound ev mx n, bound ev hi n, bound ev lo 0 with
    | some s, some (m, x1), some (h, x2), some (l, x3) =>
      if mx.isSome && hi.isNone then none else
      some (.sl b (bif Nat.beq m l then off else off + l * s.size) (h - l) (.ex (m - l)), x1 && x2 && x3 && Nat.ble m n && Nat.ble h m && Nat.ble l h)
    | _, _, _, _ => none
  | _, _ => none

/-- Operations that neither read nor write memory. -/
def aPure (P : Program) (op : Op) (ev : Operand → AVal) : Option (AVal × Bool) :=
  match op with
  | .move x | .assign x => some (ev x, true)
  | .pick c a b => match ev c with
    | .bool c => some (bif c then ev a else ev b, true)
    | _ => none
  | .build t parts => (aBuild P t (parts.toList.map fun p => (p.1, ev p.2))).map (·, true)
  | .nilCheck x => match ev x with
    | .ptr b o => some (.ptr b o, true)
    | .dptr cs => some (.dptr cs, true)
    | .fn f c => some (.fn f c, true)
    | .fnb f c => some (.fnb f c, true)
    | _ => none
  | .binOp op t x y _ => aBin P op t (ev x) (ev y)
  | .unOp op _ x => (aUn op (ev x)).map (·, true)
  | .convert src dst x => match P.underlying src, P.underlying dst, ev x with
    | some _, some (.int k), .int _ n => some (.int k (k.wrap n), true)
    | _, _, _ => none
  | .makeInterface t x => match P.underlying t with
    | some (.interface _) | none => none
    | some _ => some (.ifc t (ev x), true)
  | .makeFunc (.func f) first captured => bif first.isEmpty then some (.fn f (captured.toList.map ev), true) else bif captured.isEmpty then some (.fnb f (first.toList.map ev), true) else none
  | .fieldAddr t x f => (aFieldAddr P t (ev x) f).map (·, true)
  | .field t x f => (aField P t (ev x) f).map (·, true)
  | .indexAddr t x i => aIndexAddr P t (ev x) (ev i)
  | .index t x i => aIndex P t (ev x) (ev i)
  | .extract x i => match ev x with
    | .tup vs => (vs[i]?).map (·, true)
    | _ => none
  | .slice t x lo hi mx => aSlice P ev t x lo hi mx
  | .call { callee := .builtin b, args, argTypes } => (aBuiltin P b argTypes.toList (args.toList.map ev)).map (·, true)
  | _ => none

noncomputable def aLoad (P : Program) (m : Mem) (t : TypeId) (x : AVal) : Option AVal :=
  match x with
  | .ptr b off => match mget m b with
    | some blk => partOf P t blk.cells off
    | none => none
  | .dptr cs => partOf P t cs 0
  | _ => none

/-- A load where it is known which way a row is told. -/
noncomputable def aLoadP (P : Program) (m : Mem) (t : TypeId) (x : AVal) : Option (AVal × Bool) :=
  match x with
  | .epa b sz r fo => match mget m b with
    | some blk => match blk.arr with
      | some A => (partOf P t (A.get r) fo).map (·, Nat.beq A.sz sz && decide (r < A.n))
      | none => none
    | none => none
  | x => (aLoad P m t x).map (·, true)

/-- A row; which way it is told is a test. -/
noncomputable def pickRow : Rws → Nat → St → List AVal × St
  | .flat g, r, st => (g r, st)
  | .one r0 cs b, r, st => match st.test (Nat.beq r r0) with
    | (e, st) => bif e then (cs, st) else pickRow b r st
  | .alt c a b, r, st => match st.test (c r) with
    | (e, st) => bif e then pickRow a r st else pickRow b r st

/-- A load, and what is owed for it. -/
noncomputable def aLoadO (P : Program) (st : St) (t : TypeId) (x : AVal) : Option (AVal × Bool × St) :=
  match x with
  | .epa b sz r fo => match mget st.mem b with
    | some blk => match blk.arr with
      | some A => match pickRow A.rw r st with
        | (cs, st1) => (partOf P t cs fo).map (·, Nat.beq A.sz sz && decide (r < A.n), st1)
      | none => none
    | none => none
  | x => (aLoad P st.mem t x).map (·, true, st)

noncomputable def aStore (P : Program) (floor : Nat) (st : St) (t : TypeId) (x v : AVal) : Option St :=
  match x, P.info? t with
  | .ptr b off, some i =>
    let cs := v.cells
    bif Nat.ble floor b && Nat.beq cs.length i.size && boxable v && cs.all isSc then
      match mget st.mem b with
      | some blk =>
        bif Nat.ble (off + i.size) blk.cells.length then
          some (st.withMem (mset st.mem b (some ⟨blk.cells.take off ++ cs ++ blk.cells.drop (off + i.size), blk.ty, none⟩)))
        else none
      | none => none
    else none
  | _, _ => none

def updRow (get : Nat → List AVal) (r fo : Nat) (cs : List AVal) : Nat → List AVal := fun k => bif Nat.beq k r then (get r).take fo ++ cs ++ (get r).drop (fo + cs.length) else get k

/-- Rows when one has been written: a row that leads on is told by itself. -/
noncomputable def setRow (A : Arr) (r fo : Nat) (cs : List AVal) (st : St) : Option (Rws × St) :=
  match A.rw with
  | .flat g => bif cs.all isPlain then some (.flat (updRow g r fo cs), st) else bif Nat.beq fo 0 && Nat.beq cs.length A.sz then some (.one r cs (.flat g), st) else none
  | .one r0 c0 b => match st.test (Nat.beq r r0) with
    | (e, st1) => bif e && Nat.beq fo 0 && Nat.beq cs.length A.sz then some (.one r0 cs b, st1) else none
  | .alt c a b => bif Nat.beq fo 0 && Nat.beq cs.length A.sz then some (.one r cs (.alt c a b), st) else none

/-- A store into a row. -/
noncomputable def aStoreE (P : Program) (cx : Ctx) (st : St) (t : TypeId) (x v : AVal) : Option St :=
  match x, P.info? t with
  | .epa b sz r fo, some i =>
    bif Nat.ble cx.floor b && Nat.beq v.cells.length i.size && boxable v && v.cells.all isSc && Nat.ble (fo + i.size) sz then
      match mget st.mem b with
      | some blk => match blk.arr with
        | some A => match setRow A r fo v.cells st with
          | some (rw, st1) => (st1.withMem (mset st1.mem b (some ⟨rows A.n rw.get, blk.ty, some ⟨A.sz, A.n, rw⟩⟩))).owe cx (Nat.beq A.sz sz && decide (r < A.n))
          | none => none
        | none => none
      | none => none
    else none
  | _, _ => none

noncomputable def aNew : St → List AVal → TypeId → St
  | ⟨env, mem, next, orc, ob⟩, cells, ty => ⟨env, mset mem next (some ⟨cells, ty, none⟩), next + 1, orc, ob⟩

def rep (n : Nat) (l : List AVal) : List AVal := (List.replicate n l).flatten

noncomputable def aBuildSlice (P : Program) (u : Bool) (st : St) (t : TypeId) (len : Nat) (parts : List (Nat × AVal)) : Option (AVal × St) :=
  match P.underlying t with
  | some (.slice e) => match P.info? e, zeroOf P e with
    | some i, some zero =>
      bif Nat.ble (len * i.size) 16777216 && Nat.beq zero.length i.size then
        match aFill (fun j => some (j * i.size, i.size)) (rep len zero) parts with
        | some cells => some (.sl st.next 0 len (bif u && Nat.beq cells.length (len * i.size) then .un i.size else .ex len), aNew st cells e)
        | none => none
      else none
    | _, _ => none
  | _ => none

noncomputable def aMakeSlice (P : Program) (st : St) (t : TypeId) (l c : AVal) : Option (AVal × St) :=
  match P.underlying t, l, c with
  | some (.slice e), .int _ l, .int _ c => match P.info? e, zeroOf P e with
    | some i, some zero =>
      bif Nat.beq zero.length i.size && (decide (0 ≤ l) && decide (l ≤ c) && decide (c * i.bytes ≤ 1099511627776) && decide (c ≤ 1099511627776)) then
        some (.sl st.next 0 l.toNat (.ex c.toNat), aNew st (rep c.toNat zero) e)
      else none
    | _, _ => none
  | _, _, _ => none

/-- make, told row by row. -/
noncomputable def aMakeSliceA (P : Program) (cx : Ctx) (st : St) (t : TypeId) (l c : AVal) : Option (AVal × St) :=
  match P.underlying t, l, c with
  | some (.slice e), .int _ l, .int _ c => match P.info? e, zeroOf P e with
    | some i, some zero =>
      bif Nat.beq zero.length i.size && Nat.ble 1 i.size then
        (St.owe cx (match aNew st (rows c.toNat fun _ => zero) e with
            | ⟨env, _, next, orc, ob⟩ => ⟨env, mset st.mem st.next (some ⟨rows c.toNat fun _ => zero, e, some ⟨i.size, c.toNat, .flat fun _ => zero⟩⟩), next, orc, ob⟩)
          (decide (0 ≤ l) && decide (l ≤ c) && decide (c * i.bytes ≤ 1099511627776) && decide (c ≤ 1099511627776))).map (.sla st.next i.size 0 l.toNat (.un i.size), ·)
      else none
    | _, _ => none
  | _, _, _ => none

/-- The cells of a slice of elements of sz cells. -/
noncomputable def cellsOfSlice (m : Mem) (sz : Nat) : AVal → Option (Nat × List AVal)
  | .nils => some (0, [])
  | .sl b off len _ => match mget m b with
    | some blk => (cut blk.cells off (len * sz)).map (len, ·)
    | none => none
  | _ => none

def room : Nat := 1099511627776

/-- The cells that are appended: those of a slice, or n zeros. -/
noncomputable def newCells (m : Mem) (sz : Nat) (zero : List AVal) (ut : TypeDesc) (x : AVal) : Option (Nat × List AVal) :=
  match ut with
  | .int _ => match x with
    | .int _ n => bif decide (0 ≤ n) then some (n.toNat, rep n.toNat zero) else none
    | _ => none
  | _ => cellsOfSlice m sz x

/-- append(s, x...). -/
noncomputable def aAppend (P : Program) (floor : Nat) (st : St) (argTypes : List TypeId) (args : List AVal) : Option (AVal × St) :=
  match argTypes, args with
  | t :: u :: _, s :: x :: _ => match P.underlying t, P.underlying u with
    | some (.slice e), some ut => match P.info? e, zeroOf P e with
      | some i, some zero => match newCells st.mem i.size zero ut x with
        | some (n, new) =>
          bif Nat.beq zero.length i.size && Nat.beq new.length (n * i.size) && Nat.ble 1 i.size && new.all isSc then
          match s with
          | .nils =>
            bif Nat.beq n 0 then some (.nils, st) else
            bif Nat.ble ((n + 1) * (i.bytes + 1)) room then
              some (.sl st.next 0 n (.un i.size), aNew st new e) else none
          | .sl b off len cap =>
            match mget st.mem b with
            | some blk =>
              match cut blk.cells off (len * i.size) with
              | some old =>
                bif Nat.ble ((len + n + 1) * (i.bytes + 1)) room then
                match cap with
                | .ex c =>
                  bif Nat.ble (len + n) c then
                    bif Nat.ble floor b && Nat.ble (off + (len + n) * i.size) blk.cells.length then
                      some (.sl b off (len + n) cap, st.withMem (mset st.mem b (some ⟨blk.cells.take (off + len * i.size) ++ new ++ blk.cells.drop (off + (len + n) * i.size), blk.ty, none⟩)))
                    else none
                  else some (.sl st.next 0 (len + n) (.un i.size), aNew st (old ++ new) e)
                | .un z =>
                  bif Nat.beq z i.size && Nat.ble floor b then
                    bif Nat.ble (off + (len + n) * i.size) blk.cells.length then
                      some (.sl b off (len + n) cap, st.withMem (mset st.mem b (some ⟨blk.cells.take (off + len * i.size) ++ new ++ blk.cells.drop (off + (len + n) * i.size), blk.ty, none⟩)))
                    else bif Nat.beq (off + len * i.size) blk.cells.length then
                      -- in place or anew: the old block is told no more
                      some (.sl st.next 0 (len + n) (.un i.size), aNew (st.withMem (mset st.mem b none)) (old ++ new) e)
                    else none
                  else none
                else none
              | none => none
            | none => none
          | _ => none
          else none
        | none => none
      | _, _ => none
    | _, _ => none
  | _, _ => none

/-- Rows with more behind them. -/
def appRow (get : Nat → List AVal) (off len sz : Nat) (new : List AVal) : Nat → List AVal := fun k => bif Nat.ble len k then (new.drop ((k - len) * sz)).take sz else get (off + k)

/-- append(s, x...) at a slice of rows: whatever was there is told no more. -/
noncomputable def aAppendA (P : Program) (cx : Ctx) (st : St) (argTypes : List TypeId) (args : List AVal) : Option (AVal × St) :=
  match argTypes, args with
  | t :: u :: _, .sla b sz off len (.un z) :: x :: _ => match P.underlying t, P.underlying u with
    | some (.slice e), some ut => match ut with
      | .int _ => none
      | _ => match P.info? e with
        | some i => match cellsOfSlice st.mem i.size x, zeroOf P e, mget st.mem b with
          | some (n, new), some zero, some blk => match blk.arr with
            | some A =>
              bif Nat.beq zero.length i.size && Nat.beq new.length (n * i.size) && Nat.ble 1 i.size && new.all isSc && Nat.beq sz i.size && Nat.beq z sz && Nat.ble cx.floor b && Nat.ble 1 n then
                (St.owe cx (match aNew (st.withMem (mset st.mem b none)) (rows (len + n) (appRow A.get off len sz new)) e with
                    | ⟨env, _, next, orc, ob⟩ => ⟨env, mset (mset st.mem b none) st.next (some ⟨rows (len + n) (appRow A.get off len sz new), e, some ⟨sz, len + n, appRow A.get off len sz new⟩⟩), next, orc, ob⟩)
                  (Nat.beq A.sz sz && (decide (off + len = A.n) && decide ((len + n + 1) * (i.bytes + 1) ≤ room)))).map (.sla st.next sz 0 (len + n) (.un sz), ·)
              else none
            | none => none
          | _, _, _ => none
        | none => none
    | _, _ => none
  | _, _ => none

/-- A proposition that is owed. -/
noncomputable def pd (p : Prop) : Bool := @decide p (Classical.propDecidable p)

def capOk (sz len : Nat) : ACap → Bool
  | .un z => Nat.beq z sz
  | .ex c => Nat.ble c len

/-- What a slice holds, told row by row: its block, its length, its rows, what is owed. -/
noncomputable def toldRows (m : Mem) (sz : Nat) : AVal → Option (Option Nat × Nat × (Nat → List AVal) × Bool)
  | .nils => some (none, 0, fun _ => [], true)
  | .sl b off len cap => match mget m b with
    | some blk => match cut blk.cells off (len * sz) with
      | some old => bif capOk sz len cap && Nat.ble off blk.cells.length then some (some b, len, fun k => (old.drop (k * sz)).take sz, true) else none
      | none => none
    | none => none
  | .sla b z off len cap => match mget m b with
    | some blk => match blk.arr with
      | some A => bif capOk sz len cap then some (some b, len, fun k => A.get (off + k), Nat.beq z sz && (Nat.beq A.sz sz && decide (off + len ≤ A.n))) else none
      | none => none
    | none => none
  | _ => none

/-- What is appended, row by row. -/
noncomputable def srcRows (sz : Nat) (zero : List AVal) (ut : TypeDesc) : AVal → Option (Nat × (Nat → List AVal) × Bool)
  | .int _ n => match ut with
    | .int _ => some (n.toNat, fun _ => zero, decide (0 ≤ n))
    | _ => none
  | .dat n g => match ut with
    | .int _ => none
    | _ => some (n, g, pd (∀ i, i < n → (g i).length = sz ∧ (g i).all isSc = true))
  | _ => none

def catRow (get : Nat → List AVal) (len : Nat) (g : Nat → List AVal) : Nat → List AVal := fun k => bif Nat.ble len k then g (k - len) else get k

def floorOk (floor : Nat) : Option Nat → Bool
  | some b => Nat.ble floor b
  | none => true
noncomputable def killO (m : Mem) : Option Nat → Mem
  | some b => mset m b none
  | none => m

/-- append(s, x...) where the number of what is appended is not told. -/
noncomputable def aAppendG (P : Program) (cx : Ctx) (st : St) (argTypes : List TypeId) (args : List AVal) : Option (AVal × St) :=
  match argTypes, args with
  | t :: u :: _, s :: x :: _ => match P.underlying t, P.underlying u with
    | some (.slice e), some ut => match P.info? e, zeroOf P e with
      | some i, some zero => match toldRows st.mem i.size s, srcRows i.size zero ut x with
        | some (b, len, get, o1), some (n, g, o2) =>
          bif Nat.beq zero.length i.size && zero.all isSc && Nat.ble 1 i.size && floorOk cx.floor b then
            (St.owe cx (match aNew (st.withMem (killO st.mem b)) (rows (len + n) (catRow get len g)) e with
                | ⟨env, _, next, orc, ob⟩ => ⟨env, mset (killO st.mem b) st.next (some ⟨rows (len + n) (catRow get len g), e, some ⟨i.size, len + n, catRow get len g⟩⟩), next, orc, ob⟩)
              (o1 && (o2 && decide ((len + n + 1) * (i.bytes + 1) ≤ room)))).map (.sla st.next i.size 0 (len + n) (.un i.size), ·)
          else none
        | _, _ => none
      | _, _ => none
    | _, _ => none
  | _, _ => none

def isDat : AVal → Bool
  | .dat _ _ => true
  | _ => false

/-- Is it appended by rows? -/
def manyOk (P : Program) (cx : Ctx) (argTypes : List TypeId) (args : List AVal) : Bool :=
  match argTypes, args with
  | _ :: u :: _, _ :: x :: _ => isDat x || (cx.sym && (match P.underlying u with
    | some (.int _) => true
    | _ => false))
  | _, _ => false

noncomputable def aAppend2 (P : Program) (cx : Ctx) (st : St) (argTypes : List TypeId) (args : List AVal) : Option (AVal × St) :=
  bif manyOk P cx argTypes args then aAppendG P cx st argTypes args else
  match args with
  | .sla b sz off len cap :: r => aAppendA P cx st argTypes (.sla b sz off len cap :: r)
  | args => aAppend P cx.floor st argTypes args

/-- copy(d, s). -/
noncomputable def aCopy (P : Program) (floor : Nat) (st : St) (argTypes : List TypeId) (args : List AVal) : Option (AVal × St) :=
  match argTypes, args with
  | t :: _, d :: x :: _ => match P.underlying t with
    | some (.slice e) => match P.info? e with
      | some i => match cellsOfSlice st.mem i.size x with
        | some (m, src) =>
          bif Nat.beq src.length (m * i.size) && src.all isSc then
          match d with
          | .nils => some (.int .i64 0, st)
          | .sl b off len _ =>
            let n := Nat.min m len
            match mget st.mem b with
            | some blk =>
              bif Nat.ble floor b && Nat.ble (off + n * i.size) blk.cells.length then
                some (.int .i64 n, st.withMem (mset st.mem b (some ⟨blk.cells.take off ++ src.take (n * i.size) ++ blk.cells.drop (off + n * i.size), blk.ty, none⟩)))
              else none
            | none => none
          | _ => none
          else none
        | none => none
      | none => none
    | _ => none
  | _, _ => none

/-- clear(s). -/
noncomputable def aClear (P : Program) (floor : Nat) (st : St) (argTypes : List TypeId) (args : List AVal) : Option (AVal × St) :=
  match argTypes, args with
  | t :: _, d :: _ => match P.underlying t with
    | some (.slice e) => match P.info? e, zeroOf P e with
      | some i, some zero => match d with
        | .nils => some (.tup [], st)
        | .sl b off len _ =>
          bif Nat.beq len 0 then some (.tup [], st) else
          bif Nat.beq zero.length i.size && zero.all isSc && Nat.ble floor b then
          match mget st.mem b with
          | some blk =>
            bif Nat.ble (off + len * i.size) blk.cells.length then
              some (.tup [], st.withMem (mset st.mem b (some ⟨blk.cells.take off ++ rep len zero ++ blk.cells.drop (off + len * i.size), blk.ty, none⟩)))
            else none
          | none => none
          else none
        | _ => none
      | _, _ => none
    | _ => none
  | _, _ => none

noncomputable def envOf : List AVal → Nat → T AVal → T AVal
  | [], _, t => t
  | a :: r, i, t => envOf r (i + 1) (T.set .undef t i a)

noncomputable def aResult (P : Program) (st : St) : ResultVar → Option AVal
  | .tmp t => some (st.tmp t)
  | .cell a t => aLoad P st.mem t (st.tmp a)

noncomputable def aResults (P : Program) (st : St) : List ResultVar → Option (List AVal)
  | [] => some []
  | r :: l => match aResult P st r, aResults P st l with
    | some v, some vs => some (v :: vs)
    | _, _ => none

def packed : List AVal → AVal
  | [v] => v
  | vs => .tup vs

/-- No address. -/
def pf : Nat → AVal → Bool
  | 0, _ => false
  | d + 1, v => match v with
    | .bool _ | .int _ _ | .str _ | .nilp | .nils | .nilf | .nili | .dat _ _ | .dptr _ => true
    | .agg cs | .tup cs => cs.all (pf d)
    | _ => false

/-- A contract: of a function that gives a value; of one that turns a block: the value, the block, what it is then, what is owed. -/
inductive Spec where
  | val (F : List AVal → Option (AVal × Bool))
  | eff (F : List AVal → Mem → Option (AVal × Nat × ABlk × Bool))
abbrev Specs := FuncId → Option Spec
abbrev Runner := Ctx → List Item → St → Option St

/-- A value that leads nowhere. -/
def scal : AVal → Bool
  | .bool _ | .int _ _ | .str _ => true
  | .tup vs => vs.all fun v => match v with
    | .bool _ | .int _ _ | .str _ => true
    | _ => false
  | _ => false

/-- An argument as a slice that nobody writes while the call lasts. -/
noncomputable def viewV (m : Mem) : AVal → AVal × Bool
  | .sla b sz off len cap => match mget m b with
    | some blk => match blk.arr with
      | some A => (.dat len fun k => A.get (off + k), Nat.beq A.sz sz && (decide (off + len ≤ A.n) && pd (∀ i, (A.get i).all (pf 6) = true)))
      | none => (.undef, true)
    | none => (.undef, true)
  | v => (v, true)
noncomputable def viewL (m : Mem) : List AVal → List AVal × Bool
  | [] => ([], true)
  | v :: l => match viewV m v, viewL m l with
    | (a, o), (as, q) => (a :: as, o && q)

noncomputable def aCall (P : Program) (S : Specs) (R : Runner) (lift : Bool) (f : FuncId) (args : List AVal) (cx : Ctx) (st : St) : Option (AVal × St) :=
  match S f with
  | some (.val F) => bif args.all (pf 3) then (match F args with
      | some (v, b) => bif pf 3 v then (st.owe cx b).map (v, ·) else none
      | none => none) else
    match viewL st.mem args with
    | (args', o) => match F args' with
      | some (v, b) => bif args'.all (pf 3) && scal v then (st.owe cx (o && b)).map (v, ·) else none
      | none => none
  | some (.eff F) => match F args st.mem with
    | some (v, b, blk, o) => match mget st.mem b with
      | some _ => bif !lift && Nat.ble cx.floor b then ((st.withMem (mset st.mem b (some blk))).owe cx o).map (v, ·) else none
      | none => none
    | none => none
  | none => match P.funcs[f]? with
    | some fn => match fn.body with
      | some body =>
        match R ⟨Nat.max fn.ntmps args.length, bif lift then st.next else cx.floor, cx.sym⟩ [.code body] (st.withEnv (envOf args 0 .leaf)) with
        | some st2 => match aResults P st2 fn.results.toList with
          | some vs => some (packed vs, st2.withEnv st.env)
          | none => none
        | none => none
      | none => none
    | none => none

noncomputable def aEffect (P : Program) (S : Specs) (R : Runner) (lift : Bool) (op : Op) (cx : Ctx) (st : St) : Option (AVal × St) :=
  match op with
  | .load t x => match aLoadO P st t (st.eval x) with
    | some (v, b, st1) => (st1.owe cx b).map (v, ·)
    | none => none
  | .alloc t => (zeroOf P t).map fun z => (.ptr st.next 0, aNew st z t)
  | .box t x => bif boxable (st.eval x) then some (.ptr st.next 0, aNew st (st.eval x).cells t) else none
  | .buildSlice t len parts => aBuildSlice P cx.sym st t len (parts.toList.map fun p => (p.1, st.eval p.2))
  | .store t a x => match st.eval a with
    | .epa b sz r fo => (aStoreE P cx st t (.epa b sz r fo) (st.eval x)).map (.tup [], ·)
    | y => (aStore P cx.floor st t y (st.eval x)).map (.tup [], ·)
  | .makeSlice t l c => bif cx.sym then aMakeSliceA P cx st t (st.eval l) (st.eval c) else aMakeSlice P st t (st.eval l) (st.eval c)
  | .call { callee := .builtin .append, args, argTypes } => aAppend2 P cx st argTypes.toList (args.toList.map st.eval)
  | .call { callee := .builtin .copy, args, argTypes } => aCopy P cx.floor st argTypes.toList (args.toList.map st.eval)
  | .call { callee := .builtin .clear, args, argTypes } => aClear P cx.floor st argTypes.toList (args.toList.map st.eval)
  | .call { callee := .value f, args, argTypes := _ } => match st.eval f with
    | .fn g caps => aCall P S R lift g (args.toList.map st.eval ++ caps) cx st
    | .fnb g first => aCall P S R lift g (first ++ args.toList.map st.eval) cx st
    | _ => none
  | _ => none

noncomputable def opStep (P : Program) (S : Specs) (R : Runner) (lift : Bool) (o : Oper) (cx : Ctx) (st : St) : Option St :=
  match aPure P o.op st.eval with
  | some (v, b) => match st.owe cx b with
    | some st => st.put cx o.dst v
    | none => none
  | none => match aEffect P S R lift o.op cx st with
    | some (v, st) => st.put cx o.dst v
    | none => none

/-- Is the operation carried out? -/
noncomputable def aWant0 (ops : Array Oper) (o : Oper) (cx : Ctx) (st : St) : Option (Bool × St) :=
  match o.guard with
  | none => some (true, st)
  | some (j, want) => match (ops[j]?).bind (·.dst) with
    | none => none
    | some d => match st.tmp d with
      | .bool b => match st.test b with
        | (e, st1) => match st1.put cx (some d) (.bool e) with
          | some st2 => some (e == want, st2)
          | none => none
      | .tup [] => some (false, st)
      | _ => none

/-- A number out of the oracle: as many times true, then false. -/
def pickO : List Bool → Nat × List Bool
  | [] => (0, [])
  | false :: r => (0, r)
  | true :: r => ((pickO r).1 + 1, (pickO r).2)

noncomputable def St.conc (cx : Ctx) (t : Nat) (kd : IntKind) (n : Int) : St → Option St
  | ⟨env, mem, next, [], ob⟩ => some ⟨env, mem, next, [], ob⟩
  | ⟨env, mem, next, o :: r, ob⟩ => bif Nat.ble (t + 1) cx.n then some ⟨T.set .undef env t (.int kd (Int.ofNat (pickO (o :: r)).1)), mem, next, (pickO (o :: r)).2, decide (n = Int.ofNat (pickO (o :: r)).1) && ob⟩ else none

/-- The index into an array is made a number. -/
noncomputable def aConc (o : Oper) (cx : Ctx) (st : St) : Option St :=
  match o.op with
  | .indexAddr _ x (.tmp t) => match st.eval x with
    | .ptr _ _ | .epa _ _ _ _ => match st.tmp t with
      | .int kd n => st.conc cx t kd n
      | _ => some st
    | _ => some st
  | .index _ x (.tmp t) => match st.eval x with
    | .agg _ => match st.tmp t with
      | .int kd n => st.conc cx t kd n
      | _ => some st
    | _ => some st
  | _ => some st

noncomputable def aWanted (ops : Array Oper) (o : Oper) (cx : Ctx) (st : St) : Option (Bool × St) :=
  match aWant0 ops o cx st with
  | some (true, st1) => match aConc o cx st1 with
    | some st2 => some (true, st2)
    | none => none
  | x => x

noncomputable def opsRun (P : Program) (S : Specs) (R : Runner) (ops : Array Oper) (cx : Ctx) (l : List (Bool × Oper)) : St → Option St :=
  List.rec (motive := fun _ => St → Option St) (fun st => some st)
    (fun x _ rec st => match aWanted ops x.2 cx st with
      | none => none
      | some (true, st) => match opStep P S R x.1 x.2 cx st with
        | some st => rec st
        | none => none
      | some (false, st) => match st.put cx x.2.dst (.tup []) with
        | some st => rec st
        | none => none) l

inductive Kind where
  | pure | read | alloc | call | chain
  deriving DecidableEq

def kindOf : Op → Kind
  | .load .. => .read
  | .alloc _ => .alloc
  | .box .. | .buildSlice .. | .store .. | .makeSlice .. => .chain
  | .call { callee := .builtin .append, .. } | .call { callee := .builtin .copy, .. } | .call { callee := .builtin .clear, .. } => .chain
  | .call { callee := .value _, .. } => .call
  | _ => .pure

/-- For each operation, as bits, those that come before it in every order. -/
def befs : List Oper → List Nat → List Nat
  | [], acc => acc
  | o :: r, acc => befs r (acc ++ [o.after.toList.foldl (fun s e => bif Region.binds .any e then s ||| (2 ^ e.on) ||| acc.getD e.on 0 else s) 0])

def isAlloc (ops : Array Oper) (i : Nat) : Bool := (ops[i]?).any fun o => kindOf o.op == .alloc

def drawOrder (ops : Array Oper) : List Nat :=
  (List.range ops.size).filter (isAlloc ops) ++ (List.range ops.size).filter (fun i => !isAlloc ops i)

def lifts (ops : Array Oper) (i : Nat) : Bool :=
  (List.range ops.size).any fun j => (ops[j]?).any (fun o => kindOf o.op == .read) &&
    ((Nat.ble (i + 1) j && !((befs ops.toList []).getD j 0).testBit i) || (Nat.ble (j + 1) i && !((befs ops.toList []).getD i 0).testBit j))

def drawList (ops : Array Oper) : List (Nat × Bool × Oper) := (drawOrder ops).map fun i => (i, lifts ops i, ops.getD i default)

def kindsOk : Kind → Kind → Bool
  | .pure, _ => true
  | _, .pure => true
  | .alloc, _ => true
  | _, .alloc => true
  | .read, .read => true
  | .read, .call => true
  | .call, .read => true
  | .read, .chain => true
  | .chain, .read => true
  | _, _ => false

/-- Two operations, i before j in the text. -/
def pairOk (ops : Array Oper) (i j : Nat) (p o : Oper) : Bool :=
  (((befs ops.toList []).getD j 0).testBit i || (p.apart ops o && kindsOk (kindOf p.op) (kindOf o.op))) &&
  (match p.dst with | some d => !(o.dst == some d) | none => true) &&
  (!(kindOf o.op == .alloc) || p.apart ops o)

def drawOk (ops : Array Oper) : Bool :=
  (List.range ops.size).all fun j => match ops[j]? with
    | none => false
    | some o => o.after.toList.all (fun e => !Region.binds .any e || Nat.ble (e.on + 1) j) && (!(kindOf o.op == .alloc) || o.guard.isNone) &&
      (List.range j).all fun i => match ops[i]? with
        | none => false
        | some p => pairOk ops i j p o

/-- The block that a load reads. -/
def rdOf (op : Op) (ev : Operand → AVal) : Option Nat :=
  match op with
  | .load _ x => match ev x with
    | .ptr b _ => some b
    | .epa b _ _ _ => some b
    | _ => none
  | _ => none

/-- The block that is there already and that an operation may change. -/
def wrOf (op : Op) (ev : Operand → AVal) : Option Nat :=
  match op with
  | .store _ a _ => match ev a with
    | .ptr b _ => some b
    | .epa b _ _ _ => some b
    | _ => none
  | .call { callee := .builtin .append, args, argTypes := _ } => match args.toList.map ev with
    | .sl b _ _ _ :: _ => some b
    | .sla b _ _ _ _ :: _ => some b
    | _ => none
  | .call { callee := .builtin .copy, args, argTypes := _ } => match args.toList.map ev with
    | .sl b _ _ _ :: _ => some b
    | _ => none
  | .call { callee := .builtin .clear, args, argTypes := _ } => match args.toList.map ev with
    | .sl b _ _ _ :: _ => some b
    | _ => none
  | _ => none

def clash : Option Nat → Option Nat → Bool
  | some a, some b => Nat.beq a b
  | _, _ => false

def ordered (ops : Array Oper) (i j : Nat) : Bool := ((befs ops.toList []).getD j 0).testBit i || ((befs ops.toList []).getD i 0).testBit j

abbrev Foot := Nat × Option Nat × Option Nat

def footOk (ops : Array Oper) (x y : Foot) : Bool := !(clash x.2.1 y.2.2 || clash x.2.2 y.2.1) || ordered ops x.1 y.1

/-- One operation of a region, wanted or not. -/
noncomputable def step1 (P : Program) (S : Specs) (R : Runner) (ops : Array Oper) (cx : Ctx) (x : Bool × Oper) (st : St) : Option St :=
  match aWanted ops x.2 cx st with
  | none => none
  | some (true, st) => opStep P S R x.1 x.2 cx st
  | some (false, st) => st.put cx x.2.dst (.tup [])

def footOf (x : Nat × Bool × Oper) (ev : Operand → AVal) : Foot := (x.1, rdOf x.2.2.op ev, wrOf x.2.2.op ev)

/-- A region that draws its order: what is read and what is written is held against each other. -/
noncomputable def opsRunD (P : Program) (S : Specs) (R : Runner) (ops : Array Oper) (cx : Ctx) (l : List (Nat × Bool × Oper)) : List Foot → St → Option St :=
  List.rec (motive := fun _ => List Foot → St → Option St) (fun _ st => some st)
    (fun x _ rec acc st => bif acc.all (footOk ops (footOf x st.eval)) then
        match step1 P S R ops cx x.2 st with
        | some st' => rec (footOf x st.eval :: acc) st'
        | none => none
      else none) l

noncomputable def runBody (P : Program) (S : Specs) (Rc R : Runner) (cx : Ctx) (todo : List Item) (st : St) : Option St :=
  match todo with
  | [] => some st
  | .code .ret :: _ => some st
  | .code .skip :: k => R cx k st
  | .code (.label _) :: k => R cx k st
  | .inBlock _ :: k => R cx k st
  | .inScope _ :: k => R cx k st
  | .code (.seq a b) :: k => R cx (.code a :: .code b :: k) st
  | .code (.cond c a b) :: k => match st.eval c with
    | .bool v => match st.test v with
      | (e, st) => R cx (.code (bif e then a else b) :: k) st
    | _ => none
  | .code (.block id body) :: k => R cx (.code body :: .inBlock id :: k) st
  | .code (.scope body) :: k => R cx (.code body :: .inScope body :: k) st
  | .code (.loop body) :: k => R cx (.code body :: .inLoop body :: k) st
  | .inLoop body :: k => R cx (.code body :: .inLoop body :: k) st
  | .code (.exit id) :: k => match exitTo id k with
    | some k => R cx k st
    | none => none
  | .code (.region _ ops false) :: k => match opsRun P S Rc ops cx (ops.toList.map (false, ·)) st with
    | some st => R cx k st
    | none => none
  | .code (.region _ ops true) :: k => bif drawOk ops then
      match opsRunD P S Rc ops cx (drawList ops) [] st with
      | some st => R cx k st
      | none => none
    else none
  | _ => none

noncomputable def run (P : Program) (S : Specs) (n : Nat) : Runner :=
  Nat.rec (motive := fun _ => Runner) (fun _ _ _ => none) (fun _ R => runBody P S R R) n

/-- A run that stops ahead of each round of a loop, and goes on with K there; calls go by Rc. -/
noncomputable def runH (P : Program) (S : Specs) (Rc K : Runner) (n : Nat) : Runner :=
  Nat.rec (motive := fun _ => Runner) (fun _ _ _ => none) (fun _ R cx todo st => match todo with
    | .inLoop body :: k => K cx (.code body :: .inLoop body :: k) st
    | .code (.loop body) :: k => K cx (.code body :: .inLoop body :: k) st
    | todo => runBody P S Rc R cx todo st) n

/-- The slots of a list, and no others. -/
noncomputable def keepEnv (env : T AVal) : List Nat → T AVal
  | [] => .leaf
  | t :: l => T.set .undef (keepEnv env l) t (T.get .undef env t)
/-- No address of a block from N on. -/
def low (N : Nat) : Nat → AVal → Bool
  | 0, _ => false
  | d + 1, v => match v with
    | .ptr b _ => Nat.ble (b + 1) N
    | .sl b _ _ _ => Nat.ble (b + 1) N
    | .sla b _ _ _ _ => Nat.ble (b + 1) N
    | .epa b _ _ _ => Nat.ble (b + 1) N
    | .yld b => Nat.ble (b + 1) N
    | .agg cs | .tup cs | .fn _ cs | .fnb _ cs => cs.all (low N d)
    | .ifc _ v => low N d v
    | _ => true

/-- No cell of a block leads on to a block from N on. -/
noncomputable def lowBlk (N : Nat) (blk : ABlk) : Bool := match blk.arr with
  | none => blk.cells.all (low N 6)
  | some a => pd (∀ i, (a.get i).all (low N 6) = true)

/-- The first N blocks; and that none of them leads on to a later one. -/
noncomputable def cutMem (mem : Mem) (N : Nat) : Nat → Mem × Bool
  | 0 => (.leaf, true)
  | b + 1 => match cutMem mem N b with
    | (m, o) => match mget mem b with
      | none => (m, o)
      | some blk => (mset m b (some blk), o && lowBlk N blk)

/-- The slots of a list, and the first N blocks. -/
noncomputable def St.keep (L : List Nat) (N : Nat) : St → Option St
  | ⟨env, mem, next, _, ob⟩ => bif L.all (fun t => low N 6 (T.get .undef env t)) && Nat.ble N next then
      match cutMem mem N N with
      | (m, o) => some ⟨keepEnv env L, m, N, [], ob && o⟩
    else none
noncomputable def kp (L : List Nat) (N : Nat) (K : Runner) : Runner := fun cx todo st => match st.keep L N with
  | some s => K cx todo s
  | none => none
noncomputable def envL : List (Nat × AVal) → T AVal
  | [] => .leaf
  | (t, v) :: l => T.set .undef (envL l) t v

/-- The heads of the loops of a function, in the order of the text. -/
def heads : Code → List Item → List (List Item)
  | .seq a b, k => heads a (.code b :: k) ++ heads b k
  | .block id b, k => heads b (.inBlock id :: k)
  | .scope b, k => heads b (.inScope b :: k)
  | .cond _ a b, k => heads a k ++ heads b k
  | .loop b, k => (.code b :: .inLoop b :: k) :: heads b (.inLoop b :: k)
  | _, _ => []
def bodyOf (P : Program) (f : FuncId) : Code := match P.funcs[f]? with
  | some fn => fn.body.getD .ret
  | none => .ret
def head (P : Program) (f : FuncId) (i : Nat) : List Item := (heads (bodyOf P f) []).getD i []
def resultsOf (P : Program) (f : FuncId) : List ResultVar := match P.funcs[f]? with
  | some fn => fn.results.toList
  | none => []

/-- A call out of nothing, with nothing in memory. -/
noncomputable def call0 (P : Program) (fuel : Nat) (f : FuncId) (args : List AVal) : Option AVal :=
  (aCall P (fun _ => none) (run P (fun _ => none) fuel) false f args ⟨0, 0, false⟩ ⟨.leaf, .leaf, 0, [], true⟩).map (·.1)

end Go.Am
