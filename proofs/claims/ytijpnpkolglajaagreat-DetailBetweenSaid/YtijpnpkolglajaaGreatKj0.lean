/- A part of a proof: several texts in one. -/
import Derived.Calls
import Derived.Orders
import Derived.KernelRfl
import Derived.DeepKeys
import Derived.Below
import Derived.Laws.Sem
import Derived.Laws.Tables
import Derived.Laws.CopyRow
import Derived.Laws.Cells
import Derived.Laws.Entries
import Derived.Laws.StructEq
import Derived.ChangeKeysEq
import Derived.WalkSpells
import Derived.IntWalk
set_option maxRecDepth 1000000
set_option maxHeartbeats 8000000
set_option linter.unusedVariables false
set_option linter.unusedSimpArgs false
noncomputable section
namespace Go.Am
def bl (n m:Nat):List Bool:=Nat.rec (motive:=fun _=>Nat → List Bool) (fun _=>[]) (fun _ r m=>Nat.beq (m%2) 1::r (m/2)) n m
inductive v9m where
 | ex (k:Nat)
 | un (sz:Nat)
inductive AVal where
 | undef
 | bool (b:Bool)
 | int (k:IntKind) (n:Int)
 | str (s:List UInt8)
 | agg (cs:List AVal)
 | tup (vs:List AVal)
 | ptr (b off:Nat)
 | nilp
 | sl (b off len:Nat) (cap:v9m)
 | nils
 | fn (f:FuncId) (caps:List AVal)
 | nilf
  | fnb (f:FuncId) (first:List AVal)
 | ifc (t:TypeId) (v:AVal)
 | nili
 | dat (len:Nat) (get:Nat→List AVal)
 | dptr (cs:List AVal)
  | sla (b sz off len:Nat) (cap:v9m)
  | epa (b sz i fo:Nat)
  | yld (j:Nat)
  | slv (b sz off len:Nat)
inductive T (α:Type) where
 | leaf
 | node (v:α) (l r:T α)
def T.get {α:Type} (d:α) (t:T α):Nat→α:=
 T.rec (motive:=fun _=>Nat→α) (fun _=>d)
  (fun v _ _ gl gr n=>Nat.rec (motive:=fun _=>α) v (fun m _=>bif Nat.beq (m %2) 0 then gl (m / 2) else gr (m / 2)) n) t
def T.setF {α:Type} (d:α) (v:α) (f:Nat):T α→Nat→T α:=
 Nat.rec (motive:=fun _=>T α→Nat→T α) (fun t _=>t)
  (fun _ rec t n=>
   T.casesOn (motive:=fun _=>T α) t
    (Nat.rec (motive:=fun _=>T α) (.node v .leaf .leaf)
     (fun m _=>bif Nat.beq (m %2) 0 then .node d (rec .leaf (m / 2)) .leaf else .node d .leaf (rec .leaf (m / 2))) n)
    (fun u l r=>Nat.rec (motive:=fun _=>T α) (.node v l r)
     (fun m _=>bif Nat.beq (m %2) 0 then .node u (rec l (m / 2)) r else .node u l (rec r (m / 2))) n)) f
def T.set {α:Type} (d:α) (t:T α) (n:Nat) (v:α):T α:=T.setF d v (n+1) t n
inductive Rws where
 | flat (g:Nat→List AVal)
 | one (r:Nat) (cs:List AVal) (b:Rws)
 | alt (c:Nat→Bool) (a b:Rws)
def Rws.get :Rws→Nat→List AVal
 | .flat g=>g
 | .one r cs b=>fun k=>bif Nat.beq k r then cs else b.get k
 | .alt c a b=>fun k=>bif c k then a.get k else b.get k
instance : Coe (Nat→List AVal) Rws:=⟨.flat⟩
structure Arr where
 sz:Nat
 n:Nat
 rw:Rws
def Arr.get (A:Arr):Nat→List AVal:=A.rw.get
def rows (n:Nat) (get:Nat→List AVal):List AVal:=(List.range n).flatMap get
structure ABlk where
 cells:List AVal
 ty:TypeId
 arr:Option Arr
abbrev Mem :=T (Option ABlk)
def Xv (m:Mem) (b:Nat):Option ABlk:=T.get none m b
def We (m:Mem) (b:Nat) (o:Option ABlk):Mem:=T.set none m b o
structure Ctx where
 n:Nat
 floor:Nat
 sym:Bool
structure St where
 env:T AVal
 mem:Mem
 next:Nat
 orc:List Bool
 ob:Bool
def St.tmp :St→Nat→AVal
 | ⟨env,_,_,_,_⟩,t=>T.get .undef env t
def St.put (cx:Ctx):St→Option Tmp→AVal→Option St
 | ⟨env,mem,next,orc,ob⟩,some d,v=>bif Nat.ble (d+1) cx.n then some ⟨T.set .undef env d v,mem,next,orc,ob⟩ else none
 | st,none,_=>some st
def St.withMem :St→Mem→St
 | ⟨env,_,next,orc,ob⟩,m=>⟨env,m,next,orc,ob⟩
def St.withEnv :St→T AVal→St
 | ⟨_,mem,next,orc,ob⟩,e=>⟨e,mem,next,orc,ob⟩
def St.owe (cx:Ctx):St→Bool→Option St
 | ⟨env,mem,next,orc,ob⟩,b=>bif cx.sym then some ⟨env,mem,next,orc,b&&ob⟩ else bif b then some ⟨env,mem,next,orc,ob⟩ else none
def St.test :St→Bool→Bool×St
 | ⟨env,mem,next,[],ob⟩,b=>(b,⟨env,mem,next,[],ob⟩)
 | ⟨env,mem,next,e::r,ob⟩,b=>(e,⟨env,mem,next,r,(b == e)&&ob⟩)
def St.nextO :St→Bool
 | ⟨_,_,_,[],_⟩=>false
 | ⟨_,_,_,e::_,_⟩=>e
def St.dropO :St→St
 | ⟨env,mem,next,orc,ob⟩=>⟨env,mem,next,orc.tail,ob⟩
def z2e :Value→AVal
 | .bool b=>.bool b
 | .int k n=>.int k n
 | .string s=>.str s.data.toList
 | .pointer none=>.nilp
 | .slice none 0 0=>.nils
 | .nilFunc =>.nilf
 | .nilIface =>.nili
 | _=>.undef
def ofV :Value→AVal
 | .agg cs=>.agg (cs.toList.map z2e)
 | v=>z2e v
def St.eval (st:St):Operand→AVal
 | .tmp t=>st.tmp t
 | .const v=>ofV v
 | .global _=>.undef
 | .func f=>.fn f []
def AVal.cells :AVal→List AVal
 | .agg cs=>cs
 | v=>[v]
def z2l :AVal→Bool
 | .undef | .tup _=>false
 | _=>true
def u8m :AVal→Bool
 | .slv _ _ _ _ | .sl _ _ _ _ | .sla _ _ _ _ _ | .ptr _ _ | .epa _ _ _ _ | .dat _ _ | .nils =>false
 | _=>true
def y0f :AVal→Bool
 | .undef | .agg _ | .tup _=>false
 | _=>true
def v0o (P:Program) (t:TypeId):Option Bool:=
 match P.underlying t with
 | some (.struct _) | some (.array _ _)=>some true
 | some _=>some false
 | none=>none
def cut (cs:List AVal) (off n:Nat):Option (List AVal):=
 let p:=(cs.drop off).take n
 bif Nat.beq p.length n then some p else none
def z1j (P:Program) (t:TypeId) (cs:List AVal) (off:Nat):Option AVal:=
 match v0o P t,P.info? t with
 | some true,some i=>(cut cs off i.size).map .agg
 | some false,some _=>cs[off]?
 | _,_=>none
def z2i (rec:TypeId→AVal→AVal→Option Bool) (P:Program) (xs ys:List AVal):List (TypeId×Nat)→Option Bool
 | []=>some true
 | (t,off)::r=>
  match z1j P t xs off,z1j P t ys off with
  | some a,some b=>match rec t a b,z2i rec P xs ys r with
   | some e,some f=>some (e&&f)
   | _,_=>none
  | _,_=>none
def aEq (P:Program):Nat→TypeId→AVal→AVal→Option Bool
 | 0,_,_,_=>none
 | d+1,t,x,y=>
  match P.underlying t with
  | some .bool =>match x,y with
   | .bool a,.bool b=>some (a == b)
   | _,_=>none
  | some (.int _)=>match x,y with
   | .int k a,.int k' b=>if k=k' then some (a == b) else none
   | _,_=>none
  | some .string =>match x,y with
   | .str a,.str b=>some (a == b)
   | _,_=>none
  | some (.array n e)=>match x,y,P.info? e with
   | .agg xs,.agg ys,some i=>z2i (aEq P d) P xs ys ((List.range n).map fun j=>(e,j*i.size))
   | _,_,_=>none
  | some (.struct fs)=>match x,y with
   | .agg xs,.agg ys=>
    bif P.stoodInHeld t then none else bif fs.toList.any (fun f=>f.name == "_") then none else
    z2i (aEq P d) P xs ys (fs.toList.map fun f=>(f.type,f.offset))
   | _,_=>none
  | _=>none
def w5m (op:BinOp) (k:IntKind) (a b:Int):Option Int:=
 match op with
 | .and =>some (k.wrap ((BitVec.ofInt k.bits a)&&& (BitVec.ofInt k.bits b)).toNat)
 | .or =>some (k.wrap ((BitVec.ofInt k.bits a)||| (BitVec.ofInt k.bits b)).toNat)
 | .xor =>some (k.wrap ((BitVec.ofInt k.bits a) ^^^ (BitVec.ofInt k.bits b)).toNat)
 | .andNot =>some (k.wrap ((BitVec.ofInt k.bits a)&&& ~~~(BitVec.ofInt k.bits b)).toNat)
 | _=>none
def aBin (P:Program) (op:BinOp) (t:TypeId) (x y:AVal):Option (AVal×Bool):=
 match x,y with
 | .int k a,.int k' b=>
  match op with
  | .shl =>some (.int k (k.wrap (a*2 ^ (min b.toNat k.bits))),!decide (b<0))
  | .shr =>some (.int k (a.fdiv (2 ^ (min b.toNat k.bits))),!decide (b<0))
  | _=>if k=k' then
    match op with
    | .add =>some (.int k (k.wrap (a+b)),true)
    | .sub =>some (.int k (k.wrap (a - b)),true)
    | .mul =>some (.int k (k.wrap (a*b)),true)
    | .quo =>some (.int k (k.wrap (a.tdiv b)),!decide (b=0))
    | .rem =>some (.int k (a.tmod b),!decide (b=0))
    | .eql =>some (.bool (a == b),true)
    | .neq =>some (.bool (a != b),true)
    | .lss =>some (.bool (decide (a<b)),true)
    | .leq =>some (.bool (decide (a≤b)),true)
    | .gtr =>some (.bool (decide (a>b)),true)
    | .geq =>some (.bool (decide (a≥b)),true)
    | op=>(w5m op k a b).map fun n=>(.int k n,true)
   else none
 | .bool a,.bool b=>match P.underlying t with
  | some .bool =>match op with
   | .eql =>some (.bool (a == b),true)
   | .neq =>some (.bool (!(a == b)),true)
   | _=>none
  | _=>none
 | .agg a,.agg b=>
  bif P.eqGuardType P.depth t then none else
  match op with
  | .eql =>(aEq P 30 t (.agg a) (.agg b)).map fun r=>(.bool r,true)
  | .neq =>(aEq P 30 t (.agg a) (.agg b)).map fun r=>(.bool (!r),true)
  | _=>none
 | .sl _ _ _ _,.nils =>match P.underlying t with
  | some (.slice _)=>match op with
   | .eql =>some (.bool false,true)
   | .neq =>some (.bool true,true)
   | _=>none
  | _=>none
 | .nils,.nils =>match P.underlying t with
  | some (.slice _)=>match op with
   | .eql =>some (.bool true,true)
   | .neq =>some (.bool false,true)
   | _=>none
  | _=>none
 | .str a,.str b=>match op with
  | .eql =>some (.bool (a == b),true)
  | .neq =>some (.bool (!(a == b)),true)
  | _=>none
 | _,_=>none
def aUn (op:UnOp) (x:AVal):Option AVal:=
 match op,x with
 | .neg,.int k n=>some (.int k (k.wrap (0 - n)))
 | .xor,.int k n=>(w5m .xor k (if k.signed then -1 else k.max) n).map (.int k)
 | .not,.bool b=>some (.bool !b)
 | _,_=>none
def x9e (place:Nat→Option (Nat×Nat)) (cells:List AVal):List (Nat×AVal)→Option (List AVal)
 | []=>some cells
 | (i,v)::r=>
  match place i with
  | none=>none
  | some (off,size)=>
   bif z2l v&&Nat.beq v.cells.length size&&Nat.ble (off+size) cells.length then
    x9e place (cells.take off++v.cells++cells.drop (off+size)) r
   else none
def Ko (P:Program) (t:TypeId):Option (List AVal):=
 match P.info? t with
 | some i=>i.zero.map fun v=>(ofV v).cells
 | none=>none
def Kc (P:Program):List Field→Option (List (Nat×Nat))
 | []=>some []
 | f::r=>match P.info? f.type,Kc P r with
  | some i,some l=>some ((f.offset,i.size)::l)
  | _,_=>none
def v2u (P:Program) (t:TypeId) (parts:List (Nat×AVal)):Option AVal:=
 match P.underlying t,Ko P t with
 | some (.struct fs),some zero=>match Kc P fs.toList with
  | some pl=>(x9e (pl[·]?) zero parts).map .agg
  | none=>none
 | some (.array _ e),some zero=>match P.info? e with
  | some i=>(x9e (fun j=>some (j*i.size,i.size)) zero parts).map .agg
  | none=>none
 | _,_=>none
def z9n (P:Program) (t:TypeId) (x i:AVal):Option (AVal×Bool):=
 match P.underlying t,x,i with
 | some (.array len e),.ptr b off,.int _ i=>(P.info? e).map fun s=>(.ptr b (off+i.toNat*s.size),decide (0≤i∧i<len))
 | some (.array len e),.dptr cs,.int _ i=>(P.info? e).map fun s=>(.dptr (cs.drop (i.toNat*s.size)),decide (0≤i∧i<len))
 | some (.slice e),.sl b off len _,.int _ i=>(P.info? e).map fun s=>(.ptr b (off+i.toNat*s.size),decide (0≤i∧i<len))
 | some (.slice e),.dat len get,.int _ i=>(P.info? e).map fun s=>(.dptr (get i.toNat),decide (0≤i∧i<len)&&Nat.beq (get i.toNat).length s.size)
 | some (.slice e),.sla b sz off len _,.int _ i=>(P.info? e).map fun s=>(.epa b sz (off+i.toNat) 0,decide (0≤i∧i<len)&&Nat.beq s.size sz)
 | some (.slice e),.slv b sz off len,.int _ i=>(P.info? e).map fun s=>(.epa b sz (off+i.toNat) 0,decide (0≤i∧i<len)&&Nat.beq s.size sz)
 | some (.array len e),.epa b sz r fo,.int _ i=>(P.info? e).map fun s=>(.epa b sz r (fo+i.toNat*s.size),decide (0≤i∧i<len))
 | _,_,_=>none
def z9o (P:Program) (t:TypeId) (x:AVal) (f:Nat):Option AVal:=
 match P.underlying t with
 | some (.struct fs)=>match fs[f]? with
  | some f=>match P.info? f.type with
   | some i=>bif Nat.beq i.size 0 then none else match x with
    | .ptr b off=>some (.ptr b (off+f.offset))
    | .dptr cs=>some (.dptr (cs.drop f.offset))
    | .epa b sz r fo=>some (.epa b sz r (fo+f.offset))
    | _=>none
   | none=>none
  | none=>none
 | _=>none
def v2s (P:Program) (t:TypeId) (x:AVal) (f:Nat):Option AVal:=
 match P.underlying t,x with
 | some (.struct fs),.agg cs=>match fs[f]? with
  | some f=>z1j P f.type cs f.offset
  | none=>none
 | _,_=>none
def v2r (P:Program) (t:TypeId) (x i:AVal):Option (AVal×Bool):=
 match P.underlying t,x,i with
 | some (.array len e),.agg cs,.int _ i=>
  match P.info? e with
  | some s=>(z1j P e cs (i.toNat*s.size)).map fun v=>(v,decide (0≤i∧i<len))
  | none=>none
 | some .string,.str s,.int _ i=>(s[i.toNat]?).map fun b=>(.int .u8 b.toNat,decide (0≤i))
 | _,_,_=>none
def Ju (x y:Int):Int:=if y<x then y else x
def Wf (x y:Int):Int:=if y>x then y else x
def y3v (k:IntKind) (x:Int):List AVal→Option Int
 | []=>some x
 | .int _ y::r=>y3v k (Ju x y) r
 | _=>none
def y3x (k:IntKind) (x:Int):List AVal→Option Int
 | []=>some x
 | .int _ y::r=>y3x k (Wf x y) r
 | _=>none
def y2r (P:Program) (b:Builtin) (argTypes:List TypeId) (args:List AVal):Option AVal:=
 match b,argTypes,args with
 | .len,t::_,x::_=>match P.underlying t,x with
  | some .string,.str s=>some (.int .i64 s.length)
  | some (.array n _),_=>some (.int .i64 n)
  | some (.slice _),.sl _ _ n _=>some (.int .i64 n)
  | some (.slice _),.nils =>some (.int .i64 0)
  | some (.slice _),.dat n _=>some (.int .i64 n)
  | some (.slice _),.sla _ _ _ n _=>some (.int .i64 n)
  | some (.slice _),.slv _ _ _ n=>some (.int .i64 n)
  | _,_=>none
 | .min,_,.int k x::r=>(y3v k x r).map (.int k)
 | .max,_,.int k x::r=>(y3x k x r).map (.int k)
 | .cap,t::_,x::_=>match P.underlying t,x with
  | some (.slice _),.sl _ _ _ (.ex c)=>some (.int .i64 c)
  | some (.slice _),.nils =>some (.int .i64 0)
  | _,_=>none
 | _,_,_=>none
def z2m (st:Operand→AVal) (o:Option Operand) (d:Nat):Option (Nat×Bool):=
 match o with
 | none=>some (d,true)
 | some x=>match st x with
  | .int _ i=>some (i.toNat,decide (0≤i))
  | _=>none
def pd (p:Prop):Bool:= @decide p (Classical.propDecidable p)
def v2p (P:Program) (ev:Operand→AVal) (t:TypeId) (x:Operand) (lo hi mx:Option Operand):Option (AVal×Bool):=
 match P.underlying t,ev x with
 | some (.slice e),.nils =>
  match P.info? e,mx,z2m ev lo 0,z2m ev hi 0 with
  | some _,none,some (l,a),some (h,b)=>some (.nils,a&&b&&Nat.beq l 0&&Nat.beq h 0)
  | _,_,_,_=>none
 | some (.slice e),.sl b off len (.ex c)=>
  match P.info? e,z2m ev mx c,z2m ev hi len,z2m ev lo 0 with
  | some s,some (m,x1),some (h,x2),some (l,x3)=>
   if mx.isSome&&hi.isNone then none else
   some (.sl b (bif Nat.beq m l then off else off+l*s.size) (h - l) (.ex (m - l)),x1&&x2&&x3&&Nat.ble m c&&Nat.ble h m&&Nat.ble l h)
  | _,_,_,_=>none
 | some (.slice e),.sl b off len (.un z)=>
  match P.info? e,mx,z2m ev hi len,z2m ev lo 0 with
  | some s,none,some (h,x2),some (l,x3)=>
   bif Nat.beq z s.size then
    bif Nat.beq h l&&Nat.ble 1 l then some (.dat 0 (fun _=>[]),x2&&x3&&Nat.ble h len) else
    some (.sl b (off+l*s.size) (h - l) (.un z),x2&&x3&&Nat.ble h len&&Nat.ble l h&&(Nat.ble (l+1) len||Nat.beq l 0))
   else none
  | some s,some _,some (h,x2),some (l,x3)=>
   match z2m ev mx 0 with
   | some (m,x1)=>
    bif Nat.beq z s.size&&hi.isSome then
     some (.sl b (bif Nat.beq m l then off else off+l*s.size) (h - l) (.ex (m - l)),x1&&x2&&x3&&Nat.ble m len&&Nat.ble h m&&Nat.ble l h)
    else none
   | none=>none
  | _,_,_,_=>none
 | some (.slice e),.sla b sz off len (.un z)=>
  match P.info? e,mx,z2m ev hi len,z2m ev lo 0 with
  | some s,none,some (h,x2),some (l,x3)=>
   bif Nat.beq z s.size&&Nat.beq sz z then
    bif lo.isSome then some (.slv b sz (off+l) (h - l),x2&&(x3&&(decide (h≤len)&&decide (l≤h)))) else
    some (.sla b sz (off+l) (h - l) (.un z),x2&&(x3&&(decide (h≤len)&&(decide (l≤h)&&(decide (l<len)||Nat.beq l 0)))))
   else none
  | _,_,_,_=>none
 | some (.slice e),.slv b sz off len=>
  match P.info? e,mx,z2m ev hi len,z2m ev lo 0 with
  | some s,none,some (h,x2),some (l,x3)=>
   bif Nat.beq sz s.size then some (.slv b sz (off+l) (h - l),x2&&(x3&&(decide (h≤len)&&decide (l≤h)))) else none
  | _,_,_,_=>none
 | some (.slice e),.dat len get=>
  match P.info? e,mx,z2m ev hi len,z2m ev lo 0 with
  | some s,none,some (h,x2),some (l,x3)=>some (.dat (h - l) (fun k=>get (l+k)),x2&&(x3&&(decide (h≤len)&&(decide (l≤h)&&pd (∀i,i<len→(get i).length =s.size)))))
  | _,_,_,_=>none
 | some (.array n e),.ptr b off=>
  match P.info? e,z2m ev mx n,z2m ev hi n,z2m ev lo 0 with
  | some s,some (m,x1),some (h,x2),some (l,x3)=>
   if mx.isSome&&hi.isNone then none else
   some (.sl b (bif Nat.beq m l then off else off+l*s.size) (h - l) (.ex (m - l)),x1&&x2&&x3&&Nat.ble m n&&Nat.ble h m&&Nat.ble l h)
  | _,_,_,_=>none
 | _,_=>none
def Kf (P:Program) (op:Op) (ev:Operand→AVal):Option (AVal×Bool):=
 match op with
 | .move x | .assign x=>some (ev x,true)
 | .pick c a b=>match ev c with
  | .bool c=>some (bif c then ev a else ev b,true)
  | _=>none
 | .build t parts=>(v2u P t (parts.toList.map fun p=>(p.1,ev p.2))).map (·,true)
 | .nilCheck x=>match ev x with
  | .ptr b o=>some (.ptr b o,true)
  | .dptr cs=>some (.dptr cs,true)
  | .fn f c=>some (.fn f c,true)
  | .fnb f c=>some (.fnb f c,true)
  | _=>none
 | .binOp op t x y _=>aBin P op t (ev x) (ev y)
 | .unOp op _ x=>(aUn op (ev x)).map (·,true)
 | .convert src dst x=>match P.underlying src,P.underlying dst,ev x with
  | some _,some (.int k),.int _ n=>some (.int k (k.wrap n),true)
  | _,_,_=>none
 | .makeInterface t x=>match P.underlying t with
  | some (.interface _) | none=>none
  | some _=>some (.ifc t (ev x),true)
 | .makeFunc (.func f) first captured=>bif first.isEmpty then some (.fn f (captured.toList.map ev),true) else bif captured.isEmpty then some (.fnb f (first.toList.map ev),true) else none
 | .fieldAddr t x f=>(z9o P t (ev x) f).map (·,true)
 | .field t x f=>(v2s P t (ev x) f).map (·,true)
 | .indexAddr t x i=>z9n P t (ev x) (ev i)
 | .index t x i=>v2r P t (ev x) (ev i)
 | .extract x i=>match ev x with
  | .tup vs=>(vs[i]?).map (·,true)
  | _=>none
 | .slice t x lo hi mx=>v2p P ev t x lo hi mx
 | .call {callee:=.builtin b,args,argTypes}=>(y2r P b argTypes.toList (args.toList.map ev)).map (·,true)
 | _=>none
def x9d (P:Program) (m:Mem) (t:TypeId) (x:AVal):Option AVal:=
 match x with
 | .ptr b off=>match Xv m b with
  | some blk=>z1j P t blk.cells off
  | none=>none
 | .dptr cs=>z1j P t cs 0
 | _=>none
def y5k (P:Program) (m:Mem) (t:TypeId) (x:AVal):Option (AVal×Bool):=
 match x with
 | .epa b sz r fo=>match Xv m b with
  | some blk=>match blk.arr with
   | some A=>(z1j P t (A.get r) fo).map (·,Nat.beq A.sz sz&&decide (r<A.n))
   | none=>none
  | none=>none
 | x=>(x9d P m t x).map (·,true)
def z3s :Rws→Nat→St→List AVal×St
 | .flat g,r,st=>(g r,st)
 | .one r0 cs b,r,st=>match st.test (Nat.beq r r0) with
  | (e,st)=>bif e then (cs,st) else z3s b r st
 | .alt c a b,r,st=>match st.test (c r) with
  | (e,st)=>bif e then z3s a r st else z3s b r st
def v2q (P:Program) (st:St) (t:TypeId) (x:AVal):Option (AVal×Bool×St):=
 match x with
 | .epa b sz r fo=>match Xv st.mem b with
  | some blk=>match blk.arr with
   | some A=>match z3s A.rw r st with
    | (cs,st1)=>(z1j P t cs fo).map (·,Nat.beq A.sz sz&&decide (r<A.n),st1)
   | none=>none
  | none=>none
 | x=>(x9d P st.mem t x).map (·,true,st)
def y5g (P:Program) (floor:Nat) (st:St) (t:TypeId) (x v:AVal):Option St:=
 match x,P.info? t with
 | .ptr b off,some i=>
  let cs:=v.cells
  bif Nat.ble floor b&&Nat.beq cs.length i.size&&z2l v&&cs.all y0f then
   match Xv st.mem b with
   | some blk=>
    bif Nat.ble (off+i.size) blk.cells.length then
     some (st.withMem (We st.mem b (some ⟨blk.cells.take off++cs++blk.cells.drop (off+i.size),blk.ty,none⟩)))
    else none
   | none=>none
  else none
 | _,_=>none
def Xj (get:Nat→List AVal) (r fo:Nat) (cs:List AVal):Nat→List AVal:=fun k=>bif Nat.beq k r then (get r).take fo++cs++(get r).drop (fo+cs.length) else get k
def setRow (A:Arr) (r fo:Nat) (cs:List AVal) (st:St):Option (Rws×St):=
 match A.rw with
 | .flat g=>bif cs.all u8m then some (.flat (Xj g r fo cs),st) else bif Nat.beq fo 0&&Nat.beq cs.length A.sz then some (.one r cs (.flat g),st) else none
 | .one r0 c0 b=>match st.test (Nat.beq r r0) with
  | (e,st1)=>bif e&&Nat.beq fo 0&&Nat.beq cs.length A.sz then some (.one r0 cs b,st1) else none
 | .alt c a b=>bif Nat.beq fo 0&&Nat.beq cs.length A.sz then some (.one r cs (.alt c a b),st) else none
def z6j (P:Program) (cx:Ctx) (st:St) (t:TypeId) (x v:AVal):Option St:=
 match x,P.info? t with
 | .epa b sz r fo,some i=>
  bif Nat.ble cx.floor b&&Nat.beq v.cells.length i.size&&z2l v&&v.cells.all y0f&&Nat.ble (fo+i.size) sz then
   match Xv st.mem b with
   | some blk=>match blk.arr with
    | some A=>match setRow A r fo v.cells st with
     | some (rw,st1)=>(st1.withMem (We st1.mem b (some ⟨rows A.n rw.get,blk.ty,some ⟨A.sz,A.n,rw⟩⟩))).owe cx (Nat.beq A.sz sz&&decide (r<A.n))
     | none=>none
    | none=>none
   | none=>none
  else none
 | _,_=>none
def y2q :St→List AVal→TypeId→St
 | ⟨env,mem,next,orc,ob⟩,cells,ty=>⟨env,We mem next (some ⟨cells,ty,none⟩),next+1,orc,ob⟩
def rep (n:Nat) (l:List AVal):List AVal:=(List.replicate n l).flatten
def Jp (P:Program) (u:Bool) (st:St) (t:TypeId) (len:Nat) (parts:List (Nat×AVal)):Option (AVal×St):=
 match P.underlying t with
 | some (.slice e)=>match P.info? e,Ko P e with
  | some i,some zero=>
   bif Nat.ble (len*i.size) 16777216&&Nat.beq zero.length i.size then
    match x9e (fun j=>some (j*i.size,i.size)) (rep len zero) parts with
    | some cells=>some (.sl st.next 0 len (bif u&&Nat.beq cells.length (len*i.size) then .un i.size else .ex len),y2q st cells e)
    | none=>none
   else none
  | _,_=>none
 | _=>none
def Uw (P:Program) (st:St) (t:TypeId) (l c:AVal):Option (AVal×St):=
 match P.underlying t,l,c with
 | some (.slice e),.int _ l,.int _ c=>match P.info? e,Ko P e with
  | some i,some zero=>
   bif Nat.beq zero.length i.size&&(decide (0≤l)&&decide (l≤c)&&decide (c*i.bytes≤1099511627776)&&decide (c≤1099511627776)) then
    some (.sl st.next 0 l.toNat (.ex c.toNat),y2q st (rep c.toNat zero) e)
   else none
  | _,_=>none
 | _,_,_=>none
def Jq (P:Program) (cx:Ctx) (st:St) (t:TypeId) (l c:AVal):Option (AVal×St):=
 match P.underlying t,l,c with
 | some (.slice e),.int _ l,.int _ c=>match P.info? e,Ko P e with
  | some i,some zero=>
   bif Nat.beq zero.length i.size&&Nat.ble 1 i.size then
    (St.owe cx (match y2q st (rows c.toNat fun _=>zero) e with
      | ⟨env,_,next,orc,ob⟩=>⟨env,We st.mem st.next (some ⟨rows c.toNat fun _=>zero,e,some ⟨i.size,c.toNat,.flat fun _=>zero⟩⟩),next,orc,ob⟩)
     (decide (0≤l)&&decide (l≤c)&&decide (c*i.bytes≤1099511627776)&&decide (c≤1099511627776))).map (.sla st.next i.size 0 l.toNat (.un i.size), ·)
   else none
  | _,_=>none
 | _,_,_=>none
def Wv (m:Mem) (sz:Nat):AVal→Option (Nat×List AVal)
 | .nils =>some (0,[])
 | .sl b off len _=>match Xv m b with
  | some blk=>(cut blk.cells off (len*sz)).map (len, ·)
  | none=>none
 | _=>none
def Un :Nat:=1099511627776
def Qg (m:Mem) (sz:Nat) (zero:List AVal) (ut:TypeDesc) (x:AVal):Option (Nat×List AVal):=
 match ut with
 | .int _=>match x with
  | .int _ n=>bif decide (0≤n) then some (n.toNat,rep n.toNat zero) else none
  | _=>none
 | _=>Wv m sz x
def z0c (P :Program) (floor:Nat) (st:St) (argTypes:List TypeId) (args:List AVal):Option (AVal×St):=
 match argTypes,args with
 | t :: u ::_,s::x::_=>match P.underlying t,P.underlying u with
  | some (.slice e),some ut=>match P.info? e,Ko P e with
   | some i,some zero=>match Qg st.mem i.size zero ut x with
    | some (n,new)=>
     bif Nat.beq zero.length i.size&&Nat.beq new.length (n*i.size)&&Nat.ble 1 i.size&&new.all y0f then
     match s with
     | .nils =>
      bif Nat.beq n 0 then some (.nils,st) else
      bif Nat.ble ((n+1)*(i.bytes+1)) Un then
       some (.sl st.next 0 n (.un i.size),y2q st new e) else none
     | .sl b off len cap=>
      match Xv st.mem b with
      | some blk=>
       match cut blk.cells off (len*i.size) with
       | some old=>
        bif Nat.ble ((len+n+1)*(i.bytes+1)) Un then
        match cap with
        | .ex c=>
         bif Nat.ble (len+n) c then
          bif Nat.ble floor b&&Nat.ble (off+(len+n)*i.size) blk.cells.length then
           some (.sl b off (len+n) cap,st.withMem (We st.mem b (some ⟨blk.cells.take (off+len*i.size)++new++blk.cells.drop (off+(len+n)*i.size),blk.ty,none⟩)))
          else none
         else some (.sl st.next 0 (len+n) (.un i.size),y2q st (old++new) e)
        | .un z=>
         bif Nat.beq z i.size&&Nat.ble floor b then
          bif Nat.ble (off+(len+n)*i.size) blk.cells.length then
           some (.sl b off (len+n) cap,st.withMem (We st.mem b (some ⟨blk.cells.take (off+len*i.size)++new++blk.cells.drop (off+(len+n)*i.size),blk.ty,none⟩)))
          else bif Nat.beq (off+len*i.size) blk.cells.length then
           some (.sl st.next 0 (len+n) (.un i.size),y2q (st.withMem (We st.mem b none)) (old++new) e)
          else none
         else none
        else none
       | none=>none
      | none=>none
     | _=>none
     else none
    | none=>none
   | _,_=>none
  | _,_=>none
 | _,_=>none
def Zt (get:Nat→List AVal) (off len sz:Nat) (new:List AVal):Nat→List AVal:=fun k=>bif Nat.ble len k then (new.drop ((k - len)*sz)).take sz else get (off+k)
def z2r (P:Program) (cx:Ctx) (st:St) (argTypes:List TypeId) (args:List AVal):Option (AVal×St):=
 match argTypes,args with
 | t :: u ::_,.sla b sz off len (.un z)::x::_=>match P.underlying t,P.underlying u with
  | some (.slice e),some ut=>match ut with
   | .int _=>none
   | _ => match P.info? e with
    | some i=>match Wv st.mem i.size x,Ko P e,Xv st.mem b with
     | some (n,new),some zero,some blk=>match blk.arr with
      | some A=>
       bif Nat.beq zero.length i.size&&Nat.beq new.length (n*i.size)&&Nat.ble 1 i.size&&new.all y0f&&Nat.beq sz i.size&&Nat.beq z sz&&Nat.ble cx.floor b&&Nat.ble 1 n then
        (St.owe cx (match y2q (st.withMem (We st.mem b none)) (rows (len+n) (Zt A.get off len sz new)) e with
          | ⟨env,_,next,orc,ob⟩=>⟨env,We (We st.mem b none) st.next (some ⟨rows (len+n) (Zt A.get off len sz new),e,some ⟨sz,len+n,Zt A.get off len sz new⟩⟩),next,orc,ob⟩)
         (Nat.beq A.sz sz&&(decide (off+len=A.n)&&decide ((len+n+1)*(i.bytes+1)≤Un)))).map (.sla st.next sz 0 (len+n) (.un sz), ·)
       else none
      | none=>none
     | _,_,_=>none
    | none=>none
  | _,_=>none
 | _,_=>none
def capOk (sz len:Nat):v9m→Bool
 | .un z=>Nat.beq z sz
 | .ex c=>Nat.ble c len
def z4i (m:Mem) (sz:Nat):AVal→Option (Option Nat×Nat×(Nat→List AVal)×Bool)
 | .nils =>some (none,0,fun _=>[],true)
 | .sl b off len cap=>match Xv m b with
  | some blk=>match cut blk.cells off (len*sz) with
   | some old=>bif capOk sz len cap&&Nat.ble off blk.cells.length then some (some b,len,fun k=>(old.drop (k*sz)).take sz,true) else none
   | none=>none
  | none=>none
 | .sla b z off len cap=>match Xv m b with
  | some blk=>match blk.arr with
   | some A=>bif capOk sz len cap then some (some b,len,fun k=>A.get (off+k),Nat.beq z sz&&(Nat.beq A.sz sz&&decide (off+len≤A.n))) else none
   | none=>none
  | none=>none
 | _=>none
def x5h (sz:Nat) (zero:List AVal) (ut:TypeDesc):AVal→Option (Nat×(Nat→List AVal)×Bool)
 | .int _ n=>match ut with
  | .int _=>some (n.toNat,fun _=>zero,decide (0≤n))
  | _=>none
 | .dat n g=>match ut with
  | .int _=>none
  | _=>some (n,g,pd (∀i,i<n→(g i).length =sz∧(g i).all y0f=true))
 | .nils =>match ut with
  | .int _=>none
  | _=>some (0,fun _=>[],true)
 | _=>none
def Km (get:Nat→List AVal) (len:Nat) (g:Nat→List AVal):Nat→List AVal:=fun k=>bif Nat.ble len k then g (k - len) else get k
def v1c (floor:Nat):Option Nat→Bool
 | some b=>Nat.ble floor b
 | none=>true
def x7g (m:Mem):Option Nat→Mem
 | some b=>We m b none
 | none=>m
def z2q (P:Program) (cx:Ctx) (st:St) (argTypes:List TypeId) (args:List AVal):Option (AVal×St):=
 match argTypes,args with
 | t :: u::_,s::x::_=>match P.underlying t,P.underlying u with
  | some (.slice e),some ut=>match P.info? e,Ko P e with
   | some i,some zero=>match z4i st.mem i.size s,x5h i.size zero ut x with
    | some (b,len,get,o1),some (n,g,o2)=>
     bif Nat.beq zero.length i.size&&zero.all y0f&&Nat.ble 1 i.size&&v1c cx.floor b then
      (St.owe cx (match y2q (st.withMem (x7g st.mem b)) (rows (len+n) (Km get len g)) e with
        | ⟨env,_,next,orc,ob⟩=>⟨env,We (x7g st.mem b) st.next (some ⟨rows (len+n) (Km get len g),e,some ⟨i.size,len+n,Km get len g⟩⟩),next,orc,ob⟩)
       (o1&&(o2&&decide ((len+n+1)*(i.bytes+1)≤Un)))).map (.sla st.next i.size 0 (len+n) (.un i.size), ·)
     else none
    | _,_=>none
   | _,_=>none
  | _,_=>none
 | _,_=>none
def isDat :AVal→Bool
 | .dat _ _=>true
 | _=>false
def u8n :AVal→AVal→Bool
 | .sla _ _ _ _ _,.nils =>true
 | _,_=>false
def manyOk (P:Program) (cx:Ctx) (argTypes:List TypeId) (args:List AVal):Bool:=
 match argTypes,args with
 | _::u::_,s::x::_=>isDat x||(u8n s x||cx.sym&&(match P.underlying u with
  | some (.int _)=>true
  | _=>false))
 | _,_=>false
def z5h (P:Program) (cx:Ctx) (st:St) (argTypes:List TypeId) (args:List AVal):Option (AVal×St):=
 bif manyOk P cx argTypes args then z2q P cx st argTypes args else
 match args with
 | .sla b sz off len cap::r=>z2r P cx st argTypes (.sla b sz off len cap::r)
 | args=>z0c P cx.floor st argTypes args
def x9h (P:Program) (floor:Nat) (st:St) (argTypes:List TypeId) (args:List AVal):Option (AVal×St):=
 match argTypes,args with
 | t :: _,d::x::_=>match P.underlying t with
  | some (.slice e)=>match P.info? e with
   | some i=>match Wv st.mem i.size x with
    | some (m,src)=>
     bif Nat.beq src.length (m*i.size)&&src.all y0f then
     match d with
     | .nils =>some (.int .i64 0,st)
     | .dat n _=>bif Nat.beq n 0 then some (.int .i64 0,st) else none
     | .sl b off len _=>
      let n:=Nat.min m len
      match Xv st.mem b with
      | some blk=>
       bif Nat.ble floor b&&Nat.ble (off+n*i.size) blk.cells.length then
        some (.int .i64 n,st.withMem (We st.mem b (some ⟨blk.cells.take off++src.take (n*i.size)++blk.cells.drop (off+n*i.size),blk.ty,none⟩)))
       else none
      | none=>none
     | _=>none
     else none
    | none=>none
   | none=>none
  | _=>none
 | _,_=>none
def x8q (m:Mem) (sz:Nat):AVal→Option (Nat×(Nat→List AVal)×Bool)
 | .nils =>some (0,fun _=>[],true)
 | .dat n g=>some (n,g,pd (∀i,i<n→(g i).length =sz∧(g i).all y0f=true))
 | .sla b z off len _=>match Xv m b with
  | some blk=>match blk.arr with
   | some A=>some (len,fun k=>A.get (off+k),Nat.beq z sz&&(Nat.beq A.sz sz&&(decide (off+len≤A.n)&&pd (∀i,i<len→(A.get (off+i)).length =sz∧(A.get (off+i)).all y0f=true))))
   | none=>none
  | none=>none
 | .slv b z off len=>match Xv m b with
  | some blk=>match blk.arr with
   | some A=>some (len,fun k=>A.get (off+k),Nat.beq z sz&&(Nat.beq A.sz sz&&(decide (off+len≤A.n)&&pd (∀i,i<len→(A.get (off+i)).length =sz∧(A.get (off+i)).all y0f=true))))
   | none=>none
  | none=>none
 | _=>none
def Ue (get:Nat→List AVal) (off n:Nat) (g:Nat→List AVal):Nat→List AVal:=fun k=>bif Nat.ble off k&&Nat.ble (k+1) (off+n) then g (k - off) else get k
def y0o (P:Program) (cx:Ctx) (st:St) (argTypes:List TypeId) (b sz off len:Nat) (x:AVal):Option (AVal×St):=
 match argTypes with
 | t ::_=>match P.underlying t with
  | some (.slice e)=>match P.info? e,Xv st.mem b with
   | some i,some blk=>match blk.arr,x8q st.mem i.size x with
    | some A,some (m,g,o)=>
     bif Nat.ble cx.floor b&&Nat.ble 1 i.size then
      (St.owe cx (st.withMem (We st.mem b (some ⟨rows A.n (Ue A.get off (Nat.min m len) g),blk.ty,some ⟨A.sz,A.n,Ue A.get off (Nat.min m len) g⟩⟩)))
       (Nat.beq sz i.size&&(Nat.beq A.sz sz&&(decide (off+len≤A.n)&&o)))).map (.int .i64 (Nat.min m len:Nat), ·)
     else none
    | _,_=>none
   | _,_=>none
  | _=>none
 | _=>none
def y9e (P:Program) (cx:Ctx) (st:St) (argTypes:List TypeId) (args:List AVal):Option (AVal×St):=
 match args with
 | .sla b sz off len _::x::_=>y0o P cx st argTypes b sz off len x
 | .slv b sz off len::x::_=>y0o P cx st argTypes b sz off len x
 | args=>x9h P cx.floor st argTypes args
def y5n (P:Program) (floor:Nat) (st:St) (argTypes:List TypeId) (args:List AVal):Option (AVal×St):=
 match argTypes,args with
 | t ::_,d::_=>match P.underlying t with
  | some (.slice e)=>match P.info? e,Ko P e with
   | some i,some zero=>match d with
    | .nils =>some (.tup [],st)
    | .sl b off len _=>
     bif Nat.beq len 0 then some (.tup [],st) else
     bif Nat.beq zero.length i.size&&zero.all y0f&&Nat.ble floor b then
     match Xv st.mem b with
     | some blk=>
      bif Nat.ble (off+len*i.size) blk.cells.length then
       some (.tup [],st.withMem (We st.mem b (some ⟨blk.cells.take off++rep len zero++blk.cells.drop (off+len*i.size),blk.ty,none⟩)))
      else none
     | none=>none
     else none
    | _=>none
   | _,_=>none
  | _=>none
 | _,_=>none
def z9i :List AVal→Nat→T AVal→T AVal
 | [],_,t=>t
 | a::r,i,t=>z9i r (i+1) (T.set .undef t i a)
def x1k (P:Program) (st:St):ResultVar→Option AVal
 | .tmp t=>some (st.tmp t)
 | .cell a t=>x9d P st.mem t (st.tmp a)
def Kx (P:Program) (st:St):List ResultVar→Option (List AVal)
 | []=>some []
 | r::l=>match x1k P st r,Kx P st l with
  | some v,some vs=>some (v::vs)
  | _,_=>none
def Qr :List AVal→AVal
 | [v]=>v
 | vs=>.tup vs
def pf :Nat→AVal→Bool
 | 0,_=>false
 | d+1,v=>match v with
  | .bool _ | .int _ _ | .str _ | .nilp | .nils | .nilf | .nili | .dat _ _ | .dptr _=>true
  | .agg cs | .tup cs=>cs.all (pf d)
  | _=>false
inductive Spec where
 | val (F:List AVal→Option (AVal×Bool))
 | eff (F:List AVal→Mem→Option (AVal×Nat×ABlk×Bool))
abbrev Specs :=FuncId→Option Spec
abbrev Runner :=Ctx→List Item→St→Option St
def scal :AVal→Bool
 | .bool _ | .int _ _ | .str _=>true
 | .tup vs=>vs.all fun v=>match v with
  | .bool _ | .int _ _ | .str _=>true
  | _=>false
 | _=>false
def u5i (m:Mem):AVal→AVal×Bool
 | .sla b sz off len cap=>match Xv m b with
  | some blk=>match blk.arr with
   | some A=>(.dat len fun k=>A.get (off+k),Nat.beq A.sz sz&&(decide (off+len≤A.n)&&pd (∀i,(A.get i).all (pf 6)=true)))
   | none=>(.undef,true)
  | none=>(.undef,true)
 | v=>(v,true)
def w6a (m:Mem):List AVal→List AVal×Bool
 | []=>([],true)
 | v::l=>match u5i m v,w6a m l with
  | (a,o),(az,q)=>(a::az,o&&q)
def w5l (P:Program) (S:Specs) (R:Runner) (lift:Bool) (f:FuncId) (args:List AVal) (cx:Ctx) (st:St):Option (AVal×St):=
 match S f with
 | some (.val F)=>bif args.all (pf 3) then (match F args with
   | some (v,b)=>bif pf 3 v then (st.owe cx b).map (v, ·) else none
   | none=>none) else
  match w6a st.mem args with
  | (args',o)=>match F args' with
   | some (v,b)=>bif args'.all (pf 3)&&scal v then (st.owe cx (o&&b)).map (v, ·) else none
   | none=>none
 | some (.eff F)=>match F args st.mem with
  | some (v,b,blk,o)=>match Xv st.mem b with
   | some _=>bif !lift&&Nat.ble cx.floor b then ((st.withMem (We st.mem b (some blk))).owe cx o).map (v, ·) else none
   | none=>none
  | none=>none
 | none=>match P.funcs[f]? with
  | some fn=>match fn.body with
   | some body=>
    match R ⟨Nat.max fn.ntmps args.length,bif lift then st.next else cx.floor,cx.sym⟩ [.code body] (st.withEnv (z9i args 0 .leaf)) with
    | some st2=>match Kx P st2 fn.results.toList with
     | some vs=>some (Qr vs,st2.withEnv st.env)
     | none=>none
    | none=>none
   | none=>none
  | none=>none
def Wb (P:Program) (S:Specs) (R:Runner) (lift:Bool) (op:Op) (cx:Ctx) (st:St):Option (AVal×St):=
 match op with
 | .load t x=>match v2q P st t (st.eval x) with
  | some (v,b,st1)=>(st1.owe cx b).map (v, ·)
  | none=>none
 | .alloc t=>(Ko P t).map fun z=>(.ptr st.next 0,y2q st z t)
 | .box t x=>bif z2l (st.eval x) then some (.ptr st.next 0,y2q st (st.eval x).cells t) else none
 | .buildSlice t len parts=>Jp P cx.sym st t len (parts.toList.map fun p=>(p.1,st.eval p.2))
 | .store t a x=>match st.eval a with
  | .epa b sz r fo=>(z6j P cx st t (.epa b sz r fo) (st.eval x)).map (.tup [], ·)
  | y=>(y5g P cx.floor st t y (st.eval x)).map (.tup [], ·)
 | .makeSlice t l c=>bif cx.sym then (bif st.nextO then Uw P st.dropO t (st.eval l) (st.eval c) else Jq P cx st.dropO t (st.eval l) (st.eval c)) else Uw P st t (st.eval l) (st.eval c)
 | .call {callee:=.builtin .append,args,argTypes}=>z5h P cx st argTypes.toList (args.toList.map st.eval)
 | .call {callee:=.builtin .copy,args,argTypes}=>y9e P cx st argTypes.toList (args.toList.map st.eval)
 | .call {callee:=.builtin .clear,args,argTypes}=>y5n P cx.floor st argTypes.toList (args.toList.map st.eval)
 | .call {callee:=.value f,args,argTypes:=_}=>match st.eval f with
  | .fn g caps=>w5l P S R lift g (args.toList.map st.eval++caps) cx st
  | .fnb g first=>w5l P S R lift g (first++args.toList.map st.eval) cx st
  | _=>none
 | _=>none
def y0c (P:Program) (S:Specs) (R:Runner) (lift:Bool) (o:Oper) (cx:Ctx) (st:St):Option St:=
 match Kf P o.op st.eval with
 | some (v,b)=>match st.owe cx b with
  | some st=>st.put cx o.dst v
  | none=>none
 | none=>match Wb P S R lift o.op cx st with
  | some (v,st)=>st.put cx o.dst v
  | none=>none
def y0l (ops:Array Oper) (o:Oper) (cx:Ctx) (st:St):Option (Bool×St):=
 match o.guard with
 | none=>some (true,st)
 | some (j,want)=>match (ops[j]?).bind (·.dst) with
  | none=>none
  | some d=>match st.tmp d with
   | .bool b=>match st.test b with
    | (e,st1)=>match st1.put cx (some d) (.bool e) with
     | some st2=>some (e == want,st2)
     | none=>none
   | .tup []=>some (false,st)
   | _=>none
def w9h :List Bool→Nat×List Bool
 | []=>(0,[])
 | false::r=>(0,r)
 | true::r=>((w9h r).1+1,(w9h r).2)
def St.conc (cx:Ctx) (t:Nat) (kd:IntKind) (n:Int):St→Option St
 | ⟨env,mem,next,[],ob⟩=>some ⟨env,mem,next,[],ob⟩
 | ⟨env,mem,next,o::r,ob⟩=>bif Nat.ble (t+1) cx.n then some ⟨T.set .undef env t (.int kd (Int.ofNat (w9h (o::r)).1)),mem,next,(w9h (o::r)).2,decide (n=Int.ofNat (w9h (o::r)).1)&&ob⟩ else none
def v9i (o:Oper) (cx:Ctx) (st:St):Option St:=
 match o.op with
 | .indexAddr _ x (.tmp t)=>match st.eval x with
  | .ptr _ _ | .epa _ _ _ _=>match st.tmp t with
   | .int kd n=>st.conc cx t kd n
   | _=>some st
  | _=>some st
 | .index _ x (.tmp t)=>match st.eval x with
  | .agg _=>match st.tmp t with
   | .int kd n=>st.conc cx t kd n
   | _=>some st
  | _=>some st
 | _=>some st
def z1a (ops:Array Oper) (o:Oper) (cx:Ctx) (st:St):Option (Bool×St):=
 match y0l ops o cx st with
 | some (true,st1)=>match v9i o cx st1 with
  | some st2=>some (true,st2)
  | none=>none
 | x=>x
def y7r (P:Program) (S:Specs) (R:Runner) (ops:Array Oper) (cx:Ctx) (l:List (Bool×Oper)):St→Option St:=
 List.rec (motive:=fun _=>St→Option St) (fun st=>some st)
  (fun x _ rec st=>match z1a ops x.2 cx st with
   | none=>none
   | some (true,st)=>match y0c P S R x.1 x.2 cx st with
    | some st=>rec st
    | none=>none
   | some (false,st)=>match st.put cx x.2.dst (.tup []) with
    | some st=>rec st
    | none=>none) l
inductive Kind where
 | pure | read | alloc | call | chain
 deriving DecidableEq
def Yg :Op→Kind
 | .load .. =>.read
 | .alloc _=>.alloc
 | .box .. | .buildSlice .. | .store .. | .makeSlice .. =>.chain
 | .call {callee:=.builtin .append,.. } | .call {callee:=.builtin .copy,.. } | .call {callee:=.builtin .clear,.. }=>.chain
 | .call {callee:=.value _,.. }=>.call
 | _=>.pure
def v2i :List Oper→List Nat→List Nat
 | [],acc=>acc
 | o::r,acc=>v2i r (acc++[o.after.toList.foldl (fun s e=>bif Region.binds .any e then s||| (2 ^ e.on)||| acc.getD e.on 0 else s) 0])
def isAlloc (ops:Array Oper) (i:Nat):Bool:=(ops[i]?).any fun o=>Yg o.op == .alloc
def Yb (ops:Array Oper):List Nat:=
 (List.range ops.size).filter (isAlloc ops)++(List.range ops.size).filter (fun i=> !isAlloc ops i)
def z8z (ops:Array Oper) (i:Nat):Bool:=
 (List.range ops.size).any fun j=>(ops[j]?).any (fun o=>Yg o.op == .read)&&
  ((Nat.ble (i+1) j&& !((v2i ops.toList []).getD j 0).testBit i)||(Nat.ble (j+1) i&& !((v2i ops.toList []).getD i 0).testBit j))
def z0v (ops:Array Oper):List (Nat×Bool×Oper):=(Yb ops).map fun i=>(i,z8z ops i,ops.getD i default)
def x7f :Kind→Kind→Bool
 | .pure,_=>true
 | _,.pure =>true
 | .alloc,_=>true
 | _,.alloc =>true
 | .read,.read =>true
 | .read,.call =>true
 | .call,.read =>true
 | .read,.chain =>true
 | .chain,.read =>true
 | _,_=>false
def x2q (ops:Array Oper) (i j:Nat) (p o:Oper):Bool:=
 (((v2i ops.toList []).getD j 0).testBit i||(p.apart ops o&&x7f (Yg p.op) (Yg o.op)))&&
 (match p.dst with | some d=> !(o.dst == some d) | none=>true)&&
 (!(Yg o.op == .alloc)||p.apart ops o)
def x3v (ops:Array Oper):Bool:=
 (List.range ops.size).all fun j=>match ops[j]? with
  | none=>false
  | some o=>o.after.toList.all (fun e=> !Region.binds .any e||Nat.ble (e.on+1) j)&&(!(Yg o.op == .alloc)||o.guard.isNone)&&
   (List.range j).all fun i=>match ops[i]? with
    | none=>false
    | some p=>x2q ops i j p o
def w8t (op:Op) (ev:Operand→AVal):Option Nat:=
 match op with
 | .load _ x=>match ev x with
  | .ptr b _=>some b
  | .epa b _ _ _=>some b
  | _=>none
 | _=>none
def x1v (op:Op) (ev:Operand→AVal):Option Nat:=
 match op with
 | .store _ a _=>match ev a with
  | .ptr b _=>some b
  | .epa b _ _ _=>some b
  | _=>none
 | .call {callee:=.builtin .append,args,argTypes:=_}=>match args.toList.map ev with
  | .sl b _ _ _::_=>some b
  | .sla b _ _ _ _::_=>some b
  | _=>none
 | .call {callee:=.builtin .copy,args,argTypes:=_}=>match args.toList.map ev with
  | .sl b _ _ _::_=>some b
  | .sla b _ _ _ _::_=>some b
  | .slv b _ _ _::_=>some b
  | _=>none
 | .call {callee:=.builtin .clear,args,argTypes:=_}=>match args.toList.map ev with
  | .sl b _ _ _::_=>some b
  | _=>none
 | _=>none
def clash :Option Nat→Option Nat→Bool
 | some a,some b=>Nat.beq a b
 | _,_=>false
def ordered (ops:Array Oper) (i j:Nat):Bool:=((v2i ops.toList []).getD j 0).testBit i||((v2i ops.toList []).getD i 0).testBit j
abbrev Foot :=Nat×Option Nat×Option Nat
def w1q (ops:Array Oper) (x y:Foot):Bool:= !(clash x.2.1 y.2.2||clash x.2.2 y.2.1)||ordered ops x.1 y.1
def y0q (P:Program) (S:Specs) (R:Runner) (ops:Array Oper) (cx:Ctx) (x:Bool×Oper) (st:St):Option St:=
 match z1a ops x.2 cx st with
 | none=>none
 | some (true,st)=>y0c P S R x.1 x.2 cx st
 | some (false,st)=>st.put cx x.2.dst (.tup [])
def z5m (x:Nat×Bool×Oper) (ev:Operand→AVal):Foot:=(x.1,w8t x.2.2.op ev,x1v x.2.2.op ev)
def z8x (P:Program) (S:Specs) (R:Runner) (ops:Array Oper) (cx:Ctx) (l:List (Nat×Bool×Oper)):List Foot→St→Option St:=
 List.rec (motive:=fun _=>List Foot→St→Option St) (fun _ st=>some st)
  (fun x _ rec acc st=>bif acc.all (w1q ops (z5m x st.eval)) then
    match y0q P S R ops cx x.2 st with
    | some st'=>rec (z5m x st.eval::acc) st'
    | none=>none
   else none) l
def v0l (env:T AVal):List Nat→T AVal
 | []=>.leaf
 | t::l=>T.set .undef (v0l env l) t (T.get .undef env t)
def low (N:Nat):Nat→AVal→Bool
 | 0,_=>false
 | d+1,v=>match v with
  | .ptr b _=>Nat.ble (b+1) N
  | .sl b _ _ _=>Nat.ble (b+1) N
  | .sla b _ _ _ _=>Nat.ble (b+1) N
  | .slv b _ _ _=>Nat.ble (b+1) N
  | .epa b _ _ _=>Nat.ble (b+1) N
  | .yld b=>Nat.ble (b+1) N
  | .agg cs | .tup cs | .fn _ cs | .fnb _ cs=>cs.all (low N d)
  | .ifc _ v=>low N d v
  | _=>true
def lowBlk (N:Nat) (blk:ABlk):Bool:=match blk.arr with
 | none=>blk.cells.all (low N 6)
 | some a=>pd (∀i,(a.get i).all (low N 6)=true)
def u4i (mem:Mem) (N:Nat):Nat→Mem×Bool
 | 0=>(.leaf,true)
 | b+1=>match u4i mem N b with
  | (m,o)=>match Xv mem b with
   | none=>(m,o)
   | some blk=>(We m b (some blk),o&&lowBlk N blk)
def St.keep (L:List Nat) (N:Nat):St→Option St
 | ⟨env,mem,next,_,ob⟩=>bif L.all (fun t=>low N 6 (T.get .undef env t))&&Nat.ble N next then
   match u4i mem N N with
   | (m,o)=>some ⟨v0l env L,m,N,[],ob&&o⟩
  else none
def Yq :List (Nat×AVal)→T AVal
 | []=>.leaf
 | (t,v)::l=>T.set .undef (Yq l) t v
def u4r (P:Program) (f:FuncId):Code:=match P.funcs[f]? with
 | some fn=>fn.body.getD .ret
 | none=>.ret
def Zy (P:Program) (f:FuncId):List ResultVar:=match P.funcs[f]? with
 | some fn=>fn.results.toList
 | none=>[]
end Go.Am
namespace Go.Am
theorem z5f (m:Nat):Nat.beq (m %2) 0=true↔m %2=0:=by
 constructor
 ·exact fun h=>Nat.eq_of_beq_eq_true h
 ·intro h;rw [h];rfl
@[simp] theorem T.get_leaf {α:Type} (d:α) (n:Nat):T.get d .leaf n=d:=rfl
@[simp] theorem T.get_zero {α:Type} (d v:α) (l r:T α):T.get d (.node v l r) 0=v:=rfl
theorem T.get_succ {α:Type} (d v:α) (l r:T α) (m:Nat):T.get d (.node v l r) (m+1)=if m %2=0 then T.get d l (m / 2) else T.get d r (m / 2):=by
 show (bif Nat.beq (m %2) 0 then T.get d l (m / 2) else T.get d r (m / 2))=_;by_cases h:m %2=0
 ·rw [if_pos h,(z5f m).2 h];rfl
 ·rw [if_neg h,show Nat.beq (m %2) 0=false from Bool.eq_false_iff.2 (fun e=>h ((z5f m).1 e))];rfl
theorem T.setF_leaf_zero {α:Type} (d v:α) (f:Nat):T.setF d v (f+1) .leaf 0=.node v .leaf .leaf :=rfl
theorem T.setF_node_zero {α:Type} (d v u:α) (l r:T α) (f:Nat):T.setF d v (f+1) (.node u l r) 0=.node v l r:=rfl
theorem T.setF_leaf_succ {α:Type} (d v:α) (f m:Nat):T.setF d v (f+1) .leaf (m+1)=
  if m %2=0 then .node d (T.setF d v f .leaf (m / 2)) .leaf else .node d .leaf (T.setF d v f .leaf (m / 2)):=by
 show (bif Nat.beq (m %2) 0 then (_:T α) else _)=_;by_cases h:m %2=0
 ·rw [if_pos h,(z5f m).2 h];rfl
 ·rw [if_neg h,show Nat.beq (m %2) 0=false from Bool.eq_false_iff.2 (fun e=>h ((z5f m).1 e))];rfl
theorem T.setF_node_succ {α:Type} (d v u:α) (l r:T α) (f m:Nat):T.setF d v (f+1) (.node u l r) (m+1)=
  if m %2=0 then .node u (T.setF d v f l (m / 2)) r else .node u l (T.setF d v f r (m / 2)):=by
 show (bif Nat.beq (m %2) 0 then (_:T α) else _)=_;by_cases h:m %2=0
 ·rw [if_pos h,(z5f m).2 h];rfl
 ·rw [if_neg h,show Nat.beq (m %2) 0=false from Bool.eq_false_iff.2 (fun e=>h ((z5f m).1 e))];rfl
theorem T.get_setF {α:Type} (d v:α): ∀(f:Nat) (t:T α) (n k:Nat),n<f→T.get d (T.setF d v f t n) k=if k=n then v else T.get d t k
 | 0,_,_,_,h=>absurd h (Nat.not_lt_zero _)
 | f+1,.leaf,0,k,_=>by
  rw [T.setF_leaf_zero];cases k with
  | zero=>simp
  | succ k=>rw [T.get_succ];simp
 | f+1,.node u l r,0,k,_=>by
  rw [T.setF_node_zero];cases k with
  | zero=>simp
  | succ k=>rw [T.get_succ,T.get_succ];simp
 | f +1,.leaf,m+1,k,h=>by
  rw [T.setF_leaf_succ];have hm:m / 2<f:=by omega
  cases k with
  | zero=>split <;> simp
  | succ k=>
   have ih:=T.get_setF d v f .leaf (m / 2) (k / 2) hm;by_cases hp:m %2=0
   ·rw [if_pos hp,T.get_succ];by_cases hk:k %2=0
    ·rw [if_pos hk,ih];by_cases e:k / 2=m / 2
     ·rw [if_pos e,if_pos (by omega)]
     ·rw [if_neg e,if_neg (by omega)];simp
    ·rw [if_neg hk,if_neg (by omega)];simp
   ·rw [if_neg hp,T.get_succ];by_cases hk:k %2=0
    ·rw [if_pos hk,if_neg (by omega)];simp
    ·rw [if_neg hk,ih];by_cases e:k / 2=m / 2
     ·rw [if_pos e,if_pos (by omega)]
     ·rw [if_neg e,if_neg (by omega)];simp
 | f +1,.node u l r,m+1,k,h=>by
  rw [T.setF_node_succ];have hm:m / 2<f:=by omega
  cases k with
  | zero=>split <;> simp
  | succ k=>
   by_cases hp:m %2=0
   ·rw [if_pos hp,T.get_succ,T.get_succ];by_cases hk:k %2=0
    ·rw [if_pos hk,if_pos hk,T.get_setF d v f l (m / 2) (k / 2) hm];by_cases e:k / 2=m / 2
     ·rw [if_pos e,if_pos (by omega)]
     ·rw [if_neg e,if_neg (by omega)]
    ·rw [if_neg hk,if_neg hk,if_neg (by omega)]
   ·rw [if_neg hp,T.get_succ,T.get_succ];by_cases hk:k %2=0
    ·rw [if_pos hk,if_pos hk,if_neg (by omega)]
    ·rw [if_neg hk,if_neg hk,T.get_setF d v f r (m / 2) (k / 2) hm];by_cases e:k / 2=m / 2
     ·rw [if_pos e,if_pos (by omega)]
     ·rw [if_neg e,if_neg (by omega)]
theorem T.get_set {α:Type} (d:α) (t:T α) (n:Nat) (v:α) (k:Nat):T.get d (T.set d t n v) k=if k=n then v else T.get d t k:=
 T.get_setF d v (n+1) t n k (Nat.lt_succ_self n)
theorem Ws (m:Mem) (b:Nat) (o:Option ABlk) (k:Nat):Xv (We m b o) k=if k=b then o else Xv m k:=T.get_set none m b o k
theorem Yf (m:Mem) (b:Nat) (o:Option ABlk):Xv (We m b o) b=o:=by rw [Ws,if_pos rfl]
theorem Zv (m:Mem) {b k:Nat} (o:Option ABlk) (h:k≠b):Xv (We m b o) k=Xv m k:=by rw [Ws,if_neg h]
inductive Vj {α β:Type} (R:α→β→Prop):List α→List β→Prop
 | nil:Vj R [] []
 | cons {a:α} {b:β} {l:List α} {m:List β} (h:R a b) (t:Vj R l m):Vj R (a::l) (b::m)
theorem Vj.length {α β:Type} {R:α→β→Prop} {l:List α} {m:List β} (h:Vj R l m):l.length=m.length:=by
 induction h with
 | nil=>rfl
 | cons _ _ ih=>simp [ih]
theorem Vj.get {α β:Type} {R:α→β→Prop} {l:List α} {m:List β} (h:Vj R l m): ∀(i:Nat) (h1:i<l.length) (h2:i<m.length),R l[i] m[i]:=by
 induction h with
 | nil=>intro i h1;simp at h1
 | cons h _ ih=>
  intro i h1 h2;cases i with
  | zero=>exact h
  | succ i=>exact ih i (by simpa using h1) (by simpa using h2)
theorem Vj.append {α β:Type} {R:α→β→Prop} {l l':List α} {m m':List β} (h:Vj R l m) (k:Vj R l' m'):Vj R (l++l') (m++m'):=by
 induction h with
 | nil=>exact k
 | cons h _ ih=>exact .cons h ih
theorem Vj.of {α β:Type} {R:α→β→Prop}: ∀{l:List α} {m:List β},l.length=m.length→(∀(i:Nat) (h1:i<l.length) (h2:i<m.length),R l[i] m[i])→Vj R l m
 | [],[],_,_=>.nil
 | [],_::_,h,_=>by simp at h
 | _::_,[],h,_=>by simp at h
 | a::l,b::m,h,hr=>.cons (hr 0 (by simp) (by simp)) (Vj.of (by simpa using h) fun i h1 h2=>hr (i+1) (by simpa using h1) (by simpa using h2))
theorem Vj.maps {α γ δ:Type} {R:γ→δ→Prop} (f:α→γ) (g:α→δ): ∀(l:List α),(∀a,a∈l→R (f a) (g a))→Vj R (l.map f) (l.map g)
 | [],_=>.nil
 | a::l,h=>.cons (h a (by simp)) (Vj.maps f g l fun b hb=>h b (by simp [hb]))
structure Loc where
 blk:Nat
 base:Nat
 n:Nat
 tot:Nat
abbrev Old :=Nat→Option Obj
structure Rho where
 f:Nat→Option Loc
 fz:Old
 lp:Nat→Option Nat
instance : CoeFun Rho (fun _=>Nat→Option Loc):=⟨Rho.f⟩
def Rho.bare (ρ:Rho):Rho:=⟨fun _=>none,ρ.fz,fun _=>none⟩
def z3n (H:Old):Rho:=⟨fun _=>none,H,fun _=>none⟩
def z0j (l:Loc) (off:Nat):v9m→Nat→Prop
 | .ex k,c=>c=k
 | .un sz,c=>l.n≤off+c*sz∧off+c*sz≤l.tot
def x4s (H:Old) (blk o:Nat) (v:Value):Prop:= ∃cs el fz,H blk=some (.cells cs el fz)∧cs[o]? =some v
inductive Ym :Rho→AVal→Value→Prop
 | undef {ρ:Rho} (v:Value):Ym ρ .undef v
 | bool {ρ:Rho} (b:Bool):Ym ρ (.bool b) (.bool b)
 | int {ρ:Rho} (k:IntKind) (n:Int):Ym ρ (.int k n) (.int k n)
 | str {ρ:Rho} (s:List UInt8):Ym ρ (.str s) (.string ⟨s.toArray⟩)
 | agg {ρ:Rho} (cs:List AVal) (vs:Array Value) (hl:cs.length=vs.size) (h: ∀(i:Nat) (h1:i<cs.length) (h2:i<vs.size),Ym ρ cs[i] vs[i]):Ym ρ (.agg cs) (.agg vs)
 | tup {ρ:Rho} (cs:List AVal) (vs:Array Value) (hl:cs.length=vs.size) (h: ∀(i:Nat) (h1:i<cs.length) (h2:i<vs.size),Ym ρ cs[i] vs[i]):Ym ρ (.tup cs) (.tuple vs)
 | ptr {ρ:Rho} (b off:Nat) (l:Loc) (h:ρ b=some l):Ym ρ (.ptr b off) (.pointer (some ⟨l.blk,l.base+off,none⟩))
 | nilp {ρ:Rho}:Ym ρ .nilp (.pointer none)
 | sl {ρ:Rho} (b off len:Nat) (cap:v9m) (l:Loc) (c:Nat) (h:ρ b=some l) (hc:z0j l off cap c) (eH:len≤c):Ym ρ (.sl b off len cap) (.slice (some ⟨l.blk,l.base+off,none⟩) len c)
 | nils {ρ:Rho}:Ym ρ .nils (.slice none 0 0)
 | sla {ρ:Rho} (b sz off len:Nat) (cap:v9m) (l:Loc) (c:Nat) (h:ρ b=some l) (hc:z0j l (off*sz) cap c) (eH:len≤c):Ym ρ (.sla b sz off len cap) (.slice (some ⟨l.blk,l.base+off*sz,none⟩) len c)
 | slan {ρ:Rho} (b sz off:Nat) (cap:v9m):Ym ρ (.sla b sz off 0 cap) (.slice none 0 0)
 | slv {ρ:Rho} (b sz off len:Nat) (l:Loc) (c:Nat) (h:ρ b=some l) (eH:len≤c):Ym ρ (.slv b sz off len) (.slice (some ⟨l.blk,l.base+off*sz,none⟩) len c)
 | slve {ρ:Rho} (b sz off:Nat) (blk base c:Nat):Ym ρ (.slv b sz off 0) (.slice (some ⟨blk,base,none⟩) 0 c)
 | slvn {ρ:Rho} (b sz off:Nat):Ym ρ (.slv b sz off 0) (.slice none 0 0)
 | epa {ρ:Rho} (b sz i fo:Nat) (l:Loc) (h:ρ b=some l):Ym ρ (.epa b sz i fo) (.pointer (some ⟨l.blk,l.base+(i*sz+fo),none⟩))
 | fn {ρ:Rho} (f:FuncId) (cs:List AVal) (vs:Array Value) (hl:cs.length=vs.size) (h: ∀(i:Nat) (h1:i<cs.length) (h2:i<vs.size),Ym ρ cs[i] vs[i]):Ym ρ (.fn f cs) (.func (.func f) #[] vs)
 | nilf {ρ:Rho}:Ym ρ .nilf .nilFunc
 | fnb {ρ:Rho} (f:FuncId) (cs:List AVal) (vs:Array Value) (hl:cs.length=vs.size) (h: ∀(i:Nat) (h1:i<cs.length) (h2:i<vs.size),Ym ρ cs[i] vs[i]):Ym ρ (.fnb f cs) (.func (.func f) vs #[])
 | yld {ρ:Rho} (j l:Nat) (h:ρ.lp j=some l):Ym ρ (.yld j) (.func (.yield l) #[] #[])
 | ifc {ρ:Rho} (t:TypeId) (a:AVal) (v:Value) (h:Ym ρ a v):Ym ρ (.ifc t a) (.iface t v)
 | nili {ρ:Rho}:Ym ρ .nili .nilIface
 | dat {ρ:Rho} (len:Nat) (get:Nat→List AVal) (blk base sz cap:Nat) (val:Nat→Nat→Value) (eN:len≤cap) (hsz: ∀i,i<len→(get i).length =sz)
   (hv: ∀(i j:Nat) (_:i<len) (hj:j<(get i).length),Ym ρ.bare (get i)[j] (val i j)) (hh: ∀i j,i<len→j<sz→x4s ρ.fz blk (base+(i*sz+j)) (val i j)):Ym ρ (.dat len get) (.slice (some ⟨blk,base,none⟩) len cap)
 | datn {ρ:Rho} (get:Nat→List AVal):Ym ρ (.dat 0 get) (.slice none 0 0)
 | datz {ρ:Rho} (get:Nat→List AVal) (a:Addr) (c:Nat):Ym ρ (.dat 0 get) (.slice (some a) 0 c)
 | dptr {ρ:Rho} (cs:List AVal) (blk base:Nat) (val:Nat→Value) (hv: ∀(j:Nat) (hj:j<cs.length),Ym ρ.bare cs[j] (val j)) (hh: ∀j,j<cs.length→x4s ρ.fz blk (base+j) (val j)):Ym ρ (.dptr cs) (.pointer (some ⟨blk,base,none⟩))
def Uz (ρ:Rho) (cs:List AVal) (vs:Array Value):Prop:=cs.length=vs.size∧ ∀(i:Nat) (h1:i<cs.length) (h2:i<vs.size),Ym ρ cs[i] vs[i]
def Rho.le (ρ ρ':Rho):Prop:=(∀b l,ρ b=some l→ρ' b=some l)∧(∀k o,ρ.fz k=some o→ρ'.fz k=some o)∧ ∀j l,ρ.lp j=some l→ρ'.lp j=some l
theorem Rho.le_refl (ρ:Rho):ρ.le ρ:=⟨fun _ _ h=>h,fun _ _ h=>h,fun _ _ h=>h⟩
theorem Rho.le_trans {a b c:Rho} (h:a.le b) (k:b.le c):a.le c:=⟨fun x l e=>k.1 x l (h.1 x l e),fun x l e=>k.2.1 x l (h.2.1 x l e),fun x l e=>k.2.2 x l (h.2.2 x l e)⟩
theorem Rho.le.bare {ρ ρ':Rho} (h:ρ.le ρ'):ρ.bare.le ρ'.bare:=⟨fun _ _ e=>(by cases e),h.2.1,fun _ _ e=>(by cases e)⟩
theorem x1g (ρ:Rho):ρ.bare.le ρ:=⟨fun _ _ e=>(by cases e),fun _ _ e=>e,fun _ _ e=>(by cases e)⟩
theorem x4s.mono {ρ ρ':Rho} (h:ρ.le ρ') {blk o:Nat} {v:Value} (hc:x4s ρ.fz blk o v):x4s ρ'.fz blk o v:=by obtain ⟨cs,el,fz,h1,h2⟩:=hc;exact ⟨cs,el,fz,h.2.1 _ _ h1,h2⟩
theorem Ym.mono {ρ ρ':Rho} (h:ρ.le ρ') {a:AVal} {v:Value} (hv:Ym ρ a v):Ym ρ' a v:=by
 induction hv generalizing ρ' with
 | undef v=>exact .undef v
 | bool b=>exact .bool b
 | int k n=>exact .int k n
 | str s=>exact .str s
 | agg cs vs hl _ ih=>exact .agg cs vs hl fun i h1 h2=>ih i h1 h2 h
 | tup cs vs hl _ ih=>exact .tup cs vs hl fun i h1 h2=>ih i h1 h2 h
 | ptr b off l e=>exact .ptr b off l (h.1 _ _ e)
 | nilp=>exact .nilp
 | sl b off len cap l c e hc eH=>exact .sl b off len cap l c (h.1 _ _ e) hc eH
 | nils=>exact .nils
 | sla b sz off len cap l c e hc eH=>exact .sla b sz off len cap l c (h.1 _ _ e) hc eH
 | slan b sz off cap=>exact .slan b sz off cap
 | slv b sz off len l c e eH=>exact .slv b sz off len l c (h.1 _ _ e) eH
 | slve b sz off blk base c=>exact .slve b sz off blk base c
 | slvn b sz off=>exact .slvn b sz off
 | epa b sz i fo l e=>exact .epa b sz i fo l (h.1 _ _ e)
 | fn f cs vs hl _ ih=>exact .fn f cs vs hl fun i h1 h2=>ih i h1 h2 h
 | nilf=>exact .nilf
 | fnb f cs vs hl _ ih=>exact .fnb f cs vs hl fun i h1 h2=>ih i h1 h2 h
 | yld j l e=>exact .yld j l (h.2.2 _ _ e)
 | ifc t a v _ ih=>exact .ifc t a v (ih h)
 | nili=>exact .nili
 | dat len get blk base sz cap val eN hsz hv hh ih=>exact .dat len get blk base sz cap val eN hsz (fun i j hi hj=>ih i j hi hj h.bare) fun i j hi hj=>(hh i j hi hj).mono h
 | datn get=>exact .datn get
 | datz get a c=>exact .datz get a c
 | dptr cs blk base val hv hh ih=>exact .dptr cs blk base val (fun j hj=>ih j hj h.bare) fun j hj=>(hh j hj).mono h
theorem Uz.mono {ρ ρ':Rho} (h:ρ.le ρ') {cs:List AVal} {vs:Array Value} (hv:Uz ρ cs vs):Uz ρ' cs vs:=
 ⟨hv.1,fun i h1 h2=>(hv.2 i h1 h2).mono h⟩
theorem Ym.oneCell {ρ:Rho} {a:AVal} {v:Value} (h:Ym ρ a v) (hs:y0f a=true):v.oneCell'=true:=by
 cases h <;> first | rfl | (simp [y0f] at hs)
theorem Ym.cells {ρ:Rho} {a:AVal} {v:Value} (h:Ym ρ a v) (hu:z2l a=true):Uz ρ a.cells v.cells:=by
 cases h
 case agg cs vs hl hh=>exact ⟨hl,hh⟩
 all_goals first
  | (simp [z2l] at hu;done)
  | (refine ⟨rfl,fun i h1 h2=> ?_⟩
     have h0:i=0:=by simp [AVal.cells] at h1;exact h1
     subst h0;simp only [AVal.cells,Value.cells,List.getElem_cons_zero,List.getElem_toArray];constructor <;> assumption)
theorem Ym.cells_oneCell {ρ:Rho} {cs:List AVal} {vs:Array Value} (h:Uz ρ cs vs) (hs:cs.all y0f=true): ∀v∈vs.toList,v.oneCell'=true:=by
 intro v hv;obtain ⟨i,hi,rfl⟩:=List.getElem_of_mem hv;have h2:i<vs.size:=by simpa using hi
 have h1:i<cs.length:=by rw [h.1];exact h2
 simpa using (h.2 i h1 h2).oneCell (List.all_eq_true.1 hs _ (List.getElem_mem h1))
structure z0x (ρ:Rho) (w:World) (ab:ABlk) (l:Loc):Prop where
 n:l.n=ab.cells.length
 tot:l.n≤l.tot
 arr: ∀A,ab.arr=some A→ab.cells=rows A.n A.get∧1≤A.sz∧ ∀i,i<A.n→(A.get i).length =A.sz
 cells: ∃cs el,w.heap[l.blk]? =some (.cells cs el (0,0))∧l.base+l.tot≤cs.size∧
  ∀(i:Nat) (h:i<ab.cells.length),∃v,cs[l.base+i]? =some v∧Ym ρ ab.cells[i] v
structure Rel (ρ:Rho) (mem:Mem) (next:Nat) (w:World):Prop where
 dom: ∀b l,ρ b=some l→b<next
 inj: ∀b b' l l',ρ b=some l→ρ b'=some l'→l.blk=l'.blk→(Xv mem b).isSome =true→(Xv mem b').isSome =true→b=b'
 blk: ∀b l ab,ρ b=some l→Xv mem b=some ab→z0x ρ w ab l
 old: ∀k o,ρ.fz k=some o→w.heap[k]? =some o
 sep: ∀b l,ρ b=some l→(Xv mem b).isSome =true→ρ.fz l.blk=none
 real: ∀b l,ρ b=some l→l.blk<w.heap.size
 bd: ∀b,next≤b→Xv mem b=none
 ldom: ∀j l,ρ.lp j=some l→j<next
structure Ev (ρ ρ':Rho) (floor:Nat) (m:Mem) (next:Nat) (m':Mem) (next':Nat) (w w':World):Prop where
 ext:ρ.le ρ'
 new: ∀b,b<next→ρ' b=ρ b
 nxt:next≤next'
 unborn: ∀b,b<next→ρ b=none→ ∀cs ty,Xv m b=some ⟨cs,ty,none⟩→Xv m' b=some ⟨cs,ty,none⟩
 frame: ∀k o,w.heap[k]? =some o→(∀b l,ρ b=some l→floor≤b→l.blk≠k)→w'.heap[k]? =some o
 fresh: ∀b l,next≤b→ρ' b=some l→w.heap.size≤l.blk∨ ∃b0 l0,ρ b0=some l0∧floor≤b0∧l0.blk=l.blk
 size:w.heap.size≤w'.heap.size
 os:w'.os=w.os
 tape:w'.tape=w.tape
 output:w'.output=w.output
 still: ∀k,k<w.heap.size→ρ'.fz k=ρ.fz k
theorem Ev.refl (ρ:Rho) (floor:Nat) (m:Mem) (next:Nat) (w:World) (hd: ∀b l,ρ b=some l→b<next):Ev ρ ρ floor m next m next w w:=
 ⟨Rho.le_refl _,fun _ _=>rfl,Nat.le_refl _,fun _ _ _ _ _ h=>h,fun _ _ h _=>h,fun b l hb h=>absurd (hd b l h) (by omega),Nat.le_refl _,rfl,rfl,rfl,fun _ _=>rfl⟩
theorem Ev.drawn {ρ ρ':Rho} {floor:Nat} {m m':Mem} {next next':Nat} {w w':World} (h:Ev ρ ρ' floor m next m' next' {w with drawn:=w.drawn+1} w'):Ev ρ ρ' floor m next m' next' w w':=
 ⟨h.ext,h.new,h.nxt,h.unborn,h.frame,h.fresh,h.size,h.os,h.tape,h.output,h.still⟩
theorem Ev.trans {ρ ρ1 ρ2:Rho} {floor:Nat} {m m1 m2:Mem} {n n1 n2:Nat} {w w1 w2:World} (h:Ev ρ ρ1 floor m n m1 n1 w w1) (k:Ev ρ1 ρ2 floor m1 n1 m2 n2 w1 w2):Ev ρ ρ2 floor m n m2 n2 w w2 where
 ext:=Rho.le_trans h.ext k.ext
 new b hb:=by rw [k.new b (Nat.lt_of_lt_of_le hb h.nxt),h.new b hb]
 nxt:=Nat.le_trans h.nxt k.nxt
 unborn b hb e cs ty hm:=k.unborn b (Nat.lt_of_lt_of_le hb h.nxt) (by rw [h.new b hb];exact e) cs ty (h.unborn b hb e cs ty hm)
 frame i o hi hf:=by
  refine k.frame i o (h.frame i o hi hf) fun b l hl hfl hlb=> ?_;by_cases hb:b<n
  ·rw [h.new b hb] at hl;exact hf b l hl hfl hlb
  ·have hlt:i<w.heap.size:=(Array.getElem?_eq_some_iff.1 hi).1;rcases h.fresh b l (by omega) hl with h1 | ⟨b0,l0,e0,f0,g0⟩
   ·omega
   ·exact hf b0 l0 e0 f0 (g0.trans hlb)
 fresh b l hb hl:=by
  by_cases hb1:b<n1
  ·rw [k.new b hb1] at hl;exact h.fresh b l hb hl
  ·rcases k.fresh b l (by omega) hl with h1 | ⟨b0,l0,e0,f0,g0⟩
   ·exact .inl (Nat.le_trans h.size h1)
   ·by_cases hb0:b0<n
    ·rw [h.new b0 hb0] at e0;exact .inr ⟨b0,l0,e0,f0,g0⟩
    ·rcases h.fresh b0 l0 (by omega) e0 with h1 | ⟨b3,l3,e3,f3,g3⟩
     ·exact .inl (by omega)
     ·exact .inr ⟨b3,l3,e3,f3,g3.trans g0⟩
 size:=Nat.le_trans h.size k.size
 os:=k.os.trans h.os
 tape:=k.tape.trans h.tape
 output:=k.output.trans h.output
 still i hi:=(k.still i (Nat.lt_of_lt_of_le hi h.size)).trans (h.still i hi)
theorem Ev.lower {ρ ρ':Rho} {floor floor':Nat} {m m':Mem} {n n':Nat} {w w':World} (h:Ev ρ ρ' floor' m n m' n' w w') (hf:floor≤floor'):Ev ρ ρ' floor m n m' n' w w':=
 ⟨h.ext,h.new,h.nxt,h.unborn,fun k o e g=>h.frame k o e fun b l hl hfl=>g b l hl (Nat.le_trans hf hfl),
  fun b l hb hl=>(h.fresh b l hb hl).imp id fun ⟨b0,l0,e,f,g⟩=>⟨b0,l0,e,Nat.le_trans hf f,g⟩,h.size,h.os,h.tape,h.output,h.still⟩
theorem Rel.drawn {ρ:Rho} {mem:Mem} {next:Nat} {w:World} (h:Rel ρ mem next w) (n:Nat):Rel ρ mem next {w with drawn:=n}:=
 ⟨h.dom,h.inj,fun b l ab e f=>let ⟨a,t,r,c⟩:=h.blk b l ab e f;⟨a,t,r,c⟩,h.old,h.sep,h.real,h.bd,h.ldom⟩
def Vr (ρ:Rho) (b:Nat) (l:Loc):Rho:=⟨fun k=>if k=b then some l else ρ k,ρ.fz,ρ.lp⟩
theorem Ux (ρ:Rho) (b:Nat) (l:Loc) (k:Nat):Vr ρ b l k=if k=b then some l else ρ k:=rfl
theorem Qn {ρ:Rho} {b:Nat} {l:Loc} (h:ρ b=none):ρ.le (Vr ρ b l):=⟨fun k l' e=>by
 rw [Ux];by_cases hk:k=b
 ·subst hk;rw [h] at e;cases e
 ·rw [if_neg hk];exact e,fun _ _ e=>e,fun _ _ e=>e⟩
theorem Rel.none_next {ρ:Rho} {mem:Mem} {next:Nat} {w:World} (h:Rel ρ mem next w):ρ next=none:=by
 cases e:ρ next with
 | none=>rfl
 | some l=>exact absurd (h.dom _ _ e) (Nat.lt_irrefl _)
theorem z0x.world {ρ ρ':Rho} {w w':World} {ab:ABlk} {l:Loc} (h:z0x ρ w ab l) (hr:ρ.le ρ') (hw:w'.heap[l.blk]? =w.heap[l.blk]?):z0x ρ' w' ab l:=by obtain ⟨n,t,ar,cs,el,h1,h2,h3⟩:=h;exact ⟨n,t,ar,cs,el,by rw [hw];exact h1,h2,fun i hi=>let ⟨v,e,f⟩:=h3 i hi;⟨v,e,f.mono hr⟩⟩
theorem Rel.new {ρ:Rho} {mem:Mem} {next:Nat} {w:World} (h:Rel ρ mem next w) (cs:List AVal) (ty:TypeId) (vs:Array Value) (el:TypeId) (hH: ∀k,w.heap.size≤k→ρ.fz k=none)
  (hn:cs.length≤vs.size) (hv: ∀(i:Nat) (h1:i<cs.length) (h2:i<vs.size),Ym ρ cs[i] vs[i]):
  Rel (Vr ρ next ⟨w.heap.size,0,cs.length,vs.size⟩) (We mem next (some ⟨cs,ty,none⟩)) (next+1) {w with heap:=w.heap.push (.cells vs el)}:=by
 have hle:=Qn (l:=⟨w.heap.size,0,cs.length,vs.size⟩) h.none_next;have eQ: ∀b l,Vr ρ next ⟨w.heap.size,0,cs.length,vs.size⟩ b=some l→(b=next∧l=⟨w.heap.size,0,cs.length,vs.size⟩)∨(b≠next∧ρ b=some l):=fun b l e=>by
  rw [Ux] at e;by_cases hb:b=next
  ·rw [if_pos hb] at e;exact .inl ⟨hb,(Option.some.inj e).symm⟩
  ·rw [if_neg hb] at e;exact .inr ⟨hb,e⟩
 refine ⟨fun b l e=> ?_,fun b b' l l' e e' hbl hs hs'=> ?_,fun b l ab e hm=> ?_,fun k o e=> ?_,fun b l e=> ?_,fun b l e=> ?_,fun b hb=>by rw [Zv _ _ (by omega)];exact h.bd b (by omega),fun j l e=>Nat.lt_succ_of_lt (h.ldom j l e)⟩
 ·rcases eQ b l e with ⟨rfl,_⟩ | ⟨_,e⟩
  ·omega
  ·have:=h.dom b l e;omega
 ·rcases eQ b l e with ⟨hb,hl⟩ | ⟨hb,e2⟩ <;> rcases eQ b' l' e' with ⟨hb',hl'⟩ | ⟨hb',e2'⟩
  ·rw [hb,hb']
  ·have:=h.real b' l' e2';rw [hl] at hbl;simp at hbl;omega
  ·have:=h.real b l e2;rw [hl'] at hbl;simp at hbl;omega
  ·rw [Zv _ _ hb] at hs;rw [Zv _ _ hb'] at hs';exact h.inj b b' l l' e2 e2' hbl hs hs'
 ·rcases eQ b l e with ⟨rfl,rfl⟩ | ⟨hb,e⟩
  ·rw [Yf] at hm;obtain rfl:=Option.some.inj hm;refine ⟨rfl,hn,(fun A e=>by cases e),vs,el,by simp,by simp,fun i hi=>⟨vs[i]'(by simp at hi;omega),by simp [Array.getElem?_eq_getElem (show i<vs.size by simp at hi;omega)],(hv i hi (by simp at hi;omega)).mono hle⟩⟩
  ·rw [Zv _ _ hb] at hm;refine (h.blk b l ab e hm).world hle ?_;have:=h.real b l e;simp [Array.getElem?_push,Nat.ne_of_lt this]
 ·have hk:=h.old k o e;have:k<w.heap.size:=(Array.getElem?_eq_some_iff.1 hk).1;simp only [Array.getElem?_push,Nat.ne_of_lt this,if_false];exact hk
 ·intro hs;rcases eQ b l e with ⟨rfl,rfl⟩ | ⟨hne,e⟩
  ·exact hH _ (Nat.le_refl _)
  ·rw [Zv _ _ hne] at hs;exact h.sep b l e hs
 ·rcases eQ b l e with ⟨rfl,rfl⟩ | ⟨_,e⟩
  ·simp
  ·have:=h.real b l e;simp;omega
theorem Ev.ofNew {ρ:Rho} {mem:Mem} {next:Nat} {w:World} (h:Rel ρ mem next w) (floor:Nat) (l:Loc) (o:Option ABlk) (ob:Obj) (hl:w.heap.size≤l.blk):
  Ev ρ (Vr ρ next l) floor mem next (We mem next o) (next+1) w {w with heap:=w.heap.push ob} where
 ext:=Qn h.none_next
 new b hb:=by simp [Vr,Nat.ne_of_lt hb]
 nxt:=Nat.le_succ _
 unborn b hb _ cs ty hm:=by rw [Zv _ _ (Nat.ne_of_lt hb)];exact hm
 frame k o hk _:=by have:k<w.heap.size:=(Array.getElem?_eq_some_iff.1 hk).1;simp only [Array.getElem?_push,Nat.ne_of_lt this,if_false];exact hk
 fresh b l' hb e:=by
  rw [Ux] at e;by_cases hbn:b=next
  ·rw [if_pos hbn] at e;obtain rfl:=Option.some.inj e;exact .inl hl
  ·rw [if_neg hbn] at e;have:=h.dom b l' e;omega
 size:=by simp
 os:=rfl
 tape:=rfl
 output:=rfl
 still _ _:=rfl
theorem Jm {α:Type} (l c:List α) (off i:Nat) (h:off+c.length≤l.length):
  (l.take off++c++l.drop (off+c.length))[i]? =if i<off then l[i]? else if i<off+c.length then c[i - off]? else l[i]? :=by
 have ht:(l.take off).length =off:=by simp;omega
 by_cases h1:i<off
 ·rw [if_pos h1,List.append_assoc,List.getElem?_append_left (by omega),List.getElem?_take,if_pos h1]
 ·rw [if_neg h1];by_cases h2:i<off+c.length
  ·rw [if_pos h2,List.getElem?_append_left (by simp;omega),List.getElem?_append_right (by omega),ht]
  ·rw [if_neg h2,List.getElem?_append_right (by simp;omega),List.getElem?_drop]
   congr 1
   simp [ht];omega
theorem Xo {α:Type} (l c:List α) (off:Nat) (h:off+c.length≤l.length):(l.take off++c++l.drop (off+c.length)).length =l.length:=by simp;omega
theorem Rel.write {ρ:Rho} {mem:Mem} {next:Nat} {w:World} (h:Rel ρ mem next w) {b:Nat} {l:Loc} {ab:ABlk} (hb:ρ b=some l) (hm:Xv mem b=some ab) {off:Nat} {cs:List AVal} {vs:List Value}
  (eH:vs.length=cs.length) (eR:off+cs.length≤ab.cells.length) (hv: ∀(i:Nat) (h1:i<cs.length) (h2:i<vs.length),Ym ρ cs[i] vs[i]):
  ∃cur el,w.heap[l.blk]? =some (.cells cur el (0,0))∧l.base+off+vs.length≤cur.size∧
   Rel ρ (We mem b (some ⟨ab.cells.take off++cs++ab.cells.drop (off+cs.length),ab.ty,none⟩)) next (w.setRow l.blk (cur.toList.take (l.base+off)++vs++cur.toList.drop (l.base+off+vs.length)).toArray):=by
 obtain ⟨hn,ht,har,cur,el,h1,h2,h3⟩:=h.blk b l ab hb hm;have hfc:l.base+off+vs.length≤cur.toList.length:=by simp;omega
 refine ⟨cur,el,h1,by simpa using hfc,h.dom,fun c c' m m' e e' he hs hs'=> ?_,fun c m ac e hc=> ?_,fun k o e=> ?_,fun c m e hs=>h.sep c m e (by
  by_cases hcb:c=b
  ·rw [hcb,hm];rfl
  ·rwa [Zv _ _ hcb] at hs),fun c m e=> ?_,fun c hc=>by have:=h.dom b l hb;rw [Zv _ _ (by omega)];exact h.bd c hc,h.ldom⟩
 ·refine h.inj c c' m m' e e' he ?_ ?_
  ·by_cases hcb:c=b
   ·rw [hcb,hm];rfl
   ·rwa [Zv _ _ hcb] at hs
  ·by_cases hcb:c'=b
   ·rw [hcb,hm];rfl
   ·rwa [Zv _ _ hcb] at hs'
 ·by_cases hcb:c=b
  ·subst hcb;rw [Yf] at hc;obtain rfl:=Option.some.inj hc;rw [hb] at e;obtain rfl:=Option.some.inj e;refine ⟨by rw [Xo _ _ _ eR];exact hn,ht,(fun A e=>by cases e),_,el,setRow_heap w l.blk cur _ el (0,0) h1,?_,fun i hi=> ?_⟩
   ·rw [List.size_toArray,Xo _ _ _ hfc];simpa using h2
   ·rw [Xo _ _ _ eR] at hi;have hg:=Jm ab.cells cs off i eR;rw [List.getElem?_eq_getElem (by rw [Xo _ _ _ eR];exact hi)] at hg;simp only [List.getElem?_toArray];rw [Jm _ _ _ _ hfc];by_cases g1:i<off
    ·rw [if_pos (by omega)];rw [if_pos g1,List.getElem?_eq_getElem hi] at hg;obtain ⟨v,e1,e2⟩:=h3 i hi;exact ⟨v,by simpa using e1,by rw [Option.some.inj hg];exact e2⟩
    ·by_cases g2:i<off+cs.length
     ·rw [if_neg (by omega),if_pos (by omega)];rw [if_neg g1,if_pos g2,List.getElem?_eq_getElem (by omega)] at hg;refine ⟨vs[i - off]'(by omega),by rw [show l.base+i - (l.base+off)=i - off by omega,List.getElem?_eq_getElem],?_⟩;rw [Option.some.inj hg];exact hv (i - off) (by omega) (by omega)
     ·rw [if_neg (by omega),if_neg (by omega)];rw [if_neg g1,if_neg g2,List.getElem?_eq_getElem hi] at hg;obtain ⟨v,e1,e2⟩:=h3 i hi;exact ⟨v,by simpa using e1,by rw [Option.some.inj hg];exact e2⟩
  ·rw [Zv _ _ hcb] at hc;refine (h.blk c m ac e hc).world (Rho.le_refl _) (setRow_other w l.blk m.blk _ fun heq=>hcb ?_);exact h.inj c b m l e hb heq (by rw [hc];rfl) (by rw [hm];rfl)
 ·have hk:=h.old k o e;rw [setRow_other]
  ·exact hk
  ·intro heq;have:=h.sep b l hb (by rw [hm];rfl);rw [←heq,e] at this;cases this
 ·rw [setRow_size];exact h.real c m e
theorem Ev.ofWrite {ρ:Rho} {mem:Mem} {next:Nat} {w:World} (h:Rel ρ mem next w) {floor b:Nat} {l:Loc} (hb:ρ b=some l) (hf:floor≤b) (o:Option ABlk) (cs:Array Value):
  Ev ρ ρ floor mem next (We mem b o) next w (w.setRow l.blk cs) where
 ext:=Rho.le_refl _
 new _ _:=rfl
 nxt:=Nat.le_refl _
 unborn k _ e cs ty hm:=by rw [Zv _ _ fun hk=>by rw [hk,hb] at e;cases e];exact hm
 frame k o hk hfr:=by
  rw [setRow_other]
  ·exact hk
  ·exact fun heq=>hfr b l hb hf heq.symm
 fresh k m hk e:=by have:=h.dom k m e;omega
 size:=by rw [setRow_size];exact Nat.le_refl _
 os:=rfl
 tape:=rfl
 output:=rfl
 still _ _:=rfl
structure Wq (ρ:Rho) (env:T AVal) (n:Nat) (tmps:Array Value):Prop where
 size:tmps.size=n
 get: ∀i,Ym ρ (T.get .undef env i) (tmps.getD i undef)
 out: ∀i,n≤i→T.get .undef env i=.undef
theorem Wq.mono {ρ ρ':Rho} {env:T AVal} {n:Nat} {tmps:Array Value} (h:Wq ρ env n tmps) (hr:ρ.le ρ'):Wq ρ' env n tmps:=
 ⟨h.size,fun i=>(h.get i).mono hr,h.out⟩
end Go.Am
namespace Go.Am
section
variable {P:Program} {ρ:Rho}
theorem z4x {t:TypeId} {r:Bool} (h:v0o P t=some r) (w:World):(isAgg t).run P w=.ok r w:=by
 unfold v0o at h;cases hu:P.underlying t with
 | none=>simp [hu] at h
 | some d=>cases d <;> simp [hu] at h <;> subst h <;> simp [isAgg,run_underlying hu]
theorem Yy {t:TypeId} {i:TypeInfo} (h:P.info? t=some i) (w:World):(sizeOf t).run P w=.ok i.size w:=by simp [sizeOf,run_typeInfo w h]
theorem z5d {cs p:List AVal} {off n:Nat} (h:cut cs off n=some p):p=(cs.drop off).take n∧p.length=n∧(n=0∨off+n≤cs.length):=by
 unfold cut at h;dsimp only at h;cases hb:Nat.beq ((cs.drop off).take n).length n with
 | false=>rw [hb] at h;cases h
 | true=>simp only [hb,cond_true,Option.some.injEq] at h;have hl:=Nat.eq_of_beq_eq_true hb;subst h;refine ⟨rfl,hl,?_⟩;simp at hl;omega
theorem x8p {cs p:List AVal} {off n:Nat} (h:cut cs off n=some p) (i:Nat) (hi:i<p.length): ∃h2:off+i<cs.length,p[i]=cs[off+i]:=by
 obtain ⟨rfl,hl,_⟩:=z5d h;have:off+i<cs.length:=by simp at hi;omega
 exact ⟨this,by simp⟩
theorem Jb {t:TypeId} {cs:List AVal} {vs:Array Value} {off:Nat} {v:AVal} (h:z1j P t cs off=some v) (hr:Uz ρ cs vs):
  ∃u,Ym ρ v u∧ ∀w,(part t vs off).run P w=.ok u w:=by
 unfold z1j at h;split at h
 ·rename_i i ha hi;simp only [Option.map_eq_some_iff] at h;obtain ⟨p,hp,rfl⟩:=h;obtain ⟨_,hl,hle⟩:=z5d hp;refine ⟨.agg (vs.extract off (off+i.size)),.agg _ _ ?_ ?_,fun w=> ?_⟩
  ·have:=hr.1;simp;omega
  ·intro j h1 h2;obtain ⟨h3,e⟩:=x8p hp j h1;rw [e];have h4:off+j<vs.size:=by rw [←hr.1];exact h3
   simpa using hr.2 (off+j) h3 h4
  ·simp [part,z4x ha,Yy hi]
 ·rename_i i ha hi;obtain ⟨hlt,rfl⟩:=List.getElem?_eq_some_iff.1 h;have h4:off<vs.size:=by rw [←hr.1];exact hlt
  exact ⟨vs[off],hr.2 off hlt h4,fun w=>by simp [part,z4x ha,Array.getElem?_eq_getElem h4]⟩
 ·cases h
theorem z7w {rec:TypeId→AVal→AVal→Option Bool} {dd:Nat} {e:TypeId} {c:Nat}
  (IH: ∀x y r u u',rec e x y=some r→Ym ρ x u→Ym ρ y u'→ ∀w,(Op.equalIn dd e u u').run P w=.ok r w)
  {xs ys:List AVal} {us us':Array Value} (hx:Uz ρ xs us) (hy:Uz ρ ys us'): ∀(is:List Nat) (r:Bool),
  z2i rec P xs ys (is.map fun j=>(e,j*c))=some r→ ∀w,(Op.eqItems dd e c us us' is).run P w=.ok r w
 | [],r,h,w=>by simp [z2i] at h;subst h;simp [Op.eqItems]
 | i::is,r,h,w=>by
  simp only [List.map_cons,z2i] at h;split at h
  ·rename_i a b ha hb;split at h
   ·rename_i e1 f1 he hf;obtain rfl:=Option.some.inj h;obtain ⟨u,hu,pu⟩:=Jb ha hx;obtain ⟨u',hu',pu'⟩:=Jb hb hy;have q:=IH _ _ _ _ _ he hu hu' w;have r:=z7w IH hx hy is f1 hf w;cases e1 <;> simp [Op.eqItems,pu,pu',q,r]
   ·cases h
  ·cases h
theorem z5o {rec:TypeId→AVal→AVal→Option Bool} {dd:Nat}
  (IH: ∀e x y r u u',rec e x y=some r→Ym ρ x u→Ym ρ y u'→ ∀w,(Op.equalIn dd e u u').run P w=.ok r w)
  {xs ys:List AVal} {us us':Array Value} (hx:Uz ρ xs us) (hy:Uz ρ ys us'): ∀(fs:List Field) (r:Bool),fs.any (fun f=>f.name == "_")=false→
  z2i rec P xs ys (fs.map fun f=>(f.type,f.offset))=some r→ ∀w,(Op.eqFields dd us us' fs).run P w=.ok r w
 | [],r,_,h,w=>by simp [z2i] at h;subst h;simp [Op.eqFields]
 | f::fs,r,hn,h,w=>by
  simp only [List.any_cons,Bool.or_eq_false_iff] at hn;simp only [List.map_cons,z2i] at h;split at h
  ·rename_i a b ha hb;split at h
   ·rename_i e1 f1 he hf;obtain rfl:=Option.some.inj h;obtain ⟨u,hu,pu⟩:=Jb ha hx;obtain ⟨u',hu',pu'⟩:=Jb hb hy;have q:=IH _ _ _ _ _ _ he hu hu' w;have r:=z5o IH hx hy fs f1 hn.2 hf w;have hne:f.name≠ "_" :=(by simpa using hn.1);cases e1 <;> simp [Op.eqFields,hne,pu,pu',q,r]
   ·cases h
  ·cases h
theorem z8h (k:Nat): ∀(d:Nat) (t:TypeId) (x y:AVal) (r:Bool) (u u':Value),aEq P d t x y=some r→Ym ρ x u→Ym ρ y u'→ ∀w,(Op.equalIn (k+d) t u u').run P w=.ok r w
 | 0,_,_,_,_,_,_,h,_,_,_=>by simp [aEq] at h
 | d + 1,t,x,y,r,u,u',h,hx,hy,w=>by
  unfold aEq at h;cases hu:P.underlying t with
  | none=>simp [hu] at h
  | some ty=>
   rw [←Nat.add_assoc];cases ty <;> simp only [hu] at h <;> try (cases h;done)
   case bool=>
    split at h
    ·cases hx;cases hy;obtain rfl:=Option.some.inj h;exact run_equalIn_bool' w _ t _ _ hu
    ·cases h
   case int q=>
    split at h
    ·split at h
     ·rename_i hk;subst hk;cases hx;cases hy;obtain rfl:=Option.some.inj h;exact run_equalIn_int w _ t _ _ _ _ hu
     ·cases h
    ·cases h
   case string=>
    split at h
    ·cases hx;cases hy;obtain rfl:=Option.some.inj h;rw [run_equalIn_string w _ t _ _ hu];simp [ByteArray.toList_eq]
    ·cases h
   case array n e=>
    split at h
    ·rename_i xs ys i hi;cases hx with
     | agg _ us hl hh=>
      cases hy with
      | agg _ us' hl' hh'=>rw [run_equalIn_array w _ us us' hu hi];have hc:P.cellsOf e=i.size:=(by simp [Program.cellsOf,hi]);rw [hc];exact z7w (fun x y r u u' e1 e2 e3=>z8h k d e x y r u u' e1 e2 e3) ⟨hl,hh⟩ ⟨hl',hh'⟩ _ _ h w
    ·cases h
   case struct fs=>
    split at h
    ·rename_i xs ys;cases hs:P.stoodInHeld t with
     | true=>simp [hs] at h
     | false=>
      cases hn:fs.toList.any (fun f=>f.name == "_") with
      | true=>rw [hs,hn] at h;cases h
      | false=>
       rw [hs,hn] at h;simp only [cond_false] at h;cases hx with
       | agg _ us hl hh=>
        cases hy with
        | agg _ us' hl' hh'=>have hfs:P.fieldsOf t=fs:=(by simp [Program.fieldsOf,hu]);rw [run_equalIn_struct w _ t us us' (by rw [hfs];exact hu) hs,hfs];exact z5o (fun e x y r u u' e1 e2 e3=>z8h k d e x y r u u' e1 e2 e3) ⟨hl,hh⟩ ⟨hl',hh'⟩ _ _ hn h w
    ·cases h
theorem y5q {op:BinOp} {k:IntKind} {a b n:Int} (h:w5m op k a b=some n):Op.intBits op k a b=pure (.int k n):=by
 cases op <;> simp only [w5m] at h <;> first | (cases h;done) | (obtain rfl:=Option.some.inj h;rfl)
theorem x8c (op:BinOp) (t:TypeId) (x y:Operand) (k k':IntKind) (a b:Int) (w:World):(eqGuard op t x y (.int k a) (.int k' b)).run P w=.ok () w:=by cases op <;> simp [eqGuard]
theorem w5n {op:BinOp} {t:TypeId} {x y:AVal} {v:AVal} {b:Bool} {u u':Value} (h:aBin P op t x y=some (v,b)) (hb:b=true) (hx:Ym ρ x u) (hy:Ym ρ y u') (ox oy:Operand):
  ∃z,Ym ρ v z∧ ∀w,(do eqGuard op t ox oy u u';binOp op t u u':Sem Value).run P w=.ok z w:=by
 subst hb;unfold aBin at h;split at h
 ·rename_i k a k' b;cases hx;cases hy;have g:=fun w=>x8c (P:=P) op t ox oy k k' a b w;split at h
  ·simp only [Option.some.injEq,Prod.mk.injEq,Bool.not_eq_true',decide_eq_false_iff_not] at h;obtain ⟨rfl,h0⟩:=h;exact ⟨_,.int _ _,fun w=>by simp [g,binOp,Op.shift,h0]⟩
  ·simp only [Option.some.injEq,Prod.mk.injEq,Bool.not_eq_true',decide_eq_false_iff_not] at h;obtain ⟨rfl,h0⟩:=h;exact ⟨_,.int _ _,fun w=>by simp [g,binOp,Op.shift,h0]⟩
  ·rename_i hshl hshr;split at h
   ·rename_i hk;subst hk;have fin: ∀n,w5m op k a b=some n→ ∃z,Ym ρ (.int k n) z∧ ∀w,(do eqGuard op t ox oy (.int k a) (.int k b);binOp op t (.int k a) (.int k b):Sem Value).run P w=.ok z w:=by
     intro n hn;have e:=y5q hn;refine ⟨_,.int _ _,fun w=> ?_⟩;cases op <;> simp only [w5m] at hn <;> first | (cases hn;done) | (simp [g,binOp,e];done)
    cases op <;> dsimp only at h
    case shl=>exact absurd rfl hshl
    case shr=>exact absurd rfl hshr
    case quo=>simp only [Option.some.injEq,Prod.mk.injEq,Bool.not_eq_true',decide_eq_false_iff_not] at h;obtain ⟨rfl,h0⟩:=h;exact ⟨_,.int _ _,fun w=>by simp [g,binOp,Op.intDiv,h0]⟩
    case rem=>simp only [Option.some.injEq,Prod.mk.injEq,Bool.not_eq_true',decide_eq_false_iff_not] at h;obtain ⟨rfl,h0⟩:=h;exact ⟨_,.int _ _,fun w=>by simp [g,binOp,Op.intDiv,h0]⟩
    all_goals first
     | (simp only [Option.map_eq_some_iff,Prod.mk.injEq] at h
        obtain ⟨n,hn,rfl,_⟩:=h;exact fin n hn)
     | (simp only [Option.some.injEq,Prod.mk.injEq] at h
        obtain ⟨rfl,_⟩:=h;refine ⟨_,.int _ _,fun w=> ?_⟩;simp [g,binOp,Op.intArith]
        done)
     | (simp only [Option.some.injEq,Prod.mk.injEq] at h
        obtain ⟨rfl,_⟩:=h;refine ⟨_,.bool _,fun w=> ?_⟩;simp [g,binOp,Op.intCmp]
        done)
   ·cases h
 ·rename_i a b;cases hx;cases hy;split at h
  ·rename_i hu;split at h
   ·simp only [Option.some.injEq,Prod.mk.injEq] at h;obtain ⟨rfl,_⟩:=h;exact ⟨_,.bool _,fun w=>by simp [eqGuard,binOp,Op.equal,Op.maxDepth,run_equalIn_bool' w _ t _ _ hu]⟩
   ·simp only [Option.some.injEq,Prod.mk.injEq] at h;obtain ⟨rfl,_⟩:=h;exact ⟨_,.bool _,fun w=>by simp [eqGuard,binOp,Op.equal,Op.maxDepth,run_equalIn_bool' w _ t _ _ hu]⟩
   ·cases h
  ·cases h
 ·rename_i a b;cases hx with
  | agg _ us hl hh=>
   cases hy with
   | agg _ us' hl' hh'=>
    cases hg:P.eqGuardType P.depth t with
    | true=>simp [hg] at h
    | false=>
     simp only [hg,cond_false] at h;split at h
     ·simp only [Option.map_eq_some_iff,Prod.mk.injEq] at h;obtain ⟨r,hr,rfl,_⟩:=h;have q:=fun w=>z8h 9970 30 t _ _ r _ _ hr (Ym.agg a us hl hh) (Ym.agg b us' hl' hh') w;exact ⟨_,.bool _,fun w=>by simp [run_eqGuard_agg w _ t ox oy us us' hg,run_eql_struct,q]⟩
     ·simp only [Option.map_eq_some_iff,Prod.mk.injEq] at h;obtain ⟨r,hr,rfl,_⟩:=h;have q:=fun w=>z8h 9970 30 t _ _ r _ _ hr (Ym.agg a us hl hh) (Ym.agg b us' hl' hh') w;exact ⟨_,.bool _,fun w=>by simp [run_eqGuard_agg w _ t ox oy us us' hg,run_neq_struct,q]⟩
     ·cases h
 ·cases hx with
  | sl _ _ _ _ l c hl hc eH=>
   cases hy;split at h
   ·rename_i e hu;have q:=fun (w:World) (a:Addr) (n c:Nat)=>Lib.run_equalIn_slice_nil (P:=P) w 9999 t e (some a) n c 0 0 hu;split at h
    ·simp only [Option.some.injEq,Prod.mk.injEq] at h;obtain ⟨rfl,_⟩:=h;exact ⟨_,.bool _,fun w=>by simp [eqGuard,binOp,Op.equal,Op.maxDepth,q]⟩
    ·simp only [Option.some.injEq,Prod.mk.injEq] at h;obtain ⟨rfl,_⟩:=h;exact ⟨_,.bool _,fun w=>by simp [eqGuard,binOp,Op.equal,Op.maxDepth,q]⟩
    ·cases h
   ·cases h
 ·cases hx;cases hy;split at h
  ·rename_i e hu;have q:=fun w=>Lib.run_equalIn_slice_nil (P:=P) w 9999 t e none 0 0 0 0 hu;split at h
   ·simp only [Option.some.injEq,Prod.mk.injEq] at h;obtain ⟨rfl,_⟩:=h;exact ⟨_,.bool _,fun w=>by simp [eqGuard,binOp,Op.equal,Op.maxDepth,q]⟩
   ·simp only [Option.some.injEq,Prod.mk.injEq] at h;obtain ⟨rfl,_⟩:=h;exact ⟨_,.bool _,fun w=>by simp [eqGuard,binOp,Op.equal,Op.maxDepth,q]⟩
   ·cases h
  ·cases h
 ·cases hx;cases hy;split at h
  ·simp only [Option.some.injEq,Prod.mk.injEq] at h;obtain ⟨rfl,_⟩:=h;exact ⟨_,.bool _,fun w=>by simp [eqGuard,binOp,Op.stringOp,ByteArray.toList_eq]⟩
  ·simp only [Option.some.injEq,Prod.mk.injEq] at h;obtain ⟨rfl,_⟩:=h;exact ⟨_,.bool _,fun w=>by simp [eqGuard,binOp,Op.stringOp,ByteArray.toList_eq]⟩
  ·cases h
 ·cases h
theorem v2o {op:UnOp} {x v:AVal} {u:Value} (h:aUn op x=some v) (hx:Ym ρ x u): ∃z,Ym ρ v z∧ ∀w,(Op.unary op u).run P w=.ok z w:=by
 unfold aUn at h;split at h
 ·cases hx;obtain rfl:=Option.some.inj h;exact ⟨_,.int _ _,fun w=>by simp [Op.unary,Op.intArith]⟩
 ·cases hx;simp only [Option.map_eq_some_iff] at h;obtain ⟨n,hn,rfl⟩:=h;exact ⟨_,.int _ _,fun w=>by simp [Op.unary,y5q hn]⟩
 ·cases hx;obtain rfl:=Option.some.inj h;exact ⟨_,.bool _,fun w=>by simp [Op.unary]⟩
 ·cases h
end
end Go.Am
namespace Go.Am
section
variable {P:Program} {ρ:Rho}
theorem z0r (v:Value):Ym ρ (z2e v) v:=by
 cases v with
 | bool b=>exact .bool b
 | int k n=>exact .int k n
 | string s=>exact .str s.data.toList
 | pointer a=>cases a with
  | none=>exact .nilp
  | some a=>exact .undef _
 | slice a n c=>
  cases a with
  | some a=>exact .undef _
  | none=>
   cases n with
   | succ n=>exact .undef _
   | zero=>cases c with
    | zero=>exact .nils
    | succ c=>exact .undef _
 | nilFunc=>exact .nilf
 | nilIface=>exact .nili
 | _=>exact .undef _
theorem y7s (v:Value) (h: ∀cs,v≠ .agg cs):ofV v=z2e v:=by
 cases v <;> first | rfl | exact absurd rfl (h _)
theorem w9n (v:Value):Ym ρ (ofV v) v:=by
 by_cases h: ∃cs,v=.agg cs
 ·obtain ⟨cs,rfl⟩:=h;refine .agg _ _ (by simp) fun i h1 h2=> ?_;have:=z0r (ρ:=ρ) (cs[i])
  simpa using this
 ·rw [y7s v fun cs e=>h ⟨cs,e⟩];exact z0r v
theorem y5y (v:Value):(z2e v).cells =[z2e v]:=by unfold z2e;split <;> rfl
theorem w9o (v:Value):Uz ρ (ofV v).cells v.cells:=by
 by_cases h: ∃cs,v=.agg cs
 ·obtain ⟨cs,rfl⟩:=h;refine ⟨by simp [ofV,AVal.cells,Value.cells],fun i h1 h2=> ?_⟩;have:=z0r (ρ:=ρ) (cs[i]'(by simpa [Value.cells] using h2));simp only [ofV,AVal.cells,List.getElem_map,Array.getElem_toList];exact this
 ·rw [y7s v fun cs e=>h ⟨cs,e⟩,y5y];have hc:v.cells= #[v]:=by cases v <;> first | rfl | exact absurd ⟨_,rfl⟩ h
  rw [hc];refine ⟨rfl,fun i h1 h2=> ?_⟩;have h0:i=0:=by simp at h1;exact h1
  subst h0;exact z0r v
theorem Wr {t:TypeId} {z:List AVal} (h:Ko P t=some z): ∃i v,P.info? t=some i∧i.zero=some v∧Uz ρ z v.cells∧ ∀w,(zeroValue t).run P w=.ok v w:=by
 unfold Ko at h;cases hi:P.info? t with
 | none=>simp [hi] at h
 | some i=>simp only [hi,Option.map_eq_some_iff] at h;obtain ⟨v,hz,rfl⟩:=h;exact ⟨i,v,rfl,hz,w9o v,fun w=>by simp [zeroValue,run_typeInfo w hi,hz]⟩
theorem w1r (off:Nat): ∀(l:List Value) (k:Nat) (cells:Array Value),off+k+l.length≤cells.size→
  (l.zipIdx k).foldl (fun cs p=>cs.setIfInBounds (off+p.2) p.1) cells=(cells.toList.take (off+k)++l++cells.toList.drop (off+k+l.length)).toArray
 | [],k,cells,_=>by simp
 | v::l,k,cells,h=>by
  simp only [List.zipIdx_cons,List.foldl_cons];rw [w1r off l (k+1) _ (by simp at h ⊢;omega)];have e:=list_seg_step cells.toList (off+k) v l (by simp at h ⊢;omega)
  simpa [Array.toList_setIfInBounds,Nat.add_assoc] using e
theorem Uz.splice {cells:List AVal} {arr:Array Value} {c:List AVal} {vs:Array Value} {off:Nat} (h:Uz ρ cells arr) (hc:Uz ρ c vs) (eR:off+c.length≤cells.length):
  Uz ρ (cells.take off++c++cells.drop (off+c.length)) (arr.toList.take off++vs.toList++arr.toList.drop (off+vs.toList.length)).toArray :=by
 have e1:=h.1;have e2:=hc.1;have f1:off+vs.toList.length≤arr.toList.length:=by simp;omega
 refine ⟨by rw [List.size_toArray,Xo _ _ _ eR,Xo _ _ _ f1];simpa using e1,fun i h1 h2=> ?_⟩;rw [Xo _ _ _ eR] at h1;have g1:=Jm cells c off i eR;have g2:=Jm arr.toList vs.toList off i f1;rw [List.getElem?_eq_getElem (by rw [Xo _ _ _ eR];exact h1)] at g1;rw [List.getElem?_eq_getElem (by simpa using h2)] at g2;rw [List.getElem_toArray];by_cases k1:i<off
 ·rw [if_pos k1,List.getElem?_eq_getElem h1] at g1;rw [if_pos k1,List.getElem?_eq_getElem (by simp;omega)] at g2;rw [Option.some.inj g1,Option.some.inj g2]
  simpa using h.2 i h1 (by omega)
 ·by_cases k2:i<off+c.length
  ·rw [if_neg k1,if_pos k2,List.getElem?_eq_getElem (by omega)] at g1;rw [if_neg k1,if_pos (by simp;omega),List.getElem?_eq_getElem (by simp;omega)] at g2;rw [Option.some.inj g1,Option.some.inj g2]
   simpa using hc.2 (i - off) (by omega) (by omega)
  ·rw [if_neg k1,if_neg k2,List.getElem?_eq_getElem h1] at g1;rw [if_neg k1,if_neg (by simp;omega),List.getElem?_eq_getElem (by simp;omega)] at g2;rw [Option.some.inj g1,Option.some.inj g2]
   simpa using h.2 i h1 (by omega)
def y2s (ρ:Rho) (ps:List (Nat×AVal)) (qs:List (Nat×Value)):Prop:=
 Vj (fun p q=>p.1=q.1∧Ym ρ p.2 q.2) ps qs
theorem z2o {place:Nat→Option (Nat×Nat)}: ∀{ps:List (Nat×AVal)} {qs:List (Nat×Value)} {cells out:List AVal} {arr:Array Value},x9e place cells ps=some out→
  Uz ρ cells arr→y2s ρ ps qs→ ∃arr',Instr.fill place arr qs=some arr'∧Uz ρ out arr'
 | [],_,cells,out,arr,h,hr,hp=>by cases hp;simp only [x9e,Option.some.injEq] at h;subst h;exact ⟨arr,rfl,hr⟩
 | (i,v)::ps,_,cells,out,arr,h,hr,hp=>by
  cases hp with
  | @cons _ q _ qs hq hqs=>
   obtain ⟨j,u⟩:=q;obtain ⟨hij,hv⟩:=hq;simp only at hij hv;subst hij;unfold x9e at h;cases hpl:place i with
   | none=>simp [hpl] at h
   | some pl=>
    obtain ⟨off,size⟩:=pl;simp only [hpl] at h;cases hc:(z2l v&&Nat.beq v.cells.length size&&Nat.ble (off+size) cells.length) with
    | false=>rw [hc] at h;cases h
    | true=>
     rw [hc,cond_true] at h;simp only [Bool.and_eq_true] at hc;obtain ⟨⟨hb,hs⟩,hf⟩:=hc;have hs:=Nat.eq_of_beq_eq_true hs;have hf:=Nat.le_of_ble_eq_true hf;have eO:=hv.cells hb;have hsz:u.cells.size=size:=by rw [←eO.1];exact hs
     have eR:off+v.cells.length≤cells.length:=(by omega);rw [←hs] at h;obtain ⟨arr',h1,h2⟩:=z2o h (hr.splice eO eR) hqs;refine ⟨arr',?_,h2⟩;unfold Instr.fill;simp only [hpl];have hle:off+u.cells.size≤arr.size:=by rw [←hr.1,hsz];omega
     have hz: ¬(u.cells.size≠size||decide (off+u.cells.size>arr.size))=true:=by simp [hsz];rw [hsz] at hle;exact hle
     rw [if_neg hz];rw [←h1]
     congr 1
     rw [←Array.foldl_toList,Array.toList_zipIdx];have:=w1r off u.cells.toList 0 arr (by simpa using hle)
     simpa using this
theorem z4a : ∀{fs:List Field} {pl:List (Nat×Nat)},Kc P fs=some pl→ ∀w,(fs.mapM fun f=>Prod.mk f.offset<$>sizeOf f.type:Sem (List (Nat×Nat))).run P w=.ok pl w
 | [],pl,h,w=>by simp [Kc] at h;subst h;simp
 | f::fs,pl,h,w=>by
  unfold Kc at h;cases hi:P.info? f.type with
  | none=>simp [hi] at h
  | some i=>
   cases hr:Kc P fs with
   | none=>simp [hi,hr] at h
   | some l=>simp only [hi,hr,Option.some.injEq] at h;subst h;have:=z4a hr w;simp [List.mapM_cons,Yy hi,this]
theorem x4m {t:TypeId} {ps:List (Nat×AVal)} {qs:List (Nat×Value)} {v:AVal} (h:v2u P t ps=some v) (hp:y2s ρ ps qs):
  ∃u,Ym ρ v u∧ ∀w,(Instr.build t qs.toArray).run P w=.ok u w:=by
 unfold v2u at h;split at h
 ·rename_i fs zero hu hz;obtain ⟨i,z,_,_,hzr,hzv⟩:=Wr (ρ:=ρ) hz;split at h
  ·rename_i pl hpl;simp only [Option.map_eq_some_iff] at h;obtain ⟨cells,hc,rfl⟩:=h;obtain ⟨arr,h1,h2⟩:=z2o hc hzr hp;refine ⟨.agg arr,.agg _ _ h2.1 h2.2,fun w=> ?_⟩;have hpr:=z4a hpl w;simp [Instr.build,hzv,run_underlying hu,Array.mapM_eq_mapM_toList,hpr,h1]
  ·cases h
 ·rename_i n e zero hu hz;obtain ⟨i,z,_,_,hzr,hzv⟩:=Wr (ρ:=ρ) hz;split at h
  ·rename_i i hi;simp only [Option.map_eq_some_iff] at h;obtain ⟨cells,hc,rfl⟩:=h;obtain ⟨arr,h1,h2⟩:=z2o hc hzr hp;exact ⟨.agg arr,.agg _ _ h2.1 h2.2,fun w=>by simp [Instr.build,hzv,run_underlying hu,Yy hi,h1]⟩
  ·cases h
 ·cases h
theorem Xa (b o n:Nat):(⟨b,o,none⟩:Addr).add n=⟨b,o+n,none⟩:=by
 unfold Addr.add;split
 ·rename_i h;subst h;rfl
 ·rfl
theorem Ym.dptr_drop {cs:List AVal} {blk base:Nat} {val:Nat→Value} (hv: ∀(j:Nat) (hj:j<cs.length),Ym ρ.bare cs[j] (val j)) (hh: ∀j,j<cs.length→x4s ρ.fz blk (base+j) (val j)) (k:Nat):
  Ym ρ (.dptr (cs.drop k)) (.pointer (some ⟨blk,base+k,none⟩)):=
 .dptr _ _ _ (fun j=>val (k+j)) (fun j hj=>by simpa using hv (k+j) (by simp at hj;omega)) (fun j hj=>by rw [Nat.add_assoc];exact hh (k+j) (by simp at hj;omega))
theorem y0x {t:TypeId} {x i v:AVal} {u ui:Value} {b:Bool} (h:z9n P t x i=some (v,b)) (hb:b=true) (hx:Ym ρ x u) (hi:Ym ρ i ui):
  ∃z,Ym ρ v z∧ ∀w,(Instr.indexAt t u ui).run P w=.ok z w:=by
 subst hb;unfold z9n at h;split at h
 ·rename_i len e b off k n hu;cases hi;simp only [Option.map_eq_some_iff,Prod.mk.injEq,decide_eq_true_eq] at h;obtain ⟨s,hs,rfl,hn⟩:=h;cases hx with
  | ptr _ _ l hl=>refine ⟨_,.ptr _ _ l hl,fun w=> ?_⟩;simp [Instr.indexAt,asIntOf,run_underlying hu,Instr.sureAddr,hn,Yy hs,Xa,Nat.add_assoc]
 ·rename_i len e cs k n hu;cases hi;simp only [Option.map_eq_some_iff,Prod.mk.injEq,decide_eq_true_eq] at h;obtain ⟨s,hs,rfl,hn⟩:=h;cases hx with
  | dptr _ blk base val hv hh=>refine ⟨_,Ym.dptr_drop hv hh _,fun w=> ?_⟩;simp [Instr.indexAt,asIntOf,run_underlying hu,Instr.sureAddr,hn,Yy hs,Xa]
 ·rename_i e b off len cap k n hu;cases hi;simp only [Option.map_eq_some_iff,Prod.mk.injEq,decide_eq_true_eq] at h;obtain ⟨s,hs,rfl,hn⟩:=h;cases hx with
  | sl _ _ _ _ l c hl hc eH=>refine ⟨_,.ptr _ _ l hl,fun w=> ?_⟩;simp [Instr.indexAt,asIntOf,run_underlying hu,hn,Yy hs,Xa,Nat.add_assoc]
 ·rename_i e len get k n hu;cases hi;simp only [Option.map_eq_some_iff,Prod.mk.injEq,Bool.and_eq_true,decide_eq_true_eq] at h;obtain ⟨s,hs,rfl,hn,hl⟩:=h;have hl:=Nat.eq_of_beq_eq_true hl;cases hx with
  | dat _ _ blk base sz cap val eN hsz hv hh=>
   have hlt:n.toNat<len:=by omega
   have hse:sz=s.size:=by rw [←hsz _ hlt];exact hl
   refine ⟨_,.dptr _ blk (base+n.toNat*s.size) (val n.toNat) (fun j hj=>hv _ j hlt hj) (fun j hj=> ?_),fun w=> ?_⟩
   ·have:=hh n.toNat j hlt (by rw [←hsz _ hlt];exact hj);rw [hse] at this;rw [Nat.add_assoc];exact this
   ·simp [Instr.indexAt,asIntOf,run_underlying hu,hn,Yy hs,Xa]
  | datn=>omega
  | datz=>omega
 ·rename_i e b sz off len cap k n hu;cases hi;simp only [Option.map_eq_some_iff,Prod.mk.injEq,Bool.and_eq_true,decide_eq_true_eq] at h;obtain ⟨s,hs,rfl,hn,hl⟩:=h;have hl:=Nat.eq_of_beq_eq_true hl;cases hx with
  | sla _ _ _ _ _ l c hl' hc eH=>refine ⟨_,.epa _ _ _ _ l hl',fun w=> ?_⟩;simp [Instr.indexAt,asIntOf,run_underlying hu,hn,Yy hs,Xa,hl,Nat.add_mul,Nat.add_assoc]
  | slan=>omega
 ·rename_i e b sz off len k n hu;cases hi;simp only [Option.map_eq_some_iff,Prod.mk.injEq,Bool.and_eq_true,decide_eq_true_eq] at h;obtain ⟨s,hs,rfl,hn,hl⟩:=h;have hl:=Nat.eq_of_beq_eq_true hl;cases hx with
  | slv _ _ _ _ l c hl' eH=>refine ⟨_,.epa _ _ _ _ l hl',fun w=> ?_⟩;simp [Instr.indexAt,asIntOf,run_underlying hu,hn,Yy hs,Xa,hl,Nat.add_mul,Nat.add_assoc]
  | slve=>omega
  | slvn=>omega
 ·rename_i len e b sz r fo k n hu;cases hi;simp only [Option.map_eq_some_iff,Prod.mk.injEq,decide_eq_true_eq] at h;obtain ⟨s,hs,rfl,hn⟩:=h;cases hx with
  | epa _ _ _ _ l hl=>refine ⟨_,.epa _ _ _ _ l hl,fun w=> ?_⟩;simp [Instr.indexAt,asIntOf,run_underlying hu,Instr.sureAddr,hn,Yy hs,Xa,Nat.add_assoc]
 ·cases h
theorem y0y {t:TypeId} {x v:AVal} {f:Nat} {u:Value} (h:z9o P t x f=some v) (hx:Ym ρ x u):
  ∃z,Ym ρ v z∧ ∀w,(Instr.fieldAt t u f).run P w=.ok z w:=by
 unfold z9o at h;split at h
 ·rename_i fs hu;split at h
  ·rename_i fd hf;split at h
   ·rename_i i hi;cases hz:Nat.beq i.size 0 with
    | true=>rw [hz] at h;cases h
    | false=>
     rw [hz,cond_false] at h;have hne:i.size≠0:=fun e=>by rw [e] at hz;cases hz
     split at h
     ·obtain rfl:=Option.some.inj h;cases hx with
      | ptr _ _ l hl=>exact ⟨_,.ptr _ _ l hl,fun w=>by simp [Instr.fieldAt,run_underlying hu,hf,Instr.sureAddr,fieldPlace,Yy hi,hne,Xa,Nat.add_assoc]⟩
     ·obtain rfl:=Option.some.inj h;cases hx with
      | dptr _ blk base val hv hh=>exact ⟨_,Ym.dptr_drop hv hh _,fun w=>by simp [Instr.fieldAt,run_underlying hu,hf,Instr.sureAddr,fieldPlace,Yy hi,hne,Xa]⟩
     ·obtain rfl:=Option.some.inj h;cases hx with
      | epa _ _ _ _ l hl=>exact ⟨_,.epa _ _ _ _ l hl,fun w=>by simp [Instr.fieldAt,run_underlying hu,hf,Instr.sureAddr,fieldPlace,Yy hi,hne,Xa,Nat.add_assoc]⟩
     ·cases h
   ·cases h
  ·cases h
 ·cases h
theorem x4j {t:TypeId} {x v:AVal} {f:Nat} {u:Value} (h:v2s P t x f=some v) (hx:Ym ρ x u):
  ∃z,Ym ρ v z∧ ∀w,(Instr.field t u f).run P w=.ok z w:=by
 unfold v2s at h;split at h
 ·rename_i fs cs hu;split at h
  ·rename_i fd hf;cases hx with
   | agg _ vs hl hh=>obtain ⟨z,hz,hr⟩:=Jb h ⟨hl,hh⟩;exact ⟨z,hz,fun w=>by simp [Instr.field,run_underlying hu,hf,asAgg,hr]⟩
  ·cases h
 ·cases h
theorem x4i {t:TypeId} {x i v:AVal} {u ui:Value} {b:Bool} (h:v2r P t x i=some (v,b)) (hb:b=true) (hx:Ym ρ x u) (hi:Ym ρ i ui):
  ∃z,Ym ρ v z∧ ∀w,(Instr.index t u ui).run P w=.ok z w:=by
 subst hb;unfold v2r at h;split at h
 ·rename_i len e cs k n hu;cases hi;split at h
  ·rename_i s hs;simp only [Option.map_eq_some_iff,Prod.mk.injEq,decide_eq_true_eq] at h;obtain ⟨v,hp,rfl,hn⟩:=h;cases hx with
   | agg _ vs hl hh=>obtain ⟨z,hz,hr⟩:=Jb hp ⟨hl,hh⟩;exact ⟨z,hz,fun w=>by simp [Instr.index,asIntOf,run_underlying hu,hn,Yy hs,hr]⟩
  ·cases h
 ·rename_i s k n hu;cases hi;cases hx;simp only [Option.map_eq_some_iff,Prod.mk.injEq,decide_eq_true_eq] at h;obtain ⟨c,hc,rfl,hn⟩:=h;refine ⟨_,.int _ _,fun w=> ?_⟩;obtain ⟨hlt,rfl⟩:=List.getElem?_eq_some_iff.1 hc;have e:(⟨s.toArray⟩:ByteArray)[n.toNat]? =some s[n.toNat]:=by rw [getElem?_pos _ _ (by simpa [ByteArray.size] using hlt)];simp [ByteArray.getElem_eq_getElem_data]
  simp [Instr.index,asIntOf,run_underlying hu,hn,e]
 ·cases h
theorem y3u {k:IntKind}: ∀{r:List AVal} {x n:Int} {us:List Value},y3v k x r=some n→Vj (Ym ρ) r us→ ∀w,(us.foldlM Builtin.min2 (.int k x)).run P w=.ok (.int k n) w
 | [],x,n,_,h,hr,w=>by cases hr;simp [y3v] at h;subst h;simp
 | a::r,x,n,_,h,hr,w=>by
  cases hr with
  | cons ha hrs=>
   cases a <;> simp only [y3v,Ju] at h <;> try (cases h;done)
   cases ha;have:=y3u h hrs w;simp [List.foldlM_cons,Builtin.min2,this]
theorem y3w {k:IntKind}: ∀{r:List AVal} {x n:Int} {us:List Value},y3x k x r=some n→Vj (Ym ρ) r us→ ∀w,(us.foldlM Builtin.max2 (.int k x)).run P w=.ok (.int k n) w
 | [],x,n,_,h,hr,w=>by cases hr;simp [y3x] at h;subst h;simp
 | a::r,x,n,_,h,hr,w=>by
  cases hr with
  | cons ha hrs=>
   cases a <;> simp only [y3x,Wf] at h <;> try (cases h;done)
   cases ha;have:=y3w h hrs w;simp [List.foldlM_cons,Builtin.max2,this]
theorem y5z {bi:Builtin} {ts:Array TypeId} {type:TypeId} {xs:List AVal} {us:Array Value} {v:AVal} (h:y2r P bi ts.toList xs=some v) (hx:Vj (Ym ρ) xs us.toList):
  ∃z,Ym ρ v z∧ ∀(cst:Array Bool) (w:World),(builtin bi ts type cst us).run P w=.ok (.value z) w:=by
 obtain ⟨ts⟩:=ts;obtain ⟨us⟩:=us;simp only at h hx;unfold y2r at h;split at h
 ·rename_i t _ x _;cases hx with
  | cons ha _=>
   split at h
   ·rename_i hu;cases ha;obtain rfl:=Option.some.inj h;exact ⟨_,.int _ _,fun cst w=>by simp [builtin,Builtin.len_,run_underlying hu,goInt,←ByteArray.size_data]⟩
   ·rename_i hu;obtain rfl:=Option.some.inj h;exact ⟨_,.int _ _,fun cst w=>by simp [builtin,Builtin.len_,run_underlying hu,goInt]⟩
   all_goals first
    | (rename_i hu
       obtain rfl:=Option.some.inj h;cases ha <;> exact ⟨_,.int _ _,fun cst w=>by simp [builtin,Builtin.len_,run_underlying hu,goInt]⟩)
    | (cases h;done)
 ·rename_i k x r;cases hx with
  | cons ha hr=>cases ha;simp only [Option.map_eq_some_iff] at h;obtain ⟨n,hn,rfl⟩:=h;have:=y3u (P:=P) hn hr;exact ⟨_,.int _ _,fun cst w=>by simp [builtin,Builtin.min_,this]⟩
 ·rename_i k x r;cases hx with
  | cons ha hr=>cases ha;simp only [Option.map_eq_some_iff] at h;obtain ⟨n,hn,rfl⟩:=h;have:=y3w (P:=P) hn hr;exact ⟨_,.int _ _,fun cst w=>by simp [builtin,Builtin.max_,this]⟩
 ·rename_i t _ x _;cases hx with
  | cons ha _=>
   split at h
   ·rename_i hu;obtain rfl:=Option.some.inj h;cases ha with
    | sl _ _ _ _ l c hl hc eH=>simp only [z0j] at hc;subst hc;exact ⟨_,.int _ _,fun cst w=>by simp [builtin,Builtin.cap_,run_underlying hu,goInt]⟩
   ·rename_i hu;obtain rfl:=Option.some.inj h;cases ha;exact ⟨_,.int _ _,fun cst w=>by simp [builtin,Builtin.cap_,run_underlying hu,goInt]⟩
   ·cases h
 ·cases h
end
end Go.Am
namespace Go.Am
section
variable {P:Program} {ρ:Rho}
theorem Yd (isSlice:Bool) (len cap m h l:Nat) (low high max:Option Value) (hm:(max=none∧m=cap)∨(∃k,max=some (.int k m)∧m≤cap))
  (hh:(high=none∧max=none∧h=len)∨(∃k,high=some (.int k h)∧h≤m)) (hl:(low=none∧l=0)∨ ∃k,low=some (.int k l)∧l≤h) (w:World):
  (Instr.sliceBounds isSlice len cap low high max).run P w=.ok (l,h,m) w:=by
 have nn: ∀n:Nat,(0:Int)≤n:=fun n=>Int.natCast_nonneg n;rcases hm with ⟨rfl,rfl⟩ | ⟨km,rfl,hm⟩
 ·rcases hh with ⟨rfl,_,rfl⟩ | ⟨kh,rfl,hh⟩
  ·rcases hl with ⟨rfl,rfl⟩ | ⟨kl,rfl,hl⟩
   ·simp [Instr.sliceBounds]
   ·have:(l:Int)≤h:=(by omega);simp [Instr.sliceBounds,Instr.sliceBound,asIntOf,nn,hl]
  ·rcases hl with ⟨rfl,rfl⟩ | ⟨kl,rfl,hl⟩
   ·simp [Instr.sliceBounds,Instr.sliceBound,asIntOf,nn,hh]
   ·simp [Instr.sliceBounds,Instr.sliceBound,asIntOf,nn,hh,hl]
 ·rcases hh with ⟨rfl,e,_⟩ | ⟨kh,rfl,hh⟩
  ·cases e
  ·rcases hl with ⟨rfl,rfl⟩ | ⟨kl,rfl,hl⟩
   ·simp [Instr.sliceBounds,Instr.sliceBound,asIntOf,nn,hm,hh]
   ·simp [Instr.sliceBounds,Instr.sliceBound,asIntOf,nn,hm,hh,hl]
theorem Yr {ev:Operand→AVal} {ec:Operand→Value} {o:Option Operand} {d n:Nat} {b:Bool} (h:z2m ev o d=some (n,b)) (hb:b=true) (hr: ∀x,o=some x→Ym ρ (ev x) (ec x)):
  (o=none∧n=d)∨ ∃k,o.map ec=some (.int k n):=by
 subst hb;unfold z2m at h;cases o with
 | none=>simp at h;exact .inl ⟨rfl,h.symm⟩
 | some x=>
  right;have hx:=hr x rfl;simp only at h;split at h
  ·rename_i k i e;simp only [Option.some.injEq,Prod.mk.injEq,decide_eq_true_eq] at h;obtain ⟨rfl,h0⟩:=h;rw [e] at hx;refine ⟨k,?_⟩;simp only [Option.map_some];rw [show ((i.toNat:Nat):Int)=i by omega];generalize ec x=u at hx ⊢;cases hx;rfl
  ·cases h
theorem x1f (c:Bool) (b o off k:Nat) (m l:Nat) (_:Nat.beq m l=c):(if m=l then some (⟨b,o+off,none⟩:Addr) else some ((⟨b,o+off,none⟩:Addr).add k))=some ⟨b,o+(bif Nat.beq m l then off else off+k),none⟩:=by
 by_cases h:m=l
 ·subst h;rw [if_pos rfl,show Nat.beq m m=true from Nat.beq_refl m];rfl
 ·rw [if_neg h,show Nat.beq m l=false from Bool.eq_false_iff.2 fun e=>h (Nat.eq_of_beq_eq_true e),Xa,Nat.add_assoc];rfl
theorem x4h {ev:Operand→AVal} {ec:Operand→Value} {t:TypeId} {x:Operand} {lo hi mx:Option Operand} {v:AVal} {b:Bool} (h:v2p P ev t x lo hi mx=some (v,b)) (hb:b=true)
  (hx:Ym ρ (ev x) (ec x)) (hlo: ∀y,lo=some y→Ym ρ (ev y) (ec y)) (hhi: ∀y,hi=some y→Ym ρ (ev y) (ec y)) (hmx: ∀y,mx=some y→Ym ρ (ev y) (ec y)):
  ∃z,Ym ρ v z∧ ∀w,(Instr.sliceAt t (ec x) (lo.map ec) (hi.map ec) (mx.map ec)).run P w=.ok z w:=by
 subst hb;unfold v2p at h;split at h
 ·rename_i e hu hev;rw [hev] at hx;split at h
  ·rename_i s l a hh b hs hl hh';simp only [Option.some.injEq,Prod.mk.injEq,Bool.and_eq_true] at h;obtain ⟨rfl,⟨⟨ha,hb⟩,h1⟩,h2⟩:=h;have e1:=Nat.eq_of_beq_eq_true h1;have e2:=Nat.eq_of_beq_eq_true h2;subst e1;subst e2;have q1:=Yr hl ha hlo;have q2:=Yr hh' hb hhi;generalize hw:ec x=u at hx;cases hx;refine ⟨_,.nils,fun w=> ?_⟩;have sb:=Yd (P:=P) true 0 0 0 0 0 (lo.map ec) (hi.map ec) none (.inl ⟨rfl,rfl⟩)
    (q2.elim (fun q=>.inl ⟨by rw [q.1];rfl,rfl,rfl⟩) (fun ⟨k,q⟩=>.inr ⟨k,q,Nat.le_refl _⟩)) (q1.elim (fun q=>.inl ⟨by rw [q.1];rfl,rfl⟩) (fun ⟨k,q⟩=>.inr ⟨k,q,Nat.le_refl _⟩))
   simp [Instr.sliceAt,Instr.slice,run_underlying hu,sb,Yy hs]
  ·cases h
 ·rename_i e b off len c hu hev;rw [hev] at hx;split at h
  ·rename_i s m x1 hh x2 l x3 hs hm hhi' hl;split at h
   ·cases h
   ·rename_i hno;simp only [Option.some.injEq,Prod.mk.injEq,Bool.and_eq_true] at h;obtain ⟨rfl,⟨⟨⟨⟨h1,h2⟩,h3⟩,h4⟩,h5⟩,h6⟩:=h;have h4:=Nat.le_of_ble_eq_true h4;have h5:=Nat.le_of_ble_eq_true h5;have h6:=Nat.le_of_ble_eq_true h6;have q0:=Yr hm h1 hmx;have q1:=Yr hl h3 hlo;have q2:=Yr hhi' h2 hhi;generalize hw:ec x=u at hx;cases hx with
    | sl _ _ _ _ lc c' hρ hc _=>
     simp only [z0j] at hc;subst hc;refine ⟨_,.sl _ _ _ _ lc _ hρ rfl (by omega),fun w=> ?_⟩;have sb:=Yd (P:=P) true len c' m hh l (lo.map ec) (hi.map ec) (mx.map ec) (q0.elim (fun q=>.inl ⟨by rw [q.1];rfl,q.2⟩) (fun ⟨k,q⟩=>.inr ⟨k,q,h4⟩))
      (q2.elim (fun q=>.inl ⟨by rw [q.1];rfl,by
       cases mx with
       | none=>rfl
       | some y=>exact absurd (by simp [q.1]) hno,q.2⟩) (fun ⟨k,q⟩=>.inr ⟨k,q,h5⟩)) (q1.elim (fun q=>.inl ⟨by rw [q.1];rfl,q.2⟩) (fun ⟨k,q⟩=>.inr ⟨k,q,h6⟩)) w
     simp [Instr.sliceAt,Instr.slice,run_underlying hu,sb,Yy hs];exact x1f _ _ _ _ _ _ _ rfl
  ·cases h
 ·rename_i e b off len zz hu hev;rw [hev] at hx;split at h
  ·rename_i s hh x2 l x3 hs hhi' hl;cases hz:Nat.beq zz s.size with
   | false=>rw [hz] at h;cases h
   | true=>
    rw [hz,cond_true] at h;have hz:=Nat.eq_of_beq_eq_true hz;rcases (by cases hlo':(Nat.beq hh l&&Nat.ble 1 l) with
      | true=>rw [hlo',cond_true] at h;exact .inl ⟨rfl,h⟩
      | false=>rw [hlo',cond_false] at h;exact .inr h:((Nat.beq hh l&&Nat.ble 1 l)=true∧some _=some _)∨(some _=some _)) with ⟨hq,h⟩ | h
    ·simp only [Option.some.injEq,Prod.mk.injEq,Bool.and_eq_true] at h hq;obtain ⟨rfl,⟨h2,h3⟩,h5⟩:=h;obtain rfl:=Nat.eq_of_beq_eq_true hq.1;have h5:=Nat.le_of_ble_eq_true h5;have q1:=Yr hl h3 hlo;have q2:=Yr hhi' h2 hhi;generalize hw:ec x=u at hx;cases hx with
     | sl _ _ _ _ lc c hρ hc eH=>
      have sb:=Yd (P:=P) true len c c hh hh (lo.map ec) (hi.map ec) none (.inl ⟨rfl,rfl⟩)
       (q2.elim (fun q=>.inl ⟨by rw [q.1];rfl,rfl,q.2⟩) (fun ⟨k,q⟩=>.inr ⟨k,q,by omega⟩)) (q1.elim (fun q=>.inl ⟨by rw [q.1];rfl,q.2⟩) (fun ⟨k,q⟩=>.inr ⟨k,q,Nat.le_refl _⟩))
      have e0: ∀(base:Nat),Ym ρ (.dat 0 fun _=>[]) (.slice (some ⟨lc.blk,base,none⟩) 0 (c - hh)):=fun base=>
       .dat 0 _ lc.blk base 0 (c - hh) (fun _ _=>undef) (Nat.zero_le _) (fun i hi=>absurd hi (Nat.not_lt_zero _)) (fun i j hi=>absurd hi (Nat.not_lt_zero _)) (fun i j hi=>absurd hi (Nat.not_lt_zero _))
      by_cases hcl:c=hh
      ·subst hcl;refine ⟨_,e0 (lc.base+off),fun w=> ?_⟩;simp [Instr.sliceAt,Instr.slice,run_underlying hu,sb,Yy hs]
      ·refine ⟨_,e0 (lc.base+off+hh*s.size),fun w=> ?_⟩;simp [Instr.sliceAt,Instr.slice,run_underlying hu,sb,Yy hs,if_neg hcl,Xa]
    simp only [Option.some.injEq,Prod.mk.injEq,Bool.and_eq_true,Bool.or_eq_true] at h;obtain ⟨rfl,⟨⟨⟨h2,h3⟩,h5⟩,h6⟩,h7⟩:=h;have h5:=Nat.le_of_ble_eq_true h5;have h6:=Nat.le_of_ble_eq_true h6;have q1:=Yr hl h3 hlo;have q2:=Yr hhi' h2 hhi;generalize hw:ec x=u at hx;cases hx with
    | sl _ _ _ _ lc c hρ hc eH=>
     simp only [z0j] at hc;have hlc:l≤c:=(by omega);have gK:l*s.size+(c - l)*zz=c*zz:=by rw [hz,←Nat.add_mul];congr 1;omega
     refine ⟨.slice (some ⟨lc.blk,lc.base+(off+l*s.size),none⟩) (hh - l) (c - l),.sl _ _ _ _ lc _ hρ ?_ (by omega),fun w=> ?_⟩
     ·simp only [z0j];omega
     ·have sb:=Yd (P:=P) true len c c hh l (lo.map ec) (hi.map ec) none (.inl ⟨rfl,rfl⟩)
       (q2.elim (fun q=>.inl ⟨by rw [q.1];rfl,rfl,q.2⟩) (fun ⟨k,q⟩=>.inr ⟨k,q,by omega⟩)) (q1.elim (fun q=>.inl ⟨by rw [q.1];rfl,q.2⟩) (fun ⟨k,q⟩=>.inr ⟨k,q,h6⟩)) w
      simp [Instr.sliceAt,Instr.slice,run_underlying hu,sb,Yy hs];by_cases hcl:c=l
      ·rw [if_pos hcl];rcases h7 with h7 | h7
       ·have:=Nat.le_of_ble_eq_true h7;omega
       ·have:=Nat.eq_of_beq_eq_true h7;subst this;simp
      ·rw [if_neg hcl,Xa,Nat.add_assoc]
  ·rename_i s y hh x2 l x3 hs hhi' hl;split at h
   ·rename_i m x1 hm;cases hz:(Nat.beq zz s.size&&hi.isSome) with
    | false=>rw [hz] at h;cases h
    | true=>
     rw [hz,cond_true] at h;simp only [Option.some.injEq,Prod.mk.injEq,Bool.and_eq_true] at h hz;obtain ⟨rfl,⟨⟨⟨⟨h1,h2⟩,h3⟩,h4⟩,h5⟩,h6⟩:=h;have h4:=Nat.le_of_ble_eq_true h4;have h5:=Nat.le_of_ble_eq_true h5;have h6:=Nat.le_of_ble_eq_true h6;have q0:=Yr hm h1 hmx;have q1:=Yr hl h3 hlo;have q2:=Yr hhi' h2 hhi;generalize hw:ec x=u at hx;cases hx with
     | sl _ _ _ _ lc c hρ _ eH=>
      refine ⟨_,.sl _ _ _ _ lc _ hρ rfl (by omega),fun w=> ?_⟩;have sb:=Yd (P:=P) true len c m hh l (lo.map ec) (hi.map ec) ((some y).map ec) (q0.elim (fun q=>by cases q.1) (fun ⟨k,q⟩=>.inr ⟨k,q,by omega⟩))
       (q2.elim (fun q=>by rw [q.1] at hz;simp at hz) (fun ⟨k,q⟩=>.inr ⟨k,q,h5⟩)) (q1.elim (fun q=>.inl ⟨by rw [q.1];rfl,q.2⟩) (fun ⟨k,q⟩=>.inr ⟨k,q,h6⟩)) w
      simp only [Option.map_some] at sb;simp [Instr.sliceAt,Instr.slice,run_underlying hu,sb,Yy hs];exact x1f _ _ _ _ _ _ _ rfl
   ·cases h
  ·cases h
 ·rename_i e b sz off len zz hu hev;rw [hev] at hx;split at h
  ·rename_i s hh x2 l x3 hs hhi' hl;cases hz:(Nat.beq zz s.size&&Nat.beq sz zz) with
   | false=>rw [hz] at h;cases h
   | true=>
    rw [hz,cond_true] at h;simp only [Bool.and_eq_true] at hz;have hz1:=Nat.eq_of_beq_eq_true hz.1;obtain rfl:=Nat.eq_of_beq_eq_true hz.2;subst hz1;rcases (by cases hlo':lo.isSome with
      | true=>rw [hlo',cond_true] at h;exact .inl h
      | false=>rw [hlo',cond_false] at h;exact .inr h:(some _=some _)∨(some _=some _)) with h | h
    ·simp only [Option.some.injEq,Prod.mk.injEq,Bool.and_eq_true,decide_eq_true_eq] at h;obtain ⟨rfl,h2,h3,h5,h6⟩:=h;have q1:=Yr hl h3 hlo;have q2:=Yr hhi' h2 hhi;generalize hw:ec x=u at hx;cases hx with
     | sla _ _ _ _ _ lc c hρ hc eH=>
      have hlc:l≤c:=(by omega);have sb:=Yd (P:=P) true len c c hh l (lo.map ec) (hi.map ec) none (.inl ⟨rfl,rfl⟩)
       (q2.elim (fun q=>.inl ⟨by rw [q.1];rfl,rfl,q.2⟩) (fun ⟨k,q⟩=>.inr ⟨k,q,by omega⟩)) (q1.elim (fun q=>.inl ⟨by rw [q.1];rfl,q.2⟩) (fun ⟨k,q⟩=>.inr ⟨k,q,h6⟩))
      by_cases hcl:c=l
      ·subst hcl;have e0:hh - c=0:=(by omega);rw [e0];refine ⟨_,.slve _ _ _ lc.blk (lc.base+off*s.size) (c - c),fun w=> ?_⟩;simp [Instr.sliceAt,Instr.slice,run_underlying hu,sb,Yy hs,e0]
      ·refine ⟨_,.slv _ _ _ _ lc (c - l) hρ (by omega),fun w=> ?_⟩;simp [Instr.sliceAt,Instr.slice,run_underlying hu,sb,Yy hs,if_neg hcl,Xa,Nat.add_mul,Nat.add_assoc]
     | slan=>
      obtain rfl:hh=0:=by omega
      obtain rfl:l=0:=by omega
      refine ⟨_,.slvn _ _ _,fun w=> ?_⟩;have sb:=Yd (P:=P) true 0 0 0 0 0 (lo.map ec) (hi.map ec) none (.inl ⟨rfl,rfl⟩)
       (q2.elim (fun q=>.inl ⟨by rw [q.1];rfl,rfl,rfl⟩) (fun ⟨k,q⟩=>.inr ⟨k,q,Nat.le_refl _⟩)) (q1.elim (fun q=>.inl ⟨by rw [q.1];rfl,rfl⟩) (fun ⟨k,q⟩=>.inr ⟨k,q,Nat.le_refl _⟩))
      simp [Instr.sliceAt,Instr.slice,run_underlying hu,sb,Yy hs]
    simp only [Option.some.injEq,Prod.mk.injEq,Bool.and_eq_true,Bool.or_eq_true,decide_eq_true_eq] at h;obtain ⟨rfl,h2,h3,h5,h6,h7⟩:=h;have q1:=Yr hl h3 hlo;have q2:=Yr hhi' h2 hhi;generalize hw:ec x=u at hx;cases hx with
    | sla _ _ _ _ _ lc c hρ hc eH=>
     simp only [z0j] at hc;have hlc:l≤c:=(by omega);have gK:l*s.size+(c - l)*s.size=c*s.size:=by rw [←Nat.add_mul];congr 1;omega
     have hmul2:(off+l)*s.size=off*s.size+l*s.size:=Nat.add_mul _ _ _;refine ⟨.slice (some ⟨lc.blk,lc.base+(off+l)*s.size,none⟩) (hh - l) (c - l),.sla _ _ _ _ _ lc _ hρ ?_ (by omega),fun w=> ?_⟩
     ·simp only [z0j];omega
     ·have sb:=Yd (P:=P) true len c c hh l (lo.map ec) (hi.map ec) none (.inl ⟨rfl,rfl⟩)
       (q2.elim (fun q=>.inl ⟨by rw [q.1];rfl,rfl,q.2⟩) (fun ⟨k,q⟩=>.inr ⟨k,q,by omega⟩)) (q1.elim (fun q=>.inl ⟨by rw [q.1];rfl,q.2⟩) (fun ⟨k,q⟩=>.inr ⟨k,q,h6⟩)) w
      simp [Instr.sliceAt,Instr.slice,run_underlying hu,sb,Yy hs];by_cases hcl:c=l
      ·rw [if_pos hcl];rcases h7 with h7 | h7
       ·omega
       ·have:=Nat.eq_of_beq_eq_true h7;subst this;simp
      ·rw [if_neg hcl,Xa,hmul2,Nat.add_assoc]
    | slan=>
     obtain rfl:hh=0:=by omega
     obtain rfl:l=0:=by omega
     refine ⟨_,.slan _ _ _ _,fun w=> ?_⟩;have sb:=Yd (P:=P) true 0 0 0 0 0 (lo.map ec) (hi.map ec) none (.inl ⟨rfl,rfl⟩)
      (q2.elim (fun q=>.inl ⟨by rw [q.1];rfl,rfl,rfl⟩) (fun ⟨k,q⟩=>.inr ⟨k,q,Nat.le_refl _⟩)) (q1.elim (fun q=>.inl ⟨by rw [q.1];rfl,rfl⟩) (fun ⟨k,q⟩=>.inr ⟨k,q,Nat.le_refl _⟩))
     simp [Instr.sliceAt,Instr.slice,run_underlying hu,sb,Yy hs]
  ·cases h
 ·rename_i e b sz off len hu hev;rw [hev] at hx;split at h
  ·rename_i s hh x2 l x3 hs hhi' hl;cases hz:Nat.beq sz s.size with
   | false=>rw [hz] at h;cases h
   | true=>
    rw [hz,cond_true] at h;obtain rfl:=Nat.eq_of_beq_eq_true hz;simp only [Option.some.injEq,Prod.mk.injEq,Bool.and_eq_true,decide_eq_true_eq] at h;obtain ⟨rfl,h2,h3,h5,h6⟩:=h;have q1:=Yr hl h3 hlo;have q2:=Yr hhi' h2 hhi;generalize hw:ec x=u at hx;cases hx with
    | slv _ _ _ _ lc c hρ eH=>
     have hlc:l≤c:=(by omega);have sb:=Yd (P:=P) true len c c hh l (lo.map ec) (hi.map ec) none (.inl ⟨rfl,rfl⟩)
      (q2.elim (fun q=>.inl ⟨by rw [q.1];rfl,rfl,q.2⟩) (fun ⟨k,q⟩=>.inr ⟨k,q,by omega⟩)) (q1.elim (fun q=>.inl ⟨by rw [q.1];rfl,q.2⟩) (fun ⟨k,q⟩=>.inr ⟨k,q,h6⟩))
     by_cases hcl:c=l
     ·subst hcl;have e0:hh - c=0:=(by omega);rw [e0];refine ⟨_,.slve _ _ _ lc.blk (lc.base+off*s.size) (c - c),fun w=> ?_⟩;simp [Instr.sliceAt,Instr.slice,run_underlying hu,sb,Yy hs,e0]
     ·refine ⟨_,.slv _ _ _ _ lc (c - l) hρ (by omega),fun w=> ?_⟩;simp [Instr.sliceAt,Instr.slice,run_underlying hu,sb,Yy hs,if_neg hcl,Xa,Nat.add_mul,Nat.add_assoc]
    | slve _ _ _ blk base c=>
     obtain rfl:hh=0:=by omega
     obtain rfl:l=0:=by omega
     have sb:=Yd (P:=P) true 0 c c 0 0 (lo.map ec) (hi.map ec) none (.inl ⟨rfl,rfl⟩)
      (q2.elim (fun q=>.inl ⟨by rw [q.1];rfl,rfl,rfl⟩) (fun ⟨k,q⟩=>.inr ⟨k,q,Nat.zero_le _⟩)) (q1.elim (fun q=>.inl ⟨by rw [q.1];rfl,rfl⟩) (fun ⟨k,q⟩=>.inr ⟨k,q,Nat.le_refl _⟩))
     refine ⟨_,.slve _ _ _ blk base c,fun w=> ?_⟩;by_cases hc0:c=0
     ·subst hc0;simp [Instr.sliceAt,Instr.slice,run_underlying hu,sb,Yy hs]
     ·simp [Instr.sliceAt,Instr.slice,run_underlying hu,sb,Yy hs,hc0,Xa]
    | slvn=>
     obtain rfl:hh=0:=by omega
     obtain rfl:l=0:=by omega
     refine ⟨_,.slvn _ _ _,fun w=> ?_⟩;have sb:=Yd (P:=P) true 0 0 0 0 0 (lo.map ec) (hi.map ec) none (.inl ⟨rfl,rfl⟩)
      (q2.elim (fun q=>.inl ⟨by rw [q.1];rfl,rfl,rfl⟩) (fun ⟨k,q⟩=>.inr ⟨k,q,Nat.le_refl _⟩)) (q1.elim (fun q=>.inl ⟨by rw [q.1];rfl,rfl⟩) (fun ⟨k,q⟩=>.inr ⟨k,q,Nat.le_refl _⟩))
     simp [Instr.sliceAt,Instr.slice,run_underlying hu,sb,Yy hs]
  ·cases h
 ·rename_i e len get hu hev;rw [hev] at hx;split at h
  ·rename_i s hh x2 l x3 hs hhi' hl;simp only [Option.some.injEq,Prod.mk.injEq,Bool.and_eq_true,decide_eq_true_eq] at h;obtain ⟨rfl,h2,h3,h5,h6,h7⟩:=h;have h7:= @of_decide_eq_true _ (Classical.propDecidable _) h7;have q1:=Yr hl h3 hlo;have q2:=Yr hhi' h2 hhi;generalize hw:ec x=u at hx;cases hx with
   | dat _ _ blk base sz c val eN hsz hv hh'=>
    have hlc:l≤c:=(by omega);have sb:=Yd (P:=P) true len c c hh l (lo.map ec) (hi.map ec) none (.inl ⟨rfl,rfl⟩)
     (q2.elim (fun q=>.inl ⟨by rw [q.1];rfl,rfl,q.2⟩) (fun ⟨k,q⟩=>.inr ⟨k,q,by omega⟩)) (q1.elim (fun q=>.inl ⟨by rw [q.1];rfl,q.2⟩) (fun ⟨k,q⟩=>.inr ⟨k,q,h6⟩))
    by_cases hcl:c=l
    ·subst hcl;have e0:hh - c=0:=(by omega);rw [e0];refine ⟨_,.dat 0 _ blk base s.size (c - c) (fun _ _=>undef) (Nat.zero_le _) (fun i hi=>absurd hi (Nat.not_lt_zero _)) (fun i j hi=>absurd hi (Nat.not_lt_zero _)) (fun i j hi=>absurd hi (Nat.not_lt_zero _)),fun w=> ?_⟩;simp [Instr.sliceAt,Instr.slice,run_underlying hu,sb,Yy hs,e0]
    ·refine ⟨_,.dat (hh - l) (fun k=>get (l+k)) blk (base+l*s.size) s.size (c - l) (fun k=>val (l+k)) (by omega) (fun i hi=>h7 _ (by omega)) (fun i j hi hj=>hv _ j (by omega) hj) (fun i j hi hj=> ?_),fun w=> ?_⟩
     ·have hlt:l+i<len:=(by omega);have hse:sz=s.size:=by rw [←hsz _ hlt];exact h7 _ hlt
      have:=hh' (l+i) j hlt (by omega);rw [hse,Nat.add_mul,Nat.add_assoc,←Nat.add_assoc base] at this;exact this
     ·simp [Instr.sliceAt,Instr.slice,run_underlying hu,sb,Yy hs,if_neg hcl,Xa]
   | datn=>
    obtain rfl:hh=0:=by omega
    obtain rfl:l=0:=by omega
    refine ⟨_,.datn _,fun w=> ?_⟩;have sb:=Yd (P:=P) true 0 0 0 0 0 (lo.map ec) (hi.map ec) none (.inl ⟨rfl,rfl⟩)
     (q2.elim (fun q=>.inl ⟨by rw [q.1];rfl,rfl,rfl⟩) (fun ⟨k,q⟩=>.inr ⟨k,q,Nat.le_refl _⟩)) (q1.elim (fun q=>.inl ⟨by rw [q.1];rfl,rfl⟩) (fun ⟨k,q⟩=>.inr ⟨k,q,Nat.le_refl _⟩))
    simp [Instr.sliceAt,Instr.slice,run_underlying hu,sb,Yy hs]
   | datz _ a c=>
    obtain rfl:hh=0:=by omega
    obtain rfl:l=0:=by omega
    have sb:=Yd (P:=P) true 0 c c 0 0 (lo.map ec) (hi.map ec) none (.inl ⟨rfl,rfl⟩)
     (q2.elim (fun q=>.inl ⟨by rw [q.1];rfl,rfl,rfl⟩) (fun ⟨k,q⟩=>.inr ⟨k,q,Nat.zero_le _⟩)) (q1.elim (fun q=>.inl ⟨by rw [q.1];rfl,rfl⟩) (fun ⟨k,q⟩=>.inr ⟨k,q,Nat.le_refl _⟩))
    by_cases hc0:c=0
    ·subst hc0;refine ⟨_,.datz _ a 0,fun w=> ?_⟩;simp [Instr.sliceAt,Instr.slice,run_underlying hu,sb,Yy hs]
    ·refine ⟨_,.datz _ (a.add (0*s.size)) c,fun w=> ?_⟩;simp [Instr.sliceAt,Instr.slice,run_underlying hu,sb,Yy hs,hc0]
  ·cases h
 ·rename_i n e b off hu hev;rw [hev] at hx;split at h
  ·rename_i s m x1 hh x2 l x3 hs hm hhi' hl;split at h
   ·cases h
   ·rename_i hno;simp only [Option.some.injEq,Prod.mk.injEq,Bool.and_eq_true] at h;obtain ⟨rfl,⟨⟨⟨⟨h1,h2⟩,h3⟩,h4⟩,h5⟩,h6⟩:=h;have h4:=Nat.le_of_ble_eq_true h4;have h5:=Nat.le_of_ble_eq_true h5;have h6:=Nat.le_of_ble_eq_true h6;have q0:=Yr hm h1 hmx;have q1:=Yr hl h3 hlo;have q2:=Yr hhi' h2 hhi;generalize hw:ec x=u at hx;cases hx with
    | ptr _ _ lc hρ=>
     refine ⟨_,.sl _ _ _ _ lc _ hρ rfl (by omega),fun w=> ?_⟩;have sb:=Yd (P:=P) false n n m hh l (lo.map ec) (hi.map ec) (mx.map ec) (q0.elim (fun q=>.inl ⟨by rw [q.1];rfl,q.2⟩) (fun ⟨k,q⟩=>.inr ⟨k,q,h4⟩))
      (q2.elim (fun q=>.inl ⟨by rw [q.1];rfl,by
       cases mx with
       | none=>rfl
       | some y=>exact absurd (by simp [q.1]) hno,q.2⟩) (fun ⟨k,q⟩=>.inr ⟨k,q,h5⟩)) (q1.elim (fun q=>.inl ⟨by rw [q.1];rfl,q.2⟩) (fun ⟨k,q⟩=>.inr ⟨k,q,h6⟩)) w
     have bb:=x1f _ lc.blk lc.base off (l*s.size) m l rfl;simp [Instr.sliceAt,run_underlying hu,Instr.sureAddr,sb,Yy hs];split
     ·rename_i e;simp [e]
     ·rename_i e;simp only [if_neg e] at bb;simpa using bb
  ·cases h
 ·cases h
def z5r (ρ:Rho) (ev:Operand→AVal) (ec:Operand→Value) (op:Op):Prop:= ∀x,x∈op.operands→Ym ρ (ev x) (ec x)
theorem y3p {ev:Operand→AVal} {ec:Operand→Value}: ∀(ps:List (Nat×Operand)),(∀p∈ps,Ym ρ (ev p.2) (ec p.2))→y2s ρ (ps.map fun p=>(p.1,ev p.2)) (ps.map fun p=>(p.1,ec p.2)):=fun ps h=>
 Vj.maps _ _ ps fun p hp=>⟨rfl,h p hp⟩
theorem y5h {o:Oper} {ev:Operand→AVal} {ec:Operand→Value} {v:AVal} {b:Bool} (h:Kf P o.op ev=some (v,b)) (hb:b=true) (hr:z5r ρ ev ec o.op):
  ∃u,Ym ρ v u∧ ∀w,(execOp ec o).run P w=.ok (.value u) w:=by
 obtain ⟨dst,op,type,pos,after,guard⟩:=o;simp only at h hr ⊢;have lift: ∀{s:Sem Value},(∃z,Ym ρ v z∧ ∀w,s.run P w=.ok z w)→(∀w,(execOp ec ⟨dst,op,type,pos,after,guard⟩).run P w=(do pure (.value (←s)):Sem Next).run P w)→
   ∃u,Ym ρ v u∧ ∀w,(execOp ec ⟨dst,op,type,pos,after,guard⟩).run P w=.ok (.value u) w:=by
  intro s ⟨z,hz,hs⟩ he;exact ⟨z,hz,fun w=>by rw [he];simp [hs]⟩
 cases op with
 | move x=>simp only [Kf,Option.some.injEq,Prod.mk.injEq] at h;obtain ⟨rfl,_⟩:=h;exact ⟨ec x,hr x (by simp [Op.operands]),fun w=>rfl⟩
 | assign x=>simp only [Kf,Option.some.injEq,Prod.mk.injEq] at h;obtain ⟨rfl,_⟩:=h;exact ⟨ec x,hr x (by simp [Op.operands]),fun w=>rfl⟩
 | pick c x y=>
  have hc:=hr c (by simp [Op.operands]);have hx:=hr x (by simp [Op.operands]);have hy:=hr y (by simp [Op.operands]);unfold Kf at h;simp only at h;split at h
  ·rename_i cb e;rw [e] at hc;generalize hw:ec c=u at hc;cases hc;simp only [Option.some.injEq,Prod.mk.injEq] at h;obtain ⟨rfl,_⟩:=h;cases cb
   ·exact ⟨ec y,hy,fun w=>by simp [execOp,hw,asBool]⟩
   ·exact ⟨ec x,hx,fun w=>by simp [execOp,hw,asBool]⟩
  ·cases h
 | build t parts=>
  simp only [Kf,Option.map_eq_some_iff,Prod.mk.injEq] at h;obtain ⟨v',hv,rfl,_⟩:=h;refine lift (x4m hv (y3p _ fun p hp=>hr p.2 ?_)) fun w=> ?_
  ·simp only [Op.operands,List.mem_toArray,List.mem_map];exact ⟨p,hp,rfl⟩
  ·have:(parts.map fun (i,x)=>(i,ec x))=(parts.toList.map fun p=>(p.1,ec p.2)).toArray :=by apply Array.ext';simp
   simp only [execOp,this]
 | nilCheck x=>
  have hx:=hr x (by simp [Op.operands]);unfold Kf at h;simp only at h;split at h;all_goals first
   | (rename_i e
      rw [e] at hx;simp only [Option.some.injEq,Prod.mk.injEq] at h;obtain ⟨rfl,_⟩:=h;refine ⟨ec x,hx,fun w=> ?_⟩;generalize hw:ec x=u at hx;cases hx <;> simp [execOp,hw])
   | cases h
 | binOp op t x y yt=>have hx:=hr x (by simp [Op.operands]);have hy:=hr y (by simp [Op.operands]);exact lift (w5n (by simpa only [Kf] using h) hb hx hy x y) fun w=>rfl
 | unOp op t x=>have hx:=hr x (by simp [Op.operands]);simp only [Kf,Option.map_eq_some_iff,Prod.mk.injEq] at h;obtain ⟨v',hv,rfl,_⟩:=h;exact lift (v2o hv hx) fun w=>rfl
 | convert src dst' x=>
  have hx:=hr x (by simp [Op.operands]);unfold Kf at h;simp only at h;split at h
  ·rename_i sd k k' n hs hu e;rw [e] at hx;generalize hw:ec x=u at hx;cases hx;simp only [Option.some.injEq,Prod.mk.injEq] at h;obtain ⟨rfl,_⟩:=h;refine ⟨_,.int _ _,fun w=> ?_⟩;cases sd <;> simp [execOp,Go.convert,hw,run_underlying hs,run_underlying hu,Conv.intToInt]
  ·cases h
 | makeInterface t x=>
  have hx:=hr x (by simp [Op.operands]);unfold Kf at h;simp only at h;split at h
  ·cases h
  ·cases h
  ·rename_i d hni hu;simp only [Option.some.injEq,Prod.mk.injEq] at h;obtain ⟨rfl,_⟩:=h;refine ⟨_,.ifc t _ _ hx,fun w=> ?_⟩;cases d <;> first | exact absurd rfl (hni _) | simp [execOp,Instr.makeInterface,run_underlying hu]
 | makeFunc fn first captured=>
  cases fn with
  | func f=>
   unfold Kf at h;simp only at h;cases hf:first.isEmpty with
   | false=>
    rw [hf,cond_false] at h;cases hc:captured.isEmpty with
    | false=>rw [hc] at h;cases h
    | true=>
     rw [hc,cond_true] at h;simp only [Option.some.injEq,Prod.mk.injEq] at h;obtain ⟨rfl,_⟩:=h;have hc:captured= #[]:=(by simpa using hc);subst hc;refine ⟨_,.fnb f _ (first.map ec) (by simp) fun i h1 h2=> ?_,fun w=>by simp [execOp,Instr.makeFunc]⟩;have:i<first.size:=by simpa using h2
     simpa using hr first[i] (by simp [Op.operands])
   | true=>
    rw [hf,cond_true] at h;simp only [Option.some.injEq,Prod.mk.injEq] at h;obtain ⟨rfl,_⟩:=h;have hf:first= #[]:=by simpa using hf
    subst hf;refine ⟨_,.fn f _ (captured.map ec) (by simp) fun i h1 h2=> ?_,fun w=>by simp [execOp,Instr.makeFunc]⟩;have:i<captured.size:=by simpa using h2
    simpa using hr captured[i] (by simp [Op.operands])
  | _=>simp [Kf] at h
 | fieldAddr t x f=>have hx:=hr x (by simp [Op.operands]);simp only [Kf,Option.map_eq_some_iff,Prod.mk.injEq] at h;obtain ⟨v',hv,rfl,_⟩:=h;exact lift (y0y hv hx) fun w=>rfl
 | field t x f=>have hx:=hr x (by simp [Op.operands]);simp only [Kf,Option.map_eq_some_iff,Prod.mk.injEq] at h;obtain ⟨v',hv,rfl,_⟩:=h;exact lift (x4j hv hx) fun w=>rfl
 | indexAddr t x i=>have hx:=hr x (by simp [Op.operands]);have hi:=hr i (by simp [Op.operands]);exact lift (y0x (by simpa only [Kf] using h) hb hx hi) fun w=>rfl
 | index t x i=>have hx:=hr x (by simp [Op.operands]);have hi:=hr i (by simp [Op.operands]);exact lift (x4i (by simpa only [Kf] using h) hb hx hi) fun w=>rfl
 | extract x i=>
  have hx:=hr x (by simp [Op.operands]);unfold Kf at h;simp only at h;split at h
  ·rename_i vs e;rw [e] at hx;simp only [Option.map_eq_some_iff,Prod.mk.injEq] at h;obtain ⟨v',hv,rfl,_⟩:=h;obtain ⟨hlt,rfl⟩:=List.getElem?_eq_some_iff.1 hv;generalize hw:ec x=u at hx;cases hx with
   | tup _ us hl hh=>have h2:i<us.size:=(by omega);exact ⟨us[i],hh i hlt h2,fun w=>by simp [execOp,Instr.extract,hw,h2]⟩
  ·cases h
 | slice t x lo hi mx=>
  refine lift (x4h (by simpa only [Kf] using h) hb (hr x (by simp [Op.operands])) (fun y hy=>hr y ?_) (fun y hy=>hr y ?_) (fun y hy=>hr y ?_)) fun w=>rfl;all_goals (subst hy;simp [Op.operands])
 | call c=>
  obtain ⟨callee,args,argTypes⟩:=c;cases callee with
  | builtin bi=>
   simp only [Kf,Option.map_eq_some_iff,Prod.mk.injEq] at h;obtain ⟨v',hv,rfl,_⟩:=h;obtain ⟨z,hz,hs⟩:=y5z (ts:=argTypes) (us:=args.map ec) (type:=type) hv (by
    rw [Array.toList_map];exact Vj.maps _ _ _ fun a ha=>hr a (by simp [Op.operands,Call.operands];exact Array.mem_toList_iff.1 ha))
   exact ⟨z,hz,fun w=>by simp [execOp,resolve,invoke,hs]⟩
  | value f=>simp [Kf] at h
  | invoke r m=>simp [Kf] at h
 | _=>simp [Kf] at h
end
end Go.Am
namespace Go.Am
section
variable {P:Program} {ρ:Rho}
def z6l (ρ:Rho) (w:World) (blk o:Nat) (cs:List AVal):Prop:=
 ∀(i:Nat) (h:i<cs.length),∃v,w.cell? ⟨blk,o+i,none⟩=some v∧Ym ρ cs[i] v
theorem Rel.cellsAt {mem:Mem} {next:Nat} {w:World} (h:Rel ρ mem next w) {b:Nat} {l:Loc} {ab:ABlk} (hb:ρ b=some l) (hm:Xv mem b=some ab):z6l ρ w l.blk l.base ab.cells:=by obtain ⟨_,_,_,cs,el,h1,h2,h3⟩:=h.blk b l ab hb hm;intro i hi;obtain ⟨v,e,f⟩:=h3 i hi;exact ⟨v,by simp [World.cell?,h1,e],f⟩
theorem Rel.dataAt {mem:Mem} {next:Nat} {w:World} (h:Rel ρ mem next w) {cs:List AVal} {blk base:Nat} {val:Nat→Value} (hv: ∀(j:Nat) (hj:j<cs.length),Ym ρ.bare cs[j] (val j))
  (hh: ∀j,j<cs.length→x4s ρ.fz blk (base+j) (val j)):z6l ρ w blk base cs:=by
 intro i hi;obtain ⟨arr,el,fz,e,f⟩:=hh i hi;have:=h.old _ _ e;exact ⟨val i,by simp [World.cell?,this,f],(hv i hi).mono (x1g ρ)⟩
theorem z6l.load {w:World} {blk o:Nat} {cs:List AVal} (h:z6l ρ w blk o cs) {off n:Nat} (hn:off+n≤cs.length∨n=0):
  ∃vs:Array Value,vs.size=n∧(∀(i:Nat) (h1:off+i<cs.length) (h2:i<vs.size),Ym ρ cs[off+i] vs[i])∧(loadCells ⟨blk,o+off,none⟩ n).run P w=.ok vs w:=by
 have hc: ∀j,j<n→w.cell? ((⟨blk,o+off,none⟩:Addr).add j)=some ((w.cell? ⟨blk,o+(off+j),none⟩).getD undef):=by intro j hj;obtain ⟨v,e,_⟩:=h (off+j) (by omega);rw [Xa,Nat.add_assoc,e];rfl
 refine ⟨_,?_,?_,run_loadCells w _ n (fun j=>(w.cell? ⟨blk,o+(off+j),none⟩).getD undef) hc⟩
 ·simp
 ·intro i h1 h2;obtain ⟨v,e,f⟩:=h (off+i) h1
  simpa [e] using f
theorem z6l.part {w:World} {blk o:Nat} {cs:List AVal} (h:z6l ρ w blk o cs) {t:TypeId} {off:Nat} {v:AVal} (hp:z1j P t cs off=some v):
  ∃z,Ym ρ v z∧(loadVar t ⟨blk,o+off,none⟩).run P w=.ok z w:=by
 unfold z1j at hp;split at hp
 ·rename_i i ha hi;simp only [Option.map_eq_some_iff] at hp;obtain ⟨p,hc,rfl⟩:=hp;obtain ⟨_,hl,hle⟩:=z5d hc;obtain ⟨vs,hs,hv,hr⟩:=h.load (P:=P) (off:=off) (n:=i.size) (by omega);refine ⟨.agg vs,.agg _ _ (by omega) fun j h1 h2=> ?_,?_⟩
  ·obtain ⟨h3,e⟩:=x8p hc j h1;rw [e];exact hv j h3 h2
  ·simp [loadVar,z4x ha,Yy hi,hr]
 ·rename_i i ha hi;obtain ⟨hlt,rfl⟩:=List.getElem?_eq_some_iff.1 hp;obtain ⟨v,e,f⟩:=h off hlt;exact ⟨v,f,by simp [loadVar,z4x ha,e]⟩
 ·cases hp
theorem y5j {mem:Mem} {next:Nat} {w:World} (h:Rel ρ mem next w) {t:TypeId} {x v:AVal} {u:Value} (hl:x9d P mem t x=some v) (hx:Ym ρ x u):
  ∃z,Ym ρ v z∧(Instr.loadAt t u).run P w=.ok z w:=by
 unfold x9d at hl;split at hl
 ·split at hl
  ·rename_i b off _ blk hm;cases hx with
   | ptr _ _ l hρ=>obtain ⟨z,hz,hr⟩:=(h.cellsAt hρ hm).part hl;exact ⟨z,hz,by simp [Instr.loadAt,Instr.sureAddr,hr]⟩
  ·cases hl
 ·cases hx with
  | dptr _ blk base val hv hh=>obtain ⟨z,hz,hr⟩:=(h.dataAt hv hh).part hl;exact ⟨z,hz,by simpa [Instr.loadAt,Instr.sureAddr] using hr⟩
 ·cases hl
theorem z6w (n:Nat) (get:Nat→List AVal):rows (n+1) get=rows n get++get n:=by unfold rows;rw [List.range_succ,List.flatMap_append];simp
theorem Ya {get:Nat→List AVal} {sz:Nat}: ∀(n:Nat),(∀i,i<n→(get i).length =sz)→(rows n get).length =n*sz
 | 0,_=>by simp [rows]
 | n+1,h=>by rw [z6w,List.length_append,Ya n fun i hi=>h i (by omega),h n (by omega),Nat.add_mul,Nat.one_mul]
theorem Wo {get:Nat→List AVal} {sz:Nat}: ∀(n:Nat),(∀i,i<n→(get i).length =sz)→ ∀(r j:Nat),r<n→j<sz→(rows n get)[r*sz+j]? =(get r)[j]?
 | 0,_,r,j,hr,_=>by omega
 | n+1,h,r,j,hr,hj=>by
  have hl:=Ya n fun i hi=>h i (by omega);rw [z6w];by_cases e:r=n
  ·subst e;rw [List.getElem?_append_right (by omega),hl]
   congr 1;omega
  ·have hlt:r<n:=by omega
   have:(r+1)*sz≤n*sz:=Nat.mul_le_mul_right sz hlt;rw [Nat.add_mul,Nat.one_mul] at this;rw [List.getElem?_append_left (by omega)];exact Wo n (fun i hi=>h i (by omega)) r j hlt hj
theorem Rel.rowAt {mem:Mem} {next:Nat} {w:World} (h:Rel ρ mem next w) {b:Nat} {l:Loc} {ab:ABlk} {A:Arr} (hb:ρ b=some l) (hm:Xv mem b=some ab) (hA:ab.arr=some A) {r:Nat} (hr:r<A.n):z6l ρ w l.blk (l.base+r*A.sz) (A.get r):=by obtain ⟨_,_,har,_⟩:=h.blk b l ab hb hm;obtain ⟨e1,_,e3⟩:=har A hA;intro i hi;have hsz:=e3 r hr;have hg:=Wo A.n e3 r i hr (by omega);rw [List.getElem?_eq_getElem hi,←e1] at hg;obtain ⟨hlt,hge⟩:=List.getElem?_eq_some_iff.1 hg;obtain ⟨v,e,f⟩:=h.cellsAt hb hm (r*A.sz+i) hlt;rw [hge] at f;exact ⟨v,by rw [Nat.add_assoc];exact e,f⟩
theorem y0m {mem:Mem} {next:Nat} {w:World} (h:Rel ρ mem next w) {t:TypeId} {x v:AVal} {u:Value} (hl:y5k P mem t x=some (v,true)) (hx:Ym ρ x u):
  ∃z,Ym ρ v z∧(Instr.loadAt t u).run P w=.ok z w:=by
 unfold y5k at hl;split at hl
 ·split at hl
  ·rename_i b sz r fo _ blk hm;split at hl
   ·rename_i A hA;simp only [Option.map_eq_some_iff,Prod.mk.injEq,Bool.and_eq_true,decide_eq_true_eq] at hl;obtain ⟨v',hp,rfl,hs,hr⟩:=hl;obtain rfl:=Nat.eq_of_beq_eq_true hs;cases hx with
    | epa _ _ _ _ l hρ=>obtain ⟨z,hz,eI⟩:=(h.rowAt hρ hm hA hr).part hp;rw [Nat.add_assoc] at eI;exact ⟨z,hz,by simp [Instr.loadAt,Instr.sureAddr,eI]⟩
   ·cases hl
  ·cases hl
 ·simp only [Option.map_eq_some_iff,Prod.mk.injEq,and_true] at hl;obtain ⟨v',hl,rfl⟩:=hl;exact y5j h hl hx
theorem y2u {st st':St} {b e:Bool} (h:st.test b=(e,st')):st'.env=st.env∧st'.mem=st.mem∧st'.next=st.next∧(st'.ob=true→e=b∧st.ob=true):=by
 obtain ⟨env,mem,next,orc,ob⟩:=st;cases orc with
 | nil=>simp only [St.test,Prod.mk.injEq] at h;obtain ⟨rfl,rfl⟩:=h;exact ⟨rfl,rfl,rfl,fun h=>⟨rfl,h⟩⟩
 | cons c r=>simp only [St.test,Prod.mk.injEq] at h;obtain ⟨rfl,rfl⟩:=h;refine ⟨rfl,rfl,rfl,fun h=> ?_⟩;simp only [Bool.and_eq_true,beq_iff_eq] at h;exact ⟨h.1.symm,h.2⟩
theorem z0q : ∀(rw:Rws) (r:Nat) (st:St) (cs:List AVal) (st1:St),z3s rw r st=(cs,st1)→st1.env=st.env∧st1.mem=st.mem∧st1.next=st.next∧(st1.ob=true→cs=rw.get r∧st.ob=true)
 | .flat g,r,st,cs,st1,h=>by simp only [z3s,Prod.mk.injEq] at h;obtain ⟨rfl,rfl⟩:=h;exact ⟨rfl,rfl,rfl,fun h=>⟨rfl,h⟩⟩
 | .one r0 c0 b,r,st,cs,st1,h=>by
  unfold z3s at h;split at h;rename_i e st2 ht;obtain ⟨t1,t2,t3,t4⟩:=y2u ht;cases e with
  | true=>simp only [cond_true,Prod.mk.injEq] at h;obtain ⟨rfl,rfl⟩:=h;exact ⟨t1,t2,t3,fun ho=>⟨by simp only [Rws.get];rw [←(t4 ho).1];rfl,(t4 ho).2⟩⟩
  | false=>rw [cond_false] at h;obtain ⟨p1,p2,p3,p4⟩:=z0q b r st2 cs st1 h;refine ⟨p1.trans t1,p2.trans t2,p3.trans t3,fun ho=> ?_⟩;obtain ⟨q1,q2⟩:=p4 ho;exact ⟨by simp only [Rws.get];rw [←(t4 q2).1];exact q1,(t4 q2).2⟩
 | .alt c a b,r,st,cs,st1,h=>by
  unfold z3s at h;split at h;rename_i e st2 ht;obtain ⟨t1,t2,t3,t4⟩:=y2u ht;cases e with
  | true=>rw [cond_true] at h;obtain ⟨p1,p2,p3,p4⟩:=z0q a r st2 cs st1 h;refine ⟨p1.trans t1,p2.trans t2,p3.trans t3,fun ho=> ?_⟩;obtain ⟨q1,q2⟩:=p4 ho;exact ⟨by simp only [Rws.get];rw [←(t4 q2).1];exact q1,(t4 q2).2⟩
  | false=>rw [cond_false] at h;obtain ⟨p1,p2,p3,p4⟩:=z0q b r st2 cs st1 h;refine ⟨p1.trans t1,p2.trans t2,p3.trans t3,fun ho=> ?_⟩;obtain ⟨q1,q2⟩:=p4 ho;exact ⟨by simp only [Rws.get];rw [←(t4 q2).1];exact q1,(t4 q2).2⟩
theorem z2n {st st1:St} {t:TypeId} {x v:AVal} {o:Bool} (h:v2q P st t x=some (v,o,st1)):st1.env=st.env∧st1.mem=st.mem∧st1.next=st.next∧(st1.ob=true→y5k P st.mem t x=some (v,o)∧st.ob=true):=by
 unfold v2q at h;split at h
 ·split at h
  ·rename_i b sz r fo _ blk hm;split at h
   ·rename_i A hA;split at h;rename_i cs st2 hp;simp only [Option.map_eq_some_iff,Prod.mk.injEq] at h;obtain ⟨v',hv,rfl,rfl,rfl⟩:=h;obtain ⟨p1,p2,p3,p4⟩:=z0q _ _ _ _ _ hp;refine ⟨p1,p2,p3,fun ho=> ?_⟩;obtain ⟨q1,q2⟩:=p4 ho;refine ⟨?_,q2⟩;subst q1;have hv:z1j P t (A.get r) fo=some v':=hv;simp only [y5k,hm,hA,hv,Option.map_some]
   ·cases h
  ·cases h
 ·rename_i hx;simp only [Option.map_eq_some_iff,Prod.mk.injEq] at h;obtain ⟨v',hv,rfl,rfl,rfl⟩:=h;refine ⟨rfl,rfl,rfl,fun ho=>⟨?_,ho⟩⟩;unfold y5k;split
  ·rename_i b sz r fo;exact absurd rfl (hx b sz r fo)
  ·rw [hv];rfl
theorem v8d {l:List AVal} {n:Nat} (h:l.length=n):l.drop n=[]:=List.drop_eq_nil_of_le (by omega)
theorem x1e {α:Type} {c:Bool} {x z:Option α} {y:α} (h:(bif c then x else z)=some y):(c=true∧x=some y)∨(c=false∧z=some y):=by
 cases c with
 | false=>exact .inr ⟨rfl,h⟩
 | true=>exact .inl ⟨rfl,h⟩
theorem z5u {A:Arr} {r fo:Nat} {cs:List AVal} {st st1:St} {rw1:Rws} (h:setRow A r fo cs st=some (rw1,st1)):st1.env=st.env∧st1.mem=st.mem∧st1.next=st.next∧(st1.ob=true→((A.get r).length =A.sz→rw1.get=Xj A.get r fo cs)∧st.ob=true):=by
 obtain ⟨sz,n,rw0⟩:=A;unfold setRow at h;have full: ∀(g:Nat→List AVal),cs.length=sz→(g r).length =sz→(fun k=>bif Nat.beq k r then cs else g k)=Xj g r 0 cs:=fun g h1 h2=>by
  funext k
  unfold Xj;rw [List.take_zero,List.nil_append,Nat.zero_add,h1,v8d h2,List.append_nil]
 split at h
 ·rename_i g hg;simp only at hg;subst hg;rcases x1e h with ⟨_,h⟩ | ⟨_,h⟩
  ·simp only [Option.some.injEq,Prod.mk.injEq] at h;obtain ⟨rfl,rfl⟩:=h;exact ⟨rfl,rfl,rfl,fun ho=>⟨fun _=>rfl,ho⟩⟩
  ·rcases x1e h with ⟨hc,h2⟩ | ⟨_,h2⟩
   ·simp only [Bool.and_eq_true] at hc;obtain rfl:=Nat.eq_of_beq_eq_true hc.1;have hc2:=Nat.eq_of_beq_eq_true hc.2;clear h;simp only [Option.some.injEq,Prod.mk.injEq] at h2;obtain ⟨rfl,rfl⟩:=h2;exact ⟨rfl,rfl,rfl,fun ho=>⟨fun hl=>full g hc2 hl,ho⟩⟩
   ·cases h2
 ·rename_i r0 c0 b hb;simp only at hb;subst hb;split at h;rename_i e st2 ht;obtain ⟨t1,t2,t3,t4⟩:=y2u ht;rcases x1e h with ⟨hc,h2⟩ | ⟨_,h2⟩
  ·simp only [Bool.and_eq_true] at hc;obtain rfl:=Nat.eq_of_beq_eq_true hc.1.2;have hc2:=Nat.eq_of_beq_eq_true hc.2;clear h;simp only [Option.some.injEq,Prod.mk.injEq] at h2;obtain ⟨rfl,rfl⟩:=h2;refine ⟨t1,t2,t3,fun ho=>⟨fun hl=> ?_,(t4 ho).2⟩⟩;have he:=(t4 ho).1;rw [hc.1.1] at he;obtain rfl:=Nat.eq_of_beq_eq_true he.symm;have:=full (Rws.get (.one r c0 b)) hc2 hl;show _=Xj (Rws.get (.one r c0 b)) r 0 cs;rw [←this]
   funext k
   simp only [Rws.get];cases Nat.beq k r <;> rfl
  ·cases h2
 ·rename_i c a b hb;simp only at hb;subst hb;rcases x1e h with ⟨hc,h2⟩ | ⟨_,h2⟩
  ·simp only [Bool.and_eq_true] at hc;obtain rfl:=Nat.eq_of_beq_eq_true hc.1;have hc2:=Nat.eq_of_beq_eq_true hc.2;clear h;simp only [Option.some.injEq,Prod.mk.injEq] at h2;obtain ⟨rfl,rfl⟩:=h2;exact ⟨rfl,rfl,rfl,fun ho=>⟨fun hl=>full _ hc2 hl,ho⟩⟩
  ·cases h2
structure x1u (ρ:Rho) (floor:Nat) (st st':St) (v:AVal) (w:World) (ρ':Rho) (u:Value) (w':World):Prop where
 val:Ym ρ' v u
 rel:Rel ρ' st'.mem st'.next w'
 ev:Ev ρ ρ' floor st.mem st.next st'.mem st'.next w w'
def Does (P:Program) (o:Oper) (a:Act) (w:World) (K:Rho→Value→World→Prop):Prop:=
 (∃ρ' u w',(execOp a.eval o).run P w=.ok (.value u) w'∧K ρ' u w')∨
 (∃ρ' w',(execOp a.eval o).run P w=.ok .skip w'∧K ρ' undef w')∨
 (∃f args,(execOp a.eval o).run P w=.ok (.enter f args) w∧Calls P f args w fun e w'=> ∃ρ' u,e=.returned u∧K ρ' u w')
theorem Does.wp {o:Oper} {a:Act} {w:World} {K:Rho→Value→World→Prop} {next:Act→World→Prop} {Q:Exit→Act→World→Prop} (h:Does P o a w K) (hk: ∀ρ' u w',K ρ' u w'→next (a.put o.dst u) w'):o.wp P a w next Q:=by
 unfold Oper.wp;rcases h with ⟨ρ',u,w',e,k⟩ | ⟨ρ',w',e,k⟩ | ⟨f,args,e,hc⟩
 ·rw [e];exact hk _ _ _ k
 ·rw [e];exact hk _ _ _ k
 ·rw [e];exact hc.mono fun e w' ⟨ρ',u,he,k⟩=>by subst he;exact hk _ _ _ k
theorem Rel.hold {mem:Mem} {next:Nat} {w:World} (h:Rel ρ mem next w): ∀k,w.heap.size≤k→ρ.fz k=none:=by
 intro k hk;cases e:ρ.fz k with
 | none=>rfl
 | some o=>have:=(Array.getElem?_eq_some_iff.1 (h.old k o e)).1;omega
theorem z4s {st:St} {w:World} (h:Rel ρ st.mem st.next w) (floor:Nat) (cs:List AVal) (ty:TypeId) (vs:Array Value) (el:TypeId) (hn:cs.length≤vs.size)
  (hv: ∀(i:Nat) (h1:i<cs.length) (h2:i<vs.size),Ym ρ cs[i] vs[i]) (v:AVal) (u:Value) (eX: ∀ρ',ρ' st.next=some ⟨w.heap.size,0,cs.length,vs.size⟩→Ym ρ' v u):
  x1u ρ floor st (y2q st cs ty) v w (Vr ρ st.next ⟨w.heap.size,0,cs.length,vs.size⟩) u {w with heap:=w.heap.push (.cells vs el)}:=
 ⟨eX _ (by simp [Vr]),h.new cs ty vs el h.hold hn hv,Ev.ofNew h floor _ _ _ (Nat.le_refl _)⟩
theorem x4f {st st':St} {w:World} (h:Rel ρ st.mem st.next w) {floor:Nat} {t:TypeId} {x v:AVal} {u z:Value} (hs:y5g P floor st t x v=some st') (hx:Ym ρ x u) (hv:Ym ρ v z):
  ∃w',(Instr.storeAt t u z).run P w=.ok () w'∧x1u ρ floor st st' (.tup []) w ρ undef w'∧st'.env=st.env∧st'.ob=st.ob:=by
 unfold y5g at hs;split at hs
 ·rename_i b off i hi;simp only at hs;cases hc:(Nat.ble floor b&&Nat.beq v.cells.length i.size&&z2l v&&v.cells.all y0f) with
  | false=>rw [hc] at hs;cases hs
  | true=>
   rw [hc,cond_true] at hs;simp only [Bool.and_eq_true] at hc;obtain ⟨⟨⟨hf,hn⟩,hbx⟩,hsc⟩:=hc;have hf:=Nat.le_of_ble_eq_true hf;have hn:=Nat.eq_of_beq_eq_true hn;split at hs
   ·rename_i blk hm;cases eR:Nat.ble (off+i.size) blk.cells.length with
    | false=>rw [eR] at hs;cases hs
    | true=>
     rw [eR,cond_true] at hs;have eR:=Nat.le_of_ble_eq_true eR;obtain rfl:=Option.some.inj hs;cases hx with
     | ptr _ _ l hρ=>
      have eO:=hv.cells hbx;have fL:=Ym.cells_oneCell eO hsc;have eH:z.cells.toList.length=v.cells.length:=(by simpa using eO.1.symm);obtain ⟨cur,el,hw,hsz,eG⟩:=h.write hρ hm (off:=off) (cs:=v.cells) (vs:=z.cells.toList) eH (by omega) (fun j h1 h2=>by simpa using eO.2 j h1 (by simpa using h2));have eI:=run_storeCells_at P l.blk (l.base+off) el z.cells.toList 0 cur w hw (by omega) fL;refine ⟨w.setRow l.blk (cur.toList.take (l.base+off)++z.cells.toList++cur.toList.drop (l.base+off+z.cells.toList.length)).toArray,?_,⟨.tup [] #[] rfl (fun j h1 _=>by simp at h1),?_,Ev.ofWrite h hρ hf _ _⟩,rfl,rfl⟩
      ·have hzs:z.cells.size=i.size:=(by simpa [hn] using eO.1.symm);simp only [Nat.add_zero] at eI;simp [Instr.storeAt,Instr.sureAddr,storeVar,Yy hi,hzs,-List.append_assoc,-Array.length_toList,eI]
      ·rw [hn] at eG
       simpa [St.withMem] using eG
   ·cases hs
 ·cases hs
theorem z1v {get:Nat→List AVal} {sz n r fo:Nat} {cs:List AVal} (hl: ∀i,i<n→(get i).length =sz) (hf:fo+cs.length≤sz): ∀i,i<n→(Xj get r fo cs i).length =sz:=by
 intro i hi;unfold Xj;cases e:Nat.beq i r with
 | false=>exact hl i hi
 | true=>obtain rfl:=Nat.eq_of_beq_eq_true e;have:=hl i hi;simp only [cond_true];rw [Xo _ _ _ (by omega)];exact this
theorem v4q {get:Nat→List AVal} {sz n r fo:Nat} {cs:List AVal} (hl: ∀i,i<n→(get i).length =sz) (hr:r<n) (hf:fo+cs.length≤sz):
  (rows n get).take (r*sz+fo)++cs++(rows n get).drop (r*sz+fo+cs.length)=rows n (Xj get r fo cs):=by
 have eH:=Ya n hl;have fZ:=Ya n (z1v (r:=r) hl hf);have hb:(r+1)*sz≤n*sz:=Nat.mul_le_mul_right sz hr;rw [Nat.add_mul,Nat.one_mul] at hb;have eR:r*sz+fo+cs.length≤(rows n get).length :=by omega
 apply List.ext_getElem?;intro i;rw [Jm _ _ _ _ eR];by_cases hi:i<n*sz
 ·have hsz:0<sz:=by
   rcases Nat.eq_zero_or_pos sz with e | e
   ·rw [e,Nat.mul_zero] at hi;omega
   ·exact e
  have hj:i %sz<sz:=Nat.mod_lt _ hsz;have hq:i / sz<n:=Nat.div_lt_of_lt_mul (by rw [Nat.mul_comm];exact hi);have e:i=i / sz*sz+i %sz:=by rw [Nat.mul_comm];exact (Nat.div_add_mod i sz).symm
  generalize i / sz=q at*;generalize i %sz=j at*;subst e;rw [Wo n (z1v (r:=r) hl hf) q j hq hj,Wo n hl q j hq hj];unfold Xj;cases eq:Nat.beq q r with
  | true=>
   obtain rfl:=Nat.eq_of_beq_eq_true eq;have:=hl q hr;simp only [cond_true];rw [Jm _ _ _ _ (by omega)];by_cases h1:j<fo
   ·rw [if_pos (by omega),if_pos h1]
   ·rw [if_neg (by omega),if_neg h1];by_cases h2:j<fo+cs.length
    ·rw [if_pos (by omega),if_pos h2];congr 1;omega
    ·rw [if_neg (by omega),if_neg h2]
  | false=>
   have hne:=Nat.ne_of_beq_eq_false eq;simp only [cond_false];rcases Nat.lt_or_gt_of_ne hne with h | h
   ·have:(q+1)*sz≤r*sz:=Nat.mul_le_mul_right sz h;rw [Nat.add_mul,Nat.one_mul] at this;rw [if_pos (by omega)]
   ·have:(r+1)*sz≤q*sz:=Nat.mul_le_mul_right sz h;rw [Nat.add_mul,Nat.one_mul] at this;rw [if_neg (by omega),if_neg (by omega)]
 ·rw [if_neg (by omega),if_neg (by omega),List.getElem?_eq_none (by omega),List.getElem?_eq_none (by omega)]
theorem Rel.setArr {mem:Mem} {next:Nat} {w:World} {b:Nat} {cs:List AVal} {ty:TypeId} (h:Rel ρ (We mem b (some ⟨cs,ty,none⟩)) next w) (A:Arr) (h1:cs=rows A.n A.get) (h2:1≤A.sz) (h3: ∀i,i<A.n→(A.get i).length =A.sz):
  Rel ρ (We mem b (some ⟨cs,ty,some A⟩)) next w:=by
 have some_iff: ∀c,(Xv (We mem b (some ⟨cs,ty,some A⟩)) c).isSome =(Xv (We mem b (some ⟨cs,ty,none⟩)) c).isSome :=fun c=>by rw [Ws,Ws];by_cases e:c=b <;> simp [e]
 refine ⟨h.dom,fun c c' m m' e e' he hs hs'=>h.inj c c' m m' e e' he (by rw [←some_iff];exact hs) (by rw [←some_iff];exact hs'),fun c m ab e hc=> ?_,h.old,fun c m e hs=>h.sep c m e (by rw [←some_iff];exact hs),h.real,fun c hc=> ?_,h.ldom⟩
 ·by_cases ecb:c=b
  ·subst ecb;rw [Yf] at hc;obtain rfl:=Option.some.inj hc;obtain ⟨n,t,_,k⟩:=h.blk c m ⟨cs,ty,none⟩ e (Yf _ _ _);exact ⟨n,t,fun B hB=>by cases hB;exact ⟨h1,h2,h3⟩,k⟩
  ·rw [Zv _ _ ecb] at hc;exact h.blk c m ab e (by rw [Zv _ _ ecb];exact hc)
 ·have:=h.bd c hc;rw [Ws] at this ⊢;by_cases e:c=b
  ·rw [if_pos e] at this;cases this
  ·rw [if_neg e] at this ⊢;exact this
theorem z7j {cx:Ctx} {st st':St} {b:Bool} (h:st.owe cx b=some st'):st'.env=st.env∧st'.mem=st.mem∧st'.next=st.next∧(st'.ob=true→b=true∧st.ob=true):=by
 obtain ⟨env,mem,next,orc,ob⟩:=st;unfold St.owe at h;cases hs:cx.sym with
 | true=>rw [hs] at h;obtain rfl:=Option.some.inj h;exact ⟨rfl,rfl,rfl,fun ho=>by simp only [Bool.and_eq_true] at ho;exact ⟨ho.1,ho.2⟩⟩
 | false=>
  rw [hs] at h;cases b with
  | true=>obtain rfl:=Option.some.inj h;exact ⟨rfl,rfl,rfl,fun ho=>⟨rfl,ho⟩⟩
  | false=>cases h
theorem x1i {cx:Ctx} {st st':St} {w:World} (h:Rel ρ st.mem st.next w) {t:TypeId} {x v:AVal} {u z:Value} (hs:z6j P cx st t x v=some st') (hob:st'.ob=true) (hx:Ym ρ x u) (hv:Ym ρ v z):
  ∃w',(Instr.storeAt t u z).run P w=.ok () w'∧x1u ρ cx.floor st st' (.tup []) w ρ undef w':=by
 unfold z6j at hs;split at hs
 ·rename_i b sz r fo i hi;cases hc:(Nat.ble cx.floor b&&Nat.beq v.cells.length i.size&&z2l v&&v.cells.all y0f&&Nat.ble (fo+i.size) sz) with
  | false=>rw [hc] at hs;cases hs
  | true=>
   rw [hc,cond_true] at hs;simp only [Bool.and_eq_true] at hc;obtain ⟨⟨⟨⟨hf,hn⟩,hbx⟩,hsc⟩,hfo⟩:=hc;have hf:=Nat.le_of_ble_eq_true hf;have hn:=Nat.eq_of_beq_eq_true hn;have hfo:=Nat.le_of_ble_eq_true hfo;split at hs
   ·rename_i blk hm;split at hs
    ·rename_i A hA;split at hs
     ·rename_i rw1 st1 fP;obtain ⟨_,o2,o3,o4⟩:=z7j hs;obtain ⟨ho,hob1⟩:=o4 hob;obtain ⟨s1,s2,s3,s4⟩:=z5u fP;have o2:st'.mem=We st1.mem b (some ⟨rows A.n rw1.get,blk.ty,some ⟨A.sz,A.n,rw1⟩⟩):=o2;have o3:st'.next=st1.next:=o3
      rw [s2] at o2;rw [s3] at o3;simp only [Bool.and_eq_true,decide_eq_true_eq] at ho;obtain ⟨hsz,hr⟩:=ho;obtain rfl:=Nat.eq_of_beq_eq_true hsz;cases hx with
      | epa _ _ _ _ l hρ=>
       obtain ⟨fG,gH,eW⟩:=(h.blk b l blk hρ hm).arr A hA;have eO:=hv.cells hbx;have fL:=Ym.cells_oneCell eO hsc;have eH:z.cells.toList.length=v.cells.length:=(by simpa using eO.1.symm);have hrl:=Ya A.n eW;have hb:(r+1)*A.sz≤A.n*A.sz:=Nat.mul_le_mul_right A.sz hr;rw [Nat.add_mul,Nat.one_mul] at hb;obtain ⟨cur,el,hw,hsz,eG⟩:=h.write hρ hm (off:=r*A.sz+fo) (cs:=v.cells) (vs:=z.cells.toList) eH (by rw [fG,hrl];omega) (fun j h1 h2=>by simpa using eO.2 j h1 (by simpa using h2));have eI:=run_storeCells_at P l.blk (l.base+(r*A.sz+fo)) el z.cells.toList 0 cur w hw (by omega) fL;rw [fG,v4q eW hr (by omega)] at eG;have hrw:=(s4 hob1).1 (eW r hr);rw [←hrw] at eG;have eG:=eG.setArr ⟨A.sz,A.n,rw1⟩ rfl gH (by show∀i,i<A.n→(rw1.get i).length =A.sz;rw [hrw];exact z1v (sz:=A.sz) eW (by omega));refine ⟨w.setRow l.blk (cur.toList.take (l.base+(r*A.sz+fo))++z.cells.toList++cur.toList.drop (l.base+(r*A.sz+fo)+z.cells.toList.length)).toArray,?_,⟨.tup [] #[] rfl (fun j h1 _=>by simp at h1),?_,?_⟩⟩
       ·have hzs:z.cells.size=i.size:=(by simpa [hn] using eO.1.symm);simp only [Nat.add_zero] at eI;simp [Instr.storeAt,Instr.sureAddr,storeVar,Yy hi,hzs,-List.append_assoc,-Array.length_toList,eI]
       ·rw [o2,o3];exact eG
       ·rw [o2,o3];exact Ev.ofWrite h hρ hf _ _
     ·cases hs
    ·cases hs
   ·cases hs
 ·cases hs
theorem y7o (f:Nat→Value):(Array.range 0).map f= #[]:=Array.eq_empty_of_size_eq_zero (by simp)
theorem Qe (n:Nat) (l:List AVal):(rep n l).length =n*l.length:=by
 induction n with
 | zero=>simp [rep]
 | succ n ih=>simp only [rep,List.replicate_succ,List.flatten_cons,List.length_append] at*;rw [ih,Nat.succ_mul,Nat.add_comm]
theorem w8p (l:List AVal): ∀(n i:Nat) (h:i<(rep n l).length) (hl:i %l.length<l.length),(rep n l)[i]=l[i %l.length]
 | 0,i,h,_=>by simp [rep] at h
 | n+1,i,h,hl=>by
  have e:rep (n+1) l=l++rep n l:=by simp [rep,List.replicate_succ]
  have hpos:0<l.length:=by omega
  by_cases hi:i<l.length
  ·simp only [e,List.getElem_append_left hi,Nat.mod_eq_of_lt hi]
  ·have h2:i - l.length<(rep n l).length :=by rw [e] at h;simp at h;omega
   simp only [e];rw [List.getElem_append_right (by omega)];have hm:(i - l.length) %l.length=i %l.length:=(Nat.mod_eq_sub_mod (by omega)).symm;rw [w8p l n (i - l.length) h2 (by omega)];simp only [hm]
theorem y9z {zero:List AVal} {zs:Array Value} (h:Uz ρ zero zs) (n m:Nat) (hm:m=n*zero.length):Uz ρ (rep n zero) ((Array.range m).map (zs[· %zs.size]!)):=by
 refine ⟨by rw [Qe];simp [hm],fun i h1 h2=> ?_⟩;have hi:i<n*zero.length:=by rw [Qe] at h1;exact h1
 have hpos:0<zero.length:=by
  rcases Nat.eq_zero_or_pos zero.length with e | e
  ·rw [e] at hi;simp at hi
  ·exact e
 have hlt:i %zero.length<zero.length:=Nat.mod_lt _ hpos;rw [w8p zero n i h1 hlt];have hlt2:i %zero.length<zs.size:=by rw [←h.1];exact hlt
 have:=h.2 (i %zero.length) hlt hlt2;simp only [Array.getElem_map,Array.getElem_range];rw [←h.1]
 simpa [getElem!_pos,hlt2] using this
theorem z9p {st st':St} {w:World} (h:Rel ρ st.mem st.next w) (floor:Nat) {t:TypeId} {len:Nat} {ps:List (Nat×AVal)} {qs:List (Nat×Value)} {v:AVal} {un:Bool} (hb:Jp P un st t len ps=some (v,st')) (hp:y2s ρ ps qs):
  ∃ρ' u w',(Instr.buildSlice t len qs.toArray).run P w=.ok u w'∧x1u ρ floor st st' v w ρ' u w'∧st'.env=st.env∧st'.ob=st.ob:=by
 unfold Jp at hb;split at hb
 ·rename_i e hu;split at hb
  ·rename_i i zero hi hz;cases hc:(Nat.ble (len*i.size) 16777216&&Nat.beq zero.length i.size) with
   | false=>rw [hc] at hb;cases hb
   | true=>
    rw [hc,cond_true] at hb;simp only [Bool.and_eq_true] at hc;have hle:=Nat.le_of_ble_eq_true hc.1;have hzl:=Nat.eq_of_beq_eq_true hc.2;split at hb
    ·rename_i cells eO;simp only [Option.some.injEq,Prod.mk.injEq] at hb;obtain ⟨rfl,rfl⟩:=hb;obtain ⟨_,z,_,_,hzr,hzv⟩:=Wr (ρ:=ρ) hz;have fV:=y9z hzr len (len*i.size) (by rw [hzl]);obtain ⟨arr,h1,h2⟩:=z2o eO fV hp;have eH:len≤len:=Nat.le_refl _;have eN:z0j ⟨w.heap.size,0,cells.length,arr.size⟩ 0 (bif un&&Nat.beq cells.length (len*i.size) then .un i.size else .ex len) len:=by
      cases hq:(un&&Nat.beq cells.length (len*i.size)) with
      | false=>rfl
      | true=>simp only [Bool.and_eq_true] at hq;have hq2:=Nat.eq_of_beq_eq_true hq.2;have:=h2.1;exact ⟨by show cells.length≤0+len*i.size;omega,by show 0+len*i.size≤arr.size;omega⟩
     refine ⟨_,.slice (some ⟨w.heap.size,0,none⟩) len len,_,?_,z4s h floor cells e arr e (by rw [h2.1];exact Nat.le_refl _) h2.2 _ _ (fun ρ' hρ'=>.sl _ 0 _ _ _ _ hρ' eN eH),rfl,rfl⟩;have hgt: ¬len*i.size>2 ^ 24:=(by omega);by_cases h0:len*i.size=0
     ·have h1':Instr.fill (fun j=>some (j*i.size,i.size)) #[] qs=some arr:=by
       rw [h0] at h1;rw [←h1]
       congr 1
       exact (Array.eq_empty_of_size_eq_zero (by simp)).symm
      simp [Instr.buildSlice,run_underlying hu,Yy hi,h0,h1',newRow,y7o]
     ·have hgt': ¬2 ^ 24<len*i.size:=hgt;simp [Instr.buildSlice,run_underlying hu,Yy hi,h0,hzv,h1,newRow,hgt']
    ·cases hb
  ·cases hb
 ·cases hb
theorem z9v {n:Int} (h0:0≤n) (h1:n≤1099511627776):IntKind.i64.wrap n=n:=by
 have hm:n %(2 ^ IntKind.i64.bits:Int)=n:=by
  apply Int.emod_eq_of_lt h0;have:(2 ^ IntKind.i64.bits:Int)=18446744073709551616:=by decide
  omega
 unfold IntKind.wrap;simp only [hm];have: ¬(n≥(2 ^ (IntKind.i64.bits - 1):Int)):=by
  have:(2 ^ (IntKind.i64.bits - 1):Int)=9223372036854775808:=by decide
  omega
 simp [this]
theorem Qu {st st':St} {w:World} (h:Rel ρ st.mem st.next w) (floor:Nat) {t:TypeId} {x y v:AVal} {ux uy:Value} (hb:Uw P st t x y=some (v,st')) (hx:Ym ρ x ux) (hy:Ym ρ y uy):
  ∃ρ' u w',(Instr.makeSlice t ux uy).run P w=.ok u w'∧x1u ρ floor st st' v w ρ' u w'∧st'.env=st.env∧st'.ob=st.ob:=by
 unfold Uw at hb;split at hb
 ·rename_i e _ l _ c hu;cases hx;cases hy;split at hb
  ·rename_i i zero hi hz;cases hc:(Nat.beq zero.length i.size&&(decide (0≤l)&&decide (l≤c)&&decide (c*i.bytes≤1099511627776)&&decide (c≤1099511627776))) with
   | false=>rw [hc] at hb;cases hb
   | true=>
    rw [hc,cond_true] at hb;simp only [Bool.and_eq_true,decide_eq_true_eq] at hc;obtain ⟨hzl,⟨⟨h0,hlc⟩,hcb⟩,hc40⟩:=hc;have hzl:=Nat.eq_of_beq_eq_true hzl;simp only [Option.some.injEq,Prod.mk.injEq] at hb;obtain ⟨rfl,rfl⟩:=hb;obtain ⟨_,z,_,_,hzr,hzv⟩:=Wr (ρ:=ρ) hz;have fV:=y9z hzr c.toNat (c.toNat*i.size) (by rw [hzl]);have wl:=z9v (n:=l) h0 (by omega);have wc:=z9v (n:=c) (by omega) hc40;have e1: ¬c<0:=(by omega);have e2: ¬(281474976710656<(i.bytes:Int)*c):=by rw [Int.mul_comm];omega
    have e3: ¬l<0:=(by omega);have e4: ¬c<l:=(by omega);by_cases hz0:c.toNat*i.size=0
    ·rw [hz0] at fV;refine ⟨_,.slice (some ⟨w.heap.size,0,none⟩) l.toNat c.toNat,_,?_,z4s h floor (rep c.toNat zero) e #[] e (by rw [Qe,hzl];simp [hz0]) (fun j h1 h2=>by simp at h2) _ _ (fun ρ' hρ'=>.sl _ 0 _ _ _ _ hρ' rfl (by omega)),rfl,rfl⟩;simp [Instr.makeSlice,run_underlying hu,asInt,asIntOf,run_typeInfo w hi,wl,wc,e1,e2,e3,e4,Yy hi,hz0,newRow,y7o]
    ·refine ⟨_,.slice (some ⟨w.heap.size,0,none⟩) l.toNat c.toNat,_,?_,z4s h floor (rep c.toNat zero) e _ e (by rw [fV.1];exact Nat.le_refl _) fV.2 _ _ (fun ρ' hρ'=>.sl _ 0 _ _ _ _ hρ' rfl (by omega)),rfl,rfl⟩;simp [Instr.makeSlice,run_underlying hu,asInt,asIntOf,run_typeInfo w hi,wl,wc,e1,e2,e3,e4,Yy hi,hz0,newRow,hzv]
  ·cases hb
 ·cases hb
end
end Go.Am
namespace Go.Am
section
variable {P:Program} {ρ:Rho}
theorem Rel.kill {mem:Mem} {next:Nat} {w:World} (h:Rel ρ mem next w) (b:Nat):Rel ρ (We mem b none) next w:=
 ⟨h.dom,fun c c' m m' e e' he hs hs'=>by
  have hc:c≠b:=fun e=>by rw [e,Yf] at hs;cases hs
  have hc':c'≠b:=fun e=>by rw [e,Yf] at hs';cases hs'
  rw [Zv _ _ hc] at hs;rw [Zv _ _ hc'] at hs';exact h.inj c c' m m' e e' he hs hs',
  fun c m ab e hc=>by
   have hcb:c≠b:=fun e=>by rw [e,Yf] at hc;cases hc
   rw [Zv _ _ hcb] at hc;exact h.blk c m ab e hc,h.old,fun c m e hs=>by
   have hcb:c≠b:=fun e=>by rw [e,Yf] at hs;cases hs
   rw [Zv _ _ hcb] at hs;exact h.sep c m e hs,h.real,fun c hc=>by
   by_cases hcb:c=b
   ·rw [hcb,Yf]
   ·rw [Zv _ _ hcb];exact h.bd c hc,h.ldom⟩
theorem Ev.ofKill {mem:Mem} {next:Nat} {w:World} (h:Rel ρ mem next w) (floor:Nat) {b:Nat} {l:Loc} (hb:ρ b=some l):Ev ρ ρ floor mem next (We mem b none) next w w where
 ext:=Rho.le_refl _
 new _ _:=rfl
 nxt:=Nat.le_refl _
 unborn k _ e cs ty hm:=by rw [Zv _ _ fun hk=>by rw [hk,hb] at e;cases e];exact hm
 frame _ _ hk _:=hk
 fresh k m hk e:=by have:=h.dom k m e;omega
 size:=Nat.le_refl _
 os:=rfl
 tape:=rfl
 output:=rfl
 still _ _:=rfl
theorem Rel.beyond {mem:Mem} {next:Nat} {w:World} (h:Rel ρ mem next w) {b:Nat} {l:Loc} {ab:ABlk} (hb:ρ b=some l) (hm:Xv mem b=some ab) {off:Nat} {new:List AVal} {vs:List Value} (ty:TypeId)
  (eH:vs.length=new.length) (hoff:off≤ab.cells.length) (eR:ab.cells.length+new.length≤l.tot) (hv: ∀(i:Nat) (h1:i<new.length) (h2:i<vs.length),Ym ρ new[i] vs[i]):
  ∃ cur el,w.heap[l.blk]? =some (.cells cur el (0,0))∧l.base+ab.cells.length+vs.length≤cur.size∧
   Rel (Vr ρ next ⟨l.blk,l.base+off,ab.cells.length - off+new.length,l.tot - off⟩) (We (We mem b none) next (some ⟨ab.cells.drop off++new,ty,none⟩)) (next+1)
    (w.setRow l.blk (cur.toList.take (l.base+ab.cells.length)++vs++cur.toList.drop (l.base+ab.cells.length+vs.length)).toArray):=by
 obtain ⟨hn,ht,_,cur,el,h1,h2,h3⟩:=h.blk b l ab hb hm;have hbn:b<next:=h.dom b l hb
 have hle:=Qn (l:=⟨l.blk,l.base+off,ab.cells.length - off+new.length,l.tot - off⟩) h.none_next;have hfc:l.base+ab.cells.length+vs.length≤cur.toList.length:=by simp;omega
 have eQ: ∀c m,Vr ρ next ⟨l.blk,l.base+off,ab.cells.length - off+new.length,l.tot - off⟩ c=some m→(c=next∧m=⟨l.blk,l.base+off,ab.cells.length - off+new.length,l.tot - off⟩)∨(c≠next∧ρ c=some m):=fun c m e=>by
  rw [Ux] at e;by_cases hc:c=next
  ·rw [if_pos hc] at e;exact .inl ⟨hc,(Option.some.inj e).symm⟩
  ·rw [if_neg hc] at e;exact .inr ⟨hc,e⟩
 have live: ∀c,c≠next→(Xv (We (We mem b none) next (some ⟨ab.cells.drop off++new,ty,none⟩)) c).isSome =true→c≠b∧(Xv mem c).isSome =true:=fun c hc hs=>by
  rw [Zv _ _ hc] at hs;have hcb:c≠b:=fun e=>by rw [e,Yf] at hs;cases hs
  rw [Zv _ _ hcb] at hs;exact ⟨hcb,hs⟩
 refine ⟨cur,el,h1,by simpa using hfc,fun c m e=> ?_,fun c c' m m' e e' he hs hs'=> ?_,fun c m ac e hc=> ?_,fun k o e=> ?_,fun c m e=> ?_,fun c m e=> ?_,fun c hc=>by rw [Zv _ _ (by omega),Zv _ _ (by omega)];exact h.bd c (by omega),fun j l e=>Nat.lt_succ_of_lt (h.ldom j l e)⟩
 ·rcases eQ c m e with ⟨rfl,_⟩ | ⟨_,e⟩
  ·omega
  ·have:=h.dom c m e;omega
 ·rcases eQ c m e with ⟨hc,hl⟩ | ⟨hc,e2⟩ <;> rcases eQ c' m' e' with ⟨hc',hl'⟩ | ⟨hc',e2'⟩
  ·rw [hc,hc']
  ·obtain ⟨hcb,hs'⟩:=live c' hc' hs';rw [hl] at he;exact absurd (h.inj c' b m' l e2' hb he.symm hs' (by rw [hm];rfl)) hcb
  ·obtain ⟨hcb,hs⟩:=live c hc hs;rw [hl'] at he;exact absurd (h.inj c b m l e2 hb he hs (by rw [hm];rfl)) hcb
  ·obtain ⟨_,hs⟩:=live c hc hs;obtain ⟨_,hs'⟩:=live c' hc' hs';exact h.inj c c' m m' e2 e2' he hs hs'
 ·rcases eQ c m e with ⟨rfl,rfl⟩ | ⟨hcn,e2⟩
  ·rw [Yf] at hc;obtain rfl:=Option.some.inj hc;refine ⟨by simp,by simp;omega,(fun A e=>by cases e),_,el,setRow_heap w l.blk cur _ el (0,0) h1,?_,fun i hi=> ?_⟩
   ·rw [List.size_toArray,Xo _ _ _ hfc];simp at h2 ⊢;omega
   ·simp only [List.length_append,List.length_drop] at hi;simp only [List.getElem?_toArray];rw [Jm _ _ _ _ hfc];by_cases g1:off+i<ab.cells.length
    ·rw [if_pos (by omega),List.getElem_append_left (by simp;omega)];obtain ⟨v,e1,e2⟩:=h3 (off+i) g1;exact ⟨v,by simpa [Nat.add_assoc] using e1,by simpa using e2.mono hle⟩
    ·rw [if_neg (by omega),if_pos (by omega),List.getElem_append_right (by simp;omega)];have hi2:l.base+off+i - (l.base+ab.cells.length)<vs.length:=(by omega);refine ⟨vs[l.base+off+i - (l.base+ab.cells.length)],List.getElem?_eq_getElem hi2,?_⟩;have e3:i - (ab.cells.drop off).length =l.base+off+i - (l.base+ab.cells.length):=by simp;omega
     have:=hv (l.base+off+i - (l.base+ab.cells.length)) (by omega) hi2;simp only [e3];exact this.mono hle
  ·have hcs:(Xv mem c).isSome =true∧c≠b:=by have:=live c hcn (by rw [hc];rfl);exact ⟨this.2,this.1⟩
   rw [Zv _ _ hcn,Zv _ _ hcs.2] at hc;refine (h.blk c m ac e2 hc).world hle (setRow_other w l.blk m.blk _ fun heq=>hcs.2 ?_);exact h.inj c b m l e2 hb heq hcs.1 (by rw [hm];rfl)
 ·have e:ρ.fz k=some o:=e;have hk:=h.old k o e;rw [setRow_other]
  ·exact hk
  ·intro heq;have:=h.sep b l hb (by rw [hm];rfl);rw [←heq,e] at this;cases this
 ·intro hs;rcases eQ c m e with ⟨rfl,rfl⟩ | ⟨hcn,e⟩
  ·exact h.sep b l hb (by rw [hm];rfl)
  ·exact h.sep c m e (live c hcn hs).2
 ·rw [setRow_size];rcases eQ c m e with ⟨rfl,rfl⟩ | ⟨_,e⟩
  ·exact h.real b l hb
  ·exact h.real c m e
theorem Rel.beyond2 {mem:Mem} {next:Nat} {w:World} (h:Rel ρ mem next w) {b:Nat} {l:Loc} {ab:ABlk} (hb:ρ b=some l) (hm:Xv mem b=some ab) {off m T:Nat} {new:List AVal} {vs:List Value} (ty:TypeId)
  (eH:vs.length=new.length) (hoff:off≤m) (hmc:m≤ab.cells.length) (eR:m - off+new.length≤T) (hT:off+T≤l.tot) (hv: ∀(i:Nat) (h1:i<new.length) (h2:i<vs.length),Ym ρ new[i] vs[i]):
  ∃ cur el,w.heap[l.blk]? =some (.cells cur el (0,0))∧l.base+m+vs.length≤cur.size∧
   Rel (Vr ρ next ⟨l.blk,l.base+off,m - off+new.length,T⟩) (We (We mem b none) next (some ⟨(ab.cells.take m).drop off++new,ty,none⟩)) (next+1)
    (w.setRow l.blk (cur.toList.take (l.base+m)++vs++cur.toList.drop (l.base+m+vs.length)).toArray):=by
 obtain ⟨hn,ht,_,cur,el,h1,h2,h3⟩:=h.blk b l ab hb hm;have hbn:b<next:=h.dom b l hb
 have hle:=Qn (l:=⟨l.blk,l.base+off,m - off+new.length,T⟩) h.none_next;have hfc:l.base+m+vs.length≤cur.toList.length:=by simp;omega
 have eQ: ∀c lm,Vr ρ next ⟨l.blk,l.base+off,m - off+new.length,T⟩ c=some lm→(c=next∧lm=⟨l.blk,l.base+off,m - off+new.length,T⟩)∨(c≠next∧ρ c=some lm):=fun c lm e=>by
  rw [Ux] at e;by_cases hc:c=next
  ·rw [if_pos hc] at e;exact .inl ⟨hc,(Option.some.inj e).symm⟩
  ·rw [if_neg hc] at e;exact .inr ⟨hc,e⟩
 have live: ∀c,c≠next→(Xv (We (We mem b none) next (some ⟨(ab.cells.take m).drop off++new,ty,none⟩)) c).isSome =true→c≠b∧(Xv mem c).isSome =true:=fun c hc hs=>by
  rw [Zv _ _ hc] at hs;have hcb:c≠b:=fun e=>by rw [e,Yf] at hs;cases hs
  rw [Zv _ _ hcb] at hs;exact ⟨hcb,hs⟩
 refine ⟨cur,el,h1,by simpa using hfc,fun c lm e=> ?_,fun c c' lm lm' e e' he hs hs'=> ?_,fun c lm ac e hc=> ?_,fun k o e=> ?_,fun c lm e=> ?_,fun c lm e=> ?_,fun c hc=>by rw [Zv _ _ (by omega),Zv _ _ (by omega)];exact h.bd c (by omega),fun j l e=>Nat.lt_succ_of_lt (h.ldom j l e)⟩
 ·rcases eQ c lm e with ⟨rfl,_⟩ | ⟨_,e⟩
  ·omega
  ·have:=h.dom c lm e;omega
 ·rcases eQ c lm e with ⟨hc,hl⟩ | ⟨hc,e2⟩ <;> rcases eQ c' lm' e' with ⟨hc',hl'⟩ | ⟨hc',e2'⟩
  ·rw [hc,hc']
  ·obtain ⟨hcb,hs'⟩:=live c' hc' hs';rw [hl] at he;exact absurd (h.inj c' b lm' l e2' hb he.symm hs' (by rw [hm];rfl)) hcb
  ·obtain ⟨hcb,hs⟩:=live c hc hs;rw [hl'] at he;exact absurd (h.inj c b lm l e2 hb he hs (by rw [hm];rfl)) hcb
  ·obtain ⟨_,hs⟩:=live c hc hs;obtain ⟨_,hs'⟩:=live c' hc' hs';exact h.inj c c' lm lm' e2 e2' he hs hs'
 ·rcases eQ c lm e with ⟨rfl,rfl⟩ | ⟨hcn,e2⟩
  ·rw [Yf] at hc;obtain rfl:=Option.some.inj hc;have htl:((ab.cells.take m).drop off).length =m - off:=by rw [List.length_drop,List.length_take];omega
   refine ⟨by rw [List.length_append,htl],eR,(fun A e=>by cases e),_,el,setRow_heap w l.blk cur _ el (0,0) h1,?_,fun i hi=> ?_⟩
   ·rw [List.size_toArray,Xo _ _ _ hfc];simp at h2 ⊢;omega
   ·simp only [] at hi;rw [List.length_append,htl] at hi;simp only [List.getElem?_toArray];rw [Jm _ _ _ _ hfc];by_cases g1:off+i<m
    ·rw [if_pos (by omega),List.getElem_append_left (by rw [htl];omega)];obtain ⟨v,e1,e2⟩:=h3 (off+i) (by omega);exact ⟨v,by simpa [Nat.add_assoc] using e1,by simpa using e2.mono hle⟩
    ·rw [if_neg (by omega),if_pos (by omega),List.getElem_append_right (by rw [htl];omega)];have hi2:l.base+off+i - (l.base+m)<vs.length:=(by omega);refine ⟨vs[l.base+off+i - (l.base+m)],List.getElem?_eq_getElem hi2,?_⟩;have e3:i - ((ab.cells.take m).drop off).length =l.base+off+i - (l.base+m):=by rw [htl];omega
     have:=hv (l.base+off+i - (l.base+m)) (by omega) hi2;simp only [e3];exact this.mono hle
  ·have hcs:(Xv mem c).isSome =true∧c≠b:=by have:=live c hcn (by rw [hc];rfl);exact ⟨this.2,this.1⟩
   rw [Zv _ _ hcn,Zv _ _ hcs.2] at hc;refine (h.blk c lm ac e2 hc).world hle (setRow_other w l.blk lm.blk _ fun heq=>hcs.2 ?_);exact h.inj c b lm l e2 hb heq hcs.1 (by rw [hm];rfl)
 ·have e:ρ.fz k=some o:=e;have hk:=h.old k o e;rw [setRow_other]
  ·exact hk
  ·intro heq;have:=h.sep b l hb (by rw [hm];rfl);rw [←heq,e] at this;cases this
 ·intro hs;rcases eQ c lm e with ⟨rfl,rfl⟩ | ⟨hcn,e⟩
  ·exact h.sep b l hb (by rw [hm];rfl)
  ·exact h.sep c lm e (live c hcn hs).2
 ·rw [setRow_size];rcases eQ c lm e with ⟨rfl,rfl⟩ | ⟨_,e⟩
  ·exact h.real b l hb
  ·exact h.real c lm e
theorem Ev.ofBeyond {mem:Mem} {next:Nat} {w:World} (h:Rel ρ mem next w) {floor b:Nat} {l:Loc} (hb:ρ b=some l) (hf:floor≤b) (l':Loc) (hl:l'.blk=l.blk) (o:Option ABlk) (cs:Array Value):
  Ev ρ (Vr ρ next l') floor mem next (We (We mem b none) next o) (next+1) w (w.setRow l.blk cs) where
 ext:=Qn h.none_next
 new k hk:=by simp [Vr,Nat.ne_of_lt hk]
 nxt:=Nat.le_succ _
 unborn k hk e cs ty hm:=by rw [Zv _ _ (Nat.ne_of_lt hk),Zv _ _ fun hkb=>by rw [hkb,hb] at e;cases e];exact hm
 frame k o hk hfr:=by
  rw [setRow_other]
  ·exact hk
  ·exact fun heq=>hfr b l hb hf heq.symm
 fresh k m hk e:=by
  rw [Ux] at e;by_cases hkn:k=next
  ·rw [if_pos hkn] at e;obtain rfl:=Option.some.inj e;exact .inr ⟨b,l,hb,hf,hl.symm⟩
  ·rw [if_neg hkn] at e;have:=h.dom k m e;omega
 size:=by rw [setRow_size];exact Nat.le_refl _
 os:=rfl
 tape:=rfl
 output:=rfl
 still _ _:=rfl
theorem Wt {mem:Mem} {next:Nat} {w:World} (h:Rel ρ mem next w) {sz:Nat} {x:AVal} {u:Value} {len:Nat} {cs:List AVal} (hc:Wv mem sz x=some (len,cs)) (hx:Ym ρ x u) (hl:cs.length=len*sz):
  (∀w,(Builtin.lenOf u).run P w=.ok len w)∧ ∀n,n≤len→ ∃vs:Array Value,Uz ρ (cs.take (n*sz)) vs∧ ∀d,(Builtin.firstCells sz n u).run P {w with drawn:=d}=.ok vs {w with drawn:=d}:=by
 unfold Wv at hc;split at hc
 ·simp only [Option.some.injEq,Prod.mk.injEq] at hc;obtain ⟨rfl,rfl⟩:=hc;cases hx;refine ⟨fun w=>by simp [Builtin.lenOf],fun n hn=>⟨#[],⟨by simp,fun i h1 _=>by simp at h1⟩,fun d=>by simp [Builtin.firstCells]⟩⟩
 ·rename_i b off len' cap;split at hc
  ·rename_i blk hm;simp only [Option.map_eq_some_iff,Prod.mk.injEq] at hc;obtain ⟨p,hp,rfl,rfl⟩:=hc;cases hx with
   | sl _ _ _ _ l c hρ eN eH=>
    refine ⟨fun w=>by simp [Builtin.lenOf],fun n hn=> ?_⟩;obtain ⟨_,hpl,hle⟩:=z5d hp;have gK:n*sz≤len'*sz:=Nat.mul_le_mul_right sz hn;have hex: ∀d,∃vs:Array Value,Uz ρ (p.take (n*sz)) vs∧(Builtin.firstCells sz n (.slice (some ⟨l.blk,l.base+off,none⟩) len' c)).run P {w with drawn:=d}=.ok vs {w with drawn:=d}:=by
     intro d;obtain ⟨vs,hs,hv,hr⟩:=((h.drawn d).cellsAt hρ hm).load (P:=P) (off:=off) (n:=n*sz) (by omega);refine ⟨vs,⟨by simp;omega,fun i h1 h2=> ?_⟩,by simpa [Builtin.firstCells] using hr⟩;have h1':i<p.length:=by simp at h1;omega
     obtain ⟨h3,e⟩:=x8p hp i h1';rw [List.getElem_take,e];exact hv i h3 h2
    obtain ⟨vs,hv,hr⟩:=hex 0;refine ⟨vs,hv,fun d=> ?_⟩;obtain ⟨b',e1,e2⟩: ∃b',(∀d,(loadCells ⟨l.blk,l.base+off,none⟩ (n*sz)).run P {w with drawn:=d}=.ok b' {w with drawn:=d})∧True:=by
     have hc: ∀d j,j<n*sz→({w with drawn:=d}:World).cell? ((⟨l.blk,l.base+off,none⟩:Addr).add j)=some ((w.cell? ⟨l.blk,l.base+(off+j),none⟩).getD undef):=by
      intro d j hj;obtain ⟨v,e,_⟩:=(h.cellsAt hρ hm) (off+j) (by omega)
      rw [Xa,Nat.add_assoc];show w.cell? _=_;rw [e];rfl
     exact ⟨_,fun d=>run_loadCells _ _ _ _ (hc d),trivial⟩
    have h0:=e1 0;simp only [Builtin.firstCells] at hr ⊢;rw [h0] at hr;have:b'=vs:=(by injection hr);rw [←this];exact e1 d
  ·cases hc
 ·cases hc
theorem x3o (n:Nat): ∀(r c:Nat),c<n→Builtin.growBy n r c≤n+(n+768) / 4
 | 0,c,h=>by simp only [Builtin.growBy];omega
 | r+1,c,h=>by
  unfold Builtin.growBy;rw [if_neg (by omega)];by_cases h2:c+(c+768) / 4<n
  ·exact x3o n r _ h2
  ·cases r with
   | zero=>simp only [Builtin.growBy];omega
   | succ r=>unfold Builtin.growBy;rw [if_pos (by omega)];omega
theorem y3s (n c:Nat) (h:c<n):Builtin.nextslicecap n c≤2*n+192:=by
 unfold Builtin.nextslicecap;split
 ·omega
 ·split
  ·omega
  ·have:=x3o n 4 c h;omega
theorem w7z {need c bytes:Nat} (h:(need+1)*(bytes+1)≤1099511627776) (hc:c<need): ¬Builtin.nextslicecap need c*bytes>2 ^ 48:=by have h1:=y3s need c hc;have h2:Builtin.nextslicecap need c*bytes≤(192*(need+1))*(bytes+1):=Nat.mul_le_mul (by omega) (by omega);rw [Nat.mul_assoc] at h2;omega
end
end Go.Am
namespace Go.Am
section
variable {P:Program} {ρ:Rho}
theorem z6s {t u e:TypeId} {ut:TypeDesc} {i:TypeInfo} {type:TypeId} (hu:P.underlying t=some (.slice e)) (hut:P.underlying u=some ut) (hni: ∀k,ut≠ .int k) (hi:P.info? e=some i) {ts:List TypeId} {base:Option Addr} {len n c:Nat} {x:Value} {vs:Array Value} {xs:List Value} {w:World}
  (eH:(Builtin.lenOf x).run P w=.ok n w) (eY:(Builtin.firstCells i.size n x).run P w=.ok vs w) (eM:len+n≤c) {w':World}
  (hst: ∀a,base=some a→(storeCells (a.add (len*i.size)) vs.toList).run P w=.ok () w') (hno:base=none→w'=w):
  (Builtin.append_ (t::u::ts).toArray type ((.slice base len c)::x::xs).toArray).run P w=.ok (.slice base (len+n) c) w':=by
 cases base with
 | none=>obtain rfl:=hno rfl;simp [Builtin.append_,run_underlying hu,run_underlying hut,Yy hi,eH,eY,eM]
 | some a=>have:=hst a rfl;simp [Builtin.append_,run_underlying hu,run_underlying hut,Yy hi,eH,eY,eM,this]
theorem z5l {t u e:TypeId} {ut:TypeDesc} {i:TypeInfo} {type:TypeId} (hu:P.underlying t=some (.slice e)) (hut:P.underlying u=some ut) (hni: ∀k,ut≠ .int k) (hi:P.info? e=some i) {z:Value} (hz:i.zero=some z) {ts:List TypeId} {base:Option Addr} {len n c:Nat} {x:Value} {vs old:Array Value} {xs:List Value} {w:World}
  (eH:(Builtin.lenOf x).run P w=.ok n w) (eY:(Builtin.firstCells i.size n x).run P w.drew=.ok vs w.drew) (hold:(Builtin.firstCells i.size len (.slice base len c)).run P w.drew=.ok old w.drew)
  (eM:c<len+n) (fM:(len+n+1)*(i.bytes+1)≤1099511627776):
  ∃newCap,len+n≤newCap∧ ∃rest:Array Value,rest.size=(newCap - (len+n))*z.cells.size∧
  (Builtin.append_ (t::u::ts).toArray type ((.slice base len c)::x::xs).toArray).run P w=.ok (.slice (some ⟨w.heap.size,0,none⟩) (len+n) newCap) (w.drew.alloc (.cells (old++vs++rest) e)):=by
 have gK:len+n+1≤(len+n+1)*(i.bytes+1):=Nat.le_mul_of_pos_right _ (by omega);have hr:=w7z fM eM;have hr': ¬2 ^ 48<Builtin.nextslicecap (len+n) c*i.bytes:=hr;have hr'': ¬281474976710656<Builtin.nextslicecap (len+n) c*i.bytes:=hr;have h1: ¬len+n≤c:=by omega
 have h2: ¬(9223372036854775807<(len:Int)+(n:Int)):=by omega
 have hq:(Question.appendCap (len+n) c e).forced =false:=rfl;have hzero: ∀w,(zeroValue e).run P w=.ok z w:=fun w=>by simp [zeroValue,run_typeInfo w hi,hz]
 refine ⟨(Question.appendCap (len+n) c e).cut (w.tape w.drawn (Question.appendCap (len+n) c e)),by simp only [Question.cut];omega,Builtin.zeroCells z.cells ((Question.appendCap (len+n) c e).cut (w.tape w.drawn (Question.appendCap (len+n) c e)) - (len+n)),by simp [Builtin.zeroCells],?_⟩;have hty: ∀w,(typeInfo e).run P w=.ok i w:=fun w=>run_typeInfo w hi;simp [Builtin.append_,run_underlying hu,run_underlying hut,Yy hi,eH,h1,h2,hty,hr'',hq,eY,hold,hzero,newRow]
theorem Uz.append {a b:List AVal} {us vs:Array Value} (h:Uz ρ a us) (k:Uz ρ b vs):Uz ρ (a++b) (us++vs):=by
 refine ⟨by simp [h.1,k.1],fun i h1 h2=> ?_⟩;by_cases hi:i<a.length
 ·rw [List.getElem_append_left hi,Array.getElem_append_left (by rw [←h.1];exact hi)];exact h.2 i hi (by rw [←h.1];exact hi)
 ·rw [List.getElem_append_right (by omega),Array.getElem_append_right (by rw [←h.1];omega)];have e:=h.1;simp only [e];exact k.2 (i - us.size) (by simp at h1;omega) (by simp at h2;omega)
theorem z4t {st:St} {w:World} (h:Rel ρ st.mem st.next w) (floor:Nat) {cs:List AVal} {vs:Array Value} (hr:Uz ρ cs vs) (rest:Array Value) (ty el:TypeId) (v:AVal) (u:Value)
  (eX: ∀ρ',ρ' st.next=some ⟨w.heap.size,0,cs.length,vs.size+rest.size⟩→Ym ρ' v u):
  x1u ρ floor st (y2q st cs ty) v w (Vr ρ st.next ⟨w.heap.size,0,cs.length,vs.size+rest.size⟩) u (w.drew.alloc (.cells (vs++rest) el)):=by
 have hd:Rel ρ st.mem st.next w.drew:=h.drawn _
 have:=z4s hd floor cs ty (vs++rest) el (by rw [hr.1];simp) (fun i h1 h2=>by
  rw [Array.getElem_append_left (by rw [←hr.1];exact h1)];exact hr.2 i h1 (by rw [←hr.1];exact h1)) v u (fun ρ' hρ'=>eX ρ' (by simpa using hρ'))
 simp only [Array.size_append] at this;exact ⟨this.val,this.rel,this.ev.drawn⟩
theorem Qb {α:Type} {c:Bool} {x:Option α} {y:α} (h:(bif c then x else none)=some y):c=true∧x=some y:=by
 cases c with
 | false=>cases h
 | true=>exact ⟨rfl,h⟩
structure v9l (P:Program) (ρ:Rho) (t u e:TypeId) (i:TypeInfo) (z:Value) (ux:Value) (n:Nat) (new:List AVal) (vs:Array Value) (w:World):Prop where
 rel:Uz ρ new vs
 hin: ∀{type:TypeId} {ts:List TypeId} {base:Option Addr} {len c:Nat} {xs:List Value},(n=0∨(n+1)*(i.bytes+1)≤1099511627776)→len+n≤c→ ∀{w':World},(∀a,base=some a→(storeCells (a.add (len*i.size)) vs.toList).run P w=.ok () w')→(base=none→w'=w)→
  (Builtin.append_ (t::u::ts).toArray type ((.slice base len c)::ux::xs).toArray).run P w=.ok (.slice base (len+n) c) w'
 hnew: ∀{type:TypeId} {ts:List TypeId} {base:Option Addr} {len c:Nat} {xs:List Value} {old:Array Value},(Builtin.firstCells i.size len (.slice base len c)).run P w.drew=.ok old w.drew→c<len+n→(len+n+1)*(i.bytes+1)≤1099511627776→
  ∃newCap,len+n≤newCap∧ ∃rest:Array Value,rest.size=(newCap - (len+n))*z.cells.size∧
   (Builtin.append_ (t::u::ts).toArray type ((.slice base len c)::ux::xs).toArray).run P w=.ok (.slice (some ⟨w.heap.size,0,none⟩) (len+n) newCap) (w.drew.alloc (.cells (old++vs++rest) e))
theorem y6h {n:Int} {bytes:Nat} (h0:0≤n) (h:n.toNat=0∨(n.toNat+1)*(bytes+1)≤1099511627776):IntKind.i64.wrap n=n∧n*(bytes:Int)≤281474976710656:=by
 rcases h with h | h
 ·obtain rfl:n=0:=by omega
  exact ⟨rfl,by omega⟩
 ·have h1:n.toNat+1≤(n.toNat+1)*(bytes+1):=Nat.le_mul_of_pos_right _ (by omega);have h2:n.toNat*bytes≤(n.toNat+1)*(bytes+1):=Nat.mul_le_mul (by omega) (by omega);refine ⟨IntWalk.i64_in _ (by omega),?_⟩;have h3:((n.toNat*bytes:Nat):Int)≤1099511627776:=by omega
  rw [Int.natCast_mul,Int.toNat_of_nonneg h0] at h3;omega
theorem z0y {mem:Mem} {next:Nat} {w:World} (h:Rel ρ mem next w) {t u e:TypeId} {ut:TypeDesc} {i:TypeInfo} {z:Value} {zero:List AVal} {x:AVal} {ux:Value} {n:Nat} {new:List AVal} (hu:P.underlying t=some (.slice e)) (hut:P.underlying u=some ut) (hi:P.info? e=some i) (hz:i.zero=some z)
  (hzr:Uz ρ zero z.cells) (hzl:zero.length=i.size) (hc:Qg mem i.size zero ut x=some (n,new)) (hx:Ym ρ x ux) (hnl:new.length=n*i.size): ∃vs,v9l P ρ t u e i z ux n new vs w:=by
 unfold Qg at hc;split at hc
 ·rename_i kt;split at hc
  ·rename_i k m;obtain ⟨h0,hc⟩:=Qb hc;have h0:=of_decide_eq_true h0;simp only [Option.some.injEq,Prod.mk.injEq] at hc;obtain ⟨rfl,rfl⟩:=hc;cases hx;have hzs:z.cells.size=i.size:=by rw [←hzr.1];exact hzl
   refine ⟨Builtin.zeroCells z.cells m.toNat,?_,?_,?_⟩
   ·exact y9z hzr m.toNat (m.toNat*z.cells.size) (by rw [hzr.1])
   ·intro type ts base len c xs hr eM w' hst hno;obtain ⟨hw,hb⟩:=y6h h0 hr;have hb': ¬281474976710656<m*(i.bytes:Int):=(by omega);have hlt: ¬m<0:=(by omega);have hzv: ∀w,(zeroValue e).run P w=.ok z w:=fun w=>by simp [zeroValue,run_typeInfo w hi,hz]
    have hty: ∀w,(typeInfo e).run P w=.ok i w:=fun w=>run_typeInfo w hi;by_cases hz0:m.toNat*i.size=0
    ·have hze:Builtin.zeroCells z.cells m.toNat= #[]:=(by simp [Builtin.zeroCells,hzs,hz0]);rw [hze] at hst;cases base with
     | none=>obtain rfl:=hno rfl;simp [Builtin.append_,run_underlying hu,run_underlying hut,Yy hi,asInt,asIntOf,hw,hlt,hty,hb',eM,hz0]
     | some a=>have:=hst a rfl;simp only [] at this;simp [Builtin.append_,run_underlying hu,run_underlying hut,Yy hi,asInt,asIntOf,hw,hlt,hty,hb',eM,hz0,this]
    ·cases base with
     | none=>obtain rfl:=hno rfl;simp [Builtin.append_,run_underlying hu,run_underlying hut,Yy hi,asInt,asIntOf,hw,hlt,hty,hb',eM,hz0,hzv]
     | some a=>have:=hst a rfl;simp [Builtin.append_,run_underlying hu,run_underlying hut,Yy hi,asInt,asIntOf,hw,hlt,hty,hb',eM,hz0,hzv,this]
   ·intro type ts base len c xs old hold eM fM;have hr:m.toNat=0∨(m.toNat+1)*(i.bytes+1)≤1099511627776:=.inr (Nat.le_trans (Nat.mul_le_mul_right _ (by omega)) fM);obtain ⟨hw,hb⟩:=y6h h0 hr;have hb': ¬281474976710656<m*(i.bytes:Int):=(by omega);have hlt: ¬m<0:=(by omega);have gK:len+m.toNat+1≤(len+m.toNat+1)*(i.bytes+1):=Nat.le_mul_of_pos_right _ (by omega);have hr0:=w7z fM eM;have hr'': ¬281474976710656<Builtin.nextslicecap (len+m.toNat) c*i.bytes:=hr0;have h1: ¬len+m.toNat≤c:=(by omega);have h2: ¬(9223372036854775807<(len:Int)+(m.toNat:Int)):=(by omega);have h2': ¬(9223372036854775807<(len:Int)+max m 0):=(by omega);have hq:(Question.appendCap (len+m.toNat) c e).forced =false:=rfl;have hzv: ∀w,(zeroValue e).run P w=.ok z w:=fun w=>by simp [zeroValue,run_typeInfo w hi,hz]
    have hty: ∀w,(typeInfo e).run P w=.ok i w:=fun w=>run_typeInfo w hi;refine ⟨(Question.appendCap (len+m.toNat) c e).cut (w.tape w.drawn (Question.appendCap (len+m.toNat) c e)),by simp only [Question.cut];omega,Builtin.zeroCells z.cells ((Question.appendCap (len+m.toNat) c e).cut (w.tape w.drawn (Question.appendCap (len+m.toNat) c e)) - (len+m.toNat)),by simp [Builtin.zeroCells],?_⟩;by_cases hz0:m.toNat*i.size=0
    ·have hze:Builtin.zeroCells z.cells m.toNat= #[]:=(by simp [Builtin.zeroCells,hzs,hz0]);simp [Builtin.append_,run_underlying hu,run_underlying hut,Yy hi,asInt,asIntOf,hw,hlt,hb',h1,h2,h2',hty,hr'',hq,hold,hzv,newRow,hz0,hze]
    ·simp [Builtin.append_,run_underlying hu,run_underlying hut,Yy hi,asInt,asIntOf,hw,hlt,hb',h1,h2,h2',hty,hr'',hq,hold,hzv,newRow,hz0]
  ·cases hc
 ·rename_i hni';have hni: ∀k,ut≠ .int k:=fun k hk=>hni' k hk;obtain ⟨eH,eY⟩:=Wt (P:=P) h hc hx hnl;obtain ⟨vs,hvs,hfc⟩:=eY n (Nat.le_refl _);rw [List.take_of_length_le (by omega)] at hvs;have fO:(Builtin.firstCells i.size n ux).run P w=.ok vs w:=hfc w.drawn;have hfc1:(Builtin.firstCells i.size n ux).run P w.drew=.ok vs w.drew:=hfc (w.drawn+1);exact ⟨vs,hvs,fun _ eM _ hst hno=>z6s hu hut hni hi (eH w) fO eM hst hno,fun hold eM fM=>z5l hu hut hni hi hz (eH w) hfc1 hold eM fM⟩
theorem z2p {st st':St} {w:World} (h:Rel ρ st.mem st.next w) (floor:Nat) {ts:Array TypeId} {type:TypeId} {xs:List AVal} {us:Array Value} {v:AVal} (ha:z0c P floor st ts.toList xs=some (v,st')) (hx:Vj (Ym ρ) xs us.toList):
  ∃ρ' u w',(Builtin.append_ ts type us).run P w=.ok u w'∧x1u ρ floor st st' v w ρ' u w'∧st'.env=st.env∧st'.ob=st.ob:=by
 obtain ⟨ts⟩:=ts;obtain ⟨us⟩:=us;simp only at ha hx;unfold z0c at ha;split at ha
 ·rename_i t tu tts s x txs;cases hx with
  | @cons _ su _ _ hs hx=>
   cases hx with
   | @cons _ ux _ uxs hx _=>
    split at ha
    ·rename_i e ut hu hut;split at ha
     ·rename_i i zero hi hz;split at ha
      ·rename_i n new hcs;obtain ⟨i2,z,hi2,hz2,hzr,_⟩:=Wr (ρ:=ρ) hz;obtain rfl:i=i2:=by rw [hi] at hi2;exact Option.some.inj hi2
       cases hc:(Nat.beq zero.length i.size&&Nat.beq new.length (n*i.size)&&Nat.ble 1 i.size&&new.all y0f) with
       | false=>rw [hc] at ha;cases ha
       | true =>
        rw [hc,cond_true] at ha;simp only [Bool.and_eq_true] at hc;obtain ⟨⟨⟨hzl,hnl⟩,hsz⟩,hsc⟩:=hc;have hzl:=Nat.eq_of_beq_eq_true hzl;have hnl:=Nat.eq_of_beq_eq_true hnl;have hsz:=Nat.le_of_ble_eq_true hsz;have hzs:z.cells.size=i.size:=by rw [←hzr.1];exact hzl
        obtain ⟨vs,hF⟩:=z0y (P:=P) h hu hut hi hz2 hzr hzl hcs hx hnl;have hvs:=hF.rel;have hvsz:vs.size=n*i.size:=by rw [←hvs.1];exact hnl
        have fL:=Ym.cells_oneCell hvs hsc;split at ha
        ·-- nil
         cases hs;cases hn0:Nat.beq n 0 with
         | true=>rw [hn0,cond_true] at ha;simp only [Option.some.injEq,Prod.mk.injEq] at ha;obtain ⟨rfl,rfl⟩:=ha;have hn0:=Nat.eq_of_beq_eq_true hn0;subst hn0;have eI:=hF.hin (type:=type) (ts:=tts) (base:=none) (len:=0) (c:=0) (xs:=uxs) (.inl rfl) (Nat.le_refl _) (w':=w) (fun a e=>by cases e) (fun _=>rfl);exact ⟨ρ,_,w,eI,⟨.nils,h,Ev.refl _ _ _ _ _ h.dom⟩,rfl,rfl⟩
         | false=>
          rw [hn0,cond_false] at ha;cases hrm:Nat.ble ((n+1)*(i.bytes+1)) Un with
          | false=>rw [hrm] at ha;cases ha
          | true=>
           rw [hrm,cond_true] at ha;simp only [Option.some.injEq,Prod.mk.injEq] at ha;obtain ⟨rfl,rfl⟩:=ha;have hrm:=Nat.le_of_ble_eq_true hrm;have hnpos:0<n:=by
            rcases Nat.eq_zero_or_pos n with e | e
            ·rw [e] at hn0;cases hn0
            ·exact e
           obtain ⟨newCap,eN,rest,eZ,eI⟩:=hF.hnew (type:=type) (ts:=tts) (base:=none) (len:=0) (c:=0) (xs:=uxs) (old:= #[]) (by simp [Builtin.firstCells]) (by omega) (by simpa [Un] using hrm);simp only [Nat.zero_add,Array.empty_append] at eI eN eZ;have hsum:vs.size+rest.size=newCap*i.size:=by rw [hvsz,eZ,hzs,←Nat.add_mul];congr 1;omega
           refine ⟨_,_,_,eI,z4t h floor hvs rest e e _ _ (fun ρ' hρ'=> ?_),rfl,rfl⟩;refine .sl _ 0 _ _ _ _ hρ' ?_ eN;simp only [z0j];rw [hsum,hnl];exact ⟨by rw [Nat.zero_add];exact Nat.mul_le_mul_right _ eN,by omega⟩
        ·-- a slice
         rename_i b off len cap;split at ha
         ·rename_i blk hm;split at ha
          ·rename_i old hold;cases hrm:Nat.ble ((len+n+1)*(i.bytes+1)) Un with
           | false=>rw [hrm] at ha;cases ha
           | true =>
            rw [hrm,cond_true] at ha;have hrm:=Nat.le_of_ble_eq_true hrm;have hrn:n=0∨(n+1)*(i.bytes+1)≤1099511627776:=.inr (Nat.le_trans (Nat.mul_le_mul_right _ (by omega)) hrm);cases hs with
            | sl _ _ _ _ l c hρ eN hlc=>
             obtain ⟨hpold,gB,holdle⟩:=z5d hold;have fR:=h.blk b l blk hρ hm;have hln:=fR.n;have gK:(len+n)*i.size=len*i.size+n*i.size:=Nat.add_mul _ _ _;have hoff:off+len*i.size≤blk.cells.length∨len*i.size=0:=(by omega);have hcos:Wv st.mem i.size (.sl b off len cap)=some (len,old):=(by simp [Wv,hm,hold]);obtain ⟨_,hfo⟩:=Wt (P:=P) h hcos (.sl b off len cap l c hρ eN hlc) gB;obtain ⟨ovs,hovs,hof⟩:=hfo len (Nat.le_refl _);rw [List.take_of_length_le (by omega)] at hovs;have hovz:ovs.size=len*i.size:=by rw [←hovs.1];exact gB
             have hof1:(Builtin.firstCells i.size len (.slice (some ⟨l.blk,l.base+off,none⟩) len c)).run P w.drew=.ok ovs w.drew:=hof (w.drawn+1);have inplace: ∀v st',len+n≤c→floor≤b→off+(len+n)*i.size≤blk.cells.length→
               some (AVal.sl b off (len+n) cap,st.withMem (We st.mem b (some ⟨blk.cells.take (off+len*i.size)++new++blk.cells.drop (off+(len+n)*i.size),blk.ty,none⟩)))=some (v,st')→
               ∃ρ' u w',(Builtin.append_ (t::tu::tts).toArray type ((.slice (some ⟨l.blk,l.base+off,none⟩) len c)::ux::uxs).toArray).run P w=.ok u w'∧x1u ρ floor st st' v w ρ' u w'∧st'.env=st.env∧st'.ob=st.ob:=by
              intro v st' eM hfl eR he;simp only [Option.some.injEq,Prod.mk.injEq] at he;obtain ⟨rfl,rfl⟩:=he;obtain ⟨cur,el,hw,gC,eG⟩:=h.write hρ hm (off:=off+len*i.size) (cs:=new) (vs:=vs.toList) (by simpa using hvs.1.symm) (by omega) (fun j h1 h2=>by simpa using hvs.2 j h1 (by simpa using h2));have hst:=run_storeCells_at P l.blk (l.base+off+len*i.size) el vs.toList 0 cur w hw (by rw [Nat.add_zero,Nat.add_assoc l.base];exact gC) fL;rw [Nat.add_zero] at hst;have eI:=hF.hin (type:=type) (ts:=tts) (base:=some ⟨l.blk,l.base+off,none⟩) (len:=len) (c:=c) (xs:=uxs) hrn eM (w':=w.setRow l.blk (cur.toList.take (l.base+off+len*i.size)++vs.toList++cur.toList.drop (l.base+off+len*i.size+vs.toList.length)).toArray)
               (fun a e=>by cases e;rw [Xa];exact hst) (fun e=>by cases e)
              refine ⟨ρ,_,_,eI,⟨.sl _ _ _ _ l c hρ eN (by omega),?_,Ev.ofWrite h hρ hfl _ _⟩,rfl,rfl⟩;have e1:off+len*i.size+new.length=off+(len+n)*i.size:=(by omega);rw [e1] at eG
              simpa only [St.withMem,Nat.add_assoc] using eG
             have anew: ∀v st' (st1:St),c<len+n→Rel ρ st1.mem st1.next w→Ev ρ ρ floor st.mem st.next st1.mem st1.next w w→st1.env=st.env→st1.ob=st.ob→
               some (AVal.sl st1.next 0 (len+n) (.un i.size),y2q st1 (old++new) e)=some (v,st')→
               ∃ρ' u w',(Builtin.append_ (t::tu::tts).toArray type ((.slice (some ⟨l.blk,l.base+off,none⟩) len c)::ux::uxs).toArray).run P w=.ok u w'∧x1u ρ floor st st' v w ρ' u w'∧st'.env=st.env∧st'.ob=st.ob:=by
              intro v st' st1 eM fI hev1 eK hob he;simp only [Option.some.injEq,Prod.mk.injEq] at he;obtain ⟨rfl,rfl⟩:=he;obtain ⟨newCap,fN,rest,eZ,eI⟩:=hF.hnew (type:=type) (ts:=tts) (base:=some ⟨l.blk,l.base+off,none⟩) (len:=len) (c:=c) (xs:=uxs) hof1 eM (by simpa [Un] using hrm);have hov:=hovs.append hvs;have hsum:(ovs++vs).size +rest.size=newCap*i.size:=by rw [Array.size_append,hovz,hvsz,eZ,hzs,←Nat.add_mul,←Nat.add_mul];congr 1;omega
              have hp:=z4t fI floor hov rest e e (.sl st1.next 0 (len+n) (.un i.size)) (.slice (some ⟨w.heap.size,0,none⟩) (len+n) newCap) (fun ρ' hρ'=>by
               refine .sl _ 0 _ _ _ _ hρ' ?_ fN;simp only [z0j];rw [hsum];exact ⟨by rw [Nat.zero_add,List.length_append,gB,hnl,←Nat.add_mul];exact Nat.mul_le_mul_right _ fN,by omega⟩)
              refine ⟨_,_,_,eI,⟨hp.val,hp.rel,hev1.trans hp.ev⟩,?_,?_⟩
              ·simpa [y2q] using eK
              ·simpa [y2q] using hob
             split at ha
             ·-- the capacity is known
              rename_i k;simp only [z0j] at eN;subst eN;cases hk:Nat.ble (len+n) c with
              | true=>
               rw [hk,cond_true] at ha;have hk:=Nat.le_of_ble_eq_true hk;cases hf:(Nat.ble floor b&&Nat.ble (off+(len+n)*i.size) blk.cells.length) with
               | false=>rw [hf] at ha;cases ha
               | true=>rw [hf,cond_true] at ha;simp only [Bool.and_eq_true] at hf;exact inplace _ _ hk (Nat.le_of_ble_eq_true hf.1) (Nat.le_of_ble_eq_true hf.2) ha
              | false=>
               rw [hk,cond_false] at ha;have hk: ¬len+n≤c:=fun e=>by rw [Nat.ble_eq_true_of_le e] at hk;cases hk
               exact anew _ _ st (by omega) h (Ev.refl _ _ _ _ _ h.dom) rfl rfl ha
             ·-- it is not
              rename_i zz;simp only [z0j] at eN;cases hf:(Nat.beq zz i.size&&Nat.ble floor b) with
              | false=>rw [hf] at ha;cases ha
              | true=>
               rw [hf,cond_true] at ha;simp only [Bool.and_eq_true] at hf;have hzz:=Nat.eq_of_beq_eq_true hf.1;have hfl:=Nat.le_of_ble_eq_true hf.2;subst hzz;cases hk:Nat.ble (off+(len+n)*i.size) blk.cells.length with
               | true=>
                rw [hk,cond_true] at ha;have hk:=Nat.le_of_ble_eq_true hk;have eM:len+n≤c:=by rw [hln] at eN;have:(len+n)*i.size≤c*i.size:=(by omega);exact Nat.le_of_mul_le_mul_right this hsz
                exact inplace _ _ eM hfl hk ha
               | false=>
                rw [hk,cond_false] at ha;cases hend:Nat.beq (off+len*i.size) blk.cells.length with
                | false=>rw [hend] at ha;cases ha
                | true=>
                 rw [hend,cond_true] at ha;have hend:=Nat.eq_of_beq_eq_true hend;by_cases eM:len+n≤c
                 ·-- there is Un: behind what is told
                  simp only [Option.some.injEq,Prod.mk.injEq] at ha;obtain ⟨rfl,rfl⟩:=ha;have hcm:(len+n)*i.size≤c*i.size:=Nat.mul_le_mul_right _ eM;obtain ⟨cur,el,hw,gC,eG⟩:=h.beyond hρ hm (off:=off) (new:=new) (vs:=vs.toList) e (by simpa using hvs.1.symm) (by omega) (by omega) (fun j h1 h2=>by simpa using hvs.2 j h1 (by simpa using h2));have hst:=run_storeCells_at P l.blk (l.base+off+len*i.size) el vs.toList 0 cur w hw (by rw [Nat.add_zero,Nat.add_assoc l.base,hend];exact gC) fL;rw [Nat.add_zero] at hst;have eI:=hF.hin (type:=type) (ts:=tts) (base:=some ⟨l.blk,l.base+off,none⟩) (len:=len) (c:=c) (xs:=uxs) hrn eM (w':=w.setRow l.blk (cur.toList.take (l.base+off+len*i.size)++vs.toList++cur.toList.drop (l.base+off+len*i.size+vs.toList.length)).toArray)
                   (fun a e=>by cases e;rw [Xa];exact hst) (fun e=>by cases e)
                  have hod:old=blk.cells.drop off:=by rw [hpold];exact List.take_of_length_le (by simp;omega)
                  refine ⟨_,_,_,eI,⟨.sl _ 0 _ _ ⟨l.blk,l.base+off,blk.cells.length - off+new.length,l.tot - off⟩ c (by simp [Vr]) ?_ (by omega),?_,Ev.ofBeyond h hρ hfl ⟨l.blk,l.base+off,blk.cells.length - off+new.length,l.tot - off⟩ rfl _ _⟩,rfl,rfl⟩
                  ·simp only [z0j];omega
                  ·rw [hod];have e2:l.base+off+len*i.size=l.base+blk.cells.length:=(by omega);rw [e2]
                   simpa only [y2q,St.withMem] using eG
                 ·exact anew _ _ (st.withMem (We st.mem b none)) (by omega) (h.kill b) (Ev.ofKill h floor hρ) rfl rfl ha
          ·cases ha
         ·cases ha
        ·cases ha
      ·cases ha
     ·cases ha
    ·cases ha
 ·cases ha
theorem w0a {get:Nat→List AVal} {off len n sz N:Nat} {new:List AVal} (hl: ∀i,i<N→(get i).length =sz) (hN:off+len=N) (hnew:new.length=n*sz):
  (∀i,i<len+n→(Zt get off len sz new i).length =sz)∧rows (len+n) (Zt get off len sz new)=((rows N get).drop (off*sz)).take (len*sz)++new:=by
 have h1: ∀i,i<len+n→(Zt get off len sz new i).length =sz:=fun i hi=>by
  unfold Zt;cases e:Nat.ble len i with
  | true=>have:=Nat.le_of_ble_eq_true e;simp only [cond_true,List.length_take,List.length_drop,hnew];have:(i - len+1)*sz≤n*sz:=Nat.mul_le_mul_right sz (by omega);rw [Nat.add_mul,Nat.one_mul] at this;omega
  | false=>
   have: ¬len≤i:=fun h=>by rw [Nat.ble_eq_true_of_le h] at e;cases e
   exact hl _ (by omega)
 refine ⟨h1,?_⟩;have eH:=Ya (len+n) h1;have hlenN:=Ya N hl;have hd:((rows N get).drop (off*sz)).length =len*sz:=by rw [List.length_drop,hlenN,←hN,Nat.add_mul];omega
 rw [List.take_of_length_le (by omega)];apply List.ext_getElem?;intro i;by_cases hi:i<(len+n)*sz
 ·have hsz:0<sz:=by
   rcases Nat.eq_zero_or_pos sz with e | e
   ·rw [e,Nat.mul_zero] at hi;omega
   ·exact e
  have hj:i %sz<sz:=Nat.mod_lt _ hsz;have hq:i / sz<len+n:=Nat.div_lt_of_lt_mul (by rw [Nat.mul_comm];exact hi);have e:i=i / sz*sz+i %sz:=by rw [Nat.mul_comm];exact (Nat.div_add_mod i sz).symm
  generalize i / sz=q at*;generalize i %sz=j at*;subst e;rw [Wo (len+n) h1 q j hq hj];unfold Zt;cases e:Nat.ble len q with
  | true=>
   have hle:=Nat.le_of_ble_eq_true e;have:len*sz≤q*sz:=Nat.mul_le_mul_right sz hle;simp only [cond_true];rw [List.getElem?_append_right (by omega),hd,List.getElem?_take,if_pos hj,List.getElem?_drop]
   congr 1
   rw [Nat.sub_mul];omega
  | false=>
   have hlt:q<len:=by
    rcases Nat.lt_or_ge q len with h | h
    ·exact h
    ·rw [Nat.ble_eq_true_of_le h] at e;cases e
   have:(q+1)*sz≤len*sz:=Nat.mul_le_mul_right sz hlt;rw [Nat.add_mul,Nat.one_mul] at this;simp only [cond_false];rw [List.getElem?_append_left (by omega),List.getElem?_drop,←Wo N hl (off+q) j (by omega) hj]
   congr 1
   rw [Nat.add_mul];omega
 ·rw [List.getElem?_eq_none (by omega),List.getElem?_eq_none (by rw [List.length_append,hd,hnew,←Nat.add_mul];omega)]
theorem w0i (n:Nat) (z:List AVal):rep n z=rows n fun _=>z:=by unfold rep rows;rw [List.flatMap_def,List.map_const',List.length_range]
theorem Ev.remem {ρ':Rho} {floor:Nat} {m m' m'':Mem} {n n':Nat} {w w':World} (h:Ev ρ ρ' floor m n m' n' w w') (hm: ∀b,b<n→ ∀cs ty,Xv m b=some ⟨cs,ty,none⟩→Xv m'' b=Xv m' b):Ev ρ ρ' floor m n m'' n' w w':=
 ⟨h.ext,h.new,h.nxt,fun b hb e cs ty hc=>by rw [hm b hb cs ty hc];exact h.unborn b hb e cs ty hc,h.frame,h.fresh,h.size,h.os,h.tape,h.output,h.still⟩
theorem Rel.remem {mem mem':Mem} {next:Nat} {w:World} (h:Rel ρ mem next w) (hm: ∀b,Xv mem' b=Xv mem b):Rel ρ mem' next w:=
 ⟨h.dom,fun b b' l l' e e' he hs hs'=>h.inj b b' l l' e e' he (by rw [←hm];exact hs) (by rw [←hm];exact hs'),fun b l ab e hc=>h.blk b l ab e (by rw [←hm];exact hc),h.old,fun b l e hs=>h.sep b l e (by rw [←hm];exact hs),h.real,fun b hb=>by rw [hm];exact h.bd b hb,h.ldom⟩
theorem z9m {cx:Ctx} {st st':St} {w:World} (h:Rel ρ st.mem st.next w) {t:TypeId} {x y v:AVal} {ux uy:Value} (hb:Jq P cx st t x y=some (v,st')) (hob:st'.ob=true) (hx:Ym ρ x ux) (hy:Ym ρ y uy):
  ∃ρ' u w',(Instr.makeSlice t ux uy).run P w=.ok u w'∧x1u ρ cx.floor st st' v w ρ' u w':=by
 unfold Jq at hb;split at hb
 ·rename_i e kl l kc c hu;split at hb
  ·rename_i i zero hi hz;cases fB:(Nat.beq zero.length i.size&&Nat.ble 1 i.size) with
   | false=>rw [fB] at hb;cases hb
   | true=>
    rw [fB,cond_true] at hb;simp only [Bool.and_eq_true] at fB;obtain ⟨k1,k2⟩:=fB;have hzl:=Nat.eq_of_beq_eq_true k1;simp only [Option.map_eq_some_iff,Prod.mk.injEq] at hb;obtain ⟨st1,ho,rfl,rfl⟩:=hb;obtain ⟨o1,o2,o3,o4⟩:=z7j ho;obtain ⟨hc,_⟩:=o4 hob;have m2:st1.mem=We st.mem st.next (some ⟨rows c.toNat fun _=>zero,e,some ⟨i.size,c.toNat,.flat fun _=>zero⟩⟩):=o2
    have n2:st1.next=st.next+1:=o3
    have h0:Uw P st t (.int kl l) (.int kc c)=some (.sl st.next 0 l.toNat (.ex c.toNat),y2q st (rep c.toNat zero) e):=by unfold Uw;simp only [hu,hi,hz,k1,hc,Bool.and_self,cond_true]
    obtain ⟨ρ',uv,w',eI,hp,_,_⟩:=Qu h cx.floor h0 hx hy;refine ⟨ρ',uv,w',eI,?_,?_,?_⟩
    ·have hv:=hp.val;cases hv with
     | sl _ _ _ _ l' c' hρ' fN fZ=>
      have hbk:=hp.rel.blk st.next l' ⟨rep c.toNat zero,e,none⟩ hρ' (Yf _ _ _)
      have hcn:c'=c.toNat:=fN;have q1:=hbk.n;have q2:=hbk.tot;simp only [Qe,hzl] at q1;have:=Ym.sla (ρ:=ρ') st.next i.size 0 l.toNat (.un i.size) l' c' hρ' (by simp only [z0j,Nat.zero_mul,Nat.zero_add,hcn];omega) fZ
      rw [Nat.zero_mul] at this;exact this
    ·have hr:Rel ρ' (We st.mem st.next (some ⟨rep c.toNat zero,e,none⟩)) (st.next+1) w':=hp.rel;rw [w0i] at hr;rw [m2,n2];exact hr.setArr ⟨i.size,c.toNat,_⟩ rfl (Nat.le_of_ble_eq_true k2) fun _ _=>hzl
    ·rw [m2,n2];refine hp.ev.remem fun b' hb' cs ty hcs=> ?_;show _=Xv (We st.mem st.next _) b';rw [Zv _ _ (by omega),Zv _ _ (by omega)]
  ·cases hb
 ·cases hb
theorem y6b {cx:Ctx} {st st':St} {w:World} (h:Rel ρ st.mem st.next w) {ts:Array TypeId} {type:TypeId} {xs:List AVal} {us:Array Value} {v:AVal} (ha:z2r P cx st ts.toList xs=some (v,st')) (hob:st'.ob=true) (hx:Vj (Ym ρ) xs us.toList):
  ∃ρ' u w',(Builtin.append_ ts type us).run P w=.ok u w'∧x1u ρ cx.floor st st' v w ρ' u w':=by
 obtain ⟨ul⟩:=us;simp only at hx;unfold z2r at ha;split at ha
 ·rename_i t u tr b sz off len z x xr hts;split at ha
  ·rename_i e ut hu hut;split at ha
   ·cases ha
   ·rename_i hni;split at ha
    ·rename_i i hi;split at ha
     ·rename_i n new zero blk hc hz hm;split at ha
      ·rename_i A hA;cases fB:(Nat.beq zero.length i.size&&Nat.beq new.length (n*i.size)&&Nat.ble 1 i.size&&new.all y0f&&Nat.beq sz i.size&&Nat.beq z sz&&Nat.ble cx.floor b&&Nat.ble 1 n) with
       | false=>rw [fB] at ha;cases ha
       | true=>
        rw [fB,cond_true] at ha;have hchk0:=fB;simp only [Bool.and_eq_true] at fB;obtain ⟨⟨⟨⟨⟨⟨⟨k1,k2⟩,k3⟩,k4⟩,k5⟩,k6⟩,k7⟩,k8⟩:=fB;obtain rfl:=Nat.eq_of_beq_eq_true k5;obtain rfl:=Nat.eq_of_beq_eq_true k6;have hnl:=Nat.eq_of_beq_eq_true k2;have hsz1:=Nat.le_of_ble_eq_true k3;have hfl:=Nat.le_of_ble_eq_true k7;have hn1:=Nat.le_of_ble_eq_true k8;simp only [Option.map_eq_some_iff,Prod.mk.injEq] at ha;obtain ⟨st1,ho,rfl,rfl⟩:=ha;obtain ⟨o1,o2,o3,o4⟩:=z7j ho;obtain ⟨hb,_⟩:=o4 hob;simp only [Bool.and_eq_true,decide_eq_true_eq] at hb;obtain ⟨hAs,hfull,eM⟩:=hb;have hAs:=Nat.eq_of_beq_eq_true hAs;have hbn:b<st.next:=by
         rcases Nat.lt_or_ge b st.next with g | g
         ·exact g
         ·rw [h.bd b g] at hm;cases hm
        have m2:st1.mem=We (We st.mem b none) st.next (some ⟨rows (len+n) (Zt A.get off len i.size new),e,some ⟨i.size,len+n,Zt A.get off len i.size new⟩⟩):=o2
        have n2:st1.next=st.next+1:=o3
        cases hx with
        | cons ha0 hr=>
         cases ha0 with
         | sla _ _ _ _ _ l c hρ eN eH=>
          obtain ⟨fG,gH,eW⟩:=(h.blk b l blk hρ hm).arr A hA;rw [hAs] at eW;obtain ⟨q1,q2⟩:=w0a (new:=new) eW hfull hnl;have hlenr:=Ya A.n eW;have gK:off*i.size+len*i.size=A.n*i.size:=(by rw [←Nat.add_mul,hfull]);have hcut:cut blk.cells (off*i.size) (len*i.size)=some ((blk.cells.drop (off*i.size)).take (len*i.size)):=by
           unfold cut;simp only;rw [show Nat.beq ((blk.cells.drop (off*i.size)).take (len*i.size)).length (len*i.size)=true from by
            rw [Nat.beq_eq];simp [fG,hlenr];omega]
           rfl
          have hroom':Nat.ble ((len+n+1)*(i.bytes+1)) Un=true:=Nat.ble_eq_true_of_le eM;have hnot:Nat.ble (off*i.size+(len+n)*i.size) blk.cells.length=false:=by
           have:1*i.size≤n*i.size:=Nat.mul_le_mul_right _ hn1;cases g:Nat.ble (off*i.size+(len+n)*i.size) blk.cells.length with
           | false=>rfl
           | true=>have:=Nat.le_of_ble_eq_true g;rw [fG,hlenr,Nat.add_mul] at this;omega
          have hat:Nat.beq (off*i.size+len*i.size) blk.cells.length=true:=(by rw [fG,hlenr,gK,Nat.beq_eq]);have h0:z0c P cx.floor st ts.toList (.sl b (off*i.size) len (.un i.size)::x::xr)=some (.sl st.next 0 (len+n) (.un i.size),y2q (st.withMem (We st.mem b none)) (((blk.cells.drop (off*i.size)).take (len*i.size))++new) e):=by
           rw [hts];unfold z0c;simp only [hu,hut,hi,hz];cases ut <;> first
            | (exfalso;exact hni _ rfl)
            | (simp only [Qg,hc,k1,k2,k3,k4,hm,hcut,hroom',k7,hnot,hat,Bool.and_self,cond_true,cond_false,Nat.beq_refl])
          obtain ⟨ρ',uv,w',eI,hp,_,_⟩:=z2p (type:=type) h cx.floor h0 (us:=⟨_⟩) (.cons (.sl _ _ _ _ l c hρ eN eH) hr);refine ⟨ρ',uv,w',eI,?_,?_,?_⟩
          ·have hv:=hp.val;cases hv with
           | sl _ _ _ _ l' c' hρ' fN fZ=>
            have:=Ym.sla (ρ:=ρ') st.next i.size 0 (len+n) (.un i.size) l' c' hρ' (by rw [Nat.zero_mul];exact fN) fZ
            rw [Nat.zero_mul] at this;exact this
          ·have hr:=hp.rel;rw [m2,n2];have hr:Rel ρ' (We (We st.mem b none) st.next (some ⟨((blk.cells.drop (off*i.size)).take (len*i.size))++new,e,none⟩)) (st.next+1) w':=hr;rw [fG,←q2] at hr;exact hr.setArr ⟨i.size,len+n,_⟩ rfl hsz1 q1
          ·rw [m2,n2];refine hp.ev.remem fun b' hb' cs ty hcs=> ?_;have hne:b'≠b:=fun e=>by rw [e,hm] at hcs;cases hcs;cases hA
           show _=Xv (We (We st.mem b none) st.next _) b';rw [Zv _ _ (by omega),Zv _ _ hne,Zv _ _ (by omega),Zv _ _ hne]
         | slan=>
          have hq:=w0a (get:=fun _=>List.replicate i.size AVal.undef) (off:=0) (len:=0) (N:=0) (new:=new) (fun i hi=>absurd hi (Nat.not_lt_zero _)) rfl hnl;have hfe:Zt (fun _=>List.replicate i.size AVal.undef) 0 0 i.size new=Zt A.get off 0 i.size new:=rfl;rw [hfe] at hq;obtain ⟨q1,q2⟩:=hq;have hn0:Nat.beq n 0=false:=by cases n with | zero=>omega | succ n=>rfl
          have hroom':Nat.ble ((n+1)*(i.bytes+1)) Un=true:=Nat.ble_eq_true_of_le (by rw [Nat.zero_add] at eM;exact eM);have h0:z0c P cx.floor st ts.toList (.nils ::x::xr)=some (.sl st.next 0 n (.un i.size),y2q st new e):=by
           rw [hts];unfold z0c;simp only [hu,hut,hi,hz];cases ut <;> first
            | (exfalso;exact hni _ rfl)
            | (simp only [Qg,hc,k1,k2,k3,k4,hn0,hroom',Bool.and_self,cond_true,cond_false])
          obtain ⟨ρ',uv,w',eI,hp,_,_⟩:=z2p (type:=type) h cx.floor h0 (us:=⟨_⟩) (.cons .nils hr);refine ⟨ρ',uv,w',eI,?_,?_,?_⟩
          ·have hv:=hp.val;rw [Nat.zero_add];cases hv with
           | sl _ _ _ _ l' c' hρ' fN fZ=>
            have:=Ym.sla (ρ:=ρ') st.next i.size 0 n (.un i.size) l' c' hρ' (by rw [Nat.zero_mul];exact fN) fZ
            rw [Nat.zero_mul] at this;exact this
          ·have hr:Rel ρ' (We st.mem st.next (some ⟨new,e,none⟩)) (st.next+1) w':=hp.rel;have hr:=hr.kill b;have hr:Rel ρ' (We (We st.mem b none) st.next (some ⟨new,e,none⟩)) (st.next+1) w':=hr.remem fun b'=>by
            simp only [Ws];by_cases e1:b'=st.next
            ·rw [if_pos e1,if_neg (by omega),if_pos e1]
            ·rw [if_neg e1,if_neg e1]
           rw [show new=rows (0+n) (Zt A.get off 0 i.size new) by rw [q2];simp] at hr;rw [m2,n2];have:=hr.setArr ⟨i.size,0+n,Zt A.get off 0 i.size new⟩ rfl hsz1 q1;exact this
          ·rw [m2,n2];refine hp.ev.remem fun b' hb' cs ty hcs=> ?_;have hne:b'≠b:=fun e=>by rw [e,hm] at hcs;cases hcs;cases hA
           show _=Xv (We st.mem st.next _) b';rw [Zv _ _ (by omega),Zv _ _ hne,Zv _ _ (by omega)]
      ·cases ha
     ·cases ha
    ·cases ha
  ·cases ha
 ·cases ha
theorem Rel.ghost {mem:Mem} {next:Nat} {w:World} (h:Rel ρ mem next w) (o:Option ABlk):Rel ρ (We mem next o) (next+1) w:=by
 have ne: ∀c l,ρ c=some l→c≠next:=fun c l e=>Nat.ne_of_lt (h.dom c l e)
 refine ⟨fun c l e=>Nat.lt_succ_of_lt (h.dom c l e),fun c c' m m' e e' he hs hs'=> ?_,fun c m ac e hc=> ?_,h.old,fun c m e hs=> ?_,h.real,fun c hc=> ?_,fun j l e=>Nat.lt_succ_of_lt (h.ldom j l e)⟩
 ·rw [Zv _ _ (ne _ _ e)] at hs;rw [Zv _ _ (ne _ _ e')] at hs';exact h.inj c c' m m' e e' he hs hs'
 ·rw [Zv _ _ (ne _ _ e)] at hc;exact h.blk c m ac e hc
 ·rw [Zv _ _ (ne _ _ e)] at hs;exact h.sep c m e hs
 ·rw [Zv _ _ (by omega)];exact h.bd c (by omega)
theorem Ev.ghost {mem:Mem} {next:Nat} {w:World} (h:Rel ρ mem next w) (floor:Nat) (o:Option ABlk):Ev ρ ρ floor mem next (We mem next o) (next+1) w w where
 ext:=Rho.le_refl _
 new _ _:=rfl
 nxt:=Nat.le_succ _
 unborn k hk _ cs ty hm:=by rw [Zv _ _ (Nat.ne_of_lt hk)];exact hm
 frame _ _ hk _:=hk
 fresh k m hk e:=by have:=h.dom k m e;omega
 size:=Nat.le_refl _
 os:=rfl
 tape:=rfl
 output:=rfl
 still _ _:=rfl
theorem v1r {mem:Mem} {next:Nat} {w:World} (h:Rel ρ mem next w) {n sz:Nat} {g:Nat→List AVal} {ux:Value} (hx:Ym ρ (.dat n g) ux) (hg: ∀i,i<n→(g i).length =sz) (hsz:1≤sz):
  (∀w,(Builtin.lenOf ux).run P w=.ok n w)∧ ∃vs:Array Value,Uz ρ (rows n g) vs∧ ∀d,(Builtin.firstCells sz n ux).run P {w with drawn:=d}=.ok vs {w with drawn:=d}:=by
 cases hx with
 | datn=>exact ⟨fun w=>by simp [Builtin.lenOf], #[],⟨by simp [rows],fun i h1 h2=>by simp [rows] at h1⟩,fun d=>by simp [Builtin.firstCells]⟩
 | datz=>exact ⟨fun w=>by simp [Builtin.lenOf], #[],⟨by simp [rows],fun i h1 h2=>by simp [rows] at h1⟩,fun d=>by simp [Builtin.firstCells,loadCells,loadCellsFrom]⟩
 | dat _ _ blk base sz' cap val eN gD hv hh=>
  refine ⟨fun w=>by simp [Builtin.lenOf],?_⟩;have hl:=Ya n hg;have hdiv: ∀k,k<n*sz→k / sz<n∧k %sz<sz∧k / sz*sz+k %sz=k:=fun k hk=>
   ⟨Nat.div_lt_of_lt_mul (by rw [Nat.mul_comm];exact hk),Nat.mod_lt _ hsz,by rw [Nat.mul_comm];exact Nat.div_add_mod k sz⟩
  have fC: ∀(d k:Nat),k<n*sz→({w with drawn:=d}:World).cell? ((⟨blk,base,none⟩:Addr).add k)=some (val (k / sz) (k %sz)):=by
   intro d k hk;obtain ⟨hq,hj,e4⟩:=hdiv k hk;have hs:sz'=sz:=by rw [←gD _ hq,hg _ hq]
   obtain ⟨cs,el,fz,e1,e2⟩:=hh (k / sz) (k %sz) hq (by omega);have e3:=h.old _ _ e1;rw [hs,e4] at e2;rw [Xa];simp only [World.cell?,e3];exact e2
  refine ⟨_,⟨?_,?_⟩,fun d=>by simp only [Builtin.firstCells];exact run_loadCells _ _ _ (fun k=>val (k / sz) (k %sz)) (fC d)⟩
  ·simp [hl]
  ·intro k h1 h2;obtain ⟨hq,hj,e4⟩:=hdiv k (by rw [←hl];exact h1);have hj':k %sz<(g (k / sz)).length :=by rw [hg _ hq];exact hj
   have hr:=Wo n hg (k / sz) (k %sz) hq hj;rw [e4,List.getElem?_eq_getElem h1,List.getElem?_eq_getElem hj'] at hr;rw [Option.some.inj hr]
   simpa using (hv (k / sz) (k %sz) hq hj').mono (x1g ρ)
theorem y9x {g:Nat→List AVal} {p:AVal→Bool} (n:Nat) (h: ∀i,i<n→(g i).all p=true):(rows n g).all p=true:=by refine List.all_eq_true.2 fun a ha=> ?_;unfold rows at ha;obtain ⟨i,hi,hai⟩:=List.mem_flatMap.1 ha;exact List.all_eq_true.1 (h i (List.mem_range.1 hi)) a hai
theorem y9l {mem:Mem} {next:Nat} {w:World} (h:Rel ρ mem next w) {t u e:TypeId} {ut:TypeDesc} {i:TypeInfo} {z:Value} {zero:List AVal} {x:AVal} {ux:Value} {n:Nat} {g:Nat→List AVal} {o:Bool} (hu:P.underlying t=some (.slice e)) (hut:P.underlying u=some ut) (hi:P.info? e=some i) (hz:i.zero=some z)
  (hzr:Uz ρ zero z.cells) (hzl:zero.length=i.size) (hzs:zero.all y0f=true) (hsz:1≤i.size) (hc:x5h i.size zero ut x=some (n,g,o)) (ho:o=true) (hx:Ym ρ x ux):
  (∀k,k<n→(g k).length =i.size)∧ ∃vs,v9l P ρ t u e i z ux n (rows n g) vs w∧ ∀v∈vs.toList,v.oneCell'=true:=by
 subst ho;unfold x5h at hc;split at hc
 ·rename_i k m;split at hc
  ·rename_i kt;simp only [Option.some.injEq,Prod.mk.injEq] at hc;obtain ⟨rfl,rfl,h0⟩:=hc;have hcs:Qg mem i.size zero (.int kt) (.int k m)=some (m.toNat,rep m.toNat zero):=by unfold Qg;simp only [h0,cond_true]
   obtain ⟨vs,hF⟩:=z0y (P:=P) (u:=u) (t:=t) h hu hut hi hz hzr hzl hcs hx (by rw [Qe,hzl]);rw [w0i] at hF;exact ⟨fun _ _=>hzl,vs,hF,Ym.cells_oneCell hF.rel (y9x _ fun _ _=>hzs)⟩
  ·cases hc
 ·rename_i nn gg;split at hc
  ·cases hc
  ·rename_i hni;simp only [Option.some.injEq,Prod.mk.injEq] at hc;obtain ⟨rfl,rfl,h0⟩:=hc;have hp:= @of_decide_eq_true _ (Classical.propDecidable _) h0;obtain ⟨eH,vs,hvs,hfc⟩:=v1r (P:=P) h hx (fun i hi=>(hp i hi).1) hsz;have fO:(Builtin.firstCells i.size nn ux).run P w=.ok vs w:=hfc w.drawn;have hfc1:(Builtin.firstCells i.size nn ux).run P w.drew=.ok vs w.drew:=hfc (w.drawn+1);exact ⟨fun i hi=>(hp i hi).1,vs,⟨hvs,fun _ eM _ hst hno=>z6s hu hut (fun k e=>hni k e) hi (eH w) fO eM hst hno,fun hold eM fM=>z5l hu hut (fun k e=>hni k e) hi hz (eH w) hfc1 hold eM fM⟩,
    Ym.cells_oneCell hvs (y9x _ fun i hi=>(hp i hi).2)⟩
 ·split at hc
  ·cases hc
  ·rename_i hni;simp only [Option.some.injEq,Prod.mk.injEq] at hc;obtain ⟨rfl,rfl,_⟩:=hc;have hcs:Qg mem i.size zero ut .nils =some (0,[]):=by
    unfold Qg;split
    ·rename_i k;exact absurd rfl (hni k)
    ·rfl
   obtain ⟨vs,hF⟩:=z0y (P:=P) (u:=u) (t:=t) h hu hut hi hz hzr hzl hcs hx (by simp);exact ⟨fun k hk=>absurd hk (Nat.not_lt_zero _),vs,hF,Ym.cells_oneCell hF.rel rfl⟩
 ·cases hc
def j1r (P:Program) (ρ:Rho) (floor:Nat) (mem mem':Mem) (next:Nat) (sz:Nat) (e:TypeId) (N:Nat) (G:Nat→List AVal) (w:World) (r:World→Result Value):Prop:=
 ∃ρ' u w',r w=.ok u w'∧Ym ρ' (.sla next sz 0 N (.un sz)) u∧Rel ρ' (We mem' next (some ⟨rows N G,e,some ⟨sz,N,G⟩⟩)) (next+1) w'∧Ev ρ ρ' floor mem next (We mem' next (some ⟨rows N G,e,some ⟨sz,N,G⟩⟩)) (next+1) w w'
theorem y4j {mem:Mem} {next:Nat} {w:World} (h:Rel ρ mem next w) (floor:Nat) {t u e:TypeId} {type:TypeId} {ts:List TypeId} {xs:List Value} {i:TypeInfo} {z ux:Value} {n:Nat} {new:List AVal} {vs:Array Value} (hF:v9l P ρ t u e i z ux n new vs w)
  (fL: ∀v∈vs.toList,v.oneCell'=true) (hnl:new.length=n*i.size) (hzs:z.cells.size=i.size) (hsz:1≤i.size) {len c off b:Nat} {l:Loc} {blk:ABlk} (hrm:(len+n+1)*(i.bytes+1)≤Un)
  (hρ:ρ b=some l) (hm:Xv mem b=some blk) (hfl:floor≤b) (hoff:off+len*i.size≤blk.cells.length) (hlc:len≤c) (eN:(l.n≤off+c*i.size∧off+c*i.size≤l.tot)∨c≤len)
  {G:Nat→List AVal} (hG:rows (len+n) G=(blk.cells.drop off).take (len*i.size)++new) (hGl: ∀k,k<len+n→(G k).length =i.size):
  j1r P ρ floor mem (We mem b none) next i.size e (len+n) G w fun w=>(Builtin.append_ (t::u::ts).toArray type ((.slice (some ⟨l.blk,l.base+off,none⟩) len c)::ux::xs).toArray).run P w:=by
 have hvs:=hF.rel;have hvsz:vs.size=n*i.size:=by rw [←hvs.1];exact hnl
 have hbk:=h.blk b l blk hρ hm;have hln:=hbk.n;have htot:=hbk.tot;have gK:(len+n)*i.size=len*i.size+n*i.size:=Nat.add_mul _ _ _;have hcut:cut blk.cells off (len*i.size)=some ((blk.cells.drop off).take (len*i.size)):=by unfold cut;simp only;rw [show Nat.beq ((blk.cells.drop off).take (len*i.size)).length (len*i.size)=true from by rw [Nat.beq_eq];simp;omega];rfl
 have hcos:Wv mem i.size (.sl b off len (.ex c))=some (len,(blk.cells.drop off).take (len*i.size)):=by simp [Wv,hm,hcut]
 have gB:((blk.cells.drop off).take (len*i.size)).length =len*i.size:=by simp;omega
 obtain ⟨_,hfo⟩:=Wt (P:=P) h hcos (.sl b off len (.ex c) l c hρ rfl hlc) gB;obtain ⟨ovs,hovs,hof⟩:=hfo len (Nat.le_refl _);rw [List.take_of_length_le (by omega)] at hovs;have hovz:ovs.size=len*i.size:=by rw [←hovs.1];exact gB
 have hof1:(Builtin.firstCells i.size len (.slice (some ⟨l.blk,l.base+off,none⟩) len c)).run P w.drew=.ok ovs w.drew:=hof (w.drawn+1);have hrn:n=0∨(n+1)*(i.bytes+1)≤1099511627776:=.inr (Nat.le_trans (Nat.mul_le_mul_right _ (by omega)) hrm);by_cases eM:len+n≤c
 ·-- there is Un
  have hcm:(len+n)*i.size≤c*i.size:=Nat.mul_le_mul_right _ eM;obtain ⟨T,t1,t2,t3⟩: ∃T,off+len*i.size - off+new.length≤T∧off+T≤l.tot∧c*i.size≤T:=by
   rcases eN with ⟨c1,c2⟩ | c1
   ·exact ⟨l.tot - off,by omega,by omega,by omega⟩
   ·have:n=0:=(by omega);subst this;have:c=len:=(by omega);subst this;exact ⟨c*i.size,by omega,by omega,by omega⟩
  obtain ⟨cur,el,hw,gC,eG⟩:=h.beyond2 hρ hm (off:=off) (m:=off+len*i.size) (T:=T) (new:=new) (vs:=vs.toList) e (by simpa using hvs.1.symm) (by omega) hoff t1 t2 (fun j h1 h2=>by simpa using hvs.2 j h1 (by simpa using h2));have hst:=run_storeCells_at P l.blk (l.base+off+len*i.size) el vs.toList 0 cur w hw (by rw [Nat.add_zero,Nat.add_assoc l.base];exact gC) fL;rw [Nat.add_zero] at hst;have eI:=hF.hin (type:=type) (ts:=ts) (base:=some ⟨l.blk,l.base+off,none⟩) (len:=len) (c:=c) (xs:=xs) hrn eM (w':=w.setRow l.blk (cur.toList.take (l.base+off+len*i.size)++vs.toList++cur.toList.drop (l.base+off+len*i.size+vs.toList.length)).toArray)
   (fun a e=>by cases e;rw [Xa];exact hst) (fun e=>by cases e)
  have hdt:(blk.cells.take (off+len*i.size)).drop off=(blk.cells.drop off).take (len*i.size):=by rw [List.drop_take];congr 1;omega
  rw [hdt,←hG,←Nat.add_assoc] at eG;refine ⟨_,_,_,eI,?_,eG.setArr ⟨i.size,len+n,G⟩ rfl hsz hGl,?_⟩
  ·have:=Ym.sla (ρ:=Vr ρ next ⟨l.blk,l.base+off,off+len*i.size - off+new.length,T⟩) next i.size 0 (len+n) (.un i.size) ⟨l.blk,l.base+off,off+len*i.size - off+new.length,T⟩ c (by simp [Vr])
    (by simp only [z0j,Nat.zero_mul,Nat.zero_add];omega) (by omega)
   rw [Nat.zero_mul] at this;exact this
  ·exact Ev.ofBeyond h hρ hfl ⟨l.blk,l.base+off,off+len*i.size - off+new.length,T⟩ rfl _ _
 ·-- a new row
  let st:St:=⟨.leaf,mem,next,[],true⟩
  have fI:Rel ρ (st.withMem (We mem b none)).mem (st.withMem (We mem b none)).next w:=h.kill b
  obtain ⟨newCap,fN,rest,eZ,eI⟩:=hF.hnew (type:=type) (ts:=ts) (base:=some ⟨l.blk,l.base+off,none⟩) (len:=len) (c:=c) (xs:=xs) hof1 (by omega) (by simpa [Un] using hrm);have hov:=hovs.append hvs;have hsum:(ovs++vs).size +rest.size=newCap*i.size:=by rw [Array.size_append,hovz,hvsz,eZ,hzs,←Nat.add_mul,←Nat.add_mul];congr 1;omega
  have hp:=z4t fI floor hov rest e e (.sla next i.size 0 (len+n) (.un i.size)) (.slice (some ⟨w.heap.size,0,none⟩) (len+n) newCap) (fun ρ' hρ'=>by
   have:=Ym.sla (ρ:=ρ') next i.size 0 (len+n) (.un i.size) _ newCap hρ' (by
    simp only [z0j];rw [hsum];exact ⟨by rw [Nat.zero_mul,Nat.zero_add,List.length_append,gB,hnl,←Nat.add_mul];exact Nat.mul_le_mul_right _ fN,by omega⟩) fN
   rw [Nat.zero_mul] at this;exact this)
  rw [←hG] at hp;refine ⟨Vr ρ next ⟨w.heap.size,0,(rows (len+n) G).length,(ovs++vs).size +rest.size⟩,_,_,eI,hp.val,?_,?_⟩
  ·exact Rel.setArr hp.rel ⟨i.size,len+n,G⟩ rfl hsz hGl
  ·refine ((Ev.ofKill h floor hρ).trans hp.ev).remem fun b' hb' cs ty hcs=> ?_;have hne: ¬b'=next:=Nat.ne_of_lt hb'
   show Xv (We (We mem b none) next _) b'=Xv (We (We mem b none) next _) b';simp only [Ws,if_neg hne]
theorem x3n {mem:Mem} {next:Nat} {w:World} (h:Rel ρ mem next w) (floor:Nat) {t u e:TypeId} {type:TypeId} {ts:List TypeId} {xs:List Value} {i:TypeInfo} {z ux:Value} {n:Nat} {new:List AVal} {vs:Array Value} (hF:v9l P ρ t u e i z ux n new vs w)
  (hnl:new.length=n*i.size) (hzs:z.cells.size=i.size) (hsz:1≤i.size) (hrm:(0+n+1)*(i.bytes+1)≤Un) {G:Nat→List AVal} (hG:rows (0+n) G=new) (hGl: ∀k,k<0+n→(G k).length =i.size):
  j1r P ρ floor mem mem next i.size e (0+n) G w fun w=>(Builtin.append_ (t::u::ts).toArray type ((.slice none 0 0)::ux::xs).toArray).run P w:=by
 have hvs:=hF.rel;have hvsz:vs.size=n*i.size:=by rw [←hvs.1];exact hnl
 rcases Nat.eq_zero_or_pos n with hn0 | hnpos
 ·subst hn0;have eI:=hF.hin (type:=type) (ts:=ts) (base:=none) (len:=0) (c:=0) (xs:=xs) (.inl rfl) (Nat.le_refl _) (w':=w) (fun a e=>by cases e) (fun _=>rfl);exact ⟨ρ,_,w,eI,.slan _ _ _ _,h.ghost _,Ev.ghost h floor _⟩
 ·obtain ⟨newCap,eN,rest,eZ,eI⟩:=hF.hnew (type:=type) (ts:=ts) (base:=none) (len:=0) (c:=0) (xs:=xs) (old:= #[]) (by simp [Builtin.firstCells]) (by omega) (by simpa [Un] using hrm);have e0:(#[]:Array Value)++vs=vs:=by simp
  rw [e0] at eI;have hsum:vs.size+rest.size=newCap*i.size:=by rw [hvsz,eZ,hzs,←Nat.add_mul];congr 1;omega
  let st:St:=⟨.leaf,mem,next,[],true⟩
  have fI:Rel ρ st.mem st.next w:=h
  have hp:=z4t fI floor hvs rest e e (.sla next i.size 0 (0+n) (.un i.size)) (.slice (some ⟨w.heap.size,0,none⟩) (0+n) newCap) (fun ρ' hρ'=>by
   have:=Ym.sla (ρ:=ρ') next i.size 0 (0+n) (.un i.size) _ newCap hρ' (by
    simp only [z0j];rw [hsum,hnl];exact ⟨by rw [Nat.zero_mul,Nat.zero_add];exact Nat.mul_le_mul_right _ (by omega),by omega⟩) eN
   rw [Nat.zero_mul] at this;exact this)
  rw [←hG] at hp;refine ⟨Vr ρ next ⟨w.heap.size,0,(rows (0+n) G).length,vs.size+rest.size⟩,_,_,eI,hp.val,Rel.setArr hp.rel ⟨i.size,0+n,G⟩ rfl hsz hGl,?_⟩
  ·refine hp.ev.remem fun b' hb' cs ty hcs=> ?_;have hne: ¬b'=next:=Nat.ne_of_lt hb'
   show Xv (We mem next _) b'=Xv (We mem next _) b';simp only [Ws,if_neg hne]
theorem Jd {α β:Type} {f g:α→List β}: ∀{l:List α},(∀a,a∈l→f a=g a)→l.flatMap f=l.flatMap g
 | [],_=>rfl
 | a::l,h=>by rw [List.flatMap_cons,List.flatMap_cons,h a (by simp),Jd fun b hb=>h b (by simp [hb])]
theorem y1r {get g:Nat→List AVal} {len n sz:Nat} (hl: ∀i,i<len→(get i).length =sz) (hg: ∀i,i<n→(g i).length =sz):
  (∀i,i<len+n→(Km get len g i).length =sz)∧rows (len+n) (Km get len g)=rows len get++rows n g:=by
 have h1: ∀i,i<len+n→(Km get len g i).length =sz:=fun i hi=>by
  unfold Km;cases e:Nat.ble len i with
  | true=>have:=Nat.le_of_ble_eq_true e;simp only [cond_true];exact hg _ (by omega)
  | false=>
   have: ¬len≤i:=fun h=>by rw [Nat.ble_eq_true_of_le h] at e;cases e
   exact hl _ (by omega)
 refine ⟨h1,?_⟩;unfold rows;rw [List.range_add,List.flatMap_append]
 congr 1
 ·refine Jd fun i hi=> ?_;have:=List.mem_range.1 hi;unfold Km;rw [show Nat.ble len i=false from Bool.eq_false_iff.2 fun e=>by have:=Nat.le_of_ble_eq_true e;omega];rfl
 ·rw [List.flatMap_map];refine Jd fun i hi=> ?_;unfold Km;rw [show Nat.ble len (len+i)=true from Nat.ble_eq_true_of_le (Nat.le_add_right _ _),cond_true,Nat.add_sub_cancel_left]
theorem x6a {sz:Nat}: ∀(n:Nat) (l:List AVal),l.length=n*sz→rows n (fun k=>(l.drop (k*sz)).take sz)=l∧ ∀k,k<n→((l.drop (k*sz)).take sz).length =sz:=by
 intro n l hl;have h1: ∀k,k<n→((l.drop (k*sz)).take sz).length =sz:=fun k hk=>by have:(k+1)*sz≤n*sz:=Nat.mul_le_mul_right _ hk;rw [Nat.add_mul,Nat.one_mul] at this;simp;omega
 refine ⟨?_,h1⟩;have eH:=Ya n h1;apply List.ext_getElem?;intro i;by_cases hi:i<n*sz
 ·have hsz:0<sz:=by
   rcases Nat.eq_zero_or_pos sz with e | e
   ·rw [e,Nat.mul_zero] at hi;omega
   ·exact e
  have hj:i %sz<sz:=Nat.mod_lt _ hsz;have hq:i / sz<n:=Nat.div_lt_of_lt_mul (by rw [Nat.mul_comm];exact hi);have e:i / sz*sz+i %sz=i:=by rw [Nat.mul_comm];exact Nat.div_add_mod i sz
  have:=Wo n h1 (i / sz) (i %sz) hq hj;rw [e] at this;rw [this,List.getElem?_take,if_pos hj,List.getElem?_drop,e]
 ·rw [List.getElem?_eq_none (by omega),List.getElem?_eq_none (by omega)]
theorem z6x {get:Nat→List AVal} {sz N off len:Nat} (hl: ∀i,i<N→(get i).length =sz) (h:off+len≤N):rows len (fun k=>get (off+k))=((rows N get).drop (off*sz)).take (len*sz):=by
 have h1: ∀k,k<len→(get (off+k)).length =sz:=fun k hk=>hl _ (by omega);have hL:=Ya len h1;have hN:=Ya N hl;have hm:(off+len)*sz≤N*sz:=Nat.mul_le_mul_right _ h;rw [Nat.add_mul] at hm;apply List.ext_getElem?;intro i;by_cases hi:i<len*sz
 ·have hsz:0<sz:=by
   rcases Nat.eq_zero_or_pos sz with e | e
   ·rw [e,Nat.mul_zero] at hi;omega
   ·exact e
  have hj:i %sz<sz:=Nat.mod_lt _ hsz;have hq:i / sz<len:=Nat.div_lt_of_lt_mul (by rw [Nat.mul_comm];exact hi);have e:i / sz*sz+i %sz=i:=by rw [Nat.mul_comm];exact Nat.div_add_mod i sz
  have a1:=Wo len h1 (i / sz) (i %sz) hq hj;have a2:=Wo N hl (off+i / sz) (i %sz) (by omega) hj;rw [e] at a1;rw [a1,List.getElem?_take,if_pos hi,List.getElem?_drop,←a2]
  congr 1
  rw [Nat.add_mul];omega
 ·rw [List.getElem?_eq_none (by omega),List.getElem?_eq_none (by simp;omega)]
theorem y6a {cx:Ctx} {st st':St} {w:World} (h:Rel ρ st.mem st.next w) {ts:Array TypeId} {type:TypeId} {xs:List AVal} {us:Array Value} {v:AVal} (ha:z2q P cx st ts.toList xs=some (v,st')) (hob:st'.ob=true) (hx:Vj (Ym ρ) xs us.toList):
  ∃ρ' u w',(Builtin.append_ ts type us).run P w=.ok u w'∧x1u ρ cx.floor st st' v w ρ' u w':=by
 obtain ⟨ts⟩:=ts;obtain ⟨us⟩:=us;simp only at ha hx;unfold z2q at ha;split at ha
 ·rename_i t tu tts s x txs;cases hx with
  | @cons _ su _ _ hs hx=>
   cases hx with
   | @cons _ ux _ uxs hx _=>
    split at ha
    ·rename_i e ut hu hut;split at ha
     ·rename_i i zero hi hz;split at ha
      ·rename_i b len get o1 n g o2 ht hc;obtain ⟨i2,z,hi2,hz2,hzr,_⟩:=Wr (ρ:=ρ) hz;obtain rfl:i=i2:=by rw [hi] at hi2;exact Option.some.inj hi2
       obtain ⟨fB,ha⟩:=Qb ha;simp only [Bool.and_eq_true] at fB;obtain ⟨⟨⟨hzl,hzsc⟩,hsz⟩,hfl⟩:=fB;have hzl:=Nat.eq_of_beq_eq_true hzl;have hsz:=Nat.le_of_ble_eq_true hsz;have hzs:z.cells.size=i.size:=by rw [←hzr.1];exact hzl
       simp only [Option.map_eq_some_iff,Prod.mk.injEq] at ha;obtain ⟨st1,ho,rfl,rfl⟩:=ha;obtain ⟨_,m2,n2,o4⟩:=z7j ho;obtain ⟨hb,_⟩:=o4 hob;simp only [Bool.and_eq_true,decide_eq_true_eq] at hb;obtain ⟨hb1,hb2,hrm⟩:=hb;have m2:st1.mem=We (x7g st.mem b) st.next (some ⟨rows (len+n) (Km get len g),e,some ⟨i.size,len+n,Km get len g⟩⟩):=m2
       have n2:st1.next=st.next+1:=n2
       obtain ⟨hgl,vs,hF,fL⟩:=y9l (P:=P) (u:=tu) (t:=t) h hu hut hi hz2 hzr hzl hzsc hsz hc hb2 hx;have hnl:=Ya n hgl
       suffices j1r P ρ cx.floor st.mem (x7g st.mem b) st.next i.size e (len+n) (Km get len g) w fun w=>(Builtin.append_ (t::tu::tts).toArray type (su::ux::uxs).toArray).run P w by obtain ⟨ρ',u,w',eI,hv,hr,hev⟩:=this;exact ⟨ρ',u,w',eI,hv,by rw [m2,n2];exact hr,by rw [m2,n2];exact hev⟩
       unfold z4i at ht;split at ht
       ·simp only [Option.some.injEq,Prod.mk.injEq] at ht;obtain ⟨rfl,rfl,rfl,_⟩:=ht;cases hs;obtain ⟨q1,q2⟩:=y1r (get:=fun _=>[]) (len:=0) (fun i hi=>absurd hi (Nat.not_lt_zero _)) hgl;exact x3n h cx.floor hF hnl hzs hsz hrm (by rw [q2];simp [rows]) q1
       ·rename_i b0 off len0 cap;split at ht
        ·rename_i blk hm;split at ht
         ·rename_i old hold;obtain ⟨fX,ht⟩:=Qb ht;simp only [Bool.and_eq_true] at fX;obtain ⟨fX,hoff⟩:=fX;have hoff:=Nat.le_of_ble_eq_true hoff;simp only [Option.some.injEq,Prod.mk.injEq] at ht;obtain ⟨rfl,rfl,rfl,_⟩:=ht;obtain ⟨k1,k2,k3⟩:=z5d hold;obtain ⟨r1,r2⟩:=x6a len0 old k2;obtain ⟨q1,q2⟩:=y1r r2 hgl;cases hs with
          | sl _ _ _ _ l c hρ eN hlc=>
           have hbk:=h.blk b0 l blk hρ hm;have k4:off+len0*i.size≤blk.cells.length:=(by omega);refine y4j h cx.floor hF fL hnl hzs hsz hrm hρ hm (Nat.le_of_ble_eq_true hfl) k4 hlc ?_ (by rw [q2,r1,k1]) q1;cases cap with
           | ex k=>exact .inr (by simp only [z0j] at eN;rw [eN];exact Nat.le_of_ble_eq_true fX)
           | un zz=>have:=Nat.eq_of_beq_eq_true fX;simp only [z0j] at eN;exact .inl (by rw [←this];exact eN)
         ·cases ht
        ·cases ht
       ·rename_i b0 zz off len0 cap;split at ht
        ·rename_i blk hm;split at ht
         ·rename_i A hA;obtain ⟨fX,ht⟩:=Qb ht;simp only [Option.some.injEq,Prod.mk.injEq] at ht;obtain ⟨rfl,rfl,rfl,rfl⟩:=ht;simp only [Bool.and_eq_true,decide_eq_true_eq] at hb1;obtain ⟨hz1,hz2',eR⟩:=hb1;obtain rfl:=Nat.eq_of_beq_eq_true hz1;have hAs:=Nat.eq_of_beq_eq_true hz2';cases hs with
          | sla _ _ _ _ _ l c hρ eN hlc=>
           obtain ⟨fG,gH,eW⟩:=(h.blk b0 l blk hρ hm).arr A hA;rw [hAs] at eW;have hlr:=Ya A.n eW;have hgl0: ∀k,k<len0→(A.get (off+k)).length =i.size:=fun k hk=>eW _ (by omega);obtain ⟨q1,q2⟩:=y1r hgl0 hgl;have hm2:(off+len0)*i.size≤A.n*i.size:=Nat.mul_le_mul_right _ eR;rw [Nat.add_mul] at hm2;refine y4j h cx.floor hF fL hnl hzs hsz hrm hρ hm (Nat.le_of_ble_eq_true hfl) (by rw [fG,hlr];exact hm2) hlc ?_ (by rw [q2,z6x eW eR,fG]) q1;cases cap with
           | ex k=>exact .inr (by simp only [z0j] at eN;rw [eN];exact Nat.le_of_ble_eq_true fX)
           | un zz=>have:=Nat.eq_of_beq_eq_true fX;simp only [z0j] at eN;exact .inl (by rw [←this] at eN ⊢;exact eN)
          | slan=>
           obtain ⟨q1,q2⟩:=y1r (get:=fun k=>A.get (off+k)) (len:=0) (fun i hi=>absurd hi (Nat.not_lt_zero _)) hgl;obtain ⟨ρ',u,w',eI,hv,hr,hev⟩:=x3n (P:=P) (type:=type) (ts:=tts) (xs:=uxs) h cx.floor hF hnl hzs hsz hrm (G:=Km (fun k=>A.get (off+k)) 0 g) (by rw [q2];simp [rows]) q1;have hbn:b0<st.next:=by
            rcases Nat.lt_or_ge b0 st.next with g | g
            ·exact g
            ·rw [h.bd b0 g] at hm;cases hm
           refine ⟨ρ',u,w',eI,hv,?_,?_⟩
           ·refine (hr.kill b0).remem fun b'=> ?_;simp only [x7g,Ws];by_cases e1:b'=st.next
            ·rw [if_pos e1,if_neg (by omega),if_pos e1]
            ·rw [if_neg e1,if_neg e1]
           ·refine hev.remem fun b' hb' cs ty hcs=> ?_;have hne:b'≠b0:=fun e=>by rw [e,hm] at hcs;cases hcs;cases hA
            show Xv (We (We st.mem b0 none) st.next _) b'=Xv (We st.mem st.next _) b';rw [Zv _ _ (by omega),Zv _ _ hne,Zv _ _ (by omega)]
         ·cases ht
        ·cases ht
       ·cases ht
      ·cases ha
     ·cases ha
    ·cases ha
 ·cases ha
theorem x9f {st st':St} {w:World} (h:Rel ρ st.mem st.next w) (floor:Nat) {ts:Array TypeId} {type:TypeId} {xs:List AVal} {us:Array Value} {v:AVal} (ha:x9h P floor st ts.toList xs=some (v,st')) (hx:Vj (Ym ρ) xs us.toList):
  ∃ρ' u w',(Builtin.copy_ ts type us).run P w=.ok u w'∧x1u ρ floor st st' v w ρ' u w'∧st'.env=st.env∧st'.ob=st.ob:=by
 obtain ⟨ts⟩:=ts;obtain ⟨us⟩:=us;simp only at ha hx;unfold x9h at ha;split at ha
 ·rename_i t _ d x _;cases hx with
  | @cons _ ud _ _ hd hx=>
   cases hx with
   | @cons _ ux _ uxs hx _=>
    split at ha
    ·rename_i e hu;split at ha
     ·rename_i i hi;split at ha
      ·rename_i m src hcs;cases hc:(Nat.beq src.length (m*i.size)&&src.all y0f) with
       | false=>rw [hc] at ha;cases ha
       | true=>
        rw [hc,cond_true] at ha;simp only [Bool.and_eq_true] at hc;have hsl:=Nat.eq_of_beq_eq_true hc.1;have hsc:=hc.2;obtain ⟨eH,eY⟩:=Wt (P:=P) h hcs hx hsl;split at ha
        ·cases hd;simp only [Option.some.injEq,Prod.mk.injEq] at ha;obtain ⟨rfl,rfl⟩:=ha;obtain ⟨vs,hvs,hfc⟩:=eY 0 (Nat.zero_le _);have fO:(Builtin.firstCells i.size 0 ux).run P w=.ok vs w:=hfc w.drawn;refine ⟨ρ,_,w,?_,⟨.int _ _,h,Ev.refl _ _ _ _ _ h.dom⟩,rfl,rfl⟩;simp [Builtin.copy_,run_underlying hu,eH,Yy hi,fO,goInt]
        ·rename_i dn dg;obtain ⟨hdn,ha'⟩:=Qb ha;clear ha;obtain rfl:=Nat.eq_of_beq_eq_true hdn;simp only [Option.some.injEq,Prod.mk.injEq] at ha';obtain ⟨rfl,rfl⟩:=ha';obtain ⟨vs,hvs,hfc⟩:=eY 0 (Nat.zero_le _);have fO:(Builtin.firstCells i.size 0 ux).run P w=.ok vs w:=hfc w.drawn;have hv0:vs= #[]:=by
          have:vs.size=0:=by rw [←hvs.1];simp
          exact Array.eq_empty_of_size_eq_zero this
         subst hv0;cases hd with
         | datn=>refine ⟨ρ,_,w,?_,⟨.int _ _,h,Ev.refl _ _ _ _ _ h.dom⟩,rfl,rfl⟩;simp [Builtin.copy_,run_underlying hu,eH,Yy hi,fO,goInt]
         | datz=>refine ⟨ρ,_,w,?_,⟨.int _ _,h,Ev.refl _ _ _ _ _ h.dom⟩,rfl,rfl⟩;simp [Builtin.copy_,run_underlying hu,eH,Yy hi,fO,goInt,storeCells]
         | dat=>refine ⟨ρ,_,w,?_,⟨.int _ _,h,Ev.refl _ _ _ _ _ h.dom⟩,rfl,rfl⟩;simp [Builtin.copy_,run_underlying hu,eH,Yy hi,fO,goInt,storeCells]
        ·rename_i b off len cap;split at ha
         ·rename_i blk hm;dsimp only at ha;cases hf:(Nat.ble floor b&&Nat.ble (off+(Nat.min m len)*i.size) blk.cells.length) with
          | false=>rw [hf] at ha;cases ha
          | true=>
           rw [hf,cond_true] at ha;simp only [Bool.and_eq_true] at hf;have hfl:=Nat.le_of_ble_eq_true hf.1;have eR:=Nat.le_of_ble_eq_true hf.2;simp only [Option.some.injEq,Prod.mk.injEq] at ha;obtain ⟨rfl,rfl⟩:=ha;cases hd with
           | sl _ _ _ _ l c hρ eN hlc=>
            have hmin:Nat.min m len≤m:=Nat.min_le_left _ _;have gK:Nat.min m len*i.size≤m*i.size:=Nat.mul_le_mul_right _ hmin;obtain ⟨vs,hvs,hfc⟩:=eY (Nat.min m len) hmin;have fO:(Builtin.firstCells i.size (Nat.min m len) ux).run P w=.ok vs w:=hfc w.drawn;have fL:=Ym.cells_oneCell hvs (List.all_eq_true.2 fun a ha=>List.all_eq_true.1 hsc a (List.mem_of_mem_take ha));have hvl:(src.take (Nat.min m len*i.size)).length =Nat.min m len*i.size:=by rw [List.length_take,hsl];omega
            obtain ⟨cur,el,hw,gC,eG⟩:=h.write hρ hm (off:=off) (cs:=src.take (Nat.min m len*i.size)) (vs:=vs.toList) (by simpa using hvs.1.symm) (by rw [hvl];exact eR) (fun j h1 h2=>by simpa using hvs.2 j h1 (by simpa using h2));have hst:=run_storeCells_at P l.blk (l.base+off) el vs.toList 0 cur w hw (by rw [Nat.add_zero];exact gC) fL;rw [Nat.add_zero] at hst;refine ⟨ρ,.int .i64 (Nat.min m len),w.setRow l.blk (cur.toList.take (l.base+off)++vs.toList++cur.toList.drop (l.base+off+vs.toList.length)).toArray,?_,⟨.int _ _,?_,Ev.ofWrite h hρ hfl _ _⟩,rfl,rfl⟩
            ·simp [Builtin.copy_,run_underlying hu,eH,Yy hi,fO,goInt,hst,-Array.length_toList,-List.append_assoc]
            ·rw [hvl] at eG
             simpa only [St.withMem] using eG
         ·cases ha
        ·cases ha
      ·cases ha
     ·cases ha
    ·cases ha
 ·cases ha
theorem v1q {mem:Mem} {next:Nat} {w:World} (h:Rel ρ mem next w) {n sz:Nat} {g:Nat→List AVal} {ux:Value} (hx:Ym ρ (.dat n g) ux) (hg: ∀i,i<n→(g i).length =sz) (hsz:1≤sz) {m:Nat} (hm:m≤n):
  (∀w,(Builtin.lenOf ux).run P w=.ok n w)∧ ∃vs:Array Value,Uz ρ (rows m g) vs∧ ∀d,(Builtin.firstCells sz m ux).run P {w with drawn:=d}=.ok vs {w with drawn:=d}:=by
 cases hx with
 | datn=>
  obtain rfl:m=0:=by omega
  exact ⟨fun w=>by simp [Builtin.lenOf], #[],⟨by simp [rows],fun i h1 h2=>by simp [rows] at h1⟩,fun d=>by simp [Builtin.firstCells]⟩
 | datz=>
  obtain rfl:m=0:=by omega
  exact ⟨fun w=>by simp [Builtin.lenOf], #[],⟨by simp [rows],fun i h1 h2=>by simp [rows] at h1⟩,fun d=>by simp [Builtin.firstCells,loadCells,loadCellsFrom]⟩
 | dat _ _ blk base sz' cap val eN gD hv hh=>
  refine ⟨fun w=>by simp [Builtin.lenOf],?_⟩;have hg': ∀i,i<m→(g i).length =sz:=fun i hi=>hg i (by omega);have hl:=Ya m hg';have hdiv: ∀k,k<m*sz→k / sz<m∧k %sz<sz∧k / sz*sz+k %sz=k:=fun k hk=>
   ⟨Nat.div_lt_of_lt_mul (by rw [Nat.mul_comm];exact hk),Nat.mod_lt _ hsz,by rw [Nat.mul_comm];exact Nat.div_add_mod k sz⟩
  have fC: ∀(d k:Nat),k<m*sz→({w with drawn:=d}:World).cell? ((⟨blk,base,none⟩:Addr).add k)=some (val (k / sz) (k %sz)):=by
   intro d k hk;obtain ⟨hq,hj,e4⟩:=hdiv k hk;have hs:sz'=sz:=by rw [←gD (k / sz) (by omega),hg' _ hq]
   obtain ⟨cs,el,fz,e1,e2⟩:=hh (k / sz) (k %sz) (by omega) (by omega);have e3:=h.old _ _ e1;rw [hs,e4] at e2;rw [Xa];simp only [World.cell?,e3];exact e2
  refine ⟨_,⟨?_,?_⟩,fun d=>by simp only [Builtin.firstCells];exact run_loadCells _ _ _ (fun k=>val (k / sz) (k %sz)) (fC d)⟩
  ·simp [hl]
  ·intro k h1 h2;obtain ⟨hq,hj,e4⟩:=hdiv k (by rw [←hl];exact h1);have hj':k %sz<(g (k / sz)).length :=by rw [hg' _ hq];exact hj
   have hr:=Wo m hg' (k / sz) (k %sz) hq hj;rw [e4,List.getElem?_eq_getElem h1,List.getElem?_eq_getElem hj'] at hr;rw [Option.some.inj hr]
   simpa using (hv (k / sz) (k %sz) (by omega) hj').mono (x1g ρ)
theorem x2c {g:Nat→List AVal} {sz n m:Nat} (hg: ∀i,i<n→(g i).length =sz) (hm:m≤n):(rows n g).take (m*sz)=rows m g:=by have:=z6x (off:=0) (len:=m) hg (by omega);simp only [Nat.zero_mul,List.drop_zero,Nat.zero_add] at this;exact this.symm
theorem w7v {get g:Nat→List AVal} {sz N off n:Nat} (hl: ∀i,i<N→(get i).length =sz) (hg: ∀i,i<n→(g i).length =sz) (h:off+n≤N):
  (∀i,i<N→(Ue get off n g i).length =sz)∧rows N (Ue get off n g)=(rows N get).take (off*sz)++rows n g++(rows N get).drop (off*sz+n*sz):=by
 have h1: ∀i,i<N→(Ue get off n g i).length =sz:=fun i hi=>by
  unfold Ue;cases e:(Nat.ble off i&&Nat.ble (i+1) (off+n)) with
  | true=>simp only [Bool.and_eq_true] at e;have e1:=Nat.le_of_ble_eq_true e.1;have e2:=Nat.le_of_ble_eq_true e.2;simp only [cond_true];exact hg _ (by omega)
  | false=>exact hl _ hi
 refine ⟨h1,?_⟩;obtain ⟨r,rfl⟩: ∃r,N=off+(n+r):=⟨N - off - n,by omega⟩
 have e2:off*sz+n*sz=(off+n)*sz:=(Nat.add_mul _ _ _).symm;rw [x2c hl (by omega),e2];have e3:(rows (off+(n+r)) get).drop ((off+n)*sz)=rows r fun k=>get (off+n+k):=by rw [z6x (off:=off+n) (len:=r) hl (by omega)];rw [List.take_of_length_le];have:=Ya _ hl;rw [List.length_drop,this,←Nat.sub_mul,show off+(n+r) - (off+n)=r by omega];exact Nat.le_refl _
 rw [e3];unfold rows;rw [List.range_add,List.range_add,List.flatMap_append,List.map_append,List.flatMap_append,←List.append_assoc]
 congr 1
 ·congr 1
  ·refine Jd fun i hi=> ?_;have:=List.mem_range.1 hi;unfold Ue;rw [show Nat.ble off i=false from Bool.eq_false_iff.2 fun e=>by have:=Nat.le_of_ble_eq_true e;omega];rfl
  ·rw [List.flatMap_map];refine Jd fun i hi=> ?_;have:=List.mem_range.1 hi;unfold Ue;rw [Nat.ble_eq_true_of_le (show off≤off+i by omega),Nat.ble_eq_true_of_le (show off+i+1≤off+n by omega),Nat.add_sub_cancel_left];rfl
 ·rw [List.map_map,List.flatMap_map];refine Jd fun i hi=> ?_;unfold Ue;show (bif Nat.ble off (off+(n+i))&&Nat.ble (off+(n+i)+1) (off+n) then _ else _)=_;rw [show Nat.ble (off+(n+i)+1) (off+n)=false from Bool.eq_false_iff.2 fun e=>by have:=Nat.le_of_ble_eq_true e;omega,Bool.and_false,cond_false];show get (off+(n+i))=get (off+n+i);rw [Nat.add_assoc]
theorem x1a {mem:Mem} {next:Nat} {w:World} (h:Rel ρ mem next w) {sz:Nat} (hsz:1≤sz) {x:AVal} {ux:Value} {m:Nat} {g:Nat→List AVal} {o:Bool} (hc:x8q mem sz x=some (m,g,o)) (ho:o=true) (hx:Ym ρ x ux):
  (∀k,k<m→(g k).length =sz∧(g k).all y0f=true)∧ ∀n,n≤m→(∀w,(Builtin.lenOf ux).run P w=.ok m w)∧ ∃vs:Array Value,Uz ρ (rows n g) vs∧ ∀d,(Builtin.firstCells sz n ux).run P {w with drawn:=d}=.ok vs {w with drawn:=d}:=by
 subst ho;have part: ∀(b z off len c:Nat) (l:Loc) (blk:ABlk) (A:Arr),ρ b=some l→Xv mem b=some blk→blk.arr=some A→len≤c→(Nat.beq z sz&&(Nat.beq A.sz sz&&(decide (off+len≤A.n)&&pd (∀i,i<len→(A.get (off+i)).length =sz∧(A.get (off+i)).all y0f=true))))=true→
   (∀k,k<len→(A.get (off+k)).length =sz∧(A.get (off+k)).all y0f=true)∧ ∀n,n≤len→(∀w,(Builtin.lenOf (.slice (some ⟨l.blk,l.base+off*z,none⟩) len c)).run P w=.ok len w)∧ ∃vs:Array Value,Uz ρ (rows n fun k=>A.get (off+k)) vs∧ ∀d,(Builtin.firstCells sz n (.slice (some ⟨l.blk,l.base+off*z,none⟩) len c)).run P {w with drawn:=d}=.ok vs {w with drawn:=d}:=by
  intro b z off len c l blk A hρ hm hA eH ho;simp only [Bool.and_eq_true,decide_eq_true_eq] at ho;obtain ⟨k1,k2,k3,k4⟩:=ho;obtain rfl:=Nat.eq_of_beq_eq_true k1;have k2:=Nat.eq_of_beq_eq_true k2;have k4:= @of_decide_eq_true _ (Classical.propDecidable _) k4;refine ⟨k4,fun n hn=> ?_⟩;obtain ⟨fG,gH,eW⟩:=(h.blk b l blk hρ hm).arr A hA;rw [k2] at eW;have hlr:=Ya A.n eW;have hm2:(off+len)*z≤A.n*z:=Nat.mul_le_mul_right _ k3;rw [Nat.add_mul] at hm2;have hpl:=z6x eW k3;have hL:(rows len fun k=>A.get (off+k)).length =len*z:=Ya len fun i hi=>(k4 i hi).1;have hcs:Wv mem z (.sl b (off*z) len (.ex c))=some (len,rows len fun k=>A.get (off+k)):=by simp only [Wv,hm];unfold cut;simp only;rw [fG,←hpl,show Nat.beq (rows len fun k=>A.get (off+k)).length (len*z)=true from by rw [hL,Nat.beq_refl]];rfl
  obtain ⟨q1,q2⟩:=Wt (P:=P) h hcs (.sl b (off*z) len (.ex c) l c hρ rfl eH) hL;obtain ⟨vs,v1,v2⟩:=q2 n hn;rw [x2c (fun i hi=>(k4 i hi).1) hn] at v1;exact ⟨q1,vs,v1,v2⟩
 have none0: ∀(g:Nat→List AVal) (n:Nat) (p:Option Addr) (c:Nat),n≤0→(∀w,(Builtin.lenOf (.slice p 0 c)).run P w=.ok 0 w)∧ ∃vs:Array Value,Uz ρ (rows n g) vs∧ ∀d,(Builtin.firstCells sz n (.slice p 0 c)).run P {w with drawn:=d}=.ok vs {w with drawn:=d}:=by
  intro g n p c hn;obtain rfl:n=0:=by omega
  cases p with
  | none=>exact ⟨fun w=>by simp [Builtin.lenOf], #[],⟨by simp [rows],fun i h1 h2=>by simp [rows] at h1⟩,fun d=>by simp [Builtin.firstCells]⟩
  | some a=>refine ⟨fun w=>by simp [Builtin.lenOf],_,⟨?_,fun i h1 h2=>by simp [rows] at h1⟩,fun d=>by simp only [Builtin.firstCells];exact run_loadCells _ _ _ (fun _=>undef) fun k hk=>by rw [Nat.zero_mul] at hk;exact absurd hk (Nat.not_lt_zero _)⟩;simp [rows]
 unfold x8q at hc;split at hc
 ·simp only [Option.some.injEq,Prod.mk.injEq] at hc;obtain ⟨rfl,rfl,_⟩:=hc;cases hx;exact ⟨fun k hk=>absurd hk (Nat.not_lt_zero _),fun n hn=>none0 _ n none 0 hn⟩
 ·rename_i n' g';simp only [Option.some.injEq,Prod.mk.injEq] at hc;obtain ⟨rfl,rfl,h0⟩:=hc;have hp:= @of_decide_eq_true _ (Classical.propDecidable _) h0;exact ⟨hp,fun n hn=>v1q (P:=P) h hx (fun i hi=>(hp i hi).1) hsz hn⟩
 ·split at hc
  ·rename_i blk hm;split at hc
   ·rename_i A hA;simp only [Option.some.injEq,Prod.mk.injEq] at hc;obtain ⟨rfl,rfl,h0⟩:=hc;cases hx with
    | sla _ _ _ _ _ l c hρ eN eH=>exact part _ _ _ _ _ l _ _ hρ hm hA eH h0
    | slan=>exact ⟨fun k hk=>absurd hk (Nat.not_lt_zero _),fun n hn=>none0 _ n none 0 hn⟩
   ·cases hc
  ·cases hc
 ·split at hc
  ·rename_i blk hm;split at hc
   ·rename_i A hA;simp only [Option.some.injEq,Prod.mk.injEq] at hc;obtain ⟨rfl,rfl,h0⟩:=hc;cases hx with
    | slv _ _ _ _ l c hρ eH=>exact part _ _ _ _ _ l _ _ hρ hm hA eH h0
    | slve=>exact ⟨fun k hk=>absurd hk (Nat.not_lt_zero _),fun n hn=>none0 _ n _ _ hn⟩
    | slvn=>exact ⟨fun k hk=>absurd hk (Nat.not_lt_zero _),fun n hn=>none0 _ n none 0 hn⟩
   ·cases hc
  ·cases hc
 ·cases hc
theorem Rel.reblk {mem:Mem} {next:Nat} {w:World} (h:Rel ρ mem next w) {b:Nat} {blk blk':ABlk} (hm:Xv mem b=some blk) (hb: ∀l,ρ b=some l→z0x ρ w blk l→z0x ρ w blk' l):Rel ρ (We mem b (some blk')) next w:=by
 have iff: ∀c,(Xv (We mem b (some blk')) c).isSome =true→(Xv mem c).isSome =true:=fun c hc=>by
  rw [Ws] at hc;by_cases e:c=b
  ·rw [e,hm];rfl
  ·rwa [if_neg e] at hc
 have hlt:b<next:=by
  rcases Nat.lt_or_ge b next with q | q
  ·exact q
  ·rw [h.bd b q] at hm;cases hm
 refine ⟨h.dom,fun c c' m m' e e' he hs hs'=>h.inj c c' m m' e e' he (iff c hs) (iff c' hs'),fun c m ac e hc=> ?_,h.old,fun c m e hs=>h.sep c m e (iff c hs),h.real,fun c hc=> ?_,h.ldom⟩
 ·rw [Ws] at hc;by_cases ec:c=b
  ·subst ec;rw [if_pos rfl] at hc;obtain rfl:=Option.some.inj hc;exact hb m e (h.blk c m blk e hm)
  ·rw [if_neg ec] at hc;exact h.blk c m ac e hc
 ·rw [Zv _ _ (by omega)];exact h.bd c hc
theorem Ev.put {mem:Mem} {next:Nat} {w:World} (h:Rel ρ mem next w) (floor:Nat) {b:Nat} {blk:ABlk} {A:Arr} (hm:Xv mem b=some blk) (hA:blk.arr=some A) (o:Option ABlk):Ev ρ ρ floor mem next (We mem b o) next w w where
 ext:=Rho.le_refl _
 new _ _:=rfl
 nxt:=Nat.le_refl _
 unborn k _ e cs ty hk:=by
  by_cases hkb:k=b
  ·subst hkb;rw [hm] at hk;cases hk;cases hA
  ·rw [Zv _ _ hkb];exact hk
 frame _ _ hk _:=hk
 fresh k m hk e:=by have:=h.dom k m e;omega
 size:=Nat.le_refl _
 os:=rfl
 tape:=rfl
 output:=rfl
 still _ _:=rfl
theorem y0n {cx:Ctx} {st st':St} {w:World} (h:Rel ρ st.mem st.next w) {ts:Array TypeId} {type:TypeId} {us:Array Value} {b sz off len:Nat} {d x:AVal} {xs:List AVal} {v:AVal} (ha:y0o P cx st ts.toList b sz off len x=some (v,st')) (hob:st'.ob=true) (hx:Vj (Ym ρ) (d::x::xs) us.toList)
  (hd: ∀u,Ym ρ d u→(∃l c,ρ b=some l∧len≤c∧u=.slice (some ⟨l.blk,l.base+off*sz,none⟩) len c)∨(len=0∧ ∃p c,u=.slice p 0 c)):
  ∃ρ' u w',(Builtin.copy_ ts type us).run P w=.ok u w'∧x1u ρ cx.floor st st' v w ρ' u w':=by
 obtain ⟨ts⟩:=ts;obtain ⟨us⟩:=us;simp only at ha hx;unfold y0o at ha;split at ha
 ·rename_i t _;cases hx with
  | @cons _ ud _ _ hd0 hx=>
   cases hx with
   | @cons _ ux _ uxs hx _=>
    split at ha
    ·rename_i e hu;split at ha
     ·rename_i i blk hi hm;split at ha
      ·rename_i A m g o hA hcs;obtain ⟨fB,ha⟩:=Qb ha;simp only [Bool.and_eq_true] at fB;have hfl:=Nat.le_of_ble_eq_true fB.1;have hsz:=Nat.le_of_ble_eq_true fB.2;simp only [Option.map_eq_some_iff,Prod.mk.injEq] at ha;obtain ⟨st1,ho,rfl,rfl⟩:=ha;obtain ⟨_,m2,n2,o4⟩:=z7j ho;obtain ⟨hb,_⟩:=o4 hob;simp only [Bool.and_eq_true,decide_eq_true_eq] at hb;obtain ⟨k1,k2,k3,k4⟩:=hb;obtain rfl:=Nat.eq_of_beq_eq_true k1;have k2:=Nat.eq_of_beq_eq_true k2;have m2:st1.mem=We st.mem b (some ⟨rows A.n (Ue A.get off (Nat.min m len) g),blk.ty,some ⟨A.sz,A.n,Ue A.get off (Nat.min m len) g⟩⟩):=m2;have n2:st1.next=st.next:=n2
       obtain ⟨hg,eY⟩:=x1a (P:=P) h hsz hcs k4 hx;have hmin:Nat.min m len≤m:=Nat.min_le_left _ _;have hmin2:Nat.min m len≤len:=Nat.min_le_right _ _;obtain ⟨eH,vs,hvs,hfc⟩:=eY (Nat.min m len) hmin;have fO:(Builtin.firstCells i.size (Nat.min m len) ux).run P w=.ok vs w:=hfc w.drawn;have hgl: ∀k,k<Nat.min m len→(g k).length =i.size:=fun k hk=>(hg k (by omega)).1;have hrl:=Ya (Nat.min m len) hgl;have fL:=Ym.cells_oneCell hvs (y9x _ fun k hk=>(hg k (by omega)).2);have hbn:b<st.next:=by
        rcases Nat.lt_or_ge b st.next with q | q
        ·exact q
        ·rw [h.bd b q] at hm;cases hm
       have nothing:Nat.min m len=0→Rel ρ st1.mem st1.next w∧Ev ρ ρ cx.floor st.mem st.next st1.mem st1.next w w:=fun e0=>by
        rw [m2,n2,e0];have same: ∀k,Ue A.get off 0 g k=A.get k:=fun k=>by
         unfold Ue;cases e:(Nat.ble off k&&Nat.ble (k+1) (off+0)) with
         | true=>simp only [Bool.and_eq_true] at e;have e1:=Nat.le_of_ble_eq_true e.1;have e2:=Nat.le_of_ble_eq_true e.2;omega
         | false=>rfl
        have same:Ue A.get off 0 g=A.get:=funext same;rw [same];refine ⟨?_,Ev.put h cx.floor hm hA _⟩;refine h.reblk hm fun l hρ hbk=> ?_;obtain ⟨fG,gH,eW⟩:=hbk.arr A hA;refine ⟨by rw [hbk.n,fG],hbk.tot,fun B hB=> ?_,?_⟩
        ·obtain rfl:=Option.some.inj hB;exact ⟨rfl,gH,eW⟩
        ·have:=hbk.cells;rw [fG] at this;exact this
       rcases hd ud hd0 with ⟨l,c,hρ,hlc,rfl⟩ | ⟨rfl,p,c,rfl⟩
       ·obtain ⟨fG,gH,eW⟩:=(h.blk b l blk hρ hm).arr A hA;rw [k2] at eW;have hlr:=Ya A.n eW;have hfitN:off+Nat.min m len≤A.n:=(by omega);obtain ⟨c1,c2⟩:=w7v eW hgl hfitN;have hm3:(off+Nat.min m len)*i.size≤A.n*i.size:=Nat.mul_le_mul_right _ hfitN;rw [Nat.add_mul] at hm3;obtain ⟨cur,el,hw,gC,eG⟩:=h.write hρ hm (off:=off*i.size) (cs:=rows (Nat.min m len) g) (vs:=vs.toList) (by simpa using hvs.1.symm) (by rw [hrl,fG,hlr];exact hm3) (fun j h1 h2=>by simpa using hvs.2 j h1 (by simpa using h2));have hst:=run_storeCells_at P l.blk (l.base+off*i.size) el vs.toList 0 cur w hw (by rw [Nat.add_zero];exact gC) fL;rw [Nat.add_zero] at hst;rw [hrl,fG,←c2] at eG;refine ⟨ρ,.int .i64 (Nat.min m len:Nat),w.setRow l.blk (cur.toList.take (l.base+off*i.size)++vs.toList++cur.toList.drop (l.base+off*i.size+vs.toList.length)).toArray,?_,.int _ _,?_,?_⟩
        ·have hl2:=eH w;simp [Builtin.copy_,run_underlying hu,eH,Yy hi,fO,goInt,hst,-Array.length_toList,-List.append_assoc]
        ·rw [m2,n2];have:=eG.setArr ⟨A.sz,A.n,.flat (Ue A.get off (Nat.min m len) g)⟩ rfl gH (by rw [k2];exact c1);exact this
        ·rw [m2,n2];exact Ev.ofWrite h hρ hfl _ _
       ·have e0:Nat.min m 0=0:=Nat.min_zero m;obtain ⟨n1,n3⟩:=nothing e0;refine ⟨ρ,.int .i64 (Nat.min m 0:Nat),w,?_,.int _ _,n1,n3⟩;rw [e0] at fO hvs;have hv0:vs= #[]:=by
         have:vs.size=0:=by rw [←hvs.1];simp [rows]
         exact Array.eq_empty_of_size_eq_zero this
        subst hv0;cases p with
        | none=>simp [Builtin.copy_,run_underlying hu,eH,Yy hi,fO,goInt]
        | some a=>simp [Builtin.copy_,run_underlying hu,eH,Yy hi,fO,goInt,storeCells]
      ·cases ha
     ·cases ha
    ·cases ha
 ·cases ha
theorem x4l {st st':St} {w:World} (h:Rel ρ st.mem st.next w) (floor:Nat) {ts:Array TypeId} {type:TypeId} {xs:List AVal} {us:Array Value} {v:AVal} (ha:y5n P floor st ts.toList xs=some (v,st')) (hx:Vj (Ym ρ) xs us.toList):
  ∃ρ' u w',(Builtin.clear_ ts type us).run P w=.ok u w'∧x1u ρ floor st st' v w ρ' u w'∧st'.env=st.env∧st'.ob=st.ob:=by
 obtain ⟨ts⟩:=ts;obtain ⟨us⟩:=us;simp only at ha hx;unfold y5n at ha;have unit:Ym ρ (.tup []) (.tuple #[]):=.tup [] #[] rfl fun i h1 _=>by simp at h1
 split at ha
 ·rename_i t _ d _;cases hx with
  | @cons _ ud _ _ hd _=>
   split at ha
   ·rename_i e hu;split at ha
    ·rename_i i zero hi hz;obtain ⟨i2,z,hi2,_,hzr,hzv⟩:=Wr (ρ:=ρ) hz;split at ha
     ·cases hd;simp only [Option.some.injEq,Prod.mk.injEq] at ha;obtain ⟨rfl,rfl⟩:=ha;exact ⟨ρ,.tuple #[],w,by simp [Builtin.clear_,run_underlying hu],⟨unit,h,Ev.refl _ _ _ _ _ h.dom⟩,rfl,rfl⟩
     ·rename_i b off len cap;cases hd with
      | sl _ _ _ _ l c hρ eN hlc=>
       rcases (by cases hl0:Nat.beq len 0 with
         | true=>rw [hl0] at ha;exact .inl ⟨rfl,ha⟩
         | false=>rw [hl0] at ha;exact .inr ⟨rfl,ha⟩:(Nat.beq len 0=true∧_)∨(Nat.beq len 0=false∧_)) with ⟨hl0,ha⟩ | ⟨hl0,ha⟩
       ·have hl0:=Nat.eq_of_beq_eq_true hl0;subst hl0;simp only [cond_true,Option.some.injEq,Prod.mk.injEq] at ha;obtain ⟨rfl,rfl⟩:=ha;exact ⟨ρ,.tuple #[],w,by simp [Builtin.clear_,run_underlying hu],⟨unit,h,Ev.refl _ _ _ _ _ h.dom⟩,rfl,rfl⟩
       ·obtain ⟨hc,ha⟩:=Qb ha;simp only [Bool.and_eq_true] at hc;obtain ⟨⟨hzl,hzs⟩,hfl⟩:=hc;have hzl:=Nat.eq_of_beq_eq_true hzl;have hfl:=Nat.le_of_ble_eq_true hfl;split at ha
        ·rename_i blk hm;obtain ⟨eR,ha⟩:=Qb ha;have eR:=Nat.le_of_ble_eq_true eR;simp only [Option.some.injEq,Prod.mk.injEq] at ha;obtain ⟨rfl,rfl⟩:=ha;have hrl:(rep len zero).length =len*i.size:=(by rw [Qe,hzl]);have fV:Uz ρ (rep len zero) (Builtin.zeroCells z.cells len):=y9z hzr len (len*z.cells.size) (by rw [hzr.1]);have fL: ∀v∈(Builtin.zeroCells z.cells len).toList,v.oneCell'=true:=Ym.cells_oneCell fV (by
          refine List.all_eq_true.2 fun a ha=>List.all_eq_true.1 hzs a ?_;unfold rep at ha;obtain ⟨l,hl,hal⟩:=List.mem_flatten.1 ha;rw [(List.mem_replicate.1 hl).2] at hal;exact hal)
         obtain ⟨cur,el,hw,gC,eG⟩:=h.write hρ hm (off:=off) (cs:=rep len zero) (vs:=(Builtin.zeroCells z.cells len).toList) (by simpa using fV.1.symm) (by rw [hrl];exact eR) (fun j h1 h2=>by simpa using fV.2 j h1 (by simpa using h2));have hst:=run_storeCells_at P l.blk (l.base+off) el (Builtin.zeroCells z.cells len).toList 0 cur w hw (by rw [Nat.add_zero];exact gC) fL;rw [Nat.add_zero] at hst;have hne:len≠0:=fun e=>by rw [e] at hl0;cases hl0
         refine ⟨ρ,.tuple #[],w.setRow l.blk (cur.toList.take (l.base+off)++(Builtin.zeroCells z.cells len).toList ++cur.toList.drop (l.base+off+(Builtin.zeroCells z.cells len).toList.length)).toArray,?_,⟨unit,?_,Ev.ofWrite h hρ hfl _ _⟩,rfl,rfl⟩
         ·obtain ⟨len',rfl⟩: ∃k,len=k+1:=⟨len - 1,by omega⟩
          simp [Builtin.clear_,run_underlying hu,hzv,hst,-Array.length_toList,-List.append_assoc]
         ·rw [hrl] at eG
          simpa only [St.withMem] using eG
        ·cases ha
     ·cases ha
    ·cases ha
   ·cases ha
 ·cases ha
end
end Go.Am
end
