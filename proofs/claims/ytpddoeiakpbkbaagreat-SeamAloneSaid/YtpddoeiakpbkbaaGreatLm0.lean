/- A part of a proof: several texts in one. -/
import Derived.Calls
import Derived.Orders
import Derived.KernelRfl
import Derived.DeepKeys
import Derived.Below
import Derived.Laws.Sem
import Derived.Laws.Tables
import Derived.Laws.CopyRow
import Derived.Laws.Cells
import Derived.Laws.Entries
import Derived.Laws.StructEq
import Derived.ChangeKeysEq
import Derived.WalkSpells
import Derived.IntWalk
set_option maxRecDepth 1000000
set_option maxHeartbeats 8000000
set_option linter.unusedVariables false
set_option linter.unusedSimpArgs false
noncomputable section
namespace Go.Am
open IntKind (wrap)
theorem Aa:type_of%@cond_false:=@cond_false
theorem Ab:type_of%@cond_true:=@cond_true
theorem Ac:type_of%@Prod.mk.injEq:=@Prod.mk.injEq
theorem Ad:type_of%@Option.some.injEq:=@Option.some.injEq
theorem Ae:type_of%@Bool.and_eq_true:=@Bool.and_eq_true
theorem Af:type_of%@Nat.zero_add:=@Nat.zero_add
theorem Ag:type_of%@Option.some.inj:=@Option.some.inj
theorem Ah:type_of%@Bool.and_true:=@Bool.and_true
theorem Ai:type_of%@Nat.eq_of_beq_eq_true:=@Nat.eq_of_beq_eq_true
theorem Aj:type_of%@Bool.true_and:=@Bool.true_and
theorem Ak:type_of%@Nat.le_of_ble_eq_true:=@Nat.le_of_ble_eq_true
theorem Al:type_of%@Option.map_eq_some_iff:=@Option.map_eq_some_iff
theorem An:type_of%@decide_eq_true:=@decide_eq_true
theorem Ao:type_of%@decide_true:=@decide_true
theorem Aq:type_of%@Nat.le_refl:=@Nat.le_refl
theorem Ar:type_of%@List.drop_eq_nil_of_le:=@List.drop_eq_nil_of_le
theorem As:type_of%@decide_eq_true_eq:=@decide_eq_true_eq
theorem At:type_of%@List.all_eq_true:=@List.all_eq_true
theorem Au:type_of%@List.getElem?_eq_getElem:=@List.getElem?_eq_getElem
theorem Av:type_of%@Nat.le_trans:=@Nat.le_trans
theorem Aw:type_of%@of_decide_eq_true:=@of_decide_eq_true
theorem Ay:type_of%@Nat.add_assoc:=@Nat.add_assoc
theorem Az:type_of%@Bool.not_true:=@Bool.not_true
theorem AA:type_of%@Nat.mul_le_mul_right:=@Nat.mul_le_mul_right
theorem AB:type_of%@decide_eq_false:=@decide_eq_false
theorem AC:type_of%@Nat.zero_le:=@Nat.zero_le
theorem AD:type_of%@List.append_nil:=@List.append_nil
theorem AE:type_of%@Bool.not_false:=@Bool.not_false
theorem AF:type_of%@if_neg:=@if_neg
theorem AG:type_of%@Nat.not_lt_zero:=@Nat.not_lt_zero
theorem AH:type_of%@List.length_append:=@List.length_append
theorem AI:type_of%@List.mem_cons:=@List.mem_cons
theorem AJ:type_of%@List.append_assoc:=@List.append_assoc
theorem AK:type_of%@List.mem_flatMap:=@List.mem_flatMap
theorem AL:type_of%@if_pos:=@if_pos
theorem AM:type_of%@List.mem_append:=@List.mem_append
theorem AN:type_of%@List.getElem_of_mem:=@List.getElem_of_mem
theorem AO:type_of%@Array.getElem?_eq_some_iff:=@Array.getElem?_eq_some_iff
theorem AP:type_of%@List.mem_map:=@List.mem_map
theorem AQ:type_of%@congrArg:=@congrArg
theorem AR:type_of%@List.pairwise_cons:=@List.pairwise_cons
theorem AS:type_of%@Nat.add_mul:=@Nat.add_mul
theorem AT:type_of%@List.drop_zero:=@List.drop_zero
theorem AU:type_of%@List.map_cons:=@List.map_cons
theorem AV:type_of%@List.mem_filter:=@List.mem_filter
theorem AW:type_of%@Nat.ble_eq_true_of_le:=@Nat.ble_eq_true_of_le
theorem AX:type_of%@Nat.lt_of_lt_of_le:=@Nat.lt_of_lt_of_le
theorem AY:type_of%@List.take_add_one:=@List.take_add_one
theorem AZ:type_of%@List.pairwise_iff_getElem:=@List.pairwise_iff_getElem
theorem A0:type_of%@Int.le_refl:=@Int.le_refl
theorem A1:type_of%@List.getElem_mem:=@List.getElem_mem
theorem A2:type_of%@Bool.eq_false_iff:=@Bool.eq_false_iff
theorem A3:type_of%@List.mem_range:=@List.mem_range
theorem A4:type_of%@Nat.lt_or_ge:=@Nat.lt_or_ge
theorem A5:type_of%@Nat.div_lt_of_lt_mul:=@Nat.div_lt_of_lt_mul
theorem A6:type_of%@List.take_of_length_le:=@List.take_of_length_le
theorem A7:type_of%@Nat.eq_or_lt_of_le:=@Nat.eq_or_lt_of_le
theorem A8:type_of%@List.nil_append:=@List.nil_append
theorem A9:type_of%@List.getElem?_eq_some_iff:=@List.getElem?_eq_some_iff
theorem Ba:type_of%@decide_eq_false_iff_not:=@decide_eq_false_iff_not
theorem Bb:type_of%@List.length_cons:=@List.length_cons
theorem Bc:type_of%@Bool.false_and:=@Bool.false_and
theorem Bd:type_of%@Nat.lt_succ_of_lt:=@Nat.lt_succ_of_lt
theorem Be:type_of%@Bool.not_eq_true':=@Bool.not_eq_true'
theorem Bf:type_of%@Nat.lt_trichotomy:=@Nat.lt_trichotomy
theorem Bg:type_of%@List.length_reverse:=@List.length_reverse
theorem Bh:type_of%@List.map_append:=@List.map_append
theorem Bi:type_of%@List.length_map:=@List.length_map
theorem Bj:type_of%@Classical.byContradiction:=@Classical.byContradiction
theorem Bk:type_of%@and_true:=@and_true
theorem Bl:type_of%@Nat.add_zero:=@Nat.add_zero
theorem Bm:type_of%@List.not_mem_nil:=@List.not_mem_nil
theorem Bn:type_of%@Nat.mod_lt:=@Nat.mod_lt
theorem Bo:type_of%@Nat.div_add_mod:=@Nat.div_add_mod
theorem Bp:type_of%@Array.toList_map:=@Array.toList_map
theorem Bq:type_of%@List.getElem_append_right:=@List.getElem_append_right
theorem Br:type_of%@Array.getElem?_eq_getElem:=@Array.getElem?_eq_getElem
theorem Bs:type_of%@List.drop_eq_getElem_cons:=@List.drop_eq_getElem_cons
theorem Bt:type_of%@Bool.or_eq_true:=@Bool.or_eq_true
theorem Bu:type_of%@Nat.mul_comm:=@Nat.mul_comm
theorem Bv:type_of%@List.getElem_append_left:=@List.getElem_append_left
theorem Bw:type_of%@List.pairwise_append:=@List.pairwise_append
theorem Bx:type_of%@List.map_nil:=@List.map_nil
theorem By:type_of%@List.sum_append:=@List.sum_append
theorem Bz:type_of%@List.getElem_take:=@List.getElem_take
theorem BA:type_of%@Nat.ne_of_lt:=@Nat.ne_of_lt
theorem BB:type_of%@decide_eq_true_iff:=@decide_eq_true_iff
theorem BC:type_of%@List.range_succ:=@List.range_succ
theorem BD:type_of%@List.sum_cons:=@List.sum_cons
theorem BE:type_of%@Bool.or_eq_false_iff:=@Bool.or_eq_false_iff
theorem BF:type_of%@Bool.and_eq_true_iff:=@Bool.and_eq_true_iff
theorem BG:type_of%@Option.isSome_iff_exists:=@Option.isSome_iff_exists
theorem BH:type_of%@List.ext_getElem:=@List.ext_getElem
theorem BI:type_of%@List.map_congr_left:=@List.map_congr_left
theorem BJ:type_of%@Option.bind_eq_some_iff:=@Option.bind_eq_some_iff
theorem BK:type_of%@List.any_cons:=@List.any_cons
theorem BL:type_of%@List.mem_singleton:=@List.mem_singleton
theorem BM:type_of%@Nat.one_mul:=@Nat.one_mul
theorem BN:type_of%@Nat.mul_le_mul:=@Nat.mul_le_mul
theorem BO:type_of%@Int.zero_add:=@Int.zero_add
theorem BQ:type_of%@Nat.lt_succ_self:=@Nat.lt_succ_self
theorem BR:type_of%@List.length_drop:=@List.length_drop
theorem BS:type_of%@Nat.lt_irrefl:=@Nat.lt_irrefl
theorem BT:type_of%@Nat.le_succ:=@Nat.le_succ
theorem BU:type_of%@or_false:=@or_false
def bl (n m:Nat):List Bool:=Nat.rec (motive:=fun _=>Nat → List Bool) (fun _=>[]) (fun _ r m=>Nat.beq (m%2) 1::r (m/2)) n m
inductive v2c where
 | ex (k:Nat)
 | un (sz:Nat)
inductive AVal where
 | undef
 | bool (b:Bool)
 | int (k:IntKind) (n:Int)
 | str (s:List UInt8)
 | agg (cs:List AVal)
 | tup (vs:List AVal)
 | ptr (b off:Nat)
 | nilp
 | sl (b off len:Nat) (cap:v2c)
 | nils
 | fn (f:FuncId) (caps:List AVal)
 | nilf
  | fnb (f:FuncId) (first:List AVal)
 | ifc (t:TypeId) (v:AVal)
 | nili
 | dat (len:Nat) (get:Nat→List AVal)
 | dptr (cs:List AVal)
  | sla (b sz off len:Nat) (cap:v2c)
  | epa (b sz i fo:Nat)
  | yld (j:Nat)
  | slv (b sz off len:Nat)
  | nnl (len:Nat) (get:Nat→List AVal)
inductive T (α:Type) where
 | leaf
 | node (v:α) (l r:T α)
def T.get {α:Type} (d:α) (t:T α):Nat→α:=
 T.rec (motive:=fun _=>Nat→α) (fun _=>d)
  (fun v _ _ gl gr n=>Nat.rec (motive:=fun _=>α) v (fun m _=>bif Nat.beq (m %2) 0 then gl (m / 2) else gr (m / 2)) n) t
def T.setF {α:Type} (d:α) (v:α) (f:Nat):T α→Nat→T α:=
 Nat.rec (motive:=fun _=>T α→Nat→T α) (fun t _=>t)
  (fun _ rec t n=>
   T.casesOn (motive:=fun _=>T α) t
    (Nat.rec (motive:=fun _=>T α) (.node v .leaf .leaf)
     (fun m _=>bif Nat.beq (m %2) 0 then .node d (rec .leaf (m / 2)) .leaf else .node d .leaf (rec .leaf (m / 2))) n)
    (fun u l r=>Nat.rec (motive:=fun _=>T α) (.node v l r)
     (fun m _=>bif Nat.beq (m %2) 0 then .node u (rec l (m / 2)) r else .node u l (rec r (m / 2))) n)) f
def T.set {α:Type} (d:α) (t:T α) (n:Nat) (v:α):T α:=T.setF d v (n+1) t n
inductive Rws where
 | flat (g:Nat→List AVal)
 | one (r:Nat) (cs:List AVal) (b:Rws)
 | alt (c:Nat→Bool) (a b:Rws)
def Rws.get :Rws→Nat→List AVal
 | .flat g=>g
 | .one r cs b=>fun k=>bif Nat.beq k r then cs else b.get k
 | .alt c a b=>fun k=>bif c k then a.get k else b.get k
instance : Coe (Nat→List AVal) Rws:=⟨.flat⟩
structure Arr where
 sz:Nat
 n:Nat
 rw:Rws
def Arr.get (A:Arr):Nat→List AVal:=A.rw.get
def Ym (n:Nat) (get:Nat→List AVal):List AVal:=(List.range n).flatMap get
structure ABlk where
 cells:List AVal
 ty:TypeId
 arr:Option Arr
abbrev Mem :=T (Option ABlk)
def Yi (m:Mem) (b:Nat):Option ABlk:=T.get none m b
def Wv (m:Mem) (b:Nat) (o:Option ABlk):Mem:=T.set none m b o
structure Ctx where
 n:Nat
 floor:Nat
 sym:Bool
structure St where
 env:T AVal
 mem:Mem
 next:Nat
 orc:List Bool
 ob:Bool
def St.tmp :St→Nat→AVal
 | ⟨env,_,_,_,_⟩,t=>T.get .undef env t
def St.put (cx:Ctx):St→Option Tmp→AVal→Option St
 | ⟨env,mem,next,orc,ob⟩,some d,v=>bif Nat.ble (d+1) cx.n then some ⟨T.set .undef env d v,mem,next,orc,ob⟩ else none
 | st,none,_=>some st
def St.withMem :St→Mem→St
 | ⟨env,_,next,orc,ob⟩,m=>⟨env,m,next,orc,ob⟩
def St.withEnv :St→T AVal→St
 | ⟨_,mem,next,orc,ob⟩,e=>⟨e,mem,next,orc,ob⟩
def St.owe (cx:Ctx):St→Bool→Option St
 | ⟨env,mem,next,orc,ob⟩,b=>bif cx.sym then some ⟨env,mem,next,orc,b&&ob⟩ else bif b then some ⟨env,mem,next,orc,ob⟩ else none
def St.test :St→Bool→Bool×St
 | ⟨env,mem,next,[],ob⟩,b=>(b,⟨env,mem,next,[],ob⟩)
 | ⟨env,mem,next,e::r,ob⟩,b=>(e,⟨env,mem,next,r,(b == e)&&ob⟩)
def St.nextO :St→Bool
 | ⟨_,_,_,[],_⟩=>false
 | ⟨_,_,_,e::_,_⟩=>e
def St.dropO :St→St
 | ⟨env,mem,next,orc,ob⟩=>⟨env,mem,next,orc.tail,ob⟩
def z3j :Value→AVal
 | .bool b=>.bool b
 | .int k n=>.int k n
 | .string s=>.str s.data.toList
 | .pointer none=>.nilp
 | .slice none 0 0=>.nils
 | .nilFunc =>.nilf
 | .nilIface =>.nili
 | _=>.undef
def ofV :Value→AVal
 | .agg cs=>.agg (cs.toList.map z3j)
 | v=>z3j v
def St.eval (st:St):Operand→AVal
 | .tmp t=>st.tmp t
 | .const v=>ofV v
 | .global _=>.undef
 | .func f=>.fn f []
def AVal.cells :AVal→List AVal
 | .agg cs=>cs
 | v=>[v]
def z3t :AVal→Bool
 | .undef | .tup _=>false
 | _=>true
def j6q :AVal→Bool
 | .slv _ _ _ _ | .sl _ _ _ _ | .sla _ _ _ _ _ | .ptr _ _ | .epa _ _ _ _ | .nils =>false
 | _=>true
def y1g :AVal→Bool
 | .undef | .agg _ | .tup _=>false
 | _=>true
def v7g (P:Program) (t:TypeId):Option Bool:=
 match P.underlying t with
 | some (.struct _) | some (.array _ _)=>some true
 | some _=>some false
 | none=>none
def cut (cs:List AVal) (off n:Nat):Option (List AVal):=
 let p:=(cs.drop off).take n
 bif Nat.beq p.length n then some p else none
def z2m (P:Program) (t:TypeId) (cs:List AVal) (off:Nat):Option AVal:=
 match v7g P t,P.info? t with
 | some true,some i=>(cut cs off i.size).map .agg
 | some false,some _=>cs[off]?
 | _,_=>none
def z3p (rec:TypeId→AVal→AVal→Option Bool) (P:Program) (xs ys:List AVal):List (TypeId×Nat)→Option Bool
 | []=>some true
 | (t,off)::r=>
  match z2m P t xs off,z2m P t ys off with
  | some a,some b=>match rec t a b,z3p rec P xs ys r with
   | some e,some f=>some (e&&f)
   | _,_=>none
  | _,_=>none
def aEq (P:Program):Nat→TypeId→AVal→AVal→Option Bool
 | 0,_,_,_=>none
 | d+1,t,x,y=>
  match P.underlying t with
  | some .bool =>match x,y with
   | .bool a,.bool b=>some (a == b)
   | _,_=>none
  | some (.int _)=>match x,y with
   | .int k a,.int k' b=>if k=k' then some (a == b) else none
   | _,_=>none
  | some .string =>match x,y with
   | .str a,.str b=>some (a == b)
   | _,_=>none
  | some (.array n e)=>match x,y,P.info? e with
   | .agg xs,.agg ys,some i=>z3p (aEq P d) P xs ys ((List.range n).map fun j=>(e,j*i.size))
   | _,_,_=>none
  | some (.struct fs)=>match x,y with
   | .agg xs,.agg ys=>
    bif P.stoodInHeld t then none else bif fs.toList.any (fun f=>f.name == "_") then none else
    z3p (aEq P d) P xs ys (fs.toList.map fun f=>(f.type,f.offset))
   | _,_=>none
  | _=>none
def v1z (op:BinOp) (k:IntKind) (a b:Int):Option Int:=
 match op with
 | .and =>some (k.wrap ((BitVec.ofInt k.bits a)&&& (BitVec.ofInt k.bits b)).toNat)
 | .or =>some (k.wrap ((BitVec.ofInt k.bits a)||| (BitVec.ofInt k.bits b)).toNat)
 | .xor =>some (k.wrap ((BitVec.ofInt k.bits a) ^^^ (BitVec.ofInt k.bits b)).toNat)
 | .andNot =>some (k.wrap ((BitVec.ofInt k.bits a)&&& ~~~(BitVec.ofInt k.bits b)).toNat)
 | _=>none
def aBin (P:Program) (op:BinOp) (t:TypeId) (x y:AVal):Option (AVal×Bool):=
 match x,y with
 | .int k a,.int k' b=>
  match op with
  | .shl =>some (.int k (k.wrap (a*2 ^ (min b.toNat k.bits))),!decide (b<0))
  | .shr =>some (.int k (a.fdiv (2 ^ (min b.toNat k.bits))),!decide (b<0))
  | _=>if k=k' then
    match op with
    | .add =>some (.int k (k.wrap (a+b)),true)
    | .sub =>some (.int k (k.wrap (a - b)),true)
    | .mul =>some (.int k (k.wrap (a*b)),true)
    | .quo =>some (.int k (k.wrap (a.tdiv b)),!decide (b=0))
    | .rem =>some (.int k (a.tmod b),!decide (b=0))
    | .eql =>some (.bool (a == b),true)
    | .neq =>some (.bool (a != b),true)
    | .lss =>some (.bool (decide (a<b)),true)
    | .leq =>some (.bool (decide (a≤b)),true)
    | .gtr =>some (.bool (decide (a>b)),true)
    | .geq =>some (.bool (decide (a≥b)),true)
    | op=>(v1z op k a b).map fun n=>(.int k n,true)
   else none
 | .bool a,.bool b=>match P.underlying t with
  | some .bool =>match op with
   | .eql =>some (.bool (a == b),true)
   | .neq =>some (.bool (!(a == b)),true)
   | _=>none
  | _=>none
 | .agg a,.agg b=>
  bif P.eqGuardType P.depth t then none else
  match op with
  | .eql =>(aEq P 30 t (.agg a) (.agg b)).map fun r=>(.bool r,true)
  | .neq =>(aEq P 30 t (.agg a) (.agg b)).map fun r=>(.bool (!r),true)
  | _=>none
 | .sl _ _ _ _,.nils =>match P.underlying t with
  | some (.slice _)=>match op with
   | .eql =>some (.bool false,true)
   | .neq =>some (.bool true,true)
   | _=>none
  | _=>none
 | .nnl _ _,.nils =>match P.underlying t with
  | some (.slice _)=>match op with
   | .eql =>some (.bool false,true)
   | .neq =>some (.bool true,true)
   | _=>none
  | _=>none
 | .nils,.nils =>match P.underlying t with
  | some (.slice _)=>match op with
   | .eql =>some (.bool true,true)
   | .neq =>some (.bool false,true)
   | _=>none
  | _=>none
 | .str a,.str b=>match op with
  | .eql =>some (.bool (a == b),true)
  | .neq =>some (.bool (!(a == b)),true)
  | _=>none
 | _,_=>none
def aUn (op:UnOp) (x:AVal):Option AVal:=
 match op,x with
 | .neg,.int k n=>some (.int k (k.wrap (0 - n)))
 | .xor,.int k n=>(v1z .xor k (if k.signed then -1 else k.max) n).map (.int k)
 | .not,.bool b=>some (.bool !b)
 | _,_=>none
def x4o (place:Nat→Option (Nat×Nat)) (cells:List AVal):List (Nat×AVal)→Option (List AVal)
 | []=>some cells
 | (i,v)::r=>
  match place i with
  | none=>none
  | some (off,size)=>
   bif z3t v&&Nat.beq v.cells.length size&&Nat.ble (off+size) cells.length then
    x4o place (cells.take off++v.cells++cells.drop (off+size)) r
   else none
def z0d (P:Program) (t:TypeId):Option (List AVal):=
 match P.info? t with
 | some i=>i.zero.map fun v=>(ofV v).cells
 | none=>none
def Qu (P:Program):List Field→Option (List (Nat×Nat))
 | []=>some []
 | f::r=>match P.info? f.type,Qu P r with
  | some i,some l=>some ((f.offset,i.size)::l)
  | _,_=>none
def v9t (P:Program) (t:TypeId) (parts:List (Nat×AVal)):Option AVal:=
 match P.underlying t,z0d P t with
 | some (.struct fs),some zero=>match Qu P fs.toList with
  | some pl=>(x4o (pl[·]?) zero parts).map .agg
  | none=>none
 | some (.array _ e),some zero=>match P.info? e with
  | some i=>(x4o (fun j=>some (j*i.size,i.size)) zero parts).map .agg
  | none=>none
 | _,_=>none
def y1s (P:Program) (t:TypeId) (x i:AVal):Option (AVal×Bool):=
 match P.underlying t,x,i with
 | some (.array len e),.ptr b off,.int _ i=>(P.info? e).map fun s=>(.ptr b (off+i.toNat*s.size),decide (0≤i∧i<len))
 | some (.array len e),.dptr cs,.int _ i=>(P.info? e).map fun s=>(.dptr (cs.drop (i.toNat*s.size)),decide (0≤i∧i<len))
 | some (.slice e),.sl b off len _,.int _ i=>(P.info? e).map fun s=>(.ptr b (off+i.toNat*s.size),decide (0≤i∧i<len))
 | some (.slice e),.dat len get,.int _ i=>(P.info? e).map fun s=>(.dptr (get i.toNat),decide (0≤i∧i<len)&&Nat.beq (get i.toNat).length s.size)
 | some (.slice e),.sla b sz off len _,.int _ i=>(P.info? e).map fun s=>(.epa b sz (off+i.toNat) 0,decide (0≤i∧i<len)&&Nat.beq s.size sz)
 | some (.slice e),.slv b sz off len,.int _ i=>(P.info? e).map fun s=>(.epa b sz (off+i.toNat) 0,decide (0≤i∧i<len)&&Nat.beq s.size sz)
 | some (.array len e),.epa b sz r fo,.int _ i=>(P.info? e).map fun s=>(.epa b sz r (fo+i.toNat*s.size),decide (0≤i∧i<len))
 | _,_,_=>none
def y1t (P:Program) (t:TypeId) (x:AVal) (f:Nat):Option AVal:=
 match P.underlying t with
 | some (.struct fs)=>match fs[f]? with
  | some f=>match P.info? f.type with
   | some i=>bif Nat.beq i.size 0 then none else match x with
    | .ptr b off=>some (.ptr b (off+f.offset))
    | .dptr cs=>some (.dptr (cs.drop f.offset))
    | .epa b sz r fo=>some (.epa b sz r (fo+f.offset))
    | _=>none
   | none=>none
  | none=>none
 | _=>none
def v9r (P:Program) (t:TypeId) (x:AVal) (f:Nat):Option AVal:=
 match P.underlying t,x with
 | some (.struct fs),.agg cs=>match fs[f]? with
  | some f=>z2m P f.type cs f.offset
  | none=>none
 | _,_=>none
def v9q (P:Program) (t:TypeId) (x i:AVal):Option (AVal×Bool):=
 match P.underlying t,x,i with
 | some (.array len e),.agg cs,.int _ i=>
  match P.info? e with
  | some s=>(z2m P e cs (i.toNat*s.size)).map fun v=>(v,decide (0≤i∧i<len))
  | none=>none
 | some .string,.str s,.int _ i=>(s[i.toNat]?).map fun b=>(.int .u8 b.toNat,decide (0≤i))
 | _,_,_=>none
def z0r (x y:Int):Int:=if y<x then y else x
def z0s (x y:Int):Int:=if y>x then y else x
def y6x (k:IntKind) (x:Int):List AVal→Option Int
 | []=>some x
 | .int _ y::r=>y6x k (z0r x y) r
 | _=>none
def y6z (k:IntKind) (x:Int):List AVal→Option Int
 | []=>some x
 | .int _ y::r=>y6z k (z0s x y) r
 | _=>none
def y5n (P:Program) (b:Builtin) (argTypes:List TypeId) (args:List AVal):Option AVal:=
 match b,argTypes,args with
 | .len,t::_,x::_=>match P.underlying t,x with
  | some .string,.str s=>some (.int .i64 s.length)
  | some (.array n _),_=>some (.int .i64 n)
  | some (.slice _),.sl _ _ n _=>some (.int .i64 n)
  | some (.slice _),.nils =>some (.int .i64 0)
  | some (.slice _),.dat n _=>some (.int .i64 n)
  | some (.slice _),.sla _ _ _ n _=>some (.int .i64 n)
  | some (.slice _),.slv _ _ _ n=>some (.int .i64 n)
  | _,_=>none
 | .min,_,.int k x::r=>(y6x k x r).map (.int k)
 | .max,_,.int k x::r=>(y6z k x r).map (.int k)
 | .cap,t::_,x::_=>match P.underlying t,x with
  | some (.slice _),.sl _ _ _ (.ex c)=>some (.int .i64 c)
  | some (.slice _),.nils =>some (.int .i64 0)
  | _,_=>none
 | _,_,_=>none
def z3u (st:Operand→AVal) (o:Option Operand) (d:Nat):Option (Nat×Bool):=
 match o with
 | none=>some (d,true)
 | some x=>match st x with
  | .int _ i=>some (i.toNat,decide (0≤i))
  | _=>none
def pd (p:Prop):Bool:= @decide p (Classical.propDecidable p)
def v9o (P:Program) (ev:Operand→AVal) (t:TypeId) (x:Operand) (lo hi mx:Option Operand):Option (AVal×Bool):=
 match P.underlying t,ev x with
 | some (.slice e),.nils =>
  match P.info? e,mx,z3u ev lo 0,z3u ev hi 0 with
  | some _,none,some (l,a),some (h,b)=>some (.nils,a&&b&&Nat.beq l 0&&Nat.beq h 0)
  | _,_,_,_=>none
 | some (.slice e),.sl b off len (.ex c)=>
  match P.info? e,z3u ev mx c,z3u ev hi len,z3u ev lo 0 with
  | some s,some (m,x1),some (h,x2),some (l,x3)=>
   if mx.isSome&&hi.isNone then none else
   some (.sl b (bif Nat.beq m l then off else off+l*s.size) (h - l) (.ex (m - l)),x1&&x2&&x3&&Nat.ble m c&&Nat.ble h m&&Nat.ble l h)
  | _,_,_,_=>none
 | some (.slice e),.sl b off len (.un z)=>
  match P.info? e,mx,z3u ev hi len,z3u ev lo 0 with
  | some s,none,some (h,x2),some (l,x3)=>
   bif Nat.beq z s.size then
    bif Nat.beq h l&&Nat.ble 1 l then some (.dat 0 (fun _=>[]),x2&&x3&&Nat.ble h len) else
    some (.sl b (off+l*s.size) (h - l) (.un z),x2&&x3&&Nat.ble h len&&Nat.ble l h&&(Nat.ble (l+1) len||Nat.beq l 0))
   else none
  | some s,some _,some (h,x2),some (l,x3)=>
   match z3u ev mx 0 with
   | some (m,x1)=>
    bif Nat.beq z s.size&&hi.isSome then
     some (.sl b (bif Nat.beq m l then off else off+l*s.size) (h - l) (.ex (m - l)),x1&&x2&&x3&&Nat.ble m len&&Nat.ble h m&&Nat.ble l h)
    else none
   | none=>none
  | _,_,_,_=>none
 | some (.slice e),.sla b sz off len (.un z)=>
  match P.info? e,mx,z3u ev hi len,z3u ev lo 0 with
  | some s,none,some (h,x2),some (l,x3)=>
   bif Nat.beq z s.size&&Nat.beq sz z then
    bif lo.isSome then some (.slv b sz (off+l) (h - l),x2&&(x3&&(decide (h≤len)&&decide (l≤h)))) else
    some (.sla b sz (off+l) (h - l) (.un z),x2&&(x3&&(decide (h≤len)&&(decide (l≤h)&&(decide (l<len)||Nat.beq l 0)))))
   else none
  | _,_,_,_=>none
 | some (.slice e),.slv b sz off len=>
  match P.info? e,mx,z3u ev hi len,z3u ev lo 0 with
  | some s,none,some (h,x2),some (l,x3)=>
   bif Nat.beq sz s.size then some (.slv b sz (off+l) (h - l),x2&&(x3&&(decide (h≤len)&&decide (l≤h)))) else none
  | _,_,_,_=>none
 | some (.slice e),.dat len get=>
  match P.info? e,mx,z3u ev hi len,z3u ev lo 0 with
  | some s,none,some (h,x2),some (l,x3)=>some (.dat (h - l) (fun k=>get (l+k)),x2&&(x3&&(decide (h≤len)&&(decide (l≤h)&&pd (∀i,i<len→(get i).length =s.size)))))
  | _,_,_,_=>none
 | some (.array n e),.ptr b off=>
  match P.info? e,z3u ev mx n,z3u ev hi n,z3u ev lo 0 with
  | some s,some (m,x1),some (h,x2),some (l,x3)=>
   if mx.isSome&&hi.isNone then none else
   some (.sl b (bif Nat.beq m l then off else off+l*s.size) (h - l) (.ex (m - l)),x1&&x2&&x3&&Nat.ble m n&&Nat.ble h m&&Nat.ble l h)
  | _,_,_,_=>none
 | _,_=>none
def Qq (P:Program) (op:Op) (ev:Operand→AVal):Option (AVal×Bool):=
 match op with
 | .move x | .assign x=>some (ev x,true)
 | .pick c a b=>match ev c with
  | .bool c=>some (bif c then ev a else ev b,true)
  | _=>none
 | .build t parts=>(v9t P t (parts.toList.map fun p=>(p.1,ev p.2))).map (·,true)
 | .nilCheck x=>match ev x with
  | .ptr b o=>some (.ptr b o,true)
  | .dptr cs=>some (.dptr cs,true)
  | .fn f c=>some (.fn f c,true)
  | .fnb f c=>some (.fnb f c,true)
  | _=>none
 | .binOp op t x y _=>aBin P op t (ev x) (ev y)
 | .unOp op _ x=>(aUn op (ev x)).map (·,true)
 | .convert src dst x=>match P.underlying src,P.underlying dst,ev x with
  | some _,some (.int k),.int _ n=>some (.int k (k.wrap n),true)
  | _,_,_=>none
 | .makeInterface t x=>match P.underlying t with
  | some (.interface _) | none=>none
  | some _=>some (.ifc t (ev x),true)
 | .makeFunc (.func f) first captured=>bif first.isEmpty then some (.fn f (captured.toList.map ev),true) else bif captured.isEmpty then some (.fnb f (first.toList.map ev),true) else none
 | .fieldAddr t x f=>(y1t P t (ev x) f).map (·,true)
 | .field t x f=>(v9r P t (ev x) f).map (·,true)
 | .indexAddr t x i=>y1s P t (ev x) (ev i)
 | .index t x i=>v9q P t (ev x) (ev i)
 | .extract x i=>match ev x with
  | .tup vs=>(vs[i]?).map (·,true)
  | _=>none
 | .slice t x lo hi mx=>v9o P ev t x lo hi mx
 | .call {callee:=.builtin b,args,argTypes}=>(y5n P b argTypes.toList (args.toList.map ev)).map (·,true)
 | _=>none
def w4b (P:Program) (m:Mem) (t:TypeId) (x:AVal):Option AVal:=
 match x with
 | .ptr b off=>match Yi m b with
  | some blk=>z2m P t blk.cells off
  | none=>none
 | .dptr cs=>z2m P t cs 0
 | _=>none
def y8f (P:Program) (m:Mem) (t:TypeId) (x:AVal):Option (AVal×Bool):=
 match x with
 | .epa b sz r fo=>match Yi m b with
  | some blk=>match blk.arr with
   | some A=>(z2m P t (A.get r) fo).map (·,Nat.beq A.sz sz&&decide (r<A.n))
   | none=>none
  | none=>none
 | x=>(w4b P m t x).map (·,true)
def z5b :Rws→Nat→St→List AVal×St
 | .flat g,r,st=>(g r,st)
 | .one r0 cs b,r,st=>match st.test (Nat.beq r r0) with
  | (e,st)=>bif e then (cs,st) else z5b b r st
 | .alt c a b,r,st=>match st.test (c r) with
  | (e,st)=>bif e then z5b a r st else z5b b r st
def v9p (P:Program) (st:St) (t:TypeId) (x:AVal):Option (AVal×Bool×St):=
 match x with
 | .epa b sz r fo=>match Yi st.mem b with
  | some blk=>match blk.arr with
   | some A=>match z5b A.rw r st with
    | (cs,st1)=>(z2m P t cs fo).map (·,Nat.beq A.sz sz&&decide (r<A.n),st1)
   | none=>none
  | none=>none
 | x=>(w4b P st.mem t x).map (·,true,st)
def y8b (P:Program) (floor:Nat) (st:St) (t:TypeId) (x v:AVal):Option St:=
 match x,P.info? t with
 | .ptr b off,some i=>
  let cs:=v.cells
  bif Nat.ble floor b&&Nat.beq cs.length i.size&&z3t v&&cs.all y1g then
   match Yi st.mem b with
   | some blk=>
    bif Nat.ble (off+i.size) blk.cells.length then
     some (st.withMem (Wv st.mem b (some ⟨blk.cells.take off++cs++blk.cells.drop (off+i.size),blk.ty,none⟩)))
    else none
   | none=>none
  else none
 | _,_=>none
def Xt (get:Nat→List AVal) (r fo:Nat) (cs:List AVal):Nat→List AVal:=fun k=>bif Nat.beq k r then (get r).take fo++cs++(get r).drop (fo+cs.length) else get k
def setRow (A:Arr) (r fo:Nat) (cs:List AVal) (st:St):Option (Rws×St):=
 match A.rw with
 | .flat g=>bif cs.all j6q then some (.flat (Xt g r fo cs),st) else bif Nat.beq fo 0&&Nat.beq cs.length A.sz then some (.one r cs (.flat g),st) else none
 | .one r0 c0 b=>match st.test (Nat.beq r r0) with
  | (e,st1)=>bif e&&Nat.beq fo 0&&Nat.beq cs.length A.sz then some (.one r0 cs b,st1) else none
 | .alt c a b=>bif Nat.beq fo 0&&Nat.beq cs.length A.sz then some (.one r cs (.alt c a b),st) else none
def z7v (P:Program) (cx:Ctx) (st:St) (t:TypeId) (x v:AVal):Option St:=
 match x,P.info? t with
 | .epa b sz r fo,some i=>
  bif Nat.ble cx.floor b&&Nat.beq v.cells.length i.size&&z3t v&&v.cells.all y1g&&Nat.ble (fo+i.size) sz then
   match Yi st.mem b with
   | some blk=>match blk.arr with
    | some A=>match setRow A r fo v.cells st with
     | some (rw,st1)=>(st1.withMem (Wv st1.mem b (some ⟨Ym A.n rw.get,blk.ty,some ⟨A.sz,A.n,rw⟩⟩))).owe cx (Nat.beq A.sz sz&&decide (r<A.n))
     | none=>none
    | none=>none
   | none=>none
  else none
 | _,_=>none
def y2u :St→List AVal→TypeId→St
 | ⟨env,mem,next,orc,ob⟩,cells,ty=>⟨env,Wv mem next (some ⟨cells,ty,none⟩),next+1,orc,ob⟩
def rep (n:Nat) (l:List AVal):List AVal:=(List.replicate n l).flatten
def Kx (P:Program) (u:Bool) (st:St) (t:TypeId) (len:Nat) (parts:List (Nat×AVal)):Option (AVal×St):=
 match P.underlying t with
 | some (.slice e)=>match P.info? e,z0d P e with
  | some i,some zero=>
   bif Nat.ble (len*i.size) 16777216&&Nat.beq zero.length i.size then
    match x4o (fun j=>some (j*i.size,i.size)) (rep len zero) parts with
    | some cells=>some (.sl st.next 0 len (bif u&&Nat.beq cells.length (len*i.size) then .un i.size else .ex len),y2u st cells e)
    | none=>none
   else none
  | _,_=>none
 | _=>none
def Um (P:Program) (st:St) (t:TypeId) (l c:AVal):Option (AVal×St):=
 match P.underlying t,l,c with
 | some (.slice e),.int _ l,.int _ c=>match P.info? e,z0d P e with
  | some i,some zero=>
   bif Nat.beq zero.length i.size&&(decide (0≤l)&&decide (l≤c)&&decide (c*i.bytes≤1099511627776)&&decide (c≤1099511627776)) then
    some (.sl st.next 0 l.toNat (.ex c.toNat),y2u st (rep c.toNat zero) e)
   else none
  | _,_=>none
 | _,_,_=>none
def Ky (P:Program) (cx:Ctx) (st:St) (t:TypeId) (l c:AVal):Option (AVal×St):=
 match P.underlying t,l,c with
 | some (.slice e),.int _ l,.int _ c=>match P.info? e,z0d P e with
  | some i,some zero=>
   bif Nat.beq zero.length i.size&&Nat.ble 1 i.size then
    (St.owe cx (match y2u st (Ym c.toNat fun _=>zero) e with
      | ⟨env,_,next,orc,ob⟩=>⟨env,Wv st.mem st.next (some ⟨Ym c.toNat fun _=>zero,e,some ⟨i.size,c.toNat,.flat fun _=>zero⟩⟩),next,orc,ob⟩)
     (decide (0≤l)&&decide (l≤c)&&decide (c*i.bytes≤1099511627776)&&decide (c≤1099511627776))).map (.sla st.next i.size 0 l.toNat (.un i.size), ·)
   else none
  | _,_=>none
 | _,_,_=>none
def Xu (m:Mem) (sz:Nat):AVal→Option (Nat×List AVal)
 | .nils =>some (0,[])
 | .sl b off len _=>match Yi m b with
  | some blk=>(cut blk.cells off (len*sz)).map (len, ·)
  | none=>none
 | _=>none
def room :Nat:=1099511627776
def Ut (m:Mem) (sz:Nat) (zero:List AVal) (ut:TypeDesc) (x:AVal):Option (Nat×List AVal):=
 match ut with
 | .int _=>match x with
  | .int _ n=>bif decide (0≤n) then some (n.toNat,rep n.toNat zero) else none
  | _=>none
 | _=>Xu m sz x
def z1c (P :Program) (floor:Nat) (st:St) (argTypes:List TypeId) (args:List AVal):Option (AVal×St):=
 match argTypes,args with
 | t :: u ::_,s::x::_=>match P.underlying t,P.underlying u with
  | some (.slice e),some ut=>match P.info? e,z0d P e with
   | some i,some zero=>match Ut st.mem i.size zero ut x with
    | some (n,new)=>
     bif Nat.beq zero.length i.size&&Nat.beq new.length (n*i.size)&&Nat.ble 1 i.size&&new.all y1g then
     match s with
     | .nils =>
      bif Nat.beq n 0 then some (.nils,st) else
      bif Nat.ble ((n+1)*(i.bytes+1)) room then
       some (.sl st.next 0 n (.un i.size),y2u st new e) else none
     | .sl b off len cap=>
      match Yi st.mem b with
      | some blk=>
       match cut blk.cells off (len*i.size) with
       | some old=>
        bif Nat.ble ((len+n+1)*(i.bytes+1)) room then
        match cap with
        | .ex c=>
         bif Nat.ble (len+n) c then
          bif Nat.ble floor b&&Nat.ble (off+(len+n)*i.size) blk.cells.length then
           some (.sl b off (len+n) cap,st.withMem (Wv st.mem b (some ⟨blk.cells.take (off+len*i.size)++new++blk.cells.drop (off+(len+n)*i.size),blk.ty,none⟩)))
          else none
         else some (.sl st.next 0 (len+n) (.un i.size),y2u st (old++new) e)
        | .un z=>
         bif Nat.beq z i.size&&Nat.ble floor b then
          bif Nat.ble (off+(len+n)*i.size) blk.cells.length then
           some (.sl b off (len+n) cap,st.withMem (Wv st.mem b (some ⟨blk.cells.take (off+len*i.size)++new++blk.cells.drop (off+(len+n)*i.size),blk.ty,none⟩)))
          else bif Nat.beq (off+len*i.size) blk.cells.length then
           some (.sl st.next 0 (len+n) (.un i.size),y2u (st.withMem (Wv st.mem b none)) (old++new) e)
          else none
         else none
        else none
       | none=>none
      | none=>none
     | _=>none
     else none
    | none=>none
   | _,_=>none
  | _,_=>none
 | _,_=>none
def Zo (get:Nat→List AVal) (off len sz:Nat) (new:List AVal):Nat→List AVal:=fun k=>bif Nat.ble len k then (new.drop ((k - len)*sz)).take sz else get (off+k)
def z3w (P:Program) (cx:Ctx) (st:St) (argTypes:List TypeId) (args:List AVal):Option (AVal×St):=
 match argTypes,args with
 | t :: u ::_,.sla b sz off len (.un z)::x::_=>match P.underlying t,P.underlying u with
  | some (.slice e),some ut=>match ut with
   | .int _=>none
   | _ => match P.info? e with
    | some i=>match Xu st.mem i.size x,z0d P e,Yi st.mem b with
     | some (n,new),some zero,some blk=>match blk.arr with
      | some A=>
       bif Nat.beq zero.length i.size&&Nat.beq new.length (n*i.size)&&Nat.ble 1 i.size&&new.all y1g&&Nat.beq sz i.size&&Nat.beq z sz&&Nat.ble cx.floor b&&Nat.ble 1 n then
        (St.owe cx (match y2u (st.withMem (Wv st.mem b none)) (Ym (len+n) (Zo A.get off len sz new)) e with
          | ⟨env,_,next,orc,ob⟩=>⟨env,Wv (Wv st.mem b none) st.next (some ⟨Ym (len+n) (Zo A.get off len sz new),e,some ⟨sz,len+n,Zo A.get off len sz new⟩⟩),next,orc,ob⟩)
         (Nat.beq A.sz sz&&(decide (off+len=A.n)&&decide ((len+n+1)*(i.bytes+1)≤room)))).map (.sla st.next sz 0 (len+n) (.un sz), ·)
       else none
      | none=>none
     | _,_,_=>none
    | none=>none
  | _,_=>none
 | _,_=>none
def capOk (sz len:Nat):v2c→Bool
 | .un z=>Nat.beq z sz
 | .ex c=>Nat.ble c len
def z5q (m:Mem) (sz:Nat):AVal→Option (Option Nat×Nat×(Nat→List AVal)×Bool)
 | .nils =>some (none,0,fun _=>[],true)
 | .sl b off len cap=>match Yi m b with
  | some blk=>match cut blk.cells off (len*sz) with
   | some old=>bif capOk sz len cap&&Nat.ble off blk.cells.length then some (some b,len,fun k=>(old.drop (k*sz)).take sz,true) else none
   | none=>none
  | none=>none
 | .sla b z off len cap=>match Yi m b with
  | some blk=>match blk.arr with
   | some A=>bif capOk sz len cap then some (some b,len,fun k=>A.get (off+k),Nat.beq z sz&&(Nat.beq A.sz sz&&decide (off+len≤A.n))) else none
   | none=>none
  | none=>none
 | _=>none
def x2g (m:Mem) (sz:Nat) (zero:List AVal) (ut:TypeDesc):AVal→Option (Nat×(Nat→List AVal)×Bool)
 | .int _ n=>match ut with
  | .int _=>some (n.toNat,fun _=>zero,decide (0≤n))
  | _=>none
 | .dat n g=>match ut with
  | .int _=>none
  | _=>some (n,g,pd (∀i,i<n→(g i).length =sz∧(g i).all y1g=true))
 | .nils =>match ut with
  | .int _=>none
  | _=>some (0,fun _=>[],true)
 | .sla b z off len _=>match ut with
  | .int _=>none
  | _=>match Yi m b with
   | some ⟨_,_,some A⟩=>some (len,fun k=>A.get (off+k),Nat.beq z sz&&(Nat.beq A.sz sz&&(decide (off+len≤A.n)&&pd (∀i,i<len→(A.get (off+i)).length =sz∧(A.get (off+i)).all y1g=true))))
   | _=>none
 | _=>none
def unN :AVal→AVal
 | .nnl n g=>.dat n g
 | v=>v
def Qz (get:Nat→List AVal) (len:Nat) (g:Nat→List AVal):Nat→List AVal:=fun k=>bif Nat.ble len k then g (k - len) else get k
def v7q (floor:Nat):Option Nat→Bool
 | some b=>Nat.ble floor b
 | none=>true
def w1y (m:Mem):Option Nat→Mem
 | some b=>Wv m b none
 | none=>m
def z0o (P:Program) (cx:Ctx) (st:St) (argTypes:List TypeId) (args:List AVal):Option (AVal×St):=
 match argTypes,args with
 | t :: u::_,s::x::_=>match P.underlying t,P.underlying u with
  | some (.slice e),some ut=>match P.info? e,z0d P e with
   | some i,some zero=>match z5q st.mem i.size s,x2g st.mem i.size zero ut (unN x) with
    | some (b,len,get,o1),some (n,g,o2)=>
     bif Nat.beq zero.length i.size&&zero.all y1g&&Nat.ble 1 i.size&&v7q cx.floor b then
      (St.owe cx (match y2u (st.withMem (w1y st.mem b)) (Ym (len+n) (Qz get len g)) e with
        | ⟨env,_,next,orc,ob⟩=>⟨env,Wv (w1y st.mem b) st.next (some ⟨Ym (len+n) (Qz get len g),e,some ⟨i.size,len+n,Qz get len g⟩⟩),next,orc,ob⟩)
       (o1&&(o2&&decide ((len+n+1)*(i.bytes+1)≤room)))).map (.sla st.next i.size 0 (len+n) (.un i.size), ·)
     else none
    | _,_=>none
   | _,_=>none
  | _,_=>none
 | _,_=>none
def isDat :AVal→Bool
 | .dat _ _=>true
 | .nnl _ _=>true
 | .sla _ _ _ _ _=>true
 | _=>false
def j6r :AVal→AVal→Bool
 | .sla _ _ _ _ _,.nils =>true
 | _,_=>false
def manyOk (P:Program) (cx:Ctx) (argTypes:List TypeId) (args:List AVal):Bool:=
 match argTypes,args with
 | _::u::_,s::x::_=>isDat x||(j6r s x||cx.sym&&(match P.underlying u with
  | some (.int _)=>true
  | _=>false))
 | _,_=>false
def z1y (P:Program) (cx:Ctx) (st:St) (argTypes:List TypeId) (args:List AVal):Option (AVal×St):=
 bif manyOk P cx argTypes args then z0o P cx st argTypes args else
 match args with
 | .sla b sz off len cap::r=>z3w P cx st argTypes (.sla b sz off len cap::r)
 | args=>z1c P cx.floor st argTypes args
def w4g (P:Program) (floor:Nat) (st:St) (argTypes:List TypeId) (args:List AVal):Option (AVal×St):=
 match argTypes,args with
 | t :: _,d::x::_=>match P.underlying t with
  | some (.slice e)=>match P.info? e with
   | some i=>match Xu st.mem i.size x with
    | some (m,src)=>
     bif Nat.beq src.length (m*i.size)&&src.all y1g then
     match d with
     | .nils =>some (.int .i64 0,st)
     | .dat n _=>bif Nat.beq n 0 then some (.int .i64 0,st) else none
     | .sl b off len _=>
      let n:=Nat.min m len
      match Yi st.mem b with
      | some blk=>
       bif Nat.ble floor b&&Nat.ble (off+n*i.size) blk.cells.length then
        some (.int .i64 n,st.withMem (Wv st.mem b (some ⟨blk.cells.take off++src.take (n*i.size)++blk.cells.drop (off+n*i.size),blk.ty,none⟩)))
       else none
      | none=>none
     | _=>none
     else none
    | none=>none
   | none=>none
  | _=>none
 | _,_=>none
def w3j (m:Mem) (sz:Nat):AVal→Option (Nat×(Nat→List AVal)×Bool)
 | .nils =>some (0,fun _=>[],true)
 | .dat n g=>some (n,g,pd (∀i,i<n→(g i).length =sz∧(g i).all y1g=true))
 | .sla b z off len _=>match Yi m b with
  | some blk=>match blk.arr with
   | some A=>some (len,fun k=>A.get (off+k),Nat.beq z sz&&(Nat.beq A.sz sz&&(decide (off+len≤A.n)&&pd (∀i,i<len→(A.get (off+i)).length =sz∧(A.get (off+i)).all y1g=true))))
   | none=>none
  | none=>none
 | .slv b z off len=>match Yi m b with
  | some blk=>match blk.arr with
   | some A=>some (len,fun k=>A.get (off+k),Nat.beq z sz&&(Nat.beq A.sz sz&&(decide (off+len≤A.n)&&pd (∀i,i<len→(A.get (off+i)).length =sz∧(A.get (off+i)).all y1g=true))))
   | none=>none
  | none=>none
 | _=>none
def Uj (get:Nat→List AVal) (off n:Nat) (g:Nat→List AVal):Nat→List AVal:=fun k=>bif Nat.ble off k&&Nat.ble (k+1) (off+n) then g (k - off) else get k
def y2x (P:Program) (cx:Ctx) (st:St) (argTypes:List TypeId) (b sz off len:Nat) (x:AVal):Option (AVal×St):=
 match argTypes with
 | t ::_=>match P.underlying t with
  | some (.slice e)=>match P.info? e,Yi st.mem b with
   | some i,some blk=>match blk.arr,w3j st.mem i.size x with
    | some A,some (m,g,o)=>
     bif Nat.ble cx.floor b&&Nat.ble 1 i.size then
      (St.owe cx (st.withMem (Wv st.mem b (some ⟨Ym A.n (Uj A.get off (Nat.min m len) g),blk.ty,some ⟨A.sz,A.n,Uj A.get off (Nat.min m len) g⟩⟩)))
       (Nat.beq sz i.size&&(Nat.beq A.sz sz&&(decide (off+len≤A.n)&&o)))).map (.int .i64 (Nat.min m len:Nat), ·)
     else none
    | _,_=>none
   | _,_=>none
  | _=>none
 | _=>none
def x1u (P:Program) (cx:Ctx) (st:St) (argTypes:List TypeId) (args:List AVal):Option (AVal×St):=
 match args with
 | .sla b sz off len _::x::_=>y2x P cx st argTypes b sz off len x
 | .slv b sz off len::x::_=>y2x P cx st argTypes b sz off len x
 | args=>w4g P cx.floor st argTypes args
def y8h (P:Program) (floor:Nat) (st:St) (argTypes:List TypeId) (args:List AVal):Option (AVal×St):=
 match argTypes,args with
 | t ::_,d::_=>match P.underlying t with
  | some (.slice e)=>match P.info? e,z0d P e with
   | some i,some zero=>match d with
    | .nils =>some (.tup [],st)
    | .sl b off len _=>
     bif Nat.beq len 0 then some (.tup [],st) else
     bif Nat.beq zero.length i.size&&zero.all y1g&&Nat.ble floor b then
     match Yi st.mem b with
     | some blk=>
      bif Nat.ble (off+len*i.size) blk.cells.length then
       some (.tup [],st.withMem (Wv st.mem b (some ⟨blk.cells.take off++rep len zero++blk.cells.drop (off+len*i.size),blk.ty,none⟩)))
      else none
     | none=>none
     else none
    | _=>none
   | _,_=>none
  | _=>none
 | _,_=>none
def z7p :List AVal→Nat→T AVal→T AVal
 | [],_,t=>t
 | a::r,i,t=>z7p r (i+1) (T.set .undef t i a)
def x4n (P:Program) (st:St):ResultVar→Option AVal
 | .tmp t=>some (st.tmp t)
 | .cell a t=>w4b P st.mem t (st.tmp a)
def Ja (P:Program) (st:St):List ResultVar→Option (List AVal)
 | []=>some []
 | r::l=>match x4n P st r,Ja P st l with
  | some v,some vs=>some (v::vs)
  | _,_=>none
def Ku :List AVal→AVal
 | [v]=>v
 | vs=>.tup vs
def pf :Nat→AVal→Bool
 | 0,_=>false
 | d+1,v=>match v with
  | .bool _ | .int _ _ | .str _ | .nilp | .nils | .nilf | .nili | .dat _ _ | .dptr _=>true
  | .agg cs | .tup cs=>cs.all (pf d)
  | .fn _ cs=>cs.isEmpty
  | _=>false
inductive Spec where
 | val (F:List AVal→Option (AVal×Bool))
 | eff (F:List AVal→Mem→Option (AVal×Nat×ABlk×Bool))
 | gro (ty:TypeId) (F:Nat→(Nat→List AVal)→List AVal→Option (Nat×(Nat→List AVal)×Bool))
abbrev Specs :=FuncId→Option Spec
abbrev Runner :=Ctx→List Item→St→Option St
def pl :AVal→Bool
 | .bool _ | .int _ _=>true
 | _=>false
def plR (sz n:Nat) (get:Nat→List AVal):Bool:=pd (∀i,i<n→(get i).length =sz∧(get i).all pl=true)
def grOf (S:Specs) (f:FuncId) (args:List AVal):Option Nat:=match S f with
 | some (.gro _ _)=>match args with
  | .sla b _ _ _ _::_=>some b
  | _=>none
 | _=>none
def scal :AVal→Bool
 | .bool _ | .int _ _ | .str _=>true
 | .tup vs=>vs.all fun v=>match v with
  | .bool _ | .int _ _ | .str _ | .undef =>true
  | _=>false
 | _=>false
def j2e (m:Mem):AVal→AVal×Bool
 | .sla b sz off len cap=>match Yi m b with
  | some blk=>match blk.arr with
   | some A=>(.dat len fun k=>A.get (off+k),Nat.beq A.sz sz&&(decide (off+len≤A.n)&&pd (∀i,(A.get i).all (pf 6)=true)))
   | none=>(.undef,true)
  | none=>(.undef,true)
 | v=>(v,true)
def v2m (m:Mem):List AVal→List AVal×Bool
 | []=>([],true)
 | v::l=>match j2e m v,v2m m l with
  | (a,o),(az,q)=>(a::az,o&&q)
def v1y (P:Program) (S:Specs) (R:Runner) (lift:Bool) (f:FuncId) (args:List AVal) (cx:Ctx) (st:St):Option (AVal×St):=
 match S f with
 | some (.val F)=>bif args.all (pf 3) then (match F args with
   | some (v,b)=>bif pf 3 v||scal v then (st.owe cx b).map (v, ·) else none
   | none=>none) else
  match v2m st.mem args with
  | (args',o)=>match F args' with
   | some (v,b)=>bif args'.all (pf 3)&&scal v then (st.owe cx (o&&b)).map (v, ·) else none
   | none=>none
 | some (.eff F)=>match F args st.mem with
  | some (v,b,blk,o)=>match Yi st.mem b with
   | some _=>bif !lift&&Nat.ble cx.floor b then ((st.withMem (Wv st.mem b (some blk))).owe cx o).map (v, ·) else none
   | none=>none
  | none=>none
 | some (.gro ty0 F)=>match args with
  | .sla b sz 0 n (.un sz')::r=>match Yi st.mem b with
   | some ⟨_,ty,some A⟩=>bif (Nat.beq ty ty0&&(Nat.beq sz sz'&&Nat.beq A.sz sz))&&(r.all (pf 3)&&(Nat.ble cx.floor b&&Nat.ble 1 sz)) then
     (match F n A.get r with
     | some (n',g,o)=>(St.owe cx (match st with
      | ⟨env,mem,next,orc,ob⟩=>⟨env,Wv (Wv mem b none) next (some ⟨Ym n' g,ty,some ⟨sz,n',.flat g⟩⟩),next+1,orc,ob⟩) (o&&(Nat.beq A.n n&&(plR sz n A.get&&plR sz n' g)))).map (.sla st.next sz 0 n' (.un sz), ·)
     | none=>none) else none
   | _=>none
  | _=>none
 | none=>match P.funcs[f]? with
  | some fn=>match fn.body with
   | some body=>
    match R ⟨Nat.max fn.ntmps args.length,bif lift then st.next else cx.floor,cx.sym⟩ [.code body] (st.withEnv (z7p args 0 .leaf)) with
    | some st2=>match Ja P st2 fn.results.toList with
     | some vs=>some (Ku vs,st2.withEnv st.env)
     | none=>none
    | none=>none
   | none=>none
  | none=>none
def Wi (P:Program) (S:Specs) (R:Runner) (lift:Bool) (op:Op) (cx:Ctx) (st:St):Option (AVal×St):=
 match op with
 | .load t x=>match v9p P st t (st.eval x) with
  | some (v,b,st1)=>(st1.owe cx b).map (v, ·)
  | none=>none
 | .alloc t=>(z0d P t).map fun z=>(.ptr st.next 0,y2u st z t)
 | .box t x=>bif z3t (st.eval x) then some (.ptr st.next 0,y2u st (st.eval x).cells t) else none
 | .buildSlice t len parts=>Kx P cx.sym st t len (parts.toList.map fun p=>(p.1,st.eval p.2))
 | .store t a x=>match st.eval a with
  | .epa b sz r fo=>(z7v P cx st t (.epa b sz r fo) (st.eval x)).map (.tup [], ·)
  | y=>(y8b P cx.floor st t y (st.eval x)).map (.tup [], ·)
 | .makeSlice t l c=>bif cx.sym then (bif st.nextO then Um P st.dropO t (st.eval l) (st.eval c) else Ky P cx st.dropO t (st.eval l) (st.eval c)) else Um P st t (st.eval l) (st.eval c)
 | .call {callee:=.builtin .append,args,argTypes}=>z1y P cx st argTypes.toList (args.toList.map st.eval)
 | .call {callee:=.builtin .copy,args,argTypes}=>x1u P cx st argTypes.toList (args.toList.map st.eval)
 | .call {callee:=.builtin .clear,args,argTypes}=>y8h P cx.floor st argTypes.toList (args.toList.map st.eval)
 | .call {callee:=.value f,args,argTypes:=_}=>match st.eval f with
  | .fn g caps=>v1y P S R lift g (args.toList.map st.eval++caps) cx st
  | .fnb g first=>v1y P S R lift g (first++args.toList.map st.eval) cx st
  | _=>none
 | _=>none
def y6p (P:Program) (S:Specs) (R:Runner) (lift:Bool) (o:Oper) (cx:Ctx) (st:St):Option St:=
 match Qq P o.op st.eval with
 | some (v,b)=>match st.owe cx b with
  | some st=>st.put cx o.dst v
  | none=>none
 | none=>match Wi P S R lift o.op cx st with
  | some (v,st)=>st.put cx o.dst v
  | none=>none
def z9y (ops:Array Oper) (o:Oper) (cx:Ctx) (st:St):Option (Bool×St):=
 match o.guard with
 | none=>some (true,st)
 | some (j,want)=>match (ops[j]?).bind (·.dst) with
  | none=>none
  | some d=>match st.tmp d with
   | .bool b=>match st.test b with
    | (e,st1)=>match st1.put cx (some d) (.bool e) with
     | some st2=>some (e == want,st2)
     | none=>none
   | .tup []=>some (false,st)
   | _=>none
def v5u :List Bool→Nat×List Bool
 | []=>(0,[])
 | false::r=>(0,r)
 | true::r=>((v5u r).1+1,(v5u r).2)
def St.conc (cx:Ctx) (t:Nat) (kd:IntKind) (n:Int):St→Option St
 | ⟨env,mem,next,[],ob⟩=>some ⟨env,mem,next,[],ob⟩
 | ⟨env,mem,next,o::r,ob⟩=>bif Nat.ble (t+1) cx.n then some ⟨T.set .undef env t (.int kd (Int.ofNat (v5u (o::r)).1)),mem,next,(v5u (o::r)).2,decide (n=Int.ofNat (v5u (o::r)).1)&&ob⟩ else none
def u6g (o:Oper) (cx:Ctx) (st:St):Option St:=
 match o.op with
 | .indexAddr _ x (.tmp t)=>match st.eval x with
  | .ptr _ _ | .epa _ _ _ _ | .dptr _=>match st.tmp t with
   | .int kd n=>st.conc cx t kd n
   | _=>some st
  | _=>some st
 | .index _ x (.tmp t)=>match st.eval x with
  | .agg _=>match st.tmp t with
   | .int kd n=>st.conc cx t kd n
   | _=>some st
  | _=>some st
 | _=>some st
def z2f (ops:Array Oper) (o:Oper) (cx:Ctx) (st:St):Option (Bool×St):=
 match z9y ops o cx st with
 | some (true,st1)=>match u6g o cx st1 with
  | some st2=>some (true,st2)
  | none=>none
 | x=>x
def x6b (P:Program) (S:Specs) (R:Runner) (ops:Array Oper) (cx:Ctx) (l:List (Bool×Oper)):St→Option St:=
 List.rec (motive:=fun _=>St→Option St) (fun st=>some st)
  (fun x _ rec st=>match z2f ops x.2 cx st with
   | none=>none
   | some (true,st)=>match y6p P S R x.1 x.2 cx st with
    | some st=>rec st
    | none=>none
   | some (false,st)=>match st.put cx x.2.dst (.tup []) with
    | some st=>rec st
    | none=>none) l
inductive Kind where
 | pure | read | alloc | call | chain | lit | birth
 deriving DecidableEq
def Xk :Op→Kind
 | .load .. =>.read
 | .alloc _=>.alloc
 | .box .. | .buildSlice .. | .store .. | .makeSlice .. =>.chain
 | .call {callee:=.builtin .append,.. } | .call {callee:=.builtin .copy,.. } | .call {callee:=.builtin .clear,.. }=>.chain
 | .call {callee:=.value _,.. }=>.call
 | _=>.pure
def w2e (z:Nat):Op→Bool
 | .buildSlice _ n _=>Nat.beq z 1||(Nat.beq z 3&&Nat.ble 1 n)
 | _=>false
def isBirth (z:Nat):Op→Bool
 | .buildSlice .. =>Nat.beq z 2
 | _=>false
def Xm (z:Nat) (op:Op):Kind:=bif w2e z op then .lit else bif isBirth z op then .birth else Xk op
def v1m :List Oper→List Nat→List Nat
 | [],acc=>acc
 | o::r,acc=>v1m r (acc++[o.after.toList.foldl (fun s e=>bif Region.binds .any e then s||| (2 ^ e.on)||| acc.getD e.on 0 else s) 0])
def isAlloc (ops:Array Oper) (i:Nat):Bool:=(ops[i]?).any fun o=>Xk o.op == .alloc
def Ya (ops:Array Oper):List Nat:=
 (List.range ops.size).filter (isAlloc ops)++(List.range ops.size).filter (fun i=> !isAlloc ops i)
def z5e (ops:Array Oper) (i:Nat):Bool:=
 (List.range ops.size).any fun j=>(ops[j]?).any (fun o=>Xk o.op == .read)&&
  ((Nat.ble (i+1) j&& !((v1m ops.toList []).getD j 0).testBit i)||(Nat.ble (j+1) i&& !((v1m ops.toList []).getD i 0).testBit j))
def z1v (ops:Array Oper):List (Nat×Bool×Oper):=(Ya ops).map fun i=>(i,z5e ops i,ops.getD i default)
def w1w :Kind→Kind→Bool
 | .pure,_=>true
 | _,.pure =>true
 | .lit,_=>true
 | _,.lit =>true
 | .birth,_=>true
 | _,.birth =>true
 | .alloc,_=>true
 | _,.alloc =>true
 | .read,.read =>true
 | .read,.call =>true
 | .call,.read =>true
 | .read,.chain =>true
 | .chain,.read =>true
 | _,_=>false
def w5n (z:Nat) (ops:Array Oper) (i j:Nat) (p o:Oper):Bool:=
 (((v1m ops.toList []).getD j 0).testBit i||(p.apart ops o&&w1w (Xm z p.op) (Xm z o.op)))&&
 (match p.dst with | some d=> !(o.dst == some d) | none=>true)&&
 (!(Xk o.op == .alloc)||p.apart ops o)&&
 (!isBirth z o.op||(match Xm z p.op with
  | .chain | .call =>false
  | _=>true))
def y7r (z:Nat) (ops:Array Oper):Bool:=
 (List.range ops.size).all fun j=>match ops[j]? with
  | none=>false
  | some o=>o.after.toList.all (fun e=> !Region.binds .any e||Nat.ble (e.on+1) j)&&(!(Xk o.op == .alloc ||isBirth z o.op)||o.guard.isNone)&&
   (List.range j).all fun i=>match ops[i]? with
    | none=>false
    | some p=>w5n z ops i j p o
def w0o (op:Op) (ev:Operand→AVal):Option Nat:=
 match op with
 | .load _ x=>match ev x with
  | .ptr b _=>some b
  | .epa b _ _ _=>some b
  | _=>none
 | _=>none
def x4v (op:Op) (ev:Operand→AVal):Option Nat:=
 match op with
 | .store _ a _=>match ev a with
  | .ptr b _=>some b
  | .epa b _ _ _=>some b
  | _=>none
 | .call {callee:=.builtin .append,args,argTypes:=_}=>match args.toList.map ev with
  | .sl b _ _ _::_=>some b
  | .sla b _ _ _ _::_=>some b
  | _=>none
 | .call {callee:=.builtin .copy,args,argTypes:=_}=>match args.toList.map ev with
  | .sl b _ _ _::_=>some b
  | .sla b _ _ _ _::_=>some b
  | .slv b _ _ _::_=>some b
  | _=>none
 | .call {callee:=.builtin .clear,args,argTypes:=_}=>match args.toList.map ev with
  | .sl b _ _ _::_=>some b
  | _=>none
 | _=>none
def clash :Option Nat→Option Nat→Bool
 | some a,some b=>Nat.beq a b
 | _,_=>false
def ordered (ops:Array Oper) (i j:Nat):Bool:=((v1m ops.toList []).getD j 0).testBit i||((v1m ops.toList []).getD i 0).testBit j
abbrev Foot :=Nat×Option Nat×Option Nat
def w6p (ops:Array Oper) (x y:Foot):Bool:= !(clash x.2.1 y.2.2||clash x.2.2 y.2.1)||ordered ops x.1 y.1
def y8r (P:Program) (S:Specs) (R:Runner) (ops:Array Oper) (cx:Ctx) (x:Bool×Oper) (st:St):Option St:=
 match z2f ops x.2 cx st with
 | none=>none
 | some (true,st)=>y6p P S R x.1 x.2 cx st
 | some (false,st)=>st.put cx x.2.dst (.tup [])
def j9z (P:Program) (t:TypeId) (len:Nat) (parts:List (Nat×AVal)):Option AVal:=
 match P.underlying t with
 | some (.slice e)=>match P.info? e,z0d P e with
  | some i,some zero=>
   bif (Nat.ble 1 len&&Nat.ble 1 i.size)&&(Nat.ble (len*i.size) 16777216&&Nat.beq zero.length i.size) then
    match x4o (fun j=>some (j*i.size,i.size)) (rep len zero) parts with
    | some cells=>bif Nat.beq cells.length (len*i.size)&&cells.all (pf 6) then some (.dat len fun k=>(cells.drop (k*i.size)).take i.size) else none
    | none=>none
   else none
  | _,_=>none
 | _=>none
def w1q (P:Program) (o:Oper) (cx:Ctx) (st:St):Option St:=
 match o.op with
 | .buildSlice t len parts=>match j9z P t len (parts.toList.map fun p=>(p.1,st.eval p.2)) with
  | some v=>st.put cx o.dst v
  | none=>none
 | _=>none
def w4i (P:Program) (t:TypeId) (len:Nat) (parts:List (Nat×AVal)):Option (List AVal×TypeId×Nat):=
 match P.underlying t with
 | some (.slice e)=>match P.info? e,z0d P e with
  | some i,some zero=>
   bif (Nat.ble 1 len&&Nat.ble 1 i.size)&&(Nat.ble (len*i.size) 16777216&&Nat.beq zero.length i.size) then
    match x4o (fun j=>some (j*i.size,i.size)) (rep len zero) parts with
    | some cells=>bif Nat.beq cells.length (len*i.size) then some (cells,e,i.size) else none
    | none=>none
   else none
  | _,_=>none
 | _=>none
def y7x (P:Program) (o:Oper) (cx:Ctx) (st:St):Option St:=
 match o.op with
 | .buildSlice t len parts=>match w4i P t len (parts.toList.map fun p=>(p.1,st.eval p.2)) with
  | some (cells,e,sz)=>(y2u st cells e).put cx o.dst (.sl st.next 0 len (bif cx.sym then .un sz else .ex len))
  | none=>none
 | _=>none
def x8v (z:Nat) (P:Program) (S:Specs) (R:Runner) (ops:Array Oper) (cx:Ctx) (x:Bool×Oper) (st:St):Option St:=
 bif w2e z x.2.op then (match z2f ops x.2 cx st with
  | none=>none
  | some (true,st)=>w1q P x.2 cx st
  | some (false,st)=>st.put cx x.2.dst (.tup [])) else bif isBirth z x.2.op then (match z2f ops x.2 cx st with
  | none=>none
  | some (true,st)=>y7x P x.2 cx st
  | some (false,st)=>st.put cx x.2.dst (.tup [])) else y8r P S R ops cx x st
def wrC (S:Specs) (op:Op) (ev:Operand→AVal):Option Nat:=match op with
 | .call {callee:=.value f,args,argTypes:=_}=>match ev f with
  | .fn g caps=>grOf S g (args.toList.map ev++caps)
  | .fnb g first=>grOf S g (first++args.toList.map ev)
  | _=>none
 | op=>x4v op ev
def z5j (S:Specs) (x:Nat×Bool×Oper) (ev:Operand→AVal):Foot:=(x.1,w0o x.2.2.op ev,wrC S x.2.2.op ev)
def w3s (op:Op) (ev:Operand→AVal) (mem:Mem):Option Nat:=match op with
 | .call {callee:=.builtin .append,args,argTypes:=_}=>match args.toList.map ev with
  | .sla b _ _ _ (.un _)::.sl _ _ _ _::_=>some b
  | .sl b off len (.un z)::.sl _ _ n _::_=>match Yi mem b with
   | some blk=>bif Nat.beq (off+len*z) blk.cells.length&&Nat.ble 1 n then some b else none
   | none=>none
  | _=>none
 | _=>none
def u5w (z:Nat) (op:Op):Bool:=match Xm z op with
 | .pure | .read =>true
 | _=>false
def z2d (z:Nat) (ops:Array Oper) (i q:Nat):Bool:=(List.range ops.size).all fun j=>match ops[j]? with
 | some o=>u5w z o.op||(Nat.beq j q||(((v1m ops.toList []).getD q 0).testBit j||((v1m ops.toList []).getD j 0).testBit i))
 | none=>true
def lateF (z:Nat) (ops:Array Oper) (x:Nat×Bool×Oper) (ev:Operand→AVal) (mem:Mem):Foot→Bool
 | (i,some b',none)=>match w3s x.2.2.op ev mem with
  | some b=>Nat.beq b b'&&z2d z ops i x.1
  | none=>false
 | _=>false
def y0y (z:Nat) (P:Program) (S:Specs) (R:Runner) (ops:Array Oper) (cx:Ctx) (l:List (Nat×Bool×Oper)):List Foot→St→Option St:=
 List.rec (motive:=fun _=>List Foot→St→Option St) (fun _ st=>some st)
  (fun x _ rec acc st=>bif acc.all (fun y=>w6p ops (z5j S x st.eval) y||lateF z ops x st.eval st.mem y) then
    match x8v z P S R ops cx x.2 st with
    | some st'=>rec (z5j S x st.eval::acc) st'
    | none=>none
   else none) l
def Yg :List (Nat×AVal)→T AVal
 | []=>.leaf
 | (t,v)::l=>T.set .undef (Yg l) t v
def j1v (P:Program) (f:FuncId):Code:=match P.funcs[f]? with
 | some fn=>fn.body.getD .ret
 | none=>.ret
def Zy (P:Program) (f:FuncId):List ResultVar:=match P.funcs[f]? with
 | some fn=>fn.results.toList
 | none=>[]
theorem y5h (m:Nat):Nat.beq (m %2) 0=true↔m %2=0:=by simp_all
@[simp] theorem T.get_leaf {α:Type} (d:α) (n:Nat):T.get d .leaf n=d:=rfl
@[simp] theorem T.get_zero {α:Type} (d v:α) (l r:T α):T.get d (.node v l r) 0=v:=rfl
theorem T.get_succ {α:Type} (d v:α) (l r:T α) (m:Nat):T.get d (.node v l r) (m+1)=if m %2=0 then T.get d l (m / 2) else T.get d r (m / 2):=by simp_all [T.get]
theorem T.setF_leaf_zero {α:Type} (d v:α) (f:Nat):T.setF d v (f+1) .leaf 0=.node v .leaf .leaf :=rfl
theorem T.setF_node_zero {α:Type} (d v u:α) (l r:T α) (f:Nat):T.setF d v (f+1) (.node u l r) 0=.node v l r:=rfl
theorem T.setF_leaf_succ {α:Type} (d v:α) (f m:Nat):T.setF d v (f+1) .leaf (m+1)=
  if m %2=0 then .node d (T.setF d v f .leaf (m / 2)) .leaf else .node d .leaf (T.setF d v f .leaf (m / 2)):=by
 show (bif Nat.beq (m %2) 0 then (_:T α) else _)=_;by_cases h:m %2=0
 ·rw [AL h,(y5h m).2 h];rfl
 ·rw [AF h,show Nat.beq (m %2) 0=false from A2.2 (fun e=>h ((y5h m).1 e))];rfl
theorem T.setF_node_succ {α:Type} (d v u:α) (l r:T α) (f m:Nat):T.setF d v (f+1) (.node u l r) (m+1)=
  if m %2=0 then .node u (T.setF d v f l (m / 2)) r else .node u l (T.setF d v f r (m / 2)):=by
 show (bif Nat.beq (m %2) 0 then (_:T α) else _)=_;by_cases h:m %2=0
 ·rw [AL h,(y5h m).2 h];rfl
 ·rw [AF h,show Nat.beq (m %2) 0=false from A2.2 (fun e=>h ((y5h m).1 e))];rfl
theorem T.get_setF {α:Type} (d v:α): ∀(f:Nat) (t:T α) (n k:Nat),n<f→T.get d (T.setF d v f t n) k=if k=n then v else T.get d t k
 | 0,_,_,_,h=>absurd h (AG _)
 | f+1,.leaf,0,k,_=>by
  rw [T.setF_leaf_zero];cases k with
  | zero=>simp
  | succ k=>rw [T.get_succ];simp
 | f+1,.node u l r,0,k,_=>by
  rw [T.setF_node_zero];cases k with
  | zero=>simp
  | succ k=>rw [T.get_succ,T.get_succ];simp
 | f +1,.leaf,m+1,k,h=>by
  rw [T.setF_leaf_succ];have hm:m / 2<f:=by omega
  cases k with
  | zero=>split <;> simp
  | succ k=>
   have ih:=T.get_setF d v f .leaf (m / 2) (k / 2) hm;by_cases hp:m %2=0
   ·rw [AL hp,T.get_succ];by_cases hk:k %2=0
    ·rw [AL hk,ih];by_cases e:k / 2=m / 2
     ·rw [AL e,AL (by omega)]
     ·rw [AF e,AF (by omega)];simp
    ·rw [AF hk,AF (by omega)];simp
   ·rw [AF hp,T.get_succ];by_cases hk:k %2=0
    ·rw [AL hk,AF (by omega)];simp
    ·rw [AF hk,ih];by_cases e:k / 2=m / 2
     ·rw [AL e,AL (by omega)]
     ·rw [AF e,AF (by omega)];simp
 | f +1,.node u l r,m+1,k,h=>by
  rw [T.setF_node_succ];have hm:m / 2<f:=by omega
  cases k with
  | zero=>split <;> simp
  | succ k=>
   by_cases hp:m %2=0
   ·rw [AL hp,T.get_succ,T.get_succ];by_cases hk:k %2=0
    ·rw [AL hk,AL hk,T.get_setF d v f l (m / 2) (k / 2) hm];by_cases e:k / 2=m / 2
     ·rw [AL e,AL (by omega)]
     ·rw [AF e,AF (by omega)]
    ·rw [AF hk,AF hk,AF (by omega)]
   ·rw [AF hp,T.get_succ,T.get_succ];by_cases hk:k %2=0
    ·rw [AL hk,AL hk,AF (by omega)]
    ·rw [AF hk,AF hk,T.get_setF d v f r (m / 2) (k / 2) hm];by_cases e:k / 2=m / 2
     ·rw [AL e,AL (by omega)]
     ·rw [AF e,AF (by omega)]
theorem T.get_set {α:Type} (d:α) (t:T α) (n:Nat) (v:α) (k:Nat):T.get d (T.set d t n v) k=if k=n then v else T.get d t k:=
 T.get_setF d v (n+1) t n k (BQ n)
theorem Vn (m:Mem) (b:Nat) (o:Option ABlk) (k:Nat):Yi (Wv m b o) k=if k=b then o else Yi m k:=T.get_set none m b o k
theorem Yk (m:Mem) (b:Nat) (o:Option ABlk):Yi (Wv m b o) b=o:=by rw [Vn,AL rfl]
theorem Zv (m:Mem) {b k:Nat} (o:Option ABlk) (h:k≠b):Yi (Wv m b o) k=Yi m k:=by rw [Vn,AF h]
inductive Vk {α β:Type} (R:α→β→Prop):List α→List β→Prop
 | nil:Vk R [] []
 | cons {a:α} {b:β} {l:List α} {m:List β} (h:R a b) (t:Vk R l m):Vk R (a::l) (b::m)
theorem Vk.length {α β:Type} {R:α→β→Prop} {l:List α} {m:List β} (h:Vk R l m):l.length=m.length:=by
 induction h with
 | nil=>rfl
 | cons _ _ ih=>simp [ih]
theorem Vk.get {α β:Type} {R:α→β→Prop} {l:List α} {m:List β} (h:Vk R l m): ∀(i:Nat) (h1:i<l.length) (h2:i<m.length),R l[i] m[i]:=by
 induction h with
 | nil=>grind
 | cons h _ ih=>
  grind
theorem Vk.append {α β:Type} {R:α→β→Prop} {l l':List α} {m m':List β} (h:Vk R l m) (k:Vk R l' m'):Vk R (l++l') (m++m'):=by
 induction h with
 | nil=>exact k
 | cons h _ ih=>exact .cons h ih
theorem Vk.of {α β:Type} {R:α→β→Prop}: ∀{l:List α} {m:List β},l.length=m.length→(∀(i:Nat) (h1:i<l.length) (h2:i<m.length),R l[i] m[i])→Vk R l m
 | [],[],_,_=>.nil
 | [],_::_,h,_=>by simp at h
 | _::_,[],h,_=>by simp at h
 | a::l,b::m,h,hr=>.cons (hr 0 (by simp) (by simp)) (Vk.of (by simpa using h) fun i h1 h2=>hr (i+1) (by grind) (by grind))
theorem Vk.maps {α γ δ:Type} {R:γ→δ→Prop} (f:α→γ) (g:α→δ): ∀(l:List α),(∀a,a∈l→R (f a) (g a))→Vk R (l.map f) (l.map g)
 | [],_=>.nil
 | a::l,h=>.cons (h a (by simp)) (Vk.maps f g l fun b hb=>h b (by simp [hb]))
structure Loc where
 blk:Nat
 base:Nat
 n:Nat
 tot:Nat
abbrev Old :=Nat→Option Obj
structure Rho where
 f:Nat→Option Loc
 fz:Old
 lp:Nat→Option Nat
instance : CoeFun Rho (fun _=>Nat→Option Loc):=⟨Rho.f⟩
def Rho.bare (ρ:Rho):Rho:=⟨fun _=>none,ρ.fz,fun _=>none⟩
def z2c (H:Old):Rho:=⟨fun _=>none,H,fun _=>none⟩
def z1j (l:Loc) (off:Nat):v2c→Nat→Prop
 | .ex k,c=>c=k
 | .un sz,c=>l.n≤off+c*sz∧off+c*sz≤l.tot
def x7w (H:Old) (blk o:Nat) (v:Value):Prop:= ∃cs el fz,H blk=some (.cells cs el fz)∧cs[o]? =some v
inductive Yx :Rho→AVal→Value→Prop
 | undef {ρ:Rho} (v:Value):Yx ρ .undef v
 | bool {ρ:Rho} (b:Bool):Yx ρ (.bool b) (.bool b)
 | int {ρ:Rho} (k:IntKind) (n:Int):Yx ρ (.int k n) (.int k n)
 | str {ρ:Rho} (s:List UInt8):Yx ρ (.str s) (.string ⟨s.toArray⟩)
 | agg {ρ:Rho} (cs:List AVal) (vs:Array Value) (hl:cs.length=vs.size) (h: ∀(i:Nat) (h1:i<cs.length) (h2:i<vs.size),Yx ρ cs[i] vs[i]):Yx ρ (.agg cs) (.agg vs)
 | tup {ρ:Rho} (cs:List AVal) (vs:Array Value) (hl:cs.length=vs.size) (h: ∀(i:Nat) (h1:i<cs.length) (h2:i<vs.size),Yx ρ cs[i] vs[i]):Yx ρ (.tup cs) (.tuple vs)
 | ptr {ρ:Rho} (b off:Nat) (l:Loc) (h:ρ b=some l):Yx ρ (.ptr b off) (.pointer (some ⟨l.blk,l.base+off,none⟩))
 | nilp {ρ:Rho}:Yx ρ .nilp (.pointer none)
 | sl {ρ:Rho} (b off len:Nat) (cap:v2c) (l:Loc) (c:Nat) (h:ρ b=some l) (hc:z1j l off cap c) (dK:len≤c):Yx ρ (.sl b off len cap) (.slice (some ⟨l.blk,l.base+off,none⟩) len c)
 | nils {ρ:Rho}:Yx ρ .nils (.slice none 0 0)
 | sla {ρ:Rho} (b sz off len:Nat) (cap:v2c) (l:Loc) (c:Nat) (h:ρ b=some l) (hc:z1j l (off*sz) cap c) (dK:len≤c):Yx ρ (.sla b sz off len cap) (.slice (some ⟨l.blk,l.base+off*sz,none⟩) len c)
 | slan {ρ:Rho} (b sz off:Nat) (cap:v2c):Yx ρ (.sla b sz off 0 cap) (.slice none 0 0)
 | slv {ρ:Rho} (b sz off len:Nat) (l:Loc) (c:Nat) (h:ρ b=some l) (dK:len≤c):Yx ρ (.slv b sz off len) (.slice (some ⟨l.blk,l.base+off*sz,none⟩) len c)
 | slve {ρ:Rho} (b sz off:Nat) (blk base c:Nat):Yx ρ (.slv b sz off 0) (.slice (some ⟨blk,base,none⟩) 0 c)
 | slvn {ρ:Rho} (b sz off:Nat):Yx ρ (.slv b sz off 0) (.slice none 0 0)
 | epa {ρ:Rho} (b sz i fo:Nat) (l:Loc) (h:ρ b=some l):Yx ρ (.epa b sz i fo) (.pointer (some ⟨l.blk,l.base+(i*sz+fo),none⟩))
 | fn {ρ:Rho} (f:FuncId) (cs:List AVal) (vs:Array Value) (hl:cs.length=vs.size) (h: ∀(i:Nat) (h1:i<cs.length) (h2:i<vs.size),Yx ρ cs[i] vs[i]):Yx ρ (.fn f cs) (.func (.func f) #[] vs)
 | nilf {ρ:Rho}:Yx ρ .nilf .nilFunc
 | fnb {ρ:Rho} (f:FuncId) (cs:List AVal) (vs:Array Value) (hl:cs.length=vs.size) (h: ∀(i:Nat) (h1:i<cs.length) (h2:i<vs.size),Yx ρ cs[i] vs[i]):Yx ρ (.fnb f cs) (.func (.func f) vs #[])
 | yld {ρ:Rho} (j l:Nat) (h:ρ.lp j=some l):Yx ρ (.yld j) (.func (.yield l) #[] #[])
 | ifc {ρ:Rho} (t:TypeId) (a:AVal) (v:Value) (h:Yx ρ a v):Yx ρ (.ifc t a) (.iface t v)
 | nili {ρ:Rho}:Yx ρ .nili .nilIface
 | dat {ρ:Rho} (len:Nat) (get:Nat→List AVal) (blk base sz cap:Nat) (val:Nat→Nat→Value) (dR:len≤cap) (hsz: ∀i,i<len→(get i).length =sz)
   (hv: ∀(i j:Nat) (_:i<len) (hj:j<(get i).length),Yx ρ.bare (get i)[j] (val i j)) (hh: ∀i j,i<len→j<sz→x7w ρ.fz blk (base+(i*sz+j)) (val i j)):Yx ρ (.dat len get) (.slice (some ⟨blk,base,none⟩) len cap)
 | datn {ρ:Rho} (get:Nat→List AVal):Yx ρ (.dat 0 get) (.slice none 0 0)
 | datz {ρ:Rho} (get:Nat→List AVal) (a:Addr) (c:Nat):Yx ρ (.dat 0 get) (.slice (some a) 0 c)
 | nnl {ρ:Rho} (len:Nat) (get:Nat→List AVal) (a:Addr) (c:Nat) (h:Yx ρ (.dat len get) (.slice (some a) len c)):Yx ρ (.nnl len get) (.slice (some a) len c)
 | dptr {ρ:Rho} (cs:List AVal) (blk base:Nat) (val:Nat→Value) (hv: ∀(j:Nat) (hj:j<cs.length),Yx ρ.bare cs[j] (val j)) (hh: ∀j,j<cs.length→x7w ρ.fz blk (base+j) (val j)):Yx ρ (.dptr cs) (.pointer (some ⟨blk,base,none⟩))
def Ue (ρ:Rho) (cs:List AVal) (vs:Array Value):Prop:=cs.length=vs.size∧ ∀(i:Nat) (h1:i<cs.length) (h2:i<vs.size),Yx ρ cs[i] vs[i]
def Rho.le (ρ ρ':Rho):Prop:=(∀b l,ρ b=some l→ρ' b=some l)∧(∀k o,ρ.fz k=some o→ρ'.fz k=some o)∧ ∀j l,ρ.lp j=some l→ρ'.lp j=some l
theorem Rho.le_refl (ρ:Rho):ρ.le ρ:=⟨fun _ _ h=>h,fun _ _ h=>h,fun _ _ h=>h⟩
theorem Rho.le_trans {a b c:Rho} (h:a.le b) (k:b.le c):a.le c:=⟨fun x l e=>k.1 x l (h.1 x l e),fun x l e=>k.2.1 x l (h.2.1 x l e),fun x l e=>k.2.2 x l (h.2.2 x l e)⟩
theorem Rho.le.bare {ρ ρ':Rho} (h:ρ.le ρ'):ρ.bare.le ρ'.bare:=⟨fun _ _ e=>(by cases e),h.2.1,fun _ _ e=>(by cases e)⟩
theorem y7z (ρ:Rho):ρ.bare.le ρ:=⟨fun _ _ e=>(by cases e),fun _ _ e=>e,fun _ _ e=>(by cases e)⟩
theorem x7w.mono {ρ ρ':Rho} (h:ρ.le ρ') {blk o:Nat} {v:Value} (hc:x7w ρ.fz blk o v):x7w ρ'.fz blk o v:=by obtain ⟨cs,el,fz,h1,h2⟩:=hc;exact ⟨cs,el,fz,h.2.1 _ _ h1,h2⟩
theorem Yx.mono {ρ ρ':Rho} (h:ρ.le ρ') {a:AVal} {v:Value} (hv:Yx ρ a v):Yx ρ' a v:=by
 induction hv generalizing ρ' with
 | undef v=>exact .undef v
 | bool b=>exact .bool b
 | int k n=>exact .int k n
 | str s=>exact .str s
 | agg cs vs hl _ ih=>exact .agg cs vs hl fun i h1 h2=>ih i h1 h2 h
 | tup cs vs hl _ ih=>exact .tup cs vs hl fun i h1 h2=>ih i h1 h2 h
 | ptr b off l e=>exact .ptr b off l (h.1 _ _ e)
 | nilp=>exact .nilp
 | sl b off len cap l c e hc dK=>exact .sl b off len cap l c (h.1 _ _ e) hc dK
 | nils=>exact .nils
 | sla b sz off len cap l c e hc dK=>exact .sla b sz off len cap l c (h.1 _ _ e) hc dK
 | slan b sz off cap=>exact .slan b sz off cap
 | slv b sz off len l c e dK=>exact .slv b sz off len l c (h.1 _ _ e) dK
 | slve b sz off blk base c=>exact .slve b sz off blk base c
 | slvn b sz off=>exact .slvn b sz off
 | epa b sz i fo l e=>exact .epa b sz i fo l (h.1 _ _ e)
 | fn f cs vs hl _ ih=>exact .fn f cs vs hl fun i h1 h2=>ih i h1 h2 h
 | nilf=>exact .nilf
 | fnb f cs vs hl _ ih=>exact .fnb f cs vs hl fun i h1 h2=>ih i h1 h2 h
 | yld j l e=>exact .yld j l (h.2.2 _ _ e)
 | ifc t a v _ ih=>exact .ifc t a v (ih h)
 | nili=>exact .nili
 | dat len get blk base sz cap val dR hsz hv hh ih=>exact .dat len get blk base sz cap val dR hsz (fun i j hi hj=>ih i j hi hj h.bare) fun i j hi hj=>(hh i j hi hj).mono h
 | datn get=>exact .datn get
 | datz get a c=>exact .datz get a c
 | nnl len get a c _ ih=>exact .nnl len get a c (ih h)
 | dptr cs blk base val hv hh ih=>exact .dptr cs blk base val (fun j hj=>ih j hj h.bare) fun j hj=>(hh j hj).mono h
theorem Yx.unN {ρ:Rho} {a:AVal} {v:Value} (h:Yx ρ a v):Yx ρ (unN a) v:=by
 cases h <;> first | assumption | (constructor <;> assumption)
theorem Yx.oneCell {ρ:Rho} {a:AVal} {v:Value} (h:Yx ρ a v) (hs:y1g a=true):v.oneCell'=true:=by
 cases h <;> first | rfl | (simp [y1g] at hs)
theorem Yx.cells {ρ:Rho} {a:AVal} {v:Value} (h:Yx ρ a v) (hu:z3t a=true):Ue ρ a.cells v.cells:=by
 cases h
 case agg cs vs hl hh=>exact ⟨hl,hh⟩
 all_goals first
  | (simp [z3t] at hu;done)
  | (refine ⟨rfl,fun i h1 h2=> ?_⟩
     have h0:i=0:=by simp [AVal.cells] at h1;exact h1
     subst h0;simp only [AVal.cells,Value.cells,List.getElem_cons_zero,List.getElem_toArray];constructor <;> assumption)
theorem Yx.cells_oneCell {ρ:Rho} {cs:List AVal} {vs:Array Value} (h:Ue ρ cs vs) (hs:cs.all y1g=true): ∀v∈vs.toList,v.oneCell'=true:=by
 intro v hv;obtain ⟨i,hi,rfl⟩:=AN hv;have h2:i<vs.size:=by grind
 have h1:i<cs.length:=by rw [h.1];exact h2
 simpa using (h.2 i h1 h2).oneCell (At.1 hs _ (A1 h1))
structure Jz (ρ:Rho) (w:World) (ab:ABlk) (l:Loc):Prop where
 n:l.n=ab.cells.length
 tot:l.n≤l.tot
 arr: ∀A,ab.arr=some A→ab.cells=Ym A.n A.get∧1≤A.sz∧ ∀i,i<A.n→(A.get i).length =A.sz
 cells: ∃cs el,w.heap[l.blk]? =some (.cells cs el (0,0))∧l.base+l.tot≤cs.size∧
  ∀(i:Nat) (h:i<ab.cells.length),∃v,cs[l.base+i]? =some v∧Yx ρ ab.cells[i] v
structure Rel (ρ:Rho) (mem:Mem) (next:Nat) (w:World):Prop where
 dom: ∀b l,ρ b=some l→b<next
 inj: ∀b b' l l',ρ b=some l→ρ b'=some l'→l.blk=l'.blk→(Yi mem b).isSome =true→(Yi mem b').isSome =true→b=b'
 blk: ∀b l ab,ρ b=some l→Yi mem b=some ab→Jz ρ w ab l
 old: ∀k o,ρ.fz k=some o→w.heap[k]? =some o
 sep: ∀b l,ρ b=some l→(Yi mem b).isSome =true→ρ.fz l.blk=none
 real: ∀b l,ρ b=some l→l.blk<w.heap.size
 bd: ∀b,next≤b→Yi mem b=none
 ldom: ∀j l,ρ.lp j=some l→j<next
structure Ev (ρ ρ':Rho) (floor:Nat) (m:Mem) (next:Nat) (m':Mem) (next':Nat) (w w':World):Prop where
 ext:ρ.le ρ'
 new: ∀b,b<next→ρ' b=ρ b
 nxt:next≤next'
 unborn: ∀b,b<next→ρ b=none→ ∀cs ty,Yi m b=some ⟨cs,ty,none⟩→Yi m' b=some ⟨cs,ty,none⟩
 frame: ∀k o,w.heap[k]? =some o→(∀b l,ρ b=some l→floor≤b→l.blk≠k)→w'.heap[k]? =some o
 fresh: ∀b l,next≤b→ρ' b=some l→w.heap.size≤l.blk∨ ∃b0 l0,ρ b0=some l0∧floor≤b0∧l0.blk=l.blk
 size:w.heap.size≤w'.heap.size
 os:w'.os=w.os
 tape:w'.tape=w.tape
 output:w'.output=w.output
 still: ∀k,k<w.heap.size→ρ'.fz k=ρ.fz k
theorem Ev.refl (ρ:Rho) (floor:Nat) (m:Mem) (next:Nat) (w:World) (hd: ∀b l,ρ b=some l→b<next):Ev ρ ρ floor m next m next w w:=
 ⟨Rho.le_refl _,fun _ _=>rfl,Aq _,fun _ _ _ _ _ h=>h,fun _ _ h _=>h,fun b l hb h=>absurd (hd b l h) (by omega),Aq _,rfl,rfl,rfl,fun _ _=>rfl⟩
theorem Ev.drawn {ρ ρ':Rho} {floor:Nat} {m m':Mem} {next next':Nat} {w w':World} (h:Ev ρ ρ' floor m next m' next' {w with drawn:=w.drawn+1} w'):Ev ρ ρ' floor m next m' next' w w':=
 ⟨h.ext,h.new,h.nxt,h.unborn,h.frame,h.fresh,h.size,h.os,h.tape,h.output,h.still⟩
theorem Ev.trans {ρ ρ1 ρ2:Rho} {floor:Nat} {m m1 m2:Mem} {n n1 n2:Nat} {w w1 w2:World} (h:Ev ρ ρ1 floor m n m1 n1 w w1) (k:Ev ρ1 ρ2 floor m1 n1 m2 n2 w1 w2):Ev ρ ρ2 floor m n m2 n2 w w2 where
 ext:=Rho.le_trans h.ext k.ext
 new b hb:=by rw [k.new b (AX hb h.nxt),h.new b hb]
 nxt:=Av h.nxt k.nxt
 unborn b hb e cs ty hm:=k.unborn b (AX hb h.nxt) (by rw [h.new b hb];exact e) cs ty (h.unborn b hb e cs ty hm)
 frame i o hi hf:=by
  refine k.frame i o (h.frame i o hi hf) fun b l hl hfl hlb=> ?_;by_cases hb:b<n
  ·rw [h.new b hb] at hl;grind
  ·have hlt:i<w.heap.size:=(AO.1 hi).1;rcases h.fresh b l (by omega) hl with h1 | ⟨b0,l0,e0,f0,g0⟩;all_goals grind
 fresh b l hb hl:=by
  by_cases hb1:b<n1
  ·rw [k.new b hb1] at hl;exact h.fresh b l hb hl
  ·rcases k.fresh b l (by omega) hl with h1 | ⟨b0,l0,e0,f0,g0⟩
   ·exact .inl (Av h.size h1)
   ·by_cases hb0:b0<n
    ·rw [h.new b0 hb0] at e0;grind
    ·rcases h.fresh b0 l0 (by omega) e0 with h1 | ⟨b3,l3,e3,f3,g3⟩;all_goals grind
 size:=Av h.size k.size
 os:=k.os.trans h.os
 tape:=k.tape.trans h.tape
 output:=k.output.trans h.output
 still i hi:=(k.still i (AX hi h.size)).trans (h.still i hi)
theorem Ev.lower {ρ ρ':Rho} {floor floor':Nat} {m m':Mem} {n n':Nat} {w w':World} (h:Ev ρ ρ' floor' m n m' n' w w') (hf:floor≤floor'):Ev ρ ρ' floor m n m' n' w w':=
 ⟨h.ext,h.new,h.nxt,h.unborn,fun k o e g=>h.frame k o e fun b l hl hfl=>g b l hl (Av hf hfl),
  fun b l hb hl=>(h.fresh b l hb hl).imp id fun ⟨b0,l0,e,f,g⟩=>⟨b0,l0,e,Av hf f,g⟩,h.size,h.os,h.tape,h.output,h.still⟩
theorem Rel.drawn {ρ:Rho} {mem:Mem} {next:Nat} {w:World} (h:Rel ρ mem next w) (n:Nat):Rel ρ mem next {w with drawn:=n}:=
 ⟨h.dom,h.inj,fun b l ab e f=>let ⟨a,t,r,c⟩:=h.blk b l ab e f;⟨a,t,r,c⟩,h.old,h.sep,h.real,h.bd,h.ldom⟩
def Uw (ρ:Rho) (b:Nat) (l:Loc):Rho:=⟨fun k=>if k=b then some l else ρ k,ρ.fz,ρ.lp⟩
theorem Up (ρ:Rho) (b:Nat) (l:Loc) (k:Nat):Uw ρ b l k=if k=b then some l else ρ k:=rfl
theorem z0v {ρ:Rho} {b:Nat} {l:Loc} (h:ρ b=none):ρ.le (Uw ρ b l):=⟨fun k l' e=>by
 grind [Up],fun _ _ e=>e,fun _ _ e=>e⟩
theorem Rel.none_next {ρ:Rho} {mem:Mem} {next:Nat} {w:World} (h:Rel ρ mem next w):ρ next=none:=by
 cases e:ρ next with
 | none=>rfl
 | some l=>exact absurd (h.dom _ _ e) (BS _)
theorem Jz.world {ρ ρ':Rho} {w w':World} {ab:ABlk} {l:Loc} (h:Jz ρ w ab l) (hr:ρ.le ρ') (hw:w'.heap[l.blk]? =w.heap[l.blk]?):Jz ρ' w' ab l:=by obtain ⟨n,t,ar,cs,el,h1,h2,h3⟩:=h;exact ⟨n,t,ar,cs,el,by grind,h2,fun i hi=>let ⟨v,e,f⟩:=h3 i hi;⟨v,e,f.mono hr⟩⟩
theorem Rel.new {ρ:Rho} {mem:Mem} {next:Nat} {w:World} (h:Rel ρ mem next w) (cs:List AVal) (ty:TypeId) (vs:Array Value) (el:TypeId) (hH: ∀k,w.heap.size≤k→ρ.fz k=none)
  (hn:cs.length≤vs.size) (hv: ∀(i:Nat) (h1:i<cs.length) (h2:i<vs.size),Yx ρ cs[i] vs[i]):
  Rel (Uw ρ next ⟨w.heap.size,0,cs.length,vs.size⟩) (Wv mem next (some ⟨cs,ty,none⟩)) (next+1) {w with heap:=w.heap.push (.cells vs el)}:=by
 have hle:=z0v (l:=⟨w.heap.size,0,cs.length,vs.size⟩) h.none_next;have dS: ∀b l,Uw ρ next ⟨w.heap.size,0,cs.length,vs.size⟩ b=some l→(b=next∧l=⟨w.heap.size,0,cs.length,vs.size⟩)∨(b≠next∧ρ b=some l):=fun b l e=>by
  grind [Up]
 refine ⟨fun b l e=> ?_,fun b b' l l' e e' hbl hs hs'=> ?_,fun b l ab e hm=> ?_,fun k o e=> ?_,fun b l e=> ?_,fun b l e=> ?_,fun b hb=>by rw [Zv _ _ (by omega)];exact h.bd b (by omega),fun j l e=>Bd (h.ldom j l e)⟩
 ·rcases dS b l e with ⟨rfl,_⟩ | ⟨_,e⟩
  ·omega
  ·have:=h.dom b l e;omega
 ·rcases dS b l e with ⟨hb,hl⟩ | ⟨hb,e2⟩ <;> rcases dS b' l' e' with ⟨hb',hl'⟩ | ⟨hb',e2'⟩
  ·rw [hb,hb']
  ·have:=h.real b' l' e2';grind
  ·have:=h.real b l e2;grind
  ·rw [Zv _ _ hb] at hs;rw [Zv _ _ hb'] at hs';exact h.inj b b' l l' e2 e2' hbl hs hs'
 ·rcases dS b l e with ⟨rfl,rfl⟩ | ⟨hb,e⟩
  ·rw [Yk] at hm;obtain rfl:=Ag hm;refine ⟨rfl,hn,(fun A e=>by cases e),vs,el,by simp,by simp,fun i hi=>⟨vs[i]'(by grind),by grind,(hv i hi (by grind)).mono hle⟩⟩
  ·rw [Zv _ _ hb] at hm;refine (h.blk b l ab e hm).world hle ?_;have:=h.real b l e
   grind
 ·have hk:=h.old k o e
  grind
 ·intro hs;rcases dS b l e with ⟨rfl,rfl⟩ | ⟨hne,e⟩
  ·exact hH _ (Aq _)
  ·rw [Zv _ _ hne] at hs;exact h.sep b l e hs
 ·rcases dS b l e with ⟨rfl,rfl⟩ | ⟨_,e⟩
  ·simp
  ·have:=h.real b l e;simp;omega
theorem Ev.ofNew {ρ:Rho} {mem:Mem} {next:Nat} {w:World} (h:Rel ρ mem next w) (floor:Nat) (l:Loc) (o:Option ABlk) (ob:Obj) (hl:w.heap.size≤l.blk):
  Ev ρ (Uw ρ next l) floor mem next (Wv mem next o) (next+1) w {w with heap:=w.heap.push ob} where
 ext:=z0v h.none_next
 new b hb:=by simp [Uw,BA hb]
 nxt:=BT _
 unborn b hb _ cs ty hm:=by grind [Zv]
 frame k o hk _:=by
  grind
 fresh b l' hb e:=by
  rw [Up] at e;by_cases hbn:b=next
  ·grind
  ·rw [AF hbn] at e;have:=h.dom b l' e;omega
 size:=by simp
 os:=rfl
 tape:=rfl
 output:=rfl
 still _ _:=rfl
theorem Qx {α:Type} (l c:List α) (off i:Nat) (h:off+c.length≤l.length):
  (l.take off++c++l.drop (off+c.length))[i]? =if i<off then l[i]? else if i<off+c.length then c[i - off]? else l[i]? :=by grind
theorem z8b {α:Type} (l c:List α) (off:Nat) (h:off+c.length≤l.length):(l.take off++c++l.drop (off+c.length)).length =l.length:=by grind
theorem Rel.write {ρ:Rho} {mem:Mem} {next:Nat} {w:World} (h:Rel ρ mem next w) {b:Nat} {l:Loc} {ab:ABlk} (hb:ρ b=some l) (hm:Yi mem b=some ab) {off:Nat} {cs:List AVal} {vs:List Value}
  (dK:vs.length=cs.length) (dZ:off+cs.length≤ab.cells.length) (hv: ∀(i:Nat) (h1:i<cs.length) (h2:i<vs.length),Yx ρ cs[i] vs[i]):
  ∃cur el,w.heap[l.blk]? =some (.cells cur el (0,0))∧l.base+off+vs.length≤cur.size∧
   Rel ρ (Wv mem b (some ⟨ab.cells.take off++cs++ab.cells.drop (off+cs.length),ab.ty,none⟩)) next (w.setRow l.blk (cur.toList.take (l.base+off)++vs++cur.toList.drop (l.base+off+vs.length)).toArray):=by
 obtain ⟨hn,ht,har,cur,el,h1,h2,h3⟩:=h.blk b l ab hb hm;have hfc:l.base+off+vs.length≤cur.toList.length:=by simp;omega
 refine ⟨cur,el,h1,by grind,h.dom,fun c c' m m' e e' he hs hs'=> ?_,fun c m ac e hc=> ?_,fun k o e=> ?_,fun c m e hs=>h.sep c m e (by
  grind [Zv]),fun c m e=> ?_,fun c hc=>by have:=h.dom b l hb;rw [Zv _ _ (by omega)];exact h.bd c hc,h.ldom⟩
 ·refine h.inj c c' m m' e e' he ?_ ?_;all_goals grind [Zv]
 ·by_cases hcb:c=b
  ·subst hcb;rw [Yk] at hc;obtain rfl:=Ag hc;rw [hb] at e;obtain rfl:=Ag e;refine ⟨by grind,ht,(fun A e=>by cases e),_,el,setRow_heap w l.blk cur _ el (0,0) h1,?_,fun i hi=> ?_⟩
   ·grind
   ·rw [z8b _ _ _ dZ] at hi;have hg:=Qx ab.cells cs off i dZ;rw [Au (by grind)] at hg;simp only [List.getElem?_toArray];rw [Qx _ _ _ _ hfc]
    grind
  ·rw [Zv _ _ hcb] at hc;refine (h.blk c m ac e hc).world (Rho.le_refl _) (setRow_other w l.blk m.blk _ fun heq=>hcb ?_);exact h.inj c b m l e hb heq (by rw [hc];rfl) (by rw [hm];rfl)
 ·have hk:=h.old k o e;rw [setRow_other]
  ·exact hk
  ·intro heq;have:=h.sep b l hb (by rw [hm];rfl)
   grind
 ·rw [setRow_size];exact h.real c m e
theorem Ev.ofWrite {ρ:Rho} {mem:Mem} {next:Nat} {w:World} (h:Rel ρ mem next w) {floor b:Nat} {l:Loc} (hb:ρ b=some l) (hf:floor≤b) (o:Option ABlk) (cs:Array Value):
  Ev ρ ρ floor mem next (Wv mem b o) next w (w.setRow l.blk cs) where
 ext:=Rho.le_refl _
 new _ _:=rfl
 nxt:=Aq _
 unborn k _ e cs ty hm:=by grind [Zv]
 frame k o hk hfr:=by
  grind [setRow_other]
 fresh k m hk e:=by have:=h.dom k m e;omega
 size:=by simp_all
 os:=rfl
 tape:=rfl
 output:=rfl
 still _ _:=rfl
structure Wa (ρ:Rho) (env:T AVal) (n:Nat) (tmps:Array Value):Prop where
 size:tmps.size=n
 get: ∀i,Yx ρ (T.get .undef env i) (tmps.getD i undef)
 out: ∀i,n≤i→T.get .undef env i=.undef
theorem Wa.mono {ρ ρ':Rho} {env:T AVal} {n:Nat} {tmps:Array Value} (h:Wa ρ env n tmps) (hr:ρ.le ρ'):Wa ρ' env n tmps:=
 ⟨h.size,fun i=>(h.get i).mono hr,h.out⟩
section
variable {P:Program} {ρ:Rho}
theorem z6c {t:TypeId} {r:Bool} (h:v7g P t=some r) (w:World):(isAgg t).run P w=.ok r w:=by
 unfold v7g at h;cases hu:P.underlying t with
 | none=>grind
 | some d=>cases d <;> simp [hu] at h <;> subst h <;> simp [isAgg,run_underlying hu]
theorem Zi {t:TypeId} {i:TypeInfo} (h:P.info? t=some i) (w:World):(sizeOf t).run P w=.ok i.size w:=by simp [sizeOf,run_typeInfo w h]
theorem z6g {cs p:List AVal} {off n:Nat} (h:cut cs off n=some p):p=(cs.drop off).take n∧p.length=n∧(n=0∨off+n≤cs.length):=by
 unfold cut at h;dsimp only at h;cases hb:Nat.beq ((cs.drop off).take n).length n with
 | false=>grind
 | true=>
  simp only [hb,Ab,Ad] at h;have hl:=Ai hb
  grind
theorem j9g {cs p:List AVal} {off n:Nat} (h:cut cs off n=some p) (i:Nat) (hi:i<p.length): ∃h2:off+i<cs.length,p[i]=cs[off+i]:=by
 obtain ⟨rfl,hl,_⟩:=z6g h
 grind
theorem Kv {t:TypeId} {cs:List AVal} {vs:Array Value} {off:Nat} {v:AVal} (h:z2m P t cs off=some v) (hr:Ue ρ cs vs):
  ∃u,Yx ρ v u∧ ∀w,(part t vs off).run P w=.ok u w:=by
 unfold z2m at h;split at h
 ·rename_i i ha hi;simp only [Al] at h;obtain ⟨p,hp,rfl⟩:=h;obtain ⟨_,hl,hle⟩:=z6g hp;refine ⟨.agg (vs.extract off (off+i.size)),.agg _ _ ?_ ?_,fun w=> ?_⟩
  ·have:=hr.1;simp;omega
  ·intro j h1 h2;obtain ⟨h3,e⟩:=j9g hp j h1;rw [e];have h4:off+j<vs.size:=by grind
   simpa using hr.2 (off+j) h3 h4
  simp_all [part,z6c,Zi]
 ·rename_i i ha hi;obtain ⟨hlt,rfl⟩:=A9.1 h;have h4:off<vs.size:=by rw [←hr.1];exact hlt
  exact ⟨vs[off],hr.2 off hlt h4,fun w=>by simp_all [part,z6c]⟩
 ·cases h
theorem z9n {rec:TypeId→AVal→AVal→Option Bool} {dd:Nat} {e:TypeId} {c:Nat}
  (IH: ∀x y r u u',rec e x y=some r→Yx ρ x u→Yx ρ y u'→ ∀w,(Op.equalIn dd e u u').run P w=.ok r w)
  {xs ys:List AVal} {us us':Array Value} (hx:Ue ρ xs us) (hy:Ue ρ ys us'): ∀(is:List Nat) (r:Bool),
  z3p rec P xs ys (is.map fun j=>(e,j*c))=some r→ ∀w,(Op.eqItems dd e c us us' is).run P w=.ok r w
 | [],r,h,w=>by simp_all [z3p,Op.eqItems]
 | i::is,r,h,w=>by
  simp only [AU,z3p] at h;split at h
  ·rename_i a b ha hb;split at h
   ·rename_i e1 f1 he hf;obtain rfl:=Ag h;obtain ⟨u,hu,pu⟩:=Kv ha hx;obtain ⟨u',hu',pu'⟩:=Kv hb hy;have q:=IH _ _ _ _ _ he hu hu' w;have r:=z9n IH hx hy is f1 hf w;cases e1 <;> simp [Op.eqItems,pu,pu',q,r]
   ·cases h
  ·cases h
theorem z6r {rec:TypeId→AVal→AVal→Option Bool} {dd:Nat}
  (IH: ∀e x y r u u',rec e x y=some r→Yx ρ x u→Yx ρ y u'→ ∀w,(Op.equalIn dd e u u').run P w=.ok r w)
  {xs ys:List AVal} {us us':Array Value} (hx:Ue ρ xs us) (hy:Ue ρ ys us'): ∀(fs:List Field) (r:Bool),fs.any (fun f=>f.name == "_")=false→
  z3p rec P xs ys (fs.map fun f=>(f.type,f.offset))=some r→ ∀w,(Op.eqFields dd us us' fs).run P w=.ok r w
 | [],r,_,h,w=>by simp_all [z3p,Op.eqFields]
 | f::fs,r,hn,h,w=>by
  simp only [BK,BE] at hn;simp only [AU,z3p] at h;split at h
  ·rename_i a b ha hb;split at h
   ·rename_i e1 f1 he hf;obtain rfl:=Ag h;obtain ⟨u,hu,pu⟩:=Kv ha hx;obtain ⟨u',hu',pu'⟩:=Kv hb hy;have q:=IH _ _ _ _ _ _ he hu hu' w;have r:=z6r IH hx hy fs f1 hn.2 hf w;have hne:f.name≠ "_" :=(by simpa using hn.1);cases e1 <;> simp [Op.eqFields,hne,pu,pu',q,r]
   ·cases h
  ·cases h
theorem z9z (k:Nat): ∀(d:Nat) (t:TypeId) (x y:AVal) (r:Bool) (u u':Value),aEq P d t x y=some r→Yx ρ x u→Yx ρ y u'→ ∀w,(Op.equalIn (k+d) t u u').run P w=.ok r w
 | 0,_,_,_,_,_,_,h,_,_,_=>by simp [aEq] at h
 | d + 1,t,x,y,r,u,u',h,hx,hy,w=>by
  unfold aEq at h;cases hu:P.underlying t with
  | none=>grind
  | some ty=>
   rw [←Ay];cases ty <;> simp only [hu] at h <;> try (cases h;done)
   case bool=>
    split at h
    ·cases hx;cases hy;grind [run_equalIn_bool']
    ·cases h
   case int q=>
    split at h
    ·split at h
     ·rename_i hk;subst hk;cases hx;cases hy;grind [run_equalIn_int]
     ·cases h
    ·cases h
   case string=>
    split at h
    ·cases hx;cases hy;grind [run_equalIn_string,ByteArray.toList_eq]
    ·cases h
   case array n e=>
    split at h
    ·rename_i xs ys i hi;cases hx with
     | agg _ us hl hh=>
      cases hy with
      | agg _ us' hl' hh'=>rw [run_equalIn_array w _ us us' hu hi];have hc:P.cellsOf e=i.size:=(by simp [Program.cellsOf,hi]);rw [hc];exact z9n (fun x y r u u' e1 e2 e3=>z9z k d e x y r u u' e1 e2 e3) ⟨hl,hh⟩ ⟨hl',hh'⟩ _ _ h w
    ·cases h
   case struct fs=>
    split at h
    ·rename_i xs ys;cases hs:P.stoodInHeld t with
     | true=>grind
     | false=>
      cases hn:fs.toList.any (fun f=>f.name == "_") with
      | true=>grind
      | false=>
       rw [hs,hn] at h;simp only [Aa] at h;cases hx with
       | agg _ us hl hh=>
        cases hy with
        | agg _ us' hl' hh'=>have hfs:P.fieldsOf t=fs:=(by simp [Program.fieldsOf,hu]);rw [run_equalIn_struct w _ t us us' (by grind) hs,hfs];exact z6r (fun e x y r u u' e1 e2 e3=>z9z k d e x y r u u' e1 e2 e3) ⟨hl,hh⟩ ⟨hl',hh'⟩ _ _ hn h w
    ·cases h
theorem y8k {op:BinOp} {k:IntKind} {a b n:Int} (h:v1z op k a b=some n):Op.intBits op k a b=pure (.int k n):=by
 cases op <;> simp only [v1z] at h <;> first | (cases h;done) | (obtain rfl:=Ag h;rfl)
theorem w2z (op:BinOp) (t:TypeId) (x y:Operand) (k k':IntKind) (a b:Int) (w:World):(eqGuard op t x y (.int k a) (.int k' b)).run P w=.ok () w:=by cases op <;> simp [eqGuard]
theorem v2a {op:BinOp} {t:TypeId} {x y:AVal} {v:AVal} {b:Bool} {u u':Value} (h:aBin P op t x y=some (v,b)) (hb:b=true) (hx:Yx ρ x u) (hy:Yx ρ y u') (ox oy:Operand):
  ∃z,Yx ρ v z∧ ∀w,(do eqGuard op t ox oy u u';binOp op t u u':Sem Value).run P w=.ok z w:=by
 subst hb;unfold aBin at h;split at h
 ·rename_i k a k' b;cases hx;cases hy;have g:=fun w=>w2z (P:=P) op t ox oy k k' a b w;split at h
  ·simp only [Ad,Ac,Be,Ba] at h;obtain ⟨rfl,h0⟩:=h;exact ⟨_,.int _ _,fun w=>by simp [g,binOp,Op.shift,h0]⟩
  ·simp only [Ad,Ac,Be,Ba] at h;obtain ⟨rfl,h0⟩:=h;exact ⟨_,.int _ _,fun w=>by simp [g,binOp,Op.shift,h0]⟩
  ·rename_i hshl hshr;split at h
   ·rename_i hk;subst hk;have fin: ∀n,v1z op k a b=some n→ ∃z,Yx ρ (.int k n) z∧ ∀w,(do eqGuard op t ox oy (.int k a) (.int k b);binOp op t (.int k a) (.int k b):Sem Value).run P w=.ok z w:=by
     intro n hn;have e:=y8k hn;refine ⟨_,.int _ _,fun w=> ?_⟩;cases op <;> simp only [v1z] at hn <;> first | (cases hn;done) | (simp [g,binOp,e];done)
    cases op <;> dsimp only at h
    case shl=>grind
    case shr=>grind
    case quo=>simp only [Ad,Ac,Be,Ba] at h;obtain ⟨rfl,h0⟩:=h;exact ⟨_,.int _ _,fun w=>by simp [g,binOp,Op.intDiv,h0]⟩
    case rem=>simp only [Ad,Ac,Be,Ba] at h;obtain ⟨rfl,h0⟩:=h;exact ⟨_,.int _ _,fun w=>by simp [g,binOp,Op.intDiv,h0]⟩
    all_goals first
     | (simp only [Al,Ac] at h
        grind)
     | (simp only [Ad,Ac] at h
        obtain ⟨rfl,_⟩:=h;refine ⟨_,.int _ _,fun w=> ?_⟩;simp_all [binOp,Op.intArith])
     | (simp only [Ad,Ac] at h
        obtain ⟨rfl,_⟩:=h;refine ⟨_,.bool _,fun w=> ?_⟩;simp_all [binOp,Op.intCmp])
   ·cases h
 ·rename_i a b;cases hx;cases hy;split at h
  ·rename_i hu;split at h
   ·simp only [Ad,Ac] at h;obtain ⟨rfl,_⟩:=h;exact ⟨_,.bool _,fun w=>by simp_all [eqGuard,binOp,Op.equal,Op.maxDepth,run_equalIn_bool']⟩
   ·simp only [Ad,Ac] at h;obtain ⟨rfl,_⟩:=h;exact ⟨_,.bool _,fun w=>by simp_all [eqGuard,binOp,Op.equal,Op.maxDepth,run_equalIn_bool']⟩
   ·cases h
  ·cases h
 ·rename_i a b;cases hx with
  | agg _ us hl hh=>
   cases hy with
   | agg _ us' hl' hh'=>
    cases hg:P.eqGuardType P.depth t with
    | true=>grind
    | false=>
     simp only [hg,Aa] at h;split at h
     ·simp only [Al,Ac] at h;obtain ⟨r,hr,rfl,_⟩:=h;have q:=fun w=>z9z 9970 30 t _ _ r _ _ hr (Yx.agg a us hl hh) (Yx.agg b us' hl' hh') w;exact ⟨_,.bool _,fun w=>by simp_all [run_eqGuard_agg,run_eql_struct]⟩
     ·simp only [Al,Ac] at h;obtain ⟨r,hr,rfl,_⟩:=h;have q:=fun w=>z9z 9970 30 t _ _ r _ _ hr (Yx.agg a us hl hh) (Yx.agg b us' hl' hh') w;exact ⟨_,.bool _,fun w=>by simp_all [run_eqGuard_agg,run_neq_struct]⟩
     ·cases h
 ·cases hx with
  | sl _ _ _ _ l c hl hc dK=>
   cases hy;split at h
   ·rename_i e hu;have q:=fun (w:World) (a:Addr) (n c:Nat)=>Lib.run_equalIn_slice_nil (P:=P) w 9999 t e (some a) n c 0 0 hu;split at h
    ·simp only [Ad,Ac] at h;obtain ⟨rfl,_⟩:=h;exact ⟨_,.bool _,fun w=>by simp [eqGuard,binOp,Op.equal,Op.maxDepth,q]⟩
    ·simp only [Ad,Ac] at h;obtain ⟨rfl,_⟩:=h;exact ⟨_,.bool _,fun w=>by simp [eqGuard,binOp,Op.equal,Op.maxDepth,q]⟩
    ·cases h
   ·cases h
 ·cases hx with
  | nnl _ _ a c _=>
   cases hy;split at h
   ·rename_i e hu;have q:=fun (w:World) (a:Addr) (n c:Nat)=>Lib.run_equalIn_slice_nil (P:=P) w 9999 t e (some a) n c 0 0 hu;split at h
    ·simp only [Ad,Ac] at h;obtain ⟨rfl,_⟩:=h;exact ⟨_,.bool _,fun w=>by simp [eqGuard,binOp,Op.equal,Op.maxDepth,q]⟩
    ·simp only [Ad,Ac] at h;obtain ⟨rfl,_⟩:=h;exact ⟨_,.bool _,fun w=>by simp [eqGuard,binOp,Op.equal,Op.maxDepth,q]⟩
    ·cases h
   ·cases h
 ·cases hx;cases hy;split at h
  ·rename_i e hu;have q:=fun w=>Lib.run_equalIn_slice_nil (P:=P) w 9999 t e none 0 0 0 0 hu;split at h
   ·simp only [Ad,Ac] at h;obtain ⟨rfl,_⟩:=h;exact ⟨_,.bool _,fun w=>by simp [eqGuard,binOp,Op.equal,Op.maxDepth,q]⟩
   ·simp only [Ad,Ac] at h;obtain ⟨rfl,_⟩:=h;exact ⟨_,.bool _,fun w=>by simp [eqGuard,binOp,Op.equal,Op.maxDepth,q]⟩
   ·cases h
  ·cases h
 ·cases hx;cases hy;split at h
  ·simp only [Ad,Ac] at h;obtain ⟨rfl,_⟩:=h;exact ⟨_,.bool _,fun w=>by simp_all [eqGuard,binOp,Op.stringOp]⟩
  ·simp only [Ad,Ac] at h;obtain ⟨rfl,_⟩:=h;exact ⟨_,.bool _,fun w=>by simp_all [eqGuard,binOp,Op.stringOp]⟩
  ·cases h
 ·cases h
theorem v9n {op:UnOp} {x v:AVal} {u:Value} (h:aUn op x=some v) (hx:Yx ρ x u): ∃z,Yx ρ v z∧ ∀w,(Op.unary op u).run P w=.ok z w:=by
 unfold aUn at h;split at h
 ·cases hx;obtain rfl:=Ag h;exact ⟨_,.int _ _,fun w=>by simp [Op.unary,Op.intArith]⟩
 ·cases hx;simp only [Al] at h;obtain ⟨n,hn,rfl⟩:=h;exact ⟨_,.int _ _,fun w=>by simp [Op.unary,y8k hn]⟩
 ·cases hx;obtain rfl:=Ag h;exact ⟨_,.bool _,fun w=>by simp [Op.unary]⟩
 ·cases h
end
section
variable {P:Program} {ρ:Rho}
theorem z1q (v:Value):Yx ρ (z3j v) v:=by
 cases v with
 | bool b=>exact .bool b
 | int k n=>exact .int k n
 | string s=>exact .str s.data.toList
 | pointer a=>cases a with
  | none=>exact .nilp
  | some a=>exact .undef _
 | slice a n c=>
  cases a with
  | some a=>exact .undef _
  | none=>
   cases n with
   | succ n=>exact .undef _
   | zero=>cases c with
    | zero=>exact .nils
    | succ c=>exact .undef _
 | nilFunc=>exact .nilf
 | nilIface=>exact .nili
 | _=>exact .undef _
theorem x0u (v:Value) (h: ∀cs,v≠ .agg cs):ofV v=z3j v:=by
 cases v <;> first | rfl | grind
theorem v5y (v:Value):Yx ρ (ofV v) v:=by
 by_cases h: ∃cs,v=.agg cs
 ·obtain ⟨cs,rfl⟩:=h;refine .agg _ _ (by simp) fun i h1 h2=> ?_
  grind [z1q]
 grind [x0u,z1q]
theorem y8u (v:Value):(z3j v).cells =[z3j v]:=by unfold z3j;split <;> rfl
theorem v5z (v:Value):Ue ρ (ofV v).cells v.cells:=by
 by_cases h: ∃cs,v=.agg cs
 ·obtain ⟨cs,rfl⟩:=h;refine ⟨by simp [ofV,AVal.cells,Value.cells],fun i h1 h2=> ?_⟩
  grind [z1q,Value.cells,ofV,AVal.cells]
 ·rw [x0u v fun cs e=>h ⟨cs,e⟩,y8u];have hc:v.cells= #[v]:=by cases v <;> first | rfl | grind
  rw [hc];refine ⟨rfl,fun i h1 h2=> ?_⟩
  grind [z1q]
theorem Wp {t:TypeId} {z:List AVal} (h:z0d P t=some z): ∃i v,P.info? t=some i∧i.zero=some v∧Ue ρ z v.cells∧ ∀w,(zeroValue t).run P w=.ok v w:=by
 unfold z0d at h;cases hi:P.info? t with
 | none=>grind
 | some i=>simp only [hi,Al] at h;obtain ⟨v,hz,rfl⟩:=h;simp_all [v5z,zeroValue,run_typeInfo]
theorem w6q (off:Nat): ∀(l:List Value) (k:Nat) (cells:Array Value),off+k+l.length≤cells.size→
  (l.zipIdx k).foldl (fun cs p=>cs.setIfInBounds (off+p.2) p.1) cells=(cells.toList.take (off+k)++l++cells.toList.drop (off+k+l.length)).toArray
 | [],k,cells,_=>by simp
 | v::l,k,cells,h=>by
  simp only [List.zipIdx_cons,List.foldl_cons];rw [w6q off l (k+1) _ (by simp at h ⊢;omega)];have e:=list_seg_step cells.toList (off+k) v l (by simp at h ⊢;omega)
  simpa [Array.toList_setIfInBounds,Ay] using e
theorem Ue.splice {cells:List AVal} {arr:Array Value} {c:List AVal} {vs:Array Value} {off:Nat} (h:Ue ρ cells arr) (hc:Ue ρ c vs) (dZ:off+c.length≤cells.length):
  Ue ρ (cells.take off++c++cells.drop (off+c.length)) (arr.toList.take off++vs.toList++arr.toList.drop (off+vs.toList.length)).toArray :=by
 have e1:=h.1;have e2:=hc.1;have f1:off+vs.toList.length≤arr.toList.length:=by simp;omega
 refine ⟨by grind,fun i h1 h2=> ?_⟩;rw [z8b _ _ _ dZ] at h1;have g1:=Qx cells c off i dZ;have g2:=Qx arr.toList vs.toList off i f1;rw [Au (by grind)] at g1;rw [Au (by grind)] at g2;rw [List.getElem_toArray];by_cases k1:i<off
 ·rw [AL k1,Au h1] at g1;rw [AL k1,Au (by simp;omega)] at g2;rw [Ag g1,Ag g2]
  simpa using h.2 i h1 (by omega)
 ·by_cases k2:i<off+c.length
  ·rw [AF k1,AL k2,Au (by omega)] at g1;rw [AF k1,AL (by simp;omega),Au (by simp;omega)] at g2;rw [Ag g1,Ag g2]
   simpa using hc.2 (i - off) (by omega) (by omega)
  ·rw [AF k1,AF k2,Au h1] at g1;rw [AF k1,AF (by simp;omega),Au (by simp;omega)] at g2;rw [Ag g1,Ag g2]
   simpa using h.2 i h1 (by omega)
def z1z (ρ:Rho) (ps:List (Nat×AVal)) (qs:List (Nat×Value)):Prop:=
 Vk (fun p q=>p.1=q.1∧Yx ρ p.2 q.2) ps qs
theorem Qp {place:Nat→Option (Nat×Nat)}: ∀{ps:List (Nat×AVal)} {qs:List (Nat×Value)} {cells out:List AVal} {arr:Array Value},x4o place cells ps=some out→
  Ue ρ cells arr→z1z ρ ps qs→ ∃arr',Instr.fill place arr qs=some arr'∧Ue ρ out arr'
 | [],_,cells,out,arr,h,hr,hp=>by cases hp;simp only [x4o,Ad] at h;subst h;exact ⟨arr,rfl,hr⟩
 | (i,v)::ps,_,cells,out,arr,h,hr,hp=>by
  cases hp with
  | @cons _ q _ qs hq hqs=>
   obtain ⟨j,u⟩:=q;obtain ⟨hij,hv⟩:=hq;simp only at hij hv;subst hij;unfold x4o at h;cases hpl:place i with
   | none=>simp [hpl] at h
   | some pl=>
    obtain ⟨off,size⟩:=pl;simp only [hpl] at h;cases hc:(z3t v&&Nat.beq v.cells.length size&&Nat.ble (off+size) cells.length) with
    | false=>rw [hc] at h;cases h
    | true=>
     rw [hc,Ab] at h;simp only [Ae] at hc;obtain ⟨⟨hb,hs⟩,hf⟩:=hc;have hs:=Ai hs;have hf:=Ak hf;have dP:=hv.cells hb;have hsz:u.cells.size=size:=by rw [←dP.1];exact hs
     have dZ:off+v.cells.length≤cells.length:=(by omega);rw [←hs] at h;obtain ⟨arr',h1,h2⟩:=Qp h (hr.splice dP dZ) hqs;refine ⟨arr',?_,h2⟩;unfold Instr.fill;simp only [hpl];have hle:off+u.cells.size≤arr.size:=by rw [←hr.1,hsz];omega
     have hz: ¬(u.cells.size≠size||decide (off+u.cells.size>arr.size))=true:=by simp [hsz];rw [hsz] at hle;exact hle
     rw [AF hz];rw [←h1]
     congr 1
     rw [←Array.foldl_toList,Array.toList_zipIdx];have:=w6q off u.cells.toList 0 arr (by simpa using hle)
     simpa using this
theorem z5k : ∀{fs:List Field} {pl:List (Nat×Nat)},Qu P fs=some pl→ ∀w,(fs.mapM fun f=>Prod.mk f.offset<$>sizeOf f.type:Sem (List (Nat×Nat))).run P w=.ok pl w
 | [],pl,h,w=>by simp [Qu] at h;subst h;simp
 | f::fs,pl,h,w=>by
  unfold Qu at h;cases hi:P.info? f.type with
  | none=>simp [hi] at h
  | some i=>
   cases hr:Qu P fs with
   | none=>simp [hi,hr] at h
   | some l=>simp only [hi,hr,Ad] at h;subst h;have:=z5k hr w;simp [List.mapM_cons,Zi hi,this]
theorem x7q {t:TypeId} {ps:List (Nat×AVal)} {qs:List (Nat×Value)} {v:AVal} (h:v9t P t ps=some v) (hp:z1z ρ ps qs):
  ∃u,Yx ρ v u∧ ∀w,(Instr.build t qs.toArray).run P w=.ok u w:=by
 unfold v9t at h;split at h
 ·rename_i fs zero hu hz;obtain ⟨i,z,_,_,hzr,hzv⟩:=Wp (ρ:=ρ) hz;split at h
  ·rename_i pl hpl;simp only [Al] at h;obtain ⟨cells,hc,rfl⟩:=h;obtain ⟨arr,h1,h2⟩:=Qp hc hzr hp;refine ⟨.agg arr,.agg _ _ h2.1 h2.2,fun w=> ?_⟩;have hpr:=z5k hpl w;simp [Instr.build,hzv,run_underlying hu,Array.mapM_eq_mapM_toList,hpr,h1]
  ·cases h
 ·rename_i n e zero hu hz;obtain ⟨i,z,_,_,hzr,hzv⟩:=Wp (ρ:=ρ) hz;split at h
  ·rename_i i hi;simp only [Al] at h;obtain ⟨cells,hc,rfl⟩:=h;obtain ⟨arr,h1,h2⟩:=Qp hc hzr hp;exact ⟨.agg arr,.agg _ _ h2.1 h2.2,fun w=>by simp_all [Instr.build,run_underlying,Zi]⟩
  ·cases h
 ·cases h
theorem Xf (b o n:Nat):(⟨b,o,none⟩:Addr).add n=⟨b,o+n,none⟩:=by
 grind [Addr.add]
theorem Yx.dptr_drop {cs:List AVal} {blk base:Nat} {val:Nat→Value} (hv: ∀(j:Nat) (hj:j<cs.length),Yx ρ.bare cs[j] (val j)) (hh: ∀j,j<cs.length→x7w ρ.fz blk (base+j) (val j)) (k:Nat):
  Yx ρ (.dptr (cs.drop k)) (.pointer (some ⟨blk,base+k,none⟩)):=
 .dptr _ _ _ (fun j=>val (k+j)) (fun j hj=>by grind) (fun j hj=>by grind)
theorem y3e {t:TypeId} {x i v:AVal} {u ui:Value} {b:Bool} (h:y1s P t x i=some (v,b)) (hb:b=true) (hx:Yx ρ x u) (hi:Yx ρ i ui):
  ∃z,Yx ρ v z∧ ∀w,(Instr.indexAt t u ui).run P w=.ok z w:=by
 subst hb;unfold y1s at h;split at h
 ·rename_i len e b off k n hu;cases hi;simp only [Al,Ac,As] at h;obtain ⟨s,hs,rfl,hn⟩:=h;cases hx with
  | ptr _ _ l hl=>refine ⟨_,.ptr _ _ l hl,fun w=> ?_⟩;simp [Instr.indexAt,asIntOf,run_underlying hu,Instr.sureAddr,hn,Zi hs,Xf,Ay]
 ·rename_i len e cs k n hu;cases hi;simp only [Al,Ac,As] at h;obtain ⟨s,hs,rfl,hn⟩:=h;cases hx with
  | dptr _ blk base val hv hh=>refine ⟨_,Yx.dptr_drop hv hh _,fun w=> ?_⟩;simp [Instr.indexAt,asIntOf,run_underlying hu,Instr.sureAddr,hn,Zi hs,Xf]
 ·rename_i e b off len cap k n hu;cases hi;simp only [Al,Ac,As] at h;obtain ⟨s,hs,rfl,hn⟩:=h;cases hx with
  | sl _ _ _ _ l c hl hc dK=>refine ⟨_,.ptr _ _ l hl,fun w=> ?_⟩;simp [Instr.indexAt,asIntOf,run_underlying hu,hn,Zi hs,Xf,Ay]
 ·rename_i e len get k n hu;cases hi;simp only [Al,Ac,Ae,As] at h;obtain ⟨s,hs,rfl,hn,hl⟩:=h;have hl:=Ai hl;cases hx with
  | dat _ _ blk base sz cap val dR hsz hv hh=>
   have hlt:n.toNat<len:=by omega
   have hse:sz=s.size:=by grind
   refine ⟨_,.dptr _ blk (base+n.toNat*s.size) (val n.toNat) (fun j hj=>hv _ j hlt hj) (fun j hj=> ?_),fun w=> ?_⟩
   ·grind
   ·simp [Instr.indexAt,asIntOf,run_underlying hu,hn,Zi hs,Xf]
  | datn=>omega
  | datz=>omega
 ·rename_i e b sz off len cap k n hu;cases hi;simp only [Al,Ac,Ae,As] at h;obtain ⟨s,hs,rfl,hn,hl⟩:=h;have hl:=Ai hl;cases hx with
  | sla _ _ _ _ _ l c hl' hc dK=>refine ⟨_,.epa _ _ _ _ l hl',fun w=> ?_⟩;simp [Instr.indexAt,asIntOf,run_underlying hu,hn,Zi hs,Xf,hl,AS,Ay]
  | slan=>omega
 ·rename_i e b sz off len k n hu;cases hi;simp only [Al,Ac,Ae,As] at h;obtain ⟨s,hs,rfl,hn,hl⟩:=h;have hl:=Ai hl;cases hx with
  | slv _ _ _ _ l c hl' dK=>refine ⟨_,.epa _ _ _ _ l hl',fun w=> ?_⟩;simp [Instr.indexAt,asIntOf,run_underlying hu,hn,Zi hs,Xf,hl,AS,Ay]
  | slve=>omega
  | slvn=>omega
 ·rename_i len e b sz r fo k n hu;cases hi;simp only [Al,Ac,As] at h;obtain ⟨s,hs,rfl,hn⟩:=h;cases hx with
  | epa _ _ _ _ l hl=>refine ⟨_,.epa _ _ _ _ l hl,fun w=> ?_⟩;simp [Instr.indexAt,asIntOf,run_underlying hu,Instr.sureAddr,hn,Zi hs,Xf,Ay]
 ·cases h
theorem y3f {t:TypeId} {x v:AVal} {f:Nat} {u:Value} (h:y1t P t x f=some v) (hx:Yx ρ x u):
  ∃z,Yx ρ v z∧ ∀w,(Instr.fieldAt t u f).run P w=.ok z w:=by
 unfold y1t at h;split at h
 ·rename_i fs hu;split at h
  ·rename_i fd hf;split at h
   ·rename_i i hi;cases hz:Nat.beq i.size 0 with
    | true=>grind
    | false=>
     rw [hz,Aa] at h;have hne:i.size≠0:=fun e=>by simp_all
     split at h
     ·obtain rfl:=Ag h;cases hx with
      | ptr _ _ l hl=>exact ⟨_,.ptr _ _ l hl,fun w=>by simp_all [Instr.fieldAt,run_underlying,Instr.sureAddr,fieldPlace,Zi,Xf]⟩
     ·obtain rfl:=Ag h;cases hx with
      | dptr _ blk base val hv hh=>exact ⟨_,Yx.dptr_drop hv hh _,fun w=>by simp_all [Instr.fieldAt,run_underlying,Instr.sureAddr,fieldPlace,Zi,Xf]⟩
     ·obtain rfl:=Ag h;cases hx with
      | epa _ _ _ _ l hl=>exact ⟨_,.epa _ _ _ _ l hl,fun w=>by simp_all [Instr.fieldAt,run_underlying,Instr.sureAddr,fieldPlace,Zi,Xf]⟩
     ·cases h
   ·cases h
  ·cases h
 ·cases h
theorem x7m {t:TypeId} {x v:AVal} {f:Nat} {u:Value} (h:v9r P t x f=some v) (hx:Yx ρ x u):
  ∃z,Yx ρ v z∧ ∀w,(Instr.field t u f).run P w=.ok z w:=by
 unfold v9r at h;split at h
 ·rename_i fs cs hu;split at h
  ·rename_i fd hf;cases hx with
   | agg _ vs hl hh=>obtain ⟨z,hz,hr⟩:=Kv h ⟨hl,hh⟩;simp_all [Instr.field,run_underlying,asAgg]
  ·cases h
 ·cases h
theorem x7l {t:TypeId} {x i v:AVal} {u ui:Value} {b:Bool} (h:v9q P t x i=some (v,b)) (hb:b=true) (hx:Yx ρ x u) (hi:Yx ρ i ui):
  ∃z,Yx ρ v z∧ ∀w,(Instr.index t u ui).run P w=.ok z w:=by
 subst hb;unfold v9q at h;split at h
 ·rename_i len e cs k n hu;cases hi;split at h
  ·rename_i s hs;simp only [Al,Ac,As] at h;obtain ⟨v,hp,rfl,hn⟩:=h;cases hx with
   | agg _ vs hl hh=>obtain ⟨z,hz,hr⟩:=Kv hp ⟨hl,hh⟩;simp_all [Instr.index,asIntOf,run_underlying,Zi]
  ·cases h
 ·rename_i s k n hu;cases hi;cases hx;simp only [Al,Ac,As] at h;obtain ⟨c,hc,rfl,hn⟩:=h;refine ⟨_,.int _ _,fun w=> ?_⟩;obtain ⟨hlt,rfl⟩:=A9.1 hc;have e:(⟨s.toArray⟩:ByteArray)[n.toNat]? =some s[n.toNat]:=by rw [getElem?_pos _ _ (by simpa [ByteArray.size] using hlt)];simp [ByteArray.getElem_eq_getElem_data]
  simp_all [Instr.index,asIntOf,run_underlying]
 ·cases h
theorem y6w {k:IntKind}: ∀{r:List AVal} {x n:Int} {us:List Value},y6x k x r=some n→Vk (Yx ρ) r us→ ∀w,(us.foldlM Builtin.min2 (.int k x)).run P w=.ok (.int k n) w
 | [],x,n,_,h,hr,w=>by cases hr;simp [y6x] at h;subst h;simp
 | a::r,x,n,_,h,hr,w=>by
  cases hr with
  | cons ha hrs=>
   cases a <;> simp only [y6x,z0r] at h <;> try (cases h;done)
   cases ha;have:=y6w h hrs w;simp [List.foldlM_cons,Builtin.min2,this]
theorem y6y {k:IntKind}: ∀{r:List AVal} {x n:Int} {us:List Value},y6z k x r=some n→Vk (Yx ρ) r us→ ∀w,(us.foldlM Builtin.max2 (.int k x)).run P w=.ok (.int k n) w
 | [],x,n,_,h,hr,w=>by cases hr;simp [y6z] at h;subst h;simp
 | a::r,x,n,_,h,hr,w=>by
  cases hr with
  | cons ha hrs=>
   cases a <;> simp only [y6z,z0s] at h <;> try (cases h;done)
   cases ha;have:=y6y h hrs w;simp [List.foldlM_cons,Builtin.max2,this]
theorem y8y {bi:Builtin} {ts:Array TypeId} {type:TypeId} {xs:List AVal} {us:Array Value} {v:AVal} (h:y5n P bi ts.toList xs=some v) (hx:Vk (Yx ρ) xs us.toList):
  ∃z,Yx ρ v z∧ ∀(cst:Array Bool) (w:World),(builtin bi ts type cst us).run P w=.ok (.value z) w:=by
 obtain ⟨ts⟩:=ts;obtain ⟨us⟩:=us;simp only at h hx;unfold y5n at h;split at h
 ·rename_i t _ x _;cases hx with
  | cons ha _=>
   split at h
   ·rename_i hu;cases ha;obtain rfl:=Ag h;exact ⟨_,.int _ _,fun cst w=>by simp [builtin,Builtin.len_,run_underlying hu,goInt,←ByteArray.size_data]⟩
   ·rename_i hu;obtain rfl:=Ag h;exact ⟨_,.int _ _,fun cst w=>by simp [builtin,Builtin.len_,run_underlying hu,goInt]⟩
   all_goals first
    | (rename_i hu
       obtain rfl:=Ag h;cases ha <;> exact ⟨_,.int _ _,fun cst w=>by simp [builtin,Builtin.len_,run_underlying hu,goInt]⟩)
    | grind
 ·rename_i k x r;cases hx with
  | cons ha hr=>cases ha;simp only [Al] at h;obtain ⟨n,hn,rfl⟩:=h;have:=y6w (P:=P) hn hr;exact ⟨_,.int _ _,fun cst w=>by simp [builtin,Builtin.min_,this]⟩
 ·rename_i k x r;cases hx with
  | cons ha hr=>cases ha;simp only [Al] at h;obtain ⟨n,hn,rfl⟩:=h;have:=y6y (P:=P) hn hr;exact ⟨_,.int _ _,fun cst w=>by simp [builtin,Builtin.max_,this]⟩
 ·rename_i t _ x _;cases hx with
  | cons ha _=>
   split at h
   ·rename_i hu;obtain rfl:=Ag h;cases ha with
    | sl _ _ _ _ l c hl hc dK=>simp only [z1j] at hc;subst hc;exact ⟨_,.int _ _,fun cst w=>by simp [builtin,Builtin.cap_,run_underlying hu,goInt]⟩
   ·rename_i hu;obtain rfl:=Ag h;cases ha;exact ⟨_,.int _ _,fun cst w=>by simp [builtin,Builtin.cap_,run_underlying hu,goInt]⟩
   ·cases h
 ·cases h
end
section
variable {P:Program} {ρ:Rho}
theorem Ye (isSlice:Bool) (len cap m h l:Nat) (low high max:Option Value) (hm:(max=none∧m=cap)∨(∃k,max=some (.int k m)∧m≤cap))
  (hh:(high=none∧max=none∧h=len)∨(∃k,high=some (.int k h)∧h≤m)) (hl:(low=none∧l=0)∨ ∃k,low=some (.int k l)∧l≤h) (w:World):
  (Instr.sliceBounds isSlice len cap low high max).run P w=.ok (l,h,m) w:=by
 have nn: ∀n:Nat,(0:Int)≤n:=fun n=>Int.natCast_nonneg n;rcases hm with ⟨rfl,rfl⟩ | ⟨km,rfl,hm⟩
 ·rcases hh with ⟨rfl,_,rfl⟩ | ⟨kh,rfl,hh⟩
  ·rcases hl with ⟨rfl,rfl⟩ | ⟨kl,rfl,hl⟩;all_goals simp_all [Instr.sliceBounds,Instr.sliceBound,asIntOf]
  ·rcases hl with ⟨rfl,rfl⟩ | ⟨kl,rfl,hl⟩;all_goals simp_all [Instr.sliceBounds,Instr.sliceBound,asIntOf]
 ·rcases hh with ⟨rfl,e,_⟩ | ⟨kh,rfl,hh⟩
  ·cases e
  ·rcases hl with ⟨rfl,rfl⟩ | ⟨kl,rfl,hl⟩;all_goals simp_all [Instr.sliceBounds,Instr.sliceBound,asIntOf]
theorem Ys {ev:Operand→AVal} {ec:Operand→Value} {o:Option Operand} {d n:Nat} {b:Bool} (h:z3u ev o d=some (n,b)) (hb:b=true) (hr: ∀x,o=some x→Yx ρ (ev x) (ec x)):
  (o=none∧n=d)∨ ∃k,o.map ec=some (.int k n):=by
 subst hb;unfold z3u at h;cases o with
 | none=>grind
 | some x=>
  right;have hx:=hr x rfl;simp only at h;split at h
  ·rename_i k i e;simp only [Ad,Ac,As] at h;obtain ⟨rfl,h0⟩:=h;rw [e] at hx;refine ⟨k,?_⟩;simp only [Option.map_some];rw [show ((i.toNat:Nat):Int)=i by omega];generalize ec x=u at hx ⊢;cases hx;rfl
  ·cases h
theorem x4k (c:Bool) (b o off k:Nat) (m l:Nat) (_:Nat.beq m l=c):(if m=l then some (⟨b,o+off,none⟩:Addr) else some ((⟨b,o+off,none⟩:Addr).add k))=some ⟨b,o+(bif Nat.beq m l then off else off+k),none⟩:=by
 by_cases h:m=l
 ·simp_all
 ·rw [AF h,show Nat.beq m l=false from A2.2 fun e=>h (Ai e),Xf,Ay];rfl
theorem x7k {ev:Operand→AVal} {ec:Operand→Value} {t:TypeId} {x:Operand} {lo hi mx:Option Operand} {v:AVal} {b:Bool} (h:v9o P ev t x lo hi mx=some (v,b)) (hb:b=true)
  (hx:Yx ρ (ev x) (ec x)) (hlo: ∀y,lo=some y→Yx ρ (ev y) (ec y)) (hhi: ∀y,hi=some y→Yx ρ (ev y) (ec y)) (hmx: ∀y,mx=some y→Yx ρ (ev y) (ec y)):
  ∃z,Yx ρ v z∧ ∀w,(Instr.sliceAt t (ec x) (lo.map ec) (hi.map ec) (mx.map ec)).run P w=.ok z w:=by
 subst hb;unfold v9o at h;split at h
 ·rename_i e hu hev;rw [hev] at hx;split at h
  ·rename_i s l a hh b hs hl hh';simp only [Ad,Ac,Ae] at h;obtain ⟨rfl,⟨⟨ha,hb⟩,h1⟩,h2⟩:=h;have e1:=Ai h1;have e2:=Ai h2;subst e1;subst e2;have q1:=Ys hl ha hlo;have q2:=Ys hh' hb hhi;generalize hw:ec x=u at hx;cases hx;refine ⟨_,.nils,fun w=> ?_⟩;have sb:=Ye (P:=P) true 0 0 0 0 0 (lo.map ec) (hi.map ec) none (.inl ⟨rfl,rfl⟩)
    (q2.elim (fun q=>.inl ⟨by rw [q.1];rfl,rfl,rfl⟩) (fun ⟨k,q⟩=>.inr ⟨k,q,Aq _⟩)) (q1.elim (fun q=>.inl ⟨by rw [q.1];rfl,rfl⟩) (fun ⟨k,q⟩=>.inr ⟨k,q,Aq _⟩))
   simp_all [Instr.sliceAt,Instr.slice,run_underlying,Zi]
  ·cases h
 ·rename_i e b off len c hu hev;rw [hev] at hx;split at h
  ·rename_i s m x1 hh x2 l x3 hs hm hhi' hl;split at h
   ·cases h
   ·rename_i hno;simp only [Ad,Ac,Ae] at h;obtain ⟨rfl,⟨⟨⟨⟨h1,h2⟩,h3⟩,h4⟩,h5⟩,h6⟩:=h;have h4:=Ak h4;have h5:=Ak h5;have h6:=Ak h6;have q0:=Ys hm h1 hmx;have q1:=Ys hl h3 hlo;have q2:=Ys hhi' h2 hhi;generalize hw:ec x=u at hx;cases hx with
    | sl _ _ _ _ lc c' hρ hc _=>
     simp only [z1j] at hc;subst hc;refine ⟨_,.sl _ _ _ _ lc _ hρ rfl (by omega),fun w=> ?_⟩;have sb:=Ye (P:=P) true len c' m hh l (lo.map ec) (hi.map ec) (mx.map ec) (q0.elim (fun q=>.inl ⟨by rw [q.1];rfl,q.2⟩) (fun ⟨k,q⟩=>.inr ⟨k,q,h4⟩))
      (q2.elim (fun q=>.inl ⟨by rw [q.1];rfl,by
       simp_all,q.2⟩) (fun ⟨k,q⟩=>.inr ⟨k,q,h5⟩)) (q1.elim (fun q=>.inl ⟨by rw [q.1];rfl,q.2⟩) (fun ⟨k,q⟩=>.inr ⟨k,q,h6⟩)) w
     simp [Instr.sliceAt,Instr.slice,run_underlying hu,sb,Zi hs];exact x4k _ _ _ _ _ _ _ rfl
  ·cases h
 ·rename_i e b off len zz hu hev;rw [hev] at hx;split at h
  ·rename_i s hh x2 l x3 hs hhi' hl;cases hz:Nat.beq zz s.size with
   | false=>grind
   | true=>
    rw [hz,Ab] at h;have hz:=Ai hz;rcases (by cases hlo':(Nat.beq hh l&&Nat.ble 1 l) with
      | true=>rw [hlo',Ab] at h;exact .inl ⟨rfl,h⟩
      | false=>rw [hlo',Aa] at h;exact .inr h:((Nat.beq hh l&&Nat.ble 1 l)=true∧some _=some _)∨(some _=some _)) with ⟨hq,h⟩ | h
    ·simp only [Ad,Ac,Ae] at h hq;obtain ⟨rfl,⟨h2,h3⟩,h5⟩:=h;obtain rfl:=Ai hq.1;have h5:=Ak h5;have q1:=Ys hl h3 hlo;have q2:=Ys hhi' h2 hhi;generalize hw:ec x=u at hx;cases hx with
     | sl _ _ _ _ lc c hρ hc dK=>
      have sb:=Ye (P:=P) true len c c hh hh (lo.map ec) (hi.map ec) none (.inl ⟨rfl,rfl⟩)
       (q2.elim (fun q=>.inl ⟨by rw [q.1];rfl,rfl,q.2⟩) (fun ⟨k,q⟩=>.inr ⟨k,q,by omega⟩)) (q1.elim (fun q=>.inl ⟨by rw [q.1];rfl,q.2⟩) (fun ⟨k,q⟩=>.inr ⟨k,q,Aq _⟩))
      have e0: ∀(base:Nat),Yx ρ (.dat 0 fun _=>[]) (.slice (some ⟨lc.blk,base,none⟩) 0 (c - hh)):=fun base=>
       .dat 0 _ lc.blk base 0 (c - hh) (fun _ _=>undef) (AC _) (fun i hi=>absurd hi (AG _)) (fun i j hi=>absurd hi (AG _)) (fun i j hi=>absurd hi (AG _))
      by_cases hcl:c=hh
      ·subst hcl;refine ⟨_,e0 (lc.base+off),fun w=> ?_⟩;simp [Instr.sliceAt,Instr.slice,run_underlying hu,sb,Zi hs]
      ·refine ⟨_,e0 (lc.base+off+hh*s.size),fun w=> ?_⟩;simp [Instr.sliceAt,Instr.slice,run_underlying hu,sb,Zi hs,AF hcl,Xf]
    simp only [Ad,Ac,Ae,Bt] at h;obtain ⟨rfl,⟨⟨⟨h2,h3⟩,h5⟩,h6⟩,h7⟩:=h;have h5:=Ak h5;have h6:=Ak h6;have q1:=Ys hl h3 hlo;have q2:=Ys hhi' h2 hhi;generalize hw:ec x=u at hx;cases hx with
    | sl _ _ _ _ lc c hρ hc dK=>
     simp only [z1j] at hc;have hlc:l≤c:=(by omega);have hmul:l*s.size+(c - l)*zz=c*zz:=by rw [hz,←AS];grind
     refine ⟨.slice (some ⟨lc.blk,lc.base+(off+l*s.size),none⟩) (hh - l) (c - l),.sl _ _ _ _ lc _ hρ ?_ (by omega),fun w=> ?_⟩
     ·simp only [z1j];omega
     ·have sb:=Ye (P:=P) true len c c hh l (lo.map ec) (hi.map ec) none (.inl ⟨rfl,rfl⟩)
       (q2.elim (fun q=>.inl ⟨by rw [q.1];rfl,rfl,q.2⟩) (fun ⟨k,q⟩=>.inr ⟨k,q,by omega⟩)) (q1.elim (fun q=>.inl ⟨by rw [q.1];rfl,q.2⟩) (fun ⟨k,q⟩=>.inr ⟨k,q,h6⟩)) w
      simp [Instr.sliceAt,Instr.slice,run_underlying hu,sb,Zi hs];by_cases hcl:c=l
      ·rw [AL hcl];rcases h7 with h7 | h7
       ·have:=Ak h7;omega
       simp_all
      grind [Xf]
  ·rename_i s y hh x2 l x3 hs hhi' hl;split at h
   ·rename_i m x1 hm;cases hz:(Nat.beq zz s.size&&hi.isSome) with
    | false=>grind
    | true=>
     rw [hz,Ab] at h;simp only [Ad,Ac,Ae] at h hz;obtain ⟨rfl,⟨⟨⟨⟨h1,h2⟩,h3⟩,h4⟩,h5⟩,h6⟩:=h;have h4:=Ak h4;have h5:=Ak h5;have h6:=Ak h6;have q0:=Ys hm h1 hmx;have q1:=Ys hl h3 hlo;have q2:=Ys hhi' h2 hhi;generalize hw:ec x=u at hx;cases hx with
     | sl _ _ _ _ lc c hρ _ dK=>
      refine ⟨_,.sl _ _ _ _ lc _ hρ rfl (by omega),fun w=> ?_⟩;have sb:=Ye (P:=P) true len c m hh l (lo.map ec) (hi.map ec) ((some y).map ec) (q0.elim (fun q=>by cases q.1) (fun ⟨k,q⟩=>.inr ⟨k,q,by omega⟩))
       (q2.elim (fun q=>by grind) (fun ⟨k,q⟩=>.inr ⟨k,q,h5⟩)) (q1.elim (fun q=>.inl ⟨by rw [q.1];rfl,q.2⟩) (fun ⟨k,q⟩=>.inr ⟨k,q,h6⟩)) w
      simp only [Option.map_some] at sb;simp [Instr.sliceAt,Instr.slice,run_underlying hu,sb,Zi hs];exact x4k _ _ _ _ _ _ _ rfl
   ·cases h
  ·cases h
 ·rename_i e b sz off len zz hu hev;rw [hev] at hx;split at h
  ·rename_i s hh x2 l x3 hs hhi' hl;cases hz:(Nat.beq zz s.size&&Nat.beq sz zz) with
   | false=>grind
   | true=>
    rw [hz,Ab] at h;simp only [Ae] at hz;have hz1:=Ai hz.1;obtain rfl:=Ai hz.2;subst hz1;rcases (by cases hlo':lo.isSome with
      | true=>rw [hlo',Ab] at h;exact .inl h
      | false=>rw [hlo',Aa] at h;exact .inr h:(some _=some _)∨(some _=some _)) with h | h
    ·simp only [Ad,Ac,Ae,As] at h;obtain ⟨rfl,h2,h3,h5,h6⟩:=h;have q1:=Ys hl h3 hlo;have q2:=Ys hhi' h2 hhi;generalize hw:ec x=u at hx;cases hx with
     | sla _ _ _ _ _ lc c hρ hc dK=>
      have hlc:l≤c:=(by omega);have sb:=Ye (P:=P) true len c c hh l (lo.map ec) (hi.map ec) none (.inl ⟨rfl,rfl⟩)
       (q2.elim (fun q=>.inl ⟨by rw [q.1];rfl,rfl,q.2⟩) (fun ⟨k,q⟩=>.inr ⟨k,q,by omega⟩)) (q1.elim (fun q=>.inl ⟨by rw [q.1];rfl,q.2⟩) (fun ⟨k,q⟩=>.inr ⟨k,q,h6⟩))
      by_cases hcl:c=l
      ·subst hcl;have e0:hh - c=0:=(by omega);rw [e0];refine ⟨_,.slve _ _ _ lc.blk (lc.base+off*s.size) (c - c),fun w=> ?_⟩;simp [Instr.sliceAt,Instr.slice,run_underlying hu,sb,Zi hs,e0]
      ·refine ⟨_,.slv _ _ _ _ lc (c - l) hρ (by omega),fun w=> ?_⟩;simp [Instr.sliceAt,Instr.slice,run_underlying hu,sb,Zi hs,AF hcl,Xf,AS,Ay]
     | slan=>
      obtain rfl:hh=0:=by omega
      obtain rfl:l=0:=by omega
      refine ⟨_,.slvn _ _ _,fun w=> ?_⟩;have sb:=Ye (P:=P) true 0 0 0 0 0 (lo.map ec) (hi.map ec) none (.inl ⟨rfl,rfl⟩)
       (q2.elim (fun q=>.inl ⟨by rw [q.1];rfl,rfl,rfl⟩) (fun ⟨k,q⟩=>.inr ⟨k,q,Aq _⟩)) (q1.elim (fun q=>.inl ⟨by rw [q.1];rfl,rfl⟩) (fun ⟨k,q⟩=>.inr ⟨k,q,Aq _⟩))
      simp_all [Instr.sliceAt,Instr.slice,run_underlying,Zi]
    simp only [Ad,Ac,Ae,Bt,As] at h;obtain ⟨rfl,h2,h3,h5,h6,h7⟩:=h;have q1:=Ys hl h3 hlo;have q2:=Ys hhi' h2 hhi;generalize hw:ec x=u at hx;cases hx with
    | sla _ _ _ _ _ lc c hρ hc dK=>
     simp only [z1j] at hc;have hlc:l≤c:=(by omega);have hmul:l*s.size+(c - l)*s.size=c*s.size:=by rw [←AS];grind
     have hmul2:(off+l)*s.size=off*s.size+l*s.size:=AS _ _ _;refine ⟨.slice (some ⟨lc.blk,lc.base+(off+l)*s.size,none⟩) (hh - l) (c - l),.sla _ _ _ _ _ lc _ hρ ?_ (by omega),fun w=> ?_⟩
     ·simp only [z1j];omega
     ·have sb:=Ye (P:=P) true len c c hh l (lo.map ec) (hi.map ec) none (.inl ⟨rfl,rfl⟩)
       (q2.elim (fun q=>.inl ⟨by rw [q.1];rfl,rfl,q.2⟩) (fun ⟨k,q⟩=>.inr ⟨k,q,by omega⟩)) (q1.elim (fun q=>.inl ⟨by rw [q.1];rfl,q.2⟩) (fun ⟨k,q⟩=>.inr ⟨k,q,h6⟩)) w
      simp [Instr.sliceAt,Instr.slice,run_underlying hu,sb,Zi hs];by_cases hcl:c=l
      ·rw [AL hcl];rcases h7 with h7 | h7
       ·omega
       simp_all
      grind [Xf]
    | slan=>
     obtain rfl:hh=0:=by omega
     obtain rfl:l=0:=by omega
     refine ⟨_,.slan _ _ _ _,fun w=> ?_⟩;have sb:=Ye (P:=P) true 0 0 0 0 0 (lo.map ec) (hi.map ec) none (.inl ⟨rfl,rfl⟩)
      (q2.elim (fun q=>.inl ⟨by rw [q.1];rfl,rfl,rfl⟩) (fun ⟨k,q⟩=>.inr ⟨k,q,Aq _⟩)) (q1.elim (fun q=>.inl ⟨by rw [q.1];rfl,rfl⟩) (fun ⟨k,q⟩=>.inr ⟨k,q,Aq _⟩))
     simp_all [Instr.sliceAt,Instr.slice,run_underlying,Zi]
  ·cases h
 ·rename_i e b sz off len hu hev;rw [hev] at hx;split at h
  ·rename_i s hh x2 l x3 hs hhi' hl;cases hz:Nat.beq sz s.size with
   | false=>grind
   | true=>
    rw [hz,Ab] at h;obtain rfl:=Ai hz;simp only [Ad,Ac,Ae,As] at h;obtain ⟨rfl,h2,h3,h5,h6⟩:=h;have q1:=Ys hl h3 hlo;have q2:=Ys hhi' h2 hhi;generalize hw:ec x=u at hx;cases hx with
    | slv _ _ _ _ lc c hρ dK=>
     have hlc:l≤c:=(by omega);have sb:=Ye (P:=P) true len c c hh l (lo.map ec) (hi.map ec) none (.inl ⟨rfl,rfl⟩)
      (q2.elim (fun q=>.inl ⟨by rw [q.1];rfl,rfl,q.2⟩) (fun ⟨k,q⟩=>.inr ⟨k,q,by omega⟩)) (q1.elim (fun q=>.inl ⟨by rw [q.1];rfl,q.2⟩) (fun ⟨k,q⟩=>.inr ⟨k,q,h6⟩))
     by_cases hcl:c=l
     ·subst hcl;have e0:hh - c=0:=(by omega);rw [e0];refine ⟨_,.slve _ _ _ lc.blk (lc.base+off*s.size) (c - c),fun w=> ?_⟩;simp [Instr.sliceAt,Instr.slice,run_underlying hu,sb,Zi hs,e0]
     ·refine ⟨_,.slv _ _ _ _ lc (c - l) hρ (by omega),fun w=> ?_⟩;simp [Instr.sliceAt,Instr.slice,run_underlying hu,sb,Zi hs,AF hcl,Xf,AS,Ay]
    | slve _ _ _ blk base c=>
     obtain rfl:hh=0:=by omega
     obtain rfl:l=0:=by omega
     have sb:=Ye (P:=P) true 0 c c 0 0 (lo.map ec) (hi.map ec) none (.inl ⟨rfl,rfl⟩)
      (q2.elim (fun q=>.inl ⟨by rw [q.1];rfl,rfl,rfl⟩) (fun ⟨k,q⟩=>.inr ⟨k,q,AC _⟩)) (q1.elim (fun q=>.inl ⟨by rw [q.1];rfl,rfl⟩) (fun ⟨k,q⟩=>.inr ⟨k,q,Aq _⟩))
     refine ⟨_,.slve _ _ _ blk base c,fun w=> ?_⟩;simp_all [Instr.sliceAt,Instr.slice,run_underlying,Zi,Xf]
    | slvn=>
     obtain rfl:hh=0:=by omega
     obtain rfl:l=0:=by omega
     refine ⟨_,.slvn _ _ _,fun w=> ?_⟩;have sb:=Ye (P:=P) true 0 0 0 0 0 (lo.map ec) (hi.map ec) none (.inl ⟨rfl,rfl⟩)
      (q2.elim (fun q=>.inl ⟨by rw [q.1];rfl,rfl,rfl⟩) (fun ⟨k,q⟩=>.inr ⟨k,q,Aq _⟩)) (q1.elim (fun q=>.inl ⟨by rw [q.1];rfl,rfl⟩) (fun ⟨k,q⟩=>.inr ⟨k,q,Aq _⟩))
     simp_all [Instr.sliceAt,Instr.slice,run_underlying,Zi]
  ·cases h
 ·rename_i e len get hu hev;rw [hev] at hx;split at h
  ·rename_i s hh x2 l x3 hs hhi' hl;simp only [Ad,Ac,Ae,As] at h;obtain ⟨rfl,h2,h3,h5,h6,h7⟩:=h;have h7:= @Aw _ (Classical.propDecidable _) h7;have q1:=Ys hl h3 hlo;have q2:=Ys hhi' h2 hhi;generalize hw:ec x=u at hx;cases hx with
   | dat _ _ blk base sz c val dR hsz hv hh'=>
    have hlc:l≤c:=(by omega);have sb:=Ye (P:=P) true len c c hh l (lo.map ec) (hi.map ec) none (.inl ⟨rfl,rfl⟩)
     (q2.elim (fun q=>.inl ⟨by rw [q.1];rfl,rfl,q.2⟩) (fun ⟨k,q⟩=>.inr ⟨k,q,by omega⟩)) (q1.elim (fun q=>.inl ⟨by rw [q.1];rfl,q.2⟩) (fun ⟨k,q⟩=>.inr ⟨k,q,h6⟩))
    by_cases hcl:c=l
    ·subst hcl;have e0:hh - c=0:=(by omega);rw [e0];refine ⟨_,.dat 0 _ blk base s.size (c - c) (fun _ _=>undef) (AC _) (fun i hi=>absurd hi (AG _)) (fun i j hi=>absurd hi (AG _)) (fun i j hi=>absurd hi (AG _)),fun w=> ?_⟩;simp [Instr.sliceAt,Instr.slice,run_underlying hu,sb,Zi hs,e0]
    ·refine ⟨_,.dat (hh - l) (fun k=>get (l+k)) blk (base+l*s.size) s.size (c - l) (fun k=>val (l+k)) (by omega) (fun i hi=>h7 _ (by omega)) (fun i j hi hj=>hv _ j (by omega) hj) (fun i j hi hj=> ?_),fun w=> ?_⟩
     ·grind
     ·simp [Instr.sliceAt,Instr.slice,run_underlying hu,sb,Zi hs,AF hcl,Xf]
   | datn=>
    obtain rfl:hh=0:=by omega
    obtain rfl:l=0:=by omega
    refine ⟨_,.datn _,fun w=> ?_⟩;have sb:=Ye (P:=P) true 0 0 0 0 0 (lo.map ec) (hi.map ec) none (.inl ⟨rfl,rfl⟩)
     (q2.elim (fun q=>.inl ⟨by rw [q.1];rfl,rfl,rfl⟩) (fun ⟨k,q⟩=>.inr ⟨k,q,Aq _⟩)) (q1.elim (fun q=>.inl ⟨by rw [q.1];rfl,rfl⟩) (fun ⟨k,q⟩=>.inr ⟨k,q,Aq _⟩))
    simp_all [Instr.sliceAt,Instr.slice,run_underlying,Zi]
   | datz _ a c=>
    obtain rfl:hh=0:=by omega
    obtain rfl:l=0:=by omega
    have sb:=Ye (P:=P) true 0 c c 0 0 (lo.map ec) (hi.map ec) none (.inl ⟨rfl,rfl⟩)
     (q2.elim (fun q=>.inl ⟨by rw [q.1];rfl,rfl,rfl⟩) (fun ⟨k,q⟩=>.inr ⟨k,q,AC _⟩)) (q1.elim (fun q=>.inl ⟨by rw [q.1];rfl,rfl⟩) (fun ⟨k,q⟩=>.inr ⟨k,q,Aq _⟩))
    by_cases hc0:c=0
    ·subst hc0;refine ⟨_,.datz _ a 0,fun w=> ?_⟩;simp_all [Instr.sliceAt,Instr.slice,run_underlying,Zi]
    ·refine ⟨_,.datz _ (a.add (0*s.size)) c,fun w=> ?_⟩;simp_all [Instr.sliceAt,Instr.slice,run_underlying,Zi]
  ·cases h
 ·rename_i n e b off hu hev;rw [hev] at hx;split at h
  ·rename_i s m x1 hh x2 l x3 hs hm hhi' hl;split at h
   ·cases h
   ·rename_i hno;simp only [Ad,Ac,Ae] at h;obtain ⟨rfl,⟨⟨⟨⟨h1,h2⟩,h3⟩,h4⟩,h5⟩,h6⟩:=h;have h4:=Ak h4;have h5:=Ak h5;have h6:=Ak h6;have q0:=Ys hm h1 hmx;have q1:=Ys hl h3 hlo;have q2:=Ys hhi' h2 hhi;generalize hw:ec x=u at hx;cases hx with
    | ptr _ _ lc hρ=>
     refine ⟨_,.sl _ _ _ _ lc _ hρ rfl (by omega),fun w=> ?_⟩;have sb:=Ye (P:=P) false n n m hh l (lo.map ec) (hi.map ec) (mx.map ec) (q0.elim (fun q=>.inl ⟨by rw [q.1];rfl,q.2⟩) (fun ⟨k,q⟩=>.inr ⟨k,q,h4⟩))
      (q2.elim (fun q=>.inl ⟨by rw [q.1];rfl,by
       simp_all,q.2⟩) (fun ⟨k,q⟩=>.inr ⟨k,q,h5⟩)) (q1.elim (fun q=>.inl ⟨by rw [q.1];rfl,q.2⟩) (fun ⟨k,q⟩=>.inr ⟨k,q,h6⟩)) w
     have bb:=x4k _ lc.blk lc.base off (l*s.size) m l rfl;simp [Instr.sliceAt,run_underlying hu,Instr.sureAddr,sb,Zi hs]
     grind
  ·cases h
 ·cases h
def z0g (ρ:Rho) (ev:Operand→AVal) (ec:Operand→Value) (op:Op):Prop:= ∀x,x∈op.operands→Yx ρ (ev x) (ec x)
theorem z3h {ev:Operand→AVal} {ec:Operand→Value}: ∀(ps:List (Nat×Operand)),(∀p∈ps,Yx ρ (ev p.2) (ec p.2))→z1z ρ (ps.map fun p=>(p.1,ev p.2)) (ps.map fun p=>(p.1,ec p.2)):=fun ps h=>
 Vk.maps _ _ ps fun p hp=>⟨rfl,h p hp⟩
theorem y8c {o:Oper} {ev:Operand→AVal} {ec:Operand→Value} {v:AVal} {b:Bool} (h:Qq P o.op ev=some (v,b)) (hb:b=true) (hr:z0g ρ ev ec o.op):
  ∃u,Yx ρ v u∧ ∀w,(execOp ec o).run P w=.ok (.value u) w:=by
 obtain ⟨dst,op,type,pos,after,guard⟩:=o;simp only at h hr ⊢;have lift: ∀{s:Sem Value},(∃z,Yx ρ v z∧ ∀w,s.run P w=.ok z w)→(∀w,(execOp ec ⟨dst,op,type,pos,after,guard⟩).run P w=(do pure (.value (←s)):Sem Next).run P w)→
   ∃u,Yx ρ v u∧ ∀w,(execOp ec ⟨dst,op,type,pos,after,guard⟩).run P w=.ok (.value u) w:=by
  simp_all
 cases op with
 | move x=>simp only [Qq,Ad,Ac] at h;obtain ⟨rfl,_⟩:=h;exact ⟨ec x,hr x (by simp [Op.operands]),fun w=>rfl⟩
 | assign x=>simp only [Qq,Ad,Ac] at h;obtain ⟨rfl,_⟩:=h;exact ⟨ec x,hr x (by simp [Op.operands]),fun w=>rfl⟩
 | pick c x y=>
  have hc:=hr c (by simp [Op.operands]);have hx:=hr x (by simp [Op.operands]);have hy:=hr y (by simp [Op.operands]);unfold Qq at h;simp only at h;split at h
  ·rename_i cb e;rw [e] at hc;generalize hw:ec c=u at hc;cases hc;simp only [Ad,Ac] at h;obtain ⟨rfl,_⟩:=h;cases cb;all_goals simp_all [execOp,asBool]
  ·cases h
 | build t parts=>
  simp only [Qq,Al,Ac] at h;obtain ⟨v',hv,rfl,_⟩:=h;refine lift (x7q hv (z3h _ fun p hp=>hr p.2 ?_)) fun w=> ?_
  ·grind [Op.operands]
  ·have:(parts.map fun (i,x)=>(i,ec x))=(parts.toList.map fun p=>(p.1,ec p.2)).toArray :=by
    grind
   simp only [execOp,this]
 | nilCheck x=>
  have hx:=hr x (by simp [Op.operands]);unfold Qq at h;simp only at h;split at h;all_goals first
   | (rename_i e
      rw [e] at hx;simp only [Ad,Ac] at h;obtain ⟨rfl,_⟩:=h;refine ⟨ec x,hx,fun w=> ?_⟩;generalize hw:ec x=u at hx;cases hx <;> simp [execOp,hw])
   | cases h
 | binOp op t x y yt=>have hx:=hr x (by simp [Op.operands]);have hy:=hr y (by simp [Op.operands]);exact lift (v2a (by simpa only [Qq] using h) hb hx hy x y) fun w=>rfl
 | unOp op t x=>have hx:=hr x (by simp [Op.operands]);simp only [Qq,Al,Ac] at h;obtain ⟨v',hv,rfl,_⟩:=h;exact lift (v9n hv hx) fun w=>rfl
 | convert src dst' x=>
  have hx:=hr x (by simp [Op.operands]);unfold Qq at h;simp only at h;split at h
  ·rename_i sd k k' n hs hu e;rw [e] at hx;generalize hw:ec x=u at hx;cases hx;simp only [Ad,Ac] at h;obtain ⟨rfl,_⟩:=h;refine ⟨_,.int _ _,fun w=> ?_⟩;cases sd <;> simp [execOp,Go.convert,hw,run_underlying hs,run_underlying hu,Conv.intToInt]
  ·cases h
 | makeInterface t x=>
  have hx:=hr x (by simp [Op.operands]);unfold Qq at h;simp only at h;split at h
  ·cases h
  ·cases h
  ·rename_i d hni hu;simp only [Ad,Ac] at h;obtain ⟨rfl,_⟩:=h;refine ⟨_,.ifc t _ _ hx,fun w=> ?_⟩;simp_all [execOp,Instr.makeInterface,run_underlying]
 | makeFunc fn first captured=>
  cases fn with
  | func f=>
   unfold Qq at h;simp only at h;cases hf:first.isEmpty with
   | false=>
    rw [hf,Aa] at h;cases hc:captured.isEmpty with
    | false=>grind
    | true=>
     rw [hc,Ab] at h;simp only [Ad,Ac] at h;obtain ⟨rfl,_⟩:=h;have hc:captured= #[]:=(by grind);subst hc;refine ⟨_,.fnb f _ (first.map ec) (by simp) fun i h1 h2=> ?_,fun w=>by simp [execOp,Instr.makeFunc]⟩;have:i<first.size:=by grind
     simpa using hr first[i] (by simp [Op.operands])
   | true=>
    rw [hf,Ab] at h;simp only [Ad,Ac] at h;obtain ⟨rfl,_⟩:=h;have hf:first= #[]:=by grind
    subst hf;refine ⟨_,.fn f _ (captured.map ec) (by simp) fun i h1 h2=> ?_,fun w=>by simp [execOp,Instr.makeFunc]⟩;have:i<captured.size:=by grind
    simpa using hr captured[i] (by simp [Op.operands])
  | _=>simp [Qq] at h
 | fieldAddr t x f=>have hx:=hr x (by simp [Op.operands]);simp only [Qq,Al,Ac] at h;obtain ⟨v',hv,rfl,_⟩:=h;exact lift (y3f hv hx) fun w=>rfl
 | field t x f=>have hx:=hr x (by simp [Op.operands]);simp only [Qq,Al,Ac] at h;obtain ⟨v',hv,rfl,_⟩:=h;exact lift (x7m hv hx) fun w=>rfl
 | indexAddr t x i=>have hx:=hr x (by simp [Op.operands]);have hi:=hr i (by simp [Op.operands]);exact lift (y3e (by simpa only [Qq] using h) hb hx hi) fun w=>rfl
 | index t x i=>have hx:=hr x (by simp [Op.operands]);have hi:=hr i (by simp [Op.operands]);exact lift (x7l (by simpa only [Qq] using h) hb hx hi) fun w=>rfl
 | extract x i=>
  have hx:=hr x (by simp [Op.operands]);unfold Qq at h;simp only at h;split at h
  ·rename_i vs e;rw [e] at hx;simp only [Al,Ac] at h;obtain ⟨v',hv,rfl,_⟩:=h;obtain ⟨hlt,rfl⟩:=A9.1 hv;generalize hw:ec x=u at hx;cases hx with
   | tup _ us hl hh=>have h2:i<us.size:=(by omega);simp_all [execOp,Instr.extract]
  ·cases h
 | slice t x lo hi mx=>
  refine lift (x7k (by simpa only [Qq] using h) hb (hr x (by simp [Op.operands])) (fun y hy=>hr y ?_) (fun y hy=>hr y ?_) (fun y hy=>hr y ?_)) fun w=>rfl;all_goals grind [Op.operands]
 | call c=>
  obtain ⟨callee,args,argTypes⟩:=c;cases callee with
  | builtin bi=>
   simp only [Qq,Al,Ac] at h;obtain ⟨v',hv,rfl,_⟩:=h;obtain ⟨z,hz,hs⟩:=y8y (ts:=argTypes) (us:=args.map ec) (type:=type) hv (by
    rw [Bp];exact Vk.maps _ _ _ fun a ha=>hr a (by grind [Op.operands,Call.operands]))
   simp_all [execOp,resolve,invoke]
  | value f=>simp [Qq] at h
  | invoke r m=>simp [Qq] at h
 | _=>simp [Qq] at h
end
section
variable {P:Program} {ρ:Rho}
def z7x (ρ:Rho) (w:World) (blk o:Nat) (cs:List AVal):Prop:=
 ∀(i:Nat) (h:i<cs.length),∃v,w.cell? ⟨blk,o+i,none⟩=some v∧Yx ρ cs[i] v
theorem Rel.cellsAt {mem:Mem} {next:Nat} {w:World} (h:Rel ρ mem next w) {b:Nat} {l:Loc} {ab:ABlk} (hb:ρ b=some l) (hm:Yi mem b=some ab):z7x ρ w l.blk l.base ab.cells:=by
 obtain ⟨_,_,_,cs,el,h1,h2,h3⟩:=h.blk b l ab hb hm;intro i hi
 grind [World.cell?]
theorem Rel.dataAt {mem:Mem} {next:Nat} {w:World} (h:Rel ρ mem next w) {cs:List AVal} {blk base:Nat} {val:Nat→Value} (hv: ∀(j:Nat) (hj:j<cs.length),Yx ρ.bare cs[j] (val j))
  (hh: ∀j,j<cs.length→x7w ρ.fz blk (base+j) (val j)):z7x ρ w blk base cs:=by
 intro i hi;obtain ⟨arr,el,fz,e,f⟩:=hh i hi;have:=h.old _ _ e;exact ⟨val i,by simp [World.cell?,this,f],(hv i hi).mono (y7z ρ)⟩
theorem z7x.load {w:World} {blk o:Nat} {cs:List AVal} (h:z7x ρ w blk o cs) {off n:Nat} (hn:off+n≤cs.length∨n=0):
  ∃vs:Array Value,vs.size=n∧(∀(i:Nat) (h1:off+i<cs.length) (h2:i<vs.size),Yx ρ cs[off+i] vs[i])∧(loadCells ⟨blk,o+off,none⟩ n).run P w=.ok vs w:=by
 have hc: ∀j,j<n→w.cell? ((⟨blk,o+off,none⟩:Addr).add j)=some ((w.cell? ⟨blk,o+(off+j),none⟩).getD undef):=by intro j hj;obtain ⟨v,e,_⟩:=h (off+j) (by omega);rw [Xf,Ay,e];rfl
 refine ⟨_,?_,?_,run_loadCells w _ n (fun j=>(w.cell? ⟨blk,o+(off+j),none⟩).getD undef) hc⟩
 ·simp
 ·intro i h1 h2;obtain ⟨v,e,f⟩:=h (off+i) h1
  grind
theorem z7x.part {w:World} {blk o:Nat} {cs:List AVal} (h:z7x ρ w blk o cs) {t:TypeId} {off:Nat} {v:AVal} (hp:z2m P t cs off=some v):
  ∃z,Yx ρ v z∧(loadVar t ⟨blk,o+off,none⟩).run P w=.ok z w:=by
 unfold z2m at hp;split at hp
 ·rename_i i ha hi;simp only [Al] at hp;obtain ⟨p,hc,rfl⟩:=hp;obtain ⟨_,hl,hle⟩:=z6g hc;obtain ⟨vs,hs,hv,hr⟩:=h.load (P:=P) (off:=off) (n:=i.size) (by omega);refine ⟨.agg vs,.agg _ _ (by omega) fun j h1 h2=> ?_,?_⟩
  ·grind
  simp_all [loadVar,z6c,Zi]
 ·rename_i i ha hi;obtain ⟨hlt,rfl⟩:=A9.1 hp;obtain ⟨v,e,f⟩:=h off hlt;simp_all [loadVar,z6c]
 ·cases hp
theorem y8e {mem:Mem} {next:Nat} {w:World} (h:Rel ρ mem next w) {t:TypeId} {x v:AVal} {u:Value} (hl:w4b P mem t x=some v) (hx:Yx ρ x u):
  ∃z,Yx ρ v z∧(Instr.loadAt t u).run P w=.ok z w:=by
 unfold w4b at hl;split at hl
 ·split at hl
  ·rename_i b off _ blk hm;cases hx with
   | ptr _ _ l hρ=>
    obtain ⟨z,hz,hr⟩:=(h.cellsAt hρ hm).part hl
    grind [Instr.loadAt,Instr.sureAddr]
  ·cases hl
 ·cases hx with
  | dptr _ blk base val hv hh=>
   obtain ⟨z,hz,hr⟩:=(h.dataAt hv hh).part hl
   grind [Instr.loadAt,Instr.sureAddr]
 ·cases hl
theorem z8i (n:Nat) (get:Nat→List AVal):Ym (n+1) get=Ym n get++get n:=by unfold Ym;rw [BC,List.flatMap_append];simp
theorem Yb {get:Nat→List AVal} {sz:Nat}: ∀(n:Nat),(∀i,i<n→(get i).length =sz)→(Ym n get).length =n*sz
 | 0,_=>by simp [Ym]
 | n+1,h=>by rw [z8i,AH,Yb n fun i hi=>h i (by omega),h n (by omega),AS,BM]
theorem Vu {get:Nat→List AVal} {sz:Nat}: ∀(n:Nat),(∀i,i<n→(get i).length =sz)→ ∀(r j:Nat),r<n→j<sz→(Ym n get)[r*sz+j]? =(get r)[j]?
 | 0,_,r,j,hr,_=>by omega
 | n+1,h,r,j,hr,hj=>by
  have hl:=Yb n fun i hi=>h i (by omega);rw [z8i];by_cases e:r=n
  ·subst e;rw [List.getElem?_append_right (by omega),hl]
   congr 1;omega
  ·have hlt:r<n:=by omega
   have:(r+1)*sz≤n*sz:=AA sz hlt;rw [AS,BM] at this;rw [List.getElem?_append_left (by omega)];exact Vu n (fun i hi=>h i (by omega)) r j hlt hj
theorem Rel.rowAt {mem:Mem} {next:Nat} {w:World} (h:Rel ρ mem next w) {b:Nat} {l:Loc} {ab:ABlk} {A:Arr} (hb:ρ b=some l) (hm:Yi mem b=some ab) (hA:ab.arr=some A) {r:Nat} (hr:r<A.n):z7x ρ w l.blk (l.base+r*A.sz) (A.get r):=by
 obtain ⟨_,_,har,_⟩:=h.blk b l ab hb hm;obtain ⟨e1,_,e3⟩:=har A hA;intro i hi;have hsz:=e3 r hr;have hg:=Vu A.n e3 r i hr (by omega);rw [Au hi,←e1] at hg;obtain ⟨hlt,hge⟩:=A9.1 hg;obtain ⟨v,e,f⟩:=h.cellsAt hb hm (r*A.sz+i) hlt
 grind
theorem y2v {mem:Mem} {next:Nat} {w:World} (h:Rel ρ mem next w) {t:TypeId} {x v:AVal} {u:Value} (hl:y8f P mem t x=some (v,true)) (hx:Yx ρ x u):
  ∃z,Yx ρ v z∧(Instr.loadAt t u).run P w=.ok z w:=by
 unfold y8f at hl;split at hl
 ·split at hl
  ·rename_i b sz r fo _ blk hm;split at hl
   ·rename_i A hA;simp only [Al,Ac,Ae,As] at hl;obtain ⟨v',hp,rfl,hs,hr⟩:=hl;obtain rfl:=Ai hs;cases hx with
    | epa _ _ _ _ l hρ=>
     obtain ⟨z,hz,dL⟩:=(h.rowAt hρ hm hA hr).part hp
     grind [Instr.loadAt,Instr.sureAddr]
   ·cases hl
  ·cases hl
 ·simp only [Al,Ac,Bk] at hl
  grind [y8e]
theorem y5r {st st':St} {b e:Bool} (h:st.test b=(e,st')):st'.env=st.env∧st'.mem=st.mem∧st'.next=st.next∧(st'.ob=true→e=b∧st.ob=true):=by
 obtain ⟨env,mem,next,orc,ob⟩:=st;cases orc with
 | nil=>
  grind [St.test]
 | cons c r=>
  grind [St.test]
theorem z1p : ∀(rw:Rws) (r:Nat) (st:St) (cs:List AVal) (st1:St),z5b rw r st=(cs,st1)→st1.env=st.env∧st1.mem=st.mem∧st1.next=st.next∧(st1.ob=true→cs=rw.get r∧st.ob=true)
 | .flat g,r,st,cs,st1,h=>by simp only [z5b,Ac] at h;obtain ⟨rfl,rfl⟩:=h;exact ⟨rfl,rfl,rfl,fun h=>⟨rfl,h⟩⟩
 | .one r0 c0 b,r,st,cs,st1,h=>by
  unfold z5b at h;split at h;rename_i e st2 ht;obtain ⟨t1,t2,t3,t4⟩:=y5r ht;cases e with
  | true=>simp only [Ab,Ac] at h;obtain ⟨rfl,rfl⟩:=h;exact ⟨t1,t2,t3,fun ho=>⟨by simp only [Rws.get];rw [←(t4 ho).1];rfl,(t4 ho).2⟩⟩
  | false=>rw [Aa] at h;obtain ⟨p1,p2,p3,p4⟩:=z1p b r st2 cs st1 h;refine ⟨p1.trans t1,p2.trans t2,p3.trans t3,fun ho=> ?_⟩;obtain ⟨q1,q2⟩:=p4 ho;exact ⟨by simp only [Rws.get];rw [←(t4 q2).1];exact q1,(t4 q2).2⟩
 | .alt c a b,r,st,cs,st1,h=>by
  unfold z5b at h;split at h;rename_i e st2 ht;obtain ⟨t1,t2,t3,t4⟩:=y5r ht;cases e with
  | true=>rw [Ab] at h;obtain ⟨p1,p2,p3,p4⟩:=z1p a r st2 cs st1 h;refine ⟨p1.trans t1,p2.trans t2,p3.trans t3,fun ho=> ?_⟩;obtain ⟨q1,q2⟩:=p4 ho;exact ⟨by simp only [Rws.get];rw [←(t4 q2).1];exact q1,(t4 q2).2⟩
  | false=>rw [Aa] at h;obtain ⟨p1,p2,p3,p4⟩:=z1p b r st2 cs st1 h;refine ⟨p1.trans t1,p2.trans t2,p3.trans t3,fun ho=> ?_⟩;obtain ⟨q1,q2⟩:=p4 ho;exact ⟨by simp only [Rws.get];rw [←(t4 q2).1];exact q1,(t4 q2).2⟩
theorem z3v {st st1:St} {t:TypeId} {x v:AVal} {o:Bool} (h:v9p P st t x=some (v,o,st1)):st1.env=st.env∧st1.mem=st.mem∧st1.next=st.next∧(st1.ob=true→y8f P st.mem t x=some (v,o)∧st.ob=true):=by
 unfold v9p at h;split at h
 ·split at h
  ·rename_i b sz r fo _ blk hm;split at h
   ·rename_i A hA;split at h;rename_i cs st2 hp;simp only [Al,Ac] at h;obtain ⟨v',hv,rfl,rfl,rfl⟩:=h;obtain ⟨p1,p2,p3,p4⟩:=z1p _ _ _ _ _ hp;refine ⟨p1,p2,p3,fun ho=> ?_⟩;obtain ⟨q1,q2⟩:=p4 ho;refine ⟨?_,q2⟩;subst q1;have hv:z2m P t (A.get r) fo=some v':=hv
    grind [y8f]
   ·cases h
  ·cases h
 ·rename_i hx;simp only [Al,Ac] at h
  grind [y8f]
theorem x4j {α:Type} {c:Bool} {x z:Option α} {y:α} (h:(bif c then x else z)=some y):(c=true∧x=some y)∨(c=false∧z=some y):=by grind
theorem z6y {A:Arr} {r fo:Nat} {cs:List AVal} {st st1:St} {rw1:Rws} (h:setRow A r fo cs st=some (rw1,st1)):st1.env=st.env∧st1.mem=st.mem∧st1.next=st.next∧(st1.ob=true→((A.get r).length =A.sz→rw1.get=Xt A.get r fo cs)∧st.ob=true):=by
 obtain ⟨sz,n,rw0⟩:=A;unfold setRow at h;have full: ∀(g:Nat→List AVal),cs.length=sz→(g r).length =sz→(fun k=>bif Nat.beq k r then cs else g k)=Xt g r 0 cs:=fun g h1 h2=>by
  grind [Xt]
 split at h
 ·rename_i g hg;simp only at hg;subst hg;rcases x4j h with ⟨_,h⟩ | ⟨_,h⟩
  ·simp only [Ad,Ac] at h;obtain ⟨rfl,rfl⟩:=h;exact ⟨rfl,rfl,rfl,fun ho=>⟨fun _=>rfl,ho⟩⟩
  ·rcases x4j h with ⟨hc,h2⟩ | ⟨_,h2⟩
   ·simp only [Ae] at hc;obtain rfl:=Ai hc.1;have hc2:=Ai hc.2;clear h;simp only [Ad,Ac] at h2;obtain ⟨rfl,rfl⟩:=h2;exact ⟨rfl,rfl,rfl,fun ho=>⟨fun hl=>full g hc2 hl,ho⟩⟩
   ·cases h2
 ·rename_i r0 c0 b hb;simp only at hb;subst hb;split at h;rename_i e st2 ht;obtain ⟨t1,t2,t3,t4⟩:=y5r ht;rcases x4j h with ⟨hc,h2⟩ | ⟨_,h2⟩
  ·simp only [Ae] at hc;obtain rfl:=Ai hc.1.2;have hc2:=Ai hc.2;clear h;simp only [Ad,Ac] at h2;obtain ⟨rfl,rfl⟩:=h2;refine ⟨t1,t2,t3,fun ho=>⟨fun hl=> ?_,(t4 ho).2⟩⟩;have he:=(t4 ho).1;rw [hc.1.1] at he;obtain rfl:=Ai he.symm;have:=full (Rws.get (.one r c0 b)) hc2 hl;show _=Xt (Rws.get (.one r c0 b)) r 0 cs
   grind [Rws.get]
  ·cases h2
 ·rename_i c a b hb;simp only at hb;subst hb;rcases x4j h with ⟨hc,h2⟩ | ⟨_,h2⟩
  ·simp only [Ae] at hc;obtain rfl:=Ai hc.1;have hc2:=Ai hc.2;clear h;simp only [Ad,Ac] at h2;obtain ⟨rfl,rfl⟩:=h2;exact ⟨rfl,rfl,rfl,fun ho=>⟨fun hl=>full _ hc2 hl,ho⟩⟩
  ·cases h2
structure x4x (ρ:Rho) (floor:Nat) (st st':St) (v:AVal) (w:World) (ρ':Rho) (u:Value) (w':World):Prop where
 val:Yx ρ' v u
 rel:Rel ρ' st'.mem st'.next w'
 ev:Ev ρ ρ' floor st.mem st.next st'.mem st'.next w w'
def Does (P:Program) (o:Oper) (a:Act) (w:World) (K:Rho→Value→World→Prop):Prop:=
 (∃ρ' u w',(execOp a.eval o).run P w=.ok (.value u) w'∧K ρ' u w')∨
 (∃ρ' w',(execOp a.eval o).run P w=.ok .skip w'∧K ρ' undef w')∨
 (∃f args,(execOp a.eval o).run P w=.ok (.enter f args) w∧Calls P f args w fun e w'=> ∃ρ' u,e=.returned u∧K ρ' u w')
theorem Rel.hold {mem:Mem} {next:Nat} {w:World} (h:Rel ρ mem next w): ∀k,w.heap.size≤k→ρ.fz k=none:=by
 intro k hk;cases e:ρ.fz k with
 | none=>rfl
 | some o=>have:=(AO.1 (h.old k o e)).1;omega
theorem z5z {st:St} {w:World} (h:Rel ρ st.mem st.next w) (floor:Nat) (cs:List AVal) (ty:TypeId) (vs:Array Value) (el:TypeId) (hn:cs.length≤vs.size)
  (hv: ∀(i:Nat) (h1:i<cs.length) (h2:i<vs.size),Yx ρ cs[i] vs[i]) (v:AVal) (u:Value) (eD: ∀ρ',ρ' st.next=some ⟨w.heap.size,0,cs.length,vs.size⟩→Yx ρ' v u):
  x4x ρ floor st (y2u st cs ty) v w (Uw ρ st.next ⟨w.heap.size,0,cs.length,vs.size⟩) u {w with heap:=w.heap.push (.cells vs el)}:=
 ⟨eD _ (by simp [Uw]),h.new cs ty vs el h.hold hn hv,Ev.ofNew h floor _ _ _ (Aq _)⟩
theorem x7i {st st':St} {w:World} (h:Rel ρ st.mem st.next w) {floor:Nat} {t:TypeId} {x v:AVal} {u z:Value} (hs:y8b P floor st t x v=some st') (hx:Yx ρ x u) (hv:Yx ρ v z):
  ∃w',(Instr.storeAt t u z).run P w=.ok () w'∧x4x ρ floor st st' (.tup []) w ρ undef w'∧st'.env=st.env∧st'.ob=st.ob:=by
 unfold y8b at hs;split at hs
 ·rename_i b off i hi;simp only at hs;cases hc:(Nat.ble floor b&&Nat.beq v.cells.length i.size&&z3t v&&v.cells.all y1g) with
  | false=>grind
  | true=>
   rw [hc,Ab] at hs;simp only [Ae] at hc;obtain ⟨⟨⟨hf,hn⟩,hbx⟩,hsc⟩:=hc;have hf:=Ak hf;have hn:=Ai hn;split at hs
   ·rename_i blk hm;cases dZ:Nat.ble (off+i.size) blk.cells.length with
    | false=>grind
    | true=>
     rw [dZ,Ab] at hs;have dZ:=Ak dZ;obtain rfl:=Ag hs;cases hx with
     | ptr _ _ l hρ=>
      have dP:=hv.cells hbx;have eH:=Yx.cells_oneCell dP hsc;have dK:z.cells.toList.length=v.cells.length:=(by simpa using dP.1.symm);obtain ⟨cur,el,hw,hsz,dJ⟩:=h.write hρ hm (off:=off) (cs:=v.cells) (vs:=z.cells.toList) dK (by omega) (fun j h1 h2=>by simpa using dP.2 j h1 (by grind));have dL:=run_storeCells_at P l.blk (l.base+off) el z.cells.toList 0 cur w hw (by omega) eH;refine ⟨w.setRow l.blk (cur.toList.take (l.base+off)++z.cells.toList++cur.toList.drop (l.base+off+z.cells.toList.length)).toArray,?_,⟨.tup [] #[] rfl (fun j h1 _=>by simp at h1),?_,Ev.ofWrite h hρ hf _ _⟩,rfl,rfl⟩;all_goals simp_all [Instr.storeAt,Instr.sureAddr,storeVar,Zi,St.withMem]
   ·cases hs
 ·cases hs
theorem z3a {get:Nat→List AVal} {sz n r fo:Nat} {cs:List AVal} (hl: ∀i,i<n→(get i).length =sz) (hf:fo+cs.length≤sz): ∀i,i<n→(Xt get r fo cs i).length =sz:=by
 intro i hi;unfold Xt;cases e:Nat.beq i r with
 | false=>exact hl i hi
 | true=>
  obtain rfl:=Ai e
  grind
theorem u1x {get:Nat→List AVal} {sz n r fo:Nat} {cs:List AVal} (hl: ∀i,i<n→(get i).length =sz) (hr:r<n) (hf:fo+cs.length≤sz):
  (Ym n get).take (r*sz+fo)++cs++(Ym n get).drop (r*sz+fo+cs.length)=Ym n (Xt get r fo cs):=by
 have dK:=Yb n hl;have fE:=Yb n (z3a (r:=r) hl hf);have hb:(r+1)*sz≤n*sz:=AA sz hr;rw [AS,BM] at hb;have dZ:r*sz+fo+cs.length≤(Ym n get).length :=by omega
 apply List.ext_getElem?;intro i;rw [Qx _ _ _ _ dZ];by_cases hi:i<n*sz
 ·have hsz:0<sz:=by
   grind
  have hj:i %sz<sz:=Bn _ hsz;have hq:i / sz<n:=A5 (by grind);have e:i=i / sz*sz+i %sz:=by rw [Bu];exact (Bo i sz).symm
  generalize i / sz=q at*;generalize i %sz=j at*;subst e;rw [Vu n (z3a (r:=r) hl hf) q j hq hj,Vu n hl q j hq hj];unfold Xt;cases eq:Nat.beq q r with
  | true=>
   obtain rfl:=Ai eq
   grind
  | false=>
   have hne:=Nat.ne_of_beq_eq_false eq;simp only [Aa];rcases Nat.lt_or_gt_of_ne hne with h | h
   ·have:(q+1)*sz≤r*sz:=AA sz h
    grind
   ·have:(r+1)*sz≤q*sz:=AA sz h
    grind
 grind
theorem Rel.setArr {mem:Mem} {next:Nat} {w:World} {b:Nat} {cs:List AVal} {ty:TypeId} (h:Rel ρ (Wv mem b (some ⟨cs,ty,none⟩)) next w) (A:Arr) (h1:cs=Ym A.n A.get) (h2:1≤A.sz) (h3: ∀i,i<A.n→(A.get i).length =A.sz):
  Rel ρ (Wv mem b (some ⟨cs,ty,some A⟩)) next w:=by
 have some_iff: ∀c,(Yi (Wv mem b (some ⟨cs,ty,some A⟩)) c).isSome =(Yi (Wv mem b (some ⟨cs,ty,none⟩)) c).isSome :=fun c=>by
  grind [Vn]
 refine ⟨h.dom,fun c c' m m' e e' he hs hs'=>h.inj c c' m m' e e' he (by grind) (by grind),fun c m ab e hc=> ?_,h.old,fun c m e hs=>h.sep c m e (by grind),h.real,fun c hc=> ?_,h.ldom⟩
 ·by_cases ecb:c=b
  ·subst ecb;rw [Yk] at hc;obtain rfl:=Ag hc;obtain ⟨n,t,_,k⟩:=h.blk c m ⟨cs,ty,none⟩ e (Yk _ _ _);exact ⟨n,t,fun B hB=>by grind,k⟩
  ·rw [Zv _ _ ecb] at hc;exact h.blk c m ab e (by rw [Zv _ _ ecb];exact hc)
 ·have:=h.bd c hc
  grind [Vn]
theorem z8w {cx:Ctx} {st st':St} {b:Bool} (h:st.owe cx b=some st'):st'.env=st.env∧st'.mem=st.mem∧st'.next=st.next∧(st'.ob=true→b=true∧st.ob=true):=by
 obtain ⟨env,mem,next,orc,ob⟩:=st
 grind [St.owe]
theorem x4l {cx:Ctx} {st st':St} {w:World} (h:Rel ρ st.mem st.next w) {t:TypeId} {x v:AVal} {u z:Value} (hs:z7v P cx st t x v=some st') (hob:st'.ob=true) (hx:Yx ρ x u) (hv:Yx ρ v z):
  ∃w',(Instr.storeAt t u z).run P w=.ok () w'∧x4x ρ cx.floor st st' (.tup []) w ρ undef w':=by
 unfold z7v at hs;split at hs
 ·rename_i b sz r fo i hi;cases hc:(Nat.ble cx.floor b&&Nat.beq v.cells.length i.size&&z3t v&&v.cells.all y1g&&Nat.ble (fo+i.size) sz) with
  | false=>grind
  | true=>
   rw [hc,Ab] at hs;simp only [Ae] at hc;obtain ⟨⟨⟨⟨hf,hn⟩,hbx⟩,hsc⟩,hfo⟩:=hc;have hf:=Ak hf;have hn:=Ai hn;have hfo:=Ak hfo;split at hs
   ·rename_i blk hm;split at hs
    ·rename_i A hA;split at hs
     ·rename_i rw1 st1 fB;obtain ⟨_,o2,o3,o4⟩:=z8w hs;obtain ⟨ho,hob1⟩:=o4 hob;obtain ⟨s1,s2,s3,s4⟩:=z6y fB;have o2:st'.mem=Wv st1.mem b (some ⟨Ym A.n rw1.get,blk.ty,some ⟨A.sz,A.n,rw1⟩⟩):=o2;have o3:st'.next=st1.next:=o3
      rw [s2] at o2;rw [s3] at o3;simp only [Ae,As] at ho;obtain ⟨hsz,hr⟩:=ho;obtain rfl:=Ai hsz;cases hx with
      | epa _ _ _ _ l hρ=>
       obtain ⟨eU,fF,dU⟩:=(h.blk b l blk hρ hm).arr A hA;have dP:=hv.cells hbx;have eH:=Yx.cells_oneCell dP hsc;have dK:z.cells.toList.length=v.cells.length:=(by simpa using dP.1.symm);have hrl:=Yb A.n dU;have hb:(r+1)*A.sz≤A.n*A.sz:=AA A.sz hr;rw [AS,BM] at hb;obtain ⟨cur,el,hw,hsz,dJ⟩:=h.write hρ hm (off:=r*A.sz+fo) (cs:=v.cells) (vs:=z.cells.toList) dK (by grind) (fun j h1 h2=>by simpa using dP.2 j h1 (by grind));have dL:=run_storeCells_at P l.blk (l.base+(r*A.sz+fo)) el z.cells.toList 0 cur w hw (by omega) eH;rw [eU,u1x dU hr (by omega)] at dJ;have hrw:=(s4 hob1).1 (dU r hr);rw [←hrw] at dJ;have dJ:=dJ.setArr ⟨A.sz,A.n,rw1⟩ rfl fF (by show∀i,i<A.n→(rw1.get i).length =A.sz;rw [hrw];exact z3a (sz:=A.sz) dU (by omega));refine ⟨w.setRow l.blk (cur.toList.take (l.base+(r*A.sz+fo))++z.cells.toList++cur.toList.drop (l.base+(r*A.sz+fo)+z.cells.toList.length)).toArray,?_,⟨.tup [] #[] rfl (fun j h1 _=>by simp at h1),?_,?_⟩⟩
       ·have hzs:z.cells.size=i.size:=(by grind);simp only [Bl] at dL;simp [Instr.storeAt,Instr.sureAddr,storeVar,Zi hi,hzs,-List.append_assoc,-Array.length_toList,dL]
       all_goals grind [Ev.ofWrite]
     ·cases hs
    ·cases hs
   ·cases hs
 ·cases hs
theorem x0r (f:Nat→Value):(Array.range 0).map f= #[]:=by grind
theorem z2k (n:Nat) (l:List AVal):(rep n l).length =n*l.length:=by simp_all [rep]
theorem v5e (l:List AVal): ∀(n i:Nat) (h:i<(rep n l).length) (hl:i %l.length<l.length),(rep n l)[i]=l[i %l.length]
 | 0,i,h,_=>by simp [rep] at h
 | n+1,i,h,hl=>by
  have e:rep (n+1) l=l++rep n l:=by simp [rep,List.replicate_succ]
  have hpos:0<l.length:=by omega
  by_cases hi:i<l.length
  ·simp only [e,Bv hi,Nat.mod_eq_of_lt hi]
  ·have h2:i - l.length<(rep n l).length :=by rw [e] at h;simp at h;omega
   simp only [e];rw [Bq (by omega)];have hm:(i - l.length) %l.length=i %l.length:=(Nat.mod_eq_sub_mod (by omega)).symm;rw [v5e l n (i - l.length) h2 (by omega)];simp only [hm]
theorem y0v {zero:List AVal} {zs:Array Value} (h:Ue ρ zero zs) (n m:Nat) (hm:m=n*zero.length):Ue ρ (rep n zero) ((Array.range m).map (zs[· %zs.size]!)):=by
 refine ⟨by rw [z2k];simp [hm],fun i h1 h2=> ?_⟩;have hi:i<n*zero.length:=by grind
 have hpos:0<zero.length:=by
  grind
 have hlt:i %zero.length<zero.length:=Bn _ hpos;rw [v5e zero n i h1 hlt];have hlt2:i %zero.length<zs.size:=by rw [←h.1];exact hlt
 have:=h.2 (i %zero.length) hlt hlt2;simp only [Array.getElem_map,Array.getElem_range];rw [←h.1]
 grind
theorem y1u {st st':St} {w:World} (h:Rel ρ st.mem st.next w) (floor:Nat) {t:TypeId} {len:Nat} {ps:List (Nat×AVal)} {qs:List (Nat×Value)} {v:AVal} {un:Bool} (hb:Kx P un st t len ps=some (v,st')) (hp:z1z ρ ps qs):
  ∃ρ' u w',(Instr.buildSlice t len qs.toArray).run P w=.ok u w'∧x4x ρ floor st st' v w ρ' u w'∧st'.env=st.env∧st'.ob=st.ob:=by
 unfold Kx at hb;split at hb
 ·rename_i e hu;split at hb
  ·rename_i i zero hi hz;cases hc:(Nat.ble (len*i.size) 16777216&&Nat.beq zero.length i.size) with
   | false=>grind
   | true=>
    rw [hc,Ab] at hb;simp only [Ae] at hc;have hle:=Ak hc.1;have hzl:=Ai hc.2;split at hb
    ·rename_i cells dP;simp only [Ad,Ac] at hb;obtain ⟨rfl,rfl⟩:=hb;obtain ⟨_,z,_,_,hzr,hzv⟩:=Wp (ρ:=ρ) hz;have eV:=y0v hzr len (len*i.size) (by rw [hzl]);obtain ⟨arr,h1,h2⟩:=Qp dP eV hp;have dK:len≤len:=Aq _;have dR:z1j ⟨w.heap.size,0,cells.length,arr.size⟩ 0 (bif un&&Nat.beq cells.length (len*i.size) then .un i.size else .ex len) len:=by
      cases hq:(un&&Nat.beq cells.length (len*i.size)) with
      | false=>rfl
      | true=>simp only [Ae] at hq;have hq2:=Ai hq.2;have:=h2.1;exact ⟨by grind,by grind⟩
     refine ⟨_,.slice (some ⟨w.heap.size,0,none⟩) len len,_,?_,z5z h floor cells e arr e (by rw [h2.1];grind) h2.2 _ _ (fun ρ' hρ'=>.sl _ 0 _ _ _ _ hρ' dR dK),rfl,rfl⟩;have hgt: ¬len*i.size>2 ^ 24:=(by omega);by_cases h0:len*i.size=0
     ·have h1':Instr.fill (fun j=>some (j*i.size,i.size)) #[] qs=some arr:=by
       grind
      simp [Instr.buildSlice,run_underlying hu,Zi hi,h0,h1',newRow,x0r]
     ·have hgt': ¬2 ^ 24<len*i.size:=hgt;simp [Instr.buildSlice,run_underlying hu,Zi hi,h0,hzv,h1,newRow,hgt']
    ·cases hb
  ·cases hb
 ·cases hb
theorem y2a {n:Int} (h0:0≤n) (h1:n≤1099511627776):IntKind.i64.wrap n=n:=by
 have hm:n %(2 ^ IntKind.i64.bits:Int)=n:=by
  apply Int.emod_eq_of_lt h0;have:(2 ^ IntKind.i64.bits:Int)=18446744073709551616:=by decide
  omega
 unfold wrap;simp only [hm];have: ¬(n≥(2 ^ (IntKind.i64.bits - 1):Int)):=by
  have:(2 ^ (IntKind.i64.bits - 1):Int)=9223372036854775808:=by decide
  omega
 simp [this]
theorem z0c {st st':St} {w:World} (h:Rel ρ st.mem st.next w) (floor:Nat) {t:TypeId} {x y v:AVal} {ux uy:Value} (hb:Um P st t x y=some (v,st')) (hx:Yx ρ x ux) (hy:Yx ρ y uy):
  ∃ρ' u w',(Instr.makeSlice t ux uy).run P w=.ok u w'∧x4x ρ floor st st' v w ρ' u w'∧st'.env=st.env∧st'.ob=st.ob:=by
 unfold Um at hb;split at hb
 ·rename_i e _ l _ c hu;cases hx;cases hy;split at hb
  ·rename_i i zero hi hz;cases hc:(Nat.beq zero.length i.size&&(decide (0≤l)&&decide (l≤c)&&decide (c*i.bytes≤1099511627776)&&decide (c≤1099511627776))) with
   | false=>grind
   | true=>
    rw [hc,Ab] at hb;simp only [Ae,As] at hc;obtain ⟨hzl,⟨⟨h0,hlc⟩,hcb⟩,hc40⟩:=hc;have hzl:=Ai hzl;simp only [Ad,Ac] at hb;obtain ⟨rfl,rfl⟩:=hb;obtain ⟨_,z,_,_,hzr,hzv⟩:=Wp (ρ:=ρ) hz;have eV:=y0v hzr c.toNat (c.toNat*i.size) (by rw [hzl]);have wl:=y2a (n:=l) h0 (by omega);have wc:=y2a (n:=c) (by omega) hc40;have e1: ¬c<0:=(by omega);have e2: ¬(281474976710656<(i.bytes:Int)*c):=(by grind);have e3: ¬l<0:=(by omega);have e4: ¬c<l:=(by omega);by_cases hz0:c.toNat*i.size=0
    ·rw [hz0] at eV;refine ⟨_,.slice (some ⟨w.heap.size,0,none⟩) l.toNat c.toNat,_,?_,z5z h floor (rep c.toNat zero) e #[] e (by rw [z2k,hzl];simp [hz0]) (fun j h1 h2=>by simp at h2) _ _ (fun ρ' hρ'=>.sl _ 0 _ _ _ _ hρ' rfl (by omega)),rfl,rfl⟩;simp [Instr.makeSlice,run_underlying hu,asInt,asIntOf,run_typeInfo w hi,wl,wc,e1,e2,e3,e4,Zi hi,hz0,newRow,x0r]
    ·refine ⟨_,.slice (some ⟨w.heap.size,0,none⟩) l.toNat c.toNat,_,?_,z5z h floor (rep c.toNat zero) e _ e (by rw [eV.1];grind) eV.2 _ _ (fun ρ' hρ'=>.sl _ 0 _ _ _ _ hρ' rfl (by omega)),rfl,rfl⟩;simp [Instr.makeSlice,run_underlying hu,asInt,asIntOf,run_typeInfo w hi,wl,wc,e1,e2,e3,e4,Zi hi,hz0,newRow,hzv]
  ·cases hb
 ·cases hb
end
section
variable {P:Program} {ρ:Rho}
theorem Rel.kill {mem:Mem} {next:Nat} {w:World} (h:Rel ρ mem next w) (b:Nat):Rel ρ (Wv mem b none) next w:=
 ⟨h.dom,fun c c' m m' e e' he hs hs'=>by
  have hc:c≠b:=fun e=>by rw [e,Yk] at hs;cases hs
  have hc':c'≠b:=fun e=>by grind [Yk]
  rw [Zv _ _ hc] at hs;rw [Zv _ _ hc'] at hs';exact h.inj c c' m m' e e' he hs hs',
  fun c m ab e hc=>by
   have hcb:c≠b:=fun e=>by rw [e,Yk] at hc;cases hc
   rw [Zv _ _ hcb] at hc;exact h.blk c m ab e hc,h.old,fun c m e hs=>by
   have hcb:c≠b:=fun e=>by rw [e,Yk] at hs;cases hs
   rw [Zv _ _ hcb] at hs;exact h.sep c m e hs,h.real,fun c hc=>by
   by_cases hcb:c=b
   ·rw [hcb,Yk]
   ·rw [Zv _ _ hcb];exact h.bd c hc,h.ldom⟩
theorem Ev.ofKill {mem:Mem} {next:Nat} {w:World} (h:Rel ρ mem next w) (floor:Nat) {b:Nat} {l:Loc} (hb:ρ b=some l):Ev ρ ρ floor mem next (Wv mem b none) next w w where
 ext:=Rho.le_refl _
 new _ _:=rfl
 nxt:=Aq _
 unborn k _ e cs ty hm:=by grind [Zv]
 frame _ _ hk _:=hk
 fresh k m hk e:=by have:=h.dom k m e;omega
 size:=Aq _
 os:=rfl
 tape:=rfl
 output:=rfl
 still _ _:=rfl
theorem Rel.beyond {mem:Mem} {next:Nat} {w:World} (h:Rel ρ mem next w) {b:Nat} {l:Loc} {ab:ABlk} (hb:ρ b=some l) (hm:Yi mem b=some ab) {off:Nat} {new:List AVal} {vs:List Value} (ty:TypeId)
  (dK:vs.length=new.length) (hoff:off≤ab.cells.length) (dZ:ab.cells.length+new.length≤l.tot) (hv: ∀(i:Nat) (h1:i<new.length) (h2:i<vs.length),Yx ρ new[i] vs[i]):
  ∃ cur el,w.heap[l.blk]? =some (.cells cur el (0,0))∧l.base+ab.cells.length+vs.length≤cur.size∧
   Rel (Uw ρ next ⟨l.blk,l.base+off,ab.cells.length - off+new.length,l.tot - off⟩) (Wv (Wv mem b none) next (some ⟨ab.cells.drop off++new,ty,none⟩)) (next+1)
    (w.setRow l.blk (cur.toList.take (l.base+ab.cells.length)++vs++cur.toList.drop (l.base+ab.cells.length+vs.length)).toArray):=by
 obtain ⟨hn,ht,_,cur,el,h1,h2,h3⟩:=h.blk b l ab hb hm;have hbn:b<next:=h.dom b l hb
 have hle:=z0v (l:=⟨l.blk,l.base+off,ab.cells.length - off+new.length,l.tot - off⟩) h.none_next;have hfc:l.base+ab.cells.length+vs.length≤cur.toList.length:=by simp;omega
 have dS: ∀c m,Uw ρ next ⟨l.blk,l.base+off,ab.cells.length - off+new.length,l.tot - off⟩ c=some m→(c=next∧m=⟨l.blk,l.base+off,ab.cells.length - off+new.length,l.tot - off⟩)∨(c≠next∧ρ c=some m):=fun c m e=>by
  grind [Up]
 have live: ∀c,c≠next→(Yi (Wv (Wv mem b none) next (some ⟨ab.cells.drop off++new,ty,none⟩)) c).isSome =true→c≠b∧(Yi mem c).isSome =true:=fun c hc hs=>by
  grind [Zv,Yk]
 refine ⟨cur,el,h1,by grind,fun c m e=> ?_,fun c c' m m' e e' he hs hs'=> ?_,fun c m ac e hc=> ?_,fun k o e=> ?_,fun c m e=> ?_,fun c m e=> ?_,fun c hc=>by rw [Zv _ _ (by omega),Zv _ _ (by omega)];exact h.bd c (by omega),fun j l e=>Bd (h.ldom j l e)⟩
 ·rcases dS c m e with ⟨rfl,_⟩ | ⟨_,e⟩
  ·omega
  ·have:=h.dom c m e;omega
 ·rcases dS c m e with ⟨hc,hl⟩ | ⟨hc,e2⟩ <;> rcases dS c' m' e' with ⟨hc',hl'⟩ | ⟨hc',e2'⟩
  ·rw [hc,hc']
  ·obtain ⟨hcb,hs'⟩:=live c' hc' hs';rw [hl] at he;exact absurd (h.inj c' b m' l e2' hb he.symm hs' (by rw [hm];rfl)) hcb
  ·obtain ⟨hcb,hs⟩:=live c hc hs;rw [hl'] at he;exact absurd (h.inj c b m l e2 hb he hs (by rw [hm];rfl)) hcb
  ·obtain ⟨_,hs⟩:=live c hc hs;obtain ⟨_,hs'⟩:=live c' hc' hs';exact h.inj c c' m m' e2 e2' he hs hs'
 ·rcases dS c m e with ⟨rfl,rfl⟩ | ⟨hcn,e2⟩
  ·rw [Yk] at hc;obtain rfl:=Ag hc;refine ⟨by simp,by simp;omega,(fun A e=>by cases e),_,el,setRow_heap w l.blk cur _ el (0,0) h1,?_,fun i hi=> ?_⟩
   ·grind
   ·simp only [AH,BR] at hi;simp only [List.getElem?_toArray];rw [Qx _ _ _ _ hfc];by_cases g1:off+i<ab.cells.length
    ·rw [AL (by omega),Bv (by simp;omega)];obtain ⟨v,e1,e2⟩:=h3 (off+i) g1;exact ⟨v,by grind,by simpa using e2.mono hle⟩
    ·rw [AF (by omega),AL (by omega),Bq (by simp;omega)];have hi2:l.base+off+i - (l.base+ab.cells.length)<vs.length:=(by omega);refine ⟨vs[l.base+off+i - (l.base+ab.cells.length)],Au hi2,?_⟩;have e3:i - (ab.cells.drop off).length =l.base+off+i - (l.base+ab.cells.length):=by simp;omega
     have:=hv (l.base+off+i - (l.base+ab.cells.length)) (by omega) hi2;simp only [e3];exact this.mono hle
  ·have hcs:(Yi mem c).isSome =true∧c≠b:=by
    grind
   rw [Zv _ _ hcn,Zv _ _ hcs.2] at hc;refine (h.blk c m ac e2 hc).world hle (setRow_other w l.blk m.blk _ fun heq=>hcs.2 ?_);exact h.inj c b m l e2 hb heq hcs.1 (by rw [hm];rfl)
 ·have e:ρ.fz k=some o:=e;have hk:=h.old k o e;rw [setRow_other]
  ·exact hk
  ·intro heq;have:=h.sep b l hb (by rw [hm];rfl)
   grind
 ·intro hs;rcases dS c m e with ⟨rfl,rfl⟩ | ⟨hcn,e⟩
  ·exact h.sep b l hb (by rw [hm];rfl)
  ·exact h.sep c m e (live c hcn hs).2
 ·rw [setRow_size];rcases dS c m e with ⟨rfl,rfl⟩ | ⟨_,e⟩
  ·grind
  ·exact h.real c m e
theorem Rel.beyond2 {mem:Mem} {next:Nat} {w:World} (h:Rel ρ mem next w) {b:Nat} {l:Loc} {ab:ABlk} (hb:ρ b=some l) (hm:Yi mem b=some ab) {off m T:Nat} {new:List AVal} {vs:List Value} (ty:TypeId)
  (dK:vs.length=new.length) (hoff:off≤m) (hmc:m≤ab.cells.length) (dZ:m - off+new.length≤T) (hT:off+T≤l.tot) (hv: ∀(i:Nat) (h1:i<new.length) (h2:i<vs.length),Yx ρ new[i] vs[i]):
  ∃ cur el,w.heap[l.blk]? =some (.cells cur el (0,0))∧l.base+m+vs.length≤cur.size∧
   Rel (Uw ρ next ⟨l.blk,l.base+off,m - off+new.length,T⟩) (Wv (Wv mem b none) next (some ⟨(ab.cells.take m).drop off++new,ty,none⟩)) (next+1)
    (w.setRow l.blk (cur.toList.take (l.base+m)++vs++cur.toList.drop (l.base+m+vs.length)).toArray):=by
 obtain ⟨hn,ht,_,cur,el,h1,h2,h3⟩:=h.blk b l ab hb hm;have hbn:b<next:=h.dom b l hb
 have hle:=z0v (l:=⟨l.blk,l.base+off,m - off+new.length,T⟩) h.none_next;have hfc:l.base+m+vs.length≤cur.toList.length:=by simp;omega
 have dS: ∀c lm,Uw ρ next ⟨l.blk,l.base+off,m - off+new.length,T⟩ c=some lm→(c=next∧lm=⟨l.blk,l.base+off,m - off+new.length,T⟩)∨(c≠next∧ρ c=some lm):=fun c lm e=>by
  grind [Up]
 have live: ∀c,c≠next→(Yi (Wv (Wv mem b none) next (some ⟨(ab.cells.take m).drop off++new,ty,none⟩)) c).isSome =true→c≠b∧(Yi mem c).isSome =true:=fun c hc hs=>by
  grind [Zv,Yk]
 refine ⟨cur,el,h1,by grind,fun c lm e=> ?_,fun c c' lm lm' e e' he hs hs'=> ?_,fun c lm ac e hc=> ?_,fun k o e=> ?_,fun c lm e=> ?_,fun c lm e=> ?_,fun c hc=>by rw [Zv _ _ (by omega),Zv _ _ (by omega)];exact h.bd c (by omega),fun j l e=>Bd (h.ldom j l e)⟩
 ·rcases dS c lm e with ⟨rfl,_⟩ | ⟨_,e⟩
  ·omega
  ·have:=h.dom c lm e;omega
 ·rcases dS c lm e with ⟨hc,hl⟩ | ⟨hc,e2⟩ <;> rcases dS c' lm' e' with ⟨hc',hl'⟩ | ⟨hc',e2'⟩
  ·rw [hc,hc']
  ·obtain ⟨hcb,hs'⟩:=live c' hc' hs';rw [hl] at he;exact absurd (h.inj c' b lm' l e2' hb he.symm hs' (by rw [hm];rfl)) hcb
  ·obtain ⟨hcb,hs⟩:=live c hc hs;rw [hl'] at he;exact absurd (h.inj c b lm l e2 hb he hs (by rw [hm];rfl)) hcb
  ·obtain ⟨_,hs⟩:=live c hc hs;obtain ⟨_,hs'⟩:=live c' hc' hs';exact h.inj c c' lm lm' e2 e2' he hs hs'
 ·rcases dS c lm e with ⟨rfl,rfl⟩ | ⟨hcn,e2⟩
  ·rw [Yk] at hc;obtain rfl:=Ag hc;have htl:((ab.cells.take m).drop off).length =m - off:=by grind
   refine ⟨by grind,dZ,(fun A e=>by cases e),_,el,setRow_heap w l.blk cur _ el (0,0) h1,?_,fun i hi=> ?_⟩
   ·grind
   ·simp only [] at hi;rw [AH,htl] at hi;simp only [List.getElem?_toArray];rw [Qx _ _ _ _ hfc];by_cases g1:off+i<m
    ·rw [AL (by omega),Bv (by grind)];obtain ⟨v,e1,e2⟩:=h3 (off+i) (by omega);exact ⟨v,by grind,by simpa using e2.mono hle⟩
    ·rw [AF (by omega),AL (by omega),Bq (by grind)];have hi2:l.base+off+i - (l.base+m)<vs.length:=(by omega);refine ⟨vs[l.base+off+i - (l.base+m)],Au hi2,?_⟩;have e3:i - ((ab.cells.take m).drop off).length =l.base+off+i - (l.base+m):=(by grind);have:=hv (l.base+off+i - (l.base+m)) (by omega) hi2;simp only [e3];exact this.mono hle
  ·have hcs:(Yi mem c).isSome =true∧c≠b:=by
    grind
   rw [Zv _ _ hcn,Zv _ _ hcs.2] at hc;refine (h.blk c lm ac e2 hc).world hle (setRow_other w l.blk lm.blk _ fun heq=>hcs.2 ?_);exact h.inj c b lm l e2 hb heq hcs.1 (by rw [hm];rfl)
 ·have e:ρ.fz k=some o:=e;have hk:=h.old k o e;rw [setRow_other]
  ·exact hk
  ·intro heq;have:=h.sep b l hb (by rw [hm];rfl)
   grind
 ·intro hs;rcases dS c lm e with ⟨rfl,rfl⟩ | ⟨hcn,e⟩
  ·exact h.sep b l hb (by rw [hm];rfl)
  ·exact h.sep c lm e (live c hcn hs).2
 ·rw [setRow_size];rcases dS c lm e with ⟨rfl,rfl⟩ | ⟨_,e⟩
  ·grind
  ·exact h.real c lm e
theorem Ev.ofBeyond {mem:Mem} {next:Nat} {w:World} (h:Rel ρ mem next w) {floor b:Nat} {l:Loc} (hb:ρ b=some l) (hf:floor≤b) (l':Loc) (hl:l'.blk=l.blk) (o:Option ABlk) (cs:Array Value):
  Ev ρ (Uw ρ next l') floor mem next (Wv (Wv mem b none) next o) (next+1) w (w.setRow l.blk cs) where
 ext:=z0v h.none_next
 new k hk:=by simp [Uw,BA hk]
 nxt:=BT _
 unborn k hk e cs ty hm:=by
  grind [Zv]
 frame k o hk hfr:=by
  grind [setRow_other]
 fresh k m hk e:=by
  rw [Up] at e;by_cases hkn:k=next
  ·grind
  ·rw [AF hkn] at e;have:=h.dom k m e;omega
 size:=by simp_all
 os:=rfl
 tape:=rfl
 output:=rfl
 still _ _:=rfl
theorem Vp {mem:Mem} {next:Nat} {w:World} (h:Rel ρ mem next w) {sz:Nat} {x:AVal} {u:Value} {len:Nat} {cs:List AVal} (hc:Xu mem sz x=some (len,cs)) (hx:Yx ρ x u) (hl:cs.length=len*sz):
  (∀w,(Builtin.lenOf u).run P w=.ok len w)∧ ∀n,n≤len→ ∃vs:Array Value,Ue ρ (cs.take (n*sz)) vs∧ ∀d,(Builtin.firstCells sz n u).run P {w with drawn:=d}=.ok vs {w with drawn:=d}:=by
 unfold Xu at hc;split at hc
 ·simp only [Ad,Ac] at hc;obtain ⟨rfl,rfl⟩:=hc;cases hx;refine ⟨fun w=>by simp [Builtin.lenOf],fun n hn=>⟨#[],⟨by simp,fun i h1 _=>by simp at h1⟩,fun d=>by simp [Builtin.firstCells]⟩⟩
 ·rename_i b off len' cap;split at hc
  ·rename_i blk hm;simp only [Al,Ac] at hc;obtain ⟨p,hp,rfl,rfl⟩:=hc;cases hx with
   | sl _ _ _ _ l c hρ dR dK=>
    refine ⟨fun w=>by simp [Builtin.lenOf],fun n hn=> ?_⟩;obtain ⟨_,hpl,hle⟩:=z6g hp;have hmul:n*sz≤len'*sz:=AA sz hn;have hex: ∀d,∃vs:Array Value,Ue ρ (p.take (n*sz)) vs∧(Builtin.firstCells sz n (.slice (some ⟨l.blk,l.base+off,none⟩) len' c)).run P {w with drawn:=d}=.ok vs {w with drawn:=d}:=by
     intro d;obtain ⟨vs,hs,hv,hr⟩:=((h.drawn d).cellsAt hρ hm).load (P:=P) (off:=off) (n:=n*sz) (by omega);refine ⟨vs,⟨by simp;omega,fun i h1 h2=> ?_⟩,by simpa [Builtin.firstCells] using hr⟩
     grind
    obtain ⟨vs,hv,hr⟩:=hex 0;refine ⟨vs,hv,fun d=> ?_⟩;obtain ⟨b',e1,e2⟩: ∃b',(∀d,(loadCells ⟨l.blk,l.base+off,none⟩ (n*sz)).run P {w with drawn:=d}=.ok b' {w with drawn:=d})∧True:=by
     have hc: ∀d j,j<n*sz→({w with drawn:=d}:World).cell? ((⟨l.blk,l.base+off,none⟩:Addr).add j)=some ((w.cell? ⟨l.blk,l.base+(off+j),none⟩).getD undef):=by
      intro d j hj;obtain ⟨v,e,_⟩:=(h.cellsAt hρ hm) (off+j) (by omega)
      rw [Xf,Ay];show w.cell? _=_;rw [e];rfl
     simp_all [run_loadCells]
    grind [Builtin.firstCells]
  ·cases hc
 ·cases hc
theorem x6t (n:Nat): ∀(r c:Nat),c<n→Builtin.growBy n r c≤n+(n+768) / 4
 | 0,c,h=>by simp only [Builtin.growBy];omega
 | r+1,c,h=>by
  unfold Builtin.growBy;rw [AF (by omega)];by_cases h2:c+(c+768) / 4<n
  ·exact x6t n r _ h2
  ·cases r with
   | zero=>simp only [Builtin.growBy];omega
   | succ r=>unfold Builtin.growBy;rw [AL (by omega)];omega
theorem y6t (n c:Nat) (h:c<n):Builtin.nextslicecap n c≤2*n+192:=by
 grind [Builtin.nextslicecap,x6t]
theorem v4t {need c bytes:Nat} (h:(need+1)*(bytes+1)≤1099511627776) (hc:c<need): ¬Builtin.nextslicecap need c*bytes>2 ^ 48:=by
 have h1:=y6t need c hc;have h2:Builtin.nextslicecap need c*bytes≤(192*(need+1))*(bytes+1):=BN (by omega) (by omega)
 grind
end
section
variable {P:Program} {ρ:Rho}
theorem z8e {t u e:TypeId} {ut:TypeDesc} {i:TypeInfo} {type:TypeId} (hu:P.underlying t=some (.slice e)) (hut:P.underlying u=some ut) (hni: ∀k,ut≠ .int k) (hi:P.info? e=some i) {ts:List TypeId} {base:Option Addr} {len n c:Nat} {x:Value} {vs:Array Value} {xs:List Value} {w:World}
  (dK:(Builtin.lenOf x).run P w=.ok n w) (eA:(Builtin.firstCells i.size n x).run P w=.ok vs w) (dQ:len+n≤c) {w':World}
  (hst: ∀a,base=some a→(storeCells (a.add (len*i.size)) vs.toList).run P w=.ok () w') (hno:base=none→w'=w):
  (Builtin.append_ (t::u::ts).toArray type ((.slice base len c)::x::xs).toArray).run P w=.ok (.slice base (len+n) c) w':=by
 cases base with
 | none=>obtain rfl:=hno rfl;simp [Builtin.append_,run_underlying hu,run_underlying hut,Zi hi,dK,eA,dQ]
 | some a=>have:=hst a rfl;simp [Builtin.append_,run_underlying hu,run_underlying hut,Zi hi,dK,eA,dQ,this]
theorem z6o {t u e:TypeId} {ut:TypeDesc} {i:TypeInfo} {type:TypeId} (hu:P.underlying t=some (.slice e)) (hut:P.underlying u=some ut) (hni: ∀k,ut≠ .int k) (hi:P.info? e=some i) {z:Value} (hz:i.zero=some z) {ts:List TypeId} {base:Option Addr} {len n c:Nat} {x:Value} {vs old:Array Value} {xs:List Value} {w:World}
  (dK:(Builtin.lenOf x).run P w=.ok n w) (eA:(Builtin.firstCells i.size n x).run P w.drew=.ok vs w.drew) (hold:(Builtin.firstCells i.size len (.slice base len c)).run P w.drew=.ok old w.drew)
  (dQ:c<len+n) (eO:(len+n+1)*(i.bytes+1)≤1099511627776):
  ∃newCap,len+n≤newCap∧ ∃rest:Array Value,rest.size=(newCap - (len+n))*z.cells.size∧
  (Builtin.append_ (t::u::ts).toArray type ((.slice base len c)::x::xs).toArray).run P w=.ok (.slice (some ⟨w.heap.size,0,none⟩) (len+n) newCap) (w.drew.alloc (.cells (old++vs++rest) e)):=by
 have hmul:len+n+1≤(len+n+1)*(i.bytes+1):=Nat.le_mul_of_pos_right _ (by omega);have hr:=v4t eO dQ;have hr': ¬2 ^ 48<Builtin.nextslicecap (len+n) c*i.bytes:=hr;have hr'': ¬281474976710656<Builtin.nextslicecap (len+n) c*i.bytes:=hr;have h1: ¬len+n≤c:=by omega
 have h2: ¬(9223372036854775807<(len:Int)+(n:Int)):=by omega
 have hq:(Question.appendCap (len+n) c e).forced =false:=rfl;have hzero: ∀w,(zeroValue e).run P w=.ok z w:=fun w=>by simp [zeroValue,run_typeInfo w hi,hz]
 refine ⟨(Question.appendCap (len+n) c e).cut (w.tape w.drawn (Question.appendCap (len+n) c e)),by simp only [Question.cut];omega,Builtin.zeroCells z.cells ((Question.appendCap (len+n) c e).cut (w.tape w.drawn (Question.appendCap (len+n) c e)) - (len+n)),by simp [Builtin.zeroCells],?_⟩;have hty: ∀w,(typeInfo e).run P w=.ok i w:=fun w=>run_typeInfo w hi;simp [Builtin.append_,run_underlying hu,run_underlying hut,Zi hi,dK,h1,h2,hty,hr'',hq,eA,hold,hzero,newRow]
theorem Ue.append {a b:List AVal} {us vs:Array Value} (h:Ue ρ a us) (k:Ue ρ b vs):Ue ρ (a++b) (us++vs):=by
 refine ⟨by simp [h.1,k.1],fun i h1 h2=> ?_⟩;by_cases hi:i<a.length
 ·rw [Bv hi,Array.getElem_append_left (by rw [←h.1];exact hi)];exact h.2 i hi (by rw [←h.1];exact hi)
 ·rw [Bq (by omega),Array.getElem_append_right (by rw [←h.1];omega)];have e:=h.1;simp only [e];exact k.2 (i - us.size) (by grind) (by grind)
theorem z6a {st:St} {w:World} (h:Rel ρ st.mem st.next w) (floor:Nat) {cs:List AVal} {vs:Array Value} (hr:Ue ρ cs vs) (rest:Array Value) (ty el:TypeId) (v:AVal) (u:Value)
  (eD: ∀ρ',ρ' st.next=some ⟨w.heap.size,0,cs.length,vs.size+rest.size⟩→Yx ρ' v u):
  x4x ρ floor st (y2u st cs ty) v w (Uw ρ st.next ⟨w.heap.size,0,cs.length,vs.size+rest.size⟩) u (w.drew.alloc (.cells (vs++rest) el)):=by
 have hd:Rel ρ st.mem st.next w.drew:=h.drawn _
 have:=z5z hd floor cs ty (vs++rest) el (by rw [hr.1];simp) (fun i h1 h2=>by
  rw [Array.getElem_append_left (by rw [←hr.1];exact h1)];exact hr.2 i h1 (by rw [←hr.1];exact h1)) v u (fun ρ' hρ'=>eD ρ' (by simp_all))
 simp only [Array.size_append] at this;exact ⟨this.val,this.rel,this.ev.drawn⟩
theorem z0m {α:Type} {c:Bool} {x:Option α} {y:α} (h:(bif c then x else none)=some y):c=true∧x=some y:=by grind
structure u6k (P:Program) (ρ:Rho) (t u e:TypeId) (i:TypeInfo) (z:Value) (ux:Value) (n:Nat) (new:List AVal) (vs:Array Value) (w:World):Prop where
 rel:Ue ρ new vs
 hin: ∀{type:TypeId} {ts:List TypeId} {base:Option Addr} {len c:Nat} {xs:List Value},(n=0∨(n+1)*(i.bytes+1)≤1099511627776)→len+n≤c→ ∀{w':World},(∀a,base=some a→(storeCells (a.add (len*i.size)) vs.toList).run P w=.ok () w')→(base=none→w'=w)→
  (Builtin.append_ (t::u::ts).toArray type ((.slice base len c)::ux::xs).toArray).run P w=.ok (.slice base (len+n) c) w'
 hnew: ∀{type:TypeId} {ts:List TypeId} {base:Option Addr} {len c:Nat} {xs:List Value} {old:Array Value},(Builtin.firstCells i.size len (.slice base len c)).run P w.drew=.ok old w.drew→c<len+n→(len+n+1)*(i.bytes+1)≤1099511627776→
  ∃newCap,len+n≤newCap∧ ∃rest:Array Value,rest.size=(newCap - (len+n))*z.cells.size∧
   (Builtin.append_ (t::u::ts).toArray type ((.slice base len c)::ux::xs).toArray).run P w=.ok (.slice (some ⟨w.heap.size,0,none⟩) (len+n) newCap) (w.drew.alloc (.cells (old++vs++rest) e))
theorem y9f {n:Int} {bytes:Nat} (h0:0≤n) (h:n.toNat=0∨(n.toNat+1)*(bytes+1)≤1099511627776):IntKind.i64.wrap n=n∧n*(bytes:Int)≤281474976710656:=by
 grind [IntWalk.i64_in]
theorem Jh {mem:Mem} {next:Nat} {w:World} (h:Rel ρ mem next w) {t u e:TypeId} {ut:TypeDesc} {i:TypeInfo} {z:Value} {zero:List AVal} {x:AVal} {ux:Value} {n:Nat} {new:List AVal} (hu:P.underlying t=some (.slice e)) (hut:P.underlying u=some ut) (hi:P.info? e=some i) (hz:i.zero=some z)
  (hzr:Ue ρ zero z.cells) (hzl:zero.length=i.size) (hc:Ut mem i.size zero ut x=some (n,new)) (hx:Yx ρ x ux) (hnl:new.length=n*i.size): ∃vs,u6k P ρ t u e i z ux n new vs w:=by
 unfold Ut at hc;split at hc
 ·rename_i kt;split at hc
  ·rename_i k m;obtain ⟨h0,hc⟩:=z0m hc;have h0:=Aw h0;simp only [Ad,Ac] at hc;obtain ⟨rfl,rfl⟩:=hc;cases hx;have hzs:z.cells.size=i.size:=by rw [←hzr.1];exact hzl
   refine ⟨Builtin.zeroCells z.cells m.toNat,?_,?_,?_⟩
   ·exact y0v hzr m.toNat (m.toNat*z.cells.size) (by rw [hzr.1])
   ·intro type ts base len c xs hr dQ w' hst hno;obtain ⟨hw,hb⟩:=y9f h0 hr;have hb': ¬281474976710656<m*(i.bytes:Int):=(by omega);have hlt: ¬m<0:=(by omega);have hzv: ∀w,(zeroValue e).run P w=.ok z w:=fun w=>by simp [zeroValue,run_typeInfo w hi,hz]
    have hty: ∀w,(typeInfo e).run P w=.ok i w:=fun w=>run_typeInfo w hi;by_cases hz0:m.toNat*i.size=0
    ·have hze:Builtin.zeroCells z.cells m.toNat= #[]:=(by simp [Builtin.zeroCells,hzs,hz0]);rw [hze] at hst;cases base with
     | none=>obtain rfl:=hno rfl;simp [Builtin.append_,run_underlying hu,run_underlying hut,Zi hi,asInt,asIntOf,hw,hlt,hty,hb',dQ,hz0]
     | some a=>have:=hst a rfl;simp only [] at this;simp [Builtin.append_,run_underlying hu,run_underlying hut,Zi hi,asInt,asIntOf,hw,hlt,hty,hb',dQ,hz0,this]
    ·cases base with
     | none=>obtain rfl:=hno rfl;simp [Builtin.append_,run_underlying hu,run_underlying hut,Zi hi,asInt,asIntOf,hw,hlt,hty,hb',dQ,hz0,hzv]
     | some a=>have:=hst a rfl;simp [Builtin.append_,run_underlying hu,run_underlying hut,Zi hi,asInt,asIntOf,hw,hlt,hty,hb',dQ,hz0,hzv,this]
   ·intro type ts base len c xs old hold dQ eO;have hr:m.toNat=0∨(m.toNat+1)*(i.bytes+1)≤1099511627776:=.inr (Av (AA _ (by omega)) eO);obtain ⟨hw,hb⟩:=y9f h0 hr;have hb': ¬281474976710656<m*(i.bytes:Int):=(by omega);have hlt: ¬m<0:=(by omega);have hmul:len+m.toNat+1≤(len+m.toNat+1)*(i.bytes+1):=Nat.le_mul_of_pos_right _ (by omega);have hr0:=v4t eO dQ;have hr'': ¬281474976710656<Builtin.nextslicecap (len+m.toNat) c*i.bytes:=hr0;have h1: ¬len+m.toNat≤c:=(by omega);have h2: ¬(9223372036854775807<(len:Int)+(m.toNat:Int)):=(by omega);have h2': ¬(9223372036854775807<(len:Int)+max m 0):=(by omega);have hq:(Question.appendCap (len+m.toNat) c e).forced =false:=rfl;have hzv: ∀w,(zeroValue e).run P w=.ok z w:=fun w=>by simp [zeroValue,run_typeInfo w hi,hz]
    have hty: ∀w,(typeInfo e).run P w=.ok i w:=fun w=>run_typeInfo w hi;refine ⟨(Question.appendCap (len+m.toNat) c e).cut (w.tape w.drawn (Question.appendCap (len+m.toNat) c e)),by simp only [Question.cut];omega,Builtin.zeroCells z.cells ((Question.appendCap (len+m.toNat) c e).cut (w.tape w.drawn (Question.appendCap (len+m.toNat) c e)) - (len+m.toNat)),by simp [Builtin.zeroCells],?_⟩;by_cases hz0:m.toNat*i.size=0
    ·have hze:Builtin.zeroCells z.cells m.toNat= #[]:=(by simp [Builtin.zeroCells,hzs,hz0]);simp [Builtin.append_,run_underlying hu,run_underlying hut,Zi hi,asInt,asIntOf,hw,hlt,hb',h1,h2,h2',hty,hr'',hq,hold,hzv,newRow,hz0,hze]
    ·simp [Builtin.append_,run_underlying hu,run_underlying hut,Zi hi,asInt,asIntOf,hw,hlt,hb',h1,h2,h2',hty,hr'',hq,hold,hzv,newRow,hz0]
  ·cases hc
 ·rename_i hni';have hni: ∀k,ut≠ .int k:=fun k hk=>hni' k hk;obtain ⟨dK,eA⟩:=Vp (P:=P) h hc hx hnl;obtain ⟨vs,hvs,hfc⟩:=eA n (Aq _);rw [A6 (by omega)] at hvs;have fG:(Builtin.firstCells i.size n ux).run P w=.ok vs w:=hfc w.drawn;have hfc1:(Builtin.firstCells i.size n ux).run P w.drew=.ok vs w.drew:=hfc (w.drawn+1);exact ⟨vs,hvs,fun _ dQ _ hst hno=>z8e hu hut hni hi (dK w) fG dQ hst hno,fun hold dQ eO=>z6o hu hut hni hi hz (dK w) hfc1 hold dQ eO⟩
theorem x5y {w:World} {x:Obj} {n:Nat} {k:Nat} {o:Obj} (h:w.heap[k]? =some o):(World.alloc {w with drawn:=n} x).heap[k]? =some o:=by
 have:k<w.heap.size:=(AO.1 h).1;show (w.heap.push x)[k]? =some o
 grind
theorem x9e {w:World} {k:Nat} {cur:Array Value} {el:TypeId} {vs:List Value} {m:Nat} (hw:w.heap[k]? =some (.cells cur el (0,0))) (hm:m+vs.length≤cur.size):
  ∃cs1,(w.setRow k (cur.toList.take m++vs++cur.toList.drop (m+vs.length)).toArray).heap[k]? =some (.cells cs1 el (0,0))∧cs1.size=cur.size∧ ∀j,j<m→cs1[j]? =cur[j]? :=by
 have hc:cur.toList.length=cur.size:=Array.length_toList;refine ⟨_,setRow_heap w k cur _ el (0,0) hw,by simp;omega,fun j hj=> ?_⟩
 grind
def t0c (ρ:Rho) (m:Mem) (xs:List AVal) (w w':World):Prop:=
 (∀(b off len z b2 o2 n2:Nat) (c2:v2c) (r:List AVal) (blk:ABlk) (l:Loc),xs=.sl b off len (.un z)::.sl b2 o2 n2 c2::r→1≤n2→Yi m b=some blk→off+len*z=blk.cells.length→ρ b=some l→Jz ρ w' blk l)∧
 ∀r:List AVal,xs=.nils ::r→ ∀(k:Nat) (o:Obj),w.heap[k]? =some o→w'.heap[k]? =some o
theorem w1c {m:Mem} {sz:Nat} {zero:List AVal} {ut:TypeDesc} {b o n2:Nat} {c:v2c} {n:Nat} {new:List AVal} (h:Ut m sz zero ut (.sl b o n2 c)=some (n,new)):n=n2:=by
 have key:Xu m sz (.sl b o n2 c)=some (n,new)→n=n2:=fun h=>by
  simp only [Xu] at h;cases hm:Yi m b with
  | none=>grind
  | some blk=>simp_all
 cases ut <;> first | exact key h | (cases h;done)
theorem z0n {st st' :St} {w:World} (h:Rel ρ st.mem st.next w) (floor:Nat) {ts:Array TypeId} {type:TypeId} {xs:List AVal} {us:Array Value} {v:AVal} (ha:z1c P floor st ts.toList xs=some (v,st')) (hx:Vk (Yx ρ) xs us.toList):
  ∃ρ' u w',(Builtin.append_ ts type us).run P w=.ok u w'∧x4x ρ floor st st' v w ρ' u w'∧(st'.env=st.env∧st'.ob=st.ob)∧t0c ρ st.mem xs w w':=by
 obtain ⟨ts⟩:=ts;obtain ⟨us⟩:=us;simp only at ha hx;unfold z1c at ha;split at ha
 ·rename_i t tu tts s x txs;cases hx with
  | @cons _ su _ _ hs hx=>
   cases hx with
   | @cons _ ux _ uxs hx _=>
    split at ha
    ·rename_i e ut hu hut;split at ha
     ·rename_i i zero hi hz;split at ha
      ·rename_i n new hcs;obtain ⟨i2,z,hi2,hz2,hzr,_⟩:=Wp (ρ:=ρ) hz;obtain rfl:i=i2:=by grind
       cases hc:(Nat.beq zero.length i.size&&Nat.beq new.length (n*i.size)&&Nat.ble 1 i.size&&new.all y1g) with
       | false=>grind
       | true =>
        rw [hc,Ab] at ha;simp only [Ae] at hc;obtain ⟨⟨⟨hzl,hnl⟩,hsz⟩,hsc⟩:=hc;have hzl:=Ai hzl;have hnl:=Ai hnl;have hsz:=Ak hsz;have hzs:z.cells.size=i.size:=by rw [←hzr.1];exact hzl
        obtain ⟨vs,hF⟩:=Jh (P:=P) h hu hut hi hz2 hzr hzl hcs hx hnl;have hvs:=hF.rel;have hvsz:vs.size=n*i.size:=by rw [←hvs.1];exact hnl
        have eH:=Yx.cells_oneCell hvs hsc;split at ha
        ·-- nil
         cases hs;cases hn0:Nat.beq n 0 with
         | true=>rw [hn0,Ab] at ha;simp only [Ad,Ac] at ha;obtain ⟨rfl,rfl⟩:=ha;have hn0:=Ai hn0;subst hn0;have dL:=hF.hin (type:=type) (ts:=tts) (base:=none) (len:=0) (c:=0) (xs:=uxs) (.inl rfl) (Aq _) (w':=w) (fun a e=>by cases e) (fun _=>rfl);exact ⟨ρ,_,w,dL,⟨.nils,h,Ev.refl _ _ _ _ _ h.dom⟩,⟨rfl,rfl⟩,(fun _ _ _ _ _ _ _ _ _ _ _ e=>by cases e),fun _ _ _ _ h=>h⟩
         | false=>
          rw [hn0,Aa] at ha;cases hrm:Nat.ble ((n+1)*(i.bytes+1)) room with
          | false=>grind
          | true=>
           rw [hrm,Ab] at ha;simp only [Ad,Ac] at ha;obtain ⟨rfl,rfl⟩:=ha;have hrm:=Ak hrm;have hnpos:0<n:=by
            grind
           obtain ⟨newCap,dR,rest,eC,dL⟩:=hF.hnew (type:=type) (ts:=tts) (base:=none) (len:=0) (c:=0) (xs:=uxs) (old:= #[]) (by simp [Builtin.firstCells]) (by omega) (by simpa [room] using hrm);simp only [Af,Array.empty_append] at dL dR eC;have hsum:vs.size+rest.size=newCap*i.size:=by rw [hvsz,eC,hzs,←AS];grind
           refine ⟨_,_,_,dL,z6a h floor hvs rest e e _ _ (fun ρ' hρ'=> ?_),⟨rfl,rfl⟩,(fun _ _ _ _ _ _ _ _ _ _ _ e=>by cases e),fun _ _ k o h=>x5y h⟩;refine .sl _ 0 _ _ _ _ hρ' ?_ dR
           grind [z1j]
        ·-- a slice
         rename_i b off len cap;split at ha
         ·rename_i blk hm;split at ha
          ·rename_i old hold;cases hrm:Nat.ble ((len+n+1)*(i.bytes+1)) room with
           | false=>grind
           | true =>
            rw [hrm,Ab] at ha;have hrm:=Ak hrm;have hrn:n=0∨(n+1)*(i.bytes+1)≤1099511627776:=.inr (Av (AA _ (by omega)) hrm);cases hs with
            | sl _ _ _ _ l c hρ dR hlc=>
             obtain ⟨hpold,holdl,holdle⟩:=z6g hold;have eW:=h.blk b l blk hρ hm;have hln:=eW.n;have hmul:(len+n)*i.size=len*i.size+n*i.size:=AS _ _ _;have hoff:off+len*i.size≤blk.cells.length∨len*i.size=0:=(by omega);have hcos:Xu st.mem i.size (.sl b off len cap)=some (len,old):=(by simp [Xu,hm,hold]);obtain ⟨_,hfo⟩:=Vp (P:=P) h hcos (.sl b off len cap l c hρ dR hlc) holdl;obtain ⟨ovs,hovs,hof⟩:=hfo len (Aq _);rw [A6 (by omega)] at hovs;have hovz:ovs.size=len*i.size:=by rw [←hovs.1];exact holdl
             have hof1:(Builtin.firstCells i.size len (.slice (some ⟨l.blk,l.base+off,none⟩) len c)).run P w.drew=.ok ovs w.drew:=hof (w.drawn+1);have inplace: ∀v st',len+n≤c→floor≤b→off+(len+n)*i.size≤blk.cells.length→
               some (AVal.sl b off (len+n) cap,st.withMem (Wv st.mem b (some ⟨blk.cells.take (off+len*i.size)++new++blk.cells.drop (off+(len+n)*i.size),blk.ty,none⟩)))=some (v,st')→(∀z,cap=.un z→z=i.size)→
               ∃ρ' u w',(Builtin.append_ (t::tu::tts).toArray type ((.slice (some ⟨l.blk,l.base+off,none⟩) len c)::ux::uxs).toArray).run P w=.ok u w'∧x4x ρ floor st st' v w ρ' u w'∧(st'.env=st.env∧st'.ob=st.ob)∧t0c ρ st.mem (.sl b off len cap::x::txs) w w':=by
              intro v st' dQ hfl dZ he hzc;simp only [Ad,Ac] at he;obtain ⟨rfl,rfl⟩:=he;obtain ⟨cur,el,hw,hcsz,dJ⟩:=h.write hρ hm (off:=off+len*i.size) (cs:=new) (vs:=vs.toList) (by grind) (by omega) (fun j h1 h2=>by simpa using hvs.2 j h1 (by grind));have hst:=run_storeCells_at P l.blk (l.base+off+len*i.size) el vs.toList 0 cur w hw (by grind) eH;rw [Bl] at hst;have dL:=hF.hin (type:=type) (ts:=tts) (base:=some ⟨l.blk,l.base+off,none⟩) (len:=len) (c:=c) (xs:=uxs) hrn dQ (w':=w.setRow l.blk (cur.toList.take (l.base+off+len*i.size)++vs.toList++cur.toList.drop (l.base+off+len*i.size+vs.toList.length)).toArray)
               (fun a e=>by cases e;rw [Xf];exact hst) (fun e=>by cases e)
              refine ⟨ρ,_,_,dL,⟨.sl _ _ _ _ l c hρ dR (by omega),?_,Ev.ofWrite h hρ hfl _ _⟩,⟨rfl,rfl⟩,(fun b' off' len' z b2 o2 n2 c2 r blk' l' e hn hm' hend hl'=> ?keep),fun _ e=>by cases e⟩
              case keep=>exfalso;cases e;obtain rfl:=hzc _ rfl;rw [hm] at hm';obtain rfl:=Ag hm';obtain rfl:=w1c hcs;have:1*i.size≤n*i.size:=AA _ hn;omega
              have e1:off+len*i.size+new.length=off+(len+n)*i.size:=(by omega);rw [e1] at dJ
              simpa only [St.withMem,Ay] using dJ
             have anew: ∀v st' (st1:St),c<len+n→Rel ρ st1.mem st1.next w→Ev ρ ρ floor st.mem st.next st1.mem st1.next w w→st1.env=st.env→st1.ob=st.ob→
               some (AVal.sl st1.next 0 (len+n) (.un i.size),y2u st1 (old++new) e)=some (v,st')→
               ∃ρ' u w',(Builtin.append_ (t::tu::tts).toArray type ((.slice (some ⟨l.blk,l.base+off,none⟩) len c)::ux::uxs).toArray).run P w=.ok u w'∧x4x ρ floor st st' v w ρ' u w'∧(st'.env=st.env∧st'.ob=st.ob)∧t0c ρ st.mem (.sl b off len cap::x::txs) w w':=by
              intro v st' st1 dQ eI hev1 dO hob he;simp only [Ad,Ac] at he;obtain ⟨rfl,rfl⟩:=he;obtain ⟨newCap,fH,rest,eC,dL⟩:=hF.hnew (type:=type) (ts:=tts) (base:=some ⟨l.blk,l.base+off,none⟩) (len:=len) (c:=c) (xs:=uxs) hof1 dQ (by simpa [room] using hrm);have hov:=hovs.append hvs;have hsum:(ovs++vs).size +rest.size=newCap*i.size:=by rw [Array.size_append,hovz,hvsz,eC,hzs,←AS,←AS];grind
              have hp:=z6a eI floor hov rest e e (.sl st1.next 0 (len+n) (.un i.size)) (.slice (some ⟨w.heap.size,0,none⟩) (len+n) newCap) (fun ρ' hρ'=>by
               refine .sl _ 0 _ _ _ _ hρ' ?_ fH
               grind [z1j])
              refine ⟨_,_,_,dL,⟨hp.val,hp.rel,hev1.trans hp.ev⟩,⟨?_,?_⟩,(fun b' off' len' z b2 o2 n2 c2 r blk' l' e hn hm' hend hl'=> ?keep),fun _ e=>by cases e⟩
              case keep=>have hq:=h.blk b' l' blk' hl' hm';refine hq.world (Rho.le_refl ρ) ?_;obtain ⟨_,_,_,cs0,el0,g1,_⟩:=hq;rw [g1];exact x5y g1
              all_goals simp_all [y2u]
             split at ha
             ·-- the capacity is known
              rename_i k;simp only [z1j] at dR;subst dR;cases hk:Nat.ble (len+n) c with
              | true=>
               rw [hk,Ab] at ha;have hk:=Ak hk;cases hf:(Nat.ble floor b&&Nat.ble (off+(len+n)*i.size) blk.cells.length) with
               | false=>grind
               | true=>rw [hf,Ab] at ha;simp_all
              | false=>
               rw [hk,Aa] at ha;have hk: ¬len+n≤c:=fun e=>by rw [AW e] at hk;cases hk
               exact anew _ _ st (by omega) h (Ev.refl _ _ _ _ _ h.dom) rfl rfl ha
             ·-- it is not
              rename_i zz;simp only [z1j] at dR;cases hf:(Nat.beq zz i.size&&Nat.ble floor b) with
              | false=>grind
              | true=>
               rw [hf,Ab] at ha;simp only [Ae] at hf;have hzz:=Ai hf.1;have hfl:=Ak hf.2;subst hzz;cases hk:Nat.ble (off+(len+n)*i.size) blk.cells.length with
               | true=>
                rw [hk,Ab] at ha;have hk:=Ak hk;have dQ:len+n≤c:=by rw [hln] at dR;have:(len+n)*i.size≤c*i.size:=(by omega);exact Nat.le_of_mul_le_mul_right this hsz
                grind
               | false=>
                rw [hk,Aa] at ha;cases hend:Nat.beq (off+len*i.size) blk.cells.length with
                | false=>grind
                | true=>
                 rw [hend,Ab] at ha;have hend:=Ai hend;by_cases dQ:len+n≤c
                 ·-- there is room: behind what is told
                  simp only [Ad,Ac] at ha;obtain ⟨rfl,rfl⟩:=ha;have hcm:(len+n)*i.size≤c*i.size:=AA _ dQ;obtain ⟨cur,el,hw,hcsz,dJ⟩:=h.beyond hρ hm (off:=off) (new:=new) (vs:=vs.toList) e (by grind) (by omega) (by omega) (fun j h1 h2=>by simpa using hvs.2 j h1 (by grind));have hst:=run_storeCells_at P l.blk (l.base+off+len*i.size) el vs.toList 0 cur w hw (by grind) eH;rw [Bl] at hst;have dL:=hF.hin (type:=type) (ts:=tts) (base:=some ⟨l.blk,l.base+off,none⟩) (len:=len) (c:=c) (xs:=uxs) hrn dQ (w':=w.setRow l.blk (cur.toList.take (l.base+off+len*i.size)++vs.toList++cur.toList.drop (l.base+off+len*i.size+vs.toList.length)).toArray)
                   (fun a e=>by cases e;rw [Xf];exact hst) (fun e=>by cases e)
                  have hod:old=blk.cells.drop off:=by rw [hpold];exact A6 (by simp;omega)
                  refine ⟨_,_,_,dL,⟨.sl _ 0 _ _ ⟨l.blk,l.base+off,blk.cells.length - off+new.length,l.tot - off⟩ c (by simp [Uw]) ?_ (by omega),?_,Ev.ofBeyond h hρ hfl ⟨l.blk,l.base+off,blk.cells.length - off+new.length,l.tot - off⟩ rfl _ _⟩,⟨rfl,rfl⟩,(fun b' off' len' z b2 o2 n2 c2 r blk' l' e hn hm' _ hl'=> ?keep),fun _ e=>by cases e⟩
                  case keep=>
                   cases e;rw [hm] at hm';obtain rfl:=Ag hm';rw [hρ] at hl';obtain rfl:=Ag hl';obtain ⟨q1,q2,q3,cs0,el0,q4,q5,q6⟩:=eW;rw [hw] at q4;obtain ⟨rfl,rfl⟩:cur=cs0∧el=el0:=by
                    grind
                   obtain ⟨cs1,s1,s2,s3⟩:=x9e (vs:=vs.toList) hw (m:=l.base+off+len*i.size) (by grind);refine ⟨q1,q2,q3,cs1,el,s1,by grind,fun k hk=> ?_⟩;obtain ⟨v,r1,r2⟩:=q6 k hk
                   grind
                  ·simp only [z1j];omega
                  ·rw [hod];have e2:l.base+off+len*i.size=l.base+blk.cells.length:=(by omega);rw [e2]
                   simpa only [y2u,St.withMem] using dJ
                 ·exact anew _ _ (st.withMem (Wv st.mem b none)) (by omega) (h.kill b) (Ev.ofKill h floor hρ) rfl rfl ha
          ·cases ha
         ·cases ha
        ·cases ha
      ·cases ha
     ·cases ha
    ·cases ha
 ·cases ha
theorem w5b {get:Nat→List AVal} {off len n sz N:Nat} {new:List AVal} (hl: ∀i,i<N→(get i).length =sz) (hN:off+len=N) (hnew:new.length=n*sz):
  (∀i,i<len+n→(Zo get off len sz new i).length =sz)∧Ym (len+n) (Zo get off len sz new)=((Ym N get).drop (off*sz)).take (len*sz)++new:=by
 have h1: ∀i,i<len+n→(Zo get off len sz new i).length =sz:=fun i hi=>by
  unfold Zo;cases e:Nat.ble len i with
  | true=>
   have:=Ak e;simp only [Ab,List.length_take,BR,hnew];have:(i - len+1)*sz≤n*sz:=AA sz (by omega)
   grind
  | false=>
   have: ¬len≤i:=fun h=>by rw [AW h] at e;cases e
   grind
 refine ⟨h1,?_⟩;have dK:=Yb (len+n) h1;have hlenN:=Yb N hl;have hd:((Ym N get).drop (off*sz)).length =len*sz:=by rw [BR,hlenN,←hN,AS];omega
 rw [A6 (by omega)];apply List.ext_getElem?;intro i;by_cases hi:i<(len+n)*sz
 ·have hsz:0<sz:=by
   grind
  have hj:i %sz<sz:=Bn _ hsz;have hq:i / sz<len+n:=A5 (by grind);have e:i=i / sz*sz+i %sz:=by rw [Bu];exact (Bo i sz).symm
  generalize i / sz=q at*;generalize i %sz=j at*;subst e;rw [Vu (len+n) h1 q j hq hj];unfold Zo;cases e:Nat.ble len q with
  | true=>
   have hle:=Ak e;have:len*sz≤q*sz:=AA sz hle;simp only [Ab];rw [List.getElem?_append_right (by omega),hd,List.getElem?_take,AL hj,List.getElem?_drop]
   congr 1
   rw [Nat.sub_mul];omega
  | false=>
   have hlt:q<len:=by
    rcases A4 q len with h | h
    ·exact h
    ·rw [AW h] at e;cases e
   have:(q+1)*sz≤len*sz:=AA sz hlt;rw [AS,BM] at this;simp only [Aa];rw [List.getElem?_append_left (by omega),List.getElem?_drop,←Vu N hl (off+q) j (by omega) hj]
   grind
 grind
theorem w5j (n:Nat) (z:List AVal):rep n z=Ym n fun _=>z:=by unfold rep Ym;rw [List.flatMap_def,List.map_const',List.length_range]
theorem Ev.remem {ρ':Rho} {floor:Nat} {m m' m'':Mem} {n n':Nat} {w w':World} (h:Ev ρ ρ' floor m n m' n' w w') (hm: ∀b,b<n→ ∀cs ty,Yi m b=some ⟨cs,ty,none⟩→Yi m'' b=Yi m' b):Ev ρ ρ' floor m n m'' n' w w':=
 ⟨h.ext,h.new,h.nxt,fun b hb e cs ty hc=>by rw [hm b hb cs ty hc];exact h.unborn b hb e cs ty hc,h.frame,h.fresh,h.size,h.os,h.tape,h.output,h.still⟩
theorem Rel.remem {mem mem':Mem} {next:Nat} {w:World} (h:Rel ρ mem next w) (hm: ∀b,Yi mem' b=Yi mem b):Rel ρ mem' next w:=
 ⟨h.dom,fun b b' l l' e e' he hs hs'=>h.inj b b' l l' e e' he (by grind) (by grind),fun b l ab e hc=>h.blk b l ab e (by grind),h.old,fun b l e hs=>h.sep b l e (by grind),h.real,fun b hb=>by rw [hm];exact h.bd b hb,h.ldom⟩
theorem y1r {cx:Ctx} {st st':St} {w:World} (h:Rel ρ st.mem st.next w) {t:TypeId} {x y v:AVal} {ux uy:Value} (hb:Ky P cx st t x y=some (v,st')) (hob:st'.ob=true) (hx:Yx ρ x ux) (hy:Yx ρ y uy):
  ∃ρ' u w',(Instr.makeSlice t ux uy).run P w=.ok u w'∧x4x ρ cx.floor st st' v w ρ' u w':=by
 unfold Ky at hb;split at hb
 ·rename_i e kl l kc c hu;split at hb
  ·rename_i i zero hi hz;cases eF:(Nat.beq zero.length i.size&&Nat.ble 1 i.size) with
   | false=>grind
   | true=>
    rw [eF,Ab] at hb;simp only [Ae] at eF;obtain ⟨k1,k2⟩:=eF;have hzl:=Ai k1;simp only [Al,Ac] at hb;obtain ⟨st1,ho,rfl,rfl⟩:=hb;obtain ⟨o1,o2,o3,o4⟩:=z8w ho;obtain ⟨hc,_⟩:=o4 hob;have m2:st1.mem=Wv st.mem st.next (some ⟨Ym c.toNat fun _=>zero,e,some ⟨i.size,c.toNat,.flat fun _=>zero⟩⟩):=o2
    have n2:st1.next=st.next+1:=o3
    have h0:Um P st t (.int kl l) (.int kc c)=some (.sl st.next 0 l.toNat (.ex c.toNat),y2u st (rep c.toNat zero) e):=by simp_all [Um]
    obtain ⟨ρ',uv,w',dL,hp,_,_⟩:=z0c h cx.floor h0 hx hy;refine ⟨ρ',uv,w',dL,?_,?_,?_⟩
    ·have hv:=hp.val;cases hv with
     | sl _ _ _ _ l' c' hρ' fH fE=>
      have hbk:=hp.rel.blk st.next l' ⟨rep c.toNat zero,e,none⟩ hρ' (Yk _ _ _)
      have hcn:c'=c.toNat:=fH;have q1:=hbk.n;have q2:=hbk.tot;simp only [z2k,hzl] at q1;have:=Yx.sla (ρ:=ρ') st.next i.size 0 l.toNat (.un i.size) l' c' hρ' (by grind [z1j]) fE
      grind
    ·have hr:Rel ρ' (Wv st.mem st.next (some ⟨rep c.toNat zero,e,none⟩)) (st.next+1) w':=hp.rel;rw [w5j] at hr;rw [m2,n2];exact hr.setArr ⟨i.size,c.toNat,_⟩ rfl (Ak k2) fun _ _=>hzl
    ·rw [m2,n2];refine hp.ev.remem fun b' hb' cs ty hcs=> ?_;show _=Yi (Wv st.mem st.next _) b'
     grind [Zv]
  ·cases hb
 ·cases hb
theorem z6u {cx:Ctx} {st st':St} {w:World} (h:Rel ρ st.mem st.next w) {ts:Array TypeId} {type:TypeId} {xs:List AVal} {us:Array Value} {v:AVal} (ha:z3w P cx st ts.toList xs=some (v,st')) (hob:st'.ob=true) (hx:Vk (Yx ρ) xs us.toList):
  ∃ρ' u w',(Builtin.append_ ts type us).run P w=.ok u w'∧x4x ρ cx.floor st st' v w ρ' u w'∧ ∀b sz off len z r blk l,xs=.sla b sz off len (.un z)::r→Yi st.mem b=some blk→ρ b=some l→Jz ρ w' blk l:=by
 obtain ⟨ul⟩:=us;simp only at hx;unfold z3w at ha;split at ha
 ·rename_i t u tr b sz off len z x xr hts;split at ha
  ·rename_i e ut hu hut;split at ha
   ·cases ha
   ·rename_i hni;split at ha
    ·rename_i i hi;split at ha
     ·rename_i n new zero blk hc hz hm;split at ha
      ·rename_i A hA;cases eF:(Nat.beq zero.length i.size&&Nat.beq new.length (n*i.size)&&Nat.ble 1 i.size&&new.all y1g&&Nat.beq sz i.size&&Nat.beq z sz&&Nat.ble cx.floor b&&Nat.ble 1 n) with
       | false=>grind
       | true=>
        rw [eF,Ab] at ha;have hchk0:=eF;simp only [Ae] at eF;obtain ⟨⟨⟨⟨⟨⟨⟨k1,k2⟩,k3⟩,k4⟩,k5⟩,k6⟩,k7⟩,k8⟩:=eF;obtain rfl:=Ai k5;obtain rfl:=Ai k6;have hnl:=Ai k2;have hsz1:=Ak k3;have hfl:=Ak k7;have hn1:=Ak k8;simp only [Al,Ac] at ha;obtain ⟨st1,ho,rfl,rfl⟩:=ha;obtain ⟨o1,o2,o3,o4⟩:=z8w ho;obtain ⟨hb,_⟩:=o4 hob;simp only [Ae,As] at hb;obtain ⟨hAs,hfull,dQ⟩:=hb;have hAs:=Ai hAs;have hbn:b<st.next:=by
         rcases A4 b st.next with g | g
         ·exact g
         ·rw [h.bd b g] at hm;cases hm
        have m2:st1.mem=Wv (Wv st.mem b none) st.next (some ⟨Ym (len+n) (Zo A.get off len i.size new),e,some ⟨i.size,len+n,Zo A.get off len i.size new⟩⟩):=o2
        have n2:st1.next=st.next+1:=o3
        cases hx with
        | cons ha0 hr=>
         cases ha0 with
         | sla _ _ _ _ _ l c hρ dR dK=>
          obtain ⟨eU,fF,dU⟩:=(h.blk b l blk hρ hm).arr A hA;rw [hAs] at dU;obtain ⟨q1,q2⟩:=w5b (new:=new) dU hfull hnl;have hlenr:=Yb A.n dU;have hmul:off*i.size+len*i.size=A.n*i.size:=(by grind);have hcut:cut blk.cells (off*i.size) (len*i.size)=some ((blk.cells.drop (off*i.size)).take (len*i.size)):=by
           unfold cut;simp only;rw [show Nat.beq ((blk.cells.drop (off*i.size)).take (len*i.size)).length (len*i.size)=true from by
            rw [Nat.beq_eq];simp [eU,hlenr];omega]
           rfl
          have hroom':Nat.ble ((len+n+1)*(i.bytes+1)) room=true:=AW dQ;have hnot:Nat.ble (off*i.size+(len+n)*i.size) blk.cells.length=false:=by
           have:1*i.size≤n*i.size:=AA _ hn1;cases g:Nat.ble (off*i.size+(len+n)*i.size) blk.cells.length with
           | false=>rfl
           | true=>
            have:=Ak g
            grind
          have hat:Nat.beq (off*i.size+len*i.size) blk.cells.length=true:=(by simp_all);have h0:z1c P cx.floor st ts.toList (.sl b (off*i.size) len (.un i.size)::x::xr)=some (.sl st.next 0 (len+n) (.un i.size),y2u (st.withMem (Wv st.mem b none)) (((blk.cells.drop (off*i.size)).take (len*i.size))++new) e):=by
           rw [hts];unfold z1c;simp only [hu,hut,hi,hz]
           grind [Ut]
          obtain ⟨ρ',uv,w',dL,hp,_,hkeep⟩:=z0n (type:=type) h cx.floor h0 (us:=⟨_⟩) (.cons (.sl _ _ _ _ l c hρ dR dK) hr);refine ⟨ρ',uv,w',dL,⟨?_,?_,?_⟩,fun b' sz' off' len' z' r' blk' l' e hm' hl'=> ?_⟩
          rotate_left 3
          ·injection e with e1 _;injection e1 with f1 _ _ _ _;subst f1;rw [hm] at hm';obtain rfl:=Ag hm';have hxs: ∃b2 o2 c2,x=.sl b2 o2 n c2:=by
            unfold Xu at hc;split at hc
            ·grind
            ·split at hc;all_goals simp_all
            ·cases hc
           obtain ⟨b2,o2,c2,rfl⟩:=hxs;exact hkeep.1 _ _ _ _ _ _ _ _ _ _ _ rfl hn1 hm (by grind) hl'
          ·have hv:=hp.val;cases hv with
           | sl _ _ _ _ l' c' hρ' fH fE=>
            have:=Yx.sla (ρ:=ρ') st.next i.size 0 (len+n) (.un i.size) l' c' hρ' (by grind) fE
            grind
          ·have hr:=hp.rel;rw [m2,n2];have hr:Rel ρ' (Wv (Wv st.mem b none) st.next (some ⟨((blk.cells.drop (off*i.size)).take (len*i.size))++new,e,none⟩)) (st.next+1) w':=hr;rw [eU,←q2] at hr;exact hr.setArr ⟨i.size,len+n,_⟩ rfl hsz1 q1
          ·rw [m2,n2];refine hp.ev.remem fun b' hb' cs ty hcs=> ?_;have hne:b'≠b:=fun e=>by grind
           show _=Yi (Wv (Wv st.mem b none) st.next _) b';rw [Zv _ _ (by omega),Zv _ _ hne,Zv _ _ (by omega),Zv _ _ hne]
         | slan=>
          have hq:=w5b (get:=fun _=>List.replicate i.size AVal.undef) (off:=0) (len:=0) (N:=0) (new:=new) (fun i hi=>absurd hi (AG _)) rfl hnl;have hfe:Zo (fun _=>List.replicate i.size AVal.undef) 0 0 i.size new=Zo A.get off 0 i.size new:=rfl;rw [hfe] at hq;obtain ⟨q1,q2⟩:=hq;have hn0:Nat.beq n 0=false:=by cases n with | zero=>omega | succ n=>rfl
          have hroom':Nat.ble ((n+1)*(i.bytes+1)) room=true:=AW (by grind);have h0:z1c P cx.floor st ts.toList (.nils ::x::xr)=some (.sl st.next 0 n (.un i.size),y2u st new e):=by
           rw [hts];unfold z1c
           grind [Ut]
          obtain ⟨ρ',uv,w',dL,hp,_,hkeep⟩:=z0n (type:=type) h cx.floor h0 (us:=⟨_⟩) (.cons .nils hr);refine ⟨ρ',uv,w',dL,⟨?_,?_,?_⟩,fun b' sz' off' len' z' r' blk' l' e hm' hl'=> ?_⟩
          rotate_left 3
          ·have hq:=h.blk b' l' blk' hl' hm';refine hq.world (Rho.le_refl ρ) ?_;obtain ⟨_,_,_,cs0,el0,g1,_⟩:=hq;rw [g1];exact hkeep.2 _ rfl _ _ g1
          ·have hv:=hp.val;rw [Af];cases hv with
           | sl _ _ _ _ l' c' hρ' fH fE=>
            have:=Yx.sla (ρ:=ρ') st.next i.size 0 n (.un i.size) l' c' hρ' (by grind) fE
            grind
          ·have hr:Rel ρ' (Wv st.mem st.next (some ⟨new,e,none⟩)) (st.next+1) w':=hp.rel;have hr:=hr.kill b;have hr:Rel ρ' (Wv (Wv st.mem b none) st.next (some ⟨new,e,none⟩)) (st.next+1) w':=hr.remem fun b'=>by
            simp only [Vn];by_cases e1:b'=st.next
            ·rw [AL e1,AF (by omega),AL e1]
            simp_all
           rw [show new=Ym (0+n) (Zo A.get off 0 i.size new) by rw [q2];simp] at hr;rw [m2,n2];have:=hr.setArr ⟨i.size,0+n,Zo A.get off 0 i.size new⟩ rfl hsz1 q1;exact this
          ·rw [m2,n2];refine hp.ev.remem fun b' hb' cs ty hcs=> ?_;have hne:b'≠b:=fun e=>by grind
           show _=Yi (Wv st.mem st.next _) b';rw [Zv _ _ (by omega),Zv _ _ hne,Zv _ _ (by omega)]
      ·cases ha
     ·cases ha
    ·cases ha
  ·cases ha
 ·cases ha
theorem Rel.ghost {mem:Mem} {next:Nat} {w:World} (h:Rel ρ mem next w) (o:Option ABlk):Rel ρ (Wv mem next o) (next+1) w:=by
 have ne: ∀c l,ρ c=some l→c≠next:=fun c l e=>BA (h.dom c l e)
 refine ⟨fun c l e=>Bd (h.dom c l e),fun c c' m m' e e' he hs hs'=> ?_,fun c m ac e hc=> ?_,h.old,fun c m e hs=> ?_,h.real,fun c hc=> ?_,fun j l e=>Bd (h.ldom j l e)⟩
 ·rw [Zv _ _ (ne _ _ e)] at hs;rw [Zv _ _ (ne _ _ e')] at hs';exact h.inj c c' m m' e e' he hs hs'
 ·rw [Zv _ _ (ne _ _ e)] at hc;exact h.blk c m ac e hc
 ·rw [Zv _ _ (ne _ _ e)] at hs;exact h.sep c m e hs
 ·rw [Zv _ _ (by omega)];exact h.bd c (by omega)
theorem Ev.ghost {mem:Mem} {next:Nat} {w:World} (h:Rel ρ mem next w) (floor:Nat) (o:Option ABlk):Ev ρ ρ floor mem next (Wv mem next o) (next+1) w w where
 ext:=Rho.le_refl _
 new _ _:=rfl
 nxt:=BT _
 unborn k hk _ cs ty hm:=by grind [Zv]
 frame _ _ hk _:=hk
 fresh k m hk e:=by have:=h.dom k m e;omega
 size:=Aq _
 os:=rfl
 tape:=rfl
 output:=rfl
 still _ _:=rfl
theorem v8r {mem:Mem} {next:Nat} {w:World} (h:Rel ρ mem next w) {n sz:Nat} {g:Nat→List AVal} {ux:Value} (hx:Yx ρ (.dat n g) ux) (hg: ∀i,i<n→(g i).length =sz) (hsz:1≤sz):
  (∀w,(Builtin.lenOf ux).run P w=.ok n w)∧ ∃vs:Array Value,Ue ρ (Ym n g) vs∧ ∀d,(Builtin.firstCells sz n ux).run P {w with drawn:=d}=.ok vs {w with drawn:=d}:=by
 cases hx with
 | datn=>exact ⟨fun w=>by simp [Builtin.lenOf], #[],⟨by simp [Ym],fun i h1 h2=>by grind⟩,fun d=>by simp [Builtin.firstCells]⟩
 | datz=>exact ⟨fun w=>by simp [Builtin.lenOf], #[],⟨by simp [Ym],fun i h1 h2=>by grind⟩,fun d=>by simp [Builtin.firstCells,loadCells,loadCellsFrom]⟩
 | dat _ _ blk base sz' cap val dR fK hv hh=>
  refine ⟨fun w=>by simp [Builtin.lenOf],?_⟩;have hl:=Yb n hg;have hdiv: ∀k,k<n*sz→k / sz<n∧k %sz<sz∧k / sz*sz+k %sz=k:=fun k hk=>
   ⟨A5 (by grind),Bn _ hsz,by rw [Bu];exact Bo k sz⟩
  have eP: ∀(d k:Nat),k<n*sz→({w with drawn:=d}:World).cell? ((⟨blk,base,none⟩:Addr).add k)=some (val (k / sz) (k %sz)):=by
   intro d k hk;obtain ⟨hq,hj,e4⟩:=hdiv k hk;have hs:sz'=sz:=by grind
   obtain ⟨cs,el,fz,e1,e2⟩:=hh (k / sz) (k %sz) hq (by omega);have e3:=h.old _ _ e1
   grind [Xf,World.cell?]
  refine ⟨_,⟨?_,?_⟩,fun d=>by simp only [Builtin.firstCells];exact run_loadCells _ _ _ (fun k=>val (k / sz) (k %sz)) (eP d)⟩
  ·simp [hl]
  ·intro k h1 h2;obtain ⟨hq,hj,e4⟩:=hdiv k (by grind);have hj':k %sz<(g (k / sz)).length :=by grind
   have hr:=Vu n hg (k / sz) (k %sz) hq hj;rw [e4,Au h1,Au hj'] at hr;rw [Ag hr]
   simpa using (hv (k / sz) (k %sz) hq hj').mono (y7z ρ)
theorem y4f {g:Nat→List AVal} {p:AVal→Bool} (n:Nat) (h: ∀i,i<n→(g i).all p=true):(Ym n g).all p=true:=by
 grind [Ym]
theorem z4u {get:Nat→List AVal} {sz N off len:Nat} (hl: ∀i,i<N→(get i).length =sz) (h:off+len≤N):Ym len (fun k=>get (off+k))=((Ym N get).drop (off*sz)).take (len*sz):=by
 have h1: ∀k,k<len→(get (off+k)).length =sz:=fun k hk=>hl _ (by omega);have hL:=Yb len h1;have hN:=Yb N hl;have hm:(off+len)*sz≤N*sz:=AA _ h;rw [AS] at hm;apply List.ext_getElem?;intro i;by_cases hi:i<len*sz
 ·have hsz:0<sz:=by
   grind
  have hj:i %sz<sz:=Bn _ hsz;have hq:i / sz<len:=A5 (by grind);have e:i / sz*sz+i %sz=i:=by rw [Bu];exact Bo i sz
  have a1:=Vu len h1 (i / sz) (i %sz) hq hj;have a2:=Vu N hl (off+i / sz) (i %sz) (by omega) hj
  grind
 grind
theorem x2f {mem:Mem} {next:Nat} {w:World} (h:Rel ρ mem next w) {t u e:TypeId} {ut:TypeDesc} {i:TypeInfo} {z:Value} {zero:List AVal} {x:AVal} {ux:Value} {n:Nat} {g:Nat→List AVal} {o:Bool} (hu:P.underlying t=some (.slice e)) (hut:P.underlying u=some ut) (hi:P.info? e=some i) (hz:i.zero=some z)
  (hzr:Ue ρ zero z.cells) (hzl:zero.length=i.size) (hzs:zero.all y1g=true) (hsz:1≤i.size) (hc:x2g mem i.size zero ut x=some (n,g,o)) (ho:o=true) (hx:Yx ρ x ux):
  (∀k,k<n→(g k).length =i.size)∧ ∃vs,u6k P ρ t u e i z ux n (Ym n g) vs w∧ ∀v∈vs.toList,v.oneCell'=true:=by
 subst ho;unfold x2g at hc;split at hc
 ·rename_i k m;split at hc
  ·rename_i kt;simp only [Ad,Ac] at hc;obtain ⟨rfl,rfl,h0⟩:=hc;have hcs:Ut mem i.size zero (.int kt) (.int k m)=some (m.toNat,rep m.toNat zero):=by
    grind [Ut]
   obtain ⟨vs,hF⟩:=Jh (P:=P) (u:=u) (t:=t) h hu hut hi hz hzr hzl hcs hx (by rw [z2k,hzl]);rw [w5j] at hF;exact ⟨fun _ _=>hzl,vs,hF,Yx.cells_oneCell hF.rel (y4f _ fun _ _=>hzs)⟩
  ·cases hc
 ·rename_i nn gg;split at hc
  ·cases hc
  ·rename_i hni;simp only [Ad,Ac] at hc;obtain ⟨rfl,rfl,h0⟩:=hc;have hp:= @Aw _ (Classical.propDecidable _) h0;obtain ⟨dK,vs,hvs,hfc⟩:=v8r (P:=P) h hx (fun i hi=>(hp i hi).1) hsz;have fG:(Builtin.firstCells i.size nn ux).run P w=.ok vs w:=hfc w.drawn;have hfc1:(Builtin.firstCells i.size nn ux).run P w.drew=.ok vs w.drew:=hfc (w.drawn+1);exact ⟨fun i hi=>(hp i hi).1,vs,⟨hvs,fun _ dQ _ hst hno=>z8e hu hut (fun k e=>hni k e) hi (dK w) fG dQ hst hno,fun hold dQ eO=>z6o hu hut (fun k e=>hni k e) hi hz (dK w) hfc1 hold dQ eO⟩,
    Yx.cells_oneCell hvs (y4f _ fun i hi=>(hp i hi).2)⟩
 ·split at hc
  ·cases hc
  ·rename_i hni;simp only [Ad,Ac] at hc;obtain ⟨rfl,rfl,_⟩:=hc;have hcs:Ut mem i.size zero ut .nils =some (0,[]):=by
    unfold Ut;split
    ·grind
    ·rfl
   obtain ⟨vs,hF⟩:=Jh (P:=P) (u:=u) (t:=t) h hu hut hi hz hzr hzl hcs hx (by simp);exact ⟨fun k hk=>absurd hk (AG _),vs,hF,Yx.cells_oneCell hF.rel rfl⟩
 ·rename_i b zz off len0 cap;split at hc
  ·cases hc
  ·rename_i hni;split at hc
   ·rename_i cells ty A hm;simp only [Ad,Ac,Ae,As] at hc;obtain ⟨rfl,rfl,h1,h2,dZ,h4⟩:=hc;have hp:= @Aw _ (Classical.propDecidable _) h4;have h1:=Ai h1;have h2:=Ai h2;subst h1;have nc: ∀v,Ut mem i.size zero ut v=Xu mem i.size v:=fun v=>by
     grind [Ut]
    cases hx with
    | sla _ _ _ _ _ l c hρ dR hlc=>
     obtain ⟨eU,fF,dU⟩:=(h.blk b l _ hρ hm).arr A rfl;rw [h2] at dU;simp only at eU;have hrp:=z4u dU dZ;have hlr:=Yb A.n dU;have hm2:(off+len0)*i.size≤A.n*i.size:=AA _ dZ;rw [AS] at hm2;have dK:((cells.drop (off*i.size)).take (len0*i.size)).length =len0*i.size:=by
      grind
     have hcut:cut cells (off*i.size) (len0*i.size)=some ((cells.drop (off*i.size)).take (len0*i.size)):=by simp_all [cut]
     have hcs:Ut mem i.size zero ut (.sl b (off*i.size) len0 (.ex c))=some (len0,(cells.drop (off*i.size)).take (len0*i.size)):=by rw [nc];simp [Xu,hm,hcut]
     obtain ⟨vs,hF⟩:=Jh (P:=P) (u:=u) (t:=t) h hu hut hi hz hzr hzl hcs (.sl b (off*i.size) len0 (.ex c) l c hρ rfl hlc) dK;rw [eU,←hrp] at hF;exact ⟨fun k hk=>(hp k hk).1,vs,hF,Yx.cells_oneCell hF.rel (y4f _ fun k hk=>(hp k hk).2)⟩
    | slan=>
     have hcs:Ut mem i.size zero ut .nils =some (0,[]):=by rw [nc];rfl
     obtain ⟨vs,hF⟩:=Jh (P:=P) (u:=u) (t:=t) h hu hut hi hz hzr hzl hcs .nils (by simp);exact ⟨fun k hk=>absurd hk (AG _),vs,hF,Yx.cells_oneCell hF.rel rfl⟩
   ·cases hc
 ·cases hc
def t0d (P:Program) (ρ:Rho) (floor:Nat) (mem mem':Mem) (next:Nat) (sz:Nat) (e:TypeId) (N:Nat) (G:Nat→List AVal) (w:World) (r:World→Result Value):Prop:=
 ∃ρ' u w',r w=.ok u w'∧Yx ρ' (.sla next sz 0 N (.un sz)) u∧Rel ρ' (Wv mem' next (some ⟨Ym N G,e,some ⟨sz,N,G⟩⟩)) (next+1) w'∧Ev ρ ρ' floor mem next (Wv mem' next (some ⟨Ym N G,e,some ⟨sz,N,G⟩⟩)) (next+1) w w'
theorem y7k {mem:Mem} {next:Nat} {w:World} (h:Rel ρ mem next w) (floor:Nat) {t u e:TypeId} {type:TypeId} {ts:List TypeId} {xs:List Value} {i:TypeInfo} {z ux:Value} {n:Nat} {new:List AVal} {vs:Array Value} (hF:u6k P ρ t u e i z ux n new vs w)
  (eH: ∀v∈vs.toList,v.oneCell'=true) (hnl:new.length=n*i.size) (hzs:z.cells.size=i.size) (hsz:1≤i.size) {len c off b:Nat} {l:Loc} {blk:ABlk} (hrm:(len+n+1)*(i.bytes+1)≤room)
  (hρ:ρ b=some l) (hm:Yi mem b=some blk) (hfl:floor≤b) (hoff:off+len*i.size≤blk.cells.length) (hlc:len≤c) (dR:(l.n≤off+c*i.size∧off+c*i.size≤l.tot)∨c≤len)
  {G:Nat→List AVal} (hG:Ym (len+n) G=(blk.cells.drop off).take (len*i.size)++new) (hGl: ∀k,k<len+n→(G k).length =i.size):
  t0d P ρ floor mem (Wv mem b none) next i.size e (len+n) G w fun w=>(Builtin.append_ (t::u::ts).toArray type ((.slice (some ⟨l.blk,l.base+off,none⟩) len c)::ux::xs).toArray).run P w:=by
 have hvs:=hF.rel;have hvsz:vs.size=n*i.size:=by rw [←hvs.1];exact hnl
 have hbk:=h.blk b l blk hρ hm;have hln:=hbk.n;have htot:=hbk.tot;have hmul:(len+n)*i.size=len*i.size+n*i.size:=AS _ _ _;have hcut:cut blk.cells off (len*i.size)=some ((blk.cells.drop off).take (len*i.size)):=by unfold cut;simp only;rw [show Nat.beq ((blk.cells.drop off).take (len*i.size)).length (len*i.size)=true from by rw [Nat.beq_eq];simp;omega];rfl
 have hcos:Xu mem i.size (.sl b off len (.ex c))=some (len,(blk.cells.drop off).take (len*i.size)):=by simp [Xu,hm,hcut]
 have holdl:((blk.cells.drop off).take (len*i.size)).length =len*i.size:=by simp;omega
 obtain ⟨_,hfo⟩:=Vp (P:=P) h hcos (.sl b off len (.ex c) l c hρ rfl hlc) holdl;obtain ⟨ovs,hovs,hof⟩:=hfo len (Aq _);rw [A6 (by omega)] at hovs;have hovz:ovs.size=len*i.size:=by rw [←hovs.1];exact holdl
 have hof1:(Builtin.firstCells i.size len (.slice (some ⟨l.blk,l.base+off,none⟩) len c)).run P w.drew=.ok ovs w.drew:=hof (w.drawn+1);have hrn:n=0∨(n+1)*(i.bytes+1)≤1099511627776:=.inr (Av (AA _ (by omega)) hrm);by_cases dQ:len+n≤c
 ·-- there is room
  have hcm:(len+n)*i.size≤c*i.size:=AA _ dQ;obtain ⟨T,t1,t2,t3⟩: ∃T,off+len*i.size - off+new.length≤T∧off+T≤l.tot∧c*i.size≤T:=by
   rcases dR with ⟨c1,c2⟩ | c1
   ·exact ⟨l.tot - off,by omega,by omega,by omega⟩
   ·have:n=0:=(by omega);subst this;have:c=len:=(by omega);subst this;exact ⟨c*i.size,by omega,by omega,by omega⟩
  obtain ⟨cur,el,hw,hcsz,dJ⟩:=h.beyond2 hρ hm (off:=off) (m:=off+len*i.size) (T:=T) (new:=new) (vs:=vs.toList) e (by grind) (by omega) hoff t1 t2 (fun j h1 h2=>by simpa using hvs.2 j h1 (by grind));have hst:=run_storeCells_at P l.blk (l.base+off+len*i.size) el vs.toList 0 cur w hw (by grind) eH;rw [Bl] at hst;have dL:=hF.hin (type:=type) (ts:=ts) (base:=some ⟨l.blk,l.base+off,none⟩) (len:=len) (c:=c) (xs:=xs) hrn dQ (w':=w.setRow l.blk (cur.toList.take (l.base+off+len*i.size)++vs.toList++cur.toList.drop (l.base+off+len*i.size+vs.toList.length)).toArray)
   (fun a e=>by cases e;rw [Xf];exact hst) (fun e=>by cases e)
  have hdt:(blk.cells.take (off+len*i.size)).drop off=(blk.cells.drop off).take (len*i.size):=by
   grind
  rw [hdt,←hG,←Ay] at dJ;refine ⟨_,_,_,dL,?_,dJ.setArr ⟨i.size,len+n,G⟩ rfl hsz hGl,?_⟩
  ·have:=Yx.sla (ρ:=Uw ρ next ⟨l.blk,l.base+off,off+len*i.size - off+new.length,T⟩) next i.size 0 (len+n) (.un i.size) ⟨l.blk,l.base+off,off+len*i.size - off+new.length,T⟩ c (by simp [Uw])
    (by grind [z1j]) (by omega)
   grind
  grind [Ev.ofBeyond]
 ·-- a new row
  let st:St:=⟨.leaf,mem,next,[],true⟩
  have eI:Rel ρ (st.withMem (Wv mem b none)).mem (st.withMem (Wv mem b none)).next w:=h.kill b
  obtain ⟨newCap,fH,rest,eC,dL⟩:=hF.hnew (type:=type) (ts:=ts) (base:=some ⟨l.blk,l.base+off,none⟩) (len:=len) (c:=c) (xs:=xs) hof1 (by omega) (by simpa [room] using hrm);have hov:=hovs.append hvs;have hsum:(ovs++vs).size +rest.size=newCap*i.size:=by rw [Array.size_append,hovz,hvsz,eC,hzs,←AS,←AS];grind
  have hp:=z6a eI floor hov rest e e (.sla next i.size 0 (len+n) (.un i.size)) (.slice (some ⟨w.heap.size,0,none⟩) (len+n) newCap) (fun ρ' hρ'=>by
   have:=Yx.sla (ρ:=ρ') next i.size 0 (len+n) (.un i.size) _ newCap hρ' (by
    grind [z1j]) fH
   grind)
  rw [←hG] at hp;refine ⟨Uw ρ next ⟨w.heap.size,0,(Ym (len+n) G).length,(ovs++vs).size +rest.size⟩,_,_,dL,hp.val,?_,?_⟩
  ·exact Rel.setArr hp.rel ⟨i.size,len+n,G⟩ rfl hsz hGl
  ·refine ((Ev.ofKill h floor hρ).trans hp.ev).remem fun b' hb' cs ty hcs=> ?_;have hne: ¬b'=next:=BA hb'
   show Yi (Wv (Wv mem b none) next _) b'=Yi (Wv (Wv mem b none) next _) b';simp only [Vn,AF hne]
theorem x6s {mem:Mem} {next:Nat} {w:World} (h:Rel ρ mem next w) (floor:Nat) {t u e:TypeId} {type:TypeId} {ts:List TypeId} {xs:List Value} {i:TypeInfo} {z ux:Value} {n:Nat} {new:List AVal} {vs:Array Value} (hF:u6k P ρ t u e i z ux n new vs w)
  (hnl:new.length=n*i.size) (hzs:z.cells.size=i.size) (hsz:1≤i.size) (hrm:(0+n+1)*(i.bytes+1)≤room) {G:Nat→List AVal} (hG:Ym (0+n) G=new) (hGl: ∀k,k<0+n→(G k).length =i.size):
  t0d P ρ floor mem mem next i.size e (0+n) G w fun w=>(Builtin.append_ (t::u::ts).toArray type ((.slice none 0 0)::ux::xs).toArray).run P w:=by
 have hvs:=hF.rel;have hvsz:vs.size=n*i.size:=by rw [←hvs.1];exact hnl
 rcases Nat.eq_zero_or_pos n with hn0 | hnpos
 ·subst hn0;have dL:=hF.hin (type:=type) (ts:=ts) (base:=none) (len:=0) (c:=0) (xs:=xs) (.inl rfl) (Aq _) (w':=w) (fun a e=>by cases e) (fun _=>rfl);exact ⟨ρ,_,w,dL,.slan _ _ _ _,h.ghost _,Ev.ghost h floor _⟩
 ·obtain ⟨newCap,dR,rest,eC,dL⟩:=hF.hnew (type:=type) (ts:=ts) (base:=none) (len:=0) (c:=0) (xs:=xs) (old:= #[]) (by simp [Builtin.firstCells]) (by omega) (by simpa [room] using hrm);have e0:(#[]:Array Value)++vs=vs:=by simp
  rw [e0] at dL;have hsum:vs.size+rest.size=newCap*i.size:=by rw [hvsz,eC,hzs,←AS];grind
  let st:St:=⟨.leaf,mem,next,[],true⟩
  have eI:Rel ρ st.mem st.next w:=h
  have hp:=z6a eI floor hvs rest e e (.sla next i.size 0 (0+n) (.un i.size)) (.slice (some ⟨w.heap.size,0,none⟩) (0+n) newCap) (fun ρ' hρ'=>by
   have:=Yx.sla (ρ:=ρ') next i.size 0 (0+n) (.un i.size) _ newCap hρ' (by
    grind [z1j]) dR
   grind)
  rw [←hG] at hp;refine ⟨Uw ρ next ⟨w.heap.size,0,(Ym (0+n) G).length,vs.size+rest.size⟩,_,_,dL,hp.val,Rel.setArr hp.rel ⟨i.size,0+n,G⟩ rfl hsz hGl,?_⟩
  ·refine hp.ev.remem fun b' hb' cs ty hcs=> ?_;have hne: ¬b'=next:=BA hb'
   show Yi (Wv mem next _) b'=Yi (Wv mem next _) b';simp only [Vn,AF hne]
theorem Kq {α β:Type} {f g:α→List β}: ∀{l:List α},(∀a,a∈l→f a=g a)→l.flatMap f=l.flatMap g
 | [],_=>rfl
 | a::l,h=>by rw [List.flatMap_cons,List.flatMap_cons,h a (by simp),Kq fun b hb=>h b (by simp [hb])]
theorem y4e {get g:Nat→List AVal} {len n sz:Nat} (hl: ∀i,i<len→(get i).length =sz) (hg: ∀i,i<n→(g i).length =sz):
  (∀i,i<len+n→(Qz get len g i).length =sz)∧Ym (len+n) (Qz get len g)=Ym len get++Ym n g:=by
 have h1: ∀i,i<len+n→(Qz get len g i).length =sz:=fun i hi=>by
  unfold Qz;cases e:Nat.ble len i with
  | true=>
   have:=Ak e
   grind
  | false=>
   have: ¬len≤i:=fun h=>by rw [AW h] at e;cases e
   grind
 refine ⟨h1,?_⟩;unfold Ym;rw [List.range_add,List.flatMap_append]
 congr 1
 ·refine Kq fun i hi=> ?_;have:=A3.1 hi;unfold Qz;rw [show Nat.ble len i=false from A2.2 fun e=>by have:=Ak e;omega];rfl
 ·rw [List.flatMap_map];refine Kq fun i hi=> ?_;unfold Qz;rw [show Nat.ble len (len+i)=true from AW (Nat.le_add_right _ _),Ab,Nat.add_sub_cancel_left]
theorem x9t {sz:Nat}: ∀(n:Nat) (l:List AVal),l.length=n*sz→Ym n (fun k=>(l.drop (k*sz)).take sz)=l∧ ∀k,k<n→((l.drop (k*sz)).take sz).length =sz:=by
 intro n l hl;have h1: ∀k,k<n→((l.drop (k*sz)).take sz).length =sz:=fun k hk=>by
  have:(k+1)*sz≤n*sz:=AA _ hk
  grind
 refine ⟨?_,h1⟩;have dK:=Yb n h1;apply List.ext_getElem?;intro i;by_cases hi:i<n*sz
 ·have hsz:0<sz:=by
   grind
  have hj:i %sz<sz:=Bn _ hsz;have hq:i / sz<n:=A5 (by grind);have e:i / sz*sz+i %sz=i:=by rw [Bu];exact Bo i sz
  grind [Vu]
 grind
theorem y8z {cx:Ctx} {st st':St} {w:World} (h:Rel ρ st.mem st.next w) {ts:Array TypeId} {type:TypeId} {xs:List AVal} {us:Array Value} {v:AVal} (ha:z0o P cx st ts.toList xs=some (v,st')) (hob:st'.ob=true) (hx:Vk (Yx ρ) xs us.toList):
  ∃ρ' u w',(Builtin.append_ ts type us).run P w=.ok u w'∧x4x ρ cx.floor st st' v w ρ' u w':=by
 obtain ⟨ts⟩:=ts;obtain ⟨us⟩:=us;simp only at ha hx;unfold z0o at ha;split at ha
 ·rename_i t tu tts s x txs;cases hx with
  | @cons _ su _ _ hs hx=>
   cases hx with
   | @cons _ ux _ uxs hx _=>
    split at ha
    ·rename_i e ut hu hut;split at ha
     ·rename_i i zero hi hz;split at ha
      ·rename_i b len get o1 n g o2 ht hc;obtain ⟨i2,z,hi2,hz2,hzr,_⟩:=Wp (ρ:=ρ) hz;obtain rfl:i=i2:=by grind
       obtain ⟨eF,ha⟩:=z0m ha;simp only [Ae] at eF;obtain ⟨⟨⟨hzl,hzsc⟩,hsz⟩,hfl⟩:=eF;have hzl:=Ai hzl;have hsz:=Ak hsz;have hzs:z.cells.size=i.size:=by rw [←hzr.1];exact hzl
       simp only [Al,Ac] at ha;obtain ⟨st1,ho,rfl,rfl⟩:=ha;obtain ⟨_,m2,n2,o4⟩:=z8w ho;obtain ⟨hb,_⟩:=o4 hob;simp only [Ae,As] at hb;obtain ⟨hb1,hb2,hrm⟩:=hb;have m2:st1.mem=Wv (w1y st.mem b) st.next (some ⟨Ym (len+n) (Qz get len g),e,some ⟨i.size,len+n,Qz get len g⟩⟩):=m2
       have n2:st1.next=st.next+1:=n2
       obtain ⟨hgl,vs,hF,eH⟩:=x2f (P:=P) (u:=tu) (t:=t) h hu hut hi hz2 hzr hzl hzsc hsz hc hb2 hx.unN;have hnl:=Yb n hgl
       suffices t0d P ρ cx.floor st.mem (w1y st.mem b) st.next i.size e (len+n) (Qz get len g) w fun w=>(Builtin.append_ (t::tu::tts).toArray type (su::ux::uxs).toArray).run P w by obtain ⟨ρ',u,w',dL,hv,hr,hev⟩:=this;exact ⟨ρ',u,w',dL,hv,by grind,by grind⟩
       unfold z5q at ht;split at ht
       ·simp only [Ad,Ac] at ht;obtain ⟨rfl,rfl,rfl,_⟩:=ht;cases hs;obtain ⟨q1,q2⟩:=y4e (get:=fun _=>[]) (len:=0) (fun i hi=>absurd hi (AG _)) hgl;exact x6s h cx.floor hF hnl hzs hsz hrm (by rw [q2];simp [Ym]) q1
       ·rename_i b0 off len0 cap;split at ht
        ·rename_i blk hm;split at ht
         ·rename_i old hold;obtain ⟨fA,ht⟩:=z0m ht;simp only [Ae] at fA;obtain ⟨fA,hoff⟩:=fA;have hoff:=Ak hoff;simp only [Ad,Ac] at ht;obtain ⟨rfl,rfl,rfl,_⟩:=ht;obtain ⟨k1,k2,k3⟩:=z6g hold;obtain ⟨r1,r2⟩:=x9t len0 old k2;obtain ⟨q1,q2⟩:=y4e r2 hgl;cases hs with
          | sl _ _ _ _ l c hρ dR hlc=>
           have hbk:=h.blk b0 l blk hρ hm;have k4:off+len0*i.size≤blk.cells.length:=(by omega);refine y7k h cx.floor hF eH hnl hzs hsz hrm hρ hm (Ak hfl) k4 hlc ?_ (by grind) q1;cases cap with
           | ex k=>exact .inr (by simp only [z1j] at dR;rw [dR];exact Ak fA)
           | un zz=>
            have:=Ai fA
            grind [z1j]
         ·cases ht
        ·cases ht
       ·rename_i b0 zz off len0 cap;split at ht
        ·rename_i blk hm;split at ht
         ·rename_i A hA;obtain ⟨fA,ht⟩:=z0m ht;simp only [Ad,Ac] at ht;obtain ⟨rfl,rfl,rfl,rfl⟩:=ht;simp only [Ae,As] at hb1;obtain ⟨hz1,hz2',dZ⟩:=hb1;obtain rfl:=Ai hz1;have hAs:=Ai hz2';cases hs with
          | sla _ _ _ _ _ l c hρ dR hlc=>
           obtain ⟨eU,fF,dU⟩:=(h.blk b0 l blk hρ hm).arr A hA;rw [hAs] at dU;have hlr:=Yb A.n dU;have hgl0: ∀k,k<len0→(A.get (off+k)).length =i.size:=fun k hk=>dU _ (by omega);obtain ⟨q1,q2⟩:=y4e hgl0 hgl;have hm2:(off+len0)*i.size≤A.n*i.size:=AA _ dZ;rw [AS] at hm2;refine y7k h cx.floor hF eH hnl hzs hsz hrm hρ hm (Ak hfl) (by grind) hlc ?_ (by rw [q2,z4u dU dZ,eU]) q1;cases cap with
           | ex k=>exact .inr (by simp only [z1j] at dR;rw [dR];exact Ak fA)
           | un zz=>
            have:=Ai fA
            grind [z1j]
          | slan=>
           obtain ⟨q1,q2⟩:=y4e (get:=fun k=>A.get (off+k)) (len:=0) (fun i hi=>absurd hi (AG _)) hgl;obtain ⟨ρ',u,w',dL,hv,hr,hev⟩:=x6s (P:=P) (type:=type) (ts:=tts) (xs:=uxs) h cx.floor hF hnl hzs hsz hrm (G:=Qz (fun k=>A.get (off+k)) 0 g) (by rw [q2];simp [Ym]) q1;have hbn:b0<st.next:=by
            rcases A4 b0 st.next with g | g
            ·exact g
            ·rw [h.bd b0 g] at hm;cases hm
           refine ⟨ρ',u,w',dL,hv,?_,?_⟩
           ·refine (hr.kill b0).remem fun b'=> ?_;simp only [w1y,Vn];by_cases e1:b'=st.next
            ·rw [AL e1,AF (by omega),AL e1]
            simp_all
           ·refine hev.remem fun b' hb' cs ty hcs=> ?_;have hne:b'≠b0:=fun e=>by grind
            show Yi (Wv (Wv st.mem b0 none) st.next _) b'=Yi (Wv st.mem st.next _) b';rw [Zv _ _ (by omega),Zv _ _ hne,Zv _ _ (by omega)]
         ·cases ht
        ·cases ht
       ·cases ht
      ·cases ha
     ·cases ha
    ·cases ha
 ·cases ha
theorem w4d {st st':St} {w:World} (h:Rel ρ st.mem st.next w) (floor:Nat) {ts:Array TypeId} {type:TypeId} {xs:List AVal} {us:Array Value} {v:AVal} (ha:w4g P floor st ts.toList xs=some (v,st')) (hx:Vk (Yx ρ) xs us.toList):
  ∃ρ' u w',(Builtin.copy_ ts type us).run P w=.ok u w'∧x4x ρ floor st st' v w ρ' u w'∧st'.env=st.env∧st'.ob=st.ob:=by
 obtain ⟨ts⟩:=ts;obtain ⟨us⟩:=us;simp only at ha hx;unfold w4g at ha;split at ha
 ·rename_i t _ d x _;cases hx with
  | @cons _ ud _ _ hd hx=>
   cases hx with
   | @cons _ ux _ uxs hx _=>
    split at ha
    ·rename_i e hu;split at ha
     ·rename_i i hi;split at ha
      ·rename_i m src hcs;cases hc:(Nat.beq src.length (m*i.size)&&src.all y1g) with
       | false=>grind
       | true=>
        rw [hc,Ab] at ha;simp only [Ae] at hc;have hsl:=Ai hc.1;have hsc:=hc.2;obtain ⟨dK,eA⟩:=Vp (P:=P) h hcs hx hsl;split at ha
        ·cases hd;simp only [Ad,Ac] at ha;obtain ⟨rfl,rfl⟩:=ha;obtain ⟨vs,hvs,hfc⟩:=eA 0 (AC _);have fG:(Builtin.firstCells i.size 0 ux).run P w=.ok vs w:=hfc w.drawn;refine ⟨ρ,_,w,?_,⟨.int _ _,h,Ev.refl _ _ _ _ _ h.dom⟩,rfl,rfl⟩;simp_all [Builtin.copy_,run_underlying,Zi,goInt]
        ·rename_i dn dg;obtain ⟨hdn,ha'⟩:=z0m ha;clear ha;obtain rfl:=Ai hdn;simp only [Ad,Ac] at ha';obtain ⟨rfl,rfl⟩:=ha';obtain ⟨vs,hvs,hfc⟩:=eA 0 (AC _);have fG:(Builtin.firstCells i.size 0 ux).run P w=.ok vs w:=hfc w.drawn;have hv0:vs= #[]:=by
          have:vs.size=0:=by rw [←hvs.1];simp
          grind
         subst hv0;cases hd with
         | datn=>refine ⟨ρ,_,w,?_,⟨.int _ _,h,Ev.refl _ _ _ _ _ h.dom⟩,rfl,rfl⟩;simp_all [Builtin.copy_,run_underlying,Zi,goInt]
         | datz=>refine ⟨ρ,_,w,?_,⟨.int _ _,h,Ev.refl _ _ _ _ _ h.dom⟩,rfl,rfl⟩;simp_all [Builtin.copy_,run_underlying,Zi,goInt,storeCells]
         | dat=>refine ⟨ρ,_,w,?_,⟨.int _ _,h,Ev.refl _ _ _ _ _ h.dom⟩,rfl,rfl⟩;simp_all [Builtin.copy_,run_underlying,Zi,goInt,storeCells]
        ·rename_i b off len cap;split at ha
         ·rename_i blk hm;dsimp only at ha;cases hf:(Nat.ble floor b&&Nat.ble (off+(Nat.min m len)*i.size) blk.cells.length) with
          | false=>grind
          | true=>
           rw [hf,Ab] at ha;simp only [Ae] at hf;have hfl:=Ak hf.1;have dZ:=Ak hf.2;simp only [Ad,Ac] at ha;obtain ⟨rfl,rfl⟩:=ha;cases hd with
           | sl _ _ _ _ l c hρ dR hlc=>
            have hmin:Nat.min m len≤m:=Nat.min_le_left _ _;have hmul:Nat.min m len*i.size≤m*i.size:=AA _ hmin;obtain ⟨vs,hvs,hfc⟩:=eA (Nat.min m len) hmin;have fG:(Builtin.firstCells i.size (Nat.min m len) ux).run P w=.ok vs w:=hfc w.drawn;have eH:=Yx.cells_oneCell hvs (At.2 fun a ha=>At.1 hsc a (List.mem_of_mem_take ha));have hvl:(src.take (Nat.min m len*i.size)).length =Nat.min m len*i.size:=(by grind);obtain ⟨cur,el,hw,hcsz,dJ⟩:=h.write hρ hm (off:=off) (cs:=src.take (Nat.min m len*i.size)) (vs:=vs.toList) (by simpa using hvs.1.symm) (by grind) (fun j h1 h2=>by simpa using hvs.2 j h1 (by grind));have hst:=run_storeCells_at P l.blk (l.base+off) el vs.toList 0 cur w hw (by grind) eH;rw [Bl] at hst;refine ⟨ρ,.int .i64 (Nat.min m len),w.setRow l.blk (cur.toList.take (l.base+off)++vs.toList++cur.toList.drop (l.base+off+vs.toList.length)).toArray,?_,⟨.int _ _,?_,Ev.ofWrite h hρ hfl _ _⟩,rfl,rfl⟩;all_goals simp_all [Builtin.copy_,run_underlying,Zi,goInt,St.withMem]
         ·cases ha
        ·cases ha
      ·cases ha
     ·cases ha
    ·cases ha
 ·cases ha
theorem v8q {mem:Mem} {next:Nat} {w:World} (h:Rel ρ mem next w) {n sz:Nat} {g:Nat→List AVal} {ux:Value} (hx:Yx ρ (.dat n g) ux) (hg: ∀i,i<n→(g i).length =sz) (hsz:1≤sz) {m:Nat} (hm:m≤n):
  (∀w,(Builtin.lenOf ux).run P w=.ok n w)∧ ∃vs:Array Value,Ue ρ (Ym m g) vs∧ ∀d,(Builtin.firstCells sz m ux).run P {w with drawn:=d}=.ok vs {w with drawn:=d}:=by
 cases hx with
 | datn=>
  obtain rfl:m=0:=by omega
  exact ⟨fun w=>by simp [Builtin.lenOf], #[],⟨by simp [Ym],fun i h1 h2=>by grind⟩,fun d=>by simp [Builtin.firstCells]⟩
 | datz=>
  obtain rfl:m=0:=by omega
  exact ⟨fun w=>by simp [Builtin.lenOf], #[],⟨by simp [Ym],fun i h1 h2=>by grind⟩,fun d=>by simp [Builtin.firstCells,loadCells,loadCellsFrom]⟩
 | dat _ _ blk base sz' cap val dR fK hv hh=>
  refine ⟨fun w=>by simp [Builtin.lenOf],?_⟩;have hg': ∀i,i<m→(g i).length =sz:=fun i hi=>hg i (by omega);have hl:=Yb m hg';have hdiv: ∀k,k<m*sz→k / sz<m∧k %sz<sz∧k / sz*sz+k %sz=k:=fun k hk=>
   ⟨A5 (by grind),Bn _ hsz,by rw [Bu];exact Bo k sz⟩
  have eP: ∀(d k:Nat),k<m*sz→({w with drawn:=d}:World).cell? ((⟨blk,base,none⟩:Addr).add k)=some (val (k / sz) (k %sz)):=by
   intro d k hk;obtain ⟨hq,hj,e4⟩:=hdiv k hk;have hs:sz'=sz:=by grind
   obtain ⟨cs,el,fz,e1,e2⟩:=hh (k / sz) (k %sz) (by omega) (by omega);have e3:=h.old _ _ e1
   grind [Xf,World.cell?]
  refine ⟨_,⟨?_,?_⟩,fun d=>by simp only [Builtin.firstCells];exact run_loadCells _ _ _ (fun k=>val (k / sz) (k %sz)) (eP d)⟩
  ·simp [hl]
  ·intro k h1 h2;obtain ⟨hq,hj,e4⟩:=hdiv k (by grind);have hj':k %sz<(g (k / sz)).length :=by grind
   have hr:=Vu m hg' (k / sz) (k %sz) hq hj;rw [e4,Au h1,Au hj'] at hr;rw [Ag hr]
   simpa using (hv (k / sz) (k %sz) (by omega) hj').mono (y7z ρ)
theorem x5k {g:Nat→List AVal} {sz n m:Nat} (hg: ∀i,i<n→(g i).length =sz) (hm:m≤n):(Ym n g).take (m*sz)=Ym m g:=by
 have:=z4u (off:=0) (len:=m) hg (by omega)
 grind
theorem v4p {get g:Nat→List AVal} {sz N off n:Nat} (hl: ∀i,i<N→(get i).length =sz) (hg: ∀i,i<n→(g i).length =sz) (h:off+n≤N):
  (∀i,i<N→(Uj get off n g i).length =sz)∧Ym N (Uj get off n g)=(Ym N get).take (off*sz)++Ym n g++(Ym N get).drop (off*sz+n*sz):=by
 have h1: ∀i,i<N→(Uj get off n g i).length =sz:=fun i hi=>by
  unfold Uj;cases e:(Nat.ble off i&&Nat.ble (i+1) (off+n)) with
  | true=>
   simp only [Ae] at e;have e1:=Ak e.1;have e2:=Ak e.2
   grind
  | false=>exact hl _ hi
 refine ⟨h1,?_⟩;obtain ⟨r,rfl⟩: ∃r,N=off+(n+r):=⟨N - off - n,by omega⟩
 have e2:off*sz+n*sz=(off+n)*sz:=(AS _ _ _).symm;rw [x5k hl (by omega),e2];have e3:(Ym (off+(n+r)) get).drop ((off+n)*sz)=Ym r fun k=>get (off+n+k):=by
  rw [z4u (off:=off+n) (len:=r) hl (by omega)];rw [A6];have:=Yb _ hl
  grind
 rw [e3];unfold Ym;rw [List.range_add,List.range_add,List.flatMap_append,Bh,List.flatMap_append,←AJ]
 congr 1
 ·congr 1
  ·refine Kq fun i hi=> ?_;have:=A3.1 hi;unfold Uj;rw [show Nat.ble off i=false from A2.2 fun e=>by have:=Ak e;omega];rfl
  ·rw [List.flatMap_map];refine Kq fun i hi=> ?_;have:=A3.1 hi;unfold Uj;rw [AW (show off≤off+i by omega),AW (show off+i+1≤off+n by omega),Nat.add_sub_cancel_left];rfl
 ·rw [List.map_map,List.flatMap_map];refine Kq fun i hi=> ?_;unfold Uj;show (bif Nat.ble off (off+(n+i))&&Nat.ble (off+(n+i)+1) (off+n) then _ else _)=_;rw [show Nat.ble (off+(n+i)+1) (off+n)=false from A2.2 fun e=>by have:=Ak e;omega,Bool.and_false,Aa]
  grind
theorem x4g {mem:Mem} {next:Nat} {w:World} (h:Rel ρ mem next w) {sz:Nat} (hsz:1≤sz) {x:AVal} {ux:Value} {m:Nat} {g:Nat→List AVal} {o:Bool} (hc:w3j mem sz x=some (m,g,o)) (ho:o=true) (hx:Yx ρ x ux):
  (∀k,k<m→(g k).length =sz∧(g k).all y1g=true)∧ ∀n,n≤m→(∀w,(Builtin.lenOf ux).run P w=.ok m w)∧ ∃vs:Array Value,Ue ρ (Ym n g) vs∧ ∀d,(Builtin.firstCells sz n ux).run P {w with drawn:=d}=.ok vs {w with drawn:=d}:=by
 subst ho;have part: ∀(b z off len c:Nat) (l:Loc) (blk:ABlk) (A:Arr),ρ b=some l→Yi mem b=some blk→blk.arr=some A→len≤c→(Nat.beq z sz&&(Nat.beq A.sz sz&&(decide (off+len≤A.n)&&pd (∀i,i<len→(A.get (off+i)).length =sz∧(A.get (off+i)).all y1g=true))))=true→
   (∀k,k<len→(A.get (off+k)).length =sz∧(A.get (off+k)).all y1g=true)∧ ∀n,n≤len→(∀w,(Builtin.lenOf (.slice (some ⟨l.blk,l.base+off*z,none⟩) len c)).run P w=.ok len w)∧ ∃vs:Array Value,Ue ρ (Ym n fun k=>A.get (off+k)) vs∧ ∀d,(Builtin.firstCells sz n (.slice (some ⟨l.blk,l.base+off*z,none⟩) len c)).run P {w with drawn:=d}=.ok vs {w with drawn:=d}:=by
  intro b z off len c l blk A hρ hm hA dK ho;simp only [Ae,As] at ho;obtain ⟨k1,k2,k3,k4⟩:=ho;obtain rfl:=Ai k1;have k2:=Ai k2;have k4:= @Aw _ (Classical.propDecidable _) k4;refine ⟨k4,fun n hn=> ?_⟩;obtain ⟨eU,fF,dU⟩:=(h.blk b l blk hρ hm).arr A hA;rw [k2] at dU;have hlr:=Yb A.n dU;have hm2:(off+len)*z≤A.n*z:=AA _ k3;rw [AS] at hm2;have hpl:=z4u dU k3;have hL:(Ym len fun k=>A.get (off+k)).length =len*z:=Yb len fun i hi=>(k4 i hi).1;have hcs:Xu mem z (.sl b (off*z) len (.ex c))=some (len,Ym len fun k=>A.get (off+k)):=by simp_all [Xu,cut]
  obtain ⟨q1,q2⟩:=Vp (P:=P) h hcs (.sl b (off*z) len (.ex c) l c hρ rfl dK) hL
  grind [x5k]
 have none0: ∀(g:Nat→List AVal) (n:Nat) (p:Option Addr) (c:Nat),n≤0→(∀w,(Builtin.lenOf (.slice p 0 c)).run P w=.ok 0 w)∧ ∃vs:Array Value,Ue ρ (Ym n g) vs∧ ∀d,(Builtin.firstCells sz n (.slice p 0 c)).run P {w with drawn:=d}=.ok vs {w with drawn:=d}:=by
  intro g n p c hn;obtain rfl:n=0:=by omega
  cases p with
  | none=>exact ⟨fun w=>by simp [Builtin.lenOf], #[],⟨by simp [Ym],fun i h1 h2=>by grind⟩,fun d=>by simp [Builtin.firstCells]⟩
  | some a=>refine ⟨fun w=>by simp [Builtin.lenOf],_,⟨?_,fun i h1 h2=>by simp [Ym] at h1⟩,fun d=>by simp only [Builtin.firstCells];exact run_loadCells _ _ _ (fun _=>undef) fun k hk=>by grind⟩;simp [Ym]
 unfold w3j at hc;split at hc
 ·simp only [Ad,Ac] at hc;obtain ⟨rfl,rfl,_⟩:=hc;cases hx;exact ⟨fun k hk=>absurd hk (AG _),fun n hn=>none0 _ n none 0 hn⟩
 ·rename_i n' g';simp only [Ad,Ac] at hc;obtain ⟨rfl,rfl,h0⟩:=hc;have hp:= @Aw _ (Classical.propDecidable _) h0;exact ⟨hp,fun n hn=>v8q (P:=P) h hx (fun i hi=>(hp i hi).1) hsz hn⟩
 ·split at hc
  ·rename_i blk hm;split at hc
   ·rename_i A hA;simp only [Ad,Ac] at hc;obtain ⟨rfl,rfl,h0⟩:=hc;cases hx with
    | sla _ _ _ _ _ l c hρ dR dK=>grind
    | slan=>exact ⟨fun k hk=>absurd hk (AG _),fun n hn=>none0 _ n none 0 hn⟩
   ·cases hc
  ·cases hc
 ·split at hc
  ·rename_i blk hm;split at hc
   ·rename_i A hA;simp only [Ad,Ac] at hc;obtain ⟨rfl,rfl,h0⟩:=hc;cases hx with
    | slv _ _ _ _ l c hρ dK=>grind
    | slve=>exact ⟨fun k hk=>absurd hk (AG _),fun n hn=>none0 _ n _ _ hn⟩
    | slvn=>exact ⟨fun k hk=>absurd hk (AG _),fun n hn=>none0 _ n none 0 hn⟩
   ·cases hc
  ·cases hc
 ·cases hc
theorem Rel.reblk {mem:Mem} {next:Nat} {w:World} (h:Rel ρ mem next w) {b:Nat} {blk blk':ABlk} (hm:Yi mem b=some blk) (hb: ∀l,ρ b=some l→Jz ρ w blk l→Jz ρ w blk' l):Rel ρ (Wv mem b (some blk')) next w:=by
 have iff: ∀c,(Yi (Wv mem b (some blk')) c).isSome =true→(Yi mem c).isSome =true:=fun c hc=>by
  grind [Vn]
 have hlt:b<next:=by
  rcases A4 b next with q | q
  ·exact q
  ·rw [h.bd b q] at hm;cases hm
 refine ⟨h.dom,fun c c' m m' e e' he hs hs'=>h.inj c c' m m' e e' he (iff c hs) (iff c' hs'),fun c m ac e hc=> ?_,h.old,fun c m e hs=>h.sep c m e (iff c hs),h.real,fun c hc=> ?_,h.ldom⟩
 ·grind [Vn,blk]
 ·rw [Zv _ _ (by omega)];exact h.bd c hc
theorem Ev.put {mem:Mem} {next:Nat} {w:World} (h:Rel ρ mem next w) (floor:Nat) {b:Nat} {blk:ABlk} {A:Arr} (hm:Yi mem b=some blk) (hA:blk.arr=some A) (o:Option ABlk):Ev ρ ρ floor mem next (Wv mem b o) next w w where
 ext:=Rho.le_refl _
 new _ _:=rfl
 nxt:=Aq _
 unborn k _ e cs ty hk:=by
  grind [Zv]
 frame _ _ hk _:=hk
 fresh k m hk e:=by have:=h.dom k m e;omega
 size:=Aq _
 os:=rfl
 tape:=rfl
 output:=rfl
 still _ _:=rfl
theorem y2w {cx:Ctx} {st st':St} {w:World} (h:Rel ρ st.mem st.next w) {ts:Array TypeId} {type:TypeId} {us:Array Value} {b sz off len:Nat} {d x:AVal} {xs:List AVal} {v:AVal} (ha:y2x P cx st ts.toList b sz off len x=some (v,st')) (hob:st'.ob=true) (hx:Vk (Yx ρ) (d::x::xs) us.toList)
  (hd: ∀u,Yx ρ d u→(∃l c,ρ b=some l∧len≤c∧u=.slice (some ⟨l.blk,l.base+off*sz,none⟩) len c)∨(len=0∧ ∃p c,u=.slice p 0 c)):
  ∃ρ' u w',(Builtin.copy_ ts type us).run P w=.ok u w'∧x4x ρ cx.floor st st' v w ρ' u w':=by
 obtain ⟨ts⟩:=ts;obtain ⟨us⟩:=us;simp only at ha hx;unfold y2x at ha;split at ha
 ·rename_i t _;cases hx with
  | @cons _ ud _ _ hd0 hx=>
   cases hx with
   | @cons _ ux _ uxs hx _=>
    split at ha
    ·rename_i e hu;split at ha
     ·rename_i i blk hi hm;split at ha
      ·rename_i A m g o hA hcs;obtain ⟨eF,ha⟩:=z0m ha;simp only [Ae] at eF;have hfl:=Ak eF.1;have hsz:=Ak eF.2;simp only [Al,Ac] at ha;obtain ⟨st1,ho,rfl,rfl⟩:=ha;obtain ⟨_,m2,n2,o4⟩:=z8w ho;obtain ⟨hb,_⟩:=o4 hob;simp only [Ae,As] at hb;obtain ⟨k1,k2,k3,k4⟩:=hb;obtain rfl:=Ai k1;have k2:=Ai k2;have m2:st1.mem=Wv st.mem b (some ⟨Ym A.n (Uj A.get off (Nat.min m len) g),blk.ty,some ⟨A.sz,A.n,Uj A.get off (Nat.min m len) g⟩⟩):=m2;have n2:st1.next=st.next:=n2
       obtain ⟨hg,eA⟩:=x4g (P:=P) h hsz hcs k4 hx;have hmin:Nat.min m len≤m:=Nat.min_le_left _ _;have hmin2:Nat.min m len≤len:=Nat.min_le_right _ _;obtain ⟨dK,vs,hvs,hfc⟩:=eA (Nat.min m len) hmin;have fG:(Builtin.firstCells i.size (Nat.min m len) ux).run P w=.ok vs w:=hfc w.drawn;have hgl: ∀k,k<Nat.min m len→(g k).length =i.size:=fun k hk=>(hg k (by omega)).1;have hrl:=Yb (Nat.min m len) hgl;have eH:=Yx.cells_oneCell hvs (y4f _ fun k hk=>(hg k (by omega)).2);have hbn:b<st.next:=by
        rcases A4 b st.next with q | q
        ·exact q
        ·rw [h.bd b q] at hm;cases hm
       have nothing:Nat.min m len=0→Rel ρ st1.mem st1.next w∧Ev ρ ρ cx.floor st.mem st.next st1.mem st1.next w w:=fun e0=>by
        rw [m2,n2,e0];have same: ∀k,Uj A.get off 0 g k=A.get k:=fun k=>by
         unfold Uj;cases e:(Nat.ble off k&&Nat.ble (k+1) (off+0)) with
         | true=>simp only [Ae] at e;have e1:=Ak e.1;have e2:=Ak e.2;omega
         | false=>rfl
        have same:Uj A.get off 0 g=A.get:=funext same;rw [same];refine ⟨?_,Ev.put h cx.floor hm hA _⟩;refine h.reblk hm fun l hρ hbk=> ?_;obtain ⟨eU,fF,dU⟩:=hbk.arr A hA;refine ⟨by rw [hbk.n,eU],hbk.tot,fun B hB=> ?_,?_⟩
        ·obtain rfl:=Ag hB;exact ⟨rfl,fF,dU⟩
        ·have:=hbk.cells
         grind
       rcases hd ud hd0 with ⟨l,c,hρ,hlc,rfl⟩ | ⟨rfl,p,c,rfl⟩
       ·obtain ⟨eU,fF,dU⟩:=(h.blk b l blk hρ hm).arr A hA;rw [k2] at dU;have hlr:=Yb A.n dU;have hfitN:off+Nat.min m len≤A.n:=(by omega);obtain ⟨c1,c2⟩:=v4p dU hgl hfitN;have hm3:(off+Nat.min m len)*i.size≤A.n*i.size:=AA _ hfitN;rw [AS] at hm3;obtain ⟨cur,el,hw,hcsz,dJ⟩:=h.write hρ hm (off:=off*i.size) (cs:=Ym (Nat.min m len) g) (vs:=vs.toList) (by simpa using hvs.1.symm) (by grind) (fun j h1 h2=>by simpa using hvs.2 j h1 (by grind));have hst:=run_storeCells_at P l.blk (l.base+off*i.size) el vs.toList 0 cur w hw (by grind) eH;rw [Bl] at hst;rw [hrl,eU,←c2] at dJ;refine ⟨ρ,.int .i64 (Nat.min m len:Nat),w.setRow l.blk (cur.toList.take (l.base+off*i.size)++vs.toList++cur.toList.drop (l.base+off*i.size+vs.toList.length)).toArray,?_,.int _ _,?_,?_⟩
        ·have hl2:=dK w;simp [Builtin.copy_,run_underlying hu,dK,Zi hi,fG,goInt,hst,-Array.length_toList,-List.append_assoc]
        ·rw [m2,n2];have:=dJ.setArr ⟨A.sz,A.n,.flat (Uj A.get off (Nat.min m len) g)⟩ rfl fF (by rw [k2];exact c1);exact this
        grind [Ev.ofWrite]
       ·have e0:Nat.min m 0=0:=Nat.min_zero m;obtain ⟨n1,n3⟩:=nothing e0;refine ⟨ρ,.int .i64 (Nat.min m 0:Nat),w,?_,.int _ _,n1,n3⟩;rw [e0] at fG hvs;have hv0:vs= #[]:=by
         have:vs.size=0:=by rw [←hvs.1];simp [Ym]
         grind
        subst hv0;cases p with
        | none=>simp [Builtin.copy_,run_underlying hu,dK,Zi hi,fG,goInt]
        | some a=>simp [Builtin.copy_,run_underlying hu,dK,Zi hi,fG,goInt,storeCells]
      ·cases ha
     ·cases ha
    ·cases ha
 ·cases ha
theorem x7o {st st':St} {w:World} (h:Rel ρ st.mem st.next w) (floor:Nat) {ts:Array TypeId} {type:TypeId} {xs:List AVal} {us:Array Value} {v:AVal} (ha:y8h P floor st ts.toList xs=some (v,st')) (hx:Vk (Yx ρ) xs us.toList):
  ∃ρ' u w',(Builtin.clear_ ts type us).run P w=.ok u w'∧x4x ρ floor st st' v w ρ' u w'∧st'.env=st.env∧st'.ob=st.ob:=by
 obtain ⟨ts⟩:=ts;obtain ⟨us⟩:=us;simp only at ha hx;unfold y8h at ha;have unit:Yx ρ (.tup []) (.tuple #[]):=.tup [] #[] rfl fun i h1 _=>by simp at h1
 split at ha
 ·rename_i t _ d _;cases hx with
  | @cons _ ud _ _ hd _=>
   split at ha
   ·rename_i e hu;split at ha
    ·rename_i i zero hi hz;obtain ⟨i2,z,hi2,_,hzr,hzv⟩:=Wp (ρ:=ρ) hz;split at ha
     ·cases hd;simp only [Ad,Ac] at ha;obtain ⟨rfl,rfl⟩:=ha;exact ⟨ρ,.tuple #[],w,by simp [Builtin.clear_,run_underlying hu],⟨unit,h,Ev.refl _ _ _ _ _ h.dom⟩,rfl,rfl⟩
     ·rename_i b off len cap;cases hd with
      | sl _ _ _ _ l c hρ dR hlc=>
       rcases (by cases hl0:Nat.beq len 0 with
         | true=>rw [hl0] at ha;exact .inl ⟨rfl,ha⟩
         | false=>rw [hl0] at ha;exact .inr ⟨rfl,ha⟩:(Nat.beq len 0=true∧_)∨(Nat.beq len 0=false∧_)) with ⟨hl0,ha⟩ | ⟨hl0,ha⟩
       ·have hl0:=Ai hl0;subst hl0;simp only [Ab,Ad,Ac] at ha;obtain ⟨rfl,rfl⟩:=ha;exact ⟨ρ,.tuple #[],w,by simp [Builtin.clear_,run_underlying hu],⟨unit,h,Ev.refl _ _ _ _ _ h.dom⟩,rfl,rfl⟩
       ·obtain ⟨hc,ha⟩:=z0m ha;simp only [Ae] at hc;obtain ⟨⟨hzl,hzs⟩,hfl⟩:=hc;have hzl:=Ai hzl;have hfl:=Ak hfl;split at ha
        ·rename_i blk hm;obtain ⟨dZ,ha⟩:=z0m ha;have dZ:=Ak dZ;simp only [Ad,Ac] at ha;obtain ⟨rfl,rfl⟩:=ha;have hrl:(rep len zero).length =len*i.size:=(by rw [z2k,hzl]);have eV:Ue ρ (rep len zero) (Builtin.zeroCells z.cells len):=y0v hzr len (len*z.cells.size) (by rw [hzr.1]);have eH: ∀v∈(Builtin.zeroCells z.cells len).toList,v.oneCell'=true:=Yx.cells_oneCell eV (by
          grind [rep])
         obtain ⟨cur,el,hw,hcsz,dJ⟩:=h.write hρ hm (off:=off) (cs:=rep len zero) (vs:=(Builtin.zeroCells z.cells len).toList) (by simpa using eV.1.symm) (by grind) (fun j h1 h2=>by simpa using eV.2 j h1 (by grind));have hst:=run_storeCells_at P l.blk (l.base+off) el (Builtin.zeroCells z.cells len).toList 0 cur w hw (by grind) eH;rw [Bl] at hst;have hne:len≠0:=fun e=>by simp_all
         refine ⟨ρ,.tuple #[],w.setRow l.blk (cur.toList.take (l.base+off)++(Builtin.zeroCells z.cells len).toList ++cur.toList.drop (l.base+off+(Builtin.zeroCells z.cells len).toList.length)).toArray,?_,⟨unit,?_,Ev.ofWrite h hρ hfl _ _⟩,rfl,rfl⟩;all_goals simp_all [Builtin.clear_,run_underlying,St.withMem]
        ·cases ha
     ·cases ha
    ·cases ha
   ·cases ha
 ·cases ha
end
end Go.Am
end
