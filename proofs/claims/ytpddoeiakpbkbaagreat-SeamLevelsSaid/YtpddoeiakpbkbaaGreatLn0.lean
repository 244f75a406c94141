/- A part of a proof: several texts in one. -/
import Derived.Calls
import Derived.Orders
import Derived.KernelRfl
import Derived.DeepKeys
import Derived.Below
import Derived.Laws.Sem
import Derived.Laws.Tables
import Derived.Laws.CopyRow
import Derived.Laws.Cells
import Derived.Laws.Entries
import Derived.Laws.StructEq
import Derived.ChangeKeysEq
import Derived.WalkSpells
import Derived.IntWalk
set_option maxRecDepth 1000000
set_option maxHeartbeats 8000000
set_option linter.unusedVariables false
set_option linter.unusedSimpArgs false
noncomputable section
namespace Go.Am
open IntKind (wrap)
theorem Aa:type_of%@cond_false:=@cond_false
theorem Ab:type_of%@cond_true:=@cond_true
theorem Ac:type_of%@Bool.and_eq_true:=@Bool.and_eq_true
theorem Ad:type_of%@Prod.mk.injEq:=@Prod.mk.injEq
theorem Ae:type_of%@Option.some.injEq:=@Option.some.injEq
theorem Af:type_of%@Nat.zero_add:=@Nat.zero_add
theorem Ag:type_of%@Option.some.inj:=@Option.some.inj
theorem Ah:type_of%@Bool.and_true:=@Bool.and_true
theorem Ai:type_of%@Bool.true_and:=@Bool.true_and
theorem Aj:type_of%@Nat.eq_of_beq_eq_true:=@Nat.eq_of_beq_eq_true
theorem Ak:type_of%@Nat.le_of_ble_eq_true:=@Nat.le_of_ble_eq_true
theorem Al:type_of%@decide_eq_true:=@decide_eq_true
theorem An:type_of%@Option.map_eq_some_iff:=@Option.map_eq_some_iff
theorem Ao:type_of%@decide_true:=@decide_true
theorem Aq:type_of%@Nat.le_refl:=@Nat.le_refl
theorem Ar:type_of%@List.all_eq_true:=@List.all_eq_true
theorem As:type_of%@List.drop_eq_nil_of_le:=@List.drop_eq_nil_of_le
theorem At:type_of%@decide_eq_true_eq:=@decide_eq_true_eq
theorem Au:type_of%@List.getElem?_eq_getElem:=@List.getElem?_eq_getElem
theorem Av:type_of%@of_decide_eq_true:=@of_decide_eq_true
theorem Aw:type_of%@Bool.not_true:=@Bool.not_true
theorem Ay:type_of%@Bool.not_false:=@Bool.not_false
theorem Az:type_of%@decide_eq_false:=@decide_eq_false
theorem AA:type_of%@Nat.zero_le:=@Nat.zero_le
theorem AB:type_of%@List.append_nil:=@List.append_nil
theorem AC:type_of%@Nat.mul_le_mul_right:=@Nat.mul_le_mul_right
theorem AD:type_of%@List.mem_flatMap:=@List.mem_flatMap
theorem AE:type_of%@Nat.le_trans:=@Nat.le_trans
theorem AF:type_of%@if_neg:=@if_neg
theorem AG:type_of%@Nat.add_assoc:=@Nat.add_assoc
theorem AH:type_of%@List.mem_append:=@List.mem_append
theorem AI:type_of%@List.append_assoc:=@List.append_assoc
theorem AJ:type_of%@Nat.not_lt_zero:=@Nat.not_lt_zero
theorem AK:type_of%@if_pos:=@if_pos
theorem AL:type_of%@Array.getElem?_eq_some_iff:=@Array.getElem?_eq_some_iff
theorem AM:type_of%@List.mem_cons:=@List.mem_cons
theorem AN:type_of%@congrArg:=@congrArg
theorem AO:type_of%@List.length_append:=@List.length_append
theorem AP:type_of%@List.mem_map:=@List.mem_map
theorem AQ:type_of%@Nat.add_mul:=@Nat.add_mul
theorem AR:type_of%@List.getElem_of_mem:=@List.getElem_of_mem
theorem AS:type_of%@decide_eq_true_iff:=@decide_eq_true_iff
theorem AT:type_of%@List.drop_zero:=@List.drop_zero
theorem AU:type_of%@List.take_of_length_le:=@List.take_of_length_le
theorem AV:type_of%@Nat.ble_eq_true_of_le:=@Nat.ble_eq_true_of_le
theorem AW:type_of%@Nat.lt_of_lt_of_le:=@Nat.lt_of_lt_of_le
theorem AX:type_of%@of_decide_eq_false:=@of_decide_eq_false
theorem AY:type_of%@List.getElem_mem:=@List.getElem_mem
theorem AZ:type_of%@Bool.eq_false_iff:=@Bool.eq_false_iff
theorem A0:type_of%@List.take_add_one:=@List.take_add_one
theorem A1:type_of%@List.pairwise_cons:=@List.pairwise_cons
theorem A2:type_of%@List.map_cons:=@List.map_cons
theorem A3:type_of%@Nat.eq_or_lt_of_le:=@Nat.eq_or_lt_of_le
theorem A4:type_of%@decide_eq_false_iff_not:=@decide_eq_false_iff_not
theorem A5:type_of%@List.mem_filter:=@List.mem_filter
theorem A6:type_of%@Nat.lt_or_ge:=@Nat.lt_or_ge
theorem A7:type_of%@List.mem_range:=@List.mem_range
theorem A8:type_of%@List.nil_append:=@List.nil_append
theorem A9:type_of%@Nat.div_lt_of_lt_mul:=@Nat.div_lt_of_lt_mul
theorem Ba:type_of%@Bool.and_eq_true_iff:=@Bool.and_eq_true_iff
theorem Bb:type_of%@Int.le_refl:=@Int.le_refl
theorem Bc:type_of%@Bool.false_and:=@Bool.false_and
theorem Bd:type_of%@List.getElem?_eq_some_iff:=@List.getElem?_eq_some_iff
theorem Be:type_of%@List.pairwise_iff_getElem:=@List.pairwise_iff_getElem
theorem Bf:type_of%@Bool.not_eq_true':=@Bool.not_eq_true'
theorem Bg:type_of%@List.length_map:=@List.length_map
theorem Bh:type_of%@Nat.add_zero:=@Nat.add_zero
theorem Bi:type_of%@Nat.lt_succ_of_lt:=@Nat.lt_succ_of_lt
theorem Bj:type_of%@Bool.or_eq_false_iff:=@Bool.or_eq_false_iff
theorem Bk:type_of%@Nat.mod_lt:=@Nat.mod_lt
theorem Bl:type_of%@and_true:=@and_true
theorem Bm:type_of%@Nat.lt_trichotomy:=@Nat.lt_trichotomy
theorem Bn:type_of%@Nat.div_add_mod:=@Nat.div_add_mod
theorem Bo:type_of%@List.map_append:=@List.map_append
theorem Bp:type_of%@Array.toList_map:=@Array.toList_map
theorem Bq:type_of%@List.getElem_append_right:=@List.getElem_append_right
theorem Br:type_of%@Array.getElem?_eq_getElem:=@Array.getElem?_eq_getElem
theorem Bs:type_of%@List.drop_eq_getElem_cons:=@List.drop_eq_getElem_cons
theorem Bt:type_of%@Classical.byContradiction:=@Classical.byContradiction
theorem Bu:type_of%@Bool.or_eq_true:=@Bool.or_eq_true
theorem Bv:type_of%@Nat.mul_comm:=@Nat.mul_comm
theorem Bw:type_of%@List.getElem_append_left:=@List.getElem_append_left
theorem Bx:type_of%@List.length_nil:=@List.length_nil
theorem By:type_of%@List.map_nil:=@List.map_nil
theorem Bz:type_of%@List.getElem_take:=@List.getElem_take
theorem BA:type_of%@List.eq_nil_of_length_eq_zero:=@List.eq_nil_of_length_eq_zero
theorem BB:type_of%@List.length_take:=@List.length_take
theorem BC:type_of%@Nat.ne_of_lt:=@Nat.ne_of_lt
theorem BD:type_of%@List.mem_singleton:=@List.mem_singleton
theorem BE:type_of%@List.range_succ:=@List.range_succ
theorem BF:type_of%@List.length_set:=@List.length_set
theorem BG:type_of%@List.pairwise_append:=@List.pairwise_append
theorem BH:type_of%@List.mem_iff_getElem:=@List.mem_iff_getElem
theorem BI:type_of%@List.length_cons:=@List.length_cons
theorem BJ:type_of%@List.ext_getElem:=@List.ext_getElem
theorem BK:type_of%@List.any_cons:=@List.any_cons
theorem BL:type_of%@Bool.false_or:=@Bool.false_or
theorem BM:type_of%@List.sum_append:=@List.sum_append
theorem BN:type_of%@bne_iff_ne:=@bne_iff_ne
theorem BO:type_of%@Nat.one_mul:=@Nat.one_mul
theorem BQ:type_of%@Nat.mul_le_mul:=@Nat.mul_le_mul
theorem BR:type_of%@Int.le_of_lt:=@Int.le_of_lt
theorem BS:type_of%@Nat.lt_succ_self:=@Nat.lt_succ_self
theorem BT:type_of%@List.length_drop:=@List.length_drop
theorem BU:type_of%@List.any_eq_true:=@List.any_eq_true
theorem BV:type_of%@Nat.lt_irrefl:=@Nat.lt_irrefl
theorem BW:type_of%@Bool.or_false:=@Bool.or_false
theorem BX:type_of%@Nat.le_succ:=@Nat.le_succ
def bl (n m:Nat):List Bool:=Nat.rec (motive:=fun _=>Nat → List Bool) (fun _=>[]) (fun _ r m=>Nat.beq (m%2) 1::r (m/2)) n m
inductive v0c where
 | ex (k:Nat)
 | un (sz:Nat)
inductive AVal where
 | undef
 | bool (b:Bool)
 | int (k:IntKind) (n:Int)
 | str (s:List UInt8)
 | agg (cs:List AVal)
 | tup (vs:List AVal)
 | ptr (b off:Nat)
 | nilp
 | sl (b off len:Nat) (cap:v0c)
 | nils
 | fn (f:FuncId) (caps:List AVal)
 | nilf
  | fnb (f:FuncId) (first:List AVal)
 | ifc (t:TypeId) (v:AVal)
 | nili
 | dat (len:Nat) (get:Nat→List AVal)
 | dptr (cs:List AVal)
  | sla (b sz off len:Nat) (cap:v0c)
  | epa (b sz i fo:Nat)
  | yld (j:Nat)
  | slv (b sz off len:Nat)
  | nnl (len:Nat) (get:Nat→List AVal)
inductive T (α:Type) where
 | leaf
 | node (v:α) (l r:T α)
def T.get {α:Type} (d:α) (t:T α):Nat→α:=
 T.rec (motive:=fun _=>Nat→α) (fun _=>d)
  (fun v _ _ gl gr n=>Nat.rec (motive:=fun _=>α) v (fun m _=>bif Nat.beq (m %2) 0 then gl (m / 2) else gr (m / 2)) n) t
def T.setF {α:Type} (d:α) (v:α) (f:Nat):T α→Nat→T α:=
 Nat.rec (motive:=fun _=>T α→Nat→T α) (fun t _=>t)
  (fun _ rec t n=>
   T.casesOn (motive:=fun _=>T α) t
    (Nat.rec (motive:=fun _=>T α) (.node v .leaf .leaf)
     (fun m _=>bif Nat.beq (m %2) 0 then .node d (rec .leaf (m / 2)) .leaf else .node d .leaf (rec .leaf (m / 2))) n)
    (fun u l r=>Nat.rec (motive:=fun _=>T α) (.node v l r)
     (fun m _=>bif Nat.beq (m %2) 0 then .node u (rec l (m / 2)) r else .node u l (rec r (m / 2))) n)) f
def T.set {α:Type} (d:α) (t:T α) (n:Nat) (v:α):T α:=T.setF d v (n+1) t n
inductive Rws where
 | flat (g:Nat→List AVal)
 | one (r:Nat) (cs:List AVal) (b:Rws)
 | alt (c:Nat→Bool) (a b:Rws)
def Rws.get :Rws→Nat→List AVal
 | .flat g=>g
 | .one r cs b=>fun k=>bif Nat.beq k r then cs else b.get k
 | .alt c a b=>fun k=>bif c k then a.get k else b.get k
instance : Coe (Nat→List AVal) Rws:=⟨.flat⟩
structure Arr where
 sz:Nat
 n:Nat
 rw:Rws
def Arr.get (A:Arr):Nat→List AVal:=A.rw.get
def Yk (n:Nat) (get:Nat→List AVal):List AVal:=(List.range n).flatMap get
structure ABlk where
 cells:List AVal
 ty:TypeId
 arr:Option Arr
abbrev Mem :=T (Option ABlk)
def Yf (m:Mem) (b:Nat):Option ABlk:=T.get none m b
def Wz (m:Mem) (b:Nat) (o:Option ABlk):Mem:=T.set none m b o
structure Ctx where
 n:Nat
 floor:Nat
 sym:Bool
structure St where
 env:T AVal
 mem:Mem
 next:Nat
 orc:List Bool
 ob:Bool
def St.tmp :St→Nat→AVal
 | ⟨env,_,_,_,_⟩,t=>T.get .undef env t
def St.put (cx:Ctx):St→Option Tmp→AVal→Option St
 | ⟨env,mem,next,orc,ob⟩,some d,v=>bif Nat.ble (d+1) cx.n then some ⟨T.set .undef env d v,mem,next,orc,ob⟩ else none
 | st,none,_=>some st
def St.withMem :St→Mem→St
 | ⟨env,_,next,orc,ob⟩,m=>⟨env,m,next,orc,ob⟩
def St.withEnv :St→T AVal→St
 | ⟨_,mem,next,orc,ob⟩,e=>⟨e,mem,next,orc,ob⟩
def St.owe (cx:Ctx):St→Bool→Option St
 | ⟨env,mem,next,orc,ob⟩,b=>bif cx.sym then some ⟨env,mem,next,orc,b&&ob⟩ else bif b then some ⟨env,mem,next,orc,ob⟩ else none
def St.test :St→Bool→Bool×St
 | ⟨env,mem,next,[],ob⟩,b=>(b,⟨env,mem,next,[],ob⟩)
 | ⟨env,mem,next,e::r,ob⟩,b=>(e,⟨env,mem,next,r,(b == e)&&ob⟩)
def St.nextO :St→Bool
 | ⟨_,_,_,[],_⟩=>false
 | ⟨_,_,_,e::_,_⟩=>e
def St.dropO :St→St
 | ⟨env,mem,next,orc,ob⟩=>⟨env,mem,next,orc.tail,ob⟩
def z2s :Value→AVal
 | .bool b=>.bool b
 | .int k n=>.int k n
 | .string s=>.str s.data.toList
 | .pointer none=>.nilp
 | .slice none 0 0=>.nils
 | .nilFunc =>.nilf
 | .nilIface =>.nili
 | _=>.undef
def ofV :Value→AVal
 | .agg cs=>.agg (cs.toList.map z2s)
 | v=>z2s v
def St.eval (st:St):Operand→AVal
 | .tmp t=>st.tmp t
 | .const v=>ofV v
 | .global _=>.undef
 | .func f=>.fn f []
def AVal.cells :AVal→List AVal
 | .agg cs=>cs
 | v=>[v]
def z3b :AVal→Bool
 | .undef | .tup _=>false
 | _=>true
def j3e :AVal→Bool
 | .slv _ _ _ _ | .sl _ _ _ _ | .sla _ _ _ _ _ | .ptr _ _ | .epa _ _ _ _ | .nils =>false
 | _=>true
def z9u :AVal→Bool
 | .undef | .agg _ | .tup _=>false
 | _=>true
def v4s (P:Program) (t:TypeId):Option Bool:=
 match P.underlying t with
 | some (.struct _) | some (.array _ _)=>some true
 | some _=>some false
 | none=>none
def cut (cs:List AVal) (off n:Nat):Option (List AVal):=
 let p:=(cs.drop off).take n
 bif Nat.beq p.length n then some p else none
def z1t (P:Program) (t:TypeId) (cs:List AVal) (off:Nat):Option AVal:=
 match v4s P t,P.info? t with
 | some true,some i=>(cut cs off i.size).map .agg
 | some false,some _=>cs[off]?
 | _,_=>none
def z2x (rec:TypeId→AVal→AVal→Option Bool) (P:Program) (xs ys:List AVal):List (TypeId×Nat)→Option Bool
 | []=>some true
 | (t,off)::r=>
  match z1t P t xs off,z1t P t ys off with
  | some a,some b=>match rec t a b,z2x rec P xs ys r with
   | some e,some f=>some (e&&f)
   | _,_=>none
  | _,_=>none
def aEq (P:Program):Nat→TypeId→AVal→AVal→Option Bool
 | 0,_,_,_=>none
 | d+1,t,x,y=>
  match P.underlying t with
  | some .bool =>match x,y with
   | .bool a,.bool b=>some (a == b)
   | _,_=>none
  | some (.int _)=>match x,y with
   | .int k a,.int k' b=>if k=k' then some (a == b) else none
   | _,_=>none
  | some .string =>match x,y with
   | .str a,.str b=>some (a == b)
   | _,_=>none
  | some (.array n e)=>match x,y,P.info? e with
   | .agg xs,.agg ys,some i=>z2x (aEq P d) P xs ys ((List.range n).map fun j=>(e,j*i.size))
   | _,_,_=>none
  | some (.struct fs)=>match x,y with
   | .agg xs,.agg ys=>
    bif P.stoodInHeld t then none else bif fs.toList.any (fun f=>f.name == "_") then none else
    z2x (aEq P d) P xs ys (fs.toList.map fun f=>(f.type,f.offset))
   | _,_=>none
  | _=>none
def v0a (op:BinOp) (k:IntKind) (a b:Int):Option Int:=
 match op with
 | .and =>some (k.wrap ((BitVec.ofInt k.bits a)&&& (BitVec.ofInt k.bits b)).toNat)
 | .or =>some (k.wrap ((BitVec.ofInt k.bits a)||| (BitVec.ofInt k.bits b)).toNat)
 | .xor =>some (k.wrap ((BitVec.ofInt k.bits a) ^^^ (BitVec.ofInt k.bits b)).toNat)
 | .andNot =>some (k.wrap ((BitVec.ofInt k.bits a)&&& ~~~(BitVec.ofInt k.bits b)).toNat)
 | _=>none
def aBin (P:Program) (op:BinOp) (t:TypeId) (x y:AVal):Option (AVal×Bool):=
 match x,y with
 | .int k a,.int k' b=>
  match op with
  | .shl =>some (.int k (k.wrap (a*2 ^ (min b.toNat k.bits))),!decide (b<0))
  | .shr =>some (.int k (a.fdiv (2 ^ (min b.toNat k.bits))),!decide (b<0))
  | _=>if k=k' then
    match op with
    | .add =>some (.int k (k.wrap (a+b)),true)
    | .sub =>some (.int k (k.wrap (a - b)),true)
    | .mul =>some (.int k (k.wrap (a*b)),true)
    | .quo =>some (.int k (k.wrap (a.tdiv b)),!decide (b=0))
    | .rem =>some (.int k (a.tmod b),!decide (b=0))
    | .eql =>some (.bool (a == b),true)
    | .neq =>some (.bool (a != b),true)
    | .lss =>some (.bool (decide (a<b)),true)
    | .leq =>some (.bool (decide (a≤b)),true)
    | .gtr =>some (.bool (decide (a>b)),true)
    | .geq =>some (.bool (decide (a≥b)),true)
    | op=>(v0a op k a b).map fun n=>(.int k n,true)
   else none
 | .bool a,.bool b=>match P.underlying t with
  | some .bool =>match op with
   | .eql =>some (.bool (a == b),true)
   | .neq =>some (.bool (!(a == b)),true)
   | _=>none
  | _=>none
 | .agg a,.agg b=>
  bif P.eqGuardType P.depth t then none else
  match op with
  | .eql =>(aEq P 30 t (.agg a) (.agg b)).map fun r=>(.bool r,true)
  | .neq =>(aEq P 30 t (.agg a) (.agg b)).map fun r=>(.bool (!r),true)
  | _=>none
 | .sl _ _ _ _,.nils =>match P.underlying t with
  | some (.slice _)=>match op with
   | .eql =>some (.bool false,true)
   | .neq =>some (.bool true,true)
   | _=>none
  | _=>none
 | .nnl _ _,.nils =>match P.underlying t with
  | some (.slice _)=>match op with
   | .eql =>some (.bool false,true)
   | .neq =>some (.bool true,true)
   | _=>none
  | _=>none
 | .nils,.nils =>match P.underlying t with
  | some (.slice _)=>match op with
   | .eql =>some (.bool true,true)
   | .neq =>some (.bool false,true)
   | _=>none
  | _=>none
 | .str a,.str b=>match op with
  | .eql =>some (.bool (a == b),true)
  | .neq =>some (.bool (!(a == b)),true)
  | _=>none
 | _,_=>none
def aUn (op:UnOp) (x:AVal):Option AVal:=
 match op,x with
 | .neg,.int k n=>some (.int k (k.wrap (0 - n)))
 | .xor,.int k n=>(v0a .xor k (if k.signed then -1 else k.max) n).map (.int k)
 | .not,.bool b=>some (.bool !b)
 | _,_=>none
def x2n (place:Nat→Option (Nat×Nat)) (cells:List AVal):List (Nat×AVal)→Option (List AVal)
 | []=>some cells
 | (i,v)::r=>
  match place i with
  | none=>none
  | some (off,size)=>
   bif z3b v&&Nat.beq v.cells.length size&&Nat.ble (off+size) cells.length then
    x2n place (cells.take off++v.cells++cells.drop (off+size)) r
   else none
def Qi (P:Program) (t:TypeId):Option (List AVal):=
 match P.info? t with
 | some i=>i.zero.map fun v=>(ofV v).cells
 | none=>none
def Qz (P:Program):List Field→Option (List (Nat×Nat))
 | []=>some []
 | f::r=>match P.info? f.type,Qz P r with
  | some i,some l=>some ((f.offset,i.size)::l)
  | _,_=>none
def v6w (P:Program) (t:TypeId) (parts:List (Nat×AVal)):Option AVal:=
 match P.underlying t,Qi P t with
 | some (.struct fs),some zero=>match Qz P fs.toList with
  | some pl=>(x2n (pl[·]?) zero parts).map .agg
  | none=>none
 | some (.array _ e),some zero=>match P.info? e with
  | some i=>(x2n (fun j=>some (j*i.size,i.size)) zero parts).map .agg
  | none=>none
 | _,_=>none
def y0h (P:Program) (t:TypeId) (x i:AVal):Option (AVal×Bool):=
 match P.underlying t,x,i with
 | some (.array len e),.ptr b off,.int _ i=>(P.info? e).map fun s=>(.ptr b (off+i.toNat*s.size),decide (0≤i∧i<len))
 | some (.array len e),.dptr cs,.int _ i=>(P.info? e).map fun s=>(.dptr (cs.drop (i.toNat*s.size)),decide (0≤i∧i<len))
 | some (.slice e),.sl b off len _,.int _ i=>(P.info? e).map fun s=>(.ptr b (off+i.toNat*s.size),decide (0≤i∧i<len))
 | some (.slice e),.dat len get,.int _ i=>(P.info? e).map fun s=>(.dptr (get i.toNat),decide (0≤i∧i<len)&&Nat.beq (get i.toNat).length s.size)
 | some (.slice e),.sla b sz off len _,.int _ i=>(P.info? e).map fun s=>(.epa b sz (off+i.toNat) 0,decide (0≤i∧i<len)&&Nat.beq s.size sz)
 | some (.slice e),.slv b sz off len,.int _ i=>(P.info? e).map fun s=>(.epa b sz (off+i.toNat) 0,decide (0≤i∧i<len)&&Nat.beq s.size sz)
 | some (.array len e),.epa b sz r fo,.int _ i=>(P.info? e).map fun s=>(.epa b sz r (fo+i.toNat*s.size),decide (0≤i∧i<len))
 | _,_,_=>none
def y0i (P:Program) (t:TypeId) (x:AVal) (f:Nat):Option AVal:=
 match P.underlying t with
 | some (.struct fs)=>match fs[f]? with
  | some f=>match P.info? f.type with
   | some i=>bif Nat.beq i.size 0 then none else match x with
    | .ptr b off=>some (.ptr b (off+f.offset))
    | .dptr cs=>some (.dptr (cs.drop f.offset))
    | .epa b sz r fo=>some (.epa b sz r (fo+f.offset))
    | _=>none
   | none=>none
  | none=>none
 | _=>none
def v6u (P:Program) (t:TypeId) (x:AVal) (f:Nat):Option AVal:=
 match P.underlying t,x with
 | some (.struct fs),.agg cs=>match fs[f]? with
  | some f=>z1t P f.type cs f.offset
  | none=>none
 | _,_=>none
def v6t (P:Program) (t:TypeId) (x i:AVal):Option (AVal×Bool):=
 match P.underlying t,x,i with
 | some (.array len e),.agg cs,.int _ i=>
  match P.info? e with
  | some s=>(z1t P e cs (i.toNat*s.size)).map fun v=>(v,decide (0≤i∧i<len))
  | none=>none
 | some .string,.str s,.int _ i=>(s[i.toNat]?).map fun b=>(.int .u8 b.toNat,decide (0≤i))
 | _,_,_=>none
def Kx (x y:Int):Int:=if y<x then y else x
def Kw (x y:Int):Int:=if y>x then y else x
def y5d (k:IntKind) (x:Int):List AVal→Option Int
 | []=>some x
 | .int _ y::r=>y5d k (Kx x y) r
 | _=>none
def y5f (k:IntKind) (x:Int):List AVal→Option Int
 | []=>some x
 | .int _ y::r=>y5f k (Kw x y) r
 | _=>none
def y3v (P:Program) (b:Builtin) (argTypes:List TypeId) (args:List AVal):Option AVal:=
 match b,argTypes,args with
 | .len,t::_,x::_=>match P.underlying t,x with
  | some .string,.str s=>some (.int .i64 s.length)
  | some (.array n _),_=>some (.int .i64 n)
  | some (.slice _),.sl _ _ n _=>some (.int .i64 n)
  | some (.slice _),.nils =>some (.int .i64 0)
  | some (.slice _),.dat n _=>some (.int .i64 n)
  | some (.slice _),.sla _ _ _ n _=>some (.int .i64 n)
  | some (.slice _),.slv _ _ _ n=>some (.int .i64 n)
  | _,_=>none
 | .min,_,.int k x::r=>(y5d k x r).map (.int k)
 | .max,_,.int k x::r=>(y5f k x r).map (.int k)
 | .cap,t::_,x::_=>match P.underlying t,x with
  | some (.slice _),.sl _ _ _ (.ex c)=>some (.int .i64 c)
  | some (.slice _),.nils =>some (.int .i64 0)
  | _,_=>none
 | _,_,_=>none
def z3c (st:Operand→AVal) (o:Option Operand) (d:Nat):Option (Nat×Bool):=
 match o with
 | none=>some (d,true)
 | some x=>match st x with
  | .int _ i=>some (i.toNat,decide (0≤i))
  | _=>none
def pd (p:Prop):Bool:= @decide p (Classical.propDecidable p)
def v6r (P:Program) (ev:Operand→AVal) (t:TypeId) (x:Operand) (lo hi mx:Option Operand):Option (AVal×Bool):=
 match P.underlying t,ev x with
 | some (.slice e),.nils =>
  match P.info? e,mx,z3c ev lo 0,z3c ev hi 0 with
  | some _,none,some (l,a),some (h,b)=>some (.nils,a&&b&&Nat.beq l 0&&Nat.beq h 0)
  | _,_,_,_=>none
 | some (.slice e),.sl b off len (.ex c)=>
  match P.info? e,z3c ev mx c,z3c ev hi len,z3c ev lo 0 with
  | some s,some (m,x1),some (h,x2),some (l,x3)=>
   if mx.isSome&&hi.isNone then none else
   some (.sl b (bif Nat.beq m l then off else off+l*s.size) (h - l) (.ex (m - l)),x1&&x2&&x3&&Nat.ble m c&&Nat.ble h m&&Nat.ble l h)
  | _,_,_,_=>none
 | some (.slice e),.sl b off len (.un z)=>
  match P.info? e,mx,z3c ev hi len,z3c ev lo 0 with
  | some s,none,some (h,x2),some (l,x3)=>
   bif Nat.beq z s.size then
    bif Nat.beq h l&&Nat.ble 1 l then some (.dat 0 (fun _=>[]),x2&&x3&&Nat.ble h len) else
    some (.sl b (off+l*s.size) (h - l) (.un z),x2&&x3&&Nat.ble h len&&Nat.ble l h&&(Nat.ble (l+1) len||Nat.beq l 0))
   else none
  | some s,some _,some (h,x2),some (l,x3)=>
   match z3c ev mx 0 with
   | some (m,x1)=>
    bif Nat.beq z s.size&&hi.isSome then
     some (.sl b (bif Nat.beq m l then off else off+l*s.size) (h - l) (.ex (m - l)),x1&&x2&&x3&&Nat.ble m len&&Nat.ble h m&&Nat.ble l h)
    else none
   | none=>none
  | _,_,_,_=>none
 | some (.slice e),.sla b sz off len (.un z)=>
  match P.info? e,mx,z3c ev hi len,z3c ev lo 0 with
  | some s,none,some (h,x2),some (l,x3)=>
   bif Nat.beq z s.size&&Nat.beq sz z then
    bif lo.isSome then some (.slv b sz (off+l) (h - l),x2&&(x3&&(decide (h≤len)&&decide (l≤h)))) else
    some (.sla b sz (off+l) (h - l) (.un z),x2&&(x3&&(decide (h≤len)&&(decide (l≤h)&&(decide (l<len)||Nat.beq l 0)))))
   else none
  | _,_,_,_=>none
 | some (.slice e),.slv b sz off len=>
  match P.info? e,mx,z3c ev hi len,z3c ev lo 0 with
  | some s,none,some (h,x2),some (l,x3)=>
   bif Nat.beq sz s.size then some (.slv b sz (off+l) (h - l),x2&&(x3&&(decide (h≤len)&&decide (l≤h)))) else none
  | _,_,_,_=>none
 | some (.slice e),.dat len get=>
  match P.info? e,mx,z3c ev hi len,z3c ev lo 0 with
  | some s,none,some (h,x2),some (l,x3)=>some (.dat (h - l) (fun k=>get (l+k)),x2&&(x3&&(decide (h≤len)&&(decide (l≤h)&&pd (∀i,i<len→(get i).length =s.size)))))
  | _,_,_,_=>none
 | some (.array n e),.ptr b off=>
  match P.info? e,z3c ev mx n,z3c ev hi n,z3c ev lo 0 with
  | some s,some (m,x1),some (h,x2),some (l,x3)=>
   if mx.isSome&&hi.isNone then none else
   some (.sl b (bif Nat.beq m l then off else off+l*s.size) (h - l) (.ex (m - l)),x1&&x2&&x3&&Nat.ble m n&&Nat.ble h m&&Nat.ble l h)
  | _,_,_,_=>none
 | _,_=>none
def Qw (P:Program) (op:Op) (ev:Operand→AVal):Option (AVal×Bool):=
 match op with
 | .move x | .assign x=>some (ev x,true)
 | .pick c a b=>match ev c with
  | .bool c=>some (bif c then ev a else ev b,true)
  | _=>none
 | .build t parts=>(v6w P t (parts.toList.map fun p=>(p.1,ev p.2))).map (·,true)
 | .nilCheck x=>match ev x with
  | .ptr b o=>some (.ptr b o,true)
  | .dptr cs=>some (.dptr cs,true)
  | .fn f c=>some (.fn f c,true)
  | .fnb f c=>some (.fnb f c,true)
  | _=>none
 | .binOp op t x y _=>aBin P op t (ev x) (ev y)
 | .unOp op _ x=>(aUn op (ev x)).map (·,true)
 | .convert src dst x=>match P.underlying src,P.underlying dst,ev x with
  | some _,some (.int k),.int _ n=>some (.int k (k.wrap n),true)
  | _,_,_=>none
 | .makeInterface t x=>match P.underlying t with
  | some (.interface _) | none=>none
  | some _=>some (.ifc t (ev x),true)
 | .makeFunc (.func f) first captured=>bif first.isEmpty then some (.fn f (captured.toList.map ev),true) else bif captured.isEmpty then some (.fnb f (first.toList.map ev),true) else none
 | .fieldAddr t x f=>(y0i P t (ev x) f).map (·,true)
 | .field t x f=>(v6u P t (ev x) f).map (·,true)
 | .indexAddr t x i=>y0h P t (ev x) (ev i)
 | .index t x i=>v6t P t (ev x) (ev i)
 | .extract x i=>match ev x with
  | .tup vs=>(vs[i]?).map (·,true)
  | _=>none
 | .slice t x lo hi mx=>v6r P ev t x lo hi mx
 | .call {callee:=.builtin b,args,argTypes}=>(y3v P b argTypes.toList (args.toList.map ev)).map (·,true)
 | _=>none
def w1w (P:Program) (m:Mem) (t:TypeId) (x:AVal):Option AVal:=
 match x with
 | .ptr b off=>match Yf m b with
  | some blk=>z1t P t blk.cells off
  | none=>none
 | .dptr cs=>z1t P t cs 0
 | _=>none
def y6o (P:Program) (m:Mem) (t:TypeId) (x:AVal):Option (AVal×Bool):=
 match x with
 | .epa b sz r fo=>match Yf m b with
  | some blk=>match blk.arr with
   | some A=>(z1t P t (A.get r) fo).map (·,Nat.beq A.sz sz&&decide (r<A.n))
   | none=>none
  | none=>none
 | x=>(w1w P m t x).map (·,true)
def z4g :Rws→Nat→St→List AVal×St
 | .flat g,r,st=>(g r,st)
 | .one r0 cs b,r,st=>match st.test (Nat.beq r r0) with
  | (e,st)=>bif e then (cs,st) else z4g b r st
 | .alt c a b,r,st=>match st.test (c r) with
  | (e,st)=>bif e then z4g a r st else z4g b r st
def v6s (P:Program) (st:St) (t:TypeId) (x:AVal):Option (AVal×Bool×St):=
 match x with
 | .epa b sz r fo=>match Yf st.mem b with
  | some blk=>match blk.arr with
   | some A=>match z4g A.rw r st with
    | (cs,st1)=>(z1t P t cs fo).map (·,Nat.beq A.sz sz&&decide (r<A.n),st1)
   | none=>none
  | none=>none
 | x=>(w1w P st.mem t x).map (·,true,st)
def y6k (P:Program) (floor:Nat) (st:St) (t:TypeId) (x v:AVal):Option St:=
 match x,P.info? t with
 | .ptr b off,some i=>
  let cs:=v.cells
  bif Nat.ble floor b&&Nat.beq cs.length i.size&&z3b v&&cs.all z9u then
   match Yf st.mem b with
   | some blk=>
    bif Nat.ble (off+i.size) blk.cells.length then
     some (st.withMem (Wz st.mem b (some ⟨blk.cells.take off++cs++blk.cells.drop (off+i.size),blk.ty,none⟩)))
    else none
   | none=>none
  else none
 | _,_=>none
def Yt (get:Nat→List AVal) (r fo:Nat) (cs:List AVal):Nat→List AVal:=fun k=>bif Nat.beq k r then (get r).take fo++cs++(get r).drop (fo+cs.length) else get k
def setRow (A:Arr) (r fo:Nat) (cs:List AVal) (st:St):Option (Rws×St):=
 match A.rw with
 | .flat g=>bif cs.all j3e then some (.flat (Yt g r fo cs),st) else bif Nat.beq fo 0&&Nat.beq cs.length A.sz then some (.one r cs (.flat g),st) else none
 | .one r0 c0 b=>match st.test (Nat.beq r r0) with
  | (e,st1)=>bif e&&Nat.beq fo 0&&Nat.beq cs.length A.sz then some (.one r0 cs b,st1) else none
 | .alt c a b=>bif Nat.beq fo 0&&Nat.beq cs.length A.sz then some (.one r cs (.alt c a b),st) else none
def z6y (P:Program) (cx:Ctx) (st:St) (t:TypeId) (x v:AVal):Option St:=
 match x,P.info? t with
 | .epa b sz r fo,some i=>
  bif Nat.ble cx.floor b&&Nat.beq v.cells.length i.size&&z3b v&&v.cells.all z9u&&Nat.ble (fo+i.size) sz then
   match Yf st.mem b with
   | some blk=>match blk.arr with
    | some A=>match setRow A r fo v.cells st with
     | some (rw,st1)=>(st1.withMem (Wz st1.mem b (some ⟨Yk A.n rw.get,blk.ty,some ⟨A.sz,A.n,rw⟩⟩))).owe cx (Nat.beq A.sz sz&&decide (r<A.n))
     | none=>none
    | none=>none
   | none=>none
  else none
 | _,_=>none
def y1d :St→List AVal→TypeId→St
 | ⟨env,mem,next,orc,ob⟩,cells,ty=>⟨env,Wz mem next (some ⟨cells,ty,none⟩),next+1,orc,ob⟩
def rep (n:Nat) (l:List AVal):List AVal:=(List.replicate n l).flatten
def Ji (P:Program) (u:Bool) (st:St) (t:TypeId) (len:Nat) (parts:List (Nat×AVal)):Option (AVal×St):=
 match P.underlying t with
 | some (.slice e)=>match P.info? e,Qi P e with
  | some i,some zero=>
   bif Nat.ble (len*i.size) 16777216&&Nat.beq zero.length i.size then
    match x2n (fun j=>some (j*i.size,i.size)) (rep len zero) parts with
    | some cells=>some (.sl st.next 0 len (bif u&&Nat.beq cells.length (len*i.size) then .un i.size else .ex len),y1d st cells e)
    | none=>none
   else none
  | _,_=>none
 | _=>none
def Um (P:Program) (st:St) (t:TypeId) (l c:AVal):Option (AVal×St):=
 match P.underlying t,l,c with
 | some (.slice e),.int _ l,.int _ c=>match P.info? e,Qi P e with
  | some i,some zero=>
   bif Nat.beq zero.length i.size&&(decide (0≤l)&&decide (l≤c)&&decide (c*i.bytes≤1099511627776)&&decide (c≤1099511627776)) then
    some (.sl st.next 0 l.toNat (.ex c.toNat),y1d st (rep c.toNat zero) e)
   else none
  | _,_=>none
 | _,_,_=>none
def Jh (P:Program) (cx:Ctx) (st:St) (t:TypeId) (l c:AVal):Option (AVal×St):=
 match P.underlying t,l,c with
 | some (.slice e),.int _ l,.int _ c=>match P.info? e,Qi P e with
  | some i,some zero=>
   bif Nat.beq zero.length i.size&&Nat.ble 1 i.size then
    (St.owe cx (match y1d st (Yk c.toNat fun _=>zero) e with
      | ⟨env,_,next,orc,ob⟩=>⟨env,Wz st.mem st.next (some ⟨Yk c.toNat fun _=>zero,e,some ⟨i.size,c.toNat,.flat fun _=>zero⟩⟩),next,orc,ob⟩)
     (decide (0≤l)&&decide (l≤c)&&decide (c*i.bytes≤1099511627776)&&decide (c≤1099511627776))).map (.sla st.next i.size 0 l.toNat (.un i.size), ·)
   else none
  | _,_=>none
 | _,_,_=>none
def Xw (m:Mem) (sz:Nat):AVal→Option (Nat×List AVal)
 | .nils =>some (0,[])
 | .sl b off len _=>match Yf m b with
  | some blk=>(cut blk.cells off (len*sz)).map (len, ·)
  | none=>none
 | _=>none
def room :Nat:=1099511627776
def Ur (m:Mem) (sz:Nat) (zero:List AVal) (ut:TypeDesc) (x:AVal):Option (Nat×List AVal):=
 match ut with
 | .int _=>match x with
  | .int _ n=>bif decide (0≤n) then some (n.toNat,rep n.toNat zero) else none
  | _=>none
 | _=>Xw m sz x
def z0s (P :Program) (floor:Nat) (st:St) (argTypes:List TypeId) (args:List AVal):Option (AVal×St):=
 match argTypes,args with
 | t :: u ::_,s::x::_=>match P.underlying t,P.underlying u with
  | some (.slice e),some ut=>match P.info? e,Qi P e with
   | some i,some zero=>match Ur st.mem i.size zero ut x with
    | some (n,new)=>
     bif Nat.beq zero.length i.size&&Nat.beq new.length (n*i.size)&&Nat.ble 1 i.size&&new.all z9u then
     match s with
     | .nils =>
      bif Nat.beq n 0 then some (.nils,st) else
      bif Nat.ble ((n+1)*(i.bytes+1)) room then
       some (.sl st.next 0 n (.un i.size),y1d st new e) else none
     | .sl b off len cap=>
      match Yf st.mem b with
      | some blk=>
       match cut blk.cells off (len*i.size) with
       | some old=>
        bif Nat.ble ((len+n+1)*(i.bytes+1)) room then
        match cap with
        | .ex c=>
         bif Nat.ble (len+n) c then
          bif Nat.ble floor b&&Nat.ble (off+(len+n)*i.size) blk.cells.length then
           some (.sl b off (len+n) cap,st.withMem (Wz st.mem b (some ⟨blk.cells.take (off+len*i.size)++new++blk.cells.drop (off+(len+n)*i.size),blk.ty,none⟩)))
          else none
         else some (.sl st.next 0 (len+n) (.un i.size),y1d st (old++new) e)
        | .un z=>
         bif Nat.beq z i.size&&Nat.ble floor b then
          bif Nat.ble (off+(len+n)*i.size) blk.cells.length then
           some (.sl b off (len+n) cap,st.withMem (Wz st.mem b (some ⟨blk.cells.take (off+len*i.size)++new++blk.cells.drop (off+(len+n)*i.size),blk.ty,none⟩)))
          else bif Nat.beq (off+len*i.size) blk.cells.length then
           some (.sl st.next 0 (len+n) (.un i.size),y1d (st.withMem (Wz st.mem b none)) (old++new) e)
          else none
         else none
        else none
       | none=>none
      | none=>none
     | _=>none
     else none
    | none=>none
   | _,_=>none
  | _,_=>none
 | _,_=>none
def Zh (get:Nat→List AVal) (off len sz:Nat) (new:List AVal):Nat→List AVal:=fun k=>bif Nat.ble len k then (new.drop ((k - len)*sz)).take sz else get (off+k)
def z3e (P:Program) (cx:Ctx) (st:St) (argTypes:List TypeId) (args:List AVal):Option (AVal×St):=
 match argTypes,args with
 | t :: u ::_,.sla b sz off len (.un z)::x::_=>match P.underlying t,P.underlying u with
  | some (.slice e),some ut=>match ut with
   | .int _=>none
   | _ => match P.info? e with
    | some i=>match Xw st.mem i.size x,Qi P e,Yf st.mem b with
     | some (n,new),some zero,some blk=>match blk.arr with
      | some A=>
       bif Nat.beq zero.length i.size&&Nat.beq new.length (n*i.size)&&Nat.ble 1 i.size&&new.all z9u&&Nat.beq sz i.size&&Nat.beq z sz&&Nat.ble cx.floor b&&Nat.ble 1 n then
        (St.owe cx (match y1d (st.withMem (Wz st.mem b none)) (Yk (len+n) (Zh A.get off len sz new)) e with
          | ⟨env,_,next,orc,ob⟩=>⟨env,Wz (Wz st.mem b none) st.next (some ⟨Yk (len+n) (Zh A.get off len sz new),e,some ⟨sz,len+n,Zh A.get off len sz new⟩⟩),next,orc,ob⟩)
         (Nat.beq A.sz sz&&(decide (off+len=A.n)&&decide ((len+n+1)*(i.bytes+1)≤room)))).map (.sla st.next sz 0 (len+n) (.un sz), ·)
       else none
      | none=>none
     | _,_,_=>none
    | none=>none
  | _,_=>none
 | _,_=>none
def capOk (sz len:Nat):v0c→Bool
 | .un z=>Nat.beq z sz
 | .ex c=>Nat.ble c len
def z4q (m:Mem) (sz:Nat):AVal→Option (Option Nat×Nat×(Nat→List AVal)×Bool)
 | .nils =>some (none,0,fun _=>[],true)
 | .sl b off len cap=>match Yf m b with
  | some blk=>match cut blk.cells off (len*sz) with
   | some old=>bif capOk sz len cap&&Nat.ble off blk.cells.length then some (some b,len,fun k=>(old.drop (k*sz)).take sz,true) else none
   | none=>none
  | none=>none
 | .sla b z off len cap=>match Yf m b with
  | some blk=>match blk.arr with
   | some A=>bif capOk sz len cap then some (some b,len,fun k=>A.get (off+k),Nat.beq z sz&&(Nat.beq A.sz sz&&decide (off+len≤A.n))) else none
   | none=>none
  | none=>none
 | _=>none
def x0f (m:Mem) (sz:Nat) (zero:List AVal) (ut:TypeDesc):AVal→Option (Nat×(Nat→List AVal)×Bool)
 | .int _ n=>match ut with
  | .int _=>some (n.toNat,fun _=>zero,decide (0≤n))
  | _=>none
 | .dat n g=>match ut with
  | .int _=>none
  | _=>some (n,g,pd (∀i,i<n→(g i).length =sz∧(g i).all z9u=true))
 | .nils =>match ut with
  | .int _=>none
  | _=>some (0,fun _=>[],true)
 | .sla b z off len _=>match ut with
  | .int _=>none
  | _=>match Yf m b with
   | some ⟨_,_,some A⟩=>some (len,fun k=>A.get (off+k),Nat.beq z sz&&(Nat.beq A.sz sz&&(decide (off+len≤A.n)&&pd (∀i,i<len→(A.get (off+i)).length =sz∧(A.get (off+i)).all z9u=true))))
   | _=>none
 | _=>none
def unN :AVal→AVal
 | .nnl n g=>.dat n g
 | v=>v
def Vp (get:Nat→List AVal) (len:Nat) (g:Nat→List AVal):Nat→List AVal:=fun k=>bif Nat.ble len k then g (k - len) else get k
def v5b (floor:Nat):Option Nat→Bool
 | some b=>Nat.ble floor b
 | none=>true
def x9r (m:Mem):Option Nat→Mem
 | some b=>Wz m b none
 | none=>m
def z0h (P:Program) (cx:Ctx) (st:St) (argTypes:List TypeId) (args:List AVal):Option (AVal×St):=
 match argTypes,args with
 | t :: u::_,s::x::_=>match P.underlying t,P.underlying u with
  | some (.slice e),some ut=>match P.info? e,Qi P e with
   | some i,some zero=>match z4q st.mem i.size s,x0f st.mem i.size zero ut (unN x) with
    | some (b,len,get,o1),some (n,g,o2)=>
     bif Nat.beq zero.length i.size&&zero.all z9u&&Nat.ble 1 i.size&&v5b cx.floor b then
      (St.owe cx (match y1d (st.withMem (x9r st.mem b)) (Yk (len+n) (Vp get len g)) e with
        | ⟨env,_,next,orc,ob⟩=>⟨env,Wz (x9r st.mem b) st.next (some ⟨Yk (len+n) (Vp get len g),e,some ⟨i.size,len+n,Vp get len g⟩⟩),next,orc,ob⟩)
       (o1&&(o2&&decide ((len+n+1)*(i.bytes+1)≤room)))).map (.sla st.next i.size 0 (len+n) (.un i.size), ·)
     else none
    | _,_=>none
   | _,_=>none
  | _,_=>none
 | _,_=>none
def isDat :AVal→Bool
 | .dat _ _=>true
 | .nnl _ _=>true
 | .sla _ _ _ _ _=>true
 | _=>false
def j3f :AVal→AVal→Bool
 | .sla _ _ _ _ _,.nils =>true
 | _,_=>false
def manyOk (P:Program) (cx:Ctx) (argTypes:List TypeId) (args:List AVal):Bool:=
 match argTypes,args with
 | _::u::_,s::x::_=>isDat x||(j3f s x||cx.sym&&(match P.underlying u with
  | some (.int _)=>true
  | _=>false))
 | _,_=>false
def z1g (P:Program) (cx:Ctx) (st:St) (argTypes:List TypeId) (args:List AVal):Option (AVal×St):=
 bif manyOk P cx argTypes args then z0h P cx st argTypes args else
 match args with
 | .sla b sz off len cap::r=>z3e P cx st argTypes (.sla b sz off len cap::r)
 | args=>z0s P cx.floor st argTypes args
def w2b (P:Program) (floor:Nat) (st:St) (argTypes:List TypeId) (args:List AVal):Option (AVal×St):=
 match argTypes,args with
 | t :: _,d::x::_=>match P.underlying t with
  | some (.slice e)=>match P.info? e with
   | some i=>match Xw st.mem i.size x with
    | some (m,src)=>
     bif Nat.beq src.length (m*i.size)&&src.all z9u then
     match d with
     | .nils =>some (.int .i64 0,st)
     | .dat n _=>bif Nat.beq n 0 then some (.int .i64 0,st) else none
     | .sl b off len _=>
      let n:=Nat.min m len
      match Yf st.mem b with
      | some blk=>
       bif Nat.ble floor b&&Nat.ble (off+n*i.size) blk.cells.length then
        some (.int .i64 n,st.withMem (Wz st.mem b (some ⟨blk.cells.take off++src.take (n*i.size)++blk.cells.drop (off+n*i.size),blk.ty,none⟩)))
       else none
      | none=>none
     | _=>none
     else none
    | none=>none
   | none=>none
  | _=>none
 | _,_=>none
def w1f (m:Mem) (sz:Nat):AVal→Option (Nat×(Nat→List AVal)×Bool)
 | .nils =>some (0,fun _=>[],true)
 | .dat n g=>some (n,g,pd (∀i,i<n→(g i).length =sz∧(g i).all z9u=true))
 | .sla b z off len _=>match Yf m b with
  | some blk=>match blk.arr with
   | some A=>some (len,fun k=>A.get (off+k),Nat.beq z sz&&(Nat.beq A.sz sz&&(decide (off+len≤A.n)&&pd (∀i,i<len→(A.get (off+i)).length =sz∧(A.get (off+i)).all z9u=true))))
   | none=>none
  | none=>none
 | .slv b z off len=>match Yf m b with
  | some blk=>match blk.arr with
   | some A=>some (len,fun k=>A.get (off+k),Nat.beq z sz&&(Nat.beq A.sz sz&&(decide (off+len≤A.n)&&pd (∀i,i<len→(A.get (off+i)).length =sz∧(A.get (off+i)).all z9u=true))))
   | none=>none
  | none=>none
 | _=>none
def Vg (get:Nat→List AVal) (off n:Nat) (g:Nat→List AVal):Nat→List AVal:=fun k=>bif Nat.ble off k&&Nat.ble (k+1) (off+n) then g (k - off) else get k
def y1g (P:Program) (cx:Ctx) (st:St) (argTypes:List TypeId) (b sz off len:Nat) (x:AVal):Option (AVal×St):=
 match argTypes with
 | t ::_=>match P.underlying t with
  | some (.slice e)=>match P.info? e,Yf st.mem b with
   | some i,some blk=>match blk.arr,w1f st.mem i.size x with
    | some A,some (m,g,o)=>
     bif Nat.ble cx.floor b&&Nat.ble 1 i.size then
      (St.owe cx (st.withMem (Wz st.mem b (some ⟨Yk A.n (Vg A.get off (Nat.min m len) g),blk.ty,some ⟨A.sz,A.n,Vg A.get off (Nat.min m len) g⟩⟩)))
       (Nat.beq sz i.size&&(Nat.beq A.sz sz&&(decide (off+len≤A.n)&&o)))).map (.int .i64 (Nat.min m len:Nat), ·)
     else none
    | _,_=>none
   | _,_=>none
  | _=>none
 | _=>none
def y9w (P:Program) (cx:Ctx) (st:St) (argTypes:List TypeId) (args:List AVal):Option (AVal×St):=
 match args with
 | .sla b sz off len _::x::_=>y1g P cx st argTypes b sz off len x
 | .slv b sz off len::x::_=>y1g P cx st argTypes b sz off len x
 | args=>w2b P cx.floor st argTypes args
def y6q (P:Program) (floor:Nat) (st:St) (argTypes:List TypeId) (args:List AVal):Option (AVal×St):=
 match argTypes,args with
 | t ::_,d::_=>match P.underlying t with
  | some (.slice e)=>match P.info? e,Qi P e with
   | some i,some zero=>match d with
    | .nils =>some (.tup [],st)
    | .sl b off len _=>
     bif Nat.beq len 0 then some (.tup [],st) else
     bif Nat.beq zero.length i.size&&zero.all z9u&&Nat.ble floor b then
     match Yf st.mem b with
     | some blk=>
      bif Nat.ble (off+len*i.size) blk.cells.length then
       some (.tup [],st.withMem (Wz st.mem b (some ⟨blk.cells.take off++rep len zero++blk.cells.drop (off+len*i.size),blk.ty,none⟩)))
      else none
     | none=>none
     else none
    | _=>none
   | _,_=>none
  | _=>none
 | _,_=>none
def z9y :List AVal→Nat→T AVal→T AVal
 | [],_,t=>t
 | a::r,i,t=>z9y r (i+1) (T.set .undef t i a)
def x2m (P:Program) (st:St):ResultVar→Option AVal
 | .tmp t=>some (st.tmp t)
 | .cell a t=>w1w P st.mem t (st.tmp a)
def Kg (P:Program) (st:St):List ResultVar→Option (List AVal)
 | []=>some []
 | r::l=>match x2m P st r,Kg P st l with
  | some v,some vs=>some (v::vs)
  | _,_=>none
def Un :List AVal→AVal
 | [v]=>v
 | vs=>.tup vs
def pf :Nat→AVal→Bool
 | 0,_=>false
 | d+1,v=>match v with
  | .bool _ | .int _ _ | .str _ | .nilp | .nils | .nilf | .nili | .dat _ _ | .dptr _=>true
  | .agg cs | .tup cs=>cs.all (pf d)
  | .fn _ cs=>cs.isEmpty
  | _=>false
inductive Spec where
 | val (F:List AVal→Option (AVal×Bool))
 | eff (F:List AVal→Mem→Option (AVal×Nat×ABlk×Bool))
 | gro (ty:TypeId) (F:Nat→(Nat→List AVal)→List AVal→Option (Nat×(Nat→List AVal)×Bool))
abbrev Specs :=FuncId→Option Spec
abbrev Runner :=Ctx→List Item→St→Option St
def pl :AVal→Bool
 | .bool _ | .int _ _=>true
 | _=>false
def plR (sz n:Nat) (get:Nat→List AVal):Bool:=pd (∀i,i<n→(get i).length =sz∧(get i).all pl=true)
def grOf (S:Specs) (f:FuncId) (args:List AVal):Option Nat:=match S f with
 | some (.gro _ _)=>match args with
  | .sla b _ _ _ _::_=>some b
  | _=>none
 | _=>none
def scal :AVal→Bool
 | .bool _ | .int _ _ | .str _=>true
 | .tup vs=>vs.all fun v=>match v with
  | .bool _ | .int _ _ | .str _ | .undef =>true
  | _=>false
 | _=>false
def u8r (m:Mem):AVal→AVal×Bool
 | .sla b sz off len cap=>match Yf m b with
  | some blk=>match blk.arr with
   | some A=>(.dat len fun k=>A.get (off+k),Nat.beq A.sz sz&&(decide (off+len≤A.n)&&pd (∀i,(A.get i).all (pf 6)=true)))
   | none=>(.undef,true)
  | none=>(.undef,true)
 | v=>(v,true)
def v0l (m:Mem):List AVal→List AVal×Bool
 | []=>([],true)
 | v::l=>match u8r m v,v0l m l with
  | (a,o),(az,q)=>(a::az,o&&q)
def w9z (P:Program) (S:Specs) (R:Runner) (lift:Bool) (f:FuncId) (args:List AVal) (cx:Ctx) (st:St):Option (AVal×St):=
 match S f with
 | some (.val F)=>bif args.all (pf 3) then (match F args with
   | some (v,b)=>bif pf 3 v||scal v then (st.owe cx b).map (v, ·) else none
   | none=>none) else
  match v0l st.mem args with
  | (args',o)=>match F args' with
   | some (v,b)=>bif args'.all (pf 3)&&scal v then (st.owe cx (o&&b)).map (v, ·) else none
   | none=>none
 | some (.eff F)=>match F args st.mem with
  | some (v,b,blk,o)=>match Yf st.mem b with
   | some _=>bif !lift&&Nat.ble cx.floor b then ((st.withMem (Wz st.mem b (some blk))).owe cx o).map (v, ·) else none
   | none=>none
  | none=>none
 | some (.gro ty0 F)=>match args with
  | .sla b sz 0 n (.un sz')::r=>match Yf st.mem b with
   | some ⟨_,ty,some A⟩=>bif (Nat.beq ty ty0&&(Nat.beq sz sz'&&Nat.beq A.sz sz))&&(r.all (pf 3)&&(Nat.ble cx.floor b&&Nat.ble 1 sz)) then
     (match F n A.get r with
     | some (n',g,o)=>(St.owe cx (match st with
      | ⟨env,mem,next,orc,ob⟩=>⟨env,Wz (Wz mem b none) next (some ⟨Yk n' g,ty,some ⟨sz,n',.flat g⟩⟩),next+1,orc,ob⟩) (o&&(Nat.beq A.n n&&(plR sz n A.get&&plR sz n' g)))).map (.sla st.next sz 0 n' (.un sz), ·)
     | none=>none) else none
   | _=>none
  | _=>none
 | none=>match P.funcs[f]? with
  | some fn=>match fn.body with
   | some body=>
    match R ⟨Nat.max fn.ntmps args.length,bif lift then st.next else cx.floor,cx.sym⟩ [.code body] (st.withEnv (z9y args 0 .leaf)) with
    | some st2=>match Kg P st2 fn.results.toList with
     | some vs=>some (Un vs,st2.withEnv st.env)
     | none=>none
    | none=>none
   | none=>none
  | none=>none
def Wq (P:Program) (S:Specs) (R:Runner) (lift:Bool) (op:Op) (cx:Ctx) (st:St):Option (AVal×St):=
 match op with
 | .load t x=>match v6s P st t (st.eval x) with
  | some (v,b,st1)=>(st1.owe cx b).map (v, ·)
  | none=>none
 | .alloc t=>(Qi P t).map fun z=>(.ptr st.next 0,y1d st z t)
 | .box t x=>bif z3b (st.eval x) then some (.ptr st.next 0,y1d st (st.eval x).cells t) else none
 | .buildSlice t len parts=>Ji P cx.sym st t len (parts.toList.map fun p=>(p.1,st.eval p.2))
 | .store t a x=>match st.eval a with
  | .epa b sz r fo=>(z6y P cx st t (.epa b sz r fo) (st.eval x)).map (.tup [], ·)
  | y=>(y6k P cx.floor st t y (st.eval x)).map (.tup [], ·)
 | .makeSlice t l c=>bif cx.sym then (bif st.nextO then Um P st.dropO t (st.eval l) (st.eval c) else Jh P cx st.dropO t (st.eval l) (st.eval c)) else Um P st t (st.eval l) (st.eval c)
 | .call {callee:=.builtin .append,args,argTypes}=>z1g P cx st argTypes.toList (args.toList.map st.eval)
 | .call {callee:=.builtin .copy,args,argTypes}=>y9w P cx st argTypes.toList (args.toList.map st.eval)
 | .call {callee:=.builtin .clear,args,argTypes}=>y6q P cx.floor st argTypes.toList (args.toList.map st.eval)
 | .call {callee:=.value f,args,argTypes:=_}=>match st.eval f with
  | .fn g caps=>w9z P S R lift g (args.toList.map st.eval++caps) cx st
  | .fnb g first=>w9z P S R lift g (first++args.toList.map st.eval) cx st
  | _=>none
 | _=>none
def y4x (P:Program) (S:Specs) (R:Runner) (lift:Bool) (o:Oper) (cx:Ctx) (st:St):Option St:=
 match Qw P o.op st.eval with
 | some (v,b)=>match st.owe cx b with
  | some st=>st.put cx o.dst v
  | none=>none
 | none=>match Wq P S R lift o.op cx st with
  | some (v,st)=>st.put cx o.dst v
  | none=>none
def z8t (ops:Array Oper) (o:Oper) (cx:Ctx) (st:St):Option (Bool×St):=
 match o.guard with
 | none=>some (true,st)
 | some (j,want)=>match (ops[j]?).bind (·.dst) with
  | none=>none
  | some d=>match st.tmp d with
   | .bool b=>match st.test b with
    | (e,st1)=>match st1.put cx (some d) (.bool e) with
     | some st2=>some (e == want,st2)
     | none=>none
   | .tup []=>some (false,st)
   | _=>none
def v3o :List Bool→Nat×List Bool
 | []=>(0,[])
 | false::r=>(0,r)
 | true::r=>((v3o r).1+1,(v3o r).2)
def St.conc (cx:Ctx) (t:Nat) (kd:IntKind) (n:Int):St→Option St
 | ⟨env,mem,next,[],ob⟩=>some ⟨env,mem,next,[],ob⟩
 | ⟨env,mem,next,o::r,ob⟩=>bif Nat.ble (t+1) cx.n then some ⟨T.set .undef env t (.int kd (Int.ofNat (v3o (o::r)).1)),mem,next,(v3o (o::r)).2,decide (n=Int.ofNat (v3o (o::r)).1)&&ob⟩ else none
def u2w (o:Oper) (cx:Ctx) (st:St):Option St:=
 match o.op with
 | .indexAddr _ x (.tmp t)=>match st.eval x with
  | .ptr _ _ | .epa _ _ _ _ | .dptr _=>match st.tmp t with
   | .int kd n=>st.conc cx t kd n
   | _=>some st
  | _=>some st
 | .index _ x (.tmp t)=>match st.eval x with
  | .agg _=>match st.tmp t with
   | .int kd n=>st.conc cx t kd n
   | _=>some st
  | _=>some st
 | _=>some st
def z1m (ops:Array Oper) (o:Oper) (cx:Ctx) (st:St):Option (Bool×St):=
 match z8t ops o cx st with
 | some (true,st1)=>match u2w o cx st1 with
  | some st2=>some (true,st2)
  | none=>none
 | x=>x
def w3q (P:Program) (S:Specs) (R:Runner) (ops:Array Oper) (cx:Ctx) (l:List (Bool×Oper)):St→Option St:=
 List.rec (motive:=fun _=>St→Option St) (fun st=>some st)
  (fun x _ rec st=>match z1m ops x.2 cx st with
   | none=>none
   | some (true,st)=>match y4x P S R x.1 x.2 cx st with
    | some st=>rec st
    | none=>none
   | some (false,st)=>match st.put cx x.2.dst (.tup []) with
    | some st=>rec st
    | none=>none) l
inductive Kind where
 | pure | read | alloc | call | chain | lit | birth
 deriving DecidableEq
def Xv :Op→Kind
 | .load .. =>.read
 | .alloc _=>.alloc
 | .box .. | .buildSlice .. | .store .. | .makeSlice .. =>.chain
 | .call {callee:=.builtin .append,.. } | .call {callee:=.builtin .copy,.. } | .call {callee:=.builtin .clear,.. }=>.chain
 | .call {callee:=.value _,.. }=>.call
 | _=>.pure
def x9y (z:Nat):Op→Bool
 | .buildSlice _ n _=>Nat.beq z 1||(Nat.beq z 3&&Nat.ble 1 n)
 | _=>false
def isBirth (z:Nat):Op→Bool
 | .buildSlice .. =>Nat.beq z 2
 | _=>false
def Xj (z:Nat) (op:Op):Kind:=bif x9y z op then .lit else bif isBirth z op then .birth else Xv op
def w9n :List Oper→List Nat→List Nat
 | [],acc=>acc
 | o::r,acc=>w9n r (acc++[o.after.toList.foldl (fun s e=>bif Region.binds .any e then s||| (2 ^ e.on)||| acc.getD e.on 0 else s) 0])
def isAlloc (ops:Array Oper) (i:Nat):Bool:=(ops[i]?).any fun o=>Xv o.op == .alloc
def Yq (ops:Array Oper):List Nat:=
 (List.range ops.size).filter (isAlloc ops)++(List.range ops.size).filter (fun i=> !isAlloc ops i)
def z4h (ops:Array Oper) (i:Nat):Bool:=
 (List.range ops.size).any fun j=>(ops[j]?).any (fun o=>Xv o.op == .read)&&
  ((Nat.ble (i+1) j&& !((w9n ops.toList []).getD j 0).testBit i)||(Nat.ble (j+1) i&& !((w9n ops.toList []).getD i 0).testBit j))
def z1f (ops:Array Oper):List (Nat×Bool×Oper):=(Yq ops).map fun i=>(i,z4h ops i,ops.getD i default)
def x9p :Kind→Kind→Bool
 | .pure,_=>true
 | _,.pure =>true
 | .lit,_=>true
 | _,.lit =>true
 | .birth,_=>true
 | _,.birth =>true
 | .alloc,_=>true
 | _,.alloc =>true
 | .read,.read =>true
 | .read,.call =>true
 | .call,.read =>true
 | .read,.chain =>true
 | .chain,.read =>true
 | _,_=>false
def w3p (z:Nat) (ops:Array Oper) (i j:Nat) (p o:Oper):Bool:=
 (((w9n ops.toList []).getD j 0).testBit i||(p.apart ops o&&x9p (Xj z p.op) (Xj z o.op)))&&
 (match p.dst with | some d=> !(o.dst == some d) | none=>true)&&
 (!(Xv o.op == .alloc)||p.apart ops o)&&
 (!isBirth z o.op||(match Xj z p.op with
  | .chain | .call =>false
  | _=>true))
def y5z (z:Nat) (ops:Array Oper):Bool:=
 (List.range ops.size).all fun j=>match ops[j]? with
  | none=>false
  | some o=>o.after.toList.all (fun e=> !Region.binds .any e||Nat.ble (e.on+1) j)&&(!(Xv o.op == .alloc ||isBirth z o.op)||o.guard.isNone)&&
   (List.range j).all fun i=>match ops[i]? with
    | none=>false
    | some p=>w3p z ops i j p o
def x8o (op:Op) (ev:Operand→AVal):Option Nat:=
 match op with
 | .load _ x=>match ev x with
  | .ptr b _=>some b
  | .epa b _ _ _=>some b
  | _=>none
 | _=>none
def x2u (op:Op) (ev:Operand→AVal):Option Nat:=
 match op with
 | .store _ a _=>match ev a with
  | .ptr b _=>some b
  | .epa b _ _ _=>some b
  | _=>none
 | .call {callee:=.builtin .append,args,argTypes:=_}=>match args.toList.map ev with
  | .sl b _ _ _::_=>some b
  | .sla b _ _ _ _::_=>some b
  | _=>none
 | .call {callee:=.builtin .copy,args,argTypes:=_}=>match args.toList.map ev with
  | .sl b _ _ _::_=>some b
  | .sla b _ _ _ _::_=>some b
  | .slv b _ _ _::_=>some b
  | _=>none
 | .call {callee:=.builtin .clear,args,argTypes:=_}=>match args.toList.map ev with
  | .sl b _ _ _::_=>some b
  | _=>none
 | _=>none
def clash :Option Nat→Option Nat→Bool
 | some a,some b=>Nat.beq a b
 | _,_=>false
def ordered (ops:Array Oper) (i j:Nat):Bool:=((w9n ops.toList []).getD j 0).testBit i||((w9n ops.toList []).getD i 0).testBit j
abbrev Foot :=Nat×Option Nat×Option Nat
def w4u (ops:Array Oper) (x y:Foot):Bool:= !(clash x.2.1 y.2.2||clash x.2.2 y.2.1)||ordered ops x.1 y.1
def x0d (P:Program) (S:Specs) (R:Runner) (ops:Array Oper) (cx:Ctx) (x:Bool×Oper) (st:St):Option St:=
 match z1m ops x.2 cx st with
 | none=>none
 | some (true,st)=>y4x P S R x.1 x.2 cx st
 | some (false,st)=>st.put cx x.2.dst (.tup [])
def j6o (P:Program) (t:TypeId) (len:Nat) (parts:List (Nat×AVal)):Option AVal:=
 match P.underlying t with
 | some (.slice e)=>match P.info? e,Qi P e with
  | some i,some zero=>
   bif (Nat.ble 1 len&&Nat.ble 1 i.size)&&(Nat.ble (len*i.size) 16777216&&Nat.beq zero.length i.size) then
    match x2n (fun j=>some (j*i.size,i.size)) (rep len zero) parts with
    | some cells=>bif Nat.beq cells.length (len*i.size)&&cells.all (pf 6) then some (.dat len fun k=>(cells.drop (k*i.size)).take i.size) else none
    | none=>none
   else none
  | _,_=>none
 | _=>none
def x9m (P:Program) (o:Oper) (cx:Ctx) (st:St):Option St:=
 match o.op with
 | .buildSlice t len parts=>match j6o P t len (parts.toList.map fun p=>(p.1,st.eval p.2)) with
  | some v=>st.put cx o.dst v
  | none=>none
 | _=>none
def w2d (P:Program) (t:TypeId) (len:Nat) (parts:List (Nat×AVal)):Option (List AVal×TypeId×Nat):=
 match P.underlying t with
 | some (.slice e)=>match P.info? e,Qi P e with
  | some i,some zero=>
   bif (Nat.ble 1 len&&Nat.ble 1 i.size)&&(Nat.ble (len*i.size) 16777216&&Nat.beq zero.length i.size) then
    match x2n (fun j=>some (j*i.size,i.size)) (rep len zero) parts with
    | some cells=>bif Nat.beq cells.length (len*i.size) then some (cells,e,i.size) else none
    | none=>none
   else none
  | _,_=>none
 | _=>none
def y6h (P:Program) (o:Oper) (cx:Ctx) (st:St):Option St:=
 match o.op with
 | .buildSlice t len parts=>match w2d P t len (parts.toList.map fun p=>(p.1,st.eval p.2)) with
  | some (cells,e,sz)=>(y1d st cells e).put cx o.dst (.sl st.next 0 len (bif cx.sym then .un sz else .ex len))
  | none=>none
 | _=>none
def x6p (z:Nat) (P:Program) (S:Specs) (R:Runner) (ops:Array Oper) (cx:Ctx) (x:Bool×Oper) (st:St):Option St:=
 bif x9y z x.2.op then (match z1m ops x.2 cx st with
  | none=>none
  | some (true,st)=>x9m P x.2 cx st
  | some (false,st)=>st.put cx x.2.dst (.tup [])) else bif isBirth z x.2.op then (match z1m ops x.2 cx st with
  | none=>none
  | some (true,st)=>y6h P x.2 cx st
  | some (false,st)=>st.put cx x.2.dst (.tup [])) else x0d P S R ops cx x st
def wrC (S:Specs) (op:Op) (ev:Operand→AVal):Option Nat:=match op with
 | .call {callee:=.value f,args,argTypes:=_}=>match ev f with
  | .fn g caps=>grOf S g (args.toList.map ev++caps)
  | .fnb g first=>grOf S g (first++args.toList.map ev)
  | _=>none
 | op=>x2u op ev
def z4l (S:Specs) (x:Nat×Bool×Oper) (ev:Operand→AVal):Foot:=(x.1,x8o x.2.2.op ev,wrC S x.2.2.op ev)
def w1p (op:Op) (ev:Operand→AVal) (mem:Mem):Option Nat:=match op with
 | .call {callee:=.builtin .append,args,argTypes:=_}=>match args.toList.map ev with
  | .sla b _ _ _ (.un _)::.sl _ _ _ _::_=>some b
  | .sl b off len (.un z)::.sl _ _ n _::_=>match Yf mem b with
   | some blk=>bif Nat.beq (off+len*z) blk.cells.length&&Nat.ble 1 n then some b else none
   | none=>none
  | _=>none
 | _=>none
def u2o (z:Nat) (op:Op):Bool:=match Xj z op with
 | .pure | .read =>true
 | _=>false
def z1l (z:Nat) (ops:Array Oper) (i q:Nat):Bool:=(List.range ops.size).all fun j=>match ops[j]? with
 | some o=>u2o z o.op||(Nat.beq j q||(((w9n ops.toList []).getD q 0).testBit j||((w9n ops.toList []).getD j 0).testBit i))
 | none=>true
def lateF (z:Nat) (ops:Array Oper) (x:Nat×Bool×Oper) (ev:Operand→AVal) (mem:Mem):Foot→Bool
 | (i,some b',none)=>match w1p x.2.2.op ev mem with
  | some b=>Nat.beq b b'&&z1l z ops i x.1
  | none=>false
 | _=>false
def z9q (z:Nat) (P:Program) (S:Specs) (R:Runner) (ops:Array Oper) (cx:Ctx) (l:List (Nat×Bool×Oper)):List Foot→St→Option St:=
 List.rec (motive:=fun _=>List Foot→St→Option St) (fun _ st=>some st)
  (fun x _ rec acc st=>bif acc.all (fun y=>w4u ops (z4l S x st.eval) y||lateF z ops x st.eval st.mem y) then
    match x6p z P S R ops cx x.2 st with
    | some st'=>rec (z4l S x st.eval::acc) st'
    | none=>none
   else none) l
def Yj :List (Nat×AVal)→T AVal
 | []=>.leaf
 | (t,v)::l=>T.set .undef (Yj l) t v
def u8h (P:Program) (f:FuncId):Code:=match P.funcs[f]? with
 | some fn=>fn.body.getD .ret
 | none=>.ret
def Zy (P:Program) (f:FuncId):List ResultVar:=match P.funcs[f]? with
 | some fn=>fn.results.toList
 | none=>[]
theorem y3r (m:Nat):Nat.beq (m %2) 0=true↔m %2=0:=by simp_all
@[simp] theorem T.get_leaf {α:Type} (d:α) (n:Nat):T.get d .leaf n=d:=rfl
@[simp] theorem T.get_zero {α:Type} (d v:α) (l r:T α):T.get d (.node v l r) 0=v:=rfl
theorem T.get_succ {α:Type} (d v:α) (l r:T α) (m:Nat):T.get d (.node v l r) (m+1)=if m %2=0 then T.get d l (m / 2) else T.get d r (m / 2):=by simp_all [T.get]
theorem T.setF_leaf_zero {α:Type} (d v:α) (f:Nat):T.setF d v (f+1) .leaf 0=.node v .leaf .leaf :=rfl
theorem T.setF_node_zero {α:Type} (d v u:α) (l r:T α) (f:Nat):T.setF d v (f+1) (.node u l r) 0=.node v l r:=rfl
theorem T.setF_leaf_succ {α:Type} (d v:α) (f m:Nat):T.setF d v (f+1) .leaf (m+1)=
  if m %2=0 then .node d (T.setF d v f .leaf (m / 2)) .leaf else .node d .leaf (T.setF d v f .leaf (m / 2)):=by
 show (bif Nat.beq (m %2) 0 then (_:T α) else _)=_;by_cases h:m %2=0
 ·rw [AK h,(y3r m).2 h];rfl
 ·rw [AF h,show Nat.beq (m %2) 0=false from AZ.2 (fun e=>h ((y3r m).1 e))];rfl
theorem T.setF_node_succ {α:Type} (d v u:α) (l r:T α) (f m:Nat):T.setF d v (f+1) (.node u l r) (m+1)=
  if m %2=0 then .node u (T.setF d v f l (m / 2)) r else .node u l (T.setF d v f r (m / 2)):=by
 show (bif Nat.beq (m %2) 0 then (_:T α) else _)=_;by_cases h:m %2=0
 ·rw [AK h,(y3r m).2 h];rfl
 ·rw [AF h,show Nat.beq (m %2) 0=false from AZ.2 (fun e=>h ((y3r m).1 e))];rfl
theorem T.get_setF {α:Type} (d v:α): ∀(f:Nat) (t:T α) (n k:Nat),n<f→T.get d (T.setF d v f t n) k=if k=n then v else T.get d t k
 | 0,_,_,_,h=>absurd h (AJ _)
 | f+1,.leaf,0,k,_=>by
  rw [T.setF_leaf_zero];cases k with
  | zero=>simp
  | succ k=>rw [T.get_succ];simp
 | f+1,.node u l r,0,k,_=>by
  rw [T.setF_node_zero];cases k with
  | zero=>simp
  | succ k=>rw [T.get_succ,T.get_succ];simp
 | f +1,.leaf,m+1,k,h=>by
  rw [T.setF_leaf_succ];have hm:m / 2<f:=by omega
  cases k with
  | zero=>split <;> simp
  | succ k=>
   have ih:=T.get_setF d v f .leaf (m / 2) (k / 2) hm;by_cases hp:m %2=0
   ·rw [AK hp,T.get_succ];by_cases hk:k %2=0
    ·rw [AK hk,ih];by_cases e:k / 2=m / 2
     ·rw [AK e,AK (by omega)]
     ·rw [AF e,AF (by omega)];simp
    ·rw [AF hk,AF (by omega)];simp
   ·rw [AF hp,T.get_succ];by_cases hk:k %2=0
    ·rw [AK hk,AF (by omega)];simp
    ·rw [AF hk,ih];by_cases e:k / 2=m / 2
     ·rw [AK e,AK (by omega)]
     ·rw [AF e,AF (by omega)];simp
 | f +1,.node u l r,m+1,k,h=>by
  rw [T.setF_node_succ];have hm:m / 2<f:=by omega
  cases k with
  | zero=>split <;> simp
  | succ k=>
   by_cases hp:m %2=0
   ·rw [AK hp,T.get_succ,T.get_succ];by_cases hk:k %2=0
    ·rw [AK hk,AK hk,T.get_setF d v f l (m / 2) (k / 2) hm];by_cases e:k / 2=m / 2
     ·rw [AK e,AK (by omega)]
     ·rw [AF e,AF (by omega)]
    ·rw [AF hk,AF hk,AF (by omega)]
   ·rw [AF hp,T.get_succ,T.get_succ];by_cases hk:k %2=0
    ·rw [AK hk,AK hk,AF (by omega)]
    ·rw [AF hk,AF hk,T.get_setF d v f r (m / 2) (k / 2) hm];by_cases e:k / 2=m / 2
     ·rw [AK e,AK (by omega)]
     ·rw [AF e,AF (by omega)]
theorem T.get_set {α:Type} (d:α) (t:T α) (n:Nat) (v:α) (k:Nat):T.get d (T.set d t n v) k=if k=n then v else T.get d t k:=
 T.get_setF d v (n+1) t n k (BS n)
theorem Vm (m:Mem) (b:Nat) (o:Option ABlk) (k:Nat):Yf (Wz m b o) k=if k=b then o else Yf m k:=T.get_set none m b o k
theorem Yw (m:Mem) (b:Nat) (o:Option ABlk):Yf (Wz m b o) b=o:=by rw [Vm,AK rfl]
theorem Zu (m:Mem) {b k:Nat} (o:Option ABlk) (h:k≠b):Yf (Wz m b o) k=Yf m k:=by rw [Vm,AF h]
inductive Vz {α β:Type} (R:α→β→Prop):List α→List β→Prop
 | nil:Vz R [] []
 | cons {a:α} {b:β} {l:List α} {m:List β} (h:R a b) (t:Vz R l m):Vz R (a::l) (b::m)
theorem Vz.length {α β:Type} {R:α→β→Prop} {l:List α} {m:List β} (h:Vz R l m):l.length=m.length:=by
 induction h with
 | nil=>rfl
 | cons _ _ ih=>simp [ih]
theorem Vz.get {α β:Type} {R:α→β→Prop} {l:List α} {m:List β} (h:Vz R l m): ∀(i:Nat) (h1:i<l.length) (h2:i<m.length),R l[i] m[i]:=by
 induction h with
 | nil=>grind
 | cons h _ ih=>
  grind
theorem Vz.append {α β:Type} {R:α→β→Prop} {l l':List α} {m m':List β} (h:Vz R l m) (k:Vz R l' m'):Vz R (l++l') (m++m'):=by
 induction h with
 | nil=>exact k
 | cons h _ ih=>exact .cons h ih
theorem Vz.of {α β:Type} {R:α→β→Prop}: ∀{l:List α} {m:List β},l.length=m.length→(∀(i:Nat) (h1:i<l.length) (h2:i<m.length),R l[i] m[i])→Vz R l m
 | [],[],_,_=>.nil
 | [],_::_,h,_=>by simp at h
 | _::_,[],h,_=>by simp at h
 | a::l,b::m,h,hr=>.cons (hr 0 (by simp) (by simp)) (Vz.of (by simpa using h) fun i h1 h2=>hr (i+1) (by grind) (by grind))
theorem Vz.maps {α γ δ:Type} {R:γ→δ→Prop} (f:α→γ) (g:α→δ): ∀(l:List α),(∀a,a∈l→R (f a) (g a))→Vz R (l.map f) (l.map g)
 | [],_=>.nil
 | a::l,h=>.cons (h a (by simp)) (Vz.maps f g l fun b hb=>h b (by simp [hb]))
structure Loc where
 blk:Nat
 base:Nat
 n:Nat
 tot:Nat
abbrev Old :=Nat→Option Obj
structure Rho where
 f:Nat→Option Loc
 fz:Old
 lp:Nat→Option Nat
instance : CoeFun Rho (fun _=>Nat→Option Loc):=⟨Rho.f⟩
def Rho.bare (ρ:Rho):Rho:=⟨fun _=>none,ρ.fz,fun _=>none⟩
def z1k (H:Old):Rho:=⟨fun _=>none,H,fun _=>none⟩
def z0x (l:Loc) (off:Nat):v0c→Nat→Prop
 | .ex k,c=>c=k
 | .un sz,c=>l.n≤off+c*sz∧off+c*sz≤l.tot
def x5y (H:Old) (blk o:Nat) (v:Value):Prop:= ∃cs el fz,H blk=some (.cells cs el fz)∧cs[o]? =some v
inductive Zt :Rho→AVal→Value→Prop
 | undef {ρ:Rho} (v:Value):Zt ρ .undef v
 | bool {ρ:Rho} (b:Bool):Zt ρ (.bool b) (.bool b)
 | int {ρ:Rho} (k:IntKind) (n:Int):Zt ρ (.int k n) (.int k n)
 | str {ρ:Rho} (s:List UInt8):Zt ρ (.str s) (.string ⟨s.toArray⟩)
 | agg {ρ:Rho} (cs:List AVal) (vs:Array Value) (hl:cs.length=vs.size) (h: ∀(i:Nat) (h1:i<cs.length) (h2:i<vs.size),Zt ρ cs[i] vs[i]):Zt ρ (.agg cs) (.agg vs)
 | tup {ρ:Rho} (cs:List AVal) (vs:Array Value) (hl:cs.length=vs.size) (h: ∀(i:Nat) (h1:i<cs.length) (h2:i<vs.size),Zt ρ cs[i] vs[i]):Zt ρ (.tup cs) (.tuple vs)
 | ptr {ρ:Rho} (b off:Nat) (l:Loc) (h:ρ b=some l):Zt ρ (.ptr b off) (.pointer (some ⟨l.blk,l.base+off,none⟩))
 | nilp {ρ:Rho}:Zt ρ .nilp (.pointer none)
 | sl {ρ:Rho} (b off len:Nat) (cap:v0c) (l:Loc) (c:Nat) (h:ρ b=some l) (hc:z0x l off cap c) (dG:len≤c):Zt ρ (.sl b off len cap) (.slice (some ⟨l.blk,l.base+off,none⟩) len c)
 | nils {ρ:Rho}:Zt ρ .nils (.slice none 0 0)
 | sla {ρ:Rho} (b sz off len:Nat) (cap:v0c) (l:Loc) (c:Nat) (h:ρ b=some l) (hc:z0x l (off*sz) cap c) (dG:len≤c):Zt ρ (.sla b sz off len cap) (.slice (some ⟨l.blk,l.base+off*sz,none⟩) len c)
 | slan {ρ:Rho} (b sz off:Nat) (cap:v0c):Zt ρ (.sla b sz off 0 cap) (.slice none 0 0)
 | slv {ρ:Rho} (b sz off len:Nat) (l:Loc) (c:Nat) (h:ρ b=some l) (dG:len≤c):Zt ρ (.slv b sz off len) (.slice (some ⟨l.blk,l.base+off*sz,none⟩) len c)
 | slve {ρ:Rho} (b sz off:Nat) (blk base c:Nat):Zt ρ (.slv b sz off 0) (.slice (some ⟨blk,base,none⟩) 0 c)
 | slvn {ρ:Rho} (b sz off:Nat):Zt ρ (.slv b sz off 0) (.slice none 0 0)
 | epa {ρ:Rho} (b sz i fo:Nat) (l:Loc) (h:ρ b=some l):Zt ρ (.epa b sz i fo) (.pointer (some ⟨l.blk,l.base+(i*sz+fo),none⟩))
 | fn {ρ:Rho} (f:FuncId) (cs:List AVal) (vs:Array Value) (hl:cs.length=vs.size) (h: ∀(i:Nat) (h1:i<cs.length) (h2:i<vs.size),Zt ρ cs[i] vs[i]):Zt ρ (.fn f cs) (.func (.func f) #[] vs)
 | nilf {ρ:Rho}:Zt ρ .nilf .nilFunc
 | fnb {ρ:Rho} (f:FuncId) (cs:List AVal) (vs:Array Value) (hl:cs.length=vs.size) (h: ∀(i:Nat) (h1:i<cs.length) (h2:i<vs.size),Zt ρ cs[i] vs[i]):Zt ρ (.fnb f cs) (.func (.func f) vs #[])
 | yld {ρ:Rho} (j l:Nat) (h:ρ.lp j=some l):Zt ρ (.yld j) (.func (.yield l) #[] #[])
 | ifc {ρ:Rho} (t:TypeId) (a:AVal) (v:Value) (h:Zt ρ a v):Zt ρ (.ifc t a) (.iface t v)
 | nili {ρ:Rho}:Zt ρ .nili .nilIface
 | dat {ρ:Rho} (len:Nat) (get:Nat→List AVal) (blk base sz cap:Nat) (val:Nat→Nat→Value) (dM:len≤cap) (hsz: ∀i,i<len→(get i).length =sz)
   (hv: ∀(i j:Nat) (_:i<len) (hj:j<(get i).length),Zt ρ.bare (get i)[j] (val i j)) (hh: ∀i j,i<len→j<sz→x5y ρ.fz blk (base+(i*sz+j)) (val i j)):Zt ρ (.dat len get) (.slice (some ⟨blk,base,none⟩) len cap)
 | datn {ρ:Rho} (get:Nat→List AVal):Zt ρ (.dat 0 get) (.slice none 0 0)
 | datz {ρ:Rho} (get:Nat→List AVal) (a:Addr) (c:Nat):Zt ρ (.dat 0 get) (.slice (some a) 0 c)
 | nnl {ρ:Rho} (len:Nat) (get:Nat→List AVal) (a:Addr) (c:Nat) (h:Zt ρ (.dat len get) (.slice (some a) len c)):Zt ρ (.nnl len get) (.slice (some a) len c)
 | dptr {ρ:Rho} (cs:List AVal) (blk base:Nat) (val:Nat→Value) (hv: ∀(j:Nat) (hj:j<cs.length),Zt ρ.bare cs[j] (val j)) (hh: ∀j,j<cs.length→x5y ρ.fz blk (base+j) (val j)):Zt ρ (.dptr cs) (.pointer (some ⟨blk,base,none⟩))
def Ue (ρ:Rho) (cs:List AVal) (vs:Array Value):Prop:=cs.length=vs.size∧ ∀(i:Nat) (h1:i<cs.length) (h2:i<vs.size),Zt ρ cs[i] vs[i]
def Rho.le (ρ ρ':Rho):Prop:=(∀b l,ρ b=some l→ρ' b=some l)∧(∀k o,ρ.fz k=some o→ρ'.fz k=some o)∧ ∀j l,ρ.lp j=some l→ρ'.lp j=some l
theorem Rho.le_refl (ρ:Rho):ρ.le ρ:=⟨fun _ _ h=>h,fun _ _ h=>h,fun _ _ h=>h⟩
theorem Rho.le_trans {a b c:Rho} (h:a.le b) (k:b.le c):a.le c:=⟨fun x l e=>k.1 x l (h.1 x l e),fun x l e=>k.2.1 x l (h.2.1 x l e),fun x l e=>k.2.2 x l (h.2.2 x l e)⟩
theorem Rho.le.bare {ρ ρ':Rho} (h:ρ.le ρ'):ρ.bare.le ρ'.bare:=⟨fun _ _ e=>(by cases e),h.2.1,fun _ _ e=>(by cases e)⟩
theorem y6j (ρ:Rho):ρ.bare.le ρ:=⟨fun _ _ e=>(by cases e),fun _ _ e=>e,fun _ _ e=>(by cases e)⟩
theorem x5y.mono {ρ ρ':Rho} (h:ρ.le ρ') {blk o:Nat} {v:Value} (hc:x5y ρ.fz blk o v):x5y ρ'.fz blk o v:=by obtain ⟨cs,el,fz,h1,h2⟩:=hc;exact ⟨cs,el,fz,h.2.1 _ _ h1,h2⟩
theorem Zt.mono {ρ ρ':Rho} (h:ρ.le ρ') {a:AVal} {v:Value} (hv:Zt ρ a v):Zt ρ' a v:=by
 induction hv generalizing ρ' with
 | undef v=>exact .undef v
 | bool b=>exact .bool b
 | int k n=>exact .int k n
 | str s=>exact .str s
 | agg cs vs hl _ ih=>exact .agg cs vs hl fun i h1 h2=>ih i h1 h2 h
 | tup cs vs hl _ ih=>exact .tup cs vs hl fun i h1 h2=>ih i h1 h2 h
 | ptr b off l e=>exact .ptr b off l (h.1 _ _ e)
 | nilp=>exact .nilp
 | sl b off len cap l c e hc dG=>exact .sl b off len cap l c (h.1 _ _ e) hc dG
 | nils=>exact .nils
 | sla b sz off len cap l c e hc dG=>exact .sla b sz off len cap l c (h.1 _ _ e) hc dG
 | slan b sz off cap=>exact .slan b sz off cap
 | slv b sz off len l c e dG=>exact .slv b sz off len l c (h.1 _ _ e) dG
 | slve b sz off blk base c=>exact .slve b sz off blk base c
 | slvn b sz off=>exact .slvn b sz off
 | epa b sz i fo l e=>exact .epa b sz i fo l (h.1 _ _ e)
 | fn f cs vs hl _ ih=>exact .fn f cs vs hl fun i h1 h2=>ih i h1 h2 h
 | nilf=>exact .nilf
 | fnb f cs vs hl _ ih=>exact .fnb f cs vs hl fun i h1 h2=>ih i h1 h2 h
 | yld j l e=>exact .yld j l (h.2.2 _ _ e)
 | ifc t a v _ ih=>exact .ifc t a v (ih h)
 | nili=>exact .nili
 | dat len get blk base sz cap val dM hsz hv hh ih=>exact .dat len get blk base sz cap val dM hsz (fun i j hi hj=>ih i j hi hj h.bare) fun i j hi hj=>(hh i j hi hj).mono h
 | datn get=>exact .datn get
 | datz get a c=>exact .datz get a c
 | nnl len get a c _ ih=>exact .nnl len get a c (ih h)
 | dptr cs blk base val hv hh ih=>exact .dptr cs blk base val (fun j hj=>ih j hj h.bare) fun j hj=>(hh j hj).mono h
theorem Zt.unN {ρ:Rho} {a:AVal} {v:Value} (h:Zt ρ a v):Zt ρ (unN a) v:=by
 cases h <;> first | assumption | (constructor <;> assumption)
theorem Zt.oneCell {ρ:Rho} {a:AVal} {v:Value} (h:Zt ρ a v) (hs:z9u a=true):v.oneCell'=true:=by
 cases h <;> first | rfl | (simp [z9u] at hs)
theorem Zt.cells {ρ:Rho} {a:AVal} {v:Value} (h:Zt ρ a v) (hu:z3b a=true):Ue ρ a.cells v.cells:=by
 cases h
 case agg cs vs hl hh=>exact ⟨hl,hh⟩
 all_goals first
  | (simp [z3b] at hu;done)
  | (refine ⟨rfl,fun i h1 h2=> ?_⟩
     have h0:i=0:=by simp [AVal.cells] at h1;exact h1
     subst h0;simp only [AVal.cells,Value.cells,List.getElem_cons_zero,List.getElem_toArray];constructor <;> assumption)
theorem Zt.cells_oneCell {ρ:Rho} {cs:List AVal} {vs:Array Value} (h:Ue ρ cs vs) (hs:cs.all z9u=true): ∀v∈vs.toList,v.oneCell'=true:=by
 intro v hv;obtain ⟨i,hi,rfl⟩:=AR hv;have h2:i<vs.size:=by grind
 have h1:i<cs.length:=by rw [h.1];exact h2
 simpa using (h.2 i h1 h2).oneCell (Ar.1 hs _ (AY h1))
structure Us (ρ:Rho) (w:World) (ab:ABlk) (l:Loc):Prop where
 n:l.n=ab.cells.length
 tot:l.n≤l.tot
 arr: ∀A,ab.arr=some A→ab.cells=Yk A.n A.get∧1≤A.sz∧ ∀i,i<A.n→(A.get i).length =A.sz
 cells: ∃cs el,w.heap[l.blk]? =some (.cells cs el (0,0))∧l.base+l.tot≤cs.size∧
  ∀(i:Nat) (h:i<ab.cells.length),∃v,cs[l.base+i]? =some v∧Zt ρ ab.cells[i] v
structure Rel (ρ:Rho) (mem:Mem) (next:Nat) (w:World):Prop where
 dom: ∀b l,ρ b=some l→b<next
 inj: ∀b b' l l',ρ b=some l→ρ b'=some l'→l.blk=l'.blk→(Yf mem b).isSome =true→(Yf mem b').isSome =true→b=b'
 blk: ∀b l ab,ρ b=some l→Yf mem b=some ab→Us ρ w ab l
 old: ∀k o,ρ.fz k=some o→w.heap[k]? =some o
 sep: ∀b l,ρ b=some l→(Yf mem b).isSome =true→ρ.fz l.blk=none
 real: ∀b l,ρ b=some l→l.blk<w.heap.size
 bd: ∀b,next≤b→Yf mem b=none
 ldom: ∀j l,ρ.lp j=some l→j<next
structure Ev (ρ ρ':Rho) (floor:Nat) (m:Mem) (next:Nat) (m':Mem) (next':Nat) (w w':World):Prop where
 ext:ρ.le ρ'
 new: ∀b,b<next→ρ' b=ρ b
 nxt:next≤next'
 unborn: ∀b,b<next→ρ b=none→ ∀cs ty,Yf m b=some ⟨cs,ty,none⟩→Yf m' b=some ⟨cs,ty,none⟩
 frame: ∀k o,w.heap[k]? =some o→(∀b l,ρ b=some l→floor≤b→l.blk≠k)→w'.heap[k]? =some o
 fresh: ∀b l,next≤b→ρ' b=some l→w.heap.size≤l.blk∨ ∃b0 l0,ρ b0=some l0∧floor≤b0∧l0.blk=l.blk
 size:w.heap.size≤w'.heap.size
 os:w'.os=w.os
 tape:w'.tape=w.tape
 output:w'.output=w.output
 still: ∀k,k<w.heap.size→ρ'.fz k=ρ.fz k
theorem Ev.refl (ρ:Rho) (floor:Nat) (m:Mem) (next:Nat) (w:World) (hd: ∀b l,ρ b=some l→b<next):Ev ρ ρ floor m next m next w w:=
 ⟨Rho.le_refl _,fun _ _=>rfl,Aq _,fun _ _ _ _ _ h=>h,fun _ _ h _=>h,fun b l hb h=>absurd (hd b l h) (by omega),Aq _,rfl,rfl,rfl,fun _ _=>rfl⟩
theorem Ev.drawn {ρ ρ':Rho} {floor:Nat} {m m':Mem} {next next':Nat} {w w':World} (h:Ev ρ ρ' floor m next m' next' {w with drawn:=w.drawn+1} w'):Ev ρ ρ' floor m next m' next' w w':=
 ⟨h.ext,h.new,h.nxt,h.unborn,h.frame,h.fresh,h.size,h.os,h.tape,h.output,h.still⟩
theorem Ev.trans {ρ ρ1 ρ2:Rho} {floor:Nat} {m m1 m2:Mem} {n n1 n2:Nat} {w w1 w2:World} (h:Ev ρ ρ1 floor m n m1 n1 w w1) (k:Ev ρ1 ρ2 floor m1 n1 m2 n2 w1 w2):Ev ρ ρ2 floor m n m2 n2 w w2 where
 ext:=Rho.le_trans h.ext k.ext
 new b hb:=by rw [k.new b (AW hb h.nxt),h.new b hb]
 nxt:=AE h.nxt k.nxt
 unborn b hb e cs ty hm:=k.unborn b (AW hb h.nxt) (by rw [h.new b hb];exact e) cs ty (h.unborn b hb e cs ty hm)
 frame i o hi hf:=by
  refine k.frame i o (h.frame i o hi hf) fun b l hl hfl hlb=> ?_;by_cases hb:b<n
  ·rw [h.new b hb] at hl;grind
  ·have hlt:i<w.heap.size:=(AL.1 hi).1;rcases h.fresh b l (by omega) hl with h1 | ⟨b0,l0,e0,f0,g0⟩;all_goals grind
 fresh b l hb hl:=by
  by_cases hb1:b<n1
  ·rw [k.new b hb1] at hl;exact h.fresh b l hb hl
  ·rcases k.fresh b l (by omega) hl with h1 | ⟨b0,l0,e0,f0,g0⟩
   ·exact .inl (AE h.size h1)
   ·by_cases hb0:b0<n
    ·rw [h.new b0 hb0] at e0;grind
    ·rcases h.fresh b0 l0 (by omega) e0 with h1 | ⟨b3,l3,e3,f3,g3⟩;all_goals grind
 size:=AE h.size k.size
 os:=k.os.trans h.os
 tape:=k.tape.trans h.tape
 output:=k.output.trans h.output
 still i hi:=(k.still i (AW hi h.size)).trans (h.still i hi)
theorem Ev.lower {ρ ρ':Rho} {floor floor':Nat} {m m':Mem} {n n':Nat} {w w':World} (h:Ev ρ ρ' floor' m n m' n' w w') (hf:floor≤floor'):Ev ρ ρ' floor m n m' n' w w':=
 ⟨h.ext,h.new,h.nxt,h.unborn,fun k o e g=>h.frame k o e fun b l hl hfl=>g b l hl (AE hf hfl),
  fun b l hb hl=>(h.fresh b l hb hl).imp id fun ⟨b0,l0,e,f,g⟩=>⟨b0,l0,e,AE hf f,g⟩,h.size,h.os,h.tape,h.output,h.still⟩
theorem Rel.drawn {ρ:Rho} {mem:Mem} {next:Nat} {w:World} (h:Rel ρ mem next w) (n:Nat):Rel ρ mem next {w with drawn:=n}:=
 ⟨h.dom,h.inj,fun b l ab e f=>let ⟨a,t,r,c⟩:=h.blk b l ab e f;⟨a,t,r,c⟩,h.old,h.sep,h.real,h.bd,h.ldom⟩
def Uv (ρ:Rho) (b:Nat) (l:Loc):Rho:=⟨fun k=>if k=b then some l else ρ k,ρ.fz,ρ.lp⟩
theorem Up (ρ:Rho) (b:Nat) (l:Loc) (k:Nat):Uv ρ b l k=if k=b then some l else ρ k:=rfl
theorem z0n {ρ:Rho} {b:Nat} {l:Loc} (h:ρ b=none):ρ.le (Uv ρ b l):=⟨fun k l' e=>by
 grind [Up],fun _ _ e=>e,fun _ _ e=>e⟩
theorem Rel.none_next {ρ:Rho} {mem:Mem} {next:Nat} {w:World} (h:Rel ρ mem next w):ρ next=none:=by
 cases e:ρ next with
 | none=>rfl
 | some l=>exact absurd (h.dom _ _ e) (BV _)
theorem Us.world {ρ ρ':Rho} {w w':World} {ab:ABlk} {l:Loc} (h:Us ρ w ab l) (hr:ρ.le ρ') (hw:w'.heap[l.blk]? =w.heap[l.blk]?):Us ρ' w' ab l:=by obtain ⟨n,t,ar,cs,el,h1,h2,h3⟩:=h;exact ⟨n,t,ar,cs,el,by grind,h2,fun i hi=>let ⟨v,e,f⟩:=h3 i hi;⟨v,e,f.mono hr⟩⟩
theorem Rel.new {ρ:Rho} {mem:Mem} {next:Nat} {w:World} (h:Rel ρ mem next w) (cs:List AVal) (ty:TypeId) (vs:Array Value) (el:TypeId) (hH: ∀k,w.heap.size≤k→ρ.fz k=none)
  (hn:cs.length≤vs.size) (hv: ∀(i:Nat) (h1:i<cs.length) (h2:i<vs.size),Zt ρ cs[i] vs[i]):
  Rel (Uv ρ next ⟨w.heap.size,0,cs.length,vs.size⟩) (Wz mem next (some ⟨cs,ty,none⟩)) (next+1) {w with heap:=w.heap.push (.cells vs el)}:=by
 have hle:=z0n (l:=⟨w.heap.size,0,cs.length,vs.size⟩) h.none_next;have dN: ∀b l,Uv ρ next ⟨w.heap.size,0,cs.length,vs.size⟩ b=some l→(b=next∧l=⟨w.heap.size,0,cs.length,vs.size⟩)∨(b≠next∧ρ b=some l):=fun b l e=>by
  grind [Up]
 refine ⟨fun b l e=> ?_,fun b b' l l' e e' hbl hs hs'=> ?_,fun b l ab e hm=> ?_,fun k o e=> ?_,fun b l e=> ?_,fun b l e=> ?_,fun b hb=>by rw [Zu _ _ (by omega)];exact h.bd b (by omega),fun j l e=>Bi (h.ldom j l e)⟩
 ·rcases dN b l e with ⟨rfl,_⟩ | ⟨_,e⟩
  ·omega
  ·have:=h.dom b l e;omega
 ·rcases dN b l e with ⟨hb,hl⟩ | ⟨hb,e2⟩ <;> rcases dN b' l' e' with ⟨hb',hl'⟩ | ⟨hb',e2'⟩
  ·rw [hb,hb']
  ·have:=h.real b' l' e2';grind
  ·have:=h.real b l e2;grind
  ·rw [Zu _ _ hb] at hs;rw [Zu _ _ hb'] at hs';exact h.inj b b' l l' e2 e2' hbl hs hs'
 ·rcases dN b l e with ⟨rfl,rfl⟩ | ⟨hb,e⟩
  ·rw [Yw] at hm;obtain rfl:=Ag hm;refine ⟨rfl,hn,(fun A e=>by cases e),vs,el,by simp,by simp,fun i hi=>⟨vs[i]'(by grind),by grind,(hv i hi (by grind)).mono hle⟩⟩
  ·rw [Zu _ _ hb] at hm;refine (h.blk b l ab e hm).world hle ?_;have:=h.real b l e
   grind
 ·have hk:=h.old k o e
  grind
 ·intro hs;rcases dN b l e with ⟨rfl,rfl⟩ | ⟨hne,e⟩
  ·exact hH _ (Aq _)
  ·rw [Zu _ _ hne] at hs;exact h.sep b l e hs
 ·rcases dN b l e with ⟨rfl,rfl⟩ | ⟨_,e⟩
  ·simp
  ·have:=h.real b l e;simp;omega
theorem Ev.ofNew {ρ:Rho} {mem:Mem} {next:Nat} {w:World} (h:Rel ρ mem next w) (floor:Nat) (l:Loc) (o:Option ABlk) (ob:Obj) (hl:w.heap.size≤l.blk):
  Ev ρ (Uv ρ next l) floor mem next (Wz mem next o) (next+1) w {w with heap:=w.heap.push ob} where
 ext:=z0n h.none_next
 new b hb:=by simp [Uv,BC hb]
 nxt:=BX _
 unborn b hb _ cs ty hm:=by grind [Zu]
 frame k o hk _:=by
  grind
 fresh b l' hb e:=by
  rw [Up] at e;by_cases hbn:b=next
  ·grind
  ·rw [AF hbn] at e;have:=h.dom b l' e;omega
 size:=by simp
 os:=rfl
 tape:=rfl
 output:=rfl
 still _ _:=rfl
theorem Kn {α:Type} (l c:List α) (off i:Nat) (h:off+c.length≤l.length):
  (l.take off++c++l.drop (off+c.length))[i]? =if i<off then l[i]? else if i<off+c.length then c[i - off]? else l[i]? :=by grind
theorem z7c {α:Type} (l c:List α) (off:Nat) (h:off+c.length≤l.length):(l.take off++c++l.drop (off+c.length)).length =l.length:=by grind
theorem Rel.write {ρ:Rho} {mem:Mem} {next:Nat} {w:World} (h:Rel ρ mem next w) {b:Nat} {l:Loc} {ab:ABlk} (hb:ρ b=some l) (hm:Yf mem b=some ab) {off:Nat} {cs:List AVal} {vs:List Value}
  (dG:vs.length=cs.length) (dT:off+cs.length≤ab.cells.length) (hv: ∀(i:Nat) (h1:i<cs.length) (h2:i<vs.length),Zt ρ cs[i] vs[i]):
  ∃cur el,w.heap[l.blk]? =some (.cells cur el (0,0))∧l.base+off+vs.length≤cur.size∧
   Rel ρ (Wz mem b (some ⟨ab.cells.take off++cs++ab.cells.drop (off+cs.length),ab.ty,none⟩)) next (w.setRow l.blk (cur.toList.take (l.base+off)++vs++cur.toList.drop (l.base+off+vs.length)).toArray):=by
 obtain ⟨hn,ht,har,cur,el,h1,h2,h3⟩:=h.blk b l ab hb hm;have hfc:l.base+off+vs.length≤cur.toList.length:=by simp;omega
 refine ⟨cur,el,h1,by grind,h.dom,fun c c' m m' e e' he hs hs'=> ?_,fun c m ac e hc=> ?_,fun k o e=> ?_,fun c m e hs=>h.sep c m e (by
  grind [Zu]),fun c m e=> ?_,fun c hc=>by have:=h.dom b l hb;rw [Zu _ _ (by omega)];exact h.bd c hc,h.ldom⟩
 ·refine h.inj c c' m m' e e' he ?_ ?_;all_goals grind [Zu]
 ·by_cases hcb:c=b
  ·subst hcb;rw [Yw] at hc;obtain rfl:=Ag hc;rw [hb] at e;obtain rfl:=Ag e;refine ⟨by grind,ht,(fun A e=>by cases e),_,el,setRow_heap w l.blk cur _ el (0,0) h1,?_,fun i hi=> ?_⟩
   ·grind
   ·rw [z7c _ _ _ dT] at hi;have hg:=Kn ab.cells cs off i dT;rw [Au (by grind)] at hg;simp only [List.getElem?_toArray];rw [Kn _ _ _ _ hfc]
    grind
  ·rw [Zu _ _ hcb] at hc;refine (h.blk c m ac e hc).world (Rho.le_refl _) (setRow_other w l.blk m.blk _ fun heq=>hcb ?_);exact h.inj c b m l e hb heq (by rw [hc];rfl) (by rw [hm];rfl)
 ·have hk:=h.old k o e;rw [setRow_other]
  ·exact hk
  ·intro heq;have:=h.sep b l hb (by rw [hm];rfl)
   grind
 ·rw [setRow_size];exact h.real c m e
theorem Ev.ofWrite {ρ:Rho} {mem:Mem} {next:Nat} {w:World} (h:Rel ρ mem next w) {floor b:Nat} {l:Loc} (hb:ρ b=some l) (hf:floor≤b) (o:Option ABlk) (cs:Array Value):
  Ev ρ ρ floor mem next (Wz mem b o) next w (w.setRow l.blk cs) where
 ext:=Rho.le_refl _
 new _ _:=rfl
 nxt:=Aq _
 unborn k _ e cs ty hm:=by grind [Zu]
 frame k o hk hfr:=by
  grind [setRow_other]
 fresh k m hk e:=by have:=h.dom k m e;omega
 size:=by simp_all
 os:=rfl
 tape:=rfl
 output:=rfl
 still _ _:=rfl
structure Wu (ρ:Rho) (env:T AVal) (n:Nat) (tmps:Array Value):Prop where
 size:tmps.size=n
 get: ∀i,Zt ρ (T.get .undef env i) (tmps.getD i undef)
 out: ∀i,n≤i→T.get .undef env i=.undef
theorem Wu.mono {ρ ρ':Rho} {env:T AVal} {n:Nat} {tmps:Array Value} (h:Wu ρ env n tmps) (hr:ρ.le ρ'):Wu ρ' env n tmps:=
 ⟨h.size,fun i=>(h.get i).mono hr,h.out⟩
section
variable {P:Program} {ρ:Rho}
theorem z5f {t:TypeId} {r:Bool} (h:v4s P t=some r) (w:World):(isAgg t).run P w=.ok r w:=by
 unfold v4s at h;cases hu:P.underlying t with
 | none=>grind
 | some d=>cases d <;> simp [hu] at h <;> subst h <;> simp [isAgg,run_underlying hu]
theorem Zi {t:TypeId} {i:TypeInfo} (h:P.info? t=some i) (w:World):(sizeOf t).run P w=.ok i.size w:=by simp [sizeOf,run_typeInfo w h]
theorem z5i {cs p:List AVal} {off n:Nat} (h:cut cs off n=some p):p=(cs.drop off).take n∧p.length=n∧(n=0∨off+n≤cs.length):=by
 unfold cut at h;dsimp only at h;cases hb:Nat.beq ((cs.drop off).take n).length n with
 | false=>grind
 | true=>
  simp only [hb,Ab,Ae] at h;have hl:=Aj hb
  grind
theorem j5z {cs p:List AVal} {off n:Nat} (h:cut cs off n=some p) (i:Nat) (hi:i<p.length): ∃h2:off+i<cs.length,p[i]=cs[off+i]:=by
 obtain ⟨rfl,hl,_⟩:=z5i h
 grind
theorem Js {t:TypeId} {cs:List AVal} {vs:Array Value} {off:Nat} {v:AVal} (h:z1t P t cs off=some v) (hr:Ue ρ cs vs):
  ∃u,Zt ρ v u∧ ∀w,(part t vs off).run P w=.ok u w:=by
 unfold z1t at h;split at h
 ·rename_i i ha hi;simp only [An] at h;obtain ⟨p,hp,rfl⟩:=h;obtain ⟨_,hl,hle⟩:=z5i hp;refine ⟨.agg (vs.extract off (off+i.size)),.agg _ _ ?_ ?_,fun w=> ?_⟩
  ·have:=hr.1;simp;omega
  ·intro j h1 h2;obtain ⟨h3,e⟩:=j5z hp j h1;rw [e];have h4:off+j<vs.size:=by grind
   simpa using hr.2 (off+j) h3 h4
  simp_all [part,z5f,Zi]
 ·rename_i i ha hi;obtain ⟨hlt,rfl⟩:=Bd.1 h;have h4:off<vs.size:=by rw [←hr.1];exact hlt
  exact ⟨vs[off],hr.2 off hlt h4,fun w=>by simp_all [part,z5f]⟩
 ·cases h
theorem z8k {rec:TypeId→AVal→AVal→Option Bool} {dd:Nat} {e:TypeId} {c:Nat}
  (IH: ∀x y r u u',rec e x y=some r→Zt ρ x u→Zt ρ y u'→ ∀w,(Op.equalIn dd e u u').run P w=.ok r w)
  {xs ys:List AVal} {us us':Array Value} (hx:Ue ρ xs us) (hy:Ue ρ ys us'): ∀(is:List Nat) (r:Bool),
  z2x rec P xs ys (is.map fun j=>(e,j*c))=some r→ ∀w,(Op.eqItems dd e c us us' is).run P w=.ok r w
 | [],r,h,w=>by simp_all [z2x,Op.eqItems]
 | i::is,r,h,w=>by
  simp only [A2,z2x] at h;split at h
  ·rename_i a b ha hb;split at h
   ·rename_i e1 f1 he hf;obtain rfl:=Ag h;obtain ⟨u,hu,pu⟩:=Js ha hx;obtain ⟨u',hu',pu'⟩:=Js hb hy;have q:=IH _ _ _ _ _ he hu hu' w;have r:=z8k IH hx hy is f1 hf w;cases e1 <;> simp [Op.eqItems,pu,pu',q,r]
   ·cases h
  ·cases h
theorem z5u {rec:TypeId→AVal→AVal→Option Bool} {dd:Nat}
  (IH: ∀e x y r u u',rec e x y=some r→Zt ρ x u→Zt ρ y u'→ ∀w,(Op.equalIn dd e u u').run P w=.ok r w)
  {xs ys:List AVal} {us us':Array Value} (hx:Ue ρ xs us) (hy:Ue ρ ys us'): ∀(fs:List Field) (r:Bool),fs.any (fun f=>f.name == "_")=false→
  z2x rec P xs ys (fs.map fun f=>(f.type,f.offset))=some r→ ∀w,(Op.eqFields dd us us' fs).run P w=.ok r w
 | [],r,_,h,w=>by simp_all [z2x,Op.eqFields]
 | f::fs,r,hn,h,w=>by
  simp only [BK,Bj] at hn;simp only [A2,z2x] at h;split at h
  ·rename_i a b ha hb;split at h
   ·rename_i e1 f1 he hf;obtain rfl:=Ag h;obtain ⟨u,hu,pu⟩:=Js ha hx;obtain ⟨u',hu',pu'⟩:=Js hb hy;have q:=IH _ _ _ _ _ _ he hu hu' w;have r:=z5u IH hx hy fs f1 hn.2 hf w;have hne:f.name≠ "_" :=(by simpa using hn.1);cases e1 <;> simp [Op.eqFields,hne,pu,pu',q,r]
   ·cases h
  ·cases h
theorem z8u (k:Nat): ∀(d:Nat) (t:TypeId) (x y:AVal) (r:Bool) (u u':Value),aEq P d t x y=some r→Zt ρ x u→Zt ρ y u'→ ∀w,(Op.equalIn (k+d) t u u').run P w=.ok r w
 | 0,_,_,_,_,_,_,h,_,_,_=>by simp [aEq] at h
 | d + 1,t,x,y,r,u,u',h,hx,hy,w=>by
  unfold aEq at h;cases hu:P.underlying t with
  | none=>grind
  | some ty=>
   rw [←AG];cases ty <;> simp only [hu] at h <;> try (cases h;done)
   case bool=>
    split at h
    ·cases hx;cases hy;grind [run_equalIn_bool']
    ·cases h
   case int q=>
    split at h
    ·split at h
     ·rename_i hk;subst hk;cases hx;cases hy;grind [run_equalIn_int]
     ·cases h
    ·cases h
   case string=>
    split at h
    ·cases hx;cases hy;grind [run_equalIn_string,ByteArray.toList_eq]
    ·cases h
   case array n e=>
    split at h
    ·rename_i xs ys i hi;cases hx with
     | agg _ us hl hh=>
      cases hy with
      | agg _ us' hl' hh'=>rw [run_equalIn_array w _ us us' hu hi];have hc:P.cellsOf e=i.size:=(by simp [Program.cellsOf,hi]);rw [hc];exact z8k (fun x y r u u' e1 e2 e3=>z8u k d e x y r u u' e1 e2 e3) ⟨hl,hh⟩ ⟨hl',hh'⟩ _ _ h w
    ·cases h
   case struct fs=>
    split at h
    ·rename_i xs ys;cases hs:P.stoodInHeld t with
     | true=>grind
     | false=>
      cases hn:fs.toList.any (fun f=>f.name == "_") with
      | true=>grind
      | false=>
       rw [hs,hn] at h;simp only [Aa] at h;cases hx with
       | agg _ us hl hh=>
        cases hy with
        | agg _ us' hl' hh'=>have hfs:P.fieldsOf t=fs:=(by simp [Program.fieldsOf,hu]);rw [run_equalIn_struct w _ t us us' (by grind) hs,hfs];exact z5u (fun e x y r u u' e1 e2 e3=>z8u k d e x y r u u' e1 e2 e3) ⟨hl,hh⟩ ⟨hl',hh'⟩ _ _ hn h w
    ·cases h
theorem y6t {op:BinOp} {k:IntKind} {a b n:Int} (h:v0a op k a b=some n):Op.intBits op k a b=pure (.int k n):=by
 cases op <;> simp only [v0a] at h <;> first | (cases h;done) | (obtain rfl:=Ag h;rfl)
theorem w0u (op:BinOp) (t:TypeId) (x y:Operand) (k k':IntKind) (a b:Int) (w:World):(eqGuard op t x y (.int k a) (.int k' b)).run P w=.ok () w:=by cases op <;> simp [eqGuard]
theorem v0b {op:BinOp} {t:TypeId} {x y:AVal} {v:AVal} {b:Bool} {u u':Value} (h:aBin P op t x y=some (v,b)) (hb:b=true) (hx:Zt ρ x u) (hy:Zt ρ y u') (ox oy:Operand):
  ∃z,Zt ρ v z∧ ∀w,(do eqGuard op t ox oy u u';binOp op t u u':Sem Value).run P w=.ok z w:=by
 subst hb;unfold aBin at h;split at h
 ·rename_i k a k' b;cases hx;cases hy;have g:=fun w=>w0u (P:=P) op t ox oy k k' a b w;split at h
  ·simp only [Ae,Ad,Bf,A4] at h;obtain ⟨rfl,h0⟩:=h;exact ⟨_,.int _ _,fun w=>by simp [g,binOp,Op.shift,h0]⟩
  ·simp only [Ae,Ad,Bf,A4] at h;obtain ⟨rfl,h0⟩:=h;exact ⟨_,.int _ _,fun w=>by simp [g,binOp,Op.shift,h0]⟩
  ·rename_i hshl hshr;split at h
   ·rename_i hk;subst hk;have fin: ∀n,v0a op k a b=some n→ ∃z,Zt ρ (.int k n) z∧ ∀w,(do eqGuard op t ox oy (.int k a) (.int k b);binOp op t (.int k a) (.int k b):Sem Value).run P w=.ok z w:=by
     intro n hn;have e:=y6t hn;refine ⟨_,.int _ _,fun w=> ?_⟩;cases op <;> simp only [v0a] at hn <;> first | (cases hn;done) | (simp [g,binOp,e];done)
    cases op <;> dsimp only at h
    case shl=>grind
    case shr=>grind
    case quo=>simp only [Ae,Ad,Bf,A4] at h;obtain ⟨rfl,h0⟩:=h;exact ⟨_,.int _ _,fun w=>by simp [g,binOp,Op.intDiv,h0]⟩
    case rem=>simp only [Ae,Ad,Bf,A4] at h;obtain ⟨rfl,h0⟩:=h;exact ⟨_,.int _ _,fun w=>by simp [g,binOp,Op.intDiv,h0]⟩
    all_goals first
     | (simp only [An,Ad] at h
        grind)
     | (simp only [Ae,Ad] at h
        obtain ⟨rfl,_⟩:=h;refine ⟨_,.int _ _,fun w=> ?_⟩;simp_all [binOp,Op.intArith])
     | (simp only [Ae,Ad] at h
        obtain ⟨rfl,_⟩:=h;refine ⟨_,.bool _,fun w=> ?_⟩;simp_all [binOp,Op.intCmp])
   ·cases h
 ·rename_i a b;cases hx;cases hy;split at h
  ·rename_i hu;split at h
   ·simp only [Ae,Ad] at h;obtain ⟨rfl,_⟩:=h;exact ⟨_,.bool _,fun w=>by simp_all [eqGuard,binOp,Op.equal,Op.maxDepth,run_equalIn_bool']⟩
   ·simp only [Ae,Ad] at h;obtain ⟨rfl,_⟩:=h;exact ⟨_,.bool _,fun w=>by simp_all [eqGuard,binOp,Op.equal,Op.maxDepth,run_equalIn_bool']⟩
   ·cases h
  ·cases h
 ·rename_i a b;cases hx with
  | agg _ us hl hh=>
   cases hy with
   | agg _ us' hl' hh'=>
    cases hg:P.eqGuardType P.depth t with
    | true=>grind
    | false=>
     simp only [hg,Aa] at h;split at h
     ·simp only [An,Ad] at h;obtain ⟨r,hr,rfl,_⟩:=h;have q:=fun w=>z8u 9970 30 t _ _ r _ _ hr (Zt.agg a us hl hh) (Zt.agg b us' hl' hh') w;exact ⟨_,.bool _,fun w=>by simp_all [run_eqGuard_agg,run_eql_struct]⟩
     ·simp only [An,Ad] at h;obtain ⟨r,hr,rfl,_⟩:=h;have q:=fun w=>z8u 9970 30 t _ _ r _ _ hr (Zt.agg a us hl hh) (Zt.agg b us' hl' hh') w;exact ⟨_,.bool _,fun w=>by simp_all [run_eqGuard_agg,run_neq_struct]⟩
     ·cases h
 ·cases hx with
  | sl _ _ _ _ l c hl hc dG=>
   cases hy;split at h
   ·rename_i e hu;have q:=fun (w:World) (a:Addr) (n c:Nat)=>Lib.run_equalIn_slice_nil (P:=P) w 9999 t e (some a) n c 0 0 hu;split at h
    ·simp only [Ae,Ad] at h;obtain ⟨rfl,_⟩:=h;exact ⟨_,.bool _,fun w=>by simp [eqGuard,binOp,Op.equal,Op.maxDepth,q]⟩
    ·simp only [Ae,Ad] at h;obtain ⟨rfl,_⟩:=h;exact ⟨_,.bool _,fun w=>by simp [eqGuard,binOp,Op.equal,Op.maxDepth,q]⟩
    ·cases h
   ·cases h
 ·cases hx with
  | nnl _ _ a c _=>
   cases hy;split at h
   ·rename_i e hu;have q:=fun (w:World) (a:Addr) (n c:Nat)=>Lib.run_equalIn_slice_nil (P:=P) w 9999 t e (some a) n c 0 0 hu;split at h
    ·simp only [Ae,Ad] at h;obtain ⟨rfl,_⟩:=h;exact ⟨_,.bool _,fun w=>by simp [eqGuard,binOp,Op.equal,Op.maxDepth,q]⟩
    ·simp only [Ae,Ad] at h;obtain ⟨rfl,_⟩:=h;exact ⟨_,.bool _,fun w=>by simp [eqGuard,binOp,Op.equal,Op.maxDepth,q]⟩
    ·cases h
   ·cases h
 ·cases hx;cases hy;split at h
  ·rename_i e hu;have q:=fun w=>Lib.run_equalIn_slice_nil (P:=P) w 9999 t e none 0 0 0 0 hu;split at h
   ·simp only [Ae,Ad] at h;obtain ⟨rfl,_⟩:=h;exact ⟨_,.bool _,fun w=>by simp [eqGuard,binOp,Op.equal,Op.maxDepth,q]⟩
   ·simp only [Ae,Ad] at h;obtain ⟨rfl,_⟩:=h;exact ⟨_,.bool _,fun w=>by simp [eqGuard,binOp,Op.equal,Op.maxDepth,q]⟩
   ·cases h
  ·cases h
 ·cases hx;cases hy;split at h
  ·simp only [Ae,Ad] at h;obtain ⟨rfl,_⟩:=h;exact ⟨_,.bool _,fun w=>by simp_all [eqGuard,binOp,Op.stringOp]⟩
  ·simp only [Ae,Ad] at h;obtain ⟨rfl,_⟩:=h;exact ⟨_,.bool _,fun w=>by simp_all [eqGuard,binOp,Op.stringOp]⟩
  ·cases h
 ·cases h
theorem v6q {op:UnOp} {x v:AVal} {u:Value} (h:aUn op x=some v) (hx:Zt ρ x u): ∃z,Zt ρ v z∧ ∀w,(Op.unary op u).run P w=.ok z w:=by
 unfold aUn at h;split at h
 ·cases hx;obtain rfl:=Ag h;exact ⟨_,.int _ _,fun w=>by simp [Op.unary,Op.intArith]⟩
 ·cases hx;simp only [An] at h;obtain ⟨n,hn,rfl⟩:=h;exact ⟨_,.int _ _,fun w=>by simp [Op.unary,y6t hn]⟩
 ·cases hx;obtain rfl:=Ag h;exact ⟨_,.bool _,fun w=>by simp [Op.unary]⟩
 ·cases h
end
section
variable {P:Program} {ρ:Rho}
theorem z1c (v:Value):Zt ρ (z2s v) v:=by
 cases v with
 | bool b=>exact .bool b
 | int k n=>exact .int k n
 | string s=>exact .str s.data.toList
 | pointer a=>cases a with
  | none=>exact .nilp
  | some a=>exact .undef _
 | slice a n c=>
  cases a with
  | some a=>exact .undef _
  | none=>
   cases n with
   | succ n=>exact .undef _
   | zero=>cases c with
    | zero=>exact .nils
    | succ c=>exact .undef _
 | nilFunc=>exact .nilf
 | nilIface=>exact .nili
 | _=>exact .undef _
theorem y8w (v:Value) (h: ∀cs,v≠ .agg cs):ofV v=z2s v:=by
 cases v <;> first | rfl | grind
theorem v3t (v:Value):Zt ρ (ofV v) v:=by
 by_cases h: ∃cs,v=.agg cs
 ·obtain ⟨cs,rfl⟩:=h;refine .agg _ _ (by simp) fun i h1 h2=> ?_
  grind [z1c]
 grind [y8w,z1c]
theorem y7d (v:Value):(z2s v).cells =[z2s v]:=by unfold z2s;split <;> rfl
theorem v3u (v:Value):Ue ρ (ofV v).cells v.cells:=by
 by_cases h: ∃cs,v=.agg cs
 ·obtain ⟨cs,rfl⟩:=h;refine ⟨by simp [ofV,AVal.cells,Value.cells],fun i h1 h2=> ?_⟩
  grind [z1c,Value.cells,ofV,AVal.cells]
 ·rw [y8w v fun cs e=>h ⟨cs,e⟩,y7d];have hc:v.cells= #[v]:=by cases v <;> first | rfl | grind
  rw [hc];refine ⟨rfl,fun i h1 h2=> ?_⟩
  grind [z1c]
theorem Ww {t:TypeId} {z:List AVal} (h:Qi P t=some z): ∃i v,P.info? t=some i∧i.zero=some v∧Ue ρ z v.cells∧ ∀w,(zeroValue t).run P w=.ok v w:=by
 unfold Qi at h;cases hi:P.info? t with
 | none=>grind
 | some i=>simp only [hi,An] at h;obtain ⟨v,hz,rfl⟩:=h;simp_all [v3u,zeroValue,run_typeInfo]
theorem w4v (off:Nat): ∀(l:List Value) (k:Nat) (cells:Array Value),off+k+l.length≤cells.size→
  (l.zipIdx k).foldl (fun cs p=>cs.setIfInBounds (off+p.2) p.1) cells=(cells.toList.take (off+k)++l++cells.toList.drop (off+k+l.length)).toArray
 | [],k,cells,_=>by simp
 | v::l,k,cells,h=>by
  simp only [List.zipIdx_cons,List.foldl_cons];rw [w4v off l (k+1) _ (by simp at h ⊢;omega)];have e:=list_seg_step cells.toList (off+k) v l (by simp at h ⊢;omega)
  simpa [Array.toList_setIfInBounds,AG] using e
theorem Ue.splice {cells:List AVal} {arr:Array Value} {c:List AVal} {vs:Array Value} {off:Nat} (h:Ue ρ cells arr) (hc:Ue ρ c vs) (dT:off+c.length≤cells.length):
  Ue ρ (cells.take off++c++cells.drop (off+c.length)) (arr.toList.take off++vs.toList++arr.toList.drop (off+vs.toList.length)).toArray :=by
 have e1:=h.1;have e2:=hc.1;have f1:off+vs.toList.length≤arr.toList.length:=by simp;omega
 refine ⟨by grind,fun i h1 h2=> ?_⟩;rw [z7c _ _ _ dT] at h1;have g1:=Kn cells c off i dT;have g2:=Kn arr.toList vs.toList off i f1;rw [Au (by grind)] at g1;rw [Au (by grind)] at g2;rw [List.getElem_toArray];by_cases k1:i<off
 ·rw [AK k1,Au h1] at g1;rw [AK k1,Au (by simp;omega)] at g2;rw [Ag g1,Ag g2]
  simpa using h.2 i h1 (by omega)
 ·by_cases k2:i<off+c.length
  ·rw [AF k1,AK k2,Au (by omega)] at g1;rw [AF k1,AK (by simp;omega),Au (by simp;omega)] at g2;rw [Ag g1,Ag g2]
   simpa using hc.2 (i - off) (by omega) (by omega)
  ·rw [AF k1,AF k2,Au h1] at g1;rw [AF k1,AF (by simp;omega),Au (by simp;omega)] at g2;rw [Ag g1,Ag g2]
   simpa using h.2 i h1 (by omega)
def z1h (ρ:Rho) (ps:List (Nat×AVal)) (qs:List (Nat×Value)):Prop:=
 Vz (fun p q=>p.1=q.1∧Zt ρ p.2 q.2) ps qs
theorem Qv {place:Nat→Option (Nat×Nat)}: ∀{ps:List (Nat×AVal)} {qs:List (Nat×Value)} {cells out:List AVal} {arr:Array Value},x2n place cells ps=some out→
  Ue ρ cells arr→z1h ρ ps qs→ ∃arr',Instr.fill place arr qs=some arr'∧Ue ρ out arr'
 | [],_,cells,out,arr,h,hr,hp=>by cases hp;simp only [x2n,Ae] at h;subst h;exact ⟨arr,rfl,hr⟩
 | (i,v)::ps,_,cells,out,arr,h,hr,hp=>by
  cases hp with
  | @cons _ q _ qs hq hqs=>
   obtain ⟨j,u⟩:=q;obtain ⟨hij,hv⟩:=hq;simp only at hij hv;subst hij;unfold x2n at h;cases hpl:place i with
   | none=>simp [hpl] at h
   | some pl=>
    obtain ⟨off,size⟩:=pl;simp only [hpl] at h;cases hc:(z3b v&&Nat.beq v.cells.length size&&Nat.ble (off+size) cells.length) with
    | false=>rw [hc] at h;cases h
    | true=>
     rw [hc,Ab] at h;simp only [Ac] at hc;obtain ⟨⟨hb,hs⟩,hf⟩:=hc;have hs:=Aj hs;have hf:=Ak hf;have dK:=hv.cells hb;have hsz:u.cells.size=size:=by rw [←dK.1];exact hs
     have dT:off+v.cells.length≤cells.length:=(by omega);rw [←hs] at h;obtain ⟨arr',h1,h2⟩:=Qv h (hr.splice dK dT) hqs;refine ⟨arr',?_,h2⟩;unfold Instr.fill;simp only [hpl];have hle:off+u.cells.size≤arr.size:=by rw [←hr.1,hsz];omega
     have hz: ¬(u.cells.size≠size||decide (off+u.cells.size>arr.size))=true:=by simp [hsz];rw [hsz] at hle;exact hle
     rw [AF hz];rw [←h1]
     congr 1
     rw [←Array.foldl_toList,Array.toList_zipIdx];have:=w4v off u.cells.toList 0 arr (by simpa using hle)
     simpa using this
theorem z4m : ∀{fs:List Field} {pl:List (Nat×Nat)},Qz P fs=some pl→ ∀w,(fs.mapM fun f=>Prod.mk f.offset<$>sizeOf f.type:Sem (List (Nat×Nat))).run P w=.ok pl w
 | [],pl,h,w=>by simp [Qz] at h;subst h;simp
 | f::fs,pl,h,w=>by
  unfold Qz at h;cases hi:P.info? f.type with
  | none=>simp [hi] at h
  | some i=>
   cases hr:Qz P fs with
   | none=>simp [hi,hr] at h
   | some l=>simp only [hi,hr,Ae] at h;subst h;have:=z4m hr w;simp [List.mapM_cons,Zi hi,this]
theorem x5s {t:TypeId} {ps:List (Nat×AVal)} {qs:List (Nat×Value)} {v:AVal} (h:v6w P t ps=some v) (hp:z1h ρ ps qs):
  ∃u,Zt ρ v u∧ ∀w,(Instr.build t qs.toArray).run P w=.ok u w:=by
 unfold v6w at h;split at h
 ·rename_i fs zero hu hz;obtain ⟨i,z,_,_,hzr,hzv⟩:=Ww (ρ:=ρ) hz;split at h
  ·rename_i pl hpl;simp only [An] at h;obtain ⟨cells,hc,rfl⟩:=h;obtain ⟨arr,h1,h2⟩:=Qv hc hzr hp;refine ⟨.agg arr,.agg _ _ h2.1 h2.2,fun w=> ?_⟩;have hpr:=z4m hpl w;simp [Instr.build,hzv,run_underlying hu,Array.mapM_eq_mapM_toList,hpr,h1]
  ·cases h
 ·rename_i n e zero hu hz;obtain ⟨i,z,_,_,hzr,hzv⟩:=Ww (ρ:=ρ) hz;split at h
  ·rename_i i hi;simp only [An] at h;obtain ⟨cells,hc,rfl⟩:=h;obtain ⟨arr,h1,h2⟩:=Qv hc hzr hp;exact ⟨.agg arr,.agg _ _ h2.1 h2.2,fun w=>by simp_all [Instr.build,run_underlying,Zi]⟩
  ·cases h
 ·cases h
theorem Xb (b o n:Nat):(⟨b,o,none⟩:Addr).add n=⟨b,o+n,none⟩:=by
 grind [Addr.add]
theorem Zt.dptr_drop {cs:List AVal} {blk base:Nat} {val:Nat→Value} (hv: ∀(j:Nat) (hj:j<cs.length),Zt ρ.bare cs[j] (val j)) (hh: ∀j,j<cs.length→x5y ρ.fz blk (base+j) (val j)) (k:Nat):
  Zt ρ (.dptr (cs.drop k)) (.pointer (some ⟨blk,base+k,none⟩)):=
 .dptr _ _ _ (fun j=>val (k+j)) (fun j hj=>by grind) (fun j hj=>by grind)
theorem y1o {t:TypeId} {x i v:AVal} {u ui:Value} {b:Bool} (h:y0h P t x i=some (v,b)) (hb:b=true) (hx:Zt ρ x u) (hi:Zt ρ i ui):
  ∃z,Zt ρ v z∧ ∀w,(Instr.indexAt t u ui).run P w=.ok z w:=by
 subst hb;unfold y0h at h;split at h
 ·rename_i len e b off k n hu;cases hi;simp only [An,Ad,At] at h;obtain ⟨s,hs,rfl,hn⟩:=h;cases hx with
  | ptr _ _ l hl=>refine ⟨_,.ptr _ _ l hl,fun w=> ?_⟩;simp [Instr.indexAt,asIntOf,run_underlying hu,Instr.sureAddr,hn,Zi hs,Xb,AG]
 ·rename_i len e cs k n hu;cases hi;simp only [An,Ad,At] at h;obtain ⟨s,hs,rfl,hn⟩:=h;cases hx with
  | dptr _ blk base val hv hh=>refine ⟨_,Zt.dptr_drop hv hh _,fun w=> ?_⟩;simp [Instr.indexAt,asIntOf,run_underlying hu,Instr.sureAddr,hn,Zi hs,Xb]
 ·rename_i e b off len cap k n hu;cases hi;simp only [An,Ad,At] at h;obtain ⟨s,hs,rfl,hn⟩:=h;cases hx with
  | sl _ _ _ _ l c hl hc dG=>refine ⟨_,.ptr _ _ l hl,fun w=> ?_⟩;simp [Instr.indexAt,asIntOf,run_underlying hu,hn,Zi hs,Xb,AG]
 ·rename_i e len get k n hu;cases hi;simp only [An,Ad,Ac,At] at h;obtain ⟨s,hs,rfl,hn,hl⟩:=h;have hl:=Aj hl;cases hx with
  | dat _ _ blk base sz cap val dM hsz hv hh=>
   have hlt:n.toNat<len:=by omega
   have hse:sz=s.size:=by grind
   refine ⟨_,.dptr _ blk (base+n.toNat*s.size) (val n.toNat) (fun j hj=>hv _ j hlt hj) (fun j hj=> ?_),fun w=> ?_⟩
   ·grind
   ·simp [Instr.indexAt,asIntOf,run_underlying hu,hn,Zi hs,Xb]
  | datn=>omega
  | datz=>omega
 ·rename_i e b sz off len cap k n hu;cases hi;simp only [An,Ad,Ac,At] at h;obtain ⟨s,hs,rfl,hn,hl⟩:=h;have hl:=Aj hl;cases hx with
  | sla _ _ _ _ _ l c hl' hc dG=>refine ⟨_,.epa _ _ _ _ l hl',fun w=> ?_⟩;simp [Instr.indexAt,asIntOf,run_underlying hu,hn,Zi hs,Xb,hl,AQ,AG]
  | slan=>omega
 ·rename_i e b sz off len k n hu;cases hi;simp only [An,Ad,Ac,At] at h;obtain ⟨s,hs,rfl,hn,hl⟩:=h;have hl:=Aj hl;cases hx with
  | slv _ _ _ _ l c hl' dG=>refine ⟨_,.epa _ _ _ _ l hl',fun w=> ?_⟩;simp [Instr.indexAt,asIntOf,run_underlying hu,hn,Zi hs,Xb,hl,AQ,AG]
  | slve=>omega
  | slvn=>omega
 ·rename_i len e b sz r fo k n hu;cases hi;simp only [An,Ad,At] at h;obtain ⟨s,hs,rfl,hn⟩:=h;cases hx with
  | epa _ _ _ _ l hl=>refine ⟨_,.epa _ _ _ _ l hl,fun w=> ?_⟩;simp [Instr.indexAt,asIntOf,run_underlying hu,Instr.sureAddr,hn,Zi hs,Xb,AG]
 ·cases h
theorem y1p {t:TypeId} {x v:AVal} {f:Nat} {u:Value} (h:y0i P t x f=some v) (hx:Zt ρ x u):
  ∃z,Zt ρ v z∧ ∀w,(Instr.fieldAt t u f).run P w=.ok z w:=by
 unfold y0i at h;split at h
 ·rename_i fs hu;split at h
  ·rename_i fd hf;split at h
   ·rename_i i hi;cases hz:Nat.beq i.size 0 with
    | true=>grind
    | false=>
     rw [hz,Aa] at h;have hne:i.size≠0:=fun e=>by simp_all
     split at h
     ·obtain rfl:=Ag h;cases hx with
      | ptr _ _ l hl=>exact ⟨_,.ptr _ _ l hl,fun w=>by simp_all [Instr.fieldAt,run_underlying,Instr.sureAddr,fieldPlace,Zi,Xb]⟩
     ·obtain rfl:=Ag h;cases hx with
      | dptr _ blk base val hv hh=>exact ⟨_,Zt.dptr_drop hv hh _,fun w=>by simp_all [Instr.fieldAt,run_underlying,Instr.sureAddr,fieldPlace,Zi,Xb]⟩
     ·obtain rfl:=Ag h;cases hx with
      | epa _ _ _ _ l hl=>exact ⟨_,.epa _ _ _ _ l hl,fun w=>by simp_all [Instr.fieldAt,run_underlying,Instr.sureAddr,fieldPlace,Zi,Xb]⟩
     ·cases h
   ·cases h
  ·cases h
 ·cases h
theorem x5o {t:TypeId} {x v:AVal} {f:Nat} {u:Value} (h:v6u P t x f=some v) (hx:Zt ρ x u):
  ∃z,Zt ρ v z∧ ∀w,(Instr.field t u f).run P w=.ok z w:=by
 unfold v6u at h;split at h
 ·rename_i fs cs hu;split at h
  ·rename_i fd hf;cases hx with
   | agg _ vs hl hh=>obtain ⟨z,hz,hr⟩:=Js h ⟨hl,hh⟩;simp_all [Instr.field,run_underlying,asAgg]
  ·cases h
 ·cases h
theorem x5n {t:TypeId} {x i v:AVal} {u ui:Value} {b:Bool} (h:v6t P t x i=some (v,b)) (hb:b=true) (hx:Zt ρ x u) (hi:Zt ρ i ui):
  ∃z,Zt ρ v z∧ ∀w,(Instr.index t u ui).run P w=.ok z w:=by
 subst hb;unfold v6t at h;split at h
 ·rename_i len e cs k n hu;cases hi;split at h
  ·rename_i s hs;simp only [An,Ad,At] at h;obtain ⟨v,hp,rfl,hn⟩:=h;cases hx with
   | agg _ vs hl hh=>obtain ⟨z,hz,hr⟩:=Js hp ⟨hl,hh⟩;simp_all [Instr.index,asIntOf,run_underlying,Zi]
  ·cases h
 ·rename_i s k n hu;cases hi;cases hx;simp only [An,Ad,At] at h;obtain ⟨c,hc,rfl,hn⟩:=h;refine ⟨_,.int _ _,fun w=> ?_⟩;obtain ⟨hlt,rfl⟩:=Bd.1 hc;have e:(⟨s.toArray⟩:ByteArray)[n.toNat]? =some s[n.toNat]:=by rw [getElem?_pos _ _ (by simpa [ByteArray.size] using hlt)];simp [ByteArray.getElem_eq_getElem_data]
  simp_all [Instr.index,asIntOf,run_underlying]
 ·cases h
theorem y5c {k:IntKind}: ∀{r:List AVal} {x n:Int} {us:List Value},y5d k x r=some n→Vz (Zt ρ) r us→ ∀w,(us.foldlM Builtin.min2 (.int k x)).run P w=.ok (.int k n) w
 | [],x,n,_,h,hr,w=>by cases hr;simp [y5d] at h;subst h;simp
 | a::r,x,n,_,h,hr,w=>by
  cases hr with
  | cons ha hrs=>
   cases a <;> simp only [y5d,Kx] at h <;> try (cases h;done)
   cases ha;have:=y5c h hrs w;simp [List.foldlM_cons,Builtin.min2,this]
theorem y5e {k:IntKind}: ∀{r:List AVal} {x n:Int} {us:List Value},y5f k x r=some n→Vz (Zt ρ) r us→ ∀w,(us.foldlM Builtin.max2 (.int k x)).run P w=.ok (.int k n) w
 | [],x,n,_,h,hr,w=>by cases hr;simp [y5f] at h;subst h;simp
 | a::r,x,n,_,h,hr,w=>by
  cases hr with
  | cons ha hrs=>
   cases a <;> simp only [y5f,Kw] at h <;> try (cases h;done)
   cases ha;have:=y5e h hrs w;simp [List.foldlM_cons,Builtin.max2,this]
theorem y7h {bi:Builtin} {ts:Array TypeId} {type:TypeId} {xs:List AVal} {us:Array Value} {v:AVal} (h:y3v P bi ts.toList xs=some v) (hx:Vz (Zt ρ) xs us.toList):
  ∃z,Zt ρ v z∧ ∀(cst:Array Bool) (w:World),(builtin bi ts type cst us).run P w=.ok (.value z) w:=by
 obtain ⟨ts⟩:=ts;obtain ⟨us⟩:=us;simp only at h hx;unfold y3v at h;split at h
 ·rename_i t _ x _;cases hx with
  | cons ha _=>
   split at h
   ·rename_i hu;cases ha;obtain rfl:=Ag h;exact ⟨_,.int _ _,fun cst w=>by simp [builtin,Builtin.len_,run_underlying hu,goInt,←ByteArray.size_data]⟩
   ·rename_i hu;obtain rfl:=Ag h;exact ⟨_,.int _ _,fun cst w=>by simp [builtin,Builtin.len_,run_underlying hu,goInt]⟩
   all_goals first
    | (rename_i hu
       obtain rfl:=Ag h;cases ha <;> exact ⟨_,.int _ _,fun cst w=>by simp [builtin,Builtin.len_,run_underlying hu,goInt]⟩)
    | grind
 ·rename_i k x r;cases hx with
  | cons ha hr=>cases ha;simp only [An] at h;obtain ⟨n,hn,rfl⟩:=h;have:=y5c (P:=P) hn hr;exact ⟨_,.int _ _,fun cst w=>by simp [builtin,Builtin.min_,this]⟩
 ·rename_i k x r;cases hx with
  | cons ha hr=>cases ha;simp only [An] at h;obtain ⟨n,hn,rfl⟩:=h;have:=y5e (P:=P) hn hr;exact ⟨_,.int _ _,fun cst w=>by simp [builtin,Builtin.max_,this]⟩
 ·rename_i t _ x _;cases hx with
  | cons ha _=>
   split at h
   ·rename_i hu;obtain rfl:=Ag h;cases ha with
    | sl _ _ _ _ l c hl hc dG=>simp only [z0x] at hc;subst hc;exact ⟨_,.int _ _,fun cst w=>by simp [builtin,Builtin.cap_,run_underlying hu,goInt]⟩
   ·rename_i hu;obtain rfl:=Ag h;cases ha;exact ⟨_,.int _ _,fun cst w=>by simp [builtin,Builtin.cap_,run_underlying hu,goInt]⟩
   ·cases h
 ·cases h
end
section
variable {P:Program} {ρ:Rho}
theorem Yd (isSlice:Bool) (len cap m h l:Nat) (low high max:Option Value) (hm:(max=none∧m=cap)∨(∃k,max=some (.int k m)∧m≤cap))
  (hh:(high=none∧max=none∧h=len)∨(∃k,high=some (.int k h)∧h≤m)) (hl:(low=none∧l=0)∨ ∃k,low=some (.int k l)∧l≤h) (w:World):
  (Instr.sliceBounds isSlice len cap low high max).run P w=.ok (l,h,m) w:=by
 have nn: ∀n:Nat,(0:Int)≤n:=fun n=>Int.natCast_nonneg n;rcases hm with ⟨rfl,rfl⟩ | ⟨km,rfl,hm⟩
 ·rcases hh with ⟨rfl,_,rfl⟩ | ⟨kh,rfl,hh⟩
  ·rcases hl with ⟨rfl,rfl⟩ | ⟨kl,rfl,hl⟩;all_goals simp_all [Instr.sliceBounds,Instr.sliceBound,asIntOf]
  ·rcases hl with ⟨rfl,rfl⟩ | ⟨kl,rfl,hl⟩;all_goals simp_all [Instr.sliceBounds,Instr.sliceBound,asIntOf]
 ·rcases hh with ⟨rfl,e,_⟩ | ⟨kh,rfl,hh⟩
  ·cases e
  ·rcases hl with ⟨rfl,rfl⟩ | ⟨kl,rfl,hl⟩;all_goals simp_all [Instr.sliceBounds,Instr.sliceBound,asIntOf]
theorem Yr {ev:Operand→AVal} {ec:Operand→Value} {o:Option Operand} {d n:Nat} {b:Bool} (h:z3c ev o d=some (n,b)) (hb:b=true) (hr: ∀x,o=some x→Zt ρ (ev x) (ec x)):
  (o=none∧n=d)∨ ∃k,o.map ec=some (.int k n):=by
 subst hb;unfold z3c at h;cases o with
 | none=>grind
 | some x=>
  right;have hx:=hr x rfl;simp only at h;split at h
  ·rename_i k i e;simp only [Ae,Ad,At] at h;obtain ⟨rfl,h0⟩:=h;rw [e] at hx;refine ⟨k,?_⟩;simp only [Option.map_some];rw [show ((i.toNat:Nat):Int)=i by omega];generalize ec x=u at hx ⊢;cases hx;rfl
  ·cases h
theorem x2j (c:Bool) (b o off k:Nat) (m l:Nat) (_:Nat.beq m l=c):(if m=l then some (⟨b,o+off,none⟩:Addr) else some ((⟨b,o+off,none⟩:Addr).add k))=some ⟨b,o+(bif Nat.beq m l then off else off+k),none⟩:=by
 by_cases h:m=l
 ·simp_all
 ·rw [AF h,show Nat.beq m l=false from AZ.2 fun e=>h (Aj e),Xb,AG];rfl
theorem x5m {ev:Operand→AVal} {ec:Operand→Value} {t:TypeId} {x:Operand} {lo hi mx:Option Operand} {v:AVal} {b:Bool} (h:v6r P ev t x lo hi mx=some (v,b)) (hb:b=true)
  (hx:Zt ρ (ev x) (ec x)) (hlo: ∀y,lo=some y→Zt ρ (ev y) (ec y)) (hhi: ∀y,hi=some y→Zt ρ (ev y) (ec y)) (hmx: ∀y,mx=some y→Zt ρ (ev y) (ec y)):
  ∃z,Zt ρ v z∧ ∀w,(Instr.sliceAt t (ec x) (lo.map ec) (hi.map ec) (mx.map ec)).run P w=.ok z w:=by
 subst hb;unfold v6r at h;split at h
 ·rename_i e hu hev;rw [hev] at hx;split at h
  ·rename_i s l a hh b hs hl hh';simp only [Ae,Ad,Ac] at h;obtain ⟨rfl,⟨⟨ha,hb⟩,h1⟩,h2⟩:=h;have e1:=Aj h1;have e2:=Aj h2;subst e1;subst e2;have q1:=Yr hl ha hlo;have q2:=Yr hh' hb hhi;generalize hw:ec x=u at hx;cases hx;refine ⟨_,.nils,fun w=> ?_⟩;have sb:=Yd (P:=P) true 0 0 0 0 0 (lo.map ec) (hi.map ec) none (.inl ⟨rfl,rfl⟩)
    (q2.elim (fun q=>.inl ⟨by rw [q.1];rfl,rfl,rfl⟩) (fun ⟨k,q⟩=>.inr ⟨k,q,Aq _⟩)) (q1.elim (fun q=>.inl ⟨by rw [q.1];rfl,rfl⟩) (fun ⟨k,q⟩=>.inr ⟨k,q,Aq _⟩))
   simp_all [Instr.sliceAt,Instr.slice,run_underlying,Zi]
  ·cases h
 ·rename_i e b off len c hu hev;rw [hev] at hx;split at h
  ·rename_i s m x1 hh x2 l x3 hs hm hhi' hl;split at h
   ·cases h
   ·rename_i hno;simp only [Ae,Ad,Ac] at h;obtain ⟨rfl,⟨⟨⟨⟨h1,h2⟩,h3⟩,h4⟩,h5⟩,h6⟩:=h;have h4:=Ak h4;have h5:=Ak h5;have h6:=Ak h6;have q0:=Yr hm h1 hmx;have q1:=Yr hl h3 hlo;have q2:=Yr hhi' h2 hhi;generalize hw:ec x=u at hx;cases hx with
    | sl _ _ _ _ lc c' hρ hc _=>
     simp only [z0x] at hc;subst hc;refine ⟨_,.sl _ _ _ _ lc _ hρ rfl (by omega),fun w=> ?_⟩;have sb:=Yd (P:=P) true len c' m hh l (lo.map ec) (hi.map ec) (mx.map ec) (q0.elim (fun q=>.inl ⟨by rw [q.1];rfl,q.2⟩) (fun ⟨k,q⟩=>.inr ⟨k,q,h4⟩))
      (q2.elim (fun q=>.inl ⟨by rw [q.1];rfl,by
       simp_all,q.2⟩) (fun ⟨k,q⟩=>.inr ⟨k,q,h5⟩)) (q1.elim (fun q=>.inl ⟨by rw [q.1];rfl,q.2⟩) (fun ⟨k,q⟩=>.inr ⟨k,q,h6⟩)) w
     simp [Instr.sliceAt,Instr.slice,run_underlying hu,sb,Zi hs];exact x2j _ _ _ _ _ _ _ rfl
  ·cases h
 ·rename_i e b off len zz hu hev;rw [hev] at hx;split at h
  ·rename_i s hh x2 l x3 hs hhi' hl;cases hz:Nat.beq zz s.size with
   | false=>grind
   | true=>
    rw [hz,Ab] at h;have hz:=Aj hz;rcases (by cases hlo':(Nat.beq hh l&&Nat.ble 1 l) with
      | true=>rw [hlo',Ab] at h;exact .inl ⟨rfl,h⟩
      | false=>rw [hlo',Aa] at h;exact .inr h:((Nat.beq hh l&&Nat.ble 1 l)=true∧some _=some _)∨(some _=some _)) with ⟨hq,h⟩ | h
    ·simp only [Ae,Ad,Ac] at h hq;obtain ⟨rfl,⟨h2,h3⟩,h5⟩:=h;obtain rfl:=Aj hq.1;have h5:=Ak h5;have q1:=Yr hl h3 hlo;have q2:=Yr hhi' h2 hhi;generalize hw:ec x=u at hx;cases hx with
     | sl _ _ _ _ lc c hρ hc dG=>
      have sb:=Yd (P:=P) true len c c hh hh (lo.map ec) (hi.map ec) none (.inl ⟨rfl,rfl⟩)
       (q2.elim (fun q=>.inl ⟨by rw [q.1];rfl,rfl,q.2⟩) (fun ⟨k,q⟩=>.inr ⟨k,q,by omega⟩)) (q1.elim (fun q=>.inl ⟨by rw [q.1];rfl,q.2⟩) (fun ⟨k,q⟩=>.inr ⟨k,q,Aq _⟩))
      have e0: ∀(base:Nat),Zt ρ (.dat 0 fun _=>[]) (.slice (some ⟨lc.blk,base,none⟩) 0 (c - hh)):=fun base=>
       .dat 0 _ lc.blk base 0 (c - hh) (fun _ _=>undef) (AA _) (fun i hi=>absurd hi (AJ _)) (fun i j hi=>absurd hi (AJ _)) (fun i j hi=>absurd hi (AJ _))
      by_cases hcl:c=hh
      ·subst hcl;refine ⟨_,e0 (lc.base+off),fun w=> ?_⟩;simp [Instr.sliceAt,Instr.slice,run_underlying hu,sb,Zi hs]
      ·refine ⟨_,e0 (lc.base+off+hh*s.size),fun w=> ?_⟩;simp [Instr.sliceAt,Instr.slice,run_underlying hu,sb,Zi hs,AF hcl,Xb]
    simp only [Ae,Ad,Ac,Bu] at h;obtain ⟨rfl,⟨⟨⟨h2,h3⟩,h5⟩,h6⟩,h7⟩:=h;have h5:=Ak h5;have h6:=Ak h6;have q1:=Yr hl h3 hlo;have q2:=Yr hhi' h2 hhi;generalize hw:ec x=u at hx;cases hx with
    | sl _ _ _ _ lc c hρ hc dG=>
     simp only [z0x] at hc;have hlc:l≤c:=(by omega);have hmul:l*s.size+(c - l)*zz=c*zz:=by rw [hz,←AQ];grind
     refine ⟨.slice (some ⟨lc.blk,lc.base+(off+l*s.size),none⟩) (hh - l) (c - l),.sl _ _ _ _ lc _ hρ ?_ (by omega),fun w=> ?_⟩
     ·simp only [z0x];omega
     ·have sb:=Yd (P:=P) true len c c hh l (lo.map ec) (hi.map ec) none (.inl ⟨rfl,rfl⟩)
       (q2.elim (fun q=>.inl ⟨by rw [q.1];rfl,rfl,q.2⟩) (fun ⟨k,q⟩=>.inr ⟨k,q,by omega⟩)) (q1.elim (fun q=>.inl ⟨by rw [q.1];rfl,q.2⟩) (fun ⟨k,q⟩=>.inr ⟨k,q,h6⟩)) w
      simp [Instr.sliceAt,Instr.slice,run_underlying hu,sb,Zi hs];by_cases hcl:c=l
      ·rw [AK hcl];rcases h7 with h7 | h7
       ·have:=Ak h7;omega
       simp_all
      grind [Xb]
  ·rename_i s y hh x2 l x3 hs hhi' hl;split at h
   ·rename_i m x1 hm;cases hz:(Nat.beq zz s.size&&hi.isSome) with
    | false=>grind
    | true=>
     rw [hz,Ab] at h;simp only [Ae,Ad,Ac] at h hz;obtain ⟨rfl,⟨⟨⟨⟨h1,h2⟩,h3⟩,h4⟩,h5⟩,h6⟩:=h;have h4:=Ak h4;have h5:=Ak h5;have h6:=Ak h6;have q0:=Yr hm h1 hmx;have q1:=Yr hl h3 hlo;have q2:=Yr hhi' h2 hhi;generalize hw:ec x=u at hx;cases hx with
     | sl _ _ _ _ lc c hρ _ dG=>
      refine ⟨_,.sl _ _ _ _ lc _ hρ rfl (by omega),fun w=> ?_⟩;have sb:=Yd (P:=P) true len c m hh l (lo.map ec) (hi.map ec) ((some y).map ec) (q0.elim (fun q=>by cases q.1) (fun ⟨k,q⟩=>.inr ⟨k,q,by omega⟩))
       (q2.elim (fun q=>by grind) (fun ⟨k,q⟩=>.inr ⟨k,q,h5⟩)) (q1.elim (fun q=>.inl ⟨by rw [q.1];rfl,q.2⟩) (fun ⟨k,q⟩=>.inr ⟨k,q,h6⟩)) w
      simp only [Option.map_some] at sb;simp [Instr.sliceAt,Instr.slice,run_underlying hu,sb,Zi hs];exact x2j _ _ _ _ _ _ _ rfl
   ·cases h
  ·cases h
 ·rename_i e b sz off len zz hu hev;rw [hev] at hx;split at h
  ·rename_i s hh x2 l x3 hs hhi' hl;cases hz:(Nat.beq zz s.size&&Nat.beq sz zz) with
   | false=>grind
   | true=>
    rw [hz,Ab] at h;simp only [Ac] at hz;have hz1:=Aj hz.1;obtain rfl:=Aj hz.2;subst hz1;rcases (by cases hlo':lo.isSome with
      | true=>rw [hlo',Ab] at h;exact .inl h
      | false=>rw [hlo',Aa] at h;exact .inr h:(some _=some _)∨(some _=some _)) with h | h
    ·simp only [Ae,Ad,Ac,At] at h;obtain ⟨rfl,h2,h3,h5,h6⟩:=h;have q1:=Yr hl h3 hlo;have q2:=Yr hhi' h2 hhi;generalize hw:ec x=u at hx;cases hx with
     | sla _ _ _ _ _ lc c hρ hc dG=>
      have hlc:l≤c:=(by omega);have sb:=Yd (P:=P) true len c c hh l (lo.map ec) (hi.map ec) none (.inl ⟨rfl,rfl⟩)
       (q2.elim (fun q=>.inl ⟨by rw [q.1];rfl,rfl,q.2⟩) (fun ⟨k,q⟩=>.inr ⟨k,q,by omega⟩)) (q1.elim (fun q=>.inl ⟨by rw [q.1];rfl,q.2⟩) (fun ⟨k,q⟩=>.inr ⟨k,q,h6⟩))
      by_cases hcl:c=l
      ·subst hcl;have e0:hh - c=0:=(by omega);rw [e0];refine ⟨_,.slve _ _ _ lc.blk (lc.base+off*s.size) (c - c),fun w=> ?_⟩;simp [Instr.sliceAt,Instr.slice,run_underlying hu,sb,Zi hs,e0]
      ·refine ⟨_,.slv _ _ _ _ lc (c - l) hρ (by omega),fun w=> ?_⟩;simp [Instr.sliceAt,Instr.slice,run_underlying hu,sb,Zi hs,AF hcl,Xb,AQ,AG]
     | slan=>
      obtain rfl:hh=0:=by omega
      obtain rfl:l=0:=by omega
      refine ⟨_,.slvn _ _ _,fun w=> ?_⟩;have sb:=Yd (P:=P) true 0 0 0 0 0 (lo.map ec) (hi.map ec) none (.inl ⟨rfl,rfl⟩)
       (q2.elim (fun q=>.inl ⟨by rw [q.1];rfl,rfl,rfl⟩) (fun ⟨k,q⟩=>.inr ⟨k,q,Aq _⟩)) (q1.elim (fun q=>.inl ⟨by rw [q.1];rfl,rfl⟩) (fun ⟨k,q⟩=>.inr ⟨k,q,Aq _⟩))
      simp_all [Instr.sliceAt,Instr.slice,run_underlying,Zi]
    simp only [Ae,Ad,Ac,Bu,At] at h;obtain ⟨rfl,h2,h3,h5,h6,h7⟩:=h;have q1:=Yr hl h3 hlo;have q2:=Yr hhi' h2 hhi;generalize hw:ec x=u at hx;cases hx with
    | sla _ _ _ _ _ lc c hρ hc dG=>
     simp only [z0x] at hc;have hlc:l≤c:=(by omega);have hmul:l*s.size+(c - l)*s.size=c*s.size:=by rw [←AQ];grind
     have hmul2:(off+l)*s.size=off*s.size+l*s.size:=AQ _ _ _;refine ⟨.slice (some ⟨lc.blk,lc.base+(off+l)*s.size,none⟩) (hh - l) (c - l),.sla _ _ _ _ _ lc _ hρ ?_ (by omega),fun w=> ?_⟩
     ·simp only [z0x];omega
     ·have sb:=Yd (P:=P) true len c c hh l (lo.map ec) (hi.map ec) none (.inl ⟨rfl,rfl⟩)
       (q2.elim (fun q=>.inl ⟨by rw [q.1];rfl,rfl,q.2⟩) (fun ⟨k,q⟩=>.inr ⟨k,q,by omega⟩)) (q1.elim (fun q=>.inl ⟨by rw [q.1];rfl,q.2⟩) (fun ⟨k,q⟩=>.inr ⟨k,q,h6⟩)) w
      simp [Instr.sliceAt,Instr.slice,run_underlying hu,sb,Zi hs];by_cases hcl:c=l
      ·rw [AK hcl];rcases h7 with h7 | h7
       ·omega
       simp_all
      grind [Xb]
    | slan=>
     obtain rfl:hh=0:=by omega
     obtain rfl:l=0:=by omega
     refine ⟨_,.slan _ _ _ _,fun w=> ?_⟩;have sb:=Yd (P:=P) true 0 0 0 0 0 (lo.map ec) (hi.map ec) none (.inl ⟨rfl,rfl⟩)
      (q2.elim (fun q=>.inl ⟨by rw [q.1];rfl,rfl,rfl⟩) (fun ⟨k,q⟩=>.inr ⟨k,q,Aq _⟩)) (q1.elim (fun q=>.inl ⟨by rw [q.1];rfl,rfl⟩) (fun ⟨k,q⟩=>.inr ⟨k,q,Aq _⟩))
     simp_all [Instr.sliceAt,Instr.slice,run_underlying,Zi]
  ·cases h
 ·rename_i e b sz off len hu hev;rw [hev] at hx;split at h
  ·rename_i s hh x2 l x3 hs hhi' hl;cases hz:Nat.beq sz s.size with
   | false=>grind
   | true=>
    rw [hz,Ab] at h;obtain rfl:=Aj hz;simp only [Ae,Ad,Ac,At] at h;obtain ⟨rfl,h2,h3,h5,h6⟩:=h;have q1:=Yr hl h3 hlo;have q2:=Yr hhi' h2 hhi;generalize hw:ec x=u at hx;cases hx with
    | slv _ _ _ _ lc c hρ dG=>
     have hlc:l≤c:=(by omega);have sb:=Yd (P:=P) true len c c hh l (lo.map ec) (hi.map ec) none (.inl ⟨rfl,rfl⟩)
      (q2.elim (fun q=>.inl ⟨by rw [q.1];rfl,rfl,q.2⟩) (fun ⟨k,q⟩=>.inr ⟨k,q,by omega⟩)) (q1.elim (fun q=>.inl ⟨by rw [q.1];rfl,q.2⟩) (fun ⟨k,q⟩=>.inr ⟨k,q,h6⟩))
     by_cases hcl:c=l
     ·subst hcl;have e0:hh - c=0:=(by omega);rw [e0];refine ⟨_,.slve _ _ _ lc.blk (lc.base+off*s.size) (c - c),fun w=> ?_⟩;simp [Instr.sliceAt,Instr.slice,run_underlying hu,sb,Zi hs,e0]
     ·refine ⟨_,.slv _ _ _ _ lc (c - l) hρ (by omega),fun w=> ?_⟩;simp [Instr.sliceAt,Instr.slice,run_underlying hu,sb,Zi hs,AF hcl,Xb,AQ,AG]
    | slve _ _ _ blk base c=>
     obtain rfl:hh=0:=by omega
     obtain rfl:l=0:=by omega
     have sb:=Yd (P:=P) true 0 c c 0 0 (lo.map ec) (hi.map ec) none (.inl ⟨rfl,rfl⟩)
      (q2.elim (fun q=>.inl ⟨by rw [q.1];rfl,rfl,rfl⟩) (fun ⟨k,q⟩=>.inr ⟨k,q,AA _⟩)) (q1.elim (fun q=>.inl ⟨by rw [q.1];rfl,rfl⟩) (fun ⟨k,q⟩=>.inr ⟨k,q,Aq _⟩))
     refine ⟨_,.slve _ _ _ blk base c,fun w=> ?_⟩;simp_all [Instr.sliceAt,Instr.slice,run_underlying,Zi,Xb]
    | slvn=>
     obtain rfl:hh=0:=by omega
     obtain rfl:l=0:=by omega
     refine ⟨_,.slvn _ _ _,fun w=> ?_⟩;have sb:=Yd (P:=P) true 0 0 0 0 0 (lo.map ec) (hi.map ec) none (.inl ⟨rfl,rfl⟩)
      (q2.elim (fun q=>.inl ⟨by rw [q.1];rfl,rfl,rfl⟩) (fun ⟨k,q⟩=>.inr ⟨k,q,Aq _⟩)) (q1.elim (fun q=>.inl ⟨by rw [q.1];rfl,rfl⟩) (fun ⟨k,q⟩=>.inr ⟨k,q,Aq _⟩))
     simp_all [Instr.sliceAt,Instr.slice,run_underlying,Zi]
  ·cases h
 ·rename_i e len get hu hev;rw [hev] at hx;split at h
  ·rename_i s hh x2 l x3 hs hhi' hl;simp only [Ae,Ad,Ac,At] at h;obtain ⟨rfl,h2,h3,h5,h6,h7⟩:=h;have h7:= @Av _ (Classical.propDecidable _) h7;have q1:=Yr hl h3 hlo;have q2:=Yr hhi' h2 hhi;generalize hw:ec x=u at hx;cases hx with
   | dat _ _ blk base sz c val dM hsz hv hh'=>
    have hlc:l≤c:=(by omega);have sb:=Yd (P:=P) true len c c hh l (lo.map ec) (hi.map ec) none (.inl ⟨rfl,rfl⟩)
     (q2.elim (fun q=>.inl ⟨by rw [q.1];rfl,rfl,q.2⟩) (fun ⟨k,q⟩=>.inr ⟨k,q,by omega⟩)) (q1.elim (fun q=>.inl ⟨by rw [q.1];rfl,q.2⟩) (fun ⟨k,q⟩=>.inr ⟨k,q,h6⟩))
    by_cases hcl:c=l
    ·subst hcl;have e0:hh - c=0:=(by omega);rw [e0];refine ⟨_,.dat 0 _ blk base s.size (c - c) (fun _ _=>undef) (AA _) (fun i hi=>absurd hi (AJ _)) (fun i j hi=>absurd hi (AJ _)) (fun i j hi=>absurd hi (AJ _)),fun w=> ?_⟩;simp [Instr.sliceAt,Instr.slice,run_underlying hu,sb,Zi hs,e0]
    ·refine ⟨_,.dat (hh - l) (fun k=>get (l+k)) blk (base+l*s.size) s.size (c - l) (fun k=>val (l+k)) (by omega) (fun i hi=>h7 _ (by omega)) (fun i j hi hj=>hv _ j (by omega) hj) (fun i j hi hj=> ?_),fun w=> ?_⟩
     ·grind
     ·simp [Instr.sliceAt,Instr.slice,run_underlying hu,sb,Zi hs,AF hcl,Xb]
   | datn=>
    obtain rfl:hh=0:=by omega
    obtain rfl:l=0:=by omega
    refine ⟨_,.datn _,fun w=> ?_⟩;have sb:=Yd (P:=P) true 0 0 0 0 0 (lo.map ec) (hi.map ec) none (.inl ⟨rfl,rfl⟩)
     (q2.elim (fun q=>.inl ⟨by rw [q.1];rfl,rfl,rfl⟩) (fun ⟨k,q⟩=>.inr ⟨k,q,Aq _⟩)) (q1.elim (fun q=>.inl ⟨by rw [q.1];rfl,rfl⟩) (fun ⟨k,q⟩=>.inr ⟨k,q,Aq _⟩))
    simp_all [Instr.sliceAt,Instr.slice,run_underlying,Zi]
   | datz _ a c=>
    obtain rfl:hh=0:=by omega
    obtain rfl:l=0:=by omega
    have sb:=Yd (P:=P) true 0 c c 0 0 (lo.map ec) (hi.map ec) none (.inl ⟨rfl,rfl⟩)
     (q2.elim (fun q=>.inl ⟨by rw [q.1];rfl,rfl,rfl⟩) (fun ⟨k,q⟩=>.inr ⟨k,q,AA _⟩)) (q1.elim (fun q=>.inl ⟨by rw [q.1];rfl,rfl⟩) (fun ⟨k,q⟩=>.inr ⟨k,q,Aq _⟩))
    by_cases hc0:c=0
    ·subst hc0;refine ⟨_,.datz _ a 0,fun w=> ?_⟩;simp_all [Instr.sliceAt,Instr.slice,run_underlying,Zi]
    ·refine ⟨_,.datz _ (a.add (0*s.size)) c,fun w=> ?_⟩;simp_all [Instr.sliceAt,Instr.slice,run_underlying,Zi]
  ·cases h
 ·rename_i n e b off hu hev;rw [hev] at hx;split at h
  ·rename_i s m x1 hh x2 l x3 hs hm hhi' hl;split at h
   ·cases h
   ·rename_i hno;simp only [Ae,Ad,Ac] at h;obtain ⟨rfl,⟨⟨⟨⟨h1,h2⟩,h3⟩,h4⟩,h5⟩,h6⟩:=h;have h4:=Ak h4;have h5:=Ak h5;have h6:=Ak h6;have q0:=Yr hm h1 hmx;have q1:=Yr hl h3 hlo;have q2:=Yr hhi' h2 hhi;generalize hw:ec x=u at hx;cases hx with
    | ptr _ _ lc hρ=>
     refine ⟨_,.sl _ _ _ _ lc _ hρ rfl (by omega),fun w=> ?_⟩;have sb:=Yd (P:=P) false n n m hh l (lo.map ec) (hi.map ec) (mx.map ec) (q0.elim (fun q=>.inl ⟨by rw [q.1];rfl,q.2⟩) (fun ⟨k,q⟩=>.inr ⟨k,q,h4⟩))
      (q2.elim (fun q=>.inl ⟨by rw [q.1];rfl,by
       simp_all,q.2⟩) (fun ⟨k,q⟩=>.inr ⟨k,q,h5⟩)) (q1.elim (fun q=>.inl ⟨by rw [q.1];rfl,q.2⟩) (fun ⟨k,q⟩=>.inr ⟨k,q,h6⟩)) w
     have bb:=x2j _ lc.blk lc.base off (l*s.size) m l rfl;simp [Instr.sliceAt,run_underlying hu,Instr.sureAddr,sb,Zi hs]
     grind
  ·cases h
 ·cases h
def Qr (ρ:Rho) (ev:Operand→AVal) (ec:Operand→Value) (op:Op):Prop:= ∀x,x∈op.operands→Zt ρ (ev x) (ec x)
theorem z2p {ev:Operand→AVal} {ec:Operand→Value}: ∀(ps:List (Nat×Operand)),(∀p∈ps,Zt ρ (ev p.2) (ec p.2))→z1h ρ (ps.map fun p=>(p.1,ev p.2)) (ps.map fun p=>(p.1,ec p.2)):=fun ps h=>
 Vz.maps _ _ ps fun p hp=>⟨rfl,h p hp⟩
theorem y6l {o:Oper} {ev:Operand→AVal} {ec:Operand→Value} {v:AVal} {b:Bool} (h:Qw P o.op ev=some (v,b)) (hb:b=true) (hr:Qr ρ ev ec o.op):
  ∃u,Zt ρ v u∧ ∀w,(execOp ec o).run P w=.ok (.value u) w:=by
 obtain ⟨dst,op,type,pos,after,guard⟩:=o;simp only at h hr ⊢;have lift: ∀{s:Sem Value},(∃z,Zt ρ v z∧ ∀w,s.run P w=.ok z w)→(∀w,(execOp ec ⟨dst,op,type,pos,after,guard⟩).run P w=(do pure (.value (←s)):Sem Next).run P w)→
   ∃u,Zt ρ v u∧ ∀w,(execOp ec ⟨dst,op,type,pos,after,guard⟩).run P w=.ok (.value u) w:=by
  simp_all
 cases op with
 | move x=>simp only [Qw,Ae,Ad] at h;obtain ⟨rfl,_⟩:=h;exact ⟨ec x,hr x (by simp [Op.operands]),fun w=>rfl⟩
 | assign x=>simp only [Qw,Ae,Ad] at h;obtain ⟨rfl,_⟩:=h;exact ⟨ec x,hr x (by simp [Op.operands]),fun w=>rfl⟩
 | pick c x y=>
  have hc:=hr c (by simp [Op.operands]);have hx:=hr x (by simp [Op.operands]);have hy:=hr y (by simp [Op.operands]);unfold Qw at h;simp only at h;split at h
  ·rename_i cb e;rw [e] at hc;generalize hw:ec c=u at hc;cases hc;simp only [Ae,Ad] at h;obtain ⟨rfl,_⟩:=h;cases cb;all_goals simp_all [execOp,asBool]
  ·cases h
 | build t parts=>
  simp only [Qw,An,Ad] at h;obtain ⟨v',hv,rfl,_⟩:=h;refine lift (x5s hv (z2p _ fun p hp=>hr p.2 ?_)) fun w=> ?_
  ·grind [Op.operands]
  ·have:(parts.map fun (i,x)=>(i,ec x))=(parts.toList.map fun p=>(p.1,ec p.2)).toArray :=by
    grind
   simp only [execOp,this]
 | nilCheck x=>
  have hx:=hr x (by simp [Op.operands]);unfold Qw at h;simp only at h;split at h;all_goals first
   | (rename_i e
      rw [e] at hx;simp only [Ae,Ad] at h;obtain ⟨rfl,_⟩:=h;refine ⟨ec x,hx,fun w=> ?_⟩;generalize hw:ec x=u at hx;cases hx <;> simp [execOp,hw])
   | cases h
 | binOp op t x y yt=>have hx:=hr x (by simp [Op.operands]);have hy:=hr y (by simp [Op.operands]);exact lift (v0b (by simpa only [Qw] using h) hb hx hy x y) fun w=>rfl
 | unOp op t x=>have hx:=hr x (by simp [Op.operands]);simp only [Qw,An,Ad] at h;obtain ⟨v',hv,rfl,_⟩:=h;exact lift (v6q hv hx) fun w=>rfl
 | convert src dst' x=>
  have hx:=hr x (by simp [Op.operands]);unfold Qw at h;simp only at h;split at h
  ·rename_i sd k k' n hs hu e;rw [e] at hx;generalize hw:ec x=u at hx;cases hx;simp only [Ae,Ad] at h;obtain ⟨rfl,_⟩:=h;refine ⟨_,.int _ _,fun w=> ?_⟩;cases sd <;> simp [execOp,Go.convert,hw,run_underlying hs,run_underlying hu,Conv.intToInt]
  ·cases h
 | makeInterface t x=>
  have hx:=hr x (by simp [Op.operands]);unfold Qw at h;simp only at h;split at h
  ·cases h
  ·cases h
  ·rename_i d hni hu;simp only [Ae,Ad] at h;obtain ⟨rfl,_⟩:=h;refine ⟨_,.ifc t _ _ hx,fun w=> ?_⟩;simp_all [execOp,Instr.makeInterface,run_underlying]
 | makeFunc fn first captured=>
  cases fn with
  | func f=>
   unfold Qw at h;simp only at h;cases hf:first.isEmpty with
   | false=>
    rw [hf,Aa] at h;cases hc:captured.isEmpty with
    | false=>grind
    | true=>
     rw [hc,Ab] at h;simp only [Ae,Ad] at h;obtain ⟨rfl,_⟩:=h;have hc:captured= #[]:=(by grind);subst hc;refine ⟨_,.fnb f _ (first.map ec) (by simp) fun i h1 h2=> ?_,fun w=>by simp [execOp,Instr.makeFunc]⟩;have:i<first.size:=by grind
     simpa using hr first[i] (by simp [Op.operands])
   | true=>
    rw [hf,Ab] at h;simp only [Ae,Ad] at h;obtain ⟨rfl,_⟩:=h;have hf:first= #[]:=by grind
    subst hf;refine ⟨_,.fn f _ (captured.map ec) (by simp) fun i h1 h2=> ?_,fun w=>by simp [execOp,Instr.makeFunc]⟩;have:i<captured.size:=by grind
    simpa using hr captured[i] (by simp [Op.operands])
  | _=>simp [Qw] at h
 | fieldAddr t x f=>have hx:=hr x (by simp [Op.operands]);simp only [Qw,An,Ad] at h;obtain ⟨v',hv,rfl,_⟩:=h;exact lift (y1p hv hx) fun w=>rfl
 | field t x f=>have hx:=hr x (by simp [Op.operands]);simp only [Qw,An,Ad] at h;obtain ⟨v',hv,rfl,_⟩:=h;exact lift (x5o hv hx) fun w=>rfl
 | indexAddr t x i=>have hx:=hr x (by simp [Op.operands]);have hi:=hr i (by simp [Op.operands]);exact lift (y1o (by simpa only [Qw] using h) hb hx hi) fun w=>rfl
 | index t x i=>have hx:=hr x (by simp [Op.operands]);have hi:=hr i (by simp [Op.operands]);exact lift (x5n (by simpa only [Qw] using h) hb hx hi) fun w=>rfl
 | extract x i=>
  have hx:=hr x (by simp [Op.operands]);unfold Qw at h;simp only at h;split at h
  ·rename_i vs e;rw [e] at hx;simp only [An,Ad] at h;obtain ⟨v',hv,rfl,_⟩:=h;obtain ⟨hlt,rfl⟩:=Bd.1 hv;generalize hw:ec x=u at hx;cases hx with
   | tup _ us hl hh=>have h2:i<us.size:=(by omega);simp_all [execOp,Instr.extract]
  ·cases h
 | slice t x lo hi mx=>
  refine lift (x5m (by simpa only [Qw] using h) hb (hr x (by simp [Op.operands])) (fun y hy=>hr y ?_) (fun y hy=>hr y ?_) (fun y hy=>hr y ?_)) fun w=>rfl;all_goals grind [Op.operands]
 | call c=>
  obtain ⟨callee,args,argTypes⟩:=c;cases callee with
  | builtin bi=>
   simp only [Qw,An,Ad] at h;obtain ⟨v',hv,rfl,_⟩:=h;obtain ⟨z,hz,hs⟩:=y7h (ts:=argTypes) (us:=args.map ec) (type:=type) hv (by
    rw [Bp];exact Vz.maps _ _ _ fun a ha=>hr a (by grind [Op.operands,Call.operands]))
   simp_all [execOp,resolve,invoke]
  | value f=>simp [Qw] at h
  | invoke r m=>simp [Qw] at h
 | _=>simp [Qw] at h
end
section
variable {P:Program} {ρ:Rho}
def z6z (ρ:Rho) (w:World) (blk o:Nat) (cs:List AVal):Prop:=
 ∀(i:Nat) (h:i<cs.length),∃v,w.cell? ⟨blk,o+i,none⟩=some v∧Zt ρ cs[i] v
theorem Rel.cellsAt {mem:Mem} {next:Nat} {w:World} (h:Rel ρ mem next w) {b:Nat} {l:Loc} {ab:ABlk} (hb:ρ b=some l) (hm:Yf mem b=some ab):z6z ρ w l.blk l.base ab.cells:=by
 obtain ⟨_,_,_,cs,el,h1,h2,h3⟩:=h.blk b l ab hb hm;intro i hi
 grind [World.cell?]
theorem Rel.dataAt {mem:Mem} {next:Nat} {w:World} (h:Rel ρ mem next w) {cs:List AVal} {blk base:Nat} {val:Nat→Value} (hv: ∀(j:Nat) (hj:j<cs.length),Zt ρ.bare cs[j] (val j))
  (hh: ∀j,j<cs.length→x5y ρ.fz blk (base+j) (val j)):z6z ρ w blk base cs:=by
 intro i hi;obtain ⟨arr,el,fz,e,f⟩:=hh i hi;have:=h.old _ _ e;exact ⟨val i,by simp [World.cell?,this,f],(hv i hi).mono (y6j ρ)⟩
theorem z6z.load {w:World} {blk o:Nat} {cs:List AVal} (h:z6z ρ w blk o cs) {off n:Nat} (hn:off+n≤cs.length∨n=0):
  ∃vs:Array Value,vs.size=n∧(∀(i:Nat) (h1:off+i<cs.length) (h2:i<vs.size),Zt ρ cs[off+i] vs[i])∧(loadCells ⟨blk,o+off,none⟩ n).run P w=.ok vs w:=by
 have hc: ∀j,j<n→w.cell? ((⟨blk,o+off,none⟩:Addr).add j)=some ((w.cell? ⟨blk,o+(off+j),none⟩).getD undef):=by intro j hj;obtain ⟨v,e,_⟩:=h (off+j) (by omega);rw [Xb,AG,e];rfl
 refine ⟨_,?_,?_,run_loadCells w _ n (fun j=>(w.cell? ⟨blk,o+(off+j),none⟩).getD undef) hc⟩
 ·simp
 ·intro i h1 h2;obtain ⟨v,e,f⟩:=h (off+i) h1
  grind
theorem z6z.part {w:World} {blk o:Nat} {cs:List AVal} (h:z6z ρ w blk o cs) {t:TypeId} {off:Nat} {v:AVal} (hp:z1t P t cs off=some v):
  ∃z,Zt ρ v z∧(loadVar t ⟨blk,o+off,none⟩).run P w=.ok z w:=by
 unfold z1t at hp;split at hp
 ·rename_i i ha hi;simp only [An] at hp;obtain ⟨p,hc,rfl⟩:=hp;obtain ⟨_,hl,hle⟩:=z5i hc;obtain ⟨vs,hs,hv,hr⟩:=h.load (P:=P) (off:=off) (n:=i.size) (by omega);refine ⟨.agg vs,.agg _ _ (by omega) fun j h1 h2=> ?_,?_⟩
  ·grind
  simp_all [loadVar,z5f,Zi]
 ·rename_i i ha hi;obtain ⟨hlt,rfl⟩:=Bd.1 hp;obtain ⟨v,e,f⟩:=h off hlt;simp_all [loadVar,z5f]
 ·cases hp
theorem y6n {mem:Mem} {next:Nat} {w:World} (h:Rel ρ mem next w) {t:TypeId} {x v:AVal} {u:Value} (hl:w1w P mem t x=some v) (hx:Zt ρ x u):
  ∃z,Zt ρ v z∧(Instr.loadAt t u).run P w=.ok z w:=by
 unfold w1w at hl;split at hl
 ·split at hl
  ·rename_i b off _ blk hm;cases hx with
   | ptr _ _ l hρ=>
    obtain ⟨z,hz,hr⟩:=(h.cellsAt hρ hm).part hl
    grind [Instr.loadAt,Instr.sureAddr]
  ·cases hl
 ·cases hx with
  | dptr _ blk base val hv hh=>
   obtain ⟨z,hz,hr⟩:=(h.dataAt hv hh).part hl
   grind [Instr.loadAt,Instr.sureAddr]
 ·cases hl
theorem z7l (n:Nat) (get:Nat→List AVal):Yk (n+1) get=Yk n get++get n:=by unfold Yk;rw [BE,List.flatMap_append];simp
theorem Ym {get:Nat→List AVal} {sz:Nat}: ∀(n:Nat),(∀i,i<n→(get i).length =sz)→(Yk n get).length =n*sz
 | 0,_=>by simp [Yk]
 | n+1,h=>by rw [z7l,AO,Ym n fun i hi=>h i (by omega),h n (by omega),AQ,BO]
theorem Wi {get:Nat→List AVal} {sz:Nat}: ∀(n:Nat),(∀i,i<n→(get i).length =sz)→ ∀(r j:Nat),r<n→j<sz→(Yk n get)[r*sz+j]? =(get r)[j]?
 | 0,_,r,j,hr,_=>by omega
 | n+1,h,r,j,hr,hj=>by
  have hl:=Ym n fun i hi=>h i (by omega);rw [z7l];by_cases e:r=n
  ·subst e;rw [List.getElem?_append_right (by omega),hl]
   congr 1;omega
  ·have hlt:r<n:=by omega
   have:(r+1)*sz≤n*sz:=AC sz hlt;rw [AQ,BO] at this;rw [List.getElem?_append_left (by omega)];exact Wi n (fun i hi=>h i (by omega)) r j hlt hj
theorem Rel.rowAt {mem:Mem} {next:Nat} {w:World} (h:Rel ρ mem next w) {b:Nat} {l:Loc} {ab:ABlk} {A:Arr} (hb:ρ b=some l) (hm:Yf mem b=some ab) (hA:ab.arr=some A) {r:Nat} (hr:r<A.n):z6z ρ w l.blk (l.base+r*A.sz) (A.get r):=by
 obtain ⟨_,_,har,_⟩:=h.blk b l ab hb hm;obtain ⟨e1,_,e3⟩:=har A hA;intro i hi;have hsz:=e3 r hr;have hg:=Wi A.n e3 r i hr (by omega);rw [Au hi,←e1] at hg;obtain ⟨hlt,hge⟩:=Bd.1 hg;obtain ⟨v,e,f⟩:=h.cellsAt hb hm (r*A.sz+i) hlt
 grind
theorem y1e {mem:Mem} {next:Nat} {w:World} (h:Rel ρ mem next w) {t:TypeId} {x v:AVal} {u:Value} (hl:y6o P mem t x=some (v,true)) (hx:Zt ρ x u):
  ∃z,Zt ρ v z∧(Instr.loadAt t u).run P w=.ok z w:=by
 unfold y6o at hl;split at hl
 ·split at hl
  ·rename_i b sz r fo _ blk hm;split at hl
   ·rename_i A hA;simp only [An,Ad,Ac,At] at hl;obtain ⟨v',hp,rfl,hs,hr⟩:=hl;obtain rfl:=Aj hs;cases hx with
    | epa _ _ _ _ l hρ=>
     obtain ⟨z,hz,dH⟩:=(h.rowAt hρ hm hA hr).part hp
     grind [Instr.loadAt,Instr.sureAddr]
   ·cases hl
  ·cases hl
 ·simp only [An,Ad,Bl] at hl
  grind [y6n]
theorem y3y {st st':St} {b e:Bool} (h:st.test b=(e,st')):st'.env=st.env∧st'.mem=st.mem∧st'.next=st.next∧(st'.ob=true→e=b∧st.ob=true):=by
 obtain ⟨env,mem,next,orc,ob⟩:=st;cases orc with
 | nil=>
  grind [St.test]
 | cons c r=>
  grind [St.test]
theorem z1b : ∀(rw:Rws) (r:Nat) (st:St) (cs:List AVal) (st1:St),z4g rw r st=(cs,st1)→st1.env=st.env∧st1.mem=st.mem∧st1.next=st.next∧(st1.ob=true→cs=rw.get r∧st.ob=true)
 | .flat g,r,st,cs,st1,h=>by simp only [z4g,Ad] at h;obtain ⟨rfl,rfl⟩:=h;exact ⟨rfl,rfl,rfl,fun h=>⟨rfl,h⟩⟩
 | .one r0 c0 b,r,st,cs,st1,h=>by
  unfold z4g at h;split at h;rename_i e st2 ht;obtain ⟨t1,t2,t3,t4⟩:=y3y ht;cases e with
  | true=>simp only [Ab,Ad] at h;obtain ⟨rfl,rfl⟩:=h;exact ⟨t1,t2,t3,fun ho=>⟨by simp only [Rws.get];rw [←(t4 ho).1];rfl,(t4 ho).2⟩⟩
  | false=>rw [Aa] at h;obtain ⟨p1,p2,p3,p4⟩:=z1b b r st2 cs st1 h;refine ⟨p1.trans t1,p2.trans t2,p3.trans t3,fun ho=> ?_⟩;obtain ⟨q1,q2⟩:=p4 ho;exact ⟨by simp only [Rws.get];rw [←(t4 q2).1];exact q1,(t4 q2).2⟩
 | .alt c a b,r,st,cs,st1,h=>by
  unfold z4g at h;split at h;rename_i e st2 ht;obtain ⟨t1,t2,t3,t4⟩:=y3y ht;cases e with
  | true=>rw [Ab] at h;obtain ⟨p1,p2,p3,p4⟩:=z1b a r st2 cs st1 h;refine ⟨p1.trans t1,p2.trans t2,p3.trans t3,fun ho=> ?_⟩;obtain ⟨q1,q2⟩:=p4 ho;exact ⟨by simp only [Rws.get];rw [←(t4 q2).1];exact q1,(t4 q2).2⟩
  | false=>rw [Aa] at h;obtain ⟨p1,p2,p3,p4⟩:=z1b b r st2 cs st1 h;refine ⟨p1.trans t1,p2.trans t2,p3.trans t3,fun ho=> ?_⟩;obtain ⟨q1,q2⟩:=p4 ho;exact ⟨by simp only [Rws.get];rw [←(t4 q2).1];exact q1,(t4 q2).2⟩
theorem z3d {st st1:St} {t:TypeId} {x v:AVal} {o:Bool} (h:v6s P st t x=some (v,o,st1)):st1.env=st.env∧st1.mem=st.mem∧st1.next=st.next∧(st1.ob=true→y6o P st.mem t x=some (v,o)∧st.ob=true):=by
 unfold v6s at h;split at h
 ·split at h
  ·rename_i b sz r fo _ blk hm;split at h
   ·rename_i A hA;split at h;rename_i cs st2 hp;simp only [An,Ad] at h;obtain ⟨v',hv,rfl,rfl,rfl⟩:=h;obtain ⟨p1,p2,p3,p4⟩:=z1b _ _ _ _ _ hp;refine ⟨p1,p2,p3,fun ho=> ?_⟩;obtain ⟨q1,q2⟩:=p4 ho;refine ⟨?_,q2⟩;subst q1;have hv:z1t P t (A.get r) fo=some v':=hv
    grind [y6o]
   ·cases h
  ·cases h
 ·rename_i hx;simp only [An,Ad] at h
  grind [y6o]
theorem x2i {α:Type} {c:Bool} {x z:Option α} {y:α} (h:(bif c then x else z)=some y):(c=true∧x=some y)∨(c=false∧z=some y):=by grind
theorem z6f {A:Arr} {r fo:Nat} {cs:List AVal} {st st1:St} {rw1:Rws} (h:setRow A r fo cs st=some (rw1,st1)):st1.env=st.env∧st1.mem=st.mem∧st1.next=st.next∧(st1.ob=true→((A.get r).length =A.sz→rw1.get=Yt A.get r fo cs)∧st.ob=true):=by
 obtain ⟨sz,n,rw0⟩:=A;unfold setRow at h;have full: ∀(g:Nat→List AVal),cs.length=sz→(g r).length =sz→(fun k=>bif Nat.beq k r then cs else g k)=Yt g r 0 cs:=fun g h1 h2=>by
  grind [Yt]
 split at h
 ·rename_i g hg;simp only at hg;subst hg;rcases x2i h with ⟨_,h⟩ | ⟨_,h⟩
  ·simp only [Ae,Ad] at h;obtain ⟨rfl,rfl⟩:=h;exact ⟨rfl,rfl,rfl,fun ho=>⟨fun _=>rfl,ho⟩⟩
  ·rcases x2i h with ⟨hc,h2⟩ | ⟨_,h2⟩
   ·simp only [Ac] at hc;obtain rfl:=Aj hc.1;have hc2:=Aj hc.2;clear h;simp only [Ae,Ad] at h2;obtain ⟨rfl,rfl⟩:=h2;exact ⟨rfl,rfl,rfl,fun ho=>⟨fun hl=>full g hc2 hl,ho⟩⟩
   ·cases h2
 ·rename_i r0 c0 b hb;simp only at hb;subst hb;split at h;rename_i e st2 ht;obtain ⟨t1,t2,t3,t4⟩:=y3y ht;rcases x2i h with ⟨hc,h2⟩ | ⟨_,h2⟩
  ·simp only [Ac] at hc;obtain rfl:=Aj hc.1.2;have hc2:=Aj hc.2;clear h;simp only [Ae,Ad] at h2;obtain ⟨rfl,rfl⟩:=h2;refine ⟨t1,t2,t3,fun ho=>⟨fun hl=> ?_,(t4 ho).2⟩⟩;have he:=(t4 ho).1;rw [hc.1.1] at he;obtain rfl:=Aj he.symm;have:=full (Rws.get (.one r c0 b)) hc2 hl;show _=Yt (Rws.get (.one r c0 b)) r 0 cs
   grind [Rws.get]
  ·cases h2
 ·rename_i c a b hb;simp only at hb;subst hb;rcases x2i h with ⟨hc,h2⟩ | ⟨_,h2⟩
  ·simp only [Ac] at hc;obtain rfl:=Aj hc.1;have hc2:=Aj hc.2;clear h;simp only [Ae,Ad] at h2;obtain ⟨rfl,rfl⟩:=h2;exact ⟨rfl,rfl,rfl,fun ho=>⟨fun hl=>full _ hc2 hl,ho⟩⟩
  ·cases h2
structure x2w (ρ:Rho) (floor:Nat) (st st':St) (v:AVal) (w:World) (ρ':Rho) (u:Value) (w':World):Prop where
 val:Zt ρ' v u
 rel:Rel ρ' st'.mem st'.next w'
 ev:Ev ρ ρ' floor st.mem st.next st'.mem st'.next w w'
def Does (P:Program) (o:Oper) (a:Act) (w:World) (K:Rho→Value→World→Prop):Prop:=
 (∃ρ' u w',(execOp a.eval o).run P w=.ok (.value u) w'∧K ρ' u w')∨
 (∃ρ' w',(execOp a.eval o).run P w=.ok .skip w'∧K ρ' undef w')∨
 (∃f args,(execOp a.eval o).run P w=.ok (.enter f args) w∧Calls P f args w fun e w'=> ∃ρ' u,e=.returned u∧K ρ' u w')
theorem Rel.hold {mem:Mem} {next:Nat} {w:World} (h:Rel ρ mem next w): ∀k,w.heap.size≤k→ρ.fz k=none:=by
 intro k hk;cases e:ρ.fz k with
 | none=>rfl
 | some o=>have:=(AL.1 (h.old k o e)).1;omega
theorem z5c {st:St} {w:World} (h:Rel ρ st.mem st.next w) (floor:Nat) (cs:List AVal) (ty:TypeId) (vs:Array Value) (el:TypeId) (hn:cs.length≤vs.size)
  (hv: ∀(i:Nat) (h1:i<cs.length) (h2:i<vs.size),Zt ρ cs[i] vs[i]) (v:AVal) (u:Value) (dY: ∀ρ',ρ' st.next=some ⟨w.heap.size,0,cs.length,vs.size⟩→Zt ρ' v u):
  x2w ρ floor st (y1d st cs ty) v w (Uv ρ st.next ⟨w.heap.size,0,cs.length,vs.size⟩) u {w with heap:=w.heap.push (.cells vs el)}:=
 ⟨dY _ (by simp [Uv]),h.new cs ty vs el h.hold hn hv,Ev.ofNew h floor _ _ _ (Aq _)⟩
theorem x5k {st st':St} {w:World} (h:Rel ρ st.mem st.next w) {floor:Nat} {t:TypeId} {x v:AVal} {u z:Value} (hs:y6k P floor st t x v=some st') (hx:Zt ρ x u) (hv:Zt ρ v z):
  ∃w',(Instr.storeAt t u z).run P w=.ok () w'∧x2w ρ floor st st' (.tup []) w ρ undef w'∧st'.env=st.env∧st'.ob=st.ob:=by
 unfold y6k at hs;split at hs
 ·rename_i b off i hi;simp only at hs;cases hc:(Nat.ble floor b&&Nat.beq v.cells.length i.size&&z3b v&&v.cells.all z9u) with
  | false=>grind
  | true=>
   rw [hc,Ab] at hs;simp only [Ac] at hc;obtain ⟨⟨⟨hf,hn⟩,hbx⟩,hsc⟩:=hc;have hf:=Ak hf;have hn:=Aj hn;split at hs
   ·rename_i blk hm;cases dT:Nat.ble (off+i.size) blk.cells.length with
    | false=>grind
    | true=>
     rw [dT,Ab] at hs;have dT:=Ak dT;obtain rfl:=Ag hs;cases hx with
     | ptr _ _ l hρ=>
      have dK:=hv.cells hbx;have eB:=Zt.cells_oneCell dK hsc;have dG:z.cells.toList.length=v.cells.length:=(by simpa using dK.1.symm);obtain ⟨cur,el,hw,hsz,dF⟩:=h.write hρ hm (off:=off) (cs:=v.cells) (vs:=z.cells.toList) dG (by omega) (fun j h1 h2=>by simpa using dK.2 j h1 (by grind));have dH:=run_storeCells_at P l.blk (l.base+off) el z.cells.toList 0 cur w hw (by omega) eB;refine ⟨w.setRow l.blk (cur.toList.take (l.base+off)++z.cells.toList++cur.toList.drop (l.base+off+z.cells.toList.length)).toArray,?_,⟨.tup [] #[] rfl (fun j h1 _=>by simp at h1),?_,Ev.ofWrite h hρ hf _ _⟩,rfl,rfl⟩;all_goals simp_all [Instr.storeAt,Instr.sureAddr,storeVar,Zi,St.withMem]
   ·cases hs
 ·cases hs
theorem z2h {get:Nat→List AVal} {sz n r fo:Nat} {cs:List AVal} (hl: ∀i,i<n→(get i).length =sz) (hf:fo+cs.length≤sz): ∀i,i<n→(Yt get r fo cs i).length =sz:=by
 intro i hi;unfold Yt;cases e:Nat.beq i r with
 | false=>exact hl i hi
 | true=>
  obtain rfl:=Aj e
  grind
theorem v8v {get:Nat→List AVal} {sz n r fo:Nat} {cs:List AVal} (hl: ∀i,i<n→(get i).length =sz) (hr:r<n) (hf:fo+cs.length≤sz):
  (Yk n get).take (r*sz+fo)++cs++(Yk n get).drop (r*sz+fo+cs.length)=Yk n (Yt get r fo cs):=by
 have dG:=Ym n hl;have eX:=Ym n (z2h (r:=r) hl hf);have hb:(r+1)*sz≤n*sz:=AC sz hr;rw [AQ,BO] at hb;have dT:r*sz+fo+cs.length≤(Yk n get).length :=by omega
 apply List.ext_getElem?;intro i;rw [Kn _ _ _ _ dT];by_cases hi:i<n*sz
 ·have hsz:0<sz:=by
   grind
  have hj:i %sz<sz:=Bk _ hsz;have hq:i / sz<n:=A9 (by grind);have e:i=i / sz*sz+i %sz:=by rw [Bv];exact (Bn i sz).symm
  generalize i / sz=q at*;generalize i %sz=j at*;subst e;rw [Wi n (z2h (r:=r) hl hf) q j hq hj,Wi n hl q j hq hj];unfold Yt;cases eq:Nat.beq q r with
  | true=>
   obtain rfl:=Aj eq
   grind
  | false=>
   have hne:=Nat.ne_of_beq_eq_false eq;simp only [Aa];rcases Nat.lt_or_gt_of_ne hne with h | h
   ·have:(q+1)*sz≤r*sz:=AC sz h
    grind
   ·have:(r+1)*sz≤q*sz:=AC sz h
    grind
 grind
theorem Rel.setArr {mem:Mem} {next:Nat} {w:World} {b:Nat} {cs:List AVal} {ty:TypeId} (h:Rel ρ (Wz mem b (some ⟨cs,ty,none⟩)) next w) (A:Arr) (h1:cs=Yk A.n A.get) (h2:1≤A.sz) (h3: ∀i,i<A.n→(A.get i).length =A.sz):
  Rel ρ (Wz mem b (some ⟨cs,ty,some A⟩)) next w:=by
 have some_iff: ∀c,(Yf (Wz mem b (some ⟨cs,ty,some A⟩)) c).isSome =(Yf (Wz mem b (some ⟨cs,ty,none⟩)) c).isSome :=fun c=>by
  grind [Vm]
 refine ⟨h.dom,fun c c' m m' e e' he hs hs'=>h.inj c c' m m' e e' he (by grind) (by grind),fun c m ab e hc=> ?_,h.old,fun c m e hs=>h.sep c m e (by grind),h.real,fun c hc=> ?_,h.ldom⟩
 ·by_cases ecb:c=b
  ·subst ecb;rw [Yw] at hc;obtain rfl:=Ag hc;obtain ⟨n,t,_,k⟩:=h.blk c m ⟨cs,ty,none⟩ e (Yw _ _ _);exact ⟨n,t,fun B hB=>by grind,k⟩
  ·rw [Zu _ _ ecb] at hc;exact h.blk c m ab e (by rw [Zu _ _ ecb];exact hc)
 ·have:=h.bd c hc
  grind [Vm]
theorem z7z {cx:Ctx} {st st':St} {b:Bool} (h:st.owe cx b=some st'):st'.env=st.env∧st'.mem=st.mem∧st'.next=st.next∧(st'.ob=true→b=true∧st.ob=true):=by
 obtain ⟨env,mem,next,orc,ob⟩:=st
 grind [St.owe]
theorem x2k {cx:Ctx} {st st':St} {w:World} (h:Rel ρ st.mem st.next w) {t:TypeId} {x v:AVal} {u z:Value} (hs:z6y P cx st t x v=some st') (hob:st'.ob=true) (hx:Zt ρ x u) (hv:Zt ρ v z):
  ∃w',(Instr.storeAt t u z).run P w=.ok () w'∧x2w ρ cx.floor st st' (.tup []) w ρ undef w':=by
 unfold z6y at hs;split at hs
 ·rename_i b sz r fo i hi;cases hc:(Nat.ble cx.floor b&&Nat.beq v.cells.length i.size&&z3b v&&v.cells.all z9u&&Nat.ble (fo+i.size) sz) with
  | false=>grind
  | true=>
   rw [hc,Ab] at hs;simp only [Ac] at hc;obtain ⟨⟨⟨⟨hf,hn⟩,hbx⟩,hsc⟩,hfo⟩:=hc;have hf:=Ak hf;have hn:=Aj hn;have hfo:=Ak hfo;split at hs
   ·rename_i blk hm;split at hs
    ·rename_i A hA;split at hs
     ·rename_i rw1 st1 eU;obtain ⟨_,o2,o3,o4⟩:=z7z hs;obtain ⟨ho,hob1⟩:=o4 hob;obtain ⟨s1,s2,s3,s4⟩:=z6f eU;have o2:st'.mem=Wz st1.mem b (some ⟨Yk A.n rw1.get,blk.ty,some ⟨A.sz,A.n,rw1⟩⟩):=o2;have o3:st'.next=st1.next:=o3
      rw [s2] at o2;rw [s3] at o3;simp only [Ac,At] at ho;obtain ⟨hsz,hr⟩:=ho;obtain rfl:=Aj hsz;cases hx with
      | epa _ _ _ _ l hρ=>
       obtain ⟨eL,eY,dP⟩:=(h.blk b l blk hρ hm).arr A hA;have dK:=hv.cells hbx;have eB:=Zt.cells_oneCell dK hsc;have dG:z.cells.toList.length=v.cells.length:=(by simpa using dK.1.symm);have hrl:=Ym A.n dP;have hb:(r+1)*A.sz≤A.n*A.sz:=AC A.sz hr;rw [AQ,BO] at hb;obtain ⟨cur,el,hw,hsz,dF⟩:=h.write hρ hm (off:=r*A.sz+fo) (cs:=v.cells) (vs:=z.cells.toList) dG (by grind) (fun j h1 h2=>by simpa using dK.2 j h1 (by grind));have dH:=run_storeCells_at P l.blk (l.base+(r*A.sz+fo)) el z.cells.toList 0 cur w hw (by omega) eB;rw [eL,v8v dP hr (by omega)] at dF;have hrw:=(s4 hob1).1 (dP r hr);rw [←hrw] at dF;have dF:=dF.setArr ⟨A.sz,A.n,rw1⟩ rfl eY (by show∀i,i<A.n→(rw1.get i).length =A.sz;rw [hrw];exact z2h (sz:=A.sz) dP (by omega));refine ⟨w.setRow l.blk (cur.toList.take (l.base+(r*A.sz+fo))++z.cells.toList++cur.toList.drop (l.base+(r*A.sz+fo)+z.cells.toList.length)).toArray,?_,⟨.tup [] #[] rfl (fun j h1 _=>by simp at h1),?_,?_⟩⟩
       ·have hzs:z.cells.size=i.size:=(by grind);simp only [Bh] at dH;simp [Instr.storeAt,Instr.sureAddr,storeVar,Zi hi,hzs,-List.append_assoc,-Array.length_toList,dH]
       all_goals grind [Ev.ofWrite]
     ·cases hs
    ·cases hs
   ·cases hs
 ·cases hs
theorem y8t (f:Nat→Value):(Array.range 0).map f= #[]:=by grind
theorem z1r (n:Nat) (l:List AVal):(rep n l).length =n*l.length:=by simp_all [rep]
theorem v3a (l:List AVal): ∀(n i:Nat) (h:i<(rep n l).length) (hl:i %l.length<l.length),(rep n l)[i]=l[i %l.length]
 | 0,i,h,_=>by simp [rep] at h
 | n+1,i,h,hl=>by
  have e:rep (n+1) l=l++rep n l:=by simp [rep,List.replicate_succ]
  have hpos:0<l.length:=by omega
  by_cases hi:i<l.length
  ·simp only [e,Bw hi,Nat.mod_eq_of_lt hi]
  ·have h2:i - l.length<(rep n l).length :=by rw [e] at h;simp at h;omega
   simp only [e];rw [Bq (by omega)];have hm:(i - l.length) %l.length=i %l.length:=(Nat.mod_eq_sub_mod (by omega)).symm;rw [v3a l n (i - l.length) h2 (by omega)];simp only [hm]
theorem z9n {zero:List AVal} {zs:Array Value} (h:Ue ρ zero zs) (n m:Nat) (hm:m=n*zero.length):Ue ρ (rep n zero) ((Array.range m).map (zs[· %zs.size]!)):=by
 refine ⟨by rw [z1r];simp [hm],fun i h1 h2=> ?_⟩;have hi:i<n*zero.length:=by grind
 have hpos:0<zero.length:=by
  grind
 have hlt:i %zero.length<zero.length:=Bk _ hpos;rw [v3a zero n i h1 hlt];have hlt2:i %zero.length<zs.size:=by rw [←h.1];exact hlt
 have:=h.2 (i %zero.length) hlt hlt2;simp only [Array.getElem_map,Array.getElem_range];rw [←h.1]
 grind
theorem y0j {st st':St} {w:World} (h:Rel ρ st.mem st.next w) (floor:Nat) {t:TypeId} {len:Nat} {ps:List (Nat×AVal)} {qs:List (Nat×Value)} {v:AVal} {un:Bool} (hb:Ji P un st t len ps=some (v,st')) (hp:z1h ρ ps qs):
  ∃ρ' u w',(Instr.buildSlice t len qs.toArray).run P w=.ok u w'∧x2w ρ floor st st' v w ρ' u w'∧st'.env=st.env∧st'.ob=st.ob:=by
 unfold Ji at hb;split at hb
 ·rename_i e hu;split at hb
  ·rename_i i zero hi hz;cases hc:(Nat.ble (len*i.size) 16777216&&Nat.beq zero.length i.size) with
   | false=>grind
   | true=>
    rw [hc,Ab] at hb;simp only [Ac] at hc;have hle:=Ak hc.1;have hzl:=Aj hc.2;split at hb
    ·rename_i cells dK;simp only [Ae,Ad] at hb;obtain ⟨rfl,rfl⟩:=hb;obtain ⟨_,z,_,_,hzr,hzv⟩:=Ww (ρ:=ρ) hz;have eM:=z9n hzr len (len*i.size) (by rw [hzl]);obtain ⟨arr,h1,h2⟩:=Qv dK eM hp;have dG:len≤len:=Aq _;have dM:z0x ⟨w.heap.size,0,cells.length,arr.size⟩ 0 (bif un&&Nat.beq cells.length (len*i.size) then .un i.size else .ex len) len:=by
      cases hq:(un&&Nat.beq cells.length (len*i.size)) with
      | false=>rfl
      | true=>simp only [Ac] at hq;have hq2:=Aj hq.2;have:=h2.1;exact ⟨by grind,by grind⟩
     refine ⟨_,.slice (some ⟨w.heap.size,0,none⟩) len len,_,?_,z5c h floor cells e arr e (by rw [h2.1];grind) h2.2 _ _ (fun ρ' hρ'=>.sl _ 0 _ _ _ _ hρ' dM dG),rfl,rfl⟩;have hgt: ¬len*i.size>2 ^ 24:=(by omega);by_cases h0:len*i.size=0
     ·have h1':Instr.fill (fun j=>some (j*i.size,i.size)) #[] qs=some arr:=by
       grind
      simp [Instr.buildSlice,run_underlying hu,Zi hi,h0,h1',newRow,y8t]
     ·have hgt': ¬2 ^ 24<len*i.size:=hgt;simp [Instr.buildSlice,run_underlying hu,Zi hi,h0,hzv,h1,newRow,hgt']
    ·cases hb
  ·cases hb
 ·cases hb
theorem y0o {n:Int} (h0:0≤n) (h1:n≤1099511627776):IntKind.i64.wrap n=n:=by
 have hm:n %(2 ^ IntKind.i64.bits:Int)=n:=by
  apply Int.emod_eq_of_lt h0;have:(2 ^ IntKind.i64.bits:Int)=18446744073709551616:=by decide
  omega
 unfold wrap;simp only [hm];have: ¬(n≥(2 ^ (IntKind.i64.bits - 1):Int)):=by
  have:(2 ^ (IntKind.i64.bits - 1):Int)=9223372036854775808:=by decide
  omega
 simp [this]
theorem Qh {st st':St} {w:World} (h:Rel ρ st.mem st.next w) (floor:Nat) {t:TypeId} {x y v:AVal} {ux uy:Value} (hb:Um P st t x y=some (v,st')) (hx:Zt ρ x ux) (hy:Zt ρ y uy):
  ∃ρ' u w',(Instr.makeSlice t ux uy).run P w=.ok u w'∧x2w ρ floor st st' v w ρ' u w'∧st'.env=st.env∧st'.ob=st.ob:=by
 unfold Um at hb;split at hb
 ·rename_i e _ l _ c hu;cases hx;cases hy;split at hb
  ·rename_i i zero hi hz;cases hc:(Nat.beq zero.length i.size&&(decide (0≤l)&&decide (l≤c)&&decide (c*i.bytes≤1099511627776)&&decide (c≤1099511627776))) with
   | false=>grind
   | true=>
    rw [hc,Ab] at hb;simp only [Ac,At] at hc;obtain ⟨hzl,⟨⟨h0,hlc⟩,hcb⟩,hc40⟩:=hc;have hzl:=Aj hzl;simp only [Ae,Ad] at hb;obtain ⟨rfl,rfl⟩:=hb;obtain ⟨_,z,_,_,hzr,hzv⟩:=Ww (ρ:=ρ) hz;have eM:=z9n hzr c.toNat (c.toNat*i.size) (by rw [hzl]);have wl:=y0o (n:=l) h0 (by omega);have wc:=y0o (n:=c) (by omega) hc40;have e1: ¬c<0:=(by omega);have e2: ¬(281474976710656<(i.bytes:Int)*c):=(by grind);have e3: ¬l<0:=(by omega);have e4: ¬c<l:=(by omega);by_cases hz0:c.toNat*i.size=0
    ·rw [hz0] at eM;refine ⟨_,.slice (some ⟨w.heap.size,0,none⟩) l.toNat c.toNat,_,?_,z5c h floor (rep c.toNat zero) e #[] e (by rw [z1r,hzl];simp [hz0]) (fun j h1 h2=>by simp at h2) _ _ (fun ρ' hρ'=>.sl _ 0 _ _ _ _ hρ' rfl (by omega)),rfl,rfl⟩;simp [Instr.makeSlice,run_underlying hu,asInt,asIntOf,run_typeInfo w hi,wl,wc,e1,e2,e3,e4,Zi hi,hz0,newRow,y8t]
    ·refine ⟨_,.slice (some ⟨w.heap.size,0,none⟩) l.toNat c.toNat,_,?_,z5c h floor (rep c.toNat zero) e _ e (by rw [eM.1];grind) eM.2 _ _ (fun ρ' hρ'=>.sl _ 0 _ _ _ _ hρ' rfl (by omega)),rfl,rfl⟩;simp [Instr.makeSlice,run_underlying hu,asInt,asIntOf,run_typeInfo w hi,wl,wc,e1,e2,e3,e4,Zi hi,hz0,newRow,hzv]
  ·cases hb
 ·cases hb
end
section
variable {P:Program} {ρ:Rho}
theorem Rel.kill {mem:Mem} {next:Nat} {w:World} (h:Rel ρ mem next w) (b:Nat):Rel ρ (Wz mem b none) next w:=
 ⟨h.dom,fun c c' m m' e e' he hs hs'=>by
  have hc:c≠b:=fun e=>by rw [e,Yw] at hs;cases hs
  have hc':c'≠b:=fun e=>by grind [Yw]
  rw [Zu _ _ hc] at hs;rw [Zu _ _ hc'] at hs';exact h.inj c c' m m' e e' he hs hs',
  fun c m ab e hc=>by
   have hcb:c≠b:=fun e=>by rw [e,Yw] at hc;cases hc
   rw [Zu _ _ hcb] at hc;exact h.blk c m ab e hc,h.old,fun c m e hs=>by
   have hcb:c≠b:=fun e=>by rw [e,Yw] at hs;cases hs
   rw [Zu _ _ hcb] at hs;exact h.sep c m e hs,h.real,fun c hc=>by
   by_cases hcb:c=b
   ·rw [hcb,Yw]
   ·rw [Zu _ _ hcb];exact h.bd c hc,h.ldom⟩
theorem Ev.ofKill {mem:Mem} {next:Nat} {w:World} (h:Rel ρ mem next w) (floor:Nat) {b:Nat} {l:Loc} (hb:ρ b=some l):Ev ρ ρ floor mem next (Wz mem b none) next w w where
 ext:=Rho.le_refl _
 new _ _:=rfl
 nxt:=Aq _
 unborn k _ e cs ty hm:=by grind [Zu]
 frame _ _ hk _:=hk
 fresh k m hk e:=by have:=h.dom k m e;omega
 size:=Aq _
 os:=rfl
 tape:=rfl
 output:=rfl
 still _ _:=rfl
theorem Rel.beyond {mem:Mem} {next:Nat} {w:World} (h:Rel ρ mem next w) {b:Nat} {l:Loc} {ab:ABlk} (hb:ρ b=some l) (hm:Yf mem b=some ab) {off:Nat} {new:List AVal} {vs:List Value} (ty:TypeId)
  (dG:vs.length=new.length) (hoff:off≤ab.cells.length) (dT:ab.cells.length+new.length≤l.tot) (hv: ∀(i:Nat) (h1:i<new.length) (h2:i<vs.length),Zt ρ new[i] vs[i]):
  ∃ cur el,w.heap[l.blk]? =some (.cells cur el (0,0))∧l.base+ab.cells.length+vs.length≤cur.size∧
   Rel (Uv ρ next ⟨l.blk,l.base+off,ab.cells.length - off+new.length,l.tot - off⟩) (Wz (Wz mem b none) next (some ⟨ab.cells.drop off++new,ty,none⟩)) (next+1)
    (w.setRow l.blk (cur.toList.take (l.base+ab.cells.length)++vs++cur.toList.drop (l.base+ab.cells.length+vs.length)).toArray):=by
 obtain ⟨hn,ht,_,cur,el,h1,h2,h3⟩:=h.blk b l ab hb hm;have hbn:b<next:=h.dom b l hb
 have hle:=z0n (l:=⟨l.blk,l.base+off,ab.cells.length - off+new.length,l.tot - off⟩) h.none_next;have hfc:l.base+ab.cells.length+vs.length≤cur.toList.length:=by simp;omega
 have dN: ∀c m,Uv ρ next ⟨l.blk,l.base+off,ab.cells.length - off+new.length,l.tot - off⟩ c=some m→(c=next∧m=⟨l.blk,l.base+off,ab.cells.length - off+new.length,l.tot - off⟩)∨(c≠next∧ρ c=some m):=fun c m e=>by
  grind [Up]
 have live: ∀c,c≠next→(Yf (Wz (Wz mem b none) next (some ⟨ab.cells.drop off++new,ty,none⟩)) c).isSome =true→c≠b∧(Yf mem c).isSome =true:=fun c hc hs=>by
  grind [Zu,Yw]
 refine ⟨cur,el,h1,by grind,fun c m e=> ?_,fun c c' m m' e e' he hs hs'=> ?_,fun c m ac e hc=> ?_,fun k o e=> ?_,fun c m e=> ?_,fun c m e=> ?_,fun c hc=>by rw [Zu _ _ (by omega),Zu _ _ (by omega)];exact h.bd c (by omega),fun j l e=>Bi (h.ldom j l e)⟩
 ·rcases dN c m e with ⟨rfl,_⟩ | ⟨_,e⟩
  ·omega
  ·have:=h.dom c m e;omega
 ·rcases dN c m e with ⟨hc,hl⟩ | ⟨hc,e2⟩ <;> rcases dN c' m' e' with ⟨hc',hl'⟩ | ⟨hc',e2'⟩
  ·rw [hc,hc']
  ·obtain ⟨hcb,hs'⟩:=live c' hc' hs';rw [hl] at he;exact absurd (h.inj c' b m' l e2' hb he.symm hs' (by rw [hm];rfl)) hcb
  ·obtain ⟨hcb,hs⟩:=live c hc hs;rw [hl'] at he;exact absurd (h.inj c b m l e2 hb he hs (by rw [hm];rfl)) hcb
  ·obtain ⟨_,hs⟩:=live c hc hs;obtain ⟨_,hs'⟩:=live c' hc' hs';exact h.inj c c' m m' e2 e2' he hs hs'
 ·rcases dN c m e with ⟨rfl,rfl⟩ | ⟨hcn,e2⟩
  ·rw [Yw] at hc;obtain rfl:=Ag hc;refine ⟨by simp,by simp;omega,(fun A e=>by cases e),_,el,setRow_heap w l.blk cur _ el (0,0) h1,?_,fun i hi=> ?_⟩
   ·grind
   ·simp only [AO,BT] at hi;simp only [List.getElem?_toArray];rw [Kn _ _ _ _ hfc];by_cases g1:off+i<ab.cells.length
    ·rw [AK (by omega),Bw (by simp;omega)];obtain ⟨v,e1,e2⟩:=h3 (off+i) g1;exact ⟨v,by grind,by simpa using e2.mono hle⟩
    ·rw [AF (by omega),AK (by omega),Bq (by simp;omega)];have hi2:l.base+off+i - (l.base+ab.cells.length)<vs.length:=(by omega);refine ⟨vs[l.base+off+i - (l.base+ab.cells.length)],Au hi2,?_⟩;have e3:i - (ab.cells.drop off).length =l.base+off+i - (l.base+ab.cells.length):=by simp;omega
     have:=hv (l.base+off+i - (l.base+ab.cells.length)) (by omega) hi2;simp only [e3];exact this.mono hle
  ·have hcs:(Yf mem c).isSome =true∧c≠b:=by
    grind
   rw [Zu _ _ hcn,Zu _ _ hcs.2] at hc;refine (h.blk c m ac e2 hc).world hle (setRow_other w l.blk m.blk _ fun heq=>hcs.2 ?_);exact h.inj c b m l e2 hb heq hcs.1 (by rw [hm];rfl)
 ·have e:ρ.fz k=some o:=e;have hk:=h.old k o e;rw [setRow_other]
  ·exact hk
  ·intro heq;have:=h.sep b l hb (by rw [hm];rfl)
   grind
 ·intro hs;rcases dN c m e with ⟨rfl,rfl⟩ | ⟨hcn,e⟩
  ·exact h.sep b l hb (by rw [hm];rfl)
  ·exact h.sep c m e (live c hcn hs).2
 ·rw [setRow_size];rcases dN c m e with ⟨rfl,rfl⟩ | ⟨_,e⟩
  ·grind
  ·exact h.real c m e
theorem Rel.beyond2 {mem:Mem} {next:Nat} {w:World} (h:Rel ρ mem next w) {b:Nat} {l:Loc} {ab:ABlk} (hb:ρ b=some l) (hm:Yf mem b=some ab) {off m T:Nat} {new:List AVal} {vs:List Value} (ty:TypeId)
  (dG:vs.length=new.length) (hoff:off≤m) (hmc:m≤ab.cells.length) (dT:m - off+new.length≤T) (hT:off+T≤l.tot) (hv: ∀(i:Nat) (h1:i<new.length) (h2:i<vs.length),Zt ρ new[i] vs[i]):
  ∃ cur el,w.heap[l.blk]? =some (.cells cur el (0,0))∧l.base+m+vs.length≤cur.size∧
   Rel (Uv ρ next ⟨l.blk,l.base+off,m - off+new.length,T⟩) (Wz (Wz mem b none) next (some ⟨(ab.cells.take m).drop off++new,ty,none⟩)) (next+1)
    (w.setRow l.blk (cur.toList.take (l.base+m)++vs++cur.toList.drop (l.base+m+vs.length)).toArray):=by
 obtain ⟨hn,ht,_,cur,el,h1,h2,h3⟩:=h.blk b l ab hb hm;have hbn:b<next:=h.dom b l hb
 have hle:=z0n (l:=⟨l.blk,l.base+off,m - off+new.length,T⟩) h.none_next;have hfc:l.base+m+vs.length≤cur.toList.length:=by simp;omega
 have dN: ∀c lm,Uv ρ next ⟨l.blk,l.base+off,m - off+new.length,T⟩ c=some lm→(c=next∧lm=⟨l.blk,l.base+off,m - off+new.length,T⟩)∨(c≠next∧ρ c=some lm):=fun c lm e=>by
  grind [Up]
 have live: ∀c,c≠next→(Yf (Wz (Wz mem b none) next (some ⟨(ab.cells.take m).drop off++new,ty,none⟩)) c).isSome =true→c≠b∧(Yf mem c).isSome =true:=fun c hc hs=>by
  grind [Zu,Yw]
 refine ⟨cur,el,h1,by grind,fun c lm e=> ?_,fun c c' lm lm' e e' he hs hs'=> ?_,fun c lm ac e hc=> ?_,fun k o e=> ?_,fun c lm e=> ?_,fun c lm e=> ?_,fun c hc=>by rw [Zu _ _ (by omega),Zu _ _ (by omega)];exact h.bd c (by omega),fun j l e=>Bi (h.ldom j l e)⟩
 ·rcases dN c lm e with ⟨rfl,_⟩ | ⟨_,e⟩
  ·omega
  ·have:=h.dom c lm e;omega
 ·rcases dN c lm e with ⟨hc,hl⟩ | ⟨hc,e2⟩ <;> rcases dN c' lm' e' with ⟨hc',hl'⟩ | ⟨hc',e2'⟩
  ·rw [hc,hc']
  ·obtain ⟨hcb,hs'⟩:=live c' hc' hs';rw [hl] at he;exact absurd (h.inj c' b lm' l e2' hb he.symm hs' (by rw [hm];rfl)) hcb
  ·obtain ⟨hcb,hs⟩:=live c hc hs;rw [hl'] at he;exact absurd (h.inj c b lm l e2 hb he hs (by rw [hm];rfl)) hcb
  ·obtain ⟨_,hs⟩:=live c hc hs;obtain ⟨_,hs'⟩:=live c' hc' hs';exact h.inj c c' lm lm' e2 e2' he hs hs'
 ·rcases dN c lm e with ⟨rfl,rfl⟩ | ⟨hcn,e2⟩
  ·rw [Yw] at hc;obtain rfl:=Ag hc;have htl:((ab.cells.take m).drop off).length =m - off:=by grind
   refine ⟨by grind,dT,(fun A e=>by cases e),_,el,setRow_heap w l.blk cur _ el (0,0) h1,?_,fun i hi=> ?_⟩
   ·grind
   ·simp only [] at hi;rw [AO,htl] at hi;simp only [List.getElem?_toArray];rw [Kn _ _ _ _ hfc];by_cases g1:off+i<m
    ·rw [AK (by omega),Bw (by grind)];obtain ⟨v,e1,e2⟩:=h3 (off+i) (by omega);exact ⟨v,by grind,by simpa using e2.mono hle⟩
    ·rw [AF (by omega),AK (by omega),Bq (by grind)];have hi2:l.base+off+i - (l.base+m)<vs.length:=(by omega);refine ⟨vs[l.base+off+i - (l.base+m)],Au hi2,?_⟩;have e3:i - ((ab.cells.take m).drop off).length =l.base+off+i - (l.base+m):=(by grind);have:=hv (l.base+off+i - (l.base+m)) (by omega) hi2;simp only [e3];exact this.mono hle
  ·have hcs:(Yf mem c).isSome =true∧c≠b:=by
    grind
   rw [Zu _ _ hcn,Zu _ _ hcs.2] at hc;refine (h.blk c lm ac e2 hc).world hle (setRow_other w l.blk lm.blk _ fun heq=>hcs.2 ?_);exact h.inj c b lm l e2 hb heq hcs.1 (by rw [hm];rfl)
 ·have e:ρ.fz k=some o:=e;have hk:=h.old k o e;rw [setRow_other]
  ·exact hk
  ·intro heq;have:=h.sep b l hb (by rw [hm];rfl)
   grind
 ·intro hs;rcases dN c lm e with ⟨rfl,rfl⟩ | ⟨hcn,e⟩
  ·exact h.sep b l hb (by rw [hm];rfl)
  ·exact h.sep c lm e (live c hcn hs).2
 ·rw [setRow_size];rcases dN c lm e with ⟨rfl,rfl⟩ | ⟨_,e⟩
  ·grind
  ·exact h.real c lm e
theorem Ev.ofBeyond {mem:Mem} {next:Nat} {w:World} (h:Rel ρ mem next w) {floor b:Nat} {l:Loc} (hb:ρ b=some l) (hf:floor≤b) (l':Loc) (hl:l'.blk=l.blk) (o:Option ABlk) (cs:Array Value):
  Ev ρ (Uv ρ next l') floor mem next (Wz (Wz mem b none) next o) (next+1) w (w.setRow l.blk cs) where
 ext:=z0n h.none_next
 new k hk:=by simp [Uv,BC hk]
 nxt:=BX _
 unborn k hk e cs ty hm:=by
  grind [Zu]
 frame k o hk hfr:=by
  grind [setRow_other]
 fresh k m hk e:=by
  rw [Up] at e;by_cases hkn:k=next
  ·grind
  ·rw [AF hkn] at e;have:=h.dom k m e;omega
 size:=by simp_all
 os:=rfl
 tape:=rfl
 output:=rfl
 still _ _:=rfl
theorem Vu {mem:Mem} {next:Nat} {w:World} (h:Rel ρ mem next w) {sz:Nat} {x:AVal} {u:Value} {len:Nat} {cs:List AVal} (hc:Xw mem sz x=some (len,cs)) (hx:Zt ρ x u) (hl:cs.length=len*sz):
  (∀w,(Builtin.lenOf u).run P w=.ok len w)∧ ∀n,n≤len→ ∃vs:Array Value,Ue ρ (cs.take (n*sz)) vs∧ ∀d,(Builtin.firstCells sz n u).run P {w with drawn:=d}=.ok vs {w with drawn:=d}:=by
 unfold Xw at hc;split at hc
 ·simp only [Ae,Ad] at hc;obtain ⟨rfl,rfl⟩:=hc;cases hx;refine ⟨fun w=>by simp [Builtin.lenOf],fun n hn=>⟨#[],⟨by simp,fun i h1 _=>by simp at h1⟩,fun d=>by simp [Builtin.firstCells]⟩⟩
 ·rename_i b off len' cap;split at hc
  ·rename_i blk hm;simp only [An,Ad] at hc;obtain ⟨p,hp,rfl,rfl⟩:=hc;cases hx with
   | sl _ _ _ _ l c hρ dM dG=>
    refine ⟨fun w=>by simp [Builtin.lenOf],fun n hn=> ?_⟩;obtain ⟨_,hpl,hle⟩:=z5i hp;have hmul:n*sz≤len'*sz:=AC sz hn;have hex: ∀d,∃vs:Array Value,Ue ρ (p.take (n*sz)) vs∧(Builtin.firstCells sz n (.slice (some ⟨l.blk,l.base+off,none⟩) len' c)).run P {w with drawn:=d}=.ok vs {w with drawn:=d}:=by
     intro d;obtain ⟨vs,hs,hv,hr⟩:=((h.drawn d).cellsAt hρ hm).load (P:=P) (off:=off) (n:=n*sz) (by omega);refine ⟨vs,⟨by simp;omega,fun i h1 h2=> ?_⟩,by simpa [Builtin.firstCells] using hr⟩
     grind
    obtain ⟨vs,hv,hr⟩:=hex 0;refine ⟨vs,hv,fun d=> ?_⟩;obtain ⟨b',e1,e2⟩: ∃b',(∀d,(loadCells ⟨l.blk,l.base+off,none⟩ (n*sz)).run P {w with drawn:=d}=.ok b' {w with drawn:=d})∧True:=by
     have hc: ∀d j,j<n*sz→({w with drawn:=d}:World).cell? ((⟨l.blk,l.base+off,none⟩:Addr).add j)=some ((w.cell? ⟨l.blk,l.base+(off+j),none⟩).getD undef):=by
      intro d j hj;obtain ⟨v,e,_⟩:=(h.cellsAt hρ hm) (off+j) (by omega)
      rw [Xb,AG];show w.cell? _=_;rw [e];rfl
     simp_all [run_loadCells]
    grind [Builtin.firstCells]
  ·cases hc
 ·cases hc
theorem x4w (n:Nat): ∀(r c:Nat),c<n→Builtin.growBy n r c≤n+(n+768) / 4
 | 0,c,h=>by simp only [Builtin.growBy];omega
 | r+1,c,h=>by
  unfold Builtin.growBy;rw [AF (by omega)];by_cases h2:c+(c+768) / 4<n
  ·exact x4w n r _ h2
  ·cases r with
   | zero=>simp only [Builtin.growBy];omega
   | succ r=>unfold Builtin.growBy;rw [AK (by omega)];omega
theorem y5a (n c:Nat) (h:c<n):Builtin.nextslicecap n c≤2*n+192:=by
 grind [Builtin.nextslicecap,x4w]
theorem v2k {need c bytes:Nat} (h:(need+1)*(bytes+1)≤1099511627776) (hc:c<need): ¬Builtin.nextslicecap need c*bytes>2 ^ 48:=by
 have h1:=y5a need c hc;have h2:Builtin.nextslicecap need c*bytes≤(192*(need+1))*(bytes+1):=BQ (by omega) (by omega)
 grind
end
section
variable {P:Program} {ρ:Rho}
theorem z7h {t u e:TypeId} {ut:TypeDesc} {i:TypeInfo} {type:TypeId} (hu:P.underlying t=some (.slice e)) (hut:P.underlying u=some ut) (hni: ∀k,ut≠ .int k) (hi:P.info? e=some i) {ts:List TypeId} {base:Option Addr} {len n c:Nat} {x:Value} {vs:Array Value} {xs:List Value} {w:World}
  (dG:(Builtin.lenOf x).run P w=.ok n w) (dU:(Builtin.firstCells i.size n x).run P w=.ok vs w) (dL:len+n≤c) {w':World}
  (hst: ∀a,base=some a→(storeCells (a.add (len*i.size)) vs.toList).run P w=.ok () w') (hno:base=none→w'=w):
  (Builtin.append_ (t::u::ts).toArray type ((.slice base len c)::x::xs).toArray).run P w=.ok (.slice base (len+n) c) w':=by
 cases base with
 | none=>obtain rfl:=hno rfl;simp [Builtin.append_,run_underlying hu,run_underlying hut,Zi hi,dG,dU,dL]
 | some a=>have:=hst a rfl;simp [Builtin.append_,run_underlying hu,run_underlying hut,Zi hi,dG,dU,dL,this]
theorem z5p {t u e:TypeId} {ut:TypeDesc} {i:TypeInfo} {type:TypeId} (hu:P.underlying t=some (.slice e)) (hut:P.underlying u=some ut) (hni: ∀k,ut≠ .int k) (hi:P.info? e=some i) {z:Value} (hz:i.zero=some z) {ts:List TypeId} {base:Option Addr} {len n c:Nat} {x:Value} {vs old:Array Value} {xs:List Value} {w:World}
  (dG:(Builtin.lenOf x).run P w=.ok n w) (dU:(Builtin.firstCells i.size n x).run P w.drew=.ok vs w.drew) (hold:(Builtin.firstCells i.size len (.slice base len c)).run P w.drew=.ok old w.drew)
  (dL:c<len+n) (eG:(len+n+1)*(i.bytes+1)≤1099511627776):
  ∃newCap,len+n≤newCap∧ ∃rest:Array Value,rest.size=(newCap - (len+n))*z.cells.size∧
  (Builtin.append_ (t::u::ts).toArray type ((.slice base len c)::x::xs).toArray).run P w=.ok (.slice (some ⟨w.heap.size,0,none⟩) (len+n) newCap) (w.drew.alloc (.cells (old++vs++rest) e)):=by
 have hmul:len+n+1≤(len+n+1)*(i.bytes+1):=Nat.le_mul_of_pos_right _ (by omega);have hr:=v2k eG dL;have hr': ¬2 ^ 48<Builtin.nextslicecap (len+n) c*i.bytes:=hr;have hr'': ¬281474976710656<Builtin.nextslicecap (len+n) c*i.bytes:=hr;have h1: ¬len+n≤c:=by omega
 have h2: ¬(9223372036854775807<(len:Int)+(n:Int)):=by omega
 have hq:(Question.appendCap (len+n) c e).forced =false:=rfl;have hzero: ∀w,(zeroValue e).run P w=.ok z w:=fun w=>by simp [zeroValue,run_typeInfo w hi,hz]
 refine ⟨(Question.appendCap (len+n) c e).cut (w.tape w.drawn (Question.appendCap (len+n) c e)),by simp only [Question.cut];omega,Builtin.zeroCells z.cells ((Question.appendCap (len+n) c e).cut (w.tape w.drawn (Question.appendCap (len+n) c e)) - (len+n)),by simp [Builtin.zeroCells],?_⟩;have hty: ∀w,(typeInfo e).run P w=.ok i w:=fun w=>run_typeInfo w hi;simp [Builtin.append_,run_underlying hu,run_underlying hut,Zi hi,dG,h1,h2,hty,hr'',hq,dU,hold,hzero,newRow]
theorem Ue.append {a b:List AVal} {us vs:Array Value} (h:Ue ρ a us) (k:Ue ρ b vs):Ue ρ (a++b) (us++vs):=by
 refine ⟨by simp [h.1,k.1],fun i h1 h2=> ?_⟩;by_cases hi:i<a.length
 ·rw [Bw hi,Array.getElem_append_left (by rw [←h.1];exact hi)];exact h.2 i hi (by rw [←h.1];exact hi)
 ·rw [Bq (by omega),Array.getElem_append_right (by rw [←h.1];omega)];have e:=h.1;simp only [e];exact k.2 (i - us.size) (by grind) (by grind)
theorem z5d {st:St} {w:World} (h:Rel ρ st.mem st.next w) (floor:Nat) {cs:List AVal} {vs:Array Value} (hr:Ue ρ cs vs) (rest:Array Value) (ty el:TypeId) (v:AVal) (u:Value)
  (dY: ∀ρ',ρ' st.next=some ⟨w.heap.size,0,cs.length,vs.size+rest.size⟩→Zt ρ' v u):
  x2w ρ floor st (y1d st cs ty) v w (Uv ρ st.next ⟨w.heap.size,0,cs.length,vs.size+rest.size⟩) u (w.drew.alloc (.cells (vs++rest) el)):=by
 have hd:Rel ρ st.mem st.next w.drew:=h.drawn _
 have:=z5c hd floor cs ty (vs++rest) el (by rw [hr.1];simp) (fun i h1 h2=>by
  rw [Array.getElem_append_left (by rw [←hr.1];exact h1)];exact hr.2 i h1 (by rw [←hr.1];exact h1)) v u (fun ρ' hρ'=>dY ρ' (by simp_all))
 simp only [Array.size_append] at this;exact ⟨this.val,this.rel,this.ev.drawn⟩
theorem z0f {α:Type} {c:Bool} {x:Option α} {y:α} (h:(bif c then x else none)=some y):c=true∧x=some y:=by grind
structure u2z (P:Program) (ρ:Rho) (t u e:TypeId) (i:TypeInfo) (z:Value) (ux:Value) (n:Nat) (new:List AVal) (vs:Array Value) (w:World):Prop where
 rel:Ue ρ new vs
 hin: ∀{type:TypeId} {ts:List TypeId} {base:Option Addr} {len c:Nat} {xs:List Value},(n=0∨(n+1)*(i.bytes+1)≤1099511627776)→len+n≤c→ ∀{w':World},(∀a,base=some a→(storeCells (a.add (len*i.size)) vs.toList).run P w=.ok () w')→(base=none→w'=w)→
  (Builtin.append_ (t::u::ts).toArray type ((.slice base len c)::ux::xs).toArray).run P w=.ok (.slice base (len+n) c) w'
 hnew: ∀{type:TypeId} {ts:List TypeId} {base:Option Addr} {len c:Nat} {xs:List Value} {old:Array Value},(Builtin.firstCells i.size len (.slice base len c)).run P w.drew=.ok old w.drew→c<len+n→(len+n+1)*(i.bytes+1)≤1099511627776→
  ∃newCap,len+n≤newCap∧ ∃rest:Array Value,rest.size=(newCap - (len+n))*z.cells.size∧
   (Builtin.append_ (t::u::ts).toArray type ((.slice base len c)::ux::xs).toArray).run P w=.ok (.slice (some ⟨w.heap.size,0,none⟩) (len+n) newCap) (w.drew.alloc (.cells (old++vs++rest) e))
theorem y7n {n:Int} {bytes:Nat} (h0:0≤n) (h:n.toNat=0∨(n.toNat+1)*(bytes+1)≤1099511627776):IntKind.i64.wrap n=n∧n*(bytes:Int)≤281474976710656:=by
 grind [IntWalk.i64_in]
theorem Jm {mem:Mem} {next:Nat} {w:World} (h:Rel ρ mem next w) {t u e:TypeId} {ut:TypeDesc} {i:TypeInfo} {z:Value} {zero:List AVal} {x:AVal} {ux:Value} {n:Nat} {new:List AVal} (hu:P.underlying t=some (.slice e)) (hut:P.underlying u=some ut) (hi:P.info? e=some i) (hz:i.zero=some z)
  (hzr:Ue ρ zero z.cells) (hzl:zero.length=i.size) (hc:Ur mem i.size zero ut x=some (n,new)) (hx:Zt ρ x ux) (hnl:new.length=n*i.size): ∃vs,u2z P ρ t u e i z ux n new vs w:=by
 unfold Ur at hc;split at hc
 ·rename_i kt;split at hc
  ·rename_i k m;obtain ⟨h0,hc⟩:=z0f hc;have h0:=Av h0;simp only [Ae,Ad] at hc;obtain ⟨rfl,rfl⟩:=hc;cases hx;have hzs:z.cells.size=i.size:=by rw [←hzr.1];exact hzl
   refine ⟨Builtin.zeroCells z.cells m.toNat,?_,?_,?_⟩
   ·exact z9n hzr m.toNat (m.toNat*z.cells.size) (by rw [hzr.1])
   ·intro type ts base len c xs hr dL w' hst hno;obtain ⟨hw,hb⟩:=y7n h0 hr;have hb': ¬281474976710656<m*(i.bytes:Int):=(by omega);have hlt: ¬m<0:=(by omega);have hzv: ∀w,(zeroValue e).run P w=.ok z w:=fun w=>by simp [zeroValue,run_typeInfo w hi,hz]
    have hty: ∀w,(typeInfo e).run P w=.ok i w:=fun w=>run_typeInfo w hi;by_cases hz0:m.toNat*i.size=0
    ·have hze:Builtin.zeroCells z.cells m.toNat= #[]:=(by simp [Builtin.zeroCells,hzs,hz0]);rw [hze] at hst;cases base with
     | none=>obtain rfl:=hno rfl;simp [Builtin.append_,run_underlying hu,run_underlying hut,Zi hi,asInt,asIntOf,hw,hlt,hty,hb',dL,hz0]
     | some a=>have:=hst a rfl;simp only [] at this;simp [Builtin.append_,run_underlying hu,run_underlying hut,Zi hi,asInt,asIntOf,hw,hlt,hty,hb',dL,hz0,this]
    ·cases base with
     | none=>obtain rfl:=hno rfl;simp [Builtin.append_,run_underlying hu,run_underlying hut,Zi hi,asInt,asIntOf,hw,hlt,hty,hb',dL,hz0,hzv]
     | some a=>have:=hst a rfl;simp [Builtin.append_,run_underlying hu,run_underlying hut,Zi hi,asInt,asIntOf,hw,hlt,hty,hb',dL,hz0,hzv,this]
   ·intro type ts base len c xs old hold dL eG;have hr:m.toNat=0∨(m.toNat+1)*(i.bytes+1)≤1099511627776:=.inr (AE (AC _ (by omega)) eG);obtain ⟨hw,hb⟩:=y7n h0 hr;have hb': ¬281474976710656<m*(i.bytes:Int):=(by omega);have hlt: ¬m<0:=(by omega);have hmul:len+m.toNat+1≤(len+m.toNat+1)*(i.bytes+1):=Nat.le_mul_of_pos_right _ (by omega);have hr0:=v2k eG dL;have hr'': ¬281474976710656<Builtin.nextslicecap (len+m.toNat) c*i.bytes:=hr0;have h1: ¬len+m.toNat≤c:=(by omega);have h2: ¬(9223372036854775807<(len:Int)+(m.toNat:Int)):=(by omega);have h2': ¬(9223372036854775807<(len:Int)+max m 0):=(by omega);have hq:(Question.appendCap (len+m.toNat) c e).forced =false:=rfl;have hzv: ∀w,(zeroValue e).run P w=.ok z w:=fun w=>by simp [zeroValue,run_typeInfo w hi,hz]
    have hty: ∀w,(typeInfo e).run P w=.ok i w:=fun w=>run_typeInfo w hi;refine ⟨(Question.appendCap (len+m.toNat) c e).cut (w.tape w.drawn (Question.appendCap (len+m.toNat) c e)),by simp only [Question.cut];omega,Builtin.zeroCells z.cells ((Question.appendCap (len+m.toNat) c e).cut (w.tape w.drawn (Question.appendCap (len+m.toNat) c e)) - (len+m.toNat)),by simp [Builtin.zeroCells],?_⟩;by_cases hz0:m.toNat*i.size=0
    ·have hze:Builtin.zeroCells z.cells m.toNat= #[]:=(by simp [Builtin.zeroCells,hzs,hz0]);simp [Builtin.append_,run_underlying hu,run_underlying hut,Zi hi,asInt,asIntOf,hw,hlt,hb',h1,h2,h2',hty,hr'',hq,hold,hzv,newRow,hz0,hze]
    ·simp [Builtin.append_,run_underlying hu,run_underlying hut,Zi hi,asInt,asIntOf,hw,hlt,hb',h1,h2,h2',hty,hr'',hq,hold,hzv,newRow,hz0]
  ·cases hc
 ·rename_i hni';have hni: ∀k,ut≠ .int k:=fun k hk=>hni' k hk;obtain ⟨dG,dU⟩:=Vu (P:=P) h hc hx hnl;obtain ⟨vs,hvs,hfc⟩:=dU n (Aq _);rw [AU (by omega)] at hvs;have eZ:(Builtin.firstCells i.size n ux).run P w=.ok vs w:=hfc w.drawn;have hfc1:(Builtin.firstCells i.size n ux).run P w.drew=.ok vs w.drew:=hfc (w.drawn+1);exact ⟨vs,hvs,fun _ dL _ hst hno=>z7h hu hut hni hi (dG w) eZ dL hst hno,fun hold dL eG=>z5p hu hut hni hi hz (dG w) hfc1 hold dL eG⟩
theorem x4b {w:World} {x:Obj} {n:Nat} {k:Nat} {o:Obj} (h:w.heap[k]? =some o):(World.alloc {w with drawn:=n} x).heap[k]? =some o:=by
 have:k<w.heap.size:=(AL.1 h).1;show (w.heap.push x)[k]? =some o
 grind
theorem x6x {w:World} {k:Nat} {cur:Array Value} {el:TypeId} {vs:List Value} {m:Nat} (hw:w.heap[k]? =some (.cells cur el (0,0))) (hm:m+vs.length≤cur.size):
  ∃cs1,(w.setRow k (cur.toList.take m++vs++cur.toList.drop (m+vs.length)).toArray).heap[k]? =some (.cells cs1 el (0,0))∧cs1.size=cur.size∧ ∀j,j<m→cs1[j]? =cur[j]? :=by
 have hc:cur.toList.length=cur.size:=Array.length_toList;refine ⟨_,setRow_heap w k cur _ el (0,0) hw,by simp;omega,fun j hj=> ?_⟩
 grind
def j6t (ρ:Rho) (m:Mem) (xs:List AVal) (w w':World):Prop:=
 (∀(b off len z b2 o2 n2:Nat) (c2:v0c) (r:List AVal) (blk:ABlk) (l:Loc),xs=.sl b off len (.un z)::.sl b2 o2 n2 c2::r→1≤n2→Yf m b=some blk→off+len*z=blk.cells.length→ρ b=some l→Us ρ w' blk l)∧
 ∀r:List AVal,xs=.nils ::r→ ∀(k:Nat) (o:Obj),w.heap[k]? =some o→w'.heap[k]? =some o
theorem x9e {m:Mem} {sz:Nat} {zero:List AVal} {ut:TypeDesc} {b o n2:Nat} {c:v0c} {n:Nat} {new:List AVal} (h:Ur m sz zero ut (.sl b o n2 c)=some (n,new)):n=n2:=by
 have key:Xw m sz (.sl b o n2 c)=some (n,new)→n=n2:=fun h=>by
  simp only [Xw] at h;cases hm:Yf m b with
  | none=>grind
  | some blk=>simp_all
 cases ut <;> first | exact key h | (cases h;done)
theorem z0g {st st' :St} {w:World} (h:Rel ρ st.mem st.next w) (floor:Nat) {ts:Array TypeId} {type:TypeId} {xs:List AVal} {us:Array Value} {v:AVal} (ha:z0s P floor st ts.toList xs=some (v,st')) (hx:Vz (Zt ρ) xs us.toList):
  ∃ρ' u w',(Builtin.append_ ts type us).run P w=.ok u w'∧x2w ρ floor st st' v w ρ' u w'∧(st'.env=st.env∧st'.ob=st.ob)∧j6t ρ st.mem xs w w':=by
 obtain ⟨ts⟩:=ts;obtain ⟨us⟩:=us;simp only at ha hx;unfold z0s at ha;split at ha
 ·rename_i t tu tts s x txs;cases hx with
  | @cons _ su _ _ hs hx=>
   cases hx with
   | @cons _ ux _ uxs hx _=>
    split at ha
    ·rename_i e ut hu hut;split at ha
     ·rename_i i zero hi hz;split at ha
      ·rename_i n new hcs;obtain ⟨i2,z,hi2,hz2,hzr,_⟩:=Ww (ρ:=ρ) hz;obtain rfl:i=i2:=by grind
       cases hc:(Nat.beq zero.length i.size&&Nat.beq new.length (n*i.size)&&Nat.ble 1 i.size&&new.all z9u) with
       | false=>grind
       | true =>
        rw [hc,Ab] at ha;simp only [Ac] at hc;obtain ⟨⟨⟨hzl,hnl⟩,hsz⟩,hsc⟩:=hc;have hzl:=Aj hzl;have hnl:=Aj hnl;have hsz:=Ak hsz;have hzs:z.cells.size=i.size:=by rw [←hzr.1];exact hzl
        obtain ⟨vs,hF⟩:=Jm (P:=P) h hu hut hi hz2 hzr hzl hcs hx hnl;have hvs:=hF.rel;have hvsz:vs.size=n*i.size:=by rw [←hvs.1];exact hnl
        have eB:=Zt.cells_oneCell hvs hsc;split at ha
        ·-- nil
         cases hs;cases hn0:Nat.beq n 0 with
         | true=>rw [hn0,Ab] at ha;simp only [Ae,Ad] at ha;obtain ⟨rfl,rfl⟩:=ha;have hn0:=Aj hn0;subst hn0;have dH:=hF.hin (type:=type) (ts:=tts) (base:=none) (len:=0) (c:=0) (xs:=uxs) (.inl rfl) (Aq _) (w':=w) (fun a e=>by cases e) (fun _=>rfl);exact ⟨ρ,_,w,dH,⟨.nils,h,Ev.refl _ _ _ _ _ h.dom⟩,⟨rfl,rfl⟩,(fun _ _ _ _ _ _ _ _ _ _ _ e=>by cases e),fun _ _ _ _ h=>h⟩
         | false=>
          rw [hn0,Aa] at ha;cases hrm:Nat.ble ((n+1)*(i.bytes+1)) room with
          | false=>grind
          | true=>
           rw [hrm,Ab] at ha;simp only [Ae,Ad] at ha;obtain ⟨rfl,rfl⟩:=ha;have hrm:=Ak hrm;have hnpos:0<n:=by
            grind
           obtain ⟨newCap,dM,rest,dW,dH⟩:=hF.hnew (type:=type) (ts:=tts) (base:=none) (len:=0) (c:=0) (xs:=uxs) (old:= #[]) (by simp [Builtin.firstCells]) (by omega) (by simpa [room] using hrm);simp only [Af,Array.empty_append] at dH dM dW;have hsum:vs.size+rest.size=newCap*i.size:=by rw [hvsz,dW,hzs,←AQ];grind
           refine ⟨_,_,_,dH,z5d h floor hvs rest e e _ _ (fun ρ' hρ'=> ?_),⟨rfl,rfl⟩,(fun _ _ _ _ _ _ _ _ _ _ _ e=>by cases e),fun _ _ k o h=>x4b h⟩;refine .sl _ 0 _ _ _ _ hρ' ?_ dM
           grind [z0x]
        ·-- a slice
         rename_i b off len cap;split at ha
         ·rename_i blk hm;split at ha
          ·rename_i old hold;cases hrm:Nat.ble ((len+n+1)*(i.bytes+1)) room with
           | false=>grind
           | true =>
            rw [hrm,Ab] at ha;have hrm:=Ak hrm;have hrn:n=0∨(n+1)*(i.bytes+1)≤1099511627776:=.inr (AE (AC _ (by omega)) hrm);cases hs with
            | sl _ _ _ _ l c hρ dM hlc=>
             obtain ⟨hpold,holdl,holdle⟩:=z5i hold;have eN:=h.blk b l blk hρ hm;have hln:=eN.n;have hmul:(len+n)*i.size=len*i.size+n*i.size:=AQ _ _ _;have hoff:off+len*i.size≤blk.cells.length∨len*i.size=0:=(by omega);have hcos:Xw st.mem i.size (.sl b off len cap)=some (len,old):=(by simp [Xw,hm,hold]);obtain ⟨_,hfo⟩:=Vu (P:=P) h hcos (.sl b off len cap l c hρ dM hlc) holdl;obtain ⟨ovs,hovs,hof⟩:=hfo len (Aq _);rw [AU (by omega)] at hovs;have hovz:ovs.size=len*i.size:=by rw [←hovs.1];exact holdl
             have hof1:(Builtin.firstCells i.size len (.slice (some ⟨l.blk,l.base+off,none⟩) len c)).run P w.drew=.ok ovs w.drew:=hof (w.drawn+1);have inplace: ∀v st',len+n≤c→floor≤b→off+(len+n)*i.size≤blk.cells.length→
               some (AVal.sl b off (len+n) cap,st.withMem (Wz st.mem b (some ⟨blk.cells.take (off+len*i.size)++new++blk.cells.drop (off+(len+n)*i.size),blk.ty,none⟩)))=some (v,st')→(∀z,cap=.un z→z=i.size)→
               ∃ρ' u w',(Builtin.append_ (t::tu::tts).toArray type ((.slice (some ⟨l.blk,l.base+off,none⟩) len c)::ux::uxs).toArray).run P w=.ok u w'∧x2w ρ floor st st' v w ρ' u w'∧(st'.env=st.env∧st'.ob=st.ob)∧j6t ρ st.mem (.sl b off len cap::x::txs) w w':=by
              intro v st' dL hfl dT he hzc;simp only [Ae,Ad] at he;obtain ⟨rfl,rfl⟩:=he;obtain ⟨cur,el,hw,hcsz,dF⟩:=h.write hρ hm (off:=off+len*i.size) (cs:=new) (vs:=vs.toList) (by grind) (by omega) (fun j h1 h2=>by simpa using hvs.2 j h1 (by grind));have hst:=run_storeCells_at P l.blk (l.base+off+len*i.size) el vs.toList 0 cur w hw (by grind) eB;rw [Bh] at hst;have dH:=hF.hin (type:=type) (ts:=tts) (base:=some ⟨l.blk,l.base+off,none⟩) (len:=len) (c:=c) (xs:=uxs) hrn dL (w':=w.setRow l.blk (cur.toList.take (l.base+off+len*i.size)++vs.toList++cur.toList.drop (l.base+off+len*i.size+vs.toList.length)).toArray)
               (fun a e=>by cases e;rw [Xb];exact hst) (fun e=>by cases e)
              refine ⟨ρ,_,_,dH,⟨.sl _ _ _ _ l c hρ dM (by omega),?_,Ev.ofWrite h hρ hfl _ _⟩,⟨rfl,rfl⟩,(fun b' off' len' z b2 o2 n2 c2 r blk' l' e hn hm' hend hl'=> ?keep),fun _ e=>by cases e⟩
              case keep=>exfalso;cases e;obtain rfl:=hzc _ rfl;rw [hm] at hm';obtain rfl:=Ag hm';obtain rfl:=x9e hcs;have:1*i.size≤n*i.size:=AC _ hn;omega
              have e1:off+len*i.size+new.length=off+(len+n)*i.size:=(by omega);rw [e1] at dF
              simpa only [St.withMem,AG] using dF
             have anew: ∀v st' (st1:St),c<len+n→Rel ρ st1.mem st1.next w→Ev ρ ρ floor st.mem st.next st1.mem st1.next w w→st1.env=st.env→st1.ob=st.ob→
               some (AVal.sl st1.next 0 (len+n) (.un i.size),y1d st1 (old++new) e)=some (v,st')→
               ∃ρ' u w',(Builtin.append_ (t::tu::tts).toArray type ((.slice (some ⟨l.blk,l.base+off,none⟩) len c)::ux::uxs).toArray).run P w=.ok u w'∧x2w ρ floor st st' v w ρ' u w'∧(st'.env=st.env∧st'.ob=st.ob)∧j6t ρ st.mem (.sl b off len cap::x::txs) w w':=by
              intro v st' st1 dL eC hev1 dJ hob he;simp only [Ae,Ad] at he;obtain ⟨rfl,rfl⟩:=he;obtain ⟨newCap,fA,rest,dW,dH⟩:=hF.hnew (type:=type) (ts:=tts) (base:=some ⟨l.blk,l.base+off,none⟩) (len:=len) (c:=c) (xs:=uxs) hof1 dL (by simpa [room] using hrm);have hov:=hovs.append hvs;have hsum:(ovs++vs).size +rest.size=newCap*i.size:=by rw [Array.size_append,hovz,hvsz,dW,hzs,←AQ,←AQ];grind
              have hp:=z5d eC floor hov rest e e (.sl st1.next 0 (len+n) (.un i.size)) (.slice (some ⟨w.heap.size,0,none⟩) (len+n) newCap) (fun ρ' hρ'=>by
               refine .sl _ 0 _ _ _ _ hρ' ?_ fA
               grind [z0x])
              refine ⟨_,_,_,dH,⟨hp.val,hp.rel,hev1.trans hp.ev⟩,⟨?_,?_⟩,(fun b' off' len' z b2 o2 n2 c2 r blk' l' e hn hm' hend hl'=> ?keep),fun _ e=>by cases e⟩
              case keep=>have hq:=h.blk b' l' blk' hl' hm';refine hq.world (Rho.le_refl ρ) ?_;obtain ⟨_,_,_,cs0,el0,g1,_⟩:=hq;rw [g1];exact x4b g1
              all_goals simp_all [y1d]
             split at ha
             ·-- the capacity is known
              rename_i k;simp only [z0x] at dM;subst dM;cases hk:Nat.ble (len+n) c with
              | true=>
               rw [hk,Ab] at ha;have hk:=Ak hk;cases hf:(Nat.ble floor b&&Nat.ble (off+(len+n)*i.size) blk.cells.length) with
               | false=>grind
               | true=>rw [hf,Ab] at ha;simp_all
              | false=>
               rw [hk,Aa] at ha;have hk: ¬len+n≤c:=fun e=>by rw [AV e] at hk;cases hk
               exact anew _ _ st (by omega) h (Ev.refl _ _ _ _ _ h.dom) rfl rfl ha
             ·-- it is not
              rename_i zz;simp only [z0x] at dM;cases hf:(Nat.beq zz i.size&&Nat.ble floor b) with
              | false=>grind
              | true=>
               rw [hf,Ab] at ha;simp only [Ac] at hf;have hzz:=Aj hf.1;have hfl:=Ak hf.2;subst hzz;cases hk:Nat.ble (off+(len+n)*i.size) blk.cells.length with
               | true=>
                rw [hk,Ab] at ha;have hk:=Ak hk;have dL:len+n≤c:=by rw [hln] at dM;have:(len+n)*i.size≤c*i.size:=(by omega);exact Nat.le_of_mul_le_mul_right this hsz
                grind
               | false=>
                rw [hk,Aa] at ha;cases hend:Nat.beq (off+len*i.size) blk.cells.length with
                | false=>grind
                | true=>
                 rw [hend,Ab] at ha;have hend:=Aj hend;by_cases dL:len+n≤c
                 ·-- there is room: behind what is told
                  simp only [Ae,Ad] at ha;obtain ⟨rfl,rfl⟩:=ha;have hcm:(len+n)*i.size≤c*i.size:=AC _ dL;obtain ⟨cur,el,hw,hcsz,dF⟩:=h.beyond hρ hm (off:=off) (new:=new) (vs:=vs.toList) e (by grind) (by omega) (by omega) (fun j h1 h2=>by simpa using hvs.2 j h1 (by grind));have hst:=run_storeCells_at P l.blk (l.base+off+len*i.size) el vs.toList 0 cur w hw (by grind) eB;rw [Bh] at hst;have dH:=hF.hin (type:=type) (ts:=tts) (base:=some ⟨l.blk,l.base+off,none⟩) (len:=len) (c:=c) (xs:=uxs) hrn dL (w':=w.setRow l.blk (cur.toList.take (l.base+off+len*i.size)++vs.toList++cur.toList.drop (l.base+off+len*i.size+vs.toList.length)).toArray)
                   (fun a e=>by cases e;rw [Xb];exact hst) (fun e=>by cases e)
                  have hod:old=blk.cells.drop off:=by rw [hpold];exact AU (by simp;omega)
                  refine ⟨_,_,_,dH,⟨.sl _ 0 _ _ ⟨l.blk,l.base+off,blk.cells.length - off+new.length,l.tot - off⟩ c (by simp [Uv]) ?_ (by omega),?_,Ev.ofBeyond h hρ hfl ⟨l.blk,l.base+off,blk.cells.length - off+new.length,l.tot - off⟩ rfl _ _⟩,⟨rfl,rfl⟩,(fun b' off' len' z b2 o2 n2 c2 r blk' l' e hn hm' _ hl'=> ?keep),fun _ e=>by cases e⟩
                  case keep=>
                   cases e;rw [hm] at hm';obtain rfl:=Ag hm';rw [hρ] at hl';obtain rfl:=Ag hl';obtain ⟨q1,q2,q3,cs0,el0,q4,q5,q6⟩:=eN;rw [hw] at q4;obtain ⟨rfl,rfl⟩:cur=cs0∧el=el0:=by
                    grind
                   obtain ⟨cs1,s1,s2,s3⟩:=x6x (vs:=vs.toList) hw (m:=l.base+off+len*i.size) (by grind);refine ⟨q1,q2,q3,cs1,el,s1,by grind,fun k hk=> ?_⟩;obtain ⟨v,r1,r2⟩:=q6 k hk
                   grind
                  ·simp only [z0x];omega
                  ·rw [hod];have e2:l.base+off+len*i.size=l.base+blk.cells.length:=(by omega);rw [e2]
                   simpa only [y1d,St.withMem] using dF
                 ·exact anew _ _ (st.withMem (Wz st.mem b none)) (by omega) (h.kill b) (Ev.ofKill h floor hρ) rfl rfl ha
          ·cases ha
         ·cases ha
        ·cases ha
      ·cases ha
     ·cases ha
    ·cases ha
 ·cases ha
theorem w2y {get:Nat→List AVal} {off len n sz N:Nat} {new:List AVal} (hl: ∀i,i<N→(get i).length =sz) (hN:off+len=N) (hnew:new.length=n*sz):
  (∀i,i<len+n→(Zh get off len sz new i).length =sz)∧Yk (len+n) (Zh get off len sz new)=((Yk N get).drop (off*sz)).take (len*sz)++new:=by
 have h1: ∀i,i<len+n→(Zh get off len sz new i).length =sz:=fun i hi=>by
  unfold Zh;cases e:Nat.ble len i with
  | true=>
   have:=Ak e;simp only [Ab,BB,BT,hnew];have:(i - len+1)*sz≤n*sz:=AC sz (by omega)
   grind
  | false=>
   have: ¬len≤i:=fun h=>by rw [AV h] at e;cases e
   grind
 refine ⟨h1,?_⟩;have dG:=Ym (len+n) h1;have hlenN:=Ym N hl;have hd:((Yk N get).drop (off*sz)).length =len*sz:=by rw [BT,hlenN,←hN,AQ];omega
 rw [AU (by omega)];apply List.ext_getElem?;intro i;by_cases hi:i<(len+n)*sz
 ·have hsz:0<sz:=by
   grind
  have hj:i %sz<sz:=Bk _ hsz;have hq:i / sz<len+n:=A9 (by grind);have e:i=i / sz*sz+i %sz:=by rw [Bv];exact (Bn i sz).symm
  generalize i / sz=q at*;generalize i %sz=j at*;subst e;rw [Wi (len+n) h1 q j hq hj];unfold Zh;cases e:Nat.ble len q with
  | true=>
   have hle:=Ak e;have:len*sz≤q*sz:=AC sz hle;simp only [Ab];rw [List.getElem?_append_right (by omega),hd,List.getElem?_take,AK hj,List.getElem?_drop]
   congr 1
   rw [Nat.sub_mul];omega
  | false=>
   have hlt:q<len:=by
    rcases A6 q len with h | h
    ·exact h
    ·rw [AV h] at e;cases e
   have:(q+1)*sz≤len*sz:=AC sz hlt;rw [AQ,BO] at this;simp only [Aa];rw [List.getElem?_append_left (by omega),List.getElem?_drop,←Wi N hl (off+q) j (by omega) hj]
   grind
 grind
theorem w3k (n:Nat) (z:List AVal):rep n z=Yk n fun _=>z:=by unfold rep Yk;rw [List.flatMap_def,List.map_const',List.length_range]
theorem Ev.remem {ρ':Rho} {floor:Nat} {m m' m'':Mem} {n n':Nat} {w w':World} (h:Ev ρ ρ' floor m n m' n' w w') (hm: ∀b,b<n→ ∀cs ty,Yf m b=some ⟨cs,ty,none⟩→Yf m'' b=Yf m' b):Ev ρ ρ' floor m n m'' n' w w':=
 ⟨h.ext,h.new,h.nxt,fun b hb e cs ty hc=>by rw [hm b hb cs ty hc];exact h.unborn b hb e cs ty hc,h.frame,h.fresh,h.size,h.os,h.tape,h.output,h.still⟩
theorem Rel.remem {mem mem':Mem} {next:Nat} {w:World} (h:Rel ρ mem next w) (hm: ∀b,Yf mem' b=Yf mem b):Rel ρ mem' next w:=
 ⟨h.dom,fun b b' l l' e e' he hs hs'=>h.inj b b' l l' e e' he (by grind) (by grind),fun b l ab e hc=>h.blk b l ab e (by grind),h.old,fun b l e hs=>h.sep b l e (by grind),h.real,fun b hb=>by rw [hm];exact h.bd b hb,h.ldom⟩
theorem y0g {cx:Ctx} {st st':St} {w:World} (h:Rel ρ st.mem st.next w) {t:TypeId} {x y v:AVal} {ux uy:Value} (hb:Jh P cx st t x y=some (v,st')) (hob:st'.ob=true) (hx:Zt ρ x ux) (hy:Zt ρ y uy):
  ∃ρ' u w',(Instr.makeSlice t ux uy).run P w=.ok u w'∧x2w ρ cx.floor st st' v w ρ' u w':=by
 unfold Jh at hb;split at hb
 ·rename_i e kl l kc c hu;split at hb
  ·rename_i i zero hi hz;cases dZ:(Nat.beq zero.length i.size&&Nat.ble 1 i.size) with
   | false=>grind
   | true=>
    rw [dZ,Ab] at hb;simp only [Ac] at dZ;obtain ⟨k1,k2⟩:=dZ;have hzl:=Aj k1;simp only [An,Ad] at hb;obtain ⟨st1,ho,rfl,rfl⟩:=hb;obtain ⟨o1,o2,o3,o4⟩:=z7z ho;obtain ⟨hc,_⟩:=o4 hob;have m2:st1.mem=Wz st.mem st.next (some ⟨Yk c.toNat fun _=>zero,e,some ⟨i.size,c.toNat,.flat fun _=>zero⟩⟩):=o2
    have n2:st1.next=st.next+1:=o3
    have h0:Um P st t (.int kl l) (.int kc c)=some (.sl st.next 0 l.toNat (.ex c.toNat),y1d st (rep c.toNat zero) e):=by simp_all [Um]
    obtain ⟨ρ',uv,w',dH,hp,_,_⟩:=Qh h cx.floor h0 hx hy;refine ⟨ρ',uv,w',dH,?_,?_,?_⟩
    ·have hv:=hp.val;cases hv with
     | sl _ _ _ _ l' c' hρ' fA eX=>
      have hbk:=hp.rel.blk st.next l' ⟨rep c.toNat zero,e,none⟩ hρ' (Yw _ _ _)
      have hcn:c'=c.toNat:=fA;have q1:=hbk.n;have q2:=hbk.tot;simp only [z1r,hzl] at q1;have:=Zt.sla (ρ:=ρ') st.next i.size 0 l.toNat (.un i.size) l' c' hρ' (by grind [z0x]) eX
      grind
    ·have hr:Rel ρ' (Wz st.mem st.next (some ⟨rep c.toNat zero,e,none⟩)) (st.next+1) w':=hp.rel;rw [w3k] at hr;rw [m2,n2];exact hr.setArr ⟨i.size,c.toNat,_⟩ rfl (Ak k2) fun _ _=>hzl
    ·rw [m2,n2];refine hp.ev.remem fun b' hb' cs ty hcs=> ?_;show _=Yf (Wz st.mem st.next _) b'
     grind [Zu]
  ·cases hb
 ·cases hb
theorem z5x {cx:Ctx} {st st':St} {w:World} (h:Rel ρ st.mem st.next w) {ts:Array TypeId} {type:TypeId} {xs:List AVal} {us:Array Value} {v:AVal} (ha:z3e P cx st ts.toList xs=some (v,st')) (hob:st'.ob=true) (hx:Vz (Zt ρ) xs us.toList):
  ∃ρ' u w',(Builtin.append_ ts type us).run P w=.ok u w'∧x2w ρ cx.floor st st' v w ρ' u w'∧ ∀b sz off len z r blk l,xs=.sla b sz off len (.un z)::r→Yf st.mem b=some blk→ρ b=some l→Us ρ w' blk l:=by
 obtain ⟨ul⟩:=us;simp only at hx;unfold z3e at ha;split at ha
 ·rename_i t u tr b sz off len z x xr hts;split at ha
  ·rename_i e ut hu hut;split at ha
   ·cases ha
   ·rename_i hni;split at ha
    ·rename_i i hi;split at ha
     ·rename_i n new zero blk hc hz hm;split at ha
      ·rename_i A hA;cases dZ:(Nat.beq zero.length i.size&&Nat.beq new.length (n*i.size)&&Nat.ble 1 i.size&&new.all z9u&&Nat.beq sz i.size&&Nat.beq z sz&&Nat.ble cx.floor b&&Nat.ble 1 n) with
       | false=>grind
       | true=>
        rw [dZ,Ab] at ha;have hchk0:=dZ;simp only [Ac] at dZ;obtain ⟨⟨⟨⟨⟨⟨⟨k1,k2⟩,k3⟩,k4⟩,k5⟩,k6⟩,k7⟩,k8⟩:=dZ;obtain rfl:=Aj k5;obtain rfl:=Aj k6;have hnl:=Aj k2;have hsz1:=Ak k3;have hfl:=Ak k7;have hn1:=Ak k8;simp only [An,Ad] at ha;obtain ⟨st1,ho,rfl,rfl⟩:=ha;obtain ⟨o1,o2,o3,o4⟩:=z7z ho;obtain ⟨hb,_⟩:=o4 hob;simp only [Ac,At] at hb;obtain ⟨hAs,hfull,dL⟩:=hb;have hAs:=Aj hAs;have hbn:b<st.next:=by
         rcases A6 b st.next with g | g
         ·exact g
         ·rw [h.bd b g] at hm;cases hm
        have m2:st1.mem=Wz (Wz st.mem b none) st.next (some ⟨Yk (len+n) (Zh A.get off len i.size new),e,some ⟨i.size,len+n,Zh A.get off len i.size new⟩⟩):=o2
        have n2:st1.next=st.next+1:=o3
        cases hx with
        | cons ha0 hr=>
         cases ha0 with
         | sla _ _ _ _ _ l c hρ dM dG=>
          obtain ⟨eL,eY,dP⟩:=(h.blk b l blk hρ hm).arr A hA;rw [hAs] at dP;obtain ⟨q1,q2⟩:=w2y (new:=new) dP hfull hnl;have hlenr:=Ym A.n dP;have hmul:off*i.size+len*i.size=A.n*i.size:=(by grind);have hcut:cut blk.cells (off*i.size) (len*i.size)=some ((blk.cells.drop (off*i.size)).take (len*i.size)):=by
           unfold cut;simp only;rw [show Nat.beq ((blk.cells.drop (off*i.size)).take (len*i.size)).length (len*i.size)=true from by
            rw [Nat.beq_eq];simp [eL,hlenr];omega]
           rfl
          have hroom':Nat.ble ((len+n+1)*(i.bytes+1)) room=true:=AV dL;have hnot:Nat.ble (off*i.size+(len+n)*i.size) blk.cells.length=false:=by
           have:1*i.size≤n*i.size:=AC _ hn1;cases g:Nat.ble (off*i.size+(len+n)*i.size) blk.cells.length with
           | false=>rfl
           | true=>
            have:=Ak g
            grind
          have hat:Nat.beq (off*i.size+len*i.size) blk.cells.length=true:=(by simp_all);have h0:z0s P cx.floor st ts.toList (.sl b (off*i.size) len (.un i.size)::x::xr)=some (.sl st.next 0 (len+n) (.un i.size),y1d (st.withMem (Wz st.mem b none)) (((blk.cells.drop (off*i.size)).take (len*i.size))++new) e):=by
           rw [hts];unfold z0s;simp only [hu,hut,hi,hz]
           grind [Ur]
          obtain ⟨ρ',uv,w',dH,hp,_,hkeep⟩:=z0g (type:=type) h cx.floor h0 (us:=⟨_⟩) (.cons (.sl _ _ _ _ l c hρ dM dG) hr);refine ⟨ρ',uv,w',dH,⟨?_,?_,?_⟩,fun b' sz' off' len' z' r' blk' l' e hm' hl'=> ?_⟩
          rotate_left 3
          ·injection e with e1 _;injection e1 with f1 _ _ _ _;subst f1;rw [hm] at hm';obtain rfl:=Ag hm';have hxs: ∃b2 o2 c2,x=.sl b2 o2 n c2:=by
            unfold Xw at hc;split at hc
            ·grind
            ·split at hc;all_goals simp_all
            ·cases hc
           obtain ⟨b2,o2,c2,rfl⟩:=hxs;exact hkeep.1 _ _ _ _ _ _ _ _ _ _ _ rfl hn1 hm (by grind) hl'
          ·have hv:=hp.val;cases hv with
           | sl _ _ _ _ l' c' hρ' fA eX=>
            have:=Zt.sla (ρ:=ρ') st.next i.size 0 (len+n) (.un i.size) l' c' hρ' (by grind) eX
            grind
          ·have hr:=hp.rel;rw [m2,n2];have hr:Rel ρ' (Wz (Wz st.mem b none) st.next (some ⟨((blk.cells.drop (off*i.size)).take (len*i.size))++new,e,none⟩)) (st.next+1) w':=hr;rw [eL,←q2] at hr;exact hr.setArr ⟨i.size,len+n,_⟩ rfl hsz1 q1
          ·rw [m2,n2];refine hp.ev.remem fun b' hb' cs ty hcs=> ?_;have hne:b'≠b:=fun e=>by grind
           show _=Yf (Wz (Wz st.mem b none) st.next _) b';rw [Zu _ _ (by omega),Zu _ _ hne,Zu _ _ (by omega),Zu _ _ hne]
         | slan=>
          have hq:=w2y (get:=fun _=>List.replicate i.size AVal.undef) (off:=0) (len:=0) (N:=0) (new:=new) (fun i hi=>absurd hi (AJ _)) rfl hnl;have hfe:Zh (fun _=>List.replicate i.size AVal.undef) 0 0 i.size new=Zh A.get off 0 i.size new:=rfl;rw [hfe] at hq;obtain ⟨q1,q2⟩:=hq;have hn0:Nat.beq n 0=false:=by cases n with | zero=>omega | succ n=>rfl
          have hroom':Nat.ble ((n+1)*(i.bytes+1)) room=true:=AV (by grind);have h0:z0s P cx.floor st ts.toList (.nils ::x::xr)=some (.sl st.next 0 n (.un i.size),y1d st new e):=by
           rw [hts];unfold z0s
           grind [Ur]
          obtain ⟨ρ',uv,w',dH,hp,_,hkeep⟩:=z0g (type:=type) h cx.floor h0 (us:=⟨_⟩) (.cons .nils hr);refine ⟨ρ',uv,w',dH,⟨?_,?_,?_⟩,fun b' sz' off' len' z' r' blk' l' e hm' hl'=> ?_⟩
          rotate_left 3
          ·have hq:=h.blk b' l' blk' hl' hm';refine hq.world (Rho.le_refl ρ) ?_;obtain ⟨_,_,_,cs0,el0,g1,_⟩:=hq;rw [g1];exact hkeep.2 _ rfl _ _ g1
          ·have hv:=hp.val;rw [Af];cases hv with
           | sl _ _ _ _ l' c' hρ' fA eX=>
            have:=Zt.sla (ρ:=ρ') st.next i.size 0 n (.un i.size) l' c' hρ' (by grind) eX
            grind
          ·have hr:Rel ρ' (Wz st.mem st.next (some ⟨new,e,none⟩)) (st.next+1) w':=hp.rel;have hr:=hr.kill b;have hr:Rel ρ' (Wz (Wz st.mem b none) st.next (some ⟨new,e,none⟩)) (st.next+1) w':=hr.remem fun b'=>by
            simp only [Vm];by_cases e1:b'=st.next
            ·rw [AK e1,AF (by omega),AK e1]
            simp_all
           rw [show new=Yk (0+n) (Zh A.get off 0 i.size new) by rw [q2];simp] at hr;rw [m2,n2];have:=hr.setArr ⟨i.size,0+n,Zh A.get off 0 i.size new⟩ rfl hsz1 q1;exact this
          ·rw [m2,n2];refine hp.ev.remem fun b' hb' cs ty hcs=> ?_;have hne:b'≠b:=fun e=>by grind
           show _=Yf (Wz st.mem st.next _) b';rw [Zu _ _ (by omega),Zu _ _ hne,Zu _ _ (by omega)]
      ·cases ha
     ·cases ha
    ·cases ha
  ·cases ha
 ·cases ha
theorem Rel.ghost {mem:Mem} {next:Nat} {w:World} (h:Rel ρ mem next w) (o:Option ABlk):Rel ρ (Wz mem next o) (next+1) w:=by
 have ne: ∀c l,ρ c=some l→c≠next:=fun c l e=>BC (h.dom c l e)
 refine ⟨fun c l e=>Bi (h.dom c l e),fun c c' m m' e e' he hs hs'=> ?_,fun c m ac e hc=> ?_,h.old,fun c m e hs=> ?_,h.real,fun c hc=> ?_,fun j l e=>Bi (h.ldom j l e)⟩
 ·rw [Zu _ _ (ne _ _ e)] at hs;rw [Zu _ _ (ne _ _ e')] at hs';exact h.inj c c' m m' e e' he hs hs'
 ·rw [Zu _ _ (ne _ _ e)] at hc;exact h.blk c m ac e hc
 ·rw [Zu _ _ (ne _ _ e)] at hs;exact h.sep c m e hs
 ·rw [Zu _ _ (by omega)];exact h.bd c (by omega)
theorem Ev.ghost {mem:Mem} {next:Nat} {w:World} (h:Rel ρ mem next w) (floor:Nat) (o:Option ABlk):Ev ρ ρ floor mem next (Wz mem next o) (next+1) w w where
 ext:=Rho.le_refl _
 new _ _:=rfl
 nxt:=BX _
 unborn k hk _ cs ty hm:=by grind [Zu]
 frame _ _ hk _:=hk
 fresh k m hk e:=by have:=h.dom k m e;omega
 size:=Aq _
 os:=rfl
 tape:=rfl
 output:=rfl
 still _ _:=rfl
theorem v5v {mem:Mem} {next:Nat} {w:World} (h:Rel ρ mem next w) {n sz:Nat} {g:Nat→List AVal} {ux:Value} (hx:Zt ρ (.dat n g) ux) (hg: ∀i,i<n→(g i).length =sz) (hsz:1≤sz):
  (∀w,(Builtin.lenOf ux).run P w=.ok n w)∧ ∃vs:Array Value,Ue ρ (Yk n g) vs∧ ∀d,(Builtin.firstCells sz n ux).run P {w with drawn:=d}=.ok vs {w with drawn:=d}:=by
 cases hx with
 | datn=>exact ⟨fun w=>by simp [Builtin.lenOf], #[],⟨by simp [Yk],fun i h1 h2=>by grind⟩,fun d=>by simp [Builtin.firstCells]⟩
 | datz=>exact ⟨fun w=>by simp [Builtin.lenOf], #[],⟨by simp [Yk],fun i h1 h2=>by grind⟩,fun d=>by simp [Builtin.firstCells,loadCells,loadCellsFrom]⟩
 | dat _ _ blk base sz' cap val dM fF hv hh=>
  refine ⟨fun w=>by simp [Builtin.lenOf],?_⟩;have hl:=Ym n hg;have hdiv: ∀k,k<n*sz→k / sz<n∧k %sz<sz∧k / sz*sz+k %sz=k:=fun k hk=>
   ⟨A9 (by grind),Bk _ hsz,by rw [Bv];exact Bn k sz⟩
  have eH: ∀(d k:Nat),k<n*sz→({w with drawn:=d}:World).cell? ((⟨blk,base,none⟩:Addr).add k)=some (val (k / sz) (k %sz)):=by
   intro d k hk;obtain ⟨hq,hj,e4⟩:=hdiv k hk;have hs:sz'=sz:=by grind
   obtain ⟨cs,el,fz,e1,e2⟩:=hh (k / sz) (k %sz) hq (by omega);have e3:=h.old _ _ e1
   grind [Xb,World.cell?]
  refine ⟨_,⟨?_,?_⟩,fun d=>by simp only [Builtin.firstCells];exact run_loadCells _ _ _ (fun k=>val (k / sz) (k %sz)) (eH d)⟩
  ·simp [hl]
  ·intro k h1 h2;obtain ⟨hq,hj,e4⟩:=hdiv k (by grind);have hj':k %sz<(g (k / sz)).length :=by grind
   have hr:=Wi n hg (k / sz) (k %sz) hq hj;rw [e4,Au h1,Au hj'] at hr;rw [Ag hr]
   simpa using (hv (k / sz) (k %sz) hq hj').mono (y6j ρ)
theorem y2n {g:Nat→List AVal} {p:AVal→Bool} (n:Nat) (h: ∀i,i<n→(g i).all p=true):(Yk n g).all p=true:=by
 grind [Yk]
theorem z3x {get:Nat→List AVal} {sz N off len:Nat} (hl: ∀i,i<N→(get i).length =sz) (h:off+len≤N):Yk len (fun k=>get (off+k))=((Yk N get).drop (off*sz)).take (len*sz):=by
 have h1: ∀k,k<len→(get (off+k)).length =sz:=fun k hk=>hl _ (by omega);have hL:=Ym len h1;have hN:=Ym N hl;have hm:(off+len)*sz≤N*sz:=AC _ h;rw [AQ] at hm;apply List.ext_getElem?;intro i;by_cases hi:i<len*sz
 ·have hsz:0<sz:=by
   grind
  have hj:i %sz<sz:=Bk _ hsz;have hq:i / sz<len:=A9 (by grind);have e:i / sz*sz+i %sz=i:=by rw [Bv];exact Bn i sz
  have a1:=Wi len h1 (i / sz) (i %sz) hq hj;have a2:=Wi N hl (off+i / sz) (i %sz) (by omega) hj
  grind
 grind
theorem x0e {mem:Mem} {next:Nat} {w:World} (h:Rel ρ mem next w) {t u e:TypeId} {ut:TypeDesc} {i:TypeInfo} {z:Value} {zero:List AVal} {x:AVal} {ux:Value} {n:Nat} {g:Nat→List AVal} {o:Bool} (hu:P.underlying t=some (.slice e)) (hut:P.underlying u=some ut) (hi:P.info? e=some i) (hz:i.zero=some z)
  (hzr:Ue ρ zero z.cells) (hzl:zero.length=i.size) (hzs:zero.all z9u=true) (hsz:1≤i.size) (hc:x0f mem i.size zero ut x=some (n,g,o)) (ho:o=true) (hx:Zt ρ x ux):
  (∀k,k<n→(g k).length =i.size)∧ ∃vs,u2z P ρ t u e i z ux n (Yk n g) vs w∧ ∀v∈vs.toList,v.oneCell'=true:=by
 subst ho;unfold x0f at hc;split at hc
 ·rename_i k m;split at hc
  ·rename_i kt;simp only [Ae,Ad] at hc;obtain ⟨rfl,rfl,h0⟩:=hc;have hcs:Ur mem i.size zero (.int kt) (.int k m)=some (m.toNat,rep m.toNat zero):=by
    grind [Ur]
   obtain ⟨vs,hF⟩:=Jm (P:=P) (u:=u) (t:=t) h hu hut hi hz hzr hzl hcs hx (by rw [z1r,hzl]);rw [w3k] at hF;exact ⟨fun _ _=>hzl,vs,hF,Zt.cells_oneCell hF.rel (y2n _ fun _ _=>hzs)⟩
  ·cases hc
 ·rename_i nn gg;split at hc
  ·cases hc
  ·rename_i hni;simp only [Ae,Ad] at hc;obtain ⟨rfl,rfl,h0⟩:=hc;have hp:= @Av _ (Classical.propDecidable _) h0;obtain ⟨dG,vs,hvs,hfc⟩:=v5v (P:=P) h hx (fun i hi=>(hp i hi).1) hsz;have eZ:(Builtin.firstCells i.size nn ux).run P w=.ok vs w:=hfc w.drawn;have hfc1:(Builtin.firstCells i.size nn ux).run P w.drew=.ok vs w.drew:=hfc (w.drawn+1);exact ⟨fun i hi=>(hp i hi).1,vs,⟨hvs,fun _ dL _ hst hno=>z7h hu hut (fun k e=>hni k e) hi (dG w) eZ dL hst hno,fun hold dL eG=>z5p hu hut (fun k e=>hni k e) hi hz (dG w) hfc1 hold dL eG⟩,
    Zt.cells_oneCell hvs (y2n _ fun i hi=>(hp i hi).2)⟩
 ·split at hc
  ·cases hc
  ·rename_i hni;simp only [Ae,Ad] at hc;obtain ⟨rfl,rfl,_⟩:=hc;have hcs:Ur mem i.size zero ut .nils =some (0,[]):=by
    unfold Ur;split
    ·grind
    ·rfl
   obtain ⟨vs,hF⟩:=Jm (P:=P) (u:=u) (t:=t) h hu hut hi hz hzr hzl hcs hx (by simp);exact ⟨fun k hk=>absurd hk (AJ _),vs,hF,Zt.cells_oneCell hF.rel rfl⟩
 ·rename_i b zz off len0 cap;split at hc
  ·cases hc
  ·rename_i hni;split at hc
   ·rename_i cells ty A hm;simp only [Ae,Ad,Ac,At] at hc;obtain ⟨rfl,rfl,h1,h2,dT,h4⟩:=hc;have hp:= @Av _ (Classical.propDecidable _) h4;have h1:=Aj h1;have h2:=Aj h2;subst h1;have nc: ∀v,Ur mem i.size zero ut v=Xw mem i.size v:=fun v=>by
     grind [Ur]
    cases hx with
    | sla _ _ _ _ _ l c hρ dM hlc=>
     obtain ⟨eL,eY,dP⟩:=(h.blk b l _ hρ hm).arr A rfl;rw [h2] at dP;simp only at eL;have hrp:=z3x dP dT;have hlr:=Ym A.n dP;have hm2:(off+len0)*i.size≤A.n*i.size:=AC _ dT;rw [AQ] at hm2;have dG:((cells.drop (off*i.size)).take (len0*i.size)).length =len0*i.size:=by
      grind
     have hcut:cut cells (off*i.size) (len0*i.size)=some ((cells.drop (off*i.size)).take (len0*i.size)):=by simp_all [cut]
     have hcs:Ur mem i.size zero ut (.sl b (off*i.size) len0 (.ex c))=some (len0,(cells.drop (off*i.size)).take (len0*i.size)):=by rw [nc];simp [Xw,hm,hcut]
     obtain ⟨vs,hF⟩:=Jm (P:=P) (u:=u) (t:=t) h hu hut hi hz hzr hzl hcs (.sl b (off*i.size) len0 (.ex c) l c hρ rfl hlc) dG;rw [eL,←hrp] at hF;exact ⟨fun k hk=>(hp k hk).1,vs,hF,Zt.cells_oneCell hF.rel (y2n _ fun k hk=>(hp k hk).2)⟩
    | slan=>
     have hcs:Ur mem i.size zero ut .nils =some (0,[]):=by rw [nc];rfl
     obtain ⟨vs,hF⟩:=Jm (P:=P) (u:=u) (t:=t) h hu hut hi hz hzr hzl hcs .nils (by simp);exact ⟨fun k hk=>absurd hk (AJ _),vs,hF,Zt.cells_oneCell hF.rel rfl⟩
   ·cases hc
 ·cases hc
def j6u (P:Program) (ρ:Rho) (floor:Nat) (mem mem':Mem) (next:Nat) (sz:Nat) (e:TypeId) (N:Nat) (G:Nat→List AVal) (w:World) (r:World→Result Value):Prop:=
 ∃ρ' u w',r w=.ok u w'∧Zt ρ' (.sla next sz 0 N (.un sz)) u∧Rel ρ' (Wz mem' next (some ⟨Yk N G,e,some ⟨sz,N,G⟩⟩)) (next+1) w'∧Ev ρ ρ' floor mem next (Wz mem' next (some ⟨Yk N G,e,some ⟨sz,N,G⟩⟩)) (next+1) w w'
theorem y5r {mem:Mem} {next:Nat} {w:World} (h:Rel ρ mem next w) (floor:Nat) {t u e:TypeId} {type:TypeId} {ts:List TypeId} {xs:List Value} {i:TypeInfo} {z ux:Value} {n:Nat} {new:List AVal} {vs:Array Value} (hF:u2z P ρ t u e i z ux n new vs w)
  (eB: ∀v∈vs.toList,v.oneCell'=true) (hnl:new.length=n*i.size) (hzs:z.cells.size=i.size) (hsz:1≤i.size) {len c off b:Nat} {l:Loc} {blk:ABlk} (hrm:(len+n+1)*(i.bytes+1)≤room)
  (hρ:ρ b=some l) (hm:Yf mem b=some blk) (hfl:floor≤b) (hoff:off+len*i.size≤blk.cells.length) (hlc:len≤c) (dM:(l.n≤off+c*i.size∧off+c*i.size≤l.tot)∨c≤len)
  {G:Nat→List AVal} (hG:Yk (len+n) G=(blk.cells.drop off).take (len*i.size)++new) (hGl: ∀k,k<len+n→(G k).length =i.size):
  j6u P ρ floor mem (Wz mem b none) next i.size e (len+n) G w fun w=>(Builtin.append_ (t::u::ts).toArray type ((.slice (some ⟨l.blk,l.base+off,none⟩) len c)::ux::xs).toArray).run P w:=by
 have hvs:=hF.rel;have hvsz:vs.size=n*i.size:=by rw [←hvs.1];exact hnl
 have hbk:=h.blk b l blk hρ hm;have hln:=hbk.n;have htot:=hbk.tot;have hmul:(len+n)*i.size=len*i.size+n*i.size:=AQ _ _ _;have hcut:cut blk.cells off (len*i.size)=some ((blk.cells.drop off).take (len*i.size)):=by unfold cut;simp only;rw [show Nat.beq ((blk.cells.drop off).take (len*i.size)).length (len*i.size)=true from by rw [Nat.beq_eq];simp;omega];rfl
 have hcos:Xw mem i.size (.sl b off len (.ex c))=some (len,(blk.cells.drop off).take (len*i.size)):=by simp [Xw,hm,hcut]
 have holdl:((blk.cells.drop off).take (len*i.size)).length =len*i.size:=by simp;omega
 obtain ⟨_,hfo⟩:=Vu (P:=P) h hcos (.sl b off len (.ex c) l c hρ rfl hlc) holdl;obtain ⟨ovs,hovs,hof⟩:=hfo len (Aq _);rw [AU (by omega)] at hovs;have hovz:ovs.size=len*i.size:=by rw [←hovs.1];exact holdl
 have hof1:(Builtin.firstCells i.size len (.slice (some ⟨l.blk,l.base+off,none⟩) len c)).run P w.drew=.ok ovs w.drew:=hof (w.drawn+1);have hrn:n=0∨(n+1)*(i.bytes+1)≤1099511627776:=.inr (AE (AC _ (by omega)) hrm);by_cases dL:len+n≤c
 ·-- there is room
  have hcm:(len+n)*i.size≤c*i.size:=AC _ dL;obtain ⟨T,t1,t2,t3⟩: ∃T,off+len*i.size - off+new.length≤T∧off+T≤l.tot∧c*i.size≤T:=by
   rcases dM with ⟨c1,c2⟩ | c1
   ·exact ⟨l.tot - off,by omega,by omega,by omega⟩
   ·have:n=0:=(by omega);subst this;have:c=len:=(by omega);subst this;exact ⟨c*i.size,by omega,by omega,by omega⟩
  obtain ⟨cur,el,hw,hcsz,dF⟩:=h.beyond2 hρ hm (off:=off) (m:=off+len*i.size) (T:=T) (new:=new) (vs:=vs.toList) e (by grind) (by omega) hoff t1 t2 (fun j h1 h2=>by simpa using hvs.2 j h1 (by grind));have hst:=run_storeCells_at P l.blk (l.base+off+len*i.size) el vs.toList 0 cur w hw (by grind) eB;rw [Bh] at hst;have dH:=hF.hin (type:=type) (ts:=ts) (base:=some ⟨l.blk,l.base+off,none⟩) (len:=len) (c:=c) (xs:=xs) hrn dL (w':=w.setRow l.blk (cur.toList.take (l.base+off+len*i.size)++vs.toList++cur.toList.drop (l.base+off+len*i.size+vs.toList.length)).toArray)
   (fun a e=>by cases e;rw [Xb];exact hst) (fun e=>by cases e)
  have hdt:(blk.cells.take (off+len*i.size)).drop off=(blk.cells.drop off).take (len*i.size):=by
   grind
  rw [hdt,←hG,←AG] at dF;refine ⟨_,_,_,dH,?_,dF.setArr ⟨i.size,len+n,G⟩ rfl hsz hGl,?_⟩
  ·have:=Zt.sla (ρ:=Uv ρ next ⟨l.blk,l.base+off,off+len*i.size - off+new.length,T⟩) next i.size 0 (len+n) (.un i.size) ⟨l.blk,l.base+off,off+len*i.size - off+new.length,T⟩ c (by simp [Uv])
    (by grind [z0x]) (by omega)
   grind
  grind [Ev.ofBeyond]
 ·-- a new row
  let st:St:=⟨.leaf,mem,next,[],true⟩
  have eC:Rel ρ (st.withMem (Wz mem b none)).mem (st.withMem (Wz mem b none)).next w:=h.kill b
  obtain ⟨newCap,fA,rest,dW,dH⟩:=hF.hnew (type:=type) (ts:=ts) (base:=some ⟨l.blk,l.base+off,none⟩) (len:=len) (c:=c) (xs:=xs) hof1 (by omega) (by simpa [room] using hrm);have hov:=hovs.append hvs;have hsum:(ovs++vs).size +rest.size=newCap*i.size:=by rw [Array.size_append,hovz,hvsz,dW,hzs,←AQ,←AQ];grind
  have hp:=z5d eC floor hov rest e e (.sla next i.size 0 (len+n) (.un i.size)) (.slice (some ⟨w.heap.size,0,none⟩) (len+n) newCap) (fun ρ' hρ'=>by
   have:=Zt.sla (ρ:=ρ') next i.size 0 (len+n) (.un i.size) _ newCap hρ' (by
    grind [z0x]) fA
   grind)
  rw [←hG] at hp;refine ⟨Uv ρ next ⟨w.heap.size,0,(Yk (len+n) G).length,(ovs++vs).size +rest.size⟩,_,_,dH,hp.val,?_,?_⟩
  ·exact Rel.setArr hp.rel ⟨i.size,len+n,G⟩ rfl hsz hGl
  ·refine ((Ev.ofKill h floor hρ).trans hp.ev).remem fun b' hb' cs ty hcs=> ?_;have hne: ¬b'=next:=BC hb'
   show Yf (Wz (Wz mem b none) next _) b'=Yf (Wz (Wz mem b none) next _) b';simp only [Vm,AF hne]
theorem x4v {mem:Mem} {next:Nat} {w:World} (h:Rel ρ mem next w) (floor:Nat) {t u e:TypeId} {type:TypeId} {ts:List TypeId} {xs:List Value} {i:TypeInfo} {z ux:Value} {n:Nat} {new:List AVal} {vs:Array Value} (hF:u2z P ρ t u e i z ux n new vs w)
  (hnl:new.length=n*i.size) (hzs:z.cells.size=i.size) (hsz:1≤i.size) (hrm:(0+n+1)*(i.bytes+1)≤room) {G:Nat→List AVal} (hG:Yk (0+n) G=new) (hGl: ∀k,k<0+n→(G k).length =i.size):
  j6u P ρ floor mem mem next i.size e (0+n) G w fun w=>(Builtin.append_ (t::u::ts).toArray type ((.slice none 0 0)::ux::xs).toArray).run P w:=by
 have hvs:=hF.rel;have hvsz:vs.size=n*i.size:=by rw [←hvs.1];exact hnl
 rcases Nat.eq_zero_or_pos n with hn0 | hnpos
 ·subst hn0;have dH:=hF.hin (type:=type) (ts:=ts) (base:=none) (len:=0) (c:=0) (xs:=xs) (.inl rfl) (Aq _) (w':=w) (fun a e=>by cases e) (fun _=>rfl);exact ⟨ρ,_,w,dH,.slan _ _ _ _,h.ghost _,Ev.ghost h floor _⟩
 ·obtain ⟨newCap,dM,rest,dW,dH⟩:=hF.hnew (type:=type) (ts:=ts) (base:=none) (len:=0) (c:=0) (xs:=xs) (old:= #[]) (by simp [Builtin.firstCells]) (by omega) (by simpa [room] using hrm);have e0:(#[]:Array Value)++vs=vs:=by simp
  rw [e0] at dH;have hsum:vs.size+rest.size=newCap*i.size:=by rw [hvsz,dW,hzs,←AQ];grind
  let st:St:=⟨.leaf,mem,next,[],true⟩
  have eC:Rel ρ st.mem st.next w:=h
  have hp:=z5d eC floor hvs rest e e (.sla next i.size 0 (0+n) (.un i.size)) (.slice (some ⟨w.heap.size,0,none⟩) (0+n) newCap) (fun ρ' hρ'=>by
   have:=Zt.sla (ρ:=ρ') next i.size 0 (0+n) (.un i.size) _ newCap hρ' (by
    grind [z0x]) dM
   grind)
  rw [←hG] at hp;refine ⟨Uv ρ next ⟨w.heap.size,0,(Yk (0+n) G).length,vs.size+rest.size⟩,_,_,dH,hp.val,Rel.setArr hp.rel ⟨i.size,0+n,G⟩ rfl hsz hGl,?_⟩
  ·refine hp.ev.remem fun b' hb' cs ty hcs=> ?_;have hne: ¬b'=next:=BC hb'
   show Yf (Wz mem next _) b'=Yf (Wz mem next _) b';simp only [Vm,AF hne]
theorem Jt {α β:Type} {f g:α→List β}: ∀{l:List α},(∀a,a∈l→f a=g a)→l.flatMap f=l.flatMap g
 | [],_=>rfl
 | a::l,h=>by rw [List.flatMap_cons,List.flatMap_cons,h a (by simp),Jt fun b hb=>h b (by simp [hb])]
theorem y2m {get g:Nat→List AVal} {len n sz:Nat} (hl: ∀i,i<len→(get i).length =sz) (hg: ∀i,i<n→(g i).length =sz):
  (∀i,i<len+n→(Vp get len g i).length =sz)∧Yk (len+n) (Vp get len g)=Yk len get++Yk n g:=by
 have h1: ∀i,i<len+n→(Vp get len g i).length =sz:=fun i hi=>by
  unfold Vp;cases e:Nat.ble len i with
  | true=>
   have:=Ak e
   grind
  | false=>
   have: ¬len≤i:=fun h=>by rw [AV h] at e;cases e
   grind
 refine ⟨h1,?_⟩;unfold Yk;rw [List.range_add,List.flatMap_append]
 congr 1
 ·refine Jt fun i hi=> ?_;have:=A7.1 hi;unfold Vp;rw [show Nat.ble len i=false from AZ.2 fun e=>by have:=Ak e;omega];rfl
 ·rw [List.flatMap_map];refine Jt fun i hi=> ?_;unfold Vp;rw [show Nat.ble len (len+i)=true from AV (Nat.le_add_right _ _),Ab,Nat.add_sub_cancel_left]
theorem x7n {sz:Nat}: ∀(n:Nat) (l:List AVal),l.length=n*sz→Yk n (fun k=>(l.drop (k*sz)).take sz)=l∧ ∀k,k<n→((l.drop (k*sz)).take sz).length =sz:=by
 intro n l hl;have h1: ∀k,k<n→((l.drop (k*sz)).take sz).length =sz:=fun k hk=>by
  have:(k+1)*sz≤n*sz:=AC _ hk
  grind
 refine ⟨?_,h1⟩;have dG:=Ym n h1;apply List.ext_getElem?;intro i;by_cases hi:i<n*sz
 ·have hsz:0<sz:=by
   grind
  have hj:i %sz<sz:=Bk _ hsz;have hq:i / sz<n:=A9 (by grind);have e:i / sz*sz+i %sz=i:=by rw [Bv];exact Bn i sz
  grind [Wi]
 grind
theorem y7i {cx:Ctx} {st st':St} {w:World} (h:Rel ρ st.mem st.next w) {ts:Array TypeId} {type:TypeId} {xs:List AVal} {us:Array Value} {v:AVal} (ha:z0h P cx st ts.toList xs=some (v,st')) (hob:st'.ob=true) (hx:Vz (Zt ρ) xs us.toList):
  ∃ρ' u w',(Builtin.append_ ts type us).run P w=.ok u w'∧x2w ρ cx.floor st st' v w ρ' u w':=by
 obtain ⟨ts⟩:=ts;obtain ⟨us⟩:=us;simp only at ha hx;unfold z0h at ha;split at ha
 ·rename_i t tu tts s x txs;cases hx with
  | @cons _ su _ _ hs hx=>
   cases hx with
   | @cons _ ux _ uxs hx _=>
    split at ha
    ·rename_i e ut hu hut;split at ha
     ·rename_i i zero hi hz;split at ha
      ·rename_i b len get o1 n g o2 ht hc;obtain ⟨i2,z,hi2,hz2,hzr,_⟩:=Ww (ρ:=ρ) hz;obtain rfl:i=i2:=by grind
       obtain ⟨dZ,ha⟩:=z0f ha;simp only [Ac] at dZ;obtain ⟨⟨⟨hzl,hzsc⟩,hsz⟩,hfl⟩:=dZ;have hzl:=Aj hzl;have hsz:=Ak hsz;have hzs:z.cells.size=i.size:=by rw [←hzr.1];exact hzl
       simp only [An,Ad] at ha;obtain ⟨st1,ho,rfl,rfl⟩:=ha;obtain ⟨_,m2,n2,o4⟩:=z7z ho;obtain ⟨hb,_⟩:=o4 hob;simp only [Ac,At] at hb;obtain ⟨hb1,hb2,hrm⟩:=hb;have m2:st1.mem=Wz (x9r st.mem b) st.next (some ⟨Yk (len+n) (Vp get len g),e,some ⟨i.size,len+n,Vp get len g⟩⟩):=m2
       have n2:st1.next=st.next+1:=n2
       obtain ⟨hgl,vs,hF,eB⟩:=x0e (P:=P) (u:=tu) (t:=t) h hu hut hi hz2 hzr hzl hzsc hsz hc hb2 hx.unN;have hnl:=Ym n hgl
       suffices j6u P ρ cx.floor st.mem (x9r st.mem b) st.next i.size e (len+n) (Vp get len g) w fun w=>(Builtin.append_ (t::tu::tts).toArray type (su::ux::uxs).toArray).run P w by obtain ⟨ρ',u,w',dH,hv,hr,hev⟩:=this;exact ⟨ρ',u,w',dH,hv,by grind,by grind⟩
       unfold z4q at ht;split at ht
       ·simp only [Ae,Ad] at ht;obtain ⟨rfl,rfl,rfl,_⟩:=ht;cases hs;obtain ⟨q1,q2⟩:=y2m (get:=fun _=>[]) (len:=0) (fun i hi=>absurd hi (AJ _)) hgl;exact x4v h cx.floor hF hnl hzs hsz hrm (by rw [q2];simp [Yk]) q1
       ·rename_i b0 off len0 cap;split at ht
        ·rename_i blk hm;split at ht
         ·rename_i old hold;obtain ⟨eT,ht⟩:=z0f ht;simp only [Ac] at eT;obtain ⟨eT,hoff⟩:=eT;have hoff:=Ak hoff;simp only [Ae,Ad] at ht;obtain ⟨rfl,rfl,rfl,_⟩:=ht;obtain ⟨k1,k2,k3⟩:=z5i hold;obtain ⟨r1,r2⟩:=x7n len0 old k2;obtain ⟨q1,q2⟩:=y2m r2 hgl;cases hs with
          | sl _ _ _ _ l c hρ dM hlc=>
           have hbk:=h.blk b0 l blk hρ hm;have k4:off+len0*i.size≤blk.cells.length:=(by omega);refine y5r h cx.floor hF eB hnl hzs hsz hrm hρ hm (Ak hfl) k4 hlc ?_ (by grind) q1;cases cap with
           | ex k=>exact .inr (by simp only [z0x] at dM;rw [dM];exact Ak eT)
           | un zz=>
            have:=Aj eT
            grind [z0x]
         ·cases ht
        ·cases ht
       ·rename_i b0 zz off len0 cap;split at ht
        ·rename_i blk hm;split at ht
         ·rename_i A hA;obtain ⟨eT,ht⟩:=z0f ht;simp only [Ae,Ad] at ht;obtain ⟨rfl,rfl,rfl,rfl⟩:=ht;simp only [Ac,At] at hb1;obtain ⟨hz1,hz2',dT⟩:=hb1;obtain rfl:=Aj hz1;have hAs:=Aj hz2';cases hs with
          | sla _ _ _ _ _ l c hρ dM hlc=>
           obtain ⟨eL,eY,dP⟩:=(h.blk b0 l blk hρ hm).arr A hA;rw [hAs] at dP;have hlr:=Ym A.n dP;have hgl0: ∀k,k<len0→(A.get (off+k)).length =i.size:=fun k hk=>dP _ (by omega);obtain ⟨q1,q2⟩:=y2m hgl0 hgl;have hm2:(off+len0)*i.size≤A.n*i.size:=AC _ dT;rw [AQ] at hm2;refine y5r h cx.floor hF eB hnl hzs hsz hrm hρ hm (Ak hfl) (by grind) hlc ?_ (by rw [q2,z3x dP dT,eL]) q1;cases cap with
           | ex k=>exact .inr (by simp only [z0x] at dM;rw [dM];exact Ak eT)
           | un zz=>
            have:=Aj eT
            grind [z0x]
          | slan=>
           obtain ⟨q1,q2⟩:=y2m (get:=fun k=>A.get (off+k)) (len:=0) (fun i hi=>absurd hi (AJ _)) hgl;obtain ⟨ρ',u,w',dH,hv,hr,hev⟩:=x4v (P:=P) (type:=type) (ts:=tts) (xs:=uxs) h cx.floor hF hnl hzs hsz hrm (G:=Vp (fun k=>A.get (off+k)) 0 g) (by rw [q2];simp [Yk]) q1;have hbn:b0<st.next:=by
            rcases A6 b0 st.next with g | g
            ·exact g
            ·rw [h.bd b0 g] at hm;cases hm
           refine ⟨ρ',u,w',dH,hv,?_,?_⟩
           ·refine (hr.kill b0).remem fun b'=> ?_;simp only [x9r,Vm];by_cases e1:b'=st.next
            ·rw [AK e1,AF (by omega),AK e1]
            simp_all
           ·refine hev.remem fun b' hb' cs ty hcs=> ?_;have hne:b'≠b0:=fun e=>by grind
            show Yf (Wz (Wz st.mem b0 none) st.next _) b'=Yf (Wz st.mem st.next _) b';rw [Zu _ _ (by omega),Zu _ _ hne,Zu _ _ (by omega)]
         ·cases ht
        ·cases ht
       ·cases ht
      ·cases ha
     ·cases ha
    ·cases ha
 ·cases ha
theorem w1y {st st':St} {w:World} (h:Rel ρ st.mem st.next w) (floor:Nat) {ts:Array TypeId} {type:TypeId} {xs:List AVal} {us:Array Value} {v:AVal} (ha:w2b P floor st ts.toList xs=some (v,st')) (hx:Vz (Zt ρ) xs us.toList):
  ∃ρ' u w',(Builtin.copy_ ts type us).run P w=.ok u w'∧x2w ρ floor st st' v w ρ' u w'∧st'.env=st.env∧st'.ob=st.ob:=by
 obtain ⟨ts⟩:=ts;obtain ⟨us⟩:=us;simp only at ha hx;unfold w2b at ha;split at ha
 ·rename_i t _ d x _;cases hx with
  | @cons _ ud _ _ hd hx=>
   cases hx with
   | @cons _ ux _ uxs hx _=>
    split at ha
    ·rename_i e hu;split at ha
     ·rename_i i hi;split at ha
      ·rename_i m src hcs;cases hc:(Nat.beq src.length (m*i.size)&&src.all z9u) with
       | false=>grind
       | true=>
        rw [hc,Ab] at ha;simp only [Ac] at hc;have hsl:=Aj hc.1;have hsc:=hc.2;obtain ⟨dG,dU⟩:=Vu (P:=P) h hcs hx hsl;split at ha
        ·cases hd;simp only [Ae,Ad] at ha;obtain ⟨rfl,rfl⟩:=ha;obtain ⟨vs,hvs,hfc⟩:=dU 0 (AA _);have eZ:(Builtin.firstCells i.size 0 ux).run P w=.ok vs w:=hfc w.drawn;refine ⟨ρ,_,w,?_,⟨.int _ _,h,Ev.refl _ _ _ _ _ h.dom⟩,rfl,rfl⟩;simp_all [Builtin.copy_,run_underlying,Zi,goInt]
        ·rename_i dn dg;obtain ⟨hdn,ha'⟩:=z0f ha;clear ha;obtain rfl:=Aj hdn;simp only [Ae,Ad] at ha';obtain ⟨rfl,rfl⟩:=ha';obtain ⟨vs,hvs,hfc⟩:=dU 0 (AA _);have eZ:(Builtin.firstCells i.size 0 ux).run P w=.ok vs w:=hfc w.drawn;have hv0:vs= #[]:=by
          have:vs.size=0:=by rw [←hvs.1];simp
          grind
         subst hv0;cases hd with
         | datn=>refine ⟨ρ,_,w,?_,⟨.int _ _,h,Ev.refl _ _ _ _ _ h.dom⟩,rfl,rfl⟩;simp_all [Builtin.copy_,run_underlying,Zi,goInt]
         | datz=>refine ⟨ρ,_,w,?_,⟨.int _ _,h,Ev.refl _ _ _ _ _ h.dom⟩,rfl,rfl⟩;simp_all [Builtin.copy_,run_underlying,Zi,goInt,storeCells]
         | dat=>refine ⟨ρ,_,w,?_,⟨.int _ _,h,Ev.refl _ _ _ _ _ h.dom⟩,rfl,rfl⟩;simp_all [Builtin.copy_,run_underlying,Zi,goInt,storeCells]
        ·rename_i b off len cap;split at ha
         ·rename_i blk hm;dsimp only at ha;cases hf:(Nat.ble floor b&&Nat.ble (off+(Nat.min m len)*i.size) blk.cells.length) with
          | false=>grind
          | true=>
           rw [hf,Ab] at ha;simp only [Ac] at hf;have hfl:=Ak hf.1;have dT:=Ak hf.2;simp only [Ae,Ad] at ha;obtain ⟨rfl,rfl⟩:=ha;cases hd with
           | sl _ _ _ _ l c hρ dM hlc=>
            have hmin:Nat.min m len≤m:=Nat.min_le_left _ _;have hmul:Nat.min m len*i.size≤m*i.size:=AC _ hmin;obtain ⟨vs,hvs,hfc⟩:=dU (Nat.min m len) hmin;have eZ:(Builtin.firstCells i.size (Nat.min m len) ux).run P w=.ok vs w:=hfc w.drawn;have eB:=Zt.cells_oneCell hvs (Ar.2 fun a ha=>Ar.1 hsc a (List.mem_of_mem_take ha));have hvl:(src.take (Nat.min m len*i.size)).length =Nat.min m len*i.size:=(by grind);obtain ⟨cur,el,hw,hcsz,dF⟩:=h.write hρ hm (off:=off) (cs:=src.take (Nat.min m len*i.size)) (vs:=vs.toList) (by simpa using hvs.1.symm) (by grind) (fun j h1 h2=>by simpa using hvs.2 j h1 (by grind));have hst:=run_storeCells_at P l.blk (l.base+off) el vs.toList 0 cur w hw (by grind) eB;rw [Bh] at hst;refine ⟨ρ,.int .i64 (Nat.min m len),w.setRow l.blk (cur.toList.take (l.base+off)++vs.toList++cur.toList.drop (l.base+off+vs.toList.length)).toArray,?_,⟨.int _ _,?_,Ev.ofWrite h hρ hfl _ _⟩,rfl,rfl⟩;all_goals simp_all [Builtin.copy_,run_underlying,Zi,goInt,St.withMem]
         ·cases ha
        ·cases ha
      ·cases ha
     ·cases ha
    ·cases ha
 ·cases ha
theorem v5u {mem:Mem} {next:Nat} {w:World} (h:Rel ρ mem next w) {n sz:Nat} {g:Nat→List AVal} {ux:Value} (hx:Zt ρ (.dat n g) ux) (hg: ∀i,i<n→(g i).length =sz) (hsz:1≤sz) {m:Nat} (hm:m≤n):
  (∀w,(Builtin.lenOf ux).run P w=.ok n w)∧ ∃vs:Array Value,Ue ρ (Yk m g) vs∧ ∀d,(Builtin.firstCells sz m ux).run P {w with drawn:=d}=.ok vs {w with drawn:=d}:=by
 cases hx with
 | datn=>
  obtain rfl:m=0:=by omega
  exact ⟨fun w=>by simp [Builtin.lenOf], #[],⟨by simp [Yk],fun i h1 h2=>by grind⟩,fun d=>by simp [Builtin.firstCells]⟩
 | datz=>
  obtain rfl:m=0:=by omega
  exact ⟨fun w=>by simp [Builtin.lenOf], #[],⟨by simp [Yk],fun i h1 h2=>by grind⟩,fun d=>by simp [Builtin.firstCells,loadCells,loadCellsFrom]⟩
 | dat _ _ blk base sz' cap val dM fF hv hh=>
  refine ⟨fun w=>by simp [Builtin.lenOf],?_⟩;have hg': ∀i,i<m→(g i).length =sz:=fun i hi=>hg i (by omega);have hl:=Ym m hg';have hdiv: ∀k,k<m*sz→k / sz<m∧k %sz<sz∧k / sz*sz+k %sz=k:=fun k hk=>
   ⟨A9 (by grind),Bk _ hsz,by rw [Bv];exact Bn k sz⟩
  have eH: ∀(d k:Nat),k<m*sz→({w with drawn:=d}:World).cell? ((⟨blk,base,none⟩:Addr).add k)=some (val (k / sz) (k %sz)):=by
   intro d k hk;obtain ⟨hq,hj,e4⟩:=hdiv k hk;have hs:sz'=sz:=by grind
   obtain ⟨cs,el,fz,e1,e2⟩:=hh (k / sz) (k %sz) (by omega) (by omega);have e3:=h.old _ _ e1
   grind [Xb,World.cell?]
  refine ⟨_,⟨?_,?_⟩,fun d=>by simp only [Builtin.firstCells];exact run_loadCells _ _ _ (fun k=>val (k / sz) (k %sz)) (eH d)⟩
  ·simp [hl]
  ·intro k h1 h2;obtain ⟨hq,hj,e4⟩:=hdiv k (by grind);have hj':k %sz<(g (k / sz)).length :=by grind
   have hr:=Wi m hg' (k / sz) (k %sz) hq hj;rw [e4,Au h1,Au hj'] at hr;rw [Ag hr]
   simpa using (hv (k / sz) (k %sz) (by omega) hj').mono (y6j ρ)
theorem x3j {g:Nat→List AVal} {sz n m:Nat} (hg: ∀i,i<n→(g i).length =sz) (hm:m≤n):(Yk n g).take (m*sz)=Yk m g:=by
 have:=z3x (off:=0) (len:=m) hg (by omega)
 grind
theorem v2g {get g:Nat→List AVal} {sz N off n:Nat} (hl: ∀i,i<N→(get i).length =sz) (hg: ∀i,i<n→(g i).length =sz) (h:off+n≤N):
  (∀i,i<N→(Vg get off n g i).length =sz)∧Yk N (Vg get off n g)=(Yk N get).take (off*sz)++Yk n g++(Yk N get).drop (off*sz+n*sz):=by
 have h1: ∀i,i<N→(Vg get off n g i).length =sz:=fun i hi=>by
  unfold Vg;cases e:(Nat.ble off i&&Nat.ble (i+1) (off+n)) with
  | true=>
   simp only [Ac] at e;have e1:=Ak e.1;have e2:=Ak e.2
   grind
  | false=>exact hl _ hi
 refine ⟨h1,?_⟩;obtain ⟨r,rfl⟩: ∃r,N=off+(n+r):=⟨N - off - n,by omega⟩
 have e2:off*sz+n*sz=(off+n)*sz:=(AQ _ _ _).symm;rw [x3j hl (by omega),e2];have e3:(Yk (off+(n+r)) get).drop ((off+n)*sz)=Yk r fun k=>get (off+n+k):=by
  rw [z3x (off:=off+n) (len:=r) hl (by omega)];rw [AU];have:=Ym _ hl
  grind
 rw [e3];unfold Yk;rw [List.range_add,List.range_add,List.flatMap_append,Bo,List.flatMap_append,←AI]
 congr 1
 ·congr 1
  ·refine Jt fun i hi=> ?_;have:=A7.1 hi;unfold Vg;rw [show Nat.ble off i=false from AZ.2 fun e=>by have:=Ak e;omega];rfl
  ·rw [List.flatMap_map];refine Jt fun i hi=> ?_;have:=A7.1 hi;unfold Vg;rw [AV (show off≤off+i by omega),AV (show off+i+1≤off+n by omega),Nat.add_sub_cancel_left];rfl
 ·rw [List.map_map,List.flatMap_map];refine Jt fun i hi=> ?_;unfold Vg;show (bif Nat.ble off (off+(n+i))&&Nat.ble (off+(n+i)+1) (off+n) then _ else _)=_;rw [show Nat.ble (off+(n+i)+1) (off+n)=false from AZ.2 fun e=>by have:=Ak e;omega,Bool.and_false,Aa]
  grind
theorem x2c {mem:Mem} {next:Nat} {w:World} (h:Rel ρ mem next w) {sz:Nat} (hsz:1≤sz) {x:AVal} {ux:Value} {m:Nat} {g:Nat→List AVal} {o:Bool} (hc:w1f mem sz x=some (m,g,o)) (ho:o=true) (hx:Zt ρ x ux):
  (∀k,k<m→(g k).length =sz∧(g k).all z9u=true)∧ ∀n,n≤m→(∀w,(Builtin.lenOf ux).run P w=.ok m w)∧ ∃vs:Array Value,Ue ρ (Yk n g) vs∧ ∀d,(Builtin.firstCells sz n ux).run P {w with drawn:=d}=.ok vs {w with drawn:=d}:=by
 subst ho;have part: ∀(b z off len c:Nat) (l:Loc) (blk:ABlk) (A:Arr),ρ b=some l→Yf mem b=some blk→blk.arr=some A→len≤c→(Nat.beq z sz&&(Nat.beq A.sz sz&&(decide (off+len≤A.n)&&pd (∀i,i<len→(A.get (off+i)).length =sz∧(A.get (off+i)).all z9u=true))))=true→
   (∀k,k<len→(A.get (off+k)).length =sz∧(A.get (off+k)).all z9u=true)∧ ∀n,n≤len→(∀w,(Builtin.lenOf (.slice (some ⟨l.blk,l.base+off*z,none⟩) len c)).run P w=.ok len w)∧ ∃vs:Array Value,Ue ρ (Yk n fun k=>A.get (off+k)) vs∧ ∀d,(Builtin.firstCells sz n (.slice (some ⟨l.blk,l.base+off*z,none⟩) len c)).run P {w with drawn:=d}=.ok vs {w with drawn:=d}:=by
  intro b z off len c l blk A hρ hm hA dG ho;simp only [Ac,At] at ho;obtain ⟨k1,k2,k3,k4⟩:=ho;obtain rfl:=Aj k1;have k2:=Aj k2;have k4:= @Av _ (Classical.propDecidable _) k4;refine ⟨k4,fun n hn=> ?_⟩;obtain ⟨eL,eY,dP⟩:=(h.blk b l blk hρ hm).arr A hA;rw [k2] at dP;have hlr:=Ym A.n dP;have hm2:(off+len)*z≤A.n*z:=AC _ k3;rw [AQ] at hm2;have hpl:=z3x dP k3;have hL:(Yk len fun k=>A.get (off+k)).length =len*z:=Ym len fun i hi=>(k4 i hi).1;have hcs:Xw mem z (.sl b (off*z) len (.ex c))=some (len,Yk len fun k=>A.get (off+k)):=by simp_all [Xw,cut]
  obtain ⟨q1,q2⟩:=Vu (P:=P) h hcs (.sl b (off*z) len (.ex c) l c hρ rfl dG) hL
  grind [x3j]
 have none0: ∀(g:Nat→List AVal) (n:Nat) (p:Option Addr) (c:Nat),n≤0→(∀w,(Builtin.lenOf (.slice p 0 c)).run P w=.ok 0 w)∧ ∃vs:Array Value,Ue ρ (Yk n g) vs∧ ∀d,(Builtin.firstCells sz n (.slice p 0 c)).run P {w with drawn:=d}=.ok vs {w with drawn:=d}:=by
  intro g n p c hn;obtain rfl:n=0:=by omega
  cases p with
  | none=>exact ⟨fun w=>by simp [Builtin.lenOf], #[],⟨by simp [Yk],fun i h1 h2=>by grind⟩,fun d=>by simp [Builtin.firstCells]⟩
  | some a=>refine ⟨fun w=>by simp [Builtin.lenOf],_,⟨?_,fun i h1 h2=>by simp [Yk] at h1⟩,fun d=>by simp only [Builtin.firstCells];exact run_loadCells _ _ _ (fun _=>undef) fun k hk=>by grind⟩;simp [Yk]
 unfold w1f at hc;split at hc
 ·simp only [Ae,Ad] at hc;obtain ⟨rfl,rfl,_⟩:=hc;cases hx;exact ⟨fun k hk=>absurd hk (AJ _),fun n hn=>none0 _ n none 0 hn⟩
 ·rename_i n' g';simp only [Ae,Ad] at hc;obtain ⟨rfl,rfl,h0⟩:=hc;have hp:= @Av _ (Classical.propDecidable _) h0;exact ⟨hp,fun n hn=>v5u (P:=P) h hx (fun i hi=>(hp i hi).1) hsz hn⟩
 ·split at hc
  ·rename_i blk hm;split at hc
   ·rename_i A hA;simp only [Ae,Ad] at hc;obtain ⟨rfl,rfl,h0⟩:=hc;cases hx with
    | sla _ _ _ _ _ l c hρ dM dG=>grind
    | slan=>exact ⟨fun k hk=>absurd hk (AJ _),fun n hn=>none0 _ n none 0 hn⟩
   ·cases hc
  ·cases hc
 ·split at hc
  ·rename_i blk hm;split at hc
   ·rename_i A hA;simp only [Ae,Ad] at hc;obtain ⟨rfl,rfl,h0⟩:=hc;cases hx with
    | slv _ _ _ _ l c hρ dG=>grind
    | slve=>exact ⟨fun k hk=>absurd hk (AJ _),fun n hn=>none0 _ n _ _ hn⟩
    | slvn=>exact ⟨fun k hk=>absurd hk (AJ _),fun n hn=>none0 _ n none 0 hn⟩
   ·cases hc
  ·cases hc
 ·cases hc
theorem Rel.reblk {mem:Mem} {next:Nat} {w:World} (h:Rel ρ mem next w) {b:Nat} {blk blk':ABlk} (hm:Yf mem b=some blk) (hb: ∀l,ρ b=some l→Us ρ w blk l→Us ρ w blk' l):Rel ρ (Wz mem b (some blk')) next w:=by
 have iff: ∀c,(Yf (Wz mem b (some blk')) c).isSome =true→(Yf mem c).isSome =true:=fun c hc=>by
  grind [Vm]
 have hlt:b<next:=by
  rcases A6 b next with q | q
  ·exact q
  ·rw [h.bd b q] at hm;cases hm
 refine ⟨h.dom,fun c c' m m' e e' he hs hs'=>h.inj c c' m m' e e' he (iff c hs) (iff c' hs'),fun c m ac e hc=> ?_,h.old,fun c m e hs=>h.sep c m e (iff c hs),h.real,fun c hc=> ?_,h.ldom⟩
 ·grind [Vm,blk]
 ·rw [Zu _ _ (by omega)];exact h.bd c hc
theorem Ev.put {mem:Mem} {next:Nat} {w:World} (h:Rel ρ mem next w) (floor:Nat) {b:Nat} {blk:ABlk} {A:Arr} (hm:Yf mem b=some blk) (hA:blk.arr=some A) (o:Option ABlk):Ev ρ ρ floor mem next (Wz mem b o) next w w where
 ext:=Rho.le_refl _
 new _ _:=rfl
 nxt:=Aq _
 unborn k _ e cs ty hk:=by
  grind [Zu]
 frame _ _ hk _:=hk
 fresh k m hk e:=by have:=h.dom k m e;omega
 size:=Aq _
 os:=rfl
 tape:=rfl
 output:=rfl
 still _ _:=rfl
theorem y1f {cx:Ctx} {st st':St} {w:World} (h:Rel ρ st.mem st.next w) {ts:Array TypeId} {type:TypeId} {us:Array Value} {b sz off len:Nat} {d x:AVal} {xs:List AVal} {v:AVal} (ha:y1g P cx st ts.toList b sz off len x=some (v,st')) (hob:st'.ob=true) (hx:Vz (Zt ρ) (d::x::xs) us.toList)
  (hd: ∀u,Zt ρ d u→(∃l c,ρ b=some l∧len≤c∧u=.slice (some ⟨l.blk,l.base+off*sz,none⟩) len c)∨(len=0∧ ∃p c,u=.slice p 0 c)):
  ∃ρ' u w',(Builtin.copy_ ts type us).run P w=.ok u w'∧x2w ρ cx.floor st st' v w ρ' u w':=by
 obtain ⟨ts⟩:=ts;obtain ⟨us⟩:=us;simp only at ha hx;unfold y1g at ha;split at ha
 ·rename_i t _;cases hx with
  | @cons _ ud _ _ hd0 hx=>
   cases hx with
   | @cons _ ux _ uxs hx _=>
    split at ha
    ·rename_i e hu;split at ha
     ·rename_i i blk hi hm;split at ha
      ·rename_i A m g o hA hcs;obtain ⟨dZ,ha⟩:=z0f ha;simp only [Ac] at dZ;have hfl:=Ak dZ.1;have hsz:=Ak dZ.2;simp only [An,Ad] at ha;obtain ⟨st1,ho,rfl,rfl⟩:=ha;obtain ⟨_,m2,n2,o4⟩:=z7z ho;obtain ⟨hb,_⟩:=o4 hob;simp only [Ac,At] at hb;obtain ⟨k1,k2,k3,k4⟩:=hb;obtain rfl:=Aj k1;have k2:=Aj k2;have m2:st1.mem=Wz st.mem b (some ⟨Yk A.n (Vg A.get off (Nat.min m len) g),blk.ty,some ⟨A.sz,A.n,Vg A.get off (Nat.min m len) g⟩⟩):=m2;have n2:st1.next=st.next:=n2
       obtain ⟨hg,dU⟩:=x2c (P:=P) h hsz hcs k4 hx;have hmin:Nat.min m len≤m:=Nat.min_le_left _ _;have hmin2:Nat.min m len≤len:=Nat.min_le_right _ _;obtain ⟨dG,vs,hvs,hfc⟩:=dU (Nat.min m len) hmin;have eZ:(Builtin.firstCells i.size (Nat.min m len) ux).run P w=.ok vs w:=hfc w.drawn;have hgl: ∀k,k<Nat.min m len→(g k).length =i.size:=fun k hk=>(hg k (by omega)).1;have hrl:=Ym (Nat.min m len) hgl;have eB:=Zt.cells_oneCell hvs (y2n _ fun k hk=>(hg k (by omega)).2);have hbn:b<st.next:=by
        rcases A6 b st.next with q | q
        ·exact q
        ·rw [h.bd b q] at hm;cases hm
       have nothing:Nat.min m len=0→Rel ρ st1.mem st1.next w∧Ev ρ ρ cx.floor st.mem st.next st1.mem st1.next w w:=fun e0=>by
        rw [m2,n2,e0];have same: ∀k,Vg A.get off 0 g k=A.get k:=fun k=>by
         unfold Vg;cases e:(Nat.ble off k&&Nat.ble (k+1) (off+0)) with
         | true=>simp only [Ac] at e;have e1:=Ak e.1;have e2:=Ak e.2;omega
         | false=>rfl
        have same:Vg A.get off 0 g=A.get:=funext same;rw [same];refine ⟨?_,Ev.put h cx.floor hm hA _⟩;refine h.reblk hm fun l hρ hbk=> ?_;obtain ⟨eL,eY,dP⟩:=hbk.arr A hA;refine ⟨by rw [hbk.n,eL],hbk.tot,fun B hB=> ?_,?_⟩
        ·obtain rfl:=Ag hB;exact ⟨rfl,eY,dP⟩
        ·have:=hbk.cells
         grind
       rcases hd ud hd0 with ⟨l,c,hρ,hlc,rfl⟩ | ⟨rfl,p,c,rfl⟩
       ·obtain ⟨eL,eY,dP⟩:=(h.blk b l blk hρ hm).arr A hA;rw [k2] at dP;have hlr:=Ym A.n dP;have hfitN:off+Nat.min m len≤A.n:=(by omega);obtain ⟨c1,c2⟩:=v2g dP hgl hfitN;have hm3:(off+Nat.min m len)*i.size≤A.n*i.size:=AC _ hfitN;rw [AQ] at hm3;obtain ⟨cur,el,hw,hcsz,dF⟩:=h.write hρ hm (off:=off*i.size) (cs:=Yk (Nat.min m len) g) (vs:=vs.toList) (by simpa using hvs.1.symm) (by grind) (fun j h1 h2=>by simpa using hvs.2 j h1 (by grind));have hst:=run_storeCells_at P l.blk (l.base+off*i.size) el vs.toList 0 cur w hw (by grind) eB;rw [Bh] at hst;rw [hrl,eL,←c2] at dF;refine ⟨ρ,.int .i64 (Nat.min m len:Nat),w.setRow l.blk (cur.toList.take (l.base+off*i.size)++vs.toList++cur.toList.drop (l.base+off*i.size+vs.toList.length)).toArray,?_,.int _ _,?_,?_⟩
        ·have hl2:=dG w;simp [Builtin.copy_,run_underlying hu,dG,Zi hi,eZ,goInt,hst,-Array.length_toList,-List.append_assoc]
        ·rw [m2,n2];have:=dF.setArr ⟨A.sz,A.n,.flat (Vg A.get off (Nat.min m len) g)⟩ rfl eY (by rw [k2];exact c1);exact this
        grind [Ev.ofWrite]
       ·have e0:Nat.min m 0=0:=Nat.min_zero m;obtain ⟨n1,n3⟩:=nothing e0;refine ⟨ρ,.int .i64 (Nat.min m 0:Nat),w,?_,.int _ _,n1,n3⟩;rw [e0] at eZ hvs;have hv0:vs= #[]:=by
         have:vs.size=0:=by rw [←hvs.1];simp [Yk]
         grind
        subst hv0;cases p with
        | none=>simp [Builtin.copy_,run_underlying hu,dG,Zi hi,eZ,goInt]
        | some a=>simp [Builtin.copy_,run_underlying hu,dG,Zi hi,eZ,goInt,storeCells]
      ·cases ha
     ·cases ha
    ·cases ha
 ·cases ha
theorem x5q {st st':St} {w:World} (h:Rel ρ st.mem st.next w) (floor:Nat) {ts:Array TypeId} {type:TypeId} {xs:List AVal} {us:Array Value} {v:AVal} (ha:y6q P floor st ts.toList xs=some (v,st')) (hx:Vz (Zt ρ) xs us.toList):
  ∃ρ' u w',(Builtin.clear_ ts type us).run P w=.ok u w'∧x2w ρ floor st st' v w ρ' u w'∧st'.env=st.env∧st'.ob=st.ob:=by
 obtain ⟨ts⟩:=ts;obtain ⟨us⟩:=us;simp only at ha hx;unfold y6q at ha;have unit:Zt ρ (.tup []) (.tuple #[]):=.tup [] #[] rfl fun i h1 _=>by simp at h1
 split at ha
 ·rename_i t _ d _;cases hx with
  | @cons _ ud _ _ hd _=>
   split at ha
   ·rename_i e hu;split at ha
    ·rename_i i zero hi hz;obtain ⟨i2,z,hi2,_,hzr,hzv⟩:=Ww (ρ:=ρ) hz;split at ha
     ·cases hd;simp only [Ae,Ad] at ha;obtain ⟨rfl,rfl⟩:=ha;exact ⟨ρ,.tuple #[],w,by simp [Builtin.clear_,run_underlying hu],⟨unit,h,Ev.refl _ _ _ _ _ h.dom⟩,rfl,rfl⟩
     ·rename_i b off len cap;cases hd with
      | sl _ _ _ _ l c hρ dM hlc=>
       rcases (by cases hl0:Nat.beq len 0 with
         | true=>rw [hl0] at ha;exact .inl ⟨rfl,ha⟩
         | false=>rw [hl0] at ha;exact .inr ⟨rfl,ha⟩:(Nat.beq len 0=true∧_)∨(Nat.beq len 0=false∧_)) with ⟨hl0,ha⟩ | ⟨hl0,ha⟩
       ·have hl0:=Aj hl0;subst hl0;simp only [Ab,Ae,Ad] at ha;obtain ⟨rfl,rfl⟩:=ha;exact ⟨ρ,.tuple #[],w,by simp [Builtin.clear_,run_underlying hu],⟨unit,h,Ev.refl _ _ _ _ _ h.dom⟩,rfl,rfl⟩
       ·obtain ⟨hc,ha⟩:=z0f ha;simp only [Ac] at hc;obtain ⟨⟨hzl,hzs⟩,hfl⟩:=hc;have hzl:=Aj hzl;have hfl:=Ak hfl;split at ha
        ·rename_i blk hm;obtain ⟨dT,ha⟩:=z0f ha;have dT:=Ak dT;simp only [Ae,Ad] at ha;obtain ⟨rfl,rfl⟩:=ha;have hrl:(rep len zero).length =len*i.size:=(by rw [z1r,hzl]);have eM:Ue ρ (rep len zero) (Builtin.zeroCells z.cells len):=z9n hzr len (len*z.cells.size) (by rw [hzr.1]);have eB: ∀v∈(Builtin.zeroCells z.cells len).toList,v.oneCell'=true:=Zt.cells_oneCell eM (by
          grind [rep])
         obtain ⟨cur,el,hw,hcsz,dF⟩:=h.write hρ hm (off:=off) (cs:=rep len zero) (vs:=(Builtin.zeroCells z.cells len).toList) (by simpa using eM.1.symm) (by grind) (fun j h1 h2=>by simpa using eM.2 j h1 (by grind));have hst:=run_storeCells_at P l.blk (l.base+off) el (Builtin.zeroCells z.cells len).toList 0 cur w hw (by grind) eB;rw [Bh] at hst;have hne:len≠0:=fun e=>by simp_all
         refine ⟨ρ,.tuple #[],w.setRow l.blk (cur.toList.take (l.base+off)++(Builtin.zeroCells z.cells len).toList ++cur.toList.drop (l.base+off+(Builtin.zeroCells z.cells len).toList.length)).toArray,?_,⟨unit,?_,Ev.ofWrite h hρ hfl _ _⟩,rfl,rfl⟩;all_goals simp_all [Builtin.clear_,run_underlying,St.withMem]
        ·cases ha
     ·cases ha
    ·cases ha
   ·cases ha
 ·cases ha
end
end Go.Am
end
