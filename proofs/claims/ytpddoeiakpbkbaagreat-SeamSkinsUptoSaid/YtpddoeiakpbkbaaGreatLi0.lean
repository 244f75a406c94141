/- A part of a proof: several texts in one. -/
import Derived.Calls
import Derived.Orders
import Derived.KernelRfl
import Derived.DeepKeys
import Derived.Below
import Derived.Laws.Sem
import Derived.Laws.Tables
import Derived.Laws.CopyRow
import Derived.Laws.Cells
import Derived.Laws.Entries
import Derived.Laws.StructEq
import Derived.ChangeKeysEq
import Derived.WalkSpells
set_option maxRecDepth 1000000
set_option maxHeartbeats 8000000
set_option linter.unusedVariables false
set_option linter.unusedSimpArgs false
noncomputable section
namespace Go.Am
open IntKind (wrap)
theorem Aa:type_of%@cond_false:=@cond_false
theorem Ab:type_of%@cond_true:=@cond_true
theorem Ac:type_of%@Bool.and_eq_true:=@Bool.and_eq_true
theorem Ad:type_of%@Prod.mk.injEq:=@Prod.mk.injEq
theorem Ae:type_of%@Option.some.injEq:=@Option.some.injEq
theorem Af:type_of%@Option.some.inj:=@Option.some.inj
theorem Ag:type_of%@Nat.zero_add:=@Nat.zero_add
theorem Ah:type_of%@Bool.and_true:=@Bool.and_true
theorem Ai:type_of%@decide_eq_true:=@decide_eq_true
theorem Aj:type_of%@Bool.true_and:=@Bool.true_and
theorem Ak:type_of%@Nat.eq_of_beq_eq_true:=@Nat.eq_of_beq_eq_true
theorem Al:type_of%@Nat.le_of_ble_eq_true:=@Nat.le_of_ble_eq_true
theorem An:type_of%@decide_eq_false:=@decide_eq_false
theorem Ao:type_of%@List.getElem?_eq_getElem:=@List.getElem?_eq_getElem
theorem Aq:type_of%@Option.map_eq_some_iff:=@Option.map_eq_some_iff
theorem Ar:type_of%@Nat.le_refl:=@Nat.le_refl
theorem As:type_of%@decide_eq_true_eq:=@decide_eq_true_eq
theorem At:type_of%@List.all_eq_true:=@List.all_eq_true
theorem Au:type_of%@List.drop_eq_nil_of_le:=@List.drop_eq_nil_of_le
theorem Av:type_of%@decide_true:=@decide_true
theorem Aw:type_of%@List.length_append:=@List.length_append
theorem Ay:type_of%@if_neg:=@if_neg
theorem Az:type_of%@List.append_nil:=@List.append_nil
theorem AA:type_of%@of_decide_eq_true:=@of_decide_eq_true
theorem AB:type_of%@Nat.add_assoc:=@Nat.add_assoc
theorem AC:type_of%@if_pos:=@if_pos
theorem AD:type_of%@Nat.zero_le:=@Nat.zero_le
theorem AE:type_of%@Bool.not_true:=@Bool.not_true
theorem AF:type_of%@List.mem_append:=@List.mem_append
theorem AG:type_of%@Bool.not_false:=@Bool.not_false
theorem AH:type_of%@Nat.mul_le_mul_right:=@Nat.mul_le_mul_right
theorem AI:type_of%@List.mem_cons:=@List.mem_cons
theorem AJ:type_of%@Array.getElem?_eq_some_iff:=@Array.getElem?_eq_some_iff
theorem AK:type_of%@Nat.le_trans:=@Nat.le_trans
theorem AL:type_of%@List.append_assoc:=@List.append_assoc
theorem AM:type_of%@List.getElem_mem:=@List.getElem_mem
theorem AN:type_of%@List.mem_flatMap:=@List.mem_flatMap
theorem AO:type_of%@Nat.not_lt_zero:=@Nat.not_lt_zero
theorem AP:type_of%@List.take_of_length_le:=@List.take_of_length_le
theorem AQ:type_of%@List.mem_map:=@List.mem_map
theorem AR:type_of%@Nat.add_mul:=@Nat.add_mul
theorem AS:type_of%@List.getElem_of_mem:=@List.getElem_of_mem
theorem AT:type_of%@List.mem_singleton:=@List.mem_singleton
theorem AU:type_of%@List.length_cons:=@List.length_cons
theorem AV:type_of%@Int.le_refl:=@Int.le_refl
theorem AW:type_of%@congrArg:=@congrArg
theorem AX:type_of%@List.drop_zero:=@List.drop_zero
theorem AY:type_of%@List.map_cons:=@List.map_cons
theorem AZ:type_of%@List.length_take:=@List.length_take
theorem A0:type_of%@List.mem_range:=@List.mem_range
theorem A1:type_of%@List.pairwise_cons:=@List.pairwise_cons
theorem A2:type_of%@List.mem_filter:=@List.mem_filter
theorem A3:type_of%@Nat.add_zero:=@Nat.add_zero
theorem A4:type_of%@Bool.eq_false_iff:=@Bool.eq_false_iff
theorem A5:type_of%@Bool.false_and:=@Bool.false_and
theorem A6:type_of%@List.length_map:=@List.length_map
theorem A7:type_of%@Nat.ne_of_lt:=@Nat.ne_of_lt
theorem A8:type_of%@Array.mem_toList_iff:=@Array.mem_toList_iff
theorem A9:type_of%@Classical.byContradiction:=@Classical.byContradiction
theorem Ba:type_of%@Nat.lt_of_lt_of_le:=@Nat.lt_of_lt_of_le
theorem Bb:type_of%@Nat.eq_or_lt_of_le:=@Nat.eq_or_lt_of_le
theorem Bc:type_of%@List.nil_append:=@List.nil_append
theorem Bd:type_of%@List.map_nil:=@List.map_nil
theorem Be:type_of%@List.getElem?_eq_some_iff:=@List.getElem?_eq_some_iff
theorem Bf:type_of%@List.getElem_take:=@List.getElem_take
theorem Bg:type_of%@List.take_add_one:=@List.take_add_one
theorem Bh:type_of%@Nat.ble_eq_true_of_le:=@Nat.ble_eq_true_of_le
theorem Bi:type_of%@Nat.zero_mul:=@Nat.zero_mul
theorem Bj:type_of%@Array.getElem?_eq_getElem:=@Array.getElem?_eq_getElem
theorem Bk:type_of%@List.pairwise_iff_getElem:=@List.pairwise_iff_getElem
theorem Bl:type_of%@Bool.false_or:=@Bool.false_or
theorem Bm:type_of%@Nat.lt_or_ge:=@Nat.lt_or_ge
theorem Bn:type_of%@Bool.and_eq_true_iff:=@Bool.and_eq_true_iff
theorem Bo:type_of%@List.length_singleton:=@List.length_singleton
theorem Bp:type_of%@Array.getElem?_push:=@Array.getElem?_push
theorem Bq:type_of%@Nat.mul_comm:=@Nat.mul_comm
theorem Br:type_of%@Bool.or_eq_true:=@Bool.or_eq_true
theorem Bs:type_of%@List.length_nil:=@List.length_nil
theorem Bt:type_of%@Nat.lt_trichotomy:=@Nat.lt_trichotomy
theorem Bu:type_of%@Bool.or_eq_false_iff:=@Bool.or_eq_false_iff
theorem Bv:type_of%@List.getD_eq_getElem?_getD:=@List.getD_eq_getElem?_getD
theorem Bw:type_of%@decide_eq_false_iff_not:=@decide_eq_false_iff_not
theorem Bx:type_of%@List.getElem?_append_left:=@List.getElem?_append_left
theorem By:type_of%@Nat.div_lt_of_lt_mul:=@Nat.div_lt_of_lt_mul
theorem Bz:type_of%@List.sum_cons:=@List.sum_cons
theorem BA:type_of%@List.getElem_append_left:=@List.getElem_append_left
theorem BB:type_of%@Bool.true_or:=@Bool.true_or
theorem BC:type_of%@List.not_mem_nil:=@List.not_mem_nil
theorem BD:type_of%@List.getElem?_eq_none:=@List.getElem?_eq_none
theorem BE:type_of%@Bool.not_eq_true':=@Bool.not_eq_true'
theorem BF:type_of%@Option.bind_eq_some_iff:=@Option.bind_eq_some_iff
theorem BG:type_of%@Nat.eq_zero_or_pos:=@Nat.eq_zero_or_pos
theorem BH:type_of%@List.map_append:=@List.map_append
theorem BI:type_of%@Nat.one_mul:=@Nat.one_mul
theorem BJ:type_of%@Nat.le_add_right:=@Nat.le_add_right
theorem BK:type_of%@List.getElem_append_right:=@List.getElem_append_right
theorem BL:type_of%@Option.map_some:=@Option.map_some
theorem BM:type_of%@List.length_drop:=@List.length_drop
theorem BN:type_of%@List.pairwise_append:=@List.pairwise_append
theorem BO:type_of%@List.getElem?_append_right:=@List.getElem?_append_right
theorem BQ:type_of%@Nat.lt_succ_of_lt:=@Nat.lt_succ_of_lt
theorem BR:type_of%@Array.size_append:=@Array.size_append
theorem BS:type_of%@List.flatMap_append:=@List.flatMap_append
theorem BT:type_of%@List.map_congr_left:=@List.map_congr_left
theorem BU:type_of%@Array.eq_empty_of_size_eq_zero:=@Array.eq_empty_of_size_eq_zero
theorem BV:type_of%@getElem!_pos:=@getElem!_pos
theorem BW:type_of%@List.filter_cons:=@List.filter_cons
theorem BX:type_of%@decide_eq_decide:=@decide_eq_decide
theorem BY:type_of%@Nat.mod_lt:=@Nat.mod_lt
theorem BZ:type_of%@and_true:=@and_true
theorem B0:type_of%@Nat.le_of_lt_succ:=@Nat.le_of_lt_succ
theorem B1:type_of%@Nat.div_add_mod:=@Nat.div_add_mod
theorem B2:type_of%@Array.length_toList:=@Array.length_toList
theorem B3:type_of%@Nat.beq_refl:=@Nat.beq_refl
theorem B4:type_of%@Nat.lt_succ_self:=@Nat.lt_succ_self
theorem B5:type_of%@List.getElem_map:=@List.getElem_map
theorem B6:type_of%@Array.toList_map:=@Array.toList_map
theorem B7:type_of%@List.getElem?_toArray:=@List.getElem?_toArray
theorem B8:type_of%@List.drop_eq_getElem_cons:=@List.drop_eq_getElem_cons
theorem B9:type_of%@List.sum_append:=@List.sum_append
theorem Ca:type_of%@List.any_cons:=@List.any_cons
theorem Cb:type_of%@List.eq_nil_of_length_eq_zero:=@List.eq_nil_of_length_eq_zero
theorem Cc:type_of%@List.getElem?_drop:=@List.getElem?_drop
theorem Cd:type_of%@decide_eq_true_iff:=@decide_eq_true_iff
theorem Ce:type_of%@List.range_succ:=@List.range_succ
theorem Cf:type_of%@List.length_filter_le:=@List.length_filter_le
theorem Cg:type_of%@Bool.or_false:=@Bool.or_false
theorem Ch:type_of%@List.length_range:=@List.length_range
theorem Ci:type_of%@Array.size_modify:=@Array.size_modify
theorem Cj:type_of%@List.mem_of_mem_take:=@List.mem_of_mem_take
theorem Ck:type_of%@Bool.and_false:=@Bool.and_false
theorem Cl:type_of%@List.ext_getElem:=@List.ext_getElem
theorem Cm:type_of%@or_false:=@or_false
theorem Cn:type_of%@Array.toList_append:=@Array.toList_append
theorem Co:type_of%@Nat.lt_irrefl:=@Nat.lt_irrefl
theorem Cp:type_of%@List.getElem?_take:=@List.getElem?_take
theorem Cq:type_of%@Option.toList_some:=@Option.toList_some
theorem Cr:type_of%@if_false:=@if_false
theorem Cs:type_of%@Nat.le_succ:=@Nat.le_succ
theorem Ct:type_of%@List.flatMap_cons:=@List.flatMap_cons
theorem Cu:type_of%@Int.le_of_lt:=@Int.le_of_lt
theorem Cv:type_of%@List.any_eq_true:=@List.any_eq_true
def bl (n m:Nat):List Bool:=Nat.rec (motive:=fun _=>Nat → List Bool) (fun _=>[]) (fun _ r m=>Nat.beq (m%2) 1::r (m/2)) n m
inductive v2a where
 | ex (k:Nat)
 | un (sz:Nat)
inductive AVal where
 | undef
 | bool (b:Bool)
 | int (k:IntKind) (n:Int)
 | str (s:List UInt8)
 | agg (cs:List AVal)
 | tup (vs:List AVal)
 | ptr (b off:Nat)
 | nilp
 | sl (b off len:Nat) (cap:v2a)
 | nils
 | fn (f:FuncId) (caps:List AVal)
 | nilf
  | fnb (f:FuncId) (first:List AVal)
 | ifc (t:TypeId) (v:AVal)
 | nili
 | dat (len:Nat) (get:Nat→List AVal)
 | dptr (cs:List AVal)
  | sla (b sz off len:Nat) (cap:v2a)
  | epa (b sz i fo:Nat)
  | yld (j:Nat)
  | slv (b sz off len:Nat)
inductive T (α:Type) where
 | leaf
 | node (v:α) (l r:T α)
def T.get {α:Type} (d:α) (t:T α):Nat→α:=
 T.rec (motive:=fun _=>Nat→α) (fun _=>d)
  (fun v _ _ gl gr n=>Nat.rec (motive:=fun _=>α) v (fun m _=>bif Nat.beq (m %2) 0 then gl (m / 2) else gr (m / 2)) n) t
def T.setF {α:Type} (d:α) (v:α) (f:Nat):T α→Nat→T α:=
 Nat.rec (motive:=fun _=>T α→Nat→T α) (fun t _=>t)
  (fun _ rec t n=>
   T.casesOn (motive:=fun _=>T α) t
    (Nat.rec (motive:=fun _=>T α) (.node v .leaf .leaf)
     (fun m _=>bif Nat.beq (m %2) 0 then .node d (rec .leaf (m / 2)) .leaf else .node d .leaf (rec .leaf (m / 2))) n)
    (fun u l r=>Nat.rec (motive:=fun _=>T α) (.node v l r)
     (fun m _=>bif Nat.beq (m %2) 0 then .node u (rec l (m / 2)) r else .node u l (rec r (m / 2))) n)) f
def T.set {α:Type} (d:α) (t:T α) (n:Nat) (v:α):T α:=T.setF d v (n+1) t n
inductive Rws where
 | flat (g:Nat→List AVal)
 | one (r:Nat) (cs:List AVal) (b:Rws)
 | alt (c:Nat→Bool) (a b:Rws)
def Rws.get :Rws→Nat→List AVal
 | .flat g=>g
 | .one r cs b=>fun k=>bif Nat.beq k r then cs else b.get k
 | .alt c a b=>fun k=>bif c k then a.get k else b.get k
instance : Coe (Nat→List AVal) Rws:=⟨.flat⟩
structure Arr where
 sz:Nat
 n:Nat
 rw:Rws
def Arr.get (A:Arr):Nat→List AVal:=A.rw.get
def Yq (n:Nat) (get:Nat→List AVal):List AVal:=(List.range n).flatMap get
structure ABlk where
 cells:List AVal
 ty:TypeId
 arr:Option Arr
abbrev Mem :=T (Option ABlk)
def Yn (m:Mem) (b:Nat):Option ABlk:=T.get none m b
def Wz (m:Mem) (b:Nat) (o:Option ABlk):Mem:=T.set none m b o
structure Ctx where
 n:Nat
 floor:Nat
 sym:Bool
structure St where
 env:T AVal
 mem:Mem
 next:Nat
 orc:List Bool
 ob:Bool
def St.tmp :St→Nat→AVal
 | ⟨env,_,_,_,_⟩,t=>T.get .undef env t
def St.put (cx:Ctx):St→Option Tmp→AVal→Option St
 | ⟨env,mem,next,orc,ob⟩,some d,v=>bif Nat.ble (d+1) cx.n then some ⟨T.set .undef env d v,mem,next,orc,ob⟩ else none
 | st,none,_=>some st
def St.withMem :St→Mem→St
 | ⟨env,_,next,orc,ob⟩,m=>⟨env,m,next,orc,ob⟩
def St.withEnv :St→T AVal→St
 | ⟨_,mem,next,orc,ob⟩,e=>⟨e,mem,next,orc,ob⟩
def St.owe (cx:Ctx):St→Bool→Option St
 | ⟨env,mem,next,orc,ob⟩,b=>bif cx.sym then some ⟨env,mem,next,orc,b&&ob⟩ else bif b then some ⟨env,mem,next,orc,ob⟩ else none
def St.test :St→Bool→Bool×St
 | ⟨env,mem,next,[],ob⟩,b=>(b,⟨env,mem,next,[],ob⟩)
 | ⟨env,mem,next,e::r,ob⟩,b=>(e,⟨env,mem,next,r,(b == e)&&ob⟩)
def St.nextO :St→Bool
 | ⟨_,_,_,[],_⟩=>false
 | ⟨_,_,_,e::_,_⟩=>e
def St.dropO :St→St
 | ⟨env,mem,next,orc,ob⟩=>⟨env,mem,next,orc.tail,ob⟩
def z3w :Value→AVal
 | .bool b=>.bool b
 | .int k n=>.int k n
 | .string s=>.str s.data.toList
 | .pointer none=>.nilp
 | .slice none 0 0=>.nils
 | .nilFunc =>.nilf
 | .nilIface =>.nili
 | _=>.undef
def ofV :Value→AVal
 | .agg cs=>.agg (cs.toList.map z3w)
 | v=>z3w v
def St.eval (st:St):Operand→AVal
 | .tmp t=>st.tmp t
 | .const v=>ofV v
 | .global _=>.undef
 | .func f=>.fn f []
def AVal.cells :AVal→List AVal
 | .agg cs=>cs
 | v=>[v]
def z4e :AVal→Bool
 | .undef | .tup _=>false
 | _=>true
def j5m :AVal→Bool
 | .slv _ _ _ _ | .sl _ _ _ _ | .sla _ _ _ _ _ | .ptr _ _ | .epa _ _ _ _ | .dat _ _ | .nils =>false
 | _=>true
def y1u :AVal→Bool
 | .undef | .agg _ | .tup _=>false
 | _=>true
def v6w (P:Program) (t:TypeId):Option Bool:=
 match P.underlying t with
 | some (.struct _) | some (.array _ _)=>some true
 | some _=>some false
 | none=>none
def cut (cs:List AVal) (off n:Nat):Option (List AVal):=
 let p:=(cs.drop off).take n
 bif Nat.beq p.length n then some p else none
def z2y (P:Program) (t:TypeId) (cs:List AVal) (off:Nat):Option AVal:=
 match v6w P t,P.info? t with
 | some true,some i=>(cut cs off i.size).map .agg
 | some false,some _=>cs[off]?
 | _,_=>none
def z4b (rec:TypeId→AVal→AVal→Option Bool) (P:Program) (xs ys:List AVal):List (TypeId×Nat)→Option Bool
 | []=>some true
 | (t,off)::r=>
  match z2y P t xs off,z2y P t ys off with
  | some a,some b=>match rec t a b,z4b rec P xs ys r with
   | some e,some f=>some (e&&f)
   | _,_=>none
  | _,_=>none
def aEq (P:Program):Nat→TypeId→AVal→AVal→Option Bool
 | 0,_,_,_=>none
 | d+1,t,x,y=>
  match P.underlying t with
  | some .bool =>match x,y with
   | .bool a,.bool b=>some (a == b)
   | _,_=>none
  | some (.int _)=>match x,y with
   | .int k a,.int k' b=>if k=k' then some (a == b) else none
   | _,_=>none
  | some .string =>match x,y with
   | .str a,.str b=>some (a == b)
   | _,_=>none
  | some (.array n e)=>match x,y,P.info? e with
   | .agg xs,.agg ys,some i=>z4b (aEq P d) P xs ys ((List.range n).map fun j=>(e,j*i.size))
   | _,_,_=>none
  | some (.struct fs)=>match x,y with
   | .agg xs,.agg ys=>
    bif P.stoodInHeld t then none else bif fs.toList.any (fun f=>f.name == "_") then none else
    z4b (aEq P d) P xs ys (fs.toList.map fun f=>(f.type,f.offset))
   | _,_=>none
  | _=>none
def v1y (op:BinOp) (k:IntKind) (a b:Int):Option Int:=
 match op with
 | .and =>some (k.wrap ((BitVec.ofInt k.bits a)&&& (BitVec.ofInt k.bits b)).toNat)
 | .or =>some (k.wrap ((BitVec.ofInt k.bits a)||| (BitVec.ofInt k.bits b)).toNat)
 | .xor =>some (k.wrap ((BitVec.ofInt k.bits a) ^^^ (BitVec.ofInt k.bits b)).toNat)
 | .andNot =>some (k.wrap ((BitVec.ofInt k.bits a)&&& ~~~(BitVec.ofInt k.bits b)).toNat)
 | _=>none
def aBin (P:Program) (op:BinOp) (t:TypeId) (x y:AVal):Option (AVal×Bool):=
 match x,y with
 | .int k a,.int k' b=>
  match op with
  | .shl =>some (.int k (k.wrap (a*2 ^ (min b.toNat k.bits))),!decide (b<0))
  | .shr =>some (.int k (a.fdiv (2 ^ (min b.toNat k.bits))),!decide (b<0))
  | _=>if k=k' then
    match op with
    | .add =>some (.int k (k.wrap (a+b)),true)
    | .sub =>some (.int k (k.wrap (a - b)),true)
    | .mul =>some (.int k (k.wrap (a*b)),true)
    | .quo =>some (.int k (k.wrap (a.tdiv b)),!decide (b=0))
    | .rem =>some (.int k (a.tmod b),!decide (b=0))
    | .eql =>some (.bool (a == b),true)
    | .neq =>some (.bool (a != b),true)
    | .lss =>some (.bool (decide (a<b)),true)
    | .leq =>some (.bool (decide (a≤b)),true)
    | .gtr =>some (.bool (decide (a>b)),true)
    | .geq =>some (.bool (decide (a≥b)),true)
    | op=>(v1y op k a b).map fun n=>(.int k n,true)
   else none
 | .bool a,.bool b=>match P.underlying t with
  | some .bool =>match op with
   | .eql =>some (.bool (a == b),true)
   | .neq =>some (.bool (!(a == b)),true)
   | _=>none
  | _=>none
 | .agg a,.agg b=>
  bif P.eqGuardType P.depth t then none else
  match op with
  | .eql =>(aEq P 30 t (.agg a) (.agg b)).map fun r=>(.bool r,true)
  | .neq =>(aEq P 30 t (.agg a) (.agg b)).map fun r=>(.bool (!r),true)
  | _=>none
 | .sl _ _ _ _,.nils =>match P.underlying t with
  | some (.slice _)=>match op with
   | .eql =>some (.bool false,true)
   | .neq =>some (.bool true,true)
   | _=>none
  | _=>none
 | .nils,.nils =>match P.underlying t with
  | some (.slice _)=>match op with
   | .eql =>some (.bool true,true)
   | .neq =>some (.bool false,true)
   | _=>none
  | _=>none
 | .str a,.str b=>match op with
  | .eql =>some (.bool (a == b),true)
  | .neq =>some (.bool (!(a == b)),true)
  | _=>none
 | _,_=>none
def aUn (op:UnOp) (x:AVal):Option AVal:=
 match op,x with
 | .neg,.int k n=>some (.int k (k.wrap (0 - n)))
 | .xor,.int k n=>(v1y .xor k (if k.signed then -1 else k.max) n).map (.int k)
 | .not,.bool b=>some (.bool !b)
 | _,_=>none
def x4z (place:Nat→Option (Nat×Nat)) (cells:List AVal):List (Nat×AVal)→Option (List AVal)
 | []=>some cells
 | (i,v)::r=>
  match place i with
  | none=>none
  | some (off,size)=>
   bif z4e v&&Nat.beq v.cells.length size&&Nat.ble (off+size) cells.length then
    x4z place (cells.take off++v.cells++cells.drop (off+size)) r
   else none
def z0d (P:Program) (t:TypeId):Option (List AVal):=
 match P.info? t with
 | some i=>i.zero.map fun v=>(ofV v).cells
 | none=>none
def Qp (P:Program):List Field→Option (List (Nat×Nat))
 | []=>some []
 | f::r=>match P.info? f.type,Qp P r with
  | some i,some l=>some ((f.offset,i.size)::l)
  | _,_=>none
def v9m (P:Program) (t:TypeId) (parts:List (Nat×AVal)):Option AVal:=
 match P.underlying t,z0d P t with
 | some (.struct fs),some zero=>match Qp P fs.toList with
  | some pl=>(x4z (pl[·]?) zero parts).map .agg
  | none=>none
 | some (.array _ e),some zero=>match P.info? e with
  | some i=>(x4z (fun j=>some (j*i.size,i.size)) zero parts).map .agg
  | none=>none
 | _,_=>none
def y2m (P:Program) (t:TypeId) (x i:AVal):Option (AVal×Bool):=
 match P.underlying t,x,i with
 | some (.array len e),.ptr b off,.int _ i=>(P.info? e).map fun s=>(.ptr b (off+i.toNat*s.size),decide (0≤i∧i<len))
 | some (.array len e),.dptr cs,.int _ i=>(P.info? e).map fun s=>(.dptr (cs.drop (i.toNat*s.size)),decide (0≤i∧i<len))
 | some (.slice e),.sl b off len _,.int _ i=>(P.info? e).map fun s=>(.ptr b (off+i.toNat*s.size),decide (0≤i∧i<len))
 | some (.slice e),.dat len get,.int _ i=>(P.info? e).map fun s=>(.dptr (get i.toNat),decide (0≤i∧i<len)&&Nat.beq (get i.toNat).length s.size)
 | some (.slice e),.sla b sz off len _,.int _ i=>(P.info? e).map fun s=>(.epa b sz (off+i.toNat) 0,decide (0≤i∧i<len)&&Nat.beq s.size sz)
 | some (.slice e),.slv b sz off len,.int _ i=>(P.info? e).map fun s=>(.epa b sz (off+i.toNat) 0,decide (0≤i∧i<len)&&Nat.beq s.size sz)
 | some (.array len e),.epa b sz r fo,.int _ i=>(P.info? e).map fun s=>(.epa b sz r (fo+i.toNat*s.size),decide (0≤i∧i<len))
 | _,_,_=>none
def y2n (P:Program) (t:TypeId) (x:AVal) (f:Nat):Option AVal:=
 match P.underlying t with
 | some (.struct fs)=>match fs[f]? with
  | some f=>match P.info? f.type with
   | some i=>bif Nat.beq i.size 0 then none else match x with
    | .ptr b off=>some (.ptr b (off+f.offset))
    | .dptr cs=>some (.dptr (cs.drop f.offset))
    | .epa b sz r fo=>some (.epa b sz r (fo+f.offset))
    | _=>none
   | none=>none
  | none=>none
 | _=>none
def v9k (P:Program) (t:TypeId) (x:AVal) (f:Nat):Option AVal:=
 match P.underlying t,x with
 | some (.struct fs),.agg cs=>match fs[f]? with
  | some f=>z2y P f.type cs f.offset
  | none=>none
 | _,_=>none
def v9j (P:Program) (t:TypeId) (x i:AVal):Option (AVal×Bool):=
 match P.underlying t,x,i with
 | some (.array len e),.agg cs,.int _ i=>
  match P.info? e with
  | some s=>(z2y P e cs (i.toNat*s.size)).map fun v=>(v,decide (0≤i∧i<len))
  | none=>none
 | some .string,.str s,.int _ i=>(s[i.toNat]?).map fun b=>(.int .u8 b.toNat,decide (0≤i))
 | _,_,_=>none
def z1m (x y:Int):Int:=if y<x then y else x
def z1n (x y:Int):Int:=if y>x then y else x
def y7f (k:IntKind) (x:Int):List AVal→Option Int
 | []=>some x
 | .int _ y::r=>y7f k (z1m x y) r
 | _=>none
def y7h (k:IntKind) (x:Int):List AVal→Option Int
 | []=>some x
 | .int _ y::r=>y7h k (z1n x y) r
 | _=>none
def y6a (P:Program) (b:Builtin) (argTypes:List TypeId) (args:List AVal):Option AVal:=
 match b,argTypes,args with
 | .len,t::_,x::_=>match P.underlying t,x with
  | some .string,.str s=>some (.int .i64 s.length)
  | some (.array n _),_=>some (.int .i64 n)
  | some (.slice _),.sl _ _ n _=>some (.int .i64 n)
  | some (.slice _),.nils =>some (.int .i64 0)
  | some (.slice _),.dat n _=>some (.int .i64 n)
  | some (.slice _),.sla _ _ _ n _=>some (.int .i64 n)
  | some (.slice _),.slv _ _ _ n=>some (.int .i64 n)
  | _,_=>none
 | .min,_,.int k x::r=>(y7f k x r).map (.int k)
 | .max,_,.int k x::r=>(y7h k x r).map (.int k)
 | .cap,t::_,x::_=>match P.underlying t,x with
  | some (.slice _),.sl _ _ _ (.ex c)=>some (.int .i64 c)
  | some (.slice _),.nils =>some (.int .i64 0)
  | _,_=>none
 | _,_,_=>none
def z4f (st:Operand→AVal) (o:Option Operand) (d:Nat):Option (Nat×Bool):=
 match o with
 | none=>some (d,true)
 | some x=>match st x with
  | .int _ i=>some (i.toNat,decide (0≤i))
  | _=>none
def pd (p:Prop):Bool:= @decide p (Classical.propDecidable p)
def v9h (P:Program) (ev:Operand→AVal) (t:TypeId) (x:Operand) (lo hi mx:Option Operand):Option (AVal×Bool):=
 match P.underlying t,ev x with
 | some (.slice e),.nils =>
  match P.info? e,mx,z4f ev lo 0,z4f ev hi 0 with
  | some _,none,some (l,a),some (h,b)=>some (.nils,a&&b&&Nat.beq l 0&&Nat.beq h 0)
  | _,_,_,_=>none
 | some (.slice e),.sl b off len (.ex c)=>
  match P.info? e,z4f ev mx c,z4f ev hi len,z4f ev lo 0 with
  | some s,some (m,x1),some (h,x2),some (l,x3)=>
   if mx.isSome&&hi.isNone then none else
   some (.sl b (bif Nat.beq m l then off else off+l*s.size) (h - l) (.ex (m - l)),x1&&x2&&x3&&Nat.ble m c&&Nat.ble h m&&Nat.ble l h)
  | _,_,_,_=>none
 | some (.slice e),.sl b off len (.un z)=>
  match P.info? e,mx,z4f ev hi len,z4f ev lo 0 with
  | some s,none,some (h,x2),some (l,x3)=>
   bif Nat.beq z s.size then
    bif Nat.beq h l&&Nat.ble 1 l then some (.dat 0 (fun _=>[]),x2&&x3&&Nat.ble h len) else
    some (.sl b (off+l*s.size) (h - l) (.un z),x2&&x3&&Nat.ble h len&&Nat.ble l h&&(Nat.ble (l+1) len||Nat.beq l 0))
   else none
  | some s,some _,some (h,x2),some (l,x3)=>
   match z4f ev mx 0 with
   | some (m,x1)=>
    bif Nat.beq z s.size&&hi.isSome then
     some (.sl b (bif Nat.beq m l then off else off+l*s.size) (h - l) (.ex (m - l)),x1&&x2&&x3&&Nat.ble m len&&Nat.ble h m&&Nat.ble l h)
    else none
   | none=>none
  | _,_,_,_=>none
 | some (.slice e),.sla b sz off len (.un z)=>
  match P.info? e,mx,z4f ev hi len,z4f ev lo 0 with
  | some s,none,some (h,x2),some (l,x3)=>
   bif Nat.beq z s.size&&Nat.beq sz z then
    bif lo.isSome then some (.slv b sz (off+l) (h - l),x2&&(x3&&(decide (h≤len)&&decide (l≤h)))) else
    some (.sla b sz (off+l) (h - l) (.un z),x2&&(x3&&(decide (h≤len)&&(decide (l≤h)&&(decide (l<len)||Nat.beq l 0)))))
   else none
  | _,_,_,_=>none
 | some (.slice e),.slv b sz off len=>
  match P.info? e,mx,z4f ev hi len,z4f ev lo 0 with
  | some s,none,some (h,x2),some (l,x3)=>
   bif Nat.beq sz s.size then some (.slv b sz (off+l) (h - l),x2&&(x3&&(decide (h≤len)&&decide (l≤h)))) else none
  | _,_,_,_=>none
 | some (.slice e),.dat len get=>
  match P.info? e,mx,z4f ev hi len,z4f ev lo 0 with
  | some s,none,some (h,x2),some (l,x3)=>some (.dat (h - l) (fun k=>get (l+k)),x2&&(x3&&(decide (h≤len)&&(decide (l≤h)&&pd (∀i,i<len→(get i).length =s.size)))))
  | _,_,_,_=>none
 | some (.array n e),.ptr b off=>
  match P.info? e,z4f ev mx n,z4f ev hi n,z4f ev lo 0 with
  | some s,some (m,x1),some (h,x2),some (l,x3)=>
   if mx.isSome&&hi.isNone then none else
   some (.sl b (bif Nat.beq m l then off else off+l*s.size) (h - l) (.ex (m - l)),x1&&x2&&x3&&Nat.ble m n&&Nat.ble h m&&Nat.ble l h)
  | _,_,_,_=>none
 | _,_=>none
def Qa (P:Program) (op:Op) (ev:Operand→AVal):Option (AVal×Bool):=
 match op with
 | .move x | .assign x=>some (ev x,true)
 | .pick c a b=>match ev c with
  | .bool c=>some (bif c then ev a else ev b,true)
  | _=>none
 | .build t parts=>(v9m P t (parts.toList.map fun p=>(p.1,ev p.2))).map (·,true)
 | .nilCheck x=>match ev x with
  | .ptr b o=>some (.ptr b o,true)
  | .dptr cs=>some (.dptr cs,true)
  | .fn f c=>some (.fn f c,true)
  | .fnb f c=>some (.fnb f c,true)
  | _=>none
 | .binOp op t x y _=>aBin P op t (ev x) (ev y)
 | .unOp op _ x=>(aUn op (ev x)).map (·,true)
 | .convert src dst x=>match P.underlying src,P.underlying dst,ev x with
  | some _,some (.int k),.int _ n=>some (.int k (k.wrap n),true)
  | _,_,_=>none
 | .makeInterface t x=>match P.underlying t with
  | some (.interface _) | none=>none
  | some _=>some (.ifc t (ev x),true)
 | .makeFunc (.func f) first captured=>bif first.isEmpty then some (.fn f (captured.toList.map ev),true) else bif captured.isEmpty then some (.fnb f (first.toList.map ev),true) else none
 | .fieldAddr t x f=>(y2n P t (ev x) f).map (·,true)
 | .field t x f=>(v9k P t (ev x) f).map (·,true)
 | .indexAddr t x i=>y2m P t (ev x) (ev i)
 | .index t x i=>v9j P t (ev x) (ev i)
 | .extract x i=>match ev x with
  | .tup vs=>(vs[i]?).map (·,true)
  | _=>none
 | .slice t x lo hi mx=>v9h P ev t x lo hi mx
 | .call {callee:=.builtin b,args,argTypes}=>(y6a P b argTypes.toList (args.toList.map ev)).map (·,true)
 | _=>none
def w4g (P:Program) (m:Mem) (t:TypeId) (x:AVal):Option AVal:=
 match x with
 | .ptr b off=>match Yn m b with
  | some blk=>z2y P t blk.cells off
  | none=>none
 | .dptr cs=>z2y P t cs 0
 | _=>none
def y8r (P:Program) (m:Mem) (t:TypeId) (x:AVal):Option (AVal×Bool):=
 match x with
 | .epa b sz r fo=>match Yn m b with
  | some blk=>match blk.arr with
   | some A=>(z2y P t (A.get r) fo).map (·,Nat.beq A.sz sz&&decide (r<A.n))
   | none=>none
  | none=>none
 | x=>(w4g P m t x).map (·,true)
def z5k :Rws→Nat→St→List AVal×St
 | .flat g,r,st=>(g r,st)
 | .one r0 cs b,r,st=>match st.test (Nat.beq r r0) with
  | (e,st)=>bif e then (cs,st) else z5k b r st
 | .alt c a b,r,st=>match st.test (c r) with
  | (e,st)=>bif e then z5k a r st else z5k b r st
def v9i (P:Program) (st:St) (t:TypeId) (x:AVal):Option (AVal×Bool×St):=
 match x with
 | .epa b sz r fo=>match Yn st.mem b with
  | some blk=>match blk.arr with
   | some A=>match z5k A.rw r st with
    | (cs,st1)=>(z2y P t cs fo).map (·,Nat.beq A.sz sz&&decide (r<A.n),st1)
   | none=>none
  | none=>none
 | x=>(w4g P st.mem t x).map (·,true,st)
def y8n (P:Program) (floor:Nat) (st:St) (t:TypeId) (x v:AVal):Option St:=
 match x,P.info? t with
 | .ptr b off,some i=>
  let cs:=v.cells
  bif Nat.ble floor b&&Nat.beq cs.length i.size&&z4e v&&cs.all y1u then
   match Yn st.mem b with
   | some blk=>
    bif Nat.ble (off+i.size) blk.cells.length then
     some (st.withMem (Wz st.mem b (some ⟨blk.cells.take off++cs++blk.cells.drop (off+i.size),blk.ty,none⟩)))
    else none
   | none=>none
  else none
 | _,_=>none
def Xr (get:Nat→List AVal) (r fo:Nat) (cs:List AVal):Nat→List AVal:=fun k=>bif Nat.beq k r then (get r).take fo++cs++(get r).drop (fo+cs.length) else get k
def setRow (A:Arr) (r fo:Nat) (cs:List AVal) (st:St):Option (Rws×St):=
 match A.rw with
 | .flat g=>bif cs.all j5m then some (.flat (Xr g r fo cs),st) else bif Nat.beq fo 0&&Nat.beq cs.length A.sz then some (.one r cs (.flat g),st) else none
 | .one r0 c0 b=>match st.test (Nat.beq r r0) with
  | (e,st1)=>bif e&&Nat.beq fo 0&&Nat.beq cs.length A.sz then some (.one r0 cs b,st1) else none
 | .alt c a b=>bif Nat.beq fo 0&&Nat.beq cs.length A.sz then some (.one r cs (.alt c a b),st) else none
def z8f (P:Program) (cx:Ctx) (st:St) (t:TypeId) (x v:AVal):Option St:=
 match x,P.info? t with
 | .epa b sz r fo,some i=>
  bif Nat.ble cx.floor b&&Nat.beq v.cells.length i.size&&z4e v&&v.cells.all y1u&&Nat.ble (fo+i.size) sz then
   match Yn st.mem b with
   | some blk=>match blk.arr with
    | some A=>match setRow A r fo v.cells st with
     | some (rw,st1)=>(st1.withMem (Wz st1.mem b (some ⟨Yq A.n rw.get,blk.ty,some ⟨A.sz,A.n,rw⟩⟩))).owe cx (Nat.beq A.sz sz&&decide (r<A.n))
     | none=>none
    | none=>none
   | none=>none
  else none
 | _,_=>none
def y2k :St→List AVal→TypeId→St
 | ⟨env,mem,next,orc,ob⟩,cells,ty=>⟨env,Wz mem next (some ⟨cells,ty,none⟩),next+1,orc,ob⟩
def rep (n:Nat) (l:List AVal):List AVal:=(List.replicate n l).flatten
def Kk (P:Program) (u:Bool) (st:St) (t:TypeId) (len:Nat) (parts:List (Nat×AVal)):Option (AVal×St):=
 match P.underlying t with
 | some (.slice e)=>match P.info? e,z0d P e with
  | some i,some zero=>
   bif Nat.ble (len*i.size) 16777216&&Nat.beq zero.length i.size then
    match x4z (fun j=>some (j*i.size,i.size)) (rep len zero) parts with
    | some cells=>some (.sl st.next 0 len (bif u&&Nat.beq cells.length (len*i.size) then .un i.size else .ex len),y2k st cells e)
    | none=>none
   else none
  | _,_=>none
 | _=>none
def Um (P:Program) (st:St) (t:TypeId) (l c:AVal):Option (AVal×St):=
 match P.underlying t,l,c with
 | some (.slice e),.int _ l,.int _ c=>match P.info? e,z0d P e with
  | some i,some zero=>
   bif Nat.beq zero.length i.size&&(decide (0≤l)&&decide (l≤c)&&decide (c*i.bytes≤1099511627776)&&decide (c≤1099511627776)) then
    some (.sl st.next 0 l.toNat (.ex c.toNat),y2k st (rep c.toNat zero) e)
   else none
  | _,_=>none
 | _,_,_=>none
def Kj (P:Program) (cx:Ctx) (st:St) (t:TypeId) (l c:AVal):Option (AVal×St):=
 match P.underlying t,l,c with
 | some (.slice e),.int _ l,.int _ c=>match P.info? e,z0d P e with
  | some i,some zero=>
   bif Nat.beq zero.length i.size&&Nat.ble 1 i.size then
    (St.owe cx (match y2k st (Yq c.toNat fun _=>zero) e with
      | ⟨env,_,next,orc,ob⟩=>⟨env,Wz st.mem st.next (some ⟨Yq c.toNat fun _=>zero,e,some ⟨i.size,c.toNat,.flat fun _=>zero⟩⟩),next,orc,ob⟩)
     (decide (0≤l)&&decide (l≤c)&&decide (c*i.bytes≤1099511627776)&&decide (c≤1099511627776))).map (.sla st.next i.size 0 l.toNat (.un i.size), ·)
   else none
  | _,_=>none
 | _,_,_=>none
def Xv (m:Mem) (sz:Nat):AVal→Option (Nat×List AVal)
 | .nils =>some (0,[])
 | .sl b off len _=>match Yn m b with
  | some blk=>(cut blk.cells off (len*sz)).map (len, ·)
  | none=>none
 | _=>none
def Jh :Nat:=1099511627776
def Ut (m:Mem) (sz:Nat) (zero:List AVal) (ut:TypeDesc) (x:AVal):Option (Nat×List AVal):=
 match ut with
 | .int _=>match x with
  | .int _ n=>bif decide (0≤n) then some (n.toNat,rep n.toNat zero) else none
  | _=>none
 | _=>Xv m sz x
def z1i (P :Program) (floor:Nat) (st:St) (argTypes:List TypeId) (args:List AVal):Option (AVal×St):=
 match argTypes,args with
 | t :: u ::_,s::x::_=>match P.underlying t,P.underlying u with
  | some (.slice e),some ut=>match P.info? e,z0d P e with
   | some i,some zero=>match Ut st.mem i.size zero ut x with
    | some (n,new)=>
     bif Nat.beq zero.length i.size&&Nat.beq new.length (n*i.size)&&Nat.ble 1 i.size&&new.all y1u then
     match s with
     | .nils =>
      bif Nat.beq n 0 then some (.nils,st) else
      bif Nat.ble ((n+1)*(i.bytes+1)) Jh then
       some (.sl st.next 0 n (.un i.size),y2k st new e) else none
     | .sl b off len cap=>
      match Yn st.mem b with
      | some blk=>
       match cut blk.cells off (len*i.size) with
       | some old=>
        bif Nat.ble ((len+n+1)*(i.bytes+1)) Jh then
        match cap with
        | .ex c=>
         bif Nat.ble (len+n) c then
          bif Nat.ble floor b&&Nat.ble (off+(len+n)*i.size) blk.cells.length then
           some (.sl b off (len+n) cap,st.withMem (Wz st.mem b (some ⟨blk.cells.take (off+len*i.size)++new++blk.cells.drop (off+(len+n)*i.size),blk.ty,none⟩)))
          else none
         else some (.sl st.next 0 (len+n) (.un i.size),y2k st (old++new) e)
        | .un z=>
         bif Nat.beq z i.size&&Nat.ble floor b then
          bif Nat.ble (off+(len+n)*i.size) blk.cells.length then
           some (.sl b off (len+n) cap,st.withMem (Wz st.mem b (some ⟨blk.cells.take (off+len*i.size)++new++blk.cells.drop (off+(len+n)*i.size),blk.ty,none⟩)))
          else bif Nat.beq (off+len*i.size) blk.cells.length then
           some (.sl st.next 0 (len+n) (.un i.size),y2k (st.withMem (Wz st.mem b none)) (old++new) e)
          else none
         else none
        else none
       | none=>none
      | none=>none
     | _=>none
     else none
    | none=>none
   | _,_=>none
  | _,_=>none
 | _,_=>none
def Zr (get:Nat→List AVal) (off len sz:Nat) (new:List AVal):Nat→List AVal:=fun k=>bif Nat.ble len k then (new.drop ((k - len)*sz)).take sz else get (off+k)
def z4h (P:Program) (cx:Ctx) (st:St) (argTypes:List TypeId) (args:List AVal):Option (AVal×St):=
 match argTypes,args with
 | t :: u ::_,.sla b sz off len (.un z)::x::_=>match P.underlying t,P.underlying u with
  | some (.slice e),some ut=>match ut with
   | .int _=>none
   | _ => match P.info? e with
    | some i=>match Xv st.mem i.size x,z0d P e,Yn st.mem b with
     | some (n,new),some zero,some blk=>match blk.arr with
      | some A=>
       bif Nat.beq zero.length i.size&&Nat.beq new.length (n*i.size)&&Nat.ble 1 i.size&&new.all y1u&&Nat.beq sz i.size&&Nat.beq z sz&&Nat.ble cx.floor b&&Nat.ble 1 n then
        (St.owe cx (match y2k (st.withMem (Wz st.mem b none)) (Yq (len+n) (Zr A.get off len sz new)) e with
          | ⟨env,_,next,orc,ob⟩=>⟨env,Wz (Wz st.mem b none) st.next (some ⟨Yq (len+n) (Zr A.get off len sz new),e,some ⟨sz,len+n,Zr A.get off len sz new⟩⟩),next,orc,ob⟩)
         (Nat.beq A.sz sz&&(decide (off+len=A.n)&&decide ((len+n+1)*(i.bytes+1)≤Jh)))).map (.sla st.next sz 0 (len+n) (.un sz), ·)
       else none
      | none=>none
     | _,_,_=>none
    | none=>none
  | _,_=>none
 | _,_=>none
def capOk (sz len:Nat):v2a→Bool
 | .un z=>Nat.beq z sz
 | .ex c=>Nat.ble c len
def z5u (m:Mem) (sz:Nat):AVal→Option (Option Nat×Nat×(Nat→List AVal)×Bool)
 | .nils =>some (none,0,fun _=>[],true)
 | .sl b off len cap=>match Yn m b with
  | some blk=>match cut blk.cells off (len*sz) with
   | some old=>bif capOk sz len cap&&Nat.ble off blk.cells.length then some (some b,len,fun k=>(old.drop (k*sz)).take sz,true) else none
   | none=>none
  | none=>none
 | .sla b z off len cap=>match Yn m b with
  | some blk=>match blk.arr with
   | some A=>bif capOk sz len cap then some (some b,len,fun k=>A.get (off+k),Nat.beq z sz&&(Nat.beq A.sz sz&&decide (off+len≤A.n))) else none
   | none=>none
  | none=>none
 | _=>none
def x2x (m:Mem) (sz:Nat) (zero:List AVal) (ut:TypeDesc):AVal→Option (Nat×(Nat→List AVal)×Bool)
 | .int _ n=>match ut with
  | .int _=>some (n.toNat,fun _=>zero,decide (0≤n))
  | _=>none
 | .dat n g=>match ut with
  | .int _=>none
  | _=>some (n,g,pd (∀i,i<n→(g i).length =sz∧(g i).all y1u=true))
 | .nils =>match ut with
  | .int _=>none
  | _=>some (0,fun _=>[],true)
 | .sla b z off len _=>match ut with
  | .int _=>none
  | _=>match Yn m b with
   | some ⟨_,_,some A⟩=>some (len,fun k=>A.get (off+k),Nat.beq z sz&&(Nat.beq A.sz sz&&(decide (off+len≤A.n)&&pd (∀i,i<len→(A.get (off+i)).length =sz∧(A.get (off+i)).all y1u=true))))
   | _=>none
 | _=>none
def Jm (get:Nat→List AVal) (len:Nat) (g:Nat→List AVal):Nat→List AVal:=fun k=>bif Nat.ble len k then g (k - len) else get k
def v7f (floor:Nat):Option Nat→Bool
 | some b=>Nat.ble floor b
 | none=>true
def w2j (m:Mem):Option Nat→Mem
 | some b=>Wz m b none
 | none=>m
def z0p (P:Program) (cx:Ctx) (st:St) (argTypes:List TypeId) (args:List AVal):Option (AVal×St):=
 match argTypes,args with
 | t :: u::_,s::x::_=>match P.underlying t,P.underlying u with
  | some (.slice e),some ut=>match P.info? e,z0d P e with
   | some i,some zero=>match z5u st.mem i.size s,x2x st.mem i.size zero ut x with
    | some (b,len,get,o1),some (n,g,o2)=>
     bif Nat.beq zero.length i.size&&zero.all y1u&&Nat.ble 1 i.size&&v7f cx.floor b then
      (St.owe cx (match y2k (st.withMem (w2j st.mem b)) (Yq (len+n) (Jm get len g)) e with
        | ⟨env,_,next,orc,ob⟩=>⟨env,Wz (w2j st.mem b) st.next (some ⟨Yq (len+n) (Jm get len g),e,some ⟨i.size,len+n,Jm get len g⟩⟩),next,orc,ob⟩)
       (o1&&(o2&&decide ((len+n+1)*(i.bytes+1)≤Jh)))).map (.sla st.next i.size 0 (len+n) (.un i.size), ·)
     else none
    | _,_=>none
   | _,_=>none
  | _,_=>none
 | _,_=>none
def isDat :AVal→Bool
 | .dat _ _=>true
 | .sla _ _ _ _ _=>true
 | _=>false
def j5n :AVal→AVal→Bool
 | .sla _ _ _ _ _,.nils =>true
 | _,_=>false
def manyOk (P:Program) (cx:Ctx) (argTypes:List TypeId) (args:List AVal):Bool:=
 match argTypes,args with
 | _::u::_,s::x::_=>isDat x||(j5n s x||cx.sym&&(match P.underlying u with
  | some (.int _)=>true
  | _=>false))
 | _,_=>false
def z2i (P:Program) (cx:Ctx) (st:St) (argTypes:List TypeId) (args:List AVal):Option (AVal×St):=
 bif manyOk P cx argTypes args then z0p P cx st argTypes args else
 match args with
 | .sla b sz off len cap::r=>z4h P cx st argTypes (.sla b sz off len cap::r)
 | args=>z1i P cx.floor st argTypes args
def w4k (P:Program) (floor:Nat) (st:St) (argTypes:List TypeId) (args:List AVal):Option (AVal×St):=
 match argTypes,args with
 | t :: _,d::x::_=>match P.underlying t with
  | some (.slice e)=>match P.info? e with
   | some i=>match Xv st.mem i.size x with
    | some (m,src)=>
     bif Nat.beq src.length (m*i.size)&&src.all y1u then
     match d with
     | .nils =>some (.int .i64 0,st)
     | .dat n _=>bif Nat.beq n 0 then some (.int .i64 0,st) else none
     | .sl b off len _=>
      let n:=Nat.min m len
      match Yn st.mem b with
      | some blk=>
       bif Nat.ble floor b&&Nat.ble (off+n*i.size) blk.cells.length then
        some (.int .i64 n,st.withMem (Wz st.mem b (some ⟨blk.cells.take off++src.take (n*i.size)++blk.cells.drop (off+n*i.size),blk.ty,none⟩)))
       else none
      | none=>none
     | _=>none
     else none
    | none=>none
   | none=>none
  | _=>none
 | _,_=>none
def w3q (m:Mem) (sz:Nat):AVal→Option (Nat×(Nat→List AVal)×Bool)
 | .nils =>some (0,fun _=>[],true)
 | .dat n g=>some (n,g,pd (∀i,i<n→(g i).length =sz∧(g i).all y1u=true))
 | .sla b z off len _=>match Yn m b with
  | some blk=>match blk.arr with
   | some A=>some (len,fun k=>A.get (off+k),Nat.beq z sz&&(Nat.beq A.sz sz&&(decide (off+len≤A.n)&&pd (∀i,i<len→(A.get (off+i)).length =sz∧(A.get (off+i)).all y1u=true))))
   | none=>none
  | none=>none
 | .slv b z off len=>match Yn m b with
  | some blk=>match blk.arr with
   | some A=>some (len,fun k=>A.get (off+k),Nat.beq z sz&&(Nat.beq A.sz sz&&(decide (off+len≤A.n)&&pd (∀i,i<len→(A.get (off+i)).length =sz∧(A.get (off+i)).all y1u=true))))
   | none=>none
  | none=>none
 | _=>none
def Jp (get:Nat→List AVal) (off n:Nat) (g:Nat→List AVal):Nat→List AVal:=fun k=>bif Nat.ble off k&&Nat.ble (k+1) (off+n) then g (k - off) else get k
def y3j (P:Program) (cx:Ctx) (st:St) (argTypes:List TypeId) (b sz off len:Nat) (x:AVal):Option (AVal×St):=
 match argTypes with
 | t ::_=>match P.underlying t with
  | some (.slice e)=>match P.info? e,Yn st.mem b with
   | some i,some blk=>match blk.arr,w3q st.mem i.size x with
    | some A,some (m,g,o)=>
     bif Nat.ble cx.floor b&&Nat.ble 1 i.size then
      (St.owe cx (st.withMem (Wz st.mem b (some ⟨Yq A.n (Jp A.get off (Nat.min m len) g),blk.ty,some ⟨A.sz,A.n,Jp A.get off (Nat.min m len) g⟩⟩)))
       (Nat.beq sz i.size&&(Nat.beq A.sz sz&&(decide (off+len≤A.n)&&o)))).map (.int .i64 (Nat.min m len:Nat), ·)
     else none
    | _,_=>none
   | _,_=>none
  | _=>none
 | _=>none
def x2m (P:Program) (cx:Ctx) (st:St) (argTypes:List TypeId) (args:List AVal):Option (AVal×St):=
 match args with
 | .sla b sz off len _::x::_=>y3j P cx st argTypes b sz off len x
 | .slv b sz off len::x::_=>y3j P cx st argTypes b sz off len x
 | args=>w4k P cx.floor st argTypes args
def y8u (P:Program) (floor:Nat) (st:St) (argTypes:List TypeId) (args:List AVal):Option (AVal×St):=
 match argTypes,args with
 | t ::_,d::_=>match P.underlying t with
  | some (.slice e)=>match P.info? e,z0d P e with
   | some i,some zero=>match d with
    | .nils =>some (.tup [],st)
    | .sl b off len _=>
     bif Nat.beq len 0 then some (.tup [],st) else
     bif Nat.beq zero.length i.size&&zero.all y1u&&Nat.ble floor b then
     match Yn st.mem b with
     | some blk=>
      bif Nat.ble (off+len*i.size) blk.cells.length then
       some (.tup [],st.withMem (Wz st.mem b (some ⟨blk.cells.take off++rep len zero++blk.cells.drop (off+len*i.size),blk.ty,none⟩)))
      else none
     | none=>none
     else none
    | _=>none
   | _,_=>none
  | _=>none
 | _,_=>none
def y2c :List AVal→Nat→T AVal→T AVal
 | [],_,t=>t
 | a::r,i,t=>y2c r (i+1) (T.set .undef t i a)
def x4y (P:Program) (st:St):ResultVar→Option AVal
 | .tmp t=>some (st.tmp t)
 | .cell a t=>w4g P st.mem t (st.tmp a)
def Qz (P:Program) (st:St):List ResultVar→Option (List AVal)
 | []=>some []
 | r::l=>match x4y P st r,Qz P st l with
  | some v,some vs=>some (v::vs)
  | _,_=>none
def z0h :List AVal→AVal
 | [v]=>v
 | vs=>.tup vs
def pf :Nat→AVal→Bool
 | 0,_=>false
 | d+1,v=>match v with
  | .bool _ | .int _ _ | .str _ | .nilp | .nils | .nilf | .nili | .dat _ _ | .dptr _=>true
  | .agg cs | .tup cs=>cs.all (pf d)
  | .fn _ cs=>cs.isEmpty
  | _=>false
inductive Spec where
 | val (F:List AVal→Option (AVal×Bool))
 | eff (F:List AVal→Mem→Option (AVal×Nat×ABlk×Bool))
 | gro (ty:TypeId) (F:Nat→(Nat→List AVal)→List AVal→Option (Nat×(Nat→List AVal)×Bool))
abbrev Specs :=FuncId→Option Spec
abbrev Runner :=Ctx→List Item→St→Option St
def pl :AVal→Bool
 | .bool _ | .int _ _=>true
 | _=>false
def plR (sz n:Nat) (get:Nat→List AVal):Bool:=pd (∀i,i<n→(get i).length =sz∧(get i).all pl=true)
def grOf (S:Specs) (f:FuncId) (args:List AVal):Option Nat:=match S f with
 | some (.gro _ _)=>match args with
  | .sla b _ _ _ _::_=>some b
  | _=>none
 | _=>none
def scal :AVal→Bool
 | .bool _ | .int _ _ | .str _=>true
 | .tup vs=>vs.all fun v=>match v with
  | .bool _ | .int _ _ | .str _ | .undef =>true
  | _=>false
 | _=>false
def j1c (m:Mem):AVal→AVal×Bool
 | .sla b sz off len cap=>match Yn m b with
  | some blk=>match blk.arr with
   | some A=>(.dat len fun k=>A.get (off+k),Nat.beq A.sz sz&&(decide (off+len≤A.n)&&pd (∀i,(A.get i).all (pf 6)=true)))
   | none=>(.undef,true)
  | none=>(.undef,true)
 | v=>(v,true)
def v2j (m:Mem):List AVal→List AVal×Bool
 | []=>([],true)
 | v::l=>match j1c m v,v2j m l with
  | (a,o),(az,q)=>(a::az,o&&q)
def v1x (P:Program) (S:Specs) (R:Runner) (lift:Bool) (f:FuncId) (args:List AVal) (cx:Ctx) (st:St):Option (AVal×St):=
 match S f with
 | some (.val F)=>bif args.all (pf 3) then (match F args with
   | some (v,b)=>bif pf 3 v||scal v then (st.owe cx b).map (v, ·) else none
   | none=>none) else
  match v2j st.mem args with
  | (args',o)=>match F args' with
   | some (v,b)=>bif args'.all (pf 3)&&scal v then (st.owe cx (o&&b)).map (v, ·) else none
   | none=>none
 | some (.eff F)=>match F args st.mem with
  | some (v,b,blk,o)=>match Yn st.mem b with
   | some _=>bif !lift&&Nat.ble cx.floor b then ((st.withMem (Wz st.mem b (some blk))).owe cx o).map (v, ·) else none
   | none=>none
  | none=>none
 | some (.gro ty0 F)=>match args with
  | .sla b sz 0 n (.un sz')::r=>match Yn st.mem b with
   | some ⟨_,ty,some A⟩=>bif (Nat.beq ty ty0&&(Nat.beq sz sz'&&Nat.beq A.sz sz))&&(r.all (pf 3)&&(Nat.ble cx.floor b&&Nat.ble 1 sz)) then
     (match F n A.get r with
     | some (n',g,o)=>(St.owe cx (match st with
      | ⟨env,mem,next,orc,ob⟩=>⟨env,Wz (Wz mem b none) next (some ⟨Yq n' g,ty,some ⟨sz,n',.flat g⟩⟩),next+1,orc,ob⟩) (o&&(Nat.beq A.n n&&(plR sz n A.get&&plR sz n' g)))).map (.sla st.next sz 0 n' (.un sz), ·)
     | none=>none) else none
   | _=>none
  | _=>none
 | none=>match P.funcs[f]? with
  | some fn=>match fn.body with
   | some body=>
    match R ⟨Nat.max fn.ntmps args.length,bif lift then st.next else cx.floor,cx.sym⟩ [.code body] (st.withEnv (y2c args 0 .leaf)) with
    | some st2=>match Qz P st2 fn.results.toList with
     | some vs=>some (z0h vs,st2.withEnv st.env)
     | none=>none
    | none=>none
   | none=>none
  | none=>none
def We (P:Program) (S:Specs) (R:Runner) (lift:Bool) (op:Op) (cx:Ctx) (st:St):Option (AVal×St):=
 match op with
 | .load t x=>match v9i P st t (st.eval x) with
  | some (v,b,st1)=>(st1.owe cx b).map (v, ·)
  | none=>none
 | .alloc t=>(z0d P t).map fun z=>(.ptr st.next 0,y2k st z t)
 | .box t x=>bif z4e (st.eval x) then some (.ptr st.next 0,y2k st (st.eval x).cells t) else none
 | .buildSlice t len parts=>Kk P cx.sym st t len (parts.toList.map fun p=>(p.1,st.eval p.2))
 | .store t a x=>match st.eval a with
  | .epa b sz r fo=>(z8f P cx st t (.epa b sz r fo) (st.eval x)).map (.tup [], ·)
  | y=>(y8n P cx.floor st t y (st.eval x)).map (.tup [], ·)
 | .makeSlice t l c=>bif cx.sym then (bif st.nextO then Um P st.dropO t (st.eval l) (st.eval c) else Kj P cx st.dropO t (st.eval l) (st.eval c)) else Um P st t (st.eval l) (st.eval c)
 | .call {callee:=.builtin .append,args,argTypes}=>z2i P cx st argTypes.toList (args.toList.map st.eval)
 | .call {callee:=.builtin .copy,args,argTypes}=>x2m P cx st argTypes.toList (args.toList.map st.eval)
 | .call {callee:=.builtin .clear,args,argTypes}=>y8u P cx.floor st argTypes.toList (args.toList.map st.eval)
 | .call {callee:=.value f,args,argTypes:=_}=>match st.eval f with
  | .fn g caps=>v1x P S R lift g (args.toList.map st.eval++caps) cx st
  | .fnb g first=>v1x P S R lift g (first++args.toList.map st.eval) cx st
  | _=>none
 | _=>none
def z9p (P:Program) (S:Specs) (R:Runner) (lift:Bool) (o:Oper) (cx:Ctx) (st:St):Option St:=
 match Qa P o.op st.eval with
 | some (v,b)=>match st.owe cx b with
  | some st=>st.put cx o.dst v
  | none=>none
 | none=>match We P S R lift o.op cx st with
  | some (v,st)=>st.put cx o.dst v
  | none=>none
def y0p (ops:Array Oper) (o:Oper) (cx:Ctx) (st:St):Option (Bool×St):=
 match o.guard with
 | none=>some (true,st)
 | some (j,want)=>match (ops[j]?).bind (·.dst) with
  | none=>none
  | some d=>match st.tmp d with
   | .bool b=>match st.test b with
    | (e,st1)=>match st1.put cx (some d) (.bool e) with
     | some st2=>some (e == want,st2)
     | none=>none
   | .tup []=>some (false,st)
   | _=>none
def v5v :List Bool→Nat×List Bool
 | []=>(0,[])
 | false::r=>(0,r)
 | true::r=>((v5v r).1+1,(v5v r).2)
def St.conc (cx:Ctx) (t:Nat) (kd:IntKind) (n:Int):St→Option St
 | ⟨env,mem,next,[],ob⟩=>some ⟨env,mem,next,[],ob⟩
 | ⟨env,mem,next,o::r,ob⟩=>bif Nat.ble (t+1) cx.n then some ⟨T.set .undef env t (.int kd (Int.ofNat (v5v (o::r)).1)),mem,next,(v5v (o::r)).2,decide (n=Int.ofNat (v5v (o::r)).1)&&ob⟩ else none
def u5n (o:Oper) (cx:Ctx) (st:St):Option St:=
 match o.op with
 | .indexAddr _ x (.tmp t)=>match st.eval x with
  | .ptr _ _ | .epa _ _ _ _ | .dptr _=>match st.tmp t with
   | .int kd n=>st.conc cx t kd n
   | _=>some st
  | _=>some st
 | .index _ x (.tmp t)=>match st.eval x with
  | .agg _=>match st.tmp t with
   | .int kd n=>st.conc cx t kd n
   | _=>some st
  | _=>some st
 | _=>some st
def z0b (ops:Array Oper) (o:Oper) (cx:Ctx) (st:St):Option (Bool×St):=
 match y0p ops o cx st with
 | some (true,st1)=>match u5n o cx st1 with
  | some st2=>some (true,st2)
  | none=>none
 | x=>x
def x1k (P:Program) (S:Specs) (R:Runner) (ops:Array Oper) (cx:Ctx) (l:List (Bool×Oper)):St→Option St:=
 List.rec (motive:=fun _=>St→Option St) (fun st=>some st)
  (fun x _ rec st=>match z0b ops x.2 cx st with
   | none=>none
   | some (true,st)=>match z9p P S R x.1 x.2 cx st with
    | some st=>rec st
    | none=>none
   | some (false,st)=>match st.put cx x.2.dst (.tup []) with
    | some st=>rec st
    | none=>none) l
inductive Kind where
 | pure | read | alloc | call | chain | lit | birth
 deriving DecidableEq
def Xk :Op→Kind
 | .load .. =>.read
 | .alloc _=>.alloc
 | .box .. | .buildSlice .. | .store .. | .makeSlice .. =>.chain
 | .call {callee:=.builtin .append,.. } | .call {callee:=.builtin .copy,.. } | .call {callee:=.builtin .clear,.. }=>.chain
 | .call {callee:=.value _,.. }=>.call
 | _=>.pure
def y9j (z:Nat):Op→Bool
 | .buildSlice _ n _=>Nat.beq z 1||(Nat.beq z 3&&Nat.ble 1 n)
 | _=>false
def isBirth (z:Nat):Op→Bool
 | .buildSlice .. =>Nat.beq z 2
 | _=>false
def Xj (z:Nat) (op:Op):Kind:=bif y9j z op then .lit else bif isBirth z op then .birth else Xk op
def v1o :List Oper→List Nat→List Nat
 | [],acc=>acc
 | o::r,acc=>v1o r (acc++[o.after.toList.foldl (fun s e=>bif Region.binds .any e then s||| (2 ^ e.on)||| acc.getD e.on 0 else s) 0])
def isAlloc (ops:Array Oper) (i:Nat):Bool:=(ops[i]?).any fun o=>Xk o.op == .alloc
def Yk (ops:Array Oper):List Nat:=
 (List.range ops.size).filter (isAlloc ops)++(List.range ops.size).filter (fun i=> !isAlloc ops i)
def z5o (ops:Array Oper) (i:Nat):Bool:=
 (List.range ops.size).any fun j=>(ops[j]?).any (fun o=>Xk o.op == .read)&&
  ((Nat.ble (i+1) j&& !((v1o ops.toList []).getD j 0).testBit i)||(Nat.ble (j+1) i&& !((v1o ops.toList []).getD i 0).testBit j))
def z2f (ops:Array Oper):List (Nat×Bool×Oper):=(Yk ops).map fun i=>(i,z5o ops i,ops.getD i default)
def w2h :Kind→Kind→Bool
 | .pure,_=>true
 | _,.pure =>true
 | .lit,_=>true
 | _,.lit =>true
 | .birth,_=>true
 | _,.birth =>true
 | .alloc,_=>true
 | _,.alloc =>true
 | .read,.read =>true
 | .read,.call =>true
 | .call,.read =>true
 | .read,.chain =>true
 | .chain,.read =>true
 | _,_=>false
def x1i (z:Nat) (ops:Array Oper) (i j:Nat) (p o:Oper):Bool:=
 (((v1o ops.toList []).getD j 0).testBit i||(p.apart ops o&&w2h (Xj z p.op) (Xj z o.op)))&&
 (match p.dst with | some d=> !(o.dst == some d) | none=>true)&&
 (!(Xk o.op == .alloc)||p.apart ops o)&&
 (!isBirth z o.op||(match Xj z p.op with
  | .chain | .call =>false
  | _=>true))
def y8f (z:Nat) (ops:Array Oper):Bool:=
 (List.range ops.size).all fun j=>match ops[j]? with
  | none=>false
  | some o=>o.after.toList.all (fun e=> !Region.binds .any e||Nat.ble (e.on+1) j)&&(!(Xk o.op == .alloc ||isBirth z o.op)||o.guard.isNone)&&
   (List.range j).all fun i=>match ops[i]? with
    | none=>false
    | some p=>x1i z ops i j p o
def w1g (op:Op) (ev:Operand→AVal):Option Nat:=
 match op with
 | .load _ x=>match ev x with
  | .ptr b _=>some b
  | .epa b _ _ _=>some b
  | _=>none
 | _=>none
def x5h (op:Op) (ev:Operand→AVal):Option Nat:=
 match op with
 | .store _ a _=>match ev a with
  | .ptr b _=>some b
  | .epa b _ _ _=>some b
  | _=>none
 | .call {callee:=.builtin .append,args,argTypes:=_}=>match args.toList.map ev with
  | .sl b _ _ _::_=>some b
  | .sla b _ _ _ _::_=>some b
  | _=>none
 | .call {callee:=.builtin .copy,args,argTypes:=_}=>match args.toList.map ev with
  | .sl b _ _ _::_=>some b
  | .sla b _ _ _ _::_=>some b
  | .slv b _ _ _::_=>some b
  | _=>none
 | .call {callee:=.builtin .clear,args,argTypes:=_}=>match args.toList.map ev with
  | .sl b _ _ _::_=>some b
  | _=>none
 | _=>none
def clash :Option Nat→Option Nat→Bool
 | some a,some b=>Nat.beq a b
 | _,_=>false
def ordered (ops:Array Oper) (i j:Nat):Bool:=((v1o ops.toList []).getD j 0).testBit i||((v1o ops.toList []).getD i 0).testBit j
abbrev Foot :=Nat×Option Nat×Option Nat
def w6r (ops:Array Oper) (x y:Foot):Bool:= !(clash x.2.1 y.2.2||clash x.2.2 y.2.1)||ordered ops x.1 y.1
def y9g (P:Program) (S:Specs) (R:Runner) (ops:Array Oper) (cx:Ctx) (x:Bool×Oper) (st:St):Option St:=
 match z0b ops x.2 cx st with
 | none=>none
 | some (true,st)=>z9p P S R x.1 x.2 cx st
 | some (false,st)=>st.put cx x.2.dst (.tup [])
def j8m (P:Program) (t:TypeId) (len:Nat) (parts:List (Nat×AVal)):Option AVal:=
 match P.underlying t with
 | some (.slice e)=>match P.info? e,z0d P e with
  | some i,some zero=>
   bif (Nat.ble 1 len&&Nat.ble 1 i.size)&&(Nat.ble (len*i.size) 16777216&&Nat.beq zero.length i.size) then
    match x4z (fun j=>some (j*i.size,i.size)) (rep len zero) parts with
    | some cells=>bif Nat.beq cells.length (len*i.size)&&cells.all (pf 6) then some (.dat len fun k=>(cells.drop (k*i.size)).take i.size) else none
    | none=>none
   else none
  | _,_=>none
 | _=>none
def w2d (P:Program) (o:Oper) (cx:Ctx) (st:St):Option St:=
 match o.op with
 | .buildSlice t len parts=>match j8m P t len (parts.toList.map fun p=>(p.1,st.eval p.2)) with
  | some v=>st.put cx o.dst v
  | none=>none
 | _=>none
def w4m (P:Program) (t:TypeId) (len:Nat) (parts:List (Nat×AVal)):Option (List AVal×TypeId×Nat):=
 match P.underlying t with
 | some (.slice e)=>match P.info? e,z0d P e with
  | some i,some zero=>
   bif (Nat.ble 1 len&&Nat.ble 1 i.size)&&(Nat.ble (len*i.size) 16777216&&Nat.beq zero.length i.size) then
    match x4z (fun j=>some (j*i.size,i.size)) (rep len zero) parts with
    | some cells=>bif Nat.beq cells.length (len*i.size) then some (cells,e,i.size) else none
    | none=>none
   else none
  | _,_=>none
 | _=>none
def y8l (P:Program) (o:Oper) (cx:Ctx) (st:St):Option St:=
 match o.op with
 | .buildSlice t len parts=>match w4m P t len (parts.toList.map fun p=>(p.1,st.eval p.2)) with
  | some (cells,e,sz)=>(y2k st cells e).put cx o.dst (.sl st.next 0 len (bif cx.sym then .un sz else .ex len))
  | none=>none
 | _=>none
def x9e (z:Nat) (P:Program) (S:Specs) (R:Runner) (ops:Array Oper) (cx:Ctx) (x:Bool×Oper) (st:St):Option St:=
 bif y9j z x.2.op then (match z0b ops x.2 cx st with
  | none=>none
  | some (true,st)=>w2d P x.2 cx st
  | some (false,st)=>st.put cx x.2.dst (.tup [])) else bif isBirth z x.2.op then (match z0b ops x.2 cx st with
  | none=>none
  | some (true,st)=>y8l P x.2 cx st
  | some (false,st)=>st.put cx x.2.dst (.tup [])) else y9g P S R ops cx x st
def wrC (S:Specs) (op:Op) (ev:Operand→AVal):Option Nat:=match op with
 | .call {callee:=.value f,args,argTypes:=_}=>match ev f with
  | .fn g caps=>grOf S g (args.toList.map ev++caps)
  | .fnb g first=>grOf S g (first++args.toList.map ev)
  | _=>none
 | op=>x5h op ev
def z4o (S:Specs) (x:Nat×Bool×Oper) (ev:Operand→AVal):Foot:=(x.1,w1g x.2.2.op ev,wrC S x.2.2.op ev)
def w3y (op:Op) (ev:Operand→AVal) (mem:Mem):Option Nat:=match op with
 | .call {callee:=.builtin .append,args,argTypes:=_}=>match args.toList.map ev with
  | .sla b _ _ _ (.un _)::.sl _ _ _ _::_=>some b
  | .sl b off len (.un z)::.sl _ _ n _::_=>match Yn mem b with
   | some blk=>bif Nat.beq (off+len*z) blk.cells.length&&Nat.ble 1 n then some b else none
   | none=>none
  | _=>none
 | _=>none
def u5i (z:Nat) (op:Op):Bool:=match Xj z op with
 | .pure | .read =>true
 | _=>false
def z2m (z:Nat) (ops:Array Oper) (i q:Nat):Bool:=(List.range ops.size).all fun j=>match ops[j]? with
 | some o=>u5i z o.op||(Nat.beq j q||(((v1o ops.toList []).getD q 0).testBit j||((v1o ops.toList []).getD j 0).testBit i))
 | none=>true
def lateF (z:Nat) (ops:Array Oper) (x:Nat×Bool×Oper) (ev:Operand→AVal) (mem:Mem):Foot→Bool
 | (i,some b',none)=>match w3y x.2.2.op ev mem with
  | some b=>Nat.beq b b'&&z2m z ops i x.1
  | none=>false
 | _=>false
def y1p (z:Nat) (P:Program) (S:Specs) (R:Runner) (ops:Array Oper) (cx:Ctx) (l:List (Nat×Bool×Oper)):List Foot→St→Option St:=
 List.rec (motive:=fun _=>List Foot→St→Option St) (fun _ st=>some st)
  (fun x _ rec acc st=>bif acc.all (fun y=>w6r ops (z4o S x st.eval) y||lateF z ops x st.eval st.mem y) then
    match x9e z P S R ops cx x.2 st with
    | some st'=>rec (z4o S x st.eval::acc) st'
    | none=>none
   else none) l
def Ya :List (Nat×AVal)→T AVal
 | []=>.leaf
 | (t,v)::l=>T.set .undef (Ya l) t v
def j0r (P:Program) (f:FuncId):Code:=match P.funcs[f]? with
 | some fn=>fn.body.getD .ret
 | none=>.ret
def Zy (P:Program) (f:FuncId):List ResultVar:=match P.funcs[f]? with
 | some fn=>fn.results.toList
 | none=>[]
theorem z6l (m:Nat):Nat.beq (m %2) 0=true↔m %2=0:=by
 constructor
 ·exact fun h=>Ak h
 ·intro h;rw [h];rfl
@[simp] theorem T.get_leaf {α:Type} (d:α) (n:Nat):T.get d .leaf n=d:=rfl
@[simp] theorem T.get_zero {α:Type} (d v:α) (l r:T α):T.get d (.node v l r) 0=v:=rfl
theorem T.get_succ {α:Type} (d v:α) (l r:T α) (m:Nat):T.get d (.node v l r) (m+1)=if m %2=0 then T.get d l (m / 2) else T.get d r (m / 2):=by
 show (bif Nat.beq (m %2) 0 then T.get d l (m / 2) else T.get d r (m / 2))=_;by_cases h:m %2=0
 ·rw [AC h,(z6l m).2 h];rfl
 ·rw [Ay h,show Nat.beq (m %2) 0=false from A4.2 (fun e=>h ((z6l m).1 e))];rfl
theorem T.setF_leaf_zero {α:Type} (d v:α) (f:Nat):T.setF d v (f+1) .leaf 0=.node v .leaf .leaf :=rfl
theorem T.setF_node_zero {α:Type} (d v u:α) (l r:T α) (f:Nat):T.setF d v (f+1) (.node u l r) 0=.node v l r:=rfl
theorem T.setF_leaf_succ {α:Type} (d v:α) (f m:Nat):T.setF d v (f+1) .leaf (m+1)=
  if m %2=0 then .node d (T.setF d v f .leaf (m / 2)) .leaf else .node d .leaf (T.setF d v f .leaf (m / 2)):=by
 show (bif Nat.beq (m %2) 0 then (_:T α) else _)=_;by_cases h:m %2=0
 ·rw [AC h,(z6l m).2 h];rfl
 ·rw [Ay h,show Nat.beq (m %2) 0=false from A4.2 (fun e=>h ((z6l m).1 e))];rfl
theorem T.setF_node_succ {α:Type} (d v u:α) (l r:T α) (f m:Nat):T.setF d v (f+1) (.node u l r) (m+1)=
  if m %2=0 then .node u (T.setF d v f l (m / 2)) r else .node u l (T.setF d v f r (m / 2)):=by
 show (bif Nat.beq (m %2) 0 then (_:T α) else _)=_;by_cases h:m %2=0
 ·rw [AC h,(z6l m).2 h];rfl
 ·rw [Ay h,show Nat.beq (m %2) 0=false from A4.2 (fun e=>h ((z6l m).1 e))];rfl
theorem T.get_setF {α:Type} (d v:α): ∀(f:Nat) (t:T α) (n k:Nat),n<f→T.get d (T.setF d v f t n) k=if k=n then v else T.get d t k
 | 0,_,_,_,h=>absurd h (AO _)
 | f+1,.leaf,0,k,_=>by
  rw [T.setF_leaf_zero];cases k with
  | zero=>simp
  | succ k=>rw [T.get_succ];simp
 | f+1,.node u l r,0,k,_=>by
  rw [T.setF_node_zero];cases k with
  | zero=>simp
  | succ k=>rw [T.get_succ,T.get_succ];simp
 | f +1,.leaf,m+1,k,h=>by
  rw [T.setF_leaf_succ];have hm:m / 2<f:=by omega
  cases k with
  | zero=>split <;> simp
  | succ k=>
   have ih:=T.get_setF d v f .leaf (m / 2) (k / 2) hm;by_cases hp:m %2=0
   ·rw [AC hp,T.get_succ];by_cases hk:k %2=0
    ·rw [AC hk,ih];by_cases e:k / 2=m / 2
     ·rw [AC e,AC (by omega)]
     ·rw [Ay e,Ay (by omega)];simp
    ·rw [Ay hk,Ay (by omega)];simp
   ·rw [Ay hp,T.get_succ];by_cases hk:k %2=0
    ·rw [AC hk,Ay (by omega)];simp
    ·rw [Ay hk,ih];by_cases e:k / 2=m / 2
     ·rw [AC e,AC (by omega)]
     ·rw [Ay e,Ay (by omega)];simp
 | f +1,.node u l r,m+1,k,h=>by
  rw [T.setF_node_succ];have hm:m / 2<f:=by omega
  cases k with
  | zero=>split <;> simp
  | succ k=>
   by_cases hp:m %2=0
   ·rw [AC hp,T.get_succ,T.get_succ];by_cases hk:k %2=0
    ·rw [AC hk,AC hk,T.get_setF d v f l (m / 2) (k / 2) hm];by_cases e:k / 2=m / 2
     ·rw [AC e,AC (by omega)]
     ·rw [Ay e,Ay (by omega)]
    ·rw [Ay hk,Ay hk,Ay (by omega)]
   ·rw [Ay hp,T.get_succ,T.get_succ];by_cases hk:k %2=0
    ·rw [AC hk,AC hk,Ay (by omega)]
    ·rw [Ay hk,Ay hk,T.get_setF d v f r (m / 2) (k / 2) hm];by_cases e:k / 2=m / 2
     ·rw [AC e,AC (by omega)]
     ·rw [Ay e,Ay (by omega)]
theorem T.get_set {α:Type} (d:α) (t:T α) (n:Nat) (v:α) (k:Nat):T.get d (T.set d t n v) k=if k=n then v else T.get d t k:=
 T.get_setF d v (n+1) t n k (B4 n)
theorem Vk (m:Mem) (b:Nat) (o:Option ABlk) (k:Nat):Yn (Wz m b o) k=if k=b then o else Yn m k:=T.get_set none m b o k
theorem Yj (m:Mem) (b:Nat) (o:Option ABlk):Yn (Wz m b o) b=o:=by rw [Vk,AC rfl]
theorem Zw (m:Mem) {b k:Nat} (o:Option ABlk) (h:k≠b):Yn (Wz m b o) k=Yn m k:=by rw [Vk,Ay h]
inductive Vj {α β:Type} (R:α→β→Prop):List α→List β→Prop
 | nil:Vj R [] []
 | cons {a:α} {b:β} {l:List α} {m:List β} (h:R a b) (t:Vj R l m):Vj R (a::l) (b::m)
theorem Vj.length {α β:Type} {R:α→β→Prop} {l:List α} {m:List β} (h:Vj R l m):l.length=m.length:=by
 induction h with
 | nil=>rfl
 | cons _ _ ih=>simp [ih]
theorem Vj.get {α β:Type} {R:α→β→Prop} {l:List α} {m:List β} (h:Vj R l m): ∀(i:Nat) (h1:i<l.length) (h2:i<m.length),R l[i] m[i]:=by
 induction h with
 | nil=>intro i h1;simp at h1
 | cons h _ ih=>
  intro i h1 h2;cases i with
  | zero=>exact h
  | succ i=>exact ih i (by simpa using h1) (by simpa using h2)
theorem Vj.append {α β:Type} {R:α→β→Prop} {l l':List α} {m m':List β} (h:Vj R l m) (k:Vj R l' m'):Vj R (l++l') (m++m'):=by
 induction h with
 | nil=>exact k
 | cons h _ ih=>exact .cons h ih
theorem Vj.of {α β:Type} {R:α→β→Prop}: ∀{l:List α} {m:List β},l.length=m.length→(∀(i:Nat) (h1:i<l.length) (h2:i<m.length),R l[i] m[i])→Vj R l m
 | [],[],_,_=>.nil
 | [],_::_,h,_=>by simp at h
 | _::_,[],h,_=>by simp at h
 | a::l,b::m,h,hr=>.cons (hr 0 (by simp) (by simp)) (Vj.of (by simpa using h) fun i h1 h2=>hr (i+1) (by simpa using h1) (by simpa using h2))
theorem Vj.maps {α γ δ:Type} {R:γ→δ→Prop} (f:α→γ) (g:α→δ): ∀(l:List α),(∀a,a∈l→R (f a) (g a))→Vj R (l.map f) (l.map g)
 | [],_=>.nil
 | a::l,h=>.cons (h a (by simp)) (Vj.maps f g l fun b hb=>h b (by simp [hb]))
structure Loc where
 blk:Nat
 base:Nat
 n:Nat
 tot:Nat
abbrev Old :=Nat→Option Obj
structure Rho where
 f:Nat→Option Loc
 fz:Old
 lp:Nat→Option Nat
instance : CoeFun Rho (fun _=>Nat→Option Loc):=⟨Rho.f⟩
def Rho.bare (ρ:Rho):Rho:=⟨fun _=>none,ρ.fz,fun _=>none⟩
def z2w (H:Old):Rho:=⟨fun _=>none,H,fun _=>none⟩
def z1q (l:Loc) (off:Nat):v2a→Nat→Prop
 | .ex k,c=>c=k
 | .un sz,c=>l.n≤off+c*sz∧off+c*sz≤l.tot
def x8g (H:Old) (blk o:Nat) (v:Value):Prop:= ∃cs el fz,H blk=some (.cells cs el fz)∧cs[o]? =some v
inductive Yw :Rho→AVal→Value→Prop
 | undef {ρ:Rho} (v:Value):Yw ρ .undef v
 | bool {ρ:Rho} (b:Bool):Yw ρ (.bool b) (.bool b)
 | int {ρ:Rho} (k:IntKind) (n:Int):Yw ρ (.int k n) (.int k n)
 | str {ρ:Rho} (s:List UInt8):Yw ρ (.str s) (.string ⟨s.toArray⟩)
 | agg {ρ:Rho} (cs:List AVal) (vs:Array Value) (hl:cs.length=vs.size) (h: ∀(i:Nat) (h1:i<cs.length) (h2:i<vs.size),Yw ρ cs[i] vs[i]):Yw ρ (.agg cs) (.agg vs)
 | tup {ρ:Rho} (cs:List AVal) (vs:Array Value) (hl:cs.length=vs.size) (h: ∀(i:Nat) (h1:i<cs.length) (h2:i<vs.size),Yw ρ cs[i] vs[i]):Yw ρ (.tup cs) (.tuple vs)
 | ptr {ρ:Rho} (b off:Nat) (l:Loc) (h:ρ b=some l):Yw ρ (.ptr b off) (.pointer (some ⟨l.blk,l.base+off,none⟩))
 | nilp {ρ:Rho}:Yw ρ .nilp (.pointer none)
 | sl {ρ:Rho} (b off len:Nat) (cap:v2a) (l:Loc) (c:Nat) (h:ρ b=some l) (hc:z1q l off cap c) (dR:len≤c):Yw ρ (.sl b off len cap) (.slice (some ⟨l.blk,l.base+off,none⟩) len c)
 | nils {ρ:Rho}:Yw ρ .nils (.slice none 0 0)
 | sla {ρ:Rho} (b sz off len:Nat) (cap:v2a) (l:Loc) (c:Nat) (h:ρ b=some l) (hc:z1q l (off*sz) cap c) (dR:len≤c):Yw ρ (.sla b sz off len cap) (.slice (some ⟨l.blk,l.base+off*sz,none⟩) len c)
 | slan {ρ:Rho} (b sz off:Nat) (cap:v2a):Yw ρ (.sla b sz off 0 cap) (.slice none 0 0)
 | slv {ρ:Rho} (b sz off len:Nat) (l:Loc) (c:Nat) (h:ρ b=some l) (dR:len≤c):Yw ρ (.slv b sz off len) (.slice (some ⟨l.blk,l.base+off*sz,none⟩) len c)
 | slve {ρ:Rho} (b sz off:Nat) (blk base c:Nat):Yw ρ (.slv b sz off 0) (.slice (some ⟨blk,base,none⟩) 0 c)
 | slvn {ρ:Rho} (b sz off:Nat):Yw ρ (.slv b sz off 0) (.slice none 0 0)
 | epa {ρ:Rho} (b sz i fo:Nat) (l:Loc) (h:ρ b=some l):Yw ρ (.epa b sz i fo) (.pointer (some ⟨l.blk,l.base+(i*sz+fo),none⟩))
 | fn {ρ:Rho} (f:FuncId) (cs:List AVal) (vs:Array Value) (hl:cs.length=vs.size) (h: ∀(i:Nat) (h1:i<cs.length) (h2:i<vs.size),Yw ρ cs[i] vs[i]):Yw ρ (.fn f cs) (.func (.func f) #[] vs)
 | nilf {ρ:Rho}:Yw ρ .nilf .nilFunc
 | fnb {ρ:Rho} (f:FuncId) (cs:List AVal) (vs:Array Value) (hl:cs.length=vs.size) (h: ∀(i:Nat) (h1:i<cs.length) (h2:i<vs.size),Yw ρ cs[i] vs[i]):Yw ρ (.fnb f cs) (.func (.func f) vs #[])
 | yld {ρ:Rho} (j l:Nat) (h:ρ.lp j=some l):Yw ρ (.yld j) (.func (.yield l) #[] #[])
 | ifc {ρ:Rho} (t:TypeId) (a:AVal) (v:Value) (h:Yw ρ a v):Yw ρ (.ifc t a) (.iface t v)
 | nili {ρ:Rho}:Yw ρ .nili .nilIface
 | dat {ρ:Rho} (len:Nat) (get:Nat→List AVal) (blk base sz cap:Nat) (val:Nat→Nat→Value) (dW:len≤cap) (hsz: ∀i,i<len→(get i).length =sz)
   (hv: ∀(i j:Nat) (_:i<len) (hj:j<(get i).length),Yw ρ.bare (get i)[j] (val i j)) (hh: ∀i j,i<len→j<sz→x8g ρ.fz blk (base+(i*sz+j)) (val i j)):Yw ρ (.dat len get) (.slice (some ⟨blk,base,none⟩) len cap)
 | datn {ρ:Rho} (get:Nat→List AVal):Yw ρ (.dat 0 get) (.slice none 0 0)
 | datz {ρ:Rho} (get:Nat→List AVal) (a:Addr) (c:Nat):Yw ρ (.dat 0 get) (.slice (some a) 0 c)
 | dptr {ρ:Rho} (cs:List AVal) (blk base:Nat) (val:Nat→Value) (hv: ∀(j:Nat) (hj:j<cs.length),Yw ρ.bare cs[j] (val j)) (hh: ∀j,j<cs.length→x8g ρ.fz blk (base+j) (val j)):Yw ρ (.dptr cs) (.pointer (some ⟨blk,base,none⟩))
def Ue (ρ:Rho) (cs:List AVal) (vs:Array Value):Prop:=cs.length=vs.size∧ ∀(i:Nat) (h1:i<cs.length) (h2:i<vs.size),Yw ρ cs[i] vs[i]
def Rho.le (ρ ρ':Rho):Prop:=(∀b l,ρ b=some l→ρ' b=some l)∧(∀k o,ρ.fz k=some o→ρ'.fz k=some o)∧ ∀j l,ρ.lp j=some l→ρ'.lp j=some l
theorem Rho.le_refl (ρ:Rho):ρ.le ρ:=⟨fun _ _ h=>h,fun _ _ h=>h,fun _ _ h=>h⟩
theorem Rho.le_trans {a b c:Rho} (h:a.le b) (k:b.le c):a.le c:=⟨fun x l e=>k.1 x l (h.1 x l e),fun x l e=>k.2.1 x l (h.2.1 x l e),fun x l e=>k.2.2 x l (h.2.2 x l e)⟩
theorem Rho.le.bare {ρ ρ':Rho} (h:ρ.le ρ'):ρ.bare.le ρ'.bare:=⟨fun _ _ e=>(by cases e),h.2.1,fun _ _ e=>(by cases e)⟩
theorem x4v (ρ:Rho):ρ.bare.le ρ:=⟨fun _ _ e=>(by cases e),fun _ _ e=>e,fun _ _ e=>(by cases e)⟩
theorem x8g.mono {ρ ρ':Rho} (h:ρ.le ρ') {blk o:Nat} {v:Value} (hc:x8g ρ.fz blk o v):x8g ρ'.fz blk o v:=by obtain ⟨cs,el,fz,h1,h2⟩:=hc;exact ⟨cs,el,fz,h.2.1 _ _ h1,h2⟩
theorem Yw.mono {ρ ρ':Rho} (h:ρ.le ρ') {a:AVal} {v:Value} (hv:Yw ρ a v):Yw ρ' a v:=by
 induction hv generalizing ρ' with
 | undef v=>exact .undef v
 | bool b=>exact .bool b
 | int k n=>exact .int k n
 | str s=>exact .str s
 | agg cs vs hl _ ih=>exact .agg cs vs hl fun i h1 h2=>ih i h1 h2 h
 | tup cs vs hl _ ih=>exact .tup cs vs hl fun i h1 h2=>ih i h1 h2 h
 | ptr b off l e=>exact .ptr b off l (h.1 _ _ e)
 | nilp=>exact .nilp
 | sl b off len cap l c e hc dR=>exact .sl b off len cap l c (h.1 _ _ e) hc dR
 | nils=>exact .nils
 | sla b sz off len cap l c e hc dR=>exact .sla b sz off len cap l c (h.1 _ _ e) hc dR
 | slan b sz off cap=>exact .slan b sz off cap
 | slv b sz off len l c e dR=>exact .slv b sz off len l c (h.1 _ _ e) dR
 | slve b sz off blk base c=>exact .slve b sz off blk base c
 | slvn b sz off=>exact .slvn b sz off
 | epa b sz i fo l e=>exact .epa b sz i fo l (h.1 _ _ e)
 | fn f cs vs hl _ ih=>exact .fn f cs vs hl fun i h1 h2=>ih i h1 h2 h
 | nilf=>exact .nilf
 | fnb f cs vs hl _ ih=>exact .fnb f cs vs hl fun i h1 h2=>ih i h1 h2 h
 | yld j l e=>exact .yld j l (h.2.2 _ _ e)
 | ifc t a v _ ih=>exact .ifc t a v (ih h)
 | nili=>exact .nili
 | dat len get blk base sz cap val dW hsz hv hh ih=>exact .dat len get blk base sz cap val dW hsz (fun i j hi hj=>ih i j hi hj h.bare) fun i j hi hj=>(hh i j hi hj).mono h
 | datn get=>exact .datn get
 | datz get a c=>exact .datz get a c
 | dptr cs blk base val hv hh ih=>exact .dptr cs blk base val (fun j hj=>ih j hj h.bare) fun j hj=>(hh j hj).mono h
theorem Yw.oneCell {ρ:Rho} {a:AVal} {v:Value} (h:Yw ρ a v) (hs:y1u a=true):v.oneCell'=true:=by
 cases h <;> first | rfl | (simp [y1u] at hs)
theorem Yw.cells {ρ:Rho} {a:AVal} {v:Value} (h:Yw ρ a v) (hu:z4e a=true):Ue ρ a.cells v.cells:=by
 cases h
 case agg cs vs hl hh=>exact ⟨hl,hh⟩
 all_goals first
  | (simp [z4e] at hu;done)
  | (refine ⟨rfl,fun i h1 h2=> ?_⟩
     have h0:i=0:=by simp [AVal.cells] at h1;exact h1
     subst h0;simp only [AVal.cells,Value.cells,List.getElem_cons_zero,List.getElem_toArray];constructor <;> assumption)
theorem Yw.cells_oneCell {ρ:Rho} {cs:List AVal} {vs:Array Value} (h:Ue ρ cs vs) (hs:cs.all y1u=true): ∀v∈vs.toList,v.oneCell'=true:=by
 intro v hv;obtain ⟨i,hi,rfl⟩:=AS hv;have h2:i<vs.size:=by simpa using hi
 have h1:i<cs.length:=by rw [h.1];exact h2
 simpa using (h.2 i h1 h2).oneCell (At.1 hs _ (AM h1))
structure Jz (ρ:Rho) (w:World) (ab:ABlk) (l:Loc):Prop where
 n:l.n=ab.cells.length
 tot:l.n≤l.tot
 arr: ∀A,ab.arr=some A→ab.cells=Yq A.n A.get∧1≤A.sz∧ ∀i,i<A.n→(A.get i).length =A.sz
 cells: ∃cs el,w.heap[l.blk]? =some (.cells cs el (0,0))∧l.base+l.tot≤cs.size∧
  ∀(i:Nat) (h:i<ab.cells.length),∃v,cs[l.base+i]? =some v∧Yw ρ ab.cells[i] v
structure Rel (ρ:Rho) (mem:Mem) (next:Nat) (w:World):Prop where
 dom: ∀b l,ρ b=some l→b<next
 inj: ∀b b' l l',ρ b=some l→ρ b'=some l'→l.blk=l'.blk→(Yn mem b).isSome =true→(Yn mem b').isSome =true→b=b'
 blk: ∀b l ab,ρ b=some l→Yn mem b=some ab→Jz ρ w ab l
 old: ∀k o,ρ.fz k=some o→w.heap[k]? =some o
 sep: ∀b l,ρ b=some l→(Yn mem b).isSome =true→ρ.fz l.blk=none
 real: ∀b l,ρ b=some l→l.blk<w.heap.size
 bd: ∀b,next≤b→Yn mem b=none
 ldom: ∀j l,ρ.lp j=some l→j<next
structure Ev (ρ ρ':Rho) (floor:Nat) (m:Mem) (next:Nat) (m':Mem) (next':Nat) (w w':World):Prop where
 ext:ρ.le ρ'
 new: ∀b,b<next→ρ' b=ρ b
 nxt:next≤next'
 unborn: ∀b,b<next→ρ b=none→ ∀cs ty,Yn m b=some ⟨cs,ty,none⟩→Yn m' b=some ⟨cs,ty,none⟩
 frame: ∀k o,w.heap[k]? =some o→(∀b l,ρ b=some l→floor≤b→l.blk≠k)→w'.heap[k]? =some o
 fresh: ∀b l,next≤b→ρ' b=some l→w.heap.size≤l.blk∨ ∃b0 l0,ρ b0=some l0∧floor≤b0∧l0.blk=l.blk
 size:w.heap.size≤w'.heap.size
 os:w'.os=w.os
 tape:w'.tape=w.tape
 output:w'.output=w.output
 still: ∀k,k<w.heap.size→ρ'.fz k=ρ.fz k
theorem Ev.refl (ρ:Rho) (floor:Nat) (m:Mem) (next:Nat) (w:World) (hd: ∀b l,ρ b=some l→b<next):Ev ρ ρ floor m next m next w w:=
 ⟨Rho.le_refl _,fun _ _=>rfl,Ar _,fun _ _ _ _ _ h=>h,fun _ _ h _=>h,fun b l hb h=>absurd (hd b l h) (by omega),Ar _,rfl,rfl,rfl,fun _ _=>rfl⟩
theorem Ev.drawn {ρ ρ':Rho} {floor:Nat} {m m':Mem} {next next':Nat} {w w':World} (h:Ev ρ ρ' floor m next m' next' {w with drawn:=w.drawn+1} w'):Ev ρ ρ' floor m next m' next' w w':=
 ⟨h.ext,h.new,h.nxt,h.unborn,h.frame,h.fresh,h.size,h.os,h.tape,h.output,h.still⟩
theorem Ev.trans {ρ ρ1 ρ2:Rho} {floor:Nat} {m m1 m2:Mem} {n n1 n2:Nat} {w w1 w2:World} (h:Ev ρ ρ1 floor m n m1 n1 w w1) (k:Ev ρ1 ρ2 floor m1 n1 m2 n2 w1 w2):Ev ρ ρ2 floor m n m2 n2 w w2 where
 ext:=Rho.le_trans h.ext k.ext
 new b hb:=by rw [k.new b (Ba hb h.nxt),h.new b hb]
 nxt:=AK h.nxt k.nxt
 unborn b hb e cs ty hm:=k.unborn b (Ba hb h.nxt) (by rw [h.new b hb];exact e) cs ty (h.unborn b hb e cs ty hm)
 frame i o hi hf:=by
  refine k.frame i o (h.frame i o hi hf) fun b l hl hfl hlb=> ?_;by_cases hb:b<n
  ·rw [h.new b hb] at hl;exact hf b l hl hfl hlb
  ·have hlt:i<w.heap.size:=(AJ.1 hi).1;rcases h.fresh b l (by omega) hl with h1 | ⟨b0,l0,e0,f0,g0⟩
   ·omega
   ·exact hf b0 l0 e0 f0 (g0.trans hlb)
 fresh b l hb hl:=by
  by_cases hb1:b<n1
  ·rw [k.new b hb1] at hl;exact h.fresh b l hb hl
  ·rcases k.fresh b l (by omega) hl with h1 | ⟨b0,l0,e0,f0,g0⟩
   ·exact .inl (AK h.size h1)
   ·by_cases hb0:b0<n
    ·rw [h.new b0 hb0] at e0;exact .inr ⟨b0,l0,e0,f0,g0⟩
    ·rcases h.fresh b0 l0 (by omega) e0 with h1 | ⟨b3,l3,e3,f3,g3⟩
     ·exact .inl (by omega)
     ·exact .inr ⟨b3,l3,e3,f3,g3.trans g0⟩
 size:=AK h.size k.size
 os:=k.os.trans h.os
 tape:=k.tape.trans h.tape
 output:=k.output.trans h.output
 still i hi:=(k.still i (Ba hi h.size)).trans (h.still i hi)
theorem Ev.lower {ρ ρ':Rho} {floor floor':Nat} {m m':Mem} {n n':Nat} {w w':World} (h:Ev ρ ρ' floor' m n m' n' w w') (hf:floor≤floor'):Ev ρ ρ' floor m n m' n' w w':=
 ⟨h.ext,h.new,h.nxt,h.unborn,fun k o e g=>h.frame k o e fun b l hl hfl=>g b l hl (AK hf hfl),
  fun b l hb hl=>(h.fresh b l hb hl).imp id fun ⟨b0,l0,e,f,g⟩=>⟨b0,l0,e,AK hf f,g⟩,h.size,h.os,h.tape,h.output,h.still⟩
theorem Rel.drawn {ρ:Rho} {mem:Mem} {next:Nat} {w:World} (h:Rel ρ mem next w) (n:Nat):Rel ρ mem next {w with drawn:=n}:=
 ⟨h.dom,h.inj,fun b l ab e f=>let ⟨a,t,r,c⟩:=h.blk b l ab e f;⟨a,t,r,c⟩,h.old,h.sep,h.real,h.bd,h.ldom⟩
def Uw (ρ:Rho) (b:Nat) (l:Loc):Rho:=⟨fun k=>if k=b then some l else ρ k,ρ.fz,ρ.lp⟩
theorem Uq (ρ:Rho) (b:Nat) (l:Loc) (k:Nat):Uw ρ b l k=if k=b then some l else ρ k:=rfl
theorem z1a {ρ:Rho} {b:Nat} {l:Loc} (h:ρ b=none):ρ.le (Uw ρ b l):=⟨fun k l' e=>by
 rw [Uq];by_cases hk:k=b
 ·subst hk;rw [h] at e;cases e
 ·rw [Ay hk];exact e,fun _ _ e=>e,fun _ _ e=>e⟩
theorem Rel.none_next {ρ:Rho} {mem:Mem} {next:Nat} {w:World} (h:Rel ρ mem next w):ρ next=none:=by
 cases e:ρ next with
 | none=>rfl
 | some l=>exact absurd (h.dom _ _ e) (Co _)
theorem Jz.world {ρ ρ':Rho} {w w':World} {ab:ABlk} {l:Loc} (h:Jz ρ w ab l) (hr:ρ.le ρ') (hw:w'.heap[l.blk]? =w.heap[l.blk]?):Jz ρ' w' ab l:=by obtain ⟨n,t,ar,cs,el,h1,h2,h3⟩:=h;exact ⟨n,t,ar,cs,el,by rw [hw];exact h1,h2,fun i hi=>let ⟨v,e,f⟩:=h3 i hi;⟨v,e,f.mono hr⟩⟩
theorem Rel.new {ρ:Rho} {mem:Mem} {next:Nat} {w:World} (h:Rel ρ mem next w) (cs:List AVal) (ty:TypeId) (vs:Array Value) (el:TypeId) (hH: ∀k,w.heap.size≤k→ρ.fz k=none)
  (hn:cs.length≤vs.size) (hv: ∀(i:Nat) (h1:i<cs.length) (h2:i<vs.size),Yw ρ cs[i] vs[i]):
  Rel (Uw ρ next ⟨w.heap.size,0,cs.length,vs.size⟩) (Wz mem next (some ⟨cs,ty,none⟩)) (next+1) {w with heap:=w.heap.push (.cells vs el)}:=by
 have hle:=z1a (l:=⟨w.heap.size,0,cs.length,vs.size⟩) h.none_next;have dY: ∀b l,Uw ρ next ⟨w.heap.size,0,cs.length,vs.size⟩ b=some l→(b=next∧l=⟨w.heap.size,0,cs.length,vs.size⟩)∨(b≠next∧ρ b=some l):=fun b l e=>by
  rw [Uq] at e;by_cases hb:b=next
  ·rw [AC hb] at e;exact .inl ⟨hb,(Af e).symm⟩
  ·rw [Ay hb] at e;exact .inr ⟨hb,e⟩
 refine ⟨fun b l e=> ?_,fun b b' l l' e e' hbl hs hs'=> ?_,fun b l ab e hm=> ?_,fun k o e=> ?_,fun b l e=> ?_,fun b l e=> ?_,fun b hb=>by rw [Zw _ _ (by omega)];exact h.bd b (by omega),fun j l e=>BQ (h.ldom j l e)⟩
 ·rcases dY b l e with ⟨rfl,_⟩ | ⟨_,e⟩
  ·omega
  ·have:=h.dom b l e;omega
 ·rcases dY b l e with ⟨hb,hl⟩ | ⟨hb,e2⟩ <;> rcases dY b' l' e' with ⟨hb',hl'⟩ | ⟨hb',e2'⟩
  ·rw [hb,hb']
  ·have:=h.real b' l' e2';rw [hl] at hbl;simp at hbl;omega
  ·have:=h.real b l e2;rw [hl'] at hbl;simp at hbl;omega
  ·rw [Zw _ _ hb] at hs;rw [Zw _ _ hb'] at hs';exact h.inj b b' l l' e2 e2' hbl hs hs'
 ·rcases dY b l e with ⟨rfl,rfl⟩ | ⟨hb,e⟩
  ·rw [Yj] at hm;obtain rfl:=Af hm;refine ⟨rfl,hn,(fun A e=>by cases e),vs,el,by simp,by simp,fun i hi=>⟨vs[i]'(by simp at hi;omega),by simp [Bj (show i<vs.size by simp at hi;omega)],(hv i hi (by simp at hi;omega)).mono hle⟩⟩
  ·rw [Zw _ _ hb] at hm;refine (h.blk b l ab e hm).world hle ?_;have:=h.real b l e;simp [Bp,A7 this]
 ·have hk:=h.old k o e;have:k<w.heap.size:=(AJ.1 hk).1;simp only [Bp,A7 this,Cr];exact hk
 ·intro hs;rcases dY b l e with ⟨rfl,rfl⟩ | ⟨hne,e⟩
  ·exact hH _ (Ar _)
  ·rw [Zw _ _ hne] at hs;exact h.sep b l e hs
 ·rcases dY b l e with ⟨rfl,rfl⟩ | ⟨_,e⟩
  ·simp
  ·have:=h.real b l e;simp;omega
theorem Ev.ofNew {ρ:Rho} {mem:Mem} {next:Nat} {w:World} (h:Rel ρ mem next w) (floor:Nat) (l:Loc) (o:Option ABlk) (ob:Obj) (hl:w.heap.size≤l.blk):
  Ev ρ (Uw ρ next l) floor mem next (Wz mem next o) (next+1) w {w with heap:=w.heap.push ob} where
 ext:=z1a h.none_next
 new b hb:=by simp [Uw,A7 hb]
 nxt:=Cs _
 unborn b hb _ cs ty hm:=by rw [Zw _ _ (A7 hb)];exact hm
 frame k o hk _:=by have:k<w.heap.size:=(AJ.1 hk).1;simp only [Bp,A7 this,Cr];exact hk
 fresh b l' hb e:=by
  rw [Uq] at e;by_cases hbn:b=next
  ·rw [AC hbn] at e;obtain rfl:=Af e;exact .inl hl
  ·rw [Ay hbn] at e;have:=h.dom b l' e;omega
 size:=by simp
 os:=rfl
 tape:=rfl
 output:=rfl
 still _ _:=rfl
theorem Km {α:Type} (l c:List α) (off i:Nat) (h:off+c.length≤l.length):
  (l.take off++c++l.drop (off+c.length))[i]? =if i<off then l[i]? else if i<off+c.length then c[i - off]? else l[i]? :=by
 have ht:(l.take off).length =off:=by simp;omega
 by_cases h1:i<off
 ·rw [AC h1,AL,Bx (by omega),Cp,AC h1]
 ·rw [Ay h1];by_cases h2:i<off+c.length
  ·rw [AC h2,Bx (by simp;omega),BO (by omega),ht]
  ·rw [Ay h2,BO (by simp;omega),Cc]
   congr 1
   simp [ht];omega
theorem Xs {α:Type} (l c:List α) (off:Nat) (h:off+c.length≤l.length):(l.take off++c++l.drop (off+c.length)).length =l.length:=by simp;omega
theorem Rel.write {ρ:Rho} {mem:Mem} {next:Nat} {w:World} (h:Rel ρ mem next w) {b:Nat} {l:Loc} {ab:ABlk} (hb:ρ b=some l) (hm:Yn mem b=some ab) {off:Nat} {cs:List AVal} {vs:List Value}
  (dR:vs.length=cs.length) (eA:off+cs.length≤ab.cells.length) (hv: ∀(i:Nat) (h1:i<cs.length) (h2:i<vs.length),Yw ρ cs[i] vs[i]):
  ∃cur el,w.heap[l.blk]? =some (.cells cur el (0,0))∧l.base+off+vs.length≤cur.size∧
   Rel ρ (Wz mem b (some ⟨ab.cells.take off++cs++ab.cells.drop (off+cs.length),ab.ty,none⟩)) next (w.setRow l.blk (cur.toList.take (l.base+off)++vs++cur.toList.drop (l.base+off+vs.length)).toArray):=by
 obtain ⟨hn,ht,har,cur,el,h1,h2,h3⟩:=h.blk b l ab hb hm;have hfc:l.base+off+vs.length≤cur.toList.length:=by simp;omega
 refine ⟨cur,el,h1,by simpa using hfc,h.dom,fun c c' m m' e e' he hs hs'=> ?_,fun c m ac e hc=> ?_,fun k o e=> ?_,fun c m e hs=>h.sep c m e (by
  by_cases hcb:c=b
  ·rw [hcb,hm];rfl
  ·rwa [Zw _ _ hcb] at hs),fun c m e=> ?_,fun c hc=>by have:=h.dom b l hb;rw [Zw _ _ (by omega)];exact h.bd c hc,h.ldom⟩
 ·refine h.inj c c' m m' e e' he ?_ ?_
  ·by_cases hcb:c=b
   ·rw [hcb,hm];rfl
   ·rwa [Zw _ _ hcb] at hs
  ·by_cases hcb:c'=b
   ·rw [hcb,hm];rfl
   ·rwa [Zw _ _ hcb] at hs'
 ·by_cases hcb:c=b
  ·subst hcb;rw [Yj] at hc;obtain rfl:=Af hc;rw [hb] at e;obtain rfl:=Af e;refine ⟨by rw [Xs _ _ _ eA];exact hn,ht,(fun A e=>by cases e),_,el,setRow_heap w l.blk cur _ el (0,0) h1,?_,fun i hi=> ?_⟩
   ·rw [List.size_toArray,Xs _ _ _ hfc];simpa using h2
   ·rw [Xs _ _ _ eA] at hi;have hg:=Km ab.cells cs off i eA;rw [Ao (by rw [Xs _ _ _ eA];exact hi)] at hg;simp only [B7];rw [Km _ _ _ _ hfc];by_cases g1:i<off
    ·rw [AC (by omega)];rw [AC g1,Ao hi] at hg;obtain ⟨v,e1,e2⟩:=h3 i hi;exact ⟨v,by simpa using e1,by rw [Af hg];exact e2⟩
    ·by_cases g2:i<off+cs.length
     ·rw [Ay (by omega),AC (by omega)];rw [Ay g1,AC g2,Ao (by omega)] at hg;refine ⟨vs[i - off]'(by omega),by rw [show l.base+i - (l.base+off)=i - off by omega,Ao],?_⟩;rw [Af hg];exact hv (i - off) (by omega) (by omega)
     ·rw [Ay (by omega),Ay (by omega)];rw [Ay g1,Ay g2,Ao hi] at hg;obtain ⟨v,e1,e2⟩:=h3 i hi;exact ⟨v,by simpa using e1,by rw [Af hg];exact e2⟩
  ·rw [Zw _ _ hcb] at hc;refine (h.blk c m ac e hc).world (Rho.le_refl _) (setRow_other w l.blk m.blk _ fun heq=>hcb ?_);exact h.inj c b m l e hb heq (by rw [hc];rfl) (by rw [hm];rfl)
 ·have hk:=h.old k o e;rw [setRow_other]
  ·exact hk
  ·intro heq;have:=h.sep b l hb (by rw [hm];rfl);rw [←heq,e] at this;cases this
 ·rw [setRow_size];exact h.real c m e
theorem Ev.ofWrite {ρ:Rho} {mem:Mem} {next:Nat} {w:World} (h:Rel ρ mem next w) {floor b:Nat} {l:Loc} (hb:ρ b=some l) (hf:floor≤b) (o:Option ABlk) (cs:Array Value):
  Ev ρ ρ floor mem next (Wz mem b o) next w (w.setRow l.blk cs) where
 ext:=Rho.le_refl _
 new _ _:=rfl
 nxt:=Ar _
 unborn k _ e cs ty hm:=by rw [Zw _ _ fun hk=>by rw [hk,hb] at e;cases e];exact hm
 frame k o hk hfr:=by
  rw [setRow_other]
  ·exact hk
  ·exact fun heq=>hfr b l hb hf heq.symm
 fresh k m hk e:=by have:=h.dom k m e;omega
 size:=by rw [setRow_size];exact Ar _
 os:=rfl
 tape:=rfl
 output:=rfl
 still _ _:=rfl
structure Wg (ρ:Rho) (env:T AVal) (n:Nat) (tmps:Array Value):Prop where
 size:tmps.size=n
 get: ∀i,Yw ρ (T.get .undef env i) (tmps.getD i undef)
 out: ∀i,n≤i→T.get .undef env i=.undef
theorem Wg.mono {ρ ρ':Rho} {env:T AVal} {n:Nat} {tmps:Array Value} (h:Wg ρ env n tmps) (hr:ρ.le ρ'):Wg ρ' env n tmps:=
 ⟨h.size,fun i=>(h.get i).mono hr,h.out⟩
section
variable {P:Program} {ρ:Rho}
theorem z6g {t:TypeId} {r:Bool} (h:v6w P t=some r) (w:World):(isAgg t).run P w=.ok r w:=by
 unfold v6w at h;cases hu:P.underlying t with
 | none=>simp [hu] at h
 | some d=>cases d <;> simp [hu] at h <;> subst h <;> simp [isAgg,run_underlying hu]
theorem Zo {t:TypeId} {i:TypeInfo} (h:P.info? t=some i) (w:World):(sizeOf t).run P w=.ok i.size w:=by simp [sizeOf,run_typeInfo w h]
theorem z6j {cs p:List AVal} {off n:Nat} (h:cut cs off n=some p):p=(cs.drop off).take n∧p.length=n∧(n=0∨off+n≤cs.length):=by
 unfold cut at h;dsimp only at h;cases hb:Nat.beq ((cs.drop off).take n).length n with
 | false=>rw [hb] at h;cases h
 | true=>simp only [hb,Ab,Ae] at h;have hl:=Ak hb;subst h;refine ⟨rfl,hl,?_⟩;simp at hl;omega
theorem w3k {cs p:List AVal} {off n:Nat} (h:cut cs off n=some p) (i:Nat) (hi:i<p.length): ∃h2:off+i<cs.length,p[i]=cs[off+i]:=by
 obtain ⟨rfl,hl,_⟩:=z6j h;have:off+i<cs.length:=by simp at hi;omega
 exact ⟨this,by simp⟩
theorem Kb {t:TypeId} {cs:List AVal} {vs:Array Value} {off:Nat} {v:AVal} (h:z2y P t cs off=some v) (hr:Ue ρ cs vs):
  ∃u,Yw ρ v u∧ ∀w,(part t vs off).run P w=.ok u w:=by
 unfold z2y at h;split at h
 ·rename_i i ha hi;simp only [Aq] at h;obtain ⟨p,hp,rfl⟩:=h;obtain ⟨_,hl,hle⟩:=z6j hp;refine ⟨.agg (vs.extract off (off+i.size)),.agg _ _ ?_ ?_,fun w=> ?_⟩
  ·have:=hr.1;simp;omega
  ·intro j h1 h2;obtain ⟨h3,e⟩:=w3k hp j h1;rw [e];have h4:off+j<vs.size:=by rw [←hr.1];exact h3
   simpa using hr.2 (off+j) h3 h4
  ·simp [part,z6g ha,Zo hi]
 ·rename_i i ha hi;obtain ⟨hlt,rfl⟩:=Be.1 h;have h4:off<vs.size:=by rw [←hr.1];exact hlt
  exact ⟨vs[off],hr.2 off hlt h4,fun w=>by simp [part,z6g ha,Bj h4]⟩
 ·cases h
theorem y0d {rec:TypeId→AVal→AVal→Option Bool} {dd:Nat} {e:TypeId} {c:Nat}
  (IH: ∀x y r u u',rec e x y=some r→Yw ρ x u→Yw ρ y u'→ ∀w,(Op.equalIn dd e u u').run P w=.ok r w)
  {xs ys:List AVal} {us us':Array Value} (hx:Ue ρ xs us) (hy:Ue ρ ys us'): ∀(is:List Nat) (r:Bool),
  z4b rec P xs ys (is.map fun j=>(e,j*c))=some r→ ∀w,(Op.eqItems dd e c us us' is).run P w=.ok r w
 | [],r,h,w=>by simp [z4b] at h;subst h;simp [Op.eqItems]
 | i::is,r,h,w=>by
  simp only [AY,z4b] at h;split at h
  ·rename_i a b ha hb;split at h
   ·rename_i e1 f1 he hf;obtain rfl:=Af h;obtain ⟨u,hu,pu⟩:=Kb ha hx;obtain ⟨u',hu',pu'⟩:=Kb hb hy;have q:=IH _ _ _ _ _ he hu hu' w;have r:=y0d IH hx hy is f1 hf w;cases e1 <;> simp [Op.eqItems,pu,pu',q,r]
   ·cases h
  ·cases h
theorem z7b {rec:TypeId→AVal→AVal→Option Bool} {dd:Nat}
  (IH: ∀e x y r u u',rec e x y=some r→Yw ρ x u→Yw ρ y u'→ ∀w,(Op.equalIn dd e u u').run P w=.ok r w)
  {xs ys:List AVal} {us us':Array Value} (hx:Ue ρ xs us) (hy:Ue ρ ys us'): ∀(fs:List Field) (r:Bool),fs.any (fun f=>f.name == "_")=false→
  z4b rec P xs ys (fs.map fun f=>(f.type,f.offset))=some r→ ∀w,(Op.eqFields dd us us' fs).run P w=.ok r w
 | [],r,_,h,w=>by simp [z4b] at h;subst h;simp [Op.eqFields]
 | f::fs,r,hn,h,w=>by
  simp only [Ca,Bu] at hn;simp only [AY,z4b] at h;split at h
  ·rename_i a b ha hb;split at h
   ·rename_i e1 f1 he hf;obtain rfl:=Af h;obtain ⟨u,hu,pu⟩:=Kb ha hx;obtain ⟨u',hu',pu'⟩:=Kb hb hy;have q:=IH _ _ _ _ _ _ he hu hu' w;have r:=z7b IH hx hy fs f1 hn.2 hf w;have hne:f.name≠ "_" :=(by simpa using hn.1);cases e1 <;> simp [Op.eqFields,hne,pu,pu',q,r]
   ·cases h
  ·cases h
theorem y0q (k:Nat): ∀(d:Nat) (t:TypeId) (x y:AVal) (r:Bool) (u u':Value),aEq P d t x y=some r→Yw ρ x u→Yw ρ y u'→ ∀w,(Op.equalIn (k+d) t u u').run P w=.ok r w
 | 0,_,_,_,_,_,_,h,_,_,_=>by simp [aEq] at h
 | d + 1,t,x,y,r,u,u',h,hx,hy,w=>by
  unfold aEq at h;cases hu:P.underlying t with
  | none=>simp [hu] at h
  | some ty=>
   rw [←AB];cases ty <;> simp only [hu] at h <;> try (cases h;done)
   case bool=>
    split at h
    ·cases hx;cases hy;obtain rfl:=Af h;exact run_equalIn_bool' w _ t _ _ hu
    ·cases h
   case int q=>
    split at h
    ·split at h
     ·rename_i hk;subst hk;cases hx;cases hy;obtain rfl:=Af h;exact run_equalIn_int w _ t _ _ _ _ hu
     ·cases h
    ·cases h
   case string=>
    split at h
    ·cases hx;cases hy;obtain rfl:=Af h;rw [run_equalIn_string w _ t _ _ hu];simp [ByteArray.toList_eq]
    ·cases h
   case array n e=>
    split at h
    ·rename_i xs ys i hi;cases hx with
     | agg _ us hl hh=>
      cases hy with
      | agg _ us' hl' hh'=>rw [run_equalIn_array w _ us us' hu hi];have hc:P.cellsOf e=i.size:=(by simp [Program.cellsOf,hi]);rw [hc];exact y0d (fun x y r u u' e1 e2 e3=>y0q k d e x y r u u' e1 e2 e3) ⟨hl,hh⟩ ⟨hl',hh'⟩ _ _ h w
    ·cases h
   case struct fs=>
    split at h
    ·rename_i xs ys;cases hs:P.stoodInHeld t with
     | true=>simp [hs] at h
     | false=>
      cases hn:fs.toList.any (fun f=>f.name == "_") with
      | true=>rw [hs,hn] at h;cases h
      | false=>
       rw [hs,hn] at h;simp only [Aa] at h;cases hx with
       | agg _ us hl hh=>
        cases hy with
        | agg _ us' hl' hh'=>have hfs:P.fieldsOf t=fs:=(by simp [Program.fieldsOf,hu]);rw [run_equalIn_struct w _ t us us' (by rw [hfs];exact hu) hs,hfs];exact z7b (fun e x y r u u' e1 e2 e3=>y0q k d e x y r u u' e1 e2 e3) ⟨hl,hh⟩ ⟨hl',hh'⟩ _ _ hn h w
    ·cases h
theorem y8x {op:BinOp} {k:IntKind} {a b n:Int} (h:v1y op k a b=some n):Op.intBits op k a b=pure (.int k n):=by
 cases op <;> simp only [v1y] at h <;> first | (cases h;done) | (obtain rfl:=Af h;rfl)
theorem w3h (op:BinOp) (t:TypeId) (x y:Operand) (k k':IntKind) (a b:Int) (w:World):(eqGuard op t x y (.int k a) (.int k' b)).run P w=.ok () w:=by cases op <;> simp [eqGuard]
theorem v1z {op:BinOp} {t:TypeId} {x y:AVal} {v:AVal} {b:Bool} {u u':Value} (h:aBin P op t x y=some (v,b)) (hb:b=true) (hx:Yw ρ x u) (hy:Yw ρ y u') (ox oy:Operand):
  ∃z,Yw ρ v z∧ ∀w,(do eqGuard op t ox oy u u';binOp op t u u':Sem Value).run P w=.ok z w:=by
 subst hb;unfold aBin at h;split at h
 ·rename_i k a k' b;cases hx;cases hy;have g:=fun w=>w3h (P:=P) op t ox oy k k' a b w;split at h
  ·simp only [Ae,Ad,BE,Bw] at h;obtain ⟨rfl,h0⟩:=h;exact ⟨_,.int _ _,fun w=>by simp [g,binOp,Op.shift,h0]⟩
  ·simp only [Ae,Ad,BE,Bw] at h;obtain ⟨rfl,h0⟩:=h;exact ⟨_,.int _ _,fun w=>by simp [g,binOp,Op.shift,h0]⟩
  ·rename_i hshl hshr;split at h
   ·rename_i hk;subst hk;have fin: ∀n,v1y op k a b=some n→ ∃z,Yw ρ (.int k n) z∧ ∀w,(do eqGuard op t ox oy (.int k a) (.int k b);binOp op t (.int k a) (.int k b):Sem Value).run P w=.ok z w:=by
     intro n hn;have e:=y8x hn;refine ⟨_,.int _ _,fun w=> ?_⟩;cases op <;> simp only [v1y] at hn <;> first | (cases hn;done) | (simp [g,binOp,e];done)
    cases op <;> dsimp only at h
    case shl=>exact absurd rfl hshl
    case shr=>exact absurd rfl hshr
    case quo=>simp only [Ae,Ad,BE,Bw] at h;obtain ⟨rfl,h0⟩:=h;exact ⟨_,.int _ _,fun w=>by simp [g,binOp,Op.intDiv,h0]⟩
    case rem=>simp only [Ae,Ad,BE,Bw] at h;obtain ⟨rfl,h0⟩:=h;exact ⟨_,.int _ _,fun w=>by simp [g,binOp,Op.intDiv,h0]⟩
    all_goals first
     | (simp only [Aq,Ad] at h
        obtain ⟨n,hn,rfl,_⟩:=h;exact fin n hn)
     | (simp only [Ae,Ad] at h
        obtain ⟨rfl,_⟩:=h;refine ⟨_,.int _ _,fun w=> ?_⟩;simp [g,binOp,Op.intArith]
        done)
     | (simp only [Ae,Ad] at h
        obtain ⟨rfl,_⟩:=h;refine ⟨_,.bool _,fun w=> ?_⟩;simp [g,binOp,Op.intCmp]
        done)
   ·cases h
 ·rename_i a b;cases hx;cases hy;split at h
  ·rename_i hu;split at h
   ·simp only [Ae,Ad] at h;obtain ⟨rfl,_⟩:=h;exact ⟨_,.bool _,fun w=>by simp [eqGuard,binOp,Op.equal,Op.maxDepth,run_equalIn_bool' w _ t _ _ hu]⟩
   ·simp only [Ae,Ad] at h;obtain ⟨rfl,_⟩:=h;exact ⟨_,.bool _,fun w=>by simp [eqGuard,binOp,Op.equal,Op.maxDepth,run_equalIn_bool' w _ t _ _ hu]⟩
   ·cases h
  ·cases h
 ·rename_i a b;cases hx with
  | agg _ us hl hh=>
   cases hy with
   | agg _ us' hl' hh'=>
    cases hg:P.eqGuardType P.depth t with
    | true=>simp [hg] at h
    | false=>
     simp only [hg,Aa] at h;split at h
     ·simp only [Aq,Ad] at h;obtain ⟨r,hr,rfl,_⟩:=h;have q:=fun w=>y0q 9970 30 t _ _ r _ _ hr (Yw.agg a us hl hh) (Yw.agg b us' hl' hh') w;exact ⟨_,.bool _,fun w=>by simp [run_eqGuard_agg w _ t ox oy us us' hg,run_eql_struct,q]⟩
     ·simp only [Aq,Ad] at h;obtain ⟨r,hr,rfl,_⟩:=h;have q:=fun w=>y0q 9970 30 t _ _ r _ _ hr (Yw.agg a us hl hh) (Yw.agg b us' hl' hh') w;exact ⟨_,.bool _,fun w=>by simp [run_eqGuard_agg w _ t ox oy us us' hg,run_neq_struct,q]⟩
     ·cases h
 ·cases hx with
  | sl _ _ _ _ l c hl hc dR=>
   cases hy;split at h
   ·rename_i e hu;have q:=fun (w:World) (a:Addr) (n c:Nat)=>Lib.run_equalIn_slice_nil (P:=P) w 9999 t e (some a) n c 0 0 hu;split at h
    ·simp only [Ae,Ad] at h;obtain ⟨rfl,_⟩:=h;exact ⟨_,.bool _,fun w=>by simp [eqGuard,binOp,Op.equal,Op.maxDepth,q]⟩
    ·simp only [Ae,Ad] at h;obtain ⟨rfl,_⟩:=h;exact ⟨_,.bool _,fun w=>by simp [eqGuard,binOp,Op.equal,Op.maxDepth,q]⟩
    ·cases h
   ·cases h
 ·cases hx;cases hy;split at h
  ·rename_i e hu;have q:=fun w=>Lib.run_equalIn_slice_nil (P:=P) w 9999 t e none 0 0 0 0 hu;split at h
   ·simp only [Ae,Ad] at h;obtain ⟨rfl,_⟩:=h;exact ⟨_,.bool _,fun w=>by simp [eqGuard,binOp,Op.equal,Op.maxDepth,q]⟩
   ·simp only [Ae,Ad] at h;obtain ⟨rfl,_⟩:=h;exact ⟨_,.bool _,fun w=>by simp [eqGuard,binOp,Op.equal,Op.maxDepth,q]⟩
   ·cases h
  ·cases h
 ·cases hx;cases hy;split at h
  ·simp only [Ae,Ad] at h;obtain ⟨rfl,_⟩:=h;exact ⟨_,.bool _,fun w=>by simp [eqGuard,binOp,Op.stringOp,ByteArray.toList_eq]⟩
  ·simp only [Ae,Ad] at h;obtain ⟨rfl,_⟩:=h;exact ⟨_,.bool _,fun w=>by simp [eqGuard,binOp,Op.stringOp,ByteArray.toList_eq]⟩
  ·cases h
 ·cases h
theorem v9g {op:UnOp} {x v:AVal} {u:Value} (h:aUn op x=some v) (hx:Yw ρ x u): ∃z,Yw ρ v z∧ ∀w,(Op.unary op u).run P w=.ok z w:=by
 unfold aUn at h;split at h
 ·cases hx;obtain rfl:=Af h;exact ⟨_,.int _ _,fun w=>by simp [Op.unary,Op.intArith]⟩
 ·cases hx;simp only [Aq] at h;obtain ⟨n,hn,rfl⟩:=h;exact ⟨_,.int _ _,fun w=>by simp [Op.unary,y8x hn]⟩
 ·cases hx;obtain rfl:=Af h;exact ⟨_,.bool _,fun w=>by simp [Op.unary]⟩
 ·cases h
end
section
variable {P:Program} {ρ:Rho}
theorem z2b (v:Value):Yw ρ (z3w v) v:=by
 cases v with
 | bool b=>exact .bool b
 | int k n=>exact .int k n
 | string s=>exact .str s.data.toList
 | pointer a=>cases a with
  | none=>exact .nilp
  | some a=>exact .undef _
 | slice a n c=>
  cases a with
  | some a=>exact .undef _
  | none=>
   cases n with
   | succ n=>exact .undef _
   | zero=>cases c with
    | zero=>exact .nils
    | succ c=>exact .undef _
 | nilFunc=>exact .nilf
 | nilIface=>exact .nili
 | _=>exact .undef _
theorem x1l (v:Value) (h: ∀cs,v≠ .agg cs):ofV v=z3w v:=by
 cases v <;> first | rfl | exact absurd rfl (h _)
theorem v5x (v:Value):Yw ρ (ofV v) v:=by
 by_cases h: ∃cs,v=.agg cs
 ·obtain ⟨cs,rfl⟩:=h;refine .agg _ _ (by simp) fun i h1 h2=> ?_;have:=z2b (ρ:=ρ) (cs[i])
  simpa using this
 ·rw [x1l v fun cs e=>h ⟨cs,e⟩];exact z2b v
theorem y9i (v:Value):(z3w v).cells =[z3w v]:=by unfold z3w;split <;> rfl
theorem v5y (v:Value):Ue ρ (ofV v).cells v.cells:=by
 by_cases h: ∃cs,v=.agg cs
 ·obtain ⟨cs,rfl⟩:=h;refine ⟨by simp [ofV,AVal.cells,Value.cells],fun i h1 h2=> ?_⟩;have:=z2b (ρ:=ρ) (cs[i]'(by simpa [Value.cells] using h2));simp only [ofV,AVal.cells,B5,Array.getElem_toList];exact this
 ·rw [x1l v fun cs e=>h ⟨cs,e⟩,y9i];have hc:v.cells= #[v]:=by cases v <;> first | rfl | exact absurd ⟨_,rfl⟩ h
  rw [hc];refine ⟨rfl,fun i h1 h2=> ?_⟩;have h0:i=0:=by simp at h1;exact h1
  subst h0;exact z2b v
theorem Wq {t:TypeId} {z:List AVal} (h:z0d P t=some z): ∃i v,P.info? t=some i∧i.zero=some v∧Ue ρ z v.cells∧ ∀w,(zeroValue t).run P w=.ok v w:=by
 unfold z0d at h;cases hi:P.info? t with
 | none=>simp [hi] at h
 | some i=>simp only [hi,Aq] at h;obtain ⟨v,hz,rfl⟩:=h;exact ⟨i,v,rfl,hz,v5y v,fun w=>by simp [zeroValue,run_typeInfo w hi,hz]⟩
theorem w6s (off:Nat): ∀(l:List Value) (k:Nat) (cells:Array Value),off+k+l.length≤cells.size→
  (l.zipIdx k).foldl (fun cs p=>cs.setIfInBounds (off+p.2) p.1) cells=(cells.toList.take (off+k)++l++cells.toList.drop (off+k+l.length)).toArray
 | [],k,cells,_=>by simp
 | v::l,k,cells,h=>by
  simp only [List.zipIdx_cons,List.foldl_cons];rw [w6s off l (k+1) _ (by simp at h ⊢;omega)];have e:=list_seg_step cells.toList (off+k) v l (by simp at h ⊢;omega)
  simpa [Array.toList_setIfInBounds,AB] using e
theorem Ue.splice {cells:List AVal} {arr:Array Value} {c:List AVal} {vs:Array Value} {off:Nat} (h:Ue ρ cells arr) (hc:Ue ρ c vs) (eA:off+c.length≤cells.length):
  Ue ρ (cells.take off++c++cells.drop (off+c.length)) (arr.toList.take off++vs.toList++arr.toList.drop (off+vs.toList.length)).toArray :=by
 have e1:=h.1;have e2:=hc.1;have f1:off+vs.toList.length≤arr.toList.length:=by simp;omega
 refine ⟨by rw [List.size_toArray,Xs _ _ _ eA,Xs _ _ _ f1];simpa using e1,fun i h1 h2=> ?_⟩;rw [Xs _ _ _ eA] at h1;have g1:=Km cells c off i eA;have g2:=Km arr.toList vs.toList off i f1;rw [Ao (by rw [Xs _ _ _ eA];exact h1)] at g1;rw [Ao (by simpa using h2)] at g2;rw [List.getElem_toArray];by_cases k1:i<off
 ·rw [AC k1,Ao h1] at g1;rw [AC k1,Ao (by simp;omega)] at g2;rw [Af g1,Af g2]
  simpa using h.2 i h1 (by omega)
 ·by_cases k2:i<off+c.length
  ·rw [Ay k1,AC k2,Ao (by omega)] at g1;rw [Ay k1,AC (by simp;omega),Ao (by simp;omega)] at g2;rw [Af g1,Af g2]
   simpa using hc.2 (i - off) (by omega) (by omega)
  ·rw [Ay k1,Ay k2,Ao h1] at g1;rw [Ay k1,Ay (by simp;omega),Ao (by simp;omega)] at g2;rw [Af g1,Af g2]
   simpa using h.2 i h1 (by omega)
def z2j (ρ:Rho) (ps:List (Nat×AVal)) (qs:List (Nat×Value)):Prop:=
 Vj (fun p q=>p.1=q.1∧Yw ρ p.2 q.2) ps qs
theorem Qb {place:Nat→Option (Nat×Nat)}: ∀{ps:List (Nat×AVal)} {qs:List (Nat×Value)} {cells out:List AVal} {arr:Array Value},x4z place cells ps=some out→
  Ue ρ cells arr→z2j ρ ps qs→ ∃arr',Instr.fill place arr qs=some arr'∧Ue ρ out arr'
 | [],_,cells,out,arr,h,hr,hp=>by cases hp;simp only [x4z,Ae] at h;subst h;exact ⟨arr,rfl,hr⟩
 | (i,v)::ps,_,cells,out,arr,h,hr,hp=>by
  cases hp with
  | @cons _ q _ qs hq hqs=>
   obtain ⟨j,u⟩:=q;obtain ⟨hij,hv⟩:=hq;simp only at hij hv;subst hij;unfold x4z at h;cases hpl:place i with
   | none=>simp [hpl] at h
   | some pl=>
    obtain ⟨off,size⟩:=pl;simp only [hpl] at h;cases hc:(z4e v&&Nat.beq v.cells.length size&&Nat.ble (off+size) cells.length) with
    | false=>rw [hc] at h;cases h
    | true=>
     rw [hc,Ab] at h;simp only [Ac] at hc;obtain ⟨⟨hb,hs⟩,hf⟩:=hc;have hs:=Ak hs;have hf:=Al hf;have dV:=hv.cells hb;have hsz:u.cells.size=size:=by rw [←dV.1];exact hs
     have eA:off+v.cells.length≤cells.length:=(by omega);rw [←hs] at h;obtain ⟨arr',h1,h2⟩:=Qb h (hr.splice dV eA) hqs;refine ⟨arr',?_,h2⟩;unfold Instr.fill;simp only [hpl];have hle:off+u.cells.size≤arr.size:=by rw [←hr.1,hsz];omega
     have hz: ¬(u.cells.size≠size||decide (off+u.cells.size>arr.size))=true:=by simp [hsz];rw [hsz] at hle;exact hle
     rw [Ay hz];rw [←h1]
     congr 1
     rw [←Array.foldl_toList,Array.toList_zipIdx];have:=w6s off u.cells.toList 0 arr (by simpa using hle)
     simpa using this
theorem z5r : ∀{fs:List Field} {pl:List (Nat×Nat)},Qp P fs=some pl→ ∀w,(fs.mapM fun f=>Prod.mk f.offset<$>sizeOf f.type:Sem (List (Nat×Nat))).run P w=.ok pl w
 | [],pl,h,w=>by simp [Qp] at h;subst h;simp
 | f::fs,pl,h,w=>by
  unfold Qp at h;cases hi:P.info? f.type with
  | none=>simp [hi] at h
  | some i=>
   cases hr:Qp P fs with
   | none=>simp [hi,hr] at h
   | some l=>simp only [hi,hr,Ae] at h;subst h;have:=z5r hr w;simp [List.mapM_cons,Zo hi,this]
theorem x8a {t:TypeId} {ps:List (Nat×AVal)} {qs:List (Nat×Value)} {v:AVal} (h:v9m P t ps=some v) (hp:z2j ρ ps qs):
  ∃u,Yw ρ v u∧ ∀w,(Instr.build t qs.toArray).run P w=.ok u w:=by
 unfold v9m at h;split at h
 ·rename_i fs zero hu hz;obtain ⟨i,z,_,_,hzr,hzv⟩:=Wq (ρ:=ρ) hz;split at h
  ·rename_i pl hpl;simp only [Aq] at h;obtain ⟨cells,hc,rfl⟩:=h;obtain ⟨arr,h1,h2⟩:=Qb hc hzr hp;refine ⟨.agg arr,.agg _ _ h2.1 h2.2,fun w=> ?_⟩;have hpr:=z5r hpl w;simp [Instr.build,hzv,run_underlying hu,Array.mapM_eq_mapM_toList,hpr,h1]
  ·cases h
 ·rename_i n e zero hu hz;obtain ⟨i,z,_,_,hzr,hzv⟩:=Wq (ρ:=ρ) hz;split at h
  ·rename_i i hi;simp only [Aq] at h;obtain ⟨cells,hc,rfl⟩:=h;obtain ⟨arr,h1,h2⟩:=Qb hc hzr hp;exact ⟨.agg arr,.agg _ _ h2.1 h2.2,fun w=>by simp [Instr.build,hzv,run_underlying hu,Zo hi,h1]⟩
  ·cases h
 ·cases h
theorem Xb (b o n:Nat):(⟨b,o,none⟩:Addr).add n=⟨b,o+n,none⟩:=by
 unfold Addr.add;split
 ·rename_i h;subst h;rfl
 ·rfl
theorem Yw.dptr_drop {cs:List AVal} {blk base:Nat} {val:Nat→Value} (hv: ∀(j:Nat) (hj:j<cs.length),Yw ρ.bare cs[j] (val j)) (hh: ∀j,j<cs.length→x8g ρ.fz blk (base+j) (val j)) (k:Nat):
  Yw ρ (.dptr (cs.drop k)) (.pointer (some ⟨blk,base+k,none⟩)):=
 .dptr _ _ _ (fun j=>val (k+j)) (fun j hj=>by simpa using hv (k+j) (by simp at hj;omega)) (fun j hj=>by rw [AB];exact hh (k+j) (by simp at hj;omega))
theorem y3n {t:TypeId} {x i v:AVal} {u ui:Value} {b:Bool} (h:y2m P t x i=some (v,b)) (hb:b=true) (hx:Yw ρ x u) (hi:Yw ρ i ui):
  ∃z,Yw ρ v z∧ ∀w,(Instr.indexAt t u ui).run P w=.ok z w:=by
 subst hb;unfold y2m at h;split at h
 ·rename_i len e b off k n hu;cases hi;simp only [Aq,Ad,As] at h;obtain ⟨s,hs,rfl,hn⟩:=h;cases hx with
  | ptr _ _ l hl=>refine ⟨_,.ptr _ _ l hl,fun w=> ?_⟩;simp [Instr.indexAt,asIntOf,run_underlying hu,Instr.sureAddr,hn,Zo hs,Xb,AB]
 ·rename_i len e cs k n hu;cases hi;simp only [Aq,Ad,As] at h;obtain ⟨s,hs,rfl,hn⟩:=h;cases hx with
  | dptr _ blk base val hv hh=>refine ⟨_,Yw.dptr_drop hv hh _,fun w=> ?_⟩;simp [Instr.indexAt,asIntOf,run_underlying hu,Instr.sureAddr,hn,Zo hs,Xb]
 ·rename_i e b off len cap k n hu;cases hi;simp only [Aq,Ad,As] at h;obtain ⟨s,hs,rfl,hn⟩:=h;cases hx with
  | sl _ _ _ _ l c hl hc dR=>refine ⟨_,.ptr _ _ l hl,fun w=> ?_⟩;simp [Instr.indexAt,asIntOf,run_underlying hu,hn,Zo hs,Xb,AB]
 ·rename_i e len get k n hu;cases hi;simp only [Aq,Ad,Ac,As] at h;obtain ⟨s,hs,rfl,hn,hl⟩:=h;have hl:=Ak hl;cases hx with
  | dat _ _ blk base sz cap val dW hsz hv hh=>
   have hlt:n.toNat<len:=by omega
   have hse:sz=s.size:=by rw [←hsz _ hlt];exact hl
   refine ⟨_,.dptr _ blk (base+n.toNat*s.size) (val n.toNat) (fun j hj=>hv _ j hlt hj) (fun j hj=> ?_),fun w=> ?_⟩
   ·have:=hh n.toNat j hlt (by rw [←hsz _ hlt];exact hj);rw [hse] at this;rw [AB];exact this
   ·simp [Instr.indexAt,asIntOf,run_underlying hu,hn,Zo hs,Xb]
  | datn=>omega
  | datz=>omega
 ·rename_i e b sz off len cap k n hu;cases hi;simp only [Aq,Ad,Ac,As] at h;obtain ⟨s,hs,rfl,hn,hl⟩:=h;have hl:=Ak hl;cases hx with
  | sla _ _ _ _ _ l c hl' hc dR=>refine ⟨_,.epa _ _ _ _ l hl',fun w=> ?_⟩;simp [Instr.indexAt,asIntOf,run_underlying hu,hn,Zo hs,Xb,hl,AR,AB]
  | slan=>omega
 ·rename_i e b sz off len k n hu;cases hi;simp only [Aq,Ad,Ac,As] at h;obtain ⟨s,hs,rfl,hn,hl⟩:=h;have hl:=Ak hl;cases hx with
  | slv _ _ _ _ l c hl' dR=>refine ⟨_,.epa _ _ _ _ l hl',fun w=> ?_⟩;simp [Instr.indexAt,asIntOf,run_underlying hu,hn,Zo hs,Xb,hl,AR,AB]
  | slve=>omega
  | slvn=>omega
 ·rename_i len e b sz r fo k n hu;cases hi;simp only [Aq,Ad,As] at h;obtain ⟨s,hs,rfl,hn⟩:=h;cases hx with
  | epa _ _ _ _ l hl=>refine ⟨_,.epa _ _ _ _ l hl,fun w=> ?_⟩;simp [Instr.indexAt,asIntOf,run_underlying hu,Instr.sureAddr,hn,Zo hs,Xb,AB]
 ·cases h
theorem y3o {t:TypeId} {x v:AVal} {f:Nat} {u:Value} (h:y2n P t x f=some v) (hx:Yw ρ x u):
  ∃z,Yw ρ v z∧ ∀w,(Instr.fieldAt t u f).run P w=.ok z w:=by
 unfold y2n at h;split at h
 ·rename_i fs hu;split at h
  ·rename_i fd hf;split at h
   ·rename_i i hi;cases hz:Nat.beq i.size 0 with
    | true=>rw [hz] at h;cases h
    | false=>
     rw [hz,Aa] at h;have hne:i.size≠0:=fun e=>by rw [e] at hz;cases hz
     split at h
     ·obtain rfl:=Af h;cases hx with
      | ptr _ _ l hl=>exact ⟨_,.ptr _ _ l hl,fun w=>by simp [Instr.fieldAt,run_underlying hu,hf,Instr.sureAddr,fieldPlace,Zo hi,hne,Xb,AB]⟩
     ·obtain rfl:=Af h;cases hx with
      | dptr _ blk base val hv hh=>exact ⟨_,Yw.dptr_drop hv hh _,fun w=>by simp [Instr.fieldAt,run_underlying hu,hf,Instr.sureAddr,fieldPlace,Zo hi,hne,Xb]⟩
     ·obtain rfl:=Af h;cases hx with
      | epa _ _ _ _ l hl=>exact ⟨_,.epa _ _ _ _ l hl,fun w=>by simp [Instr.fieldAt,run_underlying hu,hf,Instr.sureAddr,fieldPlace,Zo hi,hne,Xb,AB]⟩
     ·cases h
   ·cases h
  ·cases h
 ·cases h
theorem x7x {t:TypeId} {x v:AVal} {f:Nat} {u:Value} (h:v9k P t x f=some v) (hx:Yw ρ x u):
  ∃z,Yw ρ v z∧ ∀w,(Instr.field t u f).run P w=.ok z w:=by
 unfold v9k at h;split at h
 ·rename_i fs cs hu;split at h
  ·rename_i fd hf;cases hx with
   | agg _ vs hl hh=>obtain ⟨z,hz,hr⟩:=Kb h ⟨hl,hh⟩;exact ⟨z,hz,fun w=>by simp [Instr.field,run_underlying hu,hf,asAgg,hr]⟩
  ·cases h
 ·cases h
theorem x7w {t:TypeId} {x i v:AVal} {u ui:Value} {b:Bool} (h:v9j P t x i=some (v,b)) (hb:b=true) (hx:Yw ρ x u) (hi:Yw ρ i ui):
  ∃z,Yw ρ v z∧ ∀w,(Instr.index t u ui).run P w=.ok z w:=by
 subst hb;unfold v9j at h;split at h
 ·rename_i len e cs k n hu;cases hi;split at h
  ·rename_i s hs;simp only [Aq,Ad,As] at h;obtain ⟨v,hp,rfl,hn⟩:=h;cases hx with
   | agg _ vs hl hh=>obtain ⟨z,hz,hr⟩:=Kb hp ⟨hl,hh⟩;exact ⟨z,hz,fun w=>by simp [Instr.index,asIntOf,run_underlying hu,hn,Zo hs,hr]⟩
  ·cases h
 ·rename_i s k n hu;cases hi;cases hx;simp only [Aq,Ad,As] at h;obtain ⟨c,hc,rfl,hn⟩:=h;refine ⟨_,.int _ _,fun w=> ?_⟩;obtain ⟨hlt,rfl⟩:=Be.1 hc;have e:(⟨s.toArray⟩:ByteArray)[n.toNat]? =some s[n.toNat]:=by rw [getElem?_pos _ _ (by simpa [ByteArray.size] using hlt)];simp [ByteArray.getElem_eq_getElem_data]
  simp [Instr.index,asIntOf,run_underlying hu,hn,e]
 ·cases h
theorem y7e {k:IntKind}: ∀{r:List AVal} {x n:Int} {us:List Value},y7f k x r=some n→Vj (Yw ρ) r us→ ∀w,(us.foldlM Builtin.min2 (.int k x)).run P w=.ok (.int k n) w
 | [],x,n,_,h,hr,w=>by cases hr;simp [y7f] at h;subst h;simp
 | a::r,x,n,_,h,hr,w=>by
  cases hr with
  | cons ha hrs=>
   cases a <;> simp only [y7f,z1m] at h <;> try (cases h;done)
   cases ha;have:=y7e h hrs w;simp [List.foldlM_cons,Builtin.min2,this]
theorem y7g {k:IntKind}: ∀{r:List AVal} {x n:Int} {us:List Value},y7h k x r=some n→Vj (Yw ρ) r us→ ∀w,(us.foldlM Builtin.max2 (.int k x)).run P w=.ok (.int k n) w
 | [],x,n,_,h,hr,w=>by cases hr;simp [y7h] at h;subst h;simp
 | a::r,x,n,_,h,hr,w=>by
  cases hr with
  | cons ha hrs=>
   cases a <;> simp only [y7h,z1n] at h <;> try (cases h;done)
   cases ha;have:=y7g h hrs w;simp [List.foldlM_cons,Builtin.max2,this]
theorem y9m {bi:Builtin} {ts:Array TypeId} {type:TypeId} {xs:List AVal} {us:Array Value} {v:AVal} (h:y6a P bi ts.toList xs=some v) (hx:Vj (Yw ρ) xs us.toList):
  ∃z,Yw ρ v z∧ ∀(cst:Array Bool) (w:World),(builtin bi ts type cst us).run P w=.ok (.value z) w:=by
 obtain ⟨ts⟩:=ts;obtain ⟨us⟩:=us;simp only at h hx;unfold y6a at h;split at h
 ·rename_i t _ x _;cases hx with
  | cons ha _=>
   split at h
   ·rename_i hu;cases ha;obtain rfl:=Af h;exact ⟨_,.int _ _,fun cst w=>by simp [builtin,Builtin.len_,run_underlying hu,goInt,←ByteArray.size_data]⟩
   ·rename_i hu;obtain rfl:=Af h;exact ⟨_,.int _ _,fun cst w=>by simp [builtin,Builtin.len_,run_underlying hu,goInt]⟩
   all_goals first
    | (rename_i hu
       obtain rfl:=Af h;cases ha <;> exact ⟨_,.int _ _,fun cst w=>by simp [builtin,Builtin.len_,run_underlying hu,goInt]⟩)
    | (cases h;done)
 ·rename_i k x r;cases hx with
  | cons ha hr=>cases ha;simp only [Aq] at h;obtain ⟨n,hn,rfl⟩:=h;have:=y7e (P:=P) hn hr;exact ⟨_,.int _ _,fun cst w=>by simp [builtin,Builtin.min_,this]⟩
 ·rename_i k x r;cases hx with
  | cons ha hr=>cases ha;simp only [Aq] at h;obtain ⟨n,hn,rfl⟩:=h;have:=y7g (P:=P) hn hr;exact ⟨_,.int _ _,fun cst w=>by simp [builtin,Builtin.max_,this]⟩
 ·rename_i t _ x _;cases hx with
  | cons ha _=>
   split at h
   ·rename_i hu;obtain rfl:=Af h;cases ha with
    | sl _ _ _ _ l c hl hc dR=>simp only [z1q] at hc;subst hc;exact ⟨_,.int _ _,fun cst w=>by simp [builtin,Builtin.cap_,run_underlying hu,goInt]⟩
   ·rename_i hu;obtain rfl:=Af h;cases ha;exact ⟨_,.int _ _,fun cst w=>by simp [builtin,Builtin.cap_,run_underlying hu,goInt]⟩
   ·cases h
 ·cases h
end
section
variable {P:Program} {ρ:Rho}
theorem Yf (isSlice:Bool) (len cap m h l:Nat) (low high max:Option Value) (hm:(max=none∧m=cap)∨(∃k,max=some (.int k m)∧m≤cap))
  (hh:(high=none∧max=none∧h=len)∨(∃k,high=some (.int k h)∧h≤m)) (hl:(low=none∧l=0)∨ ∃k,low=some (.int k l)∧l≤h) (w:World):
  (Instr.sliceBounds isSlice len cap low high max).run P w=.ok (l,h,m) w:=by
 have nn: ∀n:Nat,(0:Int)≤n:=fun n=>Int.natCast_nonneg n;rcases hm with ⟨rfl,rfl⟩ | ⟨km,rfl,hm⟩
 ·rcases hh with ⟨rfl,_,rfl⟩ | ⟨kh,rfl,hh⟩
  ·rcases hl with ⟨rfl,rfl⟩ | ⟨kl,rfl,hl⟩
   ·simp [Instr.sliceBounds]
   ·have:(l:Int)≤h:=(by omega);simp [Instr.sliceBounds,Instr.sliceBound,asIntOf,nn,hl]
  ·rcases hl with ⟨rfl,rfl⟩ | ⟨kl,rfl,hl⟩
   ·simp [Instr.sliceBounds,Instr.sliceBound,asIntOf,nn,hh]
   ·simp [Instr.sliceBounds,Instr.sliceBound,asIntOf,nn,hh,hl]
 ·rcases hh with ⟨rfl,e,_⟩ | ⟨kh,rfl,hh⟩
  ·cases e
  ·rcases hl with ⟨rfl,rfl⟩ | ⟨kl,rfl,hl⟩
   ·simp [Instr.sliceBounds,Instr.sliceBound,asIntOf,nn,hm,hh]
   ·simp [Instr.sliceBounds,Instr.sliceBound,asIntOf,nn,hm,hh,hl]
theorem Xz {ev:Operand→AVal} {ec:Operand→Value} {o:Option Operand} {d n:Nat} {b:Bool} (h:z4f ev o d=some (n,b)) (hb:b=true) (hr: ∀x,o=some x→Yw ρ (ev x) (ec x)):
  (o=none∧n=d)∨ ∃k,o.map ec=some (.int k n):=by
 subst hb;unfold z4f at h;cases o with
 | none=>simp at h;exact .inl ⟨rfl,h.symm⟩
 | some x=>
  right;have hx:=hr x rfl;simp only at h;split at h
  ·rename_i k i e;simp only [Ae,Ad,As] at h;obtain ⟨rfl,h0⟩:=h;rw [e] at hx;refine ⟨k,?_⟩;simp only [BL];rw [show ((i.toNat:Nat):Int)=i by omega];generalize ec x=u at hx ⊢;cases hx;rfl
  ·cases h
theorem x4u (c:Bool) (b o off k:Nat) (m l:Nat) (_:Nat.beq m l=c):(if m=l then some (⟨b,o+off,none⟩:Addr) else some ((⟨b,o+off,none⟩:Addr).add k))=some ⟨b,o+(bif Nat.beq m l then off else off+k),none⟩:=by
 by_cases h:m=l
 ·subst h;rw [AC rfl,show Nat.beq m m=true from B3 m];rfl
 ·rw [Ay h,show Nat.beq m l=false from A4.2 fun e=>h (Ak e),Xb,AB];rfl
theorem x7v {ev:Operand→AVal} {ec:Operand→Value} {t:TypeId} {x:Operand} {lo hi mx:Option Operand} {v:AVal} {b:Bool} (h:v9h P ev t x lo hi mx=some (v,b)) (hb:b=true)
  (hx:Yw ρ (ev x) (ec x)) (hlo: ∀y,lo=some y→Yw ρ (ev y) (ec y)) (hhi: ∀y,hi=some y→Yw ρ (ev y) (ec y)) (hmx: ∀y,mx=some y→Yw ρ (ev y) (ec y)):
  ∃z,Yw ρ v z∧ ∀w,(Instr.sliceAt t (ec x) (lo.map ec) (hi.map ec) (mx.map ec)).run P w=.ok z w:=by
 subst hb;unfold v9h at h;split at h
 ·rename_i e hu hev;rw [hev] at hx;split at h
  ·rename_i s l a hh b hs hl hh';simp only [Ae,Ad,Ac] at h;obtain ⟨rfl,⟨⟨ha,hb⟩,h1⟩,h2⟩:=h;have e1:=Ak h1;have e2:=Ak h2;subst e1;subst e2;have q1:=Xz hl ha hlo;have q2:=Xz hh' hb hhi;generalize hw:ec x=u at hx;cases hx;refine ⟨_,.nils,fun w=> ?_⟩;have sb:=Yf (P:=P) true 0 0 0 0 0 (lo.map ec) (hi.map ec) none (.inl ⟨rfl,rfl⟩)
    (q2.elim (fun q=>.inl ⟨by rw [q.1];rfl,rfl,rfl⟩) (fun ⟨k,q⟩=>.inr ⟨k,q,Ar _⟩)) (q1.elim (fun q=>.inl ⟨by rw [q.1];rfl,rfl⟩) (fun ⟨k,q⟩=>.inr ⟨k,q,Ar _⟩))
   simp [Instr.sliceAt,Instr.slice,run_underlying hu,sb,Zo hs]
  ·cases h
 ·rename_i e b off len c hu hev;rw [hev] at hx;split at h
  ·rename_i s m x1 hh x2 l x3 hs hm hhi' hl;split at h
   ·cases h
   ·rename_i hno;simp only [Ae,Ad,Ac] at h;obtain ⟨rfl,⟨⟨⟨⟨h1,h2⟩,h3⟩,h4⟩,h5⟩,h6⟩:=h;have h4:=Al h4;have h5:=Al h5;have h6:=Al h6;have q0:=Xz hm h1 hmx;have q1:=Xz hl h3 hlo;have q2:=Xz hhi' h2 hhi;generalize hw:ec x=u at hx;cases hx with
    | sl _ _ _ _ lc c' hρ hc _=>
     simp only [z1q] at hc;subst hc;refine ⟨_,.sl _ _ _ _ lc _ hρ rfl (by omega),fun w=> ?_⟩;have sb:=Yf (P:=P) true len c' m hh l (lo.map ec) (hi.map ec) (mx.map ec) (q0.elim (fun q=>.inl ⟨by rw [q.1];rfl,q.2⟩) (fun ⟨k,q⟩=>.inr ⟨k,q,h4⟩))
      (q2.elim (fun q=>.inl ⟨by rw [q.1];rfl,by
       cases mx with
       | none=>rfl
       | some y=>exact absurd (by simp [q.1]) hno,q.2⟩) (fun ⟨k,q⟩=>.inr ⟨k,q,h5⟩)) (q1.elim (fun q=>.inl ⟨by rw [q.1];rfl,q.2⟩) (fun ⟨k,q⟩=>.inr ⟨k,q,h6⟩)) w
     simp [Instr.sliceAt,Instr.slice,run_underlying hu,sb,Zo hs];exact x4u _ _ _ _ _ _ _ rfl
  ·cases h
 ·rename_i e b off len zz hu hev;rw [hev] at hx;split at h
  ·rename_i s hh x2 l x3 hs hhi' hl;cases hz:Nat.beq zz s.size with
   | false=>rw [hz] at h;cases h
   | true=>
    rw [hz,Ab] at h;have hz:=Ak hz;rcases (by cases hlo':(Nat.beq hh l&&Nat.ble 1 l) with
      | true=>rw [hlo',Ab] at h;exact .inl ⟨rfl,h⟩
      | false=>rw [hlo',Aa] at h;exact .inr h:((Nat.beq hh l&&Nat.ble 1 l)=true∧some _=some _)∨(some _=some _)) with ⟨hq,h⟩ | h
    ·simp only [Ae,Ad,Ac] at h hq;obtain ⟨rfl,⟨h2,h3⟩,h5⟩:=h;obtain rfl:=Ak hq.1;have h5:=Al h5;have q1:=Xz hl h3 hlo;have q2:=Xz hhi' h2 hhi;generalize hw:ec x=u at hx;cases hx with
     | sl _ _ _ _ lc c hρ hc dR=>
      have sb:=Yf (P:=P) true len c c hh hh (lo.map ec) (hi.map ec) none (.inl ⟨rfl,rfl⟩)
       (q2.elim (fun q=>.inl ⟨by rw [q.1];rfl,rfl,q.2⟩) (fun ⟨k,q⟩=>.inr ⟨k,q,by omega⟩)) (q1.elim (fun q=>.inl ⟨by rw [q.1];rfl,q.2⟩) (fun ⟨k,q⟩=>.inr ⟨k,q,Ar _⟩))
      have e0: ∀(base:Nat),Yw ρ (.dat 0 fun _=>[]) (.slice (some ⟨lc.blk,base,none⟩) 0 (c - hh)):=fun base=>
       .dat 0 _ lc.blk base 0 (c - hh) (fun _ _=>undef) (AD _) (fun i hi=>absurd hi (AO _)) (fun i j hi=>absurd hi (AO _)) (fun i j hi=>absurd hi (AO _))
      by_cases hcl:c=hh
      ·subst hcl;refine ⟨_,e0 (lc.base+off),fun w=> ?_⟩;simp [Instr.sliceAt,Instr.slice,run_underlying hu,sb,Zo hs]
      ·refine ⟨_,e0 (lc.base+off+hh*s.size),fun w=> ?_⟩;simp [Instr.sliceAt,Instr.slice,run_underlying hu,sb,Zo hs,Ay hcl,Xb]
    simp only [Ae,Ad,Ac,Br] at h;obtain ⟨rfl,⟨⟨⟨h2,h3⟩,h5⟩,h6⟩,h7⟩:=h;have h5:=Al h5;have h6:=Al h6;have q1:=Xz hl h3 hlo;have q2:=Xz hhi' h2 hhi;generalize hw:ec x=u at hx;cases hx with
    | sl _ _ _ _ lc c hρ hc dR=>
     simp only [z1q] at hc;have hlc:l≤c:=(by omega);have gC:l*s.size+(c - l)*zz=c*zz:=by rw [hz,←AR];congr 1;omega
     refine ⟨.slice (some ⟨lc.blk,lc.base+(off+l*s.size),none⟩) (hh - l) (c - l),.sl _ _ _ _ lc _ hρ ?_ (by omega),fun w=> ?_⟩
     ·simp only [z1q];omega
     ·have sb:=Yf (P:=P) true len c c hh l (lo.map ec) (hi.map ec) none (.inl ⟨rfl,rfl⟩)
       (q2.elim (fun q=>.inl ⟨by rw [q.1];rfl,rfl,q.2⟩) (fun ⟨k,q⟩=>.inr ⟨k,q,by omega⟩)) (q1.elim (fun q=>.inl ⟨by rw [q.1];rfl,q.2⟩) (fun ⟨k,q⟩=>.inr ⟨k,q,h6⟩)) w
      simp [Instr.sliceAt,Instr.slice,run_underlying hu,sb,Zo hs];by_cases hcl:c=l
      ·rw [AC hcl];rcases h7 with h7 | h7
       ·have:=Al h7;omega
       ·have:=Ak h7;subst this;simp
      ·rw [Ay hcl,Xb,AB]
  ·rename_i s y hh x2 l x3 hs hhi' hl;split at h
   ·rename_i m x1 hm;cases hz:(Nat.beq zz s.size&&hi.isSome) with
    | false=>rw [hz] at h;cases h
    | true=>
     rw [hz,Ab] at h;simp only [Ae,Ad,Ac] at h hz;obtain ⟨rfl,⟨⟨⟨⟨h1,h2⟩,h3⟩,h4⟩,h5⟩,h6⟩:=h;have h4:=Al h4;have h5:=Al h5;have h6:=Al h6;have q0:=Xz hm h1 hmx;have q1:=Xz hl h3 hlo;have q2:=Xz hhi' h2 hhi;generalize hw:ec x=u at hx;cases hx with
     | sl _ _ _ _ lc c hρ _ dR=>
      refine ⟨_,.sl _ _ _ _ lc _ hρ rfl (by omega),fun w=> ?_⟩;have sb:=Yf (P:=P) true len c m hh l (lo.map ec) (hi.map ec) ((some y).map ec) (q0.elim (fun q=>by cases q.1) (fun ⟨k,q⟩=>.inr ⟨k,q,by omega⟩))
       (q2.elim (fun q=>by rw [q.1] at hz;simp at hz) (fun ⟨k,q⟩=>.inr ⟨k,q,h5⟩)) (q1.elim (fun q=>.inl ⟨by rw [q.1];rfl,q.2⟩) (fun ⟨k,q⟩=>.inr ⟨k,q,h6⟩)) w
      simp only [BL] at sb;simp [Instr.sliceAt,Instr.slice,run_underlying hu,sb,Zo hs];exact x4u _ _ _ _ _ _ _ rfl
   ·cases h
  ·cases h
 ·rename_i e b sz off len zz hu hev;rw [hev] at hx;split at h
  ·rename_i s hh x2 l x3 hs hhi' hl;cases hz:(Nat.beq zz s.size&&Nat.beq sz zz) with
   | false=>rw [hz] at h;cases h
   | true=>
    rw [hz,Ab] at h;simp only [Ac] at hz;have hz1:=Ak hz.1;obtain rfl:=Ak hz.2;subst hz1;rcases (by cases hlo':lo.isSome with
      | true=>rw [hlo',Ab] at h;exact .inl h
      | false=>rw [hlo',Aa] at h;exact .inr h:(some _=some _)∨(some _=some _)) with h | h
    ·simp only [Ae,Ad,Ac,As] at h;obtain ⟨rfl,h2,h3,h5,h6⟩:=h;have q1:=Xz hl h3 hlo;have q2:=Xz hhi' h2 hhi;generalize hw:ec x=u at hx;cases hx with
     | sla _ _ _ _ _ lc c hρ hc dR=>
      have hlc:l≤c:=(by omega);have sb:=Yf (P:=P) true len c c hh l (lo.map ec) (hi.map ec) none (.inl ⟨rfl,rfl⟩)
       (q2.elim (fun q=>.inl ⟨by rw [q.1];rfl,rfl,q.2⟩) (fun ⟨k,q⟩=>.inr ⟨k,q,by omega⟩)) (q1.elim (fun q=>.inl ⟨by rw [q.1];rfl,q.2⟩) (fun ⟨k,q⟩=>.inr ⟨k,q,h6⟩))
      by_cases hcl:c=l
      ·subst hcl;have e0:hh - c=0:=(by omega);rw [e0];refine ⟨_,.slve _ _ _ lc.blk (lc.base+off*s.size) (c - c),fun w=> ?_⟩;simp [Instr.sliceAt,Instr.slice,run_underlying hu,sb,Zo hs,e0]
      ·refine ⟨_,.slv _ _ _ _ lc (c - l) hρ (by omega),fun w=> ?_⟩;simp [Instr.sliceAt,Instr.slice,run_underlying hu,sb,Zo hs,Ay hcl,Xb,AR,AB]
     | slan=>
      obtain rfl:hh=0:=by omega
      obtain rfl:l=0:=by omega
      refine ⟨_,.slvn _ _ _,fun w=> ?_⟩;have sb:=Yf (P:=P) true 0 0 0 0 0 (lo.map ec) (hi.map ec) none (.inl ⟨rfl,rfl⟩)
       (q2.elim (fun q=>.inl ⟨by rw [q.1];rfl,rfl,rfl⟩) (fun ⟨k,q⟩=>.inr ⟨k,q,Ar _⟩)) (q1.elim (fun q=>.inl ⟨by rw [q.1];rfl,rfl⟩) (fun ⟨k,q⟩=>.inr ⟨k,q,Ar _⟩))
      simp [Instr.sliceAt,Instr.slice,run_underlying hu,sb,Zo hs]
    simp only [Ae,Ad,Ac,Br,As] at h;obtain ⟨rfl,h2,h3,h5,h6,h7⟩:=h;have q1:=Xz hl h3 hlo;have q2:=Xz hhi' h2 hhi;generalize hw:ec x=u at hx;cases hx with
    | sla _ _ _ _ _ lc c hρ hc dR=>
     simp only [z1q] at hc;have hlc:l≤c:=(by omega);have gC:l*s.size+(c - l)*s.size=c*s.size:=by rw [←AR];congr 1;omega
     have hmul2:(off+l)*s.size=off*s.size+l*s.size:=AR _ _ _;refine ⟨.slice (some ⟨lc.blk,lc.base+(off+l)*s.size,none⟩) (hh - l) (c - l),.sla _ _ _ _ _ lc _ hρ ?_ (by omega),fun w=> ?_⟩
     ·simp only [z1q];omega
     ·have sb:=Yf (P:=P) true len c c hh l (lo.map ec) (hi.map ec) none (.inl ⟨rfl,rfl⟩)
       (q2.elim (fun q=>.inl ⟨by rw [q.1];rfl,rfl,q.2⟩) (fun ⟨k,q⟩=>.inr ⟨k,q,by omega⟩)) (q1.elim (fun q=>.inl ⟨by rw [q.1];rfl,q.2⟩) (fun ⟨k,q⟩=>.inr ⟨k,q,h6⟩)) w
      simp [Instr.sliceAt,Instr.slice,run_underlying hu,sb,Zo hs];by_cases hcl:c=l
      ·rw [AC hcl];rcases h7 with h7 | h7
       ·omega
       ·have:=Ak h7;subst this;simp
      ·rw [Ay hcl,Xb,hmul2,AB]
    | slan=>
     obtain rfl:hh=0:=by omega
     obtain rfl:l=0:=by omega
     refine ⟨_,.slan _ _ _ _,fun w=> ?_⟩;have sb:=Yf (P:=P) true 0 0 0 0 0 (lo.map ec) (hi.map ec) none (.inl ⟨rfl,rfl⟩)
      (q2.elim (fun q=>.inl ⟨by rw [q.1];rfl,rfl,rfl⟩) (fun ⟨k,q⟩=>.inr ⟨k,q,Ar _⟩)) (q1.elim (fun q=>.inl ⟨by rw [q.1];rfl,rfl⟩) (fun ⟨k,q⟩=>.inr ⟨k,q,Ar _⟩))
     simp [Instr.sliceAt,Instr.slice,run_underlying hu,sb,Zo hs]
  ·cases h
 ·rename_i e b sz off len hu hev;rw [hev] at hx;split at h
  ·rename_i s hh x2 l x3 hs hhi' hl;cases hz:Nat.beq sz s.size with
   | false=>rw [hz] at h;cases h
   | true=>
    rw [hz,Ab] at h;obtain rfl:=Ak hz;simp only [Ae,Ad,Ac,As] at h;obtain ⟨rfl,h2,h3,h5,h6⟩:=h;have q1:=Xz hl h3 hlo;have q2:=Xz hhi' h2 hhi;generalize hw:ec x=u at hx;cases hx with
    | slv _ _ _ _ lc c hρ dR=>
     have hlc:l≤c:=(by omega);have sb:=Yf (P:=P) true len c c hh l (lo.map ec) (hi.map ec) none (.inl ⟨rfl,rfl⟩)
      (q2.elim (fun q=>.inl ⟨by rw [q.1];rfl,rfl,q.2⟩) (fun ⟨k,q⟩=>.inr ⟨k,q,by omega⟩)) (q1.elim (fun q=>.inl ⟨by rw [q.1];rfl,q.2⟩) (fun ⟨k,q⟩=>.inr ⟨k,q,h6⟩))
     by_cases hcl:c=l
     ·subst hcl;have e0:hh - c=0:=(by omega);rw [e0];refine ⟨_,.slve _ _ _ lc.blk (lc.base+off*s.size) (c - c),fun w=> ?_⟩;simp [Instr.sliceAt,Instr.slice,run_underlying hu,sb,Zo hs,e0]
     ·refine ⟨_,.slv _ _ _ _ lc (c - l) hρ (by omega),fun w=> ?_⟩;simp [Instr.sliceAt,Instr.slice,run_underlying hu,sb,Zo hs,Ay hcl,Xb,AR,AB]
    | slve _ _ _ blk base c=>
     obtain rfl:hh=0:=by omega
     obtain rfl:l=0:=by omega
     have sb:=Yf (P:=P) true 0 c c 0 0 (lo.map ec) (hi.map ec) none (.inl ⟨rfl,rfl⟩)
      (q2.elim (fun q=>.inl ⟨by rw [q.1];rfl,rfl,rfl⟩) (fun ⟨k,q⟩=>.inr ⟨k,q,AD _⟩)) (q1.elim (fun q=>.inl ⟨by rw [q.1];rfl,rfl⟩) (fun ⟨k,q⟩=>.inr ⟨k,q,Ar _⟩))
     refine ⟨_,.slve _ _ _ blk base c,fun w=> ?_⟩;by_cases hc0:c=0
     ·subst hc0;simp [Instr.sliceAt,Instr.slice,run_underlying hu,sb,Zo hs]
     ·simp [Instr.sliceAt,Instr.slice,run_underlying hu,sb,Zo hs,hc0,Xb]
    | slvn=>
     obtain rfl:hh=0:=by omega
     obtain rfl:l=0:=by omega
     refine ⟨_,.slvn _ _ _,fun w=> ?_⟩;have sb:=Yf (P:=P) true 0 0 0 0 0 (lo.map ec) (hi.map ec) none (.inl ⟨rfl,rfl⟩)
      (q2.elim (fun q=>.inl ⟨by rw [q.1];rfl,rfl,rfl⟩) (fun ⟨k,q⟩=>.inr ⟨k,q,Ar _⟩)) (q1.elim (fun q=>.inl ⟨by rw [q.1];rfl,rfl⟩) (fun ⟨k,q⟩=>.inr ⟨k,q,Ar _⟩))
     simp [Instr.sliceAt,Instr.slice,run_underlying hu,sb,Zo hs]
  ·cases h
 ·rename_i e len get hu hev;rw [hev] at hx;split at h
  ·rename_i s hh x2 l x3 hs hhi' hl;simp only [Ae,Ad,Ac,As] at h;obtain ⟨rfl,h2,h3,h5,h6,h7⟩:=h;have h7:= @AA _ (Classical.propDecidable _) h7;have q1:=Xz hl h3 hlo;have q2:=Xz hhi' h2 hhi;generalize hw:ec x=u at hx;cases hx with
   | dat _ _ blk base sz c val dW hsz hv hh'=>
    have hlc:l≤c:=(by omega);have sb:=Yf (P:=P) true len c c hh l (lo.map ec) (hi.map ec) none (.inl ⟨rfl,rfl⟩)
     (q2.elim (fun q=>.inl ⟨by rw [q.1];rfl,rfl,q.2⟩) (fun ⟨k,q⟩=>.inr ⟨k,q,by omega⟩)) (q1.elim (fun q=>.inl ⟨by rw [q.1];rfl,q.2⟩) (fun ⟨k,q⟩=>.inr ⟨k,q,h6⟩))
    by_cases hcl:c=l
    ·subst hcl;have e0:hh - c=0:=(by omega);rw [e0];refine ⟨_,.dat 0 _ blk base s.size (c - c) (fun _ _=>undef) (AD _) (fun i hi=>absurd hi (AO _)) (fun i j hi=>absurd hi (AO _)) (fun i j hi=>absurd hi (AO _)),fun w=> ?_⟩;simp [Instr.sliceAt,Instr.slice,run_underlying hu,sb,Zo hs,e0]
    ·refine ⟨_,.dat (hh - l) (fun k=>get (l+k)) blk (base+l*s.size) s.size (c - l) (fun k=>val (l+k)) (by omega) (fun i hi=>h7 _ (by omega)) (fun i j hi hj=>hv _ j (by omega) hj) (fun i j hi hj=> ?_),fun w=> ?_⟩
     ·have hlt:l+i<len:=(by omega);have hse:sz=s.size:=by rw [←hsz _ hlt];exact h7 _ hlt
      have:=hh' (l+i) j hlt (by omega);rw [hse,AR,AB,←AB base] at this;exact this
     ·simp [Instr.sliceAt,Instr.slice,run_underlying hu,sb,Zo hs,Ay hcl,Xb]
   | datn=>
    obtain rfl:hh=0:=by omega
    obtain rfl:l=0:=by omega
    refine ⟨_,.datn _,fun w=> ?_⟩;have sb:=Yf (P:=P) true 0 0 0 0 0 (lo.map ec) (hi.map ec) none (.inl ⟨rfl,rfl⟩)
     (q2.elim (fun q=>.inl ⟨by rw [q.1];rfl,rfl,rfl⟩) (fun ⟨k,q⟩=>.inr ⟨k,q,Ar _⟩)) (q1.elim (fun q=>.inl ⟨by rw [q.1];rfl,rfl⟩) (fun ⟨k,q⟩=>.inr ⟨k,q,Ar _⟩))
    simp [Instr.sliceAt,Instr.slice,run_underlying hu,sb,Zo hs]
   | datz _ a c=>
    obtain rfl:hh=0:=by omega
    obtain rfl:l=0:=by omega
    have sb:=Yf (P:=P) true 0 c c 0 0 (lo.map ec) (hi.map ec) none (.inl ⟨rfl,rfl⟩)
     (q2.elim (fun q=>.inl ⟨by rw [q.1];rfl,rfl,rfl⟩) (fun ⟨k,q⟩=>.inr ⟨k,q,AD _⟩)) (q1.elim (fun q=>.inl ⟨by rw [q.1];rfl,rfl⟩) (fun ⟨k,q⟩=>.inr ⟨k,q,Ar _⟩))
    by_cases hc0:c=0
    ·subst hc0;refine ⟨_,.datz _ a 0,fun w=> ?_⟩;simp [Instr.sliceAt,Instr.slice,run_underlying hu,sb,Zo hs]
    ·refine ⟨_,.datz _ (a.add (0*s.size)) c,fun w=> ?_⟩;simp [Instr.sliceAt,Instr.slice,run_underlying hu,sb,Zo hs,hc0]
  ·cases h
 ·rename_i n e b off hu hev;rw [hev] at hx;split at h
  ·rename_i s m x1 hh x2 l x3 hs hm hhi' hl;split at h
   ·cases h
   ·rename_i hno;simp only [Ae,Ad,Ac] at h;obtain ⟨rfl,⟨⟨⟨⟨h1,h2⟩,h3⟩,h4⟩,h5⟩,h6⟩:=h;have h4:=Al h4;have h5:=Al h5;have h6:=Al h6;have q0:=Xz hm h1 hmx;have q1:=Xz hl h3 hlo;have q2:=Xz hhi' h2 hhi;generalize hw:ec x=u at hx;cases hx with
    | ptr _ _ lc hρ=>
     refine ⟨_,.sl _ _ _ _ lc _ hρ rfl (by omega),fun w=> ?_⟩;have sb:=Yf (P:=P) false n n m hh l (lo.map ec) (hi.map ec) (mx.map ec) (q0.elim (fun q=>.inl ⟨by rw [q.1];rfl,q.2⟩) (fun ⟨k,q⟩=>.inr ⟨k,q,h4⟩))
      (q2.elim (fun q=>.inl ⟨by rw [q.1];rfl,by
       cases mx with
       | none=>rfl
       | some y=>exact absurd (by simp [q.1]) hno,q.2⟩) (fun ⟨k,q⟩=>.inr ⟨k,q,h5⟩)) (q1.elim (fun q=>.inl ⟨by rw [q.1];rfl,q.2⟩) (fun ⟨k,q⟩=>.inr ⟨k,q,h6⟩)) w
     have bb:=x4u _ lc.blk lc.base off (l*s.size) m l rfl;simp [Instr.sliceAt,run_underlying hu,Instr.sureAddr,sb,Zo hs];split
     ·rename_i e;simp [e]
     ·rename_i e;simp only [Ay e] at bb;simpa using bb
  ·cases h
 ·cases h
def z0i (ρ:Rho) (ev:Operand→AVal) (ec:Operand→Value) (op:Op):Prop:= ∀x,x∈op.operands→Yw ρ (ev x) (ec x)
theorem z3t {ev:Operand→AVal} {ec:Operand→Value}: ∀(ps:List (Nat×Operand)),(∀p∈ps,Yw ρ (ev p.2) (ec p.2))→z2j ρ (ps.map fun p=>(p.1,ev p.2)) (ps.map fun p=>(p.1,ec p.2)):=fun ps h=>
 Vj.maps _ _ ps fun p hp=>⟨rfl,h p hp⟩
theorem y8o {o:Oper} {ev:Operand→AVal} {ec:Operand→Value} {v:AVal} {b:Bool} (h:Qa P o.op ev=some (v,b)) (hb:b=true) (hr:z0i ρ ev ec o.op):
  ∃u,Yw ρ v u∧ ∀w,(execOp ec o).run P w=.ok (.value u) w:=by
 obtain ⟨dst,op,type,pos,after,guard⟩:=o;simp only at h hr ⊢;have lift: ∀{s:Sem Value},(∃z,Yw ρ v z∧ ∀w,s.run P w=.ok z w)→(∀w,(execOp ec ⟨dst,op,type,pos,after,guard⟩).run P w=(do pure (.value (←s)):Sem Next).run P w)→
   ∃u,Yw ρ v u∧ ∀w,(execOp ec ⟨dst,op,type,pos,after,guard⟩).run P w=.ok (.value u) w:=by
  intro s ⟨z,hz,hs⟩ he;exact ⟨z,hz,fun w=>by rw [he];simp [hs]⟩
 cases op with
 | move x=>simp only [Qa,Ae,Ad] at h;obtain ⟨rfl,_⟩:=h;exact ⟨ec x,hr x (by simp [Op.operands]),fun w=>rfl⟩
 | assign x=>simp only [Qa,Ae,Ad] at h;obtain ⟨rfl,_⟩:=h;exact ⟨ec x,hr x (by simp [Op.operands]),fun w=>rfl⟩
 | pick c x y=>
  have hc:=hr c (by simp [Op.operands]);have hx:=hr x (by simp [Op.operands]);have hy:=hr y (by simp [Op.operands]);unfold Qa at h;simp only at h;split at h
  ·rename_i cb e;rw [e] at hc;generalize hw:ec c=u at hc;cases hc;simp only [Ae,Ad] at h;obtain ⟨rfl,_⟩:=h;cases cb
   ·exact ⟨ec y,hy,fun w=>by simp [execOp,hw,asBool]⟩
   ·exact ⟨ec x,hx,fun w=>by simp [execOp,hw,asBool]⟩
  ·cases h
 | build t parts=>
  simp only [Qa,Aq,Ad] at h;obtain ⟨v',hv,rfl,_⟩:=h;refine lift (x8a hv (z3t _ fun p hp=>hr p.2 ?_)) fun w=> ?_
  ·simp only [Op.operands,List.mem_toArray,AQ];exact ⟨p,hp,rfl⟩
  ·have:(parts.map fun (i,x)=>(i,ec x))=(parts.toList.map fun p=>(p.1,ec p.2)).toArray :=by apply Array.ext';simp
   simp only [execOp,this]
 | nilCheck x=>
  have hx:=hr x (by simp [Op.operands]);unfold Qa at h;simp only at h;split at h;all_goals first
   | (rename_i e
      rw [e] at hx;simp only [Ae,Ad] at h;obtain ⟨rfl,_⟩:=h;refine ⟨ec x,hx,fun w=> ?_⟩;generalize hw:ec x=u at hx;cases hx <;> simp [execOp,hw])
   | cases h
 | binOp op t x y yt=>have hx:=hr x (by simp [Op.operands]);have hy:=hr y (by simp [Op.operands]);exact lift (v1z (by simpa only [Qa] using h) hb hx hy x y) fun w=>rfl
 | unOp op t x=>have hx:=hr x (by simp [Op.operands]);simp only [Qa,Aq,Ad] at h;obtain ⟨v',hv,rfl,_⟩:=h;exact lift (v9g hv hx) fun w=>rfl
 | convert src dst' x=>
  have hx:=hr x (by simp [Op.operands]);unfold Qa at h;simp only at h;split at h
  ·rename_i sd k k' n hs hu e;rw [e] at hx;generalize hw:ec x=u at hx;cases hx;simp only [Ae,Ad] at h;obtain ⟨rfl,_⟩:=h;refine ⟨_,.int _ _,fun w=> ?_⟩;cases sd <;> simp [execOp,Go.convert,hw,run_underlying hs,run_underlying hu,Conv.intToInt]
  ·cases h
 | makeInterface t x=>
  have hx:=hr x (by simp [Op.operands]);unfold Qa at h;simp only at h;split at h
  ·cases h
  ·cases h
  ·rename_i d hni hu;simp only [Ae,Ad] at h;obtain ⟨rfl,_⟩:=h;refine ⟨_,.ifc t _ _ hx,fun w=> ?_⟩;cases d <;> first | exact absurd rfl (hni _) | simp [execOp,Instr.makeInterface,run_underlying hu]
 | makeFunc fn first captured=>
  cases fn with
  | func f=>
   unfold Qa at h;simp only at h;cases hf:first.isEmpty with
   | false=>
    rw [hf,Aa] at h;cases hc:captured.isEmpty with
    | false=>rw [hc] at h;cases h
    | true=>
     rw [hc,Ab] at h;simp only [Ae,Ad] at h;obtain ⟨rfl,_⟩:=h;have hc:captured= #[]:=(by simpa using hc);subst hc;refine ⟨_,.fnb f _ (first.map ec) (by simp) fun i h1 h2=> ?_,fun w=>by simp [execOp,Instr.makeFunc]⟩;have:i<first.size:=by simpa using h2
     simpa using hr first[i] (by simp [Op.operands])
   | true=>
    rw [hf,Ab] at h;simp only [Ae,Ad] at h;obtain ⟨rfl,_⟩:=h;have hf:first= #[]:=by simpa using hf
    subst hf;refine ⟨_,.fn f _ (captured.map ec) (by simp) fun i h1 h2=> ?_,fun w=>by simp [execOp,Instr.makeFunc]⟩;have:i<captured.size:=by simpa using h2
    simpa using hr captured[i] (by simp [Op.operands])
  | _=>simp [Qa] at h
 | fieldAddr t x f=>have hx:=hr x (by simp [Op.operands]);simp only [Qa,Aq,Ad] at h;obtain ⟨v',hv,rfl,_⟩:=h;exact lift (y3o hv hx) fun w=>rfl
 | field t x f=>have hx:=hr x (by simp [Op.operands]);simp only [Qa,Aq,Ad] at h;obtain ⟨v',hv,rfl,_⟩:=h;exact lift (x7x hv hx) fun w=>rfl
 | indexAddr t x i=>have hx:=hr x (by simp [Op.operands]);have hi:=hr i (by simp [Op.operands]);exact lift (y3n (by simpa only [Qa] using h) hb hx hi) fun w=>rfl
 | index t x i=>have hx:=hr x (by simp [Op.operands]);have hi:=hr i (by simp [Op.operands]);exact lift (x7w (by simpa only [Qa] using h) hb hx hi) fun w=>rfl
 | extract x i=>
  have hx:=hr x (by simp [Op.operands]);unfold Qa at h;simp only at h;split at h
  ·rename_i vs e;rw [e] at hx;simp only [Aq,Ad] at h;obtain ⟨v',hv,rfl,_⟩:=h;obtain ⟨hlt,rfl⟩:=Be.1 hv;generalize hw:ec x=u at hx;cases hx with
   | tup _ us hl hh=>have h2:i<us.size:=(by omega);exact ⟨us[i],hh i hlt h2,fun w=>by simp [execOp,Instr.extract,hw,h2]⟩
  ·cases h
 | slice t x lo hi mx=>
  refine lift (x7v (by simpa only [Qa] using h) hb (hr x (by simp [Op.operands])) (fun y hy=>hr y ?_) (fun y hy=>hr y ?_) (fun y hy=>hr y ?_)) fun w=>rfl;all_goals (subst hy;simp [Op.operands])
 | call c=>
  obtain ⟨callee,args,argTypes⟩:=c;cases callee with
  | builtin bi=>
   simp only [Qa,Aq,Ad] at h;obtain ⟨v',hv,rfl,_⟩:=h;obtain ⟨z,hz,hs⟩:=y9m (ts:=argTypes) (us:=args.map ec) (type:=type) hv (by
    rw [B6];exact Vj.maps _ _ _ fun a ha=>hr a (by simp [Op.operands,Call.operands];exact A8.1 ha))
   exact ⟨z,hz,fun w=>by simp [execOp,resolve,invoke,hs]⟩
  | value f=>simp [Qa] at h
  | invoke r m=>simp [Qa] at h
 | _=>simp [Qa] at h
end
section
variable {P:Program} {ρ:Rho}
def z8h (ρ:Rho) (w:World) (blk o:Nat) (cs:List AVal):Prop:=
 ∀(i:Nat) (h:i<cs.length),∃v,w.cell? ⟨blk,o+i,none⟩=some v∧Yw ρ cs[i] v
theorem Rel.cellsAt {mem:Mem} {next:Nat} {w:World} (h:Rel ρ mem next w) {b:Nat} {l:Loc} {ab:ABlk} (hb:ρ b=some l) (hm:Yn mem b=some ab):z8h ρ w l.blk l.base ab.cells:=by obtain ⟨_,_,_,cs,el,h1,h2,h3⟩:=h.blk b l ab hb hm;intro i hi;obtain ⟨v,e,f⟩:=h3 i hi;exact ⟨v,by simp [World.cell?,h1,e],f⟩
theorem Rel.dataAt {mem:Mem} {next:Nat} {w:World} (h:Rel ρ mem next w) {cs:List AVal} {blk base:Nat} {val:Nat→Value} (hv: ∀(j:Nat) (hj:j<cs.length),Yw ρ.bare cs[j] (val j))
  (hh: ∀j,j<cs.length→x8g ρ.fz blk (base+j) (val j)):z8h ρ w blk base cs:=by
 intro i hi;obtain ⟨arr,el,fz,e,f⟩:=hh i hi;have:=h.old _ _ e;exact ⟨val i,by simp [World.cell?,this,f],(hv i hi).mono (x4v ρ)⟩
theorem z8h.load {w:World} {blk o:Nat} {cs:List AVal} (h:z8h ρ w blk o cs) {off n:Nat} (hn:off+n≤cs.length∨n=0):
  ∃vs:Array Value,vs.size=n∧(∀(i:Nat) (h1:off+i<cs.length) (h2:i<vs.size),Yw ρ cs[off+i] vs[i])∧(loadCells ⟨blk,o+off,none⟩ n).run P w=.ok vs w:=by
 have hc: ∀j,j<n→w.cell? ((⟨blk,o+off,none⟩:Addr).add j)=some ((w.cell? ⟨blk,o+(off+j),none⟩).getD undef):=by intro j hj;obtain ⟨v,e,_⟩:=h (off+j) (by omega);rw [Xb,AB,e];rfl
 refine ⟨_,?_,?_,run_loadCells w _ n (fun j=>(w.cell? ⟨blk,o+(off+j),none⟩).getD undef) hc⟩
 ·simp
 ·intro i h1 h2;obtain ⟨v,e,f⟩:=h (off+i) h1
  simpa [e] using f
theorem z8h.part {w:World} {blk o:Nat} {cs:List AVal} (h:z8h ρ w blk o cs) {t:TypeId} {off:Nat} {v:AVal} (hp:z2y P t cs off=some v):
  ∃z,Yw ρ v z∧(loadVar t ⟨blk,o+off,none⟩).run P w=.ok z w:=by
 unfold z2y at hp;split at hp
 ·rename_i i ha hi;simp only [Aq] at hp;obtain ⟨p,hc,rfl⟩:=hp;obtain ⟨_,hl,hle⟩:=z6j hc;obtain ⟨vs,hs,hv,hr⟩:=h.load (P:=P) (off:=off) (n:=i.size) (by omega);refine ⟨.agg vs,.agg _ _ (by omega) fun j h1 h2=> ?_,?_⟩
  ·obtain ⟨h3,e⟩:=w3k hc j h1;rw [e];exact hv j h3 h2
  ·simp [loadVar,z6g ha,Zo hi,hr]
 ·rename_i i ha hi;obtain ⟨hlt,rfl⟩:=Be.1 hp;obtain ⟨v,e,f⟩:=h off hlt;exact ⟨v,f,by simp [loadVar,z6g ha,e]⟩
 ·cases hp
theorem y8q {mem:Mem} {next:Nat} {w:World} (h:Rel ρ mem next w) {t:TypeId} {x v:AVal} {u:Value} (hl:w4g P mem t x=some v) (hx:Yw ρ x u):
  ∃z,Yw ρ v z∧(Instr.loadAt t u).run P w=.ok z w:=by
 unfold w4g at hl;split at hl
 ·split at hl
  ·rename_i b off _ blk hm;cases hx with
   | ptr _ _ l hρ=>obtain ⟨z,hz,hr⟩:=(h.cellsAt hρ hm).part hl;exact ⟨z,hz,by simp [Instr.loadAt,Instr.sureAddr,hr]⟩
  ·cases hl
 ·cases hx with
  | dptr _ blk base val hv hh=>obtain ⟨z,hz,hr⟩:=(h.dataAt hv hh).part hl;exact ⟨z,hz,by simpa [Instr.loadAt,Instr.sureAddr] using hr⟩
 ·cases hl
theorem z8y (n:Nat) (get:Nat→List AVal):Yq (n+1) get=Yq n get++get n:=by unfold Yq;rw [Ce,BS];simp
theorem Ym {get:Nat→List AVal} {sz:Nat}: ∀(n:Nat),(∀i,i<n→(get i).length =sz)→(Yq n get).length =n*sz
 | 0,_=>by simp [Yq]
 | n+1,h=>by rw [z8y,Aw,Ym n fun i hi=>h i (by omega),h n (by omega),AR,BI]
theorem Vw {get:Nat→List AVal} {sz:Nat}: ∀(n:Nat),(∀i,i<n→(get i).length =sz)→ ∀(r j:Nat),r<n→j<sz→(Yq n get)[r*sz+j]? =(get r)[j]?
 | 0,_,r,j,hr,_=>by omega
 | n+1,h,r,j,hr,hj=>by
  have hl:=Ym n fun i hi=>h i (by omega);rw [z8y];by_cases e:r=n
  ·subst e;rw [BO (by omega),hl]
   congr 1;omega
  ·have hlt:r<n:=by omega
   have:(r+1)*sz≤n*sz:=AH sz hlt;rw [AR,BI] at this;rw [Bx (by omega)];exact Vw n (fun i hi=>h i (by omega)) r j hlt hj
theorem Rel.rowAt {mem:Mem} {next:Nat} {w:World} (h:Rel ρ mem next w) {b:Nat} {l:Loc} {ab:ABlk} {A:Arr} (hb:ρ b=some l) (hm:Yn mem b=some ab) (hA:ab.arr=some A) {r:Nat} (hr:r<A.n):z8h ρ w l.blk (l.base+r*A.sz) (A.get r):=by obtain ⟨_,_,har,_⟩:=h.blk b l ab hb hm;obtain ⟨e1,_,e3⟩:=har A hA;intro i hi;have hsz:=e3 r hr;have hg:=Vw A.n e3 r i hr (by omega);rw [Ao hi,←e1] at hg;obtain ⟨hlt,hge⟩:=Be.1 hg;obtain ⟨v,e,f⟩:=h.cellsAt hb hm (r*A.sz+i) hlt;rw [hge] at f;exact ⟨v,by rw [AB];exact e,f⟩
theorem y3h {mem:Mem} {next:Nat} {w:World} (h:Rel ρ mem next w) {t:TypeId} {x v:AVal} {u:Value} (hl:y8r P mem t x=some (v,true)) (hx:Yw ρ x u):
  ∃z,Yw ρ v z∧(Instr.loadAt t u).run P w=.ok z w:=by
 unfold y8r at hl;split at hl
 ·split at hl
  ·rename_i b sz r fo _ blk hm;split at hl
   ·rename_i A hA;simp only [Aq,Ad,Ac,As] at hl;obtain ⟨v',hp,rfl,hs,hr⟩:=hl;obtain rfl:=Ak hs;cases hx with
    | epa _ _ _ _ l hρ=>obtain ⟨z,hz,dS⟩:=(h.rowAt hρ hm hA hr).part hp;rw [AB] at dS;exact ⟨z,hz,by simp [Instr.loadAt,Instr.sureAddr,dS]⟩
   ·cases hl
  ·cases hl
 ·simp only [Aq,Ad,BZ] at hl;obtain ⟨v',hl,rfl⟩:=hl;exact y8q h hl hx
theorem y6d {st st':St} {b e:Bool} (h:st.test b=(e,st')):st'.env=st.env∧st'.mem=st.mem∧st'.next=st.next∧(st'.ob=true→e=b∧st.ob=true):=by
 obtain ⟨env,mem,next,orc,ob⟩:=st;cases orc with
 | nil=>simp only [St.test,Ad] at h;obtain ⟨rfl,rfl⟩:=h;exact ⟨rfl,rfl,rfl,fun h=>⟨rfl,h⟩⟩
 | cons c r=>simp only [St.test,Ad] at h;obtain ⟨rfl,rfl⟩:=h;refine ⟨rfl,rfl,rfl,fun h=> ?_⟩;simp only [Ac,beq_iff_eq] at h;exact ⟨h.1.symm,h.2⟩
theorem z2a : ∀(rw:Rws) (r:Nat) (st:St) (cs:List AVal) (st1:St),z5k rw r st=(cs,st1)→st1.env=st.env∧st1.mem=st.mem∧st1.next=st.next∧(st1.ob=true→cs=rw.get r∧st.ob=true)
 | .flat g,r,st,cs,st1,h=>by simp only [z5k,Ad] at h;obtain ⟨rfl,rfl⟩:=h;exact ⟨rfl,rfl,rfl,fun h=>⟨rfl,h⟩⟩
 | .one r0 c0 b,r,st,cs,st1,h=>by
  unfold z5k at h;split at h;rename_i e st2 ht;obtain ⟨t1,t2,t3,t4⟩:=y6d ht;cases e with
  | true=>simp only [Ab,Ad] at h;obtain ⟨rfl,rfl⟩:=h;exact ⟨t1,t2,t3,fun ho=>⟨by simp only [Rws.get];rw [←(t4 ho).1];rfl,(t4 ho).2⟩⟩
  | false=>rw [Aa] at h;obtain ⟨p1,p2,p3,p4⟩:=z2a b r st2 cs st1 h;refine ⟨p1.trans t1,p2.trans t2,p3.trans t3,fun ho=> ?_⟩;obtain ⟨q1,q2⟩:=p4 ho;exact ⟨by simp only [Rws.get];rw [←(t4 q2).1];exact q1,(t4 q2).2⟩
 | .alt c a b,r,st,cs,st1,h=>by
  unfold z5k at h;split at h;rename_i e st2 ht;obtain ⟨t1,t2,t3,t4⟩:=y6d ht;cases e with
  | true=>rw [Ab] at h;obtain ⟨p1,p2,p3,p4⟩:=z2a a r st2 cs st1 h;refine ⟨p1.trans t1,p2.trans t2,p3.trans t3,fun ho=> ?_⟩;obtain ⟨q1,q2⟩:=p4 ho;exact ⟨by simp only [Rws.get];rw [←(t4 q2).1];exact q1,(t4 q2).2⟩
  | false=>rw [Aa] at h;obtain ⟨p1,p2,p3,p4⟩:=z2a b r st2 cs st1 h;refine ⟨p1.trans t1,p2.trans t2,p3.trans t3,fun ho=> ?_⟩;obtain ⟨q1,q2⟩:=p4 ho;exact ⟨by simp only [Rws.get];rw [←(t4 q2).1];exact q1,(t4 q2).2⟩
theorem z4g {st st1:St} {t:TypeId} {x v:AVal} {o:Bool} (h:v9i P st t x=some (v,o,st1)):st1.env=st.env∧st1.mem=st.mem∧st1.next=st.next∧(st1.ob=true→y8r P st.mem t x=some (v,o)∧st.ob=true):=by
 unfold v9i at h;split at h
 ·split at h
  ·rename_i b sz r fo _ blk hm;split at h
   ·rename_i A hA;split at h;rename_i cs st2 hp;simp only [Aq,Ad] at h;obtain ⟨v',hv,rfl,rfl,rfl⟩:=h;obtain ⟨p1,p2,p3,p4⟩:=z2a _ _ _ _ _ hp;refine ⟨p1,p2,p3,fun ho=> ?_⟩;obtain ⟨q1,q2⟩:=p4 ho;refine ⟨?_,q2⟩;subst q1;have hv:z2y P t (A.get r) fo=some v':=hv;simp only [y8r,hm,hA,hv,BL]
   ·cases h
  ·cases h
 ·rename_i hx;simp only [Aq,Ad] at h;obtain ⟨v',hv,rfl,rfl,rfl⟩:=h;refine ⟨rfl,rfl,rfl,fun ho=>⟨?_,ho⟩⟩;unfold y8r;split
  ·rename_i b sz r fo;exact absurd rfl (hx b sz r fo)
  ·rw [hv];rfl
theorem u5b {l:List AVal} {n:Nat} (h:l.length=n):l.drop n=[]:=Au (by omega)
theorem x4t {α:Type} {c:Bool} {x z:Option α} {y:α} (h:(bif c then x else z)=some y):(c=true∧x=some y)∨(c=false∧z=some y):=by
 cases c with
 | false=>exact .inr ⟨rfl,h⟩
 | true=>exact .inl ⟨rfl,h⟩
theorem z7l {A:Arr} {r fo:Nat} {cs:List AVal} {st st1:St} {rw1:Rws} (h:setRow A r fo cs st=some (rw1,st1)):st1.env=st.env∧st1.mem=st.mem∧st1.next=st.next∧(st1.ob=true→((A.get r).length =A.sz→rw1.get=Xr A.get r fo cs)∧st.ob=true):=by
 obtain ⟨sz,n,rw0⟩:=A;unfold setRow at h;have full: ∀(g:Nat→List AVal),cs.length=sz→(g r).length =sz→(fun k=>bif Nat.beq k r then cs else g k)=Xr g r 0 cs:=fun g h1 h2=>by
  funext k
  unfold Xr;rw [List.take_zero,Bc,Ag,h1,u5b h2,Az]
 split at h
 ·rename_i g hg;simp only at hg;subst hg;rcases x4t h with ⟨_,h⟩ | ⟨_,h⟩
  ·simp only [Ae,Ad] at h;obtain ⟨rfl,rfl⟩:=h;exact ⟨rfl,rfl,rfl,fun ho=>⟨fun _=>rfl,ho⟩⟩
  ·rcases x4t h with ⟨hc,h2⟩ | ⟨_,h2⟩
   ·simp only [Ac] at hc;obtain rfl:=Ak hc.1;have hc2:=Ak hc.2;clear h;simp only [Ae,Ad] at h2;obtain ⟨rfl,rfl⟩:=h2;exact ⟨rfl,rfl,rfl,fun ho=>⟨fun hl=>full g hc2 hl,ho⟩⟩
   ·cases h2
 ·rename_i r0 c0 b hb;simp only at hb;subst hb;split at h;rename_i e st2 ht;obtain ⟨t1,t2,t3,t4⟩:=y6d ht;rcases x4t h with ⟨hc,h2⟩ | ⟨_,h2⟩
  ·simp only [Ac] at hc;obtain rfl:=Ak hc.1.2;have hc2:=Ak hc.2;clear h;simp only [Ae,Ad] at h2;obtain ⟨rfl,rfl⟩:=h2;refine ⟨t1,t2,t3,fun ho=>⟨fun hl=> ?_,(t4 ho).2⟩⟩;have he:=(t4 ho).1;rw [hc.1.1] at he;obtain rfl:=Ak he.symm;have:=full (Rws.get (.one r c0 b)) hc2 hl;show _=Xr (Rws.get (.one r c0 b)) r 0 cs;rw [←this]
   funext k
   simp only [Rws.get];cases Nat.beq k r <;> rfl
  ·cases h2
 ·rename_i c a b hb;simp only at hb;subst hb;rcases x4t h with ⟨hc,h2⟩ | ⟨_,h2⟩
  ·simp only [Ac] at hc;obtain rfl:=Ak hc.1;have hc2:=Ak hc.2;clear h;simp only [Ae,Ad] at h2;obtain ⟨rfl,rfl⟩:=h2;exact ⟨rfl,rfl,rfl,fun ho=>⟨fun hl=>full _ hc2 hl,ho⟩⟩
  ·cases h2
structure x5k (ρ:Rho) (floor:Nat) (st st':St) (v:AVal) (w:World) (ρ':Rho) (u:Value) (w':World):Prop where
 val:Yw ρ' v u
 rel:Rel ρ' st'.mem st'.next w'
 ev:Ev ρ ρ' floor st.mem st.next st'.mem st'.next w w'
def Does (P:Program) (o:Oper) (a:Act) (w:World) (K:Rho→Value→World→Prop):Prop:=
 (∃ρ' u w',(execOp a.eval o).run P w=.ok (.value u) w'∧K ρ' u w')∨
 (∃ρ' w',(execOp a.eval o).run P w=.ok .skip w'∧K ρ' undef w')∨
 (∃f args,(execOp a.eval o).run P w=.ok (.enter f args) w∧Calls P f args w fun e w'=> ∃ρ' u,e=.returned u∧K ρ' u w')
theorem Rel.hold {mem:Mem} {next:Nat} {w:World} (h:Rel ρ mem next w): ∀k,w.heap.size≤k→ρ.fz k=none:=by
 intro k hk;cases e:ρ.fz k with
 | none=>rfl
 | some o=>have:=(AJ.1 (h.old k o e)).1;omega
theorem z6c {st:St} {w:World} (h:Rel ρ st.mem st.next w) (floor:Nat) (cs:List AVal) (ty:TypeId) (vs:Array Value) (el:TypeId) (hn:cs.length≤vs.size)
  (hv: ∀(i:Nat) (h1:i<cs.length) (h2:i<vs.size),Yw ρ cs[i] vs[i]) (v:AVal) (u:Value) (eC: ∀ρ',ρ' st.next=some ⟨w.heap.size,0,cs.length,vs.size⟩→Yw ρ' v u):
  x5k ρ floor st (y2k st cs ty) v w (Uw ρ st.next ⟨w.heap.size,0,cs.length,vs.size⟩) u {w with heap:=w.heap.push (.cells vs el)}:=
 ⟨eC _ (by simp [Uw]),h.new cs ty vs el h.hold hn hv,Ev.ofNew h floor _ _ _ (Ar _)⟩
theorem x7t {st st':St} {w:World} (h:Rel ρ st.mem st.next w) {floor:Nat} {t:TypeId} {x v:AVal} {u z:Value} (hs:y8n P floor st t x v=some st') (hx:Yw ρ x u) (hv:Yw ρ v z):
  ∃w',(Instr.storeAt t u z).run P w=.ok () w'∧x5k ρ floor st st' (.tup []) w ρ undef w'∧st'.env=st.env∧st'.ob=st.ob:=by
 unfold y8n at hs;split at hs
 ·rename_i b off i hi;simp only at hs;cases hc:(Nat.ble floor b&&Nat.beq v.cells.length i.size&&z4e v&&v.cells.all y1u) with
  | false=>rw [hc] at hs;cases hs
  | true=>
   rw [hc,Ab] at hs;simp only [Ac] at hc;obtain ⟨⟨⟨hf,hn⟩,hbx⟩,hsc⟩:=hc;have hf:=Al hf;have hn:=Ak hn;split at hs
   ·rename_i blk hm;cases eA:Nat.ble (off+i.size) blk.cells.length with
    | false=>rw [eA] at hs;cases hs
    | true=>
     rw [eA,Ab] at hs;have eA:=Al eA;obtain rfl:=Af hs;cases hx with
     | ptr _ _ l hρ=>
      have dV:=hv.cells hbx;have eU:=Yw.cells_oneCell dV hsc;have dR:z.cells.toList.length=v.cells.length:=(by simpa using dV.1.symm);obtain ⟨cur,el,hw,hsz,dQ⟩:=h.write hρ hm (off:=off) (cs:=v.cells) (vs:=z.cells.toList) dR (by omega) (fun j h1 h2=>by simpa using dV.2 j h1 (by simpa using h2));have dS:=run_storeCells_at P l.blk (l.base+off) el z.cells.toList 0 cur w hw (by omega) eU;refine ⟨w.setRow l.blk (cur.toList.take (l.base+off)++z.cells.toList++cur.toList.drop (l.base+off+z.cells.toList.length)).toArray,?_,⟨.tup [] #[] rfl (fun j h1 _=>by simp at h1),?_,Ev.ofWrite h hρ hf _ _⟩,rfl,rfl⟩
      ·have hzs:z.cells.size=i.size:=(by simpa [hn] using dV.1.symm);simp only [A3] at dS;simp [Instr.storeAt,Instr.sureAddr,storeVar,Zo hi,hzs,-List.append_assoc,-Array.length_toList,dS]
      ·rw [hn] at dQ
       simpa [St.withMem] using dQ
   ·cases hs
 ·cases hs
theorem z3l {get:Nat→List AVal} {sz n r fo:Nat} {cs:List AVal} (hl: ∀i,i<n→(get i).length =sz) (hf:fo+cs.length≤sz): ∀i,i<n→(Xr get r fo cs i).length =sz:=by
 intro i hi;unfold Xr;cases e:Nat.beq i r with
 | false=>exact hl i hi
 | true=>obtain rfl:=Ak e;have:=hl i hi;simp only [Ab];rw [Xs _ _ _ (by omega)];exact this
theorem u1p {get:Nat→List AVal} {sz n r fo:Nat} {cs:List AVal} (hl: ∀i,i<n→(get i).length =sz) (hr:r<n) (hf:fo+cs.length≤sz):
  (Yq n get).take (r*sz+fo)++cs++(Yq n get).drop (r*sz+fo+cs.length)=Yq n (Xr get r fo cs):=by
 have dR:=Ym n hl;have fV:=Ym n (z3l (r:=r) hl hf);have hb:(r+1)*sz≤n*sz:=AH sz hr;rw [AR,BI] at hb;have eA:r*sz+fo+cs.length≤(Yq n get).length :=by omega
 apply List.ext_getElem?;intro i;rw [Km _ _ _ _ eA];by_cases hi:i<n*sz
 ·have hsz:0<sz:=by
   rcases BG sz with e | e
   ·rw [e,Nat.mul_zero] at hi;omega
   ·exact e
  have hj:i %sz<sz:=BY _ hsz;have hq:i / sz<n:=By (by rw [Bq];exact hi);have e:i=i / sz*sz+i %sz:=by rw [Bq];exact (B1 i sz).symm
  generalize i / sz=q at*;generalize i %sz=j at*;subst e;rw [Vw n (z3l (r:=r) hl hf) q j hq hj,Vw n hl q j hq hj];unfold Xr;cases eq:Nat.beq q r with
  | true=>
   obtain rfl:=Ak eq;have:=hl q hr;simp only [Ab];rw [Km _ _ _ _ (by omega)];by_cases h1:j<fo
   ·rw [AC (by omega),AC h1]
   ·rw [Ay (by omega),Ay h1];by_cases h2:j<fo+cs.length
    ·rw [AC (by omega),AC h2];congr 1;omega
    ·rw [Ay (by omega),Ay h2]
  | false=>
   have hne:=Nat.ne_of_beq_eq_false eq;simp only [Aa];rcases Nat.lt_or_gt_of_ne hne with h | h
   ·have:(q+1)*sz≤r*sz:=AH sz h;rw [AR,BI] at this;rw [AC (by omega)]
   ·have:(r+1)*sz≤q*sz:=AH sz h;rw [AR,BI] at this;rw [Ay (by omega),Ay (by omega)]
 ·rw [Ay (by omega),Ay (by omega),BD (by omega),BD (by omega)]
theorem Rel.setArr {mem:Mem} {next:Nat} {w:World} {b:Nat} {cs:List AVal} {ty:TypeId} (h:Rel ρ (Wz mem b (some ⟨cs,ty,none⟩)) next w) (A:Arr) (h1:cs=Yq A.n A.get) (h2:1≤A.sz) (h3: ∀i,i<A.n→(A.get i).length =A.sz):
  Rel ρ (Wz mem b (some ⟨cs,ty,some A⟩)) next w:=by
 have some_iff: ∀c,(Yn (Wz mem b (some ⟨cs,ty,some A⟩)) c).isSome =(Yn (Wz mem b (some ⟨cs,ty,none⟩)) c).isSome :=fun c=>by rw [Vk,Vk];by_cases e:c=b <;> simp [e]
 refine ⟨h.dom,fun c c' m m' e e' he hs hs'=>h.inj c c' m m' e e' he (by rw [←some_iff];exact hs) (by rw [←some_iff];exact hs'),fun c m ab e hc=> ?_,h.old,fun c m e hs=>h.sep c m e (by rw [←some_iff];exact hs),h.real,fun c hc=> ?_,h.ldom⟩
 ·by_cases ecb:c=b
  ·subst ecb;rw [Yj] at hc;obtain rfl:=Af hc;obtain ⟨n,t,_,k⟩:=h.blk c m ⟨cs,ty,none⟩ e (Yj _ _ _);exact ⟨n,t,fun B hB=>by cases hB;exact ⟨h1,h2,h3⟩,k⟩
  ·rw [Zw _ _ ecb] at hc;exact h.blk c m ab e (by rw [Zw _ _ ecb];exact hc)
 ·have:=h.bd c hc;rw [Vk] at this ⊢;by_cases e:c=b
  ·rw [AC e] at this;cases this
  ·rw [Ay e] at this ⊢;exact this
theorem z9n {cx:Ctx} {st st':St} {b:Bool} (h:st.owe cx b=some st'):st'.env=st.env∧st'.mem=st.mem∧st'.next=st.next∧(st'.ob=true→b=true∧st.ob=true):=by
 obtain ⟨env,mem,next,orc,ob⟩:=st;unfold St.owe at h;cases hs:cx.sym with
 | true=>rw [hs] at h;obtain rfl:=Af h;exact ⟨rfl,rfl,rfl,fun ho=>by simp only [Ac] at ho;exact ⟨ho.1,ho.2⟩⟩
 | false=>
  rw [hs] at h;cases b with
  | true=>obtain rfl:=Af h;exact ⟨rfl,rfl,rfl,fun ho=>⟨rfl,ho⟩⟩
  | false=>cases h
theorem x4w {cx:Ctx} {st st':St} {w:World} (h:Rel ρ st.mem st.next w) {t:TypeId} {x v:AVal} {u z:Value} (hs:z8f P cx st t x v=some st') (hob:st'.ob=true) (hx:Yw ρ x u) (hv:Yw ρ v z):
  ∃w',(Instr.storeAt t u z).run P w=.ok () w'∧x5k ρ cx.floor st st' (.tup []) w ρ undef w':=by
 unfold z8f at hs;split at hs
 ·rename_i b sz r fo i hi;cases hc:(Nat.ble cx.floor b&&Nat.beq v.cells.length i.size&&z4e v&&v.cells.all y1u&&Nat.ble (fo+i.size) sz) with
  | false=>rw [hc] at hs;cases hs
  | true=>
   rw [hc,Ab] at hs;simp only [Ac] at hc;obtain ⟨⟨⟨⟨hf,hn⟩,hbx⟩,hsc⟩,hfo⟩:=hc;have hf:=Al hf;have hn:=Ak hn;have hfo:=Al hfo;split at hs
   ·rename_i blk hm;split at hs
    ·rename_i A hA;split at hs
     ·rename_i rw1 st1 fH;obtain ⟨_,o2,o3,o4⟩:=z9n hs;obtain ⟨ho,hob1⟩:=o4 hob;obtain ⟨s1,s2,s3,s4⟩:=z7l fH;have o2:st'.mem=Wz st1.mem b (some ⟨Yq A.n rw1.get,blk.ty,some ⟨A.sz,A.n,rw1⟩⟩):=o2;have o3:st'.next=st1.next:=o3
      rw [s2] at o2;rw [s3] at o3;simp only [Ac,As] at ho;obtain ⟨hsz,hr⟩:=ho;obtain rfl:=Ak hsz;cases hx with
      | epa _ _ _ _ l hρ=>
       obtain ⟨eV,fW,eF⟩:=(h.blk b l blk hρ hm).arr A hA;have dV:=hv.cells hbx;have eU:=Yw.cells_oneCell dV hsc;have dR:z.cells.toList.length=v.cells.length:=(by simpa using dV.1.symm);have hrl:=Ym A.n eF;have hb:(r+1)*A.sz≤A.n*A.sz:=AH A.sz hr;rw [AR,BI] at hb;obtain ⟨cur,el,hw,hsz,dQ⟩:=h.write hρ hm (off:=r*A.sz+fo) (cs:=v.cells) (vs:=z.cells.toList) dR (by rw [eV,hrl];omega) (fun j h1 h2=>by simpa using dV.2 j h1 (by simpa using h2));have dS:=run_storeCells_at P l.blk (l.base+(r*A.sz+fo)) el z.cells.toList 0 cur w hw (by omega) eU;rw [eV,u1p eF hr (by omega)] at dQ;have hrw:=(s4 hob1).1 (eF r hr);rw [←hrw] at dQ;have dQ:=dQ.setArr ⟨A.sz,A.n,rw1⟩ rfl fW (by show∀i,i<A.n→(rw1.get i).length =A.sz;rw [hrw];exact z3l (sz:=A.sz) eF (by omega));refine ⟨w.setRow l.blk (cur.toList.take (l.base+(r*A.sz+fo))++z.cells.toList++cur.toList.drop (l.base+(r*A.sz+fo)+z.cells.toList.length)).toArray,?_,⟨.tup [] #[] rfl (fun j h1 _=>by simp at h1),?_,?_⟩⟩
       ·have hzs:z.cells.size=i.size:=(by simpa [hn] using dV.1.symm);simp only [A3] at dS;simp [Instr.storeAt,Instr.sureAddr,storeVar,Zo hi,hzs,-List.append_assoc,-Array.length_toList,dS]
       ·rw [o2,o3];exact dQ
       ·rw [o2,o3];exact Ev.ofWrite h hρ hf _ _
     ·cases hs
    ·cases hs
   ·cases hs
 ·cases hs
theorem x1g (f:Nat→Value):(Array.range 0).map f= #[]:=BU (by simp)
theorem z0r (n:Nat) (l:List AVal):(rep n l).length =n*l.length:=by
 induction n with
 | zero=>simp [rep]
 | succ n ih=>simp only [rep,List.replicate_succ,List.flatten_cons,Aw] at*;rw [ih,Nat.succ_mul,Nat.add_comm]
theorem v5g (l:List AVal): ∀(n i:Nat) (h:i<(rep n l).length) (hl:i %l.length<l.length),(rep n l)[i]=l[i %l.length]
 | 0,i,h,_=>by simp [rep] at h
 | n+1,i,h,hl=>by
  have e:rep (n+1) l=l++rep n l:=by simp [rep,List.replicate_succ]
  have hpos:0<l.length:=by omega
  by_cases hi:i<l.length
  ·simp only [e,BA hi,Nat.mod_eq_of_lt hi]
  ·have h2:i - l.length<(rep n l).length :=by rw [e] at h;simp at h;omega
   simp only [e];rw [BK (by omega)];have hm:(i - l.length) %l.length=i %l.length:=(Nat.mod_eq_sub_mod (by omega)).symm;rw [v5g l n (i - l.length) h2 (by omega)];simp only [hm]
theorem y1m {zero:List AVal} {zs:Array Value} (h:Ue ρ zero zs) (n m:Nat) (hm:m=n*zero.length):Ue ρ (rep n zero) ((Array.range m).map (zs[· %zs.size]!)):=by
 refine ⟨by rw [z0r];simp [hm],fun i h1 h2=> ?_⟩;have hi:i<n*zero.length:=by rw [z0r] at h1;exact h1
 have hpos:0<zero.length:=by
  rcases BG zero.length with e | e
  ·rw [e] at hi;simp at hi
  ·exact e
 have hlt:i %zero.length<zero.length:=BY _ hpos;rw [v5g zero n i h1 hlt];have hlt2:i %zero.length<zs.size:=by rw [←h.1];exact hlt
 have:=h.2 (i %zero.length) hlt hlt2;simp only [Array.getElem_map,Array.getElem_range];rw [←h.1]
 simpa [BV,hlt2] using this
theorem y2o {st st':St} {w:World} (h:Rel ρ st.mem st.next w) (floor:Nat) {t:TypeId} {len:Nat} {ps:List (Nat×AVal)} {qs:List (Nat×Value)} {v:AVal} {un:Bool} (hb:Kk P un st t len ps=some (v,st')) (hp:z2j ρ ps qs):
  ∃ρ' u w',(Instr.buildSlice t len qs.toArray).run P w=.ok u w'∧x5k ρ floor st st' v w ρ' u w'∧st'.env=st.env∧st'.ob=st.ob:=by
 unfold Kk at hb;split at hb
 ·rename_i e hu;split at hb
  ·rename_i i zero hi hz;cases hc:(Nat.ble (len*i.size) 16777216&&Nat.beq zero.length i.size) with
   | false=>rw [hc] at hb;cases hb
   | true=>
    rw [hc,Ab] at hb;simp only [Ac] at hc;have hle:=Al hc.1;have hzl:=Ak hc.2;split at hb
    ·rename_i cells dV;simp only [Ae,Ad] at hb;obtain ⟨rfl,rfl⟩:=hb;obtain ⟨_,z,_,_,hzr,hzv⟩:=Wq (ρ:=ρ) hz;have fD:=y1m hzr len (len*i.size) (by rw [hzl]);obtain ⟨arr,h1,h2⟩:=Qb dV fD hp;have dR:len≤len:=Ar _;have dW:z1q ⟨w.heap.size,0,cells.length,arr.size⟩ 0 (bif un&&Nat.beq cells.length (len*i.size) then .un i.size else .ex len) len:=by
      cases hq:(un&&Nat.beq cells.length (len*i.size)) with
      | false=>rfl
      | true=>simp only [Ac] at hq;have hq2:=Ak hq.2;have:=h2.1;exact ⟨by show cells.length≤0+len*i.size;omega,by show 0+len*i.size≤arr.size;omega⟩
     refine ⟨_,.slice (some ⟨w.heap.size,0,none⟩) len len,_,?_,z6c h floor cells e arr e (by rw [h2.1];exact Ar _) h2.2 _ _ (fun ρ' hρ'=>.sl _ 0 _ _ _ _ hρ' dW dR),rfl,rfl⟩;have hgt: ¬len*i.size>2 ^ 24:=(by omega);by_cases h0:len*i.size=0
     ·have h1':Instr.fill (fun j=>some (j*i.size,i.size)) #[] qs=some arr:=by
       rw [h0] at h1;rw [←h1]
       congr 1
       exact (BU (by simp)).symm
      simp [Instr.buildSlice,run_underlying hu,Zo hi,h0,h1',newRow,x1g]
     ·have hgt': ¬2 ^ 24<len*i.size:=hgt;simp [Instr.buildSlice,run_underlying hu,Zo hi,h0,hzv,h1,newRow,hgt']
    ·cases hb
  ·cases hb
 ·cases hb
theorem y2s {n:Int} (h0:0≤n) (h1:n≤1099511627776):IntKind.i64.wrap n=n:=by
 have hm:n %(2 ^ IntKind.i64.bits:Int)=n:=by
  apply Int.emod_eq_of_lt h0;have:(2 ^ IntKind.i64.bits:Int)=18446744073709551616:=by decide
  omega
 unfold wrap;simp only [hm];have: ¬(n≥(2 ^ (IntKind.i64.bits - 1):Int)):=by
  have:(2 ^ (IntKind.i64.bits - 1):Int)=9223372036854775808:=by decide
  omega
 simp [this]
theorem z0c {st st':St} {w:World} (h:Rel ρ st.mem st.next w) (floor:Nat) {t:TypeId} {x y v:AVal} {ux uy:Value} (hb:Um P st t x y=some (v,st')) (hx:Yw ρ x ux) (hy:Yw ρ y uy):
  ∃ρ' u w',(Instr.makeSlice t ux uy).run P w=.ok u w'∧x5k ρ floor st st' v w ρ' u w'∧st'.env=st.env∧st'.ob=st.ob:=by
 unfold Um at hb;split at hb
 ·rename_i e _ l _ c hu;cases hx;cases hy;split at hb
  ·rename_i i zero hi hz;cases hc:(Nat.beq zero.length i.size&&(decide (0≤l)&&decide (l≤c)&&decide (c*i.bytes≤1099511627776)&&decide (c≤1099511627776))) with
   | false=>rw [hc] at hb;cases hb
   | true=>
    rw [hc,Ab] at hb;simp only [Ac,As] at hc;obtain ⟨hzl,⟨⟨h0,hlc⟩,hcb⟩,hc40⟩:=hc;have hzl:=Ak hzl;simp only [Ae,Ad] at hb;obtain ⟨rfl,rfl⟩:=hb;obtain ⟨_,z,_,_,hzr,hzv⟩:=Wq (ρ:=ρ) hz;have fD:=y1m hzr c.toNat (c.toNat*i.size) (by rw [hzl]);have wl:=y2s (n:=l) h0 (by omega);have wc:=y2s (n:=c) (by omega) hc40;have e1: ¬c<0:=(by omega);have e2: ¬(281474976710656<(i.bytes:Int)*c):=by rw [Int.mul_comm];omega
    have e3: ¬l<0:=(by omega);have e4: ¬c<l:=(by omega);by_cases hz0:c.toNat*i.size=0
    ·rw [hz0] at fD;refine ⟨_,.slice (some ⟨w.heap.size,0,none⟩) l.toNat c.toNat,_,?_,z6c h floor (rep c.toNat zero) e #[] e (by rw [z0r,hzl];simp [hz0]) (fun j h1 h2=>by simp at h2) _ _ (fun ρ' hρ'=>.sl _ 0 _ _ _ _ hρ' rfl (by omega)),rfl,rfl⟩;simp [Instr.makeSlice,run_underlying hu,asInt,asIntOf,run_typeInfo w hi,wl,wc,e1,e2,e3,e4,Zo hi,hz0,newRow,x1g]
    ·refine ⟨_,.slice (some ⟨w.heap.size,0,none⟩) l.toNat c.toNat,_,?_,z6c h floor (rep c.toNat zero) e _ e (by rw [fD.1];exact Ar _) fD.2 _ _ (fun ρ' hρ'=>.sl _ 0 _ _ _ _ hρ' rfl (by omega)),rfl,rfl⟩;simp [Instr.makeSlice,run_underlying hu,asInt,asIntOf,run_typeInfo w hi,wl,wc,e1,e2,e3,e4,Zo hi,hz0,newRow,hzv]
  ·cases hb
 ·cases hb
end
section
variable {P:Program} {ρ:Rho}
theorem Rel.kill {mem:Mem} {next:Nat} {w:World} (h:Rel ρ mem next w) (b:Nat):Rel ρ (Wz mem b none) next w:=
 ⟨h.dom,fun c c' m m' e e' he hs hs'=>by
  have hc:c≠b:=fun e=>by rw [e,Yj] at hs;cases hs
  have hc':c'≠b:=fun e=>by rw [e,Yj] at hs';cases hs'
  rw [Zw _ _ hc] at hs;rw [Zw _ _ hc'] at hs';exact h.inj c c' m m' e e' he hs hs',
  fun c m ab e hc=>by
   have hcb:c≠b:=fun e=>by rw [e,Yj] at hc;cases hc
   rw [Zw _ _ hcb] at hc;exact h.blk c m ab e hc,h.old,fun c m e hs=>by
   have hcb:c≠b:=fun e=>by rw [e,Yj] at hs;cases hs
   rw [Zw _ _ hcb] at hs;exact h.sep c m e hs,h.real,fun c hc=>by
   by_cases hcb:c=b
   ·rw [hcb,Yj]
   ·rw [Zw _ _ hcb];exact h.bd c hc,h.ldom⟩
theorem Ev.ofKill {mem:Mem} {next:Nat} {w:World} (h:Rel ρ mem next w) (floor:Nat) {b:Nat} {l:Loc} (hb:ρ b=some l):Ev ρ ρ floor mem next (Wz mem b none) next w w where
 ext:=Rho.le_refl _
 new _ _:=rfl
 nxt:=Ar _
 unborn k _ e cs ty hm:=by rw [Zw _ _ fun hk=>by rw [hk,hb] at e;cases e];exact hm
 frame _ _ hk _:=hk
 fresh k m hk e:=by have:=h.dom k m e;omega
 size:=Ar _
 os:=rfl
 tape:=rfl
 output:=rfl
 still _ _:=rfl
theorem Rel.beyond {mem:Mem} {next:Nat} {w:World} (h:Rel ρ mem next w) {b:Nat} {l:Loc} {ab:ABlk} (hb:ρ b=some l) (hm:Yn mem b=some ab) {off:Nat} {new:List AVal} {vs:List Value} (ty:TypeId)
  (dR:vs.length=new.length) (hoff:off≤ab.cells.length) (eA:ab.cells.length+new.length≤l.tot) (hv: ∀(i:Nat) (h1:i<new.length) (h2:i<vs.length),Yw ρ new[i] vs[i]):
  ∃ cur el,w.heap[l.blk]? =some (.cells cur el (0,0))∧l.base+ab.cells.length+vs.length≤cur.size∧
   Rel (Uw ρ next ⟨l.blk,l.base+off,ab.cells.length - off+new.length,l.tot - off⟩) (Wz (Wz mem b none) next (some ⟨ab.cells.drop off++new,ty,none⟩)) (next+1)
    (w.setRow l.blk (cur.toList.take (l.base+ab.cells.length)++vs++cur.toList.drop (l.base+ab.cells.length+vs.length)).toArray):=by
 obtain ⟨hn,ht,_,cur,el,h1,h2,h3⟩:=h.blk b l ab hb hm;have hbn:b<next:=h.dom b l hb
 have hle:=z1a (l:=⟨l.blk,l.base+off,ab.cells.length - off+new.length,l.tot - off⟩) h.none_next;have hfc:l.base+ab.cells.length+vs.length≤cur.toList.length:=by simp;omega
 have dY: ∀c m,Uw ρ next ⟨l.blk,l.base+off,ab.cells.length - off+new.length,l.tot - off⟩ c=some m→(c=next∧m=⟨l.blk,l.base+off,ab.cells.length - off+new.length,l.tot - off⟩)∨(c≠next∧ρ c=some m):=fun c m e=>by
  rw [Uq] at e;by_cases hc:c=next
  ·rw [AC hc] at e;exact .inl ⟨hc,(Af e).symm⟩
  ·rw [Ay hc] at e;exact .inr ⟨hc,e⟩
 have live: ∀c,c≠next→(Yn (Wz (Wz mem b none) next (some ⟨ab.cells.drop off++new,ty,none⟩)) c).isSome =true→c≠b∧(Yn mem c).isSome =true:=fun c hc hs=>by
  rw [Zw _ _ hc] at hs;have hcb:c≠b:=fun e=>by rw [e,Yj] at hs;cases hs
  rw [Zw _ _ hcb] at hs;exact ⟨hcb,hs⟩
 refine ⟨cur,el,h1,by simpa using hfc,fun c m e=> ?_,fun c c' m m' e e' he hs hs'=> ?_,fun c m ac e hc=> ?_,fun k o e=> ?_,fun c m e=> ?_,fun c m e=> ?_,fun c hc=>by rw [Zw _ _ (by omega),Zw _ _ (by omega)];exact h.bd c (by omega),fun j l e=>BQ (h.ldom j l e)⟩
 ·rcases dY c m e with ⟨rfl,_⟩ | ⟨_,e⟩
  ·omega
  ·have:=h.dom c m e;omega
 ·rcases dY c m e with ⟨hc,hl⟩ | ⟨hc,e2⟩ <;> rcases dY c' m' e' with ⟨hc',hl'⟩ | ⟨hc',e2'⟩
  ·rw [hc,hc']
  ·obtain ⟨hcb,hs'⟩:=live c' hc' hs';rw [hl] at he;exact absurd (h.inj c' b m' l e2' hb he.symm hs' (by rw [hm];rfl)) hcb
  ·obtain ⟨hcb,hs⟩:=live c hc hs;rw [hl'] at he;exact absurd (h.inj c b m l e2 hb he hs (by rw [hm];rfl)) hcb
  ·obtain ⟨_,hs⟩:=live c hc hs;obtain ⟨_,hs'⟩:=live c' hc' hs';exact h.inj c c' m m' e2 e2' he hs hs'
 ·rcases dY c m e with ⟨rfl,rfl⟩ | ⟨hcn,e2⟩
  ·rw [Yj] at hc;obtain rfl:=Af hc;refine ⟨by simp,by simp;omega,(fun A e=>by cases e),_,el,setRow_heap w l.blk cur _ el (0,0) h1,?_,fun i hi=> ?_⟩
   ·rw [List.size_toArray,Xs _ _ _ hfc];simp at h2 ⊢;omega
   ·simp only [Aw,BM] at hi;simp only [B7];rw [Km _ _ _ _ hfc];by_cases g1:off+i<ab.cells.length
    ·rw [AC (by omega),BA (by simp;omega)];obtain ⟨v,e1,e2⟩:=h3 (off+i) g1;exact ⟨v,by simpa [AB] using e1,by simpa using e2.mono hle⟩
    ·rw [Ay (by omega),AC (by omega),BK (by simp;omega)];have hi2:l.base+off+i - (l.base+ab.cells.length)<vs.length:=(by omega);refine ⟨vs[l.base+off+i - (l.base+ab.cells.length)],Ao hi2,?_⟩;have e3:i - (ab.cells.drop off).length =l.base+off+i - (l.base+ab.cells.length):=by simp;omega
     have:=hv (l.base+off+i - (l.base+ab.cells.length)) (by omega) hi2;simp only [e3];exact this.mono hle
  ·have hcs:(Yn mem c).isSome =true∧c≠b:=by have:=live c hcn (by rw [hc];rfl);exact ⟨this.2,this.1⟩
   rw [Zw _ _ hcn,Zw _ _ hcs.2] at hc;refine (h.blk c m ac e2 hc).world hle (setRow_other w l.blk m.blk _ fun heq=>hcs.2 ?_);exact h.inj c b m l e2 hb heq hcs.1 (by rw [hm];rfl)
 ·have e:ρ.fz k=some o:=e;have hk:=h.old k o e;rw [setRow_other]
  ·exact hk
  ·intro heq;have:=h.sep b l hb (by rw [hm];rfl);rw [←heq,e] at this;cases this
 ·intro hs;rcases dY c m e with ⟨rfl,rfl⟩ | ⟨hcn,e⟩
  ·exact h.sep b l hb (by rw [hm];rfl)
  ·exact h.sep c m e (live c hcn hs).2
 ·rw [setRow_size];rcases dY c m e with ⟨rfl,rfl⟩ | ⟨_,e⟩
  ·exact h.real b l hb
  ·exact h.real c m e
theorem Rel.beyond2 {mem:Mem} {next:Nat} {w:World} (h:Rel ρ mem next w) {b:Nat} {l:Loc} {ab:ABlk} (hb:ρ b=some l) (hm:Yn mem b=some ab) {off m T:Nat} {new:List AVal} {vs:List Value} (ty:TypeId)
  (dR:vs.length=new.length) (hoff:off≤m) (hmc:m≤ab.cells.length) (eA:m - off+new.length≤T) (hT:off+T≤l.tot) (hv: ∀(i:Nat) (h1:i<new.length) (h2:i<vs.length),Yw ρ new[i] vs[i]):
  ∃ cur el,w.heap[l.blk]? =some (.cells cur el (0,0))∧l.base+m+vs.length≤cur.size∧
   Rel (Uw ρ next ⟨l.blk,l.base+off,m - off+new.length,T⟩) (Wz (Wz mem b none) next (some ⟨(ab.cells.take m).drop off++new,ty,none⟩)) (next+1)
    (w.setRow l.blk (cur.toList.take (l.base+m)++vs++cur.toList.drop (l.base+m+vs.length)).toArray):=by
 obtain ⟨hn,ht,_,cur,el,h1,h2,h3⟩:=h.blk b l ab hb hm;have hbn:b<next:=h.dom b l hb
 have hle:=z1a (l:=⟨l.blk,l.base+off,m - off+new.length,T⟩) h.none_next;have hfc:l.base+m+vs.length≤cur.toList.length:=by simp;omega
 have dY: ∀c lm,Uw ρ next ⟨l.blk,l.base+off,m - off+new.length,T⟩ c=some lm→(c=next∧lm=⟨l.blk,l.base+off,m - off+new.length,T⟩)∨(c≠next∧ρ c=some lm):=fun c lm e=>by
  rw [Uq] at e;by_cases hc:c=next
  ·rw [AC hc] at e;exact .inl ⟨hc,(Af e).symm⟩
  ·rw [Ay hc] at e;exact .inr ⟨hc,e⟩
 have live: ∀c,c≠next→(Yn (Wz (Wz mem b none) next (some ⟨(ab.cells.take m).drop off++new,ty,none⟩)) c).isSome =true→c≠b∧(Yn mem c).isSome =true:=fun c hc hs=>by
  rw [Zw _ _ hc] at hs;have hcb:c≠b:=fun e=>by rw [e,Yj] at hs;cases hs
  rw [Zw _ _ hcb] at hs;exact ⟨hcb,hs⟩
 refine ⟨cur,el,h1,by simpa using hfc,fun c lm e=> ?_,fun c c' lm lm' e e' he hs hs'=> ?_,fun c lm ac e hc=> ?_,fun k o e=> ?_,fun c lm e=> ?_,fun c lm e=> ?_,fun c hc=>by rw [Zw _ _ (by omega),Zw _ _ (by omega)];exact h.bd c (by omega),fun j l e=>BQ (h.ldom j l e)⟩
 ·rcases dY c lm e with ⟨rfl,_⟩ | ⟨_,e⟩
  ·omega
  ·have:=h.dom c lm e;omega
 ·rcases dY c lm e with ⟨hc,hl⟩ | ⟨hc,e2⟩ <;> rcases dY c' lm' e' with ⟨hc',hl'⟩ | ⟨hc',e2'⟩
  ·rw [hc,hc']
  ·obtain ⟨hcb,hs'⟩:=live c' hc' hs';rw [hl] at he;exact absurd (h.inj c' b lm' l e2' hb he.symm hs' (by rw [hm];rfl)) hcb
  ·obtain ⟨hcb,hs⟩:=live c hc hs;rw [hl'] at he;exact absurd (h.inj c b lm l e2 hb he hs (by rw [hm];rfl)) hcb
  ·obtain ⟨_,hs⟩:=live c hc hs;obtain ⟨_,hs'⟩:=live c' hc' hs';exact h.inj c c' lm lm' e2 e2' he hs hs'
 ·rcases dY c lm e with ⟨rfl,rfl⟩ | ⟨hcn,e2⟩
  ·rw [Yj] at hc;obtain rfl:=Af hc;have htl:((ab.cells.take m).drop off).length =m - off:=by rw [BM,AZ];omega
   refine ⟨by rw [Aw,htl],eA,(fun A e=>by cases e),_,el,setRow_heap w l.blk cur _ el (0,0) h1,?_,fun i hi=> ?_⟩
   ·rw [List.size_toArray,Xs _ _ _ hfc];simp at h2 ⊢;omega
   ·simp only [] at hi;rw [Aw,htl] at hi;simp only [B7];rw [Km _ _ _ _ hfc];by_cases g1:off+i<m
    ·rw [AC (by omega),BA (by rw [htl];omega)];obtain ⟨v,e1,e2⟩:=h3 (off+i) (by omega);exact ⟨v,by simpa [AB] using e1,by simpa using e2.mono hle⟩
    ·rw [Ay (by omega),AC (by omega),BK (by rw [htl];omega)];have hi2:l.base+off+i - (l.base+m)<vs.length:=(by omega);refine ⟨vs[l.base+off+i - (l.base+m)],Ao hi2,?_⟩;have e3:i - ((ab.cells.take m).drop off).length =l.base+off+i - (l.base+m):=by rw [htl];omega
     have:=hv (l.base+off+i - (l.base+m)) (by omega) hi2;simp only [e3];exact this.mono hle
  ·have hcs:(Yn mem c).isSome =true∧c≠b:=by have:=live c hcn (by rw [hc];rfl);exact ⟨this.2,this.1⟩
   rw [Zw _ _ hcn,Zw _ _ hcs.2] at hc;refine (h.blk c lm ac e2 hc).world hle (setRow_other w l.blk lm.blk _ fun heq=>hcs.2 ?_);exact h.inj c b lm l e2 hb heq hcs.1 (by rw [hm];rfl)
 ·have e:ρ.fz k=some o:=e;have hk:=h.old k o e;rw [setRow_other]
  ·exact hk
  ·intro heq;have:=h.sep b l hb (by rw [hm];rfl);rw [←heq,e] at this;cases this
 ·intro hs;rcases dY c lm e with ⟨rfl,rfl⟩ | ⟨hcn,e⟩
  ·exact h.sep b l hb (by rw [hm];rfl)
  ·exact h.sep c lm e (live c hcn hs).2
 ·rw [setRow_size];rcases dY c lm e with ⟨rfl,rfl⟩ | ⟨_,e⟩
  ·exact h.real b l hb
  ·exact h.real c lm e
theorem Ev.ofBeyond {mem:Mem} {next:Nat} {w:World} (h:Rel ρ mem next w) {floor b:Nat} {l:Loc} (hb:ρ b=some l) (hf:floor≤b) (l':Loc) (hl:l'.blk=l.blk) (o:Option ABlk) (cs:Array Value):
  Ev ρ (Uw ρ next l') floor mem next (Wz (Wz mem b none) next o) (next+1) w (w.setRow l.blk cs) where
 ext:=z1a h.none_next
 new k hk:=by simp [Uw,A7 hk]
 nxt:=Cs _
 unborn k hk e cs ty hm:=by rw [Zw _ _ (A7 hk),Zw _ _ fun hkb=>by rw [hkb,hb] at e;cases e];exact hm
 frame k o hk hfr:=by
  rw [setRow_other]
  ·exact hk
  ·exact fun heq=>hfr b l hb hf heq.symm
 fresh k m hk e:=by
  rw [Uq] at e;by_cases hkn:k=next
  ·rw [AC hkn] at e;obtain rfl:=Af e;exact .inr ⟨b,l,hb,hf,hl.symm⟩
  ·rw [Ay hkn] at e;have:=h.dom k m e;omega
 size:=by rw [setRow_size];exact Ar _
 os:=rfl
 tape:=rfl
 output:=rfl
 still _ _:=rfl
theorem Vq {mem:Mem} {next:Nat} {w:World} (h:Rel ρ mem next w) {sz:Nat} {x:AVal} {u:Value} {len:Nat} {cs:List AVal} (hc:Xv mem sz x=some (len,cs)) (hx:Yw ρ x u) (hl:cs.length=len*sz):
  (∀w,(Builtin.lenOf u).run P w=.ok len w)∧ ∀n,n≤len→ ∃vs:Array Value,Ue ρ (cs.take (n*sz)) vs∧ ∀d,(Builtin.firstCells sz n u).run P {w with drawn:=d}=.ok vs {w with drawn:=d}:=by
 unfold Xv at hc;split at hc
 ·simp only [Ae,Ad] at hc;obtain ⟨rfl,rfl⟩:=hc;cases hx;refine ⟨fun w=>by simp [Builtin.lenOf],fun n hn=>⟨#[],⟨by simp,fun i h1 _=>by simp at h1⟩,fun d=>by simp [Builtin.firstCells]⟩⟩
 ·rename_i b off len' cap;split at hc
  ·rename_i blk hm;simp only [Aq,Ad] at hc;obtain ⟨p,hp,rfl,rfl⟩:=hc;cases hx with
   | sl _ _ _ _ l c hρ dW dR=>
    refine ⟨fun w=>by simp [Builtin.lenOf],fun n hn=> ?_⟩;obtain ⟨_,hpl,hle⟩:=z6j hp;have gC:n*sz≤len'*sz:=AH sz hn;have hex: ∀d,∃vs:Array Value,Ue ρ (p.take (n*sz)) vs∧(Builtin.firstCells sz n (.slice (some ⟨l.blk,l.base+off,none⟩) len' c)).run P {w with drawn:=d}=.ok vs {w with drawn:=d}:=by
     intro d;obtain ⟨vs,hs,hv,hr⟩:=((h.drawn d).cellsAt hρ hm).load (P:=P) (off:=off) (n:=n*sz) (by omega);refine ⟨vs,⟨by simp;omega,fun i h1 h2=> ?_⟩,by simpa [Builtin.firstCells] using hr⟩;have h1':i<p.length:=by simp at h1;omega
     obtain ⟨h3,e⟩:=w3k hp i h1';rw [Bf,e];exact hv i h3 h2
    obtain ⟨vs,hv,hr⟩:=hex 0;refine ⟨vs,hv,fun d=> ?_⟩;obtain ⟨b',e1,e2⟩: ∃b',(∀d,(loadCells ⟨l.blk,l.base+off,none⟩ (n*sz)).run P {w with drawn:=d}=.ok b' {w with drawn:=d})∧True:=by
     have hc: ∀d j,j<n*sz→({w with drawn:=d}:World).cell? ((⟨l.blk,l.base+off,none⟩:Addr).add j)=some ((w.cell? ⟨l.blk,l.base+(off+j),none⟩).getD undef):=by
      intro d j hj;obtain ⟨v,e,_⟩:=(h.cellsAt hρ hm) (off+j) (by omega)
      rw [Xb,AB];show w.cell? _=_;rw [e];rfl
     exact ⟨_,fun d=>run_loadCells _ _ _ _ (hc d),trivial⟩
    have h0:=e1 0;simp only [Builtin.firstCells] at hr ⊢;rw [h0] at hr;have:b'=vs:=(by injection hr);rw [←this];exact e1 d
  ·cases hc
 ·cases hc
theorem x7h (n:Nat): ∀(r c:Nat),c<n→Builtin.growBy n r c≤n+(n+768) / 4
 | 0,c,h=>by simp only [Builtin.growBy];omega
 | r+1,c,h=>by
  unfold Builtin.growBy;rw [Ay (by omega)];by_cases h2:c+(c+768) / 4<n
  ·exact x7h n r _ h2
  ·cases r with
   | zero=>simp only [Builtin.growBy];omega
   | succ r=>unfold Builtin.growBy;rw [AC (by omega)];omega
theorem y7c (n c:Nat) (h:c<n):Builtin.nextslicecap n c≤2*n+192:=by
 unfold Builtin.nextslicecap;split
 ·omega
 ·split
  ·omega
  ·have:=x7h n 4 c h;omega
theorem v4r {need c bytes:Nat} (h:(need+1)*(bytes+1)≤1099511627776) (hc:c<need): ¬Builtin.nextslicecap need c*bytes>2 ^ 48:=by have h1:=y7c need c hc;have h2:Builtin.nextslicecap need c*bytes≤(192*(need+1))*(bytes+1):=Nat.mul_le_mul (by omega) (by omega);rw [Nat.mul_assoc] at h2;omega
end
end Go.Am
end
