/- A part of a proof: several texts in one. -/
import Derived.Calls
import Derived.Orders
import Derived.KernelRfl
import Derived.DeepKeys
import Derived.Below
import Derived.Laws.Sem
import Derived.Laws.Tables
import Derived.Laws.CopyRow
import Derived.Laws.Cells
import Derived.Laws.Entries
import Derived.Laws.StructEq
import Derived.ChangeKeysEq
import Derived.WalkSpells
set_option maxRecDepth 1000000
set_option maxHeartbeats 8000000
set_option linter.unusedVariables false
set_option linter.unusedSimpArgs false
noncomputable section
namespace Go.Am
abbrev zq:=List Int
abbrev zt:=List Nat
abbrev zw:=List UInt8
open IntKind (wrap)
theorem Aa:type_of%@cond_false:=@cond_false
theorem Ab:type_of%@cond_true:=@cond_true
theorem Ac:type_of%@Bool.and_eq_true:=@Bool.and_eq_true
theorem Ad:type_of%@Prod.mk.injEq:=@Prod.mk.injEq
theorem Ae:type_of%@Option.some.injEq:=@Option.some.injEq
theorem Af:type_of%@decide_eq_true:=@decide_eq_true
theorem Ag:type_of%@Option.some.inj:=@Option.some.inj
theorem Ah:type_of%@Nat.zero_add:=@Nat.zero_add
theorem Ai:type_of%@Nat.eq_of_beq_eq_true:=@Nat.eq_of_beq_eq_true
theorem Aj:type_of%@Bool.and_true:=@Bool.and_true
theorem Ak:type_of%@Nat.le_of_ble_eq_true:=@Nat.le_of_ble_eq_true
theorem Al:type_of%@Bool.true_and:=@Bool.true_and
theorem An:type_of%@decide_eq_false:=@decide_eq_false
theorem Ao:type_of%@decide_eq_true_eq:=@decide_eq_true_eq
theorem Aq:type_of%@Nat.le_refl:=@Nat.le_refl
theorem Ar:type_of%@Option.map_eq_some_iff:=@Option.map_eq_some_iff
theorem As:type_of%@List.all_eq_true:=@List.all_eq_true
theorem At:type_of%@List.getElem?_eq_getElem:=@List.getElem?_eq_getElem
theorem Au:type_of%@decide_true:=@decide_true
theorem Av:type_of%@congrArg:=@congrArg
theorem Aw:type_of%@List.drop_eq_nil_of_le:=@List.drop_eq_nil_of_le
theorem Ax:type_of%@Bool.not_true:=@Bool.not_true
theorem Ay:type_of%@of_decide_eq_true:=@of_decide_eq_true
theorem Az:type_of%@if_neg:=@if_neg
theorem AA:type_of%@Nat.zero_le:=@Nat.zero_le
theorem AB:type_of%@Bool.not_false:=@Bool.not_false
theorem AC:type_of%@Array.getElem?_eq_some_iff:=@Array.getElem?_eq_some_iff
theorem AD:type_of%@Nat.not_lt_zero:=@Nat.not_lt_zero
theorem AE:type_of%@Nat.mul_le_mul_right:=@Nat.mul_le_mul_right
theorem AF:type_of%@if_pos:=@if_pos
theorem AG:type_of%@List.append_nil:=@List.append_nil
theorem AH:type_of%@List.append_assoc:=@List.append_assoc
theorem AI:type_of%@Nat.le_trans:=@Nat.le_trans
theorem AJ:type_of%@List.mem_append:=@List.mem_append
theorem AK:type_of%@Nat.add_assoc:=@Nat.add_assoc
theorem AL:type_of%@List.mem_range:=@List.mem_range
theorem AM:type_of%@List.mem_flatMap:=@List.mem_flatMap
theorem AN:type_of%@List.mem_cons:=@List.mem_cons
theorem AO:type_of%@List.length_append:=@List.length_append
theorem AP:type_of%@Bool.or_eq_false_iff:=@Bool.or_eq_false_iff
theorem AQ:type_of%@List.getElem_of_mem:=@List.getElem_of_mem
theorem AR:type_of%@List.drop_zero:=@List.drop_zero
theorem AS:type_of%@Nat.add_mul:=@Nat.add_mul
theorem AT:type_of%@List.map_cons:=@List.map_cons
theorem AU:type_of%@List.getElem_mem:=@List.getElem_mem
theorem AV:type_of%@Bool.eq_iff_iff:=@Bool.eq_iff_iff
theorem AW:type_of%@List.drop_eq_getElem_cons:=@List.drop_eq_getElem_cons
theorem AX:type_of%@Nat.ble_eq_true_of_le:=@Nat.ble_eq_true_of_le
theorem AY:type_of%@Bool.false_and:=@Bool.false_and
theorem AZ:type_of%@Nat.lt_of_lt_of_le:=@Nat.lt_of_lt_of_le
theorem A0:type_of%@List.nil_append:=@List.nil_append
theorem A1:type_of%@Bool.and_false:=@Bool.and_false
theorem A2:type_of%@List.mem_map:=@List.mem_map
theorem A3:type_of%@Int.le_refl:=@Int.le_refl
theorem A4:type_of%@List.take_add_one:=@List.take_add_one
theorem A5:type_of%@List.pairwise_cons:=@List.pairwise_cons
theorem A6:type_of%@List.take_of_length_le:=@List.take_of_length_le
theorem A7:type_of%@Bool.eq_false_iff:=@Bool.eq_false_iff
theorem A8:type_of%@Nat.lt_or_ge:=@Nat.lt_or_ge
theorem A9:type_of%@Classical.byContradiction:=@Classical.byContradiction
theorem Ba:type_of%@List.length_cons:=@List.length_cons
theorem Bb:type_of%@List.mem_cons_of_mem:=@List.mem_cons_of_mem
theorem Bc:type_of%@List.mem_cons_self:=@List.mem_cons_self
theorem Be:type_of%@decide_eq_false_iff_not:=@decide_eq_false_iff_not
theorem Bf:type_of%@List.getElem?_eq_some_iff:=@List.getElem?_eq_some_iff
theorem Bg:type_of%@Nat.lt_succ_self:=@Nat.lt_succ_self
theorem Bh:type_of%@Bool.not_eq_true':=@Bool.not_eq_true'
theorem Bi:type_of%@beq_iff_eq:=@beq_iff_eq
theorem Bj:type_of%@Bool.false_or:=@Bool.false_or
theorem Bk:type_of%@List.getD_eq_getElem?_getD:=@List.getD_eq_getElem?_getD
theorem Bl:type_of%@Nat.div_lt_of_lt_mul:=@Nat.div_lt_of_lt_mul
theorem Bm:type_of%@Nat.eq_or_lt_of_le:=@Nat.eq_or_lt_of_le
theorem Bn:type_of%@List.cons.injEq:=@List.cons.injEq
theorem Bo:type_of%@Nat.add_zero:=@Nat.add_zero
theorem Bp:type_of%@Nat.ne_of_lt:=@Nat.ne_of_lt
theorem Bq:type_of%@List.mem_filter:=@List.mem_filter
theorem Br:type_of%@List.pairwise_iff_getElem:=@List.pairwise_iff_getElem
theorem Bs:type_of%@Nat.lt_succ_of_lt:=@Nat.lt_succ_of_lt
theorem Bt:type_of%@List.length_take:=@List.length_take
theorem Bu:type_of%@Nat.lt_trichotomy:=@Nat.lt_trichotomy
theorem Bv:type_of%@Bool.or_eq_true:=@Bool.or_eq_true
theorem Bw:type_of%@List.range_succ:=@List.range_succ
theorem Bx:type_of%@Array.toList_map:=@Array.toList_map
theorem Bz:type_of%@List.length_drop:=@List.length_drop
theorem BA:type_of%@Nat.mod_lt:=@Nat.mod_lt
theorem BB:type_of%@Nat.div_add_mod:=@Nat.div_add_mod
theorem BC:type_of%@List.map_append:=@List.map_append
theorem BD:type_of%@List.cons_append:=@List.cons_append
theorem BE:type_of%@Array.getElem?_modify:=@Array.getElem?_modify
theorem BF:type_of%@of_decide_eq_false:=@of_decide_eq_false
theorem BG:type_of%@List.mem_singleton:=@List.mem_singleton
theorem BH:type_of%@List.getElem_append_right:=@List.getElem_append_right
theorem BI:type_of%@Array.getElem?_eq_getElem:=@Array.getElem?_eq_getElem
theorem BJ:type_of%@Nat.mul_comm:=@Nat.mul_comm
theorem BK:type_of%@List.getElem_append_left:=@List.getElem_append_left
theorem BL:type_of%@List.map_nil:=@List.map_nil
theorem BM:type_of%@List.getElem_take:=@List.getElem_take
theorem BN:type_of%@List.eq_nil_of_length_eq_zero:=@List.eq_nil_of_length_eq_zero
theorem BO:type_of%@List.ext_getElem:=@List.ext_getElem
theorem BQ:type_of%@List.any_eq_true:=@List.any_eq_true
theorem BR:type_of%@Nat.beq_refl:=@Nat.beq_refl
theorem BS:type_of%@decide_eq_true_iff:=@decide_eq_true_iff
theorem BT:type_of%@List.length_set:=@List.length_set
theorem BU:type_of%@List.getElem?_map:=@List.getElem?_map
theorem BV:type_of%@List.pairwise_append:=@List.pairwise_append
theorem BW:type_of%@List.map_map:=@List.map_map
theorem BX:type_of%@Option.isSome_iff_exists:=@Option.isSome_iff_exists
theorem BY:type_of%@Array.getElem?_push:=@Array.getElem?_push
theorem BZ:type_of%@List.map_congr_left:=@List.map_congr_left
theorem B0:type_of%@Option.bind_eq_some_iff:=@Option.bind_eq_some_iff
theorem B1:type_of%@Nat.lt_irrefl:=@Nat.lt_irrefl
theorem B2:type_of%@Option.map_some:=@Option.map_some
theorem B3:type_of%@List.length_map:=@List.length_map
theorem B4:type_of%@Nat.le_succ:=@Nat.le_succ
theorem B5:type_of%@Nat.one_mul:=@Nat.one_mul
theorem B6:type_of%@Nat.le_of_eq:=@Nat.le_of_eq
theorem B7:type_of%@List.getElem_map:=@List.getElem_map
theorem B8:type_of%@Nat.le_add_right:=@Nat.le_add_right
theorem B9:type_of%@and_true:=@and_true
def pn (m:Nat):zt:=Nat.rec (motive:=fun _=>Nat -> zt) (fun _=>[]) (fun _ r m=>bif Nat.beq m 1 then [] else (m%2)::r (m/2)) 64 m
def bl (n m:Nat):List Bool:=Nat.rec (motive:=fun _=>Nat -> List Bool) (fun _=>[]) (fun _ r m=>Nat.beq (m%2) 1::r (m/2)) n m
def D2 :TypeId:=75
def globs :zt:=[1,2]
def gpow :zt:=[3]
def Of :Nat:=75
def Pz :TypeId:=5
inductive FQ where
 | ex (k:Nat)
 | un (sz:Nat)
inductive H7 where
 | mi (l:List (zw×Int))
 | mb (l:List (zw×Bool))
 | it (s:zw) (pos:Nat)
  | bld
inductive CA where
 | undef
 | bool (b:Bool)
 | int (k:IntKind) (n:Int)
 | str (s:zw)
 | agg (cs:List CA)
 | tup (vs:List CA)
 | ptr (b off:Nat)
 | nilp
 | sl (b off len:Nat) (cap:FQ)
 | nils
 | fn (f:FuncId) (caps:List CA)
 | nilf
  | fnb (f:FuncId) (first:List CA)
 | ifc (t:TypeId) (v:CA)
 | nili
 | dat (len:Nat) (get:Nat->List CA)
 | dptr (cs:List CA)
  | sla (b sz off len:Nat) (cap:FQ)
  | epa (b sz i fo:Nat)
  | yld (j:Nat)
  | slv (b sz off len:Nat)
  | nnl (len:Nat) (get:Nat->List CA)
  | obj (o:H7)
  | mapr (b:Nat)
  | ifb (b:Bool)
abbrev zy:=List CA
inductive T (α:Type) where
 | leaf
 | node (v:α) (l r:T α)
def T.get {α:Type} (d:α) (t:T α):Nat->α:=
 T.rec (motive:=fun _=>Nat->α) (fun _=>d)
  (fun v _ _ gl gr n=>Nat.rec (motive:=fun _=>α) v (fun m _=>bif Nat.beq (m %2) 0 then gl (m / 2) else gr (m / 2)) n) t
def T.setF {α:Type} (d:α) (v:α) (f:Nat):T α->Nat->T α:=
 Nat.rec (motive:=fun _=>T α->Nat->T α) (fun t _=>t)
  (fun _ rec t n=>
   T.casesOn (motive:=fun _=>T α) t
    (Nat.rec (motive:=fun _=>T α) (.node v .leaf .leaf)
     (fun m _=>bif Nat.beq (m %2) 0 then .node d (rec .leaf (m / 2)) .leaf else .node d .leaf (rec .leaf (m / 2))) n)
    (fun u l r=>Nat.rec (motive:=fun _=>T α) (.node v l r)
     (fun m _=>bif Nat.beq (m %2) 0 then .node u (rec l (m / 2)) r else .node u l (rec r (m / 2))) n)) f
def T.set {α:Type} (d:α) (t:T α) (n:Nat) (v:α):T α:=T.setF d v (n+1) t n
inductive Cz where
 | flat (g:Nat->zy)
 | one (r:Nat) (cs:zy) (b:Cz)
 | alt (c:Nat->Bool) (a b:Cz)
def Cz.get :Cz->Nat->zy
 | .flat g=>g
 | .one r cs b=>fun k=>bif Nat.beq k r then cs else b.get k
 | .alt c a b=>fun k=>bif c k then a.get k else b.get k
instance : Coe (Nat->zy) Cz:=⟨.flat⟩
structure Da where
 sz:Nat
 n:Nat
 rw:Cz
def Da.get (A:Da):Nat->zy:=A.rw.get
def rows (n:Nat) (get:Nat->zy):zy:=(List.range n).flatMap get
structure CG where
 cells:zy
 ty:TypeId
 arr:Option Da
def CG.isObj :CG->Bool
 | ⟨.obj _::_,_,none⟩=>true
 | _=>false
abbrev CI :=T (Option CG)
def Yi (m:CI) (b:Nat):Option CG:=T.get none m b
def Wv (m:CI) (b:Nat) (o:Option CG):CI:=T.set none m b o
structure CN where
 n:Nat
 floor:Nat
 sym:Bool
structure St where
 env:T CA
 mem:CI
 next:Nat
 orc:List Bool
 ob:Bool
def St.tmp :St->Nat->CA
 | ⟨env,_,_,_,_⟩,t=>T.get .undef env t
def St.put (cx:CN):St->Option Tmp->CA->Option St
 | ⟨env,mem,next,orc,ob⟩,some d,v=>bif Nat.ble (d+1) cx.n then some ⟨T.set .undef env d v,mem,next,orc,ob⟩ else none
 | st,none,_=>some st
def St.withMem :St->CI->St
 | ⟨env,_,next,orc,ob⟩,m=>⟨env,m,next,orc,ob⟩
def St.withEnv :St->T CA->St
 | ⟨_,mem,next,orc,ob⟩,e=>⟨e,mem,next,orc,ob⟩
def St.owe (cx:CN):St->Bool->Option St
 | ⟨env,mem,next,orc,ob⟩,b=>bif cx.sym then some ⟨env,mem,next,orc,b&&ob⟩ else bif b then some ⟨env,mem,next,orc,ob⟩ else none
def St.test :St->Bool->Bool×St
 | ⟨env,mem,next,[],ob⟩,b=>(b,⟨env,mem,next,[],ob⟩)
 | ⟨env,mem,next,e::r,ob⟩,b=>(e,⟨env,mem,next,r,(b == e)&&ob⟩)
def St.nextO :St->Bool
 | ⟨_,_,_,[],_⟩=>false
 | ⟨_,_,_,e::_,_⟩=>e
def St.dropO :St->St
 | ⟨env,mem,next,orc,ob⟩=>⟨env,mem,next,orc.tail,ob⟩
def Mc :Value->CA
 | .bool b=>.bool b
 | .int k n=>.int k n
 | .string s=>.str s.data.toList
 | .pointer none=>.nilp
 | .slice none 0 0=>.nils
 | .nilFunc =>.nilf
 | .nilIface =>.nili
 | _=>.undef
def OK :Value->CA
 | .agg cs=>.agg (cs.toList.map Mc)
 | v=>Mc v
def St.eval (st:St):Operand->CA
 | .tmp t=>st.tmp t
 | .const v=>OK v
 | .global _=>.undef
 | .func f=>.fn f []
def CA.cells :CA->zy
 | .agg cs=>cs
 | v=>[v]
def HD :CA->Bool
 | .undef | .tup _ | .obj _=>false
 | _=>true
def j6n :CA->Bool
 | .slv _ _ _ _ | .sl _ _ _ _ | .sla _ _ _ _ _ | .ptr _ _ | .epa _ _ _ _ | .nils | .mapr _ | .obj _=>false
 | _=>true
def DH :CA->Bool
 | .undef | .agg _ | .tup _ | .obj _=>false
 | _=>true
def ZE (P:Program) (t:TypeId):Option Bool:=
 match P.underlying t with
 | some (.struct _) | some (.array _ _)=>some true
 | some _=>some false
 | none=>none
def cut (cs:zy) (off n:Nat):Option zy:=
 let p:=(cs.drop off).take n
 bif Nat.beq p.length n then some p else none
def FI (P:Program) (t:TypeId) (cs:zy) (off:Nat):Option CA:=
 match ZE P t,P.info? t with
 | some true,some i=>(cut cs off i.size).map .agg
 | some false,some _=>cs[off]?
 | _,_=>none
def HE (rec:TypeId->CA->CA->Option Bool) (P:Program) (xs ys:zy):List (TypeId×Nat)->Option Bool
 | []=>some true
 | (t,off)::r=>
  match FI P t xs off,FI P t ys off with
  | some a,some b=>match rec t a b,HE rec P xs ys r with
   | some e,some f=>some (e&&f)
   | _,_=>none
  | _,_=>none
def QF (P:Program):Nat->TypeId->CA->CA->Option Bool
 | 0,_,_,_=>none
 | d+1,t,x,y=>
  match P.underlying t with
  | some .bool =>match x,y with
   | .bool a,.bool b=>some (a == b)
   | _,_=>none
  | some (.int _)=>match x,y with
   | .int k a,.int k' b=>if k=k' then some (a == b) else none
   | _,_=>none
  | some .string =>match x,y with
   | .str a,.str b=>some (a == b)
   | _,_=>none
  | some (.array n e)=>match x,y,P.info? e with
   | .agg xs,.agg ys,some i=>HE (QF P d) P xs ys ((List.range n).map fun j=>(e,j*i.size))
   | _,_,_=>none
  | some (.struct fs)=>match x,y with
   | .agg xs,.agg ys=>
    bif P.stoodInHeld t then none else bif fs.toList.any (fun f=>f.name == "_") then none else
    HE (QF P d) P xs ys (fs.toList.map fun f=>(f.type,f.offset))
   | _,_=>none
  | _=>none
def Ri (op:BinOp) (k:IntKind) (a b:Int):Option Int:=
 match op with
 | .and =>some (k.wrap ((BitVec.ofInt k.bits a)&&& (BitVec.ofInt k.bits b)).toNat)
 | .or =>some (k.wrap ((BitVec.ofInt k.bits a)||| (BitVec.ofInt k.bits b)).toNat)
 | .xor =>some (k.wrap ((BitVec.ofInt k.bits a) ^^^ (BitVec.ofInt k.bits b)).toNat)
 | .andNot =>some (k.wrap ((BitVec.ofInt k.bits a)&&& ~~~(BitVec.ofInt k.bits b)).toNat)
 | _=>none
def QG (P:Program) (op:BinOp) (t:TypeId) (x y:CA):Option (CA×Bool):=
 match x,y with
 | .int k a,.int k' b=>
  match op with
  | .shl =>some (.int k (k.wrap (a*2 ^ (min b.toNat k.bits))),!decide (b<0))
  | .shr =>some (.int k (a.fdiv (2 ^ (min b.toNat k.bits))),!decide (b<0))
  | _=>if k=k' then
    match op with
    | .add =>some (.int k (k.wrap (a+b)),true)
    | .sub =>some (.int k (k.wrap (a - b)),true)
    | .mul =>some (.int k (k.wrap (a*b)),true)
    | .quo =>some (.int k (k.wrap (a.tdiv b)),!decide (b=0))
    | .rem =>some (.int k (a.tmod b),!decide (b=0))
    | .eql =>some (.bool (a == b),true)
    | .neq =>some (.bool (a != b),true)
    | .lss =>some (.bool (decide (a<b)),true)
    | .leq =>some (.bool (decide (a<=b)),true)
    | .gtr =>some (.bool (decide (a>b)),true)
    | .geq =>some (.bool (decide (a>=b)),true)
    | op=>(Ri op k a b).map fun n=>(.int k n,true)
   else none
 | .bool a,.bool b=>match P.underlying t with
  | some .bool =>match op with
   | .eql =>some (.bool (a == b),true)
   | .neq =>some (.bool (!(a == b)),true)
   | _=>none
  | _=>none
 | .agg a,.agg b=>
  bif P.eqGuardType P.depth t then none else
  match op with
  | .eql =>(QF P 30 t (.agg a) (.agg b)).map fun r=>(.bool r,true)
  | .neq =>(QF P 30 t (.agg a) (.agg b)).map fun r=>(.bool (!r),true)
  | _=>none
 | .sl _ _ _ _,.nils =>match P.underlying t with
  | some (.slice _)=>match op with
   | .eql =>some (.bool false,true)
   | .neq =>some (.bool true,true)
   | _=>none
  | _=>none
 | .nnl _ _,.nils =>match P.underlying t with
  | some (.slice _)=>match op with
   | .eql =>some (.bool false,true)
   | .neq =>some (.bool true,true)
   | _=>none
  | _=>none
 | .nils,.nils =>match P.underlying t with
  | some (.slice _)=>match op with
   | .eql =>some (.bool true,true)
   | .neq =>some (.bool false,true)
   | _=>none
  | _=>none
 | .str a,.str b=>match op with
  | .eql =>some (.bool (a == b),true)
  | .neq =>some (.bool (!(a == b)),true)
  | .add =>some (.str (a++b),Nat.ble (a.length+b.length) 9223372036854775807)
  | .lss =>some (.bool (Op.bytesLess a b),true)
  | .leq =>some (.bool (Op.bytesLess a b||a == b),true)
  | .gtr =>some (.bool (!(Op.bytesLess a b||a == b)),true)
  | .geq =>some (.bool (!Op.bytesLess a b),true)
  | _=>none
 | _,_=>none
def aUn (op:UnOp) (x:CA):Option CA:=
 match op,x with
 | .neg,.int k n=>some (.int k (k.wrap (0 - n)))
 | .xor,.int k n=>(Ri .xor k (if k.signed then -1 else k.max) n).map (.int k)
 | .not,.bool b=>some (.bool !b)
 | _,_=>none
def HZ (place:Nat->Option (Nat×Nat)) (cells:zy):List (Nat×CA)->Option zy
 | []=>some cells
 | (i,v)::r=>
  match place i with
  | none=>none
  | some (off,size)=>
   bif HD v&&Nat.beq v.cells.length size&&Nat.ble (off+size) cells.length then
    HZ place (cells.take off++v.cells++cells.drop (off+size)) r
   else none
def E4 (P:Program) (t:TypeId):Option zy:=
 match P.info? t with
 | some i=>i.zero.map fun v=>(OK v).cells
 | none=>none
def Qg (P:Program):List Field->Option (List (Nat×Nat))
 | []=>some []
 | f::r=>match P.info? f.type,Qg P r with
  | some i,some l=>some ((f.offset,i.size)::l)
  | _,_=>none
def v9v (P:Program) (t:TypeId) (parts:List (Nat×CA)):Option CA:=
 match P.underlying t,E4 P t with
 | some (.struct fs),some zero=>match Qg P fs.toList with
  | some pl=>(HZ (pl[·]?) zero parts).map .agg
  | none=>none
 | some (.array _ e),some zero=>match P.info? e with
  | some i=>(HZ (fun j=>some (j*i.size,i.size)) zero parts).map .agg
  | none=>none
 | _,_=>none
def y2v (P:Program) (t:TypeId) (x i:CA):Option (CA×Bool):=
 match P.underlying t,x,i with
 | some (.array len e),.ptr b off,.int _ i=>(P.info? e).map fun s=>(.ptr b (off+i.toNat*s.size),decide (0<=i/\i<len))
 | some (.array len e),.dptr cs,.int _ i=>(P.info? e).map fun s=>(.dptr (cs.drop (i.toNat*s.size)),decide (0<=i/\i<len))
 | some (.slice e),.sl b off len _,.int _ i=>(P.info? e).map fun s=>(.ptr b (off+i.toNat*s.size),decide (0<=i/\i<len))
 | some (.slice e),.dat len get,.int _ i=>(P.info? e).map fun s=>(.dptr (get i.toNat),decide (0<=i/\i<len)&&Nat.beq (get i.toNat).length s.size)
 | some (.slice e),.sla b sz off len _,.int _ i=>(P.info? e).map fun s=>(.epa b sz (off+i.toNat) 0,decide (0<=i/\i<len)&&Nat.beq s.size sz)
 | some (.slice e),.slv b sz off len,.int _ i=>(P.info? e).map fun s=>(.epa b sz (off+i.toNat) 0,decide (0<=i/\i<len)&&Nat.beq s.size sz)
 | some (.array len e),.epa b sz r fo,.int _ i=>(P.info? e).map fun s=>(.epa b sz r (fo+i.toNat*s.size),decide (0<=i/\i<len))
 | _,_,_=>none
def y2w (P:Program) (t:TypeId) (x:CA) (f:Nat):Option CA:=
 match P.underlying t with
 | some (.struct fs)=>match fs[f]? with
  | some f=>match P.info? f.type with
   | some i=>bif Nat.beq i.size 0 then none else match x with
    | .ptr b off=>some (.ptr b (off+f.offset))
    | .dptr cs=>some (.dptr (cs.drop f.offset))
    | .epa b sz r fo=>some (.epa b sz r (fo+f.offset))
    | _=>none
   | none=>none
  | none=>none
 | _=>none
def v9t (P:Program) (t:TypeId) (x:CA) (f:Nat):Option CA:=
 match P.underlying t,x with
 | some (.struct fs),.agg cs=>match fs[f]? with
  | some f=>FI P f.type cs f.offset
  | none=>none
 | _,_=>none
def Cr (s:zw) (n:Nat):Int:=((s.getD n 0).toNat :Int)
def v9s (P:Program) (t:TypeId) (x i:CA):Option (CA×Bool):=
 match P.underlying t,x,i with
 | some (.array len e),.agg cs,.int _ i=>
  match P.info? e with
  | some s=>(FI P e cs (i.toNat*s.size)).map fun v=>(v,decide (0<=i/\i<len))
  | none=>none
 | some .string,.str s,.int _ i=>some (.int .u8 (Cr s i.toNat),decide (0<=i/\i<s.length))
 | _,_,_=>none
def Kz (x y:Int):Int:=if y<x then y else x
def Ky (x y:Int):Int:=if y>x then y else x
def Sl (k:IntKind) (x:Int):zy->Option Int
 | []=>some x
 | .int _ y::r=>Sl k (Kz x y) r
 | _=>none
def Sk (k:IntKind) (x:Int):zy->Option Int
 | []=>some x
 | .int _ y::r=>Sk k (Ky x y) r
 | _=>none
def W7 (P:Program) (b:Builtin) (argTypes:List TypeId) (args:zy):Option CA:=
 match b,argTypes,args with
 | .len,t::_,x::_=>match P.underlying t,x with
  | some .string,.str s=>some (.int .i64 s.length)
  | some (.array n _),_=>some (.int .i64 n)
  | some (.slice _),.sl _ _ n _=>some (.int .i64 n)
  | some (.slice _),.nils =>some (.int .i64 0)
  | some (.slice _),.dat n _=>some (.int .i64 n)
  | some (.slice _),.sla _ _ _ n _=>some (.int .i64 n)
  | some (.slice _),.slv _ _ _ n=>some (.int .i64 n)
  | _,_=>none
 | .min,_,.int k x::r=>(Sl k x r).map (.int k)
 | .max,_,.int k x::r=>(Sk k x r).map (.int k)
 | .cap,t::_,x::_=>match P.underlying t,x with
  | some (.slice _),.sl _ _ _ (.ex c)=>some (.int .i64 c)
  | some (.slice _),.nils =>some (.int .i64 0)
  | _,_=>none
 | _,_,_=>none
def Db (st:Operand->CA) (o:Option Operand) (d:Nat):Option (Nat×Bool):=
 match o with
 | none=>some (d,true)
 | some x=>match st x with
  | .int _ i=>some (i.toNat,decide (0<=i))
  | _=>none
def pd (p:Prop):Bool:= @decide p (Classical.propDecidable p)
def OG (b:Bool) (p:Prop):Bool:=b||pd p
def IV (n:Nat) (g:Nat->zy) (sz:Nat):Bool:=OG ((List.range n).all fun i=>Nat.beq (g i).length sz) (∀i,i<n->(g i).length =sz)
def EY (sz n:Nat) (g:Nat->zy):Bool:=OG ((List.range n).all fun i=>Nat.beq (g i).length sz&&(g i).all DH) (∀i,i<n->(g i).length =sz/\(g i).all DH=true)
def v9q (P:Program) (ev:Operand->CA) (t:TypeId) (x:Operand) (lo hi mx:Option Operand):Option (CA×Bool):=
 match P.underlying t,ev x with
 | some (.slice e),.nils =>
  match P.info? e,mx,Db ev lo 0,Db ev hi 0 with
  | some _,none,some (l,a),some (h,b)=>some (.nils,a&&b&&Nat.beq l 0&&Nat.beq h 0)
  | _,_,_,_=>none
 | some (.slice e),.sl b off len (.ex c)=>
  match P.info? e,Db ev mx c,Db ev hi len,Db ev lo 0 with
  | some s,some (m,x1),some (h,x2),some (l,x3)=>
   if mx.isSome&&hi.isNone then none else
   some (.sl b (bif Nat.beq m l then off else off+l*s.size) (h - l) (.ex (m - l)),x1&&x2&&x3&&Nat.ble m c&&Nat.ble h m&&Nat.ble l h)
  | _,_,_,_=>none
 | some (.slice e),.sl b off len (.un z)=>
  match P.info? e,mx,Db ev hi len,Db ev lo 0 with
  | some s,none,some (h,x2),some (l,x3)=>
   bif Nat.beq z s.size then
    bif Nat.beq h l&&Nat.ble 1 l then some (.dat 0 (fun _=>[]),x2&&x3&&Nat.ble h len) else
    some (.sl b (off+l*s.size) (h - l) (.un z),x2&&x3&&Nat.ble h len&&Nat.ble l h&&(Nat.ble (l+1) len||Nat.beq l 0))
   else none
  | some s,some _,some (h,x2),some (l,x3)=>
   match Db ev mx 0 with
   | some (m,x1)=>
    bif Nat.beq z s.size&&hi.isSome then
     some (.sl b (bif Nat.beq m l then off else off+l*s.size) (h - l) (.ex (m - l)),x1&&x2&&x3&&Nat.ble m len&&Nat.ble h m&&Nat.ble l h)
    else none
   | none=>none
  | _,_,_,_=>none
 | some (.slice e),.sla b sz off len (.un z)=>
  match P.info? e,mx,Db ev hi len,Db ev lo 0 with
  | some s,none,some (h,x2),some (l,x3)=>
   bif Nat.beq z s.size&&Nat.beq sz z then
    bif lo.isSome then some (.slv b sz (off+l) (h - l),x2&&(x3&&(decide (h<=len)&&decide (l<=h)))) else
    some (.sla b sz (off+l) (h - l) (.un z),x2&&(x3&&(decide (h<=len)&&(decide (l<=h)&&(decide (l<len)||Nat.beq l 0)))))
   else none
  | _,_,_,_=>none
 | some (.slice e),.slv b sz off len=>
  match P.info? e,mx,Db ev hi len,Db ev lo 0 with
  | some s,none,some (h,x2),some (l,x3)=>
   bif Nat.beq sz s.size then some (.slv b sz (off+l) (h - l),x2&&(x3&&(decide (h<=len)&&decide (l<=h)))) else none
  | _,_,_,_=>none
 | some (.slice e),.dat len get=>
  match P.info? e,mx,Db ev hi len,Db ev lo 0 with
  | some s,none,some (h,x2),some (l,x3)=>some (.dat (h - l) (fun k=>get (l+k)),x2&&(x3&&(decide (h<=len)&&(decide (l<=h)&&IV len get s.size))))
  | _,_,_,_=>none
 | some (.array n e),.ptr b off=>
  match P.info? e,Db ev mx n,Db ev hi n,Db ev lo 0 with
  | some s,some (m,x1),some (h,x2),some (l,x3)=>
   if mx.isSome&&hi.isNone then none else
   some (.sl b (bif Nat.beq m l then off else off+l*s.size) (h - l) (.ex (m - l)),x1&&x2&&x3&&Nat.ble m n&&Nat.ble h m&&Nat.ble l h)
  | _,_,_,_=>none
 | some .string,.str s=>
  match mx,Db ev hi s.length,Db ev lo 0 with
  | none,some (h,x2),some (l,x3)=>some (.str ((s.drop l).take (h - l)),x2&&(x3&&(decide (h<=s.length)&&decide (l<=h))))
  | _,_,_=>none
 | _,_=>none
def Qc (P:Program) (op:Op) (ev:Operand->CA):Option (CA×Bool):=
 match op with
 | .move x | .assign x=>some (ev x,true)
 | .pick c a b=>match ev c with
  | .bool c=>some (bif c then ev a else ev b,true)
  | _=>none
 | .build t parts=>(v9v P t (parts.toList.map fun p=>(p.1,ev p.2))).map (·,true)
 | .nilCheck x=>match ev x with
  | .ptr b o=>some (.ptr b o,true)
  | .epa b sz r fo=>some (.epa b sz r fo,true)
  | .dptr cs=>some (.dptr cs,true)
  | .fn f c=>some (.fn f c,true)
  | .fnb f c=>some (.fnb f c,true)
  | _=>none
 | .binOp op t x y _=>QG P op t (ev x) (ev y)
 | .unOp op _ x=>(aUn op (ev x)).map (·,true)
 | .convert src dst x=>match P.underlying src,P.underlying dst,ev x with
  | some _,some (.int k),.int _ n=>some (.int k (k.wrap n),true)
  | _,_,_=>none
 | .makeInterface t x=>match P.underlying t with
  | some (.interface _) | none=>none
  | some _=>some (.ifc t (ev x),true)
 | .makeFunc (.func f) first captured=>bif first.isEmpty then some (.fn f (captured.toList.map ev),true) else bif captured.isEmpty then some (.fnb f (first.toList.map ev),true) else none
 | .fieldAddr t x f=>(y2w P t (ev x) f).map (·,true)
 | .field t x f=>(v9t P t (ev x) f).map (·,true)
 | .indexAddr t x i=>y2v P t (ev x) (ev i)
 | .index t x i=>v9s P t (ev x) (ev i)
 | .extract x i=>match ev x with
  | .tup vs=>(vs[i]?).map (·,true)
  | _=>none
 | .slice t x lo hi mx=>v9q P ev t x lo hi mx
 | .call {callee:=.builtin b,args,argTypes}=>(W7 P b argTypes.toList (args.toList.map ev)).map (·,true)
 | _=>none
def NE (P:Program) (m:CI) (t:TypeId) (x:CA):Option CA:=
 match x with
 | .ptr b off=>match Yi m b with
  | some blk=>bif blk.isObj then none else FI P t blk.cells off
  | none=>none
 | .dptr cs=>FI P t cs 0
 | _=>none
def Mk (P:Program) (m:CI) (t:TypeId) (x:CA):Option (CA×Bool):=
 match x with
 | .epa b sz r fo=>match Yi m b with
  | some blk=>match blk.arr with
   | some A=>(FI P t (A.get r) fo).map (·,Nat.beq A.sz sz&&decide (r<A.n))
   | none=>none
  | none=>none
 | x=>(NE P m t x).map (·,true)
def It :Cz->Nat->St->zy×St
 | .flat g,r,st=>(g r,st)
 | .one r0 cs b,r,st=>match st.test (Nat.beq r r0) with
  | (e,st)=>bif e then (cs,st) else It b r st
 | .alt c a b,r,st=>match st.test (c r) with
  | (e,st)=>bif e then It a r st else It b r st
def v9r (P:Program) (st:St) (t:TypeId) (x:CA):Option (CA×Bool×St):=
 match x with
 | .epa b sz r fo=>match Yi st.mem b with
  | some blk=>match blk.arr with
   | some A=>match It A.rw r st with
    | (cs,st1)=>(FI P t cs fo).map (·,Nat.beq A.sz sz&&decide (r<A.n),st1)
   | none=>none
  | none=>none
 | x=>(NE P st.mem t x).map (·,true,st)
def Ml (P:Program) (floor:Nat) (st:St) (t:TypeId) (x v:CA):Option St:=
 match x,P.info? t with
 | .ptr b off,some i=>
  let cs:=v.cells
  bif Nat.ble floor b&&Nat.beq cs.length i.size&&HD v&&cs.all DH then
   match Yi st.mem b with
   | some blk=>
    bif !blk.isObj&&Nat.ble (off+i.size) blk.cells.length then
     some (st.withMem (Wv st.mem b (some ⟨blk.cells.take off++cs++blk.cells.drop (off+i.size),blk.ty,none⟩)))
    else none
   | none=>none
  else none
 | _,_=>none
def Xg (get:Nat->zy) (r fo:Nat) (cs:zy):Nat->zy:=fun k=>bif Nat.beq k r then (get r).take fo++cs++(get r).drop (fo+cs.length) else get k
def setRow (A:Da) (r fo:Nat) (cs:zy) (st:St):Option (Cz×St):=
 match A.rw with
 | .flat g=>bif cs.all j6n then some (.flat (Xg g r fo cs),st) else bif Nat.beq fo 0&&Nat.beq cs.length A.sz then some (.one r cs (.flat g),st) else some (.one r ((g r).take fo++cs++(g r).drop (fo+cs.length)) (.flat g),st)
 | .one r0 c0 b=>match st.test (Nat.beq r r0) with
  | (e,st1)=>bif e&&Nat.beq fo 0&&Nat.beq cs.length A.sz then some (.one r0 cs b,st1) else bif e then some (.one r0 (c0.take fo++cs++c0.drop (fo+cs.length)) b,st1) else none
 | .alt c a b=>bif Nat.beq fo 0&&Nat.beq cs.length A.sz then some (.one r cs (.alt c a b),st) else none
def MO (P:Program) (cx:CN) (st:St) (t:TypeId) (x v:CA):Option St:=
 match x,P.info? t with
 | .epa b sz r fo,some i=>
  bif Nat.ble cx.floor b&&Nat.beq v.cells.length i.size&&HD v&&v.cells.all DH&&Nat.ble (fo+i.size) sz then
   match Yi st.mem b with
   | some blk=>match blk.arr with
    | some A=>match setRow A r fo v.cells st with
     | some (rw,st1)=>(st1.withMem (Wv st1.mem b (some ⟨rows A.n rw.get,blk.ty,some ⟨A.sz,A.n,rw⟩⟩))).owe cx (Nat.beq A.sz sz&&decide (r<A.n))
     | none=>none
    | none=>none
   | none=>none
  else none
 | _,_=>none
def Cy :St->zy->TypeId->St
 | ⟨env,mem,next,orc,ob⟩,cells,ty=>⟨env,Wv mem next (some ⟨cells,ty,none⟩),next+1,orc,ob⟩
def DI (n:Nat) (l:zy):zy:=(List.replicate n l).flatten
def Ka (P:Program) (u:Bool) (st:St) (t:TypeId) (len:Nat) (parts:List (Nat×CA)):Option (CA×St):=
 match P.underlying t with
 | some (.slice e)=>match P.info? e,E4 P e with
  | some i,some zero=>
   bif Nat.ble (len*i.size) 16777216&&Nat.beq zero.length i.size then
    match HZ (fun j=>some (j*i.size,i.size)) (DI len zero) parts with
    | some cells=>some (.sl st.next 0 len (bif u&&Nat.beq cells.length (len*i.size) then .un i.size else .ex len),Cy st cells e)
    | none=>none
   else none
  | _,_=>none
 | _=>none
def Jz (P:Program) (st:St) (t:TypeId) (l c:CA):Option (CA×St):=
 match P.underlying t,l,c with
 | some (.slice e),.int _ l,.int _ c=>match P.info? e,E4 P e with
  | some i,some zero=>
   bif Nat.beq zero.length i.size&&(decide (0<=l)&&decide (l<=c)&&decide (c*i.bytes<=1099511627776)&&decide (c<=1099511627776)) then
    some (.sl st.next 0 l.toNat (.ex c.toNat),Cy st (DI c.toNat zero) e)
   else none
  | _,_=>none
 | _,_,_=>none
def Kg (P:Program) (cx:CN) (st:St) (t:TypeId) (l c:CA):Option (CA×St):=
 match P.underlying t,l,c with
 | some (.slice e),.int _ l,.int _ c=>match P.info? e,E4 P e with
  | some i,some zero=>
   bif Nat.beq zero.length i.size&&Nat.ble 1 i.size then
    (St.owe cx (match Cy st (rows c.toNat fun _=>zero) e with
      | ⟨env,_,next,orc,ob⟩=>⟨env,Wv st.mem st.next (some ⟨rows c.toNat fun _=>zero,e,some ⟨i.size,c.toNat,.flat fun _=>zero⟩⟩),next,orc,ob⟩)
     (decide (0<=l)&&decide (l<=c)&&decide (c*i.bytes<=1099511627776)&&decide (c<=1099511627776))).map (.sla st.next i.size 0 l.toNat (.un i.size), ·)
   else none
  | _,_=>none
 | _,_,_=>none
def Xq (m:CI) (sz:Nat):CA->Option (Nat×zy)
 | .nils =>some (0,[])
 | .sl b off len _=>match Yi m b with
  | some blk=>bif blk.isObj then none else (cut blk.cells off (len*sz)).map (len, ·)
  | none=>none
 | _=>none
def Vg :Nat:=1099511627776
def Ju (m:CI) (sz:Nat) (zero:zy) (ut:TypeDesc) (x:CA):Option (Nat×zy):=
 match ut with
 | .int _=>match x with
  | .int _ n=>bif decide (0<=n) then some (n.toNat,DI n.toNat zero) else none
  | _=>none
 | _=>Xq m sz x
def GI (P :Program) (floor:Nat) (st:St) (argTypes:List TypeId) (args:zy):Option (CA×St):=
 match argTypes,args with
 | t :: u ::_,s::x::_=>match P.underlying t,P.underlying u with
  | some (.slice e),some ut=>match P.info? e,E4 P e with
   | some i,some zero=>match Ju st.mem i.size zero ut x with
    | some (n,new)=>
     bif Nat.beq zero.length i.size&&Nat.beq new.length (n*i.size)&&Nat.ble 1 i.size&&new.all DH then
     match s with
     | .nils =>
      bif Nat.beq n 0 then some (.nils,st) else
      bif Nat.ble ((n+1)*(i.bytes+1)) Vg then
       some (.sl st.next 0 n (.un i.size),Cy st new e) else none
     | .sl b off len cap=>
      match Yi st.mem b with
      | some blk=>
       match cut blk.cells off (len*i.size) with
       | some old=>
        bif !blk.isObj&&Nat.ble ((len+n+1)*(i.bytes+1)) Vg then
        match cap with
        | .ex c=>
         bif Nat.ble (len+n) c then
          bif Nat.ble floor b&&Nat.ble (off+(len+n)*i.size) blk.cells.length then
           some (.sl b off (len+n) cap,st.withMem (Wv st.mem b (some ⟨blk.cells.take (off+len*i.size)++new++blk.cells.drop (off+(len+n)*i.size),blk.ty,none⟩)))
          else none
         else some (.sl st.next 0 (len+n) (.un i.size),Cy st (old++new) e)
        | .un z=>
         bif Nat.beq z i.size&&Nat.ble floor b then
          bif Nat.ble (off+(len+n)*i.size) blk.cells.length then
           some (.sl b off (len+n) cap,st.withMem (Wv st.mem b (some ⟨blk.cells.take (off+len*i.size)++new++blk.cells.drop (off+(len+n)*i.size),blk.ty,none⟩)))
          else bif Nat.beq (off+len*i.size) blk.cells.length then
           some (.sl st.next 0 (len+n) (.un i.size),Cy (st.withMem (Wv st.mem b none)) (old++new) e)
          else none
         else none
        else none
       | none=>none
      | none=>none
     | _=>none
     else none
    | none=>none
   | _,_=>none
  | _,_=>none
 | _,_=>none
def Zr (get:Nat->zy) (off len sz:Nat) (new:zy):Nat->zy:=fun k=>bif Nat.ble len k then (new.drop ((k - len)*sz)).take sz else get (off+k)
def Ma (P:Program) (cx:CN) (st:St) (argTypes:List TypeId) (args:zy):Option (CA×St):=
 match argTypes,args with
 | t :: u ::_,.sla b sz off len (.un z)::x::_=>match P.underlying t,P.underlying u with
  | some (.slice e),some ut=>match ut with
   | .int _=>none
   | _ => match P.info? e with
    | some i=>match Xq st.mem i.size x,E4 P e,Yi st.mem b with
     | some (n,new),some zero,some blk=>match blk.arr with
      | some A=>
       bif Nat.beq zero.length i.size&&Nat.beq new.length (n*i.size)&&Nat.ble 1 i.size&&new.all DH&&Nat.beq sz i.size&&Nat.beq z sz&&Nat.ble cx.floor b&&Nat.ble 1 n then
        (St.owe cx (match Cy (st.withMem (Wv st.mem b none)) (rows (len+n) (Zr A.get off len sz new)) e with
          | ⟨env,_,next,orc,ob⟩=>⟨env,Wv (Wv st.mem b none) st.next (some ⟨rows (len+n) (Zr A.get off len sz new),e,some ⟨sz,len+n,Zr A.get off len sz new⟩⟩),next,orc,ob⟩)
         (Nat.beq A.sz sz&&(decide (off+len=A.n)&&decide ((len+n+1)*(i.bytes+1)<=Vg)))).map (.sla st.next sz 0 (len+n) (.un sz), ·)
       else none
      | none=>none
     | _,_,_=>none
    | none=>none
  | _,_=>none
 | _,_=>none
def MH (sz len:Nat):FQ->Bool
 | .un z=>Nat.beq z sz
 | .ex c=>Nat.ble c len
def Q4 (m:CI) (sz:Nat):CA->Option (Option Nat×Nat×(Nat->zy)×Bool)
 | .nils =>some (none,0,fun _=>[],true)
 | .sl b off len cap=>match Yi m b with
  | some blk=>match cut blk.cells off (len*sz) with
   | some old=>bif !blk.isObj&&(MH sz len cap&&Nat.ble off blk.cells.length) then some (some b,len,fun k=>(old.drop (k*sz)).take sz,true) else none
   | none=>none
  | none=>none
 | .sla b z off len cap=>match Yi m b with
  | some blk=>match blk.arr with
   | some A=>bif MH sz len cap then some (some b,len,fun k=>A.get (off+k),Nat.beq z sz&&(Nat.beq A.sz sz&&decide (off+len<=A.n))) else none
   | none=>none
  | none=>none
 | _=>none
def ZJ (s:zw):Nat->zy:=fun k=>[.int .u8 (Cr s k)]
def Y4 (m:CI) (sz:Nat) (zero:zy) (ut:TypeDesc):CA->Option (Nat×(Nat->zy)×Bool)
 | .int _ n=>match ut with
  | .int _=>some (n.toNat,fun _=>zero,decide (0<=n))
  | _=>none
 | .dat n g=>match ut with
  | .int _=>none
  | _=>some (n,g,EY sz n g)
 | .nils =>match ut with
  | .int _=>none
  | _=>some (0,fun _=>[],true)
 | .sla b z off len _=>match ut with
  | .int _=>none
  | _=>match Yi m b with
   | some ⟨_,_,some A⟩=>some (len,fun k=>A.get (off+k),Nat.beq z sz&&(Nat.beq A.sz sz&&(decide (off+len<=A.n)&&EY sz len fun k=>A.get (off+k))))
   | _=>none
 | .str s=>match ut with
  | .string =>bif Nat.beq sz 1 then some (s.length,ZJ s,true) else none
  | _=>none
 | _=>none
def unN :CA->CA
 | .nnl n g=>.dat n g
 | v=>v
def Jf (get:Nat->zy) (len:Nat) (g:Nat->zy):Nat->zy:=fun k=>bif Nat.ble len k then g (k - len) else get k
def v7z (floor:Nat):Option Nat->Bool
 | some b=>Nat.ble floor b
 | none=>true
def NK (m:CI):Option Nat->CI
 | some b=>Wv m b none
 | none=>m
def HP (P:Program) (cx:CN) (st:St) (argTypes:List TypeId) (args:zy):Option (CA×St):=
 match argTypes,args with
 | t :: u::_,s::x::_=>match P.underlying t,P.underlying u with
  | some (.slice e),some ut=>match P.info? e,E4 P e with
   | some i,some zero=>match Q4 st.mem i.size s,Y4 st.mem i.size zero ut (unN x) with
    | some (b,len,get,o1),some (n,g,o2)=>
     bif Nat.beq zero.length i.size&&zero.all DH&&Nat.ble 1 i.size&&v7z cx.floor b then
      (St.owe cx (match Cy (st.withMem (NK st.mem b)) (rows (len+n) (Jf get len g)) e with
        | ⟨env,_,next,orc,ob⟩=>⟨env,Wv (NK st.mem b) st.next (some ⟨rows (len+n) (Jf get len g),e,some ⟨i.size,len+n,Jf get len g⟩⟩),next,orc,ob⟩)
       (o1&&(o2&&decide ((len+n+1)*(i.bytes+1)<=Vg)))).map (.sla st.next i.size 0 (len+n) (.un i.size), ·)
     else none
    | _,_=>none
   | _,_=>none
  | _,_=>none
 | _,_=>none
def U5 :CA->Bool
 | .dat _ _=>true
 | .nnl _ _=>true
 | .sla _ _ _ _ _=>true
 | .str _=>true
 | _=>false
def j6o :CA->CA->Bool
 | .sla _ _ _ _ _,.nils =>true
 | _,_=>false
def OU (P:Program) (cx:CN) (argTypes:List TypeId) (args:zy):Bool:=
 match argTypes,args with
 | _::u::_,s::x::_=>U5 x||(j6o s x||cx.sym&&(match P.underlying u with
  | some (.int _)=>true
  | _=>false))
 | _,_=>false
def J3 (mem:CI) (e:TypeId) (b:Nat):Bool:=match Yi mem b with
 | some blk=>Nat.beq blk.ty e
 | none=>true
def tyOk (P:Program) (mem:CI) (argTypes:List TypeId) (args:zy):Bool:=
 match argTypes,args with
 | t::_,s::_=>match P.underlying t with
  | some (.slice e)=>match s with
   | .sl b _ _ _=>J3 mem e b
   | .sla b _ _ _ _=>J3 mem e b
   | _=>true
  | _=>true
 | _,_=>true
def JA (P:Program) (cx:CN) (st:St) (argTypes:List TypeId) (args:zy):Option (CA×St):=
 bif !tyOk P st.mem argTypes args then none else
 bif OU P cx argTypes args then HP P cx st argTypes args else
 match args with
 | .sla b sz off len cap::r=>Ma P cx st argTypes (.sla b sz off len cap::r)
 | args=>GI P cx.floor st argTypes args
def ND (P:Program) (floor:Nat) (st:St) (argTypes:List TypeId) (args:zy):Option (CA×St):=
 match argTypes,args with
 | t :: _,d::x::_=>match P.underlying t with
  | some (.slice e)=>match P.info? e with
   | some i=>match Xq st.mem i.size x with
    | some (m,src)=>
     bif Nat.beq src.length (m*i.size)&&src.all DH then
     match d with
     | .nils =>some (.int .i64 0,st)
     | .dat n _=>bif Nat.beq n 0 then some (.int .i64 0,st) else none
     | .sl b off len _=>
      let n:=Nat.min m len
      match Yi st.mem b with
      | some blk=>
       bif !blk.isObj&&(Nat.ble floor b&&Nat.ble (off+n*i.size) blk.cells.length) then
        some (.int .i64 n,st.withMem (Wv st.mem b (some ⟨blk.cells.take off++src.take (n*i.size)++blk.cells.drop (off+n*i.size),blk.ty,none⟩)))
       else none
      | none=>none
     | _=>none
     else none
    | none=>none
   | none=>none
  | _=>none
 | _,_=>none
def w3r (m:CI) (sz:Nat):CA->Option (Nat×(Nat->zy)×Bool)
 | .nils =>some (0,fun _=>[],true)
 | .dat n g=>some (n,g,EY sz n g)
 | .sla b z off len _=>match Yi m b with
  | some blk=>match blk.arr with
   | some A=>some (len,fun k=>A.get (off+k),Nat.beq z sz&&(Nat.beq A.sz sz&&(decide (off+len<=A.n)&&EY sz len fun k=>A.get (off+k))))
   | none=>none
  | none=>none
 | .slv b z off len=>match Yi m b with
  | some blk=>match blk.arr with
   | some A=>some (len,fun k=>A.get (off+k),Nat.beq z sz&&(Nat.beq A.sz sz&&(decide (off+len<=A.n)&&EY sz len fun k=>A.get (off+k))))
   | none=>none
  | none=>none
 | _=>none
def Ur (get:Nat->zy) (off n:Nat) (g:Nat->zy):Nat->zy:=fun k=>bif Nat.ble off k&&Nat.ble (k+1) (off+n) then g (k - off) else get k
def JJ (P:Program) (cx:CN) (st:St) (argTypes:List TypeId) (b sz off len:Nat) (x:CA):Option (CA×St):=
 match argTypes with
 | t ::_=>match P.underlying t with
  | some (.slice e)=>match P.info? e,Yi st.mem b with
   | some i,some blk=>match blk.arr,w3r st.mem i.size x with
    | some A,some (m,g,o)=>
     bif Nat.ble cx.floor b&&Nat.ble 1 i.size then
      (St.owe cx (st.withMem (Wv st.mem b (some ⟨rows A.n (Ur A.get off (Nat.min m len) g),blk.ty,some ⟨A.sz,A.n,Ur A.get off (Nat.min m len) g⟩⟩)))
       (Nat.beq sz i.size&&(Nat.beq A.sz sz&&(decide (off+len<=A.n)&&o)))).map (.int .i64 (Nat.min m len:Nat), ·)
     else none
    | _,_=>none
   | _,_=>none
  | _=>none
 | _=>none
def RS (P:Program) (cx:CN) (st:St) (argTypes:List TypeId) (args:zy):Option (CA×St):=
 match args with
 | .sla b sz off len _::x::_=>JJ P cx st argTypes b sz off len x
 | .slv b sz off len::x::_=>JJ P cx st argTypes b sz off len x
 | args=>ND P cx.floor st argTypes args
def Mj (P:Program) (floor:Nat) (st:St) (argTypes:List TypeId) (args:zy):Option (CA×St):=
 match argTypes,args with
 | t ::_,d::_=>match P.underlying t with
  | some (.slice e)=>match P.info? e,E4 P e with
   | some i,some zero=>match d with
    | .nils =>some (.tup [],st)
    | .sl b off len _=>
     bif Nat.beq len 0 then some (.tup [],st) else
     bif Nat.beq zero.length i.size&&zero.all DH&&Nat.ble floor b then
     match Yi st.mem b with
     | some blk=>
      bif !blk.isObj&&Nat.ble (off+len*i.size) blk.cells.length then
       some (.tup [],st.withMem (Wv st.mem b (some ⟨blk.cells.take off++DI len zero++blk.cells.drop (off+len*i.size),blk.ty,none⟩)))
      else none
     | none=>none
     else none
    | _=>none
   | _,_=>none
  | _=>none
 | _,_=>none
def FO :zy->Nat->T CA->T CA
 | [],_,t=>t
 | a::r,i,t=>FO r (i+1) (T.set .undef t i a)
def YN (P:Program) (st:St):ResultVar->Option CA
 | .tmp t=>some (st.tmp t)
 | .cell a t=>NE P st.mem t (st.tmp a)
def Kk (P:Program) (st:St):List ResultVar->Option zy
 | []=>some []
 | r::l=>match YN P st r,Kk P st l with
  | some v,some vs=>some (v::vs)
  | _,_=>none
def Jd :zy->CA
 | [v]=>v
 | vs=>.tup vs
def pf :Nat->CA->Bool
 | 0,_=>false
 | d+1,v=>match v with
  | .bool _ | .int _ _ | .str _ | .nilp | .nils | .nilf | .nili | .ifb _ | .dat _ _ | .dptr _=>true
  | .agg cs | .tup cs=>cs.all (pf d)
  | .fn _ cs=>cs.isEmpty
  | _=>false
inductive O8 where
 | val (F:zy->Option (CA×Bool))
 | eff (F:zy->CI->Option (CA×Nat×CG×Bool))
 | gro (ty:TypeId) (F:Nat->(Nat->zy)->zy->Option (Nat×(Nat->zy)×Bool))
abbrev CC :=FuncId->Option O8
abbrev CK :=CN->List Item->St->Option St
def pl :CA->Bool
 | .bool _ | .int _ _=>true
 | _=>false
def La (sz n:Nat) (get:Nat->zy):Bool:=pd (∀i,i<n->(get i).length =sz/\(get i).all pl=true)
def I0 (S:CC) (f:FuncId) (args:zy):Option Nat:=match S f with
 | some (.gro _ _)=>match args with
  | .sla b _ _ _ _::_=>some b
  | _=>none
 | _=>none
def scal :CA->Bool
 | .bool _ | .int _ _ | .str _ | .ifb _=>true
 | .tup vs=>vs.all fun v=>match v with
  | .bool _ | .int _ _ | .str _ | .ifb _ | .undef =>true
  | _=>false
 | _=>false
def j2b (P:Program) (m:CI):CA->CA×Bool
 | .sla b sz off len cap=>match Yi m b with
  | some blk=>match blk.arr with
   | some A=>(.dat len fun k=>A.get (off+k),Nat.beq A.sz sz&&(decide (off+len<=A.n)&&pd (∀i,(A.get i).all (pf 6)=true)))
   | none=>(.undef,true)
  | none=>(.undef,true)
 | .sl b off len _=>match Yi m b with
  | some blk=>match P.info? blk.ty with
   | some i=>(.dat len fun k=>(blk.cells.drop (off+k*i.size)).take i.size,!blk.isObj&&(Nat.ble (off+len*i.size) blk.cells.length&&blk.cells.all (pf 6)))
   | none=>(.undef,true)
  | none=>(.undef,true)
 | v=>(v,true)
def Tl (P:Program) (m:CI):zy->zy×Bool
 | []=>([],true)
 | v::l=>match j2b P m v,Tl P m l with
  | (a,o),(az,q)=>(a::az,o&&q)
def Rj (P:Program) (S:CC) (R:CK) (lift:Bool) (f:FuncId) (args:zy) (cx:CN) (st:St):Option (CA×St):=
 match S f with
 | some (.val F)=>bif args.all (pf 3) then (match F args with
   | some (v,b)=>bif pf 3 v||scal v then (st.owe cx b).map (v, ·) else none
   | none=>none) else
  match Tl P st.mem args with
  | (args',o)=>match F args' with
   | some (v,b)=>bif args'.all (pf 3)&&scal v then (st.owe cx (o&&b)).map (v, ·) else none
   | none=>none
 | some (.eff F)=>match F args st.mem with
  | some (v,b,blk,o)=>match Yi st.mem b with
   | some _=>bif !lift&&Nat.ble cx.floor b then ((st.withMem (Wv st.mem b (some blk))).owe cx o).map (v, ·) else none
   | none=>none
  | none=>none
 | some (.gro ty0 F)=>match args with
  | .sla b sz 0 n (.un sz')::r=>match Yi st.mem b with
   | some ⟨_,ty,some A⟩=>bif (Nat.beq ty ty0&&(Nat.beq sz sz'&&Nat.beq A.sz sz))&&(r.all (pf 3)&&(Nat.ble cx.floor b&&Nat.ble 1 sz)) then
     (match F n A.get r with
     | some (n',g,o)=>(St.owe cx (match st with
      | ⟨env,mem,next,orc,ob⟩=>⟨env,Wv (Wv mem b none) next (some ⟨rows n' g,ty,some ⟨sz,n',.flat g⟩⟩),next+1,orc,ob⟩) (o&&(Nat.beq A.n n&&(La sz n A.get&&La sz n' g)))).map (.sla st.next sz 0 n' (.un sz), ·)
     | none=>none) else none
   | _=>none
  | _=>none
 | none=>match P.funcs[f]? with
  | some fn=>match fn.body with
   | some body=>
    match R ⟨Nat.max fn.ntmps args.length,bif lift then st.next else cx.floor,cx.sym⟩ [.code body] (st.withEnv (FO args 0 .leaf)) with
    | some st2=>match Kk P st2 fn.results.toList with
     | some vs=>some (Jd vs,st2.withEnv st.env)
     | none=>none
    | none=>none
   | none=>none
  | none=>none
def Vu (P:Program) (S:CC) (R:CK) (lift:Bool) (op:Op) (cx:CN) (st:St):Option (CA×St):=
 match op with
 | .load t x=>match v9r P st t (st.eval x) with
  | some (v,b,st1)=>(st1.owe cx b).map (v, ·)
  | none=>none
 | .alloc t=>(E4 P t).map fun z=>(.ptr st.next 0,Cy st z t)
 | .box t x=>bif HD (st.eval x) then some (.ptr st.next 0,Cy st (st.eval x).cells t) else none
 | .buildSlice t len parts=>Ka P cx.sym st t len (parts.toList.map fun p=>(p.1,st.eval p.2))
 | .store t a x=>match st.eval a with
  | .epa b sz r fo=>(MO P cx st t (.epa b sz r fo) (st.eval x)).map (.tup [], ·)
  | y=>(Ml P cx.floor st t y (st.eval x)).map (.tup [], ·)
 | .makeSlice t l c=>bif cx.sym then (bif st.nextO then Jz P st.dropO t (st.eval l) (st.eval c) else Kg P cx st.dropO t (st.eval l) (st.eval c)) else Jz P st t (st.eval l) (st.eval c)
 | .call {callee:=.builtin .append,args,argTypes}=>JA P cx st argTypes.toList (args.toList.map st.eval)
 | .call {callee:=.builtin .copy,args,argTypes}=>RS P cx st argTypes.toList (args.toList.map st.eval)
 | .call {callee:=.builtin .clear,args,argTypes}=>Mj P cx.floor st argTypes.toList (args.toList.map st.eval)
 | .call {callee:=.value f,args,argTypes:=_}=>match st.eval f with
  | .fn g caps=>Rj P S R lift g (args.toList.map st.eval++caps) cx st
  | .fnb g first=>Rj P S R lift g (first++args.toList.map st.eval) cx st
  | _=>none
 | _=>none
def Mu (P:Program) (S:CC) (R:CK) (lift:Bool) (o:Oper) (cx:CN) (st:St):Option St:=
 match Qc P o.op st.eval with
 | some (v,b)=>match st.owe cx b with
  | some st=>st.put cx o.dst v
  | none=>none
 | none=>match Vu P S R lift o.op cx st with
  | some (v,st)=>st.put cx o.dst v
  | none=>none
def HW (ops:Array Oper) (o:Oper) (cx:CN) (st:St):Option (Bool×St):=
 match o.guard with
 | none=>some (true,st)
 | some (j,want)=>match (ops[j]?).bind (·.dst) with
  | none=>none
  | some d=>match st.tmp d with
   | .bool b=>match st.test b with
    | (e,st1)=>match st1.put cx (some d) (.bool e) with
     | some st2=>some (e == want,st2)
     | none=>none
   | .tup []=>some (false,st)
   | _=>none
def Tg :List Bool->Nat×List Bool
 | []=>(0,[])
 | false::r=>(0,r)
 | true::r=>((Tg r).1+1,(Tg r).2)
def St.conc (cx:CN) (t:Nat) (kd:IntKind) (n:Int):St->Option St
 | ⟨env,mem,next,[],ob⟩=>some ⟨env,mem,next,[],ob⟩
 | ⟨env,mem,next,o::r,ob⟩=>bif Nat.ble (t+1) cx.n then some ⟨T.set .undef env t (.int kd (Int.ofNat (Tg (o::r)).1)),mem,next,(Tg (o::r)).2,decide (n=Int.ofNat (Tg (o::r)).1)&&ob⟩ else none
def ZM (o:Oper) (cx:CN) (st:St):Option St:=
 match o.op with
 | .indexAddr _ x (.tmp t)=>match st.eval x with
  | .ptr _ _ | .epa _ _ _ _ | .dptr _=>match st.tmp t with
   | .int kd n=>st.conc cx t kd n
   | _=>some st
  | _=>some st
 | .index _ x (.tmp t)=>match st.eval x with
  | .agg _=>match st.tmp t with
   | .int kd n=>st.conc cx t kd n
   | _=>some st
  | _=>some st
 | _=>some st
def GJ (ops:Array Oper) (o:Oper) (cx:CN) (st:St):Option (Bool×St):=
 match HW ops o cx st with
 | some (true,st1)=>match ZM o cx st1 with
  | some st2=>some (true,st2)
  | none=>none
 | x=>x
def ZG (P:Program) (S:CC) (R:CK) (ops:Array Oper) (cx:CN) (l:List (Bool×Oper)):St->Option St:=
 List.rec (motive:=fun _=>St->Option St) (fun st=>some st)
  (fun x _ rec st=>match GJ ops x.2 cx st with
   | none=>none
   | some (true,st)=>match Mu P S R x.1 x.2 cx st with
    | some st=>rec st
    | none=>none
   | some (false,st)=>match st.put cx x.2.dst (.tup []) with
    | some st=>rec st
    | none=>none) l
inductive Ff where
 | pure | read | alloc | call | chain | lit | birth
 deriving DecidableEq
def Xa :Op->Ff
 | .load .. =>.read
 | .alloc _=>.alloc
 | .box .. | .buildSlice .. | .store .. | .makeSlice .. =>.chain
 | .call {callee:=.builtin .append,.. } | .call {callee:=.builtin .copy,.. } | .call {callee:=.builtin .clear,.. }=>.chain
 | .call {callee:=.value _,.. }=>.call
 | _=>.pure
def NG (z:Nat):Op->Bool
 | .buildSlice _ n _=>Nat.beq z 1||(Nat.beq z 3&&Nat.ble 1 n)
 | _=>false
def isBirth (z:Nat):Op->Bool
 | .buildSlice .. =>Nat.beq z 2
 | _=>false
def Xe (z:Nat) (op:Op):Ff:=bif NG z op then .lit else bif isBirth z op then .birth else Xa op
def FR :List Oper->zt->zt
 | [],acc=>acc
 | o::r,acc=>FR r (acc++[o.after.toList.foldl (fun s e=>bif Region.binds .any e then s||| (2 ^ e.on)||| acc.getD e.on 0 else s) 0])
def isAlloc (ops:Array Oper) (i:Nat):Bool:=(ops[i]?).any fun o=>Xa o.op == .alloc
def Ya (ops:Array Oper):zt:=
 (List.range ops.size).filter (isAlloc ops)++(List.range ops.size).filter (fun i=> !isAlloc ops i)
def EM (ops:Array Oper) (i:Nat):Bool:=
 (List.range ops.size).any fun j=>(ops[j]?).any (fun o=>Xa o.op == .read)&&
  ((Nat.ble (i+1) j&& !((FR ops.toList []).getD j 0).testBit i)||(Nat.ble (j+1) i&& !((FR ops.toList []).getD i 0).testBit j))
def JB (ops:Array Oper):List (Nat×Bool×Oper):=(Ya ops).map fun i=>(i,EM ops i,ops.getD i default)
def w1y :Ff->Ff->Bool
 | .pure,_=>true
 | _,.pure =>true
 | .lit,_=>true
 | _,.lit =>true
 | .birth,_=>true
 | _,.birth =>true
 | .alloc,_=>true
 | _,.alloc =>true
 | .read,.read =>true
 | .read,.call =>true
 | .call,.read =>true
 | .read,.chain =>true
 | .chain,.read =>true
 | _,_=>false
def ZH (z:Nat) (ops:Array Oper) (i j:Nat) (p o:Oper):Bool:=
 (((FR ops.toList []).getD j 0).testBit i||(p.apart ops o&&w1y (Xe z p.op) (Xe z o.op)))&&
 (match p.dst with | some d=> !(o.dst == some d) | none=>true)&&
 (!(Xa o.op == .alloc)||p.apart ops o)&&
 (!isBirth z o.op||(match Xe z p.op with
  | .chain | .call =>false
  | _=>true))
def Mq (z:Nat) (ops:Array Oper):Bool:=
 (List.range ops.size).all fun j=>match ops[j]? with
  | none=>false
  | some o=>o.after.toList.all (fun e=> !Region.binds .any e||Nat.ble (e.on+1) j)&&(!(Xa o.op == .alloc ||isBirth z o.op)||o.guard.isNone)&&
   (List.range j).all fun i=>match ops[i]? with
    | none=>false
    | some p=>ZH z ops i j p o
def Eg (op:Op) (ev:Operand->CA):Option Nat:=
 match op with
 | .load _ x=>match ev x with
  | .ptr b _=>some b
  | .epa b _ _ _=>some b
  | _=>none
 | _=>none
def EH (op:Op) (ev:Operand->CA):Option Nat:=
 match op with
 | .store _ a _=>match ev a with
  | .ptr b _=>some b
  | .epa b _ _ _=>some b
  | _=>none
 | .call {callee:=.builtin .append,args,argTypes:=_}=>match args.toList.map ev with
  | .sl b _ _ _::_=>some b
  | .sla b _ _ _ _::_=>some b
  | _=>none
 | .call {callee:=.builtin .copy,args,argTypes:=_}=>match args.toList.map ev with
  | .sl b _ _ _::_=>some b
  | .sla b _ _ _ _::_=>some b
  | .slv b _ _ _::_=>some b
  | _=>none
 | .call {callee:=.builtin .clear,args,argTypes:=_}=>match args.toList.map ev with
  | .sl b _ _ _::_=>some b
  | _=>none
 | _=>none
def clash :Option Nat->Option Nat->Bool
 | some a,some b=>Nat.beq a b
 | _,_=>false
def ordered (ops:Array Oper) (i j:Nat):Bool:=((FR ops.toList []).getD j 0).testBit i||((FR ops.toList []).getD i 0).testBit j
abbrev Dj :=Nat×Option Nat×Option Nat
def ZB (ops:Array Oper) (x y:Dj):Bool:= !(clash x.2.1 y.2.2||clash x.2.2 y.2.1)||ordered ops x.1 y.1
def H3 (P:Program) (S:CC) (R:CK) (ops:Array Oper) (cx:CN) (x:Bool×Oper) (st:St):Option St:=
 match GJ ops x.2 cx st with
 | none=>none
 | some (true,st)=>Mu P S R x.1 x.2 cx st
 | some (false,st)=>st.put cx x.2.dst (.tup [])
def j9p (P:Program) (t:TypeId) (len:Nat) (parts:List (Nat×CA)):Option CA:=
 match P.underlying t with
 | some (.slice e)=>match P.info? e,E4 P e with
  | some i,some zero=>
   bif (Nat.ble 1 len&&Nat.ble 1 i.size)&&(Nat.ble (len*i.size) 16777216&&Nat.beq zero.length i.size) then
    match HZ (fun j=>some (j*i.size,i.size)) (DI len zero) parts with
    | some cells=>bif Nat.beq cells.length (len*i.size)&&cells.all (pf 6) then some (.dat len fun k=>(cells.drop (k*i.size)).take i.size) else none
    | none=>none
   else none
  | _,_=>none
 | _=>none
def w1s (P:Program) (o:Oper) (cx:CN) (st:St):Option St:=
 match o.op with
 | .buildSlice t len parts=>match j9p P t len (parts.toList.map fun p=>(p.1,st.eval p.2)) with
  | some v=>st.put cx o.dst v
  | none=>none
 | _=>none
def w4l (P:Program) (t:TypeId) (len:Nat) (parts:List (Nat×CA)):Option (zy×TypeId×Nat):=
 match P.underlying t with
 | some (.slice e)=>match P.info? e,E4 P e with
  | some i,some zero=>
   bif (Nat.ble 1 len&&Nat.ble 1 i.size)&&(Nat.ble (len*i.size) 16777216&&Nat.beq zero.length i.size) then
    match HZ (fun j=>some (j*i.size,i.size)) (DI len zero) parts with
    | some cells=>bif Nat.beq cells.length (len*i.size) then some (cells,e,i.size) else none
    | none=>none
   else none
  | _,_=>none
 | _=>none
def y8k (P:Program) (o:Oper) (cx:CN) (st:St):Option St:=
 match o.op with
 | .buildSlice t len parts=>match w4l P t len (parts.toList.map fun p=>(p.1,st.eval p.2)) with
  | some (cells,e,sz)=>(Cy st cells e).put cx o.dst (.sl st.next 0 len (bif cx.sym then .un sz else .ex len))
  | none=>none
 | _=>none
def Mw (z:Nat) (P:Program) (S:CC) (R:CK) (ops:Array Oper) (cx:CN) (x:Bool×Oper) (st:St):Option St:=
 bif NG z x.2.op then (match GJ ops x.2 cx st with
  | none=>none
  | some (true,st)=>w1s P x.2 cx st
  | some (false,st)=>st.put cx x.2.dst (.tup [])) else bif isBirth z x.2.op then (match GJ ops x.2 cx st with
  | none=>none
  | some (true,st)=>y8k P x.2 cx st
  | some (false,st)=>st.put cx x.2.dst (.tup [])) else H3 P S R ops cx x st
def Ec (S:CC) (op:Op) (ev:Operand->CA):Option Nat:=match op with
 | .call {callee:=.value f,args,argTypes:=_}=>match ev f with
  | .fn g caps=>I0 S g (args.toList.map ev++caps)
  | .fnb g first=>I0 S g (first++args.toList.map ev)
  | _=>none
 | op=>EH op ev
def GF (S:CC) (x:Nat×Bool×Oper) (ev:Operand->CA):Dj:=(x.1,Eg x.2.2.op ev,Ec S x.2.2.op ev)
def Ed (op:Op) (ev:Operand->CA) (mem:CI):Option Nat:=match op with
 | .call {callee:=.builtin .append,args,argTypes:=_}=>match args.toList.map ev with
  | .sla b _ _ _ (.un _)::.sl _ _ _ _::_=>some b
  | .sl b off len (.un z)::.sl _ _ n _::_=>match Yi mem b with
   | some blk=>bif Nat.beq (off+len*z) blk.cells.length&&Nat.ble 1 n then some b else none
   | none=>none
  | _=>none
 | _=>none
def ZQ (z:Nat) (op:Op):Bool:=match Xe z op with
 | .pure | .read =>true
 | _=>false
def Gl (z:Nat) (ops:Array Oper) (i q:Nat):Bool:=(List.range ops.size).all fun j=>match ops[j]? with
 | some o=>ZQ z o.op||(Nat.beq j q||(((FR ops.toList []).getD q 0).testBit j||((FR ops.toList []).getD j 0).testBit i))
 | none=>true
def lateF (z:Nat) (ops:Array Oper) (x:Nat×Bool×Oper) (ev:Operand->CA) (mem:CI):Dj->Bool
 | (i,some b',none)=>match Ed x.2.2.op ev mem with
  | some b=>Nat.beq b b'&&Gl z ops i x.1
  | none=>false
 | _=>false
def RJ (z:Nat) (P:Program) (S:CC) (R:CK) (ops:Array Oper) (cx:CN) (l:List (Nat×Bool×Oper)):List Dj->St->Option St:=
 List.rec (motive:=fun _=>List Dj->St->Option St) (fun _ st=>some st)
  (fun x _ rec acc st=>bif acc.all (fun y=>ZB ops (GF S x st.eval) y||lateF z ops x st.eval st.mem y) then
    match Mw z P S R ops cx x.2 st with
    | some st'=>rec (GF S x st.eval::acc) st'
    | none=>none
   else none) l
def Yy :List (Nat×CA)->T CA
 | []=>.leaf
 | (t,v)::l=>T.set .undef (Yy l) t v
def j1n (P:Program) (f:FuncId):Code:=match P.funcs[f]? with
 | some fn=>fn.body.getD .ret
 | none=>.ret
def Zy (P:Program) (f:FuncId):List ResultVar:=match P.funcs[f]? with
 | some fn=>fn.results.toList
 | none=>[]
theorem v6e {b:Bool} {p:Prop} (hb:b=true->p) (h:OG b p=true):p:=by
 unfold OG at h;cases hb':b with
 | true=>exact hb hb'
 | false=>rw [hb',Bj] at h;exact @Ay p (Classical.propDecidable p) h
theorem QY {b:Bool} {p:Prop} (h:p):OG b p=true:=by unfold OG;rw [show pd p=true from @Af p (Classical.propDecidable p) h,Bool.or_true]
theorem j5q {n:Nat} {g:Nat->zy} {sz:Nat} (h:IV n g sz=true): ∀i,i<n->(g i).length =sz:=
 v6e (fun h i hi=>Ai (As.1 h i (AL.2 hi))) h
theorem QX {n:Nat} {g:Nat->zy} {sz:Nat} (h:EY sz n g=true): ∀i,i<n->(g i).length =sz/\(g i).all DH=true:=
 v6e (fun h i hi=>by
  have:=As.1 h i (AL.2 hi);rw [Ac] at this;exact ⟨Ai this.1,this.2⟩) h
theorem W9 (m:Nat):Nat.beq (m %2) 0=true↔m %2=0:=by simp_all
@[simp] theorem T.get_leaf {α:Type} (d:α) (n:Nat):T.get d .leaf n=d:=rfl
@[simp] theorem T.get_zero {α:Type} (d v:α) (l r:T α):T.get d (.node v l r) 0=v:=rfl
theorem T.get_succ {α:Type} (d v:α) (l r:T α) (m:Nat):T.get d (.node v l r) (m+1)=if m %2=0 then T.get d l (m / 2) else T.get d r (m / 2):=by simp_all [T.get]
theorem T.setF_leaf_zero {α:Type} (d v:α) (f:Nat):T.setF d v (f+1) .leaf 0=.node v .leaf .leaf :=rfl
theorem T.setF_node_zero {α:Type} (d v u:α) (l r:T α) (f:Nat):T.setF d v (f+1) (.node u l r) 0=.node v l r:=rfl
theorem T.setF_leaf_succ {α:Type} (d v:α) (f m:Nat):T.setF d v (f+1) .leaf (m+1)=
  if m %2=0 then .node d (T.setF d v f .leaf (m / 2)) .leaf else .node d .leaf (T.setF d v f .leaf (m / 2)):=by
 show (bif Nat.beq (m %2) 0 then (_:T α) else _)=_;by_cases h:m %2=0
 .rw [AF h,(W9 m).2 h];rfl
 .rw [Az h,show Nat.beq (m %2) 0=false from A7.2 (fun e=>h ((W9 m).1 e))];rfl
theorem T.setF_node_succ {α:Type} (d v u:α) (l r:T α) (f m:Nat):T.setF d v (f+1) (.node u l r) (m+1)=
  if m %2=0 then .node u (T.setF d v f l (m / 2)) r else .node u l (T.setF d v f r (m / 2)):=by
 show (bif Nat.beq (m %2) 0 then (_:T α) else _)=_;by_cases h:m %2=0
 .rw [AF h,(W9 m).2 h];rfl
 .rw [Az h,show Nat.beq (m %2) 0=false from A7.2 (fun e=>h ((W9 m).1 e))];rfl
theorem T.get_setF {α:Type} (d v:α): ∀(f:Nat) (t:T α) (n k:Nat),n<f->T.get d (T.setF d v f t n) k=if k=n then v else T.get d t k
 | 0,_,_,_,h=>absurd h (AD _)
 | f+1,.leaf,0,k,_=>by
  rw [T.setF_leaf_zero];cases k with
  | zero=>simp
  | succ k=>rw [T.get_succ];simp
 | f+1,.node u l r,0,k,_=>by
  rw [T.setF_node_zero];cases k with
  | zero=>simp
  | succ k=>rw [T.get_succ,T.get_succ];simp
 | f +1,.leaf,m+1,k,h=>by
  rw [T.setF_leaf_succ];have hm:m / 2<f:=by omega
  cases k with
  | zero=>split <;> simp
  | succ k=>
   have ih:=T.get_setF d v f .leaf (m / 2) (k / 2) hm;by_cases hp:m %2=0
   .rw [AF hp,T.get_succ];by_cases hk:k %2=0
    .rw [AF hk,ih];by_cases e:k / 2=m / 2
     .rw [AF e,AF (by omega)]
     .rw [Az e,Az (by omega)];simp
    .rw [Az hk,Az (by omega)];simp
   .rw [Az hp,T.get_succ];by_cases hk:k %2=0
    .rw [AF hk,Az (by omega)];simp
    .rw [Az hk,ih];by_cases e:k / 2=m / 2
     .rw [AF e,AF (by omega)]
     .rw [Az e,Az (by omega)];simp
 | f +1,.node u l r,m+1,k,h=>by
  rw [T.setF_node_succ];have hm:m / 2<f:=by omega
  cases k with
  | zero=>split <;> simp
  | succ k=>
   by_cases hp:m %2=0
   .rw [AF hp,T.get_succ,T.get_succ];by_cases hk:k %2=0
    .rw [AF hk,AF hk,T.get_setF d v f l (m / 2) (k / 2) hm];by_cases e:k / 2=m / 2
     .rw [AF e,AF (by omega)]
     .rw [Az e,Az (by omega)]
    .rw [Az hk,Az hk,Az (by omega)]
   .rw [Az hp,T.get_succ,T.get_succ];by_cases hk:k %2=0
    .rw [AF hk,AF hk,Az (by omega)]
    .rw [Az hk,Az hk,T.get_setF d v f r (m / 2) (k / 2) hm];by_cases e:k / 2=m / 2
     .rw [AF e,AF (by omega)]
     .rw [Az e,Az (by omega)]
theorem T.get_set {α:Type} (d:α) (t:T α) (n:Nat) (v:α) (k:Nat):T.get d (T.set d t n v) k=if k=n then v else T.get d t k:=
 T.get_setF d v (n+1) t n k (Bg n)
theorem Vc (m:CI) (b:Nat) (o:Option CG) (k:Nat):Yi (Wv m b o) k=if k=b then o else Yi m k:=T.get_set none m b o k
theorem Yw (m:CI) (b:Nat) (o:Option CG):Yi (Wv m b o) b=o:=by rw [Vc,AF rfl]
theorem Zw (m:CI) {b k:Nat} (o:Option CG) (h:k≠b):Yi (Wv m b o) k=Yi m k:=by rw [Vc,Az h]
inductive Vf {α β:Type} (R:α->β->Prop):List α->List β->Prop
 | nil:Vf R [] []
 | cons {a:α} {b:β} {l:List α} {m:List β} (h:R a b) (t:Vf R l m):Vf R (a::l) (b::m)
theorem Vf.length {α β:Type} {R:α->β->Prop} {l:List α} {m:List β} (h:Vf R l m):l.length=m.length:=by
 induction h with
 | nil=>rfl
 | cons _ _ ih=>simp [ih]
theorem Vf.get {α β:Type} {R:α->β->Prop} {l:List α} {m:List β} (h:Vf R l m): ∀(i:Nat) (h1:i<l.length) (h2:i<m.length),R l[i] m[i]:=by
 induction h with
 | nil=>grind
 | cons h _ ih=>
  grind
theorem Vf.append {α β:Type} {R:α->β->Prop} {l l':List α} {m m':List β} (h:Vf R l m) (k:Vf R l' m'):Vf R (l++l') (m++m'):=by
 induction h with
 | nil=>exact k
 | cons h _ ih=>exact .cons h ih
theorem Vf.of {α β:Type} {R:α->β->Prop}: ∀{l:List α} {m:List β},l.length=m.length->(∀(i:Nat) (h1:i<l.length) (h2:i<m.length),R l[i] m[i])->Vf R l m
 | [],[],_,_=>.nil
 | [],_::_,h,_=>by simp at h
 | _::_,[],h,_=>by simp at h
 | a::l,b::m,h,hr=>.cons (hr 0 (by simp) (by simp)) (Vf.of (by simpa using h) fun i h1 h2=>hr (i+1) (by grind) (by grind))
theorem Vf.maps {α γ δ:Type} {R:γ->δ->Prop} (f:α->γ) (g:α->δ): ∀(l:List α),(∀a,a∈l->R (f a) (g a))->Vf R (l.map f) (l.map g)
 | [],_=>.nil
 | a::l,h=>.cons (h a (by simp)) (Vf.maps f g l fun b hb=>h b (by simp [hb]))
structure CZ where
 blk:Nat
 base:Nat
 n:Nat
 tot:Nat
abbrev EK :=Nat->Option Obj
structure CF where
 f:Nat->Option CZ
 fz:EK
 lp:Nat->Option Nat
instance : CoeFun CF (fun _=>Nat->Option CZ):=⟨CF.f⟩
def CF.bare (ρ:CF):CF:=⟨fun _=>none,ρ.fz,fun _=>none⟩
def rhoOf (H:EK):CF:=⟨fun _=>none,H,fun _=>none⟩
def D5 (l:CZ) (off:Nat):FQ->Nat->Prop
 | .ex k,c=>c=k
 | .un sz,c=>l.n<=off+c*sz/\off+c*sz<=l.tot
def HX (H:EK) (blk o:Nat) (v:Value):Prop:= ∃cs el fz,H blk=some (.cells cs el fz)/\cs[o]? =some v
inductive VRel :CF->CA->Value->Prop
 | undef {ρ:CF} (v:Value):VRel ρ .undef v
 | bool {ρ:CF} (b:Bool):VRel ρ (.bool b) (.bool b)
 | int {ρ:CF} (k:IntKind) (n:Int):VRel ρ (.int k n) (.int k n)
 | str {ρ:CF} (s:zw):VRel ρ (.str s) (.string ⟨s.toArray⟩)
 | agg {ρ:CF} (cs:zy) (vs:Array Value) (hl:cs.length=vs.size) (h: ∀(i:Nat) (h1:i<cs.length) (h2:i<vs.size),VRel ρ cs[i] vs[i]):VRel ρ (.agg cs) (.agg vs)
 | tup {ρ:CF} (cs:zy) (vs:Array Value) (hl:cs.length=vs.size) (h: ∀(i:Nat) (h1:i<cs.length) (h2:i<vs.size),VRel ρ cs[i] vs[i]):VRel ρ (.tup cs) (.tuple vs)
 | ptr {ρ:CF} (b off:Nat) (l:CZ) (h:ρ b=some l):VRel ρ (.ptr b off) (.pointer (some ⟨l.blk,l.base+off,none⟩))
 | nilp {ρ:CF}:VRel ρ .nilp (.pointer none)
 | sl {ρ:CF} (b off len:Nat) (cap:FQ) (l:CZ) (c:Nat) (h:ρ b=some l) (hc:D5 l off cap c) (eK:len<=c):VRel ρ (.sl b off len cap) (.slice (some ⟨l.blk,l.base+off,none⟩) len c)
 | nils {ρ:CF}:VRel ρ .nils (.slice none 0 0)
 | sla {ρ:CF} (b sz off len:Nat) (cap:FQ) (l:CZ) (c:Nat) (h:ρ b=some l) (hc:D5 l (off*sz) cap c) (eK:len<=c):VRel ρ (.sla b sz off len cap) (.slice (some ⟨l.blk,l.base+off*sz,none⟩) len c)
 | slan {ρ:CF} (b sz off:Nat) (cap:FQ):VRel ρ (.sla b sz off 0 cap) (.slice none 0 0)
 | slv {ρ:CF} (b sz off len:Nat) (l:CZ) (c:Nat) (h:ρ b=some l) (eK:len<=c):VRel ρ (.slv b sz off len) (.slice (some ⟨l.blk,l.base+off*sz,none⟩) len c)
 | slve {ρ:CF} (b sz off:Nat) (blk base c:Nat):VRel ρ (.slv b sz off 0) (.slice (some ⟨blk,base,none⟩) 0 c)
 | slvn {ρ:CF} (b sz off:Nat):VRel ρ (.slv b sz off 0) (.slice none 0 0)
 | epa {ρ:CF} (b sz i fo:Nat) (l:CZ) (h:ρ b=some l):VRel ρ (.epa b sz i fo) (.pointer (some ⟨l.blk,l.base+(i*sz+fo),none⟩))
 | fn {ρ:CF} (f:FuncId) (cs:zy) (vs:Array Value) (hl:cs.length=vs.size) (h: ∀(i:Nat) (h1:i<cs.length) (h2:i<vs.size),VRel ρ cs[i] vs[i]):VRel ρ (.fn f cs) (.func (.func f) #[] vs)
 | nilf {ρ:CF}:VRel ρ .nilf .nilFunc
 | fnb {ρ:CF} (f:FuncId) (cs:zy) (vs:Array Value) (hl:cs.length=vs.size) (h: ∀(i:Nat) (h1:i<cs.length) (h2:i<vs.size),VRel ρ cs[i] vs[i]):VRel ρ (.fnb f cs) (.func (.func f) vs #[])
 | yld {ρ:CF} (j l:Nat) (h:ρ.lp j=some l):VRel ρ (.yld j) (.func (.yield l) #[] #[])
 | ifc {ρ:CF} (t:TypeId) (a:CA) (v:Value) (h:VRel ρ a v):VRel ρ (.ifc t a) (.iface t v)
 | nili {ρ:CF}:VRel ρ .nili .nilIface
 | dat {ρ:CF} (len:Nat) (get:Nat->zy) (blk base sz cap:Nat) (val:Nat->Nat->Value) (eT:len<=cap) (hsz: ∀i,i<len->(get i).length =sz)
   (hv: ∀(i j:Nat) (_:i<len) (hj:j<(get i).length),VRel ρ.bare (get i)[j] (val i j)) (hh: ∀i j,i<len->j<sz->HX ρ.fz blk (base+(i*sz+j)) (val i j)):VRel ρ (.dat len get) (.slice (some ⟨blk,base,none⟩) len cap)
 | datn {ρ:CF} (get:Nat->zy):VRel ρ (.dat 0 get) (.slice none 0 0)
 | datz {ρ:CF} (get:Nat->zy) (a:Addr) (c:Nat):VRel ρ (.dat 0 get) (.slice (some a) 0 c)
 | nnl {ρ:CF} (len:Nat) (get:Nat->zy) (a:Addr) (c:Nat) (h:VRel ρ (.dat len get) (.slice (some a) len c)):VRel ρ (.nnl len get) (.slice (some a) len c)
 | mapr {ρ:CF} (b:Nat) (l:CZ) (h:ρ b=some l):VRel ρ (.mapr b) (.map (some l.blk))
 | ifbt {ρ:CF}:VRel ρ (.ifb true) .nilIface
 | ifbf {ρ:CF} (t:TypeId) (v:Value):VRel ρ (.ifb false) (.iface t v)
 | dptr {ρ:CF} (cs:zy) (blk base:Nat) (val:Nat->Value) (hv: ∀(j:Nat) (hj:j<cs.length),VRel ρ.bare cs[j] (val j)) (hh: ∀j,j<cs.length->HX ρ.fz blk (base+j) (val j)):VRel ρ (.dptr cs) (.pointer (some ⟨blk,base,none⟩))
def Uy (ρ:CF) (cs:zy) (vs:Array Value):Prop:=cs.length=vs.size/\ ∀(i:Nat) (h1:i<cs.length) (h2:i<vs.size),VRel ρ cs[i] vs[i]
def CF.le (ρ ρ':CF):Prop:=(∀b l,ρ b=some l->ρ' b=some l)/\(∀k o,ρ.fz k=some o->ρ'.fz k=some o)/\ ∀j l,ρ.lp j=some l->ρ'.lp j=some l
theorem CF.le_refl (ρ:CF):ρ.le ρ:=⟨fun _ _ h=>h,fun _ _ h=>h,fun _ _ h=>h⟩
theorem CF.le_trans {a b c:CF} (h:a.le b) (k:b.le c):a.le c:=⟨fun x l e=>k.1 x l (h.1 x l e),fun x l e=>k.2.1 x l (h.2.1 x l e),fun x l e=>k.2.2 x l (h.2.2 x l e)⟩
theorem CF.le.bare {ρ ρ':CF} (h:ρ.le ρ'):ρ.bare.le ρ'.bare:=⟨fun _ _ e=>(by cases e),h.2.1,fun _ _ e=>(by cases e)⟩
theorem Sd (ρ:CF):ρ.bare.le ρ:=⟨fun _ _ e=>(by cases e),fun _ _ e=>e,fun _ _ e=>(by cases e)⟩
theorem HX.mono {ρ ρ':CF} (h:ρ.le ρ') {blk o:Nat} {v:Value} (hc:HX ρ.fz blk o v):HX ρ'.fz blk o v:=by obtain ⟨cs,el,fz,h1,h2⟩:=hc;exact ⟨cs,el,fz,h.2.1 _ _ h1,h2⟩
theorem VRel.mono {ρ ρ':CF} (h:ρ.le ρ') {a:CA} {v:Value} (hv:VRel ρ a v):VRel ρ' a v:=by
 induction hv generalizing ρ' with
 | undef v=>exact .undef v
 | bool b=>exact .bool b
 | int k n=>exact .int k n
 | str s=>exact .str s
 | agg cs vs hl _ ih=>exact .agg cs vs hl fun i h1 h2=>ih i h1 h2 h
 | tup cs vs hl _ ih=>exact .tup cs vs hl fun i h1 h2=>ih i h1 h2 h
 | ptr b off l e=>exact .ptr b off l (h.1 _ _ e)
 | nilp=>exact .nilp
 | sl b off len cap l c e hc eK=>exact .sl b off len cap l c (h.1 _ _ e) hc eK
 | nils=>exact .nils
 | sla b sz off len cap l c e hc eK=>exact .sla b sz off len cap l c (h.1 _ _ e) hc eK
 | slan b sz off cap=>exact .slan b sz off cap
 | slv b sz off len l c e eK=>exact .slv b sz off len l c (h.1 _ _ e) eK
 | slve b sz off blk base c=>exact .slve b sz off blk base c
 | slvn b sz off=>exact .slvn b sz off
 | epa b sz i fo l e=>exact .epa b sz i fo l (h.1 _ _ e)
 | fn f cs vs hl _ ih=>exact .fn f cs vs hl fun i h1 h2=>ih i h1 h2 h
 | nilf=>exact .nilf
 | fnb f cs vs hl _ ih=>exact .fnb f cs vs hl fun i h1 h2=>ih i h1 h2 h
 | yld j l e=>exact .yld j l (h.2.2 _ _ e)
 | ifc t a v _ ih=>exact .ifc t a v (ih h)
 | nili=>exact .nili
 | dat len get blk base sz cap val eT hsz hv hh ih=>exact .dat len get blk base sz cap val eT hsz (fun i j hi hj=>ih i j hi hj h.bare) fun i j hi hj=>(hh i j hi hj).mono h
 | datn get=>exact .datn get
 | datz get a c=>exact .datz get a c
 | nnl len get a c _ ih=>exact .nnl len get a c (ih h)
 | mapr b l e=>exact .mapr b l (h.1 _ _ e)
 | ifbt=>exact .ifbt
 | ifbf t v=>exact .ifbf t v
 | dptr cs blk base val hv hh ih=>exact .dptr cs blk base val (fun j hj=>ih j hj h.bare) fun j hj=>(hh j hj).mono h
theorem VRel.unN {ρ:CF} {a:CA} {v:Value} (h:VRel ρ a v):VRel ρ (unN a) v:=by
 cases h <;> first | assumption | (constructor <;> assumption)
theorem VRel.oneCell {ρ:CF} {a:CA} {v:Value} (h:VRel ρ a v) (hs:DH a=true):v.oneCell'=true:=by
 cases h <;> first | rfl | (simp [DH] at hs)
theorem VRel.cells {ρ:CF} {a:CA} {v:Value} (h:VRel ρ a v) (hu:HD a=true):Uy ρ a.cells v.cells:=by
 cases h
 case agg cs vs hl hh=>exact ⟨hl,hh⟩
 all_goals first
  | (simp [HD] at hu;done)
  | (refine ⟨rfl,fun i h1 h2=> ?_⟩
     have h0:i=0:=by simp [CA.cells] at h1;exact h1
     subst h0;simp only [CA.cells,Value.cells,List.getElem_cons_zero,List.getElem_toArray];constructor <;> assumption)
theorem VRel.cells_oneCell {ρ:CF} {cs:zy} {vs:Array Value} (h:Uy ρ cs vs) (hs:cs.all DH=true): ∀v∈vs.toList,v.oneCell'=true:=by
 intro v hv;obtain ⟨i,hi,rfl⟩:=AQ hv;have h2:i<vs.size:=by grind
 have h1:i<cs.length:=by rw [h.1];exact h2
 simpa using (h.2 i h1 h2).oneCell (As.1 hs _ (AU h1))
def HU (ρ:CF) (ty:TypeId) (blk:Nat) (r:zy):H7->Option Obj->Prop
 | .mi l,o=>r=[]/\ ∃es ck,o=some (.map es ck)/\es.toList.map (fun e=>(e.key,e.val))=l.map fun p=>(.string ⟨p.1.toArray⟩,.int .i64 p.2)
 | .mb l,o=>r=[]/\ ∃es ck,o=some (.map es ck)/\es.toList.map (fun e=>(e.key,e.val))=l.map fun p=>(.string ⟨p.1.toArray⟩,.bool p.2)
 | .it s pos,o=>r=[]/\o=some (.stringIter ⟨s.toArray⟩ pos)
 | .bld,o=> ∃buf v p,r=[buf]/\o=some (.cells #[.pointer p,v] ty (0,0))/\VRel ρ buf v/\(p=none\/p=some ⟨blk,0,none⟩)
theorem HU.mono {ρ ρ':CF} (h:ρ.le ρ') {ty:TypeId} {blk:Nat} {r:zy} {o:H7} {x:Option Obj} (k:HU ρ ty blk r o x):HU ρ' ty blk r o x:=by
 cases o with
 | bld=>obtain ⟨buf,v,p,h1,h2,h3,h4⟩:=k;exact ⟨buf,v,p,h1,h2,h3.mono h,h4⟩
 | _=>exact k
structure HC (ρ:CF) (w:World) (ab:CG) (l:CZ):Prop where
 typ: ∀cs el z,w.heap[l.blk]? =some (.cells cs el z)->el=ab.ty
 n:l.n=ab.cells.length
 tot:l.n<=l.tot
 arr: ∀A,ab.arr=some A->ab.cells=rows A.n A.get/\1<=A.sz/\ ∀i,i<A.n->(A.get i).length =A.sz
 cells: ∃cs el,w.heap[l.blk]? =some (.cells cs el (0,0))/\l.base+l.tot<=cs.size/\
  ∀(i:Nat) (h:i<ab.cells.length),∃v,cs[l.base+i]? =some v/\VRel ρ ab.cells[i] v
inductive Wn (ρ:CF) (w:World) (ab:CG) (l:CZ):Prop where
 | plain (h:HC ρ w ab l)
 | obj (o:H7) (r:zy) (ty:TypeId) (h:ab=⟨.obj o::r,ty,none⟩) (hn:l=⟨l.blk,0,r.length+1,r.length+1⟩) (hh:HU ρ ty l.blk r o w.heap[l.blk]?)
theorem Wn.at {ρ:CF} {w:World} {ab:CG} {l:CZ} (h:Wn ρ w ab l) (hn:ab.isObj=false):HC ρ w ab l:=by
 cases h with
 | plain h=>exact h
 | obj o r ty h _ _=>subst h;cases hn
theorem Wn.rows {ρ:CF} {w:World} {ab:CG} {l:CZ} {A:Da} (h:Wn ρ w ab l) (hn:ab.arr=some A):HC ρ w ab l:=by
 cases h with
 | plain h=>exact h
 | obj o r ty h _ _=>subst h;cases hn
theorem Wn.arr {ρ:CF} {w:World} {ab:CG} {l:CZ} (h:Wn ρ w ab l) (A:Da) (hA:ab.arr=some A):ab.cells=Go.Am.rows A.n A.get/\1<=A.sz/\ ∀i,i<A.n->(A.get i).length =A.sz:=(h.rows hA).arr A hA
theorem Wn.n {ρ:CF} {w:World} {ab:CG} {l:CZ} (h:Wn ρ w ab l):l.n=ab.cells.length:=by
 cases h with
 | plain h=>exact h.n
 | obj o r ty h hn _=>subst h;rw [hn];rfl
theorem Wn.tot {ρ:CF} {w:World} {ab:CG} {l:CZ} (h:Wn ρ w ab l):l.n<=l.tot:=by
 cases h with
 | plain h=>exact h.tot
 | obj o r ty h hn _=>rw [hn];exact Aq _
theorem Wn.some {ρ:CF} {w:World} {ab:CG} {l:CZ} (h:Wn ρ w ab l): ∃o,w.heap[l.blk]? =some o:=by
 cases h with
 | plain h=>obtain ⟨_,_,_,_,cs,el,h1,_⟩:=h;exact ⟨_,h1⟩
 | obj o r ty h hn hh=>
  cases o with
  | mi l=>obtain ⟨_,es,ck,e,_⟩:=hh;exact ⟨_,e⟩
  | mb l=>obtain ⟨_,es,ck,e,_⟩:=hh;exact ⟨_,e⟩
  | it s pos=>exact ⟨_,hh.2⟩
  | bld=>obtain ⟨_,_,_,_,e,_⟩:=hh;exact ⟨_,e⟩
theorem u3u {cs:zy} (h:cs.all DH=true) (ty:TypeId) (a:Option Da):(⟨cs,ty,a⟩:CG).isObj =false:=by
 unfold CG.isObj;split
 .rename_i e;simp only [CG.mk.injEq] at e;obtain ⟨rfl,_⟩:=e;simp [DH] at h
 .rfl
theorem u3v {ρ:CF} {cs:zy} (h: ∀i (h:i<cs.length),∃v,VRel ρ cs[i] v) (ty:TypeId) (a:Option Da):(⟨cs,ty,a⟩:CG).isObj =false:=by
 unfold CG.isObj;split
 .rename_i e;simp only [CG.mk.injEq] at e;obtain ⟨rfl,_⟩:=e;obtain ⟨v,hv⟩:=h 0 (by simp);cases hv
 .rfl
theorem SR {ρ:CF} {cs:zy} (h: ∀v∈cs,(∃u,VRel ρ v u)\/DH v=true) (ty:TypeId) (a:Option Da):(⟨cs,ty,a⟩:CG).isObj =false:=by
 unfold CG.isObj;split
 .rename_i e;simp only [CG.mk.injEq] at e;obtain ⟨rfl,_⟩:=e;rcases h _ (Bc ..) with ⟨v,hv⟩ | hv <;> cases hv
 .rfl
theorem HC.mem {ρ:CF} {w:World} {ab:CG} {l:CZ} (h:HC ρ w ab l): ∀v∈ab.cells,∃u,VRel ρ v u:=fun v hv=>by obtain ⟨i,hi,rfl⟩:=AQ hv;obtain ⟨_,_,_,_,cs,el,_,_,h3⟩:=h;obtain ⟨u,_,hu⟩:=h3 i hi;exact ⟨u,hu⟩
theorem Uy.mem {ρ:CF} {cs:zy} {vs:Array Value} (h:Uy ρ cs vs): ∀v∈cs,∃u,VRel ρ v u:=fun v hv=>by obtain ⟨i,hi,rfl⟩:=AQ hv;exact ⟨_,h.2 i hi (by rw [<-h.1];exact hi)⟩
theorem w5j {n:Nat} {g:Nat->zy} {v:CA} (h:v∈rows n g): ∃k,k<n/\v∈g k:=by unfold rows at h;obtain ⟨k,hk,hv⟩:=AM.1 h;exact ⟨k,AL.1 hk,hv⟩
theorem HC.noObj {ρ:CF} {w:World} {ab:CG} {l:CZ} (h:HC ρ w ab l):ab.isObj=false:=by
 obtain ⟨_,_,_,_,cs,el,_,_,h3⟩:=h;unfold CG.isObj;split
 .obtain ⟨v,_,hv⟩:=h3 0 (by simp);cases hv
 .rfl
def pow10A :Array Value:=((List.range 20).map fun i=>Value.int .u64 ((10 ^ i:Nat):Int)).toArray
structure Glob (H:EK):Prop where
 err: ∀b,b∈globs-> ∃v,HX H b 0 v/\(v=.nilIface \/ ∃t u,v=.iface t u)
 pow: ∀b,b∈gpow-> ∃el fz,H b=some (.cells pow10A el fz)
theorem Glob.mono {H H':EK} (h: ∀k o,H k=some o->H' k=some o) (k:Glob H):Glob H':=
 ⟨fun b hb=>by
  obtain ⟨v,⟨cs,el,fz,h1,h2⟩,h3⟩:=k.err b hb;exact ⟨v,⟨cs,el,fz,h _ _ h1,h2⟩,h3⟩,fun b hb=>by
  obtain ⟨el,fz,e⟩:=k.pow b hb;exact ⟨el,fz,h _ _ e⟩⟩
structure CH (ρ:CF) (mem:CI) (next:Nat) (w:World):Prop where
 dom: ∀b l,ρ b=some l->b<next
 inj: ∀b b' l l',ρ b=some l->ρ b'=some l'->l.blk=l'.blk->(Yi mem b).isSome =true->(Yi mem b').isSome =true->b=b'
 blk: ∀b l ab,ρ b=some l->Yi mem b=some ab->Wn ρ w ab l
 old: ∀k o,ρ.fz k=some o->w.heap[k]? =some o
 sep: ∀b l,ρ b=some l->(Yi mem b).isSome =true->ρ.fz l.blk=none
 real: ∀b l,ρ b=some l->l.blk<w.heap.size
 bd: ∀b,next<=b->Yi mem b=none
 ldom:(∀j l,ρ.lp j=some l->j<next)/\Glob ρ.fz
structure Ev (ρ ρ':CF) (floor:Nat) (m:CI) (next:Nat) (m':CI) (next':Nat) (w w':World):Prop where
 ext:ρ.le ρ'
 new: ∀b,b<next->ρ' b=ρ b
 nxt:next<=next'
 unborn: ∀b,b<next->ρ b=none-> ∀cs ty,Yi m b=some ⟨cs,ty,none⟩->Yi m' b=some ⟨cs,ty,none⟩
 frame: ∀k o,w.heap[k]? =some o->(∀b l,ρ b=some l->floor<=b->l.blk≠k)->w'.heap[k]? =some o
 fresh: ∀b l,next<=b->ρ' b=some l->w.heap.size<=l.blk\/ ∃b0 l0,ρ b0=some l0/\floor<=b0/\l0.blk=l.blk
 size:w.heap.size<=w'.heap.size
 os:w'.os=w.os
 tape:w'.tape=w.tape
 output:w'.output=w.output
 still: ∀k,k<w.heap.size->ρ'.fz k=ρ.fz k
theorem Ev.refl (ρ:CF) (floor:Nat) (m:CI) (next:Nat) (w:World) (hd: ∀b l,ρ b=some l->b<next):Ev ρ ρ floor m next m next w w:=
 ⟨CF.le_refl _,fun _ _=>rfl,Aq _,fun _ _ _ _ _ h=>h,fun _ _ h _=>h,fun b l hb h=>absurd (hd b l h) (by omega),Aq _,rfl,rfl,rfl,fun _ _=>rfl⟩
theorem Ev.drawn {ρ ρ':CF} {floor:Nat} {m m':CI} {next next':Nat} {w w':World} (h:Ev ρ ρ' floor m next m' next' {w with drawn:=w.drawn+1} w'):Ev ρ ρ' floor m next m' next' w w':=
 ⟨h.ext,h.new,h.nxt,h.unborn,h.frame,h.fresh,h.size,h.os,h.tape,h.output,h.still⟩
theorem Ev.trans {ρ ρ1 ρ2:CF} {floor:Nat} {m m1 m2:CI} {n n1 n2:Nat} {w w1 w2:World} (h:Ev ρ ρ1 floor m n m1 n1 w w1) (k:Ev ρ1 ρ2 floor m1 n1 m2 n2 w1 w2):Ev ρ ρ2 floor m n m2 n2 w w2 where
 ext:=CF.le_trans h.ext k.ext
 new b hb:=by rw [k.new b (AZ hb h.nxt),h.new b hb]
 nxt:=AI h.nxt k.nxt
 unborn b hb e cs ty hm:=k.unborn b (AZ hb h.nxt) (by rw [h.new b hb];exact e) cs ty (h.unborn b hb e cs ty hm)
 frame i o hi hf:=by
  refine k.frame i o (h.frame i o hi hf) fun b l hl hfl hlb=> ?_;by_cases hb:b<n
  .rw [h.new b hb] at hl;grind
  .have hlt:i<w.heap.size:=(AC.1 hi).1;rcases h.fresh b l (by omega) hl with h1 | ⟨b0,l0,e0,f0,g0⟩;all_goals grind
 fresh b l hb hl:=by
  by_cases hb1:b<n1
  .rw [k.new b hb1] at hl;exact h.fresh b l hb hl
  .rcases k.fresh b l (by omega) hl with h1 | ⟨b0,l0,e0,f0,g0⟩
   .exact .inl (AI h.size h1)
   .by_cases hb0:b0<n
    .rw [h.new b0 hb0] at e0;grind
    .rcases h.fresh b0 l0 (by omega) e0 with h1 | ⟨b3,l3,e3,f3,g3⟩;all_goals grind
 size:=AI h.size k.size
 os:=k.os.trans h.os
 tape:=k.tape.trans h.tape
 output:=k.output.trans h.output
 still i hi:=(k.still i (AZ hi h.size)).trans (h.still i hi)
theorem Ev.lower {ρ ρ':CF} {floor floor':Nat} {m m':CI} {n n':Nat} {w w':World} (h:Ev ρ ρ' floor' m n m' n' w w') (hf:floor<=floor'):Ev ρ ρ' floor m n m' n' w w':=
 ⟨h.ext,h.new,h.nxt,h.unborn,fun k o e g=>h.frame k o e fun b l hl hfl=>g b l hl (AI hf hfl),
  fun b l hb hl=>(h.fresh b l hb hl).imp id fun ⟨b0,l0,e,f,g⟩=>⟨b0,l0,e,AI hf f,g⟩,h.size,h.os,h.tape,h.output,h.still⟩
theorem CH.drawn {ρ:CF} {mem:CI} {next:Nat} {w:World} (h:CH ρ mem next w) (n:Nat):CH ρ mem next {w with drawn:=n}:=
 ⟨h.dom,h.inj,fun b l ab e f=>match h.blk b l ab e f with
  | .plain ⟨q,a,t,r,c⟩=>.plain ⟨q,a,t,r,c⟩
  | .obj o r ty q n z=>.obj o r ty q n z,h.old,h.sep,h.real,h.bd,h.ldom⟩
def Vn (ρ:CF) (b:Nat) (l:CZ):CF:=⟨fun k=>if k=b then some l else ρ k,ρ.fz,ρ.lp⟩
theorem Uv (ρ:CF) (b:Nat) (l:CZ) (k:Nat):Vn ρ b l k=if k=b then some l else ρ k:=rfl
theorem Qs {ρ:CF} {b:Nat} {l:CZ} (h:ρ b=none):ρ.le (Vn ρ b l):=⟨fun k l' e=>by
 grind [Uv],fun _ _ e=>e,fun _ _ e=>e⟩
theorem CH.none_next {ρ:CF} {mem:CI} {next:Nat} {w:World} (h:CH ρ mem next w):ρ next=none:=by
 cases e:ρ next with
 | none=>rfl
 | some l=>exact absurd (h.dom _ _ e) (B1 _)
theorem Wn.world {ρ ρ':CF} {w w':World} {ab:CG} {l:CZ} (h:Wn ρ w ab l) (hr:ρ.le ρ') (hw:w'.heap[l.blk]? =w.heap[l.blk]?):Wn ρ' w' ab l:=by
 cases h with
 | plain h=>obtain ⟨ty,n,t,ar,cs,el,h1,h2,h3⟩:=h;exact .plain ⟨by rw [hw];exact ty,n,t,ar,cs,el,by grind,h2,fun i hi=>let ⟨v,e,f⟩:=h3 i hi;⟨v,e,f.mono hr⟩⟩
 | obj o r ty h n z=>exact .obj o r ty h n (by rw [hw];exact z.mono hr)
theorem CH.new {ρ:CF} {mem:CI} {next:Nat} {w:World} (h:CH ρ mem next w) (cs:zy) (ty:TypeId) (vs:Array Value) (el:TypeId) (hH: ∀k,w.heap.size<=k->ρ.fz k=none)
  (hn:cs.length<=vs.size) (hv: ∀(i:Nat) (h1:i<cs.length) (h2:i<vs.size),VRel ρ cs[i] vs[i]) (hel:el=ty:=by rfl):
  CH (Vn ρ next ⟨w.heap.size,0,cs.length,vs.size⟩) (Wv mem next (some ⟨cs,ty,none⟩)) (next+1) {w with heap:=w.heap.push (.cells vs el)}:=by
 have hle:=Qs (l:=⟨w.heap.size,0,cs.length,vs.size⟩) h.none_next;have eU: ∀b l,Vn ρ next ⟨w.heap.size,0,cs.length,vs.size⟩ b=some l->(b=next/\l=⟨w.heap.size,0,cs.length,vs.size⟩)\/(b≠next/\ρ b=some l):=fun b l e=>by
  grind [Uv]
 refine ⟨fun b l e=> ?_,fun b b' l l' e e' hbl hs hs'=> ?_,fun b l ab e hm=> ?_,fun k o e=> ?_,fun b l e=> ?_,fun b l e=> ?_,fun b hb=>by rw [Zw _ _ (by omega)];exact h.bd b (by omega),⟨fun j l e=>Bs (h.ldom.1 j l e),h.ldom.2⟩⟩
 .rcases eU b l e with ⟨rfl,_⟩ | ⟨_,e⟩
  .omega
  .have:=h.dom b l e;omega
 .rcases eU b l e with ⟨hb,hl⟩ | ⟨hb,e2⟩ <;> rcases eU b' l' e' with ⟨hb',hl'⟩ | ⟨hb',e2'⟩
  .rw [hb,hb']
  .have:=h.real b' l' e2';grind
  .have:=h.real b l e2;grind
  .rw [Zw _ _ hb] at hs;rw [Zw _ _ hb'] at hs';exact h.inj b b' l l' e2 e2' hbl hs hs'
 .rcases eU b l e with ⟨rfl,rfl⟩ | ⟨hb,e⟩
  .rw [Yw] at hm;obtain rfl:=Ag hm;refine .plain ⟨by simp [hel],rfl,hn,(fun A e=>by cases e),vs,el,by simp,by simp,fun i hi=>⟨vs[i]'(by grind),by grind,(hv i hi (by grind)).mono hle⟩⟩
  .rw [Zw _ _ hb] at hm;refine (h.blk b l ab e hm).world hle ?_;have:=h.real b l e
   grind
 .have hk:=h.old k o e
  grind
 .intro hs;rcases eU b l e with ⟨rfl,rfl⟩ | ⟨hne,e⟩
  .exact hH _ (Aq _)
  .rw [Zw _ _ hne] at hs;exact h.sep b l e hs
 .rcases eU b l e with ⟨rfl,rfl⟩ | ⟨_,e⟩
  .simp
  .have:=h.real b l e;simp;omega
theorem Ev.ofNew {ρ:CF} {mem:CI} {next:Nat} {w:World} (h:CH ρ mem next w) (floor:Nat) (l:CZ) (o:Option CG) (ob:Obj) (hl:w.heap.size<=l.blk):
  Ev ρ (Vn ρ next l) floor mem next (Wv mem next o) (next+1) w {w with heap:=w.heap.push ob} where
 ext:=Qs h.none_next
 new b hb:=by simp [Vn,Bp hb]
 nxt:=B4 _
 unborn b hb _ cs ty hm:=by grind [Zw]
 frame k o hk _:=by
  grind
 fresh b l' hb e:=by
  rw [Uv] at e;by_cases hbn:b=next
  .grind
  .rw [Az hbn] at e;have:=h.dom b l' e;omega
 size:=by simp
 os:=rfl
 tape:=rfl
 output:=rfl
 still _ _:=rfl
theorem Kb {α:Type} (l c:List α) (off i:Nat) (h:off+c.length<=l.length):
  (l.take off++c++l.drop (off+c.length))[i]? =if i<off then l[i]? else if i<off+c.length then c[i - off]? else l[i]? :=by grind
theorem z3a {α:Type} (l c:List α) (off:Nat) (h:off+c.length<=l.length):(l.take off++c++l.drop (off+c.length)).length =l.length:=by grind
theorem HC.splice {ρ:CF} {w:World} {ab:CG} {l:CZ} (h:HC ρ w ab l) {off:Nat} {cs:zy} {vs:List Value} (eK:vs.length=cs.length) (eW:off+cs.length<=ab.cells.length)
  (hv: ∀(i:Nat) (h1:i<cs.length) (h2:i<vs.length),VRel ρ cs[i] vs[i]) (ty:TypeId) (a:Option Da):(⟨ab.cells.take off++cs++ab.cells.drop (off+cs.length),ty,a⟩:CG).isObj =false:=by
 obtain ⟨_,_,_,_,cur,el,_,_,h3⟩:=h;refine u3v (ρ:=ρ) (fun i hi=> ?_) ty a;have hg:=Kb ab.cells cs off i eW;have hi':=hi;rw [z3a _ _ _ eW] at hi';rw [At hi] at hg;by_cases h1:i<off
 .rw [AF h1,At hi'] at hg;obtain ⟨v,_,hv⟩:=h3 i hi';exact ⟨v,by rw [Ag hg];exact hv⟩
 .rw [Az h1] at hg;by_cases h2:i<off+cs.length
  .rw [AF h2,At (by omega)] at hg;exact ⟨_,by rw [Ag hg];exact hv (i - off) (by omega) (by omega)⟩
  .rw [Az h2,At hi'] at hg;obtain ⟨v,_,hv⟩:=h3 i hi';exact ⟨v,by rw [Ag hg];exact hv⟩
theorem CH.write {ρ:CF} {mem:CI} {next:Nat} {w:World} (h:CH ρ mem next w) {b:Nat} {l:CZ} {ab:CG} (hb:ρ b=some l) (hm:Yi mem b=some ab) {off:Nat} {cs:zy} {vs:List Value}
  (hno:ab.isObj=false) (eK:vs.length=cs.length) (eW:off+cs.length<=ab.cells.length) (hv: ∀(i:Nat) (h1:i<cs.length) (h2:i<vs.length),VRel ρ cs[i] vs[i]):
  ∃cur el,w.heap[l.blk]? =some (.cells cur el (0,0))/\l.base+off+vs.length<=cur.size/\
   CH ρ (Wv mem b (some ⟨ab.cells.take off++cs++ab.cells.drop (off+cs.length),ab.ty,none⟩)) next (w.setRow l.blk (cur.toList.take (l.base+off)++vs++cur.toList.drop (l.base+off+vs.length)).toArray):=by
 obtain ⟨hty,hn,ht,har,cur,el,h1,h2,h3⟩:=(h.blk b l ab hb hm).at hno;have hfc:l.base+off+vs.length<=cur.toList.length:=by simp;omega
 refine ⟨cur,el,h1,by grind,h.dom,fun c c' m m' e e' he hs hs'=> ?_,fun c m ac e hc=> ?_,fun k o e=> ?_,fun c m e hs=>h.sep c m e (by
  grind [Zw]),fun c m e=> ?_,fun c hc=>by have:=h.dom b l hb;rw [Zw _ _ (by omega)];exact h.bd c hc,h.ldom⟩
 .refine h.inj c c' m m' e e' he ?_ ?_;all_goals grind [Zw]
 .by_cases hcb:c=b
  .subst hcb;rw [Yw] at hc;obtain rfl:=Ag hc;rw [hb] at e;obtain rfl:=Ag e;refine .plain ⟨by rw [setRow_heap w l.blk cur _ el (0,0) h1];grind,by grind,ht,(fun A e=>by cases e),_,el,setRow_heap w l.blk cur _ el (0,0) h1,?_,fun i hi=> ?_⟩
   .grind
   .rw [z3a _ _ _ eW] at hi;have hg:=Kb ab.cells cs off i eW;rw [At (by grind)] at hg;simp only [List.getElem?_toArray];rw [Kb _ _ _ _ hfc]
    grind
  .rw [Zw _ _ hcb] at hc;refine (h.blk c m ac e hc).world (CF.le_refl _) (setRow_other w l.blk m.blk _ fun heq=>hcb ?_);exact h.inj c b m l e hb heq (by rw [hc];rfl) (by rw [hm];rfl)
 .have hk:=h.old k o e;rw [setRow_other]
  .exact hk
  .intro heq;have:=h.sep b l hb (by rw [hm];rfl)
   grind
 .rw [setRow_size];exact h.real c m e
theorem Ev.ofWrite {ρ:CF} {mem:CI} {next:Nat} {w:World} (h:CH ρ mem next w) {floor b:Nat} {l:CZ} (hb:ρ b=some l) (hf:floor<=b) (o:Option CG) (cs:Array Value):
  Ev ρ ρ floor mem next (Wv mem b o) next w (w.setRow l.blk cs) where
 ext:=CF.le_refl _
 new _ _:=rfl
 nxt:=Aq _
 unborn k _ e cs ty hm:=by grind [Zw]
 frame k o hk hfr:=by
  grind [setRow_other]
 fresh k m hk e:=by have:=h.dom k m e;omega
 size:=by simp_all
 os:=rfl
 tape:=rfl
 output:=rfl
 still _ _:=rfl
structure Vx (ρ:CF) (env:T CA) (n:Nat) (tmps:Array Value):Prop where
 size:tmps.size=n
 get: ∀i,VRel ρ (T.get .undef env i) (tmps.getD i undef)
 out: ∀i,n<=i->T.get .undef env i=.undef
theorem Vx.mono {ρ ρ':CF} {env:T CA} {n:Nat} {tmps:Array Value} (h:Vx ρ env n tmps) (hr:ρ.le ρ'):Vx ρ' env n tmps:=
 ⟨h.size,fun i=>(h.get i).mono hr,h.out⟩
section
variable {P:Program} {ρ:CF}
theorem S1 {t:TypeId} {r:Bool} (h:ZE P t=some r) (w:World):(isAgg t).run P w=.ok r w:=by
 unfold ZE at h;cases hu:P.underlying t with
 | none=>grind
 | some d=>cases d <;> simp [hu] at h <;> subst h <;> simp [isAgg,run_underlying hu]
theorem Yz {t:TypeId} {i:TypeInfo} (h:P.info? t=some i) (w:World):(sizeOf t).run P w=.ok i.size w:=by simp [sizeOf,run_typeInfo w h]
theorem Mb {cs p:zy} {off n:Nat} (h:cut cs off n=some p):p=(cs.drop off).take n/\p.length=n/\(n=0\/off+n<=cs.length):=by
 unfold cut at h;dsimp only at h;cases hb:Nat.beq ((cs.drop off).take n).length n with
 | false=>grind
 | true=>
  simp only [hb,Ab,Ae] at h;have hl:=Ai hb
  grind
theorem j9f {cs p:zy} {off n:Nat} (h:cut cs off n=some p) (i:Nat) (hi:i<p.length): ∃h2:off+i<cs.length,p[i]=cs[off+i]:=by
 obtain ⟨rfl,hl,_⟩:=Mb h
 grind
theorem Kd {t:TypeId} {cs:zy} {vs:Array Value} {off:Nat} {v:CA} (h:FI P t cs off=some v) (hr:Uy ρ cs vs):
  ∃u,VRel ρ v u/\ ∀w,(part t vs off).run P w=.ok u w:=by
 unfold FI at h;split at h
 .rename_i i ha hi;simp only [Ar] at h;obtain ⟨p,hp,rfl⟩:=h;obtain ⟨_,hl,hle⟩:=Mb hp;refine ⟨.agg (vs.extract off (off+i.size)),.agg _ _ ?_ ?_,fun w=> ?_⟩
  .have:=hr.1;simp;omega
  .intro j h1 h2;obtain ⟨h3,e⟩:=j9f hp j h1;rw [e];have h4:off+j<vs.size:=by grind
   simpa using hr.2 (off+j) h3 h4
  simp_all [part,S1,Yz]
 .rename_i i ha hi;obtain ⟨hlt,rfl⟩:=Bf.1 h;have h4:off<vs.size:=by rw [<-hr.1];exact hlt
  exact ⟨vs[off],hr.2 off hlt h4,fun w=>by simp_all [part,S1]⟩
 .cases h
theorem y0l {rec:TypeId->CA->CA->Option Bool} {dd:Nat} {e:TypeId} {c:Nat}
  (IH: ∀x y r u u',rec e x y=some r->VRel ρ x u->VRel ρ y u'-> ∀w,(Op.equalIn dd e u u').run P w=.ok r w)
  {xs ys:zy} {us us':Array Value} (hx:Uy ρ xs us) (hy:Uy ρ ys us'): ∀(is:zt) (r:Bool),
  HE rec P xs ys (is.map fun j=>(e,j*c))=some r-> ∀w,(Op.eqItems dd e c us us' is).run P w=.ok r w
 | [],r,h,w=>by simp_all [HE,Op.eqItems]
 | i::is,r,h,w=>by
  simp only [AT,HE] at h;split at h
  .rename_i a b ha hb;split at h
   .rename_i e1 f1 he hf;obtain rfl:=Ag h;obtain ⟨u,hu,pu⟩:=Kd ha hx;obtain ⟨u',hu',pu'⟩:=Kd hb hy;have q:=IH _ _ _ _ _ he hu hu' w;have r:=y0l IH hx hy is f1 hf w;cases e1 <;> simp [Op.eqItems,pu,pu',q,r]
   .cases h
  .cases h
theorem z7g {rec:TypeId->CA->CA->Option Bool} {dd:Nat}
  (IH: ∀e x y r u u',rec e x y=some r->VRel ρ x u->VRel ρ y u'-> ∀w,(Op.equalIn dd e u u').run P w=.ok r w)
  {xs ys:zy} {us us':Array Value} (hx:Uy ρ xs us) (hy:Uy ρ ys us'): ∀(fs:List Field) (r:Bool),fs.any (fun f=>f.name == "_")=false->
  HE rec P xs ys (fs.map fun f=>(f.type,f.offset))=some r-> ∀w,(Op.eqFields dd us us' fs).run P w=.ok r w
 | [],r,_,h,w=>by simp_all [HE,Op.eqFields]
 | f::fs,r,hn,h,w=>by
  simp only [List.any_cons,AP] at hn;simp only [AT,HE] at h;split at h
  .rename_i a b ha hb;split at h
   .rename_i e1 f1 he hf;obtain rfl:=Ag h;obtain ⟨u,hu,pu⟩:=Kd ha hx;obtain ⟨u',hu',pu'⟩:=Kd hb hy;have q:=IH _ _ _ _ _ _ he hu hu' w;have r:=z7g IH hx hy fs f1 hn.2 hf w;have hne:f.name≠ "_" :=(by simpa using hn.1);cases e1 <;> simp [Op.eqFields,hne,pu,pu',q,r]
   .cases h
  .cases h
theorem YG (k:Nat): ∀(d:Nat) (t:TypeId) (x y:CA) (r:Bool) (u u':Value),QF P d t x y=some r->VRel ρ x u->VRel ρ y u'-> ∀w,(Op.equalIn (k+d) t u u').run P w=.ok r w
 | 0,_,_,_,_,_,_,h,_,_,_=>by simp [QF] at h
 | d + 1,t,x,y,r,u,u',h,hx,hy,w=>by
  unfold QF at h;cases hu:P.underlying t with
  | none=>grind
  | some ty=>
   rw [<-AK];cases ty <;> simp only [hu] at h <;> try (cases h;done)
   case bool=>
    split at h
    .cases hx;cases hy;grind [run_equalIn_bool']
    .cases h
   case int q=>
    split at h
    .split at h
     .rename_i hk;subst hk;cases hx;cases hy;grind [run_equalIn_int]
     .cases h
    .cases h
   case string=>
    split at h
    .cases hx;cases hy;grind [run_equalIn_string,ByteArray.toList_eq]
    .cases h
   case array n e=>
    split at h
    .rename_i xs ys i hi;cases hx with
     | agg _ us hl hh=>
      cases hy with
      | agg _ us' hl' hh'=>rw [run_equalIn_array w _ us us' hu hi];have hc:P.cellsOf e=i.size:=(by simp [Program.cellsOf,hi]);rw [hc];exact y0l (fun x y r u u' e1 e2 e3=>YG k d e x y r u u' e1 e2 e3) ⟨hl,hh⟩ ⟨hl',hh'⟩ _ _ h w
    .cases h
   case struct fs=>
    split at h
    .rename_i xs ys;cases hs:P.stoodInHeld t with
     | true=>grind
     | false=>
      cases hn:fs.toList.any (fun f=>f.name == "_") with
      | true=>grind
      | false=>
       rw [hs,hn] at h;simp only [Aa] at h;cases hx with
       | agg _ us hl hh=>
        cases hy with
        | agg _ us' hl' hh'=>have hfs:P.fieldsOf t=fs:=(by simp [Program.fieldsOf,hu]);rw [run_equalIn_struct w _ t us us' (by grind) hs,hfs];exact z7g (fun e x y r u u' e1 e2 e3=>YG k d e x y r u u' e1 e2 e3) ⟨hl,hh⟩ ⟨hl',hh'⟩ _ _ hn h w
    .cases h
theorem y9e {op:BinOp} {k:IntKind} {a b n:Int} (h:Ri op k a b=some n):Op.intBits op k a b=pure (.int k n):=by
 cases op <;> simp only [Ri] at h <;> first | (cases h;done) | (obtain rfl:=Ag h;rfl)
theorem w3k (op:BinOp) (t:TypeId) (x y:Operand) (k k':IntKind) (a b:Int) (w:World):(eqGuard op t x y (.int k a) (.int k' b)).run P w=.ok () w:=by cases op <;> simp [eqGuard]
theorem v2k {op:BinOp} {t:TypeId} {x y:CA} {v:CA} {b:Bool} {u u':Value} (h:QG P op t x y=some (v,b)) (hb:b=true) (hx:VRel ρ x u) (hy:VRel ρ y u') (ox oy:Operand):
  ∃z,VRel ρ v z/\ ∀w,(do eqGuard op t ox oy u u';binOp op t u u':Sem Value).run P w=.ok z w:=by
 subst hb;unfold QG at h;split at h
 .rename_i k a k' b;cases hx;cases hy;have g:=fun w=>w3k (P:=P) op t ox oy k k' a b w;split at h
  .simp only [Ae,Ad,Bh,Be] at h;obtain ⟨rfl,h0⟩:=h;exact ⟨_,.int _ _,fun w=>by simp [g,binOp,Op.shift,h0]⟩
  .simp only [Ae,Ad,Bh,Be] at h;obtain ⟨rfl,h0⟩:=h;exact ⟨_,.int _ _,fun w=>by simp [g,binOp,Op.shift,h0]⟩
  .rename_i hshl hshr;split at h
   .rename_i hk;subst hk;have fin: ∀n,Ri op k a b=some n-> ∃z,VRel ρ (.int k n) z/\ ∀w,(do eqGuard op t ox oy (.int k a) (.int k b);binOp op t (.int k a) (.int k b):Sem Value).run P w=.ok z w:=by
     intro n hn;have e:=y9e hn;refine ⟨_,.int _ _,fun w=> ?_⟩;cases op <;> simp only [Ri] at hn <;> first | (cases hn;done) | (simp [g,binOp,e];done)
    cases op <;> dsimp only at h
    case shl=>grind
    case shr=>grind
    case quo=>simp only [Ae,Ad,Bh,Be] at h;obtain ⟨rfl,h0⟩:=h;exact ⟨_,.int _ _,fun w=>by simp [g,binOp,Op.intDiv,h0]⟩
    case rem=>simp only [Ae,Ad,Bh,Be] at h;obtain ⟨rfl,h0⟩:=h;exact ⟨_,.int _ _,fun w=>by simp [g,binOp,Op.intDiv,h0]⟩
    all_goals first
     | (simp only [Ar,Ad] at h
        grind)
     | (simp only [Ae,Ad] at h
        obtain ⟨rfl,_⟩:=h;refine ⟨_,.int _ _,fun w=> ?_⟩;simp_all [binOp,Op.intArith])
     | (simp only [Ae,Ad] at h
        obtain ⟨rfl,_⟩:=h;refine ⟨_,.bool _,fun w=> ?_⟩;simp_all [binOp,Op.intCmp])
   .cases h
 .rename_i a b;cases hx;cases hy;split at h
  .rename_i hu;split at h
   .simp only [Ae,Ad] at h;obtain ⟨rfl,_⟩:=h;exact ⟨_,.bool _,fun w=>by simp_all [eqGuard,binOp,Op.equal,Op.maxDepth,run_equalIn_bool']⟩
   .simp only [Ae,Ad] at h;obtain ⟨rfl,_⟩:=h;exact ⟨_,.bool _,fun w=>by simp_all [eqGuard,binOp,Op.equal,Op.maxDepth,run_equalIn_bool']⟩
   .cases h
  .cases h
 .rename_i a b;cases hx with
  | agg _ us hl hh=>
   cases hy with
   | agg _ us' hl' hh'=>
    cases hg:P.eqGuardType P.depth t with
    | true=>grind
    | false=>
     simp only [hg,Aa] at h;split at h
     .simp only [Ar,Ad] at h;obtain ⟨r,hr,rfl,_⟩:=h;have q:=fun w=>YG 9970 30 t _ _ r _ _ hr (VRel.agg a us hl hh) (VRel.agg b us' hl' hh') w;exact ⟨_,.bool _,fun w=>by simp_all [run_eqGuard_agg,run_eql_struct]⟩
     .simp only [Ar,Ad] at h;obtain ⟨r,hr,rfl,_⟩:=h;have q:=fun w=>YG 9970 30 t _ _ r _ _ hr (VRel.agg a us hl hh) (VRel.agg b us' hl' hh') w;exact ⟨_,.bool _,fun w=>by simp_all [run_eqGuard_agg,run_neq_struct]⟩
     .cases h
 .cases hx with
  | sl _ _ _ _ l c hl hc eK=>
   cases hy;split at h
   .rename_i e hu;have q:=fun (w:World) (a:Addr) (n c:Nat)=>Lib.run_equalIn_slice_nil (P:=P) w 9999 t e (some a) n c 0 0 hu;split at h
    .simp only [Ae,Ad] at h;obtain ⟨rfl,_⟩:=h;exact ⟨_,.bool _,fun w=>by simp [eqGuard,binOp,Op.equal,Op.maxDepth,q]⟩
    .simp only [Ae,Ad] at h;obtain ⟨rfl,_⟩:=h;exact ⟨_,.bool _,fun w=>by simp [eqGuard,binOp,Op.equal,Op.maxDepth,q]⟩
    .cases h
   .cases h
 .cases hx with
  | nnl _ _ a c _=>
   cases hy;split at h
   .rename_i e hu;have q:=fun (w:World) (a:Addr) (n c:Nat)=>Lib.run_equalIn_slice_nil (P:=P) w 9999 t e (some a) n c 0 0 hu;split at h
    .simp only [Ae,Ad] at h;obtain ⟨rfl,_⟩:=h;exact ⟨_,.bool _,fun w=>by simp [eqGuard,binOp,Op.equal,Op.maxDepth,q]⟩
    .simp only [Ae,Ad] at h;obtain ⟨rfl,_⟩:=h;exact ⟨_,.bool _,fun w=>by simp [eqGuard,binOp,Op.equal,Op.maxDepth,q]⟩
    .cases h
   .cases h
 .cases hx;cases hy;split at h
  .rename_i e hu;have q:=fun w=>Lib.run_equalIn_slice_nil (P:=P) w 9999 t e none 0 0 0 0 hu;split at h
   .simp only [Ae,Ad] at h;obtain ⟨rfl,_⟩:=h;exact ⟨_,.bool _,fun w=>by simp [eqGuard,binOp,Op.equal,Op.maxDepth,q]⟩
   .simp only [Ae,Ad] at h;obtain ⟨rfl,_⟩:=h;exact ⟨_,.bool _,fun w=>by simp [eqGuard,binOp,Op.equal,Op.maxDepth,q]⟩
   .cases h
  .cases h
 .cases hx;cases hy;split at h
  case h_3=>
   rename_i a b _;simp only [Ae,Ad] at h;obtain ⟨rfl,eK⟩:=h;have eK:=Ak eK;refine ⟨_,.str _,fun w=> ?_⟩;have e:(⟨(a++b).toArray⟩:ByteArray)=⟨a.toArray⟩++⟨b.toArray⟩:=by apply ByteArray.ext;rw [ByteArray.data_append];simp
   have hn: ¬(((⟨a.toArray⟩:ByteArray).size +(⟨b.toArray⟩:ByteArray).size :Nat):Int)>IntKind.i64.max:=by have:IntKind.i64.max=9223372036854775807:=(by decide);rw [this];simp only [<-ByteArray.size_data,List.size_toArray];omega
   rw [e];simp only [eqGuard,binOp,Op.stringOp,Az hn];simp
  all_goals first
   | (cases h;done)
   | (simp only [Ae,Ad] at h
      obtain ⟨rfl,_⟩:=h;exact ⟨_,.bool _,fun w=>by simp_all [eqGuard,binOp,Op.stringOp]⟩)
 .cases h
theorem v9p {op:UnOp} {x v:CA} {u:Value} (h:aUn op x=some v) (hx:VRel ρ x u): ∃z,VRel ρ v z/\ ∀w,(Op.unary op u).run P w=.ok z w:=by
 unfold aUn at h;split at h
 .cases hx;obtain rfl:=Ag h;exact ⟨_,.int _ _,fun w=>by simp [Op.unary,Op.intArith]⟩
 .cases hx;simp only [Ar] at h;obtain ⟨n,hn,rfl⟩:=h;exact ⟨_,.int _ _,fun w=>by simp [Op.unary,y9e hn]⟩
 .cases hx;obtain rfl:=Ag h;exact ⟨_,.bool _,fun w=>by simp [Op.unary]⟩
 .cases h
end
section
variable {P:Program} {ρ:CF}
theorem W3 (v:Value):VRel ρ (Mc v) v:=by
 cases v with
 | bool b=>exact .bool b
 | int k n=>exact .int k n
 | string s=>exact .str s.data.toList
 | pointer a=>cases a with
  | none=>exact .nilp
  | some a=>exact .undef _
 | slice a n c=>
  cases a with
  | some a=>exact .undef _
  | none=>
   cases n with
   | succ n=>exact .undef _
   | zero=>cases c with
    | zero=>exact .nils
    | succ c=>exact .undef _
 | nilFunc=>exact .nilf
 | nilIface=>exact .nili
 | _=>exact .undef _
theorem x0y (v:Value) (h: ∀cs,v≠ .agg cs):OK v=Mc v:=by
 cases v <;> first | rfl | grind
theorem v6g (v:Value):VRel ρ (OK v) v:=by
 by_cases h: ∃cs,v=.agg cs
 .obtain ⟨cs,rfl⟩:=h;refine .agg _ _ (by simp) fun i h1 h2=> ?_
  grind [W3]
 grind [x0y,W3]
theorem y9v (v:Value):(Mc v).cells =[Mc v]:=by unfold Mc;split <;> rfl
theorem v6h (v:Value):Uy ρ (OK v).cells v.cells:=by
 by_cases h: ∃cs,v=.agg cs
 .obtain ⟨cs,rfl⟩:=h;refine ⟨by simp [OK,CA.cells,Value.cells],fun i h1 h2=> ?_⟩
  grind [W3,Value.cells,OK,CA.cells]
 .rw [x0y v fun cs e=>h ⟨cs,e⟩,y9v];have hc:v.cells= #[v]:=by cases v <;> first | rfl | grind
  rw [hc];refine ⟨rfl,fun i h1 h2=> ?_⟩
  grind [W3]
theorem We {t:TypeId} {z:zy} (h:E4 P t=some z): ∃i v,P.info? t=some i/\i.zero=some v/\Uy ρ z v.cells/\ ∀w,(zeroValue t).run P w=.ok v w:=by
 unfold E4 at h;cases hi:P.info? t with
 | none=>grind
 | some i=>simp only [hi,Ar] at h;obtain ⟨v,hz,rfl⟩:=h;simp_all [v6h,zeroValue,run_typeInfo]
theorem w6y (off:Nat): ∀(l:List Value) (k:Nat) (cells:Array Value),off+k+l.length<=cells.size->
  (l.zipIdx k).foldl (fun cs p=>cs.setIfInBounds (off+p.2) p.1) cells=(cells.toList.take (off+k)++l++cells.toList.drop (off+k+l.length)).toArray
 | [],k,cells,_=>by simp
 | v::l,k,cells,h=>by
  simp only [List.zipIdx_cons,List.foldl_cons];rw [w6y off l (k+1) _ (by simp at h ⊢;omega)];have e:=list_seg_step cells.toList (off+k) v l (by simp at h ⊢;omega)
  simpa [Array.toList_setIfInBounds,AK] using e
theorem Uy.splice {cells:zy} {arr:Array Value} {c:zy} {vs:Array Value} {off:Nat} (h:Uy ρ cells arr) (hc:Uy ρ c vs) (eW:off+c.length<=cells.length):
  Uy ρ (cells.take off++c++cells.drop (off+c.length)) (arr.toList.take off++vs.toList++arr.toList.drop (off+vs.toList.length)).toArray :=by
 have e1:=h.1;have e2:=hc.1;have f1:off+vs.toList.length<=arr.toList.length:=by simp;omega
 refine ⟨by grind,fun i h1 h2=> ?_⟩;rw [z3a _ _ _ eW] at h1;have g1:=Kb cells c off i eW;have g2:=Kb arr.toList vs.toList off i f1;rw [At (by grind)] at g1;rw [At (by grind)] at g2;rw [List.getElem_toArray];by_cases k1:i<off
 .rw [AF k1,At h1] at g1;rw [AF k1,At (by simp;omega)] at g2;rw [Ag g1,Ag g2]
  simpa using h.2 i h1 (by omega)
 .by_cases k2:i<off+c.length
  .rw [Az k1,AF k2,At (by omega)] at g1;rw [Az k1,AF (by simp;omega),At (by simp;omega)] at g2;rw [Ag g1,Ag g2]
   simpa using hc.2 (i - off) (by omega) (by omega)
  .rw [Az k1,Az k2,At h1] at g1;rw [Az k1,Az (by simp;omega),At (by simp;omega)] at g2;rw [Ag g1,Ag g2]
   simpa using h.2 i h1 (by omega)
def Iz (ρ:CF) (ps:List (Nat×CA)) (qs:List (Nat×Value)):Prop:=
 Vf (fun p q=>p.1=q.1/\VRel ρ p.2 q.2) ps qs
theorem Qd {place:Nat->Option (Nat×Nat)}: ∀{ps:List (Nat×CA)} {qs:List (Nat×Value)} {cells out:zy} {arr:Array Value},HZ place cells ps=some out->
  Uy ρ cells arr->Iz ρ ps qs-> ∃arr',Instr.fill place arr qs=some arr'/\Uy ρ out arr'
 | [],_,cells,out,arr,h,hr,hp=>by cases hp;simp only [HZ,Ae] at h;subst h;exact ⟨arr,rfl,hr⟩
 | (i,v)::ps,_,cells,out,arr,h,hr,hp=>by
  cases hp with
  | @cons _ q _ qs hq hqs=>
   obtain ⟨j,u⟩:=q;obtain ⟨hij,hv⟩:=hq;simp only at hij hv;subst hij;unfold HZ at h;cases hpl:place i with
   | none=>simp [hpl] at h
   | some pl=>
    obtain ⟨off,size⟩:=pl;simp only [hpl] at h;cases hc:(HD v&&Nat.beq v.cells.length size&&Nat.ble (off+size) cells.length) with
    | false=>rw [hc] at h;cases h
    | true=>
     rw [hc,Ab] at h;simp only [Ac] at hc;obtain ⟨⟨hb,hs⟩,hf⟩:=hc;have hs:=Ai hs;have hf:=Ak hf;have eQ:=hv.cells hb;have hsz:u.cells.size=size:=by rw [<-eQ.1];exact hs
     have eW:off+v.cells.length<=cells.length:=(by omega);rw [<-hs] at h;obtain ⟨arr',h1,h2⟩:=Qd h (hr.splice eQ eW) hqs;refine ⟨arr',?_,h2⟩;unfold Instr.fill;simp only [hpl];have hle:off+u.cells.size<=arr.size:=by rw [<-hr.1,hsz];omega
     have hz: ¬(u.cells.size≠size||decide (off+u.cells.size>arr.size))=true:=by simp [hsz];rw [hsz] at hle;exact hle
     rw [Az hz];rw [<-h1]
     congr 1
     rw [<-Array.foldl_toList,Array.toList_zipIdx];have:=w6y off u.cells.toList 0 arr (by simpa using hle)
     simpa using this
theorem z5p : ∀{fs:List Field} {pl:List (Nat×Nat)},Qg P fs=some pl-> ∀w,(fs.mapM fun f=>Prod.mk f.offset<$>sizeOf f.type:Sem (List (Nat×Nat))).run P w=.ok pl w
 | [],pl,h,w=>by simp [Qg] at h;subst h;simp
 | f::fs,pl,h,w=>by
  unfold Qg at h;cases hi:P.info? f.type with
  | none=>simp [hi] at h
  | some i=>
   cases hr:Qg P fs with
   | none=>simp [hi,hr] at h
   | some l=>simp only [hi,hr,Ae] at h;subst h;have:=z5p hr w;simp [List.mapM_cons,Yz hi,this]
theorem x7x {t:TypeId} {ps:List (Nat×CA)} {qs:List (Nat×Value)} {v:CA} (h:v9v P t ps=some v) (hp:Iz ρ ps qs):
  ∃u,VRel ρ v u/\ ∀w,(Instr.build t qs.toArray).run P w=.ok u w:=by
 unfold v9v at h;split at h
 .rename_i fs zero hu hz;obtain ⟨i,z,_,_,hzr,hzv⟩:=We (ρ:=ρ) hz;split at h
  .rename_i pl hpl;simp only [Ar] at h;obtain ⟨cells,hc,rfl⟩:=h;obtain ⟨arr,h1,h2⟩:=Qd hc hzr hp;refine ⟨.agg arr,.agg _ _ h2.1 h2.2,fun w=> ?_⟩;have hpr:=z5p hpl w;simp [Instr.build,hzv,run_underlying hu,Array.mapM_eq_mapM_toList,hpr,h1]
  .cases h
 .rename_i n e zero hu hz;obtain ⟨i,z,_,_,hzr,hzv⟩:=We (ρ:=ρ) hz;split at h
  .rename_i i hi;simp only [Ar] at h;obtain ⟨cells,hc,rfl⟩:=h;obtain ⟨arr,h1,h2⟩:=Qd hc hzr hp;exact ⟨.agg arr,.agg _ _ h2.1 h2.2,fun w=>by simp_all [Instr.build,run_underlying,Yz]⟩
  .cases h
 .cases h
theorem Xf (b o n:Nat):(⟨b,o,none⟩:Addr).add n=⟨b,o+n,none⟩:=by
 grind [Addr.add]
theorem VRel.dptr_drop {cs:zy} {blk base:Nat} {val:Nat->Value} (hv: ∀(j:Nat) (hj:j<cs.length),VRel ρ.bare cs[j] (val j)) (hh: ∀j,j<cs.length->HX ρ.fz blk (base+j) (val j)) (k:Nat):
  VRel ρ (.dptr (cs.drop k)) (.pointer (some ⟨blk,base+k,none⟩)):=
 .dptr _ _ _ (fun j=>val (k+j)) (fun j hj=>by grind) (fun j hj=>by grind)
theorem y4e {t:TypeId} {x i v:CA} {u ui:Value} {b:Bool} (h:y2v P t x i=some (v,b)) (hb:b=true) (hx:VRel ρ x u) (hi:VRel ρ i ui):
  ∃z,VRel ρ v z/\ ∀w,(Instr.indexAt t u ui).run P w=.ok z w:=by
 subst hb;unfold y2v at h;split at h
 .rename_i len e b off k n hu;cases hi;simp only [Ar,Ad,Ao] at h;obtain ⟨s,hs,rfl,hn⟩:=h;cases hx with
  | ptr _ _ l hl=>refine ⟨_,.ptr _ _ l hl,fun w=> ?_⟩;simp [Instr.indexAt,asIntOf,run_underlying hu,Instr.sureAddr,hn,Yz hs,Xf,AK]
 .rename_i len e cs k n hu;cases hi;simp only [Ar,Ad,Ao] at h;obtain ⟨s,hs,rfl,hn⟩:=h;cases hx with
  | dptr _ blk base val hv hh=>refine ⟨_,VRel.dptr_drop hv hh _,fun w=> ?_⟩;simp [Instr.indexAt,asIntOf,run_underlying hu,Instr.sureAddr,hn,Yz hs,Xf]
 .rename_i e b off len cap k n hu;cases hi;simp only [Ar,Ad,Ao] at h;obtain ⟨s,hs,rfl,hn⟩:=h;cases hx with
  | sl _ _ _ _ l c hl hc eK=>refine ⟨_,.ptr _ _ l hl,fun w=> ?_⟩;simp [Instr.indexAt,asIntOf,run_underlying hu,hn,Yz hs,Xf,AK]
 .rename_i e len get k n hu;cases hi;simp only [Ar,Ad,Ac,Ao] at h;obtain ⟨s,hs,rfl,hn,hl⟩:=h;have hl:=Ai hl;cases hx with
  | dat _ _ blk base sz cap val eT hsz hv hh=>
   have hlt:n.toNat<len:=by omega
   have hse:sz=s.size:=by grind
   refine ⟨_,.dptr _ blk (base+n.toNat*s.size) (val n.toNat) (fun j hj=>hv _ j hlt hj) (fun j hj=> ?_),fun w=> ?_⟩
   .grind
   .simp [Instr.indexAt,asIntOf,run_underlying hu,hn,Yz hs,Xf]
  | datn=>omega
  | datz=>omega
 .rename_i e b sz off len cap k n hu;cases hi;simp only [Ar,Ad,Ac,Ao] at h;obtain ⟨s,hs,rfl,hn,hl⟩:=h;have hl:=Ai hl;cases hx with
  | sla _ _ _ _ _ l c hl' hc eK=>refine ⟨_,.epa _ _ _ _ l hl',fun w=> ?_⟩;simp [Instr.indexAt,asIntOf,run_underlying hu,hn,Yz hs,Xf,hl,AS,AK]
  | slan=>omega
 .rename_i e b sz off len k n hu;cases hi;simp only [Ar,Ad,Ac,Ao] at h;obtain ⟨s,hs,rfl,hn,hl⟩:=h;have hl:=Ai hl;cases hx with
  | slv _ _ _ _ l c hl' eK=>refine ⟨_,.epa _ _ _ _ l hl',fun w=> ?_⟩;simp [Instr.indexAt,asIntOf,run_underlying hu,hn,Yz hs,Xf,hl,AS,AK]
  | slve=>omega
  | slvn=>omega
 .rename_i len e b sz r fo k n hu;cases hi;simp only [Ar,Ad,Ao] at h;obtain ⟨s,hs,rfl,hn⟩:=h;cases hx with
  | epa _ _ _ _ l hl=>refine ⟨_,.epa _ _ _ _ l hl,fun w=> ?_⟩;simp [Instr.indexAt,asIntOf,run_underlying hu,Instr.sureAddr,hn,Yz hs,Xf,AK]
 .cases h
theorem y4f {t:TypeId} {x v:CA} {f:Nat} {u:Value} (h:y2w P t x f=some v) (hx:VRel ρ x u):
  ∃z,VRel ρ v z/\ ∀w,(Instr.fieldAt t u f).run P w=.ok z w:=by
 unfold y2w at h;split at h
 .rename_i fs hu;split at h
  .rename_i fd hf;split at h
   .rename_i i hi;cases hz:Nat.beq i.size 0 with
    | true=>grind
    | false=>
     rw [hz,Aa] at h;have hne:i.size≠0:=fun e=>by simp_all
     split at h
     .obtain rfl:=Ag h;cases hx with
      | ptr _ _ l hl=>exact ⟨_,.ptr _ _ l hl,fun w=>by simp_all [Instr.fieldAt,run_underlying,Instr.sureAddr,fieldPlace,Yz,Xf]⟩
     .obtain rfl:=Ag h;cases hx with
      | dptr _ blk base val hv hh=>exact ⟨_,VRel.dptr_drop hv hh _,fun w=>by simp_all [Instr.fieldAt,run_underlying,Instr.sureAddr,fieldPlace,Yz,Xf]⟩
     .obtain rfl:=Ag h;cases hx with
      | epa _ _ _ _ l hl=>exact ⟨_,.epa _ _ _ _ l hl,fun w=>by simp_all [Instr.fieldAt,run_underlying,Instr.sureAddr,fieldPlace,Yz,Xf]⟩
     .cases h
   .cases h
  .cases h
 .cases h
theorem x7s {t:TypeId} {x v:CA} {f:Nat} {u:Value} (h:v9t P t x f=some v) (hx:VRel ρ x u):
  ∃z,VRel ρ v z/\ ∀w,(Instr.field t u f).run P w=.ok z w:=by
 unfold v9t at h;split at h
 .rename_i fs cs hu;split at h
  .rename_i fd hf;cases hx with
   | agg _ vs hl hh=>obtain ⟨z,hz,hr⟩:=Kd h ⟨hl,hh⟩;simp_all [Instr.field,run_underlying,asAgg]
  .cases h
 .cases h
theorem x7r {t:TypeId} {x i v:CA} {u ui:Value} {b:Bool} (h:v9s P t x i=some (v,b)) (hb:b=true) (hx:VRel ρ x u) (hi:VRel ρ i ui):
  ∃z,VRel ρ v z/\ ∀w,(Instr.index t u ui).run P w=.ok z w:=by
 subst hb;unfold v9s at h;split at h
 .rename_i len e cs k n hu;cases hi;split at h
  .rename_i s hs;simp only [Ar,Ad,Ao] at h;obtain ⟨v,hp,rfl,hn⟩:=h;cases hx with
   | agg _ vs hl hh=>obtain ⟨z,hz,hr⟩:=Kd hp ⟨hl,hh⟩;simp_all [Instr.index,asIntOf,run_underlying,Yz]
  .cases h
 .rename_i s k n hu;cases hi;cases hx;simp only [Ae,Ad,Ao] at h;obtain ⟨rfl,hn⟩:=h;refine ⟨_,.int _ _,fun w=> ?_⟩;have hlt:n.toNat<s.length:=by omega
  have hn0:=hn.1;have e:(⟨s.toArray⟩:ByteArray)[n.toNat]? =some s[n.toNat]:=by rw [getElem?_pos _ _ (by simpa [ByteArray.size] using hlt)];simp [ByteArray.getElem_eq_getElem_data]
  have e2:Cr s n.toNat=(s[n.toNat].toNat :Int):=by unfold Cr;rw [Bk,At hlt];rfl
  simp_all [Instr.index,asIntOf,run_underlying]
 .cases h
theorem y7c {k:IntKind}: ∀{r:zy} {x n:Int} {us:List Value},Sl k x r=some n->Vf (VRel ρ) r us-> ∀w,(us.foldlM Builtin.min2 (.int k x)).run P w=.ok (.int k n) w
 | [],x,n,_,h,hr,w=>by cases hr;simp [Sl] at h;subst h;simp
 | a::r,x,n,_,h,hr,w=>by
  cases hr with
  | cons ha hrs=>
   cases a <;> simp only [Sl,Kz] at h <;> try (cases h;done)
   cases ha;have:=y7c h hrs w;simp [List.foldlM_cons,Builtin.min2,this]
theorem y7e {k:IntKind}: ∀{r:zy} {x n:Int} {us:List Value},Sk k x r=some n->Vf (VRel ρ) r us-> ∀w,(us.foldlM Builtin.max2 (.int k x)).run P w=.ok (.int k n) w
 | [],x,n,_,h,hr,w=>by cases hr;simp [Sk] at h;subst h;simp
 | a::r,x,n,_,h,hr,w=>by
  cases hr with
  | cons ha hrs=>
   cases a <;> simp only [Sk,Ky] at h <;> try (cases h;done)
   cases ha;have:=y7e h hrs w;simp [List.foldlM_cons,Builtin.max2,this]
theorem x0a {bi:Builtin} {ts:Array TypeId} {type:TypeId} {xs:zy} {us:Array Value} {v:CA} (h:W7 P bi ts.toList xs=some v) (hx:Vf (VRel ρ) xs us.toList):
  ∃z,VRel ρ v z/\ ∀(cst:Array Bool) (w:World),(builtin bi ts type cst us).run P w=.ok (.value z) w:=by
 obtain ⟨ts⟩:=ts;obtain ⟨us⟩:=us;simp only at h hx;unfold W7 at h;split at h
 .rename_i t _ x _;cases hx with
  | cons ha _=>
   split at h
   .rename_i hu;cases ha;obtain rfl:=Ag h;exact ⟨_,.int _ _,fun cst w=>by simp [builtin,Builtin.len_,run_underlying hu,goInt,<-ByteArray.size_data]⟩
   .rename_i hu;obtain rfl:=Ag h;exact ⟨_,.int _ _,fun cst w=>by simp [builtin,Builtin.len_,run_underlying hu,goInt]⟩
   all_goals first
    | (rename_i hu
       obtain rfl:=Ag h;cases ha <;> exact ⟨_,.int _ _,fun cst w=>by simp [builtin,Builtin.len_,run_underlying hu,goInt]⟩)
    | grind
 .rename_i k x r;cases hx with
  | cons ha hr=>cases ha;simp only [Ar] at h;obtain ⟨n,hn,rfl⟩:=h;have:=y7c (P:=P) hn hr;exact ⟨_,.int _ _,fun cst w=>by simp [builtin,Builtin.min_,this]⟩
 .rename_i k x r;cases hx with
  | cons ha hr=>cases ha;simp only [Ar] at h;obtain ⟨n,hn,rfl⟩:=h;have:=y7e (P:=P) hn hr;exact ⟨_,.int _ _,fun cst w=>by simp [builtin,Builtin.max_,this]⟩
 .rename_i t _ x _;cases hx with
  | cons ha _=>
   split at h
   .rename_i hu;obtain rfl:=Ag h;cases ha with
    | sl _ _ _ _ l c hl hc eK=>simp only [D5] at hc;subst hc;exact ⟨_,.int _ _,fun cst w=>by simp [builtin,Builtin.cap_,run_underlying hu,goInt]⟩
   .rename_i hu;obtain rfl:=Ag h;cases ha;exact ⟨_,.int _ _,fun cst w=>by simp [builtin,Builtin.cap_,run_underlying hu,goInt]⟩
   .cases h
 .cases h
end
section
variable {P:Program} {ρ:CF}
theorem Ye (isSlice:Bool) (len cap m h l:Nat) (low high max:Option Value) (hm:(max=none/\m=cap)\/(∃k,max=some (.int k m)/\m<=cap))
  (hh:(high=none/\max=none/\h=len)\/(∃k,high=some (.int k h)/\h<=m)) (hl:(low=none/\l=0)\/ ∃k,low=some (.int k l)/\l<=h) (w:World):
  (Instr.sliceBounds isSlice len cap low high max).run P w=.ok (l,h,m) w:=by
 have nn: ∀n:Nat,(0:Int)<=n:=fun n=>Int.natCast_nonneg n;rcases hm with ⟨rfl,rfl⟩ | ⟨km,rfl,hm⟩
 .rcases hh with ⟨rfl,_,rfl⟩ | ⟨kh,rfl,hh⟩
  .rcases hl with ⟨rfl,rfl⟩ | ⟨kl,rfl,hl⟩;all_goals simp_all [Instr.sliceBounds,Instr.sliceBound,asIntOf]
  .rcases hl with ⟨rfl,rfl⟩ | ⟨kl,rfl,hl⟩;all_goals simp_all [Instr.sliceBounds,Instr.sliceBound,asIntOf]
 .rcases hh with ⟨rfl,e,_⟩ | ⟨kh,rfl,hh⟩
  .cases e
  .rcases hl with ⟨rfl,rfl⟩ | ⟨kl,rfl,hl⟩;all_goals simp_all [Instr.sliceBounds,Instr.sliceBound,asIntOf]
theorem Yr {ev:Operand->CA} {ec:Operand->Value} {o:Option Operand} {d n:Nat} {b:Bool} (h:Db ev o d=some (n,b)) (hb:b=true) (hr: ∀x,o=some x->VRel ρ (ev x) (ec x)):
  (o=none/\n=d)\/ ∃k,o.map ec=some (.int k n):=by
 subst hb;unfold Db at h;cases o with
 | none=>grind
 | some x=>
  right;have hx:=hr x rfl;simp only at h;split at h
  .rename_i k i e;simp only [Ae,Ad,Ao] at h;obtain ⟨rfl,h0⟩:=h;rw [e] at hx;refine ⟨k,?_⟩;simp only [B2];rw [show ((i.toNat:Nat):Int)=i by omega];generalize ec x=u at hx ⊢;cases hx;rfl
  .cases h
theorem x4j (c:Bool) (b o off k:Nat) (m l:Nat) (_:Nat.beq m l=c):(if m=l then some (⟨b,o+off,none⟩:Addr) else some ((⟨b,o+off,none⟩:Addr).add k))=some ⟨b,o+(bif Nat.beq m l then off else off+k),none⟩:=by
 by_cases h:m=l
 .simp_all
 .rw [Az h,show Nat.beq m l=false from A7.2 fun e=>h (Ai e),Xf,AK];rfl
theorem x7q {ev:Operand->CA} {ec:Operand->Value} {t:TypeId} {x:Operand} {lo hi mx:Option Operand} {v:CA} {b:Bool} (h:v9q P ev t x lo hi mx=some (v,b)) (hb:b=true)
  (hx:VRel ρ (ev x) (ec x)) (hlo: ∀y,lo=some y->VRel ρ (ev y) (ec y)) (hhi: ∀y,hi=some y->VRel ρ (ev y) (ec y)) (hmx: ∀y,mx=some y->VRel ρ (ev y) (ec y)):
  ∃z,VRel ρ v z/\ ∀w,(Instr.sliceAt t (ec x) (lo.map ec) (hi.map ec) (mx.map ec)).run P w=.ok z w:=by
 subst hb;unfold v9q at h;split at h
 .rename_i e hu hev;rw [hev] at hx;split at h
  .rename_i s l a hh b hs hl hh';simp only [Ae,Ad,Ac] at h;obtain ⟨rfl,⟨⟨ha,hb⟩,h1⟩,h2⟩:=h;have e1:=Ai h1;have e2:=Ai h2;subst e1;subst e2;have q1:=Yr hl ha hlo;have q2:=Yr hh' hb hhi;generalize hw:ec x=u at hx;cases hx;refine ⟨_,.nils,fun w=> ?_⟩;have sb:=Ye (P:=P) true 0 0 0 0 0 (lo.map ec) (hi.map ec) none (.inl ⟨rfl,rfl⟩)
    (q2.elim (fun q=>.inl ⟨by rw [q.1];rfl,rfl,rfl⟩) (fun ⟨k,q⟩=>.inr ⟨k,q,Aq _⟩)) (q1.elim (fun q=>.inl ⟨by rw [q.1];rfl,rfl⟩) (fun ⟨k,q⟩=>.inr ⟨k,q,Aq _⟩))
   simp_all [Instr.sliceAt,Instr.slice,run_underlying,Yz]
  .cases h
 .rename_i e b off len c hu hev;rw [hev] at hx;split at h
  .rename_i s m x1 hh x2 l x3 hs hm hhi' hl;split at h
   .cases h
   .rename_i hno;simp only [Ae,Ad,Ac] at h;obtain ⟨rfl,⟨⟨⟨⟨h1,h2⟩,h3⟩,h4⟩,h5⟩,h6⟩:=h;have h4:=Ak h4;have h5:=Ak h5;have h6:=Ak h6;have q0:=Yr hm h1 hmx;have q1:=Yr hl h3 hlo;have q2:=Yr hhi' h2 hhi;generalize hw:ec x=u at hx;cases hx with
    | sl _ _ _ _ lc c' hρ hc _=>
     simp only [D5] at hc;subst hc;refine ⟨_,.sl _ _ _ _ lc _ hρ rfl (by omega),fun w=> ?_⟩;have sb:=Ye (P:=P) true len c' m hh l (lo.map ec) (hi.map ec) (mx.map ec) (q0.elim (fun q=>.inl ⟨by rw [q.1];rfl,q.2⟩) (fun ⟨k,q⟩=>.inr ⟨k,q,h4⟩))
      (q2.elim (fun q=>.inl ⟨by rw [q.1];rfl,by
       simp_all,q.2⟩) (fun ⟨k,q⟩=>.inr ⟨k,q,h5⟩)) (q1.elim (fun q=>.inl ⟨by rw [q.1];rfl,q.2⟩) (fun ⟨k,q⟩=>.inr ⟨k,q,h6⟩)) w
     simp [Instr.sliceAt,Instr.slice,run_underlying hu,sb,Yz hs];exact x4j _ _ _ _ _ _ _ rfl
  .cases h
 .rename_i e b off len zz hu hev;rw [hev] at hx;split at h
  .rename_i s hh x2 l x3 hs hhi' hl;cases hz:Nat.beq zz s.size with
   | false=>grind
   | true=>
    rw [hz,Ab] at h;have hz:=Ai hz;rcases (by cases hlo':(Nat.beq hh l&&Nat.ble 1 l) with
      | true=>rw [hlo',Ab] at h;exact .inl ⟨rfl,h⟩
      | false=>rw [hlo',Aa] at h;exact .inr h:((Nat.beq hh l&&Nat.ble 1 l)=true/\some _=some _)\/(some _=some _)) with ⟨hq,h⟩ | h
    .simp only [Ae,Ad,Ac] at h hq;obtain ⟨rfl,⟨h2,h3⟩,h5⟩:=h;obtain rfl:=Ai hq.1;have h5:=Ak h5;have q1:=Yr hl h3 hlo;have q2:=Yr hhi' h2 hhi;generalize hw:ec x=u at hx;cases hx with
     | sl _ _ _ _ lc c hρ hc eK=>
      have sb:=Ye (P:=P) true len c c hh hh (lo.map ec) (hi.map ec) none (.inl ⟨rfl,rfl⟩)
       (q2.elim (fun q=>.inl ⟨by rw [q.1];rfl,rfl,q.2⟩) (fun ⟨k,q⟩=>.inr ⟨k,q,by omega⟩)) (q1.elim (fun q=>.inl ⟨by rw [q.1];rfl,q.2⟩) (fun ⟨k,q⟩=>.inr ⟨k,q,Aq _⟩))
      have e0: ∀(base:Nat),VRel ρ (.dat 0 fun _=>[]) (.slice (some ⟨lc.blk,base,none⟩) 0 (c - hh)):=fun base=>
       .dat 0 _ lc.blk base 0 (c - hh) (fun _ _=>undef) (AA _) (fun i hi=>absurd hi (AD _)) (fun i j hi=>absurd hi (AD _)) (fun i j hi=>absurd hi (AD _))
      by_cases hcl:c=hh
      .subst hcl;refine ⟨_,e0 (lc.base+off),fun w=> ?_⟩;simp [Instr.sliceAt,Instr.slice,run_underlying hu,sb,Yz hs]
      .refine ⟨_,e0 (lc.base+off+hh*s.size),fun w=> ?_⟩;simp [Instr.sliceAt,Instr.slice,run_underlying hu,sb,Yz hs,Az hcl,Xf]
    simp only [Ae,Ad,Ac,Bv] at h;obtain ⟨rfl,⟨⟨⟨h2,h3⟩,h5⟩,h6⟩,h7⟩:=h;have h5:=Ak h5;have h6:=Ak h6;have q1:=Yr hl h3 hlo;have q2:=Yr hhi' h2 hhi;generalize hw:ec x=u at hx;cases hx with
    | sl _ _ _ _ lc c hρ hc eK=>
     simp only [D5] at hc;have hlc:l<=c:=(by omega);have hmul:l*s.size+(c - l)*zz=c*zz:=by rw [hz,<-AS];grind
     refine ⟨.slice (some ⟨lc.blk,lc.base+(off+l*s.size),none⟩) (hh - l) (c - l),.sl _ _ _ _ lc _ hρ ?_ (by omega),fun w=> ?_⟩
     .simp only [D5];omega
     .have sb:=Ye (P:=P) true len c c hh l (lo.map ec) (hi.map ec) none (.inl ⟨rfl,rfl⟩)
       (q2.elim (fun q=>.inl ⟨by rw [q.1];rfl,rfl,q.2⟩) (fun ⟨k,q⟩=>.inr ⟨k,q,by omega⟩)) (q1.elim (fun q=>.inl ⟨by rw [q.1];rfl,q.2⟩) (fun ⟨k,q⟩=>.inr ⟨k,q,h6⟩)) w
      simp [Instr.sliceAt,Instr.slice,run_underlying hu,sb,Yz hs];by_cases hcl:c=l
      .rw [AF hcl];rcases h7 with h7 | h7
       .have:=Ak h7;omega
       simp_all
      grind [Xf]
  .rename_i s y hh x2 l x3 hs hhi' hl;split at h
   .rename_i m x1 hm;cases hz:(Nat.beq zz s.size&&hi.isSome) with
    | false=>grind
    | true=>
     rw [hz,Ab] at h;simp only [Ae,Ad,Ac] at h hz;obtain ⟨rfl,⟨⟨⟨⟨h1,h2⟩,h3⟩,h4⟩,h5⟩,h6⟩:=h;have h4:=Ak h4;have h5:=Ak h5;have h6:=Ak h6;have q0:=Yr hm h1 hmx;have q1:=Yr hl h3 hlo;have q2:=Yr hhi' h2 hhi;generalize hw:ec x=u at hx;cases hx with
     | sl _ _ _ _ lc c hρ _ eK=>
      refine ⟨_,.sl _ _ _ _ lc _ hρ rfl (by omega),fun w=> ?_⟩;have sb:=Ye (P:=P) true len c m hh l (lo.map ec) (hi.map ec) ((some y).map ec) (q0.elim (fun q=>by cases q.1) (fun ⟨k,q⟩=>.inr ⟨k,q,by omega⟩))
       (q2.elim (fun q=>by grind) (fun ⟨k,q⟩=>.inr ⟨k,q,h5⟩)) (q1.elim (fun q=>.inl ⟨by rw [q.1];rfl,q.2⟩) (fun ⟨k,q⟩=>.inr ⟨k,q,h6⟩)) w
      simp only [B2] at sb;simp [Instr.sliceAt,Instr.slice,run_underlying hu,sb,Yz hs];exact x4j _ _ _ _ _ _ _ rfl
   .cases h
  .cases h
 .rename_i e b sz off len zz hu hev;rw [hev] at hx;split at h
  .rename_i s hh x2 l x3 hs hhi' hl;cases hz:(Nat.beq zz s.size&&Nat.beq sz zz) with
   | false=>grind
   | true=>
    rw [hz,Ab] at h;simp only [Ac] at hz;have hz1:=Ai hz.1;obtain rfl:=Ai hz.2;subst hz1;rcases (by cases hlo':lo.isSome with
      | true=>rw [hlo',Ab] at h;exact .inl h
      | false=>rw [hlo',Aa] at h;exact .inr h:(some _=some _)\/(some _=some _)) with h | h
    .simp only [Ae,Ad,Ac,Ao] at h;obtain ⟨rfl,h2,h3,h5,h6⟩:=h;have q1:=Yr hl h3 hlo;have q2:=Yr hhi' h2 hhi;generalize hw:ec x=u at hx;cases hx with
     | sla _ _ _ _ _ lc c hρ hc eK=>
      have hlc:l<=c:=(by omega);have sb:=Ye (P:=P) true len c c hh l (lo.map ec) (hi.map ec) none (.inl ⟨rfl,rfl⟩)
       (q2.elim (fun q=>.inl ⟨by rw [q.1];rfl,rfl,q.2⟩) (fun ⟨k,q⟩=>.inr ⟨k,q,by omega⟩)) (q1.elim (fun q=>.inl ⟨by rw [q.1];rfl,q.2⟩) (fun ⟨k,q⟩=>.inr ⟨k,q,h6⟩))
      by_cases hcl:c=l
      .subst hcl;have e0:hh - c=0:=(by omega);rw [e0];refine ⟨_,.slve _ _ _ lc.blk (lc.base+off*s.size) (c - c),fun w=> ?_⟩;simp [Instr.sliceAt,Instr.slice,run_underlying hu,sb,Yz hs,e0]
      .refine ⟨_,.slv _ _ _ _ lc (c - l) hρ (by omega),fun w=> ?_⟩;simp [Instr.sliceAt,Instr.slice,run_underlying hu,sb,Yz hs,Az hcl,Xf,AS,AK]
     | slan=>
      obtain rfl:hh=0:=by omega
      obtain rfl:l=0:=by omega
      refine ⟨_,.slvn _ _ _,fun w=> ?_⟩;have sb:=Ye (P:=P) true 0 0 0 0 0 (lo.map ec) (hi.map ec) none (.inl ⟨rfl,rfl⟩)
       (q2.elim (fun q=>.inl ⟨by rw [q.1];rfl,rfl,rfl⟩) (fun ⟨k,q⟩=>.inr ⟨k,q,Aq _⟩)) (q1.elim (fun q=>.inl ⟨by rw [q.1];rfl,rfl⟩) (fun ⟨k,q⟩=>.inr ⟨k,q,Aq _⟩))
      simp_all [Instr.sliceAt,Instr.slice,run_underlying,Yz]
    simp only [Ae,Ad,Ac,Bv,Ao] at h;obtain ⟨rfl,h2,h3,h5,h6,h7⟩:=h;have q1:=Yr hl h3 hlo;have q2:=Yr hhi' h2 hhi;generalize hw:ec x=u at hx;cases hx with
    | sla _ _ _ _ _ lc c hρ hc eK=>
     simp only [D5] at hc;have hlc:l<=c:=(by omega);have hmul:l*s.size+(c - l)*s.size=c*s.size:=by rw [<-AS];grind
     have hmul2:(off+l)*s.size=off*s.size+l*s.size:=AS _ _ _;refine ⟨.slice (some ⟨lc.blk,lc.base+(off+l)*s.size,none⟩) (hh - l) (c - l),.sla _ _ _ _ _ lc _ hρ ?_ (by omega),fun w=> ?_⟩
     .simp only [D5];omega
     .have sb:=Ye (P:=P) true len c c hh l (lo.map ec) (hi.map ec) none (.inl ⟨rfl,rfl⟩)
       (q2.elim (fun q=>.inl ⟨by rw [q.1];rfl,rfl,q.2⟩) (fun ⟨k,q⟩=>.inr ⟨k,q,by omega⟩)) (q1.elim (fun q=>.inl ⟨by rw [q.1];rfl,q.2⟩) (fun ⟨k,q⟩=>.inr ⟨k,q,h6⟩)) w
      simp [Instr.sliceAt,Instr.slice,run_underlying hu,sb,Yz hs];by_cases hcl:c=l
      .rw [AF hcl];rcases h7 with h7 | h7
       .omega
       simp_all
      grind [Xf]
    | slan=>
     obtain rfl:hh=0:=by omega
     obtain rfl:l=0:=by omega
     refine ⟨_,.slan _ _ _ _,fun w=> ?_⟩;have sb:=Ye (P:=P) true 0 0 0 0 0 (lo.map ec) (hi.map ec) none (.inl ⟨rfl,rfl⟩)
      (q2.elim (fun q=>.inl ⟨by rw [q.1];rfl,rfl,rfl⟩) (fun ⟨k,q⟩=>.inr ⟨k,q,Aq _⟩)) (q1.elim (fun q=>.inl ⟨by rw [q.1];rfl,rfl⟩) (fun ⟨k,q⟩=>.inr ⟨k,q,Aq _⟩))
     simp_all [Instr.sliceAt,Instr.slice,run_underlying,Yz]
  .cases h
 .rename_i e b sz off len hu hev;rw [hev] at hx;split at h
  .rename_i s hh x2 l x3 hs hhi' hl;cases hz:Nat.beq sz s.size with
   | false=>grind
   | true=>
    rw [hz,Ab] at h;obtain rfl:=Ai hz;simp only [Ae,Ad,Ac,Ao] at h;obtain ⟨rfl,h2,h3,h5,h6⟩:=h;have q1:=Yr hl h3 hlo;have q2:=Yr hhi' h2 hhi;generalize hw:ec x=u at hx;cases hx with
    | slv _ _ _ _ lc c hρ eK=>
     have hlc:l<=c:=(by omega);have sb:=Ye (P:=P) true len c c hh l (lo.map ec) (hi.map ec) none (.inl ⟨rfl,rfl⟩)
      (q2.elim (fun q=>.inl ⟨by rw [q.1];rfl,rfl,q.2⟩) (fun ⟨k,q⟩=>.inr ⟨k,q,by omega⟩)) (q1.elim (fun q=>.inl ⟨by rw [q.1];rfl,q.2⟩) (fun ⟨k,q⟩=>.inr ⟨k,q,h6⟩))
     by_cases hcl:c=l
     .subst hcl;have e0:hh - c=0:=(by omega);rw [e0];refine ⟨_,.slve _ _ _ lc.blk (lc.base+off*s.size) (c - c),fun w=> ?_⟩;simp [Instr.sliceAt,Instr.slice,run_underlying hu,sb,Yz hs,e0]
     .refine ⟨_,.slv _ _ _ _ lc (c - l) hρ (by omega),fun w=> ?_⟩;simp [Instr.sliceAt,Instr.slice,run_underlying hu,sb,Yz hs,Az hcl,Xf,AS,AK]
    | slve _ _ _ blk base c=>
     obtain rfl:hh=0:=by omega
     obtain rfl:l=0:=by omega
     have sb:=Ye (P:=P) true 0 c c 0 0 (lo.map ec) (hi.map ec) none (.inl ⟨rfl,rfl⟩)
      (q2.elim (fun q=>.inl ⟨by rw [q.1];rfl,rfl,rfl⟩) (fun ⟨k,q⟩=>.inr ⟨k,q,AA _⟩)) (q1.elim (fun q=>.inl ⟨by rw [q.1];rfl,rfl⟩) (fun ⟨k,q⟩=>.inr ⟨k,q,Aq _⟩))
     refine ⟨_,.slve _ _ _ blk base c,fun w=> ?_⟩;simp_all [Instr.sliceAt,Instr.slice,run_underlying,Yz,Xf]
    | slvn=>
     obtain rfl:hh=0:=by omega
     obtain rfl:l=0:=by omega
     refine ⟨_,.slvn _ _ _,fun w=> ?_⟩;have sb:=Ye (P:=P) true 0 0 0 0 0 (lo.map ec) (hi.map ec) none (.inl ⟨rfl,rfl⟩)
      (q2.elim (fun q=>.inl ⟨by rw [q.1];rfl,rfl,rfl⟩) (fun ⟨k,q⟩=>.inr ⟨k,q,Aq _⟩)) (q1.elim (fun q=>.inl ⟨by rw [q.1];rfl,rfl⟩) (fun ⟨k,q⟩=>.inr ⟨k,q,Aq _⟩))
     simp_all [Instr.sliceAt,Instr.slice,run_underlying,Yz]
  .cases h
 .rename_i e len get hu hev;rw [hev] at hx;split at h
  .rename_i s hh x2 l x3 hs hhi' hl;simp only [Ae,Ad,Ac,Ao] at h;obtain ⟨rfl,h2,h3,h5,h6,h7⟩:=h;have h7:=j5q h7;have q1:=Yr hl h3 hlo;have q2:=Yr hhi' h2 hhi;generalize hw:ec x=u at hx;cases hx with
   | dat _ _ blk base sz c val eT hsz hv hh'=>
    have hlc:l<=c:=(by omega);have sb:=Ye (P:=P) true len c c hh l (lo.map ec) (hi.map ec) none (.inl ⟨rfl,rfl⟩)
     (q2.elim (fun q=>.inl ⟨by rw [q.1];rfl,rfl,q.2⟩) (fun ⟨k,q⟩=>.inr ⟨k,q,by omega⟩)) (q1.elim (fun q=>.inl ⟨by rw [q.1];rfl,q.2⟩) (fun ⟨k,q⟩=>.inr ⟨k,q,h6⟩))
    by_cases hcl:c=l
    .subst hcl;have e0:hh - c=0:=(by omega);rw [e0];refine ⟨_,.dat 0 _ blk base s.size (c - c) (fun _ _=>undef) (AA _) (fun i hi=>absurd hi (AD _)) (fun i j hi=>absurd hi (AD _)) (fun i j hi=>absurd hi (AD _)),fun w=> ?_⟩;simp [Instr.sliceAt,Instr.slice,run_underlying hu,sb,Yz hs,e0]
    .refine ⟨_,.dat (hh - l) (fun k=>get (l+k)) blk (base+l*s.size) s.size (c - l) (fun k=>val (l+k)) (by omega) (fun i hi=>h7 _ (by omega)) (fun i j hi hj=>hv _ j (by omega) hj) (fun i j hi hj=> ?_),fun w=> ?_⟩
     .grind
     .simp [Instr.sliceAt,Instr.slice,run_underlying hu,sb,Yz hs,Az hcl,Xf]
   | datn=>
    obtain rfl:hh=0:=by omega
    obtain rfl:l=0:=by omega
    refine ⟨_,.datn _,fun w=> ?_⟩;have sb:=Ye (P:=P) true 0 0 0 0 0 (lo.map ec) (hi.map ec) none (.inl ⟨rfl,rfl⟩)
     (q2.elim (fun q=>.inl ⟨by rw [q.1];rfl,rfl,rfl⟩) (fun ⟨k,q⟩=>.inr ⟨k,q,Aq _⟩)) (q1.elim (fun q=>.inl ⟨by rw [q.1];rfl,rfl⟩) (fun ⟨k,q⟩=>.inr ⟨k,q,Aq _⟩))
    simp_all [Instr.sliceAt,Instr.slice,run_underlying,Yz]
   | datz _ a c=>
    obtain rfl:hh=0:=by omega
    obtain rfl:l=0:=by omega
    have sb:=Ye (P:=P) true 0 c c 0 0 (lo.map ec) (hi.map ec) none (.inl ⟨rfl,rfl⟩)
     (q2.elim (fun q=>.inl ⟨by rw [q.1];rfl,rfl,rfl⟩) (fun ⟨k,q⟩=>.inr ⟨k,q,AA _⟩)) (q1.elim (fun q=>.inl ⟨by rw [q.1];rfl,rfl⟩) (fun ⟨k,q⟩=>.inr ⟨k,q,Aq _⟩))
    by_cases hc0:c=0
    .subst hc0;refine ⟨_,.datz _ a 0,fun w=> ?_⟩;simp_all [Instr.sliceAt,Instr.slice,run_underlying,Yz]
    .refine ⟨_,.datz _ (a.add (0*s.size)) c,fun w=> ?_⟩;simp_all [Instr.sliceAt,Instr.slice,run_underlying,Yz]
  .cases h
 .rename_i n e b off hu hev;rw [hev] at hx;split at h
  .rename_i s m x1 hh x2 l x3 hs hm hhi' hl;split at h
   .cases h
   .rename_i hno;simp only [Ae,Ad,Ac] at h;obtain ⟨rfl,⟨⟨⟨⟨h1,h2⟩,h3⟩,h4⟩,h5⟩,h6⟩:=h;have h4:=Ak h4;have h5:=Ak h5;have h6:=Ak h6;have q0:=Yr hm h1 hmx;have q1:=Yr hl h3 hlo;have q2:=Yr hhi' h2 hhi;generalize hw:ec x=u at hx;cases hx with
    | ptr _ _ lc hρ=>
     refine ⟨_,.sl _ _ _ _ lc _ hρ rfl (by omega),fun w=> ?_⟩;have sb:=Ye (P:=P) false n n m hh l (lo.map ec) (hi.map ec) (mx.map ec) (q0.elim (fun q=>.inl ⟨by rw [q.1];rfl,q.2⟩) (fun ⟨k,q⟩=>.inr ⟨k,q,h4⟩))
      (q2.elim (fun q=>.inl ⟨by rw [q.1];rfl,by
       simp_all,q.2⟩) (fun ⟨k,q⟩=>.inr ⟨k,q,h5⟩)) (q1.elim (fun q=>.inl ⟨by rw [q.1];rfl,q.2⟩) (fun ⟨k,q⟩=>.inr ⟨k,q,h6⟩)) w
     have bb:=x4j _ lc.blk lc.base off (l*s.size) m l rfl;simp [Instr.sliceAt,run_underlying hu,Instr.sureAddr,sb,Yz hs]
     grind
  .cases h
 .rename_i s hu hev;rw [hev] at hx;split at h
  .rename_i hh x2 l x3 hh' hl;simp only [Ae,Ad,Ac,Ao] at h;obtain ⟨rfl,a2,a3,h5,h6⟩:=h;have q1:=Yr hl a3 hlo;have q2:=Yr hh' a2 hhi;generalize hw:ec x=u at hx;cases hx;refine ⟨_,.str _,fun w=> ?_⟩;have hsz:(⟨s.toArray⟩:ByteArray).size =s.length:=by simp [<-ByteArray.size_data]
   have sb:=Ye (P:=P) false s.length s.length s.length hh l (lo.map ec) (hi.map ec) none (.inl ⟨rfl,rfl⟩)
    (q2.elim (fun q=>.inl ⟨by rw [q.1];rfl,rfl,q.2⟩) (fun ⟨k,q⟩=>.inr ⟨k,q,h5⟩)) (q1.elim (fun q=>.inl ⟨by rw [q.1];rfl,q.2⟩) (fun ⟨k,q⟩=>.inr ⟨k,q,h6⟩)) w
   have e:(⟨((s.drop l).take (hh - l)).toArray⟩:ByteArray)=(⟨s.toArray⟩:ByteArray).extract l hh:=by apply ByteArray.ext;rw [ByteArray.data_extract];simp [List.extract_eq_take_drop]
   rw [e];simp [Instr.sliceAt,Instr.slice,run_underlying hu,hsz,sb]
  .cases h
 .cases h
def Qz (ρ:CF) (ev:Operand->CA) (ec:Operand->Value) (op:Op):Prop:= ∀x,x∈op.operands->VRel ρ (ev x) (ec x)
theorem W0 {ev:Operand->CA} {ec:Operand->Value}: ∀(ps:List (Nat×Operand)),(∀p∈ps,VRel ρ (ev p.2) (ec p.2))->Iz ρ (ps.map fun p=>(p.1,ev p.2)) (ps.map fun p=>(p.1,ec p.2)):=fun ps h=>
 Vf.maps _ _ ps fun p hp=>⟨rfl,h p hp⟩
theorem y8v {o:Oper} {ev:Operand->CA} {ec:Operand->Value} {v:CA} {b:Bool} (h:Qc P o.op ev=some (v,b)) (hb:b=true) (hr:Qz ρ ev ec o.op):
  ∃u,VRel ρ v u/\ ∀w,(execOp ec o).run P w=.ok (.value u) w:=by
 obtain ⟨dst,op,type,pos,after,guard⟩:=o;simp only at h hr ⊢;have lift: ∀{s:Sem Value},(∃z,VRel ρ v z/\ ∀w,s.run P w=.ok z w)->(∀w,(execOp ec ⟨dst,op,type,pos,after,guard⟩).run P w=(do pure (.value (<-s)):Sem Next).run P w)->
   ∃u,VRel ρ v u/\ ∀w,(execOp ec ⟨dst,op,type,pos,after,guard⟩).run P w=.ok (.value u) w:=by
  simp_all
 cases op with
 | move x=>simp only [Qc,Ae,Ad] at h;obtain ⟨rfl,_⟩:=h;exact ⟨ec x,hr x (by simp [Op.operands]),fun w=>rfl⟩
 | assign x=>simp only [Qc,Ae,Ad] at h;obtain ⟨rfl,_⟩:=h;exact ⟨ec x,hr x (by simp [Op.operands]),fun w=>rfl⟩
 | pick c x y=>
  have hc:=hr c (by simp [Op.operands]);have hx:=hr x (by simp [Op.operands]);have hy:=hr y (by simp [Op.operands]);unfold Qc at h;simp only at h;split at h
  .rename_i cb e;rw [e] at hc;generalize hw:ec c=u at hc;cases hc;simp only [Ae,Ad] at h;obtain ⟨rfl,_⟩:=h;cases cb;all_goals simp_all [execOp,asBool]
  .cases h
 | build t parts=>
  simp only [Qc,Ar,Ad] at h;obtain ⟨v',hv,rfl,_⟩:=h;refine lift (x7x hv (W0 _ fun p hp=>hr p.2 ?_)) fun w=> ?_
  .grind [Op.operands]
  .have:(parts.map fun (i,x)=>(i,ec x))=(parts.toList.map fun p=>(p.1,ec p.2)).toArray :=by
    grind
   simp only [execOp,this]
 | nilCheck x=>
  have hx:=hr x (by simp [Op.operands]);unfold Qc at h;simp only at h;split at h;all_goals first
   | (rename_i e
      rw [e] at hx;simp only [Ae,Ad] at h;obtain ⟨rfl,_⟩:=h;refine ⟨ec x,hx,fun w=> ?_⟩;generalize hw:ec x=u at hx;cases hx <;> simp [execOp,hw])
   | cases h
 | binOp op t x y yt=>have hx:=hr x (by simp [Op.operands]);have hy:=hr y (by simp [Op.operands]);exact lift (v2k (by simpa only [Qc] using h) hb hx hy x y) fun w=>rfl
 | unOp op t x=>have hx:=hr x (by simp [Op.operands]);simp only [Qc,Ar,Ad] at h;obtain ⟨v',hv,rfl,_⟩:=h;exact lift (v9p hv hx) fun w=>rfl
 | convert src dst' x=>
  have hx:=hr x (by simp [Op.operands]);unfold Qc at h;simp only at h;split at h
  .rename_i sd k k' n hs hu e;rw [e] at hx;generalize hw:ec x=u at hx;cases hx;simp only [Ae,Ad] at h;obtain ⟨rfl,_⟩:=h;refine ⟨_,.int _ _,fun w=> ?_⟩;cases sd <;> simp [execOp,Go.convert,hw,run_underlying hs,run_underlying hu,Conv.intToInt]
  .cases h
 | makeInterface t x=>
  have hx:=hr x (by simp [Op.operands]);unfold Qc at h;simp only at h;split at h
  .cases h
  .cases h
  .rename_i d hni hu;simp only [Ae,Ad] at h;obtain ⟨rfl,_⟩:=h;refine ⟨_,.ifc t _ _ hx,fun w=> ?_⟩;simp_all [execOp,Instr.makeInterface,run_underlying]
 | makeFunc fn first captured=>
  cases fn with
  | func f=>
   unfold Qc at h;simp only at h;cases hf:first.isEmpty with
   | false=>
    rw [hf,Aa] at h;cases hc:captured.isEmpty with
    | false=>grind
    | true=>
     rw [hc,Ab] at h;simp only [Ae,Ad] at h;obtain ⟨rfl,_⟩:=h;have hc:captured= #[]:=(by grind);subst hc;refine ⟨_,.fnb f _ (first.map ec) (by simp) fun i h1 h2=> ?_,fun w=>by simp [execOp,Instr.makeFunc]⟩;have:i<first.size:=by grind
     simpa using hr first[i] (by simp [Op.operands])
   | true=>
    rw [hf,Ab] at h;simp only [Ae,Ad] at h;obtain ⟨rfl,_⟩:=h;have hf:first= #[]:=by grind
    subst hf;refine ⟨_,.fn f _ (captured.map ec) (by simp) fun i h1 h2=> ?_,fun w=>by simp [execOp,Instr.makeFunc]⟩;have:i<captured.size:=by grind
    simpa using hr captured[i] (by simp [Op.operands])
  | _=>simp [Qc] at h
 | fieldAddr t x f=>have hx:=hr x (by simp [Op.operands]);simp only [Qc,Ar,Ad] at h;obtain ⟨v',hv,rfl,_⟩:=h;exact lift (y4f hv hx) fun w=>rfl
 | field t x f=>have hx:=hr x (by simp [Op.operands]);simp only [Qc,Ar,Ad] at h;obtain ⟨v',hv,rfl,_⟩:=h;exact lift (x7s hv hx) fun w=>rfl
 | indexAddr t x i=>have hx:=hr x (by simp [Op.operands]);have hi:=hr i (by simp [Op.operands]);exact lift (y4e (by simpa only [Qc] using h) hb hx hi) fun w=>rfl
 | index t x i=>have hx:=hr x (by simp [Op.operands]);have hi:=hr i (by simp [Op.operands]);exact lift (x7r (by simpa only [Qc] using h) hb hx hi) fun w=>rfl
 | extract x i=>
  have hx:=hr x (by simp [Op.operands]);unfold Qc at h;simp only at h;split at h
  .rename_i vs e;rw [e] at hx;simp only [Ar,Ad] at h;obtain ⟨v',hv,rfl,_⟩:=h;obtain ⟨hlt,rfl⟩:=Bf.1 hv;generalize hw:ec x=u at hx;cases hx with
   | tup _ us hl hh=>have h2:i<us.size:=(by omega);simp_all [execOp,Instr.extract]
  .cases h
 | slice t x lo hi mx=>
  refine lift (x7q (by simpa only [Qc] using h) hb (hr x (by simp [Op.operands])) (fun y hy=>hr y ?_) (fun y hy=>hr y ?_) (fun y hy=>hr y ?_)) fun w=>rfl;all_goals grind [Op.operands]
 | call c=>
  obtain ⟨callee,args,argTypes⟩:=c;cases callee with
  | builtin bi=>
   simp only [Qc,Ar,Ad] at h;obtain ⟨v',hv,rfl,_⟩:=h;obtain ⟨z,hz,hs⟩:=x0a (ts:=argTypes) (us:=args.map ec) (type:=type) hv (by
    rw [Bx];exact Vf.maps _ _ _ fun a ha=>hr a (by grind [Op.operands,Call.operands]))
   simp_all [execOp,resolve,invoke]
  | value f=>simp [Qc] at h
  | invoke r m=>simp [Qc] at h
 | _=>simp [Qc] at h
end
section
variable {P:Program} {ρ:CF}
def MM (ρ:CF) (w:World) (blk o:Nat) (cs:zy):Prop:=
 ∀(i:Nat) (h:i<cs.length),∃v,w.cell? ⟨blk,o+i,none⟩=some v/\VRel ρ cs[i] v
theorem CH.cellsAt {mem:CI} {next:Nat} {w:World} (h:CH ρ mem next w) {b:Nat} {l:CZ} {ab:CG} (hb:ρ b=some l) (hm:Yi mem b=some ab) (hno:ab.isObj=false):MM ρ w l.blk l.base ab.cells:=by
 obtain ⟨_,_,_,_,cs,el,h1,h2,h3⟩:=(h.blk b l ab hb hm).at hno;intro i hi
 grind [World.cell?]
theorem CH.dataAt {mem:CI} {next:Nat} {w:World} (h:CH ρ mem next w) {cs:zy} {blk base:Nat} {val:Nat->Value} (hv: ∀(j:Nat) (hj:j<cs.length),VRel ρ.bare cs[j] (val j))
  (hh: ∀j,j<cs.length->HX ρ.fz blk (base+j) (val j)):MM ρ w blk base cs:=by
 intro i hi;obtain ⟨arr,el,fz,e,f⟩:=hh i hi;have:=h.old _ _ e;exact ⟨val i,by simp [World.cell?,this,f],(hv i hi).mono (Sd ρ)⟩
theorem MM.load {w:World} {blk o:Nat} {cs:zy} (h:MM ρ w blk o cs) {off n:Nat} (hn:off+n<=cs.length\/n=0):
  ∃vs:Array Value,vs.size=n/\(∀(i:Nat) (h1:off+i<cs.length) (h2:i<vs.size),VRel ρ cs[off+i] vs[i])/\(loadCells ⟨blk,o+off,none⟩ n).run P w=.ok vs w:=by
 have hc: ∀j,j<n->w.cell? ((⟨blk,o+off,none⟩:Addr).add j)=some ((w.cell? ⟨blk,o+(off+j),none⟩).getD undef):=by intro j hj;obtain ⟨v,e,_⟩:=h (off+j) (by omega);rw [Xf,AK,e];rfl
 refine ⟨_,?_,?_,run_loadCells w _ n (fun j=>(w.cell? ⟨blk,o+(off+j),none⟩).getD undef) hc⟩
 .simp
 .intro i h1 h2;obtain ⟨v,e,f⟩:=h (off+i) h1
  grind
theorem MM.part {w:World} {blk o:Nat} {cs:zy} (h:MM ρ w blk o cs) {t:TypeId} {off:Nat} {v:CA} (hp:FI P t cs off=some v):
  ∃z,VRel ρ v z/\(loadVar t ⟨blk,o+off,none⟩).run P w=.ok z w:=by
 unfold FI at hp;split at hp
 .rename_i i ha hi;simp only [Ar] at hp;obtain ⟨p,hc,rfl⟩:=hp;obtain ⟨_,hl,hle⟩:=Mb hc;obtain ⟨vs,hs,hv,hr⟩:=h.load (P:=P) (off:=off) (n:=i.size) (by omega);refine ⟨.agg vs,.agg _ _ (by omega) fun j h1 h2=> ?_,?_⟩
  .grind
  simp_all [loadVar,S1,Yz]
 .rename_i i ha hi;obtain ⟨hlt,rfl⟩:=Bf.1 hp;obtain ⟨v,e,f⟩:=h off hlt;simp_all [loadVar,S1]
 .cases hp
theorem Mp {α:Type} {c:Bool} {x:Option α} {y:α} (h:(bif c then none else x)=some y):c=false/\x=some y:=by cases c <;> simp_all
theorem y8y {mem:CI} {next:Nat} {w:World} (h:CH ρ mem next w) {t:TypeId} {x v:CA} {u:Value} (hl:NE P mem t x=some v) (hx:VRel ρ x u):
  ∃z,VRel ρ v z/\(Instr.loadAt t u).run P w=.ok z w:=by
 unfold NE at hl;split at hl
 .split at hl
  .rename_i b off _ blk hm;cases hx with
   | ptr _ _ l hρ=>
    obtain ⟨hno,hl⟩:=Mp hl;obtain ⟨z,hz,hr⟩:=(h.cellsAt hρ hm hno).part hl
    grind [Instr.loadAt,Instr.sureAddr]
  .cases hl
 .cases hx with
  | dptr _ blk base val hv hh=>
   obtain ⟨z,hz,hr⟩:=(h.dataAt hv hh).part hl
   grind [Instr.loadAt,Instr.sureAddr]
 .cases hl
theorem WJ (n:Nat) (get:Nat->zy):rows (n+1) get=rows n get++get n:=by unfold rows;rw [Bw,List.flatMap_append];simp
theorem Ym {get:Nat->zy} {sz:Nat}: ∀(n:Nat),(∀i,i<n->(get i).length =sz)->(rows n get).length =n*sz
 | 0,_=>by simp [rows]
 | n+1,h=>by rw [WJ,AO,Ym n fun i hi=>h i (by omega),h n (by omega),AS,B5]
theorem Vk {get:Nat->zy} {sz:Nat}: ∀(n:Nat),(∀i,i<n->(get i).length =sz)-> ∀(r j:Nat),r<n->j<sz->(rows n get)[r*sz+j]? =(get r)[j]?
 | 0,_,r,j,hr,_=>by omega
 | n+1,h,r,j,hr,hj=>by
  have hl:=Ym n fun i hi=>h i (by omega);rw [WJ];by_cases e:r=n
  .subst e;rw [List.getElem?_append_right (by omega),hl]
   congr 1;omega
  .have hlt:r<n:=by omega
   have:(r+1)*sz<=n*sz:=AE sz hlt;rw [AS,B5] at this;rw [List.getElem?_append_left (by omega)];exact Vk n (fun i hi=>h i (by omega)) r j hlt hj
theorem CH.rowAt {mem:CI} {next:Nat} {w:World} (h:CH ρ mem next w) {b:Nat} {l:CZ} {ab:CG} {A:Da} (hb:ρ b=some l) (hm:Yi mem b=some ab) (hA:ab.arr=some A) {r:Nat} (hr:r<A.n):MM ρ w l.blk (l.base+r*A.sz) (A.get r):=by
 have hno:=((h.blk b l ab hb hm).rows hA).noObj;obtain ⟨_,_,_,har,_⟩:=(h.blk b l ab hb hm).rows hA;obtain ⟨e1,_,e3⟩:=har A hA;intro i hi;have hsz:=e3 r hr;have hg:=Vk A.n e3 r i hr (by omega);rw [At hi,<-e1] at hg;obtain ⟨hlt,hge⟩:=Bf.1 hg;obtain ⟨v,e,f⟩:=h.cellsAt hb hm hno (r*A.sz+i) hlt
 grind
theorem y3q {mem:CI} {next:Nat} {w:World} (h:CH ρ mem next w) {t:TypeId} {x v:CA} {u:Value} (hl:Mk P mem t x=some (v,true)) (hx:VRel ρ x u):
  ∃z,VRel ρ v z/\(Instr.loadAt t u).run P w=.ok z w:=by
 unfold Mk at hl;split at hl
 .split at hl
  .rename_i b sz r fo _ blk hm;split at hl
   .rename_i A hA;simp only [Ar,Ad,Ac,Ao] at hl;obtain ⟨v',hp,rfl,hs,hr⟩:=hl;obtain rfl:=Ai hs;cases hx with
    | epa _ _ _ _ l hρ=>
     obtain ⟨z,hz,eO⟩:=(h.rowAt hρ hm hA hr).part hp
     grind [Instr.loadAt,Instr.sureAddr]
   .cases hl
  .cases hl
 .simp only [Ar,Ad,B9] at hl
  grind [y8y]
theorem y6c {st st':St} {b e:Bool} (h:st.test b=(e,st')):st'.env=st.env/\st'.mem=st.mem/\st'.next=st.next/\(st'.ob=true->e=b/\st.ob=true):=by
 obtain ⟨env,mem,next,orc,ob⟩:=st;cases orc with
 | nil=>
  grind [St.test]
 | cons c r=>
  grind [St.test]
theorem W4 : ∀(rw:Cz) (r:Nat) (st:St) (cs:zy) (st1:St),It rw r st=(cs,st1)->st1.env=st.env/\st1.mem=st.mem/\st1.next=st.next/\(st1.ob=true->cs=rw.get r/\st.ob=true)
 | .flat g,r,st,cs,st1,h=>by simp only [It,Ad] at h;obtain ⟨rfl,rfl⟩:=h;exact ⟨rfl,rfl,rfl,fun h=>⟨rfl,h⟩⟩
 | .one r0 c0 b,r,st,cs,st1,h=>by
  unfold It at h;split at h;rename_i e st2 ht;obtain ⟨t1,t2,t3,t4⟩:=y6c ht;cases e with
  | true=>simp only [Ab,Ad] at h;obtain ⟨rfl,rfl⟩:=h;exact ⟨t1,t2,t3,fun ho=>⟨by simp only [Cz.get];rw [<-(t4 ho).1];rfl,(t4 ho).2⟩⟩
  | false=>rw [Aa] at h;obtain ⟨p1,p2,p3,p4⟩:=W4 b r st2 cs st1 h;refine ⟨p1.trans t1,p2.trans t2,p3.trans t3,fun ho=> ?_⟩;obtain ⟨q1,q2⟩:=p4 ho;exact ⟨by simp only [Cz.get];rw [<-(t4 q2).1];exact q1,(t4 q2).2⟩
 | .alt c a b,r,st,cs,st1,h=>by
  unfold It at h;split at h;rename_i e st2 ht;obtain ⟨t1,t2,t3,t4⟩:=y6c ht;cases e with
  | true=>rw [Ab] at h;obtain ⟨p1,p2,p3,p4⟩:=W4 a r st2 cs st1 h;refine ⟨p1.trans t1,p2.trans t2,p3.trans t3,fun ho=> ?_⟩;obtain ⟨q1,q2⟩:=p4 ho;exact ⟨by simp only [Cz.get];rw [<-(t4 q2).1];exact q1,(t4 q2).2⟩
  | false=>rw [Aa] at h;obtain ⟨p1,p2,p3,p4⟩:=W4 b r st2 cs st1 h;refine ⟨p1.trans t1,p2.trans t2,p3.trans t3,fun ho=> ?_⟩;obtain ⟨q1,q2⟩:=p4 ho;exact ⟨by simp only [Cz.get];rw [<-(t4 q2).1];exact q1,(t4 q2).2⟩
theorem WX {st st1:St} {t:TypeId} {x v:CA} {o:Bool} (h:v9r P st t x=some (v,o,st1)):st1.env=st.env/\st1.mem=st.mem/\st1.next=st.next/\(st1.ob=true->Mk P st.mem t x=some (v,o)/\st.ob=true):=by
 unfold v9r at h;split at h
 .split at h
  .rename_i b sz r fo _ blk hm;split at h
   .rename_i A hA;split at h;rename_i cs st2 hp;simp only [Ar,Ad] at h;obtain ⟨v',hv,rfl,rfl,rfl⟩:=h;obtain ⟨p1,p2,p3,p4⟩:=W4 _ _ _ _ _ hp;refine ⟨p1,p2,p3,fun ho=> ?_⟩;obtain ⟨q1,q2⟩:=p4 ho;refine ⟨?_,q2⟩;subst q1;have hv:FI P t (A.get r) fo=some v':=hv
    grind [Mk]
   .cases h
  .cases h
 .rename_i hx;simp only [Ar,Ad] at h
  grind [Mk]
theorem Sf {α:Type} {c:Bool} {x z:Option α} {y:α} (h:(bif c then x else z)=some y):(c=true/\x=some y)\/(c=false/\z=some y):=by grind
theorem z7n {A:Da} {r fo:Nat} {cs:zy} {st st1:St} {rw1:Cz} (h:setRow A r fo cs st=some (rw1,st1)):st1.env=st.env/\st1.mem=st.mem/\st1.next=st.next/\(st1.ob=true->((A.get r).length =A.sz->rw1.get=Xg A.get r fo cs)/\st.ob=true):=by
 obtain ⟨sz,n,rw0⟩:=A;unfold setRow at h;have full: ∀(g:Nat->zy),cs.length=sz->(g r).length =sz->(fun k=>bif Nat.beq k r then cs else g k)=Xg g r 0 cs:=fun g h1 h2=>by
  grind [Xg]
 split at h
 .rename_i g hg;simp only at hg;subst hg;rcases Sf h with ⟨_,h⟩ | ⟨_,h⟩
  .simp only [Ae,Ad] at h;obtain ⟨rfl,rfl⟩:=h;exact ⟨rfl,rfl,rfl,fun ho=>⟨fun _=>rfl,ho⟩⟩
  .rcases Sf h with ⟨hc,h2⟩ | ⟨_,h2⟩
   .simp only [Ac] at hc;obtain rfl:=Ai hc.1;have hc2:=Ai hc.2;clear h;simp only [Ae,Ad] at h2;obtain ⟨rfl,rfl⟩:=h2;exact ⟨rfl,rfl,rfl,fun ho=>⟨fun hl=>full g hc2 hl,ho⟩⟩
   .simp only [Ae,Ad] at h2;obtain ⟨rfl,rfl⟩:=h2;exact ⟨rfl,rfl,rfl,fun ho=>⟨fun _=>rfl,ho⟩⟩
 .rename_i r0 c0 b hb;simp only at hb;subst hb;split at h;rename_i e st2 ht;obtain ⟨t1,t2,t3,t4⟩:=y6c ht;rcases Sf h with ⟨hc,h2⟩ | ⟨_,h2⟩
  .simp only [Ac] at hc;obtain rfl:=Ai hc.1.2;have hc2:=Ai hc.2;clear h;simp only [Ae,Ad] at h2;obtain ⟨rfl,rfl⟩:=h2;refine ⟨t1,t2,t3,fun ho=>⟨fun hl=> ?_,(t4 ho).2⟩⟩;have he:=(t4 ho).1;rw [hc.1.1] at he;obtain rfl:=Ai he.symm;have:=full (Cz.get (.one r c0 b)) hc2 hl;show _=Xg (Cz.get (.one r c0 b)) r 0 cs
   grind [Cz.get]
  .rcases Sf h2 with ⟨hc,h2⟩ | ⟨_,h2⟩
   .clear h;simp only [Ae,Ad] at h2;obtain ⟨rfl,rfl⟩:=h2;refine ⟨t1,t2,t3,fun ho=>⟨fun hl=> ?_,(t4 ho).2⟩⟩;have he:=(t4 ho).1;rw [hc] at he;obtain rfl:=Ai he.symm;show _=Xg (Cz.get (.one r c0 b)) r fo cs;have e0:(Cz.get (.one r c0 b)) r=c0:=by simp [Cz.get]
    funext k
    grind [Cz.get,Xg]
   .cases h2
 .rename_i c a b hb;simp only at hb;subst hb;rcases Sf h with ⟨hc,h2⟩ | ⟨_,h2⟩
  .simp only [Ac] at hc;obtain rfl:=Ai hc.1;have hc2:=Ai hc.2;clear h;simp only [Ae,Ad] at h2;obtain ⟨rfl,rfl⟩:=h2;exact ⟨rfl,rfl,rfl,fun ho=>⟨fun hl=>full _ hc2 hl,ho⟩⟩
  .cases h2
structure Dg (ρ:CF) (floor:Nat) (st st':St) (v:CA) (w:World) (ρ':CF) (u:Value) (w':World):Prop where
 val:VRel ρ' v u
 rel:CH ρ' st'.mem st'.next w'
 ev:Ev ρ ρ' floor st.mem st.next st'.mem st'.next w w'
def O6 (P:Program) (o:Oper) (a:Act) (w:World) (K:CF->Value->World->Prop):Prop:=
 (∃ρ' u w',(execOp a.eval o).run P w=.ok (.value u) w'/\K ρ' u w')\/
 (∃ρ' w',(execOp a.eval o).run P w=.ok .skip w'/\K ρ' undef w')\/
 (∃f args,(execOp a.eval o).run P w=.ok (.enter f args) w/\Calls P f args w fun e w'=> ∃ρ' u,e=.returned u/\K ρ' u w')
theorem O6.wp {o:Oper} {a:Act} {w:World} {K:CF->Value->World->Prop} {next:Act->World->Prop} {Q:Exit->Act->World->Prop} (h:O6 P o a w K) (hk: ∀ρ' u w',K ρ' u w'->next (a.put o.dst u) w'):o.wp P a w next Q:=by
 unfold Oper.wp;rcases h with ⟨ρ',u,w',e,k⟩ | ⟨ρ',w',e,k⟩ | ⟨f,args,e,hc⟩
 .rw [e];exact hk _ _ _ k
 .rw [e];exact hk _ _ _ k
 .rw [e];exact hc.mono fun e w' ⟨ρ',u,he,k⟩=>by grind
theorem CH.hold {mem:CI} {next:Nat} {w:World} (h:CH ρ mem next w): ∀k,w.heap.size<=k->ρ.fz k=none:=by
 intro k hk;cases e:ρ.fz k with
 | none=>rfl
 | some o=>have:=(AC.1 (h.old k o e)).1;omega
theorem QZ {st:St} {w:World} (h:CH ρ st.mem st.next w) (floor:Nat) (cs:zy) (ty:TypeId) (vs:Array Value) (el:TypeId) (hn:cs.length<=vs.size)
  (hv: ∀(i:Nat) (h1:i<cs.length) (h2:i<vs.size),VRel ρ cs[i] vs[i]) (v:CA) (u:Value) (fB: ∀ρ',ρ' st.next=some ⟨w.heap.size,0,cs.length,vs.size⟩->VRel ρ' v u) (hel:el=ty:=by rfl):
  Dg ρ floor st (Cy st cs ty) v w (Vn ρ st.next ⟨w.heap.size,0,cs.length,vs.size⟩) u {w with heap:=w.heap.push (.cells vs el)}:=
 ⟨fB _ (by simp [Vn]),h.new cs ty vs el h.hold hn hv hel,Ev.ofNew h floor _ _ _ (Aq _)⟩
theorem x7o {st st':St} {w:World} (h:CH ρ st.mem st.next w) {floor:Nat} {t:TypeId} {x v:CA} {u z:Value} (hs:Ml P floor st t x v=some st') (hx:VRel ρ x u) (hv:VRel ρ v z):
  ∃w',(Instr.storeAt t u z).run P w=.ok () w'/\Dg ρ floor st st' (.tup []) w ρ undef w'/\st'.env=st.env/\st'.ob=st.ob:=by
 unfold Ml at hs;split at hs
 .rename_i b off i hi;simp only at hs;cases hc:(Nat.ble floor b&&Nat.beq v.cells.length i.size&&HD v&&v.cells.all DH) with
  | false=>grind
  | true=>
   rw [hc,Ab] at hs;simp only [Ac] at hc;obtain ⟨⟨⟨hf,hn⟩,hbx⟩,hsc⟩:=hc;have hf:=Ak hf;have hn:=Ai hn;split at hs
   .rename_i blk hm;cases eW: !blk.isObj&&Nat.ble (off+i.size) blk.cells.length with
    | false=>grind
    | true=>
     rw [eW,Ab] at hs;simp only [Ac,Bh] at eW;obtain ⟨hno,eW⟩:=eW;have eW:=Ak eW;obtain rfl:=Ag hs;cases hx with
     | ptr _ _ l hρ=>
      have eQ:=hv.cells hbx;have fC:=VRel.cells_oneCell eQ hsc;have eK:z.cells.toList.length=v.cells.length:=(by simpa using eQ.1.symm);obtain ⟨cur,el,hw,hsz,eI⟩:=h.write hρ hm (off:=off) (cs:=v.cells) (vs:=z.cells.toList) hno eK (by omega) (fun j h1 h2=>by simpa using eQ.2 j h1 (by grind));have eO:=run_storeCells_at P l.blk (l.base+off) el z.cells.toList 0 cur w hw (by omega) fC;refine ⟨w.setRow l.blk (cur.toList.take (l.base+off)++z.cells.toList++cur.toList.drop (l.base+off+z.cells.toList.length)).toArray,?_,⟨.tup [] #[] rfl (fun j h1 _=>by simp at h1),?_,Ev.ofWrite h hρ hf _ _⟩,rfl,rfl⟩;all_goals simp_all [Instr.storeAt,Instr.sureAddr,storeVar,Yz,St.withMem]
   .cases hs
 .cases hs
theorem z2y {get:Nat->zy} {sz n r fo:Nat} {cs:zy} (hl: ∀i,i<n->(get i).length =sz) (hf:fo+cs.length<=sz): ∀i,i<n->(Xg get r fo cs i).length =sz:=by
 intro i hi;unfold Xg;cases e:Nat.beq i r with
 | false=>exact hl i hi
 | true=>
  obtain rfl:=Ai e
  grind
theorem u2e {get:Nat->zy} {sz n r fo:Nat} {cs:zy} (hl: ∀i,i<n->(get i).length =sz) (hr:r<n) (hf:fo+cs.length<=sz):
  (rows n get).take (r*sz+fo)++cs++(rows n get).drop (r*sz+fo+cs.length)=rows n (Xg get r fo cs):=by
 have eK:=Ym n hl;have gF:=Ym n (z2y (r:=r) hl hf);have hb:(r+1)*sz<=n*sz:=AE sz hr;rw [AS,B5] at hb;have eW:r*sz+fo+cs.length<=(rows n get).length :=by omega
 apply List.ext_getElem?;intro i;rw [Kb _ _ _ _ eW];by_cases hi:i<n*sz
 .have hsz:0<sz:=by
   grind
  have hj:i %sz<sz:=BA _ hsz;have hq:i / sz<n:=Bl (by grind);have e:i=i / sz*sz+i %sz:=by rw [BJ];exact (BB i sz).symm
  generalize i / sz=q at*;generalize i %sz=j at*;subst e;rw [Vk n (z2y (r:=r) hl hf) q j hq hj,Vk n hl q j hq hj];unfold Xg;cases eq:Nat.beq q r with
  | true=>
   obtain rfl:=Ai eq
   grind
  | false=>
   have hne:=Nat.ne_of_beq_eq_false eq;simp only [Aa];rcases Nat.lt_or_gt_of_ne hne with h | h
   .have:(q+1)*sz<=r*sz:=AE sz h
    grind
   .have:(r+1)*sz<=q*sz:=AE sz h
    grind
 grind
theorem CH.setArr {mem:CI} {next:Nat} {w:World} {b:Nat} {cs:zy} {ty:TypeId} (h:CH ρ (Wv mem b (some ⟨cs,ty,none⟩)) next w) (A:Da) (hno:(⟨cs,ty,none⟩:CG).isObj =false) (h1:cs=rows A.n A.get) (h2:1<=A.sz) (h3: ∀i,i<A.n->(A.get i).length =A.sz):
  CH ρ (Wv mem b (some ⟨cs,ty,some A⟩)) next w:=by
 have some_iff: ∀c,(Yi (Wv mem b (some ⟨cs,ty,some A⟩)) c).isSome =(Yi (Wv mem b (some ⟨cs,ty,none⟩)) c).isSome :=fun c=>by
  grind [Vc]
 refine ⟨h.dom,fun c c' m m' e e' he hs hs'=>h.inj c c' m m' e e' he (by grind) (by grind),fun c m ab e hc=> ?_,h.old,fun c m e hs=>h.sep c m e (by grind),h.real,fun c hc=> ?_,h.ldom⟩
 .by_cases ecb:c=b
  .subst ecb;rw [Yw] at hc;obtain rfl:=Ag hc;obtain ⟨q,n,t,_,k⟩:=(h.blk c m ⟨cs,ty,none⟩ e (Yw _ _ _)).at hno;exact .plain ⟨q,n,t,fun B hB=>by grind,k⟩
  .rw [Zw _ _ ecb] at hc;exact h.blk c m ab e (by rw [Zw _ _ ecb];exact hc)
 .have:=h.bd c hc
  grind [Vc]
theorem Rw {cx:CN} {st st':St} {b:Bool} (h:st.owe cx b=some st'):st'.env=st.env/\st'.mem=st.mem/\st'.next=st.next/\(st'.ob=true->b=true/\st.ob=true):=by
 obtain ⟨env,mem,next,orc,ob⟩:=st
 grind [St.owe]
theorem x4k {cx:CN} {st st':St} {w:World} (h:CH ρ st.mem st.next w) {t:TypeId} {x v:CA} {u z:Value} (hs:MO P cx st t x v=some st') (hob:st'.ob=true) (hx:VRel ρ x u) (hv:VRel ρ v z):
  ∃w',(Instr.storeAt t u z).run P w=.ok () w'/\Dg ρ cx.floor st st' (.tup []) w ρ undef w':=by
 unfold MO at hs;split at hs
 .rename_i b sz r fo i hi;cases hc:(Nat.ble cx.floor b&&Nat.beq v.cells.length i.size&&HD v&&v.cells.all DH&&Nat.ble (fo+i.size) sz) with
  | false=>grind
  | true=>
   rw [hc,Ab] at hs;simp only [Ac] at hc;obtain ⟨⟨⟨⟨hf,hn⟩,hbx⟩,hsc⟩,hfo⟩:=hc;have hf:=Ak hf;have hn:=Ai hn;have hfo:=Ak hfo;split at hs
   .rename_i blk hm;split at hs
    .rename_i A hA;split at hs
     .rename_i rw1 st1 gB;obtain ⟨_,o2,o3,o4⟩:=Rw hs;obtain ⟨ho,hob1⟩:=o4 hob;obtain ⟨s1,s2,s3,s4⟩:=z7n gB;have o2:st'.mem=Wv st1.mem b (some ⟨rows A.n rw1.get,blk.ty,some ⟨A.sz,A.n,rw1⟩⟩):=o2;have o3:st'.next=st1.next:=o3
      rw [s2] at o2;rw [s3] at o3;simp only [Ac,Ao] at ho;obtain ⟨hsz,hr⟩:=ho;obtain rfl:=Ai hsz;cases hx with
      | epa _ _ _ _ l hρ=>
       have hbk:=(h.blk b l blk hρ hm).rows hA;have hno:=hbk.noObj;obtain ⟨fS,gG,eY⟩:=hbk.arr A hA;have eQ:=hv.cells hbx;have fC:=VRel.cells_oneCell eQ hsc;have eK:z.cells.toList.length=v.cells.length:=(by simpa using eQ.1.symm);have hrl:=Ym A.n eY;have hb:(r+1)*A.sz<=A.n*A.sz:=AE A.sz hr;rw [AS,B5] at hb;obtain ⟨cur,el,hw,hsz,eI⟩:=h.write hρ hm (off:=r*A.sz+fo) (cs:=v.cells) (vs:=z.cells.toList) hno eK (by grind) (fun j h1 h2=>by simpa using eQ.2 j h1 (by grind));have eO:=run_storeCells_at P l.blk (l.base+(r*A.sz+fo)) el z.cells.toList 0 cur w hw (by omega) fC;have hno2:=hbk.splice (off:=r*A.sz+fo) (cs:=v.cells) (vs:=z.cells.toList) eK (by grind) (fun j h1 h2=>by simpa using eQ.2 j h1 (by grind)) blk.ty none;rw [fS,u2e eY hr (by omega)] at eI hno2;have hrw:=(s4 hob1).1 (eY r hr);rw [<-hrw] at eI hno2;have eI:=eI.setArr ⟨A.sz,A.n,rw1⟩ hno2 rfl gG (by show∀i,i<A.n->(rw1.get i).length =A.sz;rw [hrw];exact z2y (sz:=A.sz) eY (by omega));refine ⟨w.setRow l.blk (cur.toList.take (l.base+(r*A.sz+fo))++z.cells.toList++cur.toList.drop (l.base+(r*A.sz+fo)+z.cells.toList.length)).toArray,?_,⟨.tup [] #[] rfl (fun j h1 _=>by simp at h1),?_,?_⟩⟩
       .have hzs:z.cells.size=i.size:=(by grind);simp only [Bo] at eO;simp [Instr.storeAt,Instr.sureAddr,storeVar,Yz hi,hzs,-List.append_assoc,-Array.length_toList,eO]
       all_goals grind [Ev.ofWrite]
     .cases hs
    .cases hs
   .cases hs
 .cases hs
theorem x0v (f:Nat->Value):(Array.range 0).map f= #[]:=by grind
theorem S3 (n:Nat) (l:zy):(DI n l).length =n*l.length:=by simp_all [DI]
theorem v5j (l:zy): ∀(n i:Nat) (h:i<(DI n l).length) (hl:i %l.length<l.length),(DI n l)[i]=l[i %l.length]
 | 0,i,h,_=>by simp [DI] at h
 | n+1,i,h,hl=>by
  have e:DI (n+1) l=l++DI n l:=by simp [DI,List.replicate_succ]
  have hpos:0<l.length:=by omega
  by_cases hi:i<l.length
  .simp only [e,BK hi,Nat.mod_eq_of_lt hi]
  .have h2:i - l.length<(DI n l).length :=by rw [e] at h;simp at h;omega
   simp only [e];rw [BH (by omega)];have hm:(i - l.length) %l.length=i %l.length:=(Nat.mod_eq_sub_mod (by omega)).symm;rw [v5j l n (i - l.length) h2 (by omega)];simp only [hm]
theorem RM {zero:zy} {zs:Array Value} (h:Uy ρ zero zs) (n m:Nat) (hm:m=n*zero.length):Uy ρ (DI n zero) ((Array.range m).map (zs[· %zs.size]!)):=by
 refine ⟨by rw [S3];simp [hm],fun i h1 h2=> ?_⟩;have hi:i<n*zero.length:=by grind
 have hpos:0<zero.length:=by
  grind
 have hlt:i %zero.length<zero.length:=BA _ hpos;rw [v5j zero n i h1 hlt];have hlt2:i %zero.length<zs.size:=by rw [<-h.1];exact hlt
 have:=h.2 (i %zero.length) hlt hlt2;simp only [Array.getElem_map,Array.getElem_range];rw [<-h.1]
 grind
theorem y2x {st st':St} {w:World} (h:CH ρ st.mem st.next w) (floor:Nat) {t:TypeId} {len:Nat} {ps:List (Nat×CA)} {qs:List (Nat×Value)} {v:CA} {un:Bool} (hb:Ka P un st t len ps=some (v,st')) (hp:Iz ρ ps qs):
  ∃ρ' u w',(Instr.buildSlice t len qs.toArray).run P w=.ok u w'/\Dg ρ floor st st' v w ρ' u w'/\st'.env=st.env/\st'.ob=st.ob:=by
 unfold Ka at hb;split at hb
 .rename_i e hu;split at hb
  .rename_i i zero hi hz;cases hc:(Nat.ble (len*i.size) 16777216&&Nat.beq zero.length i.size) with
   | false=>grind
   | true=>
    rw [hc,Ab] at hb;simp only [Ac] at hc;have hle:=Ak hc.1;have hzl:=Ai hc.2;split at hb
    .rename_i cells eQ;simp only [Ae,Ad] at hb;obtain ⟨rfl,rfl⟩:=hb;obtain ⟨_,z,_,_,hzr,hzv⟩:=We (ρ:=ρ) hz;have fT:=RM hzr len (len*i.size) (by rw [hzl]);obtain ⟨arr,h1,h2⟩:=Qd eQ fT hp;have eK:len<=len:=Aq _;have eT:D5 ⟨w.heap.size,0,cells.length,arr.size⟩ 0 (bif un&&Nat.beq cells.length (len*i.size) then .un i.size else .ex len) len:=by
      cases hq:(un&&Nat.beq cells.length (len*i.size)) with
      | false=>rfl
      | true=>simp only [Ac] at hq;have hq2:=Ai hq.2;have:=h2.1;exact ⟨by grind,by grind⟩
     refine ⟨_,.slice (some ⟨w.heap.size,0,none⟩) len len,_,?_,QZ h floor cells e arr e (by rw [h2.1];grind) h2.2 _ _ (fun ρ' hρ'=>.sl _ 0 _ _ _ _ hρ' eT eK),rfl,rfl⟩;have hgt: ¬len*i.size>2 ^ 24:=(by omega);by_cases h0:len*i.size=0
     .have h1':Instr.fill (fun j=>some (j*i.size,i.size)) #[] qs=some arr:=by
       grind
      simp [Instr.buildSlice,run_underlying hu,Yz hi,h0,h1',newRow,x0v]
     .have hgt': ¬2 ^ 24<len*i.size:=hgt;simp [Instr.buildSlice,run_underlying hu,Yz hi,h0,hzv,h1,newRow,hgt']
    .cases hb
  .cases hb
 .cases hb
theorem y3d {n:Int} (h0:0<=n) (h1:n<=1099511627776):IntKind.i64.wrap n=n:=by
 have hm:n %(2 ^ IntKind.i64.bits:Int)=n:=by
  apply Int.emod_eq_of_lt h0;have:(2 ^ IntKind.i64.bits:Int)=18446744073709551616:=by decide
  omega
 unfold wrap;simp only [hm];have: ¬(n>=(2 ^ (IntKind.i64.bits - 1):Int)):=by
  have:(2 ^ (IntKind.i64.bits - 1):Int)=9223372036854775808:=by decide
  omega
 simp [this]
theorem z0k {st st':St} {w:World} (h:CH ρ st.mem st.next w) (floor:Nat) {t:TypeId} {x y v:CA} {ux uy:Value} (hb:Jz P st t x y=some (v,st')) (hx:VRel ρ x ux) (hy:VRel ρ y uy):
  ∃ρ' u w',(Instr.makeSlice t ux uy).run P w=.ok u w'/\Dg ρ floor st st' v w ρ' u w'/\st'.env=st.env/\st'.ob=st.ob:=by
 unfold Jz at hb;split at hb
 .rename_i e _ l _ c hu;cases hx;cases hy;split at hb
  .rename_i i zero hi hz;cases hc:(Nat.beq zero.length i.size&&(decide (0<=l)&&decide (l<=c)&&decide (c*i.bytes<=1099511627776)&&decide (c<=1099511627776))) with
   | false=>grind
   | true=>
    rw [hc,Ab] at hb;simp only [Ac,Ao] at hc;obtain ⟨hzl,⟨⟨h0,hlc⟩,hcb⟩,hc40⟩:=hc;have hzl:=Ai hzl;simp only [Ae,Ad] at hb;obtain ⟨rfl,rfl⟩:=hb;obtain ⟨_,z,_,_,hzr,hzv⟩:=We (ρ:=ρ) hz;have fT:=RM hzr c.toNat (c.toNat*i.size) (by rw [hzl]);have wl:=y3d (n:=l) h0 (by omega);have wc:=y3d (n:=c) (by omega) hc40;have e1: ¬c<0:=(by omega);have e2: ¬(281474976710656<(i.bytes:Int)*c):=(by grind);have e3: ¬l<0:=(by omega);have e4: ¬c<l:=(by omega);by_cases hz0:c.toNat*i.size=0
    .rw [hz0] at fT;refine ⟨_,.slice (some ⟨w.heap.size,0,none⟩) l.toNat c.toNat,_,?_,QZ h floor (DI c.toNat zero) e #[] e (by rw [S3,hzl];simp [hz0]) (fun j h1 h2=>by simp at h2) _ _ (fun ρ' hρ'=>.sl _ 0 _ _ _ _ hρ' rfl (by omega)),rfl,rfl⟩;simp [Instr.makeSlice,run_underlying hu,asInt,asIntOf,run_typeInfo w hi,wl,wc,e1,e2,e3,e4,Yz hi,hz0,newRow,x0v]
    .refine ⟨_,.slice (some ⟨w.heap.size,0,none⟩) l.toNat c.toNat,_,?_,QZ h floor (DI c.toNat zero) e _ e (by rw [fT.1];grind) fT.2 _ _ (fun ρ' hρ'=>.sl _ 0 _ _ _ _ hρ' rfl (by omega)),rfl,rfl⟩;simp [Instr.makeSlice,run_underlying hu,asInt,asIntOf,run_typeInfo w hi,wl,wc,e1,e2,e3,e4,Yz hi,hz0,newRow,hzv]
  .cases hb
 .cases hb
end
section
variable {P:Program} {ρ:CF}
theorem CH.kill {mem:CI} {next:Nat} {w:World} (h:CH ρ mem next w) (b:Nat):CH ρ (Wv mem b none) next w:=
 ⟨h.dom,fun c c' m m' e e' he hs hs'=>by
  have hc:c≠b:=fun e=>by rw [e,Yw] at hs;cases hs
  have hc':c'≠b:=fun e=>by grind [Yw]
  rw [Zw _ _ hc] at hs;rw [Zw _ _ hc'] at hs';exact h.inj c c' m m' e e' he hs hs',
  fun c m ab e hc=>by
   have hcb:c≠b:=fun e=>by rw [e,Yw] at hc;cases hc
   rw [Zw _ _ hcb] at hc;exact h.blk c m ab e hc,h.old,fun c m e hs=>by
   have hcb:c≠b:=fun e=>by rw [e,Yw] at hs;cases hs
   rw [Zw _ _ hcb] at hs;exact h.sep c m e hs,h.real,fun c hc=>by
   by_cases hcb:c=b
   .rw [hcb,Yw]
   .rw [Zw _ _ hcb];exact h.bd c hc,h.ldom⟩
theorem Ev.ofKill {mem:CI} {next:Nat} {w:World} (h:CH ρ mem next w) (floor:Nat) {b:Nat} {l:CZ} (hb:ρ b=some l):Ev ρ ρ floor mem next (Wv mem b none) next w w where
 ext:=CF.le_refl _
 new _ _:=rfl
 nxt:=Aq _
 unborn k _ e cs ty hm:=by grind [Zw]
 frame _ _ hk _:=hk
 fresh k m hk e:=by have:=h.dom k m e;omega
 size:=Aq _
 os:=rfl
 tape:=rfl
 output:=rfl
 still _ _:=rfl
theorem CH.beyond {mem:CI} {next:Nat} {w:World} (h:CH ρ mem next w) {b:Nat} {l:CZ} {ab:CG} (hb:ρ b=some l) (hm:Yi mem b=some ab) (hno:ab.isObj=false) {off:Nat} {new:zy} {vs:List Value} (ty:TypeId)
  (eK:vs.length=new.length) (hoff:off<=ab.cells.length) (eW:ab.cells.length+new.length<=l.tot) (hv: ∀(i:Nat) (h1:i<new.length) (h2:i<vs.length),VRel ρ new[i] vs[i]) (hel:ab.ty=ty):
  ∃ cur el,w.heap[l.blk]? =some (.cells cur el (0,0))/\l.base+ab.cells.length+vs.length<=cur.size/\
   CH (Vn ρ next ⟨l.blk,l.base+off,ab.cells.length - off+new.length,l.tot - off⟩) (Wv (Wv mem b none) next (some ⟨ab.cells.drop off++new,ty,none⟩)) (next+1)
    (w.setRow l.blk (cur.toList.take (l.base+ab.cells.length)++vs++cur.toList.drop (l.base+ab.cells.length+vs.length)).toArray):=by
 obtain ⟨hty,hn,ht,_,cur,el,h1,h2,h3⟩:=(h.blk b l ab hb hm).at hno;have hbn:b<next:=h.dom b l hb
 have hle:=Qs (l:=⟨l.blk,l.base+off,ab.cells.length - off+new.length,l.tot - off⟩) h.none_next;have hfc:l.base+ab.cells.length+vs.length<=cur.toList.length:=by simp;omega
 have eU: ∀c m,Vn ρ next ⟨l.blk,l.base+off,ab.cells.length - off+new.length,l.tot - off⟩ c=some m->(c=next/\m=⟨l.blk,l.base+off,ab.cells.length - off+new.length,l.tot - off⟩)\/(c≠next/\ρ c=some m):=fun c m e=>by
  grind [Uv]
 have live: ∀c,c≠next->(Yi (Wv (Wv mem b none) next (some ⟨ab.cells.drop off++new,ty,none⟩)) c).isSome =true->c≠b/\(Yi mem c).isSome =true:=fun c hc hs=>by
  grind [Zw,Yw]
 refine ⟨cur,el,h1,by grind,fun c m e=> ?_,fun c c' m m' e e' he hs hs'=> ?_,fun c m ac e hc=> ?_,fun k o e=> ?_,fun c m e=> ?_,fun c m e=> ?_,fun c hc=>by rw [Zw _ _ (by omega),Zw _ _ (by omega)];exact h.bd c (by omega),⟨fun j l e=>Bs (h.ldom.1 j l e),h.ldom.2⟩⟩
 .rcases eU c m e with ⟨rfl,_⟩ | ⟨_,e⟩
  .omega
  .have:=h.dom c m e;omega
 .rcases eU c m e with ⟨hc,hl⟩ | ⟨hc,e2⟩ <;> rcases eU c' m' e' with ⟨hc',hl'⟩ | ⟨hc',e2'⟩
  .rw [hc,hc']
  .obtain ⟨hcb,hs'⟩:=live c' hc' hs';rw [hl] at he;exact absurd (h.inj c' b m' l e2' hb he.symm hs' (by rw [hm];rfl)) hcb
  .obtain ⟨hcb,hs⟩:=live c hc hs;rw [hl'] at he;exact absurd (h.inj c b m l e2 hb he hs (by rw [hm];rfl)) hcb
  .obtain ⟨_,hs⟩:=live c hc hs;obtain ⟨_,hs'⟩:=live c' hc' hs';exact h.inj c c' m m' e2 e2' he hs hs'
 .rcases eU c m e with ⟨rfl,rfl⟩ | ⟨hcn,e2⟩
  .rw [Yw] at hc;obtain rfl:=Ag hc;refine .plain ⟨by rw [setRow_heap w l.blk cur _ el (0,0) h1];grind,by simp,by simp;omega,(fun A e=>by cases e),_,el,setRow_heap w l.blk cur _ el (0,0) h1,?_,fun i hi=> ?_⟩
   .grind
   .simp only [AO,Bz] at hi;simp only [List.getElem?_toArray];rw [Kb _ _ _ _ hfc];by_cases g1:off+i<ab.cells.length
    .rw [AF (by omega),BK (by simp;omega)];obtain ⟨v,e1,e2⟩:=h3 (off+i) g1;exact ⟨v,by grind,by simpa using e2.mono hle⟩
    .rw [Az (by omega),AF (by omega),BH (by simp;omega)];have hi2:l.base+off+i - (l.base+ab.cells.length)<vs.length:=(by omega);refine ⟨vs[l.base+off+i - (l.base+ab.cells.length)],At hi2,?_⟩;have e3:i - (ab.cells.drop off).length =l.base+off+i - (l.base+ab.cells.length):=by simp;omega
     have:=hv (l.base+off+i - (l.base+ab.cells.length)) (by omega) hi2;simp only [e3];exact this.mono hle
  .have hcs:(Yi mem c).isSome =true/\c≠b:=by
    grind
   rw [Zw _ _ hcn,Zw _ _ hcs.2] at hc;refine (h.blk c m ac e2 hc).world hle (setRow_other w l.blk m.blk _ fun heq=>hcs.2 ?_);exact h.inj c b m l e2 hb heq hcs.1 (by rw [hm];rfl)
 .have e:ρ.fz k=some o:=e;have hk:=h.old k o e;rw [setRow_other]
  .exact hk
  .intro heq;have:=h.sep b l hb (by rw [hm];rfl)
   grind
 .intro hs;rcases eU c m e with ⟨rfl,rfl⟩ | ⟨hcn,e⟩
  .exact h.sep b l hb (by rw [hm];rfl)
  .exact h.sep c m e (live c hcn hs).2
 .rw [setRow_size];rcases eU c m e with ⟨rfl,rfl⟩ | ⟨_,e⟩
  .grind
  .exact h.real c m e
theorem CH.beyond2 {mem:CI} {next:Nat} {w:World} (h:CH ρ mem next w) {b:Nat} {l:CZ} {ab:CG} (hb:ρ b=some l) (hm:Yi mem b=some ab) (hno:ab.isObj=false) {off m T:Nat} {new:zy} {vs:List Value} (ty:TypeId)
  (eK:vs.length=new.length) (hoff:off<=m) (hmc:m<=ab.cells.length) (eW:m - off+new.length<=T) (hT:off+T<=l.tot) (hv: ∀(i:Nat) (h1:i<new.length) (h2:i<vs.length),VRel ρ new[i] vs[i]) (hel:ab.ty=ty):
  ∃ cur el,w.heap[l.blk]? =some (.cells cur el (0,0))/\l.base+m+vs.length<=cur.size/\
   CH (Vn ρ next ⟨l.blk,l.base+off,m - off+new.length,T⟩) (Wv (Wv mem b none) next (some ⟨(ab.cells.take m).drop off++new,ty,none⟩)) (next+1)
    (w.setRow l.blk (cur.toList.take (l.base+m)++vs++cur.toList.drop (l.base+m+vs.length)).toArray):=by
 obtain ⟨hty,hn,ht,_,cur,el,h1,h2,h3⟩:=(h.blk b l ab hb hm).at hno;have hbn:b<next:=h.dom b l hb
 have hle:=Qs (l:=⟨l.blk,l.base+off,m - off+new.length,T⟩) h.none_next;have hfc:l.base+m+vs.length<=cur.toList.length:=by simp;omega
 have eU: ∀c lm,Vn ρ next ⟨l.blk,l.base+off,m - off+new.length,T⟩ c=some lm->(c=next/\lm=⟨l.blk,l.base+off,m - off+new.length,T⟩)\/(c≠next/\ρ c=some lm):=fun c lm e=>by
  grind [Uv]
 have live: ∀c,c≠next->(Yi (Wv (Wv mem b none) next (some ⟨(ab.cells.take m).drop off++new,ty,none⟩)) c).isSome =true->c≠b/\(Yi mem c).isSome =true:=fun c hc hs=>by
  grind [Zw,Yw]
 refine ⟨cur,el,h1,by grind,fun c lm e=> ?_,fun c c' lm lm' e e' he hs hs'=> ?_,fun c lm ac e hc=> ?_,fun k o e=> ?_,fun c lm e=> ?_,fun c lm e=> ?_,fun c hc=>by rw [Zw _ _ (by omega),Zw _ _ (by omega)];exact h.bd c (by omega),⟨fun j l e=>Bs (h.ldom.1 j l e),h.ldom.2⟩⟩
 .rcases eU c lm e with ⟨rfl,_⟩ | ⟨_,e⟩
  .omega
  .have:=h.dom c lm e;omega
 .rcases eU c lm e with ⟨hc,hl⟩ | ⟨hc,e2⟩ <;> rcases eU c' lm' e' with ⟨hc',hl'⟩ | ⟨hc',e2'⟩
  .rw [hc,hc']
  .obtain ⟨hcb,hs'⟩:=live c' hc' hs';rw [hl] at he;exact absurd (h.inj c' b lm' l e2' hb he.symm hs' (by rw [hm];rfl)) hcb
  .obtain ⟨hcb,hs⟩:=live c hc hs;rw [hl'] at he;exact absurd (h.inj c b lm l e2 hb he hs (by rw [hm];rfl)) hcb
  .obtain ⟨_,hs⟩:=live c hc hs;obtain ⟨_,hs'⟩:=live c' hc' hs';exact h.inj c c' lm lm' e2 e2' he hs hs'
 .rcases eU c lm e with ⟨rfl,rfl⟩ | ⟨hcn,e2⟩
  .rw [Yw] at hc;obtain rfl:=Ag hc;have htl:((ab.cells.take m).drop off).length =m - off:=by grind
   refine .plain ⟨by rw [setRow_heap w l.blk cur _ el (0,0) h1];grind,by grind,eW,(fun A e=>by cases e),_,el,setRow_heap w l.blk cur _ el (0,0) h1,?_,fun i hi=> ?_⟩
   .grind
   .simp only [] at hi;rw [AO,htl] at hi;simp only [List.getElem?_toArray];rw [Kb _ _ _ _ hfc];by_cases g1:off+i<m
    .rw [AF (by omega),BK (by grind)];obtain ⟨v,e1,e2⟩:=h3 (off+i) (by omega);exact ⟨v,by grind,by simpa using e2.mono hle⟩
    .rw [Az (by omega),AF (by omega),BH (by grind)];have hi2:l.base+off+i - (l.base+m)<vs.length:=(by omega);refine ⟨vs[l.base+off+i - (l.base+m)],At hi2,?_⟩;have e3:i - ((ab.cells.take m).drop off).length =l.base+off+i - (l.base+m):=(by grind);have:=hv (l.base+off+i - (l.base+m)) (by omega) hi2;simp only [e3];exact this.mono hle
  .have hcs:(Yi mem c).isSome =true/\c≠b:=by
    grind
   rw [Zw _ _ hcn,Zw _ _ hcs.2] at hc;refine (h.blk c lm ac e2 hc).world hle (setRow_other w l.blk lm.blk _ fun heq=>hcs.2 ?_);exact h.inj c b lm l e2 hb heq hcs.1 (by rw [hm];rfl)
 .have e:ρ.fz k=some o:=e;have hk:=h.old k o e;rw [setRow_other]
  .exact hk
  .intro heq;have:=h.sep b l hb (by rw [hm];rfl)
   grind
 .intro hs;rcases eU c lm e with ⟨rfl,rfl⟩ | ⟨hcn,e⟩
  .exact h.sep b l hb (by rw [hm];rfl)
  .exact h.sep c lm e (live c hcn hs).2
 .rw [setRow_size];rcases eU c lm e with ⟨rfl,rfl⟩ | ⟨_,e⟩
  .grind
  .exact h.real c lm e
theorem Ev.ofBeyond {mem:CI} {next:Nat} {w:World} (h:CH ρ mem next w) {floor b:Nat} {l:CZ} (hb:ρ b=some l) (hf:floor<=b) (l':CZ) (hl:l'.blk=l.blk) (o:Option CG) (cs:Array Value):
  Ev ρ (Vn ρ next l') floor mem next (Wv (Wv mem b none) next o) (next+1) w (w.setRow l.blk cs) where
 ext:=Qs h.none_next
 new k hk:=by simp [Vn,Bp hk]
 nxt:=B4 _
 unborn k hk e cs ty hm:=by
  grind [Zw]
 frame k o hk hfr:=by
  grind [setRow_other]
 fresh k m hk e:=by
  rw [Uv] at e;by_cases hkn:k=next
  .grind
  .rw [Az hkn] at e;have:=h.dom k m e;omega
 size:=by simp_all
 os:=rfl
 tape:=rfl
 output:=rfl
 still _ _:=rfl
theorem Vs {mem:CI} {next:Nat} {w:World} (h:CH ρ mem next w) {sz:Nat} {x:CA} {u:Value} {len:Nat} {cs:zy} (hc:Xq mem sz x=some (len,cs)) (hx:VRel ρ x u) (hl:cs.length=len*sz):
  (∀w,(Builtin.lenOf u).run P w=.ok len w)/\ ∀n,n<=len-> ∃vs:Array Value,Uy ρ (cs.take (n*sz)) vs/\ ∀d,(Builtin.firstCells sz n u).run P {w with drawn:=d}=.ok vs {w with drawn:=d}:=by
 unfold Xq at hc;split at hc
 .simp only [Ae,Ad] at hc;obtain ⟨rfl,rfl⟩:=hc;cases hx;refine ⟨fun w=>by simp [Builtin.lenOf],fun n hn=>⟨#[],⟨by simp,fun i h1 _=>by simp at h1⟩,fun d=>by simp [Builtin.firstCells]⟩⟩
 .rename_i b off len' cap;split at hc
  .rename_i blk hm;obtain ⟨hno,hc⟩:=Mp hc;simp only [Ar,Ad] at hc;obtain ⟨p,hp,rfl,rfl⟩:=hc;cases hx with
   | sl _ _ _ _ l c hρ eT eK=>
    refine ⟨fun w=>by simp [Builtin.lenOf],fun n hn=> ?_⟩;obtain ⟨_,hpl,hle⟩:=Mb hp;have hmul:n*sz<=len'*sz:=AE sz hn;have hex: ∀d,∃vs:Array Value,Uy ρ (p.take (n*sz)) vs/\(Builtin.firstCells sz n (.slice (some ⟨l.blk,l.base+off,none⟩) len' c)).run P {w with drawn:=d}=.ok vs {w with drawn:=d}:=by
     intro d;obtain ⟨vs,hs,hv,hr⟩:=((h.drawn d).cellsAt hρ hm hno).load (P:=P) (off:=off) (n:=n*sz) (by omega);refine ⟨vs,⟨by simp;omega,fun i h1 h2=> ?_⟩,by simpa [Builtin.firstCells] using hr⟩
     grind
    obtain ⟨vs,hv,hr⟩:=hex 0;refine ⟨vs,hv,fun d=> ?_⟩;obtain ⟨b',e1,e2⟩: ∃b',(∀d,(loadCells ⟨l.blk,l.base+off,none⟩ (n*sz)).run P {w with drawn:=d}=.ok b' {w with drawn:=d})/\True:=by
     have hc: ∀d j,j<n*sz->({w with drawn:=d}:World).cell? ((⟨l.blk,l.base+off,none⟩:Addr).add j)=some ((w.cell? ⟨l.blk,l.base+(off+j),none⟩).getD undef):=by
      intro d j hj;obtain ⟨v,e,_⟩:=(h.cellsAt hρ hm hno) (off+j) (by omega)
      rw [Xf,AK];show w.cell? _=_;rw [e];rfl
     simp_all [run_loadCells]
    grind [Builtin.firstCells]
  .cases hc
 .cases hc
theorem x6z (n:Nat): ∀(r c:Nat),c<n->Builtin.growBy n r c<=n+(n+768) / 4
 | 0,c,h=>by simp only [Builtin.growBy];omega
 | r+1,c,h=>by
  unfold Builtin.growBy;rw [Az (by omega)];by_cases h2:c+(c+768) / 4<n
  .exact x6z n r _ h2
  .cases r with
   | zero=>simp only [Builtin.growBy];omega
   | succ r=>unfold Builtin.growBy;rw [AF (by omega)];omega
theorem y7a (n c:Nat) (h:c<n):Builtin.nextslicecap n c<=2*n+192:=by
 grind [Builtin.nextslicecap,x6z]
theorem v4y {need c bytes:Nat} (h:(need+1)*(bytes+1)<=1099511627776) (hc:c<need): ¬Builtin.nextslicecap need c*bytes>2 ^ 48:=by
 have h1:=y7a need c hc;have h2:Builtin.nextslicecap need c*bytes<=(192*(need+1))*(bytes+1):=Nat.mul_le_mul (by omega) (by omega)
 grind
end
end Go.Am
end
