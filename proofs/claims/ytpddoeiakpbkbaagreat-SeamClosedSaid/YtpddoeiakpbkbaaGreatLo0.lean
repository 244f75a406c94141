/- A part. -/
import Derived.Calls
import Derived.Orders
import Derived.KernelRfl
import Derived.DeepKeys
import Derived.Below
import Derived.Laws.Sem
import Derived.Laws.Tables
import Derived.Laws.CopyRow
import Derived.Laws.Cells
import Derived.Laws.Entries
import Derived.Laws.StructEq
import Derived.ChangeKeysEq
import Derived.WalkSpells
import Derived.IntWalk
set_option maxRecDepth 99999
set_option maxHeartbeats 0
set_option linter.unusedVariables false
set_option linter.unusedSimpArgs false
noncomputable section
namespace Go.Am
open IntKind (wrap)
theorem Aa:type_of%@cond_false:=@cond_false
theorem Ab:type_of%@cond_true:=@cond_true
theorem Ac:type_of%@Prod.mk.injEq:=@Prod.mk.injEq
theorem Ad:type_of%@Option.some.injEq:=@Option.some.injEq
theorem Ae:type_of%@Bool.and_eq_true:=@Bool.and_eq_true
theorem Af:type_of%@Nat.zero_add:=@Nat.zero_add
theorem Ag:type_of%@Option.some.inj:=@Option.some.inj
theorem Ah:type_of%@Bool.and_true:=@Bool.and_true
theorem Ai:type_of%@Bool.true_and:=@Bool.true_and
theorem Aj:type_of%@Nat.eq_of_beq_eq_true:=@Nat.eq_of_beq_eq_true
theorem Ak:type_of%@Nat.le_of_ble_eq_true:=@Nat.le_of_ble_eq_true
theorem Al:type_of%@decide_eq_true:=@decide_eq_true
theorem An:type_of%@Option.map_eq_some_iff:=@Option.map_eq_some_iff
theorem Ao:type_of%@decide_true:=@decide_true
theorem Aq:type_of%@Nat.le_refl:=@Nat.le_refl
theorem Ar:type_of%@decide_eq_true_eq:=@decide_eq_true_eq
theorem As:type_of%@List.drop_eq_nil_of_le:=@List.drop_eq_nil_of_le
theorem At:type_of%@List.all_eq_true:=@List.all_eq_true
theorem Au:type_of%@List.getElem?_eq_getElem:=@List.getElem?_eq_getElem
theorem Av:type_of%@decide_eq_false:=@decide_eq_false
theorem Aw:type_of%@if_neg:=@if_neg
theorem Ay:type_of%@Bool.not_true:=@Bool.not_true
theorem Az:type_of%@of_decide_eq_true:=@of_decide_eq_true
theorem AA:type_of%@Nat.zero_le:=@Nat.zero_le
theorem AB:type_of%@Bool.not_false:=@Bool.not_false
theorem AC:type_of%@Nat.mul_le_mul_right:=@Nat.mul_le_mul_right
theorem AD:type_of%@Nat.add_assoc:=@Nat.add_assoc
theorem AE:type_of%@List.append_nil:=@List.append_nil
theorem AF:type_of%@Nat.le_trans:=@Nat.le_trans
theorem AG:type_of%@if_pos:=@if_pos
theorem AH:type_of%@List.mem_cons:=@List.mem_cons
theorem AI:type_of%@List.mem_append:=@List.mem_append
theorem AJ:type_of%@List.getElem_of_mem:=@List.getElem_of_mem
theorem AK:type_of%@List.mem_flatMap:=@List.mem_flatMap
theorem AL:type_of%@Nat.not_lt_zero:=@Nat.not_lt_zero
theorem AM:type_of%@List.append_assoc:=@List.append_assoc
theorem AN:type_of%@Array.getElem?_eq_some_iff:=@Array.getElem?_eq_some_iff
theorem AO:type_of%@List.mem_map:=@List.mem_map
theorem AP:type_of%@List.length_append:=@List.length_append
theorem AQ:type_of%@List.pairwise_cons:=@List.pairwise_cons
theorem AR:type_of%@congrArg:=@congrArg
theorem AS:type_of%@List.drop_zero:=@List.drop_zero
theorem AT:type_of%@List.map_cons:=@List.map_cons
theorem AU:type_of%@Nat.add_mul:=@Nat.add_mul
theorem AV:type_of%@List.getElem_mem:=@List.getElem_mem
theorem AW:type_of%@List.take_add_one:=@List.take_add_one
theorem AX:type_of%@List.mem_filter:=@List.mem_filter
theorem AY:type_of%@List.pairwise_iff_getElem:=@List.pairwise_iff_getElem
theorem AZ:type_of%@Nat.ble_eq_true_of_le:=@Nat.ble_eq_true_of_le
theorem A0:type_of%@Nat.lt_of_lt_of_le:=@Nat.lt_of_lt_of_le
theorem A1:type_of%@Nat.eq_or_lt_of_le:=@Nat.eq_or_lt_of_le
theorem A2:type_of%@List.take_of_length_le:=@List.take_of_length_le
theorem A3:type_of%@Bool.eq_false_iff:=@Bool.eq_false_iff
theorem A5:type_of%@Int.le_refl:=@Int.le_refl
theorem A6:type_of%@List.mem_range:=@List.mem_range
theorem A7:type_of%@Nat.lt_or_ge:=@Nat.lt_or_ge
theorem A8:type_of%@List.map_append:=@List.map_append
theorem A9:type_of%@Nat.div_lt_of_lt_mul:=@Nat.div_lt_of_lt_mul
theorem Ba:type_of%@Classical.byContradiction:=@Classical.byContradiction
theorem Bb:type_of%@decide_eq_true_iff:=@decide_eq_true_iff
theorem Bc:type_of%@List.nil_append:=@List.nil_append
theorem Bd:type_of%@Nat.add_zero:=@Nat.add_zero
theorem Be:type_of%@Bool.false_and:=@Bool.false_and
theorem Bf:type_of%@of_decide_eq_false:=@of_decide_eq_false
theorem Bg:type_of%@List.getElem?_eq_some_iff:=@List.getElem?_eq_some_iff
theorem Bh:type_of%@and_true:=@and_true
theorem Bi:type_of%@List.map_nil:=@List.map_nil
theorem Bj:type_of%@List.range_succ:=@List.range_succ
theorem Bk:type_of%@decide_eq_false_iff_not:=@decide_eq_false_iff_not
theorem Bl:type_of%@Nat.lt_succ_of_lt:=@Nat.lt_succ_of_lt
theorem Bm:type_of%@Nat.lt_trichotomy:=@Nat.lt_trichotomy
theorem Bn:type_of%@List.length_cons:=@List.length_cons
theorem Bo:type_of%@List.not_mem_nil:=@List.not_mem_nil
theorem Bp:type_of%@Int.zero_mul:=@Int.zero_mul
theorem Bq:type_of%@Nat.mod_lt:=@Nat.mod_lt
theorem Br:type_of%@List.getElem_take:=@List.getElem_take
theorem Bs:type_of%@Bool.or_eq_true:=@Bool.or_eq_true
theorem Bt:type_of%@Nat.div_add_mod:=@Nat.div_add_mod
theorem Bu:type_of%@List.length_map:=@List.length_map
theorem Bv:type_of%@Int.add_zero:=@Int.add_zero
theorem Bw:type_of%@Array.toList_map:=@Array.toList_map
theorem Bx:type_of%@List.countP_append:=@List.countP_append
theorem By:type_of%@List.getElem_append_right:=@List.getElem_append_right
theorem Bz:type_of%@Array.getElem?_eq_getElem:=@Array.getElem?_eq_getElem
theorem BA:type_of%@List.drop_eq_getElem_cons:=@List.drop_eq_getElem_cons
theorem BB:type_of%@Bool.or_eq_false_iff:=@Bool.or_eq_false_iff
theorem BC:type_of%@Nat.mul_comm:=@Nat.mul_comm
theorem BD:type_of%@List.getElem_append_left:=@List.getElem_append_left
theorem BE:type_of%@List.pairwise_append:=@List.pairwise_append
theorem BF:type_of%@List.length_set:=@List.length_set
theorem BG:type_of%@List.sum_append:=@List.sum_append
theorem BH:type_of%@Bool.and_eq_true_iff:=@Bool.and_eq_true_iff
theorem BI:type_of%@Bool.not_eq_true':=@Bool.not_eq_true'
theorem BJ:type_of%@List.ext_getElem:=@List.ext_getElem
theorem BK:type_of%@Nat.ne_of_lt:=@Nat.ne_of_lt
theorem BL:type_of%@Int.zero_add:=@Int.zero_add
theorem BM:type_of%@List.mem_iff_getElem:=@List.mem_iff_getElem
theorem BN:type_of%@bne_iff_ne:=@bne_iff_ne
theorem BO:type_of%@Int.mul_zero:=@Int.mul_zero
theorem BQ:type_of%@List.countP_eq_zero:=@List.countP_eq_zero
theorem BR:type_of%@List.map_congr_left:=@List.map_congr_left
theorem BS:type_of%@List.any_cons:=@List.any_cons
theorem BT:type_of%@List.sum_cons:=@List.sum_cons
theorem BU:type_of%@List.mem_singleton:=@List.mem_singleton
theorem BV:type_of%@Nat.one_mul:=@Nat.one_mul
theorem BW:type_of%@Nat.lt_succ_self:=@Nat.lt_succ_self
theorem BX:type_of%@List.length_take:=@List.length_take
theorem BY:type_of%@Nat.lt_irrefl:=@Nat.lt_irrefl
theorem BZ:type_of%@Int.mul_assoc:=@Int.mul_assoc
theorem B0:type_of%@Nat.le_succ:=@Nat.le_succ
theorem B1:type_of%@or_false:=@or_false
def bl (n m:Nat):List Bool:=Nat.rec (motive:=fun _=>Nat -> List Bool) (fun _=>[]) (fun _ r m=>Nat.beq (m%2) 1::r (m/2)) n m
inductive Fc where
 | ex (k:Nat)
 | un (sz:Nat)
inductive B2 where
 | undef
 | bool (b:Bool)
 | int (k:IntKind) (n:Int)
 | str (s:List UInt8)
 | agg (cs:List B2)
 | tup (vs:List B2)
 | ptr (b off:Nat)
 | nilp
 | sl (b off len:Nat) (cap:Fc)
 | nils
 | fn (f:FuncId) (caps:List B2)
 | nilf
  | fnb (f:FuncId) (first:List B2)
 | ifc (t:TypeId) (v:B2)
 | nili
 | dat (len:Nat) (get:Nat->List B2)
 | dptr (cs:List B2)
  | sla (b sz off len:Nat) (cap:Fc)
  | epa (b sz i fo:Nat)
  | yld (j:Nat)
  | slv (b sz off len:Nat)
  | nnl (len:Nat) (get:Nat->List B2)
inductive T (α:Type) where
 | leaf
 | node (v:α) (l r:T α)
def T.get {α:Type} (d:α) (t:T α):Nat->α:=
 T.rec (motive:=fun _=>Nat->α) (fun _=>d)
  (fun v _ _ gl gr n=>Nat.rec (motive:=fun _=>α) v (fun m _=>bif Nat.beq (m %2) 0 then gl (m / 2) else gr (m / 2)) n) t
def T.setF {α:Type} (d:α) (v:α) (f:Nat):T α->Nat->T α:=
 Nat.rec (motive:=fun _=>T α->Nat->T α) (fun t _=>t)
  (fun _ rec t n=>
   T.casesOn (motive:=fun _=>T α) t
    (Nat.rec (motive:=fun _=>T α) (.node v .leaf .leaf)
     (fun m _=>bif Nat.beq (m %2) 0 then .node d (rec .leaf (m / 2)) .leaf else .node d .leaf (rec .leaf (m / 2))) n)
    (fun u l r=>Nat.rec (motive:=fun _=>T α) (.node v l r)
     (fun m _=>bif Nat.beq (m %2) 0 then .node u (rec l (m / 2)) r else .node u l (rec r (m / 2))) n)) f
def T.set {α:Type} (d:α) (t:T α) (n:Nat) (v:α):T α:=T.setF d v (n+1) t n
inductive D3 where
 | flat (g:Nat->List B2)
 | one (r:Nat) (cs:List B2) (b:D3)
 | alt (c:Nat->Bool) (a b:D3)
def D3.get :D3->Nat->List B2
 | .flat g=>g
 | .one r cs b=>fun k=>bif Nat.beq k r then cs else b.get k
 | .alt c a b=>fun k=>bif c k then a.get k else b.get k
instance : Coe (Nat->List B2) D3:=⟨.flat⟩
structure GS where
 sz:Nat
 n:Nat
 rw:D3
def GS.get (A:GS):Nat->List B2:=A.rw.get
def Ya (n:Nat) (get:Nat->List B2):List B2:=(List.range n).flatMap get
structure CG where
 cells:List B2
 ty:TypeId
 arr:Option GS
abbrev CD :=T (Option CG)
def Yr (m:CD) (b:Nat):Option CG:=T.get none m b
def Wb (m:CD) (b:Nat) (o:Option CG):CD:=T.set none m b o
structure CL where
 n:Nat
 floor:Nat
 sym:Bool
structure St where
 env:T B2
 mem:CD
 next:Nat
 orc:List Bool
 ob:Bool
def St.tmp :St->Nat->B2
 | ⟨env,_,_,_,_⟩,t=>T.get .undef env t
def St.put (cx:CL):St->Option Tmp->B2->Option St
 | ⟨env,mem,next,orc,ob⟩,some d,v=>bif Nat.ble (d+1) cx.n then some ⟨T.set .undef env d v,mem,next,orc,ob⟩ else none
 | st,none,_=>some st
def St.withMem :St->CD->St
 | ⟨env,_,next,orc,ob⟩,m=>⟨env,m,next,orc,ob⟩
def St.withEnv :St->T B2->St
 | ⟨_,mem,next,orc,ob⟩,e=>⟨e,mem,next,orc,ob⟩
def St.owe (cx:CL):St->Bool->Option St
 | ⟨env,mem,next,orc,ob⟩,b=>bif cx.sym then some ⟨env,mem,next,orc,b&&ob⟩ else bif b then some ⟨env,mem,next,orc,ob⟩ else none
def St.test :St->Bool->Bool×St
 | ⟨env,mem,next,[],ob⟩,b=>(b,⟨env,mem,next,[],ob⟩)
 | ⟨env,mem,next,e::r,ob⟩,b=>(e,⟨env,mem,next,r,(b == e)&&ob⟩)
def St.nextO :St->Bool
 | ⟨_,_,_,[],_⟩=>false
 | ⟨_,_,_,e::_,_⟩=>e
def St.dropO :St->St
 | ⟨env,mem,next,orc,ob⟩=>⟨env,mem,next,orc.tail,ob⟩
def N2 :Value->B2
 | .bool b=>.bool b
 | .int k n=>.int k n
 | .string s=>.str s.data.toList
 | .pointer none=>.nilp
 | .slice none 0 0=>.nils
 | .nilFunc =>.nilf
 | .nilIface =>.nili
 | _=>.undef
def PZ :Value->B2
 | .agg cs=>.agg (cs.toList.map N2)
 | v=>N2 v
def St.eval (st:St):Operand->B2
 | .tmp t=>st.tmp t
 | .const v=>PZ v
 | .global _=>.undef
 | .func f=>.fn f []
def B2.cells :B2->List B2
 | .agg cs=>cs
 | v=>[v]
def HX :B2->Bool
 | .undef | .tup _=>false
 | _=>true
def t2a :B2->Bool
 | .slv _ _ _ _ | .sl _ _ _ _ | .sla _ _ _ _ _ | .ptr _ _ | .epa _ _ _ _ | .nils =>false
 | _=>true
def DP :B2->Bool
 | .undef | .agg _ | .tup _=>false
 | _=>true
def u0t (P:Program) (t:TypeId):Option Bool:=
 match P.underlying t with
 | some (.struct _) | some (.array _ _)=>some true
 | some _=>some false
 | none=>none
def cut (cs:List B2) (off n:Nat):Option (List B2):=
 let p:=(cs.drop off).take n
 bif Nat.beq p.length n then some p else none
def F3 (P:Program) (t:TypeId) (cs:List B2) (off:Nat):Option B2:=
 match u0t P t,P.info? t with
 | some true,some i=>(cut cs off i.size).map .agg
 | some false,some _=>cs[off]?
 | _,_=>none
def HY (rec:TypeId->B2->B2->Option Bool) (P:Program) (xs ys:List B2):List (TypeId×Nat)->Option Bool
 | []=>some true
 | (t,off)::r=>
  match F3 P t xs off,F3 P t ys off with
  | some a,some b=>match rec t a b,HY rec P xs ys r with
   | some e,some f=>some (e&&f)
   | _,_=>none
  | _,_=>none
def Rm (P:Program):Nat->TypeId->B2->B2->Option Bool
 | 0,_,_,_=>none
 | d+1,t,x,y=>
  match P.underlying t with
  | some .bool =>match x,y with
   | .bool a,.bool b=>some (a == b)
   | _,_=>none
  | some (.int _)=>match x,y with
   | .int k a,.int k' b=>if k=k' then some (a == b) else none
   | _,_=>none
  | some .string =>match x,y with
   | .str a,.str b=>some (a == b)
   | _,_=>none
  | some (.array n e)=>match x,y,P.info? e with
   | .agg xs,.agg ys,some i=>HY (Rm P d) P xs ys ((List.range n).map fun j=>(e,j*i.size))
   | _,_,_=>none
  | some (.struct fs)=>match x,y with
   | .agg xs,.agg ys=>
    bif P.stoodInHeld t then none else bif fs.toList.any (fun f=>f.name == "_") then none else
    HY (Rm P d) P xs ys (fs.toList.map fun f=>(f.type,f.offset))
   | _,_=>none
  | _=>none
def TG (op:BinOp) (k:IntKind) (a b:Int):Option Int:=
 match op with
 | .and =>some (k.wrap ((BitVec.ofInt k.bits a)&&& (BitVec.ofInt k.bits b)).toNat)
 | .or =>some (k.wrap ((BitVec.ofInt k.bits a)||| (BitVec.ofInt k.bits b)).toNat)
 | .xor =>some (k.wrap ((BitVec.ofInt k.bits a) ^^^ (BitVec.ofInt k.bits b)).toNat)
 | .andNot =>some (k.wrap ((BitVec.ofInt k.bits a)&&& ~~~(BitVec.ofInt k.bits b)).toNat)
 | _=>none
def Rn (P:Program) (op:BinOp) (t:TypeId) (x y:B2):Option (B2×Bool):=
 match x,y with
 | .int k a,.int k' b=>
  match op with
  | .shl =>some (.int k (k.wrap (a*2 ^ (min b.toNat k.bits))),!decide (b<0))
  | .shr =>some (.int k (a.fdiv (2 ^ (min b.toNat k.bits))),!decide (b<0))
  | _=>if k=k' then
    match op with
    | .add =>some (.int k (k.wrap (a+b)),true)
    | .sub =>some (.int k (k.wrap (a - b)),true)
    | .mul =>some (.int k (k.wrap (a*b)),true)
    | .quo =>some (.int k (k.wrap (a.tdiv b)),!decide (b=0))
    | .rem =>some (.int k (a.tmod b),!decide (b=0))
    | .eql =>some (.bool (a == b),true)
    | .neq =>some (.bool (a != b),true)
    | .lss =>some (.bool (decide (a<b)),true)
    | .leq =>some (.bool (decide (a<=b)),true)
    | .gtr =>some (.bool (decide (a>b)),true)
    | .geq =>some (.bool (decide (a>=b)),true)
    | op=>(TG op k a b).map fun n=>(.int k n,true)
   else none
 | .bool a,.bool b=>match P.underlying t with
  | some .bool =>match op with
   | .eql =>some (.bool (a == b),true)
   | .neq =>some (.bool (!(a == b)),true)
   | _=>none
  | _=>none
 | .agg a,.agg b=>
  bif P.eqGuardType P.depth t then none else
  match op with
  | .eql =>(Rm P 30 t (.agg a) (.agg b)).map fun r=>(.bool r,true)
  | .neq =>(Rm P 30 t (.agg a) (.agg b)).map fun r=>(.bool (!r),true)
  | _=>none
 | .sl _ _ _ _,.nils =>match P.underlying t with
  | some (.slice _)=>match op with
   | .eql =>some (.bool false,true)
   | .neq =>some (.bool true,true)
   | _=>none
  | _=>none
 | .nnl _ _,.nils =>match P.underlying t with
  | some (.slice _)=>match op with
   | .eql =>some (.bool false,true)
   | .neq =>some (.bool true,true)
   | _=>none
  | _=>none
 | .nils,.nils =>match P.underlying t with
  | some (.slice _)=>match op with
   | .eql =>some (.bool true,true)
   | .neq =>some (.bool false,true)
   | _=>none
  | _=>none
 | .str a,.str b=>match op with
  | .eql =>some (.bool (a == b),true)
  | .neq =>some (.bool (!(a == b)),true)
  | _=>none
 | _,_=>none
def aUn (op:UnOp) (x:B2):Option B2:=
 match op,x with
 | .neg,.int k n=>some (.int k (k.wrap (0 - n)))
 | .xor,.int k n=>(TG .xor k (if k.signed then -1 else k.max) n).map (.int k)
 | .not,.bool b=>some (.bool !b)
 | _,_=>none
def He (place:Nat->Option (Nat×Nat)) (cells:List B2):List (Nat×B2)->Option (List B2)
 | []=>some cells
 | (i,v)::r=>
  match place i with
  | none=>none
  | some (off,size)=>
   bif HX v&&Nat.beq v.cells.length size&&Nat.ble (off+size) cells.length then
    He place (cells.take off++v.cells++cells.drop (off+size)) r
   else none
def E8 (P:Program) (t:TypeId):Option (List B2):=
 match P.info? t with
 | some i=>i.zero.map fun v=>(PZ v).cells
 | none=>none
def S4 (P:Program):List Field->Option (List (Nat×Nat))
 | []=>some []
 | f::r=>match P.info? f.type,S4 P r with
  | some i,some l=>some ((f.offset,i.size)::l)
  | _,_=>none
def u3l (P:Program) (t:TypeId) (parts:List (Nat×B2)):Option B2:=
 match P.underlying t,E8 P t with
 | some (.struct fs),some zero=>match S4 P fs.toList with
  | some pl=>(He (pl[·]?) zero parts).map .agg
  | none=>none
 | some (.array _ e),some zero=>match P.info? e with
  | some i=>(He (fun j=>some (j*i.size,i.size)) zero parts).map .agg
  | none=>none
 | _,_=>none
def y3b (P:Program) (t:TypeId) (x i:B2):Option (B2×Bool):=
 match P.underlying t,x,i with
 | some (.array len e),.ptr b off,.int _ i=>(P.info? e).map fun s=>(.ptr b (off+i.toNat*s.size),decide (0<=i/\i<len))
 | some (.array len e),.dptr cs,.int _ i=>(P.info? e).map fun s=>(.dptr (cs.drop (i.toNat*s.size)),decide (0<=i/\i<len))
 | some (.slice e),.sl b off len _,.int _ i=>(P.info? e).map fun s=>(.ptr b (off+i.toNat*s.size),decide (0<=i/\i<len))
 | some (.slice e),.dat len get,.int _ i=>(P.info? e).map fun s=>(.dptr (get i.toNat),decide (0<=i/\i<len)&&Nat.beq (get i.toNat).length s.size)
 | some (.slice e),.sla b sz off len _,.int _ i=>(P.info? e).map fun s=>(.epa b sz (off+i.toNat) 0,decide (0<=i/\i<len)&&Nat.beq s.size sz)
 | some (.slice e),.slv b sz off len,.int _ i=>(P.info? e).map fun s=>(.epa b sz (off+i.toNat) 0,decide (0<=i/\i<len)&&Nat.beq s.size sz)
 | some (.array len e),.epa b sz r fo,.int _ i=>(P.info? e).map fun s=>(.epa b sz r (fo+i.toNat*s.size),decide (0<=i/\i<len))
 | _,_,_=>none
def y3c (P:Program) (t:TypeId) (x:B2) (f:Nat):Option B2:=
 match P.underlying t with
 | some (.struct fs)=>match fs[f]? with
  | some f=>match P.info? f.type with
   | some i=>bif Nat.beq i.size 0 then none else match x with
    | .ptr b off=>some (.ptr b (off+f.offset))
    | .dptr cs=>some (.dptr (cs.drop f.offset))
    | .epa b sz r fo=>some (.epa b sz r (fo+f.offset))
    | _=>none
   | none=>none
  | none=>none
 | _=>none
def u3j (P:Program) (t:TypeId) (x:B2) (f:Nat):Option B2:=
 match P.underlying t,x with
 | some (.struct fs),.agg cs=>match fs[f]? with
  | some f=>F3 P f.type cs f.offset
  | none=>none
 | _,_=>none
def u3i (P:Program) (t:TypeId) (x i:B2):Option (B2×Bool):=
 match P.underlying t,x,i with
 | some (.array len e),.agg cs,.int _ i=>
  match P.info? e with
  | some s=>(F3 P e cs (i.toNat*s.size)).map fun v=>(v,decide (0<=i/\i<len))
  | none=>none
 | some .string,.str s,.int _ i=>(s[i.toNat]?).map fun b=>(.int .u8 b.toNat,decide (0<=i))
 | _,_,_=>none
def Wt (x y:Int):Int:=if y<x then y else x
def Wf (x y:Int):Int:=if y>x then y else x
def Tx (k:IntKind) (x:Int):List B2->Option Int
 | []=>some x
 | .int _ y::r=>Tx k (Wt x y) r
 | _=>none
def Tw (k:IntKind) (x:Int):List B2->Option Int
 | []=>some x
 | .int _ y::r=>Tw k (Wf x y) r
 | _=>none
def X8 (P:Program) (b:Builtin) (argTypes:List TypeId) (args:List B2):Option B2:=
 match b,argTypes,args with
 | .len,t::_,x::_=>match P.underlying t,x with
  | some .string,.str s=>some (.int .i64 s.length)
  | some (.array n _),_=>some (.int .i64 n)
  | some (.slice _),.sl _ _ n _=>some (.int .i64 n)
  | some (.slice _),.nils =>some (.int .i64 0)
  | some (.slice _),.dat n _=>some (.int .i64 n)
  | some (.slice _),.sla _ _ _ n _=>some (.int .i64 n)
  | some (.slice _),.slv _ _ _ n=>some (.int .i64 n)
  | _,_=>none
 | .min,_,.int k x::r=>(Tx k x r).map (.int k)
 | .max,_,.int k x::r=>(Tw k x r).map (.int k)
 | .cap,t::_,x::_=>match P.underlying t,x with
  | some (.slice _),.sl _ _ _ (.ex c)=>some (.int .i64 c)
  | some (.slice _),.nils =>some (.int .i64 0)
  | _,_=>none
 | _,_,_=>none
def ED (st:Operand->B2) (o:Option Operand) (d:Nat):Option (Nat×Bool):=
 match o with
 | none=>some (d,true)
 | some x=>match st x with
  | .int _ i=>some (i.toNat,decide (0<=i))
  | _=>none
def pd (p:Prop):Bool:= @decide p (Classical.propDecidable p)
def u3g (P:Program) (ev:Operand->B2) (t:TypeId) (x:Operand) (lo hi mx:Option Operand):Option (B2×Bool):=
 match P.underlying t,ev x with
 | some (.slice e),.nils =>
  match P.info? e,mx,ED ev lo 0,ED ev hi 0 with
  | some _,none,some (l,a),some (h,b)=>some (.nils,a&&b&&Nat.beq l 0&&Nat.beq h 0)
  | _,_,_,_=>none
 | some (.slice e),.sl b off len (.ex c)=>
  match P.info? e,ED ev mx c,ED ev hi len,ED ev lo 0 with
  | some s,some (m,x1),some (h,x2),some (l,x3)=>
   if mx.isSome&&hi.isNone then none else
   some (.sl b (bif Nat.beq m l then off else off+l*s.size) (h - l) (.ex (m - l)),x1&&x2&&x3&&Nat.ble m c&&Nat.ble h m&&Nat.ble l h)
  | _,_,_,_=>none
 | some (.slice e),.sl b off len (.un z)=>
  match P.info? e,mx,ED ev hi len,ED ev lo 0 with
  | some s,none,some (h,x2),some (l,x3)=>
   bif Nat.beq z s.size then
    bif Nat.beq h l&&Nat.ble 1 l then some (.dat 0 (fun _=>[]),x2&&x3&&Nat.ble h len) else
    some (.sl b (off+l*s.size) (h - l) (.un z),x2&&x3&&Nat.ble h len&&Nat.ble l h&&(Nat.ble (l+1) len||Nat.beq l 0))
   else none
  | some s,some _,some (h,x2),some (l,x3)=>
   match ED ev mx 0 with
   | some (m,x1)=>
    bif Nat.beq z s.size&&hi.isSome then
     some (.sl b (bif Nat.beq m l then off else off+l*s.size) (h - l) (.ex (m - l)),x1&&x2&&x3&&Nat.ble m len&&Nat.ble h m&&Nat.ble l h)
    else none
   | none=>none
  | _,_,_,_=>none
 | some (.slice e),.sla b sz off len (.un z)=>
  match P.info? e,mx,ED ev hi len,ED ev lo 0 with
  | some s,none,some (h,x2),some (l,x3)=>
   bif Nat.beq z s.size&&Nat.beq sz z then
    bif lo.isSome then some (.slv b sz (off+l) (h - l),x2&&(x3&&(decide (h<=len)&&decide (l<=h)))) else
    some (.sla b sz (off+l) (h - l) (.un z),x2&&(x3&&(decide (h<=len)&&(decide (l<=h)&&(decide (l<len)||Nat.beq l 0)))))
   else none
  | _,_,_,_=>none
 | some (.slice e),.slv b sz off len=>
  match P.info? e,mx,ED ev hi len,ED ev lo 0 with
  | some s,none,some (h,x2),some (l,x3)=>
   bif Nat.beq sz s.size then some (.slv b sz (off+l) (h - l),x2&&(x3&&(decide (h<=len)&&decide (l<=h)))) else none
  | _,_,_,_=>none
 | some (.slice e),.dat len get=>
  match P.info? e,mx,ED ev hi len,ED ev lo 0 with
  | some s,none,some (h,x2),some (l,x3)=>some (.dat (h - l) (fun k=>get (l+k)),x2&&(x3&&(decide (h<=len)&&(decide (l<=h)&&pd (∀i,i<len->(get i).length =s.size)))))
  | _,_,_,_=>none
 | some (.array n e),.ptr b off=>
  match P.info? e,ED ev mx n,ED ev hi n,ED ev lo 0 with
  | some s,some (m,x1),some (h,x2),some (l,x3)=>
   if mx.isSome&&hi.isNone then none else
   some (.sl b (bif Nat.beq m l then off else off+l*s.size) (h - l) (.ex (m - l)),x1&&x2&&x3&&Nat.ble m n&&Nat.ble h m&&Nat.ble l h)
  | _,_,_,_=>none
 | _,_=>none
def DN (P:Program) (op:Op) (ev:Operand->B2):Option (B2×Bool):=
 match op with
 | .move x | .assign x=>some (ev x,true)
 | .pick c a b=>match ev c with
  | .bool c=>some (bif c then ev a else ev b,true)
  | _=>none
 | .build t parts=>(u3l P t (parts.toList.map fun p=>(p.1,ev p.2))).map (·,true)
 | .nilCheck x=>match ev x with
  | .ptr b o=>some (.ptr b o,true)
  | .dptr cs=>some (.dptr cs,true)
  | .fn f c=>some (.fn f c,true)
  | .fnb f c=>some (.fnb f c,true)
  | _=>none
 | .binOp op t x y _=>Rn P op t (ev x) (ev y)
 | .unOp op _ x=>(aUn op (ev x)).map (·,true)
 | .convert src dst x=>match P.underlying src,P.underlying dst,ev x with
  | some _,some (.int k),.int _ n=>some (.int k (k.wrap n),true)
  | _,_,_=>none
 | .makeInterface t x=>match P.underlying t with
  | some (.interface _) | none=>none
  | some _=>some (.ifc t (ev x),true)
 | .makeFunc (.func f) first captured=>bif first.isEmpty then some (.fn f (captured.toList.map ev),true) else bif captured.isEmpty then some (.fnb f (first.toList.map ev),true) else none
 | .fieldAddr t x f=>(y3c P t (ev x) f).map (·,true)
 | .field t x f=>(u3j P t (ev x) f).map (·,true)
 | .indexAddr t x i=>y3b P t (ev x) (ev i)
 | .index t x i=>u3i P t (ev x) (ev i)
 | .extract x i=>match ev x with
  | .tup vs=>(vs[i]?).map (·,true)
  | _=>none
 | .slice t x lo hi mx=>u3g P ev t x lo hi mx
 | .call {callee:=.builtin b,args,argTypes}=>(X8 P b argTypes.toList (args.toList.map ev)).map (·,true)
 | _=>none
def Nv (P:Program) (m:CD) (t:TypeId) (x:B2):Option B2:=
 match x with
 | .ptr b off=>match Yr m b with
  | some blk=>F3 P t blk.cells off
  | none=>none
 | .dptr cs=>F3 P t cs 0
 | _=>none
def Nb (P:Program) (m:CD) (t:TypeId) (x:B2):Option (B2×Bool):=
 match x with
 | .epa b sz r fo=>match Yr m b with
  | some blk=>match blk.arr with
   | some A=>(F3 P t (A.get r) fo).map (·,Nat.beq A.sz sz&&decide (r<A.n))
   | none=>none
  | none=>none
 | x=>(Nv P m t x).map (·,true)
def JS :D3->Nat->St->List B2×St
 | .flat g,r,st=>(g r,st)
 | .one r0 cs b,r,st=>match st.test (Nat.beq r r0) with
  | (e,st)=>bif e then (cs,st) else JS b r st
 | .alt c a b,r,st=>match st.test (c r) with
  | (e,st)=>bif e then JS a r st else JS b r st
def u3h (P:Program) (st:St) (t:TypeId) (x:B2):Option (B2×Bool×St):=
 match x with
 | .epa b sz r fo=>match Yr st.mem b with
  | some blk=>match blk.arr with
   | some A=>match JS A.rw r st with
    | (cs,st1)=>(F3 P t cs fo).map (·,Nat.beq A.sz sz&&decide (r<A.n),st1)
   | none=>none
  | none=>none
 | x=>(Nv P st.mem t x).map (·,true,st)
def Nc (P:Program) (floor:Nat) (st:St) (t:TypeId) (x v:B2):Option St:=
 match x,P.info? t with
 | .ptr b off,some i=>
  let cs:=v.cells
  bif Nat.ble floor b&&Nat.beq cs.length i.size&&HX v&&cs.all DP then
   match Yr st.mem b with
   | some blk=>
    bif Nat.ble (off+i.size) blk.cells.length then
     some (st.withMem (Wb st.mem b (some ⟨blk.cells.take off++cs++blk.cells.drop (off+i.size),blk.ty,none⟩)))
    else none
   | none=>none
  else none
 | _,_=>none
def Xa (get:Nat->List B2) (r fo:Nat) (cs:List B2):Nat->List B2:=fun k=>bif Nat.beq k r then (get r).take fo++cs++(get r).drop (fo+cs.length) else get k
def setRow (A:GS) (r fo:Nat) (cs:List B2) (st:St):Option (D3×St):=
 match A.rw with
 | .flat g=>bif cs.all t2a then some (.flat (Xa g r fo cs),st) else bif Nat.beq fo 0&&Nat.beq cs.length A.sz then some (.one r cs (.flat g),st) else none
 | .one r0 c0 b=>match st.test (Nat.beq r r0) with
  | (e,st1)=>bif e&&Nat.beq fo 0&&Nat.beq cs.length A.sz then some (.one r0 cs b,st1) else none
 | .alt c a b=>bif Nat.beq fo 0&&Nat.beq cs.length A.sz then some (.one r cs (.alt c a b),st) else none
def NF (P:Program) (cx:CL) (st:St) (t:TypeId) (x v:B2):Option St:=
 match x,P.info? t with
 | .epa b sz r fo,some i=>
  bif Nat.ble cx.floor b&&Nat.beq v.cells.length i.size&&HX v&&v.cells.all DP&&Nat.ble (fo+i.size) sz then
   match Yr st.mem b with
   | some blk=>match blk.arr with
    | some A=>match setRow A r fo v.cells st with
     | some (rw,st1)=>(st1.withMem (Wb st1.mem b (some ⟨Ya A.n rw.get,blk.ty,some ⟨A.sz,A.n,rw⟩⟩))).owe cx (Nat.beq A.sz sz&&decide (r<A.n))
     | none=>none
    | none=>none
   | none=>none
  else none
 | _,_=>none
def DU :St->List B2->TypeId->St
 | ⟨env,mem,next,orc,ob⟩,cells,ty=>⟨env,Wb mem next (some ⟨cells,ty,none⟩),next+1,orc,ob⟩
def DJ (n:Nat) (l:List B2):List B2:=(List.replicate n l).flatten
def Ks (P:Program) (u:Bool) (st:St) (t:TypeId) (len:Nat) (parts:List (Nat×B2)):Option (B2×St):=
 match P.underlying t with
 | some (.slice e)=>match P.info? e,E8 P e with
  | some i,some zero=>
   bif Nat.ble (len*i.size) 16777216&&Nat.beq zero.length i.size then
    match He (fun j=>some (j*i.size,i.size)) (DJ len zero) parts with
    | some cells=>some (.sl st.next 0 len (bif u&&Nat.beq cells.length (len*i.size) then .un i.size else .ex len),DU st cells e)
    | none=>none
   else none
  | _,_=>none
 | _=>none
def Jj (P:Program) (st:St) (t:TypeId) (l c:B2):Option (B2×St):=
 match P.underlying t,l,c with
 | some (.slice e),.int _ l,.int _ c=>match P.info? e,E8 P e with
  | some i,some zero=>
   bif Nat.beq zero.length i.size&&(decide (0<=l)&&decide (l<=c)&&decide (c*i.bytes<=1099511627776)&&decide (c<=1099511627776)) then
    some (.sl st.next 0 l.toNat (.ex c.toNat),DU st (DJ c.toNat zero) e)
   else none
  | _,_=>none
 | _,_,_=>none
def Kr (P:Program) (cx:CL) (st:St) (t:TypeId) (l c:B2):Option (B2×St):=
 match P.underlying t,l,c with
 | some (.slice e),.int _ l,.int _ c=>match P.info? e,E8 P e with
  | some i,some zero=>
   bif Nat.beq zero.length i.size&&Nat.ble 1 i.size then
    (St.owe cx (match DU st (Ya c.toNat fun _=>zero) e with
      | ⟨env,_,next,orc,ob⟩=>⟨env,Wb st.mem st.next (some ⟨Ya c.toNat fun _=>zero,e,some ⟨i.size,c.toNat,.flat fun _=>zero⟩⟩),next,orc,ob⟩)
     (decide (0<=l)&&decide (l<=c)&&decide (c*i.bytes<=1099511627776)&&decide (c<=1099511627776))).map (.sla st.next i.size 0 l.toNat (.un i.size), ·)
   else none
  | _,_=>none
 | _,_,_=>none
def Xp (m:CD) (sz:Nat):B2->Option (Nat×List B2)
 | .nils =>some (0,[])
 | .sl b off len _=>match Yr m b with
  | some blk=>(cut blk.cells off (len*sz)).map (len, ·)
  | none=>none
 | _=>none
def CF :Nat:=1099511627776
def Jc (m:CD) (sz:Nat) (zero:List B2) (ut:TypeDesc) (x:B2):Option (Nat×List B2):=
 match ut with
 | .int _=>match x with
  | .int _ n=>bif decide (0<=n) then some (n.toNat,DJ n.toNat zero) else none
  | _=>none
 | _=>Xp m sz x
def G0 (P :Program) (floor:Nat) (st:St) (argTypes:List TypeId) (args:List B2):Option (B2×St):=
 match argTypes,args with
 | t :: u ::_,s::x::_=>match P.underlying t,P.underlying u with
  | some (.slice e),some ut=>match P.info? e,E8 P e with
   | some i,some zero=>match Jc st.mem i.size zero ut x with
    | some (n,new)=>
     bif Nat.beq zero.length i.size&&Nat.beq new.length (n*i.size)&&Nat.ble 1 i.size&&new.all DP then
     match s with
     | .nils =>
      bif Nat.beq n 0 then some (.nils,st) else
      bif Nat.ble ((n+1)*(i.bytes+1)) CF then
       some (.sl st.next 0 n (.un i.size),DU st new e) else none
     | .sl b off len cap=>
      match Yr st.mem b with
      | some blk=>
       match cut blk.cells off (len*i.size) with
       | some old=>
        bif Nat.ble ((len+n+1)*(i.bytes+1)) CF then
        match cap with
        | .ex c=>
         bif Nat.ble (len+n) c then
          bif Nat.ble floor b&&Nat.ble (off+(len+n)*i.size) blk.cells.length then
           some (.sl b off (len+n) cap,st.withMem (Wb st.mem b (some ⟨blk.cells.take (off+len*i.size)++new++blk.cells.drop (off+(len+n)*i.size),blk.ty,none⟩)))
          else none
         else some (.sl st.next 0 (len+n) (.un i.size),DU st (old++new) e)
        | .un z=>
         bif Nat.beq z i.size&&Nat.ble floor b then
          bif Nat.ble (off+(len+n)*i.size) blk.cells.length then
           some (.sl b off (len+n) cap,st.withMem (Wb st.mem b (some ⟨blk.cells.take (off+len*i.size)++new++blk.cells.drop (off+(len+n)*i.size),blk.ty,none⟩)))
          else bif Nat.beq (off+len*i.size) blk.cells.length then
           some (.sl st.next 0 (len+n) (.un i.size),DU (st.withMem (Wb st.mem b none)) (old++new) e)
          else none
         else none
        else none
       | none=>none
      | none=>none
     | _=>none
     else none
    | none=>none
   | _,_=>none
  | _,_=>none
 | _,_=>none
def Zt (get:Nat->List B2) (off len sz:Nat) (new:List B2):Nat->List B2:=fun k=>bif Nat.ble len k then (new.drop ((k - len)*sz)).take sz else get (off+k)
def N1 (P:Program) (cx:CL) (st:St) (argTypes:List TypeId) (args:List B2):Option (B2×St):=
 match argTypes,args with
 | t :: u ::_,.sla b sz off len (.un z)::x::_=>match P.underlying t,P.underlying u with
  | some (.slice e),some ut=>match ut with
   | .int _=>none
   | _ => match P.info? e with
    | some i=>match Xp st.mem i.size x,E8 P e,Yr st.mem b with
     | some (n,new),some zero,some blk=>match blk.arr with
      | some A=>
       bif Nat.beq zero.length i.size&&Nat.beq new.length (n*i.size)&&Nat.ble 1 i.size&&new.all DP&&Nat.beq sz i.size&&Nat.beq z sz&&Nat.ble cx.floor b&&Nat.ble 1 n then
        (St.owe cx (match DU (st.withMem (Wb st.mem b none)) (Ya (len+n) (Zt A.get off len sz new)) e with
          | ⟨env,_,next,orc,ob⟩=>⟨env,Wb (Wb st.mem b none) st.next (some ⟨Ya (len+n) (Zt A.get off len sz new),e,some ⟨sz,len+n,Zt A.get off len sz new⟩⟩),next,orc,ob⟩)
         (Nat.beq A.sz sz&&(decide (off+len=A.n)&&decide ((len+n+1)*(i.bytes+1)<=CF)))).map (.sla st.next sz 0 (len+n) (.un sz), ·)
       else none
      | none=>none
     | _,_,_=>none
    | none=>none
  | _,_=>none
 | _,_=>none
def NA (sz len:Nat):Fc->Bool
 | .un z=>Nat.beq z sz
 | .ex c=>Nat.ble c len
def SO (m:CD) (sz:Nat):B2->Option (Option Nat×Nat×(Nat->List B2)×Bool)
 | .nils =>some (none,0,fun _=>[],true)
 | .sl b off len cap=>match Yr m b with
  | some blk=>match cut blk.cells off (len*sz) with
   | some old=>bif NA sz len cap&&Nat.ble off blk.cells.length then some (some b,len,fun k=>(old.drop (k*sz)).take sz,true) else none
   | none=>none
  | none=>none
 | .sla b z off len cap=>match Yr m b with
  | some blk=>match blk.arr with
   | some A=>bif NA sz len cap then some (some b,len,fun k=>A.get (off+k),Nat.beq z sz&&(Nat.beq A.sz sz&&decide (off+len<=A.n))) else none
   | none=>none
  | none=>none
 | _=>none
def x3v (m:CD) (sz:Nat) (zero:List B2) (ut:TypeDesc):B2->Option (Nat×(Nat->List B2)×Bool)
 | .int _ n=>match ut with
  | .int _=>some (n.toNat,fun _=>zero,decide (0<=n))
  | _=>none
 | .dat n g=>match ut with
  | .int _=>none
  | _=>some (n,g,pd (∀i,i<n->(g i).length =sz/\(g i).all DP=true))
 | .nils =>match ut with
  | .int _=>none
  | _=>some (0,fun _=>[],true)
 | .sla b z off len _=>match ut with
  | .int _=>none
  | _=>match Yr m b with
   | some ⟨_,_,some A⟩=>some (len,fun k=>A.get (off+k),Nat.beq z sz&&(Nat.beq A.sz sz&&(decide (off+len<=A.n)&&pd (∀i,i<len->(A.get (off+i)).length =sz/\(A.get (off+i)).all DP=true))))
   | _=>none
 | _=>none
def unN :B2->B2
 | .nnl n g=>.dat n g
 | v=>v
def Jw (get:Nat->List B2) (len:Nat) (g:Nat->List B2):Nat->List B2:=fun k=>bif Nat.ble len k then g (k - len) else get k
def u1f (floor:Nat):Option Nat->Bool
 | some b=>Nat.ble floor b
 | none=>true
def OD (m:CD):Option Nat->CD
 | some b=>Wb m b none
 | none=>m
def H3 (P:Program) (cx:CL) (st:St) (argTypes:List TypeId) (args:List B2):Option (B2×St):=
 match argTypes,args with
 | t :: u::_,s::x::_=>match P.underlying t,P.underlying u with
  | some (.slice e),some ut=>match P.info? e,E8 P e with
   | some i,some zero=>match SO st.mem i.size s,x3v st.mem i.size zero ut (unN x) with
    | some (b,len,get,o1),some (n,g,o2)=>
     bif Nat.beq zero.length i.size&&zero.all DP&&Nat.ble 1 i.size&&u1f cx.floor b then
      (St.owe cx (match DU (st.withMem (OD st.mem b)) (Ya (len+n) (Jw get len g)) e with
        | ⟨env,_,next,orc,ob⟩=>⟨env,Wb (OD st.mem b) st.next (some ⟨Ya (len+n) (Jw get len g),e,some ⟨i.size,len+n,Jw get len g⟩⟩),next,orc,ob⟩)
       (o1&&(o2&&decide ((len+n+1)*(i.bytes+1)<=CF)))).map (.sla st.next i.size 0 (len+n) (.un i.size), ·)
     else none
    | _,_=>none
   | _,_=>none
  | _,_=>none
 | _,_=>none
def WD :B2->Bool
 | .dat _ _=>true
 | .nnl _ _=>true
 | .sla _ _ _ _ _=>true
 | _=>false
def t2b :B2->B2->Bool
 | .sla _ _ _ _ _,.nils =>true
 | _,_=>false
def P6 (P:Program) (cx:CL) (argTypes:List TypeId) (args:List B2):Bool:=
 match argTypes,args with
 | _::u::_,s::x::_=>WD x||(t2b s x||cx.sym&&(match P.underlying u with
  | some (.int _)=>true
  | _=>false))
 | _,_=>false
def J0 (P:Program) (cx:CL) (st:St) (argTypes:List TypeId) (args:List B2):Option (B2×St):=
 bif P6 P cx argTypes args then H3 P cx st argTypes args else
 match args with
 | .sla b sz off len cap::r=>N1 P cx st argTypes (.sla b sz off len cap::r)
 | args=>G0 P cx.floor st argTypes args
def Nu (P:Program) (floor:Nat) (st:St) (argTypes:List TypeId) (args:List B2):Option (B2×St):=
 match argTypes,args with
 | t :: _,d::x::_=>match P.underlying t with
  | some (.slice e)=>match P.info? e with
   | some i=>match Xp st.mem i.size x with
    | some (m,src)=>
     bif Nat.beq src.length (m*i.size)&&src.all DP then
     match d with
     | .nils =>some (.int .i64 0,st)
     | .dat n _=>bif Nat.beq n 0 then some (.int .i64 0,st) else none
     | .sl b off len _=>
      let n:=Nat.min m len
      match Yr st.mem b with
      | some blk=>
       bif Nat.ble floor b&&Nat.ble (off+n*i.size) blk.cells.length then
        some (.int .i64 n,st.withMem (Wb st.mem b (some ⟨blk.cells.take off++src.take (n*i.size)++blk.cells.drop (off+n*i.size),blk.ty,none⟩)))
       else none
      | none=>none
     | _=>none
     else none
    | none=>none
   | none=>none
  | _=>none
 | _,_=>none
def w5n (m:CD) (sz:Nat):B2->Option (Nat×(Nat->List B2)×Bool)
 | .nils =>some (0,fun _=>[],true)
 | .dat n g=>some (n,g,pd (∀i,i<n->(g i).length =sz/\(g i).all DP=true))
 | .sla b z off len _=>match Yr m b with
  | some blk=>match blk.arr with
   | some A=>some (len,fun k=>A.get (off+k),Nat.beq z sz&&(Nat.beq A.sz sz&&(decide (off+len<=A.n)&&pd (∀i,i<len->(A.get (off+i)).length =sz/\(A.get (off+i)).all DP=true))))
   | none=>none
  | none=>none
 | .slv b z off len=>match Yr m b with
  | some blk=>match blk.arr with
   | some A=>some (len,fun k=>A.get (off+k),Nat.beq z sz&&(Nat.beq A.sz sz&&(decide (off+len<=A.n)&&pd (∀i,i<len->(A.get (off+i)).length =sz/\(A.get (off+i)).all DP=true))))
   | none=>none
  | none=>none
 | _=>none
def Uq (get:Nat->List B2) (off n:Nat) (g:Nat->List B2):Nat->List B2:=fun k=>bif Nat.ble off k&&Nat.ble (k+1) (off+n) then g (k - off) else get k
def KB (P:Program) (cx:CL) (st:St) (argTypes:List TypeId) (b sz off len:Nat) (x:B2):Option (B2×St):=
 match argTypes with
 | t ::_=>match P.underlying t with
  | some (.slice e)=>match P.info? e,Yr st.mem b with
   | some i,some blk=>match blk.arr,w5n st.mem i.size x with
    | some A,some (m,g,o)=>
     bif Nat.ble cx.floor b&&Nat.ble 1 i.size then
      (St.owe cx (st.withMem (Wb st.mem b (some ⟨Ya A.n (Uq A.get off (Nat.min m len) g),blk.ty,some ⟨A.sz,A.n,Uq A.get off (Nat.min m len) g⟩⟩)))
       (Nat.beq sz i.size&&(Nat.beq A.sz sz&&(decide (off+len<=A.n)&&o)))).map (.int .i64 (Nat.min m len:Nat), ·)
     else none
    | _,_=>none
   | _,_=>none
  | _=>none
 | _=>none
def Sm (P:Program) (cx:CL) (st:St) (argTypes:List TypeId) (args:List B2):Option (B2×St):=
 match args with
 | .sla b sz off len _::x::_=>KB P cx st argTypes b sz off len x
 | .slv b sz off len::x::_=>KB P cx st argTypes b sz off len x
 | args=>Nu P cx.floor st argTypes args
def Nt (P:Program) (floor:Nat) (st:St) (argTypes:List TypeId) (args:List B2):Option (B2×St):=
 match argTypes,args with
 | t ::_,d::_=>match P.underlying t with
  | some (.slice e)=>match P.info? e,E8 P e with
   | some i,some zero=>match d with
    | .nils =>some (.tup [],st)
    | .sl b off len _=>
     bif Nat.beq len 0 then some (.tup [],st) else
     bif Nat.beq zero.length i.size&&zero.all DP&&Nat.ble floor b then
     match Yr st.mem b with
     | some blk=>
      bif Nat.ble (off+len*i.size) blk.cells.length then
       some (.tup [],st.withMem (Wb st.mem b (some ⟨blk.cells.take off++DJ len zero++blk.cells.drop (off+len*i.size),blk.ty,none⟩)))
      else none
     | none=>none
     else none
    | _=>none
   | _,_=>none
  | _=>none
 | _,_=>none
def Fb :List B2->Nat->T B2->T B2
 | [],_,t=>t
 | a::r,i,t=>Fb r (i+1) (T.set .undef t i a)
def x6b (P:Program) (st:St):ResultVar->Option B2
 | .tmp t=>some (st.tmp t)
 | .cell a t=>Nv P st.mem t (st.tmp a)
def Qb (P:Program) (st:St):List ResultVar->Option (List B2)
 | []=>some []
 | r::l=>match x6b P st r,Qb P st l with
  | some v,some vs=>some (v::vs)
  | _,_=>none
def Ut :List B2->B2
 | [v]=>v
 | vs=>.tup vs
def pf :Nat->B2->Bool
 | 0,_=>false
 | d+1,v=>match v with
  | .bool _ | .int _ _ | .str _ | .nilp | .nils | .nilf | .nili | .dat _ _ | .dptr _=>true
  | .agg cs | .tup cs=>cs.all (pf d)
  | .fn _ cs=>cs.isEmpty
  | _=>false
inductive Fy where
 | val (F:List B2->Option (B2×Bool))
 | eff (F:List B2->CD->Option (B2×Nat×CG×Bool))
 | gro (ty:TypeId) (F:Nat->(Nat->List B2)->List B2->Option (Nat×(Nat->List B2)×Bool))
abbrev B4 :=FuncId->Option Fy
abbrev CC :=CL->List Item->St->Option St
def pl :B2->Bool
 | .bool _ | .int _ _=>true
 | _=>false
def MW (sz n:Nat) (get:Nat->List B2):Bool:=pd (∀i,i<n->(get i).length =sz/\(get i).all pl=true)
def Ip (S:B4) (f:FuncId) (args:List B2):Option Nat:=match S f with
 | some (.gro _ _)=>match args with
  | .sla b _ _ _ _::_=>some b
  | _=>none
 | _=>none
def scal :B2->Bool
 | .bool _ | .int _ _ | .str _=>true
 | .tup vs=>vs.all fun v=>match v with
  | .bool _ | .int _ _ | .str _ | .undef =>true
  | _=>false
 | _=>false
def j7b (m:CD):B2->B2×Bool
 | .sla b sz off len cap=>match Yr m b with
  | some blk=>match blk.arr with
   | some A=>(.dat len fun k=>A.get (off+k),Nat.beq A.sz sz&&(decide (off+len<=A.n)&&pd (∀i,(A.get i).all (pf 6)=true)))
   | none=>(.undef,true)
  | none=>(.undef,true)
 | v=>(v,true)
def VB (m:CD):List B2->List B2×Bool
 | []=>([],true)
 | v::l=>match j7b m v,VB m l with
  | (a,o),(az,q)=>(a::az,o&&q)
def TH (P:Program) (S:B4) (R:CC) (lift:Bool) (f:FuncId) (args:List B2) (cx:CL) (st:St):Option (B2×St):=
 match S f with
 | some (.val F)=>bif args.all (pf 3) then (match F args with
   | some (v,b)=>bif pf 3 v||scal v then (st.owe cx b).map (v, ·) else none
   | none=>none) else
  match VB st.mem args with
  | (args',o)=>match F args' with
   | some (v,b)=>bif args'.all (pf 3)&&scal v then (st.owe cx (o&&b)).map (v, ·) else none
   | none=>none
 | some (.eff F)=>match F args st.mem with
  | some (v,b,blk,o)=>match Yr st.mem b with
   | some _=>bif !lift&&Nat.ble cx.floor b then ((st.withMem (Wb st.mem b (some blk))).owe cx o).map (v, ·) else none
   | none=>none
  | none=>none
 | some (.gro ty0 F)=>match args with
  | .sla b sz 0 n (.un sz')::r=>match Yr st.mem b with
   | some ⟨_,ty,some A⟩=>bif (Nat.beq ty ty0&&(Nat.beq sz sz'&&Nat.beq A.sz sz))&&(r.all (pf 3)&&(Nat.ble cx.floor b&&Nat.ble 1 sz)) then
     (match F n A.get r with
     | some (n',g,o)=>(St.owe cx (match st with
      | ⟨env,mem,next,orc,ob⟩=>⟨env,Wb (Wb mem b none) next (some ⟨Ya n' g,ty,some ⟨sz,n',.flat g⟩⟩),next+1,orc,ob⟩) (o&&(Nat.beq A.n n&&(MW sz n A.get&&MW sz n' g)))).map (.sla st.next sz 0 n' (.un sz), ·)
     | none=>none) else none
   | _=>none
  | _=>none
 | none=>match P.funcs[f]? with
  | some fn=>match fn.body with
   | some body=>
    match R ⟨Nat.max fn.ntmps args.length,bif lift then st.next else cx.floor,cx.sym⟩ [.code body] (st.withEnv (Fb args 0 .leaf)) with
    | some st2=>match Qb P st2 fn.results.toList with
     | some vs=>some (Ut vs,st2.withEnv st.env)
     | none=>none
    | none=>none
   | none=>none
  | none=>none
def Vj (P:Program) (S:B4) (R:CC) (lift:Bool) (op:Op) (cx:CL) (st:St):Option (B2×St):=
 match op with
 | .load t x=>match u3h P st t (st.eval x) with
  | some (v,b,st1)=>(st1.owe cx b).map (v, ·)
  | none=>none
 | .alloc t=>(E8 P t).map fun z=>(.ptr st.next 0,DU st z t)
 | .box t x=>bif HX (st.eval x) then some (.ptr st.next 0,DU st (st.eval x).cells t) else none
 | .buildSlice t len parts=>Ks P cx.sym st t len (parts.toList.map fun p=>(p.1,st.eval p.2))
 | .store t a x=>match st.eval a with
  | .epa b sz r fo=>(NF P cx st t (.epa b sz r fo) (st.eval x)).map (.tup [], ·)
  | y=>(Nc P cx.floor st t y (st.eval x)).map (.tup [], ·)
 | .makeSlice t l c=>bif cx.sym then (bif st.nextO then Jj P st.dropO t (st.eval l) (st.eval c) else Kr P cx st.dropO t (st.eval l) (st.eval c)) else Jj P st t (st.eval l) (st.eval c)
 | .call {callee:=.builtin .append,args,argTypes}=>J0 P cx st argTypes.toList (args.toList.map st.eval)
 | .call {callee:=.builtin .copy,args,argTypes}=>Sm P cx st argTypes.toList (args.toList.map st.eval)
 | .call {callee:=.builtin .clear,args,argTypes}=>Nt P cx.floor st argTypes.toList (args.toList.map st.eval)
 | .call {callee:=.value f,args,argTypes:=_}=>match st.eval f with
  | .fn g caps=>TH P S R lift g (args.toList.map st.eval++caps) cx st
  | .fnb g first=>TH P S R lift g (first++args.toList.map st.eval) cx st
  | _=>none
 | _=>none
def Nj (P:Program) (S:B4) (R:CC) (lift:Bool) (o:Oper) (cx:CL) (st:St):Option St:=
 match DN P o.op st.eval with
 | some (v,b)=>match st.owe cx b with
  | some st=>st.put cx o.dst v
  | none=>none
 | none=>match Vj P S R lift o.op cx st with
  | some (v,st)=>st.put cx o.dst v
  | none=>none
def Hb (ops:Array Oper) (o:Oper) (cx:CL) (st:St):Option (Bool×St):=
 match o.guard with
 | none=>some (true,st)
 | some (j,want)=>match (ops[j]?).bind (·.dst) with
  | none=>none
  | some d=>match st.tmp d with
   | .bool b=>match st.test b with
    | (e,st1)=>match st1.put cx (some d) (.bool e) with
     | some st2=>some (e == want,st2)
     | none=>none
   | .tup []=>some (false,st)
   | _=>none
def U9 :List Bool->Nat×List Bool
 | []=>(0,[])
 | false::r=>(0,r)
 | true::r=>((U9 r).1+1,(U9 r).2)
def St.conc (cx:CL) (t:Nat) (kd:IntKind) (n:Int):St->Option St
 | ⟨env,mem,next,[],ob⟩=>some ⟨env,mem,next,[],ob⟩
 | ⟨env,mem,next,o::r,ob⟩=>bif Nat.ble (t+1) cx.n then some ⟨T.set .undef env t (.int kd (Int.ofNat (U9 (o::r)).1)),mem,next,(U9 (o::r)).2,decide (n=Int.ofNat (U9 (o::r)).1)&&ob⟩ else none
def j0l (o:Oper) (cx:CL) (st:St):Option St:=
 match o.op with
 | .indexAddr _ x (.tmp t)=>match st.eval x with
  | .ptr _ _ | .epa _ _ _ _ | .dptr _=>match st.tmp t with
   | .int kd n=>st.conc cx t kd n
   | _=>some st
  | _=>some st
 | .index _ x (.tmp t)=>match st.eval x with
  | .agg _=>match st.tmp t with
   | .int kd n=>st.conc cx t kd n
   | _=>some st
  | _=>some st
 | _=>some st
def HF (ops:Array Oper) (o:Oper) (cx:CL) (st:St):Option (Bool×St):=
 match Hb ops o cx st with
 | some (true,st1)=>match j0l o cx st1 with
  | some st2=>some (true,st2)
  | none=>none
 | x=>x
def w8b (P:Program) (S:B4) (R:CC) (ops:Array Oper) (cx:CL) (l:List (Bool×Oper)):St->Option St:=
 List.rec (motive:=fun _=>St->Option St) (fun st=>some st)
  (fun x _ rec st=>match HF ops x.2 cx st with
   | none=>none
   | some (true,st)=>match Nj P S R x.1 x.2 cx st with
    | some st=>rec st
    | none=>none
   | some (false,st)=>match st.put cx x.2.dst (.tup []) with
    | some st=>rec st
    | none=>none) l
inductive GB where
 | pure | read | alloc | call | chain | lit | birth
 deriving DecidableEq
def Xg :Op->GB
 | .load .. =>.read
 | .alloc _=>.alloc
 | .box .. | .buildSlice .. | .store .. | .makeSlice .. =>.chain
 | .call {callee:=.builtin .append,.. } | .call {callee:=.builtin .copy,.. } | .call {callee:=.builtin .clear,.. }=>.chain
 | .call {callee:=.value _,.. }=>.call
 | _=>.pure
def Ny (z:Nat):Op->Bool
 | .buildSlice _ n _=>Nat.beq z 1||(Nat.beq z 3&&Nat.ble 1 n)
 | _=>false
def isBirth (z:Nat):Op->Bool
 | .buildSlice .. =>Nat.beq z 2
 | _=>false
def Xb (z:Nat) (op:Op):GB:=bif Ny z op then .lit else bif isBirth z op then .birth else Xg op
def Fd :List Oper->List Nat->List Nat
 | [],acc=>acc
 | o::r,acc=>Fd r (acc++[o.after.toList.foldl (fun s e=>bif Region.binds .any e then s||| (2 ^ e.on)||| acc.getD e.on 0 else s) 0])
def isAlloc (ops:Array Oper) (i:Nat):Bool:=(ops[i]?).any fun o=>Xg o.op == .alloc
def Yb (ops:Array Oper):List Nat:=
 (List.range ops.size).filter (isAlloc ops)++(List.range ops.size).filter (fun i=> !isAlloc ops i)
def ES (ops:Array Oper) (i:Nat):Bool:=
 (List.range ops.size).any fun j=>(ops[j]?).any (fun o=>Xg o.op == .read)&&
  ((Nat.ble (i+1) j&& !((Fd ops.toList []).getD j 0).testBit i)||(Nat.ble (j+1) i&& !((Fd ops.toList []).getD i 0).testBit j))
def J1 (ops:Array Oper):List (Nat×Bool×Oper):=(Yb ops).map fun i=>(i,ES ops i,ops.getD i default)
def w3r :GB->GB->Bool
 | .pure,_=>true
 | _,.pure =>true
 | .lit,_=>true
 | _,.lit =>true
 | .birth,_=>true
 | _,.birth =>true
 | .alloc,_=>true
 | _,.alloc =>true
 | .read,.read =>true
 | .read,.call =>true
 | .call,.read =>true
 | .read,.chain =>true
 | .chain,.read =>true
 | _,_=>false
def w8a (z:Nat) (ops:Array Oper) (i j:Nat) (p o:Oper):Bool:=
 (((Fd ops.toList []).getD j 0).testBit i||(p.apart ops o&&w3r (Xb z p.op) (Xb z o.op)))&&
 (match p.dst with | some d=> !(o.dst == some d) | none=>true)&&
 (!(Xg o.op == .alloc)||p.apart ops o)&&
 (!isBirth z o.op||(match Xb z p.op with
  | .chain | .call =>false
  | _=>true))
def Nd (z:Nat) (ops:Array Oper):Bool:=
 (List.range ops.size).all fun j=>match ops[j]? with
  | none=>false
  | some o=>o.after.toList.all (fun e=> !Region.binds .any e||Nat.ble (e.on+1) j)&&(!(Xg o.op == .alloc ||isBirth z o.op)||o.guard.isNone)&&
   (List.range j).all fun i=>match ops[i]? with
    | none=>false
    | some p=>w8a z ops i j p o
def Ep (op:Op) (ev:Operand->B2):Option Nat:=
 match op with
 | .load _ x=>match ev x with
  | .ptr b _=>some b
  | .epa b _ _ _=>some b
  | _=>none
 | _=>none
def EO (op:Op) (ev:Operand->B2):Option Nat:=
 match op with
 | .store _ a _=>match ev a with
  | .ptr b _=>some b
  | .epa b _ _ _=>some b
  | _=>none
 | .call {callee:=.builtin .append,args,argTypes:=_}=>match args.toList.map ev with
  | .sl b _ _ _::_=>some b
  | .sla b _ _ _ _::_=>some b
  | _=>none
 | .call {callee:=.builtin .copy,args,argTypes:=_}=>match args.toList.map ev with
  | .sl b _ _ _::_=>some b
  | .sla b _ _ _ _::_=>some b
  | .slv b _ _ _::_=>some b
  | _=>none
 | .call {callee:=.builtin .clear,args,argTypes:=_}=>match args.toList.map ev with
  | .sl b _ _ _::_=>some b
  | _=>none
 | _=>none
def clash :Option Nat->Option Nat->Bool
 | some a,some b=>Nat.beq a b
 | _,_=>false
def ordered (ops:Array Oper) (i j:Nat):Bool:=((Fd ops.toList []).getD j 0).testBit i||((Fd ops.toList []).getD i 0).testBit j
abbrev Ds :=Nat×Option Nat×Option Nat
def w9f (ops:Array Oper) (x y:Ds):Bool:= !(clash x.2.1 y.2.2||clash x.2.2 y.2.1)||ordered ops x.1 y.1
def Hk (P:Program) (S:B4) (R:CC) (ops:Array Oper) (cx:CL) (x:Bool×Oper) (st:St):Option St:=
 match HF ops x.2 cx st with
 | none=>none
 | some (true,st)=>Nj P S R x.1 x.2 cx st
 | some (false,st)=>st.put cx x.2.dst (.tup [])
def t5m (P:Program) (t:TypeId) (len:Nat) (parts:List (Nat×B2)):Option B2:=
 match P.underlying t with
 | some (.slice e)=>match P.info? e,E8 P e with
  | some i,some zero=>
   bif (Nat.ble 1 len&&Nat.ble 1 i.size)&&(Nat.ble (len*i.size) 16777216&&Nat.beq zero.length i.size) then
    match He (fun j=>some (j*i.size,i.size)) (DJ len zero) parts with
    | some cells=>bif Nat.beq cells.length (len*i.size)&&cells.all (pf 6) then some (.dat len fun k=>(cells.drop (k*i.size)).take i.size) else none
    | none=>none
   else none
  | _,_=>none
 | _=>none
def w3k (P:Program) (o:Oper) (cx:CL) (st:St):Option St:=
 match o.op with
 | .buildSlice t len parts=>match t5m P t len (parts.toList.map fun p=>(p.1,st.eval p.2)) with
  | some v=>st.put cx o.dst v
  | none=>none
 | _=>none
def w6p (P:Program) (t:TypeId) (len:Nat) (parts:List (Nat×B2)):Option (List B2×TypeId×Nat):=
 match P.underlying t with
 | some (.slice e)=>match P.info? e,E8 P e with
  | some i,some zero=>
   bif (Nat.ble 1 len&&Nat.ble 1 i.size)&&(Nat.ble (len*i.size) 16777216&&Nat.beq zero.length i.size) then
    match He (fun j=>some (j*i.size,i.size)) (DJ len zero) parts with
    | some cells=>bif Nat.beq cells.length (len*i.size) then some (cells,e,i.size) else none
    | none=>none
   else none
  | _,_=>none
 | _=>none
def y9r (P:Program) (o:Oper) (cx:CL) (st:St):Option St:=
 match o.op with
 | .buildSlice t len parts=>match w6p P t len (parts.toList.map fun p=>(p.1,st.eval p.2)) with
  | some (cells,e,sz)=>(DU st cells e).put cx o.dst (.sl st.next 0 len (bif cx.sym then .un sz else .ex len))
  | none=>none
 | _=>none
def OK (z:Nat) (P:Program) (S:B4) (R:CC) (ops:Array Oper) (cx:CL) (x:Bool×Oper) (st:St):Option St:=
 bif Ny z x.2.op then (match HF ops x.2 cx st with
  | none=>none
  | some (true,st)=>w3k P x.2 cx st
  | some (false,st)=>st.put cx x.2.dst (.tup [])) else bif isBirth z x.2.op then (match HF ops x.2 cx st with
  | none=>none
  | some (true,st)=>y9r P x.2 cx st
  | some (false,st)=>st.put cx x.2.dst (.tup [])) else Hk P S R ops cx x st
def Ek (S:B4) (op:Op) (ev:Operand->B2):Option Nat:=match op with
 | .call {callee:=.value f,args,argTypes:=_}=>match ev f with
  | .fn g caps=>Ip S g (args.toList.map ev++caps)
  | .fnb g first=>Ip S g (first++args.toList.map ev)
  | _=>none
 | op=>EO op ev
def GU (S:B4) (x:Nat×Bool×Oper) (ev:Operand->B2):Ds:=(x.1,Ep x.2.2.op ev,Ek S x.2.2.op ev)
def El (op:Op) (ev:Operand->B2) (mem:CD):Option Nat:=match op with
 | .call {callee:=.builtin .append,args,argTypes:=_}=>match args.toList.map ev with
  | .sla b _ _ _ (.un _)::.sl _ _ _ _::_=>some b
  | .sl b off len (.un z)::.sl _ _ n _::_=>match Yr mem b with
   | some blk=>bif Nat.beq (off+len*z) blk.cells.length&&Nat.ble 1 n then some b else none
   | none=>none
  | _=>none
 | _=>none
def j0c (z:Nat) (op:Op):Bool:=match Xb z op with
 | .pure | .read =>true
 | _=>false
def HI (z:Nat) (ops:Array Oper) (i q:Nat):Bool:=(List.range ops.size).all fun j=>match ops[j]? with
 | some o=>j0c z o.op||(Nat.beq j q||(((Fd ops.toList []).getD q 0).testBit j||((Fd ops.toList []).getD j 0).testBit i))
 | none=>true
def lateF (z:Nat) (ops:Array Oper) (x:Nat×Bool×Oper) (ev:Operand->B2) (mem:CD):Ds->Bool
 | (i,some b',none)=>match El x.2.2.op ev mem with
  | some b=>Nat.beq b b'&&HI z ops i x.1
  | none=>false
 | _=>false
def Sd (z:Nat) (P:Program) (S:B4) (R:CC) (ops:Array Oper) (cx:CL) (l:List (Nat×Bool×Oper)):List Ds->St->Option St:=
 List.rec (motive:=fun _=>List Ds->St->Option St) (fun _ st=>some st)
  (fun x _ rec acc st=>bif acc.all (fun y=>w9f ops (GU S x st.eval) y||lateF z ops x st.eval st.mem y) then
    match OK z P S R ops cx x.2 st with
    | some st'=>rec (GU S x st.eval::acc) st'
    | none=>none
   else none) l
def Yj :List (Nat×B2)->T B2
 | []=>.leaf
 | (t,v)::l=>T.set .undef (Yj l) t v
def j6n (P:Program) (f:FuncId):Code:=match P.funcs[f]? with
 | some fn=>fn.body.getD .ret
 | none=>.ret
def Zy (P:Program) (f:FuncId):List ResultVar:=match P.funcs[f]? with
 | some fn=>fn.results.toList
 | none=>[]
theorem YC (m:Nat):Nat.beq (m %2) 0=true↔m %2=0:=by simp_all
@[simp] theorem T.get_leaf {α:Type} (d:α) (n:Nat):T.get d .leaf n=d:=rfl
@[simp] theorem T.get_zero {α:Type} (d v:α) (l r:T α):T.get d (.node v l r) 0=v:=rfl
theorem T.get_succ {α:Type} (d v:α) (l r:T α) (m:Nat):T.get d (.node v l r) (m+1)=if m %2=0 then T.get d l (m / 2) else T.get d r (m / 2):=by simp_all [T.get]
theorem T.setF_leaf_zero {α:Type} (d v:α) (f:Nat):T.setF d v (f+1) .leaf 0=.node v .leaf .leaf :=rfl
theorem T.setF_node_zero {α:Type} (d v u:α) (l r:T α) (f:Nat):T.setF d v (f+1) (.node u l r) 0=.node v l r:=rfl
theorem T.setF_leaf_succ {α:Type} (d v:α) (f m:Nat):T.setF d v (f+1) .leaf (m+1)=
  if m %2=0 then .node d (T.setF d v f .leaf (m / 2)) .leaf else .node d .leaf (T.setF d v f .leaf (m / 2)):=by
 show (bif Nat.beq (m %2) 0 then (_:T α) else _)=_;by_cases h:m %2=0
 .rw [AG h,(YC m).2 h];rfl
 .rw [Aw h,show Nat.beq (m %2) 0=false from A3.2 (fun e=>h ((YC m).1 e))];rfl
theorem T.setF_node_succ {α:Type} (d v u:α) (l r:T α) (f m:Nat):T.setF d v (f+1) (.node u l r) (m+1)=
  if m %2=0 then .node u (T.setF d v f l (m / 2)) r else .node u l (T.setF d v f r (m / 2)):=by
 show (bif Nat.beq (m %2) 0 then (_:T α) else _)=_;by_cases h:m %2=0
 .rw [AG h,(YC m).2 h];rfl
 .rw [Aw h,show Nat.beq (m %2) 0=false from A3.2 (fun e=>h ((YC m).1 e))];rfl
theorem T.get_setF {α:Type} (d v:α): ∀(f:Nat) (t:T α) (n k:Nat),n<f->T.get d (T.setF d v f t n) k=if k=n then v else T.get d t k
 | 0,_,_,_,h=>absurd h (AL _)
 | f+1,.leaf,0,k,_=>by
  rw [T.setF_leaf_zero];cases k with
  | zero=>simp
  | succ k=>rw [T.get_succ];simp
 | f+1,.node u l r,0,k,_=>by
  rw [T.setF_node_zero];cases k with
  | zero=>simp
  | succ k=>rw [T.get_succ,T.get_succ];simp
 | f +1,.leaf,m+1,k,h=>by
  rw [T.setF_leaf_succ];have hm:m / 2<f:=by omega
  cases k with
  | zero=>split <;> simp
  | succ k=>
   have ih:=T.get_setF d v f .leaf (m / 2) (k / 2) hm;by_cases hp:m %2=0
   .rw [AG hp,T.get_succ];by_cases hk:k %2=0
    .rw [AG hk,ih];by_cases e:k / 2=m / 2
     .rw [AG e,AG (by omega)]
     .rw [Aw e,Aw (by omega)];simp
    .rw [Aw hk,Aw (by omega)];simp
   .rw [Aw hp,T.get_succ];by_cases hk:k %2=0
    .rw [AG hk,Aw (by omega)];simp
    .rw [Aw hk,ih];by_cases e:k / 2=m / 2
     .rw [AG e,AG (by omega)]
     .rw [Aw e,Aw (by omega)];simp
 | f +1,.node u l r,m+1,k,h=>by
  rw [T.setF_node_succ];have hm:m / 2<f:=by omega
  cases k with
  | zero=>split <;> simp
  | succ k=>
   by_cases hp:m %2=0
   .rw [AG hp,T.get_succ,T.get_succ];by_cases hk:k %2=0
    .rw [AG hk,AG hk,T.get_setF d v f l (m / 2) (k / 2) hm];by_cases e:k / 2=m / 2
     .rw [AG e,AG (by omega)]
     .rw [Aw e,Aw (by omega)]
    .rw [Aw hk,Aw hk,Aw (by omega)]
   .rw [Aw hp,T.get_succ,T.get_succ];by_cases hk:k %2=0
    .rw [AG hk,AG hk,Aw (by omega)]
    .rw [Aw hk,Aw hk,T.get_setF d v f r (m / 2) (k / 2) hm];by_cases e:k / 2=m / 2
     .rw [AG e,AG (by omega)]
     .rw [Aw e,Aw (by omega)]
theorem T.get_set {α:Type} (d:α) (t:T α) (n:Nat) (v:α) (k:Nat):T.get d (T.set d t n v) k=if k=n then v else T.get d t k:=
 T.get_setF d v (n+1) t n k (BW n)
theorem Uk (m:CD) (b:Nat) (o:Option CG) (k:Nat):Yr (Wb m b o) k=if k=b then o else Yr m k:=T.get_set none m b o k
theorem Ym (m:CD) (b:Nat) (o:Option CG):Yr (Wb m b o) b=o:=by rw [Uk,AG rfl]
theorem Zu (m:CD) {b k:Nat} (o:Option CG) (h:k≠b):Yr (Wb m b o) k=Yr m k:=by rw [Uk,Aw h]
inductive Vi {α β:Type} (R:α->β->Prop):List α->List β->Prop
 | nil:Vi R [] []
 | cons {a:α} {b:β} {l:List α} {m:List β} (h:R a b) (t:Vi R l m):Vi R (a::l) (b::m)
theorem Vi.length {α β:Type} {R:α->β->Prop} {l:List α} {m:List β} (h:Vi R l m):l.length=m.length:=by
 induction h with
 | nil=>rfl
 | cons _ _ ih=>simp [ih]
theorem Vi.get {α β:Type} {R:α->β->Prop} {l:List α} {m:List β} (h:Vi R l m): ∀(i:Nat) (h1:i<l.length) (h2:i<m.length),R l[i] m[i]:=by
 induction h with
 | nil=>grind
 | cons h _ ih=>
  grind
theorem Vi.append {α β:Type} {R:α->β->Prop} {l l':List α} {m m':List β} (h:Vi R l m) (k:Vi R l' m'):Vi R (l++l') (m++m'):=by
 induction h with
 | nil=>exact k
 | cons h _ ih=>exact .cons h ih
theorem Vi.of {α β:Type} {R:α->β->Prop}: ∀{l:List α} {m:List β},l.length=m.length->(∀(i:Nat) (h1:i<l.length) (h2:i<m.length),R l[i] m[i])->Vi R l m
 | [],[],_,_=>.nil
 | [],_::_,h,_=>by simp at h
 | _::_,[],h,_=>by simp at h
 | a::l,b::m,h,hr=>.cons (hr 0 (by simp) (by simp)) (Vi.of (by simpa using h) fun i h1 h2=>hr (i+1) (by grind) (by grind))
theorem Vi.maps {α γ δ:Type} {R:γ->δ->Prop} (f:α->γ) (g:α->δ): ∀(l:List α),(∀a,a∈l->R (f a) (g a))->Vi R (l.map f) (l.map g)
 | [],_=>.nil
 | a::l,h=>.cons (h a (by simp)) (Vi.maps f g l fun b hb=>h b (by simp [hb]))
structure Ce where
 blk:Nat
 base:Nat
 n:Nat
 tot:Nat
abbrev GA :=Nat->Option Obj
structure B6 where
 f:Nat->Option Ce
 fz:GA
 lp:Nat->Option Nat
instance : CoeFun B6 (fun _=>Nat->Option Ce):=⟨B6.f⟩
def B6.bare (ρ:B6):B6:=⟨fun _=>none,ρ.fz,fun _=>none⟩
def rhoOf (H:GA):B6:=⟨fun _=>none,H,fun _=>none⟩
def Dj (l:Ce) (off:Nat):Fc->Nat->Prop
 | .ex k,c=>c=k
 | .un sz,c=>l.n<=off+c*sz/\off+c*sz<=l.tot
def KK (H:GA) (blk o:Nat) (v:Value):Prop:= ∃cs el fz,H blk=some (.cells cs el fz)/\cs[o]? =some v
inductive VRel :B6->B2->Value->Prop
 | undef {ρ:B6} (v:Value):VRel ρ .undef v
 | bool {ρ:B6} (b:Bool):VRel ρ (.bool b) (.bool b)
 | int {ρ:B6} (k:IntKind) (n:Int):VRel ρ (.int k n) (.int k n)
 | str {ρ:B6} (s:List UInt8):VRel ρ (.str s) (.string ⟨s.toArray⟩)
 | agg {ρ:B6} (cs:List B2) (vs:Array Value) (hl:cs.length=vs.size) (h: ∀(i:Nat) (h1:i<cs.length) (h2:i<vs.size),VRel ρ cs[i] vs[i]):VRel ρ (.agg cs) (.agg vs)
 | tup {ρ:B6} (cs:List B2) (vs:Array Value) (hl:cs.length=vs.size) (h: ∀(i:Nat) (h1:i<cs.length) (h2:i<vs.size),VRel ρ cs[i] vs[i]):VRel ρ (.tup cs) (.tuple vs)
 | ptr {ρ:B6} (b off:Nat) (l:Ce) (h:ρ b=some l):VRel ρ (.ptr b off) (.pointer (some ⟨l.blk,l.base+off,none⟩))
 | nilp {ρ:B6}:VRel ρ .nilp (.pointer none)
 | sl {ρ:B6} (b off len:Nat) (cap:Fc) (l:Ce) (c:Nat) (h:ρ b=some l) (hc:Dj l off cap c) (dV:len<=c):VRel ρ (.sl b off len cap) (.slice (some ⟨l.blk,l.base+off,none⟩) len c)
 | nils {ρ:B6}:VRel ρ .nils (.slice none 0 0)
 | sla {ρ:B6} (b sz off len:Nat) (cap:Fc) (l:Ce) (c:Nat) (h:ρ b=some l) (hc:Dj l (off*sz) cap c) (dV:len<=c):VRel ρ (.sla b sz off len cap) (.slice (some ⟨l.blk,l.base+off*sz,none⟩) len c)
 | slan {ρ:B6} (b sz off:Nat) (cap:Fc):VRel ρ (.sla b sz off 0 cap) (.slice none 0 0)
 | slv {ρ:B6} (b sz off len:Nat) (l:Ce) (c:Nat) (h:ρ b=some l) (dV:len<=c):VRel ρ (.slv b sz off len) (.slice (some ⟨l.blk,l.base+off*sz,none⟩) len c)
 | slve {ρ:B6} (b sz off:Nat) (blk base c:Nat):VRel ρ (.slv b sz off 0) (.slice (some ⟨blk,base,none⟩) 0 c)
 | slvn {ρ:B6} (b sz off:Nat):VRel ρ (.slv b sz off 0) (.slice none 0 0)
 | epa {ρ:B6} (b sz i fo:Nat) (l:Ce) (h:ρ b=some l):VRel ρ (.epa b sz i fo) (.pointer (some ⟨l.blk,l.base+(i*sz+fo),none⟩))
 | fn {ρ:B6} (f:FuncId) (cs:List B2) (vs:Array Value) (hl:cs.length=vs.size) (h: ∀(i:Nat) (h1:i<cs.length) (h2:i<vs.size),VRel ρ cs[i] vs[i]):VRel ρ (.fn f cs) (.func (.func f) #[] vs)
 | nilf {ρ:B6}:VRel ρ .nilf .nilFunc
 | fnb {ρ:B6} (f:FuncId) (cs:List B2) (vs:Array Value) (hl:cs.length=vs.size) (h: ∀(i:Nat) (h1:i<cs.length) (h2:i<vs.size),VRel ρ cs[i] vs[i]):VRel ρ (.fnb f cs) (.func (.func f) vs #[])
 | yld {ρ:B6} (j l:Nat) (h:ρ.lp j=some l):VRel ρ (.yld j) (.func (.yield l) #[] #[])
 | ifc {ρ:B6} (t:TypeId) (a:B2) (v:Value) (h:VRel ρ a v):VRel ρ (.ifc t a) (.iface t v)
 | nili {ρ:B6}:VRel ρ .nili .nilIface
 | dat {ρ:B6} (len:Nat) (get:Nat->List B2) (blk base sz cap:Nat) (val:Nat->Nat->Value) (eC:len<=cap) (hsz: ∀i,i<len->(get i).length =sz)
   (hv: ∀(i j:Nat) (_:i<len) (hj:j<(get i).length),VRel ρ.bare (get i)[j] (val i j)) (hh: ∀i j,i<len->j<sz->KK ρ.fz blk (base+(i*sz+j)) (val i j)):VRel ρ (.dat len get) (.slice (some ⟨blk,base,none⟩) len cap)
 | datn {ρ:B6} (get:Nat->List B2):VRel ρ (.dat 0 get) (.slice none 0 0)
 | datz {ρ:B6} (get:Nat->List B2) (a:Addr) (c:Nat):VRel ρ (.dat 0 get) (.slice (some a) 0 c)
 | nnl {ρ:B6} (len:Nat) (get:Nat->List B2) (a:Addr) (c:Nat) (h:VRel ρ (.dat len get) (.slice (some a) len c)):VRel ρ (.nnl len get) (.slice (some a) len c)
 | dptr {ρ:B6} (cs:List B2) (blk base:Nat) (val:Nat->Value) (hv: ∀(j:Nat) (hj:j<cs.length),VRel ρ.bare cs[j] (val j)) (hh: ∀j,j<cs.length->KK ρ.fz blk (base+j) (val j)):VRel ρ (.dptr cs) (.pointer (some ⟨blk,base,none⟩))
def Jq (ρ:B6) (cs:List B2) (vs:Array Value):Prop:=cs.length=vs.size/\ ∀(i:Nat) (h1:i<cs.length) (h2:i<vs.size),VRel ρ cs[i] vs[i]
def B6.le (ρ ρ':B6):Prop:=(∀b l,ρ b=some l->ρ' b=some l)/\(∀k o,ρ.fz k=some o->ρ'.fz k=some o)/\ ∀j l,ρ.lp j=some l->ρ'.lp j=some l
theorem B6.le_refl (ρ:B6):ρ.le ρ:=⟨fun _ _ h=>h,fun _ _ h=>h,fun _ _ h=>h⟩
theorem B6.le_trans {a b c:B6} (h:a.le b) (k:b.le c):a.le c:=⟨fun x l e=>k.1 x l (h.1 x l e),fun x l e=>k.2.1 x l (h.2.1 x l e),fun x l e=>k.2.2 x l (h.2.2 x l e)⟩
theorem B6.le.bare {ρ ρ':B6} (h:ρ.le ρ'):ρ.bare.le ρ'.bare:=⟨fun _ _ e=>(by cases e),h.2.1,fun _ _ e=>(by cases e)⟩
theorem Tt (ρ:B6):ρ.bare.le ρ:=⟨fun _ _ e=>(by cases e),fun _ _ e=>e,fun _ _ e=>(by cases e)⟩
theorem KK.mono {ρ ρ':B6} (h:ρ.le ρ') {blk o:Nat} {v:Value} (hc:KK ρ.fz blk o v):KK ρ'.fz blk o v:=by obtain ⟨cs,el,fz,h1,h2⟩:=hc;exact ⟨cs,el,fz,h.2.1 _ _ h1,h2⟩
theorem VRel.mono {ρ ρ':B6} (h:ρ.le ρ') {a:B2} {v:Value} (hv:VRel ρ a v):VRel ρ' a v:=by
 induction hv generalizing ρ' with
 | undef v=>exact .undef v
 | bool b=>exact .bool b
 | int k n=>exact .int k n
 | str s=>exact .str s
 | agg cs vs hl _ ih=>exact .agg cs vs hl fun i h1 h2=>ih i h1 h2 h
 | tup cs vs hl _ ih=>exact .tup cs vs hl fun i h1 h2=>ih i h1 h2 h
 | ptr b off l e=>exact .ptr b off l (h.1 _ _ e)
 | nilp=>exact .nilp
 | sl b off len cap l c e hc dV=>exact .sl b off len cap l c (h.1 _ _ e) hc dV
 | nils=>exact .nils
 | sla b sz off len cap l c e hc dV=>exact .sla b sz off len cap l c (h.1 _ _ e) hc dV
 | slan b sz off cap=>exact .slan b sz off cap
 | slv b sz off len l c e dV=>exact .slv b sz off len l c (h.1 _ _ e) dV
 | slve b sz off blk base c=>exact .slve b sz off blk base c
 | slvn b sz off=>exact .slvn b sz off
 | epa b sz i fo l e=>exact .epa b sz i fo l (h.1 _ _ e)
 | fn f cs vs hl _ ih=>exact .fn f cs vs hl fun i h1 h2=>ih i h1 h2 h
 | nilf=>exact .nilf
 | fnb f cs vs hl _ ih=>exact .fnb f cs vs hl fun i h1 h2=>ih i h1 h2 h
 | yld j l e=>exact .yld j l (h.2.2 _ _ e)
 | ifc t a v _ ih=>exact .ifc t a v (ih h)
 | nili=>exact .nili
 | dat len get blk base sz cap val eC hsz hv hh ih=>exact .dat len get blk base sz cap val eC hsz (fun i j hi hj=>ih i j hi hj h.bare) fun i j hi hj=>(hh i j hi hj).mono h
 | datn get=>exact .datn get
 | datz get a c=>exact .datz get a c
 | nnl len get a c _ ih=>exact .nnl len get a c (ih h)
 | dptr cs blk base val hv hh ih=>exact .dptr cs blk base val (fun j hj=>ih j hj h.bare) fun j hj=>(hh j hj).mono h
theorem VRel.unN {ρ:B6} {a:B2} {v:Value} (h:VRel ρ a v):VRel ρ (unN a) v:=by cases h <;> first | assumption | (constructor <;> assumption)
theorem VRel.oneCell {ρ:B6} {a:B2} {v:Value} (h:VRel ρ a v) (hs:DP a=true):v.oneCell'=true:=by cases h <;> first | rfl | (simp [DP] at hs)
theorem VRel.cells {ρ:B6} {a:B2} {v:Value} (h:VRel ρ a v) (hu:HX a=true):Jq ρ a.cells v.cells:=by
 cases h
 case agg cs vs hl hh=>exact ⟨hl,hh⟩
 all_goals first
  | (simp [HX] at hu;done)
  | (refine ⟨rfl,fun i h1 h2=> ?_⟩
     have h0:i=0:=by simp [B2.cells] at h1;exact h1
     subst h0;simp only [B2.cells,Value.cells,List.getElem_cons_zero,List.getElem_toArray];constructor <;> assumption)
theorem VRel.cells_oneCell {ρ:B6} {cs:List B2} {vs:Array Value} (h:Jq ρ cs vs) (hs:cs.all DP=true): ∀v∈vs.toList,v.oneCell'=true:=by
 intro v hv;obtain ⟨i,hi,rfl⟩:=AJ hv;have h2:i<vs.size:=by grind
 have h1:i<cs.length:=by rw [h.1];exact h2
 simpa using (h.2 i h1 h2).oneCell (At.1 hs _ (AV h1))
structure Jd (ρ:B6) (w:World) (ab:CG) (l:Ce):Prop where
 n:l.n=ab.cells.length
 tot:l.n<=l.tot
 arr: ∀A,ab.arr=some A->ab.cells=Ya A.n A.get/\1<=A.sz/\ ∀i,i<A.n->(A.get i).length =A.sz
 cells: ∃cs el,w.heap[l.blk]? =some (.cells cs el (0,0))/\l.base+l.tot<=cs.size/\
  ∀(i:Nat) (h:i<ab.cells.length),∃v,cs[l.base+i]? =some v/\VRel ρ ab.cells[i] v
structure B7 (ρ:B6) (mem:CD) (next:Nat) (w:World):Prop where
 dom: ∀b l,ρ b=some l->b<next
 inj: ∀b b' l l',ρ b=some l->ρ b'=some l'->l.blk=l'.blk->(Yr mem b).isSome =true->(Yr mem b').isSome =true->b=b'
 blk: ∀b l ab,ρ b=some l->Yr mem b=some ab->Jd ρ w ab l
 old: ∀k o,ρ.fz k=some o->w.heap[k]? =some o
 sep: ∀b l,ρ b=some l->(Yr mem b).isSome =true->ρ.fz l.blk=none
 real: ∀b l,ρ b=some l->l.blk<w.heap.size
 bd: ∀b,next<=b->Yr mem b=none
 ldom: ∀j l,ρ.lp j=some l->j<next
structure Ev (ρ ρ':B6) (floor:Nat) (m:CD) (next:Nat) (m':CD) (next':Nat) (w w':World):Prop where
 ext:ρ.le ρ'
 new: ∀b,b<next->ρ' b=ρ b
 nxt:next<=next'
 unborn: ∀b,b<next->ρ b=none-> ∀cs ty,Yr m b=some ⟨cs,ty,none⟩->Yr m' b=some ⟨cs,ty,none⟩
 frame: ∀k o,w.heap[k]? =some o->(∀b l,ρ b=some l->floor<=b->l.blk≠k)->w'.heap[k]? =some o
 fresh: ∀b l,next<=b->ρ' b=some l->w.heap.size<=l.blk\/ ∃b0 l0,ρ b0=some l0/\floor<=b0/\l0.blk=l.blk
 size:w.heap.size<=w'.heap.size
 os:w'.os=w.os
 tape:w'.tape=w.tape
 output:w'.output=w.output
 still: ∀k,k<w.heap.size->ρ'.fz k=ρ.fz k
theorem Ev.refl (ρ:B6) (floor:Nat) (m:CD) (next:Nat) (w:World) (hd: ∀b l,ρ b=some l->b<next):Ev ρ ρ floor m next m next w w:=
 ⟨B6.le_refl _,fun _ _=>rfl,Aq _,fun _ _ _ _ _ h=>h,fun _ _ h _=>h,fun b l hb h=>absurd (hd b l h) (by omega),Aq _,rfl,rfl,rfl,fun _ _=>rfl⟩
theorem Ev.drawn {ρ ρ':B6} {floor:Nat} {m m':CD} {next next':Nat} {w w':World} (h:Ev ρ ρ' floor m next m' next' {w with drawn:=w.drawn+1} w'):Ev ρ ρ' floor m next m' next' w w':=
 ⟨h.ext,h.new,h.nxt,h.unborn,h.frame,h.fresh,h.size,h.os,h.tape,h.output,h.still⟩
theorem Ev.trans {ρ ρ1 ρ2:B6} {floor:Nat} {m m1 m2:CD} {n n1 n2:Nat} {w w1 w2:World} (h:Ev ρ ρ1 floor m n m1 n1 w w1) (k:Ev ρ1 ρ2 floor m1 n1 m2 n2 w1 w2):Ev ρ ρ2 floor m n m2 n2 w w2 where
 ext:=B6.le_trans h.ext k.ext
 new b hb:=by rw [k.new b (A0 hb h.nxt),h.new b hb]
 nxt:=AF h.nxt k.nxt
 unborn b hb e cs ty hm:=k.unborn b (A0 hb h.nxt) (by rw [h.new b hb];exact e) cs ty (h.unborn b hb e cs ty hm)
 frame i o hi hf:=by
  refine k.frame i o (h.frame i o hi hf) fun b l hl hfl hlb=> ?_;by_cases hb:b<n
  .rw [h.new b hb] at hl;grind
  .have hlt:i<w.heap.size:=(AN.1 hi).1;rcases h.fresh b l (by omega) hl with h1 | ⟨b0,l0,e0,f0,g0⟩;all_goals grind
 fresh b l hb hl:=by
  by_cases hb1:b<n1
  .rw [k.new b hb1] at hl;exact h.fresh b l hb hl
  .rcases k.fresh b l (by omega) hl with h1 | ⟨b0,l0,e0,f0,g0⟩
   .exact .inl (AF h.size h1)
   .by_cases hb0:b0<n
    .rw [h.new b0 hb0] at e0;grind
    .rcases h.fresh b0 l0 (by omega) e0 with h1 | ⟨b3,l3,e3,f3,g3⟩;all_goals grind
 size:=AF h.size k.size
 os:=k.os.trans h.os
 tape:=k.tape.trans h.tape
 output:=k.output.trans h.output
 still i hi:=(k.still i (A0 hi h.size)).trans (h.still i hi)
theorem Ev.lower {ρ ρ':B6} {floor floor':Nat} {m m':CD} {n n':Nat} {w w':World} (h:Ev ρ ρ' floor' m n m' n' w w') (hf:floor<=floor'):Ev ρ ρ' floor m n m' n' w w':=
 ⟨h.ext,h.new,h.nxt,h.unborn,fun k o e g=>h.frame k o e fun b l hl hfl=>g b l hl (AF hf hfl),
  fun b l hb hl=>(h.fresh b l hb hl).imp id fun ⟨b0,l0,e,f,g⟩=>⟨b0,l0,e,AF hf f,g⟩,h.size,h.os,h.tape,h.output,h.still⟩
theorem B7.drawn {ρ:B6} {mem:CD} {next:Nat} {w:World} (h:B7 ρ mem next w) (n:Nat):B7 ρ mem next {w with drawn:=n}:=
 ⟨h.dom,h.inj,fun b l ab e f=>let ⟨a,t,r,c⟩:=h.blk b l ab e f;⟨a,t,r,c⟩,h.old,h.sep,h.real,h.bd,h.ldom⟩
def Ur (ρ:B6) (b:Nat) (l:Ce):B6:=⟨fun k=>if k=b then some l else ρ k,ρ.fz,ρ.lp⟩
theorem Ju (ρ:B6) (b:Nat) (l:Ce) (k:Nat):Ur ρ b l k=if k=b then some l else ρ k:=rfl
theorem N7 {ρ:B6} {b:Nat} {l:Ce} (h:ρ b=none):ρ.le (Ur ρ b l):=⟨fun k l' e=>by
 grind [Ju],fun _ _ e=>e,fun _ _ e=>e⟩
theorem B7.none_next {ρ:B6} {mem:CD} {next:Nat} {w:World} (h:B7 ρ mem next w):ρ next=none:=by
 cases e:ρ next with
 | none=>rfl
 | some l=>exact absurd (h.dom _ _ e) (BY _)
theorem Jd.world {ρ ρ':B6} {w w':World} {ab:CG} {l:Ce} (h:Jd ρ w ab l) (hr:ρ.le ρ') (hw:w'.heap[l.blk]? =w.heap[l.blk]?):Jd ρ' w' ab l:=by obtain ⟨n,t,ar,cs,el,h1,h2,h3⟩:=h;exact ⟨n,t,ar,cs,el,by grind,h2,fun i hi=>let ⟨v,e,f⟩:=h3 i hi;⟨v,e,f.mono hr⟩⟩
theorem B7.new {ρ:B6} {mem:CD} {next:Nat} {w:World} (h:B7 ρ mem next w) (cs:List B2) (ty:TypeId) (vs:Array Value) (el:TypeId) (hH: ∀k,w.heap.size<=k->ρ.fz k=none)
  (hn:cs.length<=vs.size) (hv: ∀(i:Nat) (h1:i<cs.length) (h2:i<vs.size),VRel ρ cs[i] vs[i]):
  B7 (Ur ρ next ⟨w.heap.size,0,cs.length,vs.size⟩) (Wb mem next (some ⟨cs,ty,none⟩)) (next+1) {w with heap:=w.heap.push (.cells vs el)}:=by
 have hle:=N7 (l:=⟨w.heap.size,0,cs.length,vs.size⟩) h.none_next;have eD: ∀b l,Ur ρ next ⟨w.heap.size,0,cs.length,vs.size⟩ b=some l->(b=next/\l=⟨w.heap.size,0,cs.length,vs.size⟩)\/(b≠next/\ρ b=some l):=fun b l e=>by
  grind [Ju]
 refine ⟨fun b l e=> ?_,fun b b' l l' e e' hbl hs hs'=> ?_,fun b l ab e hm=> ?_,fun k o e=> ?_,fun b l e=> ?_,fun b l e=> ?_,fun b hb=>by rw [Zu _ _ (by omega)];exact h.bd b (by omega),fun j l e=>Bl (h.ldom j l e)⟩
 .rcases eD b l e with ⟨rfl,_⟩ | ⟨_,e⟩
  .omega
  .have:=h.dom b l e;omega
 .rcases eD b l e with ⟨hb,hl⟩ | ⟨hb,e2⟩ <;> rcases eD b' l' e' with ⟨hb',hl'⟩ | ⟨hb',e2'⟩
  .rw [hb,hb']
  .have:=h.real b' l' e2';grind
  .have:=h.real b l e2;grind
  .rw [Zu _ _ hb] at hs;rw [Zu _ _ hb'] at hs';exact h.inj b b' l l' e2 e2' hbl hs hs'
 .rcases eD b l e with ⟨rfl,rfl⟩ | ⟨hb,e⟩
  .rw [Ym] at hm;obtain rfl:=Ag hm;refine ⟨rfl,hn,(fun A e=>by cases e),vs,el,by simp,by simp,fun i hi=>⟨vs[i]'(by grind),by grind,(hv i hi (by grind)).mono hle⟩⟩
  .rw [Zu _ _ hb] at hm;refine (h.blk b l ab e hm).world hle ?_;have:=h.real b l e
   grind
 .have hk:=h.old k o e
  grind
 .intro hs;rcases eD b l e with ⟨rfl,rfl⟩ | ⟨hne,e⟩
  .exact hH _ (Aq _)
  .rw [Zu _ _ hne] at hs;exact h.sep b l e hs
 .rcases eD b l e with ⟨rfl,rfl⟩ | ⟨_,e⟩
  .simp
  .have:=h.real b l e;simp;omega
theorem Ev.ofNew {ρ:B6} {mem:CD} {next:Nat} {w:World} (h:B7 ρ mem next w) (floor:Nat) (l:Ce) (o:Option CG) (ob:Obj) (hl:w.heap.size<=l.blk):
  Ev ρ (Ur ρ next l) floor mem next (Wb mem next o) (next+1) w {w with heap:=w.heap.push ob} where
 ext:=N7 h.none_next
 new b hb:=by simp [Ur,BK hb]
 nxt:=B0 _
 unborn b hb _ cs ty hm:=by grind [Zu]
 frame k o hk _:=by
  grind
 fresh b l' hb e:=by
  rw [Ju] at e;by_cases hbn:b=next
  .grind
  .rw [Aw hbn] at e;have:=h.dom b l' e;omega
 size:=by simp
 os:=rfl
 tape:=rfl
 output:=rfl
 still _ _:=rfl
theorem Qs {α:Type} (l c:List α) (off i:Nat) (h:off+c.length<=l.length):
  (l.take off++c++l.drop (off+c.length))[i]? =if i<off then l[i]? else if i<off+c.length then c[i - off]? else l[i]? :=by grind
theorem z9e {α:Type} (l c:List α) (off:Nat) (h:off+c.length<=l.length):(l.take off++c++l.drop (off+c.length)).length =l.length:=by grind
theorem B7.write {ρ:B6} {mem:CD} {next:Nat} {w:World} (h:B7 ρ mem next w) {b:Nat} {l:Ce} {ab:CG} (hb:ρ b=some l) (hm:Yr mem b=some ab) {off:Nat} {cs:List B2} {vs:List Value}
  (dV:vs.length=cs.length) (eO:off+cs.length<=ab.cells.length) (hv: ∀(i:Nat) (h1:i<cs.length) (h2:i<vs.length),VRel ρ cs[i] vs[i]):
  ∃cur el,w.heap[l.blk]? =some (.cells cur el (0,0))/\l.base+off+vs.length<=cur.size/\
   B7 ρ (Wb mem b (some ⟨ab.cells.take off++cs++ab.cells.drop (off+cs.length),ab.ty,none⟩)) next (w.setRow l.blk (cur.toList.take (l.base+off)++vs++cur.toList.drop (l.base+off+vs.length)).toArray):=by
 obtain ⟨hn,ht,har,cur,el,h1,h2,h3⟩:=h.blk b l ab hb hm;have hfc:l.base+off+vs.length<=cur.toList.length:=by simp;omega
 refine ⟨cur,el,h1,by grind,h.dom,fun c c' m m' e e' he hs hs'=> ?_,fun c m ac e hc=> ?_,fun k o e=> ?_,fun c m e hs=>h.sep c m e (by
  grind [Zu]),fun c m e=> ?_,fun c hc=>by have:=h.dom b l hb;rw [Zu _ _ (by omega)];exact h.bd c hc,h.ldom⟩
 .refine h.inj c c' m m' e e' he ?_ ?_;all_goals grind [Zu]
 .by_cases hcb:c=b
  .subst hcb;rw [Ym] at hc;obtain rfl:=Ag hc;rw [hb] at e;obtain rfl:=Ag e;refine ⟨by grind,ht,(fun A e=>by cases e),_,el,setRow_heap w l.blk cur _ el (0,0) h1,?_,fun i hi=> ?_⟩
   .grind
   .rw [z9e _ _ _ eO] at hi;have hg:=Qs ab.cells cs off i eO;rw [Au (by grind)] at hg;simp only [List.getElem?_toArray];rw [Qs _ _ _ _ hfc]
    grind
  .rw [Zu _ _ hcb] at hc;refine (h.blk c m ac e hc).world (B6.le_refl _) (setRow_other w l.blk m.blk _ fun heq=>hcb ?_);exact h.inj c b m l e hb heq (by rw [hc];rfl) (by rw [hm];rfl)
 .have hk:=h.old k o e;rw [setRow_other]
  .exact hk
  .intro heq;have:=h.sep b l hb (by rw [hm];rfl)
   grind
 .rw [setRow_size];exact h.real c m e
theorem Ev.ofWrite {ρ:B6} {mem:CD} {next:Nat} {w:World} (h:B7 ρ mem next w) {floor b:Nat} {l:Ce} (hb:ρ b=some l) (hf:floor<=b) (o:Option CG) (cs:Array Value):
  Ev ρ ρ floor mem next (Wb mem b o) next w (w.setRow l.blk cs) where
 ext:=B6.le_refl _
 new _ _:=rfl
 nxt:=Aq _
 unborn k _ e cs ty hm:=by grind [Zu]
 frame k o hk hfr:=by
  grind [setRow_other]
 fresh k m hk e:=by have:=h.dom k m e;omega
 size:=by simp_all
 os:=rfl
 tape:=rfl
 output:=rfl
 still _ _:=rfl
structure Vz (ρ:B6) (env:T B2) (n:Nat) (tmps:Array Value):Prop where
 size:tmps.size=n
 get: ∀i,VRel ρ (T.get .undef env i) (tmps.getD i undef)
 out: ∀i,n<=i->T.get .undef env i=.undef
theorem Vz.mono {ρ ρ':B6} {env:T B2} {n:Nat} {tmps:Array Value} (h:Vz ρ env n tmps) (hr:ρ.le ρ'):Vz ρ' env n tmps:=
 ⟨h.size,fun i=>(h.get i).mono hr,h.out⟩
section
variable {P:Program} {ρ:B6}
theorem XO {t:TypeId} {r:Bool} (h:u0t P t=some r) (w:World):(isAgg t).run P w=.ok r w:=by
 unfold u0t at h;cases hu:P.underlying t with
 | none=>grind
 | some d=>cases d <;> simp [hu] at h <;> subst h <;> simp [isAgg,run_underlying hu]
theorem Zr {t:TypeId} {i:TypeInfo} (h:P.info? t=some i) (w:World):(sizeOf t).run P w=.ok i.size w:=by simp [sizeOf,run_typeInfo w h]
theorem SD {cs p:List B2} {off n:Nat} (h:cut cs off n=some p):p=(cs.drop off).take n/\p.length=n/\(n=0\/off+n<=cs.length):=by
 unfold cut at h;dsimp only at h;cases hb:Nat.beq ((cs.drop off).take n).length n with
 | false=>grind
 | true=>
  simp only [hb,Ab,Ad] at h;have hl:=Aj hb
  grind
theorem t4w {cs p:List B2} {off n:Nat} (h:cut cs off n=some p) (i:Nat) (hi:i<p.length): ∃h2:off+i<cs.length,p[i]=cs[off+i]:=by
 obtain ⟨rfl,hl,_⟩:=SD h
 grind
theorem Qy {t:TypeId} {cs:List B2} {vs:Array Value} {off:Nat} {v:B2} (h:F3 P t cs off=some v) (hr:Jq ρ cs vs):
  ∃u,VRel ρ v u/\ ∀w,(part t vs off).run P w=.ok u w:=by
 unfold F3 at h;split at h
 .rename_i i ha hi;simp only [An] at h;obtain ⟨p,hp,rfl⟩:=h;obtain ⟨_,hl,hle⟩:=SD hp;refine ⟨.agg (vs.extract off (off+i.size)),.agg _ _ ?_ ?_,fun w=> ?_⟩
  .have:=hr.1;simp;omega
  .intro j h1 h2;obtain ⟨h3,e⟩:=t4w hp j h1;rw [e];have h4:off+j<vs.size:=by grind
   simpa using hr.2 (off+j) h3 h4
  simp_all [part,XO,Zr]
 .rename_i i ha hi;obtain ⟨hlt,rfl⟩:=Bg.1 h;have h4:off<vs.size:=by rw [<-hr.1];exact hlt
  exact ⟨vs[off],hr.2 off hlt h4,fun w=>by simp_all [part,XO]⟩
 .cases h
theorem y0v {rec:TypeId->B2->B2->Option Bool} {dd:Nat} {e:TypeId} {c:Nat}
  (IH: ∀x y r u u',rec e x y=some r->VRel ρ x u->VRel ρ y u'-> ∀w,(Op.equalIn dd e u u').run P w=.ok r w)
  {xs ys:List B2} {us us':Array Value} (hx:Jq ρ xs us) (hy:Jq ρ ys us'): ∀(is:List Nat) (r:Bool),
  HY rec P xs ys (is.map fun j=>(e,j*c))=some r-> ∀w,(Op.eqItems dd e c us us' is).run P w=.ok r w
 | [],r,h,w=>by simp_all [HY,Op.eqItems]
 | i::is,r,h,w=>by
  simp only [AT,HY] at h;split at h
  .rename_i a b ha hb;split at h
   .rename_i e1 f1 he hf;obtain rfl:=Ag h;obtain ⟨u,hu,pu⟩:=Qy ha hx;obtain ⟨u',hu',pu'⟩:=Qy hb hy;have q:=IH _ _ _ _ _ he hu hu' w;have r:=y0v IH hx hy is f1 hf w;cases e1 <;> simp [Op.eqItems,pu,pu',q,r]
   .cases h
  .cases h
theorem z7w {rec:TypeId->B2->B2->Option Bool} {dd:Nat}
  (IH: ∀e x y r u u',rec e x y=some r->VRel ρ x u->VRel ρ y u'-> ∀w,(Op.equalIn dd e u u').run P w=.ok r w)
  {xs ys:List B2} {us us':Array Value} (hx:Jq ρ xs us) (hy:Jq ρ ys us'): ∀(fs:List Field) (r:Bool),fs.any (fun f=>f.name == "_")=false->
  HY rec P xs ys (fs.map fun f=>(f.type,f.offset))=some r-> ∀w,(Op.eqFields dd us us' fs).run P w=.ok r w
 | [],r,_,h,w=>by simp_all [HY,Op.eqFields]
 | f::fs,r,hn,h,w=>by
  simp only [BS,BB] at hn;simp only [AT,HY] at h;split at h
  .rename_i a b ha hb;split at h
   .rename_i e1 f1 he hf;obtain rfl:=Ag h;obtain ⟨u,hu,pu⟩:=Qy ha hx;obtain ⟨u',hu',pu'⟩:=Qy hb hy;have q:=IH _ _ _ _ _ _ he hu hu' w;have r:=z7w IH hx hy fs f1 hn.2 hf w;have hne:f.name≠ "_" :=(by simpa using hn.1);cases e1 <;> simp [Op.eqFields,hne,pu,pu',q,r]
   .cases h
  .cases h
theorem ZY (k:Nat): ∀(d:Nat) (t:TypeId) (x y:B2) (r:Bool) (u u':Value),Rm P d t x y=some r->VRel ρ x u->VRel ρ y u'-> ∀w,(Op.equalIn (k+d) t u u').run P w=.ok r w
 | 0,_,_,_,_,_,_,h,_,_,_=>by simp [Rm] at h
 | d + 1,t,x,y,r,u,u',h,hx,hy,w=>by
  unfold Rm at h;cases hu:P.underlying t with
  | none=>grind
  | some ty=>
   rw [<-AD];cases ty <;> simp only [hu] at h <;> try (cases h;done)
   case bool=>
    split at h
    .cases hx;cases hy;grind [run_equalIn_bool']
    .cases h
   case int q=>
    split at h
    .split at h
     .rename_i hk;subst hk;cases hx;cases hy;grind [run_equalIn_int]
     .cases h
    .cases h
   case string=>
    split at h
    .cases hx;cases hy;grind [run_equalIn_string,ByteArray.toList_eq]
    .cases h
   case array n e=>
    split at h
    .rename_i xs ys i hi;cases hx with
     | agg _ us hl hh=>
      cases hy with
      | agg _ us' hl' hh'=>rw [run_equalIn_array w _ us us' hu hi];have hc:P.cellsOf e=i.size:=(by simp [Program.cellsOf,hi]);rw [hc];exact y0v (fun x y r u u' e1 e2 e3=>ZY k d e x y r u u' e1 e2 e3) ⟨hl,hh⟩ ⟨hl',hh'⟩ _ _ h w
    .cases h
   case struct fs=>
    split at h
    .rename_i xs ys;cases hs:P.stoodInHeld t with
     | true=>grind
     | false=>
      cases hn:fs.toList.any (fun f=>f.name == "_") with
      | true=>grind
      | false=>
       rw [hs,hn] at h;simp only [Aa] at h;cases hx with
       | agg _ us hl hh=>
        cases hy with
        | agg _ us' hl' hh'=>have hfs:P.fieldsOf t=fs:=(by simp [Program.fieldsOf,hu]);rw [run_equalIn_struct w _ t us us' (by grind) hs,hfs];exact z7w (fun e x y r u u' e1 e2 e3=>ZY k d e x y r u u' e1 e2 e3) ⟨hl,hh⟩ ⟨hl',hh'⟩ _ _ hn h w
    .cases h
theorem x0d {op:BinOp} {k:IntKind} {a b n:Int} (h:TG op k a b=some n):Op.intBits op k a b=pure (.int k n):=by cases op <;> simp only [TG] at h <;> first | (cases h;done) | (obtain rfl:=Ag h;rfl)
theorem w5a (op:BinOp) (t:TypeId) (x y:Operand) (k k':IntKind) (a b:Int) (w:World):(eqGuard op t x y (.int k a) (.int k' b)).run P w=.ok () w:=by cases op <;> simp [eqGuard]
theorem v5c {op:BinOp} {t:TypeId} {x y:B2} {v:B2} {b:Bool} {u u':Value} (h:Rn P op t x y=some (v,b)) (hb:b=true) (hx:VRel ρ x u) (hy:VRel ρ y u') (ox oy:Operand):
  ∃z,VRel ρ v z/\ ∀w,(do eqGuard op t ox oy u u';binOp op t u u':Sem Value).run P w=.ok z w:=by
 subst hb;unfold Rn at h;split at h
 .rename_i k a k' b;cases hx;cases hy;have g:=fun w=>w5a (P:=P) op t ox oy k k' a b w;split at h
  .simp only [Ad,Ac,BI,Bk] at h;obtain ⟨rfl,h0⟩:=h;exact ⟨_,.int _ _,fun w=>by simp [g,binOp,Op.shift,h0]⟩
  .simp only [Ad,Ac,BI,Bk] at h;obtain ⟨rfl,h0⟩:=h;exact ⟨_,.int _ _,fun w=>by simp [g,binOp,Op.shift,h0]⟩
  .rename_i hshl hshr;split at h
   .rename_i hk;subst hk;have fin: ∀n,TG op k a b=some n-> ∃z,VRel ρ (.int k n) z/\ ∀w,(do eqGuard op t ox oy (.int k a) (.int k b);binOp op t (.int k a) (.int k b):Sem Value).run P w=.ok z w:=by
     intro n hn;have e:=x0d hn;refine ⟨_,.int _ _,fun w=> ?_⟩;cases op <;> simp only [TG] at hn <;> first | (cases hn;done) | (simp [g,binOp,e];done)
    cases op <;> dsimp only at h
    case shl=>grind
    case shr=>grind
    case quo=>simp only [Ad,Ac,BI,Bk] at h;obtain ⟨rfl,h0⟩:=h;exact ⟨_,.int _ _,fun w=>by simp [g,binOp,Op.intDiv,h0]⟩
    case rem=>simp only [Ad,Ac,BI,Bk] at h;obtain ⟨rfl,h0⟩:=h;exact ⟨_,.int _ _,fun w=>by simp [g,binOp,Op.intDiv,h0]⟩
    all_goals first
     | (simp only [An,Ac] at h
        grind)
     | (simp only [Ad,Ac] at h
        obtain ⟨rfl,_⟩:=h;refine ⟨_,.int _ _,fun w=> ?_⟩;simp_all [binOp,Op.intArith])
     | (simp only [Ad,Ac] at h
        obtain ⟨rfl,_⟩:=h;refine ⟨_,.bool _,fun w=> ?_⟩;simp_all [binOp,Op.intCmp])
   .cases h
 .rename_i a b;cases hx;cases hy;split at h
  .rename_i hu;split at h
   .simp only [Ad,Ac] at h;obtain ⟨rfl,_⟩:=h;exact ⟨_,.bool _,fun w=>by simp_all [eqGuard,binOp,Op.equal,Op.maxDepth,run_equalIn_bool']⟩
   .simp only [Ad,Ac] at h;obtain ⟨rfl,_⟩:=h;exact ⟨_,.bool _,fun w=>by simp_all [eqGuard,binOp,Op.equal,Op.maxDepth,run_equalIn_bool']⟩
   .cases h
  .cases h
 .rename_i a b;cases hx with
  | agg _ us hl hh=>
   cases hy with
   | agg _ us' hl' hh'=>
    cases hg:P.eqGuardType P.depth t with
    | true=>grind
    | false=>
     simp only [hg,Aa] at h;split at h
     .simp only [An,Ac] at h;obtain ⟨r,hr,rfl,_⟩:=h;have q:=fun w=>ZY 9970 30 t _ _ r _ _ hr (VRel.agg a us hl hh) (VRel.agg b us' hl' hh') w;exact ⟨_,.bool _,fun w=>by simp_all [run_eqGuard_agg,run_eql_struct]⟩
     .simp only [An,Ac] at h;obtain ⟨r,hr,rfl,_⟩:=h;have q:=fun w=>ZY 9970 30 t _ _ r _ _ hr (VRel.agg a us hl hh) (VRel.agg b us' hl' hh') w;exact ⟨_,.bool _,fun w=>by simp_all [run_eqGuard_agg,run_neq_struct]⟩
     .cases h
 .cases hx with
  | sl _ _ _ _ l c hl hc dV=>
   cases hy;split at h
   .rename_i e hu;have q:=fun (w:World) (a:Addr) (n c:Nat)=>Lib.run_equalIn_slice_nil (P:=P) w 9999 t e (some a) n c 0 0 hu;split at h
    .simp only [Ad,Ac] at h;obtain ⟨rfl,_⟩:=h;exact ⟨_,.bool _,fun w=>by simp [eqGuard,binOp,Op.equal,Op.maxDepth,q]⟩
    .simp only [Ad,Ac] at h;obtain ⟨rfl,_⟩:=h;exact ⟨_,.bool _,fun w=>by simp [eqGuard,binOp,Op.equal,Op.maxDepth,q]⟩
    .cases h
   .cases h
 .cases hx with
  | nnl _ _ a c _=>
   cases hy;split at h
   .rename_i e hu;have q:=fun (w:World) (a:Addr) (n c:Nat)=>Lib.run_equalIn_slice_nil (P:=P) w 9999 t e (some a) n c 0 0 hu;split at h
    .simp only [Ad,Ac] at h;obtain ⟨rfl,_⟩:=h;exact ⟨_,.bool _,fun w=>by simp [eqGuard,binOp,Op.equal,Op.maxDepth,q]⟩
    .simp only [Ad,Ac] at h;obtain ⟨rfl,_⟩:=h;exact ⟨_,.bool _,fun w=>by simp [eqGuard,binOp,Op.equal,Op.maxDepth,q]⟩
    .cases h
   .cases h
 .cases hx;cases hy;split at h
  .rename_i e hu;have q:=fun w=>Lib.run_equalIn_slice_nil (P:=P) w 9999 t e none 0 0 0 0 hu;split at h
   .simp only [Ad,Ac] at h;obtain ⟨rfl,_⟩:=h;exact ⟨_,.bool _,fun w=>by simp [eqGuard,binOp,Op.equal,Op.maxDepth,q]⟩
   .simp only [Ad,Ac] at h;obtain ⟨rfl,_⟩:=h;exact ⟨_,.bool _,fun w=>by simp [eqGuard,binOp,Op.equal,Op.maxDepth,q]⟩
   .cases h
  .cases h
 .cases hx;cases hy;split at h
  .simp only [Ad,Ac] at h;obtain ⟨rfl,_⟩:=h;exact ⟨_,.bool _,fun w=>by simp_all [eqGuard,binOp,Op.stringOp]⟩
  .simp only [Ad,Ac] at h;obtain ⟨rfl,_⟩:=h;exact ⟨_,.bool _,fun w=>by simp_all [eqGuard,binOp,Op.stringOp]⟩
  .cases h
 .cases h
theorem u3f {op:UnOp} {x v:B2} {u:Value} (h:aUn op x=some v) (hx:VRel ρ x u): ∃z,VRel ρ v z/\ ∀w,(Op.unary op u).run P w=.ok z w:=by
 unfold aUn at h;split at h
 .cases hx;obtain rfl:=Ag h;exact ⟨_,.int _ _,fun w=>by simp [Op.unary,Op.intArith]⟩
 .cases hx;simp only [An] at h;obtain ⟨n,hn,rfl⟩:=h;exact ⟨_,.int _ _,fun w=>by simp [Op.unary,x0d hn]⟩
 .cases hx;obtain rfl:=Ag h;exact ⟨_,.bool _,fun w=>by simp [Op.unary]⟩
 .cases h
end
section
variable {P:Program} {ρ:B6}
theorem X3 (v:Value):VRel ρ (N2 v) v:=by
 cases v with
 | bool b=>exact .bool b
 | int k n=>exact .int k n
 | string s=>exact .str s.data.toList
 | pointer a=>cases a with
  | none=>exact .nilp
  | some a=>exact .undef _
 | slice a n c=>
  cases a with
  | some a=>exact .undef _
  | none=>
   cases n with
   | succ n=>exact .undef _
   | zero=>cases c with
    | zero=>exact .nils
    | succ c=>exact .undef _
 | nilFunc=>exact .nilf
 | nilIface=>exact .nili
 | _=>exact .undef _
theorem x2j (v:Value) (h: ∀cs,v≠ .agg cs):PZ v=N2 v:=by cases v <;> first | rfl | grind
theorem v9m (v:Value):VRel ρ (PZ v) v:=by
 by_cases h: ∃cs,v=.agg cs
 .obtain ⟨cs,rfl⟩:=h;refine .agg _ _ (by simp) fun i h1 h2=> ?_
  grind [X3]
 grind [x2j,X3]
theorem x0k (v:Value):(N2 v).cells =[N2 v]:=by unfold N2;split <;> rfl
theorem v9n (v:Value):Jq ρ (PZ v).cells v.cells:=by
 by_cases h: ∃cs,v=.agg cs
 .obtain ⟨cs,rfl⟩:=h;refine ⟨by simp [PZ,B2.cells,Value.cells],fun i h1 h2=> ?_⟩
  grind [X3,Value.cells,PZ,B2.cells]
 .rw [x2j v fun cs e=>h ⟨cs,e⟩,x0k];have hc:v.cells= #[v]:=by cases v <;> first | rfl | grind
  rw [hc];refine ⟨rfl,fun i h1 h2=> ?_⟩
  grind [X3]
theorem Wn {t:TypeId} {z:List B2} (h:E8 P t=some z): ∃i v,P.info? t=some i/\i.zero=some v/\Jq ρ z v.cells/\ ∀w,(zeroValue t).run P w=.ok v w:=by
 unfold E8 at h;cases hi:P.info? t with
 | none=>grind
 | some i=>simp only [hi,An] at h;obtain ⟨v,hz,rfl⟩:=h;simp_all [v9n,zeroValue,run_typeInfo]
theorem w9g (off:Nat): ∀(l:List Value) (k:Nat) (cells:Array Value),off+k+l.length<=cells.size->
  (l.zipIdx k).foldl (fun cs p=>cs.setIfInBounds (off+p.2) p.1) cells=(cells.toList.take (off+k)++l++cells.toList.drop (off+k+l.length)).toArray
 | [],k,cells,_=>by simp
 | v::l,k,cells,h=>by
  simp only [List.zipIdx_cons,List.foldl_cons];rw [w9g off l (k+1) _ (by simp at h ⊢;omega)];have e:=list_seg_step cells.toList (off+k) v l (by simp at h ⊢;omega)
  simpa [Array.toList_setIfInBounds,AD] using e
theorem Jq.splice {cells:List B2} {arr:Array Value} {c:List B2} {vs:Array Value} {off:Nat} (h:Jq ρ cells arr) (hc:Jq ρ c vs) (eO:off+c.length<=cells.length):
  Jq ρ (cells.take off++c++cells.drop (off+c.length)) (arr.toList.take off++vs.toList++arr.toList.drop (off+vs.toList.length)).toArray :=by
 have e1:=h.1;have e2:=hc.1;have f1:off+vs.toList.length<=arr.toList.length:=by simp;omega
 refine ⟨by grind,fun i h1 h2=> ?_⟩;rw [z9e _ _ _ eO] at h1;have g1:=Qs cells c off i eO;have g2:=Qs arr.toList vs.toList off i f1;rw [Au (by grind)] at g1;rw [Au (by grind)] at g2;rw [List.getElem_toArray];by_cases k1:i<off
 .rw [AG k1,Au h1] at g1;rw [AG k1,Au (by simp;omega)] at g2;rw [Ag g1,Ag g2]
  simpa using h.2 i h1 (by omega)
 .by_cases k2:i<off+c.length
  .rw [Aw k1,AG k2,Au (by omega)] at g1;rw [Aw k1,AG (by simp;omega),Au (by simp;omega)] at g2;rw [Ag g1,Ag g2]
   simpa using hc.2 (i - off) (by omega) (by omega)
  .rw [Aw k1,Aw k2,Au h1] at g1;rw [Aw k1,Aw (by simp;omega),Au (by simp;omega)] at g2;rw [Ag g1,Ag g2]
   simpa using h.2 i h1 (by omega)
def JZ (ρ:B6) (ps:List (Nat×B2)) (qs:List (Nat×Value)):Prop:=
 Vi (fun p q=>p.1=q.1/\VRel ρ p.2 q.2) ps qs
theorem SZ {place:Nat->Option (Nat×Nat)}: ∀{ps:List (Nat×B2)} {qs:List (Nat×Value)} {cells out:List B2} {arr:Array Value},He place cells ps=some out->
  Jq ρ cells arr->JZ ρ ps qs-> ∃arr',Instr.fill place arr qs=some arr'/\Jq ρ out arr'
 | [],_,cells,out,arr,h,hr,hp=>by cases hp;simp only [He,Ad] at h;subst h;exact ⟨arr,rfl,hr⟩
 | (i,v)::ps,_,cells,out,arr,h,hr,hp=>by
  cases hp with
  | @cons _ q _ qs hq hqs=>
   obtain ⟨j,u⟩:=q;obtain ⟨hij,hv⟩:=hq;simp only at hij hv;subst hij;unfold He at h;cases hpl:place i with
   | none=>simp [hpl] at h
   | some pl=>
    obtain ⟨off,size⟩:=pl;simp only [hpl] at h;cases hc:(HX v&&Nat.beq v.cells.length size&&Nat.ble (off+size) cells.length) with
    | false=>rw [hc] at h;cases h
    | true=>
     rw [hc,Ab] at h;simp only [Ae] at hc;obtain ⟨⟨hb,hs⟩,hf⟩:=hc;have hs:=Aj hs;have hf:=Ak hf;have dZ:=hv.cells hb;have hsz:u.cells.size=size:=by rw [<-dZ.1];exact hs
     have eO:off+v.cells.length<=cells.length:=(by omega);rw [<-hs] at h;obtain ⟨arr',h1,h2⟩:=SZ h (hr.splice dZ eO) hqs;refine ⟨arr',?_,h2⟩;unfold Instr.fill;simp only [hpl];have hle:off+u.cells.size<=arr.size:=by rw [<-hr.1,hsz];omega
     have hz: ¬(u.cells.size≠size||decide (off+u.cells.size>arr.size))=true:=by simp [hsz];rw [hsz] at hle;exact hle
     rw [Aw hz];rw [<-h1]
     congr 1
     rw [<-Array.foldl_toList,Array.toList_zipIdx];have:=w9g off u.cells.toList 0 arr (by simpa using hle)
     simpa using this
theorem z6r : ∀{fs:List Field} {pl:List (Nat×Nat)},S4 P fs=some pl-> ∀w,(fs.mapM fun f=>Prod.mk f.offset<$>sizeOf f.type:Sem (List (Nat×Nat))).run P w=.ok pl w
 | [],pl,h,w=>by simp [S4] at h;subst h;simp
 | f::fs,pl,h,w=>by
  unfold S4 at h;cases hi:P.info? f.type with
  | none=>simp [hi] at h
  | some i=>
   cases hr:S4 P fs with
   | none=>simp [hi,hr] at h
   | some l=>simp only [hi,hr,Ad] at h;subst h;have:=z6r hr w;simp [List.mapM_cons,Zr hi,this]
theorem x9d {t:TypeId} {ps:List (Nat×B2)} {qs:List (Nat×Value)} {v:B2} (h:u3l P t ps=some v) (hp:JZ ρ ps qs):
  ∃u,VRel ρ v u/\ ∀w,(Instr.build t qs.toArray).run P w=.ok u w:=by
 unfold u3l at h;split at h
 .rename_i fs zero hu hz;obtain ⟨i,z,_,_,hzr,hzv⟩:=Wn (ρ:=ρ) hz;split at h
  .rename_i pl hpl;simp only [An] at h;obtain ⟨cells,hc,rfl⟩:=h;obtain ⟨arr,h1,h2⟩:=SZ hc hzr hp;refine ⟨.agg arr,.agg _ _ h2.1 h2.2,fun w=> ?_⟩;have hpr:=z6r hpl w;simp [Instr.build,hzv,run_underlying hu,Array.mapM_eq_mapM_toList,hpr,h1]
  .cases h
 .rename_i n e zero hu hz;obtain ⟨i,z,_,_,hzr,hzv⟩:=Wn (ρ:=ρ) hz;split at h
  .rename_i i hi;simp only [An] at h;obtain ⟨cells,hc,rfl⟩:=h;obtain ⟨arr,h1,h2⟩:=SZ hc hzr hp;exact ⟨.agg arr,.agg _ _ h2.1 h2.2,fun w=>by simp_all [Instr.build,run_underlying,Zr]⟩
  .cases h
 .cases h
theorem Xo (b o n:Nat):(⟨b,o,none⟩:Addr).add n=⟨b,o+n,none⟩:=by grind [Addr.add]
theorem VRel.dptr_drop {cs:List B2} {blk base:Nat} {val:Nat->Value} (hv: ∀(j:Nat) (hj:j<cs.length),VRel ρ.bare cs[j] (val j)) (hh: ∀j,j<cs.length->KK ρ.fz blk (base+j) (val j)) (k:Nat):
  VRel ρ (.dptr (cs.drop k)) (.pointer (some ⟨blk,base+k,none⟩)):=
 .dptr _ _ _ (fun j=>val (k+j)) (fun j hj=>by grind) (fun j hj=>by grind)
theorem y4i {t:TypeId} {x i v:B2} {u ui:Value} {b:Bool} (h:y3b P t x i=some (v,b)) (hb:b=true) (hx:VRel ρ x u) (hi:VRel ρ i ui):
  ∃z,VRel ρ v z/\ ∀w,(Instr.indexAt t u ui).run P w=.ok z w:=by
 subst hb;unfold y3b at h;split at h
 .rename_i len e b off k n hu;cases hi;simp only [An,Ac,Ar] at h;obtain ⟨s,hs,rfl,hn⟩:=h;cases hx with
  | ptr _ _ l hl=>refine ⟨_,.ptr _ _ l hl,fun w=> ?_⟩;simp [Instr.indexAt,asIntOf,run_underlying hu,Instr.sureAddr,hn,Zr hs,Xo,AD]
 .rename_i len e cs k n hu;cases hi;simp only [An,Ac,Ar] at h;obtain ⟨s,hs,rfl,hn⟩:=h;cases hx with
  | dptr _ blk base val hv hh=>refine ⟨_,VRel.dptr_drop hv hh _,fun w=> ?_⟩;simp [Instr.indexAt,asIntOf,run_underlying hu,Instr.sureAddr,hn,Zr hs,Xo]
 .rename_i e b off len cap k n hu;cases hi;simp only [An,Ac,Ar] at h;obtain ⟨s,hs,rfl,hn⟩:=h;cases hx with
  | sl _ _ _ _ l c hl hc dV=>refine ⟨_,.ptr _ _ l hl,fun w=> ?_⟩;simp [Instr.indexAt,asIntOf,run_underlying hu,hn,Zr hs,Xo,AD]
 .rename_i e len get k n hu;cases hi;simp only [An,Ac,Ae,Ar] at h;obtain ⟨s,hs,rfl,hn,hl⟩:=h;have hl:=Aj hl;cases hx with
  | dat _ _ blk base sz cap val eC hsz hv hh=>
   have hlt:n.toNat<len:=by omega
   have hse:sz=s.size:=by grind
   refine ⟨_,.dptr _ blk (base+n.toNat*s.size) (val n.toNat) (fun j hj=>hv _ j hlt hj) (fun j hj=> ?_),fun w=> ?_⟩
   .grind
   .simp [Instr.indexAt,asIntOf,run_underlying hu,hn,Zr hs,Xo]
  | datn=>omega
  | datz=>omega
 .rename_i e b sz off len cap k n hu;cases hi;simp only [An,Ac,Ae,Ar] at h;obtain ⟨s,hs,rfl,hn,hl⟩:=h;have hl:=Aj hl;cases hx with
  | sla _ _ _ _ _ l c hl' hc dV=>refine ⟨_,.epa _ _ _ _ l hl',fun w=> ?_⟩;simp [Instr.indexAt,asIntOf,run_underlying hu,hn,Zr hs,Xo,hl,AU,AD]
  | slan=>omega
 .rename_i e b sz off len k n hu;cases hi;simp only [An,Ac,Ae,Ar] at h;obtain ⟨s,hs,rfl,hn,hl⟩:=h;have hl:=Aj hl;cases hx with
  | slv _ _ _ _ l c hl' dV=>refine ⟨_,.epa _ _ _ _ l hl',fun w=> ?_⟩;simp [Instr.indexAt,asIntOf,run_underlying hu,hn,Zr hs,Xo,hl,AU,AD]
  | slve=>omega
  | slvn=>omega
 .rename_i len e b sz r fo k n hu;cases hi;simp only [An,Ac,Ar] at h;obtain ⟨s,hs,rfl,hn⟩:=h;cases hx with
  | epa _ _ _ _ l hl=>refine ⟨_,.epa _ _ _ _ l hl,fun w=> ?_⟩;simp [Instr.indexAt,asIntOf,run_underlying hu,Instr.sureAddr,hn,Zr hs,Xo,AD]
 .cases h
theorem y4j {t:TypeId} {x v:B2} {f:Nat} {u:Value} (h:y3c P t x f=some v) (hx:VRel ρ x u):
  ∃z,VRel ρ v z/\ ∀w,(Instr.fieldAt t u f).run P w=.ok z w:=by
 unfold y3c at h;split at h
 .rename_i fs hu;split at h
  .rename_i fd hf;split at h
   .rename_i i hi;cases hz:Nat.beq i.size 0 with
    | true=>grind
    | false=>
     rw [hz,Aa] at h;have hne:i.size≠0:=fun e=>by simp_all
     split at h
     .obtain rfl:=Ag h;cases hx with
      | ptr _ _ l hl=>exact ⟨_,.ptr _ _ l hl,fun w=>by simp_all [Instr.fieldAt,run_underlying,Instr.sureAddr,fieldPlace,Zr,Xo]⟩
     .obtain rfl:=Ag h;cases hx with
      | dptr _ blk base val hv hh=>exact ⟨_,VRel.dptr_drop hv hh _,fun w=>by simp_all [Instr.fieldAt,run_underlying,Instr.sureAddr,fieldPlace,Zr,Xo]⟩
     .obtain rfl:=Ag h;cases hx with
      | epa _ _ _ _ l hl=>exact ⟨_,.epa _ _ _ _ l hl,fun w=>by simp_all [Instr.fieldAt,run_underlying,Instr.sureAddr,fieldPlace,Zr,Xo]⟩
     .cases h
   .cases h
  .cases h
 .cases h
theorem x8z {t:TypeId} {x v:B2} {f:Nat} {u:Value} (h:u3j P t x f=some v) (hx:VRel ρ x u):
  ∃z,VRel ρ v z/\ ∀w,(Instr.field t u f).run P w=.ok z w:=by
 unfold u3j at h;split at h
 .rename_i fs cs hu;split at h
  .rename_i fd hf;cases hx with
   | agg _ vs hl hh=>obtain ⟨z,hz,hr⟩:=Qy h ⟨hl,hh⟩;simp_all [Instr.field,run_underlying,asAgg]
  .cases h
 .cases h
theorem x8y {t:TypeId} {x i v:B2} {u ui:Value} {b:Bool} (h:u3i P t x i=some (v,b)) (hb:b=true) (hx:VRel ρ x u) (hi:VRel ρ i ui):
  ∃z,VRel ρ v z/\ ∀w,(Instr.index t u ui).run P w=.ok z w:=by
 subst hb;unfold u3i at h;split at h
 .rename_i len e cs k n hu;cases hi;split at h
  .rename_i s hs;simp only [An,Ac,Ar] at h;obtain ⟨v,hp,rfl,hn⟩:=h;cases hx with
   | agg _ vs hl hh=>obtain ⟨z,hz,hr⟩:=Qy hp ⟨hl,hh⟩;simp_all [Instr.index,asIntOf,run_underlying,Zr]
  .cases h
 .rename_i s k n hu;cases hi;cases hx;simp only [An,Ac,Ar] at h;obtain ⟨c,hc,rfl,hn⟩:=h;refine ⟨_,.int _ _,fun w=> ?_⟩;obtain ⟨hlt,rfl⟩:=Bg.1 hc;have e:(⟨s.toArray⟩:ByteArray)[n.toNat]? =some s[n.toNat]:=by rw [getElem?_pos _ _ (by simpa [ByteArray.size] using hlt)];simp [ByteArray.getElem_eq_getElem_data]
  simp_all [Instr.index,asIntOf,run_underlying]
 .cases h
theorem y8p {k:IntKind}: ∀{r:List B2} {x n:Int} {us:List Value},Tx k x r=some n->Vi (VRel ρ) r us-> ∀w,(us.foldlM Builtin.min2 (.int k x)).run P w=.ok (.int k n) w
 | [],x,n,_,h,hr,w=>by cases hr;simp [Tx] at h;subst h;simp
 | a::r,x,n,_,h,hr,w=>by
  cases hr with
  | cons ha hrs=>
   cases a <;> simp only [Tx,Wt] at h <;> try (cases h;done)
   cases ha;have:=y8p h hrs w;simp [List.foldlM_cons,Builtin.min2,this]
theorem y8r {k:IntKind}: ∀{r:List B2} {x n:Int} {us:List Value},Tw k x r=some n->Vi (VRel ρ) r us-> ∀w,(us.foldlM Builtin.max2 (.int k x)).run P w=.ok (.int k n) w
 | [],x,n,_,h,hr,w=>by cases hr;simp [Tw] at h;subst h;simp
 | a::r,x,n,_,h,hr,w=>by
  cases hr with
  | cons ha hrs=>
   cases a <;> simp only [Tw,Wf] at h <;> try (cases h;done)
   cases ha;have:=y8r h hrs w;simp [List.foldlM_cons,Builtin.max2,this]
theorem x0o {bi:Builtin} {ts:Array TypeId} {type:TypeId} {xs:List B2} {us:Array Value} {v:B2} (h:X8 P bi ts.toList xs=some v) (hx:Vi (VRel ρ) xs us.toList):
  ∃z,VRel ρ v z/\ ∀(cst:Array Bool) (w:World),(builtin bi ts type cst us).run P w=.ok (.value z) w:=by
 obtain ⟨ts⟩:=ts;obtain ⟨us⟩:=us;simp only at h hx;unfold X8 at h;split at h
 .rename_i t _ x _;cases hx with
  | cons ha _=>
   split at h
   .rename_i hu;cases ha;obtain rfl:=Ag h;exact ⟨_,.int _ _,fun cst w=>by simp [builtin,Builtin.len_,run_underlying hu,goInt,<-ByteArray.size_data]⟩
   .rename_i hu;obtain rfl:=Ag h;exact ⟨_,.int _ _,fun cst w=>by simp [builtin,Builtin.len_,run_underlying hu,goInt]⟩
   all_goals first
    | (rename_i hu
       obtain rfl:=Ag h;cases ha <;> exact ⟨_,.int _ _,fun cst w=>by simp [builtin,Builtin.len_,run_underlying hu,goInt]⟩)
    | grind
 .rename_i k x r;cases hx with
  | cons ha hr=>cases ha;simp only [An] at h;obtain ⟨n,hn,rfl⟩:=h;have:=y8p (P:=P) hn hr;exact ⟨_,.int _ _,fun cst w=>by simp [builtin,Builtin.min_,this]⟩
 .rename_i k x r;cases hx with
  | cons ha hr=>cases ha;simp only [An] at h;obtain ⟨n,hn,rfl⟩:=h;have:=y8r (P:=P) hn hr;exact ⟨_,.int _ _,fun cst w=>by simp [builtin,Builtin.max_,this]⟩
 .rename_i t _ x _;cases hx with
  | cons ha _=>
   split at h
   .rename_i hu;obtain rfl:=Ag h;cases ha with
    | sl _ _ _ _ l c hl hc dV=>simp only [Dj] at hc;subst hc;exact ⟨_,.int _ _,fun cst w=>by simp [builtin,Builtin.cap_,run_underlying hu,goInt]⟩
   .rename_i hu;obtain rfl:=Ag h;cases ha;exact ⟨_,.int _ _,fun cst w=>by simp [builtin,Builtin.cap_,run_underlying hu,goInt]⟩
   .cases h
 .cases h
end
section
variable {P:Program} {ρ:B6}
theorem Yi (isSlice:Bool) (len cap m h l:Nat) (low high max:Option Value) (hm:(max=none/\m=cap)\/(∃k,max=some (.int k m)/\m<=cap))
  (hh:(high=none/\max=none/\h=len)\/(∃k,high=some (.int k h)/\h<=m)) (hl:(low=none/\l=0)\/ ∃k,low=some (.int k l)/\l<=h) (w:World):
  (Instr.sliceBounds isSlice len cap low high max).run P w=.ok (l,h,m) w:=by
 have nn: ∀n:Nat,(0:Int)<=n:=fun n=>Int.natCast_nonneg n;rcases hm with ⟨rfl,rfl⟩ | ⟨km,rfl,hm⟩
 .rcases hh with ⟨rfl,_,rfl⟩ | ⟨kh,rfl,hh⟩
  .rcases hl with ⟨rfl,rfl⟩ | ⟨kl,rfl,hl⟩;all_goals simp_all [Instr.sliceBounds,Instr.sliceBound,asIntOf]
  .rcases hl with ⟨rfl,rfl⟩ | ⟨kl,rfl,hl⟩;all_goals simp_all [Instr.sliceBounds,Instr.sliceBound,asIntOf]
 .rcases hh with ⟨rfl,e,_⟩ | ⟨kh,rfl,hh⟩
  .cases e
  .rcases hl with ⟨rfl,rfl⟩ | ⟨kl,rfl,hl⟩;all_goals simp_all [Instr.sliceBounds,Instr.sliceBound,asIntOf]
theorem Xx {ev:Operand->B2} {ec:Operand->Value} {o:Option Operand} {d n:Nat} {b:Bool} (h:ED ev o d=some (n,b)) (hb:b=true) (hr: ∀x,o=some x->VRel ρ (ev x) (ec x)):
  (o=none/\n=d)\/ ∃k,o.map ec=some (.int k n):=by
 subst hb;unfold ED at h;cases o with
 | none=>grind
 | some x=>
  right;have hx:=hr x rfl;simp only at h;split at h
  .rename_i k i e;simp only [Ad,Ac,Ar] at h;obtain ⟨rfl,h0⟩:=h;rw [e] at hx;refine ⟨k,?_⟩;simp only [Option.map_some];rw [show ((i.toNat:Nat):Int)=i by omega];generalize ec x=u at hx ⊢;cases hx;rfl
  .cases h
theorem x5y (c:Bool) (b o off k:Nat) (m l:Nat) (_:Nat.beq m l=c):(if m=l then some (⟨b,o+off,none⟩:Addr) else some ((⟨b,o+off,none⟩:Addr).add k))=some ⟨b,o+(bif Nat.beq m l then off else off+k),none⟩:=by
 by_cases h:m=l
 .simp_all
 .rw [Aw h,show Nat.beq m l=false from A3.2 fun e=>h (Aj e),Xo,AD];rfl
theorem x8x {ev:Operand->B2} {ec:Operand->Value} {t:TypeId} {x:Operand} {lo hi mx:Option Operand} {v:B2} {b:Bool} (h:u3g P ev t x lo hi mx=some (v,b)) (hb:b=true)
  (hx:VRel ρ (ev x) (ec x)) (hlo: ∀y,lo=some y->VRel ρ (ev y) (ec y)) (hhi: ∀y,hi=some y->VRel ρ (ev y) (ec y)) (hmx: ∀y,mx=some y->VRel ρ (ev y) (ec y)):
  ∃z,VRel ρ v z/\ ∀w,(Instr.sliceAt t (ec x) (lo.map ec) (hi.map ec) (mx.map ec)).run P w=.ok z w:=by
 subst hb;unfold u3g at h;split at h
 .rename_i e hu hev;rw [hev] at hx;split at h
  .rename_i s l a hh b hs hl hh';simp only [Ad,Ac,Ae] at h;obtain ⟨rfl,⟨⟨ha,hb⟩,h1⟩,h2⟩:=h;have e1:=Aj h1;have e2:=Aj h2;subst e1;subst e2;have q1:=Xx hl ha hlo;have q2:=Xx hh' hb hhi;generalize hw:ec x=u at hx;cases hx;refine ⟨_,.nils,fun w=> ?_⟩;have sb:=Yi (P:=P) true 0 0 0 0 0 (lo.map ec) (hi.map ec) none (.inl ⟨rfl,rfl⟩)
    (q2.elim (fun q=>.inl ⟨by rw [q.1];rfl,rfl,rfl⟩) (fun ⟨k,q⟩=>.inr ⟨k,q,Aq _⟩)) (q1.elim (fun q=>.inl ⟨by rw [q.1];rfl,rfl⟩) (fun ⟨k,q⟩=>.inr ⟨k,q,Aq _⟩))
   simp_all [Instr.sliceAt,Instr.slice,run_underlying,Zr]
  .cases h
 .rename_i e b off len c hu hev;rw [hev] at hx;split at h
  .rename_i s m x1 hh x2 l x3 hs hm hhi' hl;split at h
   .cases h
   .rename_i hno;simp only [Ad,Ac,Ae] at h;obtain ⟨rfl,⟨⟨⟨⟨h1,h2⟩,h3⟩,h4⟩,h5⟩,h6⟩:=h;have h4:=Ak h4;have h5:=Ak h5;have h6:=Ak h6;have q0:=Xx hm h1 hmx;have q1:=Xx hl h3 hlo;have q2:=Xx hhi' h2 hhi;generalize hw:ec x=u at hx;cases hx with
    | sl _ _ _ _ lc c' hρ hc _=>
     simp only [Dj] at hc;subst hc;refine ⟨_,.sl _ _ _ _ lc _ hρ rfl (by omega),fun w=> ?_⟩;have sb:=Yi (P:=P) true len c' m hh l (lo.map ec) (hi.map ec) (mx.map ec) (q0.elim (fun q=>.inl ⟨by rw [q.1];rfl,q.2⟩) (fun ⟨k,q⟩=>.inr ⟨k,q,h4⟩))
      (q2.elim (fun q=>.inl ⟨by rw [q.1];rfl,by
       simp_all,q.2⟩) (fun ⟨k,q⟩=>.inr ⟨k,q,h5⟩)) (q1.elim (fun q=>.inl ⟨by rw [q.1];rfl,q.2⟩) (fun ⟨k,q⟩=>.inr ⟨k,q,h6⟩)) w
     simp [Instr.sliceAt,Instr.slice,run_underlying hu,sb,Zr hs];exact x5y _ _ _ _ _ _ _ rfl
  .cases h
 .rename_i e b off len zz hu hev;rw [hev] at hx;split at h
  .rename_i s hh x2 l x3 hs hhi' hl;cases hz:Nat.beq zz s.size with
   | false=>grind
   | true=>
    rw [hz,Ab] at h;have hz:=Aj hz;rcases (by cases hlo':(Nat.beq hh l&&Nat.ble 1 l) with
      | true=>rw [hlo',Ab] at h;exact .inl ⟨rfl,h⟩
      | false=>rw [hlo',Aa] at h;exact .inr h:((Nat.beq hh l&&Nat.ble 1 l)=true/\some _=some _)\/(some _=some _)) with ⟨hq,h⟩ | h
    .simp only [Ad,Ac,Ae] at h hq;obtain ⟨rfl,⟨h2,h3⟩,h5⟩:=h;obtain rfl:=Aj hq.1;have h5:=Ak h5;have q1:=Xx hl h3 hlo;have q2:=Xx hhi' h2 hhi;generalize hw:ec x=u at hx;cases hx with
     | sl _ _ _ _ lc c hρ hc dV=>
      have sb:=Yi (P:=P) true len c c hh hh (lo.map ec) (hi.map ec) none (.inl ⟨rfl,rfl⟩)
       (q2.elim (fun q=>.inl ⟨by rw [q.1];rfl,rfl,q.2⟩) (fun ⟨k,q⟩=>.inr ⟨k,q,by omega⟩)) (q1.elim (fun q=>.inl ⟨by rw [q.1];rfl,q.2⟩) (fun ⟨k,q⟩=>.inr ⟨k,q,Aq _⟩))
      have e0: ∀(base:Nat),VRel ρ (.dat 0 fun _=>[]) (.slice (some ⟨lc.blk,base,none⟩) 0 (c - hh)):=fun base=>
       .dat 0 _ lc.blk base 0 (c - hh) (fun _ _=>undef) (AA _) (fun i hi=>absurd hi (AL _)) (fun i j hi=>absurd hi (AL _)) (fun i j hi=>absurd hi (AL _))
      by_cases hcl:c=hh
      .subst hcl;refine ⟨_,e0 (lc.base+off),fun w=> ?_⟩;simp [Instr.sliceAt,Instr.slice,run_underlying hu,sb,Zr hs]
      .refine ⟨_,e0 (lc.base+off+hh*s.size),fun w=> ?_⟩;simp [Instr.sliceAt,Instr.slice,run_underlying hu,sb,Zr hs,Aw hcl,Xo]
    simp only [Ad,Ac,Ae,Bs] at h;obtain ⟨rfl,⟨⟨⟨h2,h3⟩,h5⟩,h6⟩,h7⟩:=h;have h5:=Ak h5;have h6:=Ak h6;have q1:=Xx hl h3 hlo;have q2:=Xx hhi' h2 hhi;generalize hw:ec x=u at hx;cases hx with
    | sl _ _ _ _ lc c hρ hc dV=>
     simp only [Dj] at hc;have hlc:l<=c:=(by omega);have hmul:l*s.size+(c - l)*zz=c*zz:=by rw [hz,<-AU];grind
     refine ⟨.slice (some ⟨lc.blk,lc.base+(off+l*s.size),none⟩) (hh - l) (c - l),.sl _ _ _ _ lc _ hρ ?_ (by omega),fun w=> ?_⟩
     .simp only [Dj];omega
     .have sb:=Yi (P:=P) true len c c hh l (lo.map ec) (hi.map ec) none (.inl ⟨rfl,rfl⟩)
       (q2.elim (fun q=>.inl ⟨by rw [q.1];rfl,rfl,q.2⟩) (fun ⟨k,q⟩=>.inr ⟨k,q,by omega⟩)) (q1.elim (fun q=>.inl ⟨by rw [q.1];rfl,q.2⟩) (fun ⟨k,q⟩=>.inr ⟨k,q,h6⟩)) w
      simp [Instr.sliceAt,Instr.slice,run_underlying hu,sb,Zr hs];by_cases hcl:c=l
      .rw [AG hcl];rcases h7 with h7 | h7
       .have:=Ak h7;omega
       simp_all
      grind [Xo]
  .rename_i s y hh x2 l x3 hs hhi' hl;split at h
   .rename_i m x1 hm;cases hz:(Nat.beq zz s.size&&hi.isSome) with
    | false=>grind
    | true=>
     rw [hz,Ab] at h;simp only [Ad,Ac,Ae] at h hz;obtain ⟨rfl,⟨⟨⟨⟨h1,h2⟩,h3⟩,h4⟩,h5⟩,h6⟩:=h;have h4:=Ak h4;have h5:=Ak h5;have h6:=Ak h6;have q0:=Xx hm h1 hmx;have q1:=Xx hl h3 hlo;have q2:=Xx hhi' h2 hhi;generalize hw:ec x=u at hx;cases hx with
     | sl _ _ _ _ lc c hρ _ dV=>
      refine ⟨_,.sl _ _ _ _ lc _ hρ rfl (by omega),fun w=> ?_⟩;have sb:=Yi (P:=P) true len c m hh l (lo.map ec) (hi.map ec) ((some y).map ec) (q0.elim (fun q=>by cases q.1) (fun ⟨k,q⟩=>.inr ⟨k,q,by omega⟩))
       (q2.elim (fun q=>by grind) (fun ⟨k,q⟩=>.inr ⟨k,q,h5⟩)) (q1.elim (fun q=>.inl ⟨by rw [q.1];rfl,q.2⟩) (fun ⟨k,q⟩=>.inr ⟨k,q,h6⟩)) w
      simp only [Option.map_some] at sb;simp [Instr.sliceAt,Instr.slice,run_underlying hu,sb,Zr hs];exact x5y _ _ _ _ _ _ _ rfl
   .cases h
  .cases h
 .rename_i e b sz off len zz hu hev;rw [hev] at hx;split at h
  .rename_i s hh x2 l x3 hs hhi' hl;cases hz:(Nat.beq zz s.size&&Nat.beq sz zz) with
   | false=>grind
   | true=>
    rw [hz,Ab] at h;simp only [Ae] at hz;have hz1:=Aj hz.1;obtain rfl:=Aj hz.2;subst hz1;rcases (by cases hlo':lo.isSome with
      | true=>rw [hlo',Ab] at h;exact .inl h
      | false=>rw [hlo',Aa] at h;exact .inr h:(some _=some _)\/(some _=some _)) with h | h
    .simp only [Ad,Ac,Ae,Ar] at h;obtain ⟨rfl,h2,h3,h5,h6⟩:=h;have q1:=Xx hl h3 hlo;have q2:=Xx hhi' h2 hhi;generalize hw:ec x=u at hx;cases hx with
     | sla _ _ _ _ _ lc c hρ hc dV=>
      have hlc:l<=c:=(by omega);have sb:=Yi (P:=P) true len c c hh l (lo.map ec) (hi.map ec) none (.inl ⟨rfl,rfl⟩)
       (q2.elim (fun q=>.inl ⟨by rw [q.1];rfl,rfl,q.2⟩) (fun ⟨k,q⟩=>.inr ⟨k,q,by omega⟩)) (q1.elim (fun q=>.inl ⟨by rw [q.1];rfl,q.2⟩) (fun ⟨k,q⟩=>.inr ⟨k,q,h6⟩))
      by_cases hcl:c=l
      .subst hcl;have e0:hh - c=0:=(by omega);rw [e0];refine ⟨_,.slve _ _ _ lc.blk (lc.base+off*s.size) (c - c),fun w=> ?_⟩;simp [Instr.sliceAt,Instr.slice,run_underlying hu,sb,Zr hs,e0]
      .refine ⟨_,.slv _ _ _ _ lc (c - l) hρ (by omega),fun w=> ?_⟩;simp [Instr.sliceAt,Instr.slice,run_underlying hu,sb,Zr hs,Aw hcl,Xo,AU,AD]
     | slan=>
      obtain rfl:hh=0:=by omega
      obtain rfl:l=0:=by omega
      refine ⟨_,.slvn _ _ _,fun w=> ?_⟩;have sb:=Yi (P:=P) true 0 0 0 0 0 (lo.map ec) (hi.map ec) none (.inl ⟨rfl,rfl⟩)
       (q2.elim (fun q=>.inl ⟨by rw [q.1];rfl,rfl,rfl⟩) (fun ⟨k,q⟩=>.inr ⟨k,q,Aq _⟩)) (q1.elim (fun q=>.inl ⟨by rw [q.1];rfl,rfl⟩) (fun ⟨k,q⟩=>.inr ⟨k,q,Aq _⟩))
      simp_all [Instr.sliceAt,Instr.slice,run_underlying,Zr]
    simp only [Ad,Ac,Ae,Bs,Ar] at h;obtain ⟨rfl,h2,h3,h5,h6,h7⟩:=h;have q1:=Xx hl h3 hlo;have q2:=Xx hhi' h2 hhi;generalize hw:ec x=u at hx;cases hx with
    | sla _ _ _ _ _ lc c hρ hc dV=>
     simp only [Dj] at hc;have hlc:l<=c:=(by omega);have hmul:l*s.size+(c - l)*s.size=c*s.size:=by rw [<-AU];grind
     have hmul2:(off+l)*s.size=off*s.size+l*s.size:=AU _ _ _;refine ⟨.slice (some ⟨lc.blk,lc.base+(off+l)*s.size,none⟩) (hh - l) (c - l),.sla _ _ _ _ _ lc _ hρ ?_ (by omega),fun w=> ?_⟩
     .simp only [Dj];omega
     .have sb:=Yi (P:=P) true len c c hh l (lo.map ec) (hi.map ec) none (.inl ⟨rfl,rfl⟩)
       (q2.elim (fun q=>.inl ⟨by rw [q.1];rfl,rfl,q.2⟩) (fun ⟨k,q⟩=>.inr ⟨k,q,by omega⟩)) (q1.elim (fun q=>.inl ⟨by rw [q.1];rfl,q.2⟩) (fun ⟨k,q⟩=>.inr ⟨k,q,h6⟩)) w
      simp [Instr.sliceAt,Instr.slice,run_underlying hu,sb,Zr hs];by_cases hcl:c=l
      .rw [AG hcl];rcases h7 with h7 | h7
       .omega
       simp_all
      grind [Xo]
    | slan=>
     obtain rfl:hh=0:=by omega
     obtain rfl:l=0:=by omega
     refine ⟨_,.slan _ _ _ _,fun w=> ?_⟩;have sb:=Yi (P:=P) true 0 0 0 0 0 (lo.map ec) (hi.map ec) none (.inl ⟨rfl,rfl⟩)
      (q2.elim (fun q=>.inl ⟨by rw [q.1];rfl,rfl,rfl⟩) (fun ⟨k,q⟩=>.inr ⟨k,q,Aq _⟩)) (q1.elim (fun q=>.inl ⟨by rw [q.1];rfl,rfl⟩) (fun ⟨k,q⟩=>.inr ⟨k,q,Aq _⟩))
     simp_all [Instr.sliceAt,Instr.slice,run_underlying,Zr]
  .cases h
 .rename_i e b sz off len hu hev;rw [hev] at hx;split at h
  .rename_i s hh x2 l x3 hs hhi' hl;cases hz:Nat.beq sz s.size with
   | false=>grind
   | true=>
    rw [hz,Ab] at h;obtain rfl:=Aj hz;simp only [Ad,Ac,Ae,Ar] at h;obtain ⟨rfl,h2,h3,h5,h6⟩:=h;have q1:=Xx hl h3 hlo;have q2:=Xx hhi' h2 hhi;generalize hw:ec x=u at hx;cases hx with
    | slv _ _ _ _ lc c hρ dV=>
     have hlc:l<=c:=(by omega);have sb:=Yi (P:=P) true len c c hh l (lo.map ec) (hi.map ec) none (.inl ⟨rfl,rfl⟩)
      (q2.elim (fun q=>.inl ⟨by rw [q.1];rfl,rfl,q.2⟩) (fun ⟨k,q⟩=>.inr ⟨k,q,by omega⟩)) (q1.elim (fun q=>.inl ⟨by rw [q.1];rfl,q.2⟩) (fun ⟨k,q⟩=>.inr ⟨k,q,h6⟩))
     by_cases hcl:c=l
     .subst hcl;have e0:hh - c=0:=(by omega);rw [e0];refine ⟨_,.slve _ _ _ lc.blk (lc.base+off*s.size) (c - c),fun w=> ?_⟩;simp [Instr.sliceAt,Instr.slice,run_underlying hu,sb,Zr hs,e0]
     .refine ⟨_,.slv _ _ _ _ lc (c - l) hρ (by omega),fun w=> ?_⟩;simp [Instr.sliceAt,Instr.slice,run_underlying hu,sb,Zr hs,Aw hcl,Xo,AU,AD]
    | slve _ _ _ blk base c=>
     obtain rfl:hh=0:=by omega
     obtain rfl:l=0:=by omega
     have sb:=Yi (P:=P) true 0 c c 0 0 (lo.map ec) (hi.map ec) none (.inl ⟨rfl,rfl⟩)
      (q2.elim (fun q=>.inl ⟨by rw [q.1];rfl,rfl,rfl⟩) (fun ⟨k,q⟩=>.inr ⟨k,q,AA _⟩)) (q1.elim (fun q=>.inl ⟨by rw [q.1];rfl,rfl⟩) (fun ⟨k,q⟩=>.inr ⟨k,q,Aq _⟩))
     refine ⟨_,.slve _ _ _ blk base c,fun w=> ?_⟩;simp_all [Instr.sliceAt,Instr.slice,run_underlying,Zr,Xo]
    | slvn=>
     obtain rfl:hh=0:=by omega
     obtain rfl:l=0:=by omega
     refine ⟨_,.slvn _ _ _,fun w=> ?_⟩;have sb:=Yi (P:=P) true 0 0 0 0 0 (lo.map ec) (hi.map ec) none (.inl ⟨rfl,rfl⟩)
      (q2.elim (fun q=>.inl ⟨by rw [q.1];rfl,rfl,rfl⟩) (fun ⟨k,q⟩=>.inr ⟨k,q,Aq _⟩)) (q1.elim (fun q=>.inl ⟨by rw [q.1];rfl,rfl⟩) (fun ⟨k,q⟩=>.inr ⟨k,q,Aq _⟩))
     simp_all [Instr.sliceAt,Instr.slice,run_underlying,Zr]
  .cases h
 .rename_i e len get hu hev;rw [hev] at hx;split at h
  .rename_i s hh x2 l x3 hs hhi' hl;simp only [Ad,Ac,Ae,Ar] at h;obtain ⟨rfl,h2,h3,h5,h6,h7⟩:=h;have h7:= @Az _ (Classical.propDecidable _) h7;have q1:=Xx hl h3 hlo;have q2:=Xx hhi' h2 hhi;generalize hw:ec x=u at hx;cases hx with
   | dat _ _ blk base sz c val eC hsz hv hh'=>
    have hlc:l<=c:=(by omega);have sb:=Yi (P:=P) true len c c hh l (lo.map ec) (hi.map ec) none (.inl ⟨rfl,rfl⟩)
     (q2.elim (fun q=>.inl ⟨by rw [q.1];rfl,rfl,q.2⟩) (fun ⟨k,q⟩=>.inr ⟨k,q,by omega⟩)) (q1.elim (fun q=>.inl ⟨by rw [q.1];rfl,q.2⟩) (fun ⟨k,q⟩=>.inr ⟨k,q,h6⟩))
    by_cases hcl:c=l
    .subst hcl;have e0:hh - c=0:=(by omega);rw [e0];refine ⟨_,.dat 0 _ blk base s.size (c - c) (fun _ _=>undef) (AA _) (fun i hi=>absurd hi (AL _)) (fun i j hi=>absurd hi (AL _)) (fun i j hi=>absurd hi (AL _)),fun w=> ?_⟩;simp [Instr.sliceAt,Instr.slice,run_underlying hu,sb,Zr hs,e0]
    .refine ⟨_,.dat (hh - l) (fun k=>get (l+k)) blk (base+l*s.size) s.size (c - l) (fun k=>val (l+k)) (by omega) (fun i hi=>h7 _ (by omega)) (fun i j hi hj=>hv _ j (by omega) hj) (fun i j hi hj=> ?_),fun w=> ?_⟩
     .grind
     .simp [Instr.sliceAt,Instr.slice,run_underlying hu,sb,Zr hs,Aw hcl,Xo]
   | datn=>
    obtain rfl:hh=0:=by omega
    obtain rfl:l=0:=by omega
    refine ⟨_,.datn _,fun w=> ?_⟩;have sb:=Yi (P:=P) true 0 0 0 0 0 (lo.map ec) (hi.map ec) none (.inl ⟨rfl,rfl⟩)
     (q2.elim (fun q=>.inl ⟨by rw [q.1];rfl,rfl,rfl⟩) (fun ⟨k,q⟩=>.inr ⟨k,q,Aq _⟩)) (q1.elim (fun q=>.inl ⟨by rw [q.1];rfl,rfl⟩) (fun ⟨k,q⟩=>.inr ⟨k,q,Aq _⟩))
    simp_all [Instr.sliceAt,Instr.slice,run_underlying,Zr]
   | datz _ a c=>
    obtain rfl:hh=0:=by omega
    obtain rfl:l=0:=by omega
    have sb:=Yi (P:=P) true 0 c c 0 0 (lo.map ec) (hi.map ec) none (.inl ⟨rfl,rfl⟩)
     (q2.elim (fun q=>.inl ⟨by rw [q.1];rfl,rfl,rfl⟩) (fun ⟨k,q⟩=>.inr ⟨k,q,AA _⟩)) (q1.elim (fun q=>.inl ⟨by rw [q.1];rfl,rfl⟩) (fun ⟨k,q⟩=>.inr ⟨k,q,Aq _⟩))
    by_cases hc0:c=0
    .subst hc0;refine ⟨_,.datz _ a 0,fun w=> ?_⟩;simp_all [Instr.sliceAt,Instr.slice,run_underlying,Zr]
    .refine ⟨_,.datz _ (a.add (0*s.size)) c,fun w=> ?_⟩;simp_all [Instr.sliceAt,Instr.slice,run_underlying,Zr]
  .cases h
 .rename_i n e b off hu hev;rw [hev] at hx;split at h
  .rename_i s m x1 hh x2 l x3 hs hm hhi' hl;split at h
   .cases h
   .rename_i hno;simp only [Ad,Ac,Ae] at h;obtain ⟨rfl,⟨⟨⟨⟨h1,h2⟩,h3⟩,h4⟩,h5⟩,h6⟩:=h;have h4:=Ak h4;have h5:=Ak h5;have h6:=Ak h6;have q0:=Xx hm h1 hmx;have q1:=Xx hl h3 hlo;have q2:=Xx hhi' h2 hhi;generalize hw:ec x=u at hx;cases hx with
    | ptr _ _ lc hρ=>
     refine ⟨_,.sl _ _ _ _ lc _ hρ rfl (by omega),fun w=> ?_⟩;have sb:=Yi (P:=P) false n n m hh l (lo.map ec) (hi.map ec) (mx.map ec) (q0.elim (fun q=>.inl ⟨by rw [q.1];rfl,q.2⟩) (fun ⟨k,q⟩=>.inr ⟨k,q,h4⟩))
      (q2.elim (fun q=>.inl ⟨by rw [q.1];rfl,by
       simp_all,q.2⟩) (fun ⟨k,q⟩=>.inr ⟨k,q,h5⟩)) (q1.elim (fun q=>.inl ⟨by rw [q.1];rfl,q.2⟩) (fun ⟨k,q⟩=>.inr ⟨k,q,h6⟩)) w
     have bb:=x5y _ lc.blk lc.base off (l*s.size) m l rfl;simp [Instr.sliceAt,run_underlying hu,Instr.sureAddr,sb,Zr hs]
     grind
  .cases h
 .cases h
def E5 (ρ:B6) (ev:Operand->B2) (ec:Operand->Value) (op:Op):Prop:= ∀x,x∈op.operands->VRel ρ (ev x) (ec x)
theorem XX {ev:Operand->B2} {ec:Operand->Value}: ∀(ps:List (Nat×Operand)),(∀p∈ps,VRel ρ (ev p.2) (ec p.2))->JZ ρ (ps.map fun p=>(p.1,ev p.2)) (ps.map fun p=>(p.1,ec p.2)):=fun ps h=>
 Vi.maps _ _ ps fun p hp=>⟨rfl,h p hp⟩
theorem y9v {o:Oper} {ev:Operand->B2} {ec:Operand->Value} {v:B2} {b:Bool} (h:DN P o.op ev=some (v,b)) (hb:b=true) (hr:E5 ρ ev ec o.op):
  ∃u,VRel ρ v u/\ ∀w,(execOp ec o).run P w=.ok (.value u) w:=by
 obtain ⟨dst,op,type,pos,after,guard⟩:=o;simp only at h hr ⊢;have lift: ∀{s:Sem Value},(∃z,VRel ρ v z/\ ∀w,s.run P w=.ok z w)->(∀w,(execOp ec ⟨dst,op,type,pos,after,guard⟩).run P w=(do pure (.value (<-s)):Sem Next).run P w)->
   ∃u,VRel ρ v u/\ ∀w,(execOp ec ⟨dst,op,type,pos,after,guard⟩).run P w=.ok (.value u) w:=by
  simp_all
 cases op with
 | move x=>simp only [DN,Ad,Ac] at h;obtain ⟨rfl,_⟩:=h;exact ⟨ec x,hr x (by simp [Op.operands]),fun w=>rfl⟩
 | assign x=>simp only [DN,Ad,Ac] at h;obtain ⟨rfl,_⟩:=h;exact ⟨ec x,hr x (by simp [Op.operands]),fun w=>rfl⟩
 | pick c x y=>
  have hc:=hr c (by simp [Op.operands]);have hx:=hr x (by simp [Op.operands]);have hy:=hr y (by simp [Op.operands]);unfold DN at h;simp only at h;split at h
  .rename_i cb e;rw [e] at hc;generalize hw:ec c=u at hc;cases hc;simp only [Ad,Ac] at h;obtain ⟨rfl,_⟩:=h;cases cb;all_goals simp_all [execOp,asBool]
  .cases h
 | build t parts=>
  simp only [DN,An,Ac] at h;obtain ⟨v',hv,rfl,_⟩:=h;refine lift (x9d hv (XX _ fun p hp=>hr p.2 ?_)) fun w=> ?_
  .grind [Op.operands]
  .have:(parts.map fun (i,x)=>(i,ec x))=(parts.toList.map fun p=>(p.1,ec p.2)).toArray :=by
    grind
   simp only [execOp,this]
 | nilCheck x=>
  have hx:=hr x (by simp [Op.operands]);unfold DN at h;simp only at h;split at h;all_goals first
   | (rename_i e
      rw [e] at hx;simp only [Ad,Ac] at h;obtain ⟨rfl,_⟩:=h;refine ⟨ec x,hx,fun w=> ?_⟩;generalize hw:ec x=u at hx;cases hx <;> simp [execOp,hw])
   | cases h
 | binOp op t x y yt=>have hx:=hr x (by simp [Op.operands]);have hy:=hr y (by simp [Op.operands]);exact lift (v5c (by simpa only [DN] using h) hb hx hy x y) fun w=>rfl
 | unOp op t x=>have hx:=hr x (by simp [Op.operands]);simp only [DN,An,Ac] at h;obtain ⟨v',hv,rfl,_⟩:=h;exact lift (u3f hv hx) fun w=>rfl
 | convert src dst' x=>
  have hx:=hr x (by simp [Op.operands]);unfold DN at h;simp only at h;split at h
  .rename_i sd k k' n hs hu e;rw [e] at hx;generalize hw:ec x=u at hx;cases hx;simp only [Ad,Ac] at h;obtain ⟨rfl,_⟩:=h;refine ⟨_,.int _ _,fun w=> ?_⟩;cases sd <;> simp [execOp,Go.convert,hw,run_underlying hs,run_underlying hu,Conv.intToInt]
  .cases h
 | makeInterface t x=>
  have hx:=hr x (by simp [Op.operands]);unfold DN at h;simp only at h;split at h
  .cases h
  .cases h
  .rename_i d hni hu;simp only [Ad,Ac] at h;obtain ⟨rfl,_⟩:=h;refine ⟨_,.ifc t _ _ hx,fun w=> ?_⟩;simp_all [execOp,Instr.makeInterface,run_underlying]
 | makeFunc fn first captured=>
  cases fn with
  | func f=>
   unfold DN at h;simp only at h;cases hf:first.isEmpty with
   | false=>
    rw [hf,Aa] at h;cases hc:captured.isEmpty with
    | false=>grind
    | true=>
     rw [hc,Ab] at h;simp only [Ad,Ac] at h;obtain ⟨rfl,_⟩:=h;have hc:captured= #[]:=(by grind);subst hc;refine ⟨_,.fnb f _ (first.map ec) (by simp) fun i h1 h2=> ?_,fun w=>by simp [execOp,Instr.makeFunc]⟩;have:i<first.size:=by grind
     simpa using hr first[i] (by simp [Op.operands])
   | true=>
    rw [hf,Ab] at h;simp only [Ad,Ac] at h;obtain ⟨rfl,_⟩:=h;have hf:first= #[]:=by grind
    subst hf;refine ⟨_,.fn f _ (captured.map ec) (by simp) fun i h1 h2=> ?_,fun w=>by simp [execOp,Instr.makeFunc]⟩;have:i<captured.size:=by grind
    simpa using hr captured[i] (by simp [Op.operands])
  | _=>simp [DN] at h
 | fieldAddr t x f=>have hx:=hr x (by simp [Op.operands]);simp only [DN,An,Ac] at h;obtain ⟨v',hv,rfl,_⟩:=h;exact lift (y4j hv hx) fun w=>rfl
 | field t x f=>have hx:=hr x (by simp [Op.operands]);simp only [DN,An,Ac] at h;obtain ⟨v',hv,rfl,_⟩:=h;exact lift (x8z hv hx) fun w=>rfl
 | indexAddr t x i=>have hx:=hr x (by simp [Op.operands]);have hi:=hr i (by simp [Op.operands]);exact lift (y4i (by simpa only [DN] using h) hb hx hi) fun w=>rfl
 | index t x i=>have hx:=hr x (by simp [Op.operands]);have hi:=hr i (by simp [Op.operands]);exact lift (x8y (by simpa only [DN] using h) hb hx hi) fun w=>rfl
 | extract x i=>
  have hx:=hr x (by simp [Op.operands]);unfold DN at h;simp only at h;split at h
  .rename_i vs e;rw [e] at hx;simp only [An,Ac] at h;obtain ⟨v',hv,rfl,_⟩:=h;obtain ⟨hlt,rfl⟩:=Bg.1 hv;generalize hw:ec x=u at hx;cases hx with
   | tup _ us hl hh=>have h2:i<us.size:=(by omega);simp_all [execOp,Instr.extract]
  .cases h
 | slice t x lo hi mx=>
  refine lift (x8x (by simpa only [DN] using h) hb (hr x (by simp [Op.operands])) (fun y hy=>hr y ?_) (fun y hy=>hr y ?_) (fun y hy=>hr y ?_)) fun w=>rfl;all_goals grind [Op.operands]
 | call c=>
  obtain ⟨callee,args,argTypes⟩:=c;cases callee with
  | builtin bi=>
   simp only [DN,An,Ac] at h;obtain ⟨v',hv,rfl,_⟩:=h;obtain ⟨z,hz,hs⟩:=x0o (ts:=argTypes) (us:=args.map ec) (type:=type) hv (by
    rw [Bw];exact Vi.maps _ _ _ fun a ha=>hr a (by grind [Op.operands,Call.operands]))
   simp_all [execOp,resolve,invoke]
  | value f=>simp [DN] at h
  | invoke r m=>simp [DN] at h
 | _=>simp [DN] at h
end
section
variable {P:Program} {ρ:B6}
def NE (ρ:B6) (w:World) (blk o:Nat) (cs:List B2):Prop:=
 ∀(i:Nat) (h:i<cs.length),∃v,w.cell? ⟨blk,o+i,none⟩=some v/\VRel ρ cs[i] v
theorem B7.cellsAt {mem:CD} {next:Nat} {w:World} (h:B7 ρ mem next w) {b:Nat} {l:Ce} {ab:CG} (hb:ρ b=some l) (hm:Yr mem b=some ab):NE ρ w l.blk l.base ab.cells:=by
 obtain ⟨_,_,_,cs,el,h1,h2,h3⟩:=h.blk b l ab hb hm;intro i hi
 grind [World.cell?]
theorem B7.dataAt {mem:CD} {next:Nat} {w:World} (h:B7 ρ mem next w) {cs:List B2} {blk base:Nat} {val:Nat->Value} (hv: ∀(j:Nat) (hj:j<cs.length),VRel ρ.bare cs[j] (val j))
  (hh: ∀j,j<cs.length->KK ρ.fz blk (base+j) (val j)):NE ρ w blk base cs:=by
 intro i hi;obtain ⟨arr,el,fz,e,f⟩:=hh i hi;have:=h.old _ _ e;exact ⟨val i,by simp [World.cell?,this,f],(hv i hi).mono (Tt ρ)⟩
theorem NE.load {w:World} {blk o:Nat} {cs:List B2} (h:NE ρ w blk o cs) {off n:Nat} (hn:off+n<=cs.length\/n=0):
  ∃vs:Array Value,vs.size=n/\(∀(i:Nat) (h1:off+i<cs.length) (h2:i<vs.size),VRel ρ cs[off+i] vs[i])/\(loadCells ⟨blk,o+off,none⟩ n).run P w=.ok vs w:=by
 have hc: ∀j,j<n->w.cell? ((⟨blk,o+off,none⟩:Addr).add j)=some ((w.cell? ⟨blk,o+(off+j),none⟩).getD undef):=by intro j hj;obtain ⟨v,e,_⟩:=h (off+j) (by omega);rw [Xo,AD,e];rfl
 refine ⟨_,?_,?_,run_loadCells w _ n (fun j=>(w.cell? ⟨blk,o+(off+j),none⟩).getD undef) hc⟩
 .simp
 .intro i h1 h2;obtain ⟨v,e,f⟩:=h (off+i) h1
  grind
theorem NE.part {w:World} {blk o:Nat} {cs:List B2} (h:NE ρ w blk o cs) {t:TypeId} {off:Nat} {v:B2} (hp:F3 P t cs off=some v):
  ∃z,VRel ρ v z/\(loadVar t ⟨blk,o+off,none⟩).run P w=.ok z w:=by
 unfold F3 at hp;split at hp
 .rename_i i ha hi;simp only [An] at hp;obtain ⟨p,hc,rfl⟩:=hp;obtain ⟨_,hl,hle⟩:=SD hc;obtain ⟨vs,hs,hv,hr⟩:=h.load (P:=P) (off:=off) (n:=i.size) (by omega);refine ⟨.agg vs,.agg _ _ (by omega) fun j h1 h2=> ?_,?_⟩
  .grind
  simp_all [loadVar,XO,Zr]
 .rename_i i ha hi;obtain ⟨hlt,rfl⟩:=Bg.1 hp;obtain ⟨v,e,f⟩:=h off hlt;simp_all [loadVar,XO]
 .cases hp
theorem y9x {mem:CD} {next:Nat} {w:World} (h:B7 ρ mem next w) {t:TypeId} {x v:B2} {u:Value} (hl:Nv P mem t x=some v) (hx:VRel ρ x u):
  ∃z,VRel ρ v z/\(Instr.loadAt t u).run P w=.ok z w:=by
 unfold Nv at hl;split at hl
 .split at hl
  .rename_i b off _ blk hm;cases hx with
   | ptr _ _ l hρ=>
    obtain ⟨z,hz,hr⟩:=(h.cellsAt hρ hm).part hl
    grind [Instr.loadAt,Instr.sureAddr]
  .cases hl
 .cases hx with
  | dptr _ blk base val hv hh=>
   obtain ⟨z,hz,hr⟩:=(h.dataAt hv hh).part hl
   grind [Instr.loadAt,Instr.sureAddr]
 .cases hl
theorem XF (n:Nat) (get:Nat->List B2):Ya (n+1) get=Ya n get++get n:=by unfold Ya;rw [Bj,List.flatMap_append];simp
theorem Ye {get:Nat->List B2} {sz:Nat}: ∀(n:Nat),(∀i,i<n->(get i).length =sz)->(Ya n get).length =n*sz
 | 0,_=>by simp [Ya]
 | n+1,h=>by rw [XF,AP,Ye n fun i hi=>h i (by omega),h n (by omega),AU,BV]
theorem Vf {get:Nat->List B2} {sz:Nat}: ∀(n:Nat),(∀i,i<n->(get i).length =sz)-> ∀(r j:Nat),r<n->j<sz->(Ya n get)[r*sz+j]? =(get r)[j]?
 | 0,_,r,j,hr,_=>by omega
 | n+1,h,r,j,hr,hj=>by
  have hl:=Ye n fun i hi=>h i (by omega);rw [XF];by_cases e:r=n
  .subst e;rw [List.getElem?_append_right (by omega),hl]
   congr 1;omega
  .have hlt:r<n:=by omega
   have:(r+1)*sz<=n*sz:=AC sz hlt;rw [AU,BV] at this;rw [List.getElem?_append_left (by omega)];exact Vf n (fun i hi=>h i (by omega)) r j hlt hj
theorem B7.rowAt {mem:CD} {next:Nat} {w:World} (h:B7 ρ mem next w) {b:Nat} {l:Ce} {ab:CG} {A:GS} (hb:ρ b=some l) (hm:Yr mem b=some ab) (hA:ab.arr=some A) {r:Nat} (hr:r<A.n):NE ρ w l.blk (l.base+r*A.sz) (A.get r):=by
 obtain ⟨_,_,har,_⟩:=h.blk b l ab hb hm;obtain ⟨e1,_,e3⟩:=har A hA;intro i hi;have hsz:=e3 r hr;have hg:=Vf A.n e3 r i hr (by omega);rw [Au hi,<-e1] at hg;obtain ⟨hlt,hge⟩:=Bg.1 hg;obtain ⟨v,e,f⟩:=h.cellsAt hb hm (r*A.sz+i) hlt
 grind
theorem y4a {mem:CD} {next:Nat} {w:World} (h:B7 ρ mem next w) {t:TypeId} {x v:B2} {u:Value} (hl:Nb P mem t x=some (v,true)) (hx:VRel ρ x u):
  ∃z,VRel ρ v z/\(Instr.loadAt t u).run P w=.ok z w:=by
 unfold Nb at hl;split at hl
 .split at hl
  .rename_i b sz r fo _ blk hm;split at hl
   .rename_i A hA;simp only [An,Ac,Ae,Ar] at hl;obtain ⟨v',hp,rfl,hs,hr⟩:=hl;obtain rfl:=Aj hs;cases hx with
    | epa _ _ _ _ l hρ=>
     obtain ⟨z,hz,dW⟩:=(h.rowAt hρ hm hA hr).part hp
     grind [Instr.loadAt,Instr.sureAddr]
   .cases hl
  .cases hl
 .simp only [An,Ac,Bh] at hl
  grind [y9x]
theorem y7b {st st':St} {b e:Bool} (h:st.test b=(e,st')):st'.env=st.env/\st'.mem=st.mem/\st'.next=st.next/\(st'.ob=true->e=b/\st.ob=true):=by
 obtain ⟨env,mem,next,orc,ob⟩:=st;cases orc with
 | nil=>
  grind [St.test]
 | cons c r=>
  grind [St.test]
theorem X5 : ∀(rw:D3) (r:Nat) (st:St) (cs:List B2) (st1:St),JS rw r st=(cs,st1)->st1.env=st.env/\st1.mem=st.mem/\st1.next=st.next/\(st1.ob=true->cs=rw.get r/\st.ob=true)
 | .flat g,r,st,cs,st1,h=>by simp only [JS,Ac] at h;obtain ⟨rfl,rfl⟩:=h;exact ⟨rfl,rfl,rfl,fun h=>⟨rfl,h⟩⟩
 | .one r0 c0 b,r,st,cs,st1,h=>by
  unfold JS at h;split at h;rename_i e st2 ht;obtain ⟨t1,t2,t3,t4⟩:=y7b ht;cases e with
  | true=>simp only [Ab,Ac] at h;obtain ⟨rfl,rfl⟩:=h;exact ⟨t1,t2,t3,fun ho=>⟨by simp only [D3.get];rw [<-(t4 ho).1];rfl,(t4 ho).2⟩⟩
  | false=>rw [Aa] at h;obtain ⟨p1,p2,p3,p4⟩:=X5 b r st2 cs st1 h;refine ⟨p1.trans t1,p2.trans t2,p3.trans t3,fun ho=> ?_⟩;obtain ⟨q1,q2⟩:=p4 ho;exact ⟨by simp only [D3.get];rw [<-(t4 q2).1];exact q1,(t4 q2).2⟩
 | .alt c a b,r,st,cs,st1,h=>by
  unfold JS at h;split at h;rename_i e st2 ht;obtain ⟨t1,t2,t3,t4⟩:=y7b ht;cases e with
  | true=>rw [Ab] at h;obtain ⟨p1,p2,p3,p4⟩:=X5 a r st2 cs st1 h;refine ⟨p1.trans t1,p2.trans t2,p3.trans t3,fun ho=> ?_⟩;obtain ⟨q1,q2⟩:=p4 ho;exact ⟨by simp only [D3.get];rw [<-(t4 q2).1];exact q1,(t4 q2).2⟩
  | false=>rw [Aa] at h;obtain ⟨p1,p2,p3,p4⟩:=X5 b r st2 cs st1 h;refine ⟨p1.trans t1,p2.trans t2,p3.trans t3,fun ho=> ?_⟩;obtain ⟨q1,q2⟩:=p4 ho;exact ⟨by simp only [D3.get];rw [<-(t4 q2).1];exact q1,(t4 q2).2⟩
theorem XT {st st1:St} {t:TypeId} {x v:B2} {o:Bool} (h:u3h P st t x=some (v,o,st1)):st1.env=st.env/\st1.mem=st.mem/\st1.next=st.next/\(st1.ob=true->Nb P st.mem t x=some (v,o)/\st.ob=true):=by
 unfold u3h at h;split at h
 .split at h
  .rename_i b sz r fo _ blk hm;split at h
   .rename_i A hA;split at h;rename_i cs st2 hp;simp only [An,Ac] at h;obtain ⟨v',hv,rfl,rfl,rfl⟩:=h;obtain ⟨p1,p2,p3,p4⟩:=X5 _ _ _ _ _ hp;refine ⟨p1,p2,p3,fun ho=> ?_⟩;obtain ⟨q1,q2⟩:=p4 ho;refine ⟨?_,q2⟩;subst q1;have hv:F3 P t (A.get r) fo=some v':=hv
    grind [Nb]
   .cases h
  .cases h
 .rename_i hx;simp only [An,Ac] at h
  grind [Nb]
theorem x5x {α:Type} {c:Bool} {x z:Option α} {y:α} (h:(bif c then x else z)=some y):(c=true/\x=some y)\/(c=false/\z=some y):=by grind
theorem z8f {A:GS} {r fo:Nat} {cs:List B2} {st st1:St} {rw1:D3} (h:setRow A r fo cs st=some (rw1,st1)):st1.env=st.env/\st1.mem=st.mem/\st1.next=st.next/\(st1.ob=true->((A.get r).length =A.sz->rw1.get=Xa A.get r fo cs)/\st.ob=true):=by
 obtain ⟨sz,n,rw0⟩:=A;unfold setRow at h;have full: ∀(g:Nat->List B2),cs.length=sz->(g r).length =sz->(fun k=>bif Nat.beq k r then cs else g k)=Xa g r 0 cs:=fun g h1 h2=>by
  grind [Xa]
 split at h
 .rename_i g hg;simp only at hg;subst hg;rcases x5x h with ⟨_,h⟩ | ⟨_,h⟩
  .simp only [Ad,Ac] at h;obtain ⟨rfl,rfl⟩:=h;exact ⟨rfl,rfl,rfl,fun ho=>⟨fun _=>rfl,ho⟩⟩
  .rcases x5x h with ⟨hc,h2⟩ | ⟨_,h2⟩
   .simp only [Ae] at hc;obtain rfl:=Aj hc.1;have hc2:=Aj hc.2;clear h;simp only [Ad,Ac] at h2;obtain ⟨rfl,rfl⟩:=h2;exact ⟨rfl,rfl,rfl,fun ho=>⟨fun hl=>full g hc2 hl,ho⟩⟩
   .cases h2
 .rename_i r0 c0 b hb;simp only at hb;subst hb;split at h;rename_i e st2 ht;obtain ⟨t1,t2,t3,t4⟩:=y7b ht;rcases x5x h with ⟨hc,h2⟩ | ⟨_,h2⟩
  .simp only [Ae] at hc;obtain rfl:=Aj hc.1.2;have hc2:=Aj hc.2;clear h;simp only [Ad,Ac] at h2;obtain ⟨rfl,rfl⟩:=h2;refine ⟨t1,t2,t3,fun ho=>⟨fun hl=> ?_,(t4 ho).2⟩⟩;have he:=(t4 ho).1;rw [hc.1.1] at he;obtain rfl:=Aj he.symm;have:=full (D3.get (.one r c0 b)) hc2 hl;show _=Xa (D3.get (.one r c0 b)) r 0 cs
   grind [D3.get]
  .cases h2
 .rename_i c a b hb;simp only at hb;subst hb;rcases x5x h with ⟨hc,h2⟩ | ⟨_,h2⟩
  .simp only [Ae] at hc;obtain rfl:=Aj hc.1;have hc2:=Aj hc.2;clear h;simp only [Ad,Ac] at h2;obtain ⟨rfl,rfl⟩:=h2;exact ⟨rfl,rfl,rfl,fun ho=>⟨fun hl=>full _ hc2 hl,ho⟩⟩
  .cases h2
structure EM (ρ:B6) (floor:Nat) (st st':St) (v:B2) (w:World) (ρ':B6) (u:Value) (w':World):Prop where
 val:VRel ρ' v u
 rel:B7 ρ' st'.mem st'.next w'
 ev:Ev ρ ρ' floor st.mem st.next st'.mem st'.next w w'
def JQ (P:Program) (o:Oper) (a:Act) (w:World) (K:B6->Value->World->Prop):Prop:=
 (∃ρ' u w',(execOp a.eval o).run P w=.ok (.value u) w'/\K ρ' u w')\/
 (∃ρ' w',(execOp a.eval o).run P w=.ok .skip w'/\K ρ' undef w')\/
 (∃f args,(execOp a.eval o).run P w=.ok (.enter f args) w/\Calls P f args w fun e w'=> ∃ρ' u,e=.returned u/\K ρ' u w')
theorem B7.hold {mem:CD} {next:Nat} {w:World} (h:B7 ρ mem next w): ∀k,w.heap.size<=k->ρ.fz k=none:=by
 intro k hk;cases e:ρ.fz k with
 | none=>rfl
 | some o=>have:=(AN.1 (h.old k o e)).1;omega
theorem SH {st:St} {w:World} (h:B7 ρ st.mem st.next w) (floor:Nat) (cs:List B2) (ty:TypeId) (vs:Array Value) (el:TypeId) (hn:cs.length<=vs.size)
  (hv: ∀(i:Nat) (h1:i<cs.length) (h2:i<vs.size),VRel ρ cs[i] vs[i]) (v:B2) (u:Value) (eP: ∀ρ',ρ' st.next=some ⟨w.heap.size,0,cs.length,vs.size⟩->VRel ρ' v u):
  EM ρ floor st (DU st cs ty) v w (Ur ρ st.next ⟨w.heap.size,0,cs.length,vs.size⟩) u {w with heap:=w.heap.push (.cells vs el)}:=
 ⟨eP _ (by simp [Ur]),h.new cs ty vs el h.hold hn hv,Ev.ofNew h floor _ _ _ (Aq _)⟩
theorem x8v {st st':St} {w:World} (h:B7 ρ st.mem st.next w) {floor:Nat} {t:TypeId} {x v:B2} {u z:Value} (hs:Nc P floor st t x v=some st') (hx:VRel ρ x u) (hv:VRel ρ v z):
  ∃w',(Instr.storeAt t u z).run P w=.ok () w'/\EM ρ floor st st' (.tup []) w ρ undef w'/\st'.env=st.env/\st'.ob=st.ob:=by
 unfold Nc at hs;split at hs
 .rename_i b off i hi;simp only at hs;cases hc:(Nat.ble floor b&&Nat.beq v.cells.length i.size&&HX v&&v.cells.all DP) with
  | false=>grind
  | true=>
   rw [hc,Ab] at hs;simp only [Ae] at hc;obtain ⟨⟨⟨hf,hn⟩,hbx⟩,hsc⟩:=hc;have hf:=Ak hf;have hn:=Aj hn;split at hs
   .rename_i blk hm;cases eO:Nat.ble (off+i.size) blk.cells.length with
    | false=>grind
    | true=>
     rw [eO,Ab] at hs;have eO:=Ak eO;obtain rfl:=Ag hs;cases hx with
     | ptr _ _ l hρ=>
      have dZ:=hv.cells hbx;have eY:=VRel.cells_oneCell dZ hsc;have dV:z.cells.toList.length=v.cells.length:=(by simpa using dZ.1.symm);obtain ⟨cur,el,hw,hsz,dU⟩:=h.write hρ hm (off:=off) (cs:=v.cells) (vs:=z.cells.toList) dV (by omega) (fun j h1 h2=>by simpa using dZ.2 j h1 (by grind));have dW:=run_storeCells_at P l.blk (l.base+off) el z.cells.toList 0 cur w hw (by omega) eY;refine ⟨w.setRow l.blk (cur.toList.take (l.base+off)++z.cells.toList++cur.toList.drop (l.base+off+z.cells.toList.length)).toArray,?_,⟨.tup [] #[] rfl (fun j h1 _=>by simp at h1),?_,Ev.ofWrite h hρ hf _ _⟩,rfl,rfl⟩;all_goals simp_all [Instr.storeAt,Instr.sureAddr,storeVar,Zr,St.withMem]
   .cases hs
 .cases hs
theorem z4j {get:Nat->List B2} {sz n r fo:Nat} {cs:List B2} (hl: ∀i,i<n->(get i).length =sz) (hf:fo+cs.length<=sz): ∀i,i<n->(Xa get r fo cs i).length =sz:=by
 intro i hi;unfold Xa;cases e:Nat.beq i r with
 | false=>exact hl i hi
 | true=>
  obtain rfl:=Aj e
  grind
theorem u6c {get:Nat->List B2} {sz n r fo:Nat} {cs:List B2} (hl: ∀i,i<n->(get i).length =sz) (hr:r<n) (hf:fo+cs.length<=sz):
  (Ya n get).take (r*sz+fo)++cs++(Ya n get).drop (r*sz+fo+cs.length)=Ya n (Xa get r fo cs):=by
 have dV:=Ye n hl;have fP:=Ye n (z4j (r:=r) hl hf);have hb:(r+1)*sz<=n*sz:=AC sz hr;rw [AU,BV] at hb;have eO:r*sz+fo+cs.length<=(Ya n get).length :=by omega
 apply List.ext_getElem?;intro i;rw [Qs _ _ _ _ eO];by_cases hi:i<n*sz
 .have hsz:0<sz:=by
   grind
  have hj:i %sz<sz:=Bq _ hsz;have hq:i / sz<n:=A9 (by grind);have e:i=i / sz*sz+i %sz:=by rw [BC];exact (Bt i sz).symm
  generalize i / sz=q at*;generalize i %sz=j at*;subst e;rw [Vf n (z4j (r:=r) hl hf) q j hq hj,Vf n hl q j hq hj];unfold Xa;cases eq:Nat.beq q r with
  | true=>
   obtain rfl:=Aj eq
   grind
  | false=>
   have hne:=Nat.ne_of_beq_eq_false eq;simp only [Aa];rcases Nat.lt_or_gt_of_ne hne with h | h
   .have:(q+1)*sz<=r*sz:=AC sz h
    grind
   .have:(r+1)*sz<=q*sz:=AC sz h
    grind
 grind
theorem B7.setArr {mem:CD} {next:Nat} {w:World} {b:Nat} {cs:List B2} {ty:TypeId} (h:B7 ρ (Wb mem b (some ⟨cs,ty,none⟩)) next w) (A:GS) (h1:cs=Ya A.n A.get) (h2:1<=A.sz) (h3: ∀i,i<A.n->(A.get i).length =A.sz):
  B7 ρ (Wb mem b (some ⟨cs,ty,some A⟩)) next w:=by
 have some_iff: ∀c,(Yr (Wb mem b (some ⟨cs,ty,some A⟩)) c).isSome =(Yr (Wb mem b (some ⟨cs,ty,none⟩)) c).isSome :=fun c=>by
  grind [Uk]
 refine ⟨h.dom,fun c c' m m' e e' he hs hs'=>h.inj c c' m m' e e' he (by grind) (by grind),fun c m ab e hc=> ?_,h.old,fun c m e hs=>h.sep c m e (by grind),h.real,fun c hc=> ?_,h.ldom⟩
 .by_cases ecb:c=b
  .subst ecb;rw [Ym] at hc;obtain rfl:=Ag hc;obtain ⟨n,t,_,k⟩:=h.blk c m ⟨cs,ty,none⟩ e (Ym _ _ _);exact ⟨n,t,fun B hB=>by grind,k⟩
  .rw [Zu _ _ ecb] at hc;exact h.blk c m ab e (by rw [Zu _ _ ecb];exact hc)
 .have:=h.bd c hc
  grind [Uk]
theorem UL {cx:CL} {st st':St} {b:Bool} (h:st.owe cx b=some st'):st'.env=st.env/\st'.mem=st.mem/\st'.next=st.next/\(st'.ob=true->b=true/\st.ob=true):=by
 obtain ⟨env,mem,next,orc,ob⟩:=st
 grind [St.owe]
theorem x5z {cx:CL} {st st':St} {w:World} (h:B7 ρ st.mem st.next w) {t:TypeId} {x v:B2} {u z:Value} (hs:NF P cx st t x v=some st') (hob:st'.ob=true) (hx:VRel ρ x u) (hv:VRel ρ v z):
  ∃w',(Instr.storeAt t u z).run P w=.ok () w'/\EM ρ cx.floor st st' (.tup []) w ρ undef w':=by
 unfold NF at hs;split at hs
 .rename_i b sz r fo i hi;cases hc:(Nat.ble cx.floor b&&Nat.beq v.cells.length i.size&&HX v&&v.cells.all DP&&Nat.ble (fo+i.size) sz) with
  | false=>grind
  | true=>
   rw [hc,Ab] at hs;simp only [Ae] at hc;obtain ⟨⟨⟨⟨hf,hn⟩,hbx⟩,hsc⟩,hfo⟩:=hc;have hf:=Ak hf;have hn:=Aj hn;have hfo:=Ak hfo;split at hs
   .rename_i blk hm;split at hs
    .rename_i A hA;split at hs
     .rename_i rw1 st1 fM;obtain ⟨_,o2,o3,o4⟩:=UL hs;obtain ⟨ho,hob1⟩:=o4 hob;obtain ⟨s1,s2,s3,s4⟩:=z8f fM;have o2:st'.mem=Wb st1.mem b (some ⟨Ya A.n rw1.get,blk.ty,some ⟨A.sz,A.n,rw1⟩⟩):=o2;have o3:st'.next=st1.next:=o3
      rw [s2] at o2;rw [s3] at o3;simp only [Ae,Ar] at ho;obtain ⟨hsz,hr⟩:=ho;obtain rfl:=Aj hsz;cases hx with
      | epa _ _ _ _ l hρ=>
       obtain ⟨fG,fQ,eH⟩:=(h.blk b l blk hρ hm).arr A hA;have dZ:=hv.cells hbx;have eY:=VRel.cells_oneCell dZ hsc;have dV:z.cells.toList.length=v.cells.length:=(by simpa using dZ.1.symm);have hrl:=Ye A.n eH;have hb:(r+1)*A.sz<=A.n*A.sz:=AC A.sz hr;rw [AU,BV] at hb;obtain ⟨cur,el,hw,hsz,dU⟩:=h.write hρ hm (off:=r*A.sz+fo) (cs:=v.cells) (vs:=z.cells.toList) dV (by grind) (fun j h1 h2=>by simpa using dZ.2 j h1 (by grind));have dW:=run_storeCells_at P l.blk (l.base+(r*A.sz+fo)) el z.cells.toList 0 cur w hw (by omega) eY;rw [fG,u6c eH hr (by omega)] at dU;have hrw:=(s4 hob1).1 (eH r hr);rw [<-hrw] at dU;have dU:=dU.setArr ⟨A.sz,A.n,rw1⟩ rfl fQ (by show∀i,i<A.n->(rw1.get i).length =A.sz;rw [hrw];exact z4j (sz:=A.sz) eH (by omega));refine ⟨w.setRow l.blk (cur.toList.take (l.base+(r*A.sz+fo))++z.cells.toList++cur.toList.drop (l.base+(r*A.sz+fo)+z.cells.toList.length)).toArray,?_,⟨.tup [] #[] rfl (fun j h1 _=>by simp at h1),?_,?_⟩⟩
       .have hzs:z.cells.size=i.size:=(by grind);simp only [Bd] at dW;simp [Instr.storeAt,Instr.sureAddr,storeVar,Zr hi,hzs,-List.append_assoc,-Array.length_toList,dW]
       all_goals grind [Ev.ofWrite]
     .cases hs
    .cases hs
   .cases hs
 .cases hs
theorem x2g (f:Nat->Value):(Array.range 0).map f= #[]:=by grind
theorem Tq (n:Nat) (l:List B2):(DJ n l).length =n*l.length:=by simp_all [DJ]
theorem v8q (l:List B2): ∀(n i:Nat) (h:i<(DJ n l).length) (hl:i %l.length<l.length),(DJ n l)[i]=l[i %l.length]
 | 0,i,h,_=>by simp [DJ] at h
 | n+1,i,h,hl=>by
  have e:DJ (n+1) l=l++DJ n l:=by simp [DJ,List.replicate_succ]
  have hpos:0<l.length:=by omega
  by_cases hi:i<l.length
  .simp only [e,BD hi,Nat.mod_eq_of_lt hi]
  .have h2:i - l.length<(DJ n l).length :=by rw [e] at h;simp at h;omega
   simp only [e];rw [By (by omega)];have hm:(i - l.length) %l.length=i %l.length:=(Nat.mod_eq_sub_mod (by omega)).symm;rw [v8q l n (i - l.length) h2 (by omega)];simp only [hm]
theorem Sf {zero:List B2} {zs:Array Value} (h:Jq ρ zero zs) (n m:Nat) (hm:m=n*zero.length):Jq ρ (DJ n zero) ((Array.range m).map (zs[· %zs.size]!)):=by
 refine ⟨by rw [Tq];simp [hm],fun i h1 h2=> ?_⟩;have hi:i<n*zero.length:=by grind
 have hpos:0<zero.length:=by
  grind
 have hlt:i %zero.length<zero.length:=Bq _ hpos;rw [v8q zero n i h1 hlt];have hlt2:i %zero.length<zs.size:=by rw [<-h.1];exact hlt
 have:=h.2 (i %zero.length) hlt hlt2;simp only [Array.getElem_map,Array.getElem_range];rw [<-h.1]
 grind
theorem y3d {st st':St} {w:World} (h:B7 ρ st.mem st.next w) (floor:Nat) {t:TypeId} {len:Nat} {ps:List (Nat×B2)} {qs:List (Nat×Value)} {v:B2} {un:Bool} (hb:Ks P un st t len ps=some (v,st')) (hp:JZ ρ ps qs):
  ∃ρ' u w',(Instr.buildSlice t len qs.toArray).run P w=.ok u w'/\EM ρ floor st st' v w ρ' u w'/\st'.env=st.env/\st'.ob=st.ob:=by
 unfold Ks at hb;split at hb
 .rename_i e hu;split at hb
  .rename_i i zero hi hz;cases hc:(Nat.ble (len*i.size) 16777216&&Nat.beq zero.length i.size) with
   | false=>grind
   | true=>
    rw [hc,Ab] at hb;simp only [Ae] at hc;have hle:=Ak hc.1;have hzl:=Aj hc.2;split at hb
    .rename_i cells dZ;simp only [Ad,Ac] at hb;obtain ⟨rfl,rfl⟩:=hb;obtain ⟨_,z,_,_,hzr,hzv⟩:=Wn (ρ:=ρ) hz;have fH:=Sf hzr len (len*i.size) (by rw [hzl]);obtain ⟨arr,h1,h2⟩:=SZ dZ fH hp;have dV:len<=len:=Aq _;have eC:Dj ⟨w.heap.size,0,cells.length,arr.size⟩ 0 (bif un&&Nat.beq cells.length (len*i.size) then .un i.size else .ex len) len:=by
      cases hq:(un&&Nat.beq cells.length (len*i.size)) with
      | false=>rfl
      | true=>simp only [Ae] at hq;have hq2:=Aj hq.2;have:=h2.1;exact ⟨by grind,by grind⟩
     refine ⟨_,.slice (some ⟨w.heap.size,0,none⟩) len len,_,?_,SH h floor cells e arr e (by rw [h2.1];grind) h2.2 _ _ (fun ρ' hρ'=>.sl _ 0 _ _ _ _ hρ' eC dV),rfl,rfl⟩;have hgt: ¬len*i.size>2 ^ 24:=(by omega);by_cases h0:len*i.size=0
     .have h1':Instr.fill (fun j=>some (j*i.size,i.size)) #[] qs=some arr:=by
       grind
      simp [Instr.buildSlice,run_underlying hu,Zr hi,h0,h1',newRow,x2g]
     .have hgt': ¬2 ^ 24<len*i.size:=hgt;simp [Instr.buildSlice,run_underlying hu,Zr hi,h0,hzv,h1,newRow,hgt']
    .cases hb
  .cases hb
 .cases hb
theorem y3i {n:Int} (h0:0<=n) (h1:n<=1099511627776):IntKind.i64.wrap n=n:=by
 have hm:n %(2 ^ IntKind.i64.bits:Int)=n:=by
  apply Int.emod_eq_of_lt h0;have:(2 ^ IntKind.i64.bits:Int)=18446744073709551616:=by decide
  omega
 unfold wrap;simp only [hm];have: ¬(n>=(2 ^ (IntKind.i64.bits - 1):Int)):=by
  have:(2 ^ (IntKind.i64.bits - 1):Int)=9223372036854775808:=by decide
  omega
 simp [this]
theorem z1d {st st':St} {w:World} (h:B7 ρ st.mem st.next w) (floor:Nat) {t:TypeId} {x y v:B2} {ux uy:Value} (hb:Jj P st t x y=some (v,st')) (hx:VRel ρ x ux) (hy:VRel ρ y uy):
  ∃ρ' u w',(Instr.makeSlice t ux uy).run P w=.ok u w'/\EM ρ floor st st' v w ρ' u w'/\st'.env=st.env/\st'.ob=st.ob:=by
 unfold Jj at hb;split at hb
 .rename_i e _ l _ c hu;cases hx;cases hy;split at hb
  .rename_i i zero hi hz;cases hc:(Nat.beq zero.length i.size&&(decide (0<=l)&&decide (l<=c)&&decide (c*i.bytes<=1099511627776)&&decide (c<=1099511627776))) with
   | false=>grind
   | true=>
    rw [hc,Ab] at hb;simp only [Ae,Ar] at hc;obtain ⟨hzl,⟨⟨h0,hlc⟩,hcb⟩,hc40⟩:=hc;have hzl:=Aj hzl;simp only [Ad,Ac] at hb;obtain ⟨rfl,rfl⟩:=hb;obtain ⟨_,z,_,_,hzr,hzv⟩:=Wn (ρ:=ρ) hz;have fH:=Sf hzr c.toNat (c.toNat*i.size) (by rw [hzl]);have wl:=y3i (n:=l) h0 (by omega);have wc:=y3i (n:=c) (by omega) hc40;have e1: ¬c<0:=(by omega);have e2: ¬(281474976710656<(i.bytes:Int)*c):=(by grind);have e3: ¬l<0:=(by omega);have e4: ¬c<l:=(by omega);by_cases hz0:c.toNat*i.size=0
    .rw [hz0] at fH;refine ⟨_,.slice (some ⟨w.heap.size,0,none⟩) l.toNat c.toNat,_,?_,SH h floor (DJ c.toNat zero) e #[] e (by rw [Tq,hzl];simp [hz0]) (fun j h1 h2=>by simp at h2) _ _ (fun ρ' hρ'=>.sl _ 0 _ _ _ _ hρ' rfl (by omega)),rfl,rfl⟩;simp [Instr.makeSlice,run_underlying hu,asInt,asIntOf,run_typeInfo w hi,wl,wc,e1,e2,e3,e4,Zr hi,hz0,newRow,x2g]
    .refine ⟨_,.slice (some ⟨w.heap.size,0,none⟩) l.toNat c.toNat,_,?_,SH h floor (DJ c.toNat zero) e _ e (by rw [fH.1];grind) fH.2 _ _ (fun ρ' hρ'=>.sl _ 0 _ _ _ _ hρ' rfl (by omega)),rfl,rfl⟩;simp [Instr.makeSlice,run_underlying hu,asInt,asIntOf,run_typeInfo w hi,wl,wc,e1,e2,e3,e4,Zr hi,hz0,newRow,hzv]
  .cases hb
 .cases hb
end
section
variable {P:Program} {ρ:B6}
theorem B7.kill {mem:CD} {next:Nat} {w:World} (h:B7 ρ mem next w) (b:Nat):B7 ρ (Wb mem b none) next w:=
 ⟨h.dom,fun c c' m m' e e' he hs hs'=>by
  have hc:c≠b:=fun e=>by rw [e,Ym] at hs;cases hs
  have hc':c'≠b:=fun e=>by grind [Ym]
  rw [Zu _ _ hc] at hs;rw [Zu _ _ hc'] at hs';exact h.inj c c' m m' e e' he hs hs',
  fun c m ab e hc=>by
   have hcb:c≠b:=fun e=>by rw [e,Ym] at hc;cases hc
   rw [Zu _ _ hcb] at hc;exact h.blk c m ab e hc,h.old,fun c m e hs=>by
   have hcb:c≠b:=fun e=>by rw [e,Ym] at hs;cases hs
   rw [Zu _ _ hcb] at hs;exact h.sep c m e hs,h.real,fun c hc=>by
   by_cases hcb:c=b
   .rw [hcb,Ym]
   .rw [Zu _ _ hcb];exact h.bd c hc,h.ldom⟩
theorem Ev.ofKill {mem:CD} {next:Nat} {w:World} (h:B7 ρ mem next w) (floor:Nat) {b:Nat} {l:Ce} (hb:ρ b=some l):Ev ρ ρ floor mem next (Wb mem b none) next w w where
 ext:=B6.le_refl _
 new _ _:=rfl
 nxt:=Aq _
 unborn k _ e cs ty hm:=by grind [Zu]
 frame _ _ hk _:=hk
 fresh k m hk e:=by have:=h.dom k m e;omega
 size:=Aq _
 os:=rfl
 tape:=rfl
 output:=rfl
 still _ _:=rfl
theorem B7.beyond {mem:CD} {next:Nat} {w:World} (h:B7 ρ mem next w) {b:Nat} {l:Ce} {ab:CG} (hb:ρ b=some l) (hm:Yr mem b=some ab) {off:Nat} {new:List B2} {vs:List Value} (ty:TypeId)
  (dV:vs.length=new.length) (hoff:off<=ab.cells.length) (eO:ab.cells.length+new.length<=l.tot) (hv: ∀(i:Nat) (h1:i<new.length) (h2:i<vs.length),VRel ρ new[i] vs[i]):
  ∃ cur el,w.heap[l.blk]? =some (.cells cur el (0,0))/\l.base+ab.cells.length+vs.length<=cur.size/\
   B7 (Ur ρ next ⟨l.blk,l.base+off,ab.cells.length - off+new.length,l.tot - off⟩) (Wb (Wb mem b none) next (some ⟨ab.cells.drop off++new,ty,none⟩)) (next+1)
    (w.setRow l.blk (cur.toList.take (l.base+ab.cells.length)++vs++cur.toList.drop (l.base+ab.cells.length+vs.length)).toArray):=by
 obtain ⟨hn,ht,_,cur,el,h1,h2,h3⟩:=h.blk b l ab hb hm;have hbn:b<next:=h.dom b l hb
 have hle:=N7 (l:=⟨l.blk,l.base+off,ab.cells.length - off+new.length,l.tot - off⟩) h.none_next;have hfc:l.base+ab.cells.length+vs.length<=cur.toList.length:=by simp;omega
 have eD: ∀c m,Ur ρ next ⟨l.blk,l.base+off,ab.cells.length - off+new.length,l.tot - off⟩ c=some m->(c=next/\m=⟨l.blk,l.base+off,ab.cells.length - off+new.length,l.tot - off⟩)\/(c≠next/\ρ c=some m):=fun c m e=>by
  grind [Ju]
 have live: ∀c,c≠next->(Yr (Wb (Wb mem b none) next (some ⟨ab.cells.drop off++new,ty,none⟩)) c).isSome =true->c≠b/\(Yr mem c).isSome =true:=fun c hc hs=>by
  grind [Zu,Ym]
 refine ⟨cur,el,h1,by grind,fun c m e=> ?_,fun c c' m m' e e' he hs hs'=> ?_,fun c m ac e hc=> ?_,fun k o e=> ?_,fun c m e=> ?_,fun c m e=> ?_,fun c hc=>by rw [Zu _ _ (by omega),Zu _ _ (by omega)];exact h.bd c (by omega),fun j l e=>Bl (h.ldom j l e)⟩
 .rcases eD c m e with ⟨rfl,_⟩ | ⟨_,e⟩
  .omega
  .have:=h.dom c m e;omega
 .rcases eD c m e with ⟨hc,hl⟩ | ⟨hc,e2⟩ <;> rcases eD c' m' e' with ⟨hc',hl'⟩ | ⟨hc',e2'⟩
  .rw [hc,hc']
  .obtain ⟨hcb,hs'⟩:=live c' hc' hs';rw [hl] at he;exact absurd (h.inj c' b m' l e2' hb he.symm hs' (by rw [hm];rfl)) hcb
  .obtain ⟨hcb,hs⟩:=live c hc hs;rw [hl'] at he;exact absurd (h.inj c b m l e2 hb he hs (by rw [hm];rfl)) hcb
  .obtain ⟨_,hs⟩:=live c hc hs;obtain ⟨_,hs'⟩:=live c' hc' hs';exact h.inj c c' m m' e2 e2' he hs hs'
 .rcases eD c m e with ⟨rfl,rfl⟩ | ⟨hcn,e2⟩
  .rw [Ym] at hc;obtain rfl:=Ag hc;refine ⟨by simp,by simp;omega,(fun A e=>by cases e),_,el,setRow_heap w l.blk cur _ el (0,0) h1,?_,fun i hi=> ?_⟩
   .grind
   .simp only [AP,List.length_drop] at hi;simp only [List.getElem?_toArray];rw [Qs _ _ _ _ hfc];by_cases g1:off+i<ab.cells.length
    .rw [AG (by omega),BD (by simp;omega)];obtain ⟨v,e1,e2⟩:=h3 (off+i) g1;exact ⟨v,by grind,by simpa using e2.mono hle⟩
    .rw [Aw (by omega),AG (by omega),By (by simp;omega)];have hi2:l.base+off+i - (l.base+ab.cells.length)<vs.length:=(by omega);refine ⟨vs[l.base+off+i - (l.base+ab.cells.length)],Au hi2,?_⟩;have e3:i - (ab.cells.drop off).length =l.base+off+i - (l.base+ab.cells.length):=by simp;omega
     have:=hv (l.base+off+i - (l.base+ab.cells.length)) (by omega) hi2;simp only [e3];exact this.mono hle
  .have hcs:(Yr mem c).isSome =true/\c≠b:=by
    grind
   rw [Zu _ _ hcn,Zu _ _ hcs.2] at hc;refine (h.blk c m ac e2 hc).world hle (setRow_other w l.blk m.blk _ fun heq=>hcs.2 ?_);exact h.inj c b m l e2 hb heq hcs.1 (by rw [hm];rfl)
 .have e:ρ.fz k=some o:=e;have hk:=h.old k o e;rw [setRow_other]
  .exact hk
  .intro heq;have:=h.sep b l hb (by rw [hm];rfl)
   grind
 .intro hs;rcases eD c m e with ⟨rfl,rfl⟩ | ⟨hcn,e⟩
  .exact h.sep b l hb (by rw [hm];rfl)
  .exact h.sep c m e (live c hcn hs).2
 .rw [setRow_size];rcases eD c m e with ⟨rfl,rfl⟩ | ⟨_,e⟩
  .grind
  .exact h.real c m e
theorem B7.beyond2 {mem:CD} {next:Nat} {w:World} (h:B7 ρ mem next w) {b:Nat} {l:Ce} {ab:CG} (hb:ρ b=some l) (hm:Yr mem b=some ab) {off m T:Nat} {new:List B2} {vs:List Value} (ty:TypeId)
  (dV:vs.length=new.length) (hoff:off<=m) (hmc:m<=ab.cells.length) (eO:m - off+new.length<=T) (hT:off+T<=l.tot) (hv: ∀(i:Nat) (h1:i<new.length) (h2:i<vs.length),VRel ρ new[i] vs[i]):
  ∃ cur el,w.heap[l.blk]? =some (.cells cur el (0,0))/\l.base+m+vs.length<=cur.size/\
   B7 (Ur ρ next ⟨l.blk,l.base+off,m - off+new.length,T⟩) (Wb (Wb mem b none) next (some ⟨(ab.cells.take m).drop off++new,ty,none⟩)) (next+1)
    (w.setRow l.blk (cur.toList.take (l.base+m)++vs++cur.toList.drop (l.base+m+vs.length)).toArray):=by
 obtain ⟨hn,ht,_,cur,el,h1,h2,h3⟩:=h.blk b l ab hb hm;have hbn:b<next:=h.dom b l hb
 have hle:=N7 (l:=⟨l.blk,l.base+off,m - off+new.length,T⟩) h.none_next;have hfc:l.base+m+vs.length<=cur.toList.length:=by simp;omega
 have eD: ∀c lm,Ur ρ next ⟨l.blk,l.base+off,m - off+new.length,T⟩ c=some lm->(c=next/\lm=⟨l.blk,l.base+off,m - off+new.length,T⟩)\/(c≠next/\ρ c=some lm):=fun c lm e=>by
  grind [Ju]
 have live: ∀c,c≠next->(Yr (Wb (Wb mem b none) next (some ⟨(ab.cells.take m).drop off++new,ty,none⟩)) c).isSome =true->c≠b/\(Yr mem c).isSome =true:=fun c hc hs=>by
  grind [Zu,Ym]
 refine ⟨cur,el,h1,by grind,fun c lm e=> ?_,fun c c' lm lm' e e' he hs hs'=> ?_,fun c lm ac e hc=> ?_,fun k o e=> ?_,fun c lm e=> ?_,fun c lm e=> ?_,fun c hc=>by rw [Zu _ _ (by omega),Zu _ _ (by omega)];exact h.bd c (by omega),fun j l e=>Bl (h.ldom j l e)⟩
 .rcases eD c lm e with ⟨rfl,_⟩ | ⟨_,e⟩
  .omega
  .have:=h.dom c lm e;omega
 .rcases eD c lm e with ⟨hc,hl⟩ | ⟨hc,e2⟩ <;> rcases eD c' lm' e' with ⟨hc',hl'⟩ | ⟨hc',e2'⟩
  .rw [hc,hc']
  .obtain ⟨hcb,hs'⟩:=live c' hc' hs';rw [hl] at he;exact absurd (h.inj c' b lm' l e2' hb he.symm hs' (by rw [hm];rfl)) hcb
  .obtain ⟨hcb,hs⟩:=live c hc hs;rw [hl'] at he;exact absurd (h.inj c b lm l e2 hb he hs (by rw [hm];rfl)) hcb
  .obtain ⟨_,hs⟩:=live c hc hs;obtain ⟨_,hs'⟩:=live c' hc' hs';exact h.inj c c' lm lm' e2 e2' he hs hs'
 .rcases eD c lm e with ⟨rfl,rfl⟩ | ⟨hcn,e2⟩
  .rw [Ym] at hc;obtain rfl:=Ag hc;have htl:((ab.cells.take m).drop off).length =m - off:=by grind
   refine ⟨by grind,eO,(fun A e=>by cases e),_,el,setRow_heap w l.blk cur _ el (0,0) h1,?_,fun i hi=> ?_⟩
   .grind
   .simp only [] at hi;rw [AP,htl] at hi;simp only [List.getElem?_toArray];rw [Qs _ _ _ _ hfc];by_cases g1:off+i<m
    .rw [AG (by omega),BD (by grind)];obtain ⟨v,e1,e2⟩:=h3 (off+i) (by omega);exact ⟨v,by grind,by simpa using e2.mono hle⟩
    .rw [Aw (by omega),AG (by omega),By (by grind)];have hi2:l.base+off+i - (l.base+m)<vs.length:=(by omega);refine ⟨vs[l.base+off+i - (l.base+m)],Au hi2,?_⟩;have e3:i - ((ab.cells.take m).drop off).length =l.base+off+i - (l.base+m):=(by grind);have:=hv (l.base+off+i - (l.base+m)) (by omega) hi2;simp only [e3];exact this.mono hle
  .have hcs:(Yr mem c).isSome =true/\c≠b:=by
    grind
   rw [Zu _ _ hcn,Zu _ _ hcs.2] at hc;refine (h.blk c lm ac e2 hc).world hle (setRow_other w l.blk lm.blk _ fun heq=>hcs.2 ?_);exact h.inj c b lm l e2 hb heq hcs.1 (by rw [hm];rfl)
 .have e:ρ.fz k=some o:=e;have hk:=h.old k o e;rw [setRow_other]
  .exact hk
  .intro heq;have:=h.sep b l hb (by rw [hm];rfl)
   grind
 .intro hs;rcases eD c lm e with ⟨rfl,rfl⟩ | ⟨hcn,e⟩
  .exact h.sep b l hb (by rw [hm];rfl)
  .exact h.sep c lm e (live c hcn hs).2
 .rw [setRow_size];rcases eD c lm e with ⟨rfl,rfl⟩ | ⟨_,e⟩
  .grind
  .exact h.real c lm e
theorem Ev.ofBeyond {mem:CD} {next:Nat} {w:World} (h:B7 ρ mem next w) {floor b:Nat} {l:Ce} (hb:ρ b=some l) (hf:floor<=b) (l':Ce) (hl:l'.blk=l.blk) (o:Option CG) (cs:Array Value):
  Ev ρ (Ur ρ next l') floor mem next (Wb (Wb mem b none) next o) (next+1) w (w.setRow l.blk cs) where
 ext:=N7 h.none_next
 new k hk:=by simp [Ur,BK hk]
 nxt:=B0 _
 unborn k hk e cs ty hm:=by
  grind [Zu]
 frame k o hk hfr:=by
  grind [setRow_other]
 fresh k m hk e:=by
  rw [Ju] at e;by_cases hkn:k=next
  .grind
  .rw [Aw hkn] at e;have:=h.dom k m e;omega
 size:=by simp_all
 os:=rfl
 tape:=rfl
 output:=rfl
 still _ _:=rfl
theorem Vt {mem:CD} {next:Nat} {w:World} (h:B7 ρ mem next w) {sz:Nat} {x:B2} {u:Value} {len:Nat} {cs:List B2} (hc:Xp mem sz x=some (len,cs)) (hx:VRel ρ x u) (hl:cs.length=len*sz):
  (∀w,(Builtin.lenOf u).run P w=.ok len w)/\ ∀n,n<=len-> ∃vs:Array Value,Jq ρ (cs.take (n*sz)) vs/\ ∀d,(Builtin.firstCells sz n u).run P {w with drawn:=d}=.ok vs {w with drawn:=d}:=by
 unfold Xp at hc;split at hc
 .simp only [Ad,Ac] at hc;obtain ⟨rfl,rfl⟩:=hc;cases hx;refine ⟨fun w=>by simp [Builtin.lenOf],fun n hn=>⟨#[],⟨by simp,fun i h1 _=>by simp at h1⟩,fun d=>by simp [Builtin.firstCells]⟩⟩
 .rename_i b off len' cap;split at hc
  .rename_i blk hm;simp only [An,Ac] at hc;obtain ⟨p,hp,rfl,rfl⟩:=hc;cases hx with
   | sl _ _ _ _ l c hρ eC dV=>
    refine ⟨fun w=>by simp [Builtin.lenOf],fun n hn=> ?_⟩;obtain ⟨_,hpl,hle⟩:=SD hp;have hmul:n*sz<=len'*sz:=AC sz hn;have hex: ∀d,∃vs:Array Value,Jq ρ (p.take (n*sz)) vs/\(Builtin.firstCells sz n (.slice (some ⟨l.blk,l.base+off,none⟩) len' c)).run P {w with drawn:=d}=.ok vs {w with drawn:=d}:=by
     intro d;obtain ⟨vs,hs,hv,hr⟩:=((h.drawn d).cellsAt hρ hm).load (P:=P) (off:=off) (n:=n*sz) (by omega);refine ⟨vs,⟨by simp;omega,fun i h1 h2=> ?_⟩,by simpa [Builtin.firstCells] using hr⟩
     grind
    obtain ⟨vs,hv,hr⟩:=hex 0;refine ⟨vs,hv,fun d=> ?_⟩;obtain ⟨b',e1,e2⟩: ∃b',(∀d,(loadCells ⟨l.blk,l.base+off,none⟩ (n*sz)).run P {w with drawn:=d}=.ok b' {w with drawn:=d})/\True:=by
     have hc: ∀d j,j<n*sz->({w with drawn:=d}:World).cell? ((⟨l.blk,l.base+off,none⟩:Addr).add j)=some ((w.cell? ⟨l.blk,l.base+(off+j),none⟩).getD undef):=by
      intro d j hj;obtain ⟨v,e,_⟩:=(h.cellsAt hρ hm) (off+j) (by omega)
      rw [Xo,AD];show w.cell? _=_;rw [e];rfl
     simp_all [run_loadCells]
    grind [Builtin.firstCells]
  .cases hc
 .cases hc
theorem x8h (n:Nat): ∀(r c:Nat),c<n->Builtin.growBy n r c<=n+(n+768) / 4
 | 0,c,h=>by simp only [Builtin.growBy];omega
 | r+1,c,h=>by
  unfold Builtin.growBy;rw [Aw (by omega)];by_cases h2:c+(c+768) / 4<n
  .exact x8h n r _ h2
  .cases r with
   | zero=>simp only [Builtin.growBy];omega
   | succ r=>unfold Builtin.growBy;rw [AG (by omega)];omega
theorem y8m (n c:Nat) (h:c<n):Builtin.nextslicecap n c<=2*n+192:=by grind [Builtin.nextslicecap,x8h]
theorem v8e {need c bytes:Nat} (h:(need+1)*(bytes+1)<=1099511627776) (hc:c<need): ¬Builtin.nextslicecap need c*bytes>2 ^ 48:=by
 have h1:=y8m need c hc;have h2:Builtin.nextslicecap need c*bytes<=(192*(need+1))*(bytes+1):=Nat.mul_le_mul (by omega) (by omega)
 grind
end
section
variable {P:Program} {ρ:B6}
theorem z9k {t u e:TypeId} {ut:TypeDesc} {i:TypeInfo} {type:TypeId} (hu:P.underlying t=some (.slice e)) (hut:P.underlying u=some ut) (hni: ∀k,ut≠ .int k) (hi:P.info? e=some i) {ts:List TypeId} {base:Option Addr} {len n c:Nat} {x:Value} {vs:Array Value} {xs:List Value} {w:World}
  (dV:(Builtin.lenOf x).run P w=.ok n w) (eR:(Builtin.firstCells i.size n x).run P w=.ok vs w) (eB:len+n<=c) {w':World}
  (hst: ∀a,base=some a->(storeCells (a.add (len*i.size)) vs.toList).run P w=.ok () w') (hno:base=none->w'=w):
  (Builtin.append_ (t::u::ts).toArray type ((.slice base len c)::x::xs).toArray).run P w=.ok (.slice base (len+n) c) w':=by
 cases base with
 | none=>obtain rfl:=hno rfl;simp [Builtin.append_,run_underlying hu,run_underlying hut,Zr hi,dV,eR,eB]
 | some a=>have:=hst a rfl;simp [Builtin.append_,run_underlying hu,run_underlying hut,Zr hi,dV,eR,eB,this]
theorem z7t {t u e:TypeId} {ut:TypeDesc} {i:TypeInfo} {type:TypeId} (hu:P.underlying t=some (.slice e)) (hut:P.underlying u=some ut) (hni: ∀k,ut≠ .int k) (hi:P.info? e=some i) {z:Value} (hz:i.zero=some z) {ts:List TypeId} {base:Option Addr} {len n c:Nat} {x:Value} {vs old:Array Value} {xs:List Value} {w:World}
  (dV:(Builtin.lenOf x).run P w=.ok n w) (eR:(Builtin.firstCells i.size n x).run P w.drew=.ok vs w.drew) (hold:(Builtin.firstCells i.size len (.slice base len c)).run P w.drew=.ok old w.drew)
  (eB:c<len+n) (fC:(len+n+1)*(i.bytes+1)<=1099511627776):
  ∃newCap,len+n<=newCap/\ ∃rest:Array Value,rest.size=(newCap - (len+n))*z.cells.size/\
  (Builtin.append_ (t::u::ts).toArray type ((.slice base len c)::x::xs).toArray).run P w=.ok (.slice (some ⟨w.heap.size,0,none⟩) (len+n) newCap) (w.drew.alloc (.cells (old++vs++rest) e)):=by
 have hmul:len+n+1<=(len+n+1)*(i.bytes+1):=Nat.le_mul_of_pos_right _ (by omega);have hr:=v8e fC eB;have hr': ¬2 ^ 48<Builtin.nextslicecap (len+n) c*i.bytes:=hr;have hr'': ¬281474976710656<Builtin.nextslicecap (len+n) c*i.bytes:=hr;have h1: ¬len+n<=c:=by omega
 have h2: ¬(9223372036854775807<(len:Int)+(n:Int)):=by omega
 have hq:(Question.appendCap (len+n) c e).forced =false:=rfl;have hzero: ∀w,(zeroValue e).run P w=.ok z w:=fun w=>by simp [zeroValue,run_typeInfo w hi,hz]
 refine ⟨(Question.appendCap (len+n) c e).cut (w.tape w.drawn (Question.appendCap (len+n) c e)),by simp only [Question.cut];omega,Builtin.zeroCells z.cells ((Question.appendCap (len+n) c e).cut (w.tape w.drawn (Question.appendCap (len+n) c e)) - (len+n)),by simp [Builtin.zeroCells],?_⟩;have hty: ∀w,(typeInfo e).run P w=.ok i w:=fun w=>run_typeInfo w hi;simp [Builtin.append_,run_underlying hu,run_underlying hut,Zr hi,dV,h1,h2,hty,hr'',hq,eR,hold,hzero,newRow]
theorem Jq.append {a b:List B2} {us vs:Array Value} (h:Jq ρ a us) (k:Jq ρ b vs):Jq ρ (a++b) (us++vs):=by
 refine ⟨by simp [h.1,k.1],fun i h1 h2=> ?_⟩;by_cases hi:i<a.length
 .rw [BD hi,Array.getElem_append_left (by rw [<-h.1];exact hi)];exact h.2 i hi (by rw [<-h.1];exact hi)
 .rw [By (by omega),Array.getElem_append_right (by rw [<-h.1];omega)];have e:=h.1;simp only [e];exact k.2 (i - us.size) (by grind) (by grind)
theorem XP {st:St} {w:World} (h:B7 ρ st.mem st.next w) (floor:Nat) {cs:List B2} {vs:Array Value} (hr:Jq ρ cs vs) (rest:Array Value) (ty el:TypeId) (v:B2) (u:Value)
  (eP: ∀ρ',ρ' st.next=some ⟨w.heap.size,0,cs.length,vs.size+rest.size⟩->VRel ρ' v u):
  EM ρ floor st (DU st cs ty) v w (Ur ρ st.next ⟨w.heap.size,0,cs.length,vs.size+rest.size⟩) u (w.drew.alloc (.cells (vs++rest) el)):=by
 have hd:B7 ρ st.mem st.next w.drew:=h.drawn _
 have:=SH hd floor cs ty (vs++rest) el (by rw [hr.1];simp) (fun i h1 h2=>by
  rw [Array.getElem_append_left (by rw [<-hr.1];exact h1)];exact hr.2 i h1 (by rw [<-hr.1];exact h1)) v u (fun ρ' hρ'=>eP ρ' (by simp_all))
 simp only [Array.size_append] at this;exact ⟨this.val,this.rel,this.ev.drawn⟩
theorem H4 {α:Type} {c:Bool} {x:Option α} {y:α} (h:(bif c then x else none)=some y):c=true/\x=some y:=by grind
structure j0q (P:Program) (ρ:B6) (t u e:TypeId) (i:TypeInfo) (z:Value) (ux:Value) (n:Nat) (new:List B2) (vs:Array Value) (w:World):Prop where
 rel:Jq ρ new vs
 hin: ∀{type:TypeId} {ts:List TypeId} {base:Option Addr} {len c:Nat} {xs:List Value},(n=0\/(n+1)*(i.bytes+1)<=1099511627776)->len+n<=c-> ∀{w':World},(∀a,base=some a->(storeCells (a.add (len*i.size)) vs.toList).run P w=.ok () w')->(base=none->w'=w)->
  (Builtin.append_ (t::u::ts).toArray type ((.slice base len c)::ux::xs).toArray).run P w=.ok (.slice base (len+n) c) w'
 hnew: ∀{type:TypeId} {ts:List TypeId} {base:Option Addr} {len c:Nat} {xs:List Value} {old:Array Value},(Builtin.firstCells i.size len (.slice base len c)).run P w.drew=.ok old w.drew->c<len+n->(len+n+1)*(i.bytes+1)<=1099511627776->
  ∃newCap,len+n<=newCap/\ ∃rest:Array Value,rest.size=(newCap - (len+n))*z.cells.size/\
   (Builtin.append_ (t::u::ts).toArray type ((.slice base len c)::ux::xs).toArray).run P w=.ok (.slice (some ⟨w.heap.size,0,none⟩) (len+n) newCap) (w.drew.alloc (.cells (old++vs++rest) e))
theorem x0v {n:Int} {bytes:Nat} (h0:0<=n) (h:n.toNat=0\/(n.toNat+1)*(bytes+1)<=1099511627776):IntKind.i64.wrap n=n/\n*(bytes:Int)<=281474976710656:=by grind [IntWalk.i64_in]
theorem Kb {mem:CD} {next:Nat} {w:World} (h:B7 ρ mem next w) {t u e:TypeId} {ut:TypeDesc} {i:TypeInfo} {z:Value} {zero:List B2} {x:B2} {ux:Value} {n:Nat} {new:List B2} (hu:P.underlying t=some (.slice e)) (hut:P.underlying u=some ut) (hi:P.info? e=some i) (hz:i.zero=some z)
  (hzr:Jq ρ zero z.cells) (hzl:zero.length=i.size) (hc:Jc mem i.size zero ut x=some (n,new)) (hx:VRel ρ x ux) (hnl:new.length=n*i.size): ∃vs,j0q P ρ t u e i z ux n new vs w:=by
 unfold Jc at hc;split at hc
 .rename_i kt;split at hc
  .rename_i k m;obtain ⟨h0,hc⟩:=H4 hc;have h0:=Az h0;simp only [Ad,Ac] at hc;obtain ⟨rfl,rfl⟩:=hc;cases hx;have hzs:z.cells.size=i.size:=by rw [<-hzr.1];exact hzl
   refine ⟨Builtin.zeroCells z.cells m.toNat,?_,?_,?_⟩
   .exact Sf hzr m.toNat (m.toNat*z.cells.size) (by rw [hzr.1])
   .intro type ts base len c xs hr eB w' hst hno;obtain ⟨hw,hb⟩:=x0v h0 hr;have hb': ¬281474976710656<m*(i.bytes:Int):=(by omega);have hlt: ¬m<0:=(by omega);have hzv: ∀w,(zeroValue e).run P w=.ok z w:=fun w=>by simp [zeroValue,run_typeInfo w hi,hz]
    have hty: ∀w,(typeInfo e).run P w=.ok i w:=fun w=>run_typeInfo w hi;by_cases hz0:m.toNat*i.size=0
    .have hze:Builtin.zeroCells z.cells m.toNat= #[]:=(by simp [Builtin.zeroCells,hzs,hz0]);rw [hze] at hst;cases base with
     | none=>obtain rfl:=hno rfl;simp [Builtin.append_,run_underlying hu,run_underlying hut,Zr hi,asInt,asIntOf,hw,hlt,hty,hb',eB,hz0]
     | some a=>have:=hst a rfl;simp only [] at this;simp [Builtin.append_,run_underlying hu,run_underlying hut,Zr hi,asInt,asIntOf,hw,hlt,hty,hb',eB,hz0,this]
    .cases base with
     | none=>obtain rfl:=hno rfl;simp [Builtin.append_,run_underlying hu,run_underlying hut,Zr hi,asInt,asIntOf,hw,hlt,hty,hb',eB,hz0,hzv]
     | some a=>have:=hst a rfl;simp [Builtin.append_,run_underlying hu,run_underlying hut,Zr hi,asInt,asIntOf,hw,hlt,hty,hb',eB,hz0,hzv,this]
   .intro type ts base len c xs old hold eB fC;have hr:m.toNat=0\/(m.toNat+1)*(i.bytes+1)<=1099511627776:=.inr (AF (AC _ (by omega)) fC);obtain ⟨hw,hb⟩:=x0v h0 hr;have hb': ¬281474976710656<m*(i.bytes:Int):=(by omega);have hlt: ¬m<0:=(by omega);have hmul:len+m.toNat+1<=(len+m.toNat+1)*(i.bytes+1):=Nat.le_mul_of_pos_right _ (by omega);have hr0:=v8e fC eB;have hr'': ¬281474976710656<Builtin.nextslicecap (len+m.toNat) c*i.bytes:=hr0;have h1: ¬len+m.toNat<=c:=(by omega);have h2: ¬(9223372036854775807<(len:Int)+(m.toNat:Int)):=(by omega);have h2': ¬(9223372036854775807<(len:Int)+max m 0):=(by omega);have hq:(Question.appendCap (len+m.toNat) c e).forced =false:=rfl;have hzv: ∀w,(zeroValue e).run P w=.ok z w:=fun w=>by simp [zeroValue,run_typeInfo w hi,hz]
    have hty: ∀w,(typeInfo e).run P w=.ok i w:=fun w=>run_typeInfo w hi;refine ⟨(Question.appendCap (len+m.toNat) c e).cut (w.tape w.drawn (Question.appendCap (len+m.toNat) c e)),by simp only [Question.cut];omega,Builtin.zeroCells z.cells ((Question.appendCap (len+m.toNat) c e).cut (w.tape w.drawn (Question.appendCap (len+m.toNat) c e)) - (len+m.toNat)),by simp [Builtin.zeroCells],?_⟩;by_cases hz0:m.toNat*i.size=0
    .have hze:Builtin.zeroCells z.cells m.toNat= #[]:=(by simp [Builtin.zeroCells,hzs,hz0]);simp [Builtin.append_,run_underlying hu,run_underlying hut,Zr hi,asInt,asIntOf,hw,hlt,hb',h1,h2,h2',hty,hr'',hq,hold,hzv,newRow,hz0,hze]
    .simp [Builtin.append_,run_underlying hu,run_underlying hut,Zr hi,asInt,asIntOf,hw,hlt,hb',h1,h2,h2',hty,hr'',hq,hold,hzv,newRow,hz0]
  .cases hc
 .rename_i hni';have hni: ∀k,ut≠ .int k:=fun k hk=>hni' k hk;obtain ⟨dV,eR⟩:=Vt (P:=P) h hc hx hnl;obtain ⟨vs,hvs,hfc⟩:=eR n (Aq _);rw [A2 (by omega)] at hvs;have fR:(Builtin.firstCells i.size n ux).run P w=.ok vs w:=hfc w.drawn;have hfc1:(Builtin.firstCells i.size n ux).run P w.drew=.ok vs w.drew:=hfc (w.drawn+1);exact ⟨vs,hvs,fun _ eB _ hst hno=>z9k hu hut hni hi (dV w) fR eB hst hno,fun hold eB fC=>z7t hu hut hni hi hz (dV w) hfc1 hold eB fC⟩
theorem x7m {w:World} {x:Obj} {n:Nat} {k:Nat} {o:Obj} (h:w.heap[k]? =some o):(World.alloc {w with drawn:=n} x).heap[k]? =some o:=by
 have:k<w.heap.size:=(AN.1 h).1;show (w.heap.push x)[k]? =some o
 grind
theorem w0y {w:World} {k:Nat} {cur:Array Value} {el:TypeId} {vs:List Value} {m:Nat} (hw:w.heap[k]? =some (.cells cur el (0,0))) (hm:m+vs.length<=cur.size):
  ∃cs1,(w.setRow k (cur.toList.take m++vs++cur.toList.drop (m+vs.length)).toArray).heap[k]? =some (.cells cs1 el (0,0))/\cs1.size=cur.size/\ ∀j,j<m->cs1[j]? =cur[j]? :=by
 have hc:cur.toList.length=cur.size:=Array.length_toList;refine ⟨_,setRow_heap w k cur _ el (0,0) hw,by simp;omega,fun j hj=> ?_⟩
 grind
def t5r (ρ:B6) (m:CD) (xs:List B2) (w w':World):Prop:=
 (∀(b off len z b2 o2 n2:Nat) (c2:Fc) (r:List B2) (blk:CG) (l:Ce),xs=.sl b off len (.un z)::.sl b2 o2 n2 c2::r->1<=n2->Yr m b=some blk->off+len*z=blk.cells.length->ρ b=some l->Jd ρ w' blk l)/\
 ∀r:List B2,xs=.nils ::r-> ∀(k:Nat) (o:Obj),w.heap[k]? =some o->w'.heap[k]? =some o
theorem w3a {m:CD} {sz:Nat} {zero:List B2} {ut:TypeDesc} {b o n2:Nat} {c:Fc} {n:Nat} {new:List B2} (h:Jc m sz zero ut (.sl b o n2 c)=some (n,new)):n=n2:=by
 have key:Xp m sz (.sl b o n2 c)=some (n,new)->n=n2:=fun h=>by
  simp only [Xp] at h;cases hm:Yr m b with
  | none=>grind
  | some blk=>simp_all
 cases ut <;> first | exact key h | (cases h;done)
theorem X6 {st st' :St} {w:World} (h:B7 ρ st.mem st.next w) (floor:Nat) {ts:Array TypeId} {type:TypeId} {xs:List B2} {us:Array Value} {v:B2} (ha:G0 P floor st ts.toList xs=some (v,st')) (hx:Vi (VRel ρ) xs us.toList):
  ∃ρ' u w',(Builtin.append_ ts type us).run P w=.ok u w'/\EM ρ floor st st' v w ρ' u w'/\(st'.env=st.env/\st'.ob=st.ob)/\t5r ρ st.mem xs w w':=by
 obtain ⟨ts⟩:=ts;obtain ⟨us⟩:=us;simp only at ha hx;unfold G0 at ha;split at ha
 .rename_i t tu tts s x txs;cases hx with
  | @cons _ su _ _ hs hx=>
   cases hx with
   | @cons _ ux _ uxs hx _=>
    split at ha
    .rename_i e ut hu hut;split at ha
     .rename_i i zero hi hz;split at ha
      .rename_i n new hcs;obtain ⟨i2,z,hi2,hz2,hzr,_⟩:=Wn (ρ:=ρ) hz;obtain rfl:i=i2:=by grind
       cases hc:(Nat.beq zero.length i.size&&Nat.beq new.length (n*i.size)&&Nat.ble 1 i.size&&new.all DP) with
       | false=>grind
       | true =>
        rw [hc,Ab] at ha;simp only [Ae] at hc;obtain ⟨⟨⟨hzl,hnl⟩,hsz⟩,hsc⟩:=hc;have hzl:=Aj hzl;have hnl:=Aj hnl;have hsz:=Ak hsz;have hzs:z.cells.size=i.size:=by rw [<-hzr.1];exact hzl
        obtain ⟨vs,hF⟩:=Kb (P:=P) h hu hut hi hz2 hzr hzl hcs hx hnl;have hvs:=hF.rel;have hvsz:vs.size=n*i.size:=by rw [<-hvs.1];exact hnl
        have eY:=VRel.cells_oneCell hvs hsc;split at ha
        .-- nil
         cases hs;cases hn0:Nat.beq n 0 with
         | true=>rw [hn0,Ab] at ha;simp only [Ad,Ac] at ha;obtain ⟨rfl,rfl⟩:=ha;have hn0:=Aj hn0;subst hn0;have dW:=hF.hin (type:=type) (ts:=tts) (base:=none) (len:=0) (c:=0) (xs:=uxs) (.inl rfl) (Aq _) (w':=w) (fun a e=>by cases e) (fun _=>rfl);exact ⟨ρ,_,w,dW,⟨.nils,h,Ev.refl _ _ _ _ _ h.dom⟩,⟨rfl,rfl⟩,(fun _ _ _ _ _ _ _ _ _ _ _ e=>by cases e),fun _ _ _ _ h=>h⟩
         | false=>
          rw [hn0,Aa] at ha;cases hrm:Nat.ble ((n+1)*(i.bytes+1)) CF with
          | false=>grind
          | true=>
           rw [hrm,Ab] at ha;simp only [Ad,Ac] at ha;obtain ⟨rfl,rfl⟩:=ha;have hrm:=Ak hrm;have hnpos:0<n:=by
            grind
           obtain ⟨newCap,eC,rest,eU,dW⟩:=hF.hnew (type:=type) (ts:=tts) (base:=none) (len:=0) (c:=0) (xs:=uxs) (old:= #[]) (by simp [Builtin.firstCells]) (by omega) (by simpa [CF] using hrm);simp only [Af,Array.empty_append] at dW eC eU;have hsum:vs.size+rest.size=newCap*i.size:=by rw [hvsz,eU,hzs,<-AU];grind
           refine ⟨_,_,_,dW,XP h floor hvs rest e e _ _ (fun ρ' hρ'=> ?_),⟨rfl,rfl⟩,(fun _ _ _ _ _ _ _ _ _ _ _ e=>by cases e),fun _ _ k o h=>x7m h⟩;refine .sl _ 0 _ _ _ _ hρ' ?_ eC
           grind [Dj]
        .-- a slice
         rename_i b off len cap;split at ha
         .rename_i blk hm;split at ha
          .rename_i old hold;cases hrm:Nat.ble ((len+n+1)*(i.bytes+1)) CF with
           | false=>grind
           | true =>
            rw [hrm,Ab] at ha;have hrm:=Ak hrm;have hrn:n=0\/(n+1)*(i.bytes+1)<=1099511627776:=.inr (AF (AC _ (by omega)) hrm);cases hs with
            | sl _ _ _ _ l c hρ eC hlc=>
             obtain ⟨hpold,holdl,holdle⟩:=SD hold;have fI:=h.blk b l blk hρ hm;have hln:=fI.n;have hmul:(len+n)*i.size=len*i.size+n*i.size:=AU _ _ _;have hoff:off+len*i.size<=blk.cells.length\/len*i.size=0:=(by omega);have hcos:Xp st.mem i.size (.sl b off len cap)=some (len,old):=(by simp [Xp,hm,hold]);obtain ⟨_,hfo⟩:=Vt (P:=P) h hcos (.sl b off len cap l c hρ eC hlc) holdl;obtain ⟨ovs,hovs,hof⟩:=hfo len (Aq _);rw [A2 (by omega)] at hovs;have hovz:ovs.size=len*i.size:=by rw [<-hovs.1];exact holdl
             have hof1:(Builtin.firstCells i.size len (.slice (some ⟨l.blk,l.base+off,none⟩) len c)).run P w.drew=.ok ovs w.drew:=hof (w.drawn+1);have inplace: ∀v st',len+n<=c->floor<=b->off+(len+n)*i.size<=blk.cells.length->
               some (B2.sl b off (len+n) cap,st.withMem (Wb st.mem b (some ⟨blk.cells.take (off+len*i.size)++new++blk.cells.drop (off+(len+n)*i.size),blk.ty,none⟩)))=some (v,st')->(∀z,cap=.un z->z=i.size)->
               ∃ρ' u w',(Builtin.append_ (t::tu::tts).toArray type ((.slice (some ⟨l.blk,l.base+off,none⟩) len c)::ux::uxs).toArray).run P w=.ok u w'/\EM ρ floor st st' v w ρ' u w'/\(st'.env=st.env/\st'.ob=st.ob)/\t5r ρ st.mem (.sl b off len cap::x::txs) w w':=by
              intro v st' eB hfl eO he hzc;simp only [Ad,Ac] at he;obtain ⟨rfl,rfl⟩:=he;obtain ⟨cur,el,hw,hcsz,dU⟩:=h.write hρ hm (off:=off+len*i.size) (cs:=new) (vs:=vs.toList) (by grind) (by omega) (fun j h1 h2=>by simpa using hvs.2 j h1 (by grind));have hst:=run_storeCells_at P l.blk (l.base+off+len*i.size) el vs.toList 0 cur w hw (by grind) eY;rw [Bd] at hst;have dW:=hF.hin (type:=type) (ts:=tts) (base:=some ⟨l.blk,l.base+off,none⟩) (len:=len) (c:=c) (xs:=uxs) hrn eB (w':=w.setRow l.blk (cur.toList.take (l.base+off+len*i.size)++vs.toList++cur.toList.drop (l.base+off+len*i.size+vs.toList.length)).toArray)
               (fun a e=>by cases e;rw [Xo];exact hst) (fun e=>by cases e)
              refine ⟨ρ,_,_,dW,⟨.sl _ _ _ _ l c hρ eC (by omega),?_,Ev.ofWrite h hρ hfl _ _⟩,⟨rfl,rfl⟩,(fun b' off' len' z b2 o2 n2 c2 r blk' l' e hn hm' hend hl'=> ?keep),fun _ e=>by cases e⟩
              case keep=>exfalso;cases e;obtain rfl:=hzc _ rfl;rw [hm] at hm';obtain rfl:=Ag hm';obtain rfl:=w3a hcs;have:1*i.size<=n*i.size:=AC _ hn;omega
              have e1:off+len*i.size+new.length=off+(len+n)*i.size:=(by omega);rw [e1] at dU
              simpa only [St.withMem,AD] using dU
             have anew: ∀v st' (st1:St),c<len+n->B7 ρ st1.mem st1.next w->Ev ρ ρ floor st.mem st.next st1.mem st1.next w w->st1.env=st.env->st1.ob=st.ob->
               some (B2.sl st1.next 0 (len+n) (.un i.size),DU st1 (old++new) e)=some (v,st')->
               ∃ρ' u w',(Builtin.append_ (t::tu::tts).toArray type ((.slice (some ⟨l.blk,l.base+off,none⟩) len c)::ux::uxs).toArray).run P w=.ok u w'/\EM ρ floor st st' v w ρ' u w'/\(st'.env=st.env/\st'.ob=st.ob)/\t5r ρ st.mem (.sl b off len cap::x::txs) w w':=by
              intro v st' st1 eB eZ hev1 dY hob he;simp only [Ad,Ac] at he;obtain ⟨rfl,rfl⟩:=he;obtain ⟨newCap,fS,rest,eU,dW⟩:=hF.hnew (type:=type) (ts:=tts) (base:=some ⟨l.blk,l.base+off,none⟩) (len:=len) (c:=c) (xs:=uxs) hof1 eB (by simpa [CF] using hrm);have hov:=hovs.append hvs;have hsum:(ovs++vs).size +rest.size=newCap*i.size:=by rw [Array.size_append,hovz,hvsz,eU,hzs,<-AU,<-AU];grind
              have hp:=XP eZ floor hov rest e e (.sl st1.next 0 (len+n) (.un i.size)) (.slice (some ⟨w.heap.size,0,none⟩) (len+n) newCap) (fun ρ' hρ'=>by
               refine .sl _ 0 _ _ _ _ hρ' ?_ fS
               grind [Dj])
              refine ⟨_,_,_,dW,⟨hp.val,hp.rel,hev1.trans hp.ev⟩,⟨?_,?_⟩,(fun b' off' len' z b2 o2 n2 c2 r blk' l' e hn hm' hend hl'=> ?keep),fun _ e=>by cases e⟩
              case keep=>have hq:=h.blk b' l' blk' hl' hm';refine hq.world (B6.le_refl ρ) ?_;obtain ⟨_,_,_,cs0,el0,g1,_⟩:=hq;rw [g1];exact x7m g1
              all_goals simp_all [DU]
             split at ha
             .-- the capacity is known
              rename_i k;simp only [Dj] at eC;subst eC;cases hk:Nat.ble (len+n) c with
              | true=>
               rw [hk,Ab] at ha;have hk:=Ak hk;cases hf:(Nat.ble floor b&&Nat.ble (off+(len+n)*i.size) blk.cells.length) with
               | false=>grind
               | true=>rw [hf,Ab] at ha;simp_all
              | false=>
               rw [hk,Aa] at ha;have hk: ¬len+n<=c:=fun e=>by rw [AZ e] at hk;cases hk
               exact anew _ _ st (by omega) h (Ev.refl _ _ _ _ _ h.dom) rfl rfl ha
             .-- it is not
              rename_i zz;simp only [Dj] at eC;cases hf:(Nat.beq zz i.size&&Nat.ble floor b) with
              | false=>grind
              | true=>
               rw [hf,Ab] at ha;simp only [Ae] at hf;have hzz:=Aj hf.1;have hfl:=Ak hf.2;subst hzz;cases hk:Nat.ble (off+(len+n)*i.size) blk.cells.length with
               | true=>
                rw [hk,Ab] at ha;have hk:=Ak hk;have eB:len+n<=c:=by rw [hln] at eC;have:(len+n)*i.size<=c*i.size:=(by omega);exact Nat.le_of_mul_le_mul_right this hsz
                grind
               | false=>
                rw [hk,Aa] at ha;cases hend:Nat.beq (off+len*i.size) blk.cells.length with
                | false=>grind
                | true=>
                 rw [hend,Ab] at ha;have hend:=Aj hend;by_cases eB:len+n<=c
                 .-- there is CF: behind what is told
                  simp only [Ad,Ac] at ha;obtain ⟨rfl,rfl⟩:=ha;have hcm:(len+n)*i.size<=c*i.size:=AC _ eB;obtain ⟨cur,el,hw,hcsz,dU⟩:=h.beyond hρ hm (off:=off) (new:=new) (vs:=vs.toList) e (by grind) (by omega) (by omega) (fun j h1 h2=>by simpa using hvs.2 j h1 (by grind));have hst:=run_storeCells_at P l.blk (l.base+off+len*i.size) el vs.toList 0 cur w hw (by grind) eY;rw [Bd] at hst;have dW:=hF.hin (type:=type) (ts:=tts) (base:=some ⟨l.blk,l.base+off,none⟩) (len:=len) (c:=c) (xs:=uxs) hrn eB (w':=w.setRow l.blk (cur.toList.take (l.base+off+len*i.size)++vs.toList++cur.toList.drop (l.base+off+len*i.size+vs.toList.length)).toArray)
                   (fun a e=>by cases e;rw [Xo];exact hst) (fun e=>by cases e)
                  have hod:old=blk.cells.drop off:=by rw [hpold];exact A2 (by simp;omega)
                  refine ⟨_,_,_,dW,⟨.sl _ 0 _ _ ⟨l.blk,l.base+off,blk.cells.length - off+new.length,l.tot - off⟩ c (by simp [Ur]) ?_ (by omega),?_,Ev.ofBeyond h hρ hfl ⟨l.blk,l.base+off,blk.cells.length - off+new.length,l.tot - off⟩ rfl _ _⟩,⟨rfl,rfl⟩,(fun b' off' len' z b2 o2 n2 c2 r blk' l' e hn hm' _ hl'=> ?keep),fun _ e=>by cases e⟩
                  case keep=>
                   cases e;rw [hm] at hm';obtain rfl:=Ag hm';rw [hρ] at hl';obtain rfl:=Ag hl';obtain ⟨q1,q2,q3,cs0,el0,q4,q5,q6⟩:=fI;rw [hw] at q4;obtain ⟨rfl,rfl⟩:cur=cs0/\el=el0:=by
                    grind
                   obtain ⟨cs1,s1,s2,s3⟩:=w0y (vs:=vs.toList) hw (m:=l.base+off+len*i.size) (by grind);refine ⟨q1,q2,q3,cs1,el,s1,by grind,fun k hk=> ?_⟩;obtain ⟨v,r1,r2⟩:=q6 k hk
                   grind
                  .simp only [Dj];omega
                  .rw [hod];have e2:l.base+off+len*i.size=l.base+blk.cells.length:=(by omega);rw [e2]
                   simpa only [DU,St.withMem] using dU
                 .exact anew _ _ (st.withMem (Wb st.mem b none)) (by omega) (h.kill b) (Ev.ofKill h floor hρ) rfl rfl ha
          .cases ha
         .cases ha
        .cases ha
      .cases ha
     .cases ha
    .cases ha
 .cases ha
theorem w7m {get:Nat->List B2} {off len n sz N:Nat} {new:List B2} (hl: ∀i,i<N->(get i).length =sz) (hN:off+len=N) (hnew:new.length=n*sz):
  (∀i,i<len+n->(Zt get off len sz new i).length =sz)/\Ya (len+n) (Zt get off len sz new)=((Ya N get).drop (off*sz)).take (len*sz)++new:=by
 have h1: ∀i,i<len+n->(Zt get off len sz new i).length =sz:=fun i hi=>by
  unfold Zt;cases e:Nat.ble len i with
  | true=>
   have:=Ak e;simp only [Ab,BX,List.length_drop,hnew];have:(i - len+1)*sz<=n*sz:=AC sz (by omega)
   grind
  | false=>
   have: ¬len<=i:=fun h=>by rw [AZ h] at e;cases e
   grind
 refine ⟨h1,?_⟩;have dV:=Ye (len+n) h1;have hlenN:=Ye N hl;have hd:((Ya N get).drop (off*sz)).length =len*sz:=by rw [List.length_drop,hlenN,<-hN,AU];omega
 rw [A2 (by omega)];apply List.ext_getElem?;intro i;by_cases hi:i<(len+n)*sz
 .have hsz:0<sz:=by
   grind
  have hj:i %sz<sz:=Bq _ hsz;have hq:i / sz<len+n:=A9 (by grind);have e:i=i / sz*sz+i %sz:=by rw [BC];exact (Bt i sz).symm
  generalize i / sz=q at*;generalize i %sz=j at*;subst e;rw [Vf (len+n) h1 q j hq hj];unfold Zt;cases e:Nat.ble len q with
  | true=>
   have hle:=Ak e;have:len*sz<=q*sz:=AC sz hle;simp only [Ab];rw [List.getElem?_append_right (by omega),hd,List.getElem?_take,AG hj,List.getElem?_drop]
   congr 1
   rw [Nat.sub_mul];omega
  | false=>
   have hlt:q<len:=by
    rcases A7 q len with h | h
    .exact h
    .rw [AZ h] at e;cases e
   have:(q+1)*sz<=len*sz:=AC sz hlt;rw [AU,BV] at this;simp only [Aa];rw [List.getElem?_append_left (by omega),List.getElem?_drop,<-Vf N hl (off+q) j (by omega) hj]
   grind
 grind
theorem w7u (n:Nat) (z:List B2):DJ n z=Ya n fun _=>z:=by unfold DJ Ya;rw [List.flatMap_def,List.map_const',List.length_range]
theorem Ev.remem {ρ':B6} {floor:Nat} {m m' m'':CD} {n n':Nat} {w w':World} (h:Ev ρ ρ' floor m n m' n' w w') (hm: ∀b,b<n-> ∀cs ty,Yr m b=some ⟨cs,ty,none⟩->Yr m'' b=Yr m' b):Ev ρ ρ' floor m n m'' n' w w':=
 ⟨h.ext,h.new,h.nxt,fun b hb e cs ty hc=>by rw [hm b hb cs ty hc];exact h.unborn b hb e cs ty hc,h.frame,h.fresh,h.size,h.os,h.tape,h.output,h.still⟩
theorem B7.remem {mem mem':CD} {next:Nat} {w:World} (h:B7 ρ mem next w) (hm: ∀b,Yr mem' b=Yr mem b):B7 ρ mem' next w:=
 ⟨h.dom,fun b b' l l' e e' he hs hs'=>h.inj b b' l l' e e' he (by grind) (by grind),fun b l ab e hc=>h.blk b l ab e (by grind),h.old,fun b l e hs=>h.sep b l e (by grind),h.real,fun b hb=>by rw [hm];exact h.bd b hb,h.ldom⟩
theorem y3a {cx:CL} {st st':St} {w:World} (h:B7 ρ st.mem st.next w) {t:TypeId} {x y v:B2} {ux uy:Value} (hb:Kr P cx st t x y=some (v,st')) (hob:st'.ob=true) (hx:VRel ρ x ux) (hy:VRel ρ y uy):
  ∃ρ' u w',(Instr.makeSlice t ux uy).run P w=.ok u w'/\EM ρ cx.floor st st' v w ρ' u w':=by
 unfold Kr at hb;split at hb
 .rename_i e kl l kc c hu;split at hb
  .rename_i i zero hi hz;cases eW:(Nat.beq zero.length i.size&&Nat.ble 1 i.size) with
   | false=>grind
   | true=>
    rw [eW,Ab] at hb;simp only [Ae] at eW;obtain ⟨k1,k2⟩:=eW;have hzl:=Aj k1;simp only [An,Ac] at hb;obtain ⟨st1,ho,rfl,rfl⟩:=hb;obtain ⟨o1,o2,o3,o4⟩:=UL ho;obtain ⟨hc,_⟩:=o4 hob;have m2:st1.mem=Wb st.mem st.next (some ⟨Ya c.toNat fun _=>zero,e,some ⟨i.size,c.toNat,.flat fun _=>zero⟩⟩):=o2
    have n2:st1.next=st.next+1:=o3
    have h0:Jj P st t (.int kl l) (.int kc c)=some (.sl st.next 0 l.toNat (.ex c.toNat),DU st (DJ c.toNat zero) e):=by simp_all [Jj]
    obtain ⟨ρ',uv,w',dW,hp,_,_⟩:=z1d h cx.floor h0 hx hy;refine ⟨ρ',uv,w',dW,?_,?_,?_⟩
    .have hv:=hp.val;cases hv with
     | sl _ _ _ _ l' c' hρ' fS fP=>
      have hbk:=hp.rel.blk st.next l' ⟨DJ c.toNat zero,e,none⟩ hρ' (Ym _ _ _)
      have hcn:c'=c.toNat:=fS;have q1:=hbk.n;have q2:=hbk.tot;simp only [Tq,hzl] at q1;have:=VRel.sla (ρ:=ρ') st.next i.size 0 l.toNat (.un i.size) l' c' hρ' (by grind [Dj]) fP
      grind
    .have hr:B7 ρ' (Wb st.mem st.next (some ⟨DJ c.toNat zero,e,none⟩)) (st.next+1) w':=hp.rel;rw [w7u] at hr;rw [m2,n2];exact hr.setArr ⟨i.size,c.toNat,_⟩ rfl (Ak k2) fun _ _=>hzl
    .rw [m2,n2];refine hp.ev.remem fun b' hb' cs ty hcs=> ?_;show _=Yr (Wb st.mem st.next _) b'
     grind [Zu]
  .cases hb
 .cases hb
theorem z7z {cx:CL} {st st':St} {w:World} (h:B7 ρ st.mem st.next w) {ts:Array TypeId} {type:TypeId} {xs:List B2} {us:Array Value} {v:B2} (ha:N1 P cx st ts.toList xs=some (v,st')) (hob:st'.ob=true) (hx:Vi (VRel ρ) xs us.toList):
  ∃ρ' u w',(Builtin.append_ ts type us).run P w=.ok u w'/\EM ρ cx.floor st st' v w ρ' u w'/\ ∀b sz off len z r blk l,xs=.sla b sz off len (.un z)::r->Yr st.mem b=some blk->ρ b=some l->Jd ρ w' blk l:=by
 obtain ⟨ul⟩:=us;simp only at hx;unfold N1 at ha;split at ha
 .rename_i t u tr b sz off len z x xr hts;split at ha
  .rename_i e ut hu hut;split at ha
   .cases ha
   .rename_i hni;split at ha
    .rename_i i hi;split at ha
     .rename_i n new zero blk hc hz hm;split at ha
      .rename_i A hA;cases eW:(Nat.beq zero.length i.size&&Nat.beq new.length (n*i.size)&&Nat.ble 1 i.size&&new.all DP&&Nat.beq sz i.size&&Nat.beq z sz&&Nat.ble cx.floor b&&Nat.ble 1 n) with
       | false=>grind
       | true=>
        rw [eW,Ab] at ha;have hchk0:=eW;simp only [Ae] at eW;obtain ⟨⟨⟨⟨⟨⟨⟨k1,k2⟩,k3⟩,k4⟩,k5⟩,k6⟩,k7⟩,k8⟩:=eW;obtain rfl:=Aj k5;obtain rfl:=Aj k6;have hnl:=Aj k2;have hsz1:=Ak k3;have hfl:=Ak k7;have hn1:=Ak k8;simp only [An,Ac] at ha;obtain ⟨st1,ho,rfl,rfl⟩:=ha;obtain ⟨o1,o2,o3,o4⟩:=UL ho;obtain ⟨hb,_⟩:=o4 hob;simp only [Ae,Ar] at hb;obtain ⟨hAs,hfull,eB⟩:=hb;have hAs:=Aj hAs;have hbn:b<st.next:=by
         rcases A7 b st.next with g | g
         .exact g
         .rw [h.bd b g] at hm;cases hm
        have m2:st1.mem=Wb (Wb st.mem b none) st.next (some ⟨Ya (len+n) (Zt A.get off len i.size new),e,some ⟨i.size,len+n,Zt A.get off len i.size new⟩⟩):=o2
        have n2:st1.next=st.next+1:=o3
        cases hx with
        | cons ha0 hr=>
         cases ha0 with
         | sla _ _ _ _ _ l c hρ eC dV=>
          obtain ⟨fG,fQ,eH⟩:=(h.blk b l blk hρ hm).arr A hA;rw [hAs] at eH;obtain ⟨q1,q2⟩:=w7m (new:=new) eH hfull hnl;have hlenr:=Ye A.n eH;have hmul:off*i.size+len*i.size=A.n*i.size:=(by grind);have hcut:cut blk.cells (off*i.size) (len*i.size)=some ((blk.cells.drop (off*i.size)).take (len*i.size)):=by
           unfold cut;simp only;rw [show Nat.beq ((blk.cells.drop (off*i.size)).take (len*i.size)).length (len*i.size)=true from by
            rw [Nat.beq_eq];simp [fG,hlenr];omega]
           rfl
          have hroom':Nat.ble ((len+n+1)*(i.bytes+1)) CF=true:=AZ eB;have hnot:Nat.ble (off*i.size+(len+n)*i.size) blk.cells.length=false:=by
           have:1*i.size<=n*i.size:=AC _ hn1;cases g:Nat.ble (off*i.size+(len+n)*i.size) blk.cells.length with
           | false=>rfl
           | true=>
            have:=Ak g
            grind
          have E0:Nat.beq (off*i.size+len*i.size) blk.cells.length=true:=(by simp_all);have h0:G0 P cx.floor st ts.toList (.sl b (off*i.size) len (.un i.size)::x::xr)=some (.sl st.next 0 (len+n) (.un i.size),DU (st.withMem (Wb st.mem b none)) (((blk.cells.drop (off*i.size)).take (len*i.size))++new) e):=by
           rw [hts];unfold G0;simp only [hu,hut,hi,hz]
           grind [Jc]
          obtain ⟨ρ',uv,w',dW,hp,_,hkeep⟩:=X6 (type:=type) h cx.floor h0 (us:=⟨_⟩) (.cons (.sl _ _ _ _ l c hρ eC dV) hr);refine ⟨ρ',uv,w',dW,⟨?_,?_,?_⟩,fun b' sz' off' len' z' r' blk' l' e hm' hl'=> ?_⟩
          rotate_left 3
          .injection e with e1 _;injection e1 with f1 _ _ _ _;subst f1;rw [hm] at hm';obtain rfl:=Ag hm';have hxs: ∃b2 o2 c2,x=.sl b2 o2 n c2:=by
            unfold Xp at hc;split at hc
            .grind
            .split at hc;all_goals simp_all
            .cases hc
           obtain ⟨b2,o2,c2,rfl⟩:=hxs;exact hkeep.1 _ _ _ _ _ _ _ _ _ _ _ rfl hn1 hm (by grind) hl'
          .have hv:=hp.val;cases hv with
           | sl _ _ _ _ l' c' hρ' fS fP=>
            have:=VRel.sla (ρ:=ρ') st.next i.size 0 (len+n) (.un i.size) l' c' hρ' (by grind) fP
            grind
          .have hr:=hp.rel;rw [m2,n2];have hr:B7 ρ' (Wb (Wb st.mem b none) st.next (some ⟨((blk.cells.drop (off*i.size)).take (len*i.size))++new,e,none⟩)) (st.next+1) w':=hr;rw [fG,<-q2] at hr;exact hr.setArr ⟨i.size,len+n,_⟩ rfl hsz1 q1
          .rw [m2,n2];refine hp.ev.remem fun b' hb' cs ty hcs=> ?_;have hne:b'≠b:=fun e=>by grind
           show _=Yr (Wb (Wb st.mem b none) st.next _) b';rw [Zu _ _ (by omega),Zu _ _ hne,Zu _ _ (by omega),Zu _ _ hne]
         | slan=>
          have hq:=w7m (get:=fun _=>List.replicate i.size B2.undef) (off:=0) (len:=0) (N:=0) (new:=new) (fun i hi=>absurd hi (AL _)) rfl hnl;have hfe:Zt (fun _=>List.replicate i.size B2.undef) 0 0 i.size new=Zt A.get off 0 i.size new:=rfl;rw [hfe] at hq;obtain ⟨q1,q2⟩:=hq;have hn0:Nat.beq n 0=false:=by cases n with | zero=>omega | succ n=>rfl
          have hroom':Nat.ble ((n+1)*(i.bytes+1)) CF=true:=AZ (by grind);have h0:G0 P cx.floor st ts.toList (.nils ::x::xr)=some (.sl st.next 0 n (.un i.size),DU st new e):=by
           rw [hts];unfold G0
           grind [Jc]
          obtain ⟨ρ',uv,w',dW,hp,_,hkeep⟩:=X6 (type:=type) h cx.floor h0 (us:=⟨_⟩) (.cons .nils hr);refine ⟨ρ',uv,w',dW,⟨?_,?_,?_⟩,fun b' sz' off' len' z' r' blk' l' e hm' hl'=> ?_⟩
          rotate_left 3
          .have hq:=h.blk b' l' blk' hl' hm';refine hq.world (B6.le_refl ρ) ?_;obtain ⟨_,_,_,cs0,el0,g1,_⟩:=hq;rw [g1];exact hkeep.2 _ rfl _ _ g1
          .have hv:=hp.val;rw [Af];cases hv with
           | sl _ _ _ _ l' c' hρ' fS fP=>
            have:=VRel.sla (ρ:=ρ') st.next i.size 0 n (.un i.size) l' c' hρ' (by grind) fP
            grind
          .have hr:B7 ρ' (Wb st.mem st.next (some ⟨new,e,none⟩)) (st.next+1) w':=hp.rel;have hr:=hr.kill b;have hr:B7 ρ' (Wb (Wb st.mem b none) st.next (some ⟨new,e,none⟩)) (st.next+1) w':=hr.remem fun b'=>by
            simp only [Uk];by_cases e1:b'=st.next
            .rw [AG e1,Aw (by omega),AG e1]
            simp_all
           rw [show new=Ya (0+n) (Zt A.get off 0 i.size new) by rw [q2];simp] at hr;rw [m2,n2];have:=hr.setArr ⟨i.size,0+n,Zt A.get off 0 i.size new⟩ rfl hsz1 q1;exact this
          .rw [m2,n2];refine hp.ev.remem fun b' hb' cs ty hcs=> ?_;have hne:b'≠b:=fun e=>by grind
           show _=Yr (Wb st.mem st.next _) b';rw [Zu _ _ (by omega),Zu _ _ hne,Zu _ _ (by omega)]
      .cases ha
     .cases ha
    .cases ha
  .cases ha
 .cases ha
theorem B7.ghost {mem:CD} {next:Nat} {w:World} (h:B7 ρ mem next w) (o:Option CG):B7 ρ (Wb mem next o) (next+1) w:=by
 have ne: ∀c l,ρ c=some l->c≠next:=fun c l e=>BK (h.dom c l e)
 refine ⟨fun c l e=>Bl (h.dom c l e),fun c c' m m' e e' he hs hs'=> ?_,fun c m ac e hc=> ?_,h.old,fun c m e hs=> ?_,h.real,fun c hc=> ?_,fun j l e=>Bl (h.ldom j l e)⟩
 .rw [Zu _ _ (ne _ _ e)] at hs;rw [Zu _ _ (ne _ _ e')] at hs';exact h.inj c c' m m' e e' he hs hs'
 .rw [Zu _ _ (ne _ _ e)] at hc;exact h.blk c m ac e hc
 .rw [Zu _ _ (ne _ _ e)] at hs;exact h.sep c m e hs
 .rw [Zu _ _ (by omega)];exact h.bd c (by omega)
theorem Ev.ghost {mem:CD} {next:Nat} {w:World} (h:B7 ρ mem next w) (floor:Nat) (o:Option CG):Ev ρ ρ floor mem next (Wb mem next o) (next+1) w w where
 ext:=B6.le_refl _
 new _ _:=rfl
 nxt:=B0 _
 unborn k hk _ cs ty hm:=by grind [Zu]
 frame _ _ hk _:=hk
 fresh k m hk e:=by have:=h.dom k m e;omega
 size:=Aq _
 os:=rfl
 tape:=rfl
 output:=rfl
 still _ _:=rfl
theorem u2g {mem:CD} {next:Nat} {w:World} (h:B7 ρ mem next w) {n sz:Nat} {g:Nat->List B2} {ux:Value} (hx:VRel ρ (.dat n g) ux) (hg: ∀i,i<n->(g i).length =sz) (hsz:1<=sz):
  (∀w,(Builtin.lenOf ux).run P w=.ok n w)/\ ∃vs:Array Value,Jq ρ (Ya n g) vs/\ ∀d,(Builtin.firstCells sz n ux).run P {w with drawn:=d}=.ok vs {w with drawn:=d}:=by
 cases hx with
 | datn=>exact ⟨fun w=>by simp [Builtin.lenOf], #[],⟨by simp [Ya],fun i h1 h2=>by grind⟩,fun d=>by simp [Builtin.firstCells]⟩
 | datz=>exact ⟨fun w=>by simp [Builtin.lenOf], #[],⟨by simp [Ya],fun i h1 h2=>by grind⟩,fun d=>by simp [Builtin.firstCells,loadCells,loadCellsFrom]⟩
 | dat _ _ blk base sz' cap val eC fW hv hh=>
  refine ⟨fun w=>by simp [Builtin.lenOf],?_⟩;have hl:=Ye n hg;have hdiv: ∀k,k<n*sz->k / sz<n/\k %sz<sz/\k / sz*sz+k %sz=k:=fun k hk=>
   ⟨A9 (by grind),Bq _ hsz,by rw [BC];exact Bt k sz⟩
  have fD: ∀(d k:Nat),k<n*sz->({w with drawn:=d}:World).cell? ((⟨blk,base,none⟩:Addr).add k)=some (val (k / sz) (k %sz)):=by
   intro d k hk;obtain ⟨hq,hj,e4⟩:=hdiv k hk;have hs:sz'=sz:=by grind
   obtain ⟨cs,el,fz,e1,e2⟩:=hh (k / sz) (k %sz) hq (by omega);have e3:=h.old _ _ e1
   grind [Xo,World.cell?]
  refine ⟨_,⟨?_,?_⟩,fun d=>by simp only [Builtin.firstCells];exact run_loadCells _ _ _ (fun k=>val (k / sz) (k %sz)) (fD d)⟩
  .simp [hl]
  .intro k h1 h2;obtain ⟨hq,hj,e4⟩:=hdiv k (by grind);have hj':k %sz<(g (k / sz)).length :=by grind
   have hr:=Vf n hg (k / sz) (k %sz) hq hj;rw [e4,Au h1,Au hj'] at hr;rw [Ag hr]
   simpa using (hv (k / sz) (k %sz) hq hj').mono (Tt ρ)
theorem Y6 {g:Nat->List B2} {p:B2->Bool} (n:Nat) (h: ∀i,i<n->(g i).all p=true):(Ya n g).all p=true:=by grind [Ya]
theorem Tm {get:Nat->List B2} {sz N off len:Nat} (hl: ∀i,i<N->(get i).length =sz) (h:off+len<=N):Ya len (fun k=>get (off+k))=((Ya N get).drop (off*sz)).take (len*sz):=by
 have h1: ∀k,k<len->(get (off+k)).length =sz:=fun k hk=>hl _ (by omega);have hL:=Ye len h1;have hN:=Ye N hl;have hm:(off+len)*sz<=N*sz:=AC _ h;rw [AU] at hm;apply List.ext_getElem?;intro i;by_cases hi:i<len*sz
 .have hsz:0<sz:=by
   grind
  have hj:i %sz<sz:=Bq _ hsz;have hq:i / sz<len:=A9 (by grind);have e:i / sz*sz+i %sz=i:=by rw [BC];exact Bt i sz
  have a1:=Vf len h1 (i / sz) (i %sz) hq hj;have a2:=Vf N hl (off+i / sz) (i %sz) (by omega) hj
  grind
 grind
theorem x3u {mem:CD} {next:Nat} {w:World} (h:B7 ρ mem next w) {t u e:TypeId} {ut:TypeDesc} {i:TypeInfo} {z:Value} {zero:List B2} {x:B2} {ux:Value} {n:Nat} {g:Nat->List B2} {o:Bool} (hu:P.underlying t=some (.slice e)) (hut:P.underlying u=some ut) (hi:P.info? e=some i) (hz:i.zero=some z)
  (hzr:Jq ρ zero z.cells) (hzl:zero.length=i.size) (hzs:zero.all DP=true) (hsz:1<=i.size) (hc:x3v mem i.size zero ut x=some (n,g,o)) (ho:o=true) (hx:VRel ρ x ux):
  (∀k,k<n->(g k).length =i.size)/\ ∃vs,j0q P ρ t u e i z ux n (Ya n g) vs w/\ ∀v∈vs.toList,v.oneCell'=true:=by
 subst ho;unfold x3v at hc;split at hc
 .rename_i k m;split at hc
  .rename_i kt;simp only [Ad,Ac] at hc;obtain ⟨rfl,rfl,h0⟩:=hc;have hcs:Jc mem i.size zero (.int kt) (.int k m)=some (m.toNat,DJ m.toNat zero):=by
    grind [Jc]
   obtain ⟨vs,hF⟩:=Kb (P:=P) (u:=u) (t:=t) h hu hut hi hz hzr hzl hcs hx (by rw [Tq,hzl]);rw [w7u] at hF;exact ⟨fun _ _=>hzl,vs,hF,VRel.cells_oneCell hF.rel (Y6 _ fun _ _=>hzs)⟩
  .cases hc
 .rename_i nn gg;split at hc
  .cases hc
  .rename_i hni;simp only [Ad,Ac] at hc;obtain ⟨rfl,rfl,h0⟩:=hc;have hp:= @Az _ (Classical.propDecidable _) h0;obtain ⟨dV,vs,hvs,hfc⟩:=u2g (P:=P) h hx (fun i hi=>(hp i hi).1) hsz;have fR:(Builtin.firstCells i.size nn ux).run P w=.ok vs w:=hfc w.drawn;have hfc1:(Builtin.firstCells i.size nn ux).run P w.drew=.ok vs w.drew:=hfc (w.drawn+1);exact ⟨fun i hi=>(hp i hi).1,vs,⟨hvs,fun _ eB _ hst hno=>z9k hu hut (fun k e=>hni k e) hi (dV w) fR eB hst hno,fun hold eB fC=>z7t hu hut (fun k e=>hni k e) hi hz (dV w) hfc1 hold eB fC⟩,
    VRel.cells_oneCell hvs (Y6 _ fun i hi=>(hp i hi).2)⟩
 .split at hc
  .cases hc
  .rename_i hni;simp only [Ad,Ac] at hc;obtain ⟨rfl,rfl,_⟩:=hc;have hcs:Jc mem i.size zero ut .nils =some (0,[]):=by
    unfold Jc;split
    .grind
    .rfl
   obtain ⟨vs,hF⟩:=Kb (P:=P) (u:=u) (t:=t) h hu hut hi hz hzr hzl hcs hx (by simp);exact ⟨fun k hk=>absurd hk (AL _),vs,hF,VRel.cells_oneCell hF.rel rfl⟩
 .rename_i b zz off len0 cap;split at hc
  .cases hc
  .rename_i hni;split at hc
   .rename_i cells ty A hm;simp only [Ad,Ac,Ae,Ar] at hc;obtain ⟨rfl,rfl,h1,h2,eO,h4⟩:=hc;have hp:= @Az _ (Classical.propDecidable _) h4;have h1:=Aj h1;have h2:=Aj h2;subst h1;have nc: ∀v,Jc mem i.size zero ut v=Xp mem i.size v:=fun v=>by
     grind [Jc]
    cases hx with
    | sla _ _ _ _ _ l c hρ eC hlc=>
     obtain ⟨fG,fQ,eH⟩:=(h.blk b l _ hρ hm).arr A rfl;rw [h2] at eH;simp only at fG;have hrp:=Tm eH eO;have hlr:=Ye A.n eH;have hm2:(off+len0)*i.size<=A.n*i.size:=AC _ eO;rw [AU] at hm2;have dV:((cells.drop (off*i.size)).take (len0*i.size)).length =len0*i.size:=by
      grind
     have hcut:cut cells (off*i.size) (len0*i.size)=some ((cells.drop (off*i.size)).take (len0*i.size)):=by simp_all [cut]
     have hcs:Jc mem i.size zero ut (.sl b (off*i.size) len0 (.ex c))=some (len0,(cells.drop (off*i.size)).take (len0*i.size)):=by rw [nc];simp [Xp,hm,hcut]
     obtain ⟨vs,hF⟩:=Kb (P:=P) (u:=u) (t:=t) h hu hut hi hz hzr hzl hcs (.sl b (off*i.size) len0 (.ex c) l c hρ rfl hlc) dV;rw [fG,<-hrp] at hF;exact ⟨fun k hk=>(hp k hk).1,vs,hF,VRel.cells_oneCell hF.rel (Y6 _ fun k hk=>(hp k hk).2)⟩
    | slan=>
     have hcs:Jc mem i.size zero ut .nils =some (0,[]):=by rw [nc];rfl
     obtain ⟨vs,hF⟩:=Kb (P:=P) (u:=u) (t:=t) h hu hut hi hz hzr hzl hcs .nils (by simp);exact ⟨fun k hk=>absurd hk (AL _),vs,hF,VRel.cells_oneCell hF.rel rfl⟩
   .cases hc
 .cases hc
def t5s (P:Program) (ρ:B6) (floor:Nat) (mem mem':CD) (next:Nat) (sz:Nat) (e:TypeId) (N:Nat) (G:Nat->List B2) (w:World) (r:World->Result Value):Prop:=
 ∃ρ' u w',r w=.ok u w'/\VRel ρ' (.sla next sz 0 N (.un sz)) u/\B7 ρ' (Wb mem' next (some ⟨Ya N G,e,some ⟨sz,N,G⟩⟩)) (next+1) w'/\Ev ρ ρ' floor mem next (Wb mem' next (some ⟨Ya N G,e,some ⟨sz,N,G⟩⟩)) (next+1) w w'
theorem y9e {mem:CD} {next:Nat} {w:World} (h:B7 ρ mem next w) (floor:Nat) {t u e:TypeId} {type:TypeId} {ts:List TypeId} {xs:List Value} {i:TypeInfo} {z ux:Value} {n:Nat} {new:List B2} {vs:Array Value} (hF:j0q P ρ t u e i z ux n new vs w)
  (eY: ∀v∈vs.toList,v.oneCell'=true) (hnl:new.length=n*i.size) (hzs:z.cells.size=i.size) (hsz:1<=i.size) {len c off b:Nat} {l:Ce} {blk:CG} (hrm:(len+n+1)*(i.bytes+1)<=CF)
  (hρ:ρ b=some l) (hm:Yr mem b=some blk) (hfl:floor<=b) (hoff:off+len*i.size<=blk.cells.length) (hlc:len<=c) (eC:(l.n<=off+c*i.size/\off+c*i.size<=l.tot)\/c<=len)
  {G:Nat->List B2} (hG:Ya (len+n) G=(blk.cells.drop off).take (len*i.size)++new) (hGl: ∀k,k<len+n->(G k).length =i.size):
  t5s P ρ floor mem (Wb mem b none) next i.size e (len+n) G w fun w=>(Builtin.append_ (t::u::ts).toArray type ((.slice (some ⟨l.blk,l.base+off,none⟩) len c)::ux::xs).toArray).run P w:=by
 have hvs:=hF.rel;have hvsz:vs.size=n*i.size:=by rw [<-hvs.1];exact hnl
 have hbk:=h.blk b l blk hρ hm;have hln:=hbk.n;have htot:=hbk.tot;have hmul:(len+n)*i.size=len*i.size+n*i.size:=AU _ _ _;have hcut:cut blk.cells off (len*i.size)=some ((blk.cells.drop off).take (len*i.size)):=by unfold cut;simp only;rw [show Nat.beq ((blk.cells.drop off).take (len*i.size)).length (len*i.size)=true from by rw [Nat.beq_eq];simp;omega];rfl
 have hcos:Xp mem i.size (.sl b off len (.ex c))=some (len,(blk.cells.drop off).take (len*i.size)):=by simp [Xp,hm,hcut]
 have holdl:((blk.cells.drop off).take (len*i.size)).length =len*i.size:=by simp;omega
 obtain ⟨_,hfo⟩:=Vt (P:=P) h hcos (.sl b off len (.ex c) l c hρ rfl hlc) holdl;obtain ⟨ovs,hovs,hof⟩:=hfo len (Aq _);rw [A2 (by omega)] at hovs;have hovz:ovs.size=len*i.size:=by rw [<-hovs.1];exact holdl
 have hof1:(Builtin.firstCells i.size len (.slice (some ⟨l.blk,l.base+off,none⟩) len c)).run P w.drew=.ok ovs w.drew:=hof (w.drawn+1);have hrn:n=0\/(n+1)*(i.bytes+1)<=1099511627776:=.inr (AF (AC _ (by omega)) hrm);by_cases eB:len+n<=c
 .-- there is CF
  have hcm:(len+n)*i.size<=c*i.size:=AC _ eB;obtain ⟨T,t1,t2,t3⟩: ∃T,off+len*i.size - off+new.length<=T/\off+T<=l.tot/\c*i.size<=T:=by
   rcases eC with ⟨c1,c2⟩ | c1
   .exact ⟨l.tot - off,by omega,by omega,by omega⟩
   .have:n=0:=(by omega);subst this;have:c=len:=(by omega);subst this;exact ⟨c*i.size,by omega,by omega,by omega⟩
  obtain ⟨cur,el,hw,hcsz,dU⟩:=h.beyond2 hρ hm (off:=off) (m:=off+len*i.size) (T:=T) (new:=new) (vs:=vs.toList) e (by grind) (by omega) hoff t1 t2 (fun j h1 h2=>by simpa using hvs.2 j h1 (by grind));have hst:=run_storeCells_at P l.blk (l.base+off+len*i.size) el vs.toList 0 cur w hw (by grind) eY;rw [Bd] at hst;have dW:=hF.hin (type:=type) (ts:=ts) (base:=some ⟨l.blk,l.base+off,none⟩) (len:=len) (c:=c) (xs:=xs) hrn eB (w':=w.setRow l.blk (cur.toList.take (l.base+off+len*i.size)++vs.toList++cur.toList.drop (l.base+off+len*i.size+vs.toList.length)).toArray)
   (fun a e=>by cases e;rw [Xo];exact hst) (fun e=>by cases e)
  have hdt:(blk.cells.take (off+len*i.size)).drop off=(blk.cells.drop off).take (len*i.size):=by
   grind
  rw [hdt,<-hG,<-AD] at dU;refine ⟨_,_,_,dW,?_,dU.setArr ⟨i.size,len+n,G⟩ rfl hsz hGl,?_⟩
  .have:=VRel.sla (ρ:=Ur ρ next ⟨l.blk,l.base+off,off+len*i.size - off+new.length,T⟩) next i.size 0 (len+n) (.un i.size) ⟨l.blk,l.base+off,off+len*i.size - off+new.length,T⟩ c (by simp [Ur])
    (by grind [Dj]) (by omega)
   grind
  grind [Ev.ofBeyond]
 .-- a new row
  let st:St:=⟨.leaf,mem,next,[],true⟩
  have eZ:B7 ρ (st.withMem (Wb mem b none)).mem (st.withMem (Wb mem b none)).next w:=h.kill b
  obtain ⟨newCap,fS,rest,eU,dW⟩:=hF.hnew (type:=type) (ts:=ts) (base:=some ⟨l.blk,l.base+off,none⟩) (len:=len) (c:=c) (xs:=xs) hof1 (by omega) (by simpa [CF] using hrm);have hov:=hovs.append hvs;have hsum:(ovs++vs).size +rest.size=newCap*i.size:=by rw [Array.size_append,hovz,hvsz,eU,hzs,<-AU,<-AU];grind
  have hp:=XP eZ floor hov rest e e (.sla next i.size 0 (len+n) (.un i.size)) (.slice (some ⟨w.heap.size,0,none⟩) (len+n) newCap) (fun ρ' hρ'=>by
   have:=VRel.sla (ρ:=ρ') next i.size 0 (len+n) (.un i.size) _ newCap hρ' (by
    grind [Dj]) fS
   grind)
  rw [<-hG] at hp;refine ⟨Ur ρ next ⟨w.heap.size,0,(Ya (len+n) G).length,(ovs++vs).size +rest.size⟩,_,_,dW,hp.val,?_,?_⟩
  .exact B7.setArr hp.rel ⟨i.size,len+n,G⟩ rfl hsz hGl
  .refine ((Ev.ofKill h floor hρ).trans hp.ev).remem fun b' hb' cs ty hcs=> ?_;have hne: ¬b'=next:=BK hb'
   show Yr (Wb (Wb mem b none) next _) b'=Yr (Wb (Wb mem b none) next _) b';simp only [Uk,Aw hne]
theorem x8g {mem:CD} {next:Nat} {w:World} (h:B7 ρ mem next w) (floor:Nat) {t u e:TypeId} {type:TypeId} {ts:List TypeId} {xs:List Value} {i:TypeInfo} {z ux:Value} {n:Nat} {new:List B2} {vs:Array Value} (hF:j0q P ρ t u e i z ux n new vs w)
  (hnl:new.length=n*i.size) (hzs:z.cells.size=i.size) (hsz:1<=i.size) (hrm:(0+n+1)*(i.bytes+1)<=CF) {G:Nat->List B2} (hG:Ya (0+n) G=new) (hGl: ∀k,k<0+n->(G k).length =i.size):
  t5s P ρ floor mem mem next i.size e (0+n) G w fun w=>(Builtin.append_ (t::u::ts).toArray type ((.slice none 0 0)::ux::xs).toArray).run P w:=by
 have hvs:=hF.rel;have hvsz:vs.size=n*i.size:=by rw [<-hvs.1];exact hnl
 rcases Nat.eq_zero_or_pos n with hn0 | hnpos
 .subst hn0;have dW:=hF.hin (type:=type) (ts:=ts) (base:=none) (len:=0) (c:=0) (xs:=xs) (.inl rfl) (Aq _) (w':=w) (fun a e=>by cases e) (fun _=>rfl);exact ⟨ρ,_,w,dW,.slan _ _ _ _,h.ghost _,Ev.ghost h floor _⟩
 .obtain ⟨newCap,eC,rest,eU,dW⟩:=hF.hnew (type:=type) (ts:=ts) (base:=none) (len:=0) (c:=0) (xs:=xs) (old:= #[]) (by simp [Builtin.firstCells]) (by omega) (by simpa [CF] using hrm);have e0:(#[]:Array Value)++vs=vs:=by simp
  rw [e0] at dW;have hsum:vs.size+rest.size=newCap*i.size:=by rw [hvsz,eU,hzs,<-AU];grind
  let st:St:=⟨.leaf,mem,next,[],true⟩
  have eZ:B7 ρ st.mem st.next w:=h
  have hp:=XP eZ floor hvs rest e e (.sla next i.size 0 (0+n) (.un i.size)) (.slice (some ⟨w.heap.size,0,none⟩) (0+n) newCap) (fun ρ' hρ'=>by
   have:=VRel.sla (ρ:=ρ') next i.size 0 (0+n) (.un i.size) _ newCap hρ' (by
    grind [Dj]) eC
   grind)
  rw [<-hG] at hp;refine ⟨Ur ρ next ⟨w.heap.size,0,(Ya (0+n) G).length,vs.size+rest.size⟩,_,_,dW,hp.val,B7.setArr hp.rel ⟨i.size,0+n,G⟩ rfl hsz hGl,?_⟩
  .refine hp.ev.remem fun b' hb' cs ty hcs=> ?_;have hne: ¬b'=next:=BK hb'
   show Yr (Wb mem next _) b'=Yr (Wb mem next _) b';simp only [Uk,Aw hne]
theorem Qx {α β:Type} {f g:α->List β}: ∀{l:List α},(∀a,a∈l->f a=g a)->l.flatMap f=l.flatMap g
 | [],_=>rfl
 | a::l,h=>by rw [List.flatMap_cons,List.flatMap_cons,h a (by simp),Qx fun b hb=>h b (by simp [hb])]
theorem Y7 {get g:Nat->List B2} {len n sz:Nat} (hl: ∀i,i<len->(get i).length =sz) (hg: ∀i,i<n->(g i).length =sz):
  (∀i,i<len+n->(Jw get len g i).length =sz)/\Ya (len+n) (Jw get len g)=Ya len get++Ya n g:=by
 have h1: ∀i,i<len+n->(Jw get len g i).length =sz:=fun i hi=>by
  unfold Jw;cases e:Nat.ble len i with
  | true=>
   have:=Ak e
   grind
  | false=>
   have: ¬len<=i:=fun h=>by rw [AZ h] at e;cases e
   grind
 refine ⟨h1,?_⟩;unfold Ya;rw [List.range_add,List.flatMap_append]
 congr 1
 .refine Qx fun i hi=> ?_;have:=A6.1 hi;unfold Jw;rw [show Nat.ble len i=false from A3.2 fun e=>by have:=Ak e;omega];rfl
 .rw [List.flatMap_map];refine Qx fun i hi=> ?_;unfold Jw;rw [show Nat.ble len (len+i)=true from AZ (Nat.le_add_right _ _),Ab,Nat.add_sub_cancel_left]
theorem w1o {sz:Nat}: ∀(n:Nat) (l:List B2),l.length=n*sz->Ya n (fun k=>(l.drop (k*sz)).take sz)=l/\ ∀k,k<n->((l.drop (k*sz)).take sz).length =sz:=by
 intro n l hl;have h1: ∀k,k<n->((l.drop (k*sz)).take sz).length =sz:=fun k hk=>by
  have:(k+1)*sz<=n*sz:=AC _ hk
  grind
 refine ⟨?_,h1⟩;have dV:=Ye n h1;apply List.ext_getElem?;intro i;by_cases hi:i<n*sz
 .have hsz:0<sz:=by
   grind
  have hj:i %sz<sz:=Bq _ hsz;have hq:i / sz<n:=A9 (by grind);have e:i / sz*sz+i %sz=i:=by rw [BC];exact Bt i sz
  grind [Vf]
 grind
theorem x0p {cx:CL} {st st':St} {w:World} (h:B7 ρ st.mem st.next w) {ts:Array TypeId} {type:TypeId} {xs:List B2} {us:Array Value} {v:B2} (ha:H3 P cx st ts.toList xs=some (v,st')) (hob:st'.ob=true) (hx:Vi (VRel ρ) xs us.toList):
  ∃ρ' u w',(Builtin.append_ ts type us).run P w=.ok u w'/\EM ρ cx.floor st st' v w ρ' u w':=by
 obtain ⟨ts⟩:=ts;obtain ⟨us⟩:=us;simp only at ha hx;unfold H3 at ha;split at ha
 .rename_i t tu tts s x txs;cases hx with
  | @cons _ su _ _ hs hx=>
   cases hx with
   | @cons _ ux _ uxs hx _=>
    split at ha
    .rename_i e ut hu hut;split at ha
     .rename_i i zero hi hz;split at ha
      .rename_i b len get o1 n g o2 ht hc;obtain ⟨i2,z,hi2,hz2,hzr,_⟩:=Wn (ρ:=ρ) hz;obtain rfl:i=i2:=by grind
       obtain ⟨eW,ha⟩:=H4 ha;simp only [Ae] at eW;obtain ⟨⟨⟨hzl,hzsc⟩,hsz⟩,hfl⟩:=eW;have hzl:=Aj hzl;have hsz:=Ak hsz;have hzs:z.cells.size=i.size:=by rw [<-hzr.1];exact hzl
       simp only [An,Ac] at ha;obtain ⟨st1,ho,rfl,rfl⟩:=ha;obtain ⟨_,m2,n2,o4⟩:=UL ho;obtain ⟨hb,_⟩:=o4 hob;simp only [Ae,Ar] at hb;obtain ⟨hb1,hb2,hrm⟩:=hb;have m2:st1.mem=Wb (OD st.mem b) st.next (some ⟨Ya (len+n) (Jw get len g),e,some ⟨i.size,len+n,Jw get len g⟩⟩):=m2
       have n2:st1.next=st.next+1:=n2
       obtain ⟨hgl,vs,hF,eY⟩:=x3u (P:=P) (u:=tu) (t:=t) h hu hut hi hz2 hzr hzl hzsc hsz hc hb2 hx.unN;have hnl:=Ye n hgl
       suffices t5s P ρ cx.floor st.mem (OD st.mem b) st.next i.size e (len+n) (Jw get len g) w fun w=>(Builtin.append_ (t::tu::tts).toArray type (su::ux::uxs).toArray).run P w by obtain ⟨ρ',u,w',dW,hv,hr,hev⟩:=this;exact ⟨ρ',u,w',dW,hv,by grind,by grind⟩
       unfold SO at ht;split at ht
       .simp only [Ad,Ac] at ht;obtain ⟨rfl,rfl,rfl,_⟩:=ht;cases hs;obtain ⟨q1,q2⟩:=Y7 (get:=fun _=>[]) (len:=0) (fun i hi=>absurd hi (AL _)) hgl;exact x8g h cx.floor hF hnl hzs hsz hrm (by rw [q2];simp [Ya]) q1
       .rename_i b0 off len0 cap;split at ht
        .rename_i blk hm;split at ht
         .rename_i old hold;obtain ⟨fL,ht⟩:=H4 ht;simp only [Ae] at fL;obtain ⟨fL,hoff⟩:=fL;have hoff:=Ak hoff;simp only [Ad,Ac] at ht;obtain ⟨rfl,rfl,rfl,_⟩:=ht;obtain ⟨k1,k2,k3⟩:=SD hold;obtain ⟨r1,r2⟩:=w1o len0 old k2;obtain ⟨q1,q2⟩:=Y7 r2 hgl;cases hs with
          | sl _ _ _ _ l c hρ eC hlc=>
           have hbk:=h.blk b0 l blk hρ hm;have k4:off+len0*i.size<=blk.cells.length:=(by omega);refine y9e h cx.floor hF eY hnl hzs hsz hrm hρ hm (Ak hfl) k4 hlc ?_ (by grind) q1;cases cap with
           | ex k=>exact .inr (by simp only [Dj] at eC;rw [eC];exact Ak fL)
           | un zz=>
            have:=Aj fL
            grind [Dj]
         .cases ht
        .cases ht
       .rename_i b0 zz off len0 cap;split at ht
        .rename_i blk hm;split at ht
         .rename_i A hA;obtain ⟨fL,ht⟩:=H4 ht;simp only [Ad,Ac] at ht;obtain ⟨rfl,rfl,rfl,rfl⟩:=ht;simp only [Ae,Ar] at hb1;obtain ⟨hz1,hz2',eO⟩:=hb1;obtain rfl:=Aj hz1;have hAs:=Aj hz2';cases hs with
          | sla _ _ _ _ _ l c hρ eC hlc=>
           obtain ⟨fG,fQ,eH⟩:=(h.blk b0 l blk hρ hm).arr A hA;rw [hAs] at eH;have hlr:=Ye A.n eH;have hgl0: ∀k,k<len0->(A.get (off+k)).length =i.size:=fun k hk=>eH _ (by omega);obtain ⟨q1,q2⟩:=Y7 hgl0 hgl;have hm2:(off+len0)*i.size<=A.n*i.size:=AC _ eO;rw [AU] at hm2;refine y9e h cx.floor hF eY hnl hzs hsz hrm hρ hm (Ak hfl) (by grind) hlc ?_ (by rw [q2,Tm eH eO,fG]) q1;cases cap with
           | ex k=>exact .inr (by simp only [Dj] at eC;rw [eC];exact Ak fL)
           | un zz=>
            have:=Aj fL
            grind [Dj]
          | slan=>
           obtain ⟨q1,q2⟩:=Y7 (get:=fun k=>A.get (off+k)) (len:=0) (fun i hi=>absurd hi (AL _)) hgl;obtain ⟨ρ',u,w',dW,hv,hr,hev⟩:=x8g (P:=P) (type:=type) (ts:=tts) (xs:=uxs) h cx.floor hF hnl hzs hsz hrm (G:=Jw (fun k=>A.get (off+k)) 0 g) (by rw [q2];simp [Ya]) q1;have hbn:b0<st.next:=by
            rcases A7 b0 st.next with g | g
            .exact g
            .rw [h.bd b0 g] at hm;cases hm
           refine ⟨ρ',u,w',dW,hv,?_,?_⟩
           .refine (hr.kill b0).remem fun b'=> ?_;simp only [OD,Uk];by_cases e1:b'=st.next
            .rw [AG e1,Aw (by omega),AG e1]
            simp_all
           .refine hev.remem fun b' hb' cs ty hcs=> ?_;have hne:b'≠b0:=fun e=>by grind
            show Yr (Wb (Wb st.mem b0 none) st.next _) b'=Yr (Wb st.mem st.next _) b';rw [Zu _ _ (by omega),Zu _ _ hne,Zu _ _ (by omega)]
         .cases ht
        .cases ht
       .cases ht
      .cases ha
     .cases ha
    .cases ha
 .cases ha
theorem w6k {st st':St} {w:World} (h:B7 ρ st.mem st.next w) (floor:Nat) {ts:Array TypeId} {type:TypeId} {xs:List B2} {us:Array Value} {v:B2} (ha:Nu P floor st ts.toList xs=some (v,st')) (hx:Vi (VRel ρ) xs us.toList):
  ∃ρ' u w',(Builtin.copy_ ts type us).run P w=.ok u w'/\EM ρ floor st st' v w ρ' u w'/\st'.env=st.env/\st'.ob=st.ob:=by
 obtain ⟨ts⟩:=ts;obtain ⟨us⟩:=us;simp only at ha hx;unfold Nu at ha;split at ha
 .rename_i t _ d x _;cases hx with
  | @cons _ ud _ _ hd hx=>
   cases hx with
   | @cons _ ux _ uxs hx _=>
    split at ha
    .rename_i e hu;split at ha
     .rename_i i hi;split at ha
      .rename_i m src hcs;cases hc:(Nat.beq src.length (m*i.size)&&src.all DP) with
       | false=>grind
       | true=>
        rw [hc,Ab] at ha;simp only [Ae] at hc;have hsl:=Aj hc.1;have hsc:=hc.2;obtain ⟨dV,eR⟩:=Vt (P:=P) h hcs hx hsl;split at ha
        .cases hd;simp only [Ad,Ac] at ha;obtain ⟨rfl,rfl⟩:=ha;obtain ⟨vs,hvs,hfc⟩:=eR 0 (AA _);have fR:(Builtin.firstCells i.size 0 ux).run P w=.ok vs w:=hfc w.drawn;refine ⟨ρ,_,w,?_,⟨.int _ _,h,Ev.refl _ _ _ _ _ h.dom⟩,rfl,rfl⟩;simp_all [Builtin.copy_,run_underlying,Zr,goInt]
        .rename_i dn dg;obtain ⟨hdn,ha'⟩:=H4 ha;clear ha;obtain rfl:=Aj hdn;simp only [Ad,Ac] at ha';obtain ⟨rfl,rfl⟩:=ha';obtain ⟨vs,hvs,hfc⟩:=eR 0 (AA _);have fR:(Builtin.firstCells i.size 0 ux).run P w=.ok vs w:=hfc w.drawn;have hv0:vs= #[]:=by
          have:vs.size=0:=by rw [<-hvs.1];simp
          grind
         subst hv0;cases hd with
         | datn=>refine ⟨ρ,_,w,?_,⟨.int _ _,h,Ev.refl _ _ _ _ _ h.dom⟩,rfl,rfl⟩;simp_all [Builtin.copy_,run_underlying,Zr,goInt]
         | datz=>refine ⟨ρ,_,w,?_,⟨.int _ _,h,Ev.refl _ _ _ _ _ h.dom⟩,rfl,rfl⟩;simp_all [Builtin.copy_,run_underlying,Zr,goInt,storeCells]
         | dat=>refine ⟨ρ,_,w,?_,⟨.int _ _,h,Ev.refl _ _ _ _ _ h.dom⟩,rfl,rfl⟩;simp_all [Builtin.copy_,run_underlying,Zr,goInt,storeCells]
        .rename_i b off len cap;split at ha
         .rename_i blk hm;dsimp only at ha;cases hf:(Nat.ble floor b&&Nat.ble (off+(Nat.min m len)*i.size) blk.cells.length) with
          | false=>grind
          | true=>
           rw [hf,Ab] at ha;simp only [Ae] at hf;have hfl:=Ak hf.1;have eO:=Ak hf.2;simp only [Ad,Ac] at ha;obtain ⟨rfl,rfl⟩:=ha;cases hd with
           | sl _ _ _ _ l c hρ eC hlc=>
            have hmin:Nat.min m len<=m:=Nat.min_le_left _ _;have hmul:Nat.min m len*i.size<=m*i.size:=AC _ hmin;obtain ⟨vs,hvs,hfc⟩:=eR (Nat.min m len) hmin;have fR:(Builtin.firstCells i.size (Nat.min m len) ux).run P w=.ok vs w:=hfc w.drawn;have eY:=VRel.cells_oneCell hvs (At.2 fun a ha=>At.1 hsc a (List.mem_of_mem_take ha));have hvl:(src.take (Nat.min m len*i.size)).length =Nat.min m len*i.size:=(by grind);obtain ⟨cur,el,hw,hcsz,dU⟩:=h.write hρ hm (off:=off) (cs:=src.take (Nat.min m len*i.size)) (vs:=vs.toList) (by simpa using hvs.1.symm) (by grind) (fun j h1 h2=>by simpa using hvs.2 j h1 (by grind));have hst:=run_storeCells_at P l.blk (l.base+off) el vs.toList 0 cur w hw (by grind) eY;rw [Bd] at hst;refine ⟨ρ,.int .i64 (Nat.min m len),w.setRow l.blk (cur.toList.take (l.base+off)++vs.toList++cur.toList.drop (l.base+off+vs.toList.length)).toArray,?_,⟨.int _ _,?_,Ev.ofWrite h hρ hfl _ _⟩,rfl,rfl⟩;all_goals simp_all [Builtin.copy_,run_underlying,Zr,goInt,St.withMem]
         .cases ha
        .cases ha
      .cases ha
     .cases ha
    .cases ha
 .cases ha
theorem u2f {mem:CD} {next:Nat} {w:World} (h:B7 ρ mem next w) {n sz:Nat} {g:Nat->List B2} {ux:Value} (hx:VRel ρ (.dat n g) ux) (hg: ∀i,i<n->(g i).length =sz) (hsz:1<=sz) {m:Nat} (hm:m<=n):
  (∀w,(Builtin.lenOf ux).run P w=.ok n w)/\ ∃vs:Array Value,Jq ρ (Ya m g) vs/\ ∀d,(Builtin.firstCells sz m ux).run P {w with drawn:=d}=.ok vs {w with drawn:=d}:=by
 cases hx with
 | datn=>
  obtain rfl:m=0:=by omega
  exact ⟨fun w=>by simp [Builtin.lenOf], #[],⟨by simp [Ya],fun i h1 h2=>by grind⟩,fun d=>by simp [Builtin.firstCells]⟩
 | datz=>
  obtain rfl:m=0:=by omega
  exact ⟨fun w=>by simp [Builtin.lenOf], #[],⟨by simp [Ya],fun i h1 h2=>by grind⟩,fun d=>by simp [Builtin.firstCells,loadCells,loadCellsFrom]⟩
 | dat _ _ blk base sz' cap val eC fW hv hh=>
  refine ⟨fun w=>by simp [Builtin.lenOf],?_⟩;have hg': ∀i,i<m->(g i).length =sz:=fun i hi=>hg i (by omega);have hl:=Ye m hg';have hdiv: ∀k,k<m*sz->k / sz<m/\k %sz<sz/\k / sz*sz+k %sz=k:=fun k hk=>
   ⟨A9 (by grind),Bq _ hsz,by rw [BC];exact Bt k sz⟩
  have fD: ∀(d k:Nat),k<m*sz->({w with drawn:=d}:World).cell? ((⟨blk,base,none⟩:Addr).add k)=some (val (k / sz) (k %sz)):=by
   intro d k hk;obtain ⟨hq,hj,e4⟩:=hdiv k hk;have hs:sz'=sz:=by grind
   obtain ⟨cs,el,fz,e1,e2⟩:=hh (k / sz) (k %sz) (by omega) (by omega);have e3:=h.old _ _ e1
   grind [Xo,World.cell?]
  refine ⟨_,⟨?_,?_⟩,fun d=>by simp only [Builtin.firstCells];exact run_loadCells _ _ _ (fun k=>val (k / sz) (k %sz)) (fD d)⟩
  .simp [hl]
  .intro k h1 h2;obtain ⟨hq,hj,e4⟩:=hdiv k (by grind);have hj':k %sz<(g (k / sz)).length :=by grind
   have hr:=Vf m hg' (k / sz) (k %sz) hq hj;rw [e4,Au h1,Au hj'] at hr;rw [Ag hr]
   simpa using (hv (k / sz) (k %sz) (by omega) hj').mono (Tt ρ)
theorem x6y {g:Nat->List B2} {sz n m:Nat} (hg: ∀i,i<n->(g i).length =sz) (hm:m<=n):(Ya n g).take (m*sz)=Ya m g:=by
 have:=Tm (off:=0) (len:=m) hg (by omega)
 grind
theorem v8a {get g:Nat->List B2} {sz N off n:Nat} (hl: ∀i,i<N->(get i).length =sz) (hg: ∀i,i<n->(g i).length =sz) (h:off+n<=N):
  (∀i,i<N->(Uq get off n g i).length =sz)/\Ya N (Uq get off n g)=(Ya N get).take (off*sz)++Ya n g++(Ya N get).drop (off*sz+n*sz):=by
 have h1: ∀i,i<N->(Uq get off n g i).length =sz:=fun i hi=>by
  unfold Uq;cases e:(Nat.ble off i&&Nat.ble (i+1) (off+n)) with
  | true=>
   simp only [Ae] at e;have e1:=Ak e.1;have e2:=Ak e.2
   grind
  | false=>exact hl _ hi
 refine ⟨h1,?_⟩;obtain ⟨r,rfl⟩: ∃r,N=off+(n+r):=⟨N - off - n,by omega⟩
 have e2:off*sz+n*sz=(off+n)*sz:=(AU _ _ _).symm;rw [x6y hl (by omega),e2];have e3:(Ya (off+(n+r)) get).drop ((off+n)*sz)=Ya r fun k=>get (off+n+k):=by
  rw [Tm (off:=off+n) (len:=r) hl (by omega)];rw [A2];have:=Ye _ hl
  grind
 rw [e3];unfold Ya;rw [List.range_add,List.range_add,List.flatMap_append,A8,List.flatMap_append,<-AM]
 congr 1
 .congr 1
  .refine Qx fun i hi=> ?_;have:=A6.1 hi;unfold Uq;rw [show Nat.ble off i=false from A3.2 fun e=>by have:=Ak e;omega];rfl
  .rw [List.flatMap_map];refine Qx fun i hi=> ?_;have:=A6.1 hi;unfold Uq;rw [AZ (show off<=off+i by omega),AZ (show off+i+1<=off+n by omega),Nat.add_sub_cancel_left];rfl
 .rw [List.map_map,List.flatMap_map];refine Qx fun i hi=> ?_;unfold Uq;show (bif Nat.ble off (off+(n+i))&&Nat.ble (off+(n+i)+1) (off+n) then _ else _)=_;rw [show Nat.ble (off+(n+i)+1) (off+n)=false from A3.2 fun e=>by have:=Ak e;omega,Bool.and_false,Aa]
  grind
theorem x5s {mem:CD} {next:Nat} {w:World} (h:B7 ρ mem next w) {sz:Nat} (hsz:1<=sz) {x:B2} {ux:Value} {m:Nat} {g:Nat->List B2} {o:Bool} (hc:w5n mem sz x=some (m,g,o)) (ho:o=true) (hx:VRel ρ x ux):
  (∀k,k<m->(g k).length =sz/\(g k).all DP=true)/\ ∀n,n<=m->(∀w,(Builtin.lenOf ux).run P w=.ok m w)/\ ∃vs:Array Value,Jq ρ (Ya n g) vs/\ ∀d,(Builtin.firstCells sz n ux).run P {w with drawn:=d}=.ok vs {w with drawn:=d}:=by
 subst ho;have part: ∀(b z off len c:Nat) (l:Ce) (blk:CG) (A:GS),ρ b=some l->Yr mem b=some blk->blk.arr=some A->len<=c->(Nat.beq z sz&&(Nat.beq A.sz sz&&(decide (off+len<=A.n)&&pd (∀i,i<len->(A.get (off+i)).length =sz/\(A.get (off+i)).all DP=true))))=true->
   (∀k,k<len->(A.get (off+k)).length =sz/\(A.get (off+k)).all DP=true)/\ ∀n,n<=len->(∀w,(Builtin.lenOf (.slice (some ⟨l.blk,l.base+off*z,none⟩) len c)).run P w=.ok len w)/\ ∃vs:Array Value,Jq ρ (Ya n fun k=>A.get (off+k)) vs/\ ∀d,(Builtin.firstCells sz n (.slice (some ⟨l.blk,l.base+off*z,none⟩) len c)).run P {w with drawn:=d}=.ok vs {w with drawn:=d}:=by
  intro b z off len c l blk A hρ hm hA dV ho;simp only [Ae,Ar] at ho;obtain ⟨k1,k2,k3,k4⟩:=ho;obtain rfl:=Aj k1;have k2:=Aj k2;have k4:= @Az _ (Classical.propDecidable _) k4;refine ⟨k4,fun n hn=> ?_⟩;obtain ⟨fG,fQ,eH⟩:=(h.blk b l blk hρ hm).arr A hA;rw [k2] at eH;have hlr:=Ye A.n eH;have hm2:(off+len)*z<=A.n*z:=AC _ k3;rw [AU] at hm2;have hpl:=Tm eH k3;have hL:(Ya len fun k=>A.get (off+k)).length =len*z:=Ye len fun i hi=>(k4 i hi).1;have hcs:Xp mem z (.sl b (off*z) len (.ex c))=some (len,Ya len fun k=>A.get (off+k)):=by simp_all [Xp,cut]
  obtain ⟨q1,q2⟩:=Vt (P:=P) h hcs (.sl b (off*z) len (.ex c) l c hρ rfl dV) hL
  grind [x6y]
 have none0: ∀(g:Nat->List B2) (n:Nat) (p:Option Addr) (c:Nat),n<=0->(∀w,(Builtin.lenOf (.slice p 0 c)).run P w=.ok 0 w)/\ ∃vs:Array Value,Jq ρ (Ya n g) vs/\ ∀d,(Builtin.firstCells sz n (.slice p 0 c)).run P {w with drawn:=d}=.ok vs {w with drawn:=d}:=by
  intro g n p c hn;obtain rfl:n=0:=by omega
  cases p with
  | none=>exact ⟨fun w=>by simp [Builtin.lenOf], #[],⟨by simp [Ya],fun i h1 h2=>by grind⟩,fun d=>by simp [Builtin.firstCells]⟩
  | some a=>refine ⟨fun w=>by simp [Builtin.lenOf],_,⟨?_,fun i h1 h2=>by simp [Ya] at h1⟩,fun d=>by simp only [Builtin.firstCells];exact run_loadCells _ _ _ (fun _=>undef) fun k hk=>by grind⟩;simp [Ya]
 unfold w5n at hc;split at hc
 .simp only [Ad,Ac] at hc;obtain ⟨rfl,rfl,_⟩:=hc;cases hx;exact ⟨fun k hk=>absurd hk (AL _),fun n hn=>none0 _ n none 0 hn⟩
 .rename_i n' g';simp only [Ad,Ac] at hc;obtain ⟨rfl,rfl,h0⟩:=hc;have hp:= @Az _ (Classical.propDecidable _) h0;exact ⟨hp,fun n hn=>u2f (P:=P) h hx (fun i hi=>(hp i hi).1) hsz hn⟩
 .split at hc
  .rename_i blk hm;split at hc
   .rename_i A hA;simp only [Ad,Ac] at hc;obtain ⟨rfl,rfl,h0⟩:=hc;cases hx with
    | sla _ _ _ _ _ l c hρ eC dV=>grind
    | slan=>exact ⟨fun k hk=>absurd hk (AL _),fun n hn=>none0 _ n none 0 hn⟩
   .cases hc
  .cases hc
 .split at hc
  .rename_i blk hm;split at hc
   .rename_i A hA;simp only [Ad,Ac] at hc;obtain ⟨rfl,rfl,h0⟩:=hc;cases hx with
    | slv _ _ _ _ l c hρ dV=>grind
    | slve=>exact ⟨fun k hk=>absurd hk (AL _),fun n hn=>none0 _ n _ _ hn⟩
    | slvn=>exact ⟨fun k hk=>absurd hk (AL _),fun n hn=>none0 _ n none 0 hn⟩
   .cases hc
  .cases hc
 .cases hc
theorem B7.reblk {mem:CD} {next:Nat} {w:World} (h:B7 ρ mem next w) {b:Nat} {blk blk':CG} (hm:Yr mem b=some blk) (hb: ∀l,ρ b=some l->Jd ρ w blk l->Jd ρ w blk' l):B7 ρ (Wb mem b (some blk')) next w:=by
 have iff: ∀c,(Yr (Wb mem b (some blk')) c).isSome =true->(Yr mem c).isSome =true:=fun c hc=>by
  grind [Uk]
 have hlt:b<next:=by
  rcases A7 b next with q | q
  .exact q
  .rw [h.bd b q] at hm;cases hm
 refine ⟨h.dom,fun c c' m m' e e' he hs hs'=>h.inj c c' m m' e e' he (iff c hs) (iff c' hs'),fun c m ac e hc=> ?_,h.old,fun c m e hs=>h.sep c m e (iff c hs),h.real,fun c hc=> ?_,h.ldom⟩
 .grind [Uk,blk]
 .rw [Zu _ _ (by omega)];exact h.bd c hc
theorem Ev.put {mem:CD} {next:Nat} {w:World} (h:B7 ρ mem next w) (floor:Nat) {b:Nat} {blk:CG} {A:GS} (hm:Yr mem b=some blk) (hA:blk.arr=some A) (o:Option CG):Ev ρ ρ floor mem next (Wb mem b o) next w w where
 ext:=B6.le_refl _
 new _ _:=rfl
 nxt:=Aq _
 unborn k _ e cs ty hk:=by
  grind [Zu]
 frame _ _ hk _:=hk
 fresh k m hk e:=by have:=h.dom k m e;omega
 size:=Aq _
 os:=rfl
 tape:=rfl
 output:=rfl
 still _ _:=rfl
theorem y4b {cx:CL} {st st':St} {w:World} (h:B7 ρ st.mem st.next w) {ts:Array TypeId} {type:TypeId} {us:Array Value} {b sz off len:Nat} {d x:B2} {xs:List B2} {v:B2} (ha:KB P cx st ts.toList b sz off len x=some (v,st')) (hob:st'.ob=true) (hx:Vi (VRel ρ) (d::x::xs) us.toList)
  (hd: ∀u,VRel ρ d u->(∃l c,ρ b=some l/\len<=c/\u=.slice (some ⟨l.blk,l.base+off*sz,none⟩) len c)\/(len=0/\ ∃p c,u=.slice p 0 c)):
  ∃ρ' u w',(Builtin.copy_ ts type us).run P w=.ok u w'/\EM ρ cx.floor st st' v w ρ' u w':=by
 obtain ⟨ts⟩:=ts;obtain ⟨us⟩:=us;simp only at ha hx;unfold KB at ha;split at ha
 .rename_i t _;cases hx with
  | @cons _ ud _ _ hd0 hx=>
   cases hx with
   | @cons _ ux _ uxs hx _=>
    split at ha
    .rename_i e hu;split at ha
     .rename_i i blk hi hm;split at ha
      .rename_i A m g o hA hcs;obtain ⟨eW,ha⟩:=H4 ha;simp only [Ae] at eW;have hfl:=Ak eW.1;have hsz:=Ak eW.2;simp only [An,Ac] at ha;obtain ⟨st1,ho,rfl,rfl⟩:=ha;obtain ⟨_,m2,n2,o4⟩:=UL ho;obtain ⟨hb,_⟩:=o4 hob;simp only [Ae,Ar] at hb;obtain ⟨k1,k2,k3,k4⟩:=hb;obtain rfl:=Aj k1;have k2:=Aj k2;have m2:st1.mem=Wb st.mem b (some ⟨Ya A.n (Uq A.get off (Nat.min m len) g),blk.ty,some ⟨A.sz,A.n,Uq A.get off (Nat.min m len) g⟩⟩):=m2;have n2:st1.next=st.next:=n2
       obtain ⟨hg,eR⟩:=x5s (P:=P) h hsz hcs k4 hx;have hmin:Nat.min m len<=m:=Nat.min_le_left _ _;have hmin2:Nat.min m len<=len:=Nat.min_le_right _ _;obtain ⟨dV,vs,hvs,hfc⟩:=eR (Nat.min m len) hmin;have fR:(Builtin.firstCells i.size (Nat.min m len) ux).run P w=.ok vs w:=hfc w.drawn;have hgl: ∀k,k<Nat.min m len->(g k).length =i.size:=fun k hk=>(hg k (by omega)).1;have hrl:=Ye (Nat.min m len) hgl;have eY:=VRel.cells_oneCell hvs (Y6 _ fun k hk=>(hg k (by omega)).2);have hbn:b<st.next:=by
        rcases A7 b st.next with q | q
        .exact q
        .rw [h.bd b q] at hm;cases hm
       have nothing:Nat.min m len=0->B7 ρ st1.mem st1.next w/\Ev ρ ρ cx.floor st.mem st.next st1.mem st1.next w w:=fun e0=>by
        rw [m2,n2,e0];have same: ∀k,Uq A.get off 0 g k=A.get k:=fun k=>by
         unfold Uq;cases e:(Nat.ble off k&&Nat.ble (k+1) (off+0)) with
         | true=>simp only [Ae] at e;have e1:=Ak e.1;have e2:=Ak e.2;omega
         | false=>rfl
        have same:Uq A.get off 0 g=A.get:=funext same;rw [same];refine ⟨?_,Ev.put h cx.floor hm hA _⟩;refine h.reblk hm fun l hρ hbk=> ?_;obtain ⟨fG,fQ,eH⟩:=hbk.arr A hA;refine ⟨by rw [hbk.n,fG],hbk.tot,fun B hB=> ?_,?_⟩
        .obtain rfl:=Ag hB;exact ⟨rfl,fQ,eH⟩
        .have:=hbk.cells
         grind
       rcases hd ud hd0 with ⟨l,c,hρ,hlc,rfl⟩ | ⟨rfl,p,c,rfl⟩
       .obtain ⟨fG,fQ,eH⟩:=(h.blk b l blk hρ hm).arr A hA;rw [k2] at eH;have hlr:=Ye A.n eH;have hfitN:off+Nat.min m len<=A.n:=(by omega);obtain ⟨c1,c2⟩:=v8a eH hgl hfitN;have hm3:(off+Nat.min m len)*i.size<=A.n*i.size:=AC _ hfitN;rw [AU] at hm3;obtain ⟨cur,el,hw,hcsz,dU⟩:=h.write hρ hm (off:=off*i.size) (cs:=Ya (Nat.min m len) g) (vs:=vs.toList) (by simpa using hvs.1.symm) (by grind) (fun j h1 h2=>by simpa using hvs.2 j h1 (by grind));have hst:=run_storeCells_at P l.blk (l.base+off*i.size) el vs.toList 0 cur w hw (by grind) eY;rw [Bd] at hst;rw [hrl,fG,<-c2] at dU;refine ⟨ρ,.int .i64 (Nat.min m len:Nat),w.setRow l.blk (cur.toList.take (l.base+off*i.size)++vs.toList++cur.toList.drop (l.base+off*i.size+vs.toList.length)).toArray,?_,.int _ _,?_,?_⟩
        .have hl2:=dV w;simp [Builtin.copy_,run_underlying hu,dV,Zr hi,fR,goInt,hst,-Array.length_toList,-List.append_assoc]
        .rw [m2,n2];have:=dU.setArr ⟨A.sz,A.n,.flat (Uq A.get off (Nat.min m len) g)⟩ rfl fQ (by rw [k2];exact c1);exact this
        grind [Ev.ofWrite]
       .have e0:Nat.min m 0=0:=Nat.min_zero m;obtain ⟨n1,n3⟩:=nothing e0;refine ⟨ρ,.int .i64 (Nat.min m 0:Nat),w,?_,.int _ _,n1,n3⟩;rw [e0] at fR hvs;have hv0:vs= #[]:=by
         have:vs.size=0:=by rw [<-hvs.1];simp [Ya]
         grind
        subst hv0;cases p with
        | none=>simp [Builtin.copy_,run_underlying hu,dV,Zr hi,fR,goInt]
        | some a=>simp [Builtin.copy_,run_underlying hu,dV,Zr hi,fR,goInt,storeCells]
      .cases ha
     .cases ha
    .cases ha
 .cases ha
theorem x9b {st st':St} {w:World} (h:B7 ρ st.mem st.next w) (floor:Nat) {ts:Array TypeId} {type:TypeId} {xs:List B2} {us:Array Value} {v:B2} (ha:Nt P floor st ts.toList xs=some (v,st')) (hx:Vi (VRel ρ) xs us.toList):
  ∃ρ' u w',(Builtin.clear_ ts type us).run P w=.ok u w'/\EM ρ floor st st' v w ρ' u w'/\st'.env=st.env/\st'.ob=st.ob:=by
 obtain ⟨ts⟩:=ts;obtain ⟨us⟩:=us;simp only at ha hx;unfold Nt at ha;have unit:VRel ρ (.tup []) (.tuple #[]):=.tup [] #[] rfl fun i h1 _=>by simp at h1
 split at ha
 .rename_i t _ d _;cases hx with
  | @cons _ ud _ _ hd _=>
   split at ha
   .rename_i e hu;split at ha
    .rename_i i zero hi hz;obtain ⟨i2,z,hi2,_,hzr,hzv⟩:=Wn (ρ:=ρ) hz;split at ha
     .cases hd;simp only [Ad,Ac] at ha;obtain ⟨rfl,rfl⟩:=ha;exact ⟨ρ,.tuple #[],w,by simp [Builtin.clear_,run_underlying hu],⟨unit,h,Ev.refl _ _ _ _ _ h.dom⟩,rfl,rfl⟩
     .rename_i b off len cap;cases hd with
      | sl _ _ _ _ l c hρ eC hlc=>
       rcases (by cases hl0:Nat.beq len 0 with
         | true=>rw [hl0] at ha;exact .inl ⟨rfl,ha⟩
         | false=>rw [hl0] at ha;exact .inr ⟨rfl,ha⟩:(Nat.beq len 0=true/\_)\/(Nat.beq len 0=false/\_)) with ⟨hl0,ha⟩ | ⟨hl0,ha⟩
       .have hl0:=Aj hl0;subst hl0;simp only [Ab,Ad,Ac] at ha;obtain ⟨rfl,rfl⟩:=ha;exact ⟨ρ,.tuple #[],w,by simp [Builtin.clear_,run_underlying hu],⟨unit,h,Ev.refl _ _ _ _ _ h.dom⟩,rfl,rfl⟩
       .obtain ⟨hc,ha⟩:=H4 ha;simp only [Ae] at hc;obtain ⟨⟨hzl,hzs⟩,hfl⟩:=hc;have hzl:=Aj hzl;have hfl:=Ak hfl;split at ha
        .rename_i blk hm;obtain ⟨eO,ha⟩:=H4 ha;have eO:=Ak eO;simp only [Ad,Ac] at ha;obtain ⟨rfl,rfl⟩:=ha;have hrl:(DJ len zero).length =len*i.size:=(by rw [Tq,hzl]);have fH:Jq ρ (DJ len zero) (Builtin.zeroCells z.cells len):=Sf hzr len (len*z.cells.size) (by rw [hzr.1]);have eY: ∀v∈(Builtin.zeroCells z.cells len).toList,v.oneCell'=true:=VRel.cells_oneCell fH (by
          grind [DJ])
         obtain ⟨cur,el,hw,hcsz,dU⟩:=h.write hρ hm (off:=off) (cs:=DJ len zero) (vs:=(Builtin.zeroCells z.cells len).toList) (by simpa using fH.1.symm) (by grind) (fun j h1 h2=>by simpa using fH.2 j h1 (by grind));have hst:=run_storeCells_at P l.blk (l.base+off) el (Builtin.zeroCells z.cells len).toList 0 cur w hw (by grind) eY;rw [Bd] at hst;have hne:len≠0:=fun e=>by simp_all
         refine ⟨ρ,.tuple #[],w.setRow l.blk (cur.toList.take (l.base+off)++(Builtin.zeroCells z.cells len).toList ++cur.toList.drop (l.base+off+(Builtin.zeroCells z.cells len).toList.length)).toArray,?_,⟨unit,?_,Ev.ofWrite h hρ hfl _ _⟩,rfl,rfl⟩;all_goals simp_all [Builtin.clear_,run_underlying,St.withMem]
        .cases ha
     .cases ha
    .cases ha
   .cases ha
 .cases ha
end
end Go.Am
end
