/- A part of a proof: several texts in one. -/
import Derived.Calls
import Derived.Orders
import Derived.KernelRfl
import Derived.DeepKeys
import Derived.Below
import Derived.Laws.Sem
import Derived.Laws.Tables
import Derived.Laws.CopyRow
import Derived.Laws.Cells
import Derived.Laws.Entries
import Derived.Laws.StructEq
import Derived.ChangeKeysEq
import Derived.WalkSpells
set_option maxRecDepth 1000000
set_option maxHeartbeats 8000000
set_option linter.unusedVariables false
set_option linter.unusedSimpArgs false
noncomputable section
namespace Go.Am
open IntKind (wrap)
theorem Aa:type_of%@Prod.mk.injEq:=@Prod.mk.injEq
theorem Ab:type_of%@Option.some.inj:=@Option.some.inj
theorem Ac:type_of%@Option.some.injEq:=@Option.some.injEq
theorem Ad:type_of%@Nat.le_of_ble_eq_true:=@Nat.le_of_ble_eq_true
theorem Ae:type_of%@Nat.eq_of_beq_eq_true:=@Nat.eq_of_beq_eq_true
theorem Af:type_of%@Option.map_eq_some_iff:=@Option.map_eq_some_iff
theorem Ag:type_of%@Bool.and_eq_true:=@Bool.and_eq_true
theorem Ah:type_of%@Nat.le_refl:=@Nat.le_refl
theorem Ai:type_of%@List.getElem?_eq_getElem:=@List.getElem?_eq_getElem
theorem Aj:type_of%@if_neg:=@if_neg
theorem Ak:type_of%@Nat.mul_le_mul_right:=@Nat.mul_le_mul_right
theorem Al:type_of%@Array.getElem?_eq_some_iff:=@Array.getElem?_eq_some_iff
theorem An:type_of%@decide_eq_true_eq:=@decide_eq_true_eq
theorem Ao:type_of%@List.all_eq_true:=@List.all_eq_true
theorem Ap:type_of%@if_pos:=@if_pos
theorem Aq:type_of%@cond_true:=@cond_true
theorem Ar:type_of%@Nat.not_lt_zero:=@Nat.not_lt_zero
theorem As:type_of%@Nat.add_mul:=@Nat.add_mul
theorem At:type_of%@List.mem_range:=@List.mem_range
theorem Au:type_of%@List.getElem?_eq_some_iff:=@List.getElem?_eq_some_iff
theorem Av:type_of%@Nat.lt_of_lt_of_le:=@Nat.lt_of_lt_of_le
theorem Aw:type_of%@Nat.ble_eq_true_of_le:=@Nat.ble_eq_true_of_le
theorem Ax:type_of%@cond_false:=@cond_false
theorem Ay:type_of%@Nat.le_trans:=@Nat.le_trans
theorem Az:type_of%@List.getElem_mem:=@List.getElem_mem
theorem AA:type_of%@Nat.add_assoc:=@Nat.add_assoc
theorem AB:type_of%@Bool.not_eq_true':=@Bool.not_eq_true'
theorem AC:type_of%@Array.length_toList:=@Array.length_toList
theorem AD:type_of%@Nat.zero_le:=@Nat.zero_le
theorem AE:type_of%@Nat.lt_succ_of_lt:=@Nat.lt_succ_of_lt
theorem AF:type_of%@Nat.lt_or_ge:=@Nat.lt_or_ge
theorem AG:type_of%@List.getElem?_map:=@List.getElem?_map
theorem AH:type_of%@List.mem_filter:=@List.mem_filter
theorem AI:type_of%@Array.toList_map:=@Array.toList_map
theorem AJ:type_of%@Nat.div_lt_of_lt_mul:=@Nat.div_lt_of_lt_mul
theorem AK:type_of%@Nat.lt_trichotomy:=@Nat.lt_trichotomy
theorem AL:type_of%@List.take_of_length_le:=@List.take_of_length_le
theorem AM:type_of%@Nat.ne_of_lt:=@Nat.ne_of_lt
theorem AN:type_of%@of_decide_eq_true:=@of_decide_eq_true
theorem AO:type_of%@List.mem_cons:=@List.mem_cons
theorem AP:type_of%@List.getElem_of_mem:=@List.getElem_of_mem
theorem AQ:type_of%@Nat.zero_add:=@Nat.zero_add
theorem AR:type_of%@Bool.or_eq_true:=@Bool.or_eq_true
theorem AS:type_of%@Nat.div_add_mod:=@Nat.div_add_mod
theorem AT:type_of%@List.length_map:=@List.length_map
theorem AU:type_of%@List.map_cons:=@List.map_cons
theorem AV:type_of%@Bool.eq_false_iff:=@Bool.eq_false_iff
theorem AW:type_of%@Bool.or_eq_false_iff:=@Bool.or_eq_false_iff
theorem AX:type_of%@List.getElem_append_right:=@List.getElem_append_right
theorem AY:type_of%@Array.getElem?_eq_getElem:=@Array.getElem?_eq_getElem
theorem AZ:type_of%@List.getElem_append_left:=@List.getElem_append_left
theorem A0:type_of%@decide_eq_false_iff_not:=@decide_eq_false_iff_not
theorem A1:type_of%@Option.bind_eq_some_iff:=@Option.bind_eq_some_iff
theorem A2:type_of%@List.mem_cons_self:=@List.mem_cons_self
theorem A3:type_of%@Nat.mod_lt:=@Nat.mod_lt
theorem A4:type_of%@List.cons.injEq:=@List.cons.injEq
theorem A5:type_of%@List.mem_singleton:=@List.mem_singleton
theorem A6:type_of%@List.ext_getElem?:=@List.ext_getElem?
theorem A7:type_of%@Nat.mul_comm:=@Nat.mul_comm
theorem A8:type_of%@Nat.add_zero:=@Nat.add_zero
theorem A9:type_of%@Nat.le_succ:=@Nat.le_succ
def bl (n m:Nat):List Bool:=Nat.rec (motive:=fun _=>Nat -> List Bool) (fun _=>[]) (fun _ r m=>Nat.beq (m%2) 1::r (m/2)) n m
def Cl :TypeId:=99999
def DZ :List Nat:=[]
def GX :List Nat:=[]
def CK :Nat:=99999
def Cj :TypeId:=99999
inductive Bj where
 | ex (k:Nat)
 | un (sz:Nat)
inductive Bw where
 | mi (l:List (List UInt8×Int))
 | mb (l:List (List UInt8×Bool))
 | it (s:List UInt8) (pos:Nat)
  | bld
  | mit (since:Nat) (seen:List Nat) (last:Nat)
inductive BA where
 | undef
 | bool (b:Bool)
 | int (k:IntKind) (n:Int)
 | str (s:List UInt8)
 | agg (cs:List BA)
 | tup (vs:List BA)
 | ptr (b off:Nat)
 | nilp
 | sl (b off len:Nat) (cap:Bj)
 | nils
 | fn (f:FuncId) (caps:List BA)
 | nilf
  | fnb (f:FuncId) (first:List BA)
 | ifc (t:TypeId) (v:BA)
 | nili
 | dat (len:Nat) (get:Nat->List BA)
 | dptr (cs:List BA)
  | sla (b sz off len:Nat) (cap:Bj)
  | epa (b sz i fo:Nat)
  | yld (j:Nat)
  | slv (b sz off len:Nat)
  | nnl (len:Nat) (get:Nat->List BA)
  | obj (o:Bw)
  | mapr (b:Nat)
  | ifb (b:Bool)
inductive T (α:Type) where
 | leaf
 | node (v:α) (l r:T α)
def T.get {α:Type} (d:α) (t:T α):Nat->α:=
 T.rec (motive:=fun _=>Nat->α) (fun _=>d)
  (fun v _ _ gl gr n=>Nat.rec (motive:=fun _=>α) v (fun m _=>bif Nat.beq (m %2) 0 then gl (m / 2) else gr (m / 2)) n) t
def T.setF {α:Type} (d:α) (v:α) (f:Nat):T α->Nat->T α:=
 Nat.rec (motive:=fun _=>T α->Nat->T α) (fun t _=>t)
  (fun _ rec t n=>
   T.casesOn (motive:=fun _=>T α) t
    (Nat.rec (motive:=fun _=>T α) (.node v .leaf .leaf)
     (fun m _=>bif Nat.beq (m %2) 0 then .node d (rec .leaf (m / 2)) .leaf else .node d .leaf (rec .leaf (m / 2))) n)
    (fun u l r=>Nat.rec (motive:=fun _=>T α) (.node v l r)
     (fun m _=>bif Nat.beq (m %2) 0 then .node u (rec l (m / 2)) r else .node u l (rec r (m / 2))) n)) f
def T.set {α:Type} (d:α) (t:T α) (n:Nat) (v:α):T α:=T.setF d v (n+1) t n
inductive BQ where
 | flat (g:Nat->List BA)
 | one (r:Nat) (cs:List BA) (b:BQ)
 | alt (c:Nat->Bool) (a b:BQ)
def BQ.get :BQ->Nat->List BA
 | .flat g=>g
 | .one r cs b=>fun k=>bif Nat.beq k r then cs else b.get k
 | .alt c a b=>fun k=>bif c k then a.get k else b.get k
instance : Coe (Nat->List BA) BQ:=⟨.flat⟩
structure B2 where
 sz:Nat
 n:Nat
 rw:BQ
def B2.get (A:B2):Nat->List BA:=A.rw.get
def rows (n:Nat) (get:Nat->List BA):List BA:=(List.range n).flatMap get
structure BG where
 cells:List BA
 ty:TypeId
 arr:Option B2
def BG.isObj :BG->Bool
 | ⟨.obj _::_,_,none⟩=>true
 | _=>false
abbrev BI :=T (Option BG)
def Zb (m:BI) (b:Nat):Option BG:=T.get none m b
def Zt (m:BI) (b:Nat) (o:Option BG):BI:=T.set none m b o
structure BK where
 n:Nat
 floor:Nat
 sym:Bool
structure St where
 env:T BA
 mem:BI
 next:Nat
 orc:List Bool
 ob:Bool
def St.tmp :St->Nat->BA
 | ⟨env,_,_,_,_⟩,t=>T.get .undef env t
def St.put (cx:BK):St->Option Tmp->BA->Option St
 | ⟨env,mem,next,orc,ob⟩,some d,v=>bif Nat.ble (d+1) cx.n then some ⟨T.set .undef env d v,mem,next,orc,ob⟩ else none
 | st,none,_=>some st
def St.withMem :St->BI->St
 | ⟨env,_,next,orc,ob⟩,m=>⟨env,m,next,orc,ob⟩
def St.withEnv :St->T BA->St
 | ⟨_,mem,next,orc,ob⟩,e=>⟨e,mem,next,orc,ob⟩
def St.owe (cx:BK):St->Bool->Option St
 | ⟨env,mem,next,orc,ob⟩,b=>bif cx.sym then some ⟨env,mem,next,orc,b&&ob⟩ else bif b then some ⟨env,mem,next,orc,ob⟩ else none
def St.test :St->Bool->Bool×St
 | ⟨env,mem,next,[],ob⟩,b=>(b,⟨env,mem,next,[],ob⟩)
 | ⟨env,mem,next,e::r,ob⟩,b=>(e,⟨env,mem,next,r,(b == e)&&ob⟩)
def St.nextO :St->Bool
 | ⟨_,_,_,[],_⟩=>false
 | ⟨_,_,_,e::_,_⟩=>e
def St.dropO :St->St
 | ⟨env,mem,next,orc,ob⟩=>⟨env,mem,next,orc.tail,ob⟩
def Vw :Value->BA
 | .bool b=>.bool b
 | .int k n=>.int k n
 | .string s=>.str s.data.toList
 | .pointer none=>.nilp
 | .slice none 0 0=>.nils
 | .nilFunc =>.nilf
 | .nilIface =>.nili
 | _=>.undef
def Cf :Value->BA
 | .agg cs=>.agg (cs.toList.map Vw)
 | v=>Vw v
def St.eval (st:St):Operand->BA
 | .tmp t=>st.tmp t
 | .const v=>Cf v
 | .global _=>.undef
 | .func f=>.fn f []
def BA.cells :BA->List BA
 | .agg cs=>cs
 | v=>[v]
def Vp :BA->Bool
 | .undef | .tup _ | .obj _=>false
 | _=>true
def KB :BA->Bool
 | .slv _ _ _ _ | .sl _ _ _ _ | .sla _ _ _ _ _ | .ptr _ _ | .epa _ _ _ _ | .nils | .mapr _ | .obj _=>false
 | _=>true
def Kp :BA->Bool
 | .undef | .agg _ | .tup _ | .obj _=>false
 | _=>true
def F5 (P:Program) (t:TypeId):Option Bool:=
 match P.underlying t with
 | some (.struct _) | some (.array _ _)=>some true
 | some _=>some false
 | none=>none
def cut (cs:List BA) (off n:Nat):Option (List BA):=
 let p:=(cs.drop off).take n
 bif Nat.beq p.length n then some p else none
def We (P:Program) (t:TypeId) (cs:List BA) (off:Nat):Option BA:=
 match F5 P t,P.info? t with
 | some true,some i=>(cut cs off i.size).map .agg
 | some false,some _=>cs[off]?
 | _,_=>none
def Vj (rec:TypeId->BA->BA->Option Bool) (P:Program) (xs ys:List BA):List (TypeId×Nat)->Option Bool
 | []=>some true
 | (t,off)::r=>
  match We P t xs off,We P t ys off with
  | some a,some b=>match rec t a b,Vj rec P xs ys r with
   | some e,some f=>some (e&&f)
   | _,_=>none
  | _,_=>none
def Cn (P:Program):Nat->TypeId->BA->BA->Option Bool
 | 0,_,_,_=>none
 | d+1,t,x,y=>
  match P.underlying t with
  | some .bool =>match x,y with
   | .bool a,.bool b=>some (a == b)
   | _,_=>none
  | some (.int _)=>match x,y with
   | .int k a,.int k' b=>if k=k' then some (a == b) else none
   | _,_=>none
  | some .string =>match x,y with
   | .str a,.str b=>some (a == b)
   | _,_=>none
  | some (.array n e)=>match x,y,P.info? e with
   | .agg xs,.agg ys,some i=>Vj (Cn P d) P xs ys ((List.range n).map fun j=>(e,j*i.size))
   | _,_,_=>none
  | some (.struct fs)=>match x,y with
   | .agg xs,.agg ys=>
    bif P.stoodInHeld t then none else bif fs.toList.any (fun f=>f.name == "_") then none else
    Vj (Cn P d) P xs ys (fs.toList.map fun f=>(f.type,f.offset))
   | _,_=>none
  | _=>none
def Cq (op:BinOp) (k:IntKind) (a b:Int):Option Int:=
 match op with
 | .and =>some (k.wrap ((BitVec.ofInt k.bits a)&&& (BitVec.ofInt k.bits b)).toNat)
 | .or =>some (k.wrap ((BitVec.ofInt k.bits a)||| (BitVec.ofInt k.bits b)).toNat)
 | .xor =>some (k.wrap ((BitVec.ofInt k.bits a) ^^^ (BitVec.ofInt k.bits b)).toNat)
 | .andNot =>some (k.wrap ((BitVec.ofInt k.bits a)&&& ~~~(BitVec.ofInt k.bits b)).toNat)
 | _=>none
def Co (P:Program) (op:BinOp) (t:TypeId) (x y:BA):Option (BA×Bool):=
 match x,y with
 | .int k a,.int k' b=>
  match op with
  | .shl =>some (.int k (k.wrap (a*2 ^ (min b.toNat k.bits))),!decide (b<0))
  | .shr =>some (.int k (a.fdiv (2 ^ (min b.toNat k.bits))),!decide (b<0))
  | _=>if k=k' then
    match op with
    | .add =>some (.int k (k.wrap (a+b)),true)
    | .sub =>some (.int k (k.wrap (a - b)),true)
    | .mul =>some (.int k (k.wrap (a*b)),true)
    | .quo =>some (.int k (k.wrap (a.tdiv b)),!decide (b=0))
    | .rem =>some (.int k (a.tmod b),!decide (b=0))
    | .eql =>some (.bool (a == b),true)
    | .neq =>some (.bool (a != b),true)
    | .lss =>some (.bool (decide (a<b)),true)
    | .leq =>some (.bool (decide (a<=b)),true)
    | .gtr =>some (.bool (decide (a>b)),true)
    | .geq =>some (.bool (decide (a>=b)),true)
    | op=>(Cq op k a b).map fun n=>(.int k n,true)
   else none
 | .bool a,.bool b=>match P.underlying t with
  | some .bool =>match op with
   | .eql =>some (.bool (a == b),true)
   | .neq =>some (.bool (!(a == b)),true)
   | _=>none
  | _=>none
 | .agg a,.agg b=>
  bif P.eqGuardType P.depth t then none else
  match op with
  | .eql =>(Cn P 30 t (.agg a) (.agg b)).map fun r=>(.bool r,true)
  | .neq =>(Cn P 30 t (.agg a) (.agg b)).map fun r=>(.bool (!r),true)
  | _=>none
 | .sl _ _ _ _,.nils =>match P.underlying t with
  | some (.slice _)=>match op with
   | .eql =>some (.bool false,true)
   | .neq =>some (.bool true,true)
   | _=>none
  | _=>none
 | .nnl _ _,.nils =>match P.underlying t with
  | some (.slice _)=>match op with
   | .eql =>some (.bool false,true)
   | .neq =>some (.bool true,true)
   | _=>none
  | _=>none
 | .nils,.nils =>match P.underlying t with
  | some (.slice _)=>match op with
   | .eql =>some (.bool true,true)
   | .neq =>some (.bool false,true)
   | _=>none
  | _=>none
 | .str a,.str b=>match op with
  | .eql =>some (.bool (a == b),true)
  | .neq =>some (.bool (!(a == b)),true)
  | .add =>some (.str (a++b),Nat.ble (a.length+b.length) 9223372036854775807)
  | .lss =>some (.bool (Op.bytesLess a b),true)
  | .leq =>some (.bool (Op.bytesLess a b||a == b),true)
  | .gtr =>some (.bool (!(Op.bytesLess a b||a == b)),true)
  | .geq =>some (.bool (!Op.bytesLess a b),true)
  | _=>none
 | _,_=>none
def G0 (op:UnOp) (x:BA):Option BA:=
 match op,x with
 | .neg,.int k n=>some (.int k (k.wrap (0 - n)))
 | .xor,.int k n=>(Cq .xor k (if k.signed then -1 else k.max) n).map (.int k)
 | .not,.bool b=>some (.bool !b)
 | _,_=>none
def Bu (place:Nat->Option (Nat×Nat)) (cells:List BA):List (Nat×BA)->Option (List BA)
 | []=>some cells
 | (i,v)::r=>
  match place i with
  | none=>none
  | some (off,size)=>
   bif Vp v&&Nat.beq v.cells.length size&&Nat.ble (off+size) cells.length then
    Bu place (cells.take off++v.cells++cells.drop (off+size)) r
   else none
def Xf (P:Program) (t:TypeId):Option (List BA):=
 match P.info? t with
 | some i=>i.zero.map fun v=>(Cf v).cells
 | none=>none
def Xm (P:Program):List Field->Option (List (Nat×Nat))
 | []=>some []
 | f::r=>match P.info? f.type,Xm P r with
  | some i,some l=>some ((f.offset,i.size)::l)
  | _,_=>none
def Fp (P:Program) (t:TypeId) (parts:List (Nat×BA)):Option BA:=
 match P.underlying t,Xf P t with
 | some (.struct fs),some zero=>match Xm P fs.toList with
  | some pl=>(Bu (pl[·]?) zero parts).map .agg
  | none=>none
 | some (.array _ e),some zero=>match P.info? e with
  | some i=>(Bu (fun j=>some (j*i.size,i.size)) zero parts).map .agg
  | none=>none
 | _,_=>none
def Jo (P:Program) (t:TypeId) (x i:BA):Option (BA×Bool):=
 match P.underlying t,x,i with
 | some (.array len e),.ptr b off,.int _ i=>(P.info? e).map fun s=>(.ptr b (off+i.toNat*s.size),decide (0<=i/\i<len))
 | some (.array len e),.dptr cs,.int _ i=>(P.info? e).map fun s=>(.dptr (cs.drop (i.toNat*s.size)),decide (0<=i/\i<len))
 | some (.slice e),.sl b off len _,.int _ i=>(P.info? e).map fun s=>(.ptr b (off+i.toNat*s.size),decide (0<=i/\i<len))
 | some (.slice e),.dat len get,.int _ i=>(P.info? e).map fun s=>(.dptr (get i.toNat),decide (0<=i/\i<len)&&Nat.beq (get i.toNat).length s.size)
 | some (.slice e),.sla b sz off len _,.int _ i=>(P.info? e).map fun s=>(.epa b sz (off+i.toNat) 0,decide (0<=i/\i<len)&&Nat.beq s.size sz)
 | some (.slice e),.slv b sz off len,.int _ i=>(P.info? e).map fun s=>(.epa b sz (off+i.toNat) 0,decide (0<=i/\i<len)&&Nat.beq s.size sz)
 | some (.array len e),.epa b sz r fo,.int _ i=>(P.info? e).map fun s=>(.epa b sz r (fo+i.toNat*s.size),decide (0<=i/\i<len))
 | _,_,_=>none
def Jr (P:Program) (t:TypeId) (x:BA) (f:Nat):Option BA:=
 match P.underlying t with
 | some (.struct fs)=>match fs[f]? with
  | some f=>match P.info? f.type with
   | some i=>bif Nat.beq i.size 0 then none else match x with
    | .ptr b off=>some (.ptr b (off+f.offset))
    | .dptr cs=>some (.dptr (cs.drop f.offset))
    | .epa b sz r fo=>some (.epa b sz r (fo+f.offset))
    | _=>none
   | none=>none
  | none=>none
 | _=>none
def Fq (P:Program) (t:TypeId) (x:BA) (f:Nat):Option BA:=
 match P.underlying t,x with
 | some (.struct fs),.agg cs=>match fs[f]? with
  | some f=>We P f.type cs f.offset
  | none=>none
 | _,_=>none
def D0 (s:List UInt8) (n:Nat):Int:=((s.getD n 0).toNat :Int)
def Fr (P:Program) (t:TypeId) (x i:BA):Option (BA×Bool):=
 match P.underlying t,x,i with
 | some (.array len e),.agg cs,.int _ i=>
  match P.info? e with
  | some s=>(We P e cs (i.toNat*s.size)).map fun v=>(v,decide (0<=i/\i<len))
  | none=>none
 | some .string,.str s,.int _ i=>some (.int .u8 (D0 s i.toNat),decide (0<=i/\i<s.length))
 | _,_,_=>none
def DX (x y:Int):Int:=if y<x then y else x
def DY (x y:Int):Int:=if y>x then y else x
def Qj (k:IntKind) (x:Int):List BA->Option Int
 | []=>some x
 | .int _ y::r=>Qj k (DX x y) r
 | _=>none
def Qq (k:IntKind) (x:Int):List BA->Option Int
 | []=>some x
 | .int _ y::r=>Qq k (DY x y) r
 | _=>none
def Ko (P:Program) (b:Builtin) (argTypes:List TypeId) (args:List BA):Option BA:=
 match b,argTypes,args with
 | .len,t::_,x::_=>match P.underlying t,x with
  | some .string,.str s=>some (.int .i64 s.length)
  | some (.array n _),_=>some (.int .i64 n)
  | some (.slice _),.sl _ _ n _=>some (.int .i64 n)
  | some (.slice _),.nils =>some (.int .i64 0)
  | some (.slice _),.dat n _=>some (.int .i64 n)
  | some (.slice _),.sla _ _ _ n _=>some (.int .i64 n)
  | some (.slice _),.slv _ _ _ n=>some (.int .i64 n)
  | _,_=>none
 | .min,_,.int k x::r=>(Qj k x r).map (.int k)
 | .max,_,.int k x::r=>(Qq k x r).map (.int k)
 | .cap,t::_,x::_=>match P.underlying t,x with
  | some (.slice _),.sl _ _ _ (.ex c)=>some (.int .i64 c)
  | some (.slice _),.nils =>some (.int .i64 0)
  | _,_=>none
 | _,_,_=>none
def Wa (st:Operand->BA) (o:Option Operand) (d:Nat):Option (Nat×Bool):=
 match o with
 | none=>some (d,true)
 | some x=>match st x with
  | .int _ i=>some (i.toNat,decide (0<=i))
  | _=>none
def pd (p:Prop):Bool:= @decide p (Classical.propDecidable p)
def DU (b:Bool) (p:Prop):Bool:=b||pd p
def DV (n:Nat) (g:Nat->List BA) (sz:Nat):Bool:=DU ((List.range n).all fun i=>Nat.beq (g i).length sz) (∀i,i<n->(g i).length =sz)
def CV (sz n:Nat) (g:Nat->List BA):Bool:=DU ((List.range n).all fun i=>Nat.beq (g i).length sz&&(g i).all Kp) (∀i,i<n->(g i).length =sz/\(g i).all Kp=true)
def Ft (P:Program) (ev:Operand->BA) (t:TypeId) (x:Operand) (lo hi mx:Option Operand):Option (BA×Bool):=
 match P.underlying t,ev x with
 | some (.slice e),.nils =>
  match P.info? e,mx,Wa ev lo 0,Wa ev hi 0 with
  | some _,none,some (l,a),some (h,b)=>some (.nils,a&&b&&Nat.beq l 0&&Nat.beq h 0)
  | _,_,_,_=>none
 | some (.slice e),.sl b off len (.ex c)=>
  match P.info? e,Wa ev mx c,Wa ev hi len,Wa ev lo 0 with
  | some s,some (m,x1),some (h,x2),some (l,x3)=>
   if mx.isSome&&hi.isNone then none else
   some (.sl b (bif Nat.beq m l then off else off+l*s.size) (h - l) (.ex (m - l)),x1&&x2&&x3&&Nat.ble m c&&Nat.ble h m&&Nat.ble l h)
  | _,_,_,_=>none
 | some (.slice e),.sl b off len (.un z)=>
  match P.info? e,mx,Wa ev hi len,Wa ev lo 0 with
  | some s,none,some (h,x2),some (l,x3)=>
   bif Nat.beq z s.size then
    bif Nat.beq h l&&Nat.ble 1 l then some (.dat 0 (fun _=>[]),x2&&x3&&Nat.ble h len) else
    some (.sl b (off+l*s.size) (h - l) (.un z),x2&&x3&&Nat.ble h len&&Nat.ble l h&&(Nat.ble (l+1) len||Nat.beq l 0))
   else none
  | some s,some _,some (h,x2),some (l,x3)=>
   match Wa ev mx 0 with
   | some (m,x1)=>
    bif Nat.beq z s.size&&hi.isSome then
     some (.sl b (bif Nat.beq m l then off else off+l*s.size) (h - l) (.ex (m - l)),x1&&x2&&x3&&Nat.ble m len&&Nat.ble h m&&Nat.ble l h)
    else none
   | none=>none
  | _,_,_,_=>none
 | some (.slice e),.sla b sz off len (.un z)=>
  match P.info? e,mx,Wa ev hi len,Wa ev lo 0 with
  | some s,none,some (h,x2),some (l,x3)=>
   bif Nat.beq z s.size&&Nat.beq sz z then
    bif lo.isSome then some (.slv b sz (off+l) (h - l),x2&&(x3&&(decide (h<=len)&&decide (l<=h)))) else
    some (.sla b sz (off+l) (h - l) (.un z),x2&&(x3&&(decide (h<=len)&&(decide (l<=h)&&(decide (l<len)||Nat.beq l 0)))))
   else none
  | _,_,_,_=>none
 | some (.slice e),.slv b sz off len=>
  match P.info? e,mx,Wa ev hi len,Wa ev lo 0 with
  | some s,none,some (h,x2),some (l,x3)=>
   bif Nat.beq sz s.size then some (.slv b sz (off+l) (h - l),x2&&(x3&&(decide (h<=len)&&decide (l<=h)))) else none
  | _,_,_,_=>none
 | some (.slice e),.dat len get=>
  match P.info? e,mx,Wa ev hi len,Wa ev lo 0 with
  | some s,none,some (h,x2),some (l,x3)=>some (.dat (h - l) (fun k=>get (l+k)),x2&&(x3&&(decide (h<=len)&&(decide (l<=h)&&DV len get s.size))))
  | _,_,_,_=>none
 | some (.array n e),.ptr b off=>
  match P.info? e,Wa ev mx n,Wa ev hi n,Wa ev lo 0 with
  | some s,some (m,x1),some (h,x2),some (l,x3)=>
   if mx.isSome&&hi.isNone then none else
   some (.sl b (bif Nat.beq m l then off else off+l*s.size) (h - l) (.ex (m - l)),x1&&x2&&x3&&Nat.ble m n&&Nat.ble h m&&Nat.ble l h)
  | _,_,_,_=>none
 | some .string,.str s=>
  match mx,Wa ev hi s.length,Wa ev lo 0 with
  | none,some (h,x2),some (l,x3)=>some (.str ((s.drop l).take (h - l)),x2&&(x3&&(decide (h<=s.length)&&decide (l<=h))))
  | _,_,_=>none
 | _,_=>none
def Xg (P:Program) (op:Op) (ev:Operand->BA):Option (BA×Bool):=
 match op with
 | .move x | .assign x=>some (ev x,true)
 | .pick c a b=>match ev c with
  | .bool c=>some (bif c then ev a else ev b,true)
  | _=>none
 | .build t parts=>(Fp P t (parts.toList.map fun p=>(p.1,ev p.2))).map (·,true)
 | .nilCheck x=>match ev x with
  | .ptr b o=>some (.ptr b o,true)
  | .epa b sz r fo=>some (.epa b sz r fo,true)
  | .dptr cs=>some (.dptr cs,true)
  | .fn f c=>some (.fn f c,true)
  | .fnb f c=>some (.fnb f c,true)
  | _=>none
 | .binOp op t x y _=>Co P op t (ev x) (ev y)
 | .unOp op _ x=>(G0 op (ev x)).map (·,true)
 | .convert src dst x=>match P.underlying src,P.underlying dst,ev x with
  | some _,some (.int k),.int _ n=>some (.int k (k.wrap n),true)
  | _,_,_=>none
 | .makeInterface t x=>match P.underlying t with
  | some (.interface _) | none=>none
  | some _=>some (.ifc t (ev x),true)
 | .makeFunc (.func f) first captured=>bif first.isEmpty then some (.fn f (captured.toList.map ev),true) else bif captured.isEmpty then some (.fnb f (first.toList.map ev),true) else none
 | .fieldAddr t x f=>(Jr P t (ev x) f).map (·,true)
 | .field t x f=>(Fq P t (ev x) f).map (·,true)
 | .indexAddr t x i=>Jo P t (ev x) (ev i)
 | .index t x i=>Fr P t (ev x) (ev i)
 | .extract x i=>match ev x with
  | .tup vs=>(vs[i]?).map (·,true)
  | _=>none
 | .slice t x lo hi mx=>Ft P ev t x lo hi mx
 | .call {callee:=.builtin b,args,argTypes}=>(Ko P b argTypes.toList (args.toList.map ev)).map (·,true)
 | _=>none
def CT (P:Program) (m:BI) (t:TypeId) (x:BA):Option BA:=
 match x with
 | .ptr b off=>match Zb m b with
  | some blk=>bif blk.isObj then none else We P t blk.cells off
  | none=>none
 | .dptr cs=>We P t cs 0
 | _=>none
def C6 (P:Program) (m:BI) (t:TypeId) (x:BA):Option (BA×Bool):=
 match x with
 | .epa b sz r fo=>match Zb m b with
  | some blk=>match blk.arr with
   | some A=>(We P t (A.get r) fo).map (·,Nat.beq A.sz sz&&decide (r<A.n))
   | none=>none
  | none=>none
 | x=>(CT P m t x).map (·,true)
def Vh :BQ->Nat->St->List BA×St
 | .flat g,r,st=>(g r,st)
 | .one r0 cs b,r,st=>match st.test (Nat.beq r r0) with
  | (e,st)=>bif e then (cs,st) else Vh b r st
 | .alt c a b,r,st=>match st.test (c r) with
  | (e,st)=>bif e then Vh a r st else Vh b r st
def Fs (P:Program) (st:St) (t:TypeId) (x:BA):Option (BA×Bool×St):=
 match x with
 | .epa b sz r fo=>match Zb st.mem b with
  | some blk=>match blk.arr with
   | some A=>match Vh A.rw r st with
    | (cs,st1)=>(We P t cs fo).map (·,Nat.beq A.sz sz&&decide (r<A.n),st1)
   | none=>none
  | none=>none
 | x=>(CT P st.mem t x).map (·,true,st)
def C7 (P:Program) (floor:Nat) (st:St) (t:TypeId) (x v:BA):Option St:=
 match x,P.info? t with
 | .ptr b off,some i=>
  let cs:=v.cells
  bif Nat.ble floor b&&Nat.beq cs.length i.size&&Vp v&&cs.all Kp then
   match Zb st.mem b with
   | some blk=>
    bif !blk.isObj&&Nat.ble (off+i.size) blk.cells.length then
     some (st.withMem (Zt st.mem b (some ⟨blk.cells.take off++cs++blk.cells.drop (off+i.size),blk.ty,none⟩)))
    else none
   | none=>none
  else none
 | _,_=>none
def Vc (get:Nat->List BA) (r fo:Nat) (cs:List BA):Nat->List BA:=fun k=>bif Nat.beq k r then (get r).take fo++cs++(get r).drop (fo+cs.length) else get k
def setRow (A:B2) (r fo:Nat) (cs:List BA) (st:St):Option (BQ×St):=
 match A.rw with
 | .flat g=>bif cs.all KB then some (.flat (Vc g r fo cs),st) else bif Nat.beq fo 0&&Nat.beq cs.length A.sz then some (.one r cs (.flat g),st) else some (.one r ((g r).take fo++cs++(g r).drop (fo+cs.length)) (.flat g),st)
 | .one r0 c0 b=>match st.test (Nat.beq r r0) with
  | (e,st1)=>bif e&&Nat.beq fo 0&&Nat.beq cs.length A.sz then some (.one r0 cs b,st1) else bif e then some (.one r0 (c0.take fo++cs++c0.drop (fo+cs.length)) b,st1) else none
 | .alt c a b=>bif Nat.beq fo 0&&Nat.beq cs.length A.sz then some (.one r cs (.alt c a b),st) else none
def Uf (P:Program) (cx:BK) (st:St) (t:TypeId) (x v:BA):Option St:=
 match x,P.info? t with
 | .epa b sz r fo,some i=>
  bif Nat.ble cx.floor b&&Nat.beq v.cells.length i.size&&Vp v&&v.cells.all Kp&&Nat.ble (fo+i.size) sz then
   match Zb st.mem b with
   | some blk=>match blk.arr with
    | some A=>match setRow A r fo v.cells st with
     | some (rw,st1)=>(st1.withMem (Zt st1.mem b (some ⟨rows A.n rw.get,blk.ty,some ⟨A.sz,A.n,rw⟩⟩))).owe cx (Nat.beq A.sz sz&&decide (r<A.n))
     | none=>none
    | none=>none
   | none=>none
  else none
 | _,_=>none
def Um :St->List BA->TypeId->St
 | ⟨env,mem,next,orc,ob⟩,cells,ty=>⟨env,Zt mem next (some ⟨cells,ty,none⟩),next+1,orc,ob⟩
def BP (n:Nat) (l:List BA):List BA:=(List.replicate n l).flatten
def Xx (P:Program) (u:Bool) (st:St) (t:TypeId) (len:Nat) (parts:List (Nat×BA)):Option (BA×St):=
 match P.underlying t with
 | some (.slice e)=>match P.info? e,Xf P e with
  | some i,some zero=>
   bif Nat.ble (len*i.size) 16777216&&Nat.beq zero.length i.size then
    match Bu (fun j=>some (j*i.size,i.size)) (BP len zero) parts with
    | some cells=>some (.sl st.next 0 len (bif u&&Nat.beq cells.length (len*i.size) then .un i.size else .ex len),Um st cells e)
    | none=>none
   else none
  | _,_=>none
 | _=>none
def Yn (P:Program) (st:St) (t:TypeId) (l c:BA):Option (BA×St):=
 match P.underlying t,l,c with
 | some (.slice e),.int _ l,.int _ c=>match P.info? e,Xf P e with
  | some i,some zero=>
   bif Nat.beq zero.length i.size&&(decide (0<=l)&&decide (l<=c)&&decide (c*i.bytes<=1099511627776)&&decide (c<=1099511627776)) then
    some (.sl st.next 0 l.toNat (.ex c.toNat),Um st (BP c.toNat zero) e)
   else none
  | _,_=>none
 | _,_,_=>none
def Xy (P:Program) (cx:BK) (st:St) (t:TypeId) (l c:BA):Option (BA×St):=
 match P.underlying t,l,c with
 | some (.slice e),.int _ l,.int _ c=>match P.info? e,Xf P e with
  | some i,some zero=>
   bif Nat.beq zero.length i.size&&Nat.ble 1 i.size then
    (St.owe cx (match Um st (rows c.toNat fun _=>zero) e with
      | ⟨env,_,next,orc,ob⟩=>⟨env,Zt st.mem st.next (some ⟨rows c.toNat fun _=>zero,e,some ⟨i.size,c.toNat,.flat fun _=>zero⟩⟩),next,orc,ob⟩)
     (decide (0<=l)&&decide (l<=c)&&decide (c*i.bytes<=1099511627776)&&decide (c<=1099511627776))).map (.sla st.next i.size 0 l.toNat (.un i.size), ·)
   else none
  | _,_=>none
 | _,_,_=>none
def Zd (m:BI) (sz:Nat):BA->Option (Nat×List BA)
 | .nils =>some (0,[])
 | .sl b off len _=>match Zb m b with
  | some blk=>bif blk.isObj then none else (cut blk.cells off (len*sz)).map (len, ·)
  | none=>none
 | _=>none
def B1 :Nat:=1099511627776
def Yo (m:BI) (sz:Nat) (zero:List BA) (ut:TypeDesc) (x:BA):Option (Nat×List BA):=
 match ut with
 | .int _=>match x with
  | .int _ n=>bif decide (0<=n) then some (n.toNat,BP n.toNat zero) else none
  | _=>none
 | _=>Zd m sz x
def Wx (P :Program) (floor:Nat) (st:St) (argTypes:List TypeId) (args:List BA):Option (BA×St):=
 match argTypes,args with
 | t :: u ::_,s::x::_=>match P.underlying t,P.underlying u with
  | some (.slice e),some ut=>match P.info? e,Xf P e with
   | some i,some zero=>match Yo st.mem i.size zero ut x with
    | some (n,new)=>
     bif Nat.beq zero.length i.size&&Nat.beq new.length (n*i.size)&&Nat.ble 1 i.size&&new.all Kp then
     match s with
     | .nils =>
      bif Nat.beq n 0 then some (.nils,st) else
      bif Nat.ble ((n+1)*(i.bytes+1)) B1 then
       some (.sl st.next 0 n (.un i.size),Um st new e) else none
     | .sl b off len cap=>
      match Zb st.mem b with
      | some blk=>
       match cut blk.cells off (len*i.size) with
       | some old=>
        bif !blk.isObj&&Nat.ble ((len+n+1)*(i.bytes+1)) B1 then
        match cap with
        | .ex c=>
         bif Nat.ble (len+n) c then
          bif Nat.ble floor b&&Nat.ble (off+(len+n)*i.size) blk.cells.length then
           some (.sl b off (len+n) cap,st.withMem (Zt st.mem b (some ⟨blk.cells.take (off+len*i.size)++new++blk.cells.drop (off+(len+n)*i.size),blk.ty,none⟩)))
          else none
         else some (.sl st.next 0 (len+n) (.un i.size),Um st (old++new) e)
        | .un z=>
         bif Nat.beq z i.size&&Nat.ble floor b then
          bif Nat.ble (off+(len+n)*i.size) blk.cells.length then
           some (.sl b off (len+n) cap,st.withMem (Zt st.mem b (some ⟨blk.cells.take (off+len*i.size)++new++blk.cells.drop (off+(len+n)*i.size),blk.ty,none⟩)))
          else bif Nat.beq (off+len*i.size) blk.cells.length then
           some (.sl st.next 0 (len+n) (.un i.size),Um (st.withMem (Zt st.mem b none)) (old++new) e)
          else none
         else none
        else none
       | none=>none
      | none=>none
     | _=>none
     else none
    | none=>none
   | _,_=>none
  | _,_=>none
 | _,_=>none
def Wz (get:Nat->List BA) (off len sz:Nat) (new:List BA):Nat->List BA:=fun k=>bif Nat.ble len k then (new.drop ((k - len)*sz)).take sz else get (off+k)
def Vg (P :Program) (cx:BK) (st:St) (argTypes:List TypeId) (args:List BA):Option (BA×St):=
 match argTypes,args with
 | t :: u ::_,.sla b sz off len (.un z)::x::_=>match P.underlying t,P.underlying u with
  | some (.slice e),some ut=>match ut with
   | .int _=>none
   | _ => match P.info? e with
    | some i=>match Zd st.mem i.size x,Xf P e,Zb st.mem b with
     | some (n,new),some zero,some blk=>match blk.arr with
      | some A=>
       bif Nat.beq zero.length i.size&&Nat.beq new.length (n*i.size)&&Nat.ble 1 i.size&&new.all Kp&&Nat.beq sz i.size&&Nat.beq z sz&&Nat.ble cx.floor b&&Nat.ble 1 n then
        (St.owe cx (match Um (st.withMem (Zt st.mem b none)) (rows (len+n) (Wz A.get off len sz new)) e with
          | ⟨env,_,next,orc,ob⟩=>⟨env,Zt (Zt st.mem b none) st.next (some ⟨rows (len+n) (Wz A.get off len sz new),e,some ⟨sz,len+n,Wz A.get off len sz new⟩⟩),next,orc,ob⟩)
         (Nat.beq A.sz sz&&(decide (off+len=A.n)&&decide ((len+n+1)*(i.bytes+1)<=B1)))).map (.sla st.next sz 0 (len+n) (.un sz), ·)
       else none
      | none=>none
     | _,_,_=>none
    | none=>none
  | _,_=>none
 | _,_=>none
def CP (sz len:Nat):Bj->Bool
 | .un z=>Nat.beq z sz
 | .ex c=>Nat.ble c len
def Uz (m:BI) (sz:Nat):BA->Option (Option Nat×Nat×(Nat->List BA)×Bool)
 | .nils =>some (none,0,fun _=>[],true)
 | .sl b off len cap=>match Zb m b with
  | some blk=>match cut blk.cells off (len*sz) with
   | some old=>bif !blk.isObj&&(CP sz len cap&&Nat.ble off blk.cells.length) then some (some b,len,fun k=>(old.drop (k*sz)).take sz,true) else none
   | none=>none
  | none=>none
 | .sla b z off len cap=>match Zb m b with
  | some blk=>match blk.arr with
   | some A=>bif CP sz len cap then some (some b,len,fun k=>A.get (off+k),Nat.beq z sz&&(Nat.beq A.sz sz&&decide (off+len<=A.n))) else none
   | none=>none
  | none=>none
 | _=>none
def F8 (s:List UInt8):Nat->List BA:=fun k=>[.int .u8 (D0 s k)]
def Fe (m:BI) (sz:Nat) (zero:List BA) (ut:TypeDesc):BA->Option (Nat×(Nat->List BA)×Bool)
 | .int _ n=>match ut with
  | .int _=>some (n.toNat,fun _=>zero,decide (0<=n))
  | _=>none
 | .dat n g=>match ut with
  | .int _=>none
  | _=>some (n,g,CV sz n g)
 | .nils =>match ut with
  | .int _=>none
  | _=>some (0,fun _=>[],true)
 | .sla b z off len _=>match ut with
  | .int _=>none
  | _=>match Zb m b with
   | some ⟨_,_,some A⟩=>some (len,fun k=>A.get (off+k),Nat.beq z sz&&(Nat.beq A.sz sz&&(decide (off+len<=A.n)&&CV sz len fun k=>A.get (off+k))))
   | _=>none
 | .str s=>match ut with
  | .string =>bif Nat.beq sz 1 then some (s.length,F8 s,true) else none
  | _=>none
 | _=>none
def unN :BA->BA
 | .nnl n g=>.dat n g
 | v=>v
def Wh (get:Nat->List BA) (len:Nat) (g:Nat->List BA):Nat->List BA:=fun k=>bif Nat.ble len k then g (k - len) else get k
def Gr (floor:Nat):Option Nat->Bool
 | some b=>Nat.ble floor b
 | none=>true
def CY (m:BI):Option Nat->BI
 | some b=>Zt m b none
 | none=>m
def Xn (P:Program) (cx:BK) (st:St) (argTypes:List TypeId) (args:List BA):Option (BA×St):=
 match argTypes,args with
 | t :: u::_,s::x::_=>match P.underlying t,P.underlying u with
  | some (.slice e),some ut=>match P.info? e,Xf P e with
   | some i,some zero=>match Uz st.mem i.size s,Fe st.mem i.size zero ut (unN x) with
    | some (b,len,get,o1),some (n,g,o2)=>
     bif Nat.beq zero.length i.size&&zero.all Kp&&Nat.ble 1 i.size&&Gr cx.floor b then
      (St.owe cx (match Um (st.withMem (CY st.mem b)) (rows (len+n) (Wh get len g)) e with
        | ⟨env,_,next,orc,ob⟩=>⟨env,Zt (CY st.mem b) st.next (some ⟨rows (len+n) (Wh get len g),e,some ⟨i.size,len+n,Wh get len g⟩⟩),next,orc,ob⟩)
       (o1&&(o2&&decide ((len+n+1)*(i.bytes+1)<=B1)))).map (.sla st.next i.size 0 (len+n) (.un i.size), ·)
     else none
    | _,_=>none
   | _,_=>none
  | _,_=>none
 | _,_=>none
def DW :BA->Bool
 | .dat _ _=>true
 | .nnl _ _=>true
 | .sla _ _ _ _ _=>true
 | .str _=>true
 | _=>false
def KA :BA->BA->Bool
 | .sla _ _ _ _ _,.nils =>true
 | _,_=>false
def Ch (P:Program) (cx:BK) (argTypes:List TypeId) (args:List BA):Bool:=
 match argTypes,args with
 | _::u::_,s::x::_=>DW x||(KA s x||cx.sym&&(match P.underlying u with
  | some (.int _)=>true
  | _=>false))
 | _,_=>false
def CL (mem:BI) (e:TypeId) (b:Nat):Bool:=match Zb mem b with
 | some blk=>Nat.beq blk.ty e
 | none=>true
def tyOk (P:Program) (mem:BI) (argTypes:List TypeId) (args:List BA):Bool:=
 match argTypes,args with
 | t::_,s::_=>match P.underlying t with
  | some (.slice e)=>match s with
   | .sl b _ _ _=>CL mem e b
   | .sla b _ _ _ _=>CL mem e b
   | _=>true
  | _=>true
 | _,_=>true
def Wq (P:Program) (cx:BK) (st:St) (argTypes:List TypeId) (args:List BA):Option (BA×St):=
 bif !tyOk P st.mem argTypes args then none else
 bif Ch P cx argTypes args then Xn P cx st argTypes args else
 match args with
 | .sla b sz off len cap::r=>Vg P cx st argTypes (.sla b sz off len cap::r)
 | args=>Wx P cx.floor st argTypes args
def CS (P:Program) (floor:Nat) (st:St) (argTypes:List TypeId) (args:List BA):Option (BA×St):=
 match argTypes,args with
 | t :: _,d::x::_=>match P.underlying t with
  | some (.slice e)=>match P.info? e with
   | some i=>match Zd st.mem i.size x with
    | some (m,src)=>
     bif Nat.beq src.length (m*i.size)&&src.all Kp then
     match d with
     | .nils =>some (.int .i64 0,st)
     | .dat n _=>bif Nat.beq n 0 then some (.int .i64 0,st) else none
     | .sl b off len _=>
      let n:=Nat.min m len
      match Zb st.mem b with
      | some blk=>
       bif !blk.isObj&&(Nat.ble floor b&&Nat.ble (off+n*i.size) blk.cells.length) then
        some (.int .i64 n,st.withMem (Zt st.mem b (some ⟨blk.cells.take off++src.take (n*i.size)++blk.cells.drop (off+n*i.size),blk.ty,none⟩)))
       else none
      | none=>none
     | _=>none
     else none
    | none=>none
   | none=>none
  | _=>none
 | _,_=>none
def Fx (m:BI) (sz:Nat):BA->Option (Nat×(Nat->List BA)×Bool)
 | .nils =>some (0,fun _=>[],true)
 | .dat n g=>some (n,g,CV sz n g)
 | .sla b z off len _=>match Zb m b with
  | some blk=>match blk.arr with
   | some A=>some (len,fun k=>A.get (off+k),Nat.beq z sz&&(Nat.beq A.sz sz&&(decide (off+len<=A.n)&&CV sz len fun k=>A.get (off+k))))
   | none=>none
  | none=>none
 | .slv b z off len=>match Zb m b with
  | some blk=>match blk.arr with
   | some A=>some (len,fun k=>A.get (off+k),Nat.beq z sz&&(Nat.beq A.sz sz&&(decide (off+len<=A.n)&&CV sz len fun k=>A.get (off+k))))
   | none=>none
  | none=>none
 | _=>none
def Xt (get:Nat->List BA) (off n:Nat) (g:Nat->List BA):Nat->List BA:=fun k=>bif Nat.ble off k&&Nat.ble (k+1) (off+n) then g (k - off) else get k
def Kj (P:Program) (cx:BK) (st:St) (argTypes:List TypeId) (b sz off len:Nat) (x:BA):Option (BA×St):=
 match argTypes with
 | t ::_=>match P.underlying t with
  | some (.slice e)=>match P.info? e,Zb st.mem b with
   | some i,some blk=>match blk.arr,Fx st.mem i.size x with
    | some A,some (m,g,o)=>
     bif Nat.ble cx.floor b&&Nat.ble 1 i.size then
      (St.owe cx (st.withMem (Zt st.mem b (some ⟨rows A.n (Xt A.get off (Nat.min m len) g),blk.ty,some ⟨A.sz,A.n,Xt A.get off (Nat.min m len) g⟩⟩)))
       (Nat.beq sz i.size&&(Nat.beq A.sz sz&&(decide (off+len<=A.n)&&o)))).map (.int .i64 (Nat.min m len:Nat), ·)
     else none
    | _,_=>none
   | _,_=>none
  | _=>none
 | _=>none
def Cw (P:Program) (cx:BK) (st:St) (argTypes:List TypeId) (args:List BA):Option (BA×St):=
 match args with
 | .sla b sz off len _::x::_=>Kj P cx st argTypes b sz off len x
 | .slv b sz off len::x::_=>Kj P cx st argTypes b sz off len x
 | args=>CS P cx.floor st argTypes args
def C5 (P:Program) (floor:Nat) (st:St) (argTypes:List TypeId) (args:List BA):Option (BA×St):=
 match argTypes,args with
 | t ::_,d::_=>match P.underlying t with
  | some (.slice e)=>match P.info? e,Xf P e with
   | some i,some zero=>match d with
    | .nils =>some (.tup [],st)
    | .sl b off len _=>
     bif Nat.beq len 0 then some (.tup [],st) else
     bif Nat.beq zero.length i.size&&zero.all Kp&&Nat.ble floor b then
     match Zb st.mem b with
     | some blk=>
      bif !blk.isObj&&Nat.ble (off+len*i.size) blk.cells.length then
       some (.tup [],st.withMem (Zt st.mem b (some ⟨blk.cells.take off++BP len zero++blk.cells.drop (off+len*i.size),blk.ty,none⟩)))
      else none
     | none=>none
     else none
    | _=>none
   | _,_=>none
  | _=>none
 | _,_=>none
def Qn :List BA->Nat->T BA->T BA
 | [],_,t=>t
 | a::r,i,t=>Qn r (i+1) (T.set .undef t i a)
def F9 (P:Program) (st:St):ResultVar->Option BA
 | .tmp t=>some (st.tmp t)
 | .cell a t=>CT P st.mem t (st.tmp a)
def aResults (P:Program) (st:St):List ResultVar->Option (List BA)
 | []=>some []
 | r::l=>match F9 P st r,aResults P st l with
  | some v,some vs=>some (v::vs)
  | _,_=>none
def DA :List BA->BA
 | [v]=>v
 | vs=>.tup vs
def pf :Nat->BA->Bool
 | 0,_=>false
 | d+1,v=>match v with
  | .bool _ | .int _ _ | .str _ | .nilp | .nils | .nilf | .nili | .ifb _ | .dat _ _ | .dptr _=>true
  | .agg cs | .tup cs=>cs.all (pf d)
  | .fn _ cs=>cs.isEmpty
  | _=>false
inductive F1 where
 | val (F:List BA->Option (BA×Bool))
 | eff (F:List BA->BI->Option (BA×Nat×BG×Bool))
 | gro (ty:TypeId) (F:Nat->(Nat->List BA)->List BA->Option (Nat×(Nat->List BA)×Bool))
abbrev BD :=FuncId->Option F1
abbrev BF :=BK->List Item->St->Option St
def pl :BA->Bool
 | .bool _ | .int _ _=>true
 | _=>false
def CM (sz n:Nat) (get:Nat->List BA):Bool:=pd (∀i,i<n->(get i).length =sz/\(get i).all pl=true)
def CC (S:BD) (f:FuncId) (args:List BA):Option Nat:=match S f with
 | some (.gro _ _)=>match args with
  | .sla b _ _ _ _::_=>some b
  | _=>none
 | _=>none
def scal :BA->Bool
 | .bool _ | .int _ _ | .str _ | .ifb _=>true
 | .tup vs=>vs.all fun v=>match v with
  | .bool _ | .int _ _ | .str _ | .ifb _ | .undef =>true
  | _=>false
 | _=>false
def GV (P:Program) (m:BI):BA->BA×Bool
 | .sla b sz off len cap=>match Zb m b with
  | some blk=>match blk.arr with
   | some A=>(.dat len fun k=>A.get (off+k),Nat.beq A.sz sz&&(decide (off+len<=A.n)&&pd (∀i,(A.get i).all (pf 6)=true)))
   | none=>(.undef,true)
  | none=>(.undef,true)
 | .sl b off len _=>match Zb m b with
  | some blk=>match P.info? blk.ty with
   | some i=>(.dat len fun k=>(blk.cells.drop (off+k*i.size)).take i.size,!blk.isObj&&(Nat.ble (off+len*i.size) blk.cells.length&&blk.cells.all (pf 6)))
   | none=>(.undef,true)
  | none=>(.undef,true)
 | v=>(v,true)
def DF (P:Program) (m:BI):List BA->List BA×Bool
 | []=>([],true)
 | v::l=>match GV P m v,DF P m l with
  | (a,o),(az,q)=>(a::az,o&&q)
def Cr (P:Program) (S:BD) (R:BF) (lift:Bool) (f:FuncId) (args:List BA) (cx:BK) (st:St):Option (BA×St):=
 match S f with
 | some (.val F)=>bif args.all (pf 3) then (match F args with
   | some (v,b)=>bif pf 3 v||scal v then (st.owe cx b).map (v, ·) else none
   | none=>none) else
  match DF P st.mem args with
  | (args',o)=>match F args' with
   | some (v,b)=>bif args'.all (pf 3)&&scal v then (st.owe cx (o&&b)).map (v, ·) else none
   | none=>none
 | some (.eff F)=>match F args st.mem with
  | some (v,b,blk,o)=>match Zb st.mem b with
   | some _=>bif !lift&&Nat.ble cx.floor b then ((st.withMem (Zt st.mem b (some blk))).owe cx o).map (v, ·) else none
   | none=>none
  | none=>none
 | some (.gro ty0 F)=>match args with
  | .sla b sz 0 n (.un sz')::r=>match Zb st.mem b with
   | some ⟨_,ty,some A⟩=>bif (Nat.beq ty ty0&&(Nat.beq sz sz'&&Nat.beq A.sz sz))&&(r.all (pf 3)&&(Nat.ble cx.floor b&&Nat.ble 1 sz)) then
     (match F n A.get r with
     | some (n',g,o)=>(St.owe cx (match st with
      | ⟨env,mem,next,orc,ob⟩=>⟨env,Zt (Zt mem b none) next (some ⟨rows n' g,ty,some ⟨sz,n',.flat g⟩⟩),next+1,orc,ob⟩) (o&&(Nat.beq A.n n&&(CM sz n A.get&&CM sz n' g)))).map (.sla st.next sz 0 n' (.un sz), ·)
     | none=>none) else none
   | _=>none
  | _=>none
 | none=>match P.funcs[f]? with
  | some fn=>match fn.body with
   | some body=>
    match R ⟨Nat.max fn.ntmps args.length,bif lift then st.next else cx.floor,cx.sym⟩ [.code body] (st.withEnv (Qn args 0 .leaf)) with
    | some st2=>match aResults P st2 fn.results.toList with
     | some vs=>some (DA vs,st2.withEnv st.env)
     | none=>none
    | none=>none
   | none=>none
  | none=>none
def Yu (P:Program) (S:BD) (R:BF) (lift:Bool) (op:Op) (cx:BK) (st:St):Option (BA×St):=
 match op with
 | .load t x=>match Fs P st t (st.eval x) with
  | some (v,b,st1)=>(st1.owe cx b).map (v, ·)
  | none=>none
 | .alloc t=>(Xf P t).map fun z=>(.ptr st.next 0,Um st z t)
 | .box t x=>bif Vp (st.eval x) then some (.ptr st.next 0,Um st (st.eval x).cells t) else none
 | .buildSlice t len parts=>Xx P cx.sym st t len (parts.toList.map fun p=>(p.1,st.eval p.2))
 | .store t a x=>match st.eval a with
  | .epa b sz r fo=>(Uf P cx st t (.epa b sz r fo) (st.eval x)).map (.tup [], ·)
  | y=>(C7 P cx.floor st t y (st.eval x)).map (.tup [], ·)
 | .makeSlice t l c=>bif cx.sym then (bif st.nextO then Yn P st.dropO t (st.eval l) (st.eval c) else Xy P cx st.dropO t (st.eval l) (st.eval c)) else Yn P st t (st.eval l) (st.eval c)
 | .call {callee:=.builtin .append,args,argTypes}=>Wq P cx st argTypes.toList (args.toList.map st.eval)
 | .call {callee:=.builtin .copy,args,argTypes}=>Cw P cx st argTypes.toList (args.toList.map st.eval)
 | .call {callee:=.builtin .clear,args,argTypes}=>C5 P cx.floor st argTypes.toList (args.toList.map st.eval)
 | .call {callee:=.value f,args,argTypes:=_}=>match st.eval f with
  | .fn g caps=>Cr P S R lift g (args.toList.map st.eval++caps) cx st
  | .fnb g first=>Cr P S R lift g (first++args.toList.map st.eval) cx st
  | _=>none
 | _=>none
def Qw (P:Program) (S:BD) (R:BF) (lift:Bool) (o:Oper) (cx:BK) (st:St):Option St:=
 match Xg P o.op st.eval with
 | some (v,b)=>match st.owe cx b with
  | some st=>st.put cx o.dst v
  | none=>none
 | none=>match Yu P S R lift o.op cx st with
  | some (v,st)=>st.put cx o.dst v
  | none=>none
def Jp (ops:Array Oper) (o:Oper) (cx:BK) (st:St):Option (Bool×St):=
 match o.guard with
 | none=>some (true,st)
 | some (j,want)=>match (ops[j]?).bind (·.dst) with
  | none=>none
  | some d=>match st.tmp d with
   | .bool b=>match st.test b with
    | (e,st1)=>match st1.put cx (some d) (.bool e) with
     | some st2=>some (e == want,st2)
     | none=>none
   | .tup []=>some (false,st)
   | _=>none
def DD :List Bool->Nat×List Bool
 | []=>(0,[])
 | false::r=>(0,r)
 | true::r=>((DD r).1+1,(DD r).2)
def St.conc (cx:BK) (t:Nat) (kd:IntKind) (n:Int):St->Option St
 | ⟨env,mem,next,[],ob⟩=>some ⟨env,mem,next,[],ob⟩
 | ⟨env,mem,next,o::r,ob⟩=>bif Nat.ble (t+1) cx.n then some ⟨T.set .undef env t (.int kd (Int.ofNat (DD (o::r)).1)),mem,next,(DD (o::r)).2,decide (n=Int.ofNat (DD (o::r)).1)&&ob⟩ else none
def Fi (o:Oper) (cx:BK) (st:St):Option St:=
 match o.op with
 | .indexAddr _ x (.tmp t)=>match st.eval x with
  | .ptr _ _ | .epa _ _ _ _ | .dptr _=>match st.tmp t with
   | .int kd n=>st.conc cx t kd n
   | _=>some st
  | _=>some st
 | .index _ x (.tmp t)=>match st.eval x with
  | .agg _=>match st.tmp t with
   | .int kd n=>st.conc cx t kd n
   | _=>some st
  | _=>some st
 | _=>some st
def Wy (ops:Array Oper) (o:Oper) (cx:BK) (st:St):Option (Bool×St):=
 match Jp ops o cx st with
 | some (true,st1)=>match Fi o cx st1 with
  | some st2=>some (true,st2)
  | none=>none
 | x=>x
def F6 (P:Program) (S:BD) (R:BF) (ops:Array Oper) (cx:BK) (l:List (Bool×Oper)):St->Option St:=
 List.rec (motive:=fun _=>St->Option St) (fun st=>some st)
  (fun x _ rec st=>match Wy ops x.2 cx st with
   | none=>none
   | some (true,st)=>match Qw P S R x.1 x.2 cx st with
    | some st=>rec st
    | none=>none
   | some (false,st)=>match st.put cx x.2.dst (.tup []) with
    | some st=>rec st
    | none=>none) l
inductive Bi where
 | pure | read | alloc | call | chain | lit | birth
 deriving DecidableEq
def Ze :Op->Bi
 | .load .. =>.read
 | .alloc _=>.alloc
 | .box .. | .buildSlice .. | .store .. | .makeSlice .. =>.chain
 | .call {callee:=.builtin .append,.. } | .call {callee:=.builtin .copy,.. } | .call {callee:=.builtin .clear,.. }=>.chain
 | .call {callee:=.value _,.. }=>.call
 | _=>.pure
def CW (z:Nat):Op->Bool
 | .buildSlice _ n _=>Nat.beq z 1||(Nat.beq z 3&&Nat.ble 1 n)
 | _=>false
def isBirth (z:Nat):Op->Bool
 | .buildSlice .. =>Nat.beq z 2
 | _=>false
def Zh (z:Nat) (op:Op):Bi:=bif CW z op then .lit else bif isBirth z op then .birth else Ze op
def Be :List Oper->List Nat->List Nat
 | [],acc=>acc
 | o::r,acc=>Be r (acc++[o.after.toList.foldl (fun s e=>bif Region.binds .any e then s||| (2 ^ e.on)||| acc.getD e.on 0 else s) 0])
def isAlloc (ops:Array Oper) (i:Nat):Bool:=(ops[i]?).any fun o=>Ze o.op == .alloc
def Zm (ops:Array Oper):List Nat:=
 (List.range ops.size).filter (isAlloc ops)++(List.range ops.size).filter (fun i=> !isAlloc ops i)
def Vi (ops:Array Oper) (i:Nat):Bool:=
 (List.range ops.size).any fun j=>(ops[j]?).any (fun o=>Ze o.op == .read)&&
  ((Nat.ble (i+1) j&& !((Be ops.toList []).getD j 0).testBit i)||(Nat.ble (j+1) i&& !((Be ops.toList []).getD i 0).testBit j))
def Wk (ops:Array Oper):List (Nat×Bool×Oper):=(Zm ops).map fun i=>(i,Vi ops i,ops.getD i default)
def Fy :Bi->Bi->Bool
 | .pure,_=>true
 | _,.pure =>true
 | .lit,_=>true
 | _,.lit =>true
 | .birth,_=>true
 | _,.birth =>true
 | .alloc,_=>true
 | _,.alloc =>true
 | .read,.read =>true
 | .read,.call =>true
 | .call,.read =>true
 | .read,.chain =>true
 | .chain,.read =>true
 | _,_=>false
def F7 (z:Nat) (ops:Array Oper) (i j:Nat) (p o:Oper):Bool:=
 (((Be ops.toList []).getD j 0).testBit i||(p.apart ops o&&Fy (Zh z p.op) (Zh z o.op)))&&
 (match p.dst with | some d=> !(o.dst == some d) | none=>true)&&
 (!(Ze o.op == .alloc)||p.apart ops o)&&
 (!isBirth z o.op||(match Zh z p.op with
  | .chain | .call =>false
  | _=>true))
def Qr (z:Nat) (ops:Array Oper):Bool:=
 (List.range ops.size).all fun j=>match ops[j]? with
  | none=>false
  | some o=>o.after.toList.all (fun e=> !Region.binds .any e||Nat.ble (e.on+1) j)&&(!(Ze o.op == .alloc ||isBirth z o.op)||o.guard.isNone)&&
   (List.range j).all fun i=>match ops[i]? with
    | none=>false
    | some p=>F7 z ops i j p o
def B5 (op:Op) (ev:Operand->BA):Option Nat:=
 match op with
 | .load _ x=>match ev x with
  | .ptr b _=>some b
  | .epa b _ _ _=>some b
  | _=>none
 | _=>none
def BZ (op:Op) (ev:Operand->BA):Option Nat:=
 match op with
 | .store _ a _=>match ev a with
  | .ptr b _=>some b
  | .epa b _ _ _=>some b
  | _=>none
 | .call {callee:=.builtin .append,args,argTypes:=_}=>match args.toList.map ev with
  | .sl b _ _ _::_=>some b
  | .sla b _ _ _ _::_=>some b
  | _=>none
 | .call {callee:=.builtin .copy,args,argTypes:=_}=>match args.toList.map ev with
  | .sl b _ _ _::_=>some b
  | .sla b _ _ _ _::_=>some b
  | .slv b _ _ _::_=>some b
  | _=>none
 | .call {callee:=.builtin .clear,args,argTypes:=_}=>match args.toList.map ev with
  | .sl b _ _ _::_=>some b
  | _=>none
 | _=>none
def clash :Option Nat->Option Nat->Bool
 | some a,some b=>Nat.beq a b
 | _,_=>false
def ordered (ops:Array Oper) (i j:Nat):Bool:=((Be ops.toList []).getD j 0).testBit i||((Be ops.toList []).getD i 0).testBit j
abbrev BW :=Nat×Option Nat×Option Nat
def F4 (ops:Array Oper) (x y:BW):Bool:= !(clash x.2.1 y.2.2||clash x.2.2 y.2.1)||ordered ops x.1 y.1
def Bv (P:Program) (S:BD) (R:BF) (ops:Array Oper) (cx:BK) (x:Bool×Oper) (st:St):Option St:=
 match Wy ops x.2 cx st with
 | none=>none
 | some (true,st)=>Qw P S R x.1 x.2 cx st
 | some (false,st)=>st.put cx x.2.dst (.tup [])
def GP (P:Program) (t:TypeId) (len:Nat) (parts:List (Nat×BA)):Option BA:=
 match P.underlying t with
 | some (.slice e)=>match P.info? e,Xf P e with
  | some i,some zero=>
   bif (Nat.ble 1 len&&Nat.ble 1 i.size)&&(Nat.ble (len*i.size) 16777216&&Nat.beq zero.length i.size) then
    match Bu (fun j=>some (j*i.size,i.size)) (BP len zero) parts with
    | some cells=>bif Nat.beq cells.length (len*i.size)&&cells.all (pf 6) then some (.dat len fun k=>(cells.drop (k*i.size)).take i.size) else none
    | none=>none
   else none
  | _,_=>none
 | _=>none
def GA (P:Program) (o:Oper) (cx:BK) (st:St):Option St:=
 match o.op with
 | .buildSlice t len parts=>match GP P t len (parts.toList.map fun p=>(p.1,st.eval p.2)) with
  | some v=>st.put cx o.dst v
  | none=>none
 | _=>none
def Fw (P:Program) (t:TypeId) (len:Nat) (parts:List (Nat×BA)):Option (List BA×TypeId×Nat):=
 match P.underlying t with
 | some (.slice e)=>match P.info? e,Xf P e with
  | some i,some zero=>
   bif (Nat.ble 1 len&&Nat.ble 1 i.size)&&(Nat.ble (len*i.size) 16777216&&Nat.beq zero.length i.size) then
    match Bu (fun j=>some (j*i.size,i.size)) (BP len zero) parts with
    | some cells=>bif Nat.beq cells.length (len*i.size) then some (cells,e,i.size) else none
    | none=>none
   else none
  | _,_=>none
 | _=>none
def GJ (P:Program) (o:Oper) (cx:BK) (st:St):Option St:=
 match o.op with
 | .buildSlice t len parts=>match Fw P t len (parts.toList.map fun p=>(p.1,st.eval p.2)) with
  | some (cells,e,sz)=>(Um st cells e).put cx o.dst (.sl st.next 0 len (bif cx.sym then .un sz else .ex len))
  | none=>none
 | _=>none
def C4 (z:Nat) (P:Program) (S:BD) (R:BF) (ops:Array Oper) (cx:BK) (x:Bool×Oper) (st:St):Option St:=
 bif CW z x.2.op then (match Wy ops x.2 cx st with
  | none=>none
  | some (true,st)=>GA P x.2 cx st
  | some (false,st)=>st.put cx x.2.dst (.tup [])) else bif isBirth z x.2.op then (match Wy ops x.2 cx st with
  | none=>none
  | some (true,st)=>GJ P x.2 cx st
  | some (false,st)=>st.put cx x.2.dst (.tup [])) else Bv P S R ops cx x st
def B6 (S:BD) (op:Op) (ev:Operand->BA):Option Nat:=match op with
 | .call {callee:=.value f,args,argTypes:=_}=>match ev f with
  | .fn g caps=>CC S g (args.toList.map ev++caps)
  | .fnb g first=>CC S g (first++args.toList.map ev)
  | _=>none
 | op=>BZ op ev
def Vo (S:BD) (x:Nat×Bool×Oper) (ev:Operand->BA):BW:=(x.1,B5 x.2.2.op ev,B6 S x.2.2.op ev)
def B4 (op:Op) (ev:Operand->BA) (mem:BI):Option Nat:=match op with
 | .call {callee:=.builtin .append,args,argTypes:=_}=>match args.toList.map ev with
  | .sla b _ _ _ (.un _)::.sl _ _ _ _::_=>some b
  | .sl b off len (.un z)::.sl _ _ n _::_=>match Zb mem b with
   | some blk=>bif Nat.beq (off+len*z) blk.cells.length&&Nat.ble 1 n then some b else none
   | none=>none
  | _=>none
 | _=>none
def Fk (z:Nat) (op:Op):Bool:=match Zh z op with
 | .pure | .read =>true
 | _=>false
def Wg (z:Nat) (ops:Array Oper) (i q:Nat):Bool:=(List.range ops.size).all fun j=>match ops[j]? with
 | some o=>Fk z o.op||(Nat.beq j q||(((Be ops.toList []).getD q 0).testBit j||((Be ops.toList []).getD j 0).testBit i))
 | none=>true
def lateF (z:Nat) (ops:Array Oper) (x:Nat×Bool×Oper) (ev:Operand->BA) (mem:BI):BW->Bool
 | (i,some b',none)=>match B4 x.2.2.op ev mem with
  | some b=>Nat.beq b b'&&Wg z ops i x.1
  | none=>false
 | _=>false
def Je (z:Nat) (P:Program) (S:BD) (R:BF) (ops:Array Oper) (cx:BK) (l:List (Nat×Bool×Oper)):List BW->St->Option St:=
 List.rec (motive:=fun _=>List BW->St->Option St) (fun _ st=>some st)
  (fun x _ rec acc st=>bif acc.all (fun y=>F4 ops (Vo S x st.eval) y||lateF z ops x st.eval st.mem y) then
    match C4 z P S R ops cx x.2 st with
    | some st'=>rec (Vo S x st.eval::acc) st'
    | none=>none
   else none) l
def Hn (P:Program) (f:FuncId):Code:=match P.funcs[f]? with
 | some fn=>fn.body.getD .ret
 | none=>.ret
def Zz (P:Program) (f:FuncId):List ResultVar:=match P.funcs[f]? with
 | some fn=>fn.results.toList
 | none=>[]
theorem Fu {b:Bool} {p:Prop} (hb:b=true->p) (h:DU b p=true):p:=by
 unfold DU at h;cases hb':b with
 | true=>exact hb hb'
 | false=>rw [hb',Bool.false_or] at h;exact @AN p (Classical.propDecidable p) h
theorem KD {n:Nat} {g:Nat->List BA} {sz:Nat} (h:DV n g sz=true): ∀i,i<n->(g i).length =sz:=
 Fu (fun h i hi=>Ae (Ao.1 h i (At.2 hi))) h
theorem Kf {n:Nat} {g:Nat->List BA} {sz:Nat} (h:CV sz n g=true): ∀i,i<n->(g i).length =sz/\(g i).all Kp=true:=
 Fu (fun h i hi=>by
  have:=Ao.1 h i (At.2 hi);rw [Ag] at this;exact ⟨Ae this.1,this.2⟩) h
theorem Kn (m:Nat):Nat.beq (m %2) 0=true↔m %2=0:=by simp_all
@[simp] theorem T.get_leaf {α:Type} (d:α) (n:Nat):T.get d .leaf n=d:=rfl
@[simp] theorem T.get_zero {α:Type} (d v:α) (l r:T α):T.get d (.node v l r) 0=v:=rfl
theorem T.get_succ {α:Type} (d v:α) (l r:T α) (m:Nat):T.get d (.node v l r) (m+1)=if m %2=0 then T.get d l (m / 2) else T.get d r (m / 2):=by simp_all [T.get]
theorem T.setF_leaf_zero {α:Type} (d v:α) (f:Nat):T.setF d v (f+1) .leaf 0=.node v .leaf .leaf :=rfl
theorem T.setF_node_zero {α:Type} (d v u:α) (l r:T α) (f:Nat):T.setF d v (f+1) (.node u l r) 0=.node v l r:=rfl
theorem T.setF_leaf_succ {α:Type} (d v:α) (f m:Nat):T.setF d v (f+1) .leaf (m+1)=
  if m %2=0 then .node d (T.setF d v f .leaf (m / 2)) .leaf else .node d .leaf (T.setF d v f .leaf (m / 2)):=by
 show (bif Nat.beq (m %2) 0 then (_:T α) else _)=_;by_cases h:m %2=0
 .rw [Ap h,(Kn m).2 h];rfl
 .rw [Aj h,show Nat.beq (m %2) 0=false from AV.2 (fun e=>h ((Kn m).1 e))];rfl
theorem T.setF_node_succ {α:Type} (d v u:α) (l r:T α) (f m:Nat):T.setF d v (f+1) (.node u l r) (m+1)=
  if m %2=0 then .node u (T.setF d v f l (m / 2)) r else .node u l (T.setF d v f r (m / 2)):=by
 show (bif Nat.beq (m %2) 0 then (_:T α) else _)=_;by_cases h:m %2=0
 .rw [Ap h,(Kn m).2 h];rfl
 .rw [Aj h,show Nat.beq (m %2) 0=false from AV.2 (fun e=>h ((Kn m).1 e))];rfl
theorem T.get_setF {α:Type} (d v:α): ∀(f:Nat) (t:T α) (n k:Nat),n<f->T.get d (T.setF d v f t n) k=if k=n then v else T.get d t k
 | 0,_,_,_,h=>absurd h (Ar _)
 | f+1,.leaf,0,k,_=>by
  rw [T.setF_leaf_zero];cases k with
  | zero=>simp
  | succ k=>rw [T.get_succ];simp
 | f+1,.node u l r,0,k,_=>by
  rw [T.setF_node_zero];cases k with
  | zero=>simp
  | succ k=>rw [T.get_succ,T.get_succ];simp
 | f +1,.leaf,m+1,k,h=>by
  rw [T.setF_leaf_succ];have hm:m / 2<f:=by omega
  cases k with
  | zero=>split <;> simp
  | succ k=>
   have ih:=T.get_setF d v f .leaf (m / 2) (k / 2) hm;by_cases hp:m %2=0
   .rw [Ap hp,T.get_succ];by_cases hk:k %2=0
    .rw [Ap hk,ih];by_cases e:k / 2=m / 2
     .rw [Ap e,Ap (by omega)]
     .rw [Aj e,Aj (by omega)];simp
    .rw [Aj hk,Aj (by omega)];simp
   .rw [Aj hp,T.get_succ];by_cases hk:k %2=0
    .rw [Ap hk,Aj (by omega)];simp
    .rw [Aj hk,ih];by_cases e:k / 2=m / 2
     .rw [Ap e,Ap (by omega)]
     .rw [Aj e,Aj (by omega)];simp
 | f +1,.node u l r,m+1,k,h=>by
  rw [T.setF_node_succ];have hm:m / 2<f:=by omega
  cases k with
  | zero=>split <;> simp
  | succ k=>
   by_cases hp:m %2=0
   .rw [Ap hp,T.get_succ,T.get_succ];by_cases hk:k %2=0
    .rw [Ap hk,Ap hk,T.get_setF d v f l (m / 2) (k / 2) hm];by_cases e:k / 2=m / 2
     .rw [Ap e,Ap (by omega)]
     .rw [Aj e,Aj (by omega)]
    .rw [Aj hk,Aj hk,Aj (by omega)]
   .rw [Aj hp,T.get_succ,T.get_succ];by_cases hk:k %2=0
    .rw [Ap hk,Ap hk,Aj (by omega)]
    .rw [Aj hk,Aj hk,T.get_setF d v f r (m / 2) (k / 2) hm];by_cases e:k / 2=m / 2
     .rw [Ap e,Ap (by omega)]
     .rw [Aj e,Aj (by omega)]
theorem T.get_set {α:Type} (d:α) (t:T α) (n:Nat) (v:α) (k:Nat):T.get d (T.set d t n v) k=if k=n then v else T.get d t k:=
 T.get_setF d v (n+1) t n k (Nat.lt_succ_self n)
theorem Yc (m:BI) (b:Nat) (o:Option BG) (k:Nat):Zb (Zt m b o) k=if k=b then o else Zb m k:=T.get_set none m b o k
theorem Zq (m:BI) (b:Nat) (o:Option BG):Zb (Zt m b o) b=o:=by rw [Yc,Ap rfl]
theorem Zx (m:BI) {b k:Nat} (o:Option BG) (h:k≠b):Zb (Zt m b o) k=Zb m k:=by rw [Yc,Aj h]
inductive Yh {α β:Type} (R:α->β->Prop):List α->List β->Prop
 | nil:Yh R [] []
 | cons {a:α} {b:β} {l:List α} {m:List β} (h:R a b) (t:Yh R l m):Yh R (a::l) (b::m)
theorem Yh.length {α β:Type} {R:α->β->Prop} {l:List α} {m:List β} (h:Yh R l m):l.length=m.length:=by
 induction h with
 | nil=>rfl
 | cons _ _ ih=>simp [ih]
theorem Yh.get {α β:Type} {R:α->β->Prop} {l:List α} {m:List β} (h:Yh R l m): ∀(i:Nat) (h1:i<l.length) (h2:i<m.length),R l[i] m[i]:=by
 induction h with
 | nil=>grind
 | cons h _ ih=>
  grind
theorem Yh.append {α β:Type} {R:α->β->Prop} {l l':List α} {m m':List β} (h:Yh R l m) (k:Yh R l' m'):Yh R (l++l') (m++m'):=by
 induction h with
 | nil=>exact k
 | cons h _ ih=>exact .cons h ih
theorem Yh.of {α β:Type} {R:α->β->Prop}: ∀{l:List α} {m:List β},l.length=m.length->(∀(i:Nat) (h1:i<l.length) (h2:i<m.length),R l[i] m[i])->Yh R l m
 | [],[],_,_=>.nil
 | [],_::_,h,_=>by simp at h
 | _::_,[],h,_=>by simp at h
 | a::l,b::m,h,hr=>.cons (hr 0 (by simp) (by simp)) (Yh.of (by simpa using h) fun i h1 h2=>hr (i+1) (by grind) (by grind))
theorem Yh.maps {α γ δ:Type} {R:γ->δ->Prop} (f:α->γ) (g:α->δ): ∀(l:List α),(∀a,a∈l->R (f a) (g a))->Yh R (l.map f) (l.map g)
 | [],_=>.nil
 | a::l,h=>.cons (h a (by simp)) (Yh.maps f g l fun b hb=>h b (by simp [hb]))
structure BM where
 blk:Nat
 base:Nat
 n:Nat
 tot:Nat
abbrev B8 :=Nat->Option Obj
structure BB where
 f:Nat->Option BM
 fz:B8
 lp:Nat->Option Nat
instance : CoeFun BB (fun _=>Nat->Option BM):=⟨BB.f⟩
def BB.bare (ρ:BB):BB:=⟨fun _=>none,ρ.fz,fun _=>none⟩
def Uc (H:B8):BB:=⟨fun _=>none,H,fun _=>none⟩
def Ww (l:BM) (off:Nat):Bj->Nat->Prop
 | .ex k,c=>c=k
 | .un sz,c=>l.n<=off+c*sz/\off+c*sz<=l.tot
def Bs (H:B8) (blk o:Nat) (v:Value):Prop:= ∃cs el fz,H blk=some (.cells cs el fz)/\cs[o]? =some v
inductive Zp :BB->BA->Value->Prop
 | undef {ρ:BB} (v:Value):Zp ρ .undef v
 | bool {ρ:BB} (b:Bool):Zp ρ (.bool b) (.bool b)
 | int {ρ:BB} (k:IntKind) (n:Int):Zp ρ (.int k n) (.int k n)
 | str {ρ:BB} (s:List UInt8):Zp ρ (.str s) (.string ⟨s.toArray⟩)
 | agg {ρ:BB} (cs:List BA) (vs:Array Value) (hl:cs.length=vs.size) (h: ∀(i:Nat) (h1:i<cs.length) (h2:i<vs.size),Zp ρ cs[i] vs[i]):Zp ρ (.agg cs) (.agg vs)
 | tup {ρ:BB} (cs:List BA) (vs:Array Value) (hl:cs.length=vs.size) (h: ∀(i:Nat) (h1:i<cs.length) (h2:i<vs.size),Zp ρ cs[i] vs[i]):Zp ρ (.tup cs) (.tuple vs)
 | ptr {ρ:BB} (b off:Nat) (l:BM) (h:ρ b=some l):Zp ρ (.ptr b off) (.pointer (some ⟨l.blk,l.base+off,none⟩))
 | nilp {ρ:BB}:Zp ρ .nilp (.pointer none)
 | sl {ρ:BB} (b off len:Nat) (cap:Bj) (l:BM) (c:Nat) (h:ρ b=some l) (hc:Ww l off cap c) (aC:len<=c):Zp ρ (.sl b off len cap) (.slice (some ⟨l.blk,l.base+off,none⟩) len c)
 | nils {ρ:BB}:Zp ρ .nils (.slice none 0 0)
 | sla {ρ:BB} (b sz off len:Nat) (cap:Bj) (l:BM) (c:Nat) (h:ρ b=some l) (hc:Ww l (off*sz) cap c) (aC:len<=c):Zp ρ (.sla b sz off len cap) (.slice (some ⟨l.blk,l.base+off*sz,none⟩) len c)
 | slan {ρ:BB} (b sz off:Nat) (cap:Bj):Zp ρ (.sla b sz off 0 cap) (.slice none 0 0)
 | slv {ρ:BB} (b sz off len:Nat) (l:BM) (c:Nat) (h:ρ b=some l) (aC:len<=c):Zp ρ (.slv b sz off len) (.slice (some ⟨l.blk,l.base+off*sz,none⟩) len c)
 | slve {ρ:BB} (b sz off:Nat) (blk base c:Nat):Zp ρ (.slv b sz off 0) (.slice (some ⟨blk,base,none⟩) 0 c)
 | slvn {ρ:BB} (b sz off:Nat):Zp ρ (.slv b sz off 0) (.slice none 0 0)
 | epa {ρ:BB} (b sz i fo:Nat) (l:BM) (h:ρ b=some l):Zp ρ (.epa b sz i fo) (.pointer (some ⟨l.blk,l.base+(i*sz+fo),none⟩))
 | fn {ρ:BB} (f:FuncId) (cs:List BA) (vs:Array Value) (hl:cs.length=vs.size) (h: ∀(i:Nat) (h1:i<cs.length) (h2:i<vs.size),Zp ρ cs[i] vs[i]):Zp ρ (.fn f cs) (.func (.func f) #[] vs)
 | nilf {ρ:BB}:Zp ρ .nilf .nilFunc
 | fnb {ρ:BB} (f:FuncId) (cs:List BA) (vs:Array Value) (hl:cs.length=vs.size) (h: ∀(i:Nat) (h1:i<cs.length) (h2:i<vs.size),Zp ρ cs[i] vs[i]):Zp ρ (.fnb f cs) (.func (.func f) vs #[])
 | yld {ρ:BB} (j l:Nat) (h:ρ.lp j=some l):Zp ρ (.yld j) (.func (.yield l) #[] #[])
 | ifc {ρ:BB} (t:TypeId) (a:BA) (v:Value) (h:Zp ρ a v):Zp ρ (.ifc t a) (.iface t v)
 | nili {ρ:BB}:Zp ρ .nili .nilIface
 | dat {ρ:BB} (len:Nat) (get:Nat->List BA) (blk base sz cap:Nat) (val:Nat->Nat->Value) (aH:len<=cap) (hsz: ∀i,i<len->(get i).length =sz)
   (hv: ∀(i j:Nat) (_:i<len) (hj:j<(get i).length),Zp ρ.bare (get i)[j] (val i j)) (hh: ∀i j,i<len->j<sz->Bs ρ.fz blk (base+(i*sz+j)) (val i j)):Zp ρ (.dat len get) (.slice (some ⟨blk,base,none⟩) len cap)
 | datn {ρ:BB} (get:Nat->List BA):Zp ρ (.dat 0 get) (.slice none 0 0)
 | datz {ρ:BB} (get:Nat->List BA) (a:Addr) (c:Nat):Zp ρ (.dat 0 get) (.slice (some a) 0 c)
 | nnl {ρ:BB} (len:Nat) (get:Nat->List BA) (a:Addr) (c:Nat) (h:Zp ρ (.dat len get) (.slice (some a) len c)):Zp ρ (.nnl len get) (.slice (some a) len c)
 | mapr {ρ:BB} (b:Nat) (l:BM) (h:ρ b=some l):Zp ρ (.mapr b) (.map (some l.blk))
 | ifbt {ρ:BB}:Zp ρ (.ifb true) .nilIface
 | ifbf {ρ:BB} (t:TypeId) (v:Value):Zp ρ (.ifb false) (.iface t v)
 | dptr {ρ:BB} (cs:List BA) (blk base:Nat) (val:Nat->Value) (hv: ∀(j:Nat) (hj:j<cs.length),Zp ρ.bare cs[j] (val j)) (hh: ∀j,j<cs.length->Bs ρ.fz blk (base+j) (val j)):Zp ρ (.dptr cs) (.pointer (some ⟨blk,base,none⟩))
def Yg (ρ:BB) (cs:List BA) (vs:Array Value):Prop:=cs.length=vs.size/\ ∀(i:Nat) (h1:i<cs.length) (h2:i<vs.size),Zp ρ cs[i] vs[i]
def BB.le (ρ ρ':BB):Prop:=(∀b l,ρ b=some l->ρ' b=some l)/\(∀k o,ρ.fz k=some o->ρ'.fz k=some o)/\ ∀j l,ρ.lp j=some l->ρ'.lp j=some l
theorem BB.le_refl (ρ:BB):ρ.le ρ:=⟨fun _ _ h=>h,fun _ _ h=>h,fun _ _ h=>h⟩
theorem BB.le_trans {a b c:BB} (h:a.le b) (k:b.le c):a.le c:=⟨fun x l e=>k.1 x l (h.1 x l e),fun x l e=>k.2.1 x l (h.2.1 x l e),fun x l e=>k.2.2 x l (h.2.2 x l e)⟩
theorem BB.le.bare {ρ ρ':BB} (h:ρ.le ρ'):ρ.bare.le ρ'.bare:=⟨fun _ _ e=>(by cases e),h.2.1,fun _ _ e=>(by cases e)⟩
theorem DO (ρ:BB):ρ.bare.le ρ:=⟨fun _ _ e=>(by cases e),fun _ _ e=>e,fun _ _ e=>(by cases e)⟩
theorem Bs.mono {ρ ρ':BB} (h:ρ.le ρ') {blk o:Nat} {v:Value} (hc:Bs ρ.fz blk o v):Bs ρ'.fz blk o v:=by obtain ⟨cs,el,fz,h1,h2⟩:=hc;exact ⟨cs,el,fz,h.2.1 _ _ h1,h2⟩
theorem Zp.mono {ρ ρ':BB} (h:ρ.le ρ') {a:BA} {v:Value} (hv:Zp ρ a v):Zp ρ' a v:=by
 induction hv generalizing ρ' with
 | undef v=>exact .undef v
 | bool b=>exact .bool b
 | int k n=>exact .int k n
 | str s=>exact .str s
 | agg cs vs hl _ ih=>exact .agg cs vs hl fun i h1 h2=>ih i h1 h2 h
 | tup cs vs hl _ ih=>exact .tup cs vs hl fun i h1 h2=>ih i h1 h2 h
 | ptr b off l e=>exact .ptr b off l (h.1 _ _ e)
 | nilp=>exact .nilp
 | sl b off len cap l c e hc aC=>exact .sl b off len cap l c (h.1 _ _ e) hc aC
 | nils=>exact .nils
 | sla b sz off len cap l c e hc aC=>exact .sla b sz off len cap l c (h.1 _ _ e) hc aC
 | slan b sz off cap=>exact .slan b sz off cap
 | slv b sz off len l c e aC=>exact .slv b sz off len l c (h.1 _ _ e) aC
 | slve b sz off blk base c=>exact .slve b sz off blk base c
 | slvn b sz off=>exact .slvn b sz off
 | epa b sz i fo l e=>exact .epa b sz i fo l (h.1 _ _ e)
 | fn f cs vs hl _ ih=>exact .fn f cs vs hl fun i h1 h2=>ih i h1 h2 h
 | nilf=>exact .nilf
 | fnb f cs vs hl _ ih=>exact .fnb f cs vs hl fun i h1 h2=>ih i h1 h2 h
 | yld j l e=>exact .yld j l (h.2.2 _ _ e)
 | ifc t a v _ ih=>exact .ifc t a v (ih h)
 | nili=>exact .nili
 | dat len get blk base sz cap val aH hsz hv hh ih=>exact .dat len get blk base sz cap val aH hsz (fun i j hi hj=>ih i j hi hj h.bare) fun i j hi hj=>(hh i j hi hj).mono h
 | datn get=>exact .datn get
 | datz get a c=>exact .datz get a c
 | nnl len get a c _ ih=>exact .nnl len get a c (ih h)
 | mapr b l e=>exact .mapr b l (h.1 _ _ e)
 | ifbt=>exact .ifbt
 | ifbf t v=>exact .ifbf t v
 | dptr cs blk base val hv hh ih=>exact .dptr cs blk base val (fun j hj=>ih j hj h.bare) fun j hj=>(hh j hj).mono h
theorem Zp.unN {ρ:BB} {a:BA} {v:Value} (h:Zp ρ a v):Zp ρ (unN a) v:=by
 cases h <;> first | assumption | (constructor <;> assumption)
theorem Zp.oneCell {ρ:BB} {a:BA} {v:Value} (h:Zp ρ a v) (hs:Kp a=true):v.oneCell'=true:=by
 cases h <;> first | rfl | (simp [Kp] at hs)
theorem Zp.cells {ρ:BB} {a:BA} {v:Value} (h:Zp ρ a v) (hu:Vp a=true):Yg ρ a.cells v.cells:=by
 cases h
 case agg cs vs hl hh=>exact ⟨hl,hh⟩
 all_goals first
  | (simp [Vp] at hu;done)
  | (refine ⟨rfl,fun i h1 h2=> ?_⟩
     have h0:i=0:=by simp [BA.cells] at h1;exact h1
     subst h0;simp only [BA.cells,Value.cells,List.getElem_cons_zero,List.getElem_toArray];constructor <;> assumption)
theorem Zp.cells_oneCell {ρ:BB} {cs:List BA} {vs:Array Value} (h:Yg ρ cs vs) (hs:cs.all Kp=true): ∀v∈vs.toList,v.oneCell'=true:=by
 intro v hv;obtain ⟨i,hi,rfl⟩:=AP hv;have h2:i<vs.size:=by grind
 have h1:i<cs.length:=by rw [h.1];exact h2
 simpa using (h.2 i h1 h2).oneCell (Ao.1 hs _ (Az h1))
def B9 (es:Array MapEntry) (ck:Nat):Prop:=es.toList.map (·.born)=List.range es.size/\ck=es.size
def Kk (ρ:BB) (ty:TypeId) (blk:Nat) (r:List BA):Bw->Option Obj->Prop
 | .mi l,o=>r=[]/\ ∃es ck,o=some (.map es ck)/\es.toList.map (fun e=>(e.key,e.val))=(l.map fun p=>(.string ⟨p.1.toArray⟩,.int .i64 p.2))/\B9 es ck
 | .mb l,o=>r=[]/\ ∃es ck,o=some (.map es ck)/\es.toList.map (fun e=>(e.key,e.val))=(l.map fun p=>(.string ⟨p.1.toArray⟩,.bool p.2))/\B9 es ck
 | .it s pos,o=>r=[]/\o=some (.stringIter ⟨s.toArray⟩ pos)
 | .bld,o=> ∃buf v p,r=[buf]/\o=some (.cells #[.pointer p,v] ty (0,0))/\Zp ρ buf v/\(p=none\/p=some ⟨blk,0,none⟩)
 | .mit since seen last,o=> ∃m mb,r=[m]/\Zp ρ m (.map (some mb))/\o=some (.mapIter (some mb) since ⟨seen⟩ last)
theorem Kk.mono {ρ ρ':BB} (h:ρ.le ρ') {ty:TypeId} {blk:Nat} {r:List BA} {o:Bw} {x:Option Obj} (k:Kk ρ ty blk r o x):Kk ρ' ty blk r o x:=by
 cases o with
 | bld=>obtain ⟨buf,v,p,h1,h2,h3,h4⟩:=k;exact ⟨buf,v,p,h1,h2,h3.mono h,h4⟩
 | mit a b c=>obtain ⟨m,mb,h1,h2,h3⟩:=k;exact ⟨m,mb,h1,h2.mono h,h3⟩
 | _=>exact k
structure Vb (ρ:BB) (w:World) (ab:BG) (l:BM):Prop where
 typ: ∀cs el z,w.heap[l.blk]? =some (.cells cs el z)->el=ab.ty
 n:l.n=ab.cells.length
 tot:l.n<=l.tot
 arr: ∀A,ab.arr=some A->ab.cells=rows A.n A.get/\1<=A.sz/\ ∀i,i<A.n->(A.get i).length =A.sz
 cells: ∃cs el,w.heap[l.blk]? =some (.cells cs el (0,0))/\l.base+l.tot<=cs.size/\
  ∀(i:Nat) (h:i<ab.cells.length),∃v,cs[l.base+i]? =some v/\Zp ρ ab.cells[i] v
inductive Ya (ρ:BB) (w:World) (ab:BG) (l:BM):Prop where
 | plain (h:Vb ρ w ab l)
 | obj (o:Bw) (r:List BA) (ty:TypeId) (h:ab=⟨.obj o::r,ty,none⟩) (hn:l=⟨l.blk,0,r.length+1,r.length+1⟩) (hh:Kk ρ ty l.blk r o w.heap[l.blk]?)
theorem Ya.at {ρ:BB} {w:World} {ab:BG} {l:BM} (h:Ya ρ w ab l) (hn:ab.isObj=false):Vb ρ w ab l:=by
 cases h with
 | plain h=>exact h
 | obj o r ty h _ _=>subst h;cases hn
theorem Ya.rows {ρ:BB} {w:World} {ab:BG} {l:BM} {A:B2} (h:Ya ρ w ab l) (hn:ab.arr=some A):Vb ρ w ab l:=by
 cases h with
 | plain h=>exact h
 | obj o r ty h _ _=>subst h;cases hn
theorem Ya.arr {ρ:BB} {w:World} {ab:BG} {l:BM} (h:Ya ρ w ab l) (A:B2) (hA:ab.arr=some A):ab.cells=Go.Am.rows A.n A.get/\1<=A.sz/\ ∀i,i<A.n->(A.get i).length =A.sz:=(h.rows hA).arr A hA
theorem Ya.n {ρ:BB} {w:World} {ab:BG} {l:BM} (h:Ya ρ w ab l):l.n=ab.cells.length:=by
 cases h with
 | plain h=>exact h.n
 | obj o r ty h hn _=>subst h;rw [hn];rfl
theorem Ya.tot {ρ:BB} {w:World} {ab:BG} {l:BM} (h:Ya ρ w ab l):l.n<=l.tot:=by
 cases h with
 | plain h=>exact h.tot
 | obj o r ty h hn _=>rw [hn];exact Ah _
theorem Ya.some {ρ:BB} {w:World} {ab:BG} {l:BM} (h:Ya ρ w ab l): ∃o,w.heap[l.blk]? =some o:=by
 cases h with
 | plain h=>obtain ⟨_,_,_,_,cs,el,h1,_⟩:=h;exact ⟨_,h1⟩
 | obj o r ty h hn hh=>
  cases o with
  | mi l=>obtain ⟨_,es,ck,e,_⟩:=hh;exact ⟨_,e⟩
  | mb l=>obtain ⟨_,es,ck,e,_⟩:=hh;exact ⟨_,e⟩
  | it s pos=>exact ⟨_,hh.2⟩
  | bld=>obtain ⟨_,_,_,_,e,_⟩:=hh;exact ⟨_,e⟩
  | mit a b c=>obtain ⟨_,_,_,_,e⟩:=hh;exact ⟨_,e⟩
theorem Hs {cs:List BA} (h:cs.all Kp=true) (ty:TypeId) (a:Option B2):(⟨cs,ty,a⟩:BG).isObj =false:=by
 unfold BG.isObj;split
 .rename_i e;simp only [BG.mk.injEq] at e;obtain ⟨rfl,_⟩:=e;simp [Kp] at h
 .rfl
theorem Hr {ρ:BB} {cs:List BA} (h: ∀i (h:i<cs.length),∃v,Zp ρ cs[i] v) (ty:TypeId) (a:Option B2):(⟨cs,ty,a⟩:BG).isObj =false:=by
 unfold BG.isObj;split
 .rename_i e;simp only [BG.mk.injEq] at e;obtain ⟨rfl,_⟩:=e;obtain ⟨v,hv⟩:=h 0 (by simp);cases hv
 .rfl
theorem Jy {ρ:BB} {cs:List BA} (h: ∀v∈cs,(∃u,Zp ρ v u)\/Kp v=true) (ty:TypeId) (a:Option B2):(⟨cs,ty,a⟩:BG).isObj =false:=by
 unfold BG.isObj;split
 .rename_i e;simp only [BG.mk.injEq] at e;obtain ⟨rfl,_⟩:=e;rcases h _ (A2 ..) with ⟨v,hv⟩ | hv <;> cases hv
 .rfl
theorem Vb.mem {ρ:BB} {w:World} {ab:BG} {l:BM} (h:Vb ρ w ab l): ∀v∈ab.cells,∃u,Zp ρ v u:=fun v hv=>by obtain ⟨i,hi,rfl⟩:=AP hv;obtain ⟨_,_,_,_,cs,el,_,_,h3⟩:=h;obtain ⟨u,_,hu⟩:=h3 i hi;exact ⟨u,hu⟩
theorem Yg.mem {ρ:BB} {cs:List BA} {vs:Array Value} (h:Yg ρ cs vs): ∀v∈cs,∃u,Zp ρ v u:=fun v hv=>by obtain ⟨i,hi,rfl⟩:=AP hv;exact ⟨_,h.2 i hi (by rw [<-h.1];exact hi)⟩
theorem Hu {n:Nat} {g:Nat->List BA} {v:BA} (h:v∈rows n g): ∃k,k<n/\v∈g k:=by unfold rows at h;obtain ⟨k,hk,hv⟩:=List.mem_flatMap.1 h;exact ⟨k,At.1 hk,hv⟩
theorem Vb.noObj {ρ:BB} {w:World} {ab:BG} {l:BM} (h:Vb ρ w ab l):ab.isObj=false:=by
 obtain ⟨_,_,_,_,cs,el,_,_,h3⟩:=h;unfold BG.isObj;split
 .obtain ⟨v,_,hv⟩:=h3 0 (by simp);cases hv
 .rfl
def Cc :Array Value:=((List.range 20).map fun i=>Value.int .u64 ((10 ^ i:Nat):Int)).toArray
structure C9 (H:B8):Prop where
 err: ∀b,b∈DZ-> ∃v,Bs H b 0 v/\(v=.nilIface \/ ∃t u,v=.iface t u)
 pow: ∀b,b∈GX-> ∃el fz,H b=some (.cells Cc el fz)
theorem C9.mono {H H':B8} (h: ∀k o,H k=some o->H' k=some o) (k:C9 H):C9 H':=
 ⟨fun b hb=>by
  obtain ⟨v,⟨cs,el,fz,h1,h2⟩,h3⟩:=k.err b hb;exact ⟨v,⟨cs,el,fz,h _ _ h1,h2⟩,h3⟩,fun b hb=>by
  obtain ⟨el,fz,e⟩:=k.pow b hb;exact ⟨el,fz,h _ _ e⟩⟩
structure BC (ρ:BB) (mem:BI) (next:Nat) (w:World):Prop where
 dom: ∀b l,ρ b=some l->b<next
 inj: ∀b b' l l',ρ b=some l->ρ b'=some l'->l.blk=l'.blk->(Zb mem b).isSome =true->(Zb mem b').isSome =true->b=b'
 blk: ∀b l ab,ρ b=some l->Zb mem b=some ab->Ya ρ w ab l
 old: ∀k o,ρ.fz k=some o->w.heap[k]? =some o
 sep: ∀b l,ρ b=some l->(Zb mem b).isSome =true->ρ.fz l.blk=none
 real: ∀b l,ρ b=some l->l.blk<w.heap.size
 bd: ∀b,next<=b->Zb mem b=none
 ldom:(∀j l,ρ.lp j=some l->j<next)/\C9 ρ.fz
structure Ev (ρ ρ':BB) (floor:Nat) (m:BI) (next:Nat) (m':BI) (next':Nat) (w w':World):Prop where
 ext:ρ.le ρ'
 new: ∀b,b<next->ρ' b=ρ b
 nxt:next<=next'
 unborn: ∀b,b<next->ρ b=none-> ∀cs ty,Zb m b=some ⟨cs,ty,none⟩->Zb m' b=some ⟨cs,ty,none⟩
 frame: ∀k o,w.heap[k]? =some o->(∀b l,ρ b=some l->floor<=b->l.blk≠k)->w'.heap[k]? =some o
 fresh: ∀b l,next<=b->ρ' b=some l->w.heap.size<=l.blk\/ ∃b0 l0,ρ b0=some l0/\floor<=b0/\l0.blk=l.blk
 size:w.heap.size<=w'.heap.size
 os:w'.os=w.os
 tape:w'.tape=w.tape
 output:w'.output=w.output
 still: ∀k,k<w.heap.size->ρ'.fz k=ρ.fz k
theorem Ev.refl (ρ:BB) (floor:Nat) (m:BI) (next:Nat) (w:World) (hd: ∀b l,ρ b=some l->b<next):Ev ρ ρ floor m next m next w w:=
 ⟨BB.le_refl _,fun _ _=>rfl,Ah _,fun _ _ _ _ _ h=>h,fun _ _ h _=>h,fun b l hb h=>absurd (hd b l h) (by omega),Ah _,rfl,rfl,rfl,fun _ _=>rfl⟩
theorem Ev.drawn {ρ ρ':BB} {floor:Nat} {m m':BI} {next next':Nat} {w w':World} (h:Ev ρ ρ' floor m next m' next' {w with drawn:=w.drawn+1} w'):Ev ρ ρ' floor m next m' next' w w':=
 ⟨h.ext,h.new,h.nxt,h.unborn,h.frame,h.fresh,h.size,h.os,h.tape,h.output,h.still⟩
theorem Ev.trans {ρ ρ1 ρ2:BB} {floor:Nat} {m m1 m2:BI} {n n1 n2:Nat} {w w1 w2:World} (h:Ev ρ ρ1 floor m n m1 n1 w w1) (k:Ev ρ1 ρ2 floor m1 n1 m2 n2 w1 w2):Ev ρ ρ2 floor m n m2 n2 w w2 where
 ext:=BB.le_trans h.ext k.ext
 new b hb:=by rw [k.new b (Av hb h.nxt),h.new b hb]
 nxt:=Ay h.nxt k.nxt
 unborn b hb e cs ty hm:=k.unborn b (Av hb h.nxt) (by rw [h.new b hb];exact e) cs ty (h.unborn b hb e cs ty hm)
 frame i o hi hf:=by
  refine k.frame i o (h.frame i o hi hf) fun b l hl hfl hlb=> ?_;by_cases hb:b<n
  .rw [h.new b hb] at hl;grind
  .have hlt:i<w.heap.size:=(Al.1 hi).1;rcases h.fresh b l (by omega) hl with h1 | ⟨b0,l0,e0,f0,g0⟩;all_goals grind
 fresh b l hb hl:=by
  by_cases hb1:b<n1
  .rw [k.new b hb1] at hl;exact h.fresh b l hb hl
  .rcases k.fresh b l (by omega) hl with h1 | ⟨b0,l0,e0,f0,g0⟩
   .exact .inl (Ay h.size h1)
   .by_cases hb0:b0<n
    .rw [h.new b0 hb0] at e0;grind
    .rcases h.fresh b0 l0 (by omega) e0 with h1 | ⟨b3,l3,e3,f3,g3⟩;all_goals grind
 size:=Ay h.size k.size
 os:=k.os.trans h.os
 tape:=k.tape.trans h.tape
 output:=k.output.trans h.output
 still i hi:=(k.still i (Av hi h.size)).trans (h.still i hi)
theorem Ev.lower {ρ ρ':BB} {floor floor':Nat} {m m':BI} {n n':Nat} {w w':World} (h:Ev ρ ρ' floor' m n m' n' w w') (hf:floor<=floor'):Ev ρ ρ' floor m n m' n' w w':=
 ⟨h.ext,h.new,h.nxt,h.unborn,fun k o e g=>h.frame k o e fun b l hl hfl=>g b l hl (Ay hf hfl),
  fun b l hb hl=>(h.fresh b l hb hl).imp id fun ⟨b0,l0,e,f,g⟩=>⟨b0,l0,e,Ay hf f,g⟩,h.size,h.os,h.tape,h.output,h.still⟩
theorem BC.drawn {ρ:BB} {mem:BI} {next:Nat} {w:World} (h:BC ρ mem next w) (n:Nat):BC ρ mem next {w with drawn:=n}:=
 ⟨h.dom,h.inj,fun b l ab e f=>match h.blk b l ab e f with
  | .plain ⟨q,a,t,r,c⟩=>.plain ⟨q,a,t,r,c⟩
  | .obj o r ty q n z=>.obj o r ty q n z,h.old,h.sep,h.real,h.bd,h.ldom⟩
def Yq (ρ:BB) (b:Nat) (l:BM):BB:=⟨fun k=>if k=b then some l else ρ k,ρ.fz,ρ.lp⟩
theorem Yb (ρ:BB) (b:Nat) (l:BM) (k:Nat):Yq ρ b l k=if k=b then some l else ρ k:=rfl
theorem Xb {ρ:BB} {b:Nat} {l:BM} (h:ρ b=none):ρ.le (Yq ρ b l):=⟨fun k l' e=>by
 grind [Yb],fun _ _ e=>e,fun _ _ e=>e⟩
theorem BC.none_next {ρ:BB} {mem:BI} {next:Nat} {w:World} (h:BC ρ mem next w):ρ next=none:=by
 cases e:ρ next with
 | none=>rfl
 | some l=>exact absurd (h.dom _ _ e) (Nat.lt_irrefl _)
theorem Ya.world {ρ ρ':BB} {w w':World} {ab:BG} {l:BM} (h:Ya ρ w ab l) (hr:ρ.le ρ') (hw:w'.heap[l.blk]? =w.heap[l.blk]?):Ya ρ' w' ab l:=by
 cases h with
 | plain h=>obtain ⟨ty,n,t,ar,cs,el,h1,h2,h3⟩:=h;exact .plain ⟨by rw [hw];exact ty,n,t,ar,cs,el,by grind,h2,fun i hi=>let ⟨v,e,f⟩:=h3 i hi;⟨v,e,f.mono hr⟩⟩
 | obj o r ty h n z=>exact .obj o r ty h n (by rw [hw];exact z.mono hr)
theorem BC.new {ρ:BB} {mem:BI} {next:Nat} {w:World} (h:BC ρ mem next w) (cs:List BA) (ty:TypeId) (vs:Array Value) (el:TypeId) (hH: ∀k,w.heap.size<=k->ρ.fz k=none)
  (hn:cs.length<=vs.size) (hv: ∀(i:Nat) (h1:i<cs.length) (h2:i<vs.size),Zp ρ cs[i] vs[i]) (hel:el=ty:=by rfl):
  BC (Yq ρ next ⟨w.heap.size,0,cs.length,vs.size⟩) (Zt mem next (some ⟨cs,ty,none⟩)) (next+1) {w with heap:=w.heap.push (.cells vs el)}:=by
 have hle:=Xb (l:=⟨w.heap.size,0,cs.length,vs.size⟩) h.none_next;have aG: ∀b l,Yq ρ next ⟨w.heap.size,0,cs.length,vs.size⟩ b=some l->(b=next/\l=⟨w.heap.size,0,cs.length,vs.size⟩)\/(b≠next/\ρ b=some l):=fun b l e=>by
  grind [Yb]
 refine ⟨fun b l e=> ?_,fun b b' l l' e e' hbl hs hs'=> ?_,fun b l ab e hm=> ?_,fun k o e=> ?_,fun b l e=> ?_,fun b l e=> ?_,fun b hb=>by rw [Zx _ _ (by omega)];exact h.bd b (by omega),⟨fun j l e=>AE (h.ldom.1 j l e),h.ldom.2⟩⟩
 .rcases aG b l e with ⟨rfl,_⟩ | ⟨_,e⟩
  .omega
  .have:=h.dom b l e;omega
 .rcases aG b l e with ⟨hb,hl⟩ | ⟨hb,e2⟩ <;> rcases aG b' l' e' with ⟨hb',hl'⟩ | ⟨hb',e2'⟩
  .rw [hb,hb']
  .have:=h.real b' l' e2';grind
  .have:=h.real b l e2;grind
  .rw [Zx _ _ hb] at hs;rw [Zx _ _ hb'] at hs';exact h.inj b b' l l' e2 e2' hbl hs hs'
 .rcases aG b l e with ⟨rfl,rfl⟩ | ⟨hb,e⟩
  .rw [Zq] at hm;obtain rfl:=Ab hm;refine .plain ⟨by simp [hel],rfl,hn,(fun A e=>by cases e),vs,el,by simp,by simp,fun i hi=>⟨vs[i]'(by grind),by grind,(hv i hi (by grind)).mono hle⟩⟩
  .rw [Zx _ _ hb] at hm;refine (h.blk b l ab e hm).world hle ?_;have:=h.real b l e
   grind
 .have hk:=h.old k o e
  grind
 .intro hs;rcases aG b l e with ⟨rfl,rfl⟩ | ⟨hne,e⟩
  .exact hH _ (Ah _)
  .rw [Zx _ _ hne] at hs;exact h.sep b l e hs
 .rcases aG b l e with ⟨rfl,rfl⟩ | ⟨_,e⟩
  .simp
  .have:=h.real b l e;simp;omega
theorem Ev.ofNew {ρ:BB} {mem:BI} {next:Nat} {w:World} (h:BC ρ mem next w) (floor:Nat) (l:BM) (o:Option BG) (ob:Obj) (hl:w.heap.size<=l.blk):
  Ev ρ (Yq ρ next l) floor mem next (Zt mem next o) (next+1) w {w with heap:=w.heap.push ob} where
 ext:=Xb h.none_next
 new b hb:=by simp [Yq,AM hb]
 nxt:=A9 _
 unborn b hb _ cs ty hm:=by grind [Zx]
 frame k o hk _:=by
  grind
 fresh b l' hb e:=by
  rw [Yb] at e;by_cases hbn:b=next
  .grind
  .rw [Aj hbn] at e;have:=h.dom b l' e;omega
 size:=by simp
 os:=rfl
 tape:=rfl
 output:=rfl
 still _ _:=rfl
theorem Xw {α:Type} (l c:List α) (off i:Nat) (h:off+c.length<=l.length):
  (l.take off++c++l.drop (off+c.length))[i]? =if i<off then l[i]? else if i<off+c.length then c[i - off]? else l[i]? :=by grind
theorem Wo {α:Type} (l c:List α) (off:Nat) (h:off+c.length<=l.length):(l.take off++c++l.drop (off+c.length)).length =l.length:=by grind
theorem Vb.splice {ρ:BB} {w:World} {ab:BG} {l:BM} (h:Vb ρ w ab l) {off:Nat} {cs:List BA} {vs:List Value} (aC:vs.length=cs.length) (aJ:off+cs.length<=ab.cells.length)
  (hv: ∀(i:Nat) (h1:i<cs.length) (h2:i<vs.length),Zp ρ cs[i] vs[i]) (ty:TypeId) (a:Option B2):(⟨ab.cells.take off++cs++ab.cells.drop (off+cs.length),ty,a⟩:BG).isObj =false:=by
 obtain ⟨_,_,_,_,cur,el,_,_,h3⟩:=h;refine Hr (ρ:=ρ) (fun i hi=> ?_) ty a;have hg:=Xw ab.cells cs off i aJ;have hi':=hi;rw [Wo _ _ _ aJ] at hi';rw [Ai hi] at hg;by_cases h1:i<off
 .rw [Ap h1,Ai hi'] at hg;obtain ⟨v,_,hv⟩:=h3 i hi';exact ⟨v,by rw [Ab hg];exact hv⟩
 .rw [Aj h1] at hg;by_cases h2:i<off+cs.length
  .rw [Ap h2,Ai (by omega)] at hg;exact ⟨_,by rw [Ab hg];exact hv (i - off) (by omega) (by omega)⟩
  .rw [Aj h2,Ai hi'] at hg;obtain ⟨v,_,hv⟩:=h3 i hi';exact ⟨v,by rw [Ab hg];exact hv⟩
theorem BC.write {ρ:BB} {mem:BI} {next:Nat} {w:World} (h:BC ρ mem next w) {b:Nat} {l:BM} {ab:BG} (hb:ρ b=some l) (hm:Zb mem b=some ab) {off:Nat} {cs:List BA} {vs:List Value}
  (hno:ab.isObj=false) (aC:vs.length=cs.length) (aJ:off+cs.length<=ab.cells.length) (hv: ∀(i:Nat) (h1:i<cs.length) (h2:i<vs.length),Zp ρ cs[i] vs[i]):
  ∃cur el,w.heap[l.blk]? =some (.cells cur el (0,0))/\l.base+off+vs.length<=cur.size/\
   BC ρ (Zt mem b (some ⟨ab.cells.take off++cs++ab.cells.drop (off+cs.length),ab.ty,none⟩)) next (w.setRow l.blk (cur.toList.take (l.base+off)++vs++cur.toList.drop (l.base+off+vs.length)).toArray):=by
 obtain ⟨hty,hn,ht,har,cur,el,h1,h2,h3⟩:=(h.blk b l ab hb hm).at hno;have hfc:l.base+off+vs.length<=cur.toList.length:=by simp;omega
 refine ⟨cur,el,h1,by grind,h.dom,fun c c' m m' e e' he hs hs'=> ?_,fun c m ac e hc=> ?_,fun k o e=> ?_,fun c m e hs=>h.sep c m e (by
  grind [Zx]),fun c m e=> ?_,fun c hc=>by have:=h.dom b l hb;rw [Zx _ _ (by omega)];exact h.bd c hc,h.ldom⟩
 .refine h.inj c c' m m' e e' he ?_ ?_;all_goals grind [Zx]
 .by_cases hcb:c=b
  .subst hcb;rw [Zq] at hc;obtain rfl:=Ab hc;rw [hb] at e;obtain rfl:=Ab e;refine .plain ⟨by rw [setRow_heap w l.blk cur _ el (0,0) h1];grind,by grind,ht,(fun A e=>by cases e),_,el,setRow_heap w l.blk cur _ el (0,0) h1,?_,fun i hi=> ?_⟩
   .grind
   .rw [Wo _ _ _ aJ] at hi;have hg:=Xw ab.cells cs off i aJ;rw [Ai (by grind)] at hg;simp only [List.getElem?_toArray];rw [Xw _ _ _ _ hfc]
    grind
  .rw [Zx _ _ hcb] at hc;refine (h.blk c m ac e hc).world (BB.le_refl _) (setRow_other w l.blk m.blk _ fun heq=>hcb ?_);exact h.inj c b m l e hb heq (by rw [hc];rfl) (by rw [hm];rfl)
 .have hk:=h.old k o e;rw [setRow_other]
  .exact hk
  .intro heq;have:=h.sep b l hb (by rw [hm];rfl)
   grind
 .rw [setRow_size];exact h.real c m e
theorem Ev.ofWrite {ρ:BB} {mem:BI} {next:Nat} {w:World} (h:BC ρ mem next w) {floor b:Nat} {l:BM} (hb:ρ b=some l) (hf:floor<=b) (o:Option BG) (cs:Array Value):
  Ev ρ ρ floor mem next (Zt mem b o) next w (w.setRow l.blk cs) where
 ext:=BB.le_refl _
 new _ _:=rfl
 nxt:=Ah _
 unborn k _ e cs ty hm:=by grind [Zx]
 frame k o hk hfr:=by
  grind [setRow_other]
 fresh k m hk e:=by have:=h.dom k m e;omega
 size:=by simp_all
 os:=rfl
 tape:=rfl
 output:=rfl
 still _ _:=rfl
structure Yv (ρ:BB) (env:T BA) (n:Nat) (tmps:Array Value):Prop where
 size:tmps.size=n
 get: ∀i,Zp ρ (T.get .undef env i) (tmps.getD i undef)
 out: ∀i,n<=i->T.get .undef env i=.undef
theorem Yv.mono {ρ ρ':BB} {env:T BA} {n:Nat} {tmps:Array Value} (h:Yv ρ env n tmps) (hr:ρ.le ρ'):Yv ρ' env n tmps:=
 ⟨h.size,fun i=>(h.get i).mono hr,h.out⟩
section
variable {P:Program} {ρ:BB}
theorem Wf {t:TypeId} {r:Bool} (h:F5 P t=some r) (w:World):(isAgg t).run P w=.ok r w:=by
 unfold F5 at h;cases hu:P.underlying t with
 | none=>grind
 | some d=>cases d <;> simp [hu] at h <;> subst h <;> simp [isAgg,run_underlying hu]
theorem Zj {t:TypeId} {i:TypeInfo} (h:P.info? t=some i) (w:World):(sizeOf t).run P w=.ok i.size w:=by simp [sizeOf,run_typeInfo w h]
theorem Vk {cs p:List BA} {off n:Nat} (h:cut cs off n=some p):p=(cs.drop off).take n/\p.length=n/\(n=0\/off+n<=cs.length):=by
 unfold cut at h;dsimp only at h;cases hb:Nat.beq ((cs.drop off).take n).length n with
 | false=>grind
 | true=>
  simp only [hb,Aq,Ac] at h;have hl:=Ae hb
  grind
theorem Jl {cs p:List BA} {off n:Nat} (h:cut cs off n=some p) (i:Nat) (hi:i<p.length): ∃h2:off+i<cs.length,p[i]=cs[off+i]:=by
 obtain ⟨rfl,hl,_⟩:=Vk h
 grind
theorem Xu {t:TypeId} {cs:List BA} {vs:Array Value} {off:Nat} {v:BA} (h:We P t cs off=some v) (hr:Yg ρ cs vs):
  ∃u,Zp ρ v u/\ ∀w,(part t vs off).run P w=.ok u w:=by
 unfold We at h;split at h
 .rename_i i ha hi;simp only [Af] at h;obtain ⟨p,hp,rfl⟩:=h;obtain ⟨_,hl,hle⟩:=Vk hp;refine ⟨.agg (vs.extract off (off+i.size)),.agg _ _ ?_ ?_,fun w=> ?_⟩
  .have:=hr.1;simp;omega
  .intro j h1 h2;obtain ⟨h3,e⟩:=Jl hp j h1;rw [e];have h4:off+j<vs.size:=by grind
   simpa using hr.2 (off+j) h3 h4
  simp_all [part,Wf,Zj]
 .rename_i i ha hi;obtain ⟨hlt,rfl⟩:=Au.1 h;have h4:off<vs.size:=by rw [<-hr.1];exact hlt
  exact ⟨vs[off],hr.2 off hlt h4,fun w=>by simp_all [part,Wf]⟩
 .cases h
theorem Jj {rec:TypeId->BA->BA->Option Bool} {dd:Nat} {e:TypeId} {c:Nat}
  (IH: ∀x y r u u',rec e x y=some r->Zp ρ x u->Zp ρ y u'-> ∀w,(Op.equalIn dd e u u').run P w=.ok r w)
  {xs ys:List BA} {us us':Array Value} (hx:Yg ρ xs us) (hy:Yg ρ ys us'): ∀(is:List Nat) (r:Bool),
  Vj rec P xs ys (is.map fun j=>(e,j*c))=some r-> ∀w,(Op.eqItems dd e c us us' is).run P w=.ok r w
 | [],r,h,w=>by simp_all [Vj,Op.eqItems]
 | i::is,r,h,w=>by
  simp only [AU,Vj] at h;split at h
  .rename_i a b ha hb;split at h
   .rename_i e1 f1 he hf;obtain rfl:=Ab h;obtain ⟨u,hu,pu⟩:=Xu ha hx;obtain ⟨u',hu',pu'⟩:=Xu hb hy;have q:=IH _ _ _ _ _ he hu hu' w;have r:=Jj IH hx hy is f1 hf w;cases e1 <;> simp [Op.eqItems,pu,pu',q,r]
   .cases h
  .cases h
theorem Uq {rec:TypeId->BA->BA->Option Bool} {dd:Nat}
  (IH: ∀e x y r u u',rec e x y=some r->Zp ρ x u->Zp ρ y u'-> ∀w,(Op.equalIn dd e u u').run P w=.ok r w)
  {xs ys:List BA} {us us':Array Value} (hx:Yg ρ xs us) (hy:Yg ρ ys us'): ∀(fs:List Field) (r:Bool),fs.any (fun f=>f.name == "_")=false->
  Vj rec P xs ys (fs.map fun f=>(f.type,f.offset))=some r-> ∀w,(Op.eqFields dd us us' fs).run P w=.ok r w
 | [],r,_,h,w=>by simp_all [Vj,Op.eqFields]
 | f::fs,r,hn,h,w=>by
  simp only [List.any_cons,AW] at hn;simp only [AU,Vj] at h;split at h
  .rename_i a b ha hb;split at h
   .rename_i e1 f1 he hf;obtain rfl:=Ab h;obtain ⟨u,hu,pu⟩:=Xu ha hx;obtain ⟨u',hu',pu'⟩:=Xu hb hy;have q:=IH _ _ _ _ _ _ he hu hu' w;have r:=Uq IH hx hy fs f1 hn.2 hf w;have hne:f.name≠ "_" :=(by simpa using hn.1);cases e1 <;> simp [Op.eqFields,hne,pu,pu',q,r]
   .cases h
  .cases h
theorem Jg (k:Nat): ∀(d:Nat) (t:TypeId) (x y:BA) (r:Bool) (u u':Value),Cn P d t x y=some r->Zp ρ x u->Zp ρ y u'-> ∀w,(Op.equalIn (k+d) t u u').run P w=.ok r w
 | 0,_,_,_,_,_,_,h,_,_,_=>by simp [Cn] at h
 | d + 1,t,x,y,r,u,u',h,hx,hy,w=>by
  unfold Cn at h;cases hu:P.underlying t with
  | none=>grind
  | some ty=>
   rw [<-AA];cases ty <;> simp only [hu] at h <;> try (cases h;done)
   case bool=>
    split at h
    .cases hx;cases hy;grind [run_equalIn_bool']
    .cases h
   case int q=>
    split at h
    .split at h
     .rename_i hk;subst hk;cases hx;cases hy;grind [run_equalIn_int]
     .cases h
    .cases h
   case string=>
    split at h
    .cases hx;cases hy;grind [run_equalIn_string,ByteArray.toList_eq]
    .cases h
   case array n e=>
    split at h
    .rename_i xs ys i hi;cases hx with
     | agg _ us hl hh=>
      cases hy with
      | agg _ us' hl' hh'=>rw [run_equalIn_array w _ us us' hu hi];have hc:P.cellsOf e=i.size:=(by simp [Program.cellsOf,hi]);rw [hc];exact Jj (fun x y r u u' e1 e2 e3=>Jg k d e x y r u u' e1 e2 e3) ⟨hl,hh⟩ ⟨hl',hh'⟩ _ _ h w
    .cases h
   case struct fs=>
    split at h
    .rename_i xs ys;cases hs:P.stoodInHeld t with
     | true=>grind
     | false=>
      cases hn:fs.toList.any (fun f=>f.name == "_") with
      | true=>grind
      | false=>
       rw [hs,hn] at h;simp only [Ax] at h;cases hx with
       | agg _ us hl hh=>
        cases hy with
        | agg _ us' hl' hh'=>have hfs:P.fieldsOf t=fs:=(by simp [Program.fieldsOf,hu]);rw [run_equalIn_struct w _ t us us' (by grind) hs,hfs];exact Uq (fun e x y r u u' e1 e2 e3=>Jg k d e x y r u u' e1 e2 e3) ⟨hl,hh⟩ ⟨hl',hh'⟩ _ _ hn h w
    .cases h
theorem Hh {op:BinOp} {k:IntKind} {a b n:Int} (h:Cq op k a b=some n):Op.intBits op k a b=pure (.int k n):=by
 cases op <;> simp only [Cq] at h <;> first | (cases h;done) | (obtain rfl:=Ab h;rfl)
theorem Iq (op:BinOp) (t:TypeId) (x y:Operand) (k k':IntKind) (a b:Int) (w:World):(eqGuard op t x y (.int k a) (.int k' b)).run P w=.ok () w:=by cases op <;> simp [eqGuard]
theorem IR {op:BinOp} {t:TypeId} {x y:BA} {v:BA} {b:Bool} {u u':Value} (h:Co P op t x y=some (v,b)) (hb:b=true) (hx:Zp ρ x u) (hy:Zp ρ y u') (ox oy:Operand):
  ∃z,Zp ρ v z/\ ∀w,(do eqGuard op t ox oy u u';binOp op t u u':Sem Value).run P w=.ok z w:=by
 subst hb;unfold Co at h;split at h
 .rename_i k a k' b;cases hx;cases hy;have g:=fun w=>Iq (P:=P) op t ox oy k k' a b w;split at h
  .simp only [Ac,Aa,AB,A0] at h;obtain ⟨rfl,h0⟩:=h;exact ⟨_,.int _ _,fun w=>by simp [g,binOp,Op.shift,h0]⟩
  .simp only [Ac,Aa,AB,A0] at h;obtain ⟨rfl,h0⟩:=h;exact ⟨_,.int _ _,fun w=>by simp [g,binOp,Op.shift,h0]⟩
  .rename_i hshl hshr;split at h
   .rename_i hk;subst hk;have fin: ∀n,Cq op k a b=some n-> ∃z,Zp ρ (.int k n) z/\ ∀w,(do eqGuard op t ox oy (.int k a) (.int k b);binOp op t (.int k a) (.int k b):Sem Value).run P w=.ok z w:=by
     intro n hn;have e:=Hh hn;refine ⟨_,.int _ _,fun w=> ?_⟩;cases op <;> simp only [Cq] at hn <;> first | (cases hn;done) | (simp [g,binOp,e];done)
    cases op <;> dsimp only at h
    case shl=>grind
    case shr=>grind
    case quo=>simp only [Ac,Aa,AB,A0] at h;obtain ⟨rfl,h0⟩:=h;exact ⟨_,.int _ _,fun w=>by simp [g,binOp,Op.intDiv,h0]⟩
    case rem=>simp only [Ac,Aa,AB,A0] at h;obtain ⟨rfl,h0⟩:=h;exact ⟨_,.int _ _,fun w=>by simp [g,binOp,Op.intDiv,h0]⟩
    all_goals first
     | (simp only [Af,Aa] at h
        grind)
     | (simp only [Ac,Aa] at h
        obtain ⟨rfl,_⟩:=h;refine ⟨_,.int _ _,fun w=> ?_⟩;simp_all [binOp,Op.intArith])
     | (simp only [Ac,Aa] at h
        obtain ⟨rfl,_⟩:=h;refine ⟨_,.bool _,fun w=> ?_⟩;simp_all [binOp,Op.intCmp])
   .cases h
 .rename_i a b;cases hx;cases hy;split at h
  .rename_i hu;split at h
   .simp only [Ac,Aa] at h;obtain ⟨rfl,_⟩:=h;exact ⟨_,.bool _,fun w=>by simp_all [eqGuard,binOp,Op.equal,Op.maxDepth,run_equalIn_bool']⟩
   .simp only [Ac,Aa] at h;obtain ⟨rfl,_⟩:=h;exact ⟨_,.bool _,fun w=>by simp_all [eqGuard,binOp,Op.equal,Op.maxDepth,run_equalIn_bool']⟩
   .cases h
  .cases h
 .rename_i a b;cases hx with
  | agg _ us hl hh=>
   cases hy with
   | agg _ us' hl' hh'=>
    cases hg:P.eqGuardType P.depth t with
    | true=>grind
    | false=>
     simp only [hg,Ax] at h;split at h
     .simp only [Af,Aa] at h;obtain ⟨r,hr,rfl,_⟩:=h;have q:=fun w=>Jg 9970 30 t _ _ r _ _ hr (Zp.agg a us hl hh) (Zp.agg b us' hl' hh') w;exact ⟨_,.bool _,fun w=>by simp_all [run_eqGuard_agg,run_eql_struct]⟩
     .simp only [Af,Aa] at h;obtain ⟨r,hr,rfl,_⟩:=h;have q:=fun w=>Jg 9970 30 t _ _ r _ _ hr (Zp.agg a us hl hh) (Zp.agg b us' hl' hh') w;exact ⟨_,.bool _,fun w=>by simp_all [run_eqGuard_agg,run_neq_struct]⟩
     .cases h
 .cases hx with
  | sl _ _ _ _ l c hl hc aC=>
   cases hy;split at h
   .rename_i e hu;have q:=fun (w:World) (a:Addr) (n c:Nat)=>Lib.run_equalIn_slice_nil (P:=P) w 9999 t e (some a) n c 0 0 hu;split at h
    .simp only [Ac,Aa] at h;obtain ⟨rfl,_⟩:=h;exact ⟨_,.bool _,fun w=>by simp [eqGuard,binOp,Op.equal,Op.maxDepth,q]⟩
    .simp only [Ac,Aa] at h;obtain ⟨rfl,_⟩:=h;exact ⟨_,.bool _,fun w=>by simp [eqGuard,binOp,Op.equal,Op.maxDepth,q]⟩
    .cases h
   .cases h
 .cases hx with
  | nnl _ _ a c _=>
   cases hy;split at h
   .rename_i e hu;have q:=fun (w:World) (a:Addr) (n c:Nat)=>Lib.run_equalIn_slice_nil (P:=P) w 9999 t e (some a) n c 0 0 hu;split at h
    .simp only [Ac,Aa] at h;obtain ⟨rfl,_⟩:=h;exact ⟨_,.bool _,fun w=>by simp [eqGuard,binOp,Op.equal,Op.maxDepth,q]⟩
    .simp only [Ac,Aa] at h;obtain ⟨rfl,_⟩:=h;exact ⟨_,.bool _,fun w=>by simp [eqGuard,binOp,Op.equal,Op.maxDepth,q]⟩
    .cases h
   .cases h
 .cases hx;cases hy;split at h
  .rename_i e hu;have q:=fun w=>Lib.run_equalIn_slice_nil (P:=P) w 9999 t e none 0 0 0 0 hu;split at h
   .simp only [Ac,Aa] at h;obtain ⟨rfl,_⟩:=h;exact ⟨_,.bool _,fun w=>by simp [eqGuard,binOp,Op.equal,Op.maxDepth,q]⟩
   .simp only [Ac,Aa] at h;obtain ⟨rfl,_⟩:=h;exact ⟨_,.bool _,fun w=>by simp [eqGuard,binOp,Op.equal,Op.maxDepth,q]⟩
   .cases h
  .cases h
 .cases hx;cases hy;split at h
  case h_3=>
   rename_i a b _;simp only [Ac,Aa] at h;obtain ⟨rfl,aC⟩:=h;have aC:=Ad aC;refine ⟨_,.str _,fun w=> ?_⟩;have e:(⟨(a++b).toArray⟩:ByteArray)=⟨a.toArray⟩++⟨b.toArray⟩:=by apply ByteArray.ext;rw [ByteArray.data_append];simp
   have hn: ¬(((⟨a.toArray⟩:ByteArray).size +(⟨b.toArray⟩:ByteArray).size :Nat):Int)>IntKind.i64.max:=by have:IntKind.i64.max=9223372036854775807:=(by decide);rw [this];simp only [<-ByteArray.size_data,List.size_toArray];omega
   rw [e];simp only [eqGuard,binOp,Op.stringOp,Aj hn];simp
  all_goals first
   | (cases h;done)
   | (simp only [Ac,Aa] at h
      obtain ⟨rfl,_⟩:=h;exact ⟨_,.bool _,fun w=>by simp_all [eqGuard,binOp,Op.stringOp]⟩)
 .cases h
theorem Hz {op:UnOp} {x v:BA} {u:Value} (h:G0 op x=some v) (hx:Zp ρ x u): ∃z,Zp ρ v z/\ ∀w,(Op.unary op u).run P w=.ok z w:=by
 unfold G0 at h;split at h
 .cases hx;obtain rfl:=Ab h;exact ⟨_,.int _ _,fun w=>by simp [Op.unary,Op.intArith]⟩
 .cases hx;simp only [Af] at h;obtain ⟨n,hn,rfl⟩:=h;exact ⟨_,.int _ _,fun w=>by simp [Op.unary,Hh hn]⟩
 .cases hx;obtain rfl:=Ab h;exact ⟨_,.bool _,fun w=>by simp [Op.unary]⟩
 .cases h
end
section
variable {P:Program} {ρ:BB}
theorem Wu (v:Value):Zp ρ (Vw v) v:=by
 cases v with
 | bool b=>exact .bool b
 | int k n=>exact .int k n
 | string s=>exact .str s.data.toList
 | pointer a=>cases a with
  | none=>exact .nilp
  | some a=>exact .undef _
 | slice a n c=>
  cases a with
  | some a=>exact .undef _
  | none=>
   cases n with
   | succ n=>exact .undef _
   | zero=>cases c with
    | zero=>exact .nils
    | succ c=>exact .undef _
 | nilFunc=>exact .nilf
 | nilIface=>exact .nili
 | _=>exact .undef _
theorem H9 (v:Value) (h: ∀cs,v≠ .agg cs):Cf v=Vw v:=by
 cases v <;> first | rfl | grind
theorem Gt (v:Value):Zp ρ (Cf v) v:=by
 by_cases h: ∃cs,v=.agg cs
 .obtain ⟨cs,rfl⟩:=h;refine .agg _ _ (by simp) fun i h1 h2=> ?_
  grind [Wu]
 grind [H9,Wu]
theorem J4 (v:Value):(Vw v).cells =[Vw v]:=by unfold Vw;split <;> rfl
theorem IK (v:Value):Yg ρ (Cf v).cells v.cells:=by
 by_cases h: ∃cs,v=.agg cs
 .obtain ⟨cs,rfl⟩:=h;refine ⟨by simp [Cf,BA.cells,Value.cells],fun i h1 h2=> ?_⟩
  grind [Wu,Value.cells,Cf,BA.cells]
 .rw [H9 v fun cs e=>h ⟨cs,e⟩,J4];have hc:v.cells= #[v]:=by cases v <;> first | rfl | grind
  rw [hc];refine ⟨rfl,fun i h1 h2=> ?_⟩
  grind [Wu]
theorem Yy {t:TypeId} {z:List BA} (h:Xf P t=some z): ∃i v,P.info? t=some i/\i.zero=some v/\Yg ρ z v.cells/\ ∀w,(zeroValue t).run P w=.ok v w:=by
 unfold Xf at h;cases hi:P.info? t with
 | none=>grind
 | some i=>simp only [hi,Af] at h;obtain ⟨v,hz,rfl⟩:=h;simp_all [IK,zeroValue,run_typeInfo]
theorem HB (off:Nat): ∀(l:List Value) (k:Nat) (cells:Array Value),off+k+l.length<=cells.size->
  (l.zipIdx k).foldl (fun cs p=>cs.setIfInBounds (off+p.2) p.1) cells=(cells.toList.take (off+k)++l++cells.toList.drop (off+k+l.length)).toArray
 | [],k,cells,_=>by simp
 | v::l,k,cells,h=>by
  simp only [List.zipIdx_cons,List.foldl_cons];rw [HB off l (k+1) _ (by simp at h ⊢;omega)];have e:=list_seg_step cells.toList (off+k) v l (by simp at h ⊢;omega)
  simpa [Array.toList_setIfInBounds,AA] using e
theorem Yg.splice {cells:List BA} {arr:Array Value} {c:List BA} {vs:Array Value} {off:Nat} (h:Yg ρ cells arr) (hc:Yg ρ c vs) (aJ:off+c.length<=cells.length):
  Yg ρ (cells.take off++c++cells.drop (off+c.length)) (arr.toList.take off++vs.toList++arr.toList.drop (off+vs.toList.length)).toArray :=by
 have e1:=h.1;have e2:=hc.1;have f1:off+vs.toList.length<=arr.toList.length:=by simp;omega
 refine ⟨by grind,fun i h1 h2=> ?_⟩;rw [Wo _ _ _ aJ] at h1;have g1:=Xw cells c off i aJ;have g2:=Xw arr.toList vs.toList off i f1;rw [Ai (by grind)] at g1;rw [Ai (by grind)] at g2;rw [List.getElem_toArray];by_cases k1:i<off
 .rw [Ap k1,Ai h1] at g1;rw [Ap k1,Ai (by simp;omega)] at g2;rw [Ab g1,Ab g2]
  simpa using h.2 i h1 (by omega)
 .by_cases k2:i<off+c.length
  .rw [Aj k1,Ap k2,Ai (by omega)] at g1;rw [Aj k1,Ap (by simp;omega),Ai (by simp;omega)] at g2;rw [Ab g1,Ab g2]
   simpa using hc.2 (i - off) (by omega) (by omega)
  .rw [Aj k1,Aj k2,Ai h1] at g1;rw [Aj k1,Aj (by simp;omega),Ai (by simp;omega)] at g2;rw [Ab g1,Ab g2]
   simpa using h.2 i h1 (by omega)
def Wp (ρ:BB) (ps:List (Nat×BA)) (qs:List (Nat×Value)):Prop:=
 Yh (fun p q=>p.1=q.1/\Zp ρ p.2 q.2) ps qs
theorem Xa {place:Nat->Option (Nat×Nat)}: ∀{ps:List (Nat×BA)} {qs:List (Nat×Value)} {cells out:List BA} {arr:Array Value},Bu place cells ps=some out->
  Yg ρ cells arr->Wp ρ ps qs-> ∃arr',Instr.fill place arr qs=some arr'/\Yg ρ out arr'
 | [],_,cells,out,arr,h,hr,hp=>by cases hp;simp only [Bu,Ac] at h;subst h;exact ⟨arr,rfl,hr⟩
 | (i,v)::ps,_,cells,out,arr,h,hr,hp=>by
  cases hp with
  | @cons _ q _ qs hq hqs=>
   obtain ⟨j,u⟩:=q;obtain ⟨hij,hv⟩:=hq;simp only at hij hv;subst hij;unfold Bu at h;cases hpl:place i with
   | none=>simp [hpl] at h
   | some pl=>
    obtain ⟨off,size⟩:=pl;simp only [hpl] at h;cases hc:(Vp v&&Nat.beq v.cells.length size&&Nat.ble (off+size) cells.length) with
    | false=>rw [hc] at h;cases h
    | true=>
     rw [hc,Aq] at h;simp only [Ag] at hc;obtain ⟨⟨hb,hs⟩,hf⟩:=hc;have hs:=Ae hs;have hf:=Ad hf;have aK:=hv.cells hb;have hsz:u.cells.size=size:=by rw [<-aK.1];exact hs
     have aJ:off+v.cells.length<=cells.length:=(by omega);rw [<-hs] at h;obtain ⟨arr',h1,h2⟩:=Xa h (hr.splice aK aJ) hqs;refine ⟨arr',?_,h2⟩;unfold Instr.fill;simp only [hpl];have hle:off+u.cells.size<=arr.size:=by rw [<-hr.1,hsz];omega
     have hz: ¬(u.cells.size≠size||decide (off+u.cells.size>arr.size))=true:=by simp [hsz];rw [hsz] at hle;exact hle
     rw [Aj hz];rw [<-h1]
     congr 1
     rw [<-Array.foldl_toList,Array.toList_zipIdx];have:=HB off u.cells.toList 0 arr (by simpa using hle)
     simpa using this
theorem Vr : ∀{fs:List Field} {pl:List (Nat×Nat)},Xm P fs=some pl-> ∀w,(fs.mapM fun f=>Prod.mk f.offset<$>sizeOf f.type:Sem (List (Nat×Nat))).run P w=.ok pl w
 | [],pl,h,w=>by simp [Xm] at h;subst h;simp
 | f::fs,pl,h,w=>by
  unfold Xm at h;cases hi:P.info? f.type with
  | none=>simp [hi] at h
  | some i=>
   cases hr:Xm P fs with
   | none=>simp [hi,hr] at h
   | some l=>simp only [hi,hr,Ac] at h;subst h;have:=Vr hr w;simp [List.mapM_cons,Zj hi,this]
theorem JH {t:TypeId} {ps:List (Nat×BA)} {qs:List (Nat×Value)} {v:BA} (h:Fp P t ps=some v) (hp:Wp ρ ps qs):
  ∃u,Zp ρ v u/\ ∀w,(Instr.build t qs.toArray).run P w=.ok u w:=by
 unfold Fp at h;split at h
 .rename_i fs zero hu hz;obtain ⟨i,z,_,_,hzr,hzv⟩:=Yy (ρ:=ρ) hz;split at h
  .rename_i pl hpl;simp only [Af] at h;obtain ⟨cells,hc,rfl⟩:=h;obtain ⟨arr,h1,h2⟩:=Xa hc hzr hp;refine ⟨.agg arr,.agg _ _ h2.1 h2.2,fun w=> ?_⟩;have hpr:=Vr hpl w;simp [Instr.build,hzv,run_underlying hu,Array.mapM_eq_mapM_toList,hpr,h1]
  .cases h
 .rename_i n e zero hu hz;obtain ⟨i,z,_,_,hzr,hzv⟩:=Yy (ρ:=ρ) hz;split at h
  .rename_i i hi;simp only [Af] at h;obtain ⟨cells,hc,rfl⟩:=h;obtain ⟨arr,h1,h2⟩:=Xa hc hzr hp;exact ⟨.agg arr,.agg _ _ h2.1 h2.2,fun w=>by simp_all [Instr.build,run_underlying,Zj]⟩
  .cases h
 .cases h
theorem Zr (b o n:Nat):(⟨b,o,none⟩:Addr).add n=⟨b,o+n,none⟩:=by
 grind [Addr.add]
theorem Zp.dptr_drop {cs:List BA} {blk base:Nat} {val:Nat->Value} (hv: ∀(j:Nat) (hj:j<cs.length),Zp ρ.bare cs[j] (val j)) (hh: ∀j,j<cs.length->Bs ρ.fz blk (base+j) (val j)) (k:Nat):
  Zp ρ (.dptr (cs.drop k)) (.pointer (some ⟨blk,base+k,none⟩)):=
 .dptr _ _ _ (fun j=>val (k+j)) (fun j hj=>by grind) (fun j hj=>by grind)
theorem Ka {t:TypeId} {x i v:BA} {u ui:Value} {b:Bool} (h:Jo P t x i=some (v,b)) (hb:b=true) (hx:Zp ρ x u) (hi:Zp ρ i ui):
  ∃z,Zp ρ v z/\ ∀w,(Instr.indexAt t u ui).run P w=.ok z w:=by
 subst hb;unfold Jo at h;split at h
 .rename_i len e b off k n hu;cases hi;simp only [Af,Aa,An] at h;obtain ⟨s,hs,rfl,hn⟩:=h;cases hx with
  | ptr _ _ l hl=>refine ⟨_,.ptr _ _ l hl,fun w=> ?_⟩;simp [Instr.indexAt,asIntOf,run_underlying hu,Instr.sureAddr,hn,Zj hs,Zr,AA]
 .rename_i len e cs k n hu;cases hi;simp only [Af,Aa,An] at h;obtain ⟨s,hs,rfl,hn⟩:=h;cases hx with
  | dptr _ blk base val hv hh=>refine ⟨_,Zp.dptr_drop hv hh _,fun w=> ?_⟩;simp [Instr.indexAt,asIntOf,run_underlying hu,Instr.sureAddr,hn,Zj hs,Zr]
 .rename_i e b off len cap k n hu;cases hi;simp only [Af,Aa,An] at h;obtain ⟨s,hs,rfl,hn⟩:=h;cases hx with
  | sl _ _ _ _ l c hl hc aC=>refine ⟨_,.ptr _ _ l hl,fun w=> ?_⟩;simp [Instr.indexAt,asIntOf,run_underlying hu,hn,Zj hs,Zr,AA]
 .rename_i e len get k n hu;cases hi;simp only [Af,Aa,Ag,An] at h;obtain ⟨s,hs,rfl,hn,hl⟩:=h;have hl:=Ae hl;cases hx with
  | dat _ _ blk base sz cap val aH hsz hv hh=>
   have hlt:n.toNat<len:=by omega
   have hse:sz=s.size:=by grind
   refine ⟨_,.dptr _ blk (base+n.toNat*s.size) (val n.toNat) (fun j hj=>hv _ j hlt hj) (fun j hj=> ?_),fun w=> ?_⟩
   .grind
   .simp [Instr.indexAt,asIntOf,run_underlying hu,hn,Zj hs,Zr]
  | datn=>omega
  | datz=>omega
 .rename_i e b sz off len cap k n hu;cases hi;simp only [Af,Aa,Ag,An] at h;obtain ⟨s,hs,rfl,hn,hl⟩:=h;have hl:=Ae hl;cases hx with
  | sla _ _ _ _ _ l c hl' hc aC=>refine ⟨_,.epa _ _ _ _ l hl',fun w=> ?_⟩;simp [Instr.indexAt,asIntOf,run_underlying hu,hn,Zj hs,Zr,hl,As,AA]
  | slan=>omega
 .rename_i e b sz off len k n hu;cases hi;simp only [Af,Aa,Ag,An] at h;obtain ⟨s,hs,rfl,hn,hl⟩:=h;have hl:=Ae hl;cases hx with
  | slv _ _ _ _ l c hl' aC=>refine ⟨_,.epa _ _ _ _ l hl',fun w=> ?_⟩;simp [Instr.indexAt,asIntOf,run_underlying hu,hn,Zj hs,Zr,hl,As,AA]
  | slve=>omega
  | slvn=>omega
 .rename_i len e b sz r fo k n hu;cases hi;simp only [Af,Aa,An] at h;obtain ⟨s,hs,rfl,hn⟩:=h;cases hx with
  | epa _ _ _ _ l hl=>refine ⟨_,.epa _ _ _ _ l hl,fun w=> ?_⟩;simp [Instr.indexAt,asIntOf,run_underlying hu,Instr.sureAddr,hn,Zj hs,Zr,AA]
 .cases h
theorem Kb {t:TypeId} {x v:BA} {f:Nat} {u:Value} (h:Jr P t x f=some v) (hx:Zp ρ x u):
  ∃z,Zp ρ v z/\ ∀w,(Instr.fieldAt t u f).run P w=.ok z w:=by
 unfold Jr at h;split at h
 .rename_i fs hu;split at h
  .rename_i fd hf;split at h
   .rename_i i hi;cases hz:Nat.beq i.size 0 with
    | true=>grind
    | false=>
     rw [hz,Ax] at h;have hne:i.size≠0:=fun e=>by simp_all
     split at h
     .obtain rfl:=Ab h;cases hx with
      | ptr _ _ l hl=>exact ⟨_,.ptr _ _ l hl,fun w=>by simp_all [Instr.fieldAt,run_underlying,Instr.sureAddr,fieldPlace,Zj,Zr]⟩
     .obtain rfl:=Ab h;cases hx with
      | dptr _ blk base val hv hh=>exact ⟨_,Zp.dptr_drop hv hh _,fun w=>by simp_all [Instr.fieldAt,run_underlying,Instr.sureAddr,fieldPlace,Zj,Zr]⟩
     .obtain rfl:=Ab h;cases hx with
      | epa _ _ _ _ l hl=>exact ⟨_,.epa _ _ _ _ l hl,fun w=>by simp_all [Instr.fieldAt,run_underlying,Instr.sureAddr,fieldPlace,Zj,Zr]⟩
     .cases h
   .cases h
  .cases h
 .cases h
theorem JK {t:TypeId} {x v:BA} {f:Nat} {u:Value} (h:Fq P t x f=some v) (hx:Zp ρ x u):
  ∃z,Zp ρ v z/\ ∀w,(Instr.field t u f).run P w=.ok z w:=by
 unfold Fq at h;split at h
 .rename_i fs cs hu;split at h
  .rename_i fd hf;cases hx with
   | agg _ vs hl hh=>obtain ⟨z,hz,hr⟩:=Xu h ⟨hl,hh⟩;simp_all [Instr.field,run_underlying,asAgg]
  .cases h
 .cases h
theorem JL {t:TypeId} {x i v:BA} {u ui:Value} {b:Bool} (h:Fr P t x i=some (v,b)) (hb:b=true) (hx:Zp ρ x u) (hi:Zp ρ i ui):
  ∃z,Zp ρ v z/\ ∀w,(Instr.index t u ui).run P w=.ok z w:=by
 subst hb;unfold Fr at h;split at h
 .rename_i len e cs k n hu;cases hi;split at h
  .rename_i s hs;simp only [Af,Aa,An] at h;obtain ⟨v,hp,rfl,hn⟩:=h;cases hx with
   | agg _ vs hl hh=>obtain ⟨z,hz,hr⟩:=Xu hp ⟨hl,hh⟩;simp_all [Instr.index,asIntOf,run_underlying,Zj]
  .cases h
 .rename_i s k n hu;cases hi;cases hx;simp only [Ac,Aa,An] at h;obtain ⟨rfl,hn⟩:=h;refine ⟨_,.int _ _,fun w=> ?_⟩;have hlt:n.toNat<s.length:=by omega
  have hn0:=hn.1;have e:(⟨s.toArray⟩:ByteArray)[n.toNat]? =some s[n.toNat]:=by rw [getElem?_pos _ _ (by simpa [ByteArray.size] using hlt)];simp [ByteArray.getElem_eq_getElem_data]
  have e2:D0 s n.toNat=(s[n.toNat].toNat :Int):=by unfold D0;rw [List.getD_eq_getElem?_getD,Ai hlt];rfl
  simp_all [Instr.index,asIntOf,run_underlying]
 .cases h
theorem Qu {k:IntKind}: ∀{r:List BA} {x n:Int} {us:List Value},Qj k x r=some n->Yh (Zp ρ) r us-> ∀w,(us.foldlM Builtin.min2 (.int k x)).run P w=.ok (.int k n) w
 | [],x,n,_,h,hr,w=>by cases hr;simp [Qj] at h;subst h;simp
 | a::r,x,n,_,h,hr,w=>by
  cases hr with
  | cons ha hrs=>
   cases a <;> simp only [Qj,DX] at h <;> try (cases h;done)
   cases ha;have:=Qu h hrs w;simp [List.foldlM_cons,Builtin.min2,this]
theorem Qk {k:IntKind}: ∀{r:List BA} {x n:Int} {us:List Value},Qq k x r=some n->Yh (Zp ρ) r us-> ∀w,(us.foldlM Builtin.max2 (.int k x)).run P w=.ok (.int k n) w
 | [],x,n,_,h,hr,w=>by cases hr;simp [Qq] at h;subst h;simp
 | a::r,x,n,_,h,hr,w=>by
  cases hr with
  | cons ha hrs=>
   cases a <;> simp only [Qq,DY] at h <;> try (cases h;done)
   cases ha;have:=Qk h hrs w;simp [List.foldlM_cons,Builtin.max2,this]
theorem J3 {bi:Builtin} {ts:Array TypeId} {type:TypeId} {xs:List BA} {us:Array Value} {v:BA} (h:Ko P bi ts.toList xs=some v) (hx:Yh (Zp ρ) xs us.toList):
  ∃z,Zp ρ v z/\ ∀(cst:Array Bool) (w:World),(builtin bi ts type cst us).run P w=.ok (.value z) w:=by
 obtain ⟨ts⟩:=ts;obtain ⟨us⟩:=us;simp only at h hx;unfold Ko at h;split at h
 .rename_i t _ x _;cases hx with
  | cons ha _=>
   split at h
   .rename_i hu;cases ha;obtain rfl:=Ab h;exact ⟨_,.int _ _,fun cst w=>by simp [builtin,Builtin.len_,run_underlying hu,goInt,<-ByteArray.size_data]⟩
   .rename_i hu;obtain rfl:=Ab h;exact ⟨_,.int _ _,fun cst w=>by simp [builtin,Builtin.len_,run_underlying hu,goInt]⟩
   all_goals first
    | (rename_i hu
       obtain rfl:=Ab h;cases ha <;> exact ⟨_,.int _ _,fun cst w=>by simp [builtin,Builtin.len_,run_underlying hu,goInt]⟩)
    | grind
 .rename_i k x r;cases hx with
  | cons ha hr=>cases ha;simp only [Af] at h;obtain ⟨n,hn,rfl⟩:=h;have:=Qu (P:=P) hn hr;exact ⟨_,.int _ _,fun cst w=>by simp [builtin,Builtin.min_,this]⟩
 .rename_i k x r;cases hx with
  | cons ha hr=>cases ha;simp only [Af] at h;obtain ⟨n,hn,rfl⟩:=h;have:=Qk (P:=P) hn hr;exact ⟨_,.int _ _,fun cst w=>by simp [builtin,Builtin.max_,this]⟩
 .rename_i t _ x _;cases hx with
  | cons ha _=>
   split at h
   .rename_i hu;obtain rfl:=Ab h;cases ha with
    | sl _ _ _ _ l c hl hc aC=>simp only [Ww] at hc;subst hc;exact ⟨_,.int _ _,fun cst w=>by simp [builtin,Builtin.cap_,run_underlying hu,goInt]⟩
   .rename_i hu;obtain rfl:=Ab h;cases ha;exact ⟨_,.int _ _,fun cst w=>by simp [builtin,Builtin.cap_,run_underlying hu,goInt]⟩
   .cases h
 .cases h
end
section
variable {P:Program} {ρ:BB}
theorem Zg (isSlice:Bool) (len cap m h l:Nat) (low high max:Option Value) (hm:(max=none/\m=cap)\/(∃k,max=some (.int k m)/\m<=cap))
  (hh:(high=none/\max=none/\h=len)\/(∃k,high=some (.int k h)/\h<=m)) (hl:(low=none/\l=0)\/ ∃k,low=some (.int k l)/\l<=h) (w:World):
  (Instr.sliceBounds isSlice len cap low high max).run P w=.ok (l,h,m) w:=by
 have nn: ∀n:Nat,(0:Int)<=n:=fun n=>Int.natCast_nonneg n;rcases hm with ⟨rfl,rfl⟩ | ⟨km,rfl,hm⟩
 .rcases hh with ⟨rfl,_,rfl⟩ | ⟨kh,rfl,hh⟩
  .rcases hl with ⟨rfl,rfl⟩ | ⟨kl,rfl,hl⟩;all_goals simp_all [Instr.sliceBounds,Instr.sliceBound,asIntOf]
  .rcases hl with ⟨rfl,rfl⟩ | ⟨kl,rfl,hl⟩;all_goals simp_all [Instr.sliceBounds,Instr.sliceBound,asIntOf]
 .rcases hh with ⟨rfl,e,_⟩ | ⟨kh,rfl,hh⟩
  .cases e
  .rcases hl with ⟨rfl,rfl⟩ | ⟨kl,rfl,hl⟩;all_goals simp_all [Instr.sliceBounds,Instr.sliceBound,asIntOf]
theorem Zc {ev:Operand->BA} {ec:Operand->Value} {o:Option Operand} {d n:Nat} {b:Bool} (h:Wa ev o d=some (n,b)) (hb:b=true) (hr: ∀x,o=some x->Zp ρ (ev x) (ec x)):
  (o=none/\n=d)\/ ∃k,o.map ec=some (.int k n):=by
 subst hb;unfold Wa at h;cases o with
 | none=>grind
 | some x=>
  right;have hx:=hr x rfl;simp only at h;split at h
  .rename_i k i e;simp only [Ac,Aa,An] at h;obtain ⟨rfl,h0⟩:=h;rw [e] at hx;refine ⟨k,?_⟩;simp only [Option.map_some];rw [show ((i.toNat:Nat):Int)=i by omega];generalize ec x=u at hx ⊢;cases hx;rfl
  .cases h
theorem GD (c:Bool) (b o off k:Nat) (m l:Nat) (_:Nat.beq m l=c):(if m=l then some (⟨b,o+off,none⟩:Addr) else some ((⟨b,o+off,none⟩:Addr).add k))=some ⟨b,o+(bif Nat.beq m l then off else off+k),none⟩:=by
 by_cases h:m=l
 .simp_all
 .rw [Aj h,show Nat.beq m l=false from AV.2 fun e=>h (Ae e),Zr,AA];rfl
theorem JM {ev:Operand->BA} {ec:Operand->Value} {t:TypeId} {x:Operand} {lo hi mx:Option Operand} {v:BA} {b:Bool} (h:Ft P ev t x lo hi mx=some (v,b)) (hb:b=true)
  (hx:Zp ρ (ev x) (ec x)) (hlo: ∀y,lo=some y->Zp ρ (ev y) (ec y)) (hhi: ∀y,hi=some y->Zp ρ (ev y) (ec y)) (hmx: ∀y,mx=some y->Zp ρ (ev y) (ec y)):
  ∃z,Zp ρ v z/\ ∀w,(Instr.sliceAt t (ec x) (lo.map ec) (hi.map ec) (mx.map ec)).run P w=.ok z w:=by
 subst hb;unfold Ft at h;split at h
 .rename_i e hu hev;rw [hev] at hx;split at h
  .rename_i s l a hh b hs hl hh';simp only [Ac,Aa,Ag] at h;obtain ⟨rfl,⟨⟨ha,hb⟩,h1⟩,h2⟩:=h;have e1:=Ae h1;have e2:=Ae h2;subst e1;subst e2;have q1:=Zc hl ha hlo;have q2:=Zc hh' hb hhi;generalize hw:ec x=u at hx;cases hx;refine ⟨_,.nils,fun w=> ?_⟩;have sb:=Zg (P:=P) true 0 0 0 0 0 (lo.map ec) (hi.map ec) none (.inl ⟨rfl,rfl⟩)
    (q2.elim (fun q=>.inl ⟨by rw [q.1];rfl,rfl,rfl⟩) (fun ⟨k,q⟩=>.inr ⟨k,q,Ah _⟩)) (q1.elim (fun q=>.inl ⟨by rw [q.1];rfl,rfl⟩) (fun ⟨k,q⟩=>.inr ⟨k,q,Ah _⟩))
   simp_all [Instr.sliceAt,Instr.slice,run_underlying,Zj]
  .cases h
 .rename_i e b off len c hu hev;rw [hev] at hx;split at h
  .rename_i s m x1 hh x2 l x3 hs hm hhi' hl;split at h
   .cases h
   .rename_i hno;simp only [Ac,Aa,Ag] at h;obtain ⟨rfl,⟨⟨⟨⟨h1,h2⟩,h3⟩,h4⟩,h5⟩,h6⟩:=h;have h4:=Ad h4;have h5:=Ad h5;have h6:=Ad h6;have q0:=Zc hm h1 hmx;have q1:=Zc hl h3 hlo;have q2:=Zc hhi' h2 hhi;generalize hw:ec x=u at hx;cases hx with
    | sl _ _ _ _ lc c' hρ hc _=>
     simp only [Ww] at hc;subst hc;refine ⟨_,.sl _ _ _ _ lc _ hρ rfl (by omega),fun w=> ?_⟩;have sb:=Zg (P:=P) true len c' m hh l (lo.map ec) (hi.map ec) (mx.map ec) (q0.elim (fun q=>.inl ⟨by rw [q.1];rfl,q.2⟩) (fun ⟨k,q⟩=>.inr ⟨k,q,h4⟩))
      (q2.elim (fun q=>.inl ⟨by rw [q.1];rfl,by
       simp_all,q.2⟩) (fun ⟨k,q⟩=>.inr ⟨k,q,h5⟩)) (q1.elim (fun q=>.inl ⟨by rw [q.1];rfl,q.2⟩) (fun ⟨k,q⟩=>.inr ⟨k,q,h6⟩)) w
     simp [Instr.sliceAt,Instr.slice,run_underlying hu,sb,Zj hs];exact GD _ _ _ _ _ _ _ rfl
  .cases h
 .rename_i e b off len zz hu hev;rw [hev] at hx;split at h
  .rename_i s hh x2 l x3 hs hhi' hl;cases hz:Nat.beq zz s.size with
   | false=>grind
   | true=>
    rw [hz,Aq] at h;have hz:=Ae hz;rcases (by cases hlo':(Nat.beq hh l&&Nat.ble 1 l) with
      | true=>rw [hlo',Aq] at h;exact .inl ⟨rfl,h⟩
      | false=>rw [hlo',Ax] at h;exact .inr h:((Nat.beq hh l&&Nat.ble 1 l)=true/\some _=some _)\/(some _=some _)) with ⟨hq,h⟩ | h
    .simp only [Ac,Aa,Ag] at h hq;obtain ⟨rfl,⟨h2,h3⟩,h5⟩:=h;obtain rfl:=Ae hq.1;have h5:=Ad h5;have q1:=Zc hl h3 hlo;have q2:=Zc hhi' h2 hhi;generalize hw:ec x=u at hx;cases hx with
     | sl _ _ _ _ lc c hρ hc aC=>
      have sb:=Zg (P:=P) true len c c hh hh (lo.map ec) (hi.map ec) none (.inl ⟨rfl,rfl⟩)
       (q2.elim (fun q=>.inl ⟨by rw [q.1];rfl,rfl,q.2⟩) (fun ⟨k,q⟩=>.inr ⟨k,q,by omega⟩)) (q1.elim (fun q=>.inl ⟨by rw [q.1];rfl,q.2⟩) (fun ⟨k,q⟩=>.inr ⟨k,q,Ah _⟩))
      have e0: ∀(base:Nat),Zp ρ (.dat 0 fun _=>[]) (.slice (some ⟨lc.blk,base,none⟩) 0 (c - hh)):=fun base=>
       .dat 0 _ lc.blk base 0 (c - hh) (fun _ _=>undef) (AD _) (fun i hi=>absurd hi (Ar _)) (fun i j hi=>absurd hi (Ar _)) (fun i j hi=>absurd hi (Ar _))
      by_cases hcl:c=hh
      .subst hcl;refine ⟨_,e0 (lc.base+off),fun w=> ?_⟩;simp [Instr.sliceAt,Instr.slice,run_underlying hu,sb,Zj hs]
      .refine ⟨_,e0 (lc.base+off+hh*s.size),fun w=> ?_⟩;simp [Instr.sliceAt,Instr.slice,run_underlying hu,sb,Zj hs,Aj hcl,Zr]
    simp only [Ac,Aa,Ag,AR] at h;obtain ⟨rfl,⟨⟨⟨h2,h3⟩,h5⟩,h6⟩,h7⟩:=h;have h5:=Ad h5;have h6:=Ad h6;have q1:=Zc hl h3 hlo;have q2:=Zc hhi' h2 hhi;generalize hw:ec x=u at hx;cases hx with
    | sl _ _ _ _ lc c hρ hc aC=>
     simp only [Ww] at hc;have hlc:l<=c:=(by omega);have hmul:l*s.size+(c - l)*zz=c*zz:=by rw [hz,<-As];grind
     refine ⟨.slice (some ⟨lc.blk,lc.base+(off+l*s.size),none⟩) (hh - l) (c - l),.sl _ _ _ _ lc _ hρ ?_ (by omega),fun w=> ?_⟩
     .simp only [Ww];omega
     .have sb:=Zg (P:=P) true len c c hh l (lo.map ec) (hi.map ec) none (.inl ⟨rfl,rfl⟩)
       (q2.elim (fun q=>.inl ⟨by rw [q.1];rfl,rfl,q.2⟩) (fun ⟨k,q⟩=>.inr ⟨k,q,by omega⟩)) (q1.elim (fun q=>.inl ⟨by rw [q.1];rfl,q.2⟩) (fun ⟨k,q⟩=>.inr ⟨k,q,h6⟩)) w
      simp [Instr.sliceAt,Instr.slice,run_underlying hu,sb,Zj hs];by_cases hcl:c=l
      .rw [Ap hcl];rcases h7 with h7 | h7
       .have:=Ad h7;omega
       simp_all
      grind [Zr]
  .rename_i s y hh x2 l x3 hs hhi' hl;split at h
   .rename_i m x1 hm;cases hz:(Nat.beq zz s.size&&hi.isSome) with
    | false=>grind
    | true=>
     rw [hz,Aq] at h;simp only [Ac,Aa,Ag] at h hz;obtain ⟨rfl,⟨⟨⟨⟨h1,h2⟩,h3⟩,h4⟩,h5⟩,h6⟩:=h;have h4:=Ad h4;have h5:=Ad h5;have h6:=Ad h6;have q0:=Zc hm h1 hmx;have q1:=Zc hl h3 hlo;have q2:=Zc hhi' h2 hhi;generalize hw:ec x=u at hx;cases hx with
     | sl _ _ _ _ lc c hρ _ aC=>
      refine ⟨_,.sl _ _ _ _ lc _ hρ rfl (by omega),fun w=> ?_⟩;have sb:=Zg (P:=P) true len c m hh l (lo.map ec) (hi.map ec) ((some y).map ec) (q0.elim (fun q=>by cases q.1) (fun ⟨k,q⟩=>.inr ⟨k,q,by omega⟩))
       (q2.elim (fun q=>by grind) (fun ⟨k,q⟩=>.inr ⟨k,q,h5⟩)) (q1.elim (fun q=>.inl ⟨by rw [q.1];rfl,q.2⟩) (fun ⟨k,q⟩=>.inr ⟨k,q,h6⟩)) w
      simp only [Option.map_some] at sb;simp [Instr.sliceAt,Instr.slice,run_underlying hu,sb,Zj hs];exact GD _ _ _ _ _ _ _ rfl
   .cases h
  .cases h
 .rename_i e b sz off len zz hu hev;rw [hev] at hx;split at h
  .rename_i s hh x2 l x3 hs hhi' hl;cases hz:(Nat.beq zz s.size&&Nat.beq sz zz) with
   | false=>grind
   | true=>
    rw [hz,Aq] at h;simp only [Ag] at hz;have hz1:=Ae hz.1;obtain rfl:=Ae hz.2;subst hz1;rcases (by cases hlo':lo.isSome with
      | true=>rw [hlo',Aq] at h;exact .inl h
      | false=>rw [hlo',Ax] at h;exact .inr h:(some _=some _)\/(some _=some _)) with h | h
    .simp only [Ac,Aa,Ag,An] at h;obtain ⟨rfl,h2,h3,h5,h6⟩:=h;have q1:=Zc hl h3 hlo;have q2:=Zc hhi' h2 hhi;generalize hw:ec x=u at hx;cases hx with
     | sla _ _ _ _ _ lc c hρ hc aC=>
      have hlc:l<=c:=(by omega);have sb:=Zg (P:=P) true len c c hh l (lo.map ec) (hi.map ec) none (.inl ⟨rfl,rfl⟩)
       (q2.elim (fun q=>.inl ⟨by rw [q.1];rfl,rfl,q.2⟩) (fun ⟨k,q⟩=>.inr ⟨k,q,by omega⟩)) (q1.elim (fun q=>.inl ⟨by rw [q.1];rfl,q.2⟩) (fun ⟨k,q⟩=>.inr ⟨k,q,h6⟩))
      by_cases hcl:c=l
      .subst hcl;have e0:hh - c=0:=(by omega);rw [e0];refine ⟨_,.slve _ _ _ lc.blk (lc.base+off*s.size) (c - c),fun w=> ?_⟩;simp [Instr.sliceAt,Instr.slice,run_underlying hu,sb,Zj hs,e0]
      .refine ⟨_,.slv _ _ _ _ lc (c - l) hρ (by omega),fun w=> ?_⟩;simp [Instr.sliceAt,Instr.slice,run_underlying hu,sb,Zj hs,Aj hcl,Zr,As,AA]
     | slan=>
      obtain rfl:hh=0:=by omega
      obtain rfl:l=0:=by omega
      refine ⟨_,.slvn _ _ _,fun w=> ?_⟩;have sb:=Zg (P:=P) true 0 0 0 0 0 (lo.map ec) (hi.map ec) none (.inl ⟨rfl,rfl⟩)
       (q2.elim (fun q=>.inl ⟨by rw [q.1];rfl,rfl,rfl⟩) (fun ⟨k,q⟩=>.inr ⟨k,q,Ah _⟩)) (q1.elim (fun q=>.inl ⟨by rw [q.1];rfl,rfl⟩) (fun ⟨k,q⟩=>.inr ⟨k,q,Ah _⟩))
      simp_all [Instr.sliceAt,Instr.slice,run_underlying,Zj]
    simp only [Ac,Aa,Ag,AR,An] at h;obtain ⟨rfl,h2,h3,h5,h6,h7⟩:=h;have q1:=Zc hl h3 hlo;have q2:=Zc hhi' h2 hhi;generalize hw:ec x=u at hx;cases hx with
    | sla _ _ _ _ _ lc c hρ hc aC=>
     simp only [Ww] at hc;have hlc:l<=c:=(by omega);have hmul:l*s.size+(c - l)*s.size=c*s.size:=by rw [<-As];grind
     have hmul2:(off+l)*s.size=off*s.size+l*s.size:=As _ _ _;refine ⟨.slice (some ⟨lc.blk,lc.base+(off+l)*s.size,none⟩) (hh - l) (c - l),.sla _ _ _ _ _ lc _ hρ ?_ (by omega),fun w=> ?_⟩
     .simp only [Ww];omega
     .have sb:=Zg (P:=P) true len c c hh l (lo.map ec) (hi.map ec) none (.inl ⟨rfl,rfl⟩)
       (q2.elim (fun q=>.inl ⟨by rw [q.1];rfl,rfl,q.2⟩) (fun ⟨k,q⟩=>.inr ⟨k,q,by omega⟩)) (q1.elim (fun q=>.inl ⟨by rw [q.1];rfl,q.2⟩) (fun ⟨k,q⟩=>.inr ⟨k,q,h6⟩)) w
      simp [Instr.sliceAt,Instr.slice,run_underlying hu,sb,Zj hs];by_cases hcl:c=l
      .rw [Ap hcl];rcases h7 with h7 | h7
       .omega
       simp_all
      grind [Zr]
    | slan=>
     obtain rfl:hh=0:=by omega
     obtain rfl:l=0:=by omega
     refine ⟨_,.slan _ _ _ _,fun w=> ?_⟩;have sb:=Zg (P:=P) true 0 0 0 0 0 (lo.map ec) (hi.map ec) none (.inl ⟨rfl,rfl⟩)
      (q2.elim (fun q=>.inl ⟨by rw [q.1];rfl,rfl,rfl⟩) (fun ⟨k,q⟩=>.inr ⟨k,q,Ah _⟩)) (q1.elim (fun q=>.inl ⟨by rw [q.1];rfl,rfl⟩) (fun ⟨k,q⟩=>.inr ⟨k,q,Ah _⟩))
     simp_all [Instr.sliceAt,Instr.slice,run_underlying,Zj]
  .cases h
 .rename_i e b sz off len hu hev;rw [hev] at hx;split at h
  .rename_i s hh x2 l x3 hs hhi' hl;cases hz:Nat.beq sz s.size with
   | false=>grind
   | true=>
    rw [hz,Aq] at h;obtain rfl:=Ae hz;simp only [Ac,Aa,Ag,An] at h;obtain ⟨rfl,h2,h3,h5,h6⟩:=h;have q1:=Zc hl h3 hlo;have q2:=Zc hhi' h2 hhi;generalize hw:ec x=u at hx;cases hx with
    | slv _ _ _ _ lc c hρ aC=>
     have hlc:l<=c:=(by omega);have sb:=Zg (P:=P) true len c c hh l (lo.map ec) (hi.map ec) none (.inl ⟨rfl,rfl⟩)
      (q2.elim (fun q=>.inl ⟨by rw [q.1];rfl,rfl,q.2⟩) (fun ⟨k,q⟩=>.inr ⟨k,q,by omega⟩)) (q1.elim (fun q=>.inl ⟨by rw [q.1];rfl,q.2⟩) (fun ⟨k,q⟩=>.inr ⟨k,q,h6⟩))
     by_cases hcl:c=l
     .subst hcl;have e0:hh - c=0:=(by omega);rw [e0];refine ⟨_,.slve _ _ _ lc.blk (lc.base+off*s.size) (c - c),fun w=> ?_⟩;simp [Instr.sliceAt,Instr.slice,run_underlying hu,sb,Zj hs,e0]
     .refine ⟨_,.slv _ _ _ _ lc (c - l) hρ (by omega),fun w=> ?_⟩;simp [Instr.sliceAt,Instr.slice,run_underlying hu,sb,Zj hs,Aj hcl,Zr,As,AA]
    | slve _ _ _ blk base c=>
     obtain rfl:hh=0:=by omega
     obtain rfl:l=0:=by omega
     have sb:=Zg (P:=P) true 0 c c 0 0 (lo.map ec) (hi.map ec) none (.inl ⟨rfl,rfl⟩)
      (q2.elim (fun q=>.inl ⟨by rw [q.1];rfl,rfl,rfl⟩) (fun ⟨k,q⟩=>.inr ⟨k,q,AD _⟩)) (q1.elim (fun q=>.inl ⟨by rw [q.1];rfl,rfl⟩) (fun ⟨k,q⟩=>.inr ⟨k,q,Ah _⟩))
     refine ⟨_,.slve _ _ _ blk base c,fun w=> ?_⟩;simp_all [Instr.sliceAt,Instr.slice,run_underlying,Zj,Zr]
    | slvn=>
     obtain rfl:hh=0:=by omega
     obtain rfl:l=0:=by omega
     refine ⟨_,.slvn _ _ _,fun w=> ?_⟩;have sb:=Zg (P:=P) true 0 0 0 0 0 (lo.map ec) (hi.map ec) none (.inl ⟨rfl,rfl⟩)
      (q2.elim (fun q=>.inl ⟨by rw [q.1];rfl,rfl,rfl⟩) (fun ⟨k,q⟩=>.inr ⟨k,q,Ah _⟩)) (q1.elim (fun q=>.inl ⟨by rw [q.1];rfl,rfl⟩) (fun ⟨k,q⟩=>.inr ⟨k,q,Ah _⟩))
     simp_all [Instr.sliceAt,Instr.slice,run_underlying,Zj]
  .cases h
 .rename_i e len get hu hev;rw [hev] at hx;split at h
  .rename_i s hh x2 l x3 hs hhi' hl;simp only [Ac,Aa,Ag,An] at h;obtain ⟨rfl,h2,h3,h5,h6,h7⟩:=h;have h7:=KD h7;have q1:=Zc hl h3 hlo;have q2:=Zc hhi' h2 hhi;generalize hw:ec x=u at hx;cases hx with
   | dat _ _ blk base sz c val aH hsz hv hh'=>
    have hlc:l<=c:=(by omega);have sb:=Zg (P:=P) true len c c hh l (lo.map ec) (hi.map ec) none (.inl ⟨rfl,rfl⟩)
     (q2.elim (fun q=>.inl ⟨by rw [q.1];rfl,rfl,q.2⟩) (fun ⟨k,q⟩=>.inr ⟨k,q,by omega⟩)) (q1.elim (fun q=>.inl ⟨by rw [q.1];rfl,q.2⟩) (fun ⟨k,q⟩=>.inr ⟨k,q,h6⟩))
    by_cases hcl:c=l
    .subst hcl;have e0:hh - c=0:=(by omega);rw [e0];refine ⟨_,.dat 0 _ blk base s.size (c - c) (fun _ _=>undef) (AD _) (fun i hi=>absurd hi (Ar _)) (fun i j hi=>absurd hi (Ar _)) (fun i j hi=>absurd hi (Ar _)),fun w=> ?_⟩;simp [Instr.sliceAt,Instr.slice,run_underlying hu,sb,Zj hs,e0]
    .refine ⟨_,.dat (hh - l) (fun k=>get (l+k)) blk (base+l*s.size) s.size (c - l) (fun k=>val (l+k)) (by omega) (fun i hi=>h7 _ (by omega)) (fun i j hi hj=>hv _ j (by omega) hj) (fun i j hi hj=> ?_),fun w=> ?_⟩
     .grind
     .simp [Instr.sliceAt,Instr.slice,run_underlying hu,sb,Zj hs,Aj hcl,Zr]
   | datn=>
    obtain rfl:hh=0:=by omega
    obtain rfl:l=0:=by omega
    refine ⟨_,.datn _,fun w=> ?_⟩;have sb:=Zg (P:=P) true 0 0 0 0 0 (lo.map ec) (hi.map ec) none (.inl ⟨rfl,rfl⟩)
     (q2.elim (fun q=>.inl ⟨by rw [q.1];rfl,rfl,rfl⟩) (fun ⟨k,q⟩=>.inr ⟨k,q,Ah _⟩)) (q1.elim (fun q=>.inl ⟨by rw [q.1];rfl,rfl⟩) (fun ⟨k,q⟩=>.inr ⟨k,q,Ah _⟩))
    simp_all [Instr.sliceAt,Instr.slice,run_underlying,Zj]
   | datz _ a c=>
    obtain rfl:hh=0:=by omega
    obtain rfl:l=0:=by omega
    have sb:=Zg (P:=P) true 0 c c 0 0 (lo.map ec) (hi.map ec) none (.inl ⟨rfl,rfl⟩)
     (q2.elim (fun q=>.inl ⟨by rw [q.1];rfl,rfl,rfl⟩) (fun ⟨k,q⟩=>.inr ⟨k,q,AD _⟩)) (q1.elim (fun q=>.inl ⟨by rw [q.1];rfl,rfl⟩) (fun ⟨k,q⟩=>.inr ⟨k,q,Ah _⟩))
    by_cases hc0:c=0
    .subst hc0;refine ⟨_,.datz _ a 0,fun w=> ?_⟩;simp_all [Instr.sliceAt,Instr.slice,run_underlying,Zj]
    .refine ⟨_,.datz _ (a.add (0*s.size)) c,fun w=> ?_⟩;simp_all [Instr.sliceAt,Instr.slice,run_underlying,Zj]
  .cases h
 .rename_i n e b off hu hev;rw [hev] at hx;split at h
  .rename_i s m x1 hh x2 l x3 hs hm hhi' hl;split at h
   .cases h
   .rename_i hno;simp only [Ac,Aa,Ag] at h;obtain ⟨rfl,⟨⟨⟨⟨h1,h2⟩,h3⟩,h4⟩,h5⟩,h6⟩:=h;have h4:=Ad h4;have h5:=Ad h5;have h6:=Ad h6;have q0:=Zc hm h1 hmx;have q1:=Zc hl h3 hlo;have q2:=Zc hhi' h2 hhi;generalize hw:ec x=u at hx;cases hx with
    | ptr _ _ lc hρ=>
     refine ⟨_,.sl _ _ _ _ lc _ hρ rfl (by omega),fun w=> ?_⟩;have sb:=Zg (P:=P) false n n m hh l (lo.map ec) (hi.map ec) (mx.map ec) (q0.elim (fun q=>.inl ⟨by rw [q.1];rfl,q.2⟩) (fun ⟨k,q⟩=>.inr ⟨k,q,h4⟩))
      (q2.elim (fun q=>.inl ⟨by rw [q.1];rfl,by
       simp_all,q.2⟩) (fun ⟨k,q⟩=>.inr ⟨k,q,h5⟩)) (q1.elim (fun q=>.inl ⟨by rw [q.1];rfl,q.2⟩) (fun ⟨k,q⟩=>.inr ⟨k,q,h6⟩)) w
     have bb:=GD _ lc.blk lc.base off (l*s.size) m l rfl;simp [Instr.sliceAt,run_underlying hu,Instr.sureAddr,sb,Zj hs]
     grind
  .cases h
 .rename_i s hu hev;rw [hev] at hx;split at h
  .rename_i hh x2 l x3 hh' hl;simp only [Ac,Aa,Ag,An] at h;obtain ⟨rfl,a2,a3,h5,h6⟩:=h;have q1:=Zc hl a3 hlo;have q2:=Zc hh' a2 hhi;generalize hw:ec x=u at hx;cases hx;refine ⟨_,.str _,fun w=> ?_⟩;have hsz:(⟨s.toArray⟩:ByteArray).size =s.length:=by simp [<-ByteArray.size_data]
   have sb:=Zg (P:=P) false s.length s.length s.length hh l (lo.map ec) (hi.map ec) none (.inl ⟨rfl,rfl⟩)
    (q2.elim (fun q=>.inl ⟨by rw [q.1];rfl,rfl,q.2⟩) (fun ⟨k,q⟩=>.inr ⟨k,q,h5⟩)) (q1.elim (fun q=>.inl ⟨by rw [q.1];rfl,q.2⟩) (fun ⟨k,q⟩=>.inr ⟨k,q,h6⟩)) w
   have e:(⟨((s.drop l).take (hh - l)).toArray⟩:ByteArray)=(⟨s.toArray⟩:ByteArray).extract l hh:=by apply ByteArray.ext;rw [ByteArray.data_extract];simp [List.extract_eq_take_drop]
   rw [e];simp [Instr.sliceAt,Instr.slice,run_underlying hu,hsz,sb]
  .cases h
 .cases h
def Xk (ρ:BB) (ev:Operand->BA) (ec:Operand->Value) (op:Op):Prop:= ∀x,x∈op.operands->Zp ρ (ev x) (ec x)
theorem Vy {ev:Operand->BA} {ec:Operand->Value}: ∀(ps:List (Nat×Operand)),(∀p∈ps,Zp ρ (ev p.2) (ec p.2))->Wp ρ (ps.map fun p=>(p.1,ev p.2)) (ps.map fun p=>(p.1,ec p.2)):=fun ps h=>
 Yh.maps _ _ ps fun p hp=>⟨rfl,h p hp⟩
theorem Hm {o:Oper} {ev:Operand->BA} {ec:Operand->Value} {v:BA} {b:Bool} (h:Xg P o.op ev=some (v,b)) (hb:b=true) (hr:Xk ρ ev ec o.op):
  ∃u,Zp ρ v u/\ ∀w,(execOp ec o).run P w=.ok (.value u) w:=by
 obtain ⟨dst,op,type,pos,after,guard⟩:=o;simp only at h hr ⊢;have lift: ∀{s:Sem Value},(∃z,Zp ρ v z/\ ∀w,s.run P w=.ok z w)->(∀w,(execOp ec ⟨dst,op,type,pos,after,guard⟩).run P w=(do pure (.value (<-s)):Sem Next).run P w)->
   ∃u,Zp ρ v u/\ ∀w,(execOp ec ⟨dst,op,type,pos,after,guard⟩).run P w=.ok (.value u) w:=by
  simp_all
 cases op with
 | move x=>simp only [Xg,Ac,Aa] at h;obtain ⟨rfl,_⟩:=h;exact ⟨ec x,hr x (by simp [Op.operands]),fun w=>rfl⟩
 | assign x=>simp only [Xg,Ac,Aa] at h;obtain ⟨rfl,_⟩:=h;exact ⟨ec x,hr x (by simp [Op.operands]),fun w=>rfl⟩
 | pick c x y=>
  have hc:=hr c (by simp [Op.operands]);have hx:=hr x (by simp [Op.operands]);have hy:=hr y (by simp [Op.operands]);unfold Xg at h;simp only at h;split at h
  .rename_i cb e;rw [e] at hc;generalize hw:ec c=u at hc;cases hc;simp only [Ac,Aa] at h;obtain ⟨rfl,_⟩:=h;cases cb;all_goals simp_all [execOp,asBool]
  .cases h
 | build t parts=>
  simp only [Xg,Af,Aa] at h;obtain ⟨v',hv,rfl,_⟩:=h;refine lift (JH hv (Vy _ fun p hp=>hr p.2 ?_)) fun w=> ?_
  .grind [Op.operands]
  .have:(parts.map fun (i,x)=>(i,ec x))=(parts.toList.map fun p=>(p.1,ec p.2)).toArray :=by
    grind
   simp only [execOp,this]
 | nilCheck x=>
  have hx:=hr x (by simp [Op.operands]);unfold Xg at h;simp only at h;split at h;all_goals first
   | (rename_i e
      rw [e] at hx;simp only [Ac,Aa] at h;obtain ⟨rfl,_⟩:=h;refine ⟨ec x,hx,fun w=> ?_⟩;generalize hw:ec x=u at hx;cases hx <;> simp [execOp,hw])
   | cases h
 | binOp op t x y yt=>have hx:=hr x (by simp [Op.operands]);have hy:=hr y (by simp [Op.operands]);exact lift (IR (by simpa only [Xg] using h) hb hx hy x y) fun w=>rfl
 | unOp op t x=>have hx:=hr x (by simp [Op.operands]);simp only [Xg,Af,Aa] at h;obtain ⟨v',hv,rfl,_⟩:=h;exact lift (Hz hv hx) fun w=>rfl
 | convert src dst' x=>
  have hx:=hr x (by simp [Op.operands]);unfold Xg at h;simp only at h;split at h
  .rename_i sd k k' n hs hu e;rw [e] at hx;generalize hw:ec x=u at hx;cases hx;simp only [Ac,Aa] at h;obtain ⟨rfl,_⟩:=h;refine ⟨_,.int _ _,fun w=> ?_⟩;cases sd <;> simp [execOp,Go.convert,hw,run_underlying hs,run_underlying hu,Conv.intToInt]
  .cases h
 | makeInterface t x=>
  have hx:=hr x (by simp [Op.operands]);unfold Xg at h;simp only at h;split at h
  .cases h
  .cases h
  .rename_i d hni hu;simp only [Ac,Aa] at h;obtain ⟨rfl,_⟩:=h;refine ⟨_,.ifc t _ _ hx,fun w=> ?_⟩;simp_all [execOp,Instr.makeInterface,run_underlying]
 | makeFunc fn first captured=>
  cases fn with
  | func f=>
   unfold Xg at h;simp only at h;cases hf:first.isEmpty with
   | false=>
    rw [hf,Ax] at h;cases hc:captured.isEmpty with
    | false=>grind
    | true=>
     rw [hc,Aq] at h;simp only [Ac,Aa] at h;obtain ⟨rfl,_⟩:=h;have hc:captured= #[]:=(by grind);subst hc;refine ⟨_,.fnb f _ (first.map ec) (by simp) fun i h1 h2=> ?_,fun w=>by simp [execOp,Instr.makeFunc]⟩;have:i<first.size:=by grind
     simpa using hr first[i] (by simp [Op.operands])
   | true=>
    rw [hf,Aq] at h;simp only [Ac,Aa] at h;obtain ⟨rfl,_⟩:=h;have hf:first= #[]:=by grind
    subst hf;refine ⟨_,.fn f _ (captured.map ec) (by simp) fun i h1 h2=> ?_,fun w=>by simp [execOp,Instr.makeFunc]⟩;have:i<captured.size:=by grind
    simpa using hr captured[i] (by simp [Op.operands])
  | _=>simp [Xg] at h
 | fieldAddr t x f=>have hx:=hr x (by simp [Op.operands]);simp only [Xg,Af,Aa] at h;obtain ⟨v',hv,rfl,_⟩:=h;exact lift (Kb hv hx) fun w=>rfl
 | field t x f=>have hx:=hr x (by simp [Op.operands]);simp only [Xg,Af,Aa] at h;obtain ⟨v',hv,rfl,_⟩:=h;exact lift (JK hv hx) fun w=>rfl
 | indexAddr t x i=>have hx:=hr x (by simp [Op.operands]);have hi:=hr i (by simp [Op.operands]);exact lift (Ka (by simpa only [Xg] using h) hb hx hi) fun w=>rfl
 | index t x i=>have hx:=hr x (by simp [Op.operands]);have hi:=hr i (by simp [Op.operands]);exact lift (JL (by simpa only [Xg] using h) hb hx hi) fun w=>rfl
 | extract x i=>
  have hx:=hr x (by simp [Op.operands]);unfold Xg at h;simp only at h;split at h
  .rename_i vs e;rw [e] at hx;simp only [Af,Aa] at h;obtain ⟨v',hv,rfl,_⟩:=h;obtain ⟨hlt,rfl⟩:=Au.1 hv;generalize hw:ec x=u at hx;cases hx with
   | tup _ us hl hh=>have h2:i<us.size:=(by omega);simp_all [execOp,Instr.extract]
  .cases h
 | slice t x lo hi mx=>
  refine lift (JM (by simpa only [Xg] using h) hb (hr x (by simp [Op.operands])) (fun y hy=>hr y ?_) (fun y hy=>hr y ?_) (fun y hy=>hr y ?_)) fun w=>rfl;all_goals grind [Op.operands]
 | call c=>
  obtain ⟨callee,args,argTypes⟩:=c;cases callee with
  | builtin bi=>
   simp only [Xg,Af,Aa] at h;obtain ⟨v',hv,rfl,_⟩:=h;obtain ⟨z,hz,hs⟩:=J3 (ts:=argTypes) (us:=args.map ec) (type:=type) hv (by
    rw [AI];exact Yh.maps _ _ _ fun a ha=>hr a (by grind [Op.operands,Call.operands]))
   simp_all [execOp,resolve,invoke]
  | value f=>simp [Xg] at h
  | invoke r m=>simp [Xg] at h
 | _=>simp [Xg] at h
end
section
variable {P:Program} {ρ:BB}
def Ui (ρ:BB) (w:World) (blk o:Nat) (cs:List BA):Prop:=
 ∀(i:Nat) (h:i<cs.length),∃v,w.cell? ⟨blk,o+i,none⟩=some v/\Zp ρ cs[i] v
theorem BC.cellsAt {mem:BI} {next:Nat} {w:World} (h:BC ρ mem next w) {b:Nat} {l:BM} {ab:BG} (hb:ρ b=some l) (hm:Zb mem b=some ab) (hno:ab.isObj=false):Ui ρ w l.blk l.base ab.cells:=by
 obtain ⟨_,_,_,_,cs,el,h1,h2,h3⟩:=(h.blk b l ab hb hm).at hno;intro i hi
 grind [World.cell?]
theorem BC.dataAt {mem:BI} {next:Nat} {w:World} (h:BC ρ mem next w) {cs:List BA} {blk base:Nat} {val:Nat->Value} (hv: ∀(j:Nat) (hj:j<cs.length),Zp ρ.bare cs[j] (val j))
  (hh: ∀j,j<cs.length->Bs ρ.fz blk (base+j) (val j)):Ui ρ w blk base cs:=by
 intro i hi;obtain ⟨arr,el,fz,e,f⟩:=hh i hi;have:=h.old _ _ e;exact ⟨val i,by simp [World.cell?,this,f],(hv i hi).mono (DO ρ)⟩
theorem Ui.load {w:World} {blk o:Nat} {cs:List BA} (h:Ui ρ w blk o cs) {off n:Nat} (hn:off+n<=cs.length\/n=0):
  ∃vs:Array Value,vs.size=n/\(∀(i:Nat) (h1:off+i<cs.length) (h2:i<vs.size),Zp ρ cs[off+i] vs[i])/\(loadCells ⟨blk,o+off,none⟩ n).run P w=.ok vs w:=by
 have hc: ∀j,j<n->w.cell? ((⟨blk,o+off,none⟩:Addr).add j)=some ((w.cell? ⟨blk,o+(off+j),none⟩).getD undef):=by intro j hj;obtain ⟨v,e,_⟩:=h (off+j) (by omega);rw [Zr,AA,e];rfl
 refine ⟨_,?_,?_,run_loadCells w _ n (fun j=>(w.cell? ⟨blk,o+(off+j),none⟩).getD undef) hc⟩
 .simp
 .intro i h1 h2;obtain ⟨v,e,f⟩:=h (off+i) h1
  grind
theorem Ui.part {w:World} {blk o:Nat} {cs:List BA} (h:Ui ρ w blk o cs) {t:TypeId} {off:Nat} {v:BA} (hp:We P t cs off=some v):
  ∃z,Zp ρ v z/\(loadVar t ⟨blk,o+off,none⟩).run P w=.ok z w:=by
 unfold We at hp;split at hp
 .rename_i i ha hi;simp only [Af] at hp;obtain ⟨p,hc,rfl⟩:=hp;obtain ⟨_,hl,hle⟩:=Vk hc;obtain ⟨vs,hs,hv,hr⟩:=h.load (P:=P) (off:=off) (n:=i.size) (by omega);refine ⟨.agg vs,.agg _ _ (by omega) fun j h1 h2=> ?_,?_⟩
  .grind
  simp_all [loadVar,Wf,Zj]
 .rename_i i ha hi;obtain ⟨hlt,rfl⟩:=Au.1 hp;obtain ⟨v,e,f⟩:=h off hlt;simp_all [loadVar,Wf]
 .cases hp
theorem DI {α:Type} {c:Bool} {x:Option α} {y:α} (h:(bif c then none else x)=some y):c=false/\x=some y:=by cases c <;> simp_all
theorem Hk {mem:BI} {next:Nat} {w:World} (h:BC ρ mem next w) {t:TypeId} {x v:BA} {u:Value} (hl:CT P mem t x=some v) (hx:Zp ρ x u):
  ∃z,Zp ρ v z/\(Instr.loadAt t u).run P w=.ok z w:=by
 unfold CT at hl;split at hl
 .split at hl
  .rename_i b off _ blk hm;cases hx with
   | ptr _ _ l hρ=>
    obtain ⟨hno,hl⟩:=DI hl;obtain ⟨z,hz,hr⟩:=(h.cellsAt hρ hm hno).part hl
    grind [Instr.loadAt,Instr.sureAddr]
  .cases hl
 .cases hx with
  | dptr _ blk base val hv hh=>
   obtain ⟨z,hz,hr⟩:=(h.dataAt hv hh).part hl
   grind [Instr.loadAt,Instr.sureAddr]
 .cases hl
theorem HV (n:Nat) (get:Nat->List BA):rows (n+1) get=rows n get++get n:=by unfold rows;rw [List.range_succ,List.flatMap_append];simp
theorem Za {get:Nat->List BA} {sz:Nat}: ∀(n:Nat),(∀i,i<n->(get i).length =sz)->(rows n get).length =n*sz
 | 0,_=>by simp [rows]
 | n+1,h=>by rw [HV,List.length_append,Za n fun i hi=>h i (by omega),h n (by omega),As,Nat.one_mul]
theorem Yf {get:Nat->List BA} {sz:Nat}: ∀(n:Nat),(∀i,i<n->(get i).length =sz)-> ∀(r j:Nat),r<n->j<sz->(rows n get)[r*sz+j]? =(get r)[j]?
 | 0,_,r,j,hr,_=>by omega
 | n+1,h,r,j,hr,hj=>by
  have hl:=Za n fun i hi=>h i (by omega);rw [HV];by_cases e:r=n
  .subst e;rw [List.getElem?_append_right (by omega),hl]
   congr 1;omega
  .have hlt:r<n:=by omega
   have:(r+1)*sz<=n*sz:=Ak sz hlt;rw [As,Nat.one_mul] at this;rw [List.getElem?_append_left (by omega)];exact Yf n (fun i hi=>h i (by omega)) r j hlt hj
theorem BC.rowAt {mem:BI} {next:Nat} {w:World} (h:BC ρ mem next w) {b:Nat} {l:BM} {ab:BG} {A:B2} (hb:ρ b=some l) (hm:Zb mem b=some ab) (hA:ab.arr=some A) {r:Nat} (hr:r<A.n):Ui ρ w l.blk (l.base+r*A.sz) (A.get r):=by
 have hno:=((h.blk b l ab hb hm).rows hA).noObj;obtain ⟨_,_,_,har,_⟩:=(h.blk b l ab hb hm).rows hA;obtain ⟨e1,_,e3⟩:=har A hA;intro i hi;have hsz:=e3 r hr;have hg:=Yf A.n e3 r i hr (by omega);rw [Ai hi,<-e1] at hg;obtain ⟨hlt,hge⟩:=Au.1 hg;obtain ⟨v,e,f⟩:=h.cellsAt hb hm hno (r*A.sz+i) hlt
 grind
theorem Kv {mem:BI} {next:Nat} {w:World} (h:BC ρ mem next w) {t:TypeId} {x v:BA} {u:Value} (hl:C6 P mem t x=some (v,true)) (hx:Zp ρ x u):
  ∃z,Zp ρ v z/\(Instr.loadAt t u).run P w=.ok z w:=by
 unfold C6 at hl;split at hl
 .split at hl
  .rename_i b sz r fo _ blk hm;split at hl
   .rename_i A hA;simp only [Af,Aa,Ag,An] at hl;obtain ⟨v',hp,rfl,hs,hr⟩:=hl;obtain rfl:=Ae hs;cases hx with
    | epa _ _ _ _ l hρ=>
     obtain ⟨z,hz,aB⟩:=(h.rowAt hρ hm hA hr).part hp
     grind [Instr.loadAt,Instr.sureAddr]
   .cases hl
  .cases hl
 .simp only [Af,Aa,and_true] at hl
  grind [Hk]
theorem Kr {st st':St} {b e:Bool} (h:st.test b=(e,st')):st'.env=st.env/\st'.mem=st.mem/\st'.next=st.next/\(st'.ob=true->e=b/\st.ob=true):=by
 obtain ⟨env,mem,next,orc,ob⟩:=st;cases orc with
 | nil=>
  grind [St.test]
 | cons c r=>
  grind [St.test]
theorem Wv : ∀(rw:BQ) (r:Nat) (st:St) (cs:List BA) (st1:St),Vh rw r st=(cs,st1)->st1.env=st.env/\st1.mem=st.mem/\st1.next=st.next/\(st1.ob=true->cs=rw.get r/\st.ob=true)
 | .flat g,r,st,cs,st1,h=>by simp only [Vh,Aa] at h;obtain ⟨rfl,rfl⟩:=h;exact ⟨rfl,rfl,rfl,fun h=>⟨rfl,h⟩⟩
 | .one r0 c0 b,r,st,cs,st1,h=>by
  unfold Vh at h;split at h;rename_i e st2 ht;obtain ⟨t1,t2,t3,t4⟩:=Kr ht;cases e with
  | true=>simp only [Aq,Aa] at h;obtain ⟨rfl,rfl⟩:=h;exact ⟨t1,t2,t3,fun ho=>⟨by simp only [BQ.get];rw [<-(t4 ho).1];rfl,(t4 ho).2⟩⟩
  | false=>rw [Ax] at h;obtain ⟨p1,p2,p3,p4⟩:=Wv b r st2 cs st1 h;refine ⟨p1.trans t1,p2.trans t2,p3.trans t3,fun ho=> ?_⟩;obtain ⟨q1,q2⟩:=p4 ho;exact ⟨by simp only [BQ.get];rw [<-(t4 q2).1];exact q1,(t4 q2).2⟩
 | .alt c a b,r,st,cs,st1,h=>by
  unfold Vh at h;split at h;rename_i e st2 ht;obtain ⟨t1,t2,t3,t4⟩:=Kr ht;cases e with
  | true=>rw [Aq] at h;obtain ⟨p1,p2,p3,p4⟩:=Wv a r st2 cs st1 h;refine ⟨p1.trans t1,p2.trans t2,p3.trans t3,fun ho=> ?_⟩;obtain ⟨q1,q2⟩:=p4 ho;exact ⟨by simp only [BQ.get];rw [<-(t4 q2).1];exact q1,(t4 q2).2⟩
  | false=>rw [Ax] at h;obtain ⟨p1,p2,p3,p4⟩:=Wv b r st2 cs st1 h;refine ⟨p1.trans t1,p2.trans t2,p3.trans t3,fun ho=> ?_⟩;obtain ⟨q1,q2⟩:=p4 ho;exact ⟨by simp only [BQ.get];rw [<-(t4 q2).1];exact q1,(t4 q2).2⟩
theorem Vm {st st1:St} {t:TypeId} {x v:BA} {o:Bool} (h:Fs P st t x=some (v,o,st1)):st1.env=st.env/\st1.mem=st.mem/\st1.next=st.next/\(st1.ob=true->C6 P st.mem t x=some (v,o)/\st.ob=true):=by
 unfold Fs at h;split at h
 .split at h
  .rename_i b sz r fo _ blk hm;split at h
   .rename_i A hA;split at h;rename_i cs st2 hp;simp only [Af,Aa] at h;obtain ⟨v',hv,rfl,rfl,rfl⟩:=h;obtain ⟨p1,p2,p3,p4⟩:=Wv _ _ _ _ _ hp;refine ⟨p1,p2,p3,fun ho=> ?_⟩;obtain ⟨q1,q2⟩:=p4 ho;refine ⟨?_,q2⟩;subst q1;have hv:We P t (A.get r) fo=some v':=hv
    grind [C6]
   .cases h
  .cases h
 .rename_i hx;simp only [Af,Aa] at h
  grind [C6]
theorem DP {α:Type} {c:Bool} {x z:Option α} {y:α} (h:(bif c then x else z)=some y):(c=true/\x=some y)\/(c=false/\z=some y):=by grind
theorem Ub {A:B2} {r fo:Nat} {cs:List BA} {st st1:St} {rw1:BQ} (h:setRow A r fo cs st=some (rw1,st1)):st1.env=st.env/\st1.mem=st.mem/\st1.next=st.next/\(st1.ob=true->((A.get r).length =A.sz->rw1.get=Vc A.get r fo cs)/\st.ob=true):=by
 obtain ⟨sz,n,rw0⟩:=A;unfold setRow at h;have full: ∀(g:Nat->List BA),cs.length=sz->(g r).length =sz->(fun k=>bif Nat.beq k r then cs else g k)=Vc g r 0 cs:=fun g h1 h2=>by
  grind [Vc]
 split at h
 .rename_i g hg;simp only at hg;subst hg;rcases DP h with ⟨_,h⟩ | ⟨_,h⟩
  .simp only [Ac,Aa] at h;obtain ⟨rfl,rfl⟩:=h;exact ⟨rfl,rfl,rfl,fun ho=>⟨fun _=>rfl,ho⟩⟩
  .rcases DP h with ⟨hc,h2⟩ | ⟨_,h2⟩
   .simp only [Ag] at hc;obtain rfl:=Ae hc.1;have hc2:=Ae hc.2;clear h;simp only [Ac,Aa] at h2;obtain ⟨rfl,rfl⟩:=h2;exact ⟨rfl,rfl,rfl,fun ho=>⟨fun hl=>full g hc2 hl,ho⟩⟩
   .simp only [Ac,Aa] at h2;obtain ⟨rfl,rfl⟩:=h2;exact ⟨rfl,rfl,rfl,fun ho=>⟨fun _=>rfl,ho⟩⟩
 .rename_i r0 c0 b hb;simp only at hb;subst hb;split at h;rename_i e st2 ht;obtain ⟨t1,t2,t3,t4⟩:=Kr ht;rcases DP h with ⟨hc,h2⟩ | ⟨_,h2⟩
  .simp only [Ag] at hc;obtain rfl:=Ae hc.1.2;have hc2:=Ae hc.2;clear h;simp only [Ac,Aa] at h2;obtain ⟨rfl,rfl⟩:=h2;refine ⟨t1,t2,t3,fun ho=>⟨fun hl=> ?_,(t4 ho).2⟩⟩;have he:=(t4 ho).1;rw [hc.1.1] at he;obtain rfl:=Ae he.symm;have:=full (BQ.get (.one r c0 b)) hc2 hl;show _=Vc (BQ.get (.one r c0 b)) r 0 cs
   grind [BQ.get]
  .rcases DP h2 with ⟨hc,h2⟩ | ⟨_,h2⟩
   .clear h;simp only [Ac,Aa] at h2;obtain ⟨rfl,rfl⟩:=h2;refine ⟨t1,t2,t3,fun ho=>⟨fun hl=> ?_,(t4 ho).2⟩⟩;have he:=(t4 ho).1;rw [hc] at he;obtain rfl:=Ae he.symm;show _=Vc (BQ.get (.one r c0 b)) r fo cs;have e0:(BQ.get (.one r c0 b)) r=c0:=by simp [BQ.get]
    funext k
    grind [BQ.get,Vc]
   .cases h2
 .rename_i c a b hb;simp only at hb;subst hb;rcases DP h with ⟨hc,h2⟩ | ⟨_,h2⟩
  .simp only [Ag] at hc;obtain rfl:=Ae hc.1;have hc2:=Ae hc.2;clear h;simp only [Ac,Aa] at h2;obtain ⟨rfl,rfl⟩:=h2;exact ⟨rfl,rfl,rfl,fun ho=>⟨fun hl=>full _ hc2 hl,ho⟩⟩
  .cases h2
structure BU (ρ:BB) (floor:Nat) (st st':St) (v:BA) (w:World) (ρ':BB) (u:Value) (w':World):Prop where
 val:Zp ρ' v u
 rel:BC ρ' st'.mem st'.next w'
 ev:Ev ρ ρ' floor st.mem st.next st'.mem st'.next w w'
def C8 (P:Program) (o:Oper) (a:Act) (w:World) (K:BB->Value->World->Prop):Prop:=
 (∃ρ' u w',(execOp a.eval o).run P w=.ok (.value u) w'/\K ρ' u w')\/
 (∃ρ' w',(execOp a.eval o).run P w=.ok .skip w'/\K ρ' undef w')\/
 (∃f args,(execOp a.eval o).run P w=.ok (.enter f args) w/\Calls P f args w fun e w'=> ∃ρ' u,e=.returned u/\K ρ' u w')
theorem C8.wp {o:Oper} {a:Act} {w:World} {K:BB->Value->World->Prop} {next:Act->World->Prop} {Q:Exit->Act->World->Prop} (h:C8 P o a w K) (hk: ∀ρ' u w',K ρ' u w'->next (a.put o.dst u) w'):o.wp P a w next Q:=by
 unfold Oper.wp;rcases h with ⟨ρ',u,w',e,k⟩ | ⟨ρ',w',e,k⟩ | ⟨f,args,e,hc⟩
 .rw [e];exact hk _ _ _ k
 .rw [e];exact hk _ _ _ k
 .rw [e];exact hc.mono fun e w' ⟨ρ',u,he,k⟩=>by grind
theorem BC.hold {mem:BI} {next:Nat} {w:World} (h:BC ρ mem next w): ∀k,w.heap.size<=k->ρ.fz k=none:=by
 intro k hk;cases e:ρ.fz k with
 | none=>rfl
 | some o=>have:=(Al.1 (h.old k o e)).1;omega
theorem Uw {st:St} {w:World} (h:BC ρ st.mem st.next w) (floor:Nat) (cs:List BA) (ty:TypeId) (vs:Array Value) (el:TypeId) (hn:cs.length<=vs.size)
  (hv: ∀(i:Nat) (h1:i<cs.length) (h2:i<vs.size),Zp ρ cs[i] vs[i]) (v:BA) (u:Value) (aU: ∀ρ',ρ' st.next=some ⟨w.heap.size,0,cs.length,vs.size⟩->Zp ρ' v u) (hel:el=ty:=by rfl):
  BU ρ floor st (Um st cs ty) v w (Yq ρ st.next ⟨w.heap.size,0,cs.length,vs.size⟩) u {w with heap:=w.heap.push (.cells vs el)}:=
 ⟨aU _ (by simp [Yq]),h.new cs ty vs el h.hold hn hv hel,Ev.ofNew h floor _ _ _ (Ah _)⟩
theorem JO {st st':St} {w:World} (h:BC ρ st.mem st.next w) {floor:Nat} {t:TypeId} {x v:BA} {u z:Value} (hs:C7 P floor st t x v=some st') (hx:Zp ρ x u) (hv:Zp ρ v z):
  ∃w',(Instr.storeAt t u z).run P w=.ok () w'/\BU ρ floor st st' (.tup []) w ρ undef w'/\st'.env=st.env/\st'.ob=st.ob:=by
 unfold C7 at hs;split at hs
 .rename_i b off i hi;simp only at hs;cases hc:(Nat.ble floor b&&Nat.beq v.cells.length i.size&&Vp v&&v.cells.all Kp) with
  | false=>grind
  | true=>
   rw [hc,Aq] at hs;simp only [Ag] at hc;obtain ⟨⟨⟨hf,hn⟩,hbx⟩,hsc⟩:=hc;have hf:=Ad hf;have hn:=Ae hn;split at hs
   .rename_i blk hm;cases aJ: !blk.isObj&&Nat.ble (off+i.size) blk.cells.length with
    | false=>grind
    | true=>
     rw [aJ,Aq] at hs;simp only [Ag,AB] at aJ;obtain ⟨hno,aJ⟩:=aJ;have aJ:=Ad aJ;obtain rfl:=Ab hs;cases hx with
     | ptr _ _ l hρ=>
      have aK:=hv.cells hbx;have aP:=Zp.cells_oneCell aK hsc;have aC:z.cells.toList.length=v.cells.length:=(by simpa using aK.1.symm);obtain ⟨cur,el,hw,hsz,aA⟩:=h.write hρ hm (off:=off) (cs:=v.cells) (vs:=z.cells.toList) hno aC (by omega) (fun j h1 h2=>by simpa using aK.2 j h1 (by grind));have aB:=run_storeCells_at P l.blk (l.base+off) el z.cells.toList 0 cur w hw (by omega) aP;refine ⟨w.setRow l.blk (cur.toList.take (l.base+off)++z.cells.toList++cur.toList.drop (l.base+off+z.cells.toList.length)).toArray,?_,⟨.tup [] #[] rfl (fun j h1 _=>by simp at h1),?_,Ev.ofWrite h hρ hf _ _⟩,rfl,rfl⟩;all_goals simp_all [Instr.storeAt,Instr.sureAddr,storeVar,Zj,St.withMem]
   .cases hs
 .cases hs
theorem Wn {get:Nat->List BA} {sz n r fo:Nat} {cs:List BA} (hl: ∀i,i<n->(get i).length =sz) (hf:fo+cs.length<=sz): ∀i,i<n->(Vc get r fo cs i).length =sz:=by
 intro i hi;unfold Vc;cases e:Nat.beq i r with
 | false=>exact hl i hi
 | true=>
  obtain rfl:=Ae e
  grind
theorem Hv {get:Nat->List BA} {sz n r fo:Nat} {cs:List BA} (hl: ∀i,i<n->(get i).length =sz) (hr:r<n) (hf:fo+cs.length<=sz):
  (rows n get).take (r*sz+fo)++cs++(rows n get).drop (r*sz+fo+cs.length)=rows n (Vc get r fo cs):=by
 have aC:=Za n hl;have bQ:=Za n (Wn (r:=r) hl hf);have hb:(r+1)*sz<=n*sz:=Ak sz hr;rw [As,Nat.one_mul] at hb;have aJ:r*sz+fo+cs.length<=(rows n get).length :=by omega
 apply A6;intro i;rw [Xw _ _ _ _ aJ];by_cases hi:i<n*sz
 .have hsz:0<sz:=by
   grind
  have hj:i %sz<sz:=A3 _ hsz;have hq:i / sz<n:=AJ (by grind);have e:i=i / sz*sz+i %sz:=by rw [A7];exact (AS i sz).symm
  generalize i / sz=q at*;generalize i %sz=j at*;subst e;rw [Yf n (Wn (r:=r) hl hf) q j hq hj,Yf n hl q j hq hj];unfold Vc;cases eq:Nat.beq q r with
  | true=>
   obtain rfl:=Ae eq
   grind
  | false=>
   have hne:=Nat.ne_of_beq_eq_false eq;simp only [Ax];rcases Nat.lt_or_gt_of_ne hne with h | h
   .have:(q+1)*sz<=r*sz:=Ak sz h
    grind
   .have:(r+1)*sz<=q*sz:=Ak sz h
    grind
 grind
theorem BC.setArr {mem:BI} {next:Nat} {w:World} {b:Nat} {cs:List BA} {ty:TypeId} (h:BC ρ (Zt mem b (some ⟨cs,ty,none⟩)) next w) (A:B2) (hno:(⟨cs,ty,none⟩:BG).isObj =false) (h1:cs=rows A.n A.get) (h2:1<=A.sz) (h3: ∀i,i<A.n->(A.get i).length =A.sz):
  BC ρ (Zt mem b (some ⟨cs,ty,some A⟩)) next w:=by
 have some_iff: ∀c,(Zb (Zt mem b (some ⟨cs,ty,some A⟩)) c).isSome =(Zb (Zt mem b (some ⟨cs,ty,none⟩)) c).isSome :=fun c=>by
  grind [Yc]
 refine ⟨h.dom,fun c c' m m' e e' he hs hs'=>h.inj c c' m m' e e' he (by grind) (by grind),fun c m ab e hc=> ?_,h.old,fun c m e hs=>h.sep c m e (by grind),h.real,fun c hc=> ?_,h.ldom⟩
 .by_cases ecb:c=b
  .subst ecb;rw [Zq] at hc;obtain rfl:=Ab hc;obtain ⟨q,n,t,_,k⟩:=(h.blk c m ⟨cs,ty,none⟩ e (Zq _ _ _)).at hno;exact .plain ⟨q,n,t,fun B hB=>by grind,k⟩
  .rw [Zx _ _ ecb] at hc;exact h.blk c m ab e (by rw [Zx _ _ ecb];exact hc)
 .have:=h.bd c hc
  grind [Yc]
theorem Ut {cx:BK} {st st':St} {b:Bool} (h:st.owe cx b=some st'):st'.env=st.env/\st'.mem=st.mem/\st'.next=st.next/\(st'.ob=true->b=true/\st.ob=true):=by
 obtain ⟨env,mem,next,orc,ob⟩:=st
 grind [St.owe]
theorem JV {cx:BK} {st st':St} {w:World} (h:BC ρ st.mem st.next w) {t:TypeId} {x v:BA} {u z:Value} (hs:Uf P cx st t x v=some st') (hob:st'.ob=true) (hx:Zp ρ x u) (hv:Zp ρ v z):
  ∃w',(Instr.storeAt t u z).run P w=.ok () w'/\BU ρ cx.floor st st' (.tup []) w ρ undef w':=by
 unfold Uf at hs;split at hs
 .rename_i b sz r fo i hi;cases hc:(Nat.ble cx.floor b&&Nat.beq v.cells.length i.size&&Vp v&&v.cells.all Kp&&Nat.ble (fo+i.size) sz) with
  | false=>grind
  | true=>
   rw [hc,Aq] at hs;simp only [Ag] at hc;obtain ⟨⟨⟨⟨hf,hn⟩,hbx⟩,hsc⟩,hfo⟩:=hc;have hf:=Ad hf;have hn:=Ae hn;have hfo:=Ad hfo;split at hs
   .rename_i blk hm;split at hs
    .rename_i A hA;split at hs
     .rename_i rw1 st1 bM;obtain ⟨_,o2,o3,o4⟩:=Ut hs;obtain ⟨ho,hob1⟩:=o4 hob;obtain ⟨s1,s2,s3,s4⟩:=Ub bM;have o2:st'.mem=Zt st1.mem b (some ⟨rows A.n rw1.get,blk.ty,some ⟨A.sz,A.n,rw1⟩⟩):=o2;have o3:st'.next=st1.next:=o3
      rw [s2] at o2;rw [s3] at o3;simp only [Ag,An] at ho;obtain ⟨hsz,hr⟩:=ho;obtain rfl:=Ae hsz;cases hx with
      | epa _ _ _ _ l hρ=>
       have hbk:=(h.blk b l blk hρ hm).rows hA;have hno:=hbk.noObj;obtain ⟨bF,bX,aM⟩:=hbk.arr A hA;have aK:=hv.cells hbx;have aP:=Zp.cells_oneCell aK hsc;have aC:z.cells.toList.length=v.cells.length:=(by simpa using aK.1.symm);have hrl:=Za A.n aM;have hb:(r+1)*A.sz<=A.n*A.sz:=Ak A.sz hr;rw [As,Nat.one_mul] at hb;obtain ⟨cur,el,hw,hsz,aA⟩:=h.write hρ hm (off:=r*A.sz+fo) (cs:=v.cells) (vs:=z.cells.toList) hno aC (by grind) (fun j h1 h2=>by simpa using aK.2 j h1 (by grind));have aB:=run_storeCells_at P l.blk (l.base+(r*A.sz+fo)) el z.cells.toList 0 cur w hw (by omega) aP;have hno2:=hbk.splice (off:=r*A.sz+fo) (cs:=v.cells) (vs:=z.cells.toList) aC (by grind) (fun j h1 h2=>by simpa using aK.2 j h1 (by grind)) blk.ty none;rw [bF,Hv aM hr (by omega)] at aA hno2;have hrw:=(s4 hob1).1 (aM r hr);rw [<-hrw] at aA hno2;have aA:=aA.setArr ⟨A.sz,A.n,rw1⟩ hno2 rfl bX (by show∀i,i<A.n->(rw1.get i).length =A.sz;rw [hrw];exact Wn (sz:=A.sz) aM (by omega));refine ⟨w.setRow l.blk (cur.toList.take (l.base+(r*A.sz+fo))++z.cells.toList++cur.toList.drop (l.base+(r*A.sz+fo)+z.cells.toList.length)).toArray,?_,⟨.tup [] #[] rfl (fun j h1 _=>by simp at h1),?_,?_⟩⟩
       .have hzs:z.cells.size=i.size:=(by grind);simp only [A8] at aB;simp [Instr.storeAt,Instr.sureAddr,storeVar,Zj hi,hzs,-List.append_assoc,-Array.length_toList,aB]
       all_goals grind [Ev.ofWrite]
     .cases hs
    .cases hs
   .cases hs
 .cases hs
theorem Hb (f:Nat->Value):(Array.range 0).map f= #[]:=by grind
theorem Wc (n:Nat) (l:List BA):(BP n l).length =n*l.length:=by simp_all [BP]
theorem Gu (l:List BA): ∀(n i:Nat) (h:i<(BP n l).length) (hl:i %l.length<l.length),(BP n l)[i]=l[i %l.length]
 | 0,i,h,_=>by simp [BP] at h
 | n+1,i,h,hl=>by
  have e:BP (n+1) l=l++BP n l:=by simp [BP,List.replicate_succ]
  have hpos:0<l.length:=by omega
  by_cases hi:i<l.length
  .simp only [e,AZ hi,Nat.mod_eq_of_lt hi]
  .have h2:i - l.length<(BP n l).length :=by rw [e] at h;simp at h;omega
   simp only [e];rw [AX (by omega)];have hm:(i - l.length) %l.length=i %l.length:=(Nat.mod_eq_sub_mod (by omega)).symm;rw [Gu l n (i - l.length) h2 (by omega)];simp only [hm]
theorem Jc {zero:List BA} {zs:Array Value} (h:Yg ρ zero zs) (n m:Nat) (hm:m=n*zero.length):Yg ρ (BP n zero) ((Array.range m).map (zs[· %zs.size]!)):=by
 refine ⟨by rw [Wc];simp [hm],fun i h1 h2=> ?_⟩;have hi:i<n*zero.length:=by grind
 have hpos:0<zero.length:=by
  grind
 have hlt:i %zero.length<zero.length:=A3 _ hpos;rw [Gu zero n i h1 hlt];have hlt2:i %zero.length<zs.size:=by rw [<-h.1];exact hlt
 have:=h.2 (i %zero.length) hlt hlt2;simp only [Array.getElem_map,Array.getElem_range];rw [<-h.1]
 grind
theorem Js {st st':St} {w:World} (h:BC ρ st.mem st.next w) (floor:Nat) {t:TypeId} {len:Nat} {ps:List (Nat×BA)} {qs:List (Nat×Value)} {v:BA} {un:Bool} (hb:Xx P un st t len ps=some (v,st')) (hp:Wp ρ ps qs):
  ∃ρ' u w',(Instr.buildSlice t len qs.toArray).run P w=.ok u w'/\BU ρ floor st st' v w ρ' u w'/\st'.env=st.env/\st'.ob=st.ob:=by
 unfold Xx at hb;split at hb
 .rename_i e hu;split at hb
  .rename_i i zero hi hz;cases hc:(Nat.ble (len*i.size) 16777216&&Nat.beq zero.length i.size) with
   | false=>grind
   | true=>
    rw [hc,Aq] at hb;simp only [Ag] at hc;have hle:=Ad hc.1;have hzl:=Ae hc.2;split at hb
    .rename_i cells aK;simp only [Ac,Aa] at hb;obtain ⟨rfl,rfl⟩:=hb;obtain ⟨_,z,_,_,hzr,hzv⟩:=Yy (ρ:=ρ) hz;have bG:=Jc hzr len (len*i.size) (by rw [hzl]);obtain ⟨arr,h1,h2⟩:=Xa aK bG hp;have aC:len<=len:=Ah _;have aH:Ww ⟨w.heap.size,0,cells.length,arr.size⟩ 0 (bif un&&Nat.beq cells.length (len*i.size) then .un i.size else .ex len) len:=by
      cases hq:(un&&Nat.beq cells.length (len*i.size)) with
      | false=>rfl
      | true=>simp only [Ag] at hq;have hq2:=Ae hq.2;have:=h2.1;exact ⟨by grind,by grind⟩
     refine ⟨_,.slice (some ⟨w.heap.size,0,none⟩) len len,_,?_,Uw h floor cells e arr e (by rw [h2.1];grind) h2.2 _ _ (fun ρ' hρ'=>.sl _ 0 _ _ _ _ hρ' aH aC),rfl,rfl⟩;have hgt: ¬len*i.size>2 ^ 24:=(by omega);by_cases h0:len*i.size=0
     .have h1':Instr.fill (fun j=>some (j*i.size,i.size)) #[] qs=some arr:=by
       grind
      simp [Instr.buildSlice,run_underlying hu,Zj hi,h0,h1',newRow,Hb]
     .have hgt': ¬2 ^ 24<len*i.size:=hgt;simp [Instr.buildSlice,run_underlying hu,Zj hi,h0,hzv,h1,newRow,hgt']
    .cases hb
  .cases hb
 .cases hb
theorem Kz {n:Int} (h0:0<=n) (h1:n<=1099511627776):IntKind.i64.wrap n=n:=by
 have hm:n %(2 ^ IntKind.i64.bits:Int)=n:=by
  apply Int.emod_eq_of_lt h0;have:(2 ^ IntKind.i64.bits:Int)=18446744073709551616:=by decide
  omega
 unfold wrap;simp only [hm];have: ¬(n>=(2 ^ (IntKind.i64.bits - 1):Int)):=by
  have:(2 ^ (IntKind.i64.bits - 1):Int)=9223372036854775808:=by decide
  omega
 simp [this]
theorem Xe {st st':St} {w:World} (h:BC ρ st.mem st.next w) (floor:Nat) {t:TypeId} {x y v:BA} {ux uy:Value} (hb:Yn P st t x y=some (v,st')) (hx:Zp ρ x ux) (hy:Zp ρ y uy):
  ∃ρ' u w',(Instr.makeSlice t ux uy).run P w=.ok u w'/\BU ρ floor st st' v w ρ' u w'/\st'.env=st.env/\st'.ob=st.ob:=by
 unfold Yn at hb;split at hb
 .rename_i e _ l _ c hu;cases hx;cases hy;split at hb
  .rename_i i zero hi hz;cases hc:(Nat.beq zero.length i.size&&(decide (0<=l)&&decide (l<=c)&&decide (c*i.bytes<=1099511627776)&&decide (c<=1099511627776))) with
   | false=>grind
   | true=>
    rw [hc,Aq] at hb;simp only [Ag,An] at hc;obtain ⟨hzl,⟨⟨h0,hlc⟩,hcb⟩,hc40⟩:=hc;have hzl:=Ae hzl;simp only [Ac,Aa] at hb;obtain ⟨rfl,rfl⟩:=hb;obtain ⟨_,z,_,_,hzr,hzv⟩:=Yy (ρ:=ρ) hz;have bG:=Jc hzr c.toNat (c.toNat*i.size) (by rw [hzl]);have wl:=Kz (n:=l) h0 (by omega);have wc:=Kz (n:=c) (by omega) hc40;have e1: ¬c<0:=(by omega);have e2: ¬(281474976710656<(i.bytes:Int)*c):=(by grind);have e3: ¬l<0:=(by omega);have e4: ¬c<l:=(by omega);by_cases hz0:c.toNat*i.size=0
    .rw [hz0] at bG;refine ⟨_,.slice (some ⟨w.heap.size,0,none⟩) l.toNat c.toNat,_,?_,Uw h floor (BP c.toNat zero) e #[] e (by rw [Wc,hzl];simp [hz0]) (fun j h1 h2=>by simp at h2) _ _ (fun ρ' hρ'=>.sl _ 0 _ _ _ _ hρ' rfl (by omega)),rfl,rfl⟩;simp [Instr.makeSlice,run_underlying hu,asInt,asIntOf,run_typeInfo w hi,wl,wc,e1,e2,e3,e4,Zj hi,hz0,newRow,Hb]
    .refine ⟨_,.slice (some ⟨w.heap.size,0,none⟩) l.toNat c.toNat,_,?_,Uw h floor (BP c.toNat zero) e _ e (by rw [bG.1];grind) bG.2 _ _ (fun ρ' hρ'=>.sl _ 0 _ _ _ _ hρ' rfl (by omega)),rfl,rfl⟩;simp [Instr.makeSlice,run_underlying hu,asInt,asIntOf,run_typeInfo w hi,wl,wc,e1,e2,e3,e4,Zj hi,hz0,newRow,hzv]
  .cases hb
 .cases hb
end
section
variable {P:Program} {ρ:BB}
theorem BC.kill {mem:BI} {next:Nat} {w:World} (h:BC ρ mem next w) (b:Nat):BC ρ (Zt mem b none) next w:=
 ⟨h.dom,fun c c' m m' e e' he hs hs'=>by
  have hc:c≠b:=fun e=>by rw [e,Zq] at hs;cases hs
  have hc':c'≠b:=fun e=>by grind [Zq]
  rw [Zx _ _ hc] at hs;rw [Zx _ _ hc'] at hs';exact h.inj c c' m m' e e' he hs hs',
  fun c m ab e hc=>by
   have hcb:c≠b:=fun e=>by rw [e,Zq] at hc;cases hc
   rw [Zx _ _ hcb] at hc;exact h.blk c m ab e hc,h.old,fun c m e hs=>by
   have hcb:c≠b:=fun e=>by rw [e,Zq] at hs;cases hs
   rw [Zx _ _ hcb] at hs;exact h.sep c m e hs,h.real,fun c hc=>by
   by_cases hcb:c=b
   .rw [hcb,Zq]
   .rw [Zx _ _ hcb];exact h.bd c hc,h.ldom⟩
theorem Ev.ofKill {mem:BI} {next:Nat} {w:World} (h:BC ρ mem next w) (floor:Nat) {b:Nat} {l:BM} (hb:ρ b=some l):Ev ρ ρ floor mem next (Zt mem b none) next w w where
 ext:=BB.le_refl _
 new _ _:=rfl
 nxt:=Ah _
 unborn k _ e cs ty hm:=by grind [Zx]
 frame _ _ hk _:=hk
 fresh k m hk e:=by have:=h.dom k m e;omega
 size:=Ah _
 os:=rfl
 tape:=rfl
 output:=rfl
 still _ _:=rfl
theorem BC.beyond {mem:BI} {next:Nat} {w:World} (h:BC ρ mem next w) {b:Nat} {l:BM} {ab:BG} (hb:ρ b=some l) (hm:Zb mem b=some ab) (hno:ab.isObj=false) {off:Nat} {new:List BA} {vs:List Value} (ty:TypeId)
  (aC:vs.length=new.length) (hoff:off<=ab.cells.length) (aJ:ab.cells.length+new.length<=l.tot) (hv: ∀(i:Nat) (h1:i<new.length) (h2:i<vs.length),Zp ρ new[i] vs[i]) (hel:ab.ty=ty):
  ∃ cur el,w.heap[l.blk]? =some (.cells cur el (0,0))/\l.base+ab.cells.length+vs.length<=cur.size/\
   BC (Yq ρ next ⟨l.blk,l.base+off,ab.cells.length - off+new.length,l.tot - off⟩) (Zt (Zt mem b none) next (some ⟨ab.cells.drop off++new,ty,none⟩)) (next+1)
    (w.setRow l.blk (cur.toList.take (l.base+ab.cells.length)++vs++cur.toList.drop (l.base+ab.cells.length+vs.length)).toArray):=by
 obtain ⟨hty,hn,ht,_,cur,el,h1,h2,h3⟩:=(h.blk b l ab hb hm).at hno;have hbn:b<next:=h.dom b l hb
 have hle:=Xb (l:=⟨l.blk,l.base+off,ab.cells.length - off+new.length,l.tot - off⟩) h.none_next;have hfc:l.base+ab.cells.length+vs.length<=cur.toList.length:=by simp;omega
 have aG: ∀c m,Yq ρ next ⟨l.blk,l.base+off,ab.cells.length - off+new.length,l.tot - off⟩ c=some m->(c=next/\m=⟨l.blk,l.base+off,ab.cells.length - off+new.length,l.tot - off⟩)\/(c≠next/\ρ c=some m):=fun c m e=>by
  grind [Yb]
 have live: ∀c,c≠next->(Zb (Zt (Zt mem b none) next (some ⟨ab.cells.drop off++new,ty,none⟩)) c).isSome =true->c≠b/\(Zb mem c).isSome =true:=fun c hc hs=>by
  grind [Zx,Zq]
 refine ⟨cur,el,h1,by grind,fun c m e=> ?_,fun c c' m m' e e' he hs hs'=> ?_,fun c m ac e hc=> ?_,fun k o e=> ?_,fun c m e=> ?_,fun c m e=> ?_,fun c hc=>by rw [Zx _ _ (by omega),Zx _ _ (by omega)];exact h.bd c (by omega),⟨fun j l e=>AE (h.ldom.1 j l e),h.ldom.2⟩⟩
 .rcases aG c m e with ⟨rfl,_⟩ | ⟨_,e⟩
  .omega
  .have:=h.dom c m e;omega
 .rcases aG c m e with ⟨hc,hl⟩ | ⟨hc,e2⟩ <;> rcases aG c' m' e' with ⟨hc',hl'⟩ | ⟨hc',e2'⟩
  .rw [hc,hc']
  .obtain ⟨hcb,hs'⟩:=live c' hc' hs';rw [hl] at he;exact absurd (h.inj c' b m' l e2' hb he.symm hs' (by rw [hm];rfl)) hcb
  .obtain ⟨hcb,hs⟩:=live c hc hs;rw [hl'] at he;exact absurd (h.inj c b m l e2 hb he hs (by rw [hm];rfl)) hcb
  .obtain ⟨_,hs⟩:=live c hc hs;obtain ⟨_,hs'⟩:=live c' hc' hs';exact h.inj c c' m m' e2 e2' he hs hs'
 .rcases aG c m e with ⟨rfl,rfl⟩ | ⟨hcn,e2⟩
  .rw [Zq] at hc;obtain rfl:=Ab hc;refine .plain ⟨by rw [setRow_heap w l.blk cur _ el (0,0) h1];grind,by simp,by simp;omega,(fun A e=>by cases e),_,el,setRow_heap w l.blk cur _ el (0,0) h1,?_,fun i hi=> ?_⟩
   .grind
   .simp only [List.length_append,List.length_drop] at hi;simp only [List.getElem?_toArray];rw [Xw _ _ _ _ hfc];by_cases g1:off+i<ab.cells.length
    .rw [Ap (by omega),AZ (by simp;omega)];obtain ⟨v,e1,e2⟩:=h3 (off+i) g1;exact ⟨v,by grind,by simpa using e2.mono hle⟩
    .rw [Aj (by omega),Ap (by omega),AX (by simp;omega)];have hi2:l.base+off+i - (l.base+ab.cells.length)<vs.length:=(by omega);refine ⟨vs[l.base+off+i - (l.base+ab.cells.length)],Ai hi2,?_⟩;have e3:i - (ab.cells.drop off).length =l.base+off+i - (l.base+ab.cells.length):=by simp;omega
     have:=hv (l.base+off+i - (l.base+ab.cells.length)) (by omega) hi2;simp only [e3];exact this.mono hle
  .have hcs:(Zb mem c).isSome =true/\c≠b:=by
    grind
   rw [Zx _ _ hcn,Zx _ _ hcs.2] at hc;refine (h.blk c m ac e2 hc).world hle (setRow_other w l.blk m.blk _ fun heq=>hcs.2 ?_);exact h.inj c b m l e2 hb heq hcs.1 (by rw [hm];rfl)
 .have e:ρ.fz k=some o:=e;have hk:=h.old k o e;rw [setRow_other]
  .exact hk
  .intro heq;have:=h.sep b l hb (by rw [hm];rfl)
   grind
 .intro hs;rcases aG c m e with ⟨rfl,rfl⟩ | ⟨hcn,e⟩
  .exact h.sep b l hb (by rw [hm];rfl)
  .exact h.sep c m e (live c hcn hs).2
 .rw [setRow_size];rcases aG c m e with ⟨rfl,rfl⟩ | ⟨_,e⟩
  .grind
  .exact h.real c m e
theorem BC.beyond2 {mem:BI} {next:Nat} {w:World} (h:BC ρ mem next w) {b:Nat} {l:BM} {ab:BG} (hb:ρ b=some l) (hm:Zb mem b=some ab) (hno:ab.isObj=false) {off m T:Nat} {new:List BA} {vs:List Value} (ty:TypeId)
  (aC:vs.length=new.length) (hoff:off<=m) (hmc:m<=ab.cells.length) (aJ:m - off+new.length<=T) (hT:off+T<=l.tot) (hv: ∀(i:Nat) (h1:i<new.length) (h2:i<vs.length),Zp ρ new[i] vs[i]) (hel:ab.ty=ty):
  ∃ cur el,w.heap[l.blk]? =some (.cells cur el (0,0))/\l.base+m+vs.length<=cur.size/\
   BC (Yq ρ next ⟨l.blk,l.base+off,m - off+new.length,T⟩) (Zt (Zt mem b none) next (some ⟨(ab.cells.take m).drop off++new,ty,none⟩)) (next+1)
    (w.setRow l.blk (cur.toList.take (l.base+m)++vs++cur.toList.drop (l.base+m+vs.length)).toArray):=by
 obtain ⟨hty,hn,ht,_,cur,el,h1,h2,h3⟩:=(h.blk b l ab hb hm).at hno;have hbn:b<next:=h.dom b l hb
 have hle:=Xb (l:=⟨l.blk,l.base+off,m - off+new.length,T⟩) h.none_next;have hfc:l.base+m+vs.length<=cur.toList.length:=by simp;omega
 have aG: ∀c lm,Yq ρ next ⟨l.blk,l.base+off,m - off+new.length,T⟩ c=some lm->(c=next/\lm=⟨l.blk,l.base+off,m - off+new.length,T⟩)\/(c≠next/\ρ c=some lm):=fun c lm e=>by
  grind [Yb]
 have live: ∀c,c≠next->(Zb (Zt (Zt mem b none) next (some ⟨(ab.cells.take m).drop off++new,ty,none⟩)) c).isSome =true->c≠b/\(Zb mem c).isSome =true:=fun c hc hs=>by
  grind [Zx,Zq]
 refine ⟨cur,el,h1,by grind,fun c lm e=> ?_,fun c c' lm lm' e e' he hs hs'=> ?_,fun c lm ac e hc=> ?_,fun k o e=> ?_,fun c lm e=> ?_,fun c lm e=> ?_,fun c hc=>by rw [Zx _ _ (by omega),Zx _ _ (by omega)];exact h.bd c (by omega),⟨fun j l e=>AE (h.ldom.1 j l e),h.ldom.2⟩⟩
 .rcases aG c lm e with ⟨rfl,_⟩ | ⟨_,e⟩
  .omega
  .have:=h.dom c lm e;omega
 .rcases aG c lm e with ⟨hc,hl⟩ | ⟨hc,e2⟩ <;> rcases aG c' lm' e' with ⟨hc',hl'⟩ | ⟨hc',e2'⟩
  .rw [hc,hc']
  .obtain ⟨hcb,hs'⟩:=live c' hc' hs';rw [hl] at he;exact absurd (h.inj c' b lm' l e2' hb he.symm hs' (by rw [hm];rfl)) hcb
  .obtain ⟨hcb,hs⟩:=live c hc hs;rw [hl'] at he;exact absurd (h.inj c b lm l e2 hb he hs (by rw [hm];rfl)) hcb
  .obtain ⟨_,hs⟩:=live c hc hs;obtain ⟨_,hs'⟩:=live c' hc' hs';exact h.inj c c' lm lm' e2 e2' he hs hs'
 .rcases aG c lm e with ⟨rfl,rfl⟩ | ⟨hcn,e2⟩
  .rw [Zq] at hc;obtain rfl:=Ab hc;have htl:((ab.cells.take m).drop off).length =m - off:=by grind
   refine .plain ⟨by rw [setRow_heap w l.blk cur _ el (0,0) h1];grind,by grind,aJ,(fun A e=>by cases e),_,el,setRow_heap w l.blk cur _ el (0,0) h1,?_,fun i hi=> ?_⟩
   .grind
   .simp only [] at hi;rw [List.length_append,htl] at hi;simp only [List.getElem?_toArray];rw [Xw _ _ _ _ hfc];by_cases g1:off+i<m
    .rw [Ap (by omega),AZ (by grind)];obtain ⟨v,e1,e2⟩:=h3 (off+i) (by omega);exact ⟨v,by grind,by simpa using e2.mono hle⟩
    .rw [Aj (by omega),Ap (by omega),AX (by grind)];have hi2:l.base+off+i - (l.base+m)<vs.length:=(by omega);refine ⟨vs[l.base+off+i - (l.base+m)],Ai hi2,?_⟩;have e3:i - ((ab.cells.take m).drop off).length =l.base+off+i - (l.base+m):=(by grind);have:=hv (l.base+off+i - (l.base+m)) (by omega) hi2;simp only [e3];exact this.mono hle
  .have hcs:(Zb mem c).isSome =true/\c≠b:=by
    grind
   rw [Zx _ _ hcn,Zx _ _ hcs.2] at hc;refine (h.blk c lm ac e2 hc).world hle (setRow_other w l.blk lm.blk _ fun heq=>hcs.2 ?_);exact h.inj c b lm l e2 hb heq hcs.1 (by rw [hm];rfl)
 .have e:ρ.fz k=some o:=e;have hk:=h.old k o e;rw [setRow_other]
  .exact hk
  .intro heq;have:=h.sep b l hb (by rw [hm];rfl)
   grind
 .intro hs;rcases aG c lm e with ⟨rfl,rfl⟩ | ⟨hcn,e⟩
  .exact h.sep b l hb (by rw [hm];rfl)
  .exact h.sep c lm e (live c hcn hs).2
 .rw [setRow_size];rcases aG c lm e with ⟨rfl,rfl⟩ | ⟨_,e⟩
  .grind
  .exact h.real c lm e
theorem Ev.ofBeyond {mem:BI} {next:Nat} {w:World} (h:BC ρ mem next w) {floor b:Nat} {l:BM} (hb:ρ b=some l) (hf:floor<=b) (l':BM) (hl:l'.blk=l.blk) (o:Option BG) (cs:Array Value):
  Ev ρ (Yq ρ next l') floor mem next (Zt (Zt mem b none) next o) (next+1) w (w.setRow l.blk cs) where
 ext:=Xb h.none_next
 new k hk:=by simp [Yq,AM hk]
 nxt:=A9 _
 unborn k hk e cs ty hm:=by
  grind [Zx]
 frame k o hk hfr:=by
  grind [setRow_other]
 fresh k m hk e:=by
  rw [Yb] at e;by_cases hkn:k=next
  .grind
  .rw [Aj hkn] at e;have:=h.dom k m e;omega
 size:=by simp_all
 os:=rfl
 tape:=rfl
 output:=rfl
 still _ _:=rfl
theorem Yp {mem:BI} {next:Nat} {w:World} (h:BC ρ mem next w) {sz:Nat} {x:BA} {u:Value} {len:Nat} {cs:List BA} (hc:Zd mem sz x=some (len,cs)) (hx:Zp ρ x u) (hl:cs.length=len*sz):
  (∀w,(Builtin.lenOf u).run P w=.ok len w)/\ ∀n,n<=len-> ∃vs:Array Value,Yg ρ (cs.take (n*sz)) vs/\ ∀d,(Builtin.firstCells sz n u).run P {w with drawn:=d}=.ok vs {w with drawn:=d}:=by
 unfold Zd at hc;split at hc
 .simp only [Ac,Aa] at hc;obtain ⟨rfl,rfl⟩:=hc;cases hx;refine ⟨fun w=>by simp [Builtin.lenOf],fun n hn=>⟨#[],⟨by simp,fun i h1 _=>by simp at h1⟩,fun d=>by simp [Builtin.firstCells]⟩⟩
 .rename_i b off len' cap;split at hc
  .rename_i blk hm;obtain ⟨hno,hc⟩:=DI hc;simp only [Af,Aa] at hc;obtain ⟨p,hp,rfl,rfl⟩:=hc;cases hx with
   | sl _ _ _ _ l c hρ aH aC=>
    refine ⟨fun w=>by simp [Builtin.lenOf],fun n hn=> ?_⟩;obtain ⟨_,hpl,hle⟩:=Vk hp;have hmul:n*sz<=len'*sz:=Ak sz hn;have hex: ∀d,∃vs:Array Value,Yg ρ (p.take (n*sz)) vs/\(Builtin.firstCells sz n (.slice (some ⟨l.blk,l.base+off,none⟩) len' c)).run P {w with drawn:=d}=.ok vs {w with drawn:=d}:=by
     intro d;obtain ⟨vs,hs,hv,hr⟩:=((h.drawn d).cellsAt hρ hm hno).load (P:=P) (off:=off) (n:=n*sz) (by omega);refine ⟨vs,⟨by simp;omega,fun i h1 h2=> ?_⟩,by simpa [Builtin.firstCells] using hr⟩
     grind
    obtain ⟨vs,hv,hr⟩:=hex 0;refine ⟨vs,hv,fun d=> ?_⟩;obtain ⟨b',e1,e2⟩: ∃b',(∀d,(loadCells ⟨l.blk,l.base+off,none⟩ (n*sz)).run P {w with drawn:=d}=.ok b' {w with drawn:=d})/\True:=by
     have hc: ∀d j,j<n*sz->({w with drawn:=d}:World).cell? ((⟨l.blk,l.base+off,none⟩:Addr).add j)=some ((w.cell? ⟨l.blk,l.base+(off+j),none⟩).getD undef):=by
      intro d j hj;obtain ⟨v,e,_⟩:=(h.cellsAt hρ hm hno) (off+j) (by omega)
      rw [Zr,AA];show w.cell? _=_;rw [e];rfl
     simp_all [run_loadCells]
    grind [Builtin.firstCells]
  .cases hc
 .cases hc
theorem HO (n:Nat): ∀(r c:Nat),c<n->Builtin.growBy n r c<=n+(n+768) / 4
 | 0,c,h=>by simp only [Builtin.growBy];omega
 | r+1,c,h=>by
  unfold Builtin.growBy;rw [Aj (by omega)];by_cases h2:c+(c+768) / 4<n
  .exact HO n r _ h2
  .cases r with
   | zero=>simp only [Builtin.growBy];omega
   | succ r=>unfold Builtin.growBy;rw [Ap (by omega)];omega
theorem Qv (n c:Nat) (h:c<n):Builtin.nextslicecap n c<=2*n+192:=by
 grind [Builtin.nextslicecap,HO]
theorem Gv {need c bytes:Nat} (h:(need+1)*(bytes+1)<=1099511627776) (hc:c<need): ¬Builtin.nextslicecap need c*bytes>2 ^ 48:=by
 have h1:=Qv need c hc;have h2:Builtin.nextslicecap need c*bytes<=(192*(need+1))*(bytes+1):=Nat.mul_le_mul (by omega) (by omega)
 grind
end
end Go.Am
end
