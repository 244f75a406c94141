/- A part of a proof: several texts in one. -/
import Derived.Calls
import Derived.Orders
import Derived.KernelRfl
import Derived.DeepKeys
import Derived.Below
import Derived.Laws.Sem
import Derived.Laws.Tables
import Derived.Laws.CopyRow
import Derived.Laws.Cells
import Derived.Laws.Entries
import Derived.Laws.StructEq
import Derived.ChangeKeysEq
import Derived.WalkSpells
set_option maxRecDepth 1000000
set_option maxHeartbeats 8000000
set_option linter.unusedVariables false
set_option linter.unusedSimpArgs false
noncomputable section
namespace Go.Am
open IntKind (wrap)
theorem Aa:type_of%@Prod.mk.injEq:=@Prod.mk.injEq
theorem Ab:type_of%@Option.some.injEq:=@Option.some.injEq
theorem Ac:type_of%@Option.some.inj:=@Option.some.inj
theorem Ad:type_of%@Bool.and_eq_true:=@Bool.and_eq_true
theorem Ae:type_of%@Nat.eq_of_beq_eq_true:=@Nat.eq_of_beq_eq_true
theorem Af:type_of%@Nat.le_of_ble_eq_true:=@Nat.le_of_ble_eq_true
theorem Ag:type_of%@Option.map_eq_some_iff:=@Option.map_eq_some_iff
theorem Ah:type_of%@cond_true:=@cond_true
theorem Ai:type_of%@cond_false:=@cond_false
theorem Aj:type_of%@Nat.zero_add:=@Nat.zero_add
theorem Ak:type_of%@Nat.le_refl:=@Nat.le_refl
theorem Al:type_of%@congrArg:=@congrArg
theorem An:type_of%@Bool.and_true:=@Bool.and_true
theorem Ao:type_of%@List.getElem?_eq_getElem:=@List.getElem?_eq_getElem
theorem Ap:type_of%@Bool.true_and:=@Bool.true_and
theorem Aq:type_of%@decide_eq_true:=@decide_eq_true
theorem Ar:type_of%@decide_true:=@decide_true
theorem As:type_of%@Array.getElem?_eq_some_iff:=@Array.getElem?_eq_some_iff
theorem At:type_of%@if_neg:=@if_neg
theorem Au:type_of%@decide_eq_true_eq:=@decide_eq_true_eq
theorem Av:type_of%@Nat.mul_le_mul_right:=@Nat.mul_le_mul_right
theorem Aw:type_of%@Bool.not_false:=@Bool.not_false
theorem Ax:type_of%@Bool.not_true:=@Bool.not_true
theorem Ay:type_of%@List.drop_eq_nil_of_le:=@List.drop_eq_nil_of_le
theorem Az:type_of%@List.all_eq_true:=@List.all_eq_true
theorem AA:type_of%@of_decide_eq_true:=@of_decide_eq_true
theorem AB:type_of%@if_pos:=@if_pos
theorem AC:type_of%@Nat.not_lt_zero:=@Nat.not_lt_zero
theorem AD:type_of%@Nat.zero_le:=@Nat.zero_le
theorem AE:type_of%@Nat.le_trans:=@Nat.le_trans
theorem AF:type_of%@Nat.add_assoc:=@Nat.add_assoc
theorem AG:type_of%@List.append_assoc:=@List.append_assoc
theorem AH:type_of%@Nat.add_mul:=@Nat.add_mul
theorem AI:type_of%@Nat.ble_eq_true_of_le:=@Nat.ble_eq_true_of_le
theorem AJ:type_of%@Nat.lt_of_lt_of_le:=@Nat.lt_of_lt_of_le
theorem AK:type_of%@List.getElem?_eq_some_iff:=@List.getElem?_eq_some_iff
theorem AL:type_of%@List.append_nil:=@List.append_nil
theorem AM:type_of%@List.mem_range:=@List.mem_range
theorem AN:type_of%@decide_eq_false:=@decide_eq_false
theorem AO:type_of%@Bool.not_eq_true':=@Bool.not_eq_true'
theorem AP:type_of%@Nat.div_lt_of_lt_mul:=@Nat.div_lt_of_lt_mul
theorem AQ:type_of%@List.map_cons:=@List.map_cons
theorem AR:type_of%@List.getElem_mem:=@List.getElem_mem
theorem AS:type_of%@Nat.lt_or_ge:=@Nat.lt_or_ge
theorem AT:type_of%@Bool.eq_false_iff:=@Bool.eq_false_iff
theorem AU:type_of%@Nat.ne_of_lt:=@Nat.ne_of_lt
theorem AV:type_of%@List.take_of_length_le:=@List.take_of_length_le
theorem AW:type_of%@Nat.lt_succ_of_lt:=@Nat.lt_succ_of_lt
theorem AX:type_of%@List.length_append:=@List.length_append
theorem AY:type_of%@List.length_cons:=@List.length_cons
theorem AZ:type_of%@List.drop_zero:=@List.drop_zero
theorem A0:type_of%@Array.toList_map:=@Array.toList_map
theorem A1:type_of%@Nat.add_zero:=@Nat.add_zero
theorem A2:type_of%@Nat.mod_lt:=@Nat.mod_lt
theorem A3:type_of%@Nat.lt_trichotomy:=@Nat.lt_trichotomy
theorem A4:type_of%@Nat.div_add_mod:=@Nat.div_add_mod
theorem A5:type_of%@Array.getElem?_modify:=@Array.getElem?_modify
theorem A6:type_of%@Bool.false_and:=@Bool.false_and
theorem A7:type_of%@List.getElem_append_right:=@List.getElem_append_right
theorem A8:type_of%@Array.getElem?_eq_getElem:=@Array.getElem?_eq_getElem
theorem A9:type_of%@Bool.or_eq_true:=@Bool.or_eq_true
theorem Ba:type_of%@Nat.mul_comm:=@Nat.mul_comm
theorem Bb:type_of%@List.getElem_append_left:=@List.getElem_append_left
theorem Bc:type_of%@List.cons.injEq:=@List.cons.injEq
theorem Bd:type_of%@List.take_add_one:=@List.take_add_one
theorem Be:type_of%@List.mem_cons:=@List.mem_cons
theorem Bf:type_of%@List.eq_nil_of_length_eq_zero:=@List.eq_nil_of_length_eq_zero
theorem Bg:type_of%@List.nil_append:=@List.nil_append
theorem Bh:type_of%@List.getD_eq_getElem?_getD:=@List.getD_eq_getElem?_getD
theorem Bi:type_of%@List.getElem?_map:=@List.getElem?_map
theorem Bj:type_of%@Bool.or_eq_false_iff:=@Bool.or_eq_false_iff
theorem Bk:type_of%@List.drop_eq_getElem_cons:=@List.drop_eq_getElem_cons
theorem Bl:type_of%@List.ext_getElem:=@List.ext_getElem
theorem Bm:type_of%@Option.isSome_iff_exists:=@Option.isSome_iff_exists
theorem Bn:type_of%@List.getElem_of_mem:=@List.getElem_of_mem
theorem Bo:type_of%@Array.getElem?_push:=@Array.getElem?_push
theorem Bp:type_of%@decide_eq_false_iff_not:=@decide_eq_false_iff_not
theorem Bq:type_of%@Option.bind_eq_some_iff:=@Option.bind_eq_some_iff
theorem Br:type_of%@Option.map_some:=@Option.map_some
theorem Bs:type_of%@List.mem_filter:=@List.mem_filter
theorem Bt:type_of%@Nat.le_succ:=@Nat.le_succ
theorem Bu:type_of%@Nat.one_mul:=@Nat.one_mul
theorem Bv:type_of%@Nat.le_of_eq:=@Nat.le_of_eq
theorem Bw:type_of%@List.length_drop:=@List.length_drop
def bl (n m:Nat):List Bool:=Nat.rec (motive:=fun _=>Nat -> List Bool) (fun _=>[]) (fun _ r m=>Nat.beq (m%2) 1::r (m/2)) n m
def CF :TypeId:=75
def globs :List Nat:=[1,2]
def gpow :List Nat:=[3]
def G1 :Nat:=75
def H3 :TypeId:=5
inductive DD where
 | ex (k:Nat)
 | un (sz:Nat)
inductive Dv where
 | mi (l:List (List UInt8×Int))
 | mb (l:List (List UInt8×Bool))
 | it (s:List UInt8) (pos:Nat)
  | bld
inductive BA where
 | undef
 | bool (b:Bool)
 | int (k:IntKind) (n:Int)
 | str (s:List UInt8)
 | agg (cs:List BA)
 | tup (vs:List BA)
 | ptr (b off:Nat)
 | nilp
 | sl (b off len:Nat) (cap:DD)
 | nils
 | fn (f:FuncId) (caps:List BA)
 | nilf
  | fnb (f:FuncId) (first:List BA)
 | ifc (t:TypeId) (v:BA)
 | nili
 | dat (len:Nat) (get:Nat->List BA)
 | dptr (cs:List BA)
  | sla (b sz off len:Nat) (cap:DD)
  | epa (b sz i fo:Nat)
  | yld (j:Nat)
  | slv (b sz off len:Nat)
  | nnl (len:Nat) (get:Nat->List BA)
  | obj (o:Dv)
  | mapr (b:Nat)
  | ifb (b:Bool)
inductive T (α:Type) where
 | leaf
 | node (v:α) (l r:T α)
def T.get {α:Type} (d:α) (t:T α):Nat->α:=
 T.rec (motive:=fun _=>Nat->α) (fun _=>d)
  (fun v _ _ gl gr n=>Nat.rec (motive:=fun _=>α) v (fun m _=>bif Nat.beq (m %2) 0 then gl (m / 2) else gr (m / 2)) n) t
def T.setF {α:Type} (d:α) (v:α) (f:Nat):T α->Nat->T α:=
 Nat.rec (motive:=fun _=>T α->Nat->T α) (fun t _=>t)
  (fun _ rec t n=>
   T.casesOn (motive:=fun _=>T α) t
    (Nat.rec (motive:=fun _=>T α) (.node v .leaf .leaf)
     (fun m _=>bif Nat.beq (m %2) 0 then .node d (rec .leaf (m / 2)) .leaf else .node d .leaf (rec .leaf (m / 2))) n)
    (fun u l r=>Nat.rec (motive:=fun _=>T α) (.node v l r)
     (fun m _=>bif Nat.beq (m %2) 0 then .node u (rec l (m / 2)) r else .node u l (rec r (m / 2))) n)) f
def T.set {α:Type} (d:α) (t:T α) (n:Nat) (v:α):T α:=T.setF d v (n+1) t n
inductive B0 where
 | flat (g:Nat->List BA)
 | one (r:Nat) (cs:List BA) (b:B0)
 | alt (c:Nat->Bool) (a b:B0)
def B0.get :B0->Nat->List BA
 | .flat g=>g
 | .one r cs b=>fun k=>bif Nat.beq k r then cs else b.get k
 | .alt c a b=>fun k=>bif c k then a.get k else b.get k
instance : Coe (Nat->List BA) B0:=⟨.flat⟩
structure CJ where
 sz:Nat
 n:Nat
 rw:B0
def CJ.get (A:CJ):Nat->List BA:=A.rw.get
def rows (n:Nat) (get:Nat->List BA):List BA:=(List.range n).flatMap get
structure BE where
 cells:List BA
 ty:TypeId
 arr:Option CJ
def BE.isObj :BE->Bool
 | ⟨.obj _::_,_,none⟩=>true
 | _=>false
abbrev BH :=T (Option BE)
def Zs (m:BH) (b:Nat):Option BE:=T.get none m b
def Yi (m:BH) (b:Nat) (o:Option BE):BH:=T.set none m b o
structure BK where
 n:Nat
 floor:Nat
 sym:Bool
structure St where
 env:T BA
 mem:BH
 next:Nat
 orc:List Bool
 ob:Bool
def St.tmp :St->Nat->BA
 | ⟨env,_,_,_,_⟩,t=>T.get .undef env t
def St.put (cx:BK):St->Option Tmp->BA->Option St
 | ⟨env,mem,next,orc,ob⟩,some d,v=>bif Nat.ble (d+1) cx.n then some ⟨T.set .undef env d v,mem,next,orc,ob⟩ else none
 | st,none,_=>some st
def St.withMem :St->BH->St
 | ⟨env,_,next,orc,ob⟩,m=>⟨env,m,next,orc,ob⟩
def St.withEnv :St->T BA->St
 | ⟨_,mem,next,orc,ob⟩,e=>⟨e,mem,next,orc,ob⟩
def St.owe (cx:BK):St->Bool->Option St
 | ⟨env,mem,next,orc,ob⟩,b=>bif cx.sym then some ⟨env,mem,next,orc,b&&ob⟩ else bif b then some ⟨env,mem,next,orc,ob⟩ else none
def St.test :St->Bool->Bool×St
 | ⟨env,mem,next,[],ob⟩,b=>(b,⟨env,mem,next,[],ob⟩)
 | ⟨env,mem,next,e::r,ob⟩,b=>(e,⟨env,mem,next,r,(b == e)&&ob⟩)
def St.nextO :St->Bool
 | ⟨_,_,_,[],_⟩=>false
 | ⟨_,_,_,e::_,_⟩=>e
def St.dropO :St->St
 | ⟨env,mem,next,orc,ob⟩=>⟨env,mem,next,orc.tail,ob⟩
def Kc :Value->BA
 | .bool b=>.bool b
 | .int k n=>.int k n
 | .string s=>.str s.data.toList
 | .pointer none=>.nilp
 | .slice none 0 0=>.nils
 | .nilFunc =>.nilf
 | .nilIface =>.nili
 | _=>.undef
def Gn :Value->BA
 | .agg cs=>.agg (cs.toList.map Kc)
 | v=>Kc v
def St.eval (st:St):Operand->BA
 | .tmp t=>st.tmp t
 | .const v=>Gn v
 | .global _=>.undef
 | .func f=>.fn f []
def BA.cells :BA->List BA
 | .agg cs=>cs
 | v=>[v]
def Ks :BA->Bool
 | .undef | .tup _ | .obj _=>false
 | _=>true
def Z5 :BA->Bool
 | .slv _ _ _ _ | .sl _ _ _ _ | .sla _ _ _ _ _ | .ptr _ _ | .epa _ _ _ _ | .nils | .mapr _ | .obj _=>false
 | _=>true
def B4 :BA->Bool
 | .undef | .agg _ | .tup _ | .obj _=>false
 | _=>true
def K7 (P:Program) (t:TypeId):Option Bool:=
 match P.underlying t with
 | some (.struct _) | some (.array _ _)=>some true
 | some _=>some false
 | none=>none
def cut (cs:List BA) (off n:Nat):Option (List BA):=
 let p:=(cs.drop off).take n
 bif Nat.beq p.length n then some p else none
def Jn (P:Program) (t:TypeId) (cs:List BA) (off:Nat):Option BA:=
 match K7 P t,P.info? t with
 | some true,some i=>(cut cs off i.size).map .agg
 | some false,some _=>cs[off]?
 | _,_=>none
def Ki (rec:TypeId->BA->BA->Option Bool) (P:Program) (xs ys:List BA):List (TypeId×Nat)->Option Bool
 | []=>some true
 | (t,off)::r=>
  match Jn P t xs off,Jn P t ys off with
  | some a,some b=>match rec t a b,Ki rec P xs ys r with
   | some e,some f=>some (e&&f)
   | _,_=>none
  | _,_=>none
def H8 (P:Program):Nat->TypeId->BA->BA->Option Bool
 | 0,_,_,_=>none
 | d+1,t,x,y=>
  match P.underlying t with
  | some .bool =>match x,y with
   | .bool a,.bool b=>some (a == b)
   | _,_=>none
  | some (.int _)=>match x,y with
   | .int k a,.int k' b=>if k=k' then some (a == b) else none
   | _,_=>none
  | some .string =>match x,y with
   | .str a,.str b=>some (a == b)
   | _,_=>none
  | some (.array n e)=>match x,y,P.info? e with
   | .agg xs,.agg ys,some i=>Ki (H8 P d) P xs ys ((List.range n).map fun j=>(e,j*i.size))
   | _,_,_=>none
  | some (.struct fs)=>match x,y with
   | .agg xs,.agg ys=>
    bif P.stoodInHeld t then none else bif fs.toList.any (fun f=>f.name == "_") then none else
    Ki (H8 P d) P xs ys (fs.toList.map fun f=>(f.type,f.offset))
   | _,_=>none
  | _=>none
def IG (op:BinOp) (k:IntKind) (a b:Int):Option Int:=
 match op with
 | .and =>some (k.wrap ((BitVec.ofInt k.bits a)&&& (BitVec.ofInt k.bits b)).toNat)
 | .or =>some (k.wrap ((BitVec.ofInt k.bits a)||| (BitVec.ofInt k.bits b)).toNat)
 | .xor =>some (k.wrap ((BitVec.ofInt k.bits a) ^^^ (BitVec.ofInt k.bits b)).toNat)
 | .andNot =>some (k.wrap ((BitVec.ofInt k.bits a)&&& ~~~(BitVec.ofInt k.bits b)).toNat)
 | _=>none
def H9 (P:Program) (op:BinOp) (t:TypeId) (x y:BA):Option (BA×Bool):=
 match x,y with
 | .int k a,.int k' b=>
  match op with
  | .shl =>some (.int k (k.wrap (a*2 ^ (min b.toNat k.bits))),!decide (b<0))
  | .shr =>some (.int k (a.fdiv (2 ^ (min b.toNat k.bits))),!decide (b<0))
  | _=>if k=k' then
    match op with
    | .add =>some (.int k (k.wrap (a+b)),true)
    | .sub =>some (.int k (k.wrap (a - b)),true)
    | .mul =>some (.int k (k.wrap (a*b)),true)
    | .quo =>some (.int k (k.wrap (a.tdiv b)),!decide (b=0))
    | .rem =>some (.int k (a.tmod b),!decide (b=0))
    | .eql =>some (.bool (a == b),true)
    | .neq =>some (.bool (a != b),true)
    | .lss =>some (.bool (decide (a<b)),true)
    | .leq =>some (.bool (decide (a<=b)),true)
    | .gtr =>some (.bool (decide (a>b)),true)
    | .geq =>some (.bool (decide (a>=b)),true)
    | op=>(IG op k a b).map fun n=>(.int k n,true)
   else none
 | .bool a,.bool b=>match P.underlying t with
  | some .bool =>match op with
   | .eql =>some (.bool (a == b),true)
   | .neq =>some (.bool (!(a == b)),true)
   | _=>none
  | _=>none
 | .agg a,.agg b=>
  bif P.eqGuardType P.depth t then none else
  match op with
  | .eql =>(H8 P 30 t (.agg a) (.agg b)).map fun r=>(.bool r,true)
  | .neq =>(H8 P 30 t (.agg a) (.agg b)).map fun r=>(.bool (!r),true)
  | _=>none
 | .sl _ _ _ _,.nils =>match P.underlying t with
  | some (.slice _)=>match op with
   | .eql =>some (.bool false,true)
   | .neq =>some (.bool true,true)
   | _=>none
  | _=>none
 | .nnl _ _,.nils =>match P.underlying t with
  | some (.slice _)=>match op with
   | .eql =>some (.bool false,true)
   | .neq =>some (.bool true,true)
   | _=>none
  | _=>none
 | .nils,.nils =>match P.underlying t with
  | some (.slice _)=>match op with
   | .eql =>some (.bool true,true)
   | .neq =>some (.bool false,true)
   | _=>none
  | _=>none
 | .str a,.str b=>match op with
  | .eql =>some (.bool (a == b),true)
  | .neq =>some (.bool (!(a == b)),true)
  | .add =>some (.str (a++b),Nat.ble (a.length+b.length) 9223372036854775807)
  | .lss =>some (.bool (Op.bytesLess a b),true)
  | .leq =>some (.bool (Op.bytesLess a b||a == b),true)
  | .gtr =>some (.bool (!(Op.bytesLess a b||a == b)),true)
  | .geq =>some (.bool (!Op.bytesLess a b),true)
  | _=>none
 | _,_=>none
def Ns (op:UnOp) (x:BA):Option BA:=
 match op,x with
 | .neg,.int k n=>some (.int k (k.wrap (0 - n)))
 | .xor,.int k n=>(IG .xor k (if k.signed then -1 else k.max) n).map (.int k)
 | .not,.bool b=>some (.bool !b)
 | _,_=>none
def Dp (place:Nat->Option (Nat×Nat)) (cells:List BA):List (Nat×BA)->Option (List BA)
 | []=>some cells
 | (i,v)::r=>
  match place i with
  | none=>none
  | some (off,size)=>
   bif Ks v&&Nat.beq v.cells.length size&&Nat.ble (off+size) cells.length then
    Dp place (cells.take off++v.cells++cells.drop (off+size)) r
   else none
def Ux (P:Program) (t:TypeId):Option (List BA):=
 match P.info? t with
 | some i=>i.zero.map fun v=>(Gn v).cells
 | none=>none
def Vf (P:Program):List Field->Option (List (Nat×Nat))
 | []=>some []
 | f::r=>match P.info? f.type,Vf P r with
  | some i,some l=>some ((f.offset,i.size)::l)
  | _,_=>none
def Mm (P:Program) (t:TypeId) (parts:List (Nat×BA)):Option BA:=
 match P.underlying t,Ux P t with
 | some (.struct fs),some zero=>match Vf P fs.toList with
  | some pl=>(Dp (pl[·]?) zero parts).map .agg
  | none=>none
 | some (.array _ e),some zero=>match P.info? e with
  | some i=>(Dp (fun j=>some (j*i.size,i.size)) zero parts).map .agg
  | none=>none
 | _,_=>none
def Ly (P:Program) (t:TypeId) (x i:BA):Option (BA×Bool):=
 match P.underlying t,x,i with
 | some (.array len e),.ptr b off,.int _ i=>(P.info? e).map fun s=>(.ptr b (off+i.toNat*s.size),decide (0<=i/\i<len))
 | some (.array len e),.dptr cs,.int _ i=>(P.info? e).map fun s=>(.dptr (cs.drop (i.toNat*s.size)),decide (0<=i/\i<len))
 | some (.slice e),.sl b off len _,.int _ i=>(P.info? e).map fun s=>(.ptr b (off+i.toNat*s.size),decide (0<=i/\i<len))
 | some (.slice e),.dat len get,.int _ i=>(P.info? e).map fun s=>(.dptr (get i.toNat),decide (0<=i/\i<len)&&Nat.beq (get i.toNat).length s.size)
 | some (.slice e),.sla b sz off len _,.int _ i=>(P.info? e).map fun s=>(.epa b sz (off+i.toNat) 0,decide (0<=i/\i<len)&&Nat.beq s.size sz)
 | some (.slice e),.slv b sz off len,.int _ i=>(P.info? e).map fun s=>(.epa b sz (off+i.toNat) 0,decide (0<=i/\i<len)&&Nat.beq s.size sz)
 | some (.array len e),.epa b sz r fo,.int _ i=>(P.info? e).map fun s=>(.epa b sz r (fo+i.toNat*s.size),decide (0<=i/\i<len))
 | _,_,_=>none
def Lx (P:Program) (t:TypeId) (x:BA) (f:Nat):Option BA:=
 match P.underlying t with
 | some (.struct fs)=>match fs[f]? with
  | some f=>match P.info? f.type with
   | some i=>bif Nat.beq i.size 0 then none else match x with
    | .ptr b off=>some (.ptr b (off+f.offset))
    | .dptr cs=>some (.dptr (cs.drop f.offset))
    | .epa b sz r fo=>some (.epa b sz r (fo+f.offset))
    | _=>none
   | none=>none
  | none=>none
 | _=>none
def Mn (P:Program) (t:TypeId) (x:BA) (f:Nat):Option BA:=
 match P.underlying t,x with
 | some (.struct fs),.agg cs=>match fs[f]? with
  | some f=>Jn P f.type cs f.offset
  | none=>none
 | _,_=>none
def JU (s:List UInt8) (n:Nat):Int:=((s.getD n 0).toNat :Int)
def Mo (P:Program) (t:TypeId) (x i:BA):Option (BA×Bool):=
 match P.underlying t,x,i with
 | some (.array len e),.agg cs,.int _ i=>
  match P.info? e with
  | some s=>(Jn P e cs (i.toNat*s.size)).map fun v=>(v,decide (0<=i/\i<len))
  | none=>none
 | some .string,.str s,.int _ i=>some (.int .u8 (JU s i.toNat),decide (0<=i/\i<s.length))
 | _,_,_=>none
def Cp (x y:Int):Int:=if y<x then y else x
def Co (x y:Int):Int:=if y>x then y else x
def IX (k:IntKind) (x:Int):List BA->Option Int
 | []=>some x
 | .int _ y::r=>IX k (Cp x y) r
 | _=>none
def IW (k:IntKind) (x:Int):List BA->Option Int
 | []=>some x
 | .int _ y::r=>IW k (Co x y) r
 | _=>none
def J5 (P:Program) (b:Builtin) (argTypes:List TypeId) (args:List BA):Option BA:=
 match b,argTypes,args with
 | .len,t::_,x::_=>match P.underlying t,x with
  | some .string,.str s=>some (.int .i64 s.length)
  | some (.array n _),_=>some (.int .i64 n)
  | some (.slice _),.sl _ _ n _=>some (.int .i64 n)
  | some (.slice _),.nils =>some (.int .i64 0)
  | some (.slice _),.dat n _=>some (.int .i64 n)
  | some (.slice _),.sla _ _ _ n _=>some (.int .i64 n)
  | some (.slice _),.slv _ _ _ n=>some (.int .i64 n)
  | _,_=>none
 | .min,_,.int k x::r=>(IX k x r).map (.int k)
 | .max,_,.int k x::r=>(IW k x r).map (.int k)
 | .cap,t::_,x::_=>match P.underlying t,x with
  | some (.slice _),.sl _ _ _ (.ex c)=>some (.int .i64 c)
  | some (.slice _),.nils =>some (.int .i64 0)
  | _,_=>none
 | _,_,_=>none
def Jc (st:Operand->BA) (o:Option Operand) (d:Nat):Option (Nat×Bool):=
 match o with
 | none=>some (d,true)
 | some x=>match st x with
  | .int _ i=>some (i.toNat,decide (0<=i))
  | _=>none
def pd (p:Prop):Bool:= @decide p (Classical.propDecidable p)
def Gl (b:Bool) (p:Prop):Bool:=b||pd p
def EP (n:Nat) (g:Nat->List BA) (sz:Nat):Bool:=Gl ((List.range n).all fun i=>Nat.beq (g i).length sz) (∀i,i<n->(g i).length =sz)
def C9 (sz n:Nat) (g:Nat->List BA):Bool:=Gl ((List.range n).all fun i=>Nat.beq (g i).length sz&&(g i).all B4) (∀i,i<n->(g i).length =sz/\(g i).all B4=true)
def Mq (P:Program) (ev:Operand->BA) (t:TypeId) (x:Operand) (lo hi mx:Option Operand):Option (BA×Bool):=
 match P.underlying t,ev x with
 | some (.slice e),.nils =>
  match P.info? e,mx,Jc ev lo 0,Jc ev hi 0 with
  | some _,none,some (l,a),some (h,b)=>some (.nils,a&&b&&Nat.beq l 0&&Nat.beq h 0)
  | _,_,_,_=>none
 | some (.slice e),.sl b off len (.ex c)=>
  match P.info? e,Jc ev mx c,Jc ev hi len,Jc ev lo 0 with
  | some s,some (m,x1),some (h,x2),some (l,x3)=>
   if mx.isSome&&hi.isNone then none else
   some (.sl b (bif Nat.beq m l then off else off+l*s.size) (h - l) (.ex (m - l)),x1&&x2&&x3&&Nat.ble m c&&Nat.ble h m&&Nat.ble l h)
  | _,_,_,_=>none
 | some (.slice e),.sl b off len (.un z)=>
  match P.info? e,mx,Jc ev hi len,Jc ev lo 0 with
  | some s,none,some (h,x2),some (l,x3)=>
   bif Nat.beq z s.size then
    bif Nat.beq h l&&Nat.ble 1 l then some (.dat 0 (fun _=>[]),x2&&x3&&Nat.ble h len) else
    some (.sl b (off+l*s.size) (h - l) (.un z),x2&&x3&&Nat.ble h len&&Nat.ble l h&&(Nat.ble (l+1) len||Nat.beq l 0))
   else none
  | some s,some _,some (h,x2),some (l,x3)=>
   match Jc ev mx 0 with
   | some (m,x1)=>
    bif Nat.beq z s.size&&hi.isSome then
     some (.sl b (bif Nat.beq m l then off else off+l*s.size) (h - l) (.ex (m - l)),x1&&x2&&x3&&Nat.ble m len&&Nat.ble h m&&Nat.ble l h)
    else none
   | none=>none
  | _,_,_,_=>none
 | some (.slice e),.sla b sz off len (.un z)=>
  match P.info? e,mx,Jc ev hi len,Jc ev lo 0 with
  | some s,none,some (h,x2),some (l,x3)=>
   bif Nat.beq z s.size&&Nat.beq sz z then
    bif lo.isSome then some (.slv b sz (off+l) (h - l),x2&&(x3&&(decide (h<=len)&&decide (l<=h)))) else
    some (.sla b sz (off+l) (h - l) (.un z),x2&&(x3&&(decide (h<=len)&&(decide (l<=h)&&(decide (l<len)||Nat.beq l 0)))))
   else none
  | _,_,_,_=>none
 | some (.slice e),.slv b sz off len=>
  match P.info? e,mx,Jc ev hi len,Jc ev lo 0 with
  | some s,none,some (h,x2),some (l,x3)=>
   bif Nat.beq sz s.size then some (.slv b sz (off+l) (h - l),x2&&(x3&&(decide (h<=len)&&decide (l<=h)))) else none
  | _,_,_,_=>none
 | some (.slice e),.dat len get=>
  match P.info? e,mx,Jc ev hi len,Jc ev lo 0 with
  | some s,none,some (h,x2),some (l,x3)=>some (.dat (h - l) (fun k=>get (l+k)),x2&&(x3&&(decide (h<=len)&&(decide (l<=h)&&EP len get s.size))))
  | _,_,_,_=>none
 | some (.array n e),.ptr b off=>
  match P.info? e,Jc ev mx n,Jc ev hi n,Jc ev lo 0 with
  | some s,some (m,x1),some (h,x2),some (l,x3)=>
   if mx.isSome&&hi.isNone then none else
   some (.sl b (bif Nat.beq m l then off else off+l*s.size) (h - l) (.ex (m - l)),x1&&x2&&x3&&Nat.ble m n&&Nat.ble h m&&Nat.ble l h)
  | _,_,_,_=>none
 | some .string,.str s=>
  match mx,Jc ev hi s.length,Jc ev lo 0 with
  | none,some (h,x2),some (l,x3)=>some (.str ((s.drop l).take (h - l)),x2&&(x3&&(decide (h<=s.length)&&decide (l<=h))))
  | _,_,_=>none
 | _,_=>none
def Vn (P:Program) (op:Op) (ev:Operand->BA):Option (BA×Bool):=
 match op with
 | .move x | .assign x=>some (ev x,true)
 | .pick c a b=>match ev c with
  | .bool c=>some (bif c then ev a else ev b,true)
  | _=>none
 | .build t parts=>(Mm P t (parts.toList.map fun p=>(p.1,ev p.2))).map (·,true)
 | .nilCheck x=>match ev x with
  | .ptr b o=>some (.ptr b o,true)
  | .epa b sz r fo=>some (.epa b sz r fo,true)
  | .dptr cs=>some (.dptr cs,true)
  | .fn f c=>some (.fn f c,true)
  | .fnb f c=>some (.fnb f c,true)
  | _=>none
 | .binOp op t x y _=>H9 P op t (ev x) (ev y)
 | .unOp op _ x=>(Ns op (ev x)).map (·,true)
 | .convert src dst x=>match P.underlying src,P.underlying dst,ev x with
  | some _,some (.int k),.int _ n=>some (.int k (k.wrap n),true)
  | _,_,_=>none
 | .makeInterface t x=>match P.underlying t with
  | some (.interface _) | none=>none
  | some _=>some (.ifc t (ev x),true)
 | .makeFunc (.func f) first captured=>bif first.isEmpty then some (.fn f (captured.toList.map ev),true) else bif captured.isEmpty then some (.fnb f (first.toList.map ev),true) else none
 | .fieldAddr t x f=>(Lx P t (ev x) f).map (·,true)
 | .field t x f=>(Mn P t (ev x) f).map (·,true)
 | .indexAddr t x i=>Ly P t (ev x) (ev i)
 | .index t x i=>Mo P t (ev x) (ev i)
 | .extract x i=>match ev x with
  | .tup vs=>(vs[i]?).map (·,true)
  | _=>none
 | .slice t x lo hi mx=>Mq P ev t x lo hi mx
 | .call {callee:=.builtin b,args,argTypes}=>(J5 P b argTypes.toList (args.toList.map ev)).map (·,true)
 | _=>none
def GE (P:Program) (m:BH) (t:TypeId) (x:BA):Option BA:=
 match x with
 | .ptr b off=>match Zs m b with
  | some blk=>bif blk.isObj then none else Jn P t blk.cells off
  | none=>none
 | .dptr cs=>Jn P t cs 0
 | _=>none
def Fi (P:Program) (m:BH) (t:TypeId) (x:BA):Option (BA×Bool):=
 match x with
 | .epa b sz r fo=>match Zs m b with
  | some blk=>match blk.arr with
   | some A=>(Jn P t (A.get r) fo).map (·,Nat.beq A.sz sz&&decide (r<A.n))
   | none=>none
  | none=>none
 | x=>(GE P m t x).map (·,true)
def Qh :B0->Nat->St->List BA×St
 | .flat g,r,st=>(g r,st)
 | .one r0 cs b,r,st=>match st.test (Nat.beq r r0) with
  | (e,st)=>bif e then (cs,st) else Qh b r st
 | .alt c a b,r,st=>match st.test (c r) with
  | (e,st)=>bif e then Qh a r st else Qh b r st
def Mp (P:Program) (st:St) (t:TypeId) (x:BA):Option (BA×Bool×St):=
 match x with
 | .epa b sz r fo=>match Zs st.mem b with
  | some blk=>match blk.arr with
   | some A=>match Qh A.rw r st with
    | (cs,st1)=>(Jn P t cs fo).map (·,Nat.beq A.sz sz&&decide (r<A.n),st1)
   | none=>none
  | none=>none
 | x=>(GE P st.mem t x).map (·,true,st)
def Fj (P:Program) (floor:Nat) (st:St) (t:TypeId) (x v:BA):Option St:=
 match x,P.info? t with
 | .ptr b off,some i=>
  let cs:=v.cells
  bif Nat.ble floor b&&Nat.beq cs.length i.size&&Ks v&&cs.all B4 then
   match Zs st.mem b with
   | some blk=>
    bif !blk.isObj&&Nat.ble (off+i.size) blk.cells.length then
     some (st.withMem (Yi st.mem b (some ⟨blk.cells.take off++cs++blk.cells.drop (off+i.size),blk.ty,none⟩)))
    else none
   | none=>none
  else none
 | _,_=>none
def Xa (get:Nat->List BA) (r fo:Nat) (cs:List BA):Nat->List BA:=fun k=>bif Nat.beq k r then (get r).take fo++cs++(get r).drop (fo+cs.length) else get k
def setRow (A:CJ) (r fo:Nat) (cs:List BA) (st:St):Option (B0×St):=
 match A.rw with
 | .flat g=>bif cs.all Z5 then some (.flat (Xa g r fo cs),st) else bif Nat.beq fo 0&&Nat.beq cs.length A.sz then some (.one r cs (.flat g),st) else some (.one r ((g r).take fo++cs++(g r).drop (fo+cs.length)) (.flat g),st)
 | .one r0 c0 b=>match st.test (Nat.beq r r0) with
  | (e,st1)=>bif e&&Nat.beq fo 0&&Nat.beq cs.length A.sz then some (.one r0 cs b,st1) else bif e then some (.one r0 (c0.take fo++cs++c0.drop (fo+cs.length)) b,st1) else none
 | .alt c a b=>bif Nat.beq fo 0&&Nat.beq cs.length A.sz then some (.one r cs (.alt c a b),st) else none
def Ft (P:Program) (cx:BK) (st:St) (t:TypeId) (x v:BA):Option St:=
 match x,P.info? t with
 | .epa b sz r fo,some i=>
  bif Nat.ble cx.floor b&&Nat.beq v.cells.length i.size&&Ks v&&v.cells.all B4&&Nat.ble (fo+i.size) sz then
   match Zs st.mem b with
   | some blk=>match blk.arr with
    | some A=>match setRow A r fo v.cells st with
     | some (rw,st1)=>(st1.withMem (Yi st1.mem b (some ⟨rows A.n rw.get,blk.ty,some ⟨A.sz,A.n,rw⟩⟩))).owe cx (Nat.beq A.sz sz&&decide (r<A.n))
     | none=>none
    | none=>none
   | none=>none
  else none
 | _,_=>none
def BY :St->List BA->TypeId->St
 | ⟨env,mem,next,orc,ob⟩,cells,ty=>⟨env,Yi mem next (some ⟨cells,ty,none⟩),next+1,orc,ob⟩
def B5 (n:Nat) (l:List BA):List BA:=(List.replicate n l).flatten
def Vv (P:Program) (u:Bool) (st:St) (t:TypeId) (len:Nat) (parts:List (Nat×BA)):Option (BA×St):=
 match P.underlying t with
 | some (.slice e)=>match P.info? e,Ux P e with
  | some i,some zero=>
   bif Nat.ble (len*i.size) 16777216&&Nat.beq zero.length i.size then
    match Dp (fun j=>some (j*i.size,i.size)) (B5 len zero) parts with
    | some cells=>some (.sl st.next 0 len (bif u&&Nat.beq cells.length (len*i.size) then .un i.size else .ex len),BY st cells e)
    | none=>none
   else none
  | _,_=>none
 | _=>none
def Wa (P:Program) (st:St) (t:TypeId) (l c:BA):Option (BA×St):=
 match P.underlying t,l,c with
 | some (.slice e),.int _ l,.int _ c=>match P.info? e,Ux P e with
  | some i,some zero=>
   bif Nat.beq zero.length i.size&&(decide (0<=l)&&decide (l<=c)&&decide (c*i.bytes<=1099511627776)&&decide (c<=1099511627776)) then
    some (.sl st.next 0 l.toNat (.ex c.toNat),BY st (B5 c.toNat zero) e)
   else none
  | _,_=>none
 | _,_,_=>none
def Vw (P:Program) (cx:BK) (st:St) (t:TypeId) (l c:BA):Option (BA×St):=
 match P.underlying t,l,c with
 | some (.slice e),.int _ l,.int _ c=>match P.info? e,Ux P e with
  | some i,some zero=>
   bif Nat.beq zero.length i.size&&Nat.ble 1 i.size then
    (St.owe cx (match BY st (rows c.toNat fun _=>zero) e with
      | ⟨env,_,next,orc,ob⟩=>⟨env,Yi st.mem st.next (some ⟨rows c.toNat fun _=>zero,e,some ⟨i.size,c.toNat,.flat fun _=>zero⟩⟩),next,orc,ob⟩)
     (decide (0<=l)&&decide (l<=c)&&decide (c*i.bytes<=1099511627776)&&decide (c<=1099511627776))).map (.sla st.next i.size 0 l.toNat (.un i.size), ·)
   else none
  | _,_=>none
 | _,_,_=>none
def Yj (m:BH) (sz:Nat):BA->Option (Nat×List BA)
 | .nils =>some (0,[])
 | .sl b off len _=>match Zs m b with
  | some blk=>bif blk.isObj then none else (cut blk.cells off (len*sz)).map (len, ·)
  | none=>none
 | _=>none
def Kx :Nat:=1099511627776
def We (m:BH) (sz:Nat) (zero:List BA) (ut:TypeDesc) (x:BA):Option (Nat×List BA):=
 match ut with
 | .int _=>match x with
  | .int _ n=>bif decide (0<=n) then some (n.toNat,B5 n.toNat zero) else none
  | _=>none
 | _=>Yj m sz x
def Ui (P :Program) (floor:Nat) (st:St) (argTypes:List TypeId) (args:List BA):Option (BA×St):=
 match argTypes,args with
 | t :: u ::_,s::x::_=>match P.underlying t,P.underlying u with
  | some (.slice e),some ut=>match P.info? e,Ux P e with
   | some i,some zero=>match We st.mem i.size zero ut x with
    | some (n,new)=>
     bif Nat.beq zero.length i.size&&Nat.beq new.length (n*i.size)&&Nat.ble 1 i.size&&new.all B4 then
     match s with
     | .nils =>
      bif Nat.beq n 0 then some (.nils,st) else
      bif Nat.ble ((n+1)*(i.bytes+1)) Kx then
       some (.sl st.next 0 n (.un i.size),BY st new e) else none
     | .sl b off len cap=>
      match Zs st.mem b with
      | some blk=>
       match cut blk.cells off (len*i.size) with
       | some old=>
        bif !blk.isObj&&Nat.ble ((len+n+1)*(i.bytes+1)) Kx then
        match cap with
        | .ex c=>
         bif Nat.ble (len+n) c then
          bif Nat.ble floor b&&Nat.ble (off+(len+n)*i.size) blk.cells.length then
           some (.sl b off (len+n) cap,st.withMem (Yi st.mem b (some ⟨blk.cells.take (off+len*i.size)++new++blk.cells.drop (off+(len+n)*i.size),blk.ty,none⟩)))
          else none
         else some (.sl st.next 0 (len+n) (.un i.size),BY st (old++new) e)
        | .un z=>
         bif Nat.beq z i.size&&Nat.ble floor b then
          bif Nat.ble (off+(len+n)*i.size) blk.cells.length then
           some (.sl b off (len+n) cap,st.withMem (Yi st.mem b (some ⟨blk.cells.take (off+len*i.size)++new++blk.cells.drop (off+(len+n)*i.size),blk.ty,none⟩)))
          else bif Nat.beq (off+len*i.size) blk.cells.length then
           some (.sl st.next 0 (len+n) (.un i.size),BY (st.withMem (Yi st.mem b none)) (old++new) e)
          else none
         else none
        else none
       | none=>none
      | none=>none
     | _=>none
     else none
    | none=>none
   | _,_=>none
  | _,_=>none
 | _,_=>none
def Zn (get:Nat->List BA) (off len sz:Nat) (new:List BA):Nat->List BA:=fun k=>bif Nat.ble len k then (new.drop ((k - len)*sz)).take sz else get (off+k)
def Qz (P :Program) (cx:BK) (st:St) (argTypes:List TypeId) (args:List BA):Option (BA×St):=
 match argTypes,args with
 | t :: u ::_,.sla b sz off len (.un z)::x::_=>match P.underlying t,P.underlying u with
  | some (.slice e),some ut=>match ut with
   | .int _=>none
   | _ => match P.info? e with
    | some i=>match Yj st.mem i.size x,Ux P e,Zs st.mem b with
     | some (n,new),some zero,some blk=>match blk.arr with
      | some A=>
       bif Nat.beq zero.length i.size&&Nat.beq new.length (n*i.size)&&Nat.ble 1 i.size&&new.all B4&&Nat.beq sz i.size&&Nat.beq z sz&&Nat.ble cx.floor b&&Nat.ble 1 n then
        (St.owe cx (match BY (st.withMem (Yi st.mem b none)) (rows (len+n) (Zn A.get off len sz new)) e with
          | ⟨env,_,next,orc,ob⟩=>⟨env,Yi (Yi st.mem b none) st.next (some ⟨rows (len+n) (Zn A.get off len sz new),e,some ⟨sz,len+n,Zn A.get off len sz new⟩⟩),next,orc,ob⟩)
         (Nat.beq A.sz sz&&(decide (off+len=A.n)&&decide ((len+n+1)*(i.bytes+1)<=Kx)))).map (.sla st.next sz 0 (len+n) (.un sz), ·)
       else none
      | none=>none
     | _,_,_=>none
    | none=>none
  | _,_=>none
 | _,_=>none
def Fc (sz len:Nat):DD->Bool
 | .un z=>Nat.beq z sz
 | .ex c=>Nat.ble c len
def Hz (m:BH) (sz:Nat):BA->Option (Option Nat×Nat×(Nat->List BA)×Bool)
 | .nils =>some (none,0,fun _=>[],true)
 | .sl b off len cap=>match Zs m b with
  | some blk=>match cut blk.cells off (len*sz) with
   | some old=>bif !blk.isObj&&(Fc sz len cap&&Nat.ble off blk.cells.length) then some (some b,len,fun k=>(old.drop (k*sz)).take sz,true) else none
   | none=>none
  | none=>none
 | .sla b z off len cap=>match Zs m b with
  | some blk=>match blk.arr with
   | some A=>bif Fc sz len cap then some (some b,len,fun k=>A.get (off+k),Nat.beq z sz&&(Nat.beq A.sz sz&&decide (off+len<=A.n))) else none
   | none=>none
  | none=>none
 | _=>none
def LA (s:List UInt8):Nat->List BA:=fun k=>[.int .u8 (JU s k)]
def LH (m:BH) (sz:Nat) (zero:List BA) (ut:TypeDesc):BA->Option (Nat×(Nat->List BA)×Bool)
 | .int _ n=>match ut with
  | .int _=>some (n.toNat,fun _=>zero,decide (0<=n))
  | _=>none
 | .dat n g=>match ut with
  | .int _=>none
  | _=>some (n,g,C9 sz n g)
 | .nils =>match ut with
  | .int _=>none
  | _=>some (0,fun _=>[],true)
 | .sla b z off len _=>match ut with
  | .int _=>none
  | _=>match Zs m b with
   | some ⟨_,_,some A⟩=>some (len,fun k=>A.get (off+k),Nat.beq z sz&&(Nat.beq A.sz sz&&(decide (off+len<=A.n)&&C9 sz len fun k=>A.get (off+k))))
   | _=>none
 | .str s=>match ut with
  | .string =>bif Nat.beq sz 1 then some (s.length,LA s,true) else none
  | _=>none
 | _=>none
def unN :BA->BA
 | .nnl n g=>.dat n g
 | v=>v
def Vd (get:Nat->List BA) (len:Nat) (g:Nat->List BA):Nat->List BA:=fun k=>bif Nat.ble len k then g (k - len) else get k
def Q5 (floor:Nat):Option Nat->Bool
 | some b=>Nat.ble floor b
 | none=>true
def GL (m:BH):Option Nat->BH
 | some b=>Yi m b none
 | none=>m
def Uq (P:Program) (cx:BK) (st:St) (argTypes:List TypeId) (args:List BA):Option (BA×St):=
 match argTypes,args with
 | t :: u::_,s::x::_=>match P.underlying t,P.underlying u with
  | some (.slice e),some ut=>match P.info? e,Ux P e with
   | some i,some zero=>match Hz st.mem i.size s,LH st.mem i.size zero ut (unN x) with
    | some (b,len,get,o1),some (n,g,o2)=>
     bif Nat.beq zero.length i.size&&zero.all B4&&Nat.ble 1 i.size&&Q5 cx.floor b then
      (St.owe cx (match BY (st.withMem (GL st.mem b)) (rows (len+n) (Vd get len g)) e with
        | ⟨env,_,next,orc,ob⟩=>⟨env,Yi (GL st.mem b) st.next (some ⟨rows (len+n) (Vd get len g),e,some ⟨i.size,len+n,Vd get len g⟩⟩),next,orc,ob⟩)
       (o1&&(o2&&decide ((len+n+1)*(i.bytes+1)<=Kx)))).map (.sla st.next i.size 0 (len+n) (.un i.size), ·)
     else none
    | _,_=>none
   | _,_=>none
  | _,_=>none
 | _,_=>none
def JP :BA->Bool
 | .dat _ _=>true
 | .nnl _ _=>true
 | .sla _ _ _ _ _=>true
 | .str _=>true
 | _=>false
def Z4 :BA->BA->Bool
 | .sla _ _ _ _ _,.nils =>true
 | _,_=>false
def Gq (P:Program) (cx:BK) (argTypes:List TypeId) (args:List BA):Bool:=
 match argTypes,args with
 | _::u::_,s::x::_=>JP x||(Z4 s x||cx.sym&&(match P.underlying u with
  | some (.int _)=>true
  | _=>false))
 | _,_=>false
def En (mem:BH) (e:TypeId) (b:Nat):Bool:=match Zs mem b with
 | some blk=>Nat.beq blk.ty e
 | none=>true
def tyOk (P:Program) (mem:BH) (argTypes:List TypeId) (args:List BA):Bool:=
 match argTypes,args with
 | t::_,s::_=>match P.underlying t with
  | some (.slice e)=>match s with
   | .sl b _ _ _=>En mem e b
   | .sla b _ _ _ _=>En mem e b
   | _=>true
  | _=>true
 | _,_=>true
def Jp (P:Program) (cx:BK) (st:St) (argTypes:List TypeId) (args:List BA):Option (BA×St):=
 bif !tyOk P st.mem argTypes args then none else
 bif Gq P cx argTypes args then Uq P cx st argTypes args else
 match args with
 | .sla b sz off len cap::r=>Qz P cx st argTypes (.sla b sz off len cap::r)
 | args=>Ui P cx.floor st argTypes args
def GD (P:Program) (floor:Nat) (st:St) (argTypes:List TypeId) (args:List BA):Option (BA×St):=
 match argTypes,args with
 | t :: _,d::x::_=>match P.underlying t with
  | some (.slice e)=>match P.info? e with
   | some i=>match Yj st.mem i.size x with
    | some (m,src)=>
     bif Nat.beq src.length (m*i.size)&&src.all B4 then
     match d with
     | .nils =>some (.int .i64 0,st)
     | .dat n _=>bif Nat.beq n 0 then some (.int .i64 0,st) else none
     | .sl b off len _=>
      let n:=Nat.min m len
      match Zs st.mem b with
      | some blk=>
       bif !blk.isObj&&(Nat.ble floor b&&Nat.ble (off+n*i.size) blk.cells.length) then
        some (.int .i64 n,st.withMem (Yi st.mem b (some ⟨blk.cells.take off++src.take (n*i.size)++blk.cells.drop (off+n*i.size),blk.ty,none⟩)))
       else none
      | none=>none
     | _=>none
     else none
    | none=>none
   | none=>none
  | _=>none
 | _,_=>none
def MW (m:BH) (sz:Nat):BA->Option (Nat×(Nat->List BA)×Bool)
 | .nils =>some (0,fun _=>[],true)
 | .dat n g=>some (n,g,C9 sz n g)
 | .sla b z off len _=>match Zs m b with
  | some blk=>match blk.arr with
   | some A=>some (len,fun k=>A.get (off+k),Nat.beq z sz&&(Nat.beq A.sz sz&&(decide (off+len<=A.n)&&C9 sz len fun k=>A.get (off+k))))
   | none=>none
  | none=>none
 | .slv b z off len=>match Zs m b with
  | some blk=>match blk.arr with
   | some A=>some (len,fun k=>A.get (off+k),Nat.beq z sz&&(Nat.beq A.sz sz&&(decide (off+len<=A.n)&&C9 sz len fun k=>A.get (off+k))))
   | none=>none
  | none=>none
 | _=>none
def Wg (get:Nat->List BA) (off n:Nat) (g:Nat->List BA):Nat->List BA:=fun k=>bif Nat.ble off k&&Nat.ble (k+1) (off+n) then g (k - off) else get k
def Ea (P:Program) (cx:BK) (st:St) (argTypes:List TypeId) (b sz off len:Nat) (x:BA):Option (BA×St):=
 match argTypes with
 | t ::_=>match P.underlying t with
  | some (.slice e)=>match P.info? e,Zs st.mem b with
   | some i,some blk=>match blk.arr,MW st.mem i.size x with
    | some A,some (m,g,o)=>
     bif Nat.ble cx.floor b&&Nat.ble 1 i.size then
      (St.owe cx (st.withMem (Yi st.mem b (some ⟨rows A.n (Wg A.get off (Nat.min m len) g),blk.ty,some ⟨A.sz,A.n,Wg A.get off (Nat.min m len) g⟩⟩)))
       (Nat.beq sz i.size&&(Nat.beq A.sz sz&&(decide (off+len<=A.n)&&o)))).map (.int .i64 (Nat.min m len:Nat), ·)
     else none
    | _,_=>none
   | _,_=>none
  | _=>none
 | _=>none
def IB (P:Program) (cx:BK) (st:St) (argTypes:List TypeId) (args:List BA):Option (BA×St):=
 match args with
 | .sla b sz off len _::x::_=>Ea P cx st argTypes b sz off len x
 | .slv b sz off len::x::_=>Ea P cx st argTypes b sz off len x
 | args=>GD P cx.floor st argTypes args
def Fh (P:Program) (floor:Nat) (st:St) (argTypes:List TypeId) (args:List BA):Option (BA×St):=
 match argTypes,args with
 | t ::_,d::_=>match P.underlying t with
  | some (.slice e)=>match P.info? e,Ux P e with
   | some i,some zero=>match d with
    | .nils =>some (.tup [],st)
    | .sl b off len _=>
     bif Nat.beq len 0 then some (.tup [],st) else
     bif Nat.beq zero.length i.size&&zero.all B4&&Nat.ble floor b then
     match Zs st.mem b with
     | some blk=>
      bif !blk.isObj&&Nat.ble (off+len*i.size) blk.cells.length then
       some (.tup [],st.withMem (Yi st.mem b (some ⟨blk.cells.take off++B5 len zero++blk.cells.drop (off+len*i.size),blk.ty,none⟩)))
      else none
     | none=>none
     else none
    | _=>none
   | _,_=>none
  | _=>none
 | _,_=>none
def DC :List BA->Nat->T BA->T BA
 | [],_,t=>t
 | a::r,i,t=>DC r (i+1) (T.set .undef t i a)
def LB (P:Program) (st:St):ResultVar->Option BA
 | .tmp t=>some (st.tmp t)
 | .cell a t=>GE P st.mem t (st.tmp a)
def aResults (P:Program) (st:St):List ResultVar->Option (List BA)
 | []=>some []
 | r::l=>match LB P st r,aResults P st l with
  | some v,some vs=>some (v::vs)
  | _,_=>none
def Ud :List BA->BA
 | [v]=>v
 | vs=>.tup vs
def pf :Nat->BA->Bool
 | 0,_=>false
 | d+1,v=>match v with
  | .bool _ | .int _ _ | .str _ | .nilp | .nils | .nilf | .nili | .ifb _ | .dat _ _ | .dptr _=>true
  | .agg cs | .tup cs=>cs.all (pf d)
  | .fn _ cs=>cs.isEmpty
  | _=>false
inductive GT where
 | val (F:List BA->Option (BA×Bool))
 | eff (F:List BA->BH->Option (BA×Nat×BE×Bool))
 | gro (ty:TypeId) (F:Nat->(Nat->List BA)->List BA->Option (Nat×(Nat->List BA)×Bool))
abbrev BC :=FuncId->Option GT
abbrev BI :=BK->List Item->St->Option St
def pl :BA->Bool
 | .bool _ | .int _ _=>true
 | _=>false
def FT (sz n:Nat) (get:Nat->List BA):Bool:=pd (∀i,i<n->(get i).length =sz/\(get i).all pl=true)
def ET (S:BC) (f:FuncId) (args:List BA):Option Nat:=match S f with
 | some (.gro _ _)=>match args with
  | .sla b _ _ _ _::_=>some b
  | _=>none
 | _=>none
def scal :BA->Bool
 | .bool _ | .int _ _ | .str _ | .ifb _=>true
 | .tup vs=>vs.all fun v=>match v with
  | .bool _ | .int _ _ | .str _ | .ifb _ | .undef =>true
  | _=>false
 | _=>false
def Nd (P:Program) (m:BH):BA->BA×Bool
 | .sla b sz off len cap=>match Zs m b with
  | some blk=>match blk.arr with
   | some A=>(.dat len fun k=>A.get (off+k),Nat.beq A.sz sz&&(decide (off+len<=A.n)&&pd (∀i,(A.get i).all (pf 6)=true)))
   | none=>(.undef,true)
  | none=>(.undef,true)
 | .sl b off len _=>match Zs m b with
  | some blk=>match P.info? blk.ty with
   | some i=>(.dat len fun k=>(blk.cells.drop (off+k*i.size)).take i.size,!blk.isObj&&(Nat.ble (off+len*i.size) blk.cells.length&&blk.cells.all (pf 6)))
   | none=>(.undef,true)
  | none=>(.undef,true)
 | v=>(v,true)
def Ix (P:Program) (m:BH):List BA->List BA×Bool
 | []=>([],true)
 | v::l=>match Nd P m v,Ix P m l with
  | (a,o),(az,q)=>(a::az,o&&q)
def II (P:Program) (S:BC) (R:BI) (lift:Bool) (f:FuncId) (args:List BA) (cx:BK) (st:St):Option (BA×St):=
 match S f with
 | some (.val F)=>bif args.all (pf 3) then (match F args with
   | some (v,b)=>bif pf 3 v||scal v then (st.owe cx b).map (v, ·) else none
   | none=>none) else
  match Ix P st.mem args with
  | (args',o)=>match F args' with
   | some (v,b)=>bif args'.all (pf 3)&&scal v then (st.owe cx (o&&b)).map (v, ·) else none
   | none=>none
 | some (.eff F)=>match F args st.mem with
  | some (v,b,blk,o)=>match Zs st.mem b with
   | some _=>bif !lift&&Nat.ble cx.floor b then ((st.withMem (Yi st.mem b (some blk))).owe cx o).map (v, ·) else none
   | none=>none
  | none=>none
 | some (.gro ty0 F)=>match args with
  | .sla b sz 0 n (.un sz')::r=>match Zs st.mem b with
   | some ⟨_,ty,some A⟩=>bif (Nat.beq ty ty0&&(Nat.beq sz sz'&&Nat.beq A.sz sz))&&(r.all (pf 3)&&(Nat.ble cx.floor b&&Nat.ble 1 sz)) then
     (match F n A.get r with
     | some (n',g,o)=>(St.owe cx (match st with
      | ⟨env,mem,next,orc,ob⟩=>⟨env,Yi (Yi mem b none) next (some ⟨rows n' g,ty,some ⟨sz,n',.flat g⟩⟩),next+1,orc,ob⟩) (o&&(Nat.beq A.n n&&(FT sz n A.get&&FT sz n' g)))).map (.sla st.next sz 0 n' (.un sz), ·)
     | none=>none) else none
   | _=>none
  | _=>none
 | none=>match P.funcs[f]? with
  | some fn=>match fn.body with
   | some body=>
    match R ⟨Nat.max fn.ntmps args.length,bif lift then st.next else cx.floor,cx.sym⟩ [.code body] (st.withEnv (DC args 0 .leaf)) with
    | some st2=>match aResults P st2 fn.results.toList with
     | some vs=>some (Ud vs,st2.withEnv st.env)
     | none=>none
    | none=>none
   | none=>none
  | none=>none
def Xg (P:Program) (S:BC) (R:BI) (lift:Bool) (op:Op) (cx:BK) (st:St):Option (BA×St):=
 match op with
 | .load t x=>match Mp P st t (st.eval x) with
  | some (v,b,st1)=>(st1.owe cx b).map (v, ·)
  | none=>none
 | .alloc t=>(Ux P t).map fun z=>(.ptr st.next 0,BY st z t)
 | .box t x=>bif Ks (st.eval x) then some (.ptr st.next 0,BY st (st.eval x).cells t) else none
 | .buildSlice t len parts=>Vv P cx.sym st t len (parts.toList.map fun p=>(p.1,st.eval p.2))
 | .store t a x=>match st.eval a with
  | .epa b sz r fo=>(Ft P cx st t (.epa b sz r fo) (st.eval x)).map (.tup [], ·)
  | y=>(Fj P cx.floor st t y (st.eval x)).map (.tup [], ·)
 | .makeSlice t l c=>bif cx.sym then (bif st.nextO then Wa P st.dropO t (st.eval l) (st.eval c) else Vw P cx st.dropO t (st.eval l) (st.eval c)) else Wa P st t (st.eval l) (st.eval c)
 | .call {callee:=.builtin .append,args,argTypes}=>Jp P cx st argTypes.toList (args.toList.map st.eval)
 | .call {callee:=.builtin .copy,args,argTypes}=>IB P cx st argTypes.toList (args.toList.map st.eval)
 | .call {callee:=.builtin .clear,args,argTypes}=>Fh P cx.floor st argTypes.toList (args.toList.map st.eval)
 | .call {callee:=.value f,args,argTypes:=_}=>match st.eval f with
  | .fn g caps=>II P S R lift g (args.toList.map st.eval++caps) cx st
  | .fnb g first=>II P S R lift g (first++args.toList.map st.eval) cx st
  | _=>none
 | _=>none
def Fp (P:Program) (S:BC) (R:BI) (lift:Bool) (o:Oper) (cx:BK) (st:St):Option St:=
 match Vn P o.op st.eval with
 | some (v,b)=>match st.owe cx b with
  | some st=>st.put cx o.dst v
  | none=>none
 | none=>match Xg P S R lift o.op cx st with
  | some (v,st)=>st.put cx o.dst v
  | none=>none
def Dm (ops:Array Oper) (o:Oper) (cx:BK) (st:St):Option (Bool×St):=
 match o.guard with
 | none=>some (true,st)
 | some (j,want)=>match (ops[j]?).bind (·.dst) with
  | none=>none
  | some d=>match st.tmp d with
   | .bool b=>match st.test b with
    | (e,st1)=>match st1.put cx (some d) (.bool e) with
     | some st2=>some (e == want,st2)
     | none=>none
   | .tup []=>some (false,st)
   | _=>none
def It :List Bool->Nat×List Bool
 | []=>(0,[])
 | false::r=>(0,r)
 | true::r=>((It r).1+1,(It r).2)
def St.conc (cx:BK) (t:Nat) (kd:IntKind) (n:Int):St->Option St
 | ⟨env,mem,next,[],ob⟩=>some ⟨env,mem,next,[],ob⟩
 | ⟨env,mem,next,o::r,ob⟩=>bif Nat.ble (t+1) cx.n then some ⟨T.set .undef env t (.int kd (Int.ofNat (It (o::r)).1)),mem,next,(It (o::r)).2,decide (n=Int.ofNat (It (o::r)).1)&&ob⟩ else none
def L5 (o:Oper) (cx:BK) (st:St):Option St:=
 match o.op with
 | .indexAddr _ x (.tmp t)=>match st.eval x with
  | .ptr _ _ | .epa _ _ _ _ | .dptr _=>match st.tmp t with
   | .int kd n=>st.conc cx t kd n
   | _=>some st
  | _=>some st
 | .index _ x (.tmp t)=>match st.eval x with
  | .agg _=>match st.tmp t with
   | .int kd n=>st.conc cx t kd n
   | _=>some st
  | _=>some st
 | _=>some st
def Uh (ops:Array Oper) (o:Oper) (cx:BK) (st:St):Option (Bool×St):=
 match Dm ops o cx st with
 | some (true,st1)=>match L5 o cx st1 with
  | some st2=>some (true,st2)
  | none=>none
 | x=>x
def K8 (P:Program) (S:BC) (R:BI) (ops:Array Oper) (cx:BK) (l:List (Bool×Oper)):St->Option St:=
 List.rec (motive:=fun _=>St->Option St) (fun st=>some st)
  (fun x _ rec st=>match Uh ops x.2 cx st with
   | none=>none
   | some (true,st)=>match Fp P S R x.1 x.2 cx st with
    | some st=>rec st
    | none=>none
   | some (false,st)=>match st.put cx x.2.dst (.tup []) with
    | some st=>rec st
    | none=>none) l
inductive DL where
 | pure | read | alloc | call | chain | lit | birth
 deriving DecidableEq
def Yk :Op->DL
 | .load .. =>.read
 | .alloc _=>.alloc
 | .box .. | .buildSlice .. | .store .. | .makeSlice .. =>.chain
 | .call {callee:=.builtin .append,.. } | .call {callee:=.builtin .copy,.. } | .call {callee:=.builtin .clear,.. }=>.chain
 | .call {callee:=.value _,.. }=>.call
 | _=>.pure
def GG (z:Nat):Op->Bool
 | .buildSlice _ n _=>Nat.beq z 1||(Nat.beq z 3&&Nat.ble 1 n)
 | _=>false
def isBirth (z:Nat):Op->Bool
 | .buildSlice .. =>Nat.beq z 2
 | _=>false
def Yp (z:Nat) (op:Op):DL:=bif GG z op then .lit else bif isBirth z op then .birth else Yk op
def DE :List Oper->List Nat->List Nat
 | [],acc=>acc
 | o::r,acc=>DE r (acc++[o.after.toList.foldl (fun s e=>bif Region.binds .any e then s||| (2 ^ e.on)||| acc.getD e.on 0 else s) 0])
def isAlloc (ops:Array Oper) (i:Nat):Bool:=(ops[i]?).any fun o=>Yk o.op == .alloc
def Zi (ops:Array Oper):List Nat:=
 (List.range ops.size).filter (isAlloc ops)++(List.range ops.size).filter (fun i=> !isAlloc ops i)
def Qo (ops:Array Oper) (i:Nat):Bool:=
 (List.range ops.size).any fun j=>(ops[j]?).any (fun o=>Yk o.op == .read)&&
  ((Nat.ble (i+1) j&& !((DE ops.toList []).getD j 0).testBit i)||(Nat.ble (j+1) i&& !((DE ops.toList []).getD i 0).testBit j))
def Jq (ops:Array Oper):List (Nat×Bool×Oper):=(Zi ops).map fun i=>(i,Qo ops i,ops.getD i default)
def M0 :DL->DL->Bool
 | .pure,_=>true
 | _,.pure =>true
 | .lit,_=>true
 | _,.lit =>true
 | .birth,_=>true
 | _,.birth =>true
 | .alloc,_=>true
 | _,.alloc =>true
 | .read,.read =>true
 | .read,.call =>true
 | .call,.read =>true
 | .read,.chain =>true
 | .chain,.read =>true
 | _,_=>false
def K9 (z:Nat) (ops:Array Oper) (i j:Nat) (p o:Oper):Bool:=
 (((DE ops.toList []).getD j 0).testBit i||(p.apart ops o&&M0 (Yp z p.op) (Yp z o.op)))&&
 (match p.dst with | some d=> !(o.dst == some d) | none=>true)&&
 (!(Yk o.op == .alloc)||p.apart ops o)&&
 (!isBirth z o.op||(match Yp z p.op with
  | .chain | .call =>false
  | _=>true))
def Fn (z:Nat) (ops:Array Oper):Bool:=
 (List.range ops.size).all fun j=>match ops[j]? with
  | none=>false
  | some o=>o.after.toList.all (fun e=> !Region.binds .any e||Nat.ble (e.on+1) j)&&(!(Yk o.op == .alloc ||isBirth z o.op)||o.guard.isNone)&&
   (List.range j).all fun i=>match ops[i]? with
    | none=>false
    | some p=>K9 z ops i j p o
def Cc (op:Op) (ev:Operand->BA):Option Nat:=
 match op with
 | .load _ x=>match ev x with
  | .ptr b _=>some b
  | .epa b _ _ _=>some b
  | _=>none
 | _=>none
def CW (op:Op) (ev:Operand->BA):Option Nat:=
 match op with
 | .store _ a _=>match ev a with
  | .ptr b _=>some b
  | .epa b _ _ _=>some b
  | _=>none
 | .call {callee:=.builtin .append,args,argTypes:=_}=>match args.toList.map ev with
  | .sl b _ _ _::_=>some b
  | .sla b _ _ _ _::_=>some b
  | _=>none
 | .call {callee:=.builtin .copy,args,argTypes:=_}=>match args.toList.map ev with
  | .sl b _ _ _::_=>some b
  | .sla b _ _ _ _::_=>some b
  | .slv b _ _ _::_=>some b
  | _=>none
 | .call {callee:=.builtin .clear,args,argTypes:=_}=>match args.toList.map ev with
  | .sl b _ _ _::_=>some b
  | _=>none
 | _=>none
def clash :Option Nat->Option Nat->Bool
 | some a,some b=>Nat.beq a b
 | _,_=>false
def ordered (ops:Array Oper) (i j:Nat):Bool:=((DE ops.toList []).getD j 0).testBit i||((DE ops.toList []).getD i 0).testBit j
abbrev CO :=Nat×Option Nat×Option Nat
def K5 (ops:Array Oper) (x y:CO):Bool:= !(clash x.2.1 y.2.2||clash x.2.2 y.2.1)||ordered ops x.1 y.1
def Dt (P:Program) (S:BC) (R:BI) (ops:Array Oper) (cx:BK) (x:Bool×Oper) (st:St):Option St:=
 match Uh ops x.2 cx st with
 | none=>none
 | some (true,st)=>Fp P S R x.1 x.2 cx st
 | some (false,st)=>st.put cx x.2.dst (.tup [])
def NL (P:Program) (t:TypeId) (len:Nat) (parts:List (Nat×BA)):Option BA:=
 match P.underlying t with
 | some (.slice e)=>match P.info? e,Ux P e with
  | some i,some zero=>
   bif (Nat.ble 1 len&&Nat.ble 1 i.size)&&(Nat.ble (len*i.size) 16777216&&Nat.beq zero.length i.size) then
    match Dp (fun j=>some (j*i.size,i.size)) (B5 len zero) parts with
    | some cells=>bif Nat.beq cells.length (len*i.size)&&cells.all (pf 6) then some (.dat len fun k=>(cells.drop (k*i.size)).take i.size) else none
    | none=>none
   else none
  | _,_=>none
 | _=>none
def M1 (P:Program) (o:Oper) (cx:BK) (st:St):Option St:=
 match o.op with
 | .buildSlice t len parts=>match NL P t len (parts.toList.map fun p=>(p.1,st.eval p.2)) with
  | some v=>st.put cx o.dst v
  | none=>none
 | _=>none
def MT (P:Program) (t:TypeId) (len:Nat) (parts:List (Nat×BA)):Option (List BA×TypeId×Nat):=
 match P.underlying t with
 | some (.slice e)=>match P.info? e,Ux P e with
  | some i,some zero=>
   bif (Nat.ble 1 len&&Nat.ble 1 i.size)&&(Nat.ble (len*i.size) 16777216&&Nat.beq zero.length i.size) then
    match Dp (fun j=>some (j*i.size,i.size)) (B5 len zero) parts with
    | some cells=>bif Nat.beq cells.length (len*i.size) then some (cells,e,i.size) else none
    | none=>none
   else none
  | _,_=>none
 | _=>none
def Lg (P:Program) (o:Oper) (cx:BK) (st:St):Option St:=
 match o.op with
 | .buildSlice t len parts=>match MT P t len (parts.toList.map fun p=>(p.1,st.eval p.2)) with
  | some (cells,e,sz)=>(BY st cells e).put cx o.dst (.sl st.next 0 len (bif cx.sym then .un sz else .ex len))
  | none=>none
 | _=>none
def GQ (z:Nat) (P:Program) (S:BC) (R:BI) (ops:Array Oper) (cx:BK) (x:Bool×Oper) (st:St):Option St:=
 bif GG z x.2.op then (match Uh ops x.2 cx st with
  | none=>none
  | some (true,st)=>M1 P x.2 cx st
  | some (false,st)=>st.put cx x.2.dst (.tup [])) else bif isBirth z x.2.op then (match Uh ops x.2 cx st with
  | none=>none
  | some (true,st)=>Lg P x.2 cx st
  | some (false,st)=>st.put cx x.2.dst (.tup [])) else Dt P S R ops cx x st
def Cf (S:BC) (op:Op) (ev:Operand->BA):Option Nat:=match op with
 | .call {callee:=.value f,args,argTypes:=_}=>match ev f with
  | .fn g caps=>ET S g (args.toList.map ev++caps)
  | .fnb g first=>ET S g (first++args.toList.map ev)
  | _=>none
 | op=>CW op ev
def Qs (S:BC) (x:Nat×Bool×Oper) (ev:Operand->BA):CO:=(x.1,Cc x.2.2.op ev,Cf S x.2.2.op ev)
def Ca (op:Op) (ev:Operand->BA) (mem:BH):Option Nat:=match op with
 | .call {callee:=.builtin .append,args,argTypes:=_}=>match args.toList.map ev with
  | .sla b _ _ _ (.un _)::.sl _ _ _ _::_=>some b
  | .sl b off len (.un z)::.sl _ _ n _::_=>match Zs mem b with
   | some blk=>bif Nat.beq (off+len*z) blk.cells.length&&Nat.ble 1 n then some b else none
   | none=>none
  | _=>none
 | _=>none
def L9 (z:Nat) (op:Op):Bool:=match Yp z op with
 | .pure | .read =>true
 | _=>false
def Ja (z:Nat) (ops:Array Oper) (i q:Nat):Bool:=(List.range ops.size).all fun j=>match ops[j]? with
 | some o=>L9 z o.op||(Nat.beq j q||(((DE ops.toList []).getD q 0).testBit j||((DE ops.toList []).getD j 0).testBit i))
 | none=>true
def lateF (z:Nat) (ops:Array Oper) (x:Nat×Bool×Oper) (ev:Operand->BA) (mem:BH):CO->Bool
 | (i,some b',none)=>match Ca x.2.2.op ev mem with
  | some b=>Nat.beq b b'&&Ja z ops i x.1
  | none=>false
 | _=>false
def Hn (z:Nat) (P:Program) (S:BC) (R:BI) (ops:Array Oper) (cx:BK) (l:List (Nat×Bool×Oper)):List CO->St->Option St:=
 List.rec (motive:=fun _=>List CO->St->Option St) (fun _ st=>some st)
  (fun x _ rec acc st=>bif acc.all (fun y=>K5 ops (Qs S x st.eval) y||lateF z ops x st.eval st.mem y) then
    match GQ z P S R ops cx x.2 st with
    | some st'=>rec (Qs S x st.eval::acc) st'
    | none=>none
   else none) l
def Xd :List (Nat×BA)->T BA
 | []=>.leaf
 | (t,v)::l=>T.set .undef (Xd l) t v
def RP (P:Program) (f:FuncId):Code:=match P.funcs[f]? with
 | some fn=>fn.body.getD .ret
 | none=>.ret
def Zy (P:Program) (f:FuncId):List ResultVar:=match P.funcs[f]? with
 | some fn=>fn.results.toList
 | none=>[]
theorem Mv {b:Bool} {p:Prop} (hb:b=true->p) (h:Gl b p=true):p:=by
 unfold Gl at h;cases hb':b with
 | true=>exact hb hb'
 | false=>rw [hb',Bool.false_or] at h;exact @AA p (Classical.propDecidable p) h
theorem Hu {b:Bool} {p:Prop} (h:p):Gl b p=true:=by unfold Gl;rw [show pd p=true from @Aq p (Classical.propDecidable p) h,Bool.or_true]
theorem w5h {n:Nat} {g:Nat->List BA} {sz:Nat} (h:EP n g sz=true): ∀i,i<n->(g i).length =sz:=
 Mv (fun h i hi=>Ae (Az.1 h i (AM.2 hi))) h
theorem Ht {n:Nat} {g:Nat->List BA} {sz:Nat} (h:C9 sz n g=true): ∀i,i<n->(g i).length =sz/\(g i).all B4=true:=
 Mv (fun h i hi=>by
  have:=Az.1 h i (AM.2 hi);rw [Ad] at this;exact ⟨Ae this.1,this.2⟩) h
theorem J7 (m:Nat):Nat.beq (m %2) 0=true↔m %2=0:=by simp_all
@[simp] theorem T.get_leaf {α:Type} (d:α) (n:Nat):T.get d .leaf n=d:=rfl
@[simp] theorem T.get_zero {α:Type} (d v:α) (l r:T α):T.get d (.node v l r) 0=v:=rfl
theorem T.get_succ {α:Type} (d v:α) (l r:T α) (m:Nat):T.get d (.node v l r) (m+1)=if m %2=0 then T.get d l (m / 2) else T.get d r (m / 2):=by simp_all [T.get]
theorem T.setF_leaf_zero {α:Type} (d v:α) (f:Nat):T.setF d v (f+1) .leaf 0=.node v .leaf .leaf :=rfl
theorem T.setF_node_zero {α:Type} (d v u:α) (l r:T α) (f:Nat):T.setF d v (f+1) (.node u l r) 0=.node v l r:=rfl
theorem T.setF_leaf_succ {α:Type} (d v:α) (f m:Nat):T.setF d v (f+1) .leaf (m+1)=
  if m %2=0 then .node d (T.setF d v f .leaf (m / 2)) .leaf else .node d .leaf (T.setF d v f .leaf (m / 2)):=by
 show (bif Nat.beq (m %2) 0 then (_:T α) else _)=_;by_cases h:m %2=0
 .rw [AB h,(J7 m).2 h];rfl
 .rw [At h,show Nat.beq (m %2) 0=false from AT.2 (fun e=>h ((J7 m).1 e))];rfl
theorem T.setF_node_succ {α:Type} (d v u:α) (l r:T α) (f m:Nat):T.setF d v (f+1) (.node u l r) (m+1)=
  if m %2=0 then .node u (T.setF d v f l (m / 2)) r else .node u l (T.setF d v f r (m / 2)):=by
 show (bif Nat.beq (m %2) 0 then (_:T α) else _)=_;by_cases h:m %2=0
 .rw [AB h,(J7 m).2 h];rfl
 .rw [At h,show Nat.beq (m %2) 0=false from AT.2 (fun e=>h ((J7 m).1 e))];rfl
theorem T.get_setF {α:Type} (d v:α): ∀(f:Nat) (t:T α) (n k:Nat),n<f->T.get d (T.setF d v f t n) k=if k=n then v else T.get d t k
 | 0,_,_,_,h=>absurd h (AC _)
 | f+1,.leaf,0,k,_=>by
  rw [T.setF_leaf_zero];cases k with
  | zero=>simp
  | succ k=>rw [T.get_succ];simp
 | f+1,.node u l r,0,k,_=>by
  rw [T.setF_node_zero];cases k with
  | zero=>simp
  | succ k=>rw [T.get_succ,T.get_succ];simp
 | f +1,.leaf,m+1,k,h=>by
  rw [T.setF_leaf_succ];have hm:m / 2<f:=by omega
  cases k with
  | zero=>split <;> simp
  | succ k=>
   have ih:=T.get_setF d v f .leaf (m / 2) (k / 2) hm;by_cases hp:m %2=0
   .rw [AB hp,T.get_succ];by_cases hk:k %2=0
    .rw [AB hk,ih];by_cases e:k / 2=m / 2
     .rw [AB e,AB (by omega)]
     .rw [At e,At (by omega)];simp
    .rw [At hk,At (by omega)];simp
   .rw [At hp,T.get_succ];by_cases hk:k %2=0
    .rw [AB hk,At (by omega)];simp
    .rw [At hk,ih];by_cases e:k / 2=m / 2
     .rw [AB e,AB (by omega)]
     .rw [At e,At (by omega)];simp
 | f +1,.node u l r,m+1,k,h=>by
  rw [T.setF_node_succ];have hm:m / 2<f:=by omega
  cases k with
  | zero=>split <;> simp
  | succ k=>
   by_cases hp:m %2=0
   .rw [AB hp,T.get_succ,T.get_succ];by_cases hk:k %2=0
    .rw [AB hk,AB hk,T.get_setF d v f l (m / 2) (k / 2) hm];by_cases e:k / 2=m / 2
     .rw [AB e,AB (by omega)]
     .rw [At e,At (by omega)]
    .rw [At hk,At hk,At (by omega)]
   .rw [At hp,T.get_succ,T.get_succ];by_cases hk:k %2=0
    .rw [AB hk,AB hk,At (by omega)]
    .rw [At hk,At hk,T.get_setF d v f r (m / 2) (k / 2) hm];by_cases e:k / 2=m / 2
     .rw [AB e,AB (by omega)]
     .rw [At e,At (by omega)]
theorem T.get_set {α:Type} (d:α) (t:T α) (n:Nat) (v:α) (k:Nat):T.get d (T.set d t n v) k=if k=n then v else T.get d t k:=
 T.get_setF d v (n+1) t n k (Nat.lt_succ_self n)
theorem Xi (m:BH) (b:Nat) (o:Option BE) (k:Nat):Zs (Yi m b o) k=if k=b then o else Zs m k:=T.get_set none m b o k
theorem Zd (m:BH) (b:Nat) (o:Option BE):Zs (Yi m b o) b=o:=by rw [Xi,AB rfl]
theorem Zx (m:BH) {b k:Nat} (o:Option BE) (h:k≠b):Zs (Yi m b o) k=Zs m k:=by rw [Xi,At h]
inductive Xo {α β:Type} (R:α->β->Prop):List α->List β->Prop
 | nil:Xo R [] []
 | cons {a:α} {b:β} {l:List α} {m:List β} (h:R a b) (t:Xo R l m):Xo R (a::l) (b::m)
theorem Xo.length {α β:Type} {R:α->β->Prop} {l:List α} {m:List β} (h:Xo R l m):l.length=m.length:=by
 induction h with
 | nil=>rfl
 | cons _ _ ih=>simp [ih]
theorem Xo.get {α β:Type} {R:α->β->Prop} {l:List α} {m:List β} (h:Xo R l m): ∀(i:Nat) (h1:i<l.length) (h2:i<m.length),R l[i] m[i]:=by
 induction h with
 | nil=>grind
 | cons h _ ih=>
  grind
theorem Xo.append {α β:Type} {R:α->β->Prop} {l l':List α} {m m':List β} (h:Xo R l m) (k:Xo R l' m'):Xo R (l++l') (m++m'):=by
 induction h with
 | nil=>exact k
 | cons h _ ih=>exact .cons h ih
theorem Xo.of {α β:Type} {R:α->β->Prop}: ∀{l:List α} {m:List β},l.length=m.length->(∀(i:Nat) (h1:i<l.length) (h2:i<m.length),R l[i] m[i])->Xo R l m
 | [],[],_,_=>.nil
 | [],_::_,h,_=>by simp at h
 | _::_,[],h,_=>by simp at h
 | a::l,b::m,h,hr=>.cons (hr 0 (by simp) (by simp)) (Xo.of (by simpa using h) fun i h1 h2=>hr (i+1) (by grind) (by grind))
theorem Xo.maps {α γ δ:Type} {R:γ->δ->Prop} (f:α->γ) (g:α->δ): ∀(l:List α),(∀a,a∈l->R (f a) (g a))->Xo R (l.map f) (l.map g)
 | [],_=>.nil
 | a::l,h=>.cons (h a (by simp)) (Xo.maps f g l fun b hb=>h b (by simp [hb]))
structure BS where
 blk:Nat
 base:Nat
 n:Nat
 tot:Nat
abbrev CX :=Nat->Option Obj
structure BD where
 f:Nat->Option BS
 fz:CX
 lp:Nat->Option Nat
instance : CoeFun BD (fun _=>Nat->Option BS):=⟨BD.f⟩
def BD.bare (ρ:BD):BD:=⟨fun _=>none,ρ.fz,fun _=>none⟩
def Km (H:CX):BD:=⟨fun _=>none,H,fun _=>none⟩
def Us (l:BS) (off:Nat):DD->Nat->Prop
 | .ex k,c=>c=k
 | .un sz,c=>l.n<=off+c*sz/\off+c*sz<=l.tot
def Dn (H:CX) (blk o:Nat) (v:Value):Prop:= ∃cs el fz,H blk=some (.cells cs el fz)/\cs[o]? =some v
inductive Zb :BD->BA->Value->Prop
 | undef {ρ:BD} (v:Value):Zb ρ .undef v
 | bool {ρ:BD} (b:Bool):Zb ρ (.bool b) (.bool b)
 | int {ρ:BD} (k:IntKind) (n:Int):Zb ρ (.int k n) (.int k n)
 | str {ρ:BD} (s:List UInt8):Zb ρ (.str s) (.string ⟨s.toArray⟩)
 | agg {ρ:BD} (cs:List BA) (vs:Array Value) (hl:cs.length=vs.size) (h: ∀(i:Nat) (h1:i<cs.length) (h2:i<vs.size),Zb ρ cs[i] vs[i]):Zb ρ (.agg cs) (.agg vs)
 | tup {ρ:BD} (cs:List BA) (vs:Array Value) (hl:cs.length=vs.size) (h: ∀(i:Nat) (h1:i<cs.length) (h2:i<vs.size),Zb ρ cs[i] vs[i]):Zb ρ (.tup cs) (.tuple vs)
 | ptr {ρ:BD} (b off:Nat) (l:BS) (h:ρ b=some l):Zb ρ (.ptr b off) (.pointer (some ⟨l.blk,l.base+off,none⟩))
 | nilp {ρ:BD}:Zb ρ .nilp (.pointer none)
 | sl {ρ:BD} (b off len:Nat) (cap:DD) (l:BS) (c:Nat) (h:ρ b=some l) (hc:Us l off cap c) (cC:len<=c):Zb ρ (.sl b off len cap) (.slice (some ⟨l.blk,l.base+off,none⟩) len c)
 | nils {ρ:BD}:Zb ρ .nils (.slice none 0 0)
 | sla {ρ:BD} (b sz off len:Nat) (cap:DD) (l:BS) (c:Nat) (h:ρ b=some l) (hc:Us l (off*sz) cap c) (cC:len<=c):Zb ρ (.sla b sz off len cap) (.slice (some ⟨l.blk,l.base+off*sz,none⟩) len c)
 | slan {ρ:BD} (b sz off:Nat) (cap:DD):Zb ρ (.sla b sz off 0 cap) (.slice none 0 0)
 | slv {ρ:BD} (b sz off len:Nat) (l:BS) (c:Nat) (h:ρ b=some l) (cC:len<=c):Zb ρ (.slv b sz off len) (.slice (some ⟨l.blk,l.base+off*sz,none⟩) len c)
 | slve {ρ:BD} (b sz off:Nat) (blk base c:Nat):Zb ρ (.slv b sz off 0) (.slice (some ⟨blk,base,none⟩) 0 c)
 | slvn {ρ:BD} (b sz off:Nat):Zb ρ (.slv b sz off 0) (.slice none 0 0)
 | epa {ρ:BD} (b sz i fo:Nat) (l:BS) (h:ρ b=some l):Zb ρ (.epa b sz i fo) (.pointer (some ⟨l.blk,l.base+(i*sz+fo),none⟩))
 | fn {ρ:BD} (f:FuncId) (cs:List BA) (vs:Array Value) (hl:cs.length=vs.size) (h: ∀(i:Nat) (h1:i<cs.length) (h2:i<vs.size),Zb ρ cs[i] vs[i]):Zb ρ (.fn f cs) (.func (.func f) #[] vs)
 | nilf {ρ:BD}:Zb ρ .nilf .nilFunc
 | fnb {ρ:BD} (f:FuncId) (cs:List BA) (vs:Array Value) (hl:cs.length=vs.size) (h: ∀(i:Nat) (h1:i<cs.length) (h2:i<vs.size),Zb ρ cs[i] vs[i]):Zb ρ (.fnb f cs) (.func (.func f) vs #[])
 | yld {ρ:BD} (j l:Nat) (h:ρ.lp j=some l):Zb ρ (.yld j) (.func (.yield l) #[] #[])
 | ifc {ρ:BD} (t:TypeId) (a:BA) (v:Value) (h:Zb ρ a v):Zb ρ (.ifc t a) (.iface t v)
 | nili {ρ:BD}:Zb ρ .nili .nilIface
 | dat {ρ:BD} (len:Nat) (get:Nat->List BA) (blk base sz cap:Nat) (val:Nat->Nat->Value) (cJ:len<=cap) (hsz: ∀i,i<len->(get i).length =sz)
   (hv: ∀(i j:Nat) (_:i<len) (hj:j<(get i).length),Zb ρ.bare (get i)[j] (val i j)) (hh: ∀i j,i<len->j<sz->Dn ρ.fz blk (base+(i*sz+j)) (val i j)):Zb ρ (.dat len get) (.slice (some ⟨blk,base,none⟩) len cap)
 | datn {ρ:BD} (get:Nat->List BA):Zb ρ (.dat 0 get) (.slice none 0 0)
 | datz {ρ:BD} (get:Nat->List BA) (a:Addr) (c:Nat):Zb ρ (.dat 0 get) (.slice (some a) 0 c)
 | nnl {ρ:BD} (len:Nat) (get:Nat->List BA) (a:Addr) (c:Nat) (h:Zb ρ (.dat len get) (.slice (some a) len c)):Zb ρ (.nnl len get) (.slice (some a) len c)
 | mapr {ρ:BD} (b:Nat) (l:BS) (h:ρ b=some l):Zb ρ (.mapr b) (.map (some l.blk))
 | ifbt {ρ:BD}:Zb ρ (.ifb true) .nilIface
 | ifbf {ρ:BD} (t:TypeId) (v:Value):Zb ρ (.ifb false) (.iface t v)
 | dptr {ρ:BD} (cs:List BA) (blk base:Nat) (val:Nat->Value) (hv: ∀(j:Nat) (hj:j<cs.length),Zb ρ.bare cs[j] (val j)) (hh: ∀j,j<cs.length->Dn ρ.fz blk (base+j) (val j)):Zb ρ (.dptr cs) (.pointer (some ⟨blk,base,none⟩))
def Wx (ρ:BD) (cs:List BA) (vs:Array Value):Prop:=cs.length=vs.size/\ ∀(i:Nat) (h1:i<cs.length) (h2:i<vs.size),Zb ρ cs[i] vs[i]
def BD.le (ρ ρ':BD):Prop:=(∀b l,ρ b=some l->ρ' b=some l)/\(∀k o,ρ.fz k=some o->ρ'.fz k=some o)/\ ∀j l,ρ.lp j=some l->ρ'.lp j=some l
theorem BD.le_refl (ρ:BD):ρ.le ρ:=⟨fun _ _ h=>h,fun _ _ h=>h,fun _ _ h=>h⟩
theorem BD.le_trans {a b c:BD} (h:a.le b) (k:b.le c):a.le c:=⟨fun x l e=>k.1 x l (h.1 x l e),fun x l e=>k.2.1 x l (h.2.1 x l e),fun x l e=>k.2.2 x l (h.2.2 x l e)⟩
theorem BD.le.bare {ρ ρ':BD} (h:ρ.le ρ'):ρ.bare.le ρ'.bare:=⟨fun _ _ e=>(by cases e),h.2.1,fun _ _ e=>(by cases e)⟩
theorem IS (ρ:BD):ρ.bare.le ρ:=⟨fun _ _ e=>(by cases e),fun _ _ e=>e,fun _ _ e=>(by cases e)⟩
theorem Dn.mono {ρ ρ':BD} (h:ρ.le ρ') {blk o:Nat} {v:Value} (hc:Dn ρ.fz blk o v):Dn ρ'.fz blk o v:=by obtain ⟨cs,el,fz,h1,h2⟩:=hc;exact ⟨cs,el,fz,h.2.1 _ _ h1,h2⟩
theorem Zb.mono {ρ ρ':BD} (h:ρ.le ρ') {a:BA} {v:Value} (hv:Zb ρ a v):Zb ρ' a v:=by
 induction hv generalizing ρ' with
 | undef v=>exact .undef v
 | bool b=>exact .bool b
 | int k n=>exact .int k n
 | str s=>exact .str s
 | agg cs vs hl _ ih=>exact .agg cs vs hl fun i h1 h2=>ih i h1 h2 h
 | tup cs vs hl _ ih=>exact .tup cs vs hl fun i h1 h2=>ih i h1 h2 h
 | ptr b off l e=>exact .ptr b off l (h.1 _ _ e)
 | nilp=>exact .nilp
 | sl b off len cap l c e hc cC=>exact .sl b off len cap l c (h.1 _ _ e) hc cC
 | nils=>exact .nils
 | sla b sz off len cap l c e hc cC=>exact .sla b sz off len cap l c (h.1 _ _ e) hc cC
 | slan b sz off cap=>exact .slan b sz off cap
 | slv b sz off len l c e cC=>exact .slv b sz off len l c (h.1 _ _ e) cC
 | slve b sz off blk base c=>exact .slve b sz off blk base c
 | slvn b sz off=>exact .slvn b sz off
 | epa b sz i fo l e=>exact .epa b sz i fo l (h.1 _ _ e)
 | fn f cs vs hl _ ih=>exact .fn f cs vs hl fun i h1 h2=>ih i h1 h2 h
 | nilf=>exact .nilf
 | fnb f cs vs hl _ ih=>exact .fnb f cs vs hl fun i h1 h2=>ih i h1 h2 h
 | yld j l e=>exact .yld j l (h.2.2 _ _ e)
 | ifc t a v _ ih=>exact .ifc t a v (ih h)
 | nili=>exact .nili
 | dat len get blk base sz cap val cJ hsz hv hh ih=>exact .dat len get blk base sz cap val cJ hsz (fun i j hi hj=>ih i j hi hj h.bare) fun i j hi hj=>(hh i j hi hj).mono h
 | datn get=>exact .datn get
 | datz get a c=>exact .datz get a c
 | nnl len get a c _ ih=>exact .nnl len get a c (ih h)
 | mapr b l e=>exact .mapr b l (h.1 _ _ e)
 | ifbt=>exact .ifbt
 | ifbf t v=>exact .ifbf t v
 | dptr cs blk base val hv hh ih=>exact .dptr cs blk base val (fun j hj=>ih j hj h.bare) fun j hj=>(hh j hj).mono h
theorem Zb.unN {ρ:BD} {a:BA} {v:Value} (h:Zb ρ a v):Zb ρ (unN a) v:=by
 cases h <;> first | assumption | (constructor <;> assumption)
theorem Zb.oneCell {ρ:BD} {a:BA} {v:Value} (h:Zb ρ a v) (hs:B4 a=true):v.oneCell'=true:=by
 cases h <;> first | rfl | (simp [B4] at hs)
theorem Zb.cells {ρ:BD} {a:BA} {v:Value} (h:Zb ρ a v) (hu:Ks a=true):Wx ρ a.cells v.cells:=by
 cases h
 case agg cs vs hl hh=>exact ⟨hl,hh⟩
 all_goals first
  | (simp [Ks] at hu;done)
  | (refine ⟨rfl,fun i h1 h2=> ?_⟩
     have h0:i=0:=by simp [BA.cells] at h1;exact h1
     subst h0;simp only [BA.cells,Value.cells,List.getElem_cons_zero,List.getElem_toArray];constructor <;> assumption)
theorem Zb.cells_oneCell {ρ:BD} {cs:List BA} {vs:Array Value} (h:Wx ρ cs vs) (hs:cs.all B4=true): ∀v∈vs.toList,v.oneCell'=true:=by
 intro v hv;obtain ⟨i,hi,rfl⟩:=Bn hv;have h2:i<vs.size:=by grind
 have h1:i<cs.length:=by rw [h.1];exact h2
 simpa using (h.2 i h1 h2).oneCell (Az.1 hs _ (AR h1))
def Dl (ρ:BD) (ty:TypeId) (blk:Nat) (r:List BA):Dv->Option Obj->Prop
 | .mi l,o=>r=[]/\ ∃es ck,o=some (.map es ck)/\es.toList.map (fun e=>(e.key,e.val))=l.map fun p=>(.string ⟨p.1.toArray⟩,.int .i64 p.2)
 | .mb l,o=>r=[]/\ ∃es ck,o=some (.map es ck)/\es.toList.map (fun e=>(e.key,e.val))=l.map fun p=>(.string ⟨p.1.toArray⟩,.bool p.2)
 | .it s pos,o=>r=[]/\o=some (.stringIter ⟨s.toArray⟩ pos)
 | .bld,o=> ∃buf v p,r=[buf]/\o=some (.cells #[.pointer p,v] ty (0,0))/\Zb ρ buf v/\(p=none\/p=some ⟨blk,0,none⟩)
theorem Dl.mono {ρ ρ':BD} (h:ρ.le ρ') {ty:TypeId} {blk:Nat} {r:List BA} {o:Dv} {x:Option Obj} (k:Dl ρ ty blk r o x):Dl ρ' ty blk r o x:=by
 cases o with
 | bld=>obtain ⟨buf,v,p,h1,h2,h3,h4⟩:=k;exact ⟨buf,v,p,h1,h2,h3.mono h,h4⟩
 | _=>exact k
structure Qx (ρ:BD) (w:World) (ab:BE) (l:BS):Prop where
 typ: ∀cs el z,w.heap[l.blk]? =some (.cells cs el z)->el=ab.ty
 n:l.n=ab.cells.length
 tot:l.n<=l.tot
 arr: ∀A,ab.arr=some A->ab.cells=rows A.n A.get/\1<=A.sz/\ ∀i,i<A.n->(A.get i).length =A.sz
 cells: ∃cs el,w.heap[l.blk]? =some (.cells cs el (0,0))/\l.base+l.tot<=cs.size/\
  ∀(i:Nat) (h:i<ab.cells.length),∃v,cs[l.base+i]? =some v/\Zb ρ ab.cells[i] v
inductive Xu (ρ:BD) (w:World) (ab:BE) (l:BS):Prop where
 | plain (h:Qx ρ w ab l)
 | obj (o:Dv) (r:List BA) (ty:TypeId) (h:ab=⟨.obj o::r,ty,none⟩) (hn:l=⟨l.blk,0,r.length+1,r.length+1⟩) (hh:Dl ρ ty l.blk r o w.heap[l.blk]?)
theorem Xu.at {ρ:BD} {w:World} {ab:BE} {l:BS} (h:Xu ρ w ab l) (hn:ab.isObj=false):Qx ρ w ab l:=by
 cases h with
 | plain h=>exact h
 | obj o r ty h _ _=>subst h;cases hn
theorem Xu.rows {ρ:BD} {w:World} {ab:BE} {l:BS} {A:CJ} (h:Xu ρ w ab l) (hn:ab.arr=some A):Qx ρ w ab l:=by
 cases h with
 | plain h=>exact h
 | obj o r ty h _ _=>subst h;cases hn
theorem Xu.arr {ρ:BD} {w:World} {ab:BE} {l:BS} (h:Xu ρ w ab l) (A:CJ) (hA:ab.arr=some A):ab.cells=Go.Am.rows A.n A.get/\1<=A.sz/\ ∀i,i<A.n->(A.get i).length =A.sz:=(h.rows hA).arr A hA
theorem Xu.n {ρ:BD} {w:World} {ab:BE} {l:BS} (h:Xu ρ w ab l):l.n=ab.cells.length:=by
 cases h with
 | plain h=>exact h.n
 | obj o r ty h hn _=>subst h;rw [hn];rfl
theorem Xu.tot {ρ:BD} {w:World} {ab:BE} {l:BS} (h:Xu ρ w ab l):l.n<=l.tot:=by
 cases h with
 | plain h=>exact h.tot
 | obj o r ty h hn _=>rw [hn];exact Ak _
theorem Xu.some {ρ:BD} {w:World} {ab:BE} {l:BS} (h:Xu ρ w ab l): ∃o,w.heap[l.blk]? =some o:=by
 cases h with
 | plain h=>obtain ⟨_,_,_,_,cs,el,h1,_⟩:=h;exact ⟨_,h1⟩
 | obj o r ty h hn hh=>
  cases o with
  | mi l=>obtain ⟨_,es,ck,e,_⟩:=hh;exact ⟨_,e⟩
  | mb l=>obtain ⟨_,es,ck,e,_⟩:=hh;exact ⟨_,e⟩
  | it s pos=>exact ⟨_,hh.2⟩
  | bld=>obtain ⟨_,_,_,_,e,_⟩:=hh;exact ⟨_,e⟩
theorem U7 {cs:List BA} (h:cs.all B4=true) (ty:TypeId) (a:Option CJ):(⟨cs,ty,a⟩:BE).isObj =false:=by
 unfold BE.isObj;split
 .rename_i e;simp only [BE.mk.injEq] at e;obtain ⟨rfl,_⟩:=e;simp [B4] at h
 .rfl
theorem U6 {ρ:BD} {cs:List BA} (h: ∀i (h:i<cs.length),∃v,Zb ρ cs[i] v) (ty:TypeId) (a:Option CJ):(⟨cs,ty,a⟩:BE).isObj =false:=by
 unfold BE.isObj;split
 .rename_i e;simp only [BE.mk.injEq] at e;obtain ⟨rfl,_⟩:=e;obtain ⟨v,hv⟩:=h 0 (by simp);cases hv
 .rfl
theorem Qi {ρ:BD} {cs:List BA} (h: ∀v∈cs,(∃u,Zb ρ v u)\/B4 v=true) (ty:TypeId) (a:Option CJ):(⟨cs,ty,a⟩:BE).isObj =false:=by
 unfold BE.isObj;split
 .rename_i e;simp only [BE.mk.injEq] at e;obtain ⟨rfl,_⟩:=e;rcases h _ (List.mem_cons_self ..) with ⟨v,hv⟩ | hv <;> cases hv
 .rfl
theorem Qx.mem {ρ:BD} {w:World} {ab:BE} {l:BS} (h:Qx ρ w ab l): ∀v∈ab.cells,∃u,Zb ρ v u:=fun v hv=>by obtain ⟨i,hi,rfl⟩:=Bn hv;obtain ⟨_,_,_,_,cs,el,_,_,h3⟩:=h;obtain ⟨u,_,hu⟩:=h3 i hi;exact ⟨u,hu⟩
theorem Wx.mem {ρ:BD} {cs:List BA} {vs:Array Value} (h:Wx ρ cs vs): ∀v∈cs,∃u,Zb ρ v u:=fun v hv=>by obtain ⟨i,hi,rfl⟩:=Bn hv;exact ⟨_,h.2 i hi (by rw [<-h.1];exact hi)⟩
theorem Po {n:Nat} {g:Nat->List BA} {v:BA} (h:v∈rows n g): ∃k,k<n/\v∈g k:=by unfold rows at h;obtain ⟨k,hk,hv⟩:=List.mem_flatMap.1 h;exact ⟨k,AM.1 hk,hv⟩
theorem Qx.noObj {ρ:BD} {w:World} {ab:BE} {l:BS} (h:Qx ρ w ab l):ab.isObj=false:=by
 obtain ⟨_,_,_,_,cs,el,_,_,h3⟩:=h;unfold BE.isObj;split
 .obtain ⟨v,_,hv⟩:=h3 0 (by simp);cases hv
 .rfl
def pow10A :Array Value:=((List.range 20).map fun i=>Value.int .u64 ((10 ^ i:Nat):Int)).toArray
structure Glob (H:CX):Prop where
 err: ∀b,b∈globs-> ∃v,Dn H b 0 v/\(v=.nilIface \/ ∃t u,v=.iface t u)
 pow: ∀b,b∈gpow-> ∃el fz,H b=some (.cells pow10A el fz)
theorem Glob.mono {H H':CX} (h: ∀k o,H k=some o->H' k=some o) (k:Glob H):Glob H':=
 ⟨fun b hb=>by
  obtain ⟨v,⟨cs,el,fz,h1,h2⟩,h3⟩:=k.err b hb;exact ⟨v,⟨cs,el,fz,h _ _ h1,h2⟩,h3⟩,fun b hb=>by
  obtain ⟨el,fz,e⟩:=k.pow b hb;exact ⟨el,fz,h _ _ e⟩⟩
structure BF (ρ:BD) (mem:BH) (next:Nat) (w:World):Prop where
 dom: ∀b l,ρ b=some l->b<next
 inj: ∀b b' l l',ρ b=some l->ρ b'=some l'->l.blk=l'.blk->(Zs mem b).isSome =true->(Zs mem b').isSome =true->b=b'
 blk: ∀b l ab,ρ b=some l->Zs mem b=some ab->Xu ρ w ab l
 old: ∀k o,ρ.fz k=some o->w.heap[k]? =some o
 sep: ∀b l,ρ b=some l->(Zs mem b).isSome =true->ρ.fz l.blk=none
 real: ∀b l,ρ b=some l->l.blk<w.heap.size
 bd: ∀b,next<=b->Zs mem b=none
 ldom:(∀j l,ρ.lp j=some l->j<next)/\Glob ρ.fz
structure Ev (ρ ρ':BD) (floor:Nat) (m:BH) (next:Nat) (m':BH) (next':Nat) (w w':World):Prop where
 ext:ρ.le ρ'
 new: ∀b,b<next->ρ' b=ρ b
 nxt:next<=next'
 unborn: ∀b,b<next->ρ b=none-> ∀cs ty,Zs m b=some ⟨cs,ty,none⟩->Zs m' b=some ⟨cs,ty,none⟩
 frame: ∀k o,w.heap[k]? =some o->(∀b l,ρ b=some l->floor<=b->l.blk≠k)->w'.heap[k]? =some o
 fresh: ∀b l,next<=b->ρ' b=some l->w.heap.size<=l.blk\/ ∃b0 l0,ρ b0=some l0/\floor<=b0/\l0.blk=l.blk
 size:w.heap.size<=w'.heap.size
 os:w'.os=w.os
 tape:w'.tape=w.tape
 output:w'.output=w.output
 still: ∀k,k<w.heap.size->ρ'.fz k=ρ.fz k
theorem Ev.refl (ρ:BD) (floor:Nat) (m:BH) (next:Nat) (w:World) (hd: ∀b l,ρ b=some l->b<next):Ev ρ ρ floor m next m next w w:=
 ⟨BD.le_refl _,fun _ _=>rfl,Ak _,fun _ _ _ _ _ h=>h,fun _ _ h _=>h,fun b l hb h=>absurd (hd b l h) (by omega),Ak _,rfl,rfl,rfl,fun _ _=>rfl⟩
theorem Ev.drawn {ρ ρ':BD} {floor:Nat} {m m':BH} {next next':Nat} {w w':World} (h:Ev ρ ρ' floor m next m' next' {w with drawn:=w.drawn+1} w'):Ev ρ ρ' floor m next m' next' w w':=
 ⟨h.ext,h.new,h.nxt,h.unborn,h.frame,h.fresh,h.size,h.os,h.tape,h.output,h.still⟩
theorem Ev.trans {ρ ρ1 ρ2:BD} {floor:Nat} {m m1 m2:BH} {n n1 n2:Nat} {w w1 w2:World} (h:Ev ρ ρ1 floor m n m1 n1 w w1) (k:Ev ρ1 ρ2 floor m1 n1 m2 n2 w1 w2):Ev ρ ρ2 floor m n m2 n2 w w2 where
 ext:=BD.le_trans h.ext k.ext
 new b hb:=by rw [k.new b (AJ hb h.nxt),h.new b hb]
 nxt:=AE h.nxt k.nxt
 unborn b hb e cs ty hm:=k.unborn b (AJ hb h.nxt) (by rw [h.new b hb];exact e) cs ty (h.unborn b hb e cs ty hm)
 frame i o hi hf:=by
  refine k.frame i o (h.frame i o hi hf) fun b l hl hfl hlb=> ?_;by_cases hb:b<n
  .rw [h.new b hb] at hl;grind
  .have hlt:i<w.heap.size:=(As.1 hi).1;rcases h.fresh b l (by omega) hl with h1 | ⟨b0,l0,e0,f0,g0⟩;all_goals grind
 fresh b l hb hl:=by
  by_cases hb1:b<n1
  .rw [k.new b hb1] at hl;exact h.fresh b l hb hl
  .rcases k.fresh b l (by omega) hl with h1 | ⟨b0,l0,e0,f0,g0⟩
   .exact .inl (AE h.size h1)
   .by_cases hb0:b0<n
    .rw [h.new b0 hb0] at e0;grind
    .rcases h.fresh b0 l0 (by omega) e0 with h1 | ⟨b3,l3,e3,f3,g3⟩;all_goals grind
 size:=AE h.size k.size
 os:=k.os.trans h.os
 tape:=k.tape.trans h.tape
 output:=k.output.trans h.output
 still i hi:=(k.still i (AJ hi h.size)).trans (h.still i hi)
theorem Ev.lower {ρ ρ':BD} {floor floor':Nat} {m m':BH} {n n':Nat} {w w':World} (h:Ev ρ ρ' floor' m n m' n' w w') (hf:floor<=floor'):Ev ρ ρ' floor m n m' n' w w':=
 ⟨h.ext,h.new,h.nxt,h.unborn,fun k o e g=>h.frame k o e fun b l hl hfl=>g b l hl (AE hf hfl),
  fun b l hb hl=>(h.fresh b l hb hl).imp id fun ⟨b0,l0,e,f,g⟩=>⟨b0,l0,e,AE hf f,g⟩,h.size,h.os,h.tape,h.output,h.still⟩
theorem BF.drawn {ρ:BD} {mem:BH} {next:Nat} {w:World} (h:BF ρ mem next w) (n:Nat):BF ρ mem next {w with drawn:=n}:=
 ⟨h.dom,h.inj,fun b l ab e f=>match h.blk b l ab e f with
  | .plain ⟨q,a,t,r,c⟩=>.plain ⟨q,a,t,r,c⟩
  | .obj o r ty q n z=>.obj o r ty q n z,h.old,h.sep,h.real,h.bd,h.ldom⟩
def Xr (ρ:BD) (b:Nat) (l:BS):BD:=⟨fun k=>if k=b then some l else ρ k,ρ.fz,ρ.lp⟩
theorem Ww (ρ:BD) (b:Nat) (l:BS) (k:Nat):Xr ρ b l k=if k=b then some l else ρ k:=rfl
theorem Vt {ρ:BD} {b:Nat} {l:BS} (h:ρ b=none):ρ.le (Xr ρ b l):=⟨fun k l' e=>by
 grind [Ww],fun _ _ e=>e,fun _ _ e=>e⟩
theorem BF.none_next {ρ:BD} {mem:BH} {next:Nat} {w:World} (h:BF ρ mem next w):ρ next=none:=by
 cases e:ρ next with
 | none=>rfl
 | some l=>exact absurd (h.dom _ _ e) (Nat.lt_irrefl _)
theorem Xu.world {ρ ρ':BD} {w w':World} {ab:BE} {l:BS} (h:Xu ρ w ab l) (hr:ρ.le ρ') (hw:w'.heap[l.blk]? =w.heap[l.blk]?):Xu ρ' w' ab l:=by
 cases h with
 | plain h=>obtain ⟨ty,n,t,ar,cs,el,h1,h2,h3⟩:=h;exact .plain ⟨by rw [hw];exact ty,n,t,ar,cs,el,by grind,h2,fun i hi=>let ⟨v,e,f⟩:=h3 i hi;⟨v,e,f.mono hr⟩⟩
 | obj o r ty h n z=>exact .obj o r ty h n (by rw [hw];exact z.mono hr)
theorem BF.new {ρ:BD} {mem:BH} {next:Nat} {w:World} (h:BF ρ mem next w) (cs:List BA) (ty:TypeId) (vs:Array Value) (el:TypeId) (hH: ∀k,w.heap.size<=k->ρ.fz k=none)
  (hn:cs.length<=vs.size) (hv: ∀(i:Nat) (h1:i<cs.length) (h2:i<vs.size),Zb ρ cs[i] vs[i]) (hel:el=ty:=by rfl):
  BF (Xr ρ next ⟨w.heap.size,0,cs.length,vs.size⟩) (Yi mem next (some ⟨cs,ty,none⟩)) (next+1) {w with heap:=w.heap.push (.cells vs el)}:=by
 have hle:=Vt (l:=⟨w.heap.size,0,cs.length,vs.size⟩) h.none_next;have cI: ∀b l,Xr ρ next ⟨w.heap.size,0,cs.length,vs.size⟩ b=some l->(b=next/\l=⟨w.heap.size,0,cs.length,vs.size⟩)\/(b≠next/\ρ b=some l):=fun b l e=>by
  grind [Ww]
 refine ⟨fun b l e=> ?_,fun b b' l l' e e' hbl hs hs'=> ?_,fun b l ab e hm=> ?_,fun k o e=> ?_,fun b l e=> ?_,fun b l e=> ?_,fun b hb=>by rw [Zx _ _ (by omega)];exact h.bd b (by omega),⟨fun j l e=>AW (h.ldom.1 j l e),h.ldom.2⟩⟩
 .rcases cI b l e with ⟨rfl,_⟩ | ⟨_,e⟩
  .omega
  .have:=h.dom b l e;omega
 .rcases cI b l e with ⟨hb,hl⟩ | ⟨hb,e2⟩ <;> rcases cI b' l' e' with ⟨hb',hl'⟩ | ⟨hb',e2'⟩
  .rw [hb,hb']
  .have:=h.real b' l' e2';grind
  .have:=h.real b l e2;grind
  .rw [Zx _ _ hb] at hs;rw [Zx _ _ hb'] at hs';exact h.inj b b' l l' e2 e2' hbl hs hs'
 .rcases cI b l e with ⟨rfl,rfl⟩ | ⟨hb,e⟩
  .rw [Zd] at hm;obtain rfl:=Ac hm;refine .plain ⟨by simp [hel],rfl,hn,(fun A e=>by cases e),vs,el,by simp,by simp,fun i hi=>⟨vs[i]'(by grind),by grind,(hv i hi (by grind)).mono hle⟩⟩
  .rw [Zx _ _ hb] at hm;refine (h.blk b l ab e hm).world hle ?_;have:=h.real b l e
   grind
 .have hk:=h.old k o e
  grind
 .intro hs;rcases cI b l e with ⟨rfl,rfl⟩ | ⟨hne,e⟩
  .exact hH _ (Ak _)
  .rw [Zx _ _ hne] at hs;exact h.sep b l e hs
 .rcases cI b l e with ⟨rfl,rfl⟩ | ⟨_,e⟩
  .simp
  .have:=h.real b l e;simp;omega
theorem Ev.ofNew {ρ:BD} {mem:BH} {next:Nat} {w:World} (h:BF ρ mem next w) (floor:Nat) (l:BS) (o:Option BE) (ob:Obj) (hl:w.heap.size<=l.blk):
  Ev ρ (Xr ρ next l) floor mem next (Yi mem next o) (next+1) w {w with heap:=w.heap.push ob} where
 ext:=Vt h.none_next
 new b hb:=by simp [Xr,AU hb]
 nxt:=Bt _
 unborn b hb _ cs ty hm:=by grind [Zx]
 frame k o hk _:=by
  grind
 fresh b l' hb e:=by
  rw [Ww] at e;by_cases hbn:b=next
  .grind
  .rw [At hbn] at e;have:=h.dom b l' e;omega
 size:=by simp
 os:=rfl
 tape:=rfl
 output:=rfl
 still _ _:=rfl
theorem Vu {α:Type} (l c:List α) (off i:Nat) (h:off+c.length<=l.length):
  (l.take off++c++l.drop (off+c.length))[i]? =if i<off then l[i]? else if i<off+c.length then c[i - off]? else l[i]? :=by grind
theorem Ku {α:Type} (l c:List α) (off:Nat) (h:off+c.length<=l.length):(l.take off++c++l.drop (off+c.length)).length =l.length:=by grind
theorem Qx.splice {ρ:BD} {w:World} {ab:BE} {l:BS} (h:Qx ρ w ab l) {off:Nat} {cs:List BA} {vs:List Value} (cC:vs.length=cs.length) (cL:off+cs.length<=ab.cells.length)
  (hv: ∀(i:Nat) (h1:i<cs.length) (h2:i<vs.length),Zb ρ cs[i] vs[i]) (ty:TypeId) (a:Option CJ):(⟨ab.cells.take off++cs++ab.cells.drop (off+cs.length),ty,a⟩:BE).isObj =false:=by
 obtain ⟨_,_,_,_,cur,el,_,_,h3⟩:=h;refine U6 (ρ:=ρ) (fun i hi=> ?_) ty a;have hg:=Vu ab.cells cs off i cL;have hi':=hi;rw [Ku _ _ _ cL] at hi';rw [Ao hi] at hg;by_cases h1:i<off
 .rw [AB h1,Ao hi'] at hg;obtain ⟨v,_,hv⟩:=h3 i hi';exact ⟨v,by rw [Ac hg];exact hv⟩
 .rw [At h1] at hg;by_cases h2:i<off+cs.length
  .rw [AB h2,Ao (by omega)] at hg;exact ⟨_,by rw [Ac hg];exact hv (i - off) (by omega) (by omega)⟩
  .rw [At h2,Ao hi'] at hg;obtain ⟨v,_,hv⟩:=h3 i hi';exact ⟨v,by rw [Ac hg];exact hv⟩
theorem BF.write {ρ:BD} {mem:BH} {next:Nat} {w:World} (h:BF ρ mem next w) {b:Nat} {l:BS} {ab:BE} (hb:ρ b=some l) (hm:Zs mem b=some ab) {off:Nat} {cs:List BA} {vs:List Value}
  (hno:ab.isObj=false) (cC:vs.length=cs.length) (cL:off+cs.length<=ab.cells.length) (hv: ∀(i:Nat) (h1:i<cs.length) (h2:i<vs.length),Zb ρ cs[i] vs[i]):
  ∃cur el,w.heap[l.blk]? =some (.cells cur el (0,0))/\l.base+off+vs.length<=cur.size/\
   BF ρ (Yi mem b (some ⟨ab.cells.take off++cs++ab.cells.drop (off+cs.length),ab.ty,none⟩)) next (w.setRow l.blk (cur.toList.take (l.base+off)++vs++cur.toList.drop (l.base+off+vs.length)).toArray):=by
 obtain ⟨hty,hn,ht,har,cur,el,h1,h2,h3⟩:=(h.blk b l ab hb hm).at hno;have hfc:l.base+off+vs.length<=cur.toList.length:=by simp;omega
 refine ⟨cur,el,h1,by grind,h.dom,fun c c' m m' e e' he hs hs'=> ?_,fun c m ac e hc=> ?_,fun k o e=> ?_,fun c m e hs=>h.sep c m e (by
  grind [Zx]),fun c m e=> ?_,fun c hc=>by have:=h.dom b l hb;rw [Zx _ _ (by omega)];exact h.bd c hc,h.ldom⟩
 .refine h.inj c c' m m' e e' he ?_ ?_;all_goals grind [Zx]
 .by_cases hcb:c=b
  .subst hcb;rw [Zd] at hc;obtain rfl:=Ac hc;rw [hb] at e;obtain rfl:=Ac e;refine .plain ⟨by rw [setRow_heap w l.blk cur _ el (0,0) h1];grind,by grind,ht,(fun A e=>by cases e),_,el,setRow_heap w l.blk cur _ el (0,0) h1,?_,fun i hi=> ?_⟩
   .grind
   .rw [Ku _ _ _ cL] at hi;have hg:=Vu ab.cells cs off i cL;rw [Ao (by grind)] at hg;simp only [List.getElem?_toArray];rw [Vu _ _ _ _ hfc]
    grind
  .rw [Zx _ _ hcb] at hc;refine (h.blk c m ac e hc).world (BD.le_refl _) (setRow_other w l.blk m.blk _ fun heq=>hcb ?_);exact h.inj c b m l e hb heq (by rw [hc];rfl) (by rw [hm];rfl)
 .have hk:=h.old k o e;rw [setRow_other]
  .exact hk
  .intro heq;have:=h.sep b l hb (by rw [hm];rfl)
   grind
 .rw [setRow_size];exact h.real c m e
theorem Ev.ofWrite {ρ:BD} {mem:BH} {next:Nat} {w:World} (h:BF ρ mem next w) {floor b:Nat} {l:BS} (hb:ρ b=some l) (hf:floor<=b) (o:Option BE) (cs:Array Value):
  Ev ρ ρ floor mem next (Yi mem b o) next w (w.setRow l.blk cs) where
 ext:=BD.le_refl _
 new _ _:=rfl
 nxt:=Ak _
 unborn k _ e cs ty hm:=by grind [Zx]
 frame k o hk hfr:=by
  grind [setRow_other]
 fresh k m hk e:=by have:=h.dom k m e;omega
 size:=by simp_all
 os:=rfl
 tape:=rfl
 output:=rfl
 still _ _:=rfl
structure Xm (ρ:BD) (env:T BA) (n:Nat) (tmps:Array Value):Prop where
 size:tmps.size=n
 get: ∀i,Zb ρ (T.get .undef env i) (tmps.getD i undef)
 out: ∀i,n<=i->T.get .undef env i=.undef
theorem Xm.mono {ρ ρ':BD} {env:T BA} {n:Nat} {tmps:Array Value} (h:Xm ρ env n tmps) (hr:ρ.le ρ'):Xm ρ' env n tmps:=
 ⟨h.size,fun i=>(h.get i).mono hr,h.out⟩
section
variable {P:Program} {ρ:BD}
theorem Jr {t:TypeId} {r:Bool} (h:K7 P t=some r) (w:World):(isAgg t).run P w=.ok r w:=by
 unfold K7 at h;cases hu:P.underlying t with
 | none=>grind
 | some d=>cases d <;> simp [hu] at h <;> subst h <;> simp [isAgg,run_underlying hu]
theorem Zm {t:TypeId} {i:TypeInfo} (h:P.info? t=some i) (w:World):(sizeOf t).run P w=.ok i.size w:=by simp [sizeOf,run_typeInfo w h]
theorem Kn {cs p:List BA} {off n:Nat} (h:cut cs off n=some p):p=(cs.drop off).take n/\p.length=n/\(n=0\/off+n<=cs.length):=by
 unfold cut at h;dsimp only at h;cases hb:Nat.beq ((cs.drop off).take n).length n with
 | false=>grind
 | true=>
  simp only [hb,Ah,Ab] at h;have hl:=Ae hb
  grind
theorem ZG {cs p:List BA} {off n:Nat} (h:cut cs off n=some p) (i:Nat) (hi:i<p.length): ∃h2:off+i<cs.length,p[i]=cs[off+i]:=by
 obtain ⟨rfl,hl,_⟩:=Kn h
 grind
theorem Vk {t:TypeId} {cs:List BA} {vs:Array Value} {off:Nat} {v:BA} (h:Jn P t cs off=some v) (hr:Wx ρ cs vs):
  ∃u,Zb ρ v u/\ ∀w,(part t vs off).run P w=.ok u w:=by
 unfold Jn at h;split at h
 .rename_i i ha hi;simp only [Ag] at h;obtain ⟨p,hp,rfl⟩:=h;obtain ⟨_,hl,hle⟩:=Kn hp;refine ⟨.agg (vs.extract off (off+i.size)),.agg _ _ ?_ ?_,fun w=> ?_⟩
  .have:=hr.1;simp;omega
  .intro j h1 h2;obtain ⟨h3,e⟩:=ZG hp j h1;rw [e];have h4:off+j<vs.size:=by grind
   simpa using hr.2 (off+j) h3 h4
  simp_all [part,Jr,Zm]
 .rename_i i ha hi;obtain ⟨hlt,rfl⟩:=AK.1 h;have h4:off<vs.size:=by rw [<-hr.1];exact hlt
  exact ⟨vs[off],hr.2 off hlt h4,fun w=>by simp_all [part,Jr]⟩
 .cases h
theorem PQ {rec:TypeId->BA->BA->Option Bool} {dd:Nat} {e:TypeId} {c:Nat}
  (IH: ∀x y r u u',rec e x y=some r->Zb ρ x u->Zb ρ y u'-> ∀w,(Op.equalIn dd e u u').run P w=.ok r w)
  {xs ys:List BA} {us us':Array Value} (hx:Wx ρ xs us) (hy:Wx ρ ys us'): ∀(is:List Nat) (r:Bool),
  Ki rec P xs ys (is.map fun j=>(e,j*c))=some r-> ∀w,(Op.eqItems dd e c us us' is).run P w=.ok r w
 | [],r,h,w=>by simp_all [Ki,Op.eqItems]
 | i::is,r,h,w=>by
  simp only [AQ,Ki] at h;split at h
  .rename_i a b ha hb;split at h
   .rename_i e1 f1 he hf;obtain rfl:=Ac h;obtain ⟨u,hu,pu⟩:=Vk ha hx;obtain ⟨u',hu',pu'⟩:=Vk hb hy;have q:=IH _ _ _ _ _ he hu hu' w;have r:=PQ IH hx hy is f1 hf w;cases e1 <;> simp [Op.eqItems,pu,pu',q,r]
   .cases h
  .cases h
theorem PV {rec:TypeId->BA->BA->Option Bool} {dd:Nat}
  (IH: ∀e x y r u u',rec e x y=some r->Zb ρ x u->Zb ρ y u'-> ∀w,(Op.equalIn dd e u u').run P w=.ok r w)
  {xs ys:List BA} {us us':Array Value} (hx:Wx ρ xs us) (hy:Wx ρ ys us'): ∀(fs:List Field) (r:Bool),fs.any (fun f=>f.name == "_")=false->
  Ki rec P xs ys (fs.map fun f=>(f.type,f.offset))=some r-> ∀w,(Op.eqFields dd us us' fs).run P w=.ok r w
 | [],r,_,h,w=>by simp_all [Ki,Op.eqFields]
 | f::fs,r,hn,h,w=>by
  simp only [List.any_cons,Bj] at hn;simp only [AQ,Ki] at h;split at h
  .rename_i a b ha hb;split at h
   .rename_i e1 f1 he hf;obtain rfl:=Ac h;obtain ⟨u,hu,pu⟩:=Vk ha hx;obtain ⟨u',hu',pu'⟩:=Vk hb hy;have q:=IH _ _ _ _ _ _ he hu hu' w;have r:=PV IH hx hy fs f1 hn.2 hf w;have hne:f.name≠ "_" :=(by simpa using hn.1);cases e1 <;> simp [Op.eqFields,hne,pu,pu',q,r]
   .cases h
  .cases h
theorem KN (k:Nat): ∀(d:Nat) (t:TypeId) (x y:BA) (r:Bool) (u u':Value),H8 P d t x y=some r->Zb ρ x u->Zb ρ y u'-> ∀w,(Op.equalIn (k+d) t u u').run P w=.ok r w
 | 0,_,_,_,_,_,_,h,_,_,_=>by simp [H8] at h
 | d + 1,t,x,y,r,u,u',h,hx,hy,w=>by
  unfold H8 at h;cases hu:P.underlying t with
  | none=>grind
  | some ty=>
   rw [<-AF];cases ty <;> simp only [hu] at h <;> try (cases h;done)
   case bool=>
    split at h
    .cases hx;cases hy;grind [run_equalIn_bool']
    .cases h
   case int q=>
    split at h
    .split at h
     .rename_i hk;subst hk;cases hx;cases hy;grind [run_equalIn_int]
     .cases h
    .cases h
   case string=>
    split at h
    .cases hx;cases hy;grind [run_equalIn_string,ByteArray.toList_eq]
    .cases h
   case array n e=>
    split at h
    .rename_i xs ys i hi;cases hx with
     | agg _ us hl hh=>
      cases hy with
      | agg _ us' hl' hh'=>rw [run_equalIn_array w _ us us' hu hi];have hc:P.cellsOf e=i.size:=(by simp [Program.cellsOf,hi]);rw [hc];exact PQ (fun x y r u u' e1 e2 e3=>KN k d e x y r u u' e1 e2 e3) ⟨hl,hh⟩ ⟨hl',hh'⟩ _ _ h w
    .cases h
   case struct fs=>
    split at h
    .rename_i xs ys;cases hs:P.stoodInHeld t with
     | true=>grind
     | false=>
      cases hn:fs.toList.any (fun f=>f.name == "_") with
      | true=>grind
      | false=>
       rw [hs,hn] at h;simp only [Ai] at h;cases hx with
       | agg _ us hl hh=>
        cases hy with
        | agg _ us' hl' hh'=>have hfs:P.fieldsOf t=fs:=(by simp [Program.fieldsOf,hu]);rw [run_equalIn_struct w _ t us us' (by grind) hs,hfs];exact PV (fun e x y r u u' e1 e2 e3=>KN k d e x y r u u' e1 e2 e3) ⟨hl,hh⟩ ⟨hl',hh'⟩ _ _ hn h w
    .cases h
theorem Om {op:BinOp} {k:IntKind} {a b n:Int} (h:IG op k a b=some n):Op.intBits op k a b=pure (.int k n):=by
 cases op <;> simp only [IG] at h <;> first | (cases h;done) | (obtain rfl:=Ac h;rfl)
theorem TA (op:BinOp) (t:TypeId) (x y:Operand) (k k':IntKind) (a b:Int) (w:World):(eqGuard op t x y (.int k a) (.int k' b)).run P w=.ok () w:=by cases op <;> simp [eqGuard]
theorem XM {op:BinOp} {t:TypeId} {x y:BA} {v:BA} {b:Bool} {u u':Value} (h:H9 P op t x y=some (v,b)) (hb:b=true) (hx:Zb ρ x u) (hy:Zb ρ y u') (ox oy:Operand):
  ∃z,Zb ρ v z/\ ∀w,(do eqGuard op t ox oy u u';binOp op t u u':Sem Value).run P w=.ok z w:=by
 subst hb;unfold H9 at h;split at h
 .rename_i k a k' b;cases hx;cases hy;have g:=fun w=>TA (P:=P) op t ox oy k k' a b w;split at h
  .simp only [Ab,Aa,AO,Bp] at h;obtain ⟨rfl,h0⟩:=h;exact ⟨_,.int _ _,fun w=>by simp [g,binOp,Op.shift,h0]⟩
  .simp only [Ab,Aa,AO,Bp] at h;obtain ⟨rfl,h0⟩:=h;exact ⟨_,.int _ _,fun w=>by simp [g,binOp,Op.shift,h0]⟩
  .rename_i hshl hshr;split at h
   .rename_i hk;subst hk;have fin: ∀n,IG op k a b=some n-> ∃z,Zb ρ (.int k n) z/\ ∀w,(do eqGuard op t ox oy (.int k a) (.int k b);binOp op t (.int k a) (.int k b):Sem Value).run P w=.ok z w:=by
     intro n hn;have e:=Om hn;refine ⟨_,.int _ _,fun w=> ?_⟩;cases op <;> simp only [IG] at hn <;> first | (cases hn;done) | (simp [g,binOp,e];done)
    cases op <;> dsimp only at h
    case shl=>grind
    case shr=>grind
    case quo=>simp only [Ab,Aa,AO,Bp] at h;obtain ⟨rfl,h0⟩:=h;exact ⟨_,.int _ _,fun w=>by simp [g,binOp,Op.intDiv,h0]⟩
    case rem=>simp only [Ab,Aa,AO,Bp] at h;obtain ⟨rfl,h0⟩:=h;exact ⟨_,.int _ _,fun w=>by simp [g,binOp,Op.intDiv,h0]⟩
    all_goals first
     | (simp only [Ag,Aa] at h
        grind)
     | (simp only [Ab,Aa] at h
        obtain ⟨rfl,_⟩:=h;refine ⟨_,.int _ _,fun w=> ?_⟩;simp_all [binOp,Op.intArith])
     | (simp only [Ab,Aa] at h
        obtain ⟨rfl,_⟩:=h;refine ⟨_,.bool _,fun w=> ?_⟩;simp_all [binOp,Op.intCmp])
   .cases h
 .rename_i a b;cases hx;cases hy;split at h
  .rename_i hu;split at h
   .simp only [Ab,Aa] at h;obtain ⟨rfl,_⟩:=h;exact ⟨_,.bool _,fun w=>by simp_all [eqGuard,binOp,Op.equal,Op.maxDepth,run_equalIn_bool']⟩
   .simp only [Ab,Aa] at h;obtain ⟨rfl,_⟩:=h;exact ⟨_,.bool _,fun w=>by simp_all [eqGuard,binOp,Op.equal,Op.maxDepth,run_equalIn_bool']⟩
   .cases h
  .cases h
 .rename_i a b;cases hx with
  | agg _ us hl hh=>
   cases hy with
   | agg _ us' hl' hh'=>
    cases hg:P.eqGuardType P.depth t with
    | true=>grind
    | false=>
     simp only [hg,Ai] at h;split at h
     .simp only [Ag,Aa] at h;obtain ⟨r,hr,rfl,_⟩:=h;have q:=fun w=>KN 9970 30 t _ _ r _ _ hr (Zb.agg a us hl hh) (Zb.agg b us' hl' hh') w;exact ⟨_,.bool _,fun w=>by simp_all [run_eqGuard_agg,run_eql_struct]⟩
     .simp only [Ag,Aa] at h;obtain ⟨r,hr,rfl,_⟩:=h;have q:=fun w=>KN 9970 30 t _ _ r _ _ hr (Zb.agg a us hl hh) (Zb.agg b us' hl' hh') w;exact ⟨_,.bool _,fun w=>by simp_all [run_eqGuard_agg,run_neq_struct]⟩
     .cases h
 .cases hx with
  | sl _ _ _ _ l c hl hc cC=>
   cases hy;split at h
   .rename_i e hu;have q:=fun (w:World) (a:Addr) (n c:Nat)=>Lib.run_equalIn_slice_nil (P:=P) w 9999 t e (some a) n c 0 0 hu;split at h
    .simp only [Ab,Aa] at h;obtain ⟨rfl,_⟩:=h;exact ⟨_,.bool _,fun w=>by simp [eqGuard,binOp,Op.equal,Op.maxDepth,q]⟩
    .simp only [Ab,Aa] at h;obtain ⟨rfl,_⟩:=h;exact ⟨_,.bool _,fun w=>by simp [eqGuard,binOp,Op.equal,Op.maxDepth,q]⟩
    .cases h
   .cases h
 .cases hx with
  | nnl _ _ a c _=>
   cases hy;split at h
   .rename_i e hu;have q:=fun (w:World) (a:Addr) (n c:Nat)=>Lib.run_equalIn_slice_nil (P:=P) w 9999 t e (some a) n c 0 0 hu;split at h
    .simp only [Ab,Aa] at h;obtain ⟨rfl,_⟩:=h;exact ⟨_,.bool _,fun w=>by simp [eqGuard,binOp,Op.equal,Op.maxDepth,q]⟩
    .simp only [Ab,Aa] at h;obtain ⟨rfl,_⟩:=h;exact ⟨_,.bool _,fun w=>by simp [eqGuard,binOp,Op.equal,Op.maxDepth,q]⟩
    .cases h
   .cases h
 .cases hx;cases hy;split at h
  .rename_i e hu;have q:=fun w=>Lib.run_equalIn_slice_nil (P:=P) w 9999 t e none 0 0 0 0 hu;split at h
   .simp only [Ab,Aa] at h;obtain ⟨rfl,_⟩:=h;exact ⟨_,.bool _,fun w=>by simp [eqGuard,binOp,Op.equal,Op.maxDepth,q]⟩
   .simp only [Ab,Aa] at h;obtain ⟨rfl,_⟩:=h;exact ⟨_,.bool _,fun w=>by simp [eqGuard,binOp,Op.equal,Op.maxDepth,q]⟩
   .cases h
  .cases h
 .cases hx;cases hy;split at h
  case h_3=>
   rename_i a b _;simp only [Ab,Aa] at h;obtain ⟨rfl,cC⟩:=h;have cC:=Af cC;refine ⟨_,.str _,fun w=> ?_⟩;have e:(⟨(a++b).toArray⟩:ByteArray)=⟨a.toArray⟩++⟨b.toArray⟩:=by apply ByteArray.ext;rw [ByteArray.data_append];simp
   have hn: ¬(((⟨a.toArray⟩:ByteArray).size +(⟨b.toArray⟩:ByteArray).size :Nat):Int)>IntKind.i64.max:=by have:IntKind.i64.max=9223372036854775807:=(by decide);rw [this];simp only [<-ByteArray.size_data,List.size_toArray];omega
   rw [e];simp only [eqGuard,binOp,Op.stringOp,At hn];simp
  all_goals first
   | (cases h;done)
   | (simp only [Ab,Aa] at h
      obtain ⟨rfl,_⟩:=h;exact ⟨_,.bool _,fun w=>by simp_all [eqGuard,binOp,Op.stringOp]⟩)
 .cases h
theorem V2 {op:UnOp} {x v:BA} {u:Value} (h:Ns op x=some v) (hx:Zb ρ x u): ∃z,Zb ρ v z/\ ∀w,(Op.unary op u).run P w=.ok z w:=by
 unfold Ns at h;split at h
 .cases hx;obtain rfl:=Ac h;exact ⟨_,.int _ _,fun w=>by simp [Op.unary,Op.intArith]⟩
 .cases hx;simp only [Ag] at h;obtain ⟨n,hn,rfl⟩:=h;exact ⟨_,.int _ _,fun w=>by simp [Op.unary,Om hn]⟩
 .cases hx;obtain rfl:=Ac h;exact ⟨_,.bool _,fun w=>by simp [Op.unary]⟩
 .cases h
end
section
variable {P:Program} {ρ:BD}
theorem Jw (v:Value):Zb ρ (Kc v) v:=by
 cases v with
 | bool b=>exact .bool b
 | int k n=>exact .int k n
 | string s=>exact .str s.data.toList
 | pointer a=>cases a with
  | none=>exact .nilp
  | some a=>exact .undef _
 | slice a n c=>
  cases a with
  | some a=>exact .undef _
  | none=>
   cases n with
   | succ n=>exact .undef _
   | zero=>cases c with
    | zero=>exact .nils
    | succ c=>exact .undef _
 | nilFunc=>exact .nilf
 | nilIface=>exact .nili
 | _=>exact .undef _
theorem O9 (v:Value) (h: ∀cs,v≠ .agg cs):Gn v=Kc v:=by
 cases v <;> first | rfl | grind
theorem Ql (v:Value):Zb ρ (Gn v) v:=by
 by_cases h: ∃cs,v=.agg cs
 .obtain ⟨cs,rfl⟩:=h;refine .agg _ _ (by simp) fun i h1 h2=> ?_
  grind [Jw]
 grind [O9,Jw]
theorem SU (v:Value):(Kc v).cells =[Kc v]:=by unfold Kc;split <;> rfl
theorem WW (v:Value):Wx ρ (Gn v).cells v.cells:=by
 by_cases h: ∃cs,v=.agg cs
 .obtain ⟨cs,rfl⟩:=h;refine ⟨by simp [Gn,BA.cells,Value.cells],fun i h1 h2=> ?_⟩
  grind [Jw,Value.cells,Gn,BA.cells]
 .rw [O9 v fun cs e=>h ⟨cs,e⟩,SU];have hc:v.cells= #[v]:=by cases v <;> first | rfl | grind
  rw [hc];refine ⟨rfl,fun i h1 h2=> ?_⟩
  grind [Jw]
theorem Xw {t:TypeId} {z:List BA} (h:Ux P t=some z): ∃i v,P.info? t=some i/\i.zero=some v/\Wx ρ z v.cells/\ ∀w,(zeroValue t).run P w=.ok v w:=by
 unfold Ux at h;cases hi:P.info? t with
 | none=>grind
 | some i=>simp only [hi,Ag] at h;obtain ⟨v,hz,rfl⟩:=h;simp_all [WW,zeroValue,run_typeInfo]
theorem P3 (off:Nat): ∀(l:List Value) (k:Nat) (cells:Array Value),off+k+l.length<=cells.size->
  (l.zipIdx k).foldl (fun cs p=>cs.setIfInBounds (off+p.2) p.1) cells=(cells.toList.take (off+k)++l++cells.toList.drop (off+k+l.length)).toArray
 | [],k,cells,_=>by simp
 | v::l,k,cells,h=>by
  simp only [List.zipIdx_cons,List.foldl_cons];rw [P3 off l (k+1) _ (by simp at h ⊢;omega)];have e:=list_seg_step cells.toList (off+k) v l (by simp at h ⊢;omega)
  simpa [Array.toList_setIfInBounds,AF] using e
theorem Wx.splice {cells:List BA} {arr:Array Value} {c:List BA} {vs:Array Value} {off:Nat} (h:Wx ρ cells arr) (hc:Wx ρ c vs) (cL:off+c.length<=cells.length):
  Wx ρ (cells.take off++c++cells.drop (off+c.length)) (arr.toList.take off++vs.toList++arr.toList.drop (off+vs.toList.length)).toArray :=by
 have e1:=h.1;have e2:=hc.1;have f1:off+vs.toList.length<=arr.toList.length:=by simp;omega
 refine ⟨by grind,fun i h1 h2=> ?_⟩;rw [Ku _ _ _ cL] at h1;have g1:=Vu cells c off i cL;have g2:=Vu arr.toList vs.toList off i f1;rw [Ao (by grind)] at g1;rw [Ao (by grind)] at g2;rw [List.getElem_toArray];by_cases k1:i<off
 .rw [AB k1,Ao h1] at g1;rw [AB k1,Ao (by simp;omega)] at g2;rw [Ac g1,Ac g2]
  simpa using h.2 i h1 (by omega)
 .by_cases k2:i<off+c.length
  .rw [At k1,AB k2,Ao (by omega)] at g1;rw [At k1,AB (by simp;omega),Ao (by simp;omega)] at g2;rw [Ac g1,Ac g2]
   simpa using hc.2 (i - off) (by omega) (by omega)
  .rw [At k1,At k2,Ao h1] at g1;rw [At k1,At (by simp;omega),Ao (by simp;omega)] at g2;rw [Ac g1,Ac g2]
   simpa using h.2 i h1 (by omega)
def Jm (ρ:BD) (ps:List (Nat×BA)) (qs:List (Nat×Value)):Prop:=
 Xo (fun p q=>p.1=q.1/\Zb ρ p.2 q.2) ps qs
theorem Vo {place:Nat->Option (Nat×Nat)}: ∀{ps:List (Nat×BA)} {qs:List (Nat×Value)} {cells out:List BA} {arr:Array Value},Dp place cells ps=some out->
  Wx ρ cells arr->Jm ρ ps qs-> ∃arr',Instr.fill place arr qs=some arr'/\Wx ρ out arr'
 | [],_,cells,out,arr,h,hr,hp=>by cases hp;simp only [Dp,Ab] at h;subst h;exact ⟨arr,rfl,hr⟩
 | (i,v)::ps,_,cells,out,arr,h,hr,hp=>by
  cases hp with
  | @cons _ q _ qs hq hqs=>
   obtain ⟨j,u⟩:=q;obtain ⟨hij,hv⟩:=hq;simp only at hij hv;subst hij;unfold Dp at h;cases hpl:place i with
   | none=>simp [hpl] at h
   | some pl=>
    obtain ⟨off,size⟩:=pl;simp only [hpl] at h;cases hc:(Ks v&&Nat.beq v.cells.length size&&Nat.ble (off+size) cells.length) with
    | false=>rw [hc] at h;cases h
    | true=>
     rw [hc,Ah] at h;simp only [Ad] at hc;obtain ⟨⟨hb,hs⟩,hf⟩:=hc;have hs:=Ae hs;have hf:=Af hf;have cG:=hv.cells hb;have hsz:u.cells.size=size:=by rw [<-cG.1];exact hs
     have cL:off+v.cells.length<=cells.length:=(by omega);rw [<-hs] at h;obtain ⟨arr',h1,h2⟩:=Vo h (hr.splice cG cL) hqs;refine ⟨arr',?_,h2⟩;unfold Instr.fill;simp only [hpl];have hle:off+u.cells.size<=arr.size:=by rw [<-hr.1,hsz];omega
     have hz: ¬(u.cells.size≠size||decide (off+u.cells.size>arr.size))=true:=by simp [hsz];rw [hsz] at hle;exact hle
     rw [At hz];rw [<-h1]
     congr 1
     rw [<-Array.foldl_toList,Array.toList_zipIdx];have:=P3 off u.cells.toList 0 arr (by simpa using hle)
     simpa using this
theorem Qt : ∀{fs:List Field} {pl:List (Nat×Nat)},Vf P fs=some pl-> ∀w,(fs.mapM fun f=>Prod.mk f.offset<$>sizeOf f.type:Sem (List (Nat×Nat))).run P w=.ok pl w
 | [],pl,h,w=>by simp [Vf] at h;subst h;simp
 | f::fs,pl,h,w=>by
  unfold Vf at h;cases hi:P.info? f.type with
  | none=>simp [hi] at h
  | some i=>
   cases hr:Vf P fs with
   | none=>simp [hi,hr] at h
   | some l=>simp only [hi,hr,Ab] at h;subst h;have:=Qt hr w;simp [List.mapM_cons,Zm hi,this]
theorem Ty {t:TypeId} {ps:List (Nat×BA)} {qs:List (Nat×Value)} {v:BA} (h:Mm P t ps=some v) (hp:Jm ρ ps qs):
  ∃u,Zb ρ v u/\ ∀w,(Instr.build t qs.toArray).run P w=.ok u w:=by
 unfold Mm at h;split at h
 .rename_i fs zero hu hz;obtain ⟨i,z,_,_,hzr,hzv⟩:=Xw (ρ:=ρ) hz;split at h
  .rename_i pl hpl;simp only [Ag] at h;obtain ⟨cells,hc,rfl⟩:=h;obtain ⟨arr,h1,h2⟩:=Vo hc hzr hp;refine ⟨.agg arr,.agg _ _ h2.1 h2.2,fun w=> ?_⟩;have hpr:=Qt hpl w;simp [Instr.build,hzv,run_underlying hu,Array.mapM_eq_mapM_toList,hpr,h1]
  .cases h
 .rename_i n e zero hu hz;obtain ⟨i,z,_,_,hzr,hzv⟩:=Xw (ρ:=ρ) hz;split at h
  .rename_i i hi;simp only [Ag] at h;obtain ⟨cells,hc,rfl⟩:=h;obtain ⟨arr,h1,h2⟩:=Vo hc hzr hp;exact ⟨.agg arr,.agg _ _ h2.1 h2.2,fun w=>by simp_all [Instr.build,run_underlying,Zm]⟩
  .cases h
 .cases h
theorem Yf (b o n:Nat):(⟨b,o,none⟩:Addr).add n=⟨b,o+n,none⟩:=by
 grind [Addr.add]
theorem Zb.dptr_drop {cs:List BA} {blk base:Nat} {val:Nat->Value} (hv: ∀(j:Nat) (hj:j<cs.length),Zb ρ.bare cs[j] (val j)) (hh: ∀j,j<cs.length->Dn ρ.fz blk (base+j) (val j)) (k:Nat):
  Zb ρ (.dptr (cs.drop k)) (.pointer (some ⟨blk,base+k,none⟩)):=
 .dptr _ _ _ (fun j=>val (k+j)) (fun j hj=>by grind) (fun j hj=>by grind)
theorem Sa {t:TypeId} {x i v:BA} {u ui:Value} {b:Bool} (h:Ly P t x i=some (v,b)) (hb:b=true) (hx:Zb ρ x u) (hi:Zb ρ i ui):
  ∃z,Zb ρ v z/\ ∀w,(Instr.indexAt t u ui).run P w=.ok z w:=by
 subst hb;unfold Ly at h;split at h
 .rename_i len e b off k n hu;cases hi;simp only [Ag,Aa,Au] at h;obtain ⟨s,hs,rfl,hn⟩:=h;cases hx with
  | ptr _ _ l hl=>refine ⟨_,.ptr _ _ l hl,fun w=> ?_⟩;simp [Instr.indexAt,asIntOf,run_underlying hu,Instr.sureAddr,hn,Zm hs,Yf,AF]
 .rename_i len e cs k n hu;cases hi;simp only [Ag,Aa,Au] at h;obtain ⟨s,hs,rfl,hn⟩:=h;cases hx with
  | dptr _ blk base val hv hh=>refine ⟨_,Zb.dptr_drop hv hh _,fun w=> ?_⟩;simp [Instr.indexAt,asIntOf,run_underlying hu,Instr.sureAddr,hn,Zm hs,Yf]
 .rename_i e b off len cap k n hu;cases hi;simp only [Ag,Aa,Au] at h;obtain ⟨s,hs,rfl,hn⟩:=h;cases hx with
  | sl _ _ _ _ l c hl hc cC=>refine ⟨_,.ptr _ _ l hl,fun w=> ?_⟩;simp [Instr.indexAt,asIntOf,run_underlying hu,hn,Zm hs,Yf,AF]
 .rename_i e len get k n hu;cases hi;simp only [Ag,Aa,Ad,Au] at h;obtain ⟨s,hs,rfl,hn,hl⟩:=h;have hl:=Ae hl;cases hx with
  | dat _ _ blk base sz cap val cJ hsz hv hh=>
   have hlt:n.toNat<len:=by omega
   have hse:sz=s.size:=by grind
   refine ⟨_,.dptr _ blk (base+n.toNat*s.size) (val n.toNat) (fun j hj=>hv _ j hlt hj) (fun j hj=> ?_),fun w=> ?_⟩
   .grind
   .simp [Instr.indexAt,asIntOf,run_underlying hu,hn,Zm hs,Yf]
  | datn=>omega
  | datz=>omega
 .rename_i e b sz off len cap k n hu;cases hi;simp only [Ag,Aa,Ad,Au] at h;obtain ⟨s,hs,rfl,hn,hl⟩:=h;have hl:=Ae hl;cases hx with
  | sla _ _ _ _ _ l c hl' hc cC=>refine ⟨_,.epa _ _ _ _ l hl',fun w=> ?_⟩;simp [Instr.indexAt,asIntOf,run_underlying hu,hn,Zm hs,Yf,hl,AH,AF]
  | slan=>omega
 .rename_i e b sz off len k n hu;cases hi;simp only [Ag,Aa,Ad,Au] at h;obtain ⟨s,hs,rfl,hn,hl⟩:=h;have hl:=Ae hl;cases hx with
  | slv _ _ _ _ l c hl' cC=>refine ⟨_,.epa _ _ _ _ l hl',fun w=> ?_⟩;simp [Instr.indexAt,asIntOf,run_underlying hu,hn,Zm hs,Yf,hl,AH,AF]
  | slve=>omega
  | slvn=>omega
 .rename_i len e b sz r fo k n hu;cases hi;simp only [Ag,Aa,Au] at h;obtain ⟨s,hs,rfl,hn⟩:=h;cases hx with
  | epa _ _ _ _ l hl=>refine ⟨_,.epa _ _ _ _ l hl,fun w=> ?_⟩;simp [Instr.indexAt,asIntOf,run_underlying hu,Instr.sureAddr,hn,Zm hs,Yf,AF]
 .cases h
theorem S9 {t:TypeId} {x v:BA} {f:Nat} {u:Value} (h:Lx P t x f=some v) (hx:Zb ρ x u):
  ∃z,Zb ρ v z/\ ∀w,(Instr.fieldAt t u f).run P w=.ok z w:=by
 unfold Lx at h;split at h
 .rename_i fs hu;split at h
  .rename_i fd hf;split at h
   .rename_i i hi;cases hz:Nat.beq i.size 0 with
    | true=>grind
    | false=>
     rw [hz,Ai] at h;have hne:i.size≠0:=fun e=>by simp_all
     split at h
     .obtain rfl:=Ac h;cases hx with
      | ptr _ _ l hl=>exact ⟨_,.ptr _ _ l hl,fun w=>by simp_all [Instr.fieldAt,run_underlying,Instr.sureAddr,fieldPlace,Zm,Yf]⟩
     .obtain rfl:=Ac h;cases hx with
      | dptr _ blk base val hv hh=>exact ⟨_,Zb.dptr_drop hv hh _,fun w=>by simp_all [Instr.fieldAt,run_underlying,Instr.sureAddr,fieldPlace,Zm,Yf]⟩
     .obtain rfl:=Ac h;cases hx with
      | epa _ _ _ _ l hl=>exact ⟨_,.epa _ _ _ _ l hl,fun w=>by simp_all [Instr.fieldAt,run_underlying,Instr.sureAddr,fieldPlace,Zm,Yf]⟩
     .cases h
   .cases h
  .cases h
 .cases h
theorem UB {t:TypeId} {x v:BA} {f:Nat} {u:Value} (h:Mn P t x f=some v) (hx:Zb ρ x u):
  ∃z,Zb ρ v z/\ ∀w,(Instr.field t u f).run P w=.ok z w:=by
 unfold Mn at h;split at h
 .rename_i fs cs hu;split at h
  .rename_i fd hf;cases hx with
   | agg _ vs hl hh=>obtain ⟨z,hz,hr⟩:=Vk h ⟨hl,hh⟩;simp_all [Instr.field,run_underlying,asAgg]
  .cases h
 .cases h
theorem UC {t:TypeId} {x i v:BA} {u ui:Value} {b:Bool} (h:Mo P t x i=some (v,b)) (hb:b=true) (hx:Zb ρ x u) (hi:Zb ρ i ui):
  ∃z,Zb ρ v z/\ ∀w,(Instr.index t u ui).run P w=.ok z w:=by
 subst hb;unfold Mo at h;split at h
 .rename_i len e cs k n hu;cases hi;split at h
  .rename_i s hs;simp only [Ag,Aa,Au] at h;obtain ⟨v,hp,rfl,hn⟩:=h;cases hx with
   | agg _ vs hl hh=>obtain ⟨z,hz,hr⟩:=Vk hp ⟨hl,hh⟩;simp_all [Instr.index,asIntOf,run_underlying,Zm]
  .cases h
 .rename_i s k n hu;cases hi;cases hx;simp only [Ab,Aa,Au] at h;obtain ⟨rfl,hn⟩:=h;refine ⟨_,.int _ _,fun w=> ?_⟩;have hlt:n.toNat<s.length:=by omega
  have hn0:=hn.1;have e:(⟨s.toArray⟩:ByteArray)[n.toNat]? =some s[n.toNat]:=by rw [getElem?_pos _ _ (by simpa [ByteArray.size] using hlt)];simp [ByteArray.getElem_eq_getElem_data]
  have e2:JU s n.toNat=(s[n.toNat].toNat :Int):=by unfold JU;rw [Bh,Ao hlt];rfl
  simp_all [Instr.index,asIntOf,run_underlying]
 .cases h
theorem PC {k:IntKind}: ∀{r:List BA} {x n:Int} {us:List Value},IX k x r=some n->Xo (Zb ρ) r us-> ∀w,(us.foldlM Builtin.min2 (.int k x)).run P w=.ok (.int k n) w
 | [],x,n,_,h,hr,w=>by cases hr;simp [IX] at h;subst h;simp
 | a::r,x,n,_,h,hr,w=>by
  cases hr with
  | cons ha hrs=>
   cases a <;> simp only [IX,Cp] at h <;> try (cases h;done)
   cases ha;have:=PC h hrs w;simp [List.foldlM_cons,Builtin.min2,this]
theorem PB {k:IntKind}: ∀{r:List BA} {x n:Int} {us:List Value},IW k x r=some n->Xo (Zb ρ) r us-> ∀w,(us.foldlM Builtin.max2 (.int k x)).run P w=.ok (.int k n) w
 | [],x,n,_,h,hr,w=>by cases hr;simp [IW] at h;subst h;simp
 | a::r,x,n,_,h,hr,w=>by
  cases hr with
  | cons ha hrs=>
   cases a <;> simp only [IW,Co] at h <;> try (cases h;done)
   cases ha;have:=PB h hrs w;simp [List.foldlM_cons,Builtin.max2,this]
theorem ST {bi:Builtin} {ts:Array TypeId} {type:TypeId} {xs:List BA} {us:Array Value} {v:BA} (h:J5 P bi ts.toList xs=some v) (hx:Xo (Zb ρ) xs us.toList):
  ∃z,Zb ρ v z/\ ∀(cst:Array Bool) (w:World),(builtin bi ts type cst us).run P w=.ok (.value z) w:=by
 obtain ⟨ts⟩:=ts;obtain ⟨us⟩:=us;simp only at h hx;unfold J5 at h;split at h
 .rename_i t _ x _;cases hx with
  | cons ha _=>
   split at h
   .rename_i hu;cases ha;obtain rfl:=Ac h;exact ⟨_,.int _ _,fun cst w=>by simp [builtin,Builtin.len_,run_underlying hu,goInt,<-ByteArray.size_data]⟩
   .rename_i hu;obtain rfl:=Ac h;exact ⟨_,.int _ _,fun cst w=>by simp [builtin,Builtin.len_,run_underlying hu,goInt]⟩
   all_goals first
    | (rename_i hu
       obtain rfl:=Ac h;cases ha <;> exact ⟨_,.int _ _,fun cst w=>by simp [builtin,Builtin.len_,run_underlying hu,goInt]⟩)
    | grind
 .rename_i k x r;cases hx with
  | cons ha hr=>cases ha;simp only [Ag] at h;obtain ⟨n,hn,rfl⟩:=h;have:=PC (P:=P) hn hr;exact ⟨_,.int _ _,fun cst w=>by simp [builtin,Builtin.min_,this]⟩
 .rename_i k x r;cases hx with
  | cons ha hr=>cases ha;simp only [Ag] at h;obtain ⟨n,hn,rfl⟩:=h;have:=PB (P:=P) hn hr;exact ⟨_,.int _ _,fun cst w=>by simp [builtin,Builtin.max_,this]⟩
 .rename_i t _ x _;cases hx with
  | cons ha _=>
   split at h
   .rename_i hu;obtain rfl:=Ac h;cases ha with
    | sl _ _ _ _ l c hl hc cC=>simp only [Us] at hc;subst hc;exact ⟨_,.int _ _,fun cst w=>by simp [builtin,Builtin.cap_,run_underlying hu,goInt]⟩
   .rename_i hu;obtain rfl:=Ac h;cases ha;exact ⟨_,.int _ _,fun cst w=>by simp [builtin,Builtin.cap_,run_underlying hu,goInt]⟩
   .cases h
 .cases h
end
section
variable {P:Program} {ρ:BD}
theorem Zo (isSlice:Bool) (len cap m h l:Nat) (low high max:Option Value) (hm:(max=none/\m=cap)\/(∃k,max=some (.int k m)/\m<=cap))
  (hh:(high=none/\max=none/\h=len)\/(∃k,high=some (.int k h)/\h<=m)) (hl:(low=none/\l=0)\/ ∃k,low=some (.int k l)/\l<=h) (w:World):
  (Instr.sliceBounds isSlice len cap low high max).run P w=.ok (l,h,m) w:=by
 have nn: ∀n:Nat,(0:Int)<=n:=fun n=>Int.natCast_nonneg n;rcases hm with ⟨rfl,rfl⟩ | ⟨km,rfl,hm⟩
 .rcases hh with ⟨rfl,_,rfl⟩ | ⟨kh,rfl,hh⟩
  .rcases hl with ⟨rfl,rfl⟩ | ⟨kl,rfl,hl⟩;all_goals simp_all [Instr.sliceBounds,Instr.sliceBound,asIntOf]
  .rcases hl with ⟨rfl,rfl⟩ | ⟨kl,rfl,hl⟩;all_goals simp_all [Instr.sliceBounds,Instr.sliceBound,asIntOf]
 .rcases hh with ⟨rfl,e,_⟩ | ⟨kh,rfl,hh⟩
  .cases e
  .rcases hl with ⟨rfl,rfl⟩ | ⟨kl,rfl,hl⟩;all_goals simp_all [Instr.sliceBounds,Instr.sliceBound,asIntOf]
theorem Yz {ev:Operand->BA} {ec:Operand->Value} {o:Option Operand} {d n:Nat} {b:Bool} (h:Jc ev o d=some (n,b)) (hb:b=true) (hr: ∀x,o=some x->Zb ρ (ev x) (ec x)):
  (o=none/\n=d)\/ ∃k,o.map ec=some (.int k n):=by
 subst hb;unfold Jc at h;cases o with
 | none=>grind
 | some x=>
  right;have hx:=hr x rfl;simp only at h;split at h
  .rename_i k i e;simp only [Ab,Aa,Au] at h;obtain ⟨rfl,h0⟩:=h;rw [e] at hx;refine ⟨k,?_⟩;simp only [Br];rw [show ((i.toNat:Nat):Int)=i by omega];generalize ec x=u at hx ⊢;cases hx;rfl
  .cases h
theorem M8 (c:Bool) (b o off k:Nat) (m l:Nat) (_:Nat.beq m l=c):(if m=l then some (⟨b,o+off,none⟩:Addr) else some ((⟨b,o+off,none⟩:Addr).add k))=some ⟨b,o+(bif Nat.beq m l then off else off+k),none⟩:=by
 by_cases h:m=l
 .simp_all
 .rw [At h,show Nat.beq m l=false from AT.2 fun e=>h (Ae e),Yf,AF];rfl
theorem UD {ev:Operand->BA} {ec:Operand->Value} {t:TypeId} {x:Operand} {lo hi mx:Option Operand} {v:BA} {b:Bool} (h:Mq P ev t x lo hi mx=some (v,b)) (hb:b=true)
  (hx:Zb ρ (ev x) (ec x)) (hlo: ∀y,lo=some y->Zb ρ (ev y) (ec y)) (hhi: ∀y,hi=some y->Zb ρ (ev y) (ec y)) (hmx: ∀y,mx=some y->Zb ρ (ev y) (ec y)):
  ∃z,Zb ρ v z/\ ∀w,(Instr.sliceAt t (ec x) (lo.map ec) (hi.map ec) (mx.map ec)).run P w=.ok z w:=by
 subst hb;unfold Mq at h;split at h
 .rename_i e hu hev;rw [hev] at hx;split at h
  .rename_i s l a hh b hs hl hh';simp only [Ab,Aa,Ad] at h;obtain ⟨rfl,⟨⟨ha,hb⟩,h1⟩,h2⟩:=h;have e1:=Ae h1;have e2:=Ae h2;subst e1;subst e2;have q1:=Yz hl ha hlo;have q2:=Yz hh' hb hhi;generalize hw:ec x=u at hx;cases hx;refine ⟨_,.nils,fun w=> ?_⟩;have sb:=Zo (P:=P) true 0 0 0 0 0 (lo.map ec) (hi.map ec) none (.inl ⟨rfl,rfl⟩)
    (q2.elim (fun q=>.inl ⟨by rw [q.1];rfl,rfl,rfl⟩) (fun ⟨k,q⟩=>.inr ⟨k,q,Ak _⟩)) (q1.elim (fun q=>.inl ⟨by rw [q.1];rfl,rfl⟩) (fun ⟨k,q⟩=>.inr ⟨k,q,Ak _⟩))
   simp_all [Instr.sliceAt,Instr.slice,run_underlying,Zm]
  .cases h
 .rename_i e b off len c hu hev;rw [hev] at hx;split at h
  .rename_i s m x1 hh x2 l x3 hs hm hhi' hl;split at h
   .cases h
   .rename_i hno;simp only [Ab,Aa,Ad] at h;obtain ⟨rfl,⟨⟨⟨⟨h1,h2⟩,h3⟩,h4⟩,h5⟩,h6⟩:=h;have h4:=Af h4;have h5:=Af h5;have h6:=Af h6;have q0:=Yz hm h1 hmx;have q1:=Yz hl h3 hlo;have q2:=Yz hhi' h2 hhi;generalize hw:ec x=u at hx;cases hx with
    | sl _ _ _ _ lc c' hρ hc _=>
     simp only [Us] at hc;subst hc;refine ⟨_,.sl _ _ _ _ lc _ hρ rfl (by omega),fun w=> ?_⟩;have sb:=Zo (P:=P) true len c' m hh l (lo.map ec) (hi.map ec) (mx.map ec) (q0.elim (fun q=>.inl ⟨by rw [q.1];rfl,q.2⟩) (fun ⟨k,q⟩=>.inr ⟨k,q,h4⟩))
      (q2.elim (fun q=>.inl ⟨by rw [q.1];rfl,by
       simp_all,q.2⟩) (fun ⟨k,q⟩=>.inr ⟨k,q,h5⟩)) (q1.elim (fun q=>.inl ⟨by rw [q.1];rfl,q.2⟩) (fun ⟨k,q⟩=>.inr ⟨k,q,h6⟩)) w
     simp [Instr.sliceAt,Instr.slice,run_underlying hu,sb,Zm hs];exact M8 _ _ _ _ _ _ _ rfl
  .cases h
 .rename_i e b off len zz hu hev;rw [hev] at hx;split at h
  .rename_i s hh x2 l x3 hs hhi' hl;cases hz:Nat.beq zz s.size with
   | false=>grind
   | true=>
    rw [hz,Ah] at h;have hz:=Ae hz;rcases (by cases hlo':(Nat.beq hh l&&Nat.ble 1 l) with
      | true=>rw [hlo',Ah] at h;exact .inl ⟨rfl,h⟩
      | false=>rw [hlo',Ai] at h;exact .inr h:((Nat.beq hh l&&Nat.ble 1 l)=true/\some _=some _)\/(some _=some _)) with ⟨hq,h⟩ | h
    .simp only [Ab,Aa,Ad] at h hq;obtain ⟨rfl,⟨h2,h3⟩,h5⟩:=h;obtain rfl:=Ae hq.1;have h5:=Af h5;have q1:=Yz hl h3 hlo;have q2:=Yz hhi' h2 hhi;generalize hw:ec x=u at hx;cases hx with
     | sl _ _ _ _ lc c hρ hc cC=>
      have sb:=Zo (P:=P) true len c c hh hh (lo.map ec) (hi.map ec) none (.inl ⟨rfl,rfl⟩)
       (q2.elim (fun q=>.inl ⟨by rw [q.1];rfl,rfl,q.2⟩) (fun ⟨k,q⟩=>.inr ⟨k,q,by omega⟩)) (q1.elim (fun q=>.inl ⟨by rw [q.1];rfl,q.2⟩) (fun ⟨k,q⟩=>.inr ⟨k,q,Ak _⟩))
      have e0: ∀(base:Nat),Zb ρ (.dat 0 fun _=>[]) (.slice (some ⟨lc.blk,base,none⟩) 0 (c - hh)):=fun base=>
       .dat 0 _ lc.blk base 0 (c - hh) (fun _ _=>undef) (AD _) (fun i hi=>absurd hi (AC _)) (fun i j hi=>absurd hi (AC _)) (fun i j hi=>absurd hi (AC _))
      by_cases hcl:c=hh
      .subst hcl;refine ⟨_,e0 (lc.base+off),fun w=> ?_⟩;simp [Instr.sliceAt,Instr.slice,run_underlying hu,sb,Zm hs]
      .refine ⟨_,e0 (lc.base+off+hh*s.size),fun w=> ?_⟩;simp [Instr.sliceAt,Instr.slice,run_underlying hu,sb,Zm hs,At hcl,Yf]
    simp only [Ab,Aa,Ad,A9] at h;obtain ⟨rfl,⟨⟨⟨h2,h3⟩,h5⟩,h6⟩,h7⟩:=h;have h5:=Af h5;have h6:=Af h6;have q1:=Yz hl h3 hlo;have q2:=Yz hhi' h2 hhi;generalize hw:ec x=u at hx;cases hx with
    | sl _ _ _ _ lc c hρ hc cC=>
     simp only [Us] at hc;have hlc:l<=c:=(by omega);have hmul:l*s.size+(c - l)*zz=c*zz:=by rw [hz,<-AH];grind
     refine ⟨.slice (some ⟨lc.blk,lc.base+(off+l*s.size),none⟩) (hh - l) (c - l),.sl _ _ _ _ lc _ hρ ?_ (by omega),fun w=> ?_⟩
     .simp only [Us];omega
     .have sb:=Zo (P:=P) true len c c hh l (lo.map ec) (hi.map ec) none (.inl ⟨rfl,rfl⟩)
       (q2.elim (fun q=>.inl ⟨by rw [q.1];rfl,rfl,q.2⟩) (fun ⟨k,q⟩=>.inr ⟨k,q,by omega⟩)) (q1.elim (fun q=>.inl ⟨by rw [q.1];rfl,q.2⟩) (fun ⟨k,q⟩=>.inr ⟨k,q,h6⟩)) w
      simp [Instr.sliceAt,Instr.slice,run_underlying hu,sb,Zm hs];by_cases hcl:c=l
      .rw [AB hcl];rcases h7 with h7 | h7
       .have:=Af h7;omega
       simp_all
      grind [Yf]
  .rename_i s y hh x2 l x3 hs hhi' hl;split at h
   .rename_i m x1 hm;cases hz:(Nat.beq zz s.size&&hi.isSome) with
    | false=>grind
    | true=>
     rw [hz,Ah] at h;simp only [Ab,Aa,Ad] at h hz;obtain ⟨rfl,⟨⟨⟨⟨h1,h2⟩,h3⟩,h4⟩,h5⟩,h6⟩:=h;have h4:=Af h4;have h5:=Af h5;have h6:=Af h6;have q0:=Yz hm h1 hmx;have q1:=Yz hl h3 hlo;have q2:=Yz hhi' h2 hhi;generalize hw:ec x=u at hx;cases hx with
     | sl _ _ _ _ lc c hρ _ cC=>
      refine ⟨_,.sl _ _ _ _ lc _ hρ rfl (by omega),fun w=> ?_⟩;have sb:=Zo (P:=P) true len c m hh l (lo.map ec) (hi.map ec) ((some y).map ec) (q0.elim (fun q=>by cases q.1) (fun ⟨k,q⟩=>.inr ⟨k,q,by omega⟩))
       (q2.elim (fun q=>by grind) (fun ⟨k,q⟩=>.inr ⟨k,q,h5⟩)) (q1.elim (fun q=>.inl ⟨by rw [q.1];rfl,q.2⟩) (fun ⟨k,q⟩=>.inr ⟨k,q,h6⟩)) w
      simp only [Br] at sb;simp [Instr.sliceAt,Instr.slice,run_underlying hu,sb,Zm hs];exact M8 _ _ _ _ _ _ _ rfl
   .cases h
  .cases h
 .rename_i e b sz off len zz hu hev;rw [hev] at hx;split at h
  .rename_i s hh x2 l x3 hs hhi' hl;cases hz:(Nat.beq zz s.size&&Nat.beq sz zz) with
   | false=>grind
   | true=>
    rw [hz,Ah] at h;simp only [Ad] at hz;have hz1:=Ae hz.1;obtain rfl:=Ae hz.2;subst hz1;rcases (by cases hlo':lo.isSome with
      | true=>rw [hlo',Ah] at h;exact .inl h
      | false=>rw [hlo',Ai] at h;exact .inr h:(some _=some _)\/(some _=some _)) with h | h
    .simp only [Ab,Aa,Ad,Au] at h;obtain ⟨rfl,h2,h3,h5,h6⟩:=h;have q1:=Yz hl h3 hlo;have q2:=Yz hhi' h2 hhi;generalize hw:ec x=u at hx;cases hx with
     | sla _ _ _ _ _ lc c hρ hc cC=>
      have hlc:l<=c:=(by omega);have sb:=Zo (P:=P) true len c c hh l (lo.map ec) (hi.map ec) none (.inl ⟨rfl,rfl⟩)
       (q2.elim (fun q=>.inl ⟨by rw [q.1];rfl,rfl,q.2⟩) (fun ⟨k,q⟩=>.inr ⟨k,q,by omega⟩)) (q1.elim (fun q=>.inl ⟨by rw [q.1];rfl,q.2⟩) (fun ⟨k,q⟩=>.inr ⟨k,q,h6⟩))
      by_cases hcl:c=l
      .subst hcl;have e0:hh - c=0:=(by omega);rw [e0];refine ⟨_,.slve _ _ _ lc.blk (lc.base+off*s.size) (c - c),fun w=> ?_⟩;simp [Instr.sliceAt,Instr.slice,run_underlying hu,sb,Zm hs,e0]
      .refine ⟨_,.slv _ _ _ _ lc (c - l) hρ (by omega),fun w=> ?_⟩;simp [Instr.sliceAt,Instr.slice,run_underlying hu,sb,Zm hs,At hcl,Yf,AH,AF]
     | slan=>
      obtain rfl:hh=0:=by omega
      obtain rfl:l=0:=by omega
      refine ⟨_,.slvn _ _ _,fun w=> ?_⟩;have sb:=Zo (P:=P) true 0 0 0 0 0 (lo.map ec) (hi.map ec) none (.inl ⟨rfl,rfl⟩)
       (q2.elim (fun q=>.inl ⟨by rw [q.1];rfl,rfl,rfl⟩) (fun ⟨k,q⟩=>.inr ⟨k,q,Ak _⟩)) (q1.elim (fun q=>.inl ⟨by rw [q.1];rfl,rfl⟩) (fun ⟨k,q⟩=>.inr ⟨k,q,Ak _⟩))
      simp_all [Instr.sliceAt,Instr.slice,run_underlying,Zm]
    simp only [Ab,Aa,Ad,A9,Au] at h;obtain ⟨rfl,h2,h3,h5,h6,h7⟩:=h;have q1:=Yz hl h3 hlo;have q2:=Yz hhi' h2 hhi;generalize hw:ec x=u at hx;cases hx with
    | sla _ _ _ _ _ lc c hρ hc cC=>
     simp only [Us] at hc;have hlc:l<=c:=(by omega);have hmul:l*s.size+(c - l)*s.size=c*s.size:=by rw [<-AH];grind
     have hmul2:(off+l)*s.size=off*s.size+l*s.size:=AH _ _ _;refine ⟨.slice (some ⟨lc.blk,lc.base+(off+l)*s.size,none⟩) (hh - l) (c - l),.sla _ _ _ _ _ lc _ hρ ?_ (by omega),fun w=> ?_⟩
     .simp only [Us];omega
     .have sb:=Zo (P:=P) true len c c hh l (lo.map ec) (hi.map ec) none (.inl ⟨rfl,rfl⟩)
       (q2.elim (fun q=>.inl ⟨by rw [q.1];rfl,rfl,q.2⟩) (fun ⟨k,q⟩=>.inr ⟨k,q,by omega⟩)) (q1.elim (fun q=>.inl ⟨by rw [q.1];rfl,q.2⟩) (fun ⟨k,q⟩=>.inr ⟨k,q,h6⟩)) w
      simp [Instr.sliceAt,Instr.slice,run_underlying hu,sb,Zm hs];by_cases hcl:c=l
      .rw [AB hcl];rcases h7 with h7 | h7
       .omega
       simp_all
      grind [Yf]
    | slan=>
     obtain rfl:hh=0:=by omega
     obtain rfl:l=0:=by omega
     refine ⟨_,.slan _ _ _ _,fun w=> ?_⟩;have sb:=Zo (P:=P) true 0 0 0 0 0 (lo.map ec) (hi.map ec) none (.inl ⟨rfl,rfl⟩)
      (q2.elim (fun q=>.inl ⟨by rw [q.1];rfl,rfl,rfl⟩) (fun ⟨k,q⟩=>.inr ⟨k,q,Ak _⟩)) (q1.elim (fun q=>.inl ⟨by rw [q.1];rfl,rfl⟩) (fun ⟨k,q⟩=>.inr ⟨k,q,Ak _⟩))
     simp_all [Instr.sliceAt,Instr.slice,run_underlying,Zm]
  .cases h
 .rename_i e b sz off len hu hev;rw [hev] at hx;split at h
  .rename_i s hh x2 l x3 hs hhi' hl;cases hz:Nat.beq sz s.size with
   | false=>grind
   | true=>
    rw [hz,Ah] at h;obtain rfl:=Ae hz;simp only [Ab,Aa,Ad,Au] at h;obtain ⟨rfl,h2,h3,h5,h6⟩:=h;have q1:=Yz hl h3 hlo;have q2:=Yz hhi' h2 hhi;generalize hw:ec x=u at hx;cases hx with
    | slv _ _ _ _ lc c hρ cC=>
     have hlc:l<=c:=(by omega);have sb:=Zo (P:=P) true len c c hh l (lo.map ec) (hi.map ec) none (.inl ⟨rfl,rfl⟩)
      (q2.elim (fun q=>.inl ⟨by rw [q.1];rfl,rfl,q.2⟩) (fun ⟨k,q⟩=>.inr ⟨k,q,by omega⟩)) (q1.elim (fun q=>.inl ⟨by rw [q.1];rfl,q.2⟩) (fun ⟨k,q⟩=>.inr ⟨k,q,h6⟩))
     by_cases hcl:c=l
     .subst hcl;have e0:hh - c=0:=(by omega);rw [e0];refine ⟨_,.slve _ _ _ lc.blk (lc.base+off*s.size) (c - c),fun w=> ?_⟩;simp [Instr.sliceAt,Instr.slice,run_underlying hu,sb,Zm hs,e0]
     .refine ⟨_,.slv _ _ _ _ lc (c - l) hρ (by omega),fun w=> ?_⟩;simp [Instr.sliceAt,Instr.slice,run_underlying hu,sb,Zm hs,At hcl,Yf,AH,AF]
    | slve _ _ _ blk base c=>
     obtain rfl:hh=0:=by omega
     obtain rfl:l=0:=by omega
     have sb:=Zo (P:=P) true 0 c c 0 0 (lo.map ec) (hi.map ec) none (.inl ⟨rfl,rfl⟩)
      (q2.elim (fun q=>.inl ⟨by rw [q.1];rfl,rfl,rfl⟩) (fun ⟨k,q⟩=>.inr ⟨k,q,AD _⟩)) (q1.elim (fun q=>.inl ⟨by rw [q.1];rfl,rfl⟩) (fun ⟨k,q⟩=>.inr ⟨k,q,Ak _⟩))
     refine ⟨_,.slve _ _ _ blk base c,fun w=> ?_⟩;simp_all [Instr.sliceAt,Instr.slice,run_underlying,Zm,Yf]
    | slvn=>
     obtain rfl:hh=0:=by omega
     obtain rfl:l=0:=by omega
     refine ⟨_,.slvn _ _ _,fun w=> ?_⟩;have sb:=Zo (P:=P) true 0 0 0 0 0 (lo.map ec) (hi.map ec) none (.inl ⟨rfl,rfl⟩)
      (q2.elim (fun q=>.inl ⟨by rw [q.1];rfl,rfl,rfl⟩) (fun ⟨k,q⟩=>.inr ⟨k,q,Ak _⟩)) (q1.elim (fun q=>.inl ⟨by rw [q.1];rfl,rfl⟩) (fun ⟨k,q⟩=>.inr ⟨k,q,Ak _⟩))
     simp_all [Instr.sliceAt,Instr.slice,run_underlying,Zm]
  .cases h
 .rename_i e len get hu hev;rw [hev] at hx;split at h
  .rename_i s hh x2 l x3 hs hhi' hl;simp only [Ab,Aa,Ad,Au] at h;obtain ⟨rfl,h2,h3,h5,h6,h7⟩:=h;have h7:=w5h h7;have q1:=Yz hl h3 hlo;have q2:=Yz hhi' h2 hhi;generalize hw:ec x=u at hx;cases hx with
   | dat _ _ blk base sz c val cJ hsz hv hh'=>
    have hlc:l<=c:=(by omega);have sb:=Zo (P:=P) true len c c hh l (lo.map ec) (hi.map ec) none (.inl ⟨rfl,rfl⟩)
     (q2.elim (fun q=>.inl ⟨by rw [q.1];rfl,rfl,q.2⟩) (fun ⟨k,q⟩=>.inr ⟨k,q,by omega⟩)) (q1.elim (fun q=>.inl ⟨by rw [q.1];rfl,q.2⟩) (fun ⟨k,q⟩=>.inr ⟨k,q,h6⟩))
    by_cases hcl:c=l
    .subst hcl;have e0:hh - c=0:=(by omega);rw [e0];refine ⟨_,.dat 0 _ blk base s.size (c - c) (fun _ _=>undef) (AD _) (fun i hi=>absurd hi (AC _)) (fun i j hi=>absurd hi (AC _)) (fun i j hi=>absurd hi (AC _)),fun w=> ?_⟩;simp [Instr.sliceAt,Instr.slice,run_underlying hu,sb,Zm hs,e0]
    .refine ⟨_,.dat (hh - l) (fun k=>get (l+k)) blk (base+l*s.size) s.size (c - l) (fun k=>val (l+k)) (by omega) (fun i hi=>h7 _ (by omega)) (fun i j hi hj=>hv _ j (by omega) hj) (fun i j hi hj=> ?_),fun w=> ?_⟩
     .grind
     .simp [Instr.sliceAt,Instr.slice,run_underlying hu,sb,Zm hs,At hcl,Yf]
   | datn=>
    obtain rfl:hh=0:=by omega
    obtain rfl:l=0:=by omega
    refine ⟨_,.datn _,fun w=> ?_⟩;have sb:=Zo (P:=P) true 0 0 0 0 0 (lo.map ec) (hi.map ec) none (.inl ⟨rfl,rfl⟩)
     (q2.elim (fun q=>.inl ⟨by rw [q.1];rfl,rfl,rfl⟩) (fun ⟨k,q⟩=>.inr ⟨k,q,Ak _⟩)) (q1.elim (fun q=>.inl ⟨by rw [q.1];rfl,rfl⟩) (fun ⟨k,q⟩=>.inr ⟨k,q,Ak _⟩))
    simp_all [Instr.sliceAt,Instr.slice,run_underlying,Zm]
   | datz _ a c=>
    obtain rfl:hh=0:=by omega
    obtain rfl:l=0:=by omega
    have sb:=Zo (P:=P) true 0 c c 0 0 (lo.map ec) (hi.map ec) none (.inl ⟨rfl,rfl⟩)
     (q2.elim (fun q=>.inl ⟨by rw [q.1];rfl,rfl,rfl⟩) (fun ⟨k,q⟩=>.inr ⟨k,q,AD _⟩)) (q1.elim (fun q=>.inl ⟨by rw [q.1];rfl,rfl⟩) (fun ⟨k,q⟩=>.inr ⟨k,q,Ak _⟩))
    by_cases hc0:c=0
    .subst hc0;refine ⟨_,.datz _ a 0,fun w=> ?_⟩;simp_all [Instr.sliceAt,Instr.slice,run_underlying,Zm]
    .refine ⟨_,.datz _ (a.add (0*s.size)) c,fun w=> ?_⟩;simp_all [Instr.sliceAt,Instr.slice,run_underlying,Zm]
  .cases h
 .rename_i n e b off hu hev;rw [hev] at hx;split at h
  .rename_i s m x1 hh x2 l x3 hs hm hhi' hl;split at h
   .cases h
   .rename_i hno;simp only [Ab,Aa,Ad] at h;obtain ⟨rfl,⟨⟨⟨⟨h1,h2⟩,h3⟩,h4⟩,h5⟩,h6⟩:=h;have h4:=Af h4;have h5:=Af h5;have h6:=Af h6;have q0:=Yz hm h1 hmx;have q1:=Yz hl h3 hlo;have q2:=Yz hhi' h2 hhi;generalize hw:ec x=u at hx;cases hx with
    | ptr _ _ lc hρ=>
     refine ⟨_,.sl _ _ _ _ lc _ hρ rfl (by omega),fun w=> ?_⟩;have sb:=Zo (P:=P) false n n m hh l (lo.map ec) (hi.map ec) (mx.map ec) (q0.elim (fun q=>.inl ⟨by rw [q.1];rfl,q.2⟩) (fun ⟨k,q⟩=>.inr ⟨k,q,h4⟩))
      (q2.elim (fun q=>.inl ⟨by rw [q.1];rfl,by
       simp_all,q.2⟩) (fun ⟨k,q⟩=>.inr ⟨k,q,h5⟩)) (q1.elim (fun q=>.inl ⟨by rw [q.1];rfl,q.2⟩) (fun ⟨k,q⟩=>.inr ⟨k,q,h6⟩)) w
     have bb:=M8 _ lc.blk lc.base off (l*s.size) m l rfl;simp [Instr.sliceAt,run_underlying hu,Instr.sureAddr,sb,Zm hs]
     grind
  .cases h
 .rename_i s hu hev;rw [hev] at hx;split at h
  .rename_i hh x2 l x3 hh' hl;simp only [Ab,Aa,Ad,Au] at h;obtain ⟨rfl,a2,a3,h5,h6⟩:=h;have q1:=Yz hl a3 hlo;have q2:=Yz hh' a2 hhi;generalize hw:ec x=u at hx;cases hx;refine ⟨_,.str _,fun w=> ?_⟩;have hsz:(⟨s.toArray⟩:ByteArray).size =s.length:=by simp [<-ByteArray.size_data]
   have sb:=Zo (P:=P) false s.length s.length s.length hh l (lo.map ec) (hi.map ec) none (.inl ⟨rfl,rfl⟩)
    (q2.elim (fun q=>.inl ⟨by rw [q.1];rfl,rfl,q.2⟩) (fun ⟨k,q⟩=>.inr ⟨k,q,h5⟩)) (q1.elim (fun q=>.inl ⟨by rw [q.1];rfl,q.2⟩) (fun ⟨k,q⟩=>.inr ⟨k,q,h6⟩)) w
   have e:(⟨((s.drop l).take (hh - l)).toArray⟩:ByteArray)=(⟨s.toArray⟩:ByteArray).extract l hh:=by apply ByteArray.ext;rw [ByteArray.data_extract];simp [List.extract_eq_take_drop]
   rw [e];simp [Instr.sliceAt,Instr.slice,run_underlying hu,hsz,sb]
  .cases h
 .cases h
def Vb (ρ:BD) (ev:Operand->BA) (ec:Operand->Value) (op:Op):Prop:= ∀x,x∈op.operands->Zb ρ (ev x) (ec x)
theorem Ka {ev:Operand->BA} {ec:Operand->Value}: ∀(ps:List (Nat×Operand)),(∀p∈ps,Zb ρ (ev p.2) (ec p.2))->Jm ρ (ps.map fun p=>(p.1,ev p.2)) (ps.map fun p=>(p.1,ec p.2)):=fun ps h=>
 Xo.maps _ _ ps fun p hp=>⟨rfl,h p hp⟩
theorem Ou {o:Oper} {ev:Operand->BA} {ec:Operand->Value} {v:BA} {b:Bool} (h:Vn P o.op ev=some (v,b)) (hb:b=true) (hr:Vb ρ ev ec o.op):
  ∃u,Zb ρ v u/\ ∀w,(execOp ec o).run P w=.ok (.value u) w:=by
 obtain ⟨dst,op,type,pos,after,guard⟩:=o;simp only at h hr ⊢;have lift: ∀{s:Sem Value},(∃z,Zb ρ v z/\ ∀w,s.run P w=.ok z w)->(∀w,(execOp ec ⟨dst,op,type,pos,after,guard⟩).run P w=(do pure (.value (<-s)):Sem Next).run P w)->
   ∃u,Zb ρ v u/\ ∀w,(execOp ec ⟨dst,op,type,pos,after,guard⟩).run P w=.ok (.value u) w:=by
  simp_all
 cases op with
 | move x=>simp only [Vn,Ab,Aa] at h;obtain ⟨rfl,_⟩:=h;exact ⟨ec x,hr x (by simp [Op.operands]),fun w=>rfl⟩
 | assign x=>simp only [Vn,Ab,Aa] at h;obtain ⟨rfl,_⟩:=h;exact ⟨ec x,hr x (by simp [Op.operands]),fun w=>rfl⟩
 | pick c x y=>
  have hc:=hr c (by simp [Op.operands]);have hx:=hr x (by simp [Op.operands]);have hy:=hr y (by simp [Op.operands]);unfold Vn at h;simp only at h;split at h
  .rename_i cb e;rw [e] at hc;generalize hw:ec c=u at hc;cases hc;simp only [Ab,Aa] at h;obtain ⟨rfl,_⟩:=h;cases cb;all_goals simp_all [execOp,asBool]
  .cases h
 | build t parts=>
  simp only [Vn,Ag,Aa] at h;obtain ⟨v',hv,rfl,_⟩:=h;refine lift (Ty hv (Ka _ fun p hp=>hr p.2 ?_)) fun w=> ?_
  .grind [Op.operands]
  .have:(parts.map fun (i,x)=>(i,ec x))=(parts.toList.map fun p=>(p.1,ec p.2)).toArray :=by
    grind
   simp only [execOp,this]
 | nilCheck x=>
  have hx:=hr x (by simp [Op.operands]);unfold Vn at h;simp only at h;split at h;all_goals first
   | (rename_i e
      rw [e] at hx;simp only [Ab,Aa] at h;obtain ⟨rfl,_⟩:=h;refine ⟨ec x,hx,fun w=> ?_⟩;generalize hw:ec x=u at hx;cases hx <;> simp [execOp,hw])
   | cases h
 | binOp op t x y yt=>have hx:=hr x (by simp [Op.operands]);have hy:=hr y (by simp [Op.operands]);exact lift (XM (by simpa only [Vn] using h) hb hx hy x y) fun w=>rfl
 | unOp op t x=>have hx:=hr x (by simp [Op.operands]);simp only [Vn,Ag,Aa] at h;obtain ⟨v',hv,rfl,_⟩:=h;exact lift (V2 hv hx) fun w=>rfl
 | convert src dst' x=>
  have hx:=hr x (by simp [Op.operands]);unfold Vn at h;simp only at h;split at h
  .rename_i sd k k' n hs hu e;rw [e] at hx;generalize hw:ec x=u at hx;cases hx;simp only [Ab,Aa] at h;obtain ⟨rfl,_⟩:=h;refine ⟨_,.int _ _,fun w=> ?_⟩;cases sd <;> simp [execOp,Go.convert,hw,run_underlying hs,run_underlying hu,Conv.intToInt]
  .cases h
 | makeInterface t x=>
  have hx:=hr x (by simp [Op.operands]);unfold Vn at h;simp only at h;split at h
  .cases h
  .cases h
  .rename_i d hni hu;simp only [Ab,Aa] at h;obtain ⟨rfl,_⟩:=h;refine ⟨_,.ifc t _ _ hx,fun w=> ?_⟩;simp_all [execOp,Instr.makeInterface,run_underlying]
 | makeFunc fn first captured=>
  cases fn with
  | func f=>
   unfold Vn at h;simp only at h;cases hf:first.isEmpty with
   | false=>
    rw [hf,Ai] at h;cases hc:captured.isEmpty with
    | false=>grind
    | true=>
     rw [hc,Ah] at h;simp only [Ab,Aa] at h;obtain ⟨rfl,_⟩:=h;have hc:captured= #[]:=(by grind);subst hc;refine ⟨_,.fnb f _ (first.map ec) (by simp) fun i h1 h2=> ?_,fun w=>by simp [execOp,Instr.makeFunc]⟩;have:i<first.size:=by grind
     simpa using hr first[i] (by simp [Op.operands])
   | true=>
    rw [hf,Ah] at h;simp only [Ab,Aa] at h;obtain ⟨rfl,_⟩:=h;have hf:first= #[]:=by grind
    subst hf;refine ⟨_,.fn f _ (captured.map ec) (by simp) fun i h1 h2=> ?_,fun w=>by simp [execOp,Instr.makeFunc]⟩;have:i<captured.size:=by grind
    simpa using hr captured[i] (by simp [Op.operands])
  | _=>simp [Vn] at h
 | fieldAddr t x f=>have hx:=hr x (by simp [Op.operands]);simp only [Vn,Ag,Aa] at h;obtain ⟨v',hv,rfl,_⟩:=h;exact lift (S9 hv hx) fun w=>rfl
 | field t x f=>have hx:=hr x (by simp [Op.operands]);simp only [Vn,Ag,Aa] at h;obtain ⟨v',hv,rfl,_⟩:=h;exact lift (UB hv hx) fun w=>rfl
 | indexAddr t x i=>have hx:=hr x (by simp [Op.operands]);have hi:=hr i (by simp [Op.operands]);exact lift (Sa (by simpa only [Vn] using h) hb hx hi) fun w=>rfl
 | index t x i=>have hx:=hr x (by simp [Op.operands]);have hi:=hr i (by simp [Op.operands]);exact lift (UC (by simpa only [Vn] using h) hb hx hi) fun w=>rfl
 | extract x i=>
  have hx:=hr x (by simp [Op.operands]);unfold Vn at h;simp only at h;split at h
  .rename_i vs e;rw [e] at hx;simp only [Ag,Aa] at h;obtain ⟨v',hv,rfl,_⟩:=h;obtain ⟨hlt,rfl⟩:=AK.1 hv;generalize hw:ec x=u at hx;cases hx with
   | tup _ us hl hh=>have h2:i<us.size:=(by omega);simp_all [execOp,Instr.extract]
  .cases h
 | slice t x lo hi mx=>
  refine lift (UD (by simpa only [Vn] using h) hb (hr x (by simp [Op.operands])) (fun y hy=>hr y ?_) (fun y hy=>hr y ?_) (fun y hy=>hr y ?_)) fun w=>rfl;all_goals grind [Op.operands]
 | call c=>
  obtain ⟨callee,args,argTypes⟩:=c;cases callee with
  | builtin bi=>
   simp only [Vn,Ag,Aa] at h;obtain ⟨v',hv,rfl,_⟩:=h;obtain ⟨z,hz,hs⟩:=ST (ts:=argTypes) (us:=args.map ec) (type:=type) hv (by
    rw [A0];exact Xo.maps _ _ _ fun a ha=>hr a (by grind [Op.operands,Call.operands]))
   simp_all [execOp,resolve,invoke]
  | value f=>simp [Vn] at h
  | invoke r m=>simp [Vn] at h
 | _=>simp [Vn] at h
end
section
variable {P:Program} {ρ:BD}
def Fs (ρ:BD) (w:World) (blk o:Nat) (cs:List BA):Prop:=
 ∀(i:Nat) (h:i<cs.length),∃v,w.cell? ⟨blk,o+i,none⟩=some v/\Zb ρ cs[i] v
theorem BF.cellsAt {mem:BH} {next:Nat} {w:World} (h:BF ρ mem next w) {b:Nat} {l:BS} {ab:BE} (hb:ρ b=some l) (hm:Zs mem b=some ab) (hno:ab.isObj=false):Fs ρ w l.blk l.base ab.cells:=by
 obtain ⟨_,_,_,_,cs,el,h1,h2,h3⟩:=(h.blk b l ab hb hm).at hno;intro i hi
 grind [World.cell?]
theorem BF.dataAt {mem:BH} {next:Nat} {w:World} (h:BF ρ mem next w) {cs:List BA} {blk base:Nat} {val:Nat->Value} (hv: ∀(j:Nat) (hj:j<cs.length),Zb ρ.bare cs[j] (val j))
  (hh: ∀j,j<cs.length->Dn ρ.fz blk (base+j) (val j)):Fs ρ w blk base cs:=by
 intro i hi;obtain ⟨arr,el,fz,e,f⟩:=hh i hi;have:=h.old _ _ e;exact ⟨val i,by simp [World.cell?,this,f],(hv i hi).mono (IS ρ)⟩
theorem Fs.load {w:World} {blk o:Nat} {cs:List BA} (h:Fs ρ w blk o cs) {off n:Nat} (hn:off+n<=cs.length\/n=0):
  ∃vs:Array Value,vs.size=n/\(∀(i:Nat) (h1:off+i<cs.length) (h2:i<vs.size),Zb ρ cs[off+i] vs[i])/\(loadCells ⟨blk,o+off,none⟩ n).run P w=.ok vs w:=by
 have hc: ∀j,j<n->w.cell? ((⟨blk,o+off,none⟩:Addr).add j)=some ((w.cell? ⟨blk,o+(off+j),none⟩).getD undef):=by intro j hj;obtain ⟨v,e,_⟩:=h (off+j) (by omega);rw [Yf,AF,e];rfl
 refine ⟨_,?_,?_,run_loadCells w _ n (fun j=>(w.cell? ⟨blk,o+(off+j),none⟩).getD undef) hc⟩
 .simp
 .intro i h1 h2;obtain ⟨v,e,f⟩:=h (off+i) h1
  grind
theorem Fs.part {w:World} {blk o:Nat} {cs:List BA} (h:Fs ρ w blk o cs) {t:TypeId} {off:Nat} {v:BA} (hp:Jn P t cs off=some v):
  ∃z,Zb ρ v z/\(loadVar t ⟨blk,o+off,none⟩).run P w=.ok z w:=by
 unfold Jn at hp;split at hp
 .rename_i i ha hi;simp only [Ag] at hp;obtain ⟨p,hc,rfl⟩:=hp;obtain ⟨_,hl,hle⟩:=Kn hc;obtain ⟨vs,hs,hv,hr⟩:=h.load (P:=P) (off:=off) (n:=i.size) (by omega);refine ⟨.agg vs,.agg _ _ (by omega) fun j h1 h2=> ?_,?_⟩
  .grind
  simp_all [loadVar,Jr,Zm]
 .rename_i i ha hi;obtain ⟨hlt,rfl⟩:=AK.1 hp;obtain ⟨v,e,f⟩:=h off hlt;simp_all [loadVar,Jr]
 .cases hp
theorem Fk {α:Type} {c:Bool} {x:Option α} {y:α} (h:(bif c then none else x)=some y):c=false/\x=some y:=by cases c <;> simp_all
theorem Oq {mem:BH} {next:Nat} {w:World} (h:BF ρ mem next w) {t:TypeId} {x v:BA} {u:Value} (hl:GE P mem t x=some v) (hx:Zb ρ x u):
  ∃z,Zb ρ v z/\(Instr.loadAt t u).run P w=.ok z w:=by
 unfold GE at hl;split at hl
 .split at hl
  .rename_i b off _ blk hm;cases hx with
   | ptr _ _ l hρ=>
    obtain ⟨hno,hl⟩:=Fk hl;obtain ⟨z,hz,hr⟩:=(h.cellsAt hρ hm hno).part hl
    grind [Instr.loadAt,Instr.sureAddr]
  .cases hl
 .cases hx with
  | dptr _ blk base val hv hh=>
   obtain ⟨z,hz,hr⟩:=(h.dataAt hv hh).part hl
   grind [Instr.loadAt,Instr.sureAddr]
 .cases hl
theorem KX (n:Nat) (get:Nat->List BA):rows (n+1) get=rows n get++get n:=by unfold rows;rw [List.range_succ,List.flatMap_append];simp
theorem Zh {get:Nat->List BA} {sz:Nat}: ∀(n:Nat),(∀i,i<n->(get i).length =sz)->(rows n get).length =n*sz
 | 0,_=>by simp [rows]
 | n+1,h=>by rw [KX,AX,Zh n fun i hi=>h i (by omega),h n (by omega),AH,Bu]
theorem Xc {get:Nat->List BA} {sz:Nat}: ∀(n:Nat),(∀i,i<n->(get i).length =sz)-> ∀(r j:Nat),r<n->j<sz->(rows n get)[r*sz+j]? =(get r)[j]?
 | 0,_,r,j,hr,_=>by omega
 | n+1,h,r,j,hr,hj=>by
  have hl:=Zh n fun i hi=>h i (by omega);rw [KX];by_cases e:r=n
  .subst e;rw [List.getElem?_append_right (by omega),hl]
   congr 1;omega
  .have hlt:r<n:=by omega
   have:(r+1)*sz<=n*sz:=Av sz hlt;rw [AH,Bu] at this;rw [List.getElem?_append_left (by omega)];exact Xc n (fun i hi=>h i (by omega)) r j hlt hj
theorem BF.rowAt {mem:BH} {next:Nat} {w:World} (h:BF ρ mem next w) {b:Nat} {l:BS} {ab:BE} {A:CJ} (hb:ρ b=some l) (hm:Zs mem b=some ab) (hA:ab.arr=some A) {r:Nat} (hr:r<A.n):Fs ρ w l.blk (l.base+r*A.sz) (A.get r):=by
 have hno:=((h.blk b l ab hb hm).rows hA).noObj;obtain ⟨_,_,_,har,_⟩:=(h.blk b l ab hb hm).rows hA;obtain ⟨e1,_,e3⟩:=har A hA;intro i hi;have hsz:=e3 r hr;have hg:=Xc A.n e3 r i hr (by omega);rw [Ao hi,<-e1] at hg;obtain ⟨hlt,hge⟩:=AK.1 hg;obtain ⟨v,e,f⟩:=h.cellsAt hb hm hno (r*A.sz+i) hlt
 grind
theorem PH {mem:BH} {next:Nat} {w:World} (h:BF ρ mem next w) {t:TypeId} {x v:BA} {u:Value} (hl:Fi P mem t x=some (v,true)) (hx:Zb ρ x u):
  ∃z,Zb ρ v z/\(Instr.loadAt t u).run P w=.ok z w:=by
 unfold Fi at hl;split at hl
 .split at hl
  .rename_i b sz r fo _ blk hm;split at hl
   .rename_i A hA;simp only [Ag,Aa,Ad,Au] at hl;obtain ⟨v',hp,rfl,hs,hr⟩:=hl;obtain rfl:=Ae hs;cases hx with
    | epa _ _ _ _ l hρ=>
     obtain ⟨z,hz,cE⟩:=(h.rowAt hρ hm hA hr).part hp
     grind [Instr.loadAt,Instr.sureAddr]
   .cases hl
  .cases hl
 .simp only [Ag,Aa,and_true] at hl
  grind [Oq]
theorem Lw {st st':St} {b e:Bool} (h:st.test b=(e,st')):st'.env=st.env/\st'.mem=st.mem/\st'.next=st.next/\(st'.ob=true->e=b/\st.ob=true):=by
 obtain ⟨env,mem,next,orc,ob⟩:=st;cases orc with
 | nil=>
  grind [St.test]
 | cons c r=>
  grind [St.test]
theorem Jx : ∀(rw:B0) (r:Nat) (st:St) (cs:List BA) (st1:St),Qh rw r st=(cs,st1)->st1.env=st.env/\st1.mem=st.mem/\st1.next=st.next/\(st1.ob=true->cs=rw.get r/\st.ob=true)
 | .flat g,r,st,cs,st1,h=>by simp only [Qh,Aa] at h;obtain ⟨rfl,rfl⟩:=h;exact ⟨rfl,rfl,rfl,fun h=>⟨rfl,h⟩⟩
 | .one r0 c0 b,r,st,cs,st1,h=>by
  unfold Qh at h;split at h;rename_i e st2 ht;obtain ⟨t1,t2,t3,t4⟩:=Lw ht;cases e with
  | true=>simp only [Ah,Aa] at h;obtain ⟨rfl,rfl⟩:=h;exact ⟨t1,t2,t3,fun ho=>⟨by simp only [B0.get];rw [<-(t4 ho).1];rfl,(t4 ho).2⟩⟩
  | false=>rw [Ai] at h;obtain ⟨p1,p2,p3,p4⟩:=Jx b r st2 cs st1 h;refine ⟨p1.trans t1,p2.trans t2,p3.trans t3,fun ho=> ?_⟩;obtain ⟨q1,q2⟩:=p4 ho;exact ⟨by simp only [B0.get];rw [<-(t4 q2).1];exact q1,(t4 q2).2⟩
 | .alt c a b,r,st,cs,st1,h=>by
  unfold Qh at h;split at h;rename_i e st2 ht;obtain ⟨t1,t2,t3,t4⟩:=Lw ht;cases e with
  | true=>rw [Ah] at h;obtain ⟨p1,p2,p3,p4⟩:=Jx a r st2 cs st1 h;refine ⟨p1.trans t1,p2.trans t2,p3.trans t3,fun ho=> ?_⟩;obtain ⟨q1,q2⟩:=p4 ho;exact ⟨by simp only [B0.get];rw [<-(t4 q2).1];exact q1,(t4 q2).2⟩
  | false=>rw [Ai] at h;obtain ⟨p1,p2,p3,p4⟩:=Jx b r st2 cs st1 h;refine ⟨p1.trans t1,p2.trans t2,p3.trans t3,fun ho=> ?_⟩;obtain ⟨q1,q2⟩:=p4 ho;exact ⟨by simp only [B0.get];rw [<-(t4 q2).1];exact q1,(t4 q2).2⟩
theorem Kt {st st1:St} {t:TypeId} {x v:BA} {o:Bool} (h:Mp P st t x=some (v,o,st1)):st1.env=st.env/\st1.mem=st.mem/\st1.next=st.next/\(st1.ob=true->Fi P st.mem t x=some (v,o)/\st.ob=true):=by
 unfold Mp at h;split at h
 .split at h
  .rename_i b sz r fo _ blk hm;split at h
   .rename_i A hA;split at h;rename_i cs st2 hp;simp only [Ag,Aa] at h;obtain ⟨v',hv,rfl,rfl,rfl⟩:=h;obtain ⟨p1,p2,p3,p4⟩:=Jx _ _ _ _ _ hp;refine ⟨p1,p2,p3,fun ho=> ?_⟩;obtain ⟨q1,q2⟩:=p4 ho;refine ⟨?_,q2⟩;subst q1;have hv:Jn P t (A.get r) fo=some v':=hv
    grind [Fi]
   .cases h
  .cases h
 .rename_i hx;simp only [Ag,Aa] at h
  grind [Fi]
theorem IT {α:Type} {c:Bool} {x z:Option α} {y:α} (h:(bif c then x else z)=some y):(c=true/\x=some y)\/(c=false/\z=some y):=by grind
theorem MO {A:CJ} {r fo:Nat} {cs:List BA} {st st1:St} {rw1:B0} (h:setRow A r fo cs st=some (rw1,st1)):st1.env=st.env/\st1.mem=st.mem/\st1.next=st.next/\(st1.ob=true->((A.get r).length =A.sz->rw1.get=Xa A.get r fo cs)/\st.ob=true):=by
 obtain ⟨sz,n,rw0⟩:=A;unfold setRow at h;have full: ∀(g:Nat->List BA),cs.length=sz->(g r).length =sz->(fun k=>bif Nat.beq k r then cs else g k)=Xa g r 0 cs:=fun g h1 h2=>by
  grind [Xa]
 split at h
 .rename_i g hg;simp only at hg;subst hg;rcases IT h with ⟨_,h⟩ | ⟨_,h⟩
  .simp only [Ab,Aa] at h;obtain ⟨rfl,rfl⟩:=h;exact ⟨rfl,rfl,rfl,fun ho=>⟨fun _=>rfl,ho⟩⟩
  .rcases IT h with ⟨hc,h2⟩ | ⟨_,h2⟩
   .simp only [Ad] at hc;obtain rfl:=Ae hc.1;have hc2:=Ae hc.2;clear h;simp only [Ab,Aa] at h2;obtain ⟨rfl,rfl⟩:=h2;exact ⟨rfl,rfl,rfl,fun ho=>⟨fun hl=>full g hc2 hl,ho⟩⟩
   .simp only [Ab,Aa] at h2;obtain ⟨rfl,rfl⟩:=h2;exact ⟨rfl,rfl,rfl,fun ho=>⟨fun _=>rfl,ho⟩⟩
 .rename_i r0 c0 b hb;simp only at hb;subst hb;split at h;rename_i e st2 ht;obtain ⟨t1,t2,t3,t4⟩:=Lw ht;rcases IT h with ⟨hc,h2⟩ | ⟨_,h2⟩
  .simp only [Ad] at hc;obtain rfl:=Ae hc.1.2;have hc2:=Ae hc.2;clear h;simp only [Ab,Aa] at h2;obtain ⟨rfl,rfl⟩:=h2;refine ⟨t1,t2,t3,fun ho=>⟨fun hl=> ?_,(t4 ho).2⟩⟩;have he:=(t4 ho).1;rw [hc.1.1] at he;obtain rfl:=Ae he.symm;have:=full (B0.get (.one r c0 b)) hc2 hl;show _=Xa (B0.get (.one r c0 b)) r 0 cs
   grind [B0.get]
  .rcases IT h2 with ⟨hc,h2⟩ | ⟨_,h2⟩
   .clear h;simp only [Ab,Aa] at h2;obtain ⟨rfl,rfl⟩:=h2;refine ⟨t1,t2,t3,fun ho=>⟨fun hl=> ?_,(t4 ho).2⟩⟩;have he:=(t4 ho).1;rw [hc] at he;obtain rfl:=Ae he.symm;show _=Xa (B0.get (.one r c0 b)) r fo cs;have e0:(B0.get (.one r c0 b)) r=c0:=by simp [B0.get]
    funext k
    grind [B0.get,Xa]
   .cases h2
 .rename_i c a b hb;simp only at hb;subst hb;rcases IT h with ⟨hc,h2⟩ | ⟨_,h2⟩
  .simp only [Ad] at hc;obtain rfl:=Ae hc.1;have hc2:=Ae hc.2;clear h;simp only [Ab,Aa] at h2;obtain ⟨rfl,rfl⟩:=h2;exact ⟨rfl,rfl,rfl,fun ho=>⟨fun hl=>full _ hc2 hl,ho⟩⟩
  .cases h2
structure CK (ρ:BD) (floor:Nat) (st st':St) (v:BA) (w:World) (ρ':BD) (u:Value) (w':World):Prop where
 val:Zb ρ' v u
 rel:BF ρ' st'.mem st'.next w'
 ev:Ev ρ ρ' floor st.mem st.next st'.mem st'.next w w'
def GR (P:Program) (o:Oper) (a:Act) (w:World) (K:BD->Value->World->Prop):Prop:=
 (∃ρ' u w',(execOp a.eval o).run P w=.ok (.value u) w'/\K ρ' u w')\/
 (∃ρ' w',(execOp a.eval o).run P w=.ok .skip w'/\K ρ' undef w')\/
 (∃f args,(execOp a.eval o).run P w=.ok (.enter f args) w/\Calls P f args w fun e w'=> ∃ρ' u,e=.returned u/\K ρ' u w')
theorem GR.wp {o:Oper} {a:Act} {w:World} {K:BD->Value->World->Prop} {next:Act->World->Prop} {Q:Exit->Act->World->Prop} (h:GR P o a w K) (hk: ∀ρ' u w',K ρ' u w'->next (a.put o.dst u) w'):o.wp P a w next Q:=by
 unfold Oper.wp;rcases h with ⟨ρ',u,w',e,k⟩ | ⟨ρ',w',e,k⟩ | ⟨f,args,e,hc⟩
 .rw [e];exact hk _ _ _ k
 .rw [e];exact hk _ _ _ k
 .rw [e];exact hc.mono fun e w' ⟨ρ',u,he,k⟩=>by grind
theorem BF.hold {mem:BH} {next:Nat} {w:World} (h:BF ρ mem next w): ∀k,w.heap.size<=k->ρ.fz k=none:=by
 intro k hk;cases e:ρ.fz k with
 | none=>rfl
 | some o=>have:=(As.1 (h.old k o e)).1;omega
theorem Hv {st:St} {w:World} (h:BF ρ st.mem st.next w) (floor:Nat) (cs:List BA) (ty:TypeId) (vs:Array Value) (el:TypeId) (hn:cs.length<=vs.size)
  (hv: ∀(i:Nat) (h1:i<cs.length) (h2:i<vs.size),Zb ρ cs[i] vs[i]) (v:BA) (u:Value) (cQ: ∀ρ',ρ' st.next=some ⟨w.heap.size,0,cs.length,vs.size⟩->Zb ρ' v u) (hel:el=ty:=by rfl):
  CK ρ floor st (BY st cs ty) v w (Xr ρ st.next ⟨w.heap.size,0,cs.length,vs.size⟩) u {w with heap:=w.heap.push (.cells vs el)}:=
 ⟨cQ _ (by simp [Xr]),h.new cs ty vs el h.hold hn hv hel,Ev.ofNew h floor _ _ _ (Ak _)⟩
theorem UF {st st':St} {w:World} (h:BF ρ st.mem st.next w) {floor:Nat} {t:TypeId} {x v:BA} {u z:Value} (hs:Fj P floor st t x v=some st') (hx:Zb ρ x u) (hv:Zb ρ v z):
  ∃w',(Instr.storeAt t u z).run P w=.ok () w'/\CK ρ floor st st' (.tup []) w ρ undef w'/\st'.env=st.env/\st'.ob=st.ob:=by
 unfold Fj at hs;split at hs
 .rename_i b off i hi;simp only at hs;cases hc:(Nat.ble floor b&&Nat.beq v.cells.length i.size&&Ks v&&v.cells.all B4) with
  | false=>grind
  | true=>
   rw [hc,Ah] at hs;simp only [Ad] at hc;obtain ⟨⟨⟨hf,hn⟩,hbx⟩,hsc⟩:=hc;have hf:=Af hf;have hn:=Ae hn;split at hs
   .rename_i blk hm;cases cL: !blk.isObj&&Nat.ble (off+i.size) blk.cells.length with
    | false=>grind
    | true=>
     rw [cL,Ah] at hs;simp only [Ad,AO] at cL;obtain ⟨hno,cL⟩:=cL;have cL:=Af cL;obtain rfl:=Ac hs;cases hx with
     | ptr _ _ l hρ=>
      have cG:=hv.cells hbx;have cR:=Zb.cells_oneCell cG hsc;have cC:z.cells.toList.length=v.cells.length:=(by simpa using cG.1.symm);obtain ⟨cur,el,hw,hsz,cB⟩:=h.write hρ hm (off:=off) (cs:=v.cells) (vs:=z.cells.toList) hno cC (by omega) (fun j h1 h2=>by simpa using cG.2 j h1 (by grind));have cE:=run_storeCells_at P l.blk (l.base+off) el z.cells.toList 0 cur w hw (by omega) cR;refine ⟨w.setRow l.blk (cur.toList.take (l.base+off)++z.cells.toList++cur.toList.drop (l.base+off+z.cells.toList.length)).toArray,?_,⟨.tup [] #[] rfl (fun j h1 _=>by simp at h1),?_,Ev.ofWrite h hρ hf _ _⟩,rfl,rfl⟩;all_goals simp_all [Instr.storeAt,Instr.sureAddr,storeVar,Zm,St.withMem]
   .cases hs
 .cases hs
theorem Kw {get:Nat->List BA} {sz n r fo:Nat} {cs:List BA} (hl: ∀i,i<n->(get i).length =sz) (hf:fo+cs.length<=sz): ∀i,i<n->(Xa get r fo cs i).length =sz:=by
 intro i hi;unfold Xa;cases e:Nat.beq i r with
 | false=>exact hl i hi
 | true=>
  obtain rfl:=Ae e
  grind
theorem VK {get:Nat->List BA} {sz n r fo:Nat} {cs:List BA} (hl: ∀i,i<n->(get i).length =sz) (hr:r<n) (hf:fo+cs.length<=sz):
  (rows n get).take (r*sz+fo)++cs++(rows n get).drop (r*sz+fo+cs.length)=rows n (Xa get r fo cs):=by
 have cC:=Zh n hl;have dS:=Zh n (Kw (r:=r) hl hf);have hb:(r+1)*sz<=n*sz:=Av sz hr;rw [AH,Bu] at hb;have cL:r*sz+fo+cs.length<=(rows n get).length :=by omega
 apply List.ext_getElem?;intro i;rw [Vu _ _ _ _ cL];by_cases hi:i<n*sz
 .have hsz:0<sz:=by
   grind
  have hj:i %sz<sz:=A2 _ hsz;have hq:i / sz<n:=AP (by grind);have e:i=i / sz*sz+i %sz:=by rw [Ba];exact (A4 i sz).symm
  generalize i / sz=q at*;generalize i %sz=j at*;subst e;rw [Xc n (Kw (r:=r) hl hf) q j hq hj,Xc n hl q j hq hj];unfold Xa;cases eq:Nat.beq q r with
  | true=>
   obtain rfl:=Ae eq
   grind
  | false=>
   have hne:=Nat.ne_of_beq_eq_false eq;simp only [Ai];rcases Nat.lt_or_gt_of_ne hne with h | h
   .have:(q+1)*sz<=r*sz:=Av sz h
    grind
   .have:(r+1)*sz<=q*sz:=Av sz h
    grind
 grind
theorem BF.setArr {mem:BH} {next:Nat} {w:World} {b:Nat} {cs:List BA} {ty:TypeId} (h:BF ρ (Yi mem b (some ⟨cs,ty,none⟩)) next w) (A:CJ) (hno:(⟨cs,ty,none⟩:BE).isObj =false) (h1:cs=rows A.n A.get) (h2:1<=A.sz) (h3: ∀i,i<A.n->(A.get i).length =A.sz):
  BF ρ (Yi mem b (some ⟨cs,ty,some A⟩)) next w:=by
 have some_iff: ∀c,(Zs (Yi mem b (some ⟨cs,ty,some A⟩)) c).isSome =(Zs (Yi mem b (some ⟨cs,ty,none⟩)) c).isSome :=fun c=>by
  grind [Xi]
 refine ⟨h.dom,fun c c' m m' e e' he hs hs'=>h.inj c c' m m' e e' he (by grind) (by grind),fun c m ab e hc=> ?_,h.old,fun c m e hs=>h.sep c m e (by grind),h.real,fun c hc=> ?_,h.ldom⟩
 .by_cases ecb:c=b
  .subst ecb;rw [Zd] at hc;obtain rfl:=Ac hc;obtain ⟨q,n,t,_,k⟩:=(h.blk c m ⟨cs,ty,none⟩ e (Zd _ _ _)).at hno;exact .plain ⟨q,n,t,fun B hB=>by grind,k⟩
  .rw [Zx _ _ ecb] at hc;exact h.blk c m ab e (by rw [Zx _ _ ecb];exact hc)
 .have:=h.bd c hc
  grind [Xi]
theorem I3 {cx:BK} {st st':St} {b:Bool} (h:st.owe cx b=some st'):st'.env=st.env/\st'.mem=st.mem/\st'.next=st.next/\(st'.ob=true->b=true/\st.ob=true):=by
 obtain ⟨env,mem,next,orc,ob⟩:=st
 grind [St.owe]
theorem UT {cx:BK} {st st':St} {w:World} (h:BF ρ st.mem st.next w) {t:TypeId} {x v:BA} {u z:Value} (hs:Ft P cx st t x v=some st') (hob:st'.ob=true) (hx:Zb ρ x u) (hv:Zb ρ v z):
  ∃w',(Instr.storeAt t u z).run P w=.ok () w'/\CK ρ cx.floor st st' (.tup []) w ρ undef w':=by
 unfold Ft at hs;split at hs
 .rename_i b sz r fo i hi;cases hc:(Nat.ble cx.floor b&&Nat.beq v.cells.length i.size&&Ks v&&v.cells.all B4&&Nat.ble (fo+i.size) sz) with
  | false=>grind
  | true=>
   rw [hc,Ah] at hs;simp only [Ad] at hc;obtain ⟨⟨⟨⟨hf,hn⟩,hbx⟩,hsc⟩,hfo⟩:=hc;have hf:=Af hf;have hn:=Ae hn;have hfo:=Af hfo;split at hs
   .rename_i blk hm;split at hs
    .rename_i A hA;split at hs
     .rename_i rw1 st1 dO;obtain ⟨_,o2,o3,o4⟩:=I3 hs;obtain ⟨ho,hob1⟩:=o4 hob;obtain ⟨s1,s2,s3,s4⟩:=MO dO;have o2:st'.mem=Yi st1.mem b (some ⟨rows A.n rw1.get,blk.ty,some ⟨A.sz,A.n,rw1⟩⟩):=o2;have o3:st'.next=st1.next:=o3
      rw [s2] at o2;rw [s3] at o3;simp only [Ad,Au] at ho;obtain ⟨hsz,hr⟩:=ho;obtain rfl:=Ae hsz;cases hx with
      | epa _ _ _ _ l hρ=>
       have hbk:=(h.blk b l blk hρ hm).rows hA;have hno:=hbk.noObj;obtain ⟨dF,dT,cN⟩:=hbk.arr A hA;have cG:=hv.cells hbx;have cR:=Zb.cells_oneCell cG hsc;have cC:z.cells.toList.length=v.cells.length:=(by simpa using cG.1.symm);have hrl:=Zh A.n cN;have hb:(r+1)*A.sz<=A.n*A.sz:=Av A.sz hr;rw [AH,Bu] at hb;obtain ⟨cur,el,hw,hsz,cB⟩:=h.write hρ hm (off:=r*A.sz+fo) (cs:=v.cells) (vs:=z.cells.toList) hno cC (by grind) (fun j h1 h2=>by simpa using cG.2 j h1 (by grind));have cE:=run_storeCells_at P l.blk (l.base+(r*A.sz+fo)) el z.cells.toList 0 cur w hw (by omega) cR;have hno2:=hbk.splice (off:=r*A.sz+fo) (cs:=v.cells) (vs:=z.cells.toList) cC (by grind) (fun j h1 h2=>by simpa using cG.2 j h1 (by grind)) blk.ty none;rw [dF,VK cN hr (by omega)] at cB hno2;have hrw:=(s4 hob1).1 (cN r hr);rw [<-hrw] at cB hno2;have cB:=cB.setArr ⟨A.sz,A.n,rw1⟩ hno2 rfl dT (by show∀i,i<A.n->(rw1.get i).length =A.sz;rw [hrw];exact Kw (sz:=A.sz) cN (by omega));refine ⟨w.setRow l.blk (cur.toList.take (l.base+(r*A.sz+fo))++z.cells.toList++cur.toList.drop (l.base+(r*A.sz+fo)+z.cells.toList.length)).toArray,?_,⟨.tup [] #[] rfl (fun j h1 _=>by simp at h1),?_,?_⟩⟩
       .have hzs:z.cells.size=i.size:=(by grind);simp only [A1] at cE;simp [Instr.storeAt,Instr.sureAddr,storeVar,Zm hi,hzs,-List.append_assoc,-Array.length_toList,cE]
       all_goals grind [Ev.ofWrite]
     .cases hs
    .cases hs
   .cases hs
 .cases hs
theorem Ob (f:Nat->Value):(Array.range 0).map f= #[]:=by grind
theorem Jf (n:Nat) (l:List BA):(B5 n l).length =n*l.length:=by simp_all [B5]
theorem RE (l:List BA): ∀(n i:Nat) (h:i<(B5 n l).length) (hl:i %l.length<l.length),(B5 n l)[i]=l[i %l.length]
 | 0,i,h,_=>by simp [B5] at h
 | n+1,i,h,hl=>by
  have e:B5 (n+1) l=l++B5 n l:=by simp [B5,List.replicate_succ]
  have hpos:0<l.length:=by omega
  by_cases hi:i<l.length
  .simp only [e,Bb hi,Nat.mod_eq_of_lt hi]
  .have h2:i - l.length<(B5 n l).length :=by rw [e] at h;simp at h;omega
   simp only [e];rw [A7 (by omega)];have hm:(i - l.length) %l.length=i %l.length:=(Nat.mod_eq_sub_mod (by omega)).symm;rw [RE l n (i - l.length) h2 (by omega)];simp only [hm]
theorem Hp {zero:List BA} {zs:Array Value} (h:Wx ρ zero zs) (n m:Nat) (hm:m=n*zero.length):Wx ρ (B5 n zero) ((Array.range m).map (zs[· %zs.size]!)):=by
 refine ⟨by rw [Jf];simp [hm],fun i h1 h2=> ?_⟩;have hi:i<n*zero.length:=by grind
 have hpos:0<zero.length:=by
  grind
 have hlt:i %zero.length<zero.length:=A2 _ hpos;rw [RE zero n i h1 hlt];have hlt2:i %zero.length<zs.size:=by rw [<-h.1];exact hlt
 have:=h.2 (i %zero.length) hlt hlt2;simp only [Array.getElem_map,Array.getElem_range];rw [<-h.1]
 grind
theorem Sd {st st':St} {w:World} (h:BF ρ st.mem st.next w) (floor:Nat) {t:TypeId} {len:Nat} {ps:List (Nat×BA)} {qs:List (Nat×Value)} {v:BA} {un:Bool} (hb:Vv P un st t len ps=some (v,st')) (hp:Jm ρ ps qs):
  ∃ρ' u w',(Instr.buildSlice t len qs.toArray).run P w=.ok u w'/\CK ρ floor st st' v w ρ' u w'/\st'.env=st.env/\st'.ob=st.ob:=by
 unfold Vv at hb;split at hb
 .rename_i e hu;split at hb
  .rename_i i zero hi hz;cases hc:(Nat.ble (len*i.size) 16777216&&Nat.beq zero.length i.size) with
   | false=>grind
   | true=>
    rw [hc,Ah] at hb;simp only [Ad] at hc;have hle:=Af hc.1;have hzl:=Ae hc.2;split at hb
    .rename_i cells cG;simp only [Ab,Aa] at hb;obtain ⟨rfl,rfl⟩:=hb;obtain ⟨_,z,_,_,hzr,hzv⟩:=Xw (ρ:=ρ) hz;have dG:=Hp hzr len (len*i.size) (by rw [hzl]);obtain ⟨arr,h1,h2⟩:=Vo cG dG hp;have cC:len<=len:=Ak _;have cJ:Us ⟨w.heap.size,0,cells.length,arr.size⟩ 0 (bif un&&Nat.beq cells.length (len*i.size) then .un i.size else .ex len) len:=by
      cases hq:(un&&Nat.beq cells.length (len*i.size)) with
      | false=>rfl
      | true=>simp only [Ad] at hq;have hq2:=Ae hq.2;have:=h2.1;exact ⟨by grind,by grind⟩
     refine ⟨_,.slice (some ⟨w.heap.size,0,none⟩) len len,_,?_,Hv h floor cells e arr e (by rw [h2.1];grind) h2.2 _ _ (fun ρ' hρ'=>.sl _ 0 _ _ _ _ hρ' cJ cC),rfl,rfl⟩;have hgt: ¬len*i.size>2 ^ 24:=(by omega);by_cases h0:len*i.size=0
     .have h1':Instr.fill (fun j=>some (j*i.size,i.size)) #[] qs=some arr:=by
       grind
      simp [Instr.buildSlice,run_underlying hu,Zm hi,h0,h1',newRow,Ob]
     .have hgt': ¬2 ^ 24<len*i.size:=hgt;simp [Instr.buildSlice,run_underlying hu,Zm hi,h0,hzv,h1,newRow,hgt']
    .cases hb
  .cases hb
 .cases hb
theorem PM {n:Int} (h0:0<=n) (h1:n<=1099511627776):IntKind.i64.wrap n=n:=by
 have hm:n %(2 ^ IntKind.i64.bits:Int)=n:=by
  apply Int.emod_eq_of_lt h0;have:(2 ^ IntKind.i64.bits:Int)=18446744073709551616:=by decide
  omega
 unfold wrap;simp only [hm];have: ¬(n>=(2 ^ (IntKind.i64.bits - 1):Int)):=by
  have:(2 ^ (IntKind.i64.bits - 1):Int)=9223372036854775808:=by decide
  omega
 simp [this]
theorem Uy {st st':St} {w:World} (h:BF ρ st.mem st.next w) (floor:Nat) {t:TypeId} {x y v:BA} {ux uy:Value} (hb:Wa P st t x y=some (v,st')) (hx:Zb ρ x ux) (hy:Zb ρ y uy):
  ∃ρ' u w',(Instr.makeSlice t ux uy).run P w=.ok u w'/\CK ρ floor st st' v w ρ' u w'/\st'.env=st.env/\st'.ob=st.ob:=by
 unfold Wa at hb;split at hb
 .rename_i e _ l _ c hu;cases hx;cases hy;split at hb
  .rename_i i zero hi hz;cases hc:(Nat.beq zero.length i.size&&(decide (0<=l)&&decide (l<=c)&&decide (c*i.bytes<=1099511627776)&&decide (c<=1099511627776))) with
   | false=>grind
   | true=>
    rw [hc,Ah] at hb;simp only [Ad,Au] at hc;obtain ⟨hzl,⟨⟨h0,hlc⟩,hcb⟩,hc40⟩:=hc;have hzl:=Ae hzl;simp only [Ab,Aa] at hb;obtain ⟨rfl,rfl⟩:=hb;obtain ⟨_,z,_,_,hzr,hzv⟩:=Xw (ρ:=ρ) hz;have dG:=Hp hzr c.toNat (c.toNat*i.size) (by rw [hzl]);have wl:=PM (n:=l) h0 (by omega);have wc:=PM (n:=c) (by omega) hc40;have e1: ¬c<0:=(by omega);have e2: ¬(281474976710656<(i.bytes:Int)*c):=(by grind);have e3: ¬l<0:=(by omega);have e4: ¬c<l:=(by omega);by_cases hz0:c.toNat*i.size=0
    .rw [hz0] at dG;refine ⟨_,.slice (some ⟨w.heap.size,0,none⟩) l.toNat c.toNat,_,?_,Hv h floor (B5 c.toNat zero) e #[] e (by rw [Jf,hzl];simp [hz0]) (fun j h1 h2=>by simp at h2) _ _ (fun ρ' hρ'=>.sl _ 0 _ _ _ _ hρ' rfl (by omega)),rfl,rfl⟩;simp [Instr.makeSlice,run_underlying hu,asInt,asIntOf,run_typeInfo w hi,wl,wc,e1,e2,e3,e4,Zm hi,hz0,newRow,Ob]
    .refine ⟨_,.slice (some ⟨w.heap.size,0,none⟩) l.toNat c.toNat,_,?_,Hv h floor (B5 c.toNat zero) e _ e (by rw [dG.1];grind) dG.2 _ _ (fun ρ' hρ'=>.sl _ 0 _ _ _ _ hρ' rfl (by omega)),rfl,rfl⟩;simp [Instr.makeSlice,run_underlying hu,asInt,asIntOf,run_typeInfo w hi,wl,wc,e1,e2,e3,e4,Zm hi,hz0,newRow,hzv]
  .cases hb
 .cases hb
end
section
variable {P:Program} {ρ:BD}
theorem BF.kill {mem:BH} {next:Nat} {w:World} (h:BF ρ mem next w) (b:Nat):BF ρ (Yi mem b none) next w:=
 ⟨h.dom,fun c c' m m' e e' he hs hs'=>by
  have hc:c≠b:=fun e=>by rw [e,Zd] at hs;cases hs
  have hc':c'≠b:=fun e=>by grind [Zd]
  rw [Zx _ _ hc] at hs;rw [Zx _ _ hc'] at hs';exact h.inj c c' m m' e e' he hs hs',
  fun c m ab e hc=>by
   have hcb:c≠b:=fun e=>by rw [e,Zd] at hc;cases hc
   rw [Zx _ _ hcb] at hc;exact h.blk c m ab e hc,h.old,fun c m e hs=>by
   have hcb:c≠b:=fun e=>by rw [e,Zd] at hs;cases hs
   rw [Zx _ _ hcb] at hs;exact h.sep c m e hs,h.real,fun c hc=>by
   by_cases hcb:c=b
   .rw [hcb,Zd]
   .rw [Zx _ _ hcb];exact h.bd c hc,h.ldom⟩
theorem Ev.ofKill {mem:BH} {next:Nat} {w:World} (h:BF ρ mem next w) (floor:Nat) {b:Nat} {l:BS} (hb:ρ b=some l):Ev ρ ρ floor mem next (Yi mem b none) next w w where
 ext:=BD.le_refl _
 new _ _:=rfl
 nxt:=Ak _
 unborn k _ e cs ty hm:=by grind [Zx]
 frame _ _ hk _:=hk
 fresh k m hk e:=by have:=h.dom k m e;omega
 size:=Ak _
 os:=rfl
 tape:=rfl
 output:=rfl
 still _ _:=rfl
theorem BF.beyond {mem:BH} {next:Nat} {w:World} (h:BF ρ mem next w) {b:Nat} {l:BS} {ab:BE} (hb:ρ b=some l) (hm:Zs mem b=some ab) (hno:ab.isObj=false) {off:Nat} {new:List BA} {vs:List Value} (ty:TypeId)
  (cC:vs.length=new.length) (hoff:off<=ab.cells.length) (cL:ab.cells.length+new.length<=l.tot) (hv: ∀(i:Nat) (h1:i<new.length) (h2:i<vs.length),Zb ρ new[i] vs[i]) (hel:ab.ty=ty):
  ∃ cur el,w.heap[l.blk]? =some (.cells cur el (0,0))/\l.base+ab.cells.length+vs.length<=cur.size/\
   BF (Xr ρ next ⟨l.blk,l.base+off,ab.cells.length - off+new.length,l.tot - off⟩) (Yi (Yi mem b none) next (some ⟨ab.cells.drop off++new,ty,none⟩)) (next+1)
    (w.setRow l.blk (cur.toList.take (l.base+ab.cells.length)++vs++cur.toList.drop (l.base+ab.cells.length+vs.length)).toArray):=by
 obtain ⟨hty,hn,ht,_,cur,el,h1,h2,h3⟩:=(h.blk b l ab hb hm).at hno;have hbn:b<next:=h.dom b l hb
 have hle:=Vt (l:=⟨l.blk,l.base+off,ab.cells.length - off+new.length,l.tot - off⟩) h.none_next;have hfc:l.base+ab.cells.length+vs.length<=cur.toList.length:=by simp;omega
 have cI: ∀c m,Xr ρ next ⟨l.blk,l.base+off,ab.cells.length - off+new.length,l.tot - off⟩ c=some m->(c=next/\m=⟨l.blk,l.base+off,ab.cells.length - off+new.length,l.tot - off⟩)\/(c≠next/\ρ c=some m):=fun c m e=>by
  grind [Ww]
 have live: ∀c,c≠next->(Zs (Yi (Yi mem b none) next (some ⟨ab.cells.drop off++new,ty,none⟩)) c).isSome =true->c≠b/\(Zs mem c).isSome =true:=fun c hc hs=>by
  grind [Zx,Zd]
 refine ⟨cur,el,h1,by grind,fun c m e=> ?_,fun c c' m m' e e' he hs hs'=> ?_,fun c m ac e hc=> ?_,fun k o e=> ?_,fun c m e=> ?_,fun c m e=> ?_,fun c hc=>by rw [Zx _ _ (by omega),Zx _ _ (by omega)];exact h.bd c (by omega),⟨fun j l e=>AW (h.ldom.1 j l e),h.ldom.2⟩⟩
 .rcases cI c m e with ⟨rfl,_⟩ | ⟨_,e⟩
  .omega
  .have:=h.dom c m e;omega
 .rcases cI c m e with ⟨hc,hl⟩ | ⟨hc,e2⟩ <;> rcases cI c' m' e' with ⟨hc',hl'⟩ | ⟨hc',e2'⟩
  .rw [hc,hc']
  .obtain ⟨hcb,hs'⟩:=live c' hc' hs';rw [hl] at he;exact absurd (h.inj c' b m' l e2' hb he.symm hs' (by rw [hm];rfl)) hcb
  .obtain ⟨hcb,hs⟩:=live c hc hs;rw [hl'] at he;exact absurd (h.inj c b m l e2 hb he hs (by rw [hm];rfl)) hcb
  .obtain ⟨_,hs⟩:=live c hc hs;obtain ⟨_,hs'⟩:=live c' hc' hs';exact h.inj c c' m m' e2 e2' he hs hs'
 .rcases cI c m e with ⟨rfl,rfl⟩ | ⟨hcn,e2⟩
  .rw [Zd] at hc;obtain rfl:=Ac hc;refine .plain ⟨by rw [setRow_heap w l.blk cur _ el (0,0) h1];grind,by simp,by simp;omega,(fun A e=>by cases e),_,el,setRow_heap w l.blk cur _ el (0,0) h1,?_,fun i hi=> ?_⟩
   .grind
   .simp only [AX,Bw] at hi;simp only [List.getElem?_toArray];rw [Vu _ _ _ _ hfc];by_cases g1:off+i<ab.cells.length
    .rw [AB (by omega),Bb (by simp;omega)];obtain ⟨v,e1,e2⟩:=h3 (off+i) g1;exact ⟨v,by grind,by simpa using e2.mono hle⟩
    .rw [At (by omega),AB (by omega),A7 (by simp;omega)];have hi2:l.base+off+i - (l.base+ab.cells.length)<vs.length:=(by omega);refine ⟨vs[l.base+off+i - (l.base+ab.cells.length)],Ao hi2,?_⟩;have e3:i - (ab.cells.drop off).length =l.base+off+i - (l.base+ab.cells.length):=by simp;omega
     have:=hv (l.base+off+i - (l.base+ab.cells.length)) (by omega) hi2;simp only [e3];exact this.mono hle
  .have hcs:(Zs mem c).isSome =true/\c≠b:=by
    grind
   rw [Zx _ _ hcn,Zx _ _ hcs.2] at hc;refine (h.blk c m ac e2 hc).world hle (setRow_other w l.blk m.blk _ fun heq=>hcs.2 ?_);exact h.inj c b m l e2 hb heq hcs.1 (by rw [hm];rfl)
 .have e:ρ.fz k=some o:=e;have hk:=h.old k o e;rw [setRow_other]
  .exact hk
  .intro heq;have:=h.sep b l hb (by rw [hm];rfl)
   grind
 .intro hs;rcases cI c m e with ⟨rfl,rfl⟩ | ⟨hcn,e⟩
  .exact h.sep b l hb (by rw [hm];rfl)
  .exact h.sep c m e (live c hcn hs).2
 .rw [setRow_size];rcases cI c m e with ⟨rfl,rfl⟩ | ⟨_,e⟩
  .grind
  .exact h.real c m e
theorem BF.beyond2 {mem:BH} {next:Nat} {w:World} (h:BF ρ mem next w) {b:Nat} {l:BS} {ab:BE} (hb:ρ b=some l) (hm:Zs mem b=some ab) (hno:ab.isObj=false) {off m T:Nat} {new:List BA} {vs:List Value} (ty:TypeId)
  (cC:vs.length=new.length) (hoff:off<=m) (hmc:m<=ab.cells.length) (cL:m - off+new.length<=T) (hT:off+T<=l.tot) (hv: ∀(i:Nat) (h1:i<new.length) (h2:i<vs.length),Zb ρ new[i] vs[i]) (hel:ab.ty=ty):
  ∃ cur el,w.heap[l.blk]? =some (.cells cur el (0,0))/\l.base+m+vs.length<=cur.size/\
   BF (Xr ρ next ⟨l.blk,l.base+off,m - off+new.length,T⟩) (Yi (Yi mem b none) next (some ⟨(ab.cells.take m).drop off++new,ty,none⟩)) (next+1)
    (w.setRow l.blk (cur.toList.take (l.base+m)++vs++cur.toList.drop (l.base+m+vs.length)).toArray):=by
 obtain ⟨hty,hn,ht,_,cur,el,h1,h2,h3⟩:=(h.blk b l ab hb hm).at hno;have hbn:b<next:=h.dom b l hb
 have hle:=Vt (l:=⟨l.blk,l.base+off,m - off+new.length,T⟩) h.none_next;have hfc:l.base+m+vs.length<=cur.toList.length:=by simp;omega
 have cI: ∀c lm,Xr ρ next ⟨l.blk,l.base+off,m - off+new.length,T⟩ c=some lm->(c=next/\lm=⟨l.blk,l.base+off,m - off+new.length,T⟩)\/(c≠next/\ρ c=some lm):=fun c lm e=>by
  grind [Ww]
 have live: ∀c,c≠next->(Zs (Yi (Yi mem b none) next (some ⟨(ab.cells.take m).drop off++new,ty,none⟩)) c).isSome =true->c≠b/\(Zs mem c).isSome =true:=fun c hc hs=>by
  grind [Zx,Zd]
 refine ⟨cur,el,h1,by grind,fun c lm e=> ?_,fun c c' lm lm' e e' he hs hs'=> ?_,fun c lm ac e hc=> ?_,fun k o e=> ?_,fun c lm e=> ?_,fun c lm e=> ?_,fun c hc=>by rw [Zx _ _ (by omega),Zx _ _ (by omega)];exact h.bd c (by omega),⟨fun j l e=>AW (h.ldom.1 j l e),h.ldom.2⟩⟩
 .rcases cI c lm e with ⟨rfl,_⟩ | ⟨_,e⟩
  .omega
  .have:=h.dom c lm e;omega
 .rcases cI c lm e with ⟨hc,hl⟩ | ⟨hc,e2⟩ <;> rcases cI c' lm' e' with ⟨hc',hl'⟩ | ⟨hc',e2'⟩
  .rw [hc,hc']
  .obtain ⟨hcb,hs'⟩:=live c' hc' hs';rw [hl] at he;exact absurd (h.inj c' b lm' l e2' hb he.symm hs' (by rw [hm];rfl)) hcb
  .obtain ⟨hcb,hs⟩:=live c hc hs;rw [hl'] at he;exact absurd (h.inj c b lm l e2 hb he hs (by rw [hm];rfl)) hcb
  .obtain ⟨_,hs⟩:=live c hc hs;obtain ⟨_,hs'⟩:=live c' hc' hs';exact h.inj c c' lm lm' e2 e2' he hs hs'
 .rcases cI c lm e with ⟨rfl,rfl⟩ | ⟨hcn,e2⟩
  .rw [Zd] at hc;obtain rfl:=Ac hc;have htl:((ab.cells.take m).drop off).length =m - off:=by grind
   refine .plain ⟨by rw [setRow_heap w l.blk cur _ el (0,0) h1];grind,by grind,cL,(fun A e=>by cases e),_,el,setRow_heap w l.blk cur _ el (0,0) h1,?_,fun i hi=> ?_⟩
   .grind
   .simp only [] at hi;rw [AX,htl] at hi;simp only [List.getElem?_toArray];rw [Vu _ _ _ _ hfc];by_cases g1:off+i<m
    .rw [AB (by omega),Bb (by grind)];obtain ⟨v,e1,e2⟩:=h3 (off+i) (by omega);exact ⟨v,by grind,by simpa using e2.mono hle⟩
    .rw [At (by omega),AB (by omega),A7 (by grind)];have hi2:l.base+off+i - (l.base+m)<vs.length:=(by omega);refine ⟨vs[l.base+off+i - (l.base+m)],Ao hi2,?_⟩;have e3:i - ((ab.cells.take m).drop off).length =l.base+off+i - (l.base+m):=(by grind);have:=hv (l.base+off+i - (l.base+m)) (by omega) hi2;simp only [e3];exact this.mono hle
  .have hcs:(Zs mem c).isSome =true/\c≠b:=by
    grind
   rw [Zx _ _ hcn,Zx _ _ hcs.2] at hc;refine (h.blk c lm ac e2 hc).world hle (setRow_other w l.blk lm.blk _ fun heq=>hcs.2 ?_);exact h.inj c b lm l e2 hb heq hcs.1 (by rw [hm];rfl)
 .have e:ρ.fz k=some o:=e;have hk:=h.old k o e;rw [setRow_other]
  .exact hk
  .intro heq;have:=h.sep b l hb (by rw [hm];rfl)
   grind
 .intro hs;rcases cI c lm e with ⟨rfl,rfl⟩ | ⟨hcn,e⟩
  .exact h.sep b l hb (by rw [hm];rfl)
  .exact h.sep c lm e (live c hcn hs).2
 .rw [setRow_size];rcases cI c lm e with ⟨rfl,rfl⟩ | ⟨_,e⟩
  .grind
  .exact h.real c lm e
theorem Ev.ofBeyond {mem:BH} {next:Nat} {w:World} (h:BF ρ mem next w) {floor b:Nat} {l:BS} (hb:ρ b=some l) (hf:floor<=b) (l':BS) (hl:l'.blk=l.blk) (o:Option BE) (cs:Array Value):
  Ev ρ (Xr ρ next l') floor mem next (Yi (Yi mem b none) next o) (next+1) w (w.setRow l.blk cs) where
 ext:=Vt h.none_next
 new k hk:=by simp [Xr,AU hk]
 nxt:=Bt _
 unborn k hk e cs ty hm:=by
  grind [Zx]
 frame k o hk hfr:=by
  grind [setRow_other]
 fresh k m hk e:=by
  rw [Ww] at e;by_cases hkn:k=next
  .grind
  .rw [At hkn] at e;have:=h.dom k m e;omega
 size:=by simp_all
 os:=rfl
 tape:=rfl
 output:=rfl
 still _ _:=rfl
theorem Xt {mem:BH} {next:Nat} {w:World} (h:BF ρ mem next w) {sz:Nat} {x:BA} {u:Value} {len:Nat} {cs:List BA} (hc:Yj mem sz x=some (len,cs)) (hx:Zb ρ x u) (hl:cs.length=len*sz):
  (∀w,(Builtin.lenOf u).run P w=.ok len w)/\ ∀n,n<=len-> ∃vs:Array Value,Wx ρ (cs.take (n*sz)) vs/\ ∀d,(Builtin.firstCells sz n u).run P {w with drawn:=d}=.ok vs {w with drawn:=d}:=by
 unfold Yj at hc;split at hc
 .simp only [Ab,Aa] at hc;obtain ⟨rfl,rfl⟩:=hc;cases hx;refine ⟨fun w=>by simp [Builtin.lenOf],fun n hn=>⟨#[],⟨by simp,fun i h1 _=>by simp at h1⟩,fun d=>by simp [Builtin.firstCells]⟩⟩
 .rename_i b off len' cap;split at hc
  .rename_i blk hm;obtain ⟨hno,hc⟩:=Fk hc;simp only [Ag,Aa] at hc;obtain ⟨p,hp,rfl,rfl⟩:=hc;cases hx with
   | sl _ _ _ _ l c hρ cJ cC=>
    refine ⟨fun w=>by simp [Builtin.lenOf],fun n hn=> ?_⟩;obtain ⟨_,hpl,hle⟩:=Kn hp;have hmul:n*sz<=len'*sz:=Av sz hn;have hex: ∀d,∃vs:Array Value,Wx ρ (p.take (n*sz)) vs/\(Builtin.firstCells sz n (.slice (some ⟨l.blk,l.base+off,none⟩) len' c)).run P {w with drawn:=d}=.ok vs {w with drawn:=d}:=by
     intro d;obtain ⟨vs,hs,hv,hr⟩:=((h.drawn d).cellsAt hρ hm hno).load (P:=P) (off:=off) (n:=n*sz) (by omega);refine ⟨vs,⟨by simp;omega,fun i h1 h2=> ?_⟩,by simpa [Builtin.firstCells] using hr⟩
     grind
    obtain ⟨vs,hv,hr⟩:=hex 0;refine ⟨vs,hv,fun d=> ?_⟩;obtain ⟨b',e1,e2⟩: ∃b',(∀d,(loadCells ⟨l.blk,l.base+off,none⟩ (n*sz)).run P {w with drawn:=d}=.ok b' {w with drawn:=d})/\True:=by
     have hc: ∀d j,j<n*sz->({w with drawn:=d}:World).cell? ((⟨l.blk,l.base+off,none⟩:Addr).add j)=some ((w.cell? ⟨l.blk,l.base+(off+j),none⟩).getD undef):=by
      intro d j hj;obtain ⟨v,e,_⟩:=(h.cellsAt hρ hm hno) (off+j) (by omega)
      rw [Yf,AF];show w.cell? _=_;rw [e];rfl
     simp_all [run_loadCells]
    grind [Builtin.firstCells]
  .cases hc
 .cases hc
theorem QA (n:Nat): ∀(r c:Nat),c<n->Builtin.growBy n r c<=n+(n+768) / 4
 | 0,c,h=>by simp only [Builtin.growBy];omega
 | r+1,c,h=>by
  unfold Builtin.growBy;rw [At (by omega)];by_cases h2:c+(c+768) / 4<n
  .exact QA n r _ h2
  .cases r with
   | zero=>simp only [Builtin.growBy];omega
   | succ r=>unfold Builtin.growBy;rw [AB (by omega)];omega
theorem S5 (n c:Nat) (h:c<n):Builtin.nextslicecap n c<=2*n+192:=by
 grind [Builtin.nextslicecap,QA]
theorem RG {need c bytes:Nat} (h:(need+1)*(bytes+1)<=1099511627776) (hc:c<need): ¬Builtin.nextslicecap need c*bytes>2 ^ 48:=by
 have h1:=S5 need c hc;have h2:Builtin.nextslicecap need c*bytes<=(192*(need+1))*(bytes+1):=Nat.mul_le_mul (by omega) (by omega)
 grind
end
end Go.Am
end
