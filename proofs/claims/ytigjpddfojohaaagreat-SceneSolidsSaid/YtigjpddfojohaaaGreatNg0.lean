/- A part of a proof: several texts in one. -/
import Derived.Calls
import Derived.Orders
import Derived.KernelRfl
import Derived.DeepKeys
import Derived.Below
import Derived.Laws.Sem
import Derived.Laws.Tables
import Derived.Laws.CopyRow
import Derived.Laws.Cells
import Derived.Laws.Entries
import Derived.Laws.StructEq
import Derived.ChangeKeysEq
import Derived.WalkSpells
set_option maxRecDepth 1000000
set_option maxHeartbeats 8000000
set_option linter.unusedVariables false
set_option linter.unusedSimpArgs false
noncomputable section
namespace Go.Am
abbrev zp:=List Int
abbrev zr:=List Nat
abbrev zu:=List UInt8
open IntKind (wrap)
theorem Aa:type_of%@cond_false:=@cond_false
theorem Ab:type_of%@cond_true:=@cond_true
theorem Ac:type_of%@Bool.and_eq_true:=@Bool.and_eq_true
theorem Ad:type_of%@Option.some.injEq:=@Option.some.injEq
theorem Ae:type_of%@Prod.mk.injEq:=@Prod.mk.injEq
theorem Af:type_of%@decide_eq_true:=@decide_eq_true
theorem Ag:type_of%@Option.some.inj:=@Option.some.inj
theorem Ah:type_of%@Nat.zero_add:=@Nat.zero_add
theorem Ai:type_of%@Bool.and_true:=@Bool.and_true
theorem Aj:type_of%@Nat.eq_of_beq_eq_true:=@Nat.eq_of_beq_eq_true
theorem Ak:type_of%@Bool.true_and:=@Bool.true_and
theorem Al:type_of%@Nat.le_of_ble_eq_true:=@Nat.le_of_ble_eq_true
theorem An:type_of%@decide_eq_false:=@decide_eq_false
theorem Ao:type_of%@decide_eq_true_eq:=@decide_eq_true_eq
theorem Aq:type_of%@Option.map_eq_some_iff:=@Option.map_eq_some_iff
theorem Ar:type_of%@Nat.le_refl:=@Nat.le_refl
theorem As:type_of%@decide_true:=@decide_true
theorem At:type_of%@List.getElem?_eq_getElem:=@List.getElem?_eq_getElem
theorem Au:type_of%@List.all_eq_true:=@List.all_eq_true
theorem Av:type_of%@List.drop_eq_nil_of_le:=@List.drop_eq_nil_of_le
theorem Aw:type_of%@Bool.not_true:=@Bool.not_true
theorem Ax:type_of%@of_decide_eq_true:=@of_decide_eq_true
theorem Ay:type_of%@Nat.zero_le:=@Nat.zero_le
theorem Az:type_of%@Bool.not_false:=@Bool.not_false
theorem AA:type_of%@List.append_nil:=@List.append_nil
theorem AB:type_of%@Nat.mul_le_mul_right:=@Nat.mul_le_mul_right
theorem AC:type_of%@if_neg:=@if_neg
theorem AD:type_of%@Nat.not_lt_zero:=@Nat.not_lt_zero
theorem AE:type_of%@congrArg:=@congrArg
theorem AF:type_of%@List.mem_append:=@List.mem_append
theorem AG:type_of%@Nat.le_trans:=@Nat.le_trans
theorem AH:type_of%@List.append_assoc:=@List.append_assoc
theorem AI:type_of%@Array.getElem?_eq_some_iff:=@Array.getElem?_eq_some_iff
theorem AJ:type_of%@if_pos:=@if_pos
theorem AK:type_of%@List.length_append:=@List.length_append
theorem AL:type_of%@Nat.add_assoc:=@Nat.add_assoc
theorem AM:type_of%@List.mem_flatMap:=@List.mem_flatMap
theorem AN:type_of%@List.mem_cons:=@List.mem_cons
theorem AO:type_of%@List.drop_zero:=@List.drop_zero
theorem AP:type_of%@List.mem_range:=@List.mem_range
theorem AQ:type_of%@List.getElem_of_mem:=@List.getElem_of_mem
theorem AR:type_of%@Nat.add_mul:=@Nat.add_mul
theorem AS:type_of%@List.getElem_mem:=@List.getElem_mem
theorem AT:type_of%@List.drop_eq_getElem_cons:=@List.drop_eq_getElem_cons
theorem AU:type_of%@Bool.eq_iff_iff:=@Bool.eq_iff_iff
theorem AV:type_of%@Nat.ble_eq_true_of_le:=@Nat.ble_eq_true_of_le
theorem AW:type_of%@Bool.false_and:=@Bool.false_and
theorem AX:type_of%@List.take_add_one:=@List.take_add_one
theorem AY:type_of%@Nat.lt_of_lt_of_le:=@Nat.lt_of_lt_of_le
theorem AZ:type_of%@List.length_cons:=@List.length_cons
theorem A0:type_of%@List.map_cons:=@List.map_cons
theorem A1:type_of%@List.nil_append:=@List.nil_append
theorem A2:type_of%@Bool.and_false:=@Bool.and_false
theorem A3:type_of%@List.take_of_length_le:=@List.take_of_length_le
theorem A4:type_of%@Bool.or_eq_false_iff:=@Bool.or_eq_false_iff
theorem A5:type_of%@Bool.eq_false_iff:=@Bool.eq_false_iff
theorem A6:type_of%@Int.le_refl:=@Int.le_refl
theorem A7:type_of%@Nat.lt_or_ge:=@Nat.lt_or_ge
theorem A8:type_of%@Bool.not_eq_true':=@Bool.not_eq_true'
theorem A9:type_of%@List.pairwise_cons:=@List.pairwise_cons
theorem Ba:type_of%@decide_eq_false_iff_not:=@decide_eq_false_iff_not
theorem Bb:type_of%@List.getElem?_eq_some_iff:=@List.getElem?_eq_some_iff
theorem Bc:type_of%@Bool.false_or:=@Bool.false_or
theorem Bd:type_of%@Nat.div_lt_of_lt_mul:=@Nat.div_lt_of_lt_mul
theorem Be:type_of%@Nat.eq_or_lt_of_le:=@Nat.eq_or_lt_of_le
theorem Bf:type_of%@Nat.lt_succ_self:=@Nat.lt_succ_self
theorem Bg:type_of%@Nat.add_zero:=@Nat.add_zero
theorem Bh:type_of%@List.mem_map:=@List.mem_map
theorem Bi:type_of%@beq_iff_eq:=@beq_iff_eq
theorem Bj:type_of%@List.getD_eq_getElem?_getD:=@List.getD_eq_getElem?_getD
theorem Bk:type_of%@List.mem_filter:=@List.mem_filter
theorem Bl:type_of%@List.length_take:=@List.length_take
theorem Bm:type_of%@List.getElem_append_right:=@List.getElem_append_right
theorem Bn:type_of%@List.pairwise_iff_getElem:=@List.pairwise_iff_getElem
theorem Bo:type_of%@Nat.lt_succ_of_lt:=@Nat.lt_succ_of_lt
theorem Bp:type_of%@List.length_singleton:=@List.length_singleton
theorem Bq:type_of%@List.cons.injEq:=@List.cons.injEq
theorem Br:type_of%@List.mem_cons_self:=@List.mem_cons_self
theorem Bs:type_of%@Nat.lt_trichotomy:=@Nat.lt_trichotomy
theorem Bt:type_of%@Array.toList_map:=@Array.toList_map
theorem Bu:type_of%@List.getElem_append_left:=@List.getElem_append_left
theorem Bv:type_of%@List.length_drop:=@List.length_drop
theorem Bw:type_of%@beq_self_eq_true:=@beq_self_eq_true
theorem Bx:type_of%@Nat.mod_lt:=@Nat.mod_lt
theorem Bz:type_of%@List.mem_cons_of_mem:=@List.mem_cons_of_mem
theorem BA:type_of%@Nat.div_add_mod:=@Nat.div_add_mod
theorem BB:type_of%@Array.getElem?_eq_getElem:=@Array.getElem?_eq_getElem
theorem BC:type_of%@Nat.ne_of_lt:=@Nat.ne_of_lt
theorem BD:type_of%@Bool.or_eq_true:=@Bool.or_eq_true
theorem BE:type_of%@Nat.mul_comm:=@Nat.mul_comm
theorem BF:type_of%@List.map_append:=@List.map_append
theorem BG:type_of%@List.getElem_take:=@List.getElem_take
theorem BH:type_of%@List.all_cons:=@List.all_cons
theorem BI:type_of%@List.eq_nil_of_length_eq_zero:=@List.eq_nil_of_length_eq_zero
theorem BJ:type_of%@List.ext_getElem:=@List.ext_getElem
theorem BK:type_of%@Nat.beq_refl:=@Nat.beq_refl
theorem BL:type_of%@of_decide_eq_false:=@of_decide_eq_false
theorem BM:type_of%@List.mem_singleton:=@List.mem_singleton
theorem BN:type_of%@List.map_nil:=@List.map_nil
theorem BO:type_of%@decide_eq_true_iff:=@decide_eq_true_iff
theorem BQ:type_of%@List.range_succ:=@List.range_succ
theorem BR:type_of%@List.getElem?_map:=@List.getElem?_map
theorem BS:type_of%@List.pairwise_append:=@List.pairwise_append
theorem BT:type_of%@Classical.byContradiction:=@Classical.byContradiction
theorem BU:type_of%@List.any_eq_true:=@List.any_eq_true
theorem BV:type_of%@List.cons_append:=@List.cons_append
theorem BW:type_of%@Option.isSome_iff_exists:=@Option.isSome_iff_exists
theorem BX:type_of%@List.map_congr_left:=@List.map_congr_left
theorem BY:type_of%@Bool.or_false:=@Bool.or_false
theorem BZ:type_of%@Option.map_some:=@Option.map_some
theorem B0:type_of%@List.length_map:=@List.length_map
theorem B1:type_of%@List.length_nil:=@List.length_nil
theorem B2:type_of%@List.length_set:=@List.length_set
theorem B3:type_of%@Nat.one_mul:=@Nat.one_mul
theorem B4:type_of%@List.map_map:=@List.map_map
theorem B5:type_of%@Nat.le_of_eq:=@Nat.le_of_eq
theorem B6:type_of%@List.take_length:=@List.take_length
theorem B7:type_of%@Nat.lt_irrefl:=@Nat.lt_irrefl
theorem B8:type_of%@Nat.le_succ:=@Nat.le_succ
def pn (m:Nat):zr:=Nat.rec (motive:=fun _=>Nat -> zr) (fun _=>[]) (fun _ r m=>bif Nat.beq m 1 then [] else (m%2)::r (m/2)) 64 m
def bl (n m:Nat):List Bool:=Nat.rec (motive:=fun _=>Nat -> List Bool) (fun _=>[]) (fun _ r m=>Nat.beq (m%2) 1::r (m/2)) n m
def Q9 :TypeId:=99999
def VU :zr:=[]
def gpow :zr:=[]
def J3 :Nat:=99999
def Q6 :TypeId:=99999
inductive FO where
 | ex (k:Nat)
 | un (sz:Nat)
inductive H0 where
 | mi (l:List (zu×Int))
 | mb (l:List (zu×Bool))
 | it (s:zu) (pos:Nat)
  | bld
inductive B9 where
 | undef
 | bool (b:Bool)
 | int (k:IntKind) (n:Int)
 | str (s:zu)
 | agg (cs:List B9)
 | tup (vs:List B9)
 | ptr (b off:Nat)
 | nilp
 | sl (b off len:Nat) (cap:FO)
 | nils
 | fn (f:FuncId) (caps:List B9)
 | nilf
  | fnb (f:FuncId) (first:List B9)
 | ifc (t:TypeId) (v:B9)
 | nili
 | dat (len:Nat) (get:Nat->List B9)
 | dptr (cs:List B9)
  | sla (b sz off len:Nat) (cap:FO)
  | epa (b sz i fo:Nat)
  | yld (j:Nat)
  | slv (b sz off len:Nat)
  | nnl (len:Nat) (get:Nat->List B9)
  | obj (o:H0)
  | mapr (b:Nat)
  | ifb (b:Bool)
abbrev zy:=List B9
inductive T (α:Type) where
 | leaf
 | node (v:α) (l r:T α)
def T.get {α:Type} (d:α) (t:T α):Nat->α:=
 T.rec (motive:=fun _=>Nat->α) (fun _=>d)
  (fun v _ _ gl gr n=>Nat.rec (motive:=fun _=>α) v (fun m _=>bif Nat.beq (m %2) 0 then gl (m / 2) else gr (m / 2)) n) t
def T.setF {α:Type} (d:α) (v:α) (f:Nat):T α->Nat->T α:=
 Nat.rec (motive:=fun _=>T α->Nat->T α) (fun t _=>t)
  (fun _ rec t n=>
   T.casesOn (motive:=fun _=>T α) t
    (Nat.rec (motive:=fun _=>T α) (.node v .leaf .leaf)
     (fun m _=>bif Nat.beq (m %2) 0 then .node d (rec .leaf (m / 2)) .leaf else .node d .leaf (rec .leaf (m / 2))) n)
    (fun u l r=>Nat.rec (motive:=fun _=>T α) (.node v l r)
     (fun m _=>bif Nat.beq (m %2) 0 then .node u (rec l (m / 2)) r else .node u l (rec r (m / 2))) n)) f
def T.set {α:Type} (d:α) (t:T α) (n:Nat) (v:α):T α:=T.setF d v (n+1) t n
inductive Cs where
 | flat (g:Nat->zy)
 | one (r:Nat) (cs:zy) (b:Cs)
 | alt (c:Nat->Bool) (a b:Cs)
def Cs.get :Cs->Nat->zy
 | .flat g=>g
 | .one r cs b=>fun k=>bif Nat.beq k r then cs else b.get k
 | .alt c a b=>fun k=>bif c k then a.get k else b.get k
instance : Coe (Nat->zy) Cs:=⟨.flat⟩
structure Da where
 sz:Nat
 n:Nat
 rw:Cs
def Da.get (A:Da):Nat->zy:=A.rw.get
def rows (n:Nat) (get:Nat->zy):zy:=(List.range n).flatMap get
structure CG where
 cells:zy
 ty:TypeId
 arr:Option Da
def CG.isObj :CG->Bool
 | ⟨.obj _::_,_,none⟩=>true
 | _=>false
abbrev CJ :=T (Option CG)
def Yn (m:CJ) (b:Nat):Option CG:=T.get none m b
def Wv (m:CJ) (b:Nat) (o:Option CG):CJ:=T.set none m b o
structure CP where
 n:Nat
 floor:Nat
 sym:Bool
structure St where
 env:T B9
 mem:CJ
 next:Nat
 orc:List Bool
 ob:Bool
def St.tmp :St->Nat->B9
 | ⟨env,_,_,_,_⟩,t=>T.get .undef env t
def St.put (cx:CP):St->Option Tmp->B9->Option St
 | ⟨env,mem,next,orc,ob⟩,some d,v=>bif Nat.ble (d+1) cx.n then some ⟨T.set .undef env d v,mem,next,orc,ob⟩ else none
 | st,none,_=>some st
def St.withMem :St->CJ->St
 | ⟨env,_,next,orc,ob⟩,m=>⟨env,m,next,orc,ob⟩
def St.withEnv :St->T B9->St
 | ⟨_,mem,next,orc,ob⟩,e=>⟨e,mem,next,orc,ob⟩
def St.owe (cx:CP):St->Bool->Option St
 | ⟨env,mem,next,orc,ob⟩,b=>bif cx.sym then some ⟨env,mem,next,orc,b&&ob⟩ else bif b then some ⟨env,mem,next,orc,ob⟩ else none
def St.test :St->Bool->Bool×St
 | ⟨env,mem,next,[],ob⟩,b=>(b,⟨env,mem,next,[],ob⟩)
 | ⟨env,mem,next,e::r,ob⟩,b=>(e,⟨env,mem,next,r,(b == e)&&ob⟩)
def St.nextO :St->Bool
 | ⟨_,_,_,[],_⟩=>false
 | ⟨_,_,_,e::_,_⟩=>e
def St.dropO :St->St
 | ⟨env,mem,next,orc,ob⟩=>⟨env,mem,next,orc.tail,ob⟩
def NN :Value->B9
 | .bool b=>.bool b
 | .int k n=>.int k n
 | .string s=>.str s.data.toList
 | .pointer none=>.nilp
 | .slice none 0 0=>.nils
 | .nilFunc =>.nilf
 | .nilIface =>.nili
 | _=>.undef
def Oq :Value->B9
 | .agg cs=>.agg (cs.toList.map NN)
 | v=>NN v
def St.eval (st:St):Operand->B9
 | .tmp t=>st.tmp t
 | .const v=>Oq v
 | .global _=>.undef
 | .func f=>.fn f []
def B9.cells :B9->zy
 | .agg cs=>cs
 | v=>[v]
def Gy :B9->Bool
 | .undef | .tup _ | .obj _=>false
 | _=>true
def j6c :B9->Bool
 | .slv _ _ _ _ | .sl _ _ _ _ | .sla _ _ _ _ _ | .ptr _ _ | .epa _ _ _ _ | .nils | .mapr _ | .obj _=>false
 | _=>true
def Cz :B9->Bool
 | .undef | .agg _ | .tup _ | .obj _=>false
 | _=>true
def ZU (P:Program) (t:TypeId):Option Bool:=
 match P.underlying t with
 | some (.struct _) | some (.array _ _)=>some true
 | some _=>some false
 | none=>none
def cut (cs:zy) (off n:Nat):Option zy:=
 let p:=(cs.drop off).take n
 bif Nat.beq p.length n then some p else none
def FF (P:Program) (t:TypeId) (cs:zy) (off:Nat):Option B9:=
 match ZU P t,P.info? t with
 | some true,some i=>(cut cs off i.size).map .agg
 | some false,some _=>cs[off]?
 | _,_=>none
def Gz (rec:TypeId->B9->B9->Option Bool) (P:Program) (xs ys:zy):List (TypeId×Nat)->Option Bool
 | []=>some true
 | (t,off)::r=>
  match FF P t xs off,FF P t ys off with
  | some a,some b=>match rec t a b,Gz rec P xs ys r with
   | some e,some f=>some (e&&f)
   | _,_=>none
  | _,_=>none
def RB (P:Program):Nat->TypeId->B9->B9->Option Bool
 | 0,_,_,_=>none
 | d+1,t,x,y=>
  match P.underlying t with
  | some .bool =>match x,y with
   | .bool a,.bool b=>some (a == b)
   | _,_=>none
  | some (.int _)=>match x,y with
   | .int k a,.int k' b=>if k=k' then some (a == b) else none
   | _,_=>none
  | some .string =>match x,y with
   | .str a,.str b=>some (a == b)
   | _,_=>none
  | some (.array n e)=>match x,y,P.info? e with
   | .agg xs,.agg ys,some i=>Gz (RB P d) P xs ys ((List.range n).map fun j=>(e,j*i.size))
   | _,_,_=>none
  | some (.struct fs)=>match x,y with
   | .agg xs,.agg ys=>
    bif P.stoodInHeld t then none else bif fs.toList.any (fun f=>f.name == "_") then none else
    Gz (RB P d) P xs ys (fs.toList.map fun f=>(f.type,f.offset))
   | _,_=>none
  | _=>none
def SD (op:BinOp) (k:IntKind) (a b:Int):Option Int:=
 match op with
 | .and =>some (k.wrap ((BitVec.ofInt k.bits a)&&& (BitVec.ofInt k.bits b)).toNat)
 | .or =>some (k.wrap ((BitVec.ofInt k.bits a)||| (BitVec.ofInt k.bits b)).toNat)
 | .xor =>some (k.wrap ((BitVec.ofInt k.bits a) ^^^ (BitVec.ofInt k.bits b)).toNat)
 | .andNot =>some (k.wrap ((BitVec.ofInt k.bits a)&&& ~~~(BitVec.ofInt k.bits b)).toNat)
 | _=>none
def RC (P:Program) (op:BinOp) (t:TypeId) (x y:B9):Option (B9×Bool):=
 match x,y with
 | .int k a,.int k' b=>
  match op with
  | .shl =>some (.int k (k.wrap (a*2 ^ (min b.toNat k.bits))),!decide (b<0))
  | .shr =>some (.int k (a.fdiv (2 ^ (min b.toNat k.bits))),!decide (b<0))
  | _=>if k=k' then
    match op with
    | .add =>some (.int k (k.wrap (a+b)),true)
    | .sub =>some (.int k (k.wrap (a - b)),true)
    | .mul =>some (.int k (k.wrap (a*b)),true)
    | .quo =>some (.int k (k.wrap (a.tdiv b)),!decide (b=0))
    | .rem =>some (.int k (a.tmod b),!decide (b=0))
    | .eql =>some (.bool (a == b),true)
    | .neq =>some (.bool (a != b),true)
    | .lss =>some (.bool (decide (a<b)),true)
    | .leq =>some (.bool (decide (a<=b)),true)
    | .gtr =>some (.bool (decide (a>b)),true)
    | .geq =>some (.bool (decide (a>=b)),true)
    | op=>(SD op k a b).map fun n=>(.int k n,true)
   else none
 | .bool a,.bool b=>match P.underlying t with
  | some .bool =>match op with
   | .eql =>some (.bool (a == b),true)
   | .neq =>some (.bool (!(a == b)),true)
   | _=>none
  | _=>none
 | .agg a,.agg b=>
  bif P.eqGuardType P.depth t then none else
  match op with
  | .eql =>(RB P 30 t (.agg a) (.agg b)).map fun r=>(.bool r,true)
  | .neq =>(RB P 30 t (.agg a) (.agg b)).map fun r=>(.bool (!r),true)
  | _=>none
 | .sl _ _ _ _,.nils =>match P.underlying t with
  | some (.slice _)=>match op with
   | .eql =>some (.bool false,true)
   | .neq =>some (.bool true,true)
   | _=>none
  | _=>none
 | .nnl _ _,.nils =>match P.underlying t with
  | some (.slice _)=>match op with
   | .eql =>some (.bool false,true)
   | .neq =>some (.bool true,true)
   | _=>none
  | _=>none
 | .nils,.nils =>match P.underlying t with
  | some (.slice _)=>match op with
   | .eql =>some (.bool true,true)
   | .neq =>some (.bool false,true)
   | _=>none
  | _=>none
 | .str a,.str b=>match op with
  | .eql =>some (.bool (a == b),true)
  | .neq =>some (.bool (!(a == b)),true)
  | .add =>some (.str (a++b),Nat.ble (a.length+b.length) 9223372036854775807)
  | .lss =>some (.bool (Op.bytesLess a b),true)
  | .leq =>some (.bool (Op.bytesLess a b||a == b),true)
  | .gtr =>some (.bool (!(Op.bytesLess a b||a == b)),true)
  | .geq =>some (.bool (!Op.bytesLess a b),true)
  | _=>none
 | _,_=>none
def aUn (op:UnOp) (x:B9):Option B9:=
 match op,x with
 | .neg,.int k n=>some (.int k (k.wrap (0 - n)))
 | .xor,.int k n=>(SD .xor k (if k.signed then -1 else k.max) n).map (.int k)
 | .not,.bool b=>some (.bool !b)
 | _,_=>none
def HS (place:Nat->Option (Nat×Nat)) (cells:zy):List (Nat×B9)->Option zy
 | []=>some cells
 | (i,v)::r=>
  match place i with
  | none=>none
  | some (off,size)=>
   bif Gy v&&Nat.beq v.cells.length size&&Nat.ble (off+size) cells.length then
    HS place (cells.take off++v.cells++cells.drop (off+size)) r
   else none
def EZ (P:Program) (t:TypeId):Option zy:=
 match P.info? t with
 | some i=>i.zero.map fun v=>(Oq v).cells
 | none=>none
def Qg (P:Program):List Field->Option (List (Nat×Nat))
 | []=>some []
 | f::r=>match P.info? f.type,Qg P r with
  | some i,some l=>some ((f.offset,i.size)::l)
  | _,_=>none
def v8p (P:Program) (t:TypeId) (parts:List (Nat×B9)):Option B9:=
 match P.underlying t,EZ P t with
 | some (.struct fs),some zero=>match Qg P fs.toList with
  | some pl=>(HS (pl[·]?) zero parts).map .agg
  | none=>none
 | some (.array _ e),some zero=>match P.info? e with
  | some i=>(HS (fun j=>some (j*i.size,i.size)) zero parts).map .agg
  | none=>none
 | _,_=>none
def y2m (P:Program) (t:TypeId) (x i:B9):Option (B9×Bool):=
 match P.underlying t,x,i with
 | some (.array len e),.ptr b off,.int _ i=>(P.info? e).map fun s=>(.ptr b (off+i.toNat*s.size),decide (0<=i/\i<len))
 | some (.array len e),.dptr cs,.int _ i=>(P.info? e).map fun s=>(.dptr (cs.drop (i.toNat*s.size)),decide (0<=i/\i<len))
 | some (.slice e),.sl b off len _,.int _ i=>(P.info? e).map fun s=>(.ptr b (off+i.toNat*s.size),decide (0<=i/\i<len))
 | some (.slice e),.dat len get,.int _ i=>(P.info? e).map fun s=>(.dptr (get i.toNat),decide (0<=i/\i<len)&&Nat.beq (get i.toNat).length s.size)
 | some (.slice e),.sla b sz off len _,.int _ i=>(P.info? e).map fun s=>(.epa b sz (off+i.toNat) 0,decide (0<=i/\i<len)&&Nat.beq s.size sz)
 | some (.slice e),.slv b sz off len,.int _ i=>(P.info? e).map fun s=>(.epa b sz (off+i.toNat) 0,decide (0<=i/\i<len)&&Nat.beq s.size sz)
 | some (.array len e),.epa b sz r fo,.int _ i=>(P.info? e).map fun s=>(.epa b sz r (fo+i.toNat*s.size),decide (0<=i/\i<len))
 | _,_,_=>none
def y2n (P:Program) (t:TypeId) (x:B9) (f:Nat):Option B9:=
 match P.underlying t with
 | some (.struct fs)=>match fs[f]? with
  | some f=>match P.info? f.type with
   | some i=>bif Nat.beq i.size 0 then none else match x with
    | .ptr b off=>some (.ptr b (off+f.offset))
    | .dptr cs=>some (.dptr (cs.drop f.offset))
    | .epa b sz r fo=>some (.epa b sz r (fo+f.offset))
    | _=>none
   | none=>none
  | none=>none
 | _=>none
def v8n (P:Program) (t:TypeId) (x:B9) (f:Nat):Option B9:=
 match P.underlying t,x with
 | some (.struct fs),.agg cs=>match fs[f]? with
  | some f=>FF P f.type cs f.offset
  | none=>none
 | _,_=>none
def Cl (s:zu) (n:Nat):Int:=((s.getD n 0).toNat :Int)
def v8m (P:Program) (t:TypeId) (x i:B9):Option (B9×Bool):=
 match P.underlying t,x,i with
 | some (.array len e),.agg cs,.int _ i=>
  match P.info? e with
  | some s=>(FF P e cs (i.toNat*s.size)).map fun v=>(v,decide (0<=i/\i<len))
  | none=>none
 | some .string,.str s,.int _ i=>some (.int .u8 (Cl s i.toNat),decide (0<=i/\i<s.length))
 | _,_,_=>none
def Jc (x y:Int):Int:=if y<x then y else x
def Jd (x y:Int):Int:=if y>x then y else x
def Sy (k:IntKind) (x:Int):zy->Option Int
 | []=>some x
 | .int _ y::r=>Sy k (Jc x y) r
 | _=>none
def Sx (k:IntKind) (x:Int):zy->Option Int
 | []=>some x
 | .int _ y::r=>Sx k (Jd x y) r
 | _=>none
def XH (P:Program) (b:Builtin) (argTypes:List TypeId) (args:zy):Option B9:=
 match b,argTypes,args with
 | .len,t::_,x::_=>match P.underlying t,x with
  | some .string,.str s=>some (.int .i64 s.length)
  | some (.array n _),_=>some (.int .i64 n)
  | some (.slice _),.sl _ _ n _=>some (.int .i64 n)
  | some (.slice _),.nils =>some (.int .i64 0)
  | some (.slice _),.dat n _=>some (.int .i64 n)
  | some (.slice _),.sla _ _ _ n _=>some (.int .i64 n)
  | some (.slice _),.slv _ _ _ n=>some (.int .i64 n)
  | _,_=>none
 | .min,_,.int k x::r=>(Sy k x r).map (.int k)
 | .max,_,.int k x::r=>(Sx k x r).map (.int k)
 | .cap,t::_,x::_=>match P.underlying t,x with
  | some (.slice _),.sl _ _ _ (.ex c)=>some (.int .i64 c)
  | some (.slice _),.nils =>some (.int .i64 0)
  | _,_=>none
 | _,_,_=>none
def Db (st:Operand->B9) (o:Option Operand) (d:Nat):Option (Nat×Bool):=
 match o with
 | none=>some (d,true)
 | some x=>match st x with
  | .int _ i=>some (i.toNat,decide (0<=i))
  | _=>none
def pd (p:Prop):Bool:= @decide p (Classical.propDecidable p)
def Ol (b:Bool) (p:Prop):Bool:=b||pd p
def I2 (n:Nat) (g:Nat->zy) (sz:Nat):Bool:=Ol ((List.range n).all fun i=>Nat.beq (g i).length sz) (∀i,i<n->(g i).length =sz)
def ES (sz n:Nat) (g:Nat->zy):Bool:=Ol ((List.range n).all fun i=>Nat.beq (g i).length sz&&(g i).all Cz) (∀i,i<n->(g i).length =sz/\(g i).all Cz=true)
def v8k (P:Program) (ev:Operand->B9) (t:TypeId) (x:Operand) (lo hi mx:Option Operand):Option (B9×Bool):=
 match P.underlying t,ev x with
 | some (.slice e),.nils =>
  match P.info? e,mx,Db ev lo 0,Db ev hi 0 with
  | some _,none,some (l,a),some (h,b)=>some (.nils,a&&b&&Nat.beq l 0&&Nat.beq h 0)
  | _,_,_,_=>none
 | some (.slice e),.sl b off len (.ex c)=>
  match P.info? e,Db ev mx c,Db ev hi len,Db ev lo 0 with
  | some s,some (m,x1),some (h,x2),some (l,x3)=>
   if mx.isSome&&hi.isNone then none else
   some (.sl b (bif Nat.beq m l then off else off+l*s.size) (h - l) (.ex (m - l)),x1&&x2&&x3&&Nat.ble m c&&Nat.ble h m&&Nat.ble l h)
  | _,_,_,_=>none
 | some (.slice e),.sl b off len (.un z)=>
  match P.info? e,mx,Db ev hi len,Db ev lo 0 with
  | some s,none,some (h,x2),some (l,x3)=>
   bif Nat.beq z s.size then
    bif Nat.beq h l&&Nat.ble 1 l then some (.dat 0 (fun _=>[]),x2&&x3&&Nat.ble h len) else
    some (.sl b (off+l*s.size) (h - l) (.un z),x2&&x3&&Nat.ble h len&&Nat.ble l h&&(Nat.ble (l+1) len||Nat.beq l 0))
   else none
  | some s,some _,some (h,x2),some (l,x3)=>
   match Db ev mx 0 with
   | some (m,x1)=>
    bif Nat.beq z s.size&&hi.isSome then
     some (.sl b (bif Nat.beq m l then off else off+l*s.size) (h - l) (.ex (m - l)),x1&&x2&&x3&&Nat.ble m len&&Nat.ble h m&&Nat.ble l h)
    else none
   | none=>none
  | _,_,_,_=>none
 | some (.slice e),.sla b sz off len (.un z)=>
  match P.info? e,mx,Db ev hi len,Db ev lo 0 with
  | some s,none,some (h,x2),some (l,x3)=>
   bif Nat.beq z s.size&&Nat.beq sz z then
    bif lo.isSome then some (.slv b sz (off+l) (h - l),x2&&(x3&&(decide (h<=len)&&decide (l<=h)))) else
    some (.sla b sz (off+l) (h - l) (.un z),x2&&(x3&&(decide (h<=len)&&(decide (l<=h)&&(decide (l<len)||Nat.beq l 0)))))
   else none
  | _,_,_,_=>none
 | some (.slice e),.slv b sz off len=>
  match P.info? e,mx,Db ev hi len,Db ev lo 0 with
  | some s,none,some (h,x2),some (l,x3)=>
   bif Nat.beq sz s.size then some (.slv b sz (off+l) (h - l),x2&&(x3&&(decide (h<=len)&&decide (l<=h)))) else none
  | _,_,_,_=>none
 | some (.slice e),.dat len get=>
  match P.info? e,mx,Db ev hi len,Db ev lo 0 with
  | some s,none,some (h,x2),some (l,x3)=>some (.dat (h - l) (fun k=>get (l+k)),x2&&(x3&&(decide (h<=len)&&(decide (l<=h)&&I2 len get s.size))))
  | _,_,_,_=>none
 | some (.array n e),.ptr b off=>
  match P.info? e,Db ev mx n,Db ev hi n,Db ev lo 0 with
  | some s,some (m,x1),some (h,x2),some (l,x3)=>
   if mx.isSome&&hi.isNone then none else
   some (.sl b (bif Nat.beq m l then off else off+l*s.size) (h - l) (.ex (m - l)),x1&&x2&&x3&&Nat.ble m n&&Nat.ble h m&&Nat.ble l h)
  | _,_,_,_=>none
 | some .string,.str s=>
  match mx,Db ev hi s.length,Db ev lo 0 with
  | none,some (h,x2),some (l,x3)=>some (.str ((s.drop l).take (h - l)),x2&&(x3&&(decide (h<=s.length)&&decide (l<=h))))
  | _,_,_=>none
 | _,_=>none
def Qc (P:Program) (op:Op) (ev:Operand->B9):Option (B9×Bool):=
 match op with
 | .move x | .assign x=>some (ev x,true)
 | .pick c a b=>match ev c with
  | .bool c=>some (bif c then ev a else ev b,true)
  | _=>none
 | .build t parts=>(v8p P t (parts.toList.map fun p=>(p.1,ev p.2))).map (·,true)
 | .nilCheck x=>match ev x with
  | .ptr b o=>some (.ptr b o,true)
  | .epa b sz r fo=>some (.epa b sz r fo,true)
  | .dptr cs=>some (.dptr cs,true)
  | .fn f c=>some (.fn f c,true)
  | .fnb f c=>some (.fnb f c,true)
  | _=>none
 | .binOp op t x y _=>RC P op t (ev x) (ev y)
 | .unOp op _ x=>(aUn op (ev x)).map (·,true)
 | .convert src dst x=>match P.underlying src,P.underlying dst,ev x with
  | some _,some (.int k),.int _ n=>some (.int k (k.wrap n),true)
  | _,_,_=>none
 | .makeInterface t x=>match P.underlying t with
  | some (.interface _) | none=>none
  | some _=>some (.ifc t (ev x),true)
 | .makeFunc (.func f) first captured=>bif first.isEmpty then some (.fn f (captured.toList.map ev),true) else bif captured.isEmpty then some (.fnb f (first.toList.map ev),true) else none
 | .fieldAddr t x f=>(y2n P t (ev x) f).map (·,true)
 | .field t x f=>(v8n P t (ev x) f).map (·,true)
 | .indexAddr t x i=>y2m P t (ev x) (ev i)
 | .index t x i=>v8m P t (ev x) (ev i)
 | .extract x i=>match ev x with
  | .tup vs=>(vs[i]?).map (·,true)
  | _=>none
 | .slice t x lo hi mx=>v8k P ev t x lo hi mx
 | .call {callee:=.builtin b,args,argTypes}=>(XH P b argTypes.toList (args.toList.map ev)).map (·,true)
 | _=>none
def Na (P:Program) (m:CJ) (t:TypeId) (x:B9):Option B9:=
 match x with
 | .ptr b off=>match Yn m b with
  | some blk=>bif blk.isObj then none else FF P t blk.cells off
  | none=>none
 | .dptr cs=>FF P t cs 0
 | _=>none
def NW (P:Program) (m:CJ) (t:TypeId) (x:B9):Option (B9×Bool):=
 match x with
 | .epa b sz r fo=>match Yn m b with
  | some blk=>match blk.arr with
   | some A=>(FF P t (A.get r) fo).map (·,Nat.beq A.sz sz&&decide (r<A.n))
   | none=>none
  | none=>none
 | x=>(Na P m t x).map (·,true)
def Iu :Cs->Nat->St->zy×St
 | .flat g,r,st=>(g r,st)
 | .one r0 cs b,r,st=>match st.test (Nat.beq r r0) with
  | (e,st)=>bif e then (cs,st) else Iu b r st
 | .alt c a b,r,st=>match st.test (c r) with
  | (e,st)=>bif e then Iu a r st else Iu b r st
def v8l (P:Program) (st:St) (t:TypeId) (x:B9):Option (B9×Bool×St):=
 match x with
 | .epa b sz r fo=>match Yn st.mem b with
  | some blk=>match blk.arr with
   | some A=>match Iu A.rw r st with
    | (cs,st1)=>(FF P t cs fo).map (·,Nat.beq A.sz sz&&decide (r<A.n),st1)
   | none=>none
  | none=>none
 | x=>(Na P st.mem t x).map (·,true,st)
def NX (P:Program) (floor:Nat) (st:St) (t:TypeId) (x v:B9):Option St:=
 match x,P.info? t with
 | .ptr b off,some i=>
  let cs:=v.cells
  bif Nat.ble floor b&&Nat.beq cs.length i.size&&Gy v&&cs.all Cz then
   match Yn st.mem b with
   | some blk=>
    bif !blk.isObj&&Nat.ble (off+i.size) blk.cells.length then
     some (st.withMem (Wv st.mem b (some ⟨blk.cells.take off++cs++blk.cells.drop (off+i.size),blk.ty,none⟩)))
    else none
   | none=>none
  else none
 | _,_=>none
def Xi (get:Nat->zy) (r fo:Nat) (cs:zy):Nat->zy:=fun k=>bif Nat.beq k r then (get r).take fo++cs++(get r).drop (fo+cs.length) else get k
def setRow (A:Da) (r fo:Nat) (cs:zy) (st:St):Option (Cs×St):=
 match A.rw with
 | .flat g=>bif cs.all j6c then some (.flat (Xi g r fo cs),st) else bif Nat.beq fo 0&&Nat.beq cs.length A.sz then some (.one r cs (.flat g),st) else some (.one r ((g r).take fo++cs++(g r).drop (fo+cs.length)) (.flat g),st)
 | .one r0 c0 b=>match st.test (Nat.beq r r0) with
  | (e,st1)=>bif e&&Nat.beq fo 0&&Nat.beq cs.length A.sz then some (.one r0 cs b,st1) else bif e then some (.one r0 (c0.take fo++cs++c0.drop (fo+cs.length)) b,st1) else none
 | .alt c a b=>bif Nat.beq fo 0&&Nat.beq cs.length A.sz then some (.one r cs (.alt c a b),st) else none
def Mg (P:Program) (cx:CP) (st:St) (t:TypeId) (x v:B9):Option St:=
 match x,P.info? t with
 | .epa b sz r fo,some i=>
  bif Nat.ble cx.floor b&&Nat.beq v.cells.length i.size&&Gy v&&v.cells.all Cz&&Nat.ble (fo+i.size) sz then
   match Yn st.mem b with
   | some blk=>match blk.arr with
    | some A=>match setRow A r fo v.cells st with
     | some (rw,st1)=>(st1.withMem (Wv st1.mem b (some ⟨rows A.n rw.get,blk.ty,some ⟨A.sz,A.n,rw⟩⟩))).owe cx (Nat.beq A.sz sz&&decide (r<A.n))
     | none=>none
    | none=>none
   | none=>none
  else none
 | _,_=>none
def Cr :St->zy->TypeId->St
 | ⟨env,mem,next,orc,ob⟩,cells,ty=>⟨env,Wv mem next (some ⟨cells,ty,none⟩),next+1,orc,ob⟩
def DC (n:Nat) (l:zy):zy:=(List.replicate n l).flatten
def Kj (P:Program) (u:Bool) (st:St) (t:TypeId) (len:Nat) (parts:List (Nat×B9)):Option (B9×St):=
 match P.underlying t with
 | some (.slice e)=>match P.info? e,EZ P e with
  | some i,some zero=>
   bif Nat.ble (len*i.size) 16777216&&Nat.beq zero.length i.size then
    match HS (fun j=>some (j*i.size,i.size)) (DC len zero) parts with
    | some cells=>some (.sl st.next 0 len (bif u&&Nat.beq cells.length (len*i.size) then .un i.size else .ex len),Cr st cells e)
    | none=>none
   else none
  | _,_=>none
 | _=>none
def Un (P:Program) (st:St) (t:TypeId) (l c:B9):Option (B9×St):=
 match P.underlying t,l,c with
 | some (.slice e),.int _ l,.int _ c=>match P.info? e,EZ P e with
  | some i,some zero=>
   bif Nat.beq zero.length i.size&&(decide (0<=l)&&decide (l<=c)&&decide (c*i.bytes<=1099511627776)&&decide (c<=1099511627776)) then
    some (.sl st.next 0 l.toNat (.ex c.toNat),Cr st (DC c.toNat zero) e)
   else none
  | _,_=>none
 | _,_,_=>none
def Ku (P:Program) (cx:CP) (st:St) (t:TypeId) (l c:B9):Option (B9×St):=
 match P.underlying t,l,c with
 | some (.slice e),.int _ l,.int _ c=>match P.info? e,EZ P e with
  | some i,some zero=>
   bif Nat.beq zero.length i.size&&Nat.ble 1 i.size then
    (St.owe cx (match Cr st (rows c.toNat fun _=>zero) e with
      | ⟨env,_,next,orc,ob⟩=>⟨env,Wv st.mem st.next (some ⟨rows c.toNat fun _=>zero,e,some ⟨i.size,c.toNat,.flat fun _=>zero⟩⟩),next,orc,ob⟩)
     (decide (0<=l)&&decide (l<=c)&&decide (c*i.bytes<=1099511627776)&&decide (c<=1099511627776))).map (.sla st.next i.size 0 l.toNat (.un i.size), ·)
   else none
  | _,_=>none
 | _,_,_=>none
def Xp (m:CJ) (sz:Nat):B9->Option (Nat×zy)
 | .nils =>some (0,[])
 | .sl b off len _=>match Yn m b with
  | some blk=>bif blk.isObj then none else (cut blk.cells off (len*sz)).map (len, ·)
  | none=>none
 | _=>none
def Jm :Nat:=1099511627776
def Uo (m:CJ) (sz:Nat) (zero:zy) (ut:TypeDesc) (x:B9):Option (Nat×zy):=
 match ut with
 | .int _=>match x with
  | .int _ n=>bif decide (0<=n) then some (n.toNat,DC n.toNat zero) else none
  | _=>none
 | _=>Xp m sz x
def GC (P :Program) (floor:Nat) (st:St) (argTypes:List TypeId) (args:zy):Option (B9×St):=
 match argTypes,args with
 | t :: u ::_,s::x::_=>match P.underlying t,P.underlying u with
  | some (.slice e),some ut=>match P.info? e,EZ P e with
   | some i,some zero=>match Uo st.mem i.size zero ut x with
    | some (n,new)=>
     bif Nat.beq zero.length i.size&&Nat.beq new.length (n*i.size)&&Nat.ble 1 i.size&&new.all Cz then
     match s with
     | .nils =>
      bif Nat.beq n 0 then some (.nils,st) else
      bif Nat.ble ((n+1)*(i.bytes+1)) Jm then
       some (.sl st.next 0 n (.un i.size),Cr st new e) else none
     | .sl b off len cap=>
      match Yn st.mem b with
      | some blk=>
       match cut blk.cells off (len*i.size) with
       | some old=>
        bif !blk.isObj&&Nat.ble ((len+n+1)*(i.bytes+1)) Jm then
        match cap with
        | .ex c=>
         bif Nat.ble (len+n) c then
          bif Nat.ble floor b&&Nat.ble (off+(len+n)*i.size) blk.cells.length then
           some (.sl b off (len+n) cap,st.withMem (Wv st.mem b (some ⟨blk.cells.take (off+len*i.size)++new++blk.cells.drop (off+(len+n)*i.size),blk.ty,none⟩)))
          else none
         else some (.sl st.next 0 (len+n) (.un i.size),Cr st (old++new) e)
        | .un z=>
         bif Nat.beq z i.size&&Nat.ble floor b then
          bif Nat.ble (off+(len+n)*i.size) blk.cells.length then
           some (.sl b off (len+n) cap,st.withMem (Wv st.mem b (some ⟨blk.cells.take (off+len*i.size)++new++blk.cells.drop (off+(len+n)*i.size),blk.ty,none⟩)))
          else bif Nat.beq (off+len*i.size) blk.cells.length then
           some (.sl st.next 0 (len+n) (.un i.size),Cr (st.withMem (Wv st.mem b none)) (old++new) e)
          else none
         else none
        else none
       | none=>none
      | none=>none
     | _=>none
     else none
    | none=>none
   | _,_=>none
  | _,_=>none
 | _,_=>none
def Zf (get:Nat->zy) (off len sz:Nat) (new:zy):Nat->zy:=fun k=>bif Nat.ble len k then (new.drop ((k - len)*sz)).take sz else get (off+k)
def NL (P:Program) (cx:CP) (st:St) (argTypes:List TypeId) (args:zy):Option (B9×St):=
 match argTypes,args with
 | t :: u ::_,.sla b sz off len (.un z)::x::_=>match P.underlying t,P.underlying u with
  | some (.slice e),some ut=>match ut with
   | .int _=>none
   | _ => match P.info? e with
    | some i=>match Xp st.mem i.size x,EZ P e,Yn st.mem b with
     | some (n,new),some zero,some blk=>match blk.arr with
      | some A=>
       bif Nat.beq zero.length i.size&&Nat.beq new.length (n*i.size)&&Nat.ble 1 i.size&&new.all Cz&&Nat.beq sz i.size&&Nat.beq z sz&&Nat.ble cx.floor b&&Nat.ble 1 n then
        (St.owe cx (match Cr (st.withMem (Wv st.mem b none)) (rows (len+n) (Zf A.get off len sz new)) e with
          | ⟨env,_,next,orc,ob⟩=>⟨env,Wv (Wv st.mem b none) st.next (some ⟨rows (len+n) (Zf A.get off len sz new),e,some ⟨sz,len+n,Zf A.get off len sz new⟩⟩),next,orc,ob⟩)
         (Nat.beq A.sz sz&&(decide (off+len=A.n)&&decide ((len+n+1)*(i.bytes+1)<=Jm)))).map (.sla st.next sz 0 (len+n) (.un sz), ·)
       else none
      | none=>none
     | _,_,_=>none
    | none=>none
  | _,_=>none
 | _,_=>none
def Mb (sz len:Nat):FO->Bool
 | .un z=>Nat.beq z sz
 | .ex c=>Nat.ble c len
def RT (m:CJ) (sz:Nat):B9->Option (Option Nat×Nat×(Nat->zy)×Bool)
 | .nils =>some (none,0,fun _=>[],true)
 | .sl b off len cap=>match Yn m b with
  | some blk=>match cut blk.cells off (len*sz) with
   | some old=>bif !blk.isObj&&(Mb sz len cap&&Nat.ble off blk.cells.length) then some (some b,len,fun k=>(old.drop (k*sz)).take sz,true) else none
   | none=>none
  | none=>none
 | .sla b z off len cap=>match Yn m b with
  | some blk=>match blk.arr with
   | some A=>bif Mb sz len cap then some (some b,len,fun k=>A.get (off+k),Nat.beq z sz&&(Nat.beq A.sz sz&&decide (off+len<=A.n))) else none
   | none=>none
  | none=>none
 | _=>none
def Z1 (s:zu):Nat->zy:=fun k=>[.int .u8 (Cl s k)]
def ZL (m:CJ) (sz:Nat) (zero:zy) (ut:TypeDesc):B9->Option (Nat×(Nat->zy)×Bool)
 | .int _ n=>match ut with
  | .int _=>some (n.toNat,fun _=>zero,decide (0<=n))
  | _=>none
 | .dat n g=>match ut with
  | .int _=>none
  | _=>some (n,g,ES sz n g)
 | .nils =>match ut with
  | .int _=>none
  | _=>some (0,fun _=>[],true)
 | .sla b z off len _=>match ut with
  | .int _=>none
  | _=>match Yn m b with
   | some ⟨_,_,some A⟩=>some (len,fun k=>A.get (off+k),Nat.beq z sz&&(Nat.beq A.sz sz&&(decide (off+len<=A.n)&&ES sz len fun k=>A.get (off+k))))
   | _=>none
 | .str s=>match ut with
  | .string =>bif Nat.beq sz 1 then some (s.length,Z1 s,true) else none
  | _=>none
 | _=>none
def unN :B9->B9
 | .nnl n g=>.dat n g
 | v=>v
def Jq (get:Nat->zy) (len:Nat) (g:Nat->zy):Nat->zy:=fun k=>bif Nat.ble len k then g (k - len) else get k
def v7c (floor:Nat):Option Nat->Bool
 | some b=>Nat.ble floor b
 | none=>true
def Nh (m:CJ):Option Nat->CJ
 | some b=>Wv m b none
 | none=>m
def HE (P:Program) (cx:CP) (st:St) (argTypes:List TypeId) (args:zy):Option (B9×St):=
 match argTypes,args with
 | t :: u::_,s::x::_=>match P.underlying t,P.underlying u with
  | some (.slice e),some ut=>match P.info? e,EZ P e with
   | some i,some zero=>match RT st.mem i.size s,ZL st.mem i.size zero ut (unN x) with
    | some (b,len,get,o1),some (n,g,o2)=>
     bif Nat.beq zero.length i.size&&zero.all Cz&&Nat.ble 1 i.size&&v7c cx.floor b then
      (St.owe cx (match Cr (st.withMem (Nh st.mem b)) (rows (len+n) (Jq get len g)) e with
        | ⟨env,_,next,orc,ob⟩=>⟨env,Wv (Nh st.mem b) st.next (some ⟨rows (len+n) (Jq get len g),e,some ⟨i.size,len+n,Jq get len g⟩⟩),next,orc,ob⟩)
       (o1&&(o2&&decide ((len+n+1)*(i.bytes+1)<=Jm)))).map (.sla st.next i.size 0 (len+n) (.un i.size), ·)
     else none
    | _,_=>none
   | _,_=>none
  | _,_=>none
 | _,_=>none
def VR :B9->Bool
 | .dat _ _=>true
 | .nnl _ _=>true
 | .sla _ _ _ _ _=>true
 | .str _=>true
 | _=>false
def j6d :B9->B9->Bool
 | .sla _ _ _ _ _,.nils =>true
 | _,_=>false
def Oy (P:Program) (cx:CP) (argTypes:List TypeId) (args:zy):Bool:=
 match argTypes,args with
 | _::u::_,s::x::_=>VR x||(j6d s x||cx.sym&&(match P.underlying u with
  | some (.int _)=>true
  | _=>false))
 | _,_=>false
def J4 (mem:CJ) (e:TypeId) (b:Nat):Bool:=match Yn mem b with
 | some blk=>Nat.beq blk.ty e
 | none=>true
def tyOk (P:Program) (mem:CJ) (argTypes:List TypeId) (args:zy):Bool:=
 match argTypes,args with
 | t::_,s::_=>match P.underlying t with
  | some (.slice e)=>match s with
   | .sl b _ _ _=>J4 mem e b
   | .sla b _ _ _ _=>J4 mem e b
   | _=>true
  | _=>true
 | _,_=>true
def JA (P:Program) (cx:CP) (st:St) (argTypes:List TypeId) (args:zy):Option (B9×St):=
 bif !tyOk P st.mem argTypes args then none else
 bif Oy P cx argTypes args then HE P cx st argTypes args else
 match args with
 | .sla b sz off len cap::r=>NL P cx st argTypes (.sla b sz off len cap::r)
 | args=>GC P cx.floor st argTypes args
def N9 (P:Program) (floor:Nat) (st:St) (argTypes:List TypeId) (args:zy):Option (B9×St):=
 match argTypes,args with
 | t :: _,d::x::_=>match P.underlying t with
  | some (.slice e)=>match P.info? e with
   | some i=>match Xp st.mem i.size x with
    | some (m,src)=>
     bif Nat.beq src.length (m*i.size)&&src.all Cz then
     match d with
     | .nils =>some (.int .i64 0,st)
     | .dat n _=>bif Nat.beq n 0 then some (.int .i64 0,st) else none
     | .sl b off len _=>
      let n:=Nat.min m len
      match Yn st.mem b with
      | some blk=>
       bif !blk.isObj&&(Nat.ble floor b&&Nat.ble (off+n*i.size) blk.cells.length) then
        some (.int .i64 n,st.withMem (Wv st.mem b (some ⟨blk.cells.take off++src.take (n*i.size)++blk.cells.drop (off+n*i.size),blk.ty,none⟩)))
       else none
      | none=>none
     | _=>none
     else none
    | none=>none
   | none=>none
  | _=>none
 | _,_=>none
def w3u (m:CJ) (sz:Nat):B9->Option (Nat×(Nat->zy)×Bool)
 | .nils =>some (0,fun _=>[],true)
 | .dat n g=>some (n,g,ES sz n g)
 | .sla b z off len _=>match Yn m b with
  | some blk=>match blk.arr with
   | some A=>some (len,fun k=>A.get (off+k),Nat.beq z sz&&(Nat.beq A.sz sz&&(decide (off+len<=A.n)&&ES sz len fun k=>A.get (off+k))))
   | none=>none
  | none=>none
 | .slv b z off len=>match Yn m b with
  | some blk=>match blk.arr with
   | some A=>some (len,fun k=>A.get (off+k),Nat.beq z sz&&(Nat.beq A.sz sz&&(decide (off+len<=A.n)&&ES sz len fun k=>A.get (off+k))))
   | none=>none
  | none=>none
 | _=>none
def Uh (get:Nat->zy) (off n:Nat) (g:Nat->zy):Nat->zy:=fun k=>bif Nat.ble off k&&Nat.ble (k+1) (off+n) then g (k - off) else get k
def JL (P:Program) (cx:CP) (st:St) (argTypes:List TypeId) (b sz off len:Nat) (x:B9):Option (B9×St):=
 match argTypes with
 | t ::_=>match P.underlying t with
  | some (.slice e)=>match P.info? e,Yn st.mem b with
   | some i,some blk=>match blk.arr,w3u st.mem i.size x with
    | some A,some (m,g,o)=>
     bif Nat.ble cx.floor b&&Nat.ble 1 i.size then
      (St.owe cx (st.withMem (Wv st.mem b (some ⟨rows A.n (Uh A.get off (Nat.min m len) g),blk.ty,some ⟨A.sz,A.n,Uh A.get off (Nat.min m len) g⟩⟩)))
       (Nat.beq sz i.size&&(Nat.beq A.sz sz&&(decide (off+len<=A.n)&&o)))).map (.int .i64 (Nat.min m len:Nat), ·)
     else none
    | _,_=>none
   | _,_=>none
  | _=>none
 | _=>none
def Rk (P:Program) (cx:CP) (st:St) (argTypes:List TypeId) (args:zy):Option (B9×St):=
 match args with
 | .sla b sz off len _::x::_=>JL P cx st argTypes b sz off len x
 | .slv b sz off len::x::_=>JL P cx st argTypes b sz off len x
 | args=>N9 P cx.floor st argTypes args
def NV (P:Program) (floor:Nat) (st:St) (argTypes:List TypeId) (args:zy):Option (B9×St):=
 match argTypes,args with
 | t ::_,d::_=>match P.underlying t with
  | some (.slice e)=>match P.info? e,EZ P e with
   | some i,some zero=>match d with
    | .nils =>some (.tup [],st)
    | .sl b off len _=>
     bif Nat.beq len 0 then some (.tup [],st) else
     bif Nat.beq zero.length i.size&&zero.all Cz&&Nat.ble floor b then
     match Yn st.mem b with
     | some blk=>
      bif !blk.isObj&&Nat.ble (off+len*i.size) blk.cells.length then
       some (.tup [],st.withMem (Wv st.mem b (some ⟨blk.cells.take off++DC len zero++blk.cells.drop (off+len*i.size),blk.ty,none⟩)))
      else none
     | none=>none
     else none
    | _=>none
   | _,_=>none
  | _=>none
 | _,_=>none
def FL :zy->Nat->T B9->T B9
 | [],_,t=>t
 | a::r,i,t=>FL r (i+1) (T.set .undef t i a)
def Y6 (P:Program) (st:St):ResultVar->Option B9
 | .tmp t=>some (st.tmp t)
 | .cell a t=>Na P st.mem t (st.tmp a)
def Ko (P:Program) (st:St):List ResultVar->Option zy
 | []=>some []
 | r::l=>match Y6 P st r,Ko P st l with
  | some v,some vs=>some (v::vs)
  | _,_=>none
def Uz :zy->B9
 | [v]=>v
 | vs=>.tup vs
def pf :Nat->B9->Bool
 | 0,_=>false
 | d+1,v=>match v with
  | .bool _ | .int _ _ | .str _ | .nilp | .nils | .nilf | .nili | .ifb _ | .dat _ _ | .dptr _=>true
  | .agg cs | .tup cs=>cs.all (pf d)
  | .fn _ cs=>cs.isEmpty
  | _=>false
inductive Fh where
 | val (F:zy->Option (B9×Bool))
 | eff (F:zy->CJ->Option (B9×Nat×CG×Bool))
 | gro (ty:TypeId) (F:Nat->(Nat->zy)->zy->Option (Nat×(Nat->zy)×Bool))
abbrev CB :=FuncId->Option Fh
abbrev CL :=CP->List Item->St->Option St
def pl :B9->Bool
 | .bool _ | .int _ _=>true
 | _=>false
def Lz (sz n:Nat) (get:Nat->zy):Bool:=pd (∀i,i<n->(get i).length =sz/\(get i).all pl=true)
def I6 (S:CB) (f:FuncId) (args:zy):Option Nat:=match S f with
 | some (.gro _ _)=>match args with
  | .sla b _ _ _ _::_=>some b
  | _=>none
 | _=>none
def scal :B9->Bool
 | .bool _ | .int _ _ | .str _ | .ifb _=>true
 | .tup vs=>vs.all fun v=>match v with
  | .bool _ | .int _ _ | .str _ | .ifb _ | .undef =>true
  | _=>false
 | _=>false
def j1k (P:Program) (m:CJ):B9->B9×Bool
 | .sla b sz off len cap=>match Yn m b with
  | some blk=>match blk.arr with
   | some A=>(.dat len fun k=>A.get (off+k),Nat.beq A.sz sz&&(decide (off+len<=A.n)&&pd (∀i,(A.get i).all (pf 6)=true)))
   | none=>(.undef,true)
  | none=>(.undef,true)
 | .sl b off len _=>match Yn m b with
  | some blk=>match P.info? blk.ty with
   | some i=>(.dat len fun k=>(blk.cells.drop (off+k*i.size)).take i.size,!blk.isObj&&(Nat.ble (off+len*i.size) blk.cells.length&&blk.cells.all (pf 6)))
   | none=>(.undef,true)
  | none=>(.undef,true)
 | v=>(v,true)
def UB (P:Program) (m:CJ):zy->zy×Bool
 | []=>([],true)
 | v::l=>match j1k P m v,UB P m l with
  | (a,o),(az,q)=>(a::az,o&&q)
def SE (P:Program) (S:CB) (R:CL) (lift:Bool) (f:FuncId) (args:zy) (cx:CP) (st:St):Option (B9×St):=
 match S f with
 | some (.val F)=>bif args.all (pf 3) then (match F args with
   | some (v,b)=>bif pf 3 v||scal v then (st.owe cx b).map (v, ·) else none
   | none=>none) else
  match UB P st.mem args with
  | (args',o)=>match F args' with
   | some (v,b)=>bif args'.all (pf 3)&&scal v then (st.owe cx (o&&b)).map (v, ·) else none
   | none=>none
 | some (.eff F)=>match F args st.mem with
  | some (v,b,blk,o)=>match Yn st.mem b with
   | some _=>bif !lift&&Nat.ble cx.floor b then ((st.withMem (Wv st.mem b (some blk))).owe cx o).map (v, ·) else none
   | none=>none
  | none=>none
 | some (.gro ty0 F)=>match args with
  | .sla b sz 0 n (.un sz')::r=>match Yn st.mem b with
   | some ⟨_,ty,some A⟩=>bif (Nat.beq ty ty0&&(Nat.beq sz sz'&&Nat.beq A.sz sz))&&(r.all (pf 3)&&(Nat.ble cx.floor b&&Nat.ble 1 sz)) then
     (match F n A.get r with
     | some (n',g,o)=>(St.owe cx (match st with
      | ⟨env,mem,next,orc,ob⟩=>⟨env,Wv (Wv mem b none) next (some ⟨rows n' g,ty,some ⟨sz,n',.flat g⟩⟩),next+1,orc,ob⟩) (o&&(Nat.beq A.n n&&(Lz sz n A.get&&Lz sz n' g)))).map (.sla st.next sz 0 n' (.un sz), ·)
     | none=>none) else none
   | _=>none
  | _=>none
 | none=>match P.funcs[f]? with
  | some fn=>match fn.body with
   | some body=>
    match R ⟨Nat.max fn.ntmps args.length,bif lift then st.next else cx.floor,cx.sym⟩ [.code body] (st.withEnv (FL args 0 .leaf)) with
    | some st2=>match Ko P st2 fn.results.toList with
     | some vs=>some (Uz vs,st2.withEnv st.env)
     | none=>none
    | none=>none
   | none=>none
  | none=>none
def Vv (P:Program) (S:CB) (R:CL) (lift:Bool) (op:Op) (cx:CP) (st:St):Option (B9×St):=
 match op with
 | .load t x=>match v8l P st t (st.eval x) with
  | some (v,b,st1)=>(st1.owe cx b).map (v, ·)
  | none=>none
 | .alloc t=>(EZ P t).map fun z=>(.ptr st.next 0,Cr st z t)
 | .box t x=>bif Gy (st.eval x) then some (.ptr st.next 0,Cr st (st.eval x).cells t) else none
 | .buildSlice t len parts=>Kj P cx.sym st t len (parts.toList.map fun p=>(p.1,st.eval p.2))
 | .store t a x=>match st.eval a with
  | .epa b sz r fo=>(Mg P cx st t (.epa b sz r fo) (st.eval x)).map (.tup [], ·)
  | y=>(NX P cx.floor st t y (st.eval x)).map (.tup [], ·)
 | .makeSlice t l c=>bif cx.sym then (bif st.nextO then Un P st.dropO t (st.eval l) (st.eval c) else Ku P cx st.dropO t (st.eval l) (st.eval c)) else Un P st t (st.eval l) (st.eval c)
 | .call {callee:=.builtin .append,args,argTypes}=>JA P cx st argTypes.toList (args.toList.map st.eval)
 | .call {callee:=.builtin .copy,args,argTypes}=>Rk P cx st argTypes.toList (args.toList.map st.eval)
 | .call {callee:=.builtin .clear,args,argTypes}=>NV P cx.floor st argTypes.toList (args.toList.map st.eval)
 | .call {callee:=.value f,args,argTypes:=_}=>match st.eval f with
  | .fn g caps=>SE P S R lift g (args.toList.map st.eval++caps) cx st
  | .fnb g first=>SE P S R lift g (first++args.toList.map st.eval) cx st
  | _=>none
 | _=>none
def N4 (P:Program) (S:CB) (R:CL) (lift:Bool) (o:Oper) (cx:CP) (st:St):Option St:=
 match Qc P o.op st.eval with
 | some (v,b)=>match st.owe cx b with
  | some st=>st.put cx o.dst v
  | none=>none
 | none=>match Vv P S R lift o.op cx st with
  | some (v,st)=>st.put cx o.dst v
  | none=>none
def HM (ops:Array Oper) (o:Oper) (cx:CP) (st:St):Option (Bool×St):=
 match o.guard with
 | none=>some (true,st)
 | some (j,want)=>match (ops[j]?).bind (·.dst) with
  | none=>none
  | some d=>match st.tmp d with
   | .bool b=>match st.test b with
    | (e,st1)=>match st1.put cx (some d) (.bool e) with
     | some st2=>some (e == want,st2)
     | none=>none
   | .tup []=>some (false,st)
   | _=>none
def Tw :List Bool->Nat×List Bool
 | []=>(0,[])
 | false::r=>(0,r)
 | true::r=>((Tw r).1+1,(Tw r).2)
def St.conc (cx:CP) (t:Nat) (kd:IntKind) (n:Int):St->Option St
 | ⟨env,mem,next,[],ob⟩=>some ⟨env,mem,next,[],ob⟩
 | ⟨env,mem,next,o::r,ob⟩=>bif Nat.ble (t+1) cx.n then some ⟨T.set .undef env t (.int kd (Int.ofNat (Tw (o::r)).1)),mem,next,(Tw (o::r)).2,decide (n=Int.ofNat (Tw (o::r)).1)&&ob⟩ else none
def u5t (o:Oper) (cx:CP) (st:St):Option St:=
 match o.op with
 | .indexAddr _ x (.tmp t)=>match st.eval x with
  | .ptr _ _ | .epa _ _ _ _ | .dptr _=>match st.tmp t with
   | .int kd n=>st.conc cx t kd n
   | _=>some st
  | _=>some st
 | .index _ x (.tmp t)=>match st.eval x with
  | .agg _=>match st.tmp t with
   | .int kd n=>st.conc cx t kd n
   | _=>some st
  | _=>some st
 | _=>some st
def GD (ops:Array Oper) (o:Oper) (cx:CP) (st:St):Option (Bool×St):=
 match HM ops o cx st with
 | some (true,st1)=>match u5t o cx st1 with
  | some st2=>some (true,st2)
  | none=>none
 | x=>x
def ZY (P:Program) (S:CB) (R:CL) (ops:Array Oper) (cx:CP) (l:List (Bool×Oper)):St->Option St:=
 List.rec (motive:=fun _=>St->Option St) (fun st=>some st)
  (fun x _ rec st=>match GD ops x.2 cx st with
   | none=>none
   | some (true,st)=>match N4 P S R x.1 x.2 cx st with
    | some st=>rec st
    | none=>none
   | some (false,st)=>match st.put cx x.2.dst (.tup []) with
    | some st=>rec st
    | none=>none) l
inductive Fi where
 | pure | read | alloc | call | chain | lit | birth
 deriving DecidableEq
def Xb :Op->Fi
 | .load .. =>.read
 | .alloc _=>.alloc
 | .box .. | .buildSlice .. | .store .. | .makeSlice .. =>.chain
 | .call {callee:=.builtin .append,.. } | .call {callee:=.builtin .copy,.. } | .call {callee:=.builtin .clear,.. }=>.chain
 | .call {callee:=.value _,.. }=>.call
 | _=>.pure
def Nc (z:Nat):Op->Bool
 | .buildSlice _ n _=>Nat.beq z 1||(Nat.beq z 3&&Nat.ble 1 n)
 | _=>false
def isBirth (z:Nat):Op->Bool
 | .buildSlice .. =>Nat.beq z 2
 | _=>false
def Xf (z:Nat) (op:Op):Fi:=bif Nc z op then .lit else bif isBirth z op then .birth else Xb op
def FQ :List Oper->zr->zr
 | [],acc=>acc
 | o::r,acc=>FQ r (acc++[o.after.toList.foldl (fun s e=>bif Region.binds .any e then s||| (2 ^ e.on)||| acc.getD e.on 0 else s) 0])
def isAlloc (ops:Array Oper) (i:Nat):Bool:=(ops[i]?).any fun o=>Xb o.op == .alloc
def Yb (ops:Array Oper):zr:=
 (List.range ops.size).filter (isAlloc ops)++(List.range ops.size).filter (fun i=> !isAlloc ops i)
def EJ (ops:Array Oper) (i:Nat):Bool:=
 (List.range ops.size).any fun j=>(ops[j]?).any (fun o=>Xb o.op == .read)&&
  ((Nat.ble (i+1) j&& !((FQ ops.toList []).getD j 0).testBit i)||(Nat.ble (j+1) i&& !((FQ ops.toList []).getD i 0).testBit j))
def JB (ops:Array Oper):List (Nat×Bool×Oper):=(Yb ops).map fun i=>(i,EJ ops i,ops.getD i default)
def w2b :Fi->Fi->Bool
 | .pure,_=>true
 | _,.pure =>true
 | .lit,_=>true
 | _,.lit =>true
 | .birth,_=>true
 | _,.birth =>true
 | .alloc,_=>true
 | _,.alloc =>true
 | .read,.read =>true
 | .read,.call =>true
 | .call,.read =>true
 | .read,.chain =>true
 | .chain,.read =>true
 | _,_=>false
def ZZ (z:Nat) (ops:Array Oper) (i j:Nat) (p o:Oper):Bool:=
 (((FQ ops.toList []).getD j 0).testBit i||(p.apart ops o&&w2b (Xf z p.op) (Xf z o.op)))&&
 (match p.dst with | some d=> !(o.dst == some d) | none=>true)&&
 (!(Xb o.op == .alloc)||p.apart ops o)&&
 (!isBirth z o.op||(match Xf z p.op with
  | .chain | .call =>false
  | _=>true))
def N1 (z:Nat) (ops:Array Oper):Bool:=
 (List.range ops.size).all fun j=>match ops[j]? with
  | none=>false
  | some o=>o.after.toList.all (fun e=> !Region.binds .any e||Nat.ble (e.on+1) j)&&(!(Xb o.op == .alloc ||isBirth z o.op)||o.guard.isNone)&&
   (List.range j).all fun i=>match ops[i]? with
    | none=>false
    | some p=>ZZ z ops i j p o
def Eh (op:Op) (ev:Operand->B9):Option Nat:=
 match op with
 | .load _ x=>match ev x with
  | .ptr b _=>some b
  | .epa b _ _ _=>some b
  | _=>none
 | _=>none
def EF (op:Op) (ev:Operand->B9):Option Nat:=
 match op with
 | .store _ a _=>match ev a with
  | .ptr b _=>some b
  | .epa b _ _ _=>some b
  | _=>none
 | .call {callee:=.builtin .append,args,argTypes:=_}=>match args.toList.map ev with
  | .sl b _ _ _::_=>some b
  | .sla b _ _ _ _::_=>some b
  | _=>none
 | .call {callee:=.builtin .copy,args,argTypes:=_}=>match args.toList.map ev with
  | .sl b _ _ _::_=>some b
  | .sla b _ _ _ _::_=>some b
  | .slv b _ _ _::_=>some b
  | _=>none
 | .call {callee:=.builtin .clear,args,argTypes:=_}=>match args.toList.map ev with
  | .sl b _ _ _::_=>some b
  | _=>none
 | _=>none
def clash :Option Nat->Option Nat->Bool
 | some a,some b=>Nat.beq a b
 | _,_=>false
def ordered (ops:Array Oper) (i j:Nat):Bool:=((FQ ops.toList []).getD j 0).testBit i||((FQ ops.toList []).getD i 0).testBit j
abbrev Dg :=Nat×Option Nat×Option Nat
def ZS (ops:Array Oper) (x y:Dg):Bool:= !(clash x.2.1 y.2.2||clash x.2.2 y.2.1)||ordered ops x.1 y.1
def HW (P:Program) (S:CB) (R:CL) (ops:Array Oper) (cx:CP) (x:Bool×Oper) (st:St):Option St:=
 match GD ops x.2 cx st with
 | none=>none
 | some (true,st)=>N4 P S R x.1 x.2 cx st
 | some (false,st)=>st.put cx x.2.dst (.tup [])
def t0c (P:Program) (t:TypeId) (len:Nat) (parts:List (Nat×B9)):Option B9:=
 match P.underlying t with
 | some (.slice e)=>match P.info? e,EZ P e with
  | some i,some zero=>
   bif (Nat.ble 1 len&&Nat.ble 1 i.size)&&(Nat.ble (len*i.size) 16777216&&Nat.beq zero.length i.size) then
    match HS (fun j=>some (j*i.size,i.size)) (DC len zero) parts with
    | some cells=>bif Nat.beq cells.length (len*i.size)&&cells.all (pf 6) then some (.dat len fun k=>(cells.drop (k*i.size)).take i.size) else none
    | none=>none
   else none
  | _,_=>none
 | _=>none
def w1v (P:Program) (o:Oper) (cx:CP) (st:St):Option St:=
 match o.op with
 | .buildSlice t len parts=>match t0c P t len (parts.toList.map fun p=>(p.1,st.eval p.2)) with
  | some v=>st.put cx o.dst v
  | none=>none
 | _=>none
def w4m (P:Program) (t:TypeId) (len:Nat) (parts:List (Nat×B9)):Option (zy×TypeId×Nat):=
 match P.underlying t with
 | some (.slice e)=>match P.info? e,EZ P e with
  | some i,some zero=>
   bif (Nat.ble 1 len&&Nat.ble 1 i.size)&&(Nat.ble (len*i.size) 16777216&&Nat.beq zero.length i.size) then
    match HS (fun j=>some (j*i.size,i.size)) (DC len zero) parts with
    | some cells=>bif Nat.beq cells.length (len*i.size) then some (cells,e,i.size) else none
    | none=>none
   else none
  | _,_=>none
 | _=>none
def y8g (P:Program) (o:Oper) (cx:CP) (st:St):Option St:=
 match o.op with
 | .buildSlice t len parts=>match w4m P t len (parts.toList.map fun p=>(p.1,st.eval p.2)) with
  | some (cells,e,sz)=>(Cr st cells e).put cx o.dst (.sl st.next 0 len (bif cx.sym then .un sz else .ex len))
  | none=>none
 | _=>none
def N6 (z:Nat) (P:Program) (S:CB) (R:CL) (ops:Array Oper) (cx:CP) (x:Bool×Oper) (st:St):Option St:=
 bif Nc z x.2.op then (match GD ops x.2 cx st with
  | none=>none
  | some (true,st)=>w1v P x.2 cx st
  | some (false,st)=>st.put cx x.2.dst (.tup [])) else bif isBirth z x.2.op then (match GD ops x.2 cx st with
  | none=>none
  | some (true,st)=>y8g P x.2 cx st
  | some (false,st)=>st.put cx x.2.dst (.tup [])) else HW P S R ops cx x st
def Ec (S:CB) (op:Op) (ev:Operand->B9):Option Nat:=match op with
 | .call {callee:=.value f,args,argTypes:=_}=>match ev f with
  | .fn g caps=>I6 S g (args.toList.map ev++caps)
  | .fnb g first=>I6 S g (first++args.toList.map ev)
  | _=>none
 | op=>EF op ev
def GA (S:CB) (x:Nat×Bool×Oper) (ev:Operand->B9):Dg:=(x.1,Eh x.2.2.op ev,Ec S x.2.2.op ev)
def Ed (op:Op) (ev:Operand->B9) (mem:CJ):Option Nat:=match op with
 | .call {callee:=.builtin .append,args,argTypes:=_}=>match args.toList.map ev with
  | .sla b _ _ _ (.un _)::.sl _ _ _ _::_=>some b
  | .sl b off len (.un z)::.sl _ _ n _::_=>match Yn mem b with
   | some blk=>bif Nat.beq (off+len*z) blk.cells.length&&Nat.ble 1 n then some b else none
   | none=>none
  | _=>none
 | _=>none
def u5m (z:Nat) (op:Op):Bool:=match Xf z op with
 | .pure | .read =>true
 | _=>false
def Gd (z:Nat) (ops:Array Oper) (i q:Nat):Bool:=(List.range ops.size).all fun j=>match ops[j]? with
 | some o=>u5m z o.op||(Nat.beq j q||(((FQ ops.toList []).getD q 0).testBit j||((FQ ops.toList []).getD j 0).testBit i))
 | none=>true
def lateF (z:Nat) (ops:Array Oper) (x:Nat×Bool×Oper) (ev:Operand->B9) (mem:CJ):Dg->Bool
 | (i,some b',none)=>match Ed x.2.2.op ev mem with
  | some b=>Nat.beq b b'&&Gd z ops i x.1
  | none=>false
 | _=>false
def Rf (z:Nat) (P:Program) (S:CB) (R:CL) (ops:Array Oper) (cx:CP) (l:List (Nat×Bool×Oper)):List Dg->St->Option St:=
 List.rec (motive:=fun _=>List Dg->St->Option St) (fun _ st=>some st)
  (fun x _ rec acc st=>bif acc.all (fun y=>ZS ops (GA S x st.eval) y||lateF z ops x st.eval st.mem y) then
    match N6 z P S R ops cx x.2 st with
    | some st'=>rec (GA S x st.eval::acc) st'
    | none=>none
   else none) l
def Zs :List (Nat×B9)->T B9
 | []=>.leaf
 | (t,v)::l=>T.set .undef (Zs l) t v
def j0v (P:Program) (f:FuncId):Code:=match P.funcs[f]? with
 | some fn=>fn.body.getD .ret
 | none=>.ret
def Zy (P:Program) (f:FuncId):List ResultVar:=match P.funcs[f]? with
 | some fn=>fn.results.toList
 | none=>[]
theorem v5t {b:Bool} {p:Prop} (hb:b=true->p) (h:Ol b p=true):p:=by
 unfold Ol at h;cases hb':b with
 | true=>exact hb hb'
 | false=>rw [hb',Bc] at h;exact @Ax p (Classical.propDecidable p) h
theorem RO {b:Bool} {p:Prop} (h:p):Ol b p=true:=by unfold Ol;rw [show pd p=true from @Af p (Classical.propDecidable p) h,Bool.or_true]
theorem j5j {n:Nat} {g:Nat->zy} {sz:Nat} (h:I2 n g sz=true): ∀i,i<n->(g i).length =sz:=
 v5t (fun h i hi=>Aj (Au.1 h i (AP.2 hi))) h
theorem RN {n:Nat} {g:Nat->zy} {sz:Nat} (h:ES sz n g=true): ∀i,i<n->(g i).length =sz/\(g i).all Cz=true:=
 v5t (fun h i hi=>by
  have:=Au.1 h i (AP.2 hi);rw [Ac] at this;exact ⟨Aj this.1,this.2⟩) h
theorem XJ (m:Nat):Nat.beq (m %2) 0=true↔m %2=0:=by simp_all
@[simp] theorem T.get_leaf {α:Type} (d:α) (n:Nat):T.get d .leaf n=d:=rfl
@[simp] theorem T.get_zero {α:Type} (d v:α) (l r:T α):T.get d (.node v l r) 0=v:=rfl
theorem T.get_succ {α:Type} (d v:α) (l r:T α) (m:Nat):T.get d (.node v l r) (m+1)=if m %2=0 then T.get d l (m / 2) else T.get d r (m / 2):=by simp_all [T.get]
theorem T.setF_leaf_zero {α:Type} (d v:α) (f:Nat):T.setF d v (f+1) .leaf 0=.node v .leaf .leaf :=rfl
theorem T.setF_node_zero {α:Type} (d v u:α) (l r:T α) (f:Nat):T.setF d v (f+1) (.node u l r) 0=.node v l r:=rfl
theorem T.setF_leaf_succ {α:Type} (d v:α) (f m:Nat):T.setF d v (f+1) .leaf (m+1)=
  if m %2=0 then .node d (T.setF d v f .leaf (m / 2)) .leaf else .node d .leaf (T.setF d v f .leaf (m / 2)):=by
 show (bif Nat.beq (m %2) 0 then (_:T α) else _)=_;by_cases h:m %2=0
 .rw [AJ h,(XJ m).2 h];rfl
 .rw [AC h,show Nat.beq (m %2) 0=false from A5.2 (fun e=>h ((XJ m).1 e))];rfl
theorem T.setF_node_succ {α:Type} (d v u:α) (l r:T α) (f m:Nat):T.setF d v (f+1) (.node u l r) (m+1)=
  if m %2=0 then .node u (T.setF d v f l (m / 2)) r else .node u l (T.setF d v f r (m / 2)):=by
 show (bif Nat.beq (m %2) 0 then (_:T α) else _)=_;by_cases h:m %2=0
 .rw [AJ h,(XJ m).2 h];rfl
 .rw [AC h,show Nat.beq (m %2) 0=false from A5.2 (fun e=>h ((XJ m).1 e))];rfl
theorem T.get_setF {α:Type} (d v:α): ∀(f:Nat) (t:T α) (n k:Nat),n<f->T.get d (T.setF d v f t n) k=if k=n then v else T.get d t k
 | 0,_,_,_,h=>absurd h (AD _)
 | f+1,.leaf,0,k,_=>by
  rw [T.setF_leaf_zero];cases k with
  | zero=>simp
  | succ k=>rw [T.get_succ];simp
 | f+1,.node u l r,0,k,_=>by
  rw [T.setF_node_zero];cases k with
  | zero=>simp
  | succ k=>rw [T.get_succ,T.get_succ];simp
 | f +1,.leaf,m+1,k,h=>by
  rw [T.setF_leaf_succ];have hm:m / 2<f:=by omega
  cases k with
  | zero=>split <;> simp
  | succ k=>
   have ih:=T.get_setF d v f .leaf (m / 2) (k / 2) hm;by_cases hp:m %2=0
   .rw [AJ hp,T.get_succ];by_cases hk:k %2=0
    .rw [AJ hk,ih];by_cases e:k / 2=m / 2
     .rw [AJ e,AJ (by omega)]
     .rw [AC e,AC (by omega)];simp
    .rw [AC hk,AC (by omega)];simp
   .rw [AC hp,T.get_succ];by_cases hk:k %2=0
    .rw [AJ hk,AC (by omega)];simp
    .rw [AC hk,ih];by_cases e:k / 2=m / 2
     .rw [AJ e,AJ (by omega)]
     .rw [AC e,AC (by omega)];simp
 | f +1,.node u l r,m+1,k,h=>by
  rw [T.setF_node_succ];have hm:m / 2<f:=by omega
  cases k with
  | zero=>split <;> simp
  | succ k=>
   by_cases hp:m %2=0
   .rw [AJ hp,T.get_succ,T.get_succ];by_cases hk:k %2=0
    .rw [AJ hk,AJ hk,T.get_setF d v f l (m / 2) (k / 2) hm];by_cases e:k / 2=m / 2
     .rw [AJ e,AJ (by omega)]
     .rw [AC e,AC (by omega)]
    .rw [AC hk,AC hk,AC (by omega)]
   .rw [AC hp,T.get_succ,T.get_succ];by_cases hk:k %2=0
    .rw [AJ hk,AJ hk,AC (by omega)]
    .rw [AC hk,AC hk,T.get_setF d v f r (m / 2) (k / 2) hm];by_cases e:k / 2=m / 2
     .rw [AJ e,AJ (by omega)]
     .rw [AC e,AC (by omega)]
theorem T.get_set {α:Type} (d:α) (t:T α) (n:Nat) (v:α) (k:Nat):T.get d (T.set d t n v) k=if k=n then v else T.get d t k:=
 T.get_setF d v (n+1) t n k (Bf n)
theorem Vp (m:CJ) (b:Nat) (o:Option CG) (k:Nat):Yn (Wv m b o) k=if k=b then o else Yn m k:=T.get_set none m b o k
theorem Yk (m:CJ) (b:Nat) (o:Option CG):Yn (Wv m b o) b=o:=by rw [Vp,AJ rfl]
theorem Zv (m:CJ) {b k:Nat} (o:Option CG) (h:k≠b):Yn (Wv m b o) k=Yn m k:=by rw [Vp,AC h]
inductive Vg {α β:Type} (R:α->β->Prop):List α->List β->Prop
 | nil:Vg R [] []
 | cons {a:α} {b:β} {l:List α} {m:List β} (h:R a b) (t:Vg R l m):Vg R (a::l) (b::m)
theorem Vg.length {α β:Type} {R:α->β->Prop} {l:List α} {m:List β} (h:Vg R l m):l.length=m.length:=by
 induction h with
 | nil=>rfl
 | cons _ _ ih=>simp [ih]
theorem Vg.get {α β:Type} {R:α->β->Prop} {l:List α} {m:List β} (h:Vg R l m): ∀(i:Nat) (h1:i<l.length) (h2:i<m.length),R l[i] m[i]:=by
 induction h with
 | nil=>grind
 | cons h _ ih=>
  grind
theorem Vg.append {α β:Type} {R:α->β->Prop} {l l':List α} {m m':List β} (h:Vg R l m) (k:Vg R l' m'):Vg R (l++l') (m++m'):=by
 induction h with
 | nil=>exact k
 | cons h _ ih=>exact .cons h ih
theorem Vg.of {α β:Type} {R:α->β->Prop}: ∀{l:List α} {m:List β},l.length=m.length->(∀(i:Nat) (h1:i<l.length) (h2:i<m.length),R l[i] m[i])->Vg R l m
 | [],[],_,_=>.nil
 | [],_::_,h,_=>by simp at h
 | _::_,[],h,_=>by simp at h
 | a::l,b::m,h,hr=>.cons (hr 0 (by simp) (by simp)) (Vg.of (by simpa using h) fun i h1 h2=>hr (i+1) (by grind) (by grind))
theorem Vg.maps {α γ δ:Type} {R:γ->δ->Prop} (f:α->γ) (g:α->δ): ∀(l:List α),(∀a,a∈l->R (f a) (g a))->Vg R (l.map f) (l.map g)
 | [],_=>.nil
 | a::l,h=>.cons (h a (by simp)) (Vg.maps f g l fun b hb=>h b (by simp [hb]))
structure C3 where
 blk:Nat
 base:Nat
 n:Nat
 tot:Nat
abbrev E8 :=Nat->Option Obj
structure CE where
 f:Nat->Option C3
 fz:E8
 lp:Nat->Option Nat
instance : CoeFun CE (fun _=>Nat->Option C3):=⟨CE.f⟩
def CE.bare (ρ:CE):CE:=⟨fun _=>none,ρ.fz,fun _=>none⟩
def DS (H:E8):CE:=⟨fun _=>none,H,fun _=>none⟩
def D2 (l:C3) (off:Nat):FO->Nat->Prop
 | .ex k,c=>c=k
 | .un sz,c=>l.n<=off+c*sz/\off+c*sz<=l.tot
def HQ (H:E8) (blk o:Nat) (v:Value):Prop:= ∃cs el fz,H blk=some (.cells cs el fz)/\cs[o]? =some v
inductive Yv :CE->B9->Value->Prop
 | undef {ρ:CE} (v:Value):Yv ρ .undef v
 | bool {ρ:CE} (b:Bool):Yv ρ (.bool b) (.bool b)
 | int {ρ:CE} (k:IntKind) (n:Int):Yv ρ (.int k n) (.int k n)
 | str {ρ:CE} (s:zu):Yv ρ (.str s) (.string ⟨s.toArray⟩)
 | agg {ρ:CE} (cs:zy) (vs:Array Value) (hl:cs.length=vs.size) (h: ∀(i:Nat) (h1:i<cs.length) (h2:i<vs.size),Yv ρ cs[i] vs[i]):Yv ρ (.agg cs) (.agg vs)
 | tup {ρ:CE} (cs:zy) (vs:Array Value) (hl:cs.length=vs.size) (h: ∀(i:Nat) (h1:i<cs.length) (h2:i<vs.size),Yv ρ cs[i] vs[i]):Yv ρ (.tup cs) (.tuple vs)
 | ptr {ρ:CE} (b off:Nat) (l:C3) (h:ρ b=some l):Yv ρ (.ptr b off) (.pointer (some ⟨l.blk,l.base+off,none⟩))
 | nilp {ρ:CE}:Yv ρ .nilp (.pointer none)
 | sl {ρ:CE} (b off len:Nat) (cap:FO) (l:C3) (c:Nat) (h:ρ b=some l) (hc:D2 l off cap c) (dA:len<=c):Yv ρ (.sl b off len cap) (.slice (some ⟨l.blk,l.base+off,none⟩) len c)
 | nils {ρ:CE}:Yv ρ .nils (.slice none 0 0)
 | sla {ρ:CE} (b sz off len:Nat) (cap:FO) (l:C3) (c:Nat) (h:ρ b=some l) (hc:D2 l (off*sz) cap c) (dA:len<=c):Yv ρ (.sla b sz off len cap) (.slice (some ⟨l.blk,l.base+off*sz,none⟩) len c)
 | slan {ρ:CE} (b sz off:Nat) (cap:FO):Yv ρ (.sla b sz off 0 cap) (.slice none 0 0)
 | slv {ρ:CE} (b sz off len:Nat) (l:C3) (c:Nat) (h:ρ b=some l) (dA:len<=c):Yv ρ (.slv b sz off len) (.slice (some ⟨l.blk,l.base+off*sz,none⟩) len c)
 | slve {ρ:CE} (b sz off:Nat) (blk base c:Nat):Yv ρ (.slv b sz off 0) (.slice (some ⟨blk,base,none⟩) 0 c)
 | slvn {ρ:CE} (b sz off:Nat):Yv ρ (.slv b sz off 0) (.slice none 0 0)
 | epa {ρ:CE} (b sz i fo:Nat) (l:C3) (h:ρ b=some l):Yv ρ (.epa b sz i fo) (.pointer (some ⟨l.blk,l.base+(i*sz+fo),none⟩))
 | fn {ρ:CE} (f:FuncId) (cs:zy) (vs:Array Value) (hl:cs.length=vs.size) (h: ∀(i:Nat) (h1:i<cs.length) (h2:i<vs.size),Yv ρ cs[i] vs[i]):Yv ρ (.fn f cs) (.func (.func f) #[] vs)
 | nilf {ρ:CE}:Yv ρ .nilf .nilFunc
 | fnb {ρ:CE} (f:FuncId) (cs:zy) (vs:Array Value) (hl:cs.length=vs.size) (h: ∀(i:Nat) (h1:i<cs.length) (h2:i<vs.size),Yv ρ cs[i] vs[i]):Yv ρ (.fnb f cs) (.func (.func f) vs #[])
 | yld {ρ:CE} (j l:Nat) (h:ρ.lp j=some l):Yv ρ (.yld j) (.func (.yield l) #[] #[])
 | ifc {ρ:CE} (t:TypeId) (a:B9) (v:Value) (h:Yv ρ a v):Yv ρ (.ifc t a) (.iface t v)
 | nili {ρ:CE}:Yv ρ .nili .nilIface
 | dat {ρ:CE} (len:Nat) (get:Nat->zy) (blk base sz cap:Nat) (val:Nat->Nat->Value) (dH:len<=cap) (hsz: ∀i,i<len->(get i).length =sz)
   (hv: ∀(i j:Nat) (_:i<len) (hj:j<(get i).length),Yv ρ.bare (get i)[j] (val i j)) (hh: ∀i j,i<len->j<sz->HQ ρ.fz blk (base+(i*sz+j)) (val i j)):Yv ρ (.dat len get) (.slice (some ⟨blk,base,none⟩) len cap)
 | datn {ρ:CE} (get:Nat->zy):Yv ρ (.dat 0 get) (.slice none 0 0)
 | datz {ρ:CE} (get:Nat->zy) (a:Addr) (c:Nat):Yv ρ (.dat 0 get) (.slice (some a) 0 c)
 | nnl {ρ:CE} (len:Nat) (get:Nat->zy) (a:Addr) (c:Nat) (h:Yv ρ (.dat len get) (.slice (some a) len c)):Yv ρ (.nnl len get) (.slice (some a) len c)
 | mapr {ρ:CE} (b:Nat) (l:C3) (h:ρ b=some l):Yv ρ (.mapr b) (.map (some l.blk))
 | ifbt {ρ:CE}:Yv ρ (.ifb true) .nilIface
 | ifbf {ρ:CE} (t:TypeId) (v:Value):Yv ρ (.ifb false) (.iface t v)
 | dptr {ρ:CE} (cs:zy) (blk base:Nat) (val:Nat->Value) (hv: ∀(j:Nat) (hj:j<cs.length),Yv ρ.bare cs[j] (val j)) (hh: ∀j,j<cs.length->HQ ρ.fz blk (base+j) (val j)):Yv ρ (.dptr cs) (.pointer (some ⟨blk,base,none⟩))
def Vo (ρ:CE) (cs:zy) (vs:Array Value):Prop:=cs.length=vs.size/\ ∀(i:Nat) (h1:i<cs.length) (h2:i<vs.size),Yv ρ cs[i] vs[i]
def CE.le (ρ ρ':CE):Prop:=(∀b l,ρ b=some l->ρ' b=some l)/\(∀k o,ρ.fz k=some o->ρ'.fz k=some o)/\ ∀j l,ρ.lp j=some l->ρ'.lp j=some l
theorem CE.le_refl (ρ:CE):ρ.le ρ:=⟨fun _ _ h=>h,fun _ _ h=>h,fun _ _ h=>h⟩
theorem CE.le_trans {a b c:CE} (h:a.le b) (k:b.le c):a.le c:=⟨fun x l e=>k.1 x l (h.1 x l e),fun x l e=>k.2.1 x l (h.2.1 x l e),fun x l e=>k.2.2 x l (h.2.2 x l e)⟩
theorem CE.le.bare {ρ ρ':CE} (h:ρ.le ρ'):ρ.bare.le ρ'.bare:=⟨fun _ _ e=>(by cases e),h.2.1,fun _ _ e=>(by cases e)⟩
theorem Sq (ρ:CE):ρ.bare.le ρ:=⟨fun _ _ e=>(by cases e),fun _ _ e=>e,fun _ _ e=>(by cases e)⟩
theorem HQ.mono {ρ ρ':CE} (h:ρ.le ρ') {blk o:Nat} {v:Value} (hc:HQ ρ.fz blk o v):HQ ρ'.fz blk o v:=by obtain ⟨cs,el,fz,h1,h2⟩:=hc;exact ⟨cs,el,fz,h.2.1 _ _ h1,h2⟩
theorem Yv.mono {ρ ρ':CE} (h:ρ.le ρ') {a:B9} {v:Value} (hv:Yv ρ a v):Yv ρ' a v:=by
 induction hv generalizing ρ' with
 | undef v=>exact .undef v
 | bool b=>exact .bool b
 | int k n=>exact .int k n
 | str s=>exact .str s
 | agg cs vs hl _ ih=>exact .agg cs vs hl fun i h1 h2=>ih i h1 h2 h
 | tup cs vs hl _ ih=>exact .tup cs vs hl fun i h1 h2=>ih i h1 h2 h
 | ptr b off l e=>exact .ptr b off l (h.1 _ _ e)
 | nilp=>exact .nilp
 | sl b off len cap l c e hc dA=>exact .sl b off len cap l c (h.1 _ _ e) hc dA
 | nils=>exact .nils
 | sla b sz off len cap l c e hc dA=>exact .sla b sz off len cap l c (h.1 _ _ e) hc dA
 | slan b sz off cap=>exact .slan b sz off cap
 | slv b sz off len l c e dA=>exact .slv b sz off len l c (h.1 _ _ e) dA
 | slve b sz off blk base c=>exact .slve b sz off blk base c
 | slvn b sz off=>exact .slvn b sz off
 | epa b sz i fo l e=>exact .epa b sz i fo l (h.1 _ _ e)
 | fn f cs vs hl _ ih=>exact .fn f cs vs hl fun i h1 h2=>ih i h1 h2 h
 | nilf=>exact .nilf
 | fnb f cs vs hl _ ih=>exact .fnb f cs vs hl fun i h1 h2=>ih i h1 h2 h
 | yld j l e=>exact .yld j l (h.2.2 _ _ e)
 | ifc t a v _ ih=>exact .ifc t a v (ih h)
 | nili=>exact .nili
 | dat len get blk base sz cap val dH hsz hv hh ih=>exact .dat len get blk base sz cap val dH hsz (fun i j hi hj=>ih i j hi hj h.bare) fun i j hi hj=>(hh i j hi hj).mono h
 | datn get=>exact .datn get
 | datz get a c=>exact .datz get a c
 | nnl len get a c _ ih=>exact .nnl len get a c (ih h)
 | mapr b l e=>exact .mapr b l (h.1 _ _ e)
 | ifbt=>exact .ifbt
 | ifbf t v=>exact .ifbf t v
 | dptr cs blk base val hv hh ih=>exact .dptr cs blk base val (fun j hj=>ih j hj h.bare) fun j hj=>(hh j hj).mono h
theorem Yv.unN {ρ:CE} {a:B9} {v:Value} (h:Yv ρ a v):Yv ρ (unN a) v:=by
 cases h <;> first | assumption | (constructor <;> assumption)
theorem Yv.oneCell {ρ:CE} {a:B9} {v:Value} (h:Yv ρ a v) (hs:Cz a=true):v.oneCell'=true:=by
 cases h <;> first | rfl | (simp [Cz] at hs)
theorem Yv.cells {ρ:CE} {a:B9} {v:Value} (h:Yv ρ a v) (hu:Gy a=true):Vo ρ a.cells v.cells:=by
 cases h
 case agg cs vs hl hh=>exact ⟨hl,hh⟩
 all_goals first
  | (simp [Gy] at hu;done)
  | (refine ⟨rfl,fun i h1 h2=> ?_⟩
     have h0:i=0:=by simp [B9.cells] at h1;exact h1
     subst h0;simp only [B9.cells,Value.cells,List.getElem_cons_zero,List.getElem_toArray];constructor <;> assumption)
theorem Yv.cells_oneCell {ρ:CE} {cs:zy} {vs:Array Value} (h:Vo ρ cs vs) (hs:cs.all Cz=true): ∀v∈vs.toList,v.oneCell'=true:=by
 intro v hv;obtain ⟨i,hi,rfl⟩:=AQ hv;have h2:i<vs.size:=by grind
 have h1:i<cs.length:=by rw [h.1];exact h2
 simpa using (h.2 i h1 h2).oneCell (Au.1 hs _ (AS h1))
def JK (ρ:CE) (ty:TypeId) (blk:Nat) (r:zy):H0->Option Obj->Prop
 | .mi l,o=>r=[]/\ ∃es ck,o=some (.map es ck)/\es.toList.map (fun e=>(e.key,e.val))=l.map fun p=>(.string ⟨p.1.toArray⟩,.int .i64 p.2)
 | .mb l,o=>r=[]/\ ∃es ck,o=some (.map es ck)/\es.toList.map (fun e=>(e.key,e.val))=l.map fun p=>(.string ⟨p.1.toArray⟩,.bool p.2)
 | .it s pos,o=>r=[]/\o=some (.stringIter ⟨s.toArray⟩ pos)
 | .bld,o=> ∃buf v p,r=[buf]/\o=some (.cells #[.pointer p,v] ty (0,0))/\Yv ρ buf v/\(p=none\/p=some ⟨blk,0,none⟩)
theorem JK.mono {ρ ρ':CE} (h:ρ.le ρ') {ty:TypeId} {blk:Nat} {r:zy} {o:H0} {x:Option Obj} (k:JK ρ ty blk r o x):JK ρ' ty blk r o x:=by
 cases o with
 | bld=>obtain ⟨buf,v,p,h1,h2,h3,h4⟩:=k;exact ⟨buf,v,p,h1,h2,h3.mono h,h4⟩
 | _=>exact k
structure Gv (ρ:CE) (w:World) (ab:CG) (l:C3):Prop where
 typ: ∀cs el z,w.heap[l.blk]? =some (.cells cs el z)->el=ab.ty
 n:l.n=ab.cells.length
 tot:l.n<=l.tot
 arr: ∀A,ab.arr=some A->ab.cells=rows A.n A.get/\1<=A.sz/\ ∀i,i<A.n->(A.get i).length =A.sz
 cells: ∃cs el,w.heap[l.blk]? =some (.cells cs el (0,0))/\l.base+l.tot<=cs.size/\
  ∀(i:Nat) (h:i<ab.cells.length),∃v,cs[l.base+i]? =some v/\Yv ρ ab.cells[i] v
inductive Wn (ρ:CE) (w:World) (ab:CG) (l:C3):Prop where
 | plain (h:Gv ρ w ab l)
 | obj (o:H0) (r:zy) (ty:TypeId) (h:ab=⟨.obj o::r,ty,none⟩) (hn:l=⟨l.blk,0,r.length+1,r.length+1⟩) (hh:JK ρ ty l.blk r o w.heap[l.blk]?)
theorem Wn.at {ρ:CE} {w:World} {ab:CG} {l:C3} (h:Wn ρ w ab l) (hn:ab.isObj=false):Gv ρ w ab l:=by
 cases h with
 | plain h=>exact h
 | obj o r ty h _ _=>subst h;cases hn
theorem Wn.rows {ρ:CE} {w:World} {ab:CG} {l:C3} {A:Da} (h:Wn ρ w ab l) (hn:ab.arr=some A):Gv ρ w ab l:=by
 cases h with
 | plain h=>exact h
 | obj o r ty h _ _=>subst h;cases hn
theorem Wn.arr {ρ:CE} {w:World} {ab:CG} {l:C3} (h:Wn ρ w ab l) (A:Da) (hA:ab.arr=some A):ab.cells=Go.Am.rows A.n A.get/\1<=A.sz/\ ∀i,i<A.n->(A.get i).length =A.sz:=(h.rows hA).arr A hA
theorem Wn.n {ρ:CE} {w:World} {ab:CG} {l:C3} (h:Wn ρ w ab l):l.n=ab.cells.length:=by
 cases h with
 | plain h=>exact h.n
 | obj o r ty h hn _=>subst h;rw [hn];rfl
theorem Wn.tot {ρ:CE} {w:World} {ab:CG} {l:C3} (h:Wn ρ w ab l):l.n<=l.tot:=by
 cases h with
 | plain h=>exact h.tot
 | obj o r ty h hn _=>rw [hn];exact Ar _
theorem Wn.some {ρ:CE} {w:World} {ab:CG} {l:C3} (h:Wn ρ w ab l): ∃o,w.heap[l.blk]? =some o:=by
 cases h with
 | plain h=>obtain ⟨_,_,_,_,cs,el,h1,_⟩:=h;exact ⟨_,h1⟩
 | obj o r ty h hn hh=>
  cases o with
  | mi l=>obtain ⟨_,es,ck,e,_⟩:=hh;exact ⟨_,e⟩
  | mb l=>obtain ⟨_,es,ck,e,_⟩:=hh;exact ⟨_,e⟩
  | it s pos=>exact ⟨_,hh.2⟩
  | bld=>obtain ⟨_,_,_,_,e,_⟩:=hh;exact ⟨_,e⟩
theorem u3e {cs:zy} (h:cs.all Cz=true) (ty:TypeId) (a:Option Da):(⟨cs,ty,a⟩:CG).isObj =false:=by
 unfold CG.isObj;split
 .rename_i e;simp only [CG.mk.injEq] at e;obtain ⟨rfl,_⟩:=e;simp [Cz] at h
 .rfl
theorem u3f {ρ:CE} {cs:zy} (h: ∀i (h:i<cs.length),∃v,Yv ρ cs[i] v) (ty:TypeId) (a:Option Da):(⟨cs,ty,a⟩:CG).isObj =false:=by
 unfold CG.isObj;split
 .rename_i e;simp only [CG.mk.injEq] at e;obtain ⟨rfl,_⟩:=e;obtain ⟨v,hv⟩:=h 0 (by simp);cases hv
 .rfl
theorem S9 {ρ:CE} {cs:zy} (h: ∀v∈cs,(∃u,Yv ρ v u)\/Cz v=true) (ty:TypeId) (a:Option Da):(⟨cs,ty,a⟩:CG).isObj =false:=by
 unfold CG.isObj;split
 .rename_i e;simp only [CG.mk.injEq] at e;obtain ⟨rfl,_⟩:=e;rcases h _ (Br ..) with ⟨v,hv⟩ | hv <;> cases hv
 .rfl
theorem Gv.mem {ρ:CE} {w:World} {ab:CG} {l:C3} (h:Gv ρ w ab l): ∀v∈ab.cells,∃u,Yv ρ v u:=fun v hv=>by obtain ⟨i,hi,rfl⟩:=AQ hv;obtain ⟨_,_,_,_,cs,el,_,_,h3⟩:=h;obtain ⟨u,_,hu⟩:=h3 i hi;exact ⟨u,hu⟩
theorem Vo.mem {ρ:CE} {cs:zy} {vs:Array Value} (h:Vo ρ cs vs): ∀v∈cs,∃u,Yv ρ v u:=fun v hv=>by obtain ⟨i,hi,rfl⟩:=AQ hv;exact ⟨_,h.2 i hi (by rw [<-h.1];exact hi)⟩
theorem w5f {n:Nat} {g:Nat->zy} {v:B9} (h:v∈rows n g): ∃k,k<n/\v∈g k:=by unfold rows at h;obtain ⟨k,hk,hv⟩:=AM.1 h;exact ⟨k,AP.1 hk,hv⟩
theorem Gv.noObj {ρ:CE} {w:World} {ab:CG} {l:C3} (h:Gv ρ w ab l):ab.isObj=false:=by
 obtain ⟨_,_,_,_,cs,el,_,_,h3⟩:=h;unfold CG.isObj;split
 .obtain ⟨v,_,hv⟩:=h3 0 (by simp);cases hv
 .rfl
def Oe :Array Value:=((List.range 20).map fun i=>Value.int .u64 ((10 ^ i:Nat):Int)).toArray
structure MP (H:E8):Prop where
 err: ∀b,b∈VU-> ∃v,HQ H b 0 v/\(v=.nilIface \/ ∃t u,v=.iface t u)
 pow: ∀b,b∈gpow-> ∃el fz,H b=some (.cells Oe el fz)
theorem MP.mono {H H':E8} (h: ∀k o,H k=some o->H' k=some o) (k:MP H):MP H':=
 ⟨fun b hb=>by
  obtain ⟨v,⟨cs,el,fz,h1,h2⟩,h3⟩:=k.err b hb;exact ⟨v,⟨cs,el,fz,h _ _ h1,h2⟩,h3⟩,fun b hb=>by
  obtain ⟨el,fz,e⟩:=k.pow b hb;exact ⟨el,fz,h _ _ e⟩⟩
structure CF (ρ:CE) (mem:CJ) (next:Nat) (w:World):Prop where
 dom: ∀b l,ρ b=some l->b<next
 inj: ∀b b' l l',ρ b=some l->ρ b'=some l'->l.blk=l'.blk->(Yn mem b).isSome =true->(Yn mem b').isSome =true->b=b'
 blk: ∀b l ab,ρ b=some l->Yn mem b=some ab->Wn ρ w ab l
 old: ∀k o,ρ.fz k=some o->w.heap[k]? =some o
 sep: ∀b l,ρ b=some l->(Yn mem b).isSome =true->ρ.fz l.blk=none
 real: ∀b l,ρ b=some l->l.blk<w.heap.size
 bd: ∀b,next<=b->Yn mem b=none
 ldom:(∀j l,ρ.lp j=some l->j<next)/\MP ρ.fz
structure Ev (ρ ρ':CE) (floor:Nat) (m:CJ) (next:Nat) (m':CJ) (next':Nat) (w w':World):Prop where
 ext:ρ.le ρ'
 new: ∀b,b<next->ρ' b=ρ b
 nxt:next<=next'
 unborn: ∀b,b<next->ρ b=none-> ∀cs ty,Yn m b=some ⟨cs,ty,none⟩->Yn m' b=some ⟨cs,ty,none⟩
 frame: ∀k o,w.heap[k]? =some o->(∀b l,ρ b=some l->floor<=b->l.blk≠k)->w'.heap[k]? =some o
 fresh: ∀b l,next<=b->ρ' b=some l->w.heap.size<=l.blk\/ ∃b0 l0,ρ b0=some l0/\floor<=b0/\l0.blk=l.blk
 size:w.heap.size<=w'.heap.size
 os:w'.os=w.os
 tape:w'.tape=w.tape
 output:w'.output=w.output
 still: ∀k,k<w.heap.size->ρ'.fz k=ρ.fz k
theorem Ev.refl (ρ:CE) (floor:Nat) (m:CJ) (next:Nat) (w:World) (hd: ∀b l,ρ b=some l->b<next):Ev ρ ρ floor m next m next w w:=
 ⟨CE.le_refl _,fun _ _=>rfl,Ar _,fun _ _ _ _ _ h=>h,fun _ _ h _=>h,fun b l hb h=>absurd (hd b l h) (by omega),Ar _,rfl,rfl,rfl,fun _ _=>rfl⟩
theorem Ev.drawn {ρ ρ':CE} {floor:Nat} {m m':CJ} {next next':Nat} {w w':World} (h:Ev ρ ρ' floor m next m' next' {w with drawn:=w.drawn+1} w'):Ev ρ ρ' floor m next m' next' w w':=
 ⟨h.ext,h.new,h.nxt,h.unborn,h.frame,h.fresh,h.size,h.os,h.tape,h.output,h.still⟩
theorem Ev.trans {ρ ρ1 ρ2:CE} {floor:Nat} {m m1 m2:CJ} {n n1 n2:Nat} {w w1 w2:World} (h:Ev ρ ρ1 floor m n m1 n1 w w1) (k:Ev ρ1 ρ2 floor m1 n1 m2 n2 w1 w2):Ev ρ ρ2 floor m n m2 n2 w w2 where
 ext:=CE.le_trans h.ext k.ext
 new b hb:=by rw [k.new b (AY hb h.nxt),h.new b hb]
 nxt:=AG h.nxt k.nxt
 unborn b hb e cs ty hm:=k.unborn b (AY hb h.nxt) (by rw [h.new b hb];exact e) cs ty (h.unborn b hb e cs ty hm)
 frame i o hi hf:=by
  refine k.frame i o (h.frame i o hi hf) fun b l hl hfl hlb=> ?_;by_cases hb:b<n
  .rw [h.new b hb] at hl;grind
  .have hlt:i<w.heap.size:=(AI.1 hi).1;rcases h.fresh b l (by omega) hl with h1 | ⟨b0,l0,e0,f0,g0⟩;all_goals grind
 fresh b l hb hl:=by
  by_cases hb1:b<n1
  .rw [k.new b hb1] at hl;exact h.fresh b l hb hl
  .rcases k.fresh b l (by omega) hl with h1 | ⟨b0,l0,e0,f0,g0⟩
   .exact .inl (AG h.size h1)
   .by_cases hb0:b0<n
    .rw [h.new b0 hb0] at e0;grind
    .rcases h.fresh b0 l0 (by omega) e0 with h1 | ⟨b3,l3,e3,f3,g3⟩;all_goals grind
 size:=AG h.size k.size
 os:=k.os.trans h.os
 tape:=k.tape.trans h.tape
 output:=k.output.trans h.output
 still i hi:=(k.still i (AY hi h.size)).trans (h.still i hi)
theorem Ev.lower {ρ ρ':CE} {floor floor':Nat} {m m':CJ} {n n':Nat} {w w':World} (h:Ev ρ ρ' floor' m n m' n' w w') (hf:floor<=floor'):Ev ρ ρ' floor m n m' n' w w':=
 ⟨h.ext,h.new,h.nxt,h.unborn,fun k o e g=>h.frame k o e fun b l hl hfl=>g b l hl (AG hf hfl),
  fun b l hb hl=>(h.fresh b l hb hl).imp id fun ⟨b0,l0,e,f,g⟩=>⟨b0,l0,e,AG hf f,g⟩,h.size,h.os,h.tape,h.output,h.still⟩
theorem CF.drawn {ρ:CE} {mem:CJ} {next:Nat} {w:World} (h:CF ρ mem next w) (n:Nat):CF ρ mem next {w with drawn:=n}:=
 ⟨h.dom,h.inj,fun b l ab e f=>match h.blk b l ab e f with
  | .plain ⟨q,a,t,r,c⟩=>.plain ⟨q,a,t,r,c⟩
  | .obj o r ty q n z=>.obj o r ty q n z,h.old,h.sep,h.real,h.bd,h.ldom⟩
def Vb (ρ:CE) (b:Nat) (l:C3):CE:=⟨fun k=>if k=b then some l else ρ k,ρ.fz,ρ.lp⟩
theorem Vt (ρ:CE) (b:Nat) (l:C3) (k:Nat):Vb ρ b l k=if k=b then some l else ρ k:=rfl
theorem JH {ρ:CE} {b:Nat} {l:C3} (h:ρ b=none):ρ.le (Vb ρ b l):=⟨fun k l' e=>by
 grind [Vt],fun _ _ e=>e,fun _ _ e=>e⟩
theorem CF.none_next {ρ:CE} {mem:CJ} {next:Nat} {w:World} (h:CF ρ mem next w):ρ next=none:=by
 cases e:ρ next with
 | none=>rfl
 | some l=>exact absurd (h.dom _ _ e) (B7 _)
theorem Wn.world {ρ ρ':CE} {w w':World} {ab:CG} {l:C3} (h:Wn ρ w ab l) (hr:ρ.le ρ') (hw:w'.heap[l.blk]? =w.heap[l.blk]?):Wn ρ' w' ab l:=by
 cases h with
 | plain h=>obtain ⟨ty,n,t,ar,cs,el,h1,h2,h3⟩:=h;exact .plain ⟨by rw [hw];exact ty,n,t,ar,cs,el,by grind,h2,fun i hi=>let ⟨v,e,f⟩:=h3 i hi;⟨v,e,f.mono hr⟩⟩
 | obj o r ty h n z=>exact .obj o r ty h n (by rw [hw];exact z.mono hr)
theorem CF.new {ρ:CE} {mem:CJ} {next:Nat} {w:World} (h:CF ρ mem next w) (cs:zy) (ty:TypeId) (vs:Array Value) (el:TypeId) (hH: ∀k,w.heap.size<=k->ρ.fz k=none)
  (hn:cs.length<=vs.size) (hv: ∀(i:Nat) (h1:i<cs.length) (h2:i<vs.size),Yv ρ cs[i] vs[i]) (hel:el=ty:=by rfl):
  CF (Vb ρ next ⟨w.heap.size,0,cs.length,vs.size⟩) (Wv mem next (some ⟨cs,ty,none⟩)) (next+1) {w with heap:=w.heap.push (.cells vs el)}:=by
 have hle:=JH (l:=⟨w.heap.size,0,cs.length,vs.size⟩) h.none_next;have dG: ∀b l,Vb ρ next ⟨w.heap.size,0,cs.length,vs.size⟩ b=some l->(b=next/\l=⟨w.heap.size,0,cs.length,vs.size⟩)\/(b≠next/\ρ b=some l):=fun b l e=>by
  grind [Vt]
 refine ⟨fun b l e=> ?_,fun b b' l l' e e' hbl hs hs'=> ?_,fun b l ab e hm=> ?_,fun k o e=> ?_,fun b l e=> ?_,fun b l e=> ?_,fun b hb=>by rw [Zv _ _ (by omega)];exact h.bd b (by omega),⟨fun j l e=>Bo (h.ldom.1 j l e),h.ldom.2⟩⟩
 .rcases dG b l e with ⟨rfl,_⟩ | ⟨_,e⟩
  .omega
  .have:=h.dom b l e;omega
 .rcases dG b l e with ⟨hb,hl⟩ | ⟨hb,e2⟩ <;> rcases dG b' l' e' with ⟨hb',hl'⟩ | ⟨hb',e2'⟩
  .rw [hb,hb']
  .have:=h.real b' l' e2';grind
  .have:=h.real b l e2;grind
  .rw [Zv _ _ hb] at hs;rw [Zv _ _ hb'] at hs';exact h.inj b b' l l' e2 e2' hbl hs hs'
 .rcases dG b l e with ⟨rfl,rfl⟩ | ⟨hb,e⟩
  .rw [Yk] at hm;obtain rfl:=Ag hm;refine .plain ⟨by simp [hel],rfl,hn,(fun A e=>by cases e),vs,el,by simp,by simp,fun i hi=>⟨vs[i]'(by grind),by grind,(hv i hi (by grind)).mono hle⟩⟩
  .rw [Zv _ _ hb] at hm;refine (h.blk b l ab e hm).world hle ?_;have:=h.real b l e
   grind
 .have hk:=h.old k o e
  grind
 .intro hs;rcases dG b l e with ⟨rfl,rfl⟩ | ⟨hne,e⟩
  .exact hH _ (Ar _)
  .rw [Zv _ _ hne] at hs;exact h.sep b l e hs
 .rcases dG b l e with ⟨rfl,rfl⟩ | ⟨_,e⟩
  .simp
  .have:=h.real b l e;simp;omega
theorem Ev.ofNew {ρ:CE} {mem:CJ} {next:Nat} {w:World} (h:CF ρ mem next w) (floor:Nat) (l:C3) (o:Option CG) (ob:Obj) (hl:w.heap.size<=l.blk):
  Ev ρ (Vb ρ next l) floor mem next (Wv mem next o) (next+1) w {w with heap:=w.heap.push ob} where
 ext:=JH h.none_next
 new b hb:=by simp [Vb,BC hb]
 nxt:=B8 _
 unborn b hb _ cs ty hm:=by grind [Zv]
 frame k o hk _:=by
  grind
 fresh b l' hb e:=by
  rw [Vt] at e;by_cases hbn:b=next
  .grind
  .rw [AC hbn] at e;have:=h.dom b l' e;omega
 size:=by simp
 os:=rfl
 tape:=rfl
 output:=rfl
 still _ _:=rfl
theorem Kq {α:Type} (l c:List α) (off i:Nat) (h:off+c.length<=l.length):
  (l.take off++c++l.drop (off+c.length))[i]? =if i<off then l[i]? else if i<off+c.length then c[i - off]? else l[i]? :=by grind
theorem z3h {α:Type} (l c:List α) (off:Nat) (h:off+c.length<=l.length):(l.take off++c++l.drop (off+c.length)).length =l.length:=by grind
theorem Gv.splice {ρ:CE} {w:World} {ab:CG} {l:C3} (h:Gv ρ w ab l) {off:Nat} {cs:zy} {vs:List Value} (dA:vs.length=cs.length) (dJ:off+cs.length<=ab.cells.length)
  (hv: ∀(i:Nat) (h1:i<cs.length) (h2:i<vs.length),Yv ρ cs[i] vs[i]) (ty:TypeId) (a:Option Da):(⟨ab.cells.take off++cs++ab.cells.drop (off+cs.length),ty,a⟩:CG).isObj =false:=by
 obtain ⟨_,_,_,_,cur,el,_,_,h3⟩:=h;refine u3f (ρ:=ρ) (fun i hi=> ?_) ty a;have hg:=Kq ab.cells cs off i dJ;have hi':=hi;rw [z3h _ _ _ dJ] at hi';rw [At hi] at hg;by_cases h1:i<off
 .rw [AJ h1,At hi'] at hg;obtain ⟨v,_,hv⟩:=h3 i hi';exact ⟨v,by rw [Ag hg];exact hv⟩
 .rw [AC h1] at hg;by_cases h2:i<off+cs.length
  .rw [AJ h2,At (by omega)] at hg;exact ⟨_,by rw [Ag hg];exact hv (i - off) (by omega) (by omega)⟩
  .rw [AC h2,At hi'] at hg;obtain ⟨v,_,hv⟩:=h3 i hi';exact ⟨v,by rw [Ag hg];exact hv⟩
theorem CF.write {ρ:CE} {mem:CJ} {next:Nat} {w:World} (h:CF ρ mem next w) {b:Nat} {l:C3} {ab:CG} (hb:ρ b=some l) (hm:Yn mem b=some ab) {off:Nat} {cs:zy} {vs:List Value}
  (hno:ab.isObj=false) (dA:vs.length=cs.length) (dJ:off+cs.length<=ab.cells.length) (hv: ∀(i:Nat) (h1:i<cs.length) (h2:i<vs.length),Yv ρ cs[i] vs[i]):
  ∃cur el,w.heap[l.blk]? =some (.cells cur el (0,0))/\l.base+off+vs.length<=cur.size/\
   CF ρ (Wv mem b (some ⟨ab.cells.take off++cs++ab.cells.drop (off+cs.length),ab.ty,none⟩)) next (w.setRow l.blk (cur.toList.take (l.base+off)++vs++cur.toList.drop (l.base+off+vs.length)).toArray):=by
 obtain ⟨hty,hn,ht,har,cur,el,h1,h2,h3⟩:=(h.blk b l ab hb hm).at hno;have hfc:l.base+off+vs.length<=cur.toList.length:=by simp;omega
 refine ⟨cur,el,h1,by grind,h.dom,fun c c' m m' e e' he hs hs'=> ?_,fun c m ac e hc=> ?_,fun k o e=> ?_,fun c m e hs=>h.sep c m e (by
  grind [Zv]),fun c m e=> ?_,fun c hc=>by have:=h.dom b l hb;rw [Zv _ _ (by omega)];exact h.bd c hc,h.ldom⟩
 .refine h.inj c c' m m' e e' he ?_ ?_;all_goals grind [Zv]
 .by_cases hcb:c=b
  .subst hcb;rw [Yk] at hc;obtain rfl:=Ag hc;rw [hb] at e;obtain rfl:=Ag e;refine .plain ⟨by rw [setRow_heap w l.blk cur _ el (0,0) h1];grind,by grind,ht,(fun A e=>by cases e),_,el,setRow_heap w l.blk cur _ el (0,0) h1,?_,fun i hi=> ?_⟩
   .grind
   .rw [z3h _ _ _ dJ] at hi;have hg:=Kq ab.cells cs off i dJ;rw [At (by grind)] at hg;simp only [List.getElem?_toArray];rw [Kq _ _ _ _ hfc]
    grind
  .rw [Zv _ _ hcb] at hc;refine (h.blk c m ac e hc).world (CE.le_refl _) (setRow_other w l.blk m.blk _ fun heq=>hcb ?_);exact h.inj c b m l e hb heq (by rw [hc];rfl) (by rw [hm];rfl)
 .have hk:=h.old k o e;rw [setRow_other]
  .exact hk
  .intro heq;have:=h.sep b l hb (by rw [hm];rfl)
   grind
 .rw [setRow_size];exact h.real c m e
theorem Ev.ofWrite {ρ:CE} {mem:CJ} {next:Nat} {w:World} (h:CF ρ mem next w) {floor b:Nat} {l:C3} (hb:ρ b=some l) (hf:floor<=b) (o:Option CG) (cs:Array Value):
  Ev ρ ρ floor mem next (Wv mem b o) next w (w.setRow l.blk cs) where
 ext:=CE.le_refl _
 new _ _:=rfl
 nxt:=Ar _
 unborn k _ e cs ty hm:=by grind [Zv]
 frame k o hk hfr:=by
  grind [setRow_other]
 fresh k m hk e:=by have:=h.dom k m e;omega
 size:=by simp_all
 os:=rfl
 tape:=rfl
 output:=rfl
 still _ _:=rfl
structure Vy (ρ:CE) (env:T B9) (n:Nat) (tmps:Array Value):Prop where
 size:tmps.size=n
 get: ∀i,Yv ρ (T.get .undef env i) (tmps.getD i undef)
 out: ∀i,n<=i->T.get .undef env i=.undef
theorem Vy.mono {ρ ρ':CE} {env:T B9} {n:Nat} {tmps:Array Value} (h:Vy ρ env n tmps) (hr:ρ.le ρ'):Vy ρ' env n tmps:=
 ⟨h.size,fun i=>(h.get i).mono hr,h.out⟩
section
variable {P:Program} {ρ:CE}
theorem Si {t:TypeId} {r:Bool} (h:ZU P t=some r) (w:World):(isAgg t).run P w=.ok r w:=by
 unfold ZU at h;cases hu:P.underlying t with
 | none=>grind
 | some d=>cases d <;> simp [hu] at h <;> subst h <;> simp [isAgg,run_underlying hu]
theorem Yw {t:TypeId} {i:TypeInfo} (h:P.info? t=some i) (w:World):(sizeOf t).run P w=.ok i.size w:=by simp [sizeOf,run_typeInfo w h]
theorem NM {cs p:zy} {off n:Nat} (h:cut cs off n=some p):p=(cs.drop off).take n/\p.length=n/\(n=0\/off+n<=cs.length):=by
 unfold cut at h;dsimp only at h;cases hb:Nat.beq ((cs.drop off).take n).length n with
 | false=>grind
 | true=>
  simp only [hb,Ab,Ad] at h;have hl:=Aj hb
  grind
theorem j9u {cs p:zy} {off n:Nat} (h:cut cs off n=some p) (i:Nat) (hi:i<p.length): ∃h2:off+i<cs.length,p[i]=cs[off+i]:=by
 obtain ⟨rfl,hl,_⟩:=NM h
 grind
theorem Kg {t:TypeId} {cs:zy} {vs:Array Value} {off:Nat} {v:B9} (h:FF P t cs off=some v) (hr:Vo ρ cs vs):
  ∃u,Yv ρ v u/\ ∀w,(part t vs off).run P w=.ok u w:=by
 unfold FF at h;split at h
 .rename_i i ha hi;simp only [Aq] at h;obtain ⟨p,hp,rfl⟩:=h;obtain ⟨_,hl,hle⟩:=NM hp;refine ⟨.agg (vs.extract off (off+i.size)),.agg _ _ ?_ ?_,fun w=> ?_⟩
  .have:=hr.1;simp;omega
  .intro j h1 h2;obtain ⟨h3,e⟩:=j9u hp j h1;rw [e];have h4:off+j<vs.size:=by grind
   simpa using hr.2 (off+j) h3 h4
  simp_all [part,Si,Yw]
 .rename_i i ha hi;obtain ⟨hlt,rfl⟩:=Bb.1 h;have h4:off<vs.size:=by rw [<-hr.1];exact hlt
  exact ⟨vs[off],hr.2 off hlt h4,fun w=>by simp_all [part,Si]⟩
 .cases h
theorem y1a {rec:TypeId->B9->B9->Option Bool} {dd:Nat} {e:TypeId} {c:Nat}
  (IH: ∀x y r u u',rec e x y=some r->Yv ρ x u->Yv ρ y u'-> ∀w,(Op.equalIn dd e u u').run P w=.ok r w)
  {xs ys:zy} {us us':Array Value} (hx:Vo ρ xs us) (hy:Vo ρ ys us'): ∀(is:zr) (r:Bool),
  Gz rec P xs ys (is.map fun j=>(e,j*c))=some r-> ∀w,(Op.eqItems dd e c us us' is).run P w=.ok r w
 | [],r,h,w=>by simp_all [Gz,Op.eqItems]
 | i::is,r,h,w=>by
  simp only [A0,Gz] at h;split at h
  .rename_i a b ha hb;split at h
   .rename_i e1 f1 he hf;obtain rfl:=Ag h;obtain ⟨u,hu,pu⟩:=Kg ha hx;obtain ⟨u',hu',pu'⟩:=Kg hb hy;have q:=IH _ _ _ _ _ he hu hu' w;have r:=y1a IH hx hy is f1 hf w;cases e1 <;> simp [Op.eqItems,pu,pu',q,r]
   .cases h
  .cases h
theorem z7c {rec:TypeId->B9->B9->Option Bool} {dd:Nat}
  (IH: ∀e x y r u u',rec e x y=some r->Yv ρ x u->Yv ρ y u'-> ∀w,(Op.equalIn dd e u u').run P w=.ok r w)
  {xs ys:zy} {us us':Array Value} (hx:Vo ρ xs us) (hy:Vo ρ ys us'): ∀(fs:List Field) (r:Bool),fs.any (fun f=>f.name == "_")=false->
  Gz rec P xs ys (fs.map fun f=>(f.type,f.offset))=some r-> ∀w,(Op.eqFields dd us us' fs).run P w=.ok r w
 | [],r,_,h,w=>by simp_all [Gz,Op.eqFields]
 | f::fs,r,hn,h,w=>by
  simp only [List.any_cons,A4] at hn;simp only [A0,Gz] at h;split at h
  .rename_i a b ha hb;split at h
   .rename_i e1 f1 he hf;obtain rfl:=Ag h;obtain ⟨u,hu,pu⟩:=Kg ha hx;obtain ⟨u',hu',pu'⟩:=Kg hb hy;have q:=IH _ _ _ _ _ _ he hu hu' w;have r:=z7c IH hx hy fs f1 hn.2 hf w;have hne:f.name≠ "_" :=(by simpa using hn.1);cases e1 <;> simp [Op.eqFields,hne,pu,pu',q,r]
   .cases h
  .cases h
theorem YY (k:Nat): ∀(d:Nat) (t:TypeId) (x y:B9) (r:Bool) (u u':Value),RB P d t x y=some r->Yv ρ x u->Yv ρ y u'-> ∀w,(Op.equalIn (k+d) t u u').run P w=.ok r w
 | 0,_,_,_,_,_,_,h,_,_,_=>by simp [RB] at h
 | d + 1,t,x,y,r,u,u',h,hx,hy,w=>by
  unfold RB at h;cases hu:P.underlying t with
  | none=>grind
  | some ty=>
   rw [<-AL];cases ty <;> simp only [hu] at h <;> try (cases h;done)
   case bool=>
    split at h
    .cases hx;cases hy;grind [run_equalIn_bool']
    .cases h
   case int q=>
    split at h
    .split at h
     .rename_i hk;subst hk;cases hx;cases hy;grind [run_equalIn_int]
     .cases h
    .cases h
   case string=>
    split at h
    .cases hx;cases hy;grind [run_equalIn_string,ByteArray.toList_eq]
    .cases h
   case array n e=>
    split at h
    .rename_i xs ys i hi;cases hx with
     | agg _ us hl hh=>
      cases hy with
      | agg _ us' hl' hh'=>rw [run_equalIn_array w _ us us' hu hi];have hc:P.cellsOf e=i.size:=(by simp [Program.cellsOf,hi]);rw [hc];exact y1a (fun x y r u u' e1 e2 e3=>YY k d e x y r u u' e1 e2 e3) ⟨hl,hh⟩ ⟨hl',hh'⟩ _ _ h w
    .cases h
   case struct fs=>
    split at h
    .rename_i xs ys;cases hs:P.stoodInHeld t with
     | true=>grind
     | false=>
      cases hn:fs.toList.any (fun f=>f.name == "_") with
      | true=>grind
      | false=>
       rw [hs,hn] at h;simp only [Aa] at h;cases hx with
       | agg _ us hl hh=>
        cases hy with
        | agg _ us' hl' hh'=>have hfs:P.fieldsOf t=fs:=(by simp [Program.fieldsOf,hu]);rw [run_equalIn_struct w _ t us us' (by grind) hs,hfs];exact z7c (fun e x y r u u' e1 e2 e3=>YY k d e x y r u u' e1 e2 e3) ⟨hl,hh⟩ ⟨hl',hh'⟩ _ _ hn h w
    .cases h
theorem y8x {op:BinOp} {k:IntKind} {a b n:Int} (h:SD op k a b=some n):Op.intBits op k a b=pure (.int k n):=by
 cases op <;> simp only [SD] at h <;> first | (cases h;done) | (obtain rfl:=Ag h;rfl)
theorem w3m (op:BinOp) (t:TypeId) (x y:Operand) (k k':IntKind) (a b:Int) (w:World):(eqGuard op t x y (.int k a) (.int k' b)).run P w=.ok () w:=by cases op <;> simp [eqGuard]
theorem v2p {op:BinOp} {t:TypeId} {x y:B9} {v:B9} {b:Bool} {u u':Value} (h:RC P op t x y=some (v,b)) (hb:b=true) (hx:Yv ρ x u) (hy:Yv ρ y u') (ox oy:Operand):
  ∃z,Yv ρ v z/\ ∀w,(do eqGuard op t ox oy u u';binOp op t u u':Sem Value).run P w=.ok z w:=by
 subst hb;unfold RC at h;split at h
 .rename_i k a k' b;cases hx;cases hy;have g:=fun w=>w3m (P:=P) op t ox oy k k' a b w;split at h
  .simp only [Ad,Ae,A8,Ba] at h;obtain ⟨rfl,h0⟩:=h;exact ⟨_,.int _ _,fun w=>by simp [g,binOp,Op.shift,h0]⟩
  .simp only [Ad,Ae,A8,Ba] at h;obtain ⟨rfl,h0⟩:=h;exact ⟨_,.int _ _,fun w=>by simp [g,binOp,Op.shift,h0]⟩
  .rename_i hshl hshr;split at h
   .rename_i hk;subst hk;have fin: ∀n,SD op k a b=some n-> ∃z,Yv ρ (.int k n) z/\ ∀w,(do eqGuard op t ox oy (.int k a) (.int k b);binOp op t (.int k a) (.int k b):Sem Value).run P w=.ok z w:=by
     intro n hn;have e:=y8x hn;refine ⟨_,.int _ _,fun w=> ?_⟩;cases op <;> simp only [SD] at hn <;> first | (cases hn;done) | (simp [g,binOp,e];done)
    cases op <;> dsimp only at h
    case shl=>grind
    case shr=>grind
    case quo=>simp only [Ad,Ae,A8,Ba] at h;obtain ⟨rfl,h0⟩:=h;exact ⟨_,.int _ _,fun w=>by simp [g,binOp,Op.intDiv,h0]⟩
    case rem=>simp only [Ad,Ae,A8,Ba] at h;obtain ⟨rfl,h0⟩:=h;exact ⟨_,.int _ _,fun w=>by simp [g,binOp,Op.intDiv,h0]⟩
    all_goals first
     | (simp only [Aq,Ae] at h
        grind)
     | (simp only [Ad,Ae] at h
        obtain ⟨rfl,_⟩:=h;refine ⟨_,.int _ _,fun w=> ?_⟩;simp_all [binOp,Op.intArith])
     | (simp only [Ad,Ae] at h
        obtain ⟨rfl,_⟩:=h;refine ⟨_,.bool _,fun w=> ?_⟩;simp_all [binOp,Op.intCmp])
   .cases h
 .rename_i a b;cases hx;cases hy;split at h
  .rename_i hu;split at h
   .simp only [Ad,Ae] at h;obtain ⟨rfl,_⟩:=h;exact ⟨_,.bool _,fun w=>by simp_all [eqGuard,binOp,Op.equal,Op.maxDepth,run_equalIn_bool']⟩
   .simp only [Ad,Ae] at h;obtain ⟨rfl,_⟩:=h;exact ⟨_,.bool _,fun w=>by simp_all [eqGuard,binOp,Op.equal,Op.maxDepth,run_equalIn_bool']⟩
   .cases h
  .cases h
 .rename_i a b;cases hx with
  | agg _ us hl hh=>
   cases hy with
   | agg _ us' hl' hh'=>
    cases hg:P.eqGuardType P.depth t with
    | true=>grind
    | false=>
     simp only [hg,Aa] at h;split at h
     .simp only [Aq,Ae] at h;obtain ⟨r,hr,rfl,_⟩:=h;have q:=fun w=>YY 9970 30 t _ _ r _ _ hr (Yv.agg a us hl hh) (Yv.agg b us' hl' hh') w;exact ⟨_,.bool _,fun w=>by simp_all [run_eqGuard_agg,run_eql_struct]⟩
     .simp only [Aq,Ae] at h;obtain ⟨r,hr,rfl,_⟩:=h;have q:=fun w=>YY 9970 30 t _ _ r _ _ hr (Yv.agg a us hl hh) (Yv.agg b us' hl' hh') w;exact ⟨_,.bool _,fun w=>by simp_all [run_eqGuard_agg,run_neq_struct]⟩
     .cases h
 .cases hx with
  | sl _ _ _ _ l c hl hc dA=>
   cases hy;split at h
   .rename_i e hu;have q:=fun (w:World) (a:Addr) (n c:Nat)=>Lib.run_equalIn_slice_nil (P:=P) w 9999 t e (some a) n c 0 0 hu;split at h
    .simp only [Ad,Ae] at h;obtain ⟨rfl,_⟩:=h;exact ⟨_,.bool _,fun w=>by simp [eqGuard,binOp,Op.equal,Op.maxDepth,q]⟩
    .simp only [Ad,Ae] at h;obtain ⟨rfl,_⟩:=h;exact ⟨_,.bool _,fun w=>by simp [eqGuard,binOp,Op.equal,Op.maxDepth,q]⟩
    .cases h
   .cases h
 .cases hx with
  | nnl _ _ a c _=>
   cases hy;split at h
   .rename_i e hu;have q:=fun (w:World) (a:Addr) (n c:Nat)=>Lib.run_equalIn_slice_nil (P:=P) w 9999 t e (some a) n c 0 0 hu;split at h
    .simp only [Ad,Ae] at h;obtain ⟨rfl,_⟩:=h;exact ⟨_,.bool _,fun w=>by simp [eqGuard,binOp,Op.equal,Op.maxDepth,q]⟩
    .simp only [Ad,Ae] at h;obtain ⟨rfl,_⟩:=h;exact ⟨_,.bool _,fun w=>by simp [eqGuard,binOp,Op.equal,Op.maxDepth,q]⟩
    .cases h
   .cases h
 .cases hx;cases hy;split at h
  .rename_i e hu;have q:=fun w=>Lib.run_equalIn_slice_nil (P:=P) w 9999 t e none 0 0 0 0 hu;split at h
   .simp only [Ad,Ae] at h;obtain ⟨rfl,_⟩:=h;exact ⟨_,.bool _,fun w=>by simp [eqGuard,binOp,Op.equal,Op.maxDepth,q]⟩
   .simp only [Ad,Ae] at h;obtain ⟨rfl,_⟩:=h;exact ⟨_,.bool _,fun w=>by simp [eqGuard,binOp,Op.equal,Op.maxDepth,q]⟩
   .cases h
  .cases h
 .cases hx;cases hy;split at h
  case h_3=>
   rename_i a b _;simp only [Ad,Ae] at h;obtain ⟨rfl,dA⟩:=h;have dA:=Al dA;refine ⟨_,.str _,fun w=> ?_⟩;have e:(⟨(a++b).toArray⟩:ByteArray)=⟨a.toArray⟩++⟨b.toArray⟩:=by apply ByteArray.ext;rw [ByteArray.data_append];simp
   have hn: ¬(((⟨a.toArray⟩:ByteArray).size +(⟨b.toArray⟩:ByteArray).size :Nat):Int)>IntKind.i64.max:=by have:IntKind.i64.max=9223372036854775807:=(by decide);rw [this];simp only [<-ByteArray.size_data,List.size_toArray];omega
   rw [e];simp only [eqGuard,binOp,Op.stringOp,AC hn];simp
  all_goals first
   | (cases h;done)
   | (simp only [Ad,Ae] at h
      obtain ⟨rfl,_⟩:=h;exact ⟨_,.bool _,fun w=>by simp_all [eqGuard,binOp,Op.stringOp]⟩)
 .cases h
theorem v8j {op:UnOp} {x v:B9} {u:Value} (h:aUn op x=some v) (hx:Yv ρ x u): ∃z,Yv ρ v z/\ ∀w,(Op.unary op u).run P w=.ok z w:=by
 unfold aUn at h;split at h
 .cases hx;obtain rfl:=Ag h;exact ⟨_,.int _ _,fun w=>by simp [Op.unary,Op.intArith]⟩
 .cases hx;simp only [Aq] at h;obtain ⟨n,hn,rfl⟩:=h;exact ⟨_,.int _ _,fun w=>by simp [Op.unary,y8x hn]⟩
 .cases hx;obtain rfl:=Ag h;exact ⟨_,.bool _,fun w=>by simp [Op.unary]⟩
 .cases h
end
section
variable {P:Program} {ρ:CE}
theorem XD (v:Value):Yv ρ (NN v) v:=by
 cases v with
 | bool b=>exact .bool b
 | int k n=>exact .int k n
 | string s=>exact .str s.data.toList
 | pointer a=>cases a with
  | none=>exact .nilp
  | some a=>exact .undef _
 | slice a n c=>
  cases a with
  | some a=>exact .undef _
  | none=>
   cases n with
   | succ n=>exact .undef _
   | zero=>cases c with
    | zero=>exact .nils
    | succ c=>exact .undef _
 | nilFunc=>exact .nilf
 | nilIface=>exact .nili
 | _=>exact .undef _
theorem x0l (v:Value) (h: ∀cs,v≠ .agg cs):Oq v=NN v:=by
 cases v <;> first | rfl | grind
theorem v5v (v:Value):Yv ρ (Oq v) v:=by
 by_cases h: ∃cs,v=.agg cs
 .obtain ⟨cs,rfl⟩:=h;refine .agg _ _ (by simp) fun i h1 h2=> ?_
  grind [XD]
 grind [x0l,XD]
theorem y9i (v:Value):(NN v).cells =[NN v]:=by unfold NN;split <;> rfl
theorem v5w (v:Value):Vo ρ (Oq v).cells v.cells:=by
 by_cases h: ∃cs,v=.agg cs
 .obtain ⟨cs,rfl⟩:=h;refine ⟨by simp [Oq,B9.cells,Value.cells],fun i h1 h2=> ?_⟩
  grind [XD,Value.cells,Oq,B9.cells]
 .rw [x0l v fun cs e=>h ⟨cs,e⟩,y9i];have hc:v.cells= #[v]:=by cases v <;> first | rfl | grind
  rw [hc];refine ⟨rfl,fun i h1 h2=> ?_⟩
  grind [XD]
theorem We {t:TypeId} {z:zy} (h:EZ P t=some z): ∃i v,P.info? t=some i/\i.zero=some v/\Vo ρ z v.cells/\ ∀w,(zeroValue t).run P w=.ok v w:=by
 unfold EZ at h;cases hi:P.info? t with
 | none=>grind
 | some i=>simp only [hi,Aq] at h;obtain ⟨v,hz,rfl⟩:=h;simp_all [v5w,zeroValue,run_typeInfo]
theorem w6s (off:Nat): ∀(l:List Value) (k:Nat) (cells:Array Value),off+k+l.length<=cells.size->
  (l.zipIdx k).foldl (fun cs p=>cs.setIfInBounds (off+p.2) p.1) cells=(cells.toList.take (off+k)++l++cells.toList.drop (off+k+l.length)).toArray
 | [],k,cells,_=>by simp
 | v::l,k,cells,h=>by
  simp only [List.zipIdx_cons,List.foldl_cons];rw [w6s off l (k+1) _ (by simp at h ⊢;omega)];have e:=list_seg_step cells.toList (off+k) v l (by simp at h ⊢;omega)
  simpa [Array.toList_setIfInBounds,AL] using e
theorem Vo.splice {cells:zy} {arr:Array Value} {c:zy} {vs:Array Value} {off:Nat} (h:Vo ρ cells arr) (hc:Vo ρ c vs) (dJ:off+c.length<=cells.length):
  Vo ρ (cells.take off++c++cells.drop (off+c.length)) (arr.toList.take off++vs.toList++arr.toList.drop (off+vs.toList.length)).toArray :=by
 have e1:=h.1;have e2:=hc.1;have f1:off+vs.toList.length<=arr.toList.length:=by simp;omega
 refine ⟨by grind,fun i h1 h2=> ?_⟩;rw [z3h _ _ _ dJ] at h1;have g1:=Kq cells c off i dJ;have g2:=Kq arr.toList vs.toList off i f1;rw [At (by grind)] at g1;rw [At (by grind)] at g2;rw [List.getElem_toArray];by_cases k1:i<off
 .rw [AJ k1,At h1] at g1;rw [AJ k1,At (by simp;omega)] at g2;rw [Ag g1,Ag g2]
  simpa using h.2 i h1 (by omega)
 .by_cases k2:i<off+c.length
  .rw [AC k1,AJ k2,At (by omega)] at g1;rw [AC k1,AJ (by simp;omega),At (by simp;omega)] at g2;rw [Ag g1,Ag g2]
   simpa using hc.2 (i - off) (by omega) (by omega)
  .rw [AC k1,AC k2,At h1] at g1;rw [AC k1,AC (by simp;omega),At (by simp;omega)] at g2;rw [Ag g1,Ag g2]
   simpa using h.2 i h1 (by omega)
def Iz (ρ:CE) (ps:List (Nat×B9)) (qs:List (Nat×Value)):Prop:=
 Vg (fun p q=>p.1=q.1/\Yv ρ p.2 q.2) ps qs
theorem Qd {place:Nat->Option (Nat×Nat)}: ∀{ps:List (Nat×B9)} {qs:List (Nat×Value)} {cells out:zy} {arr:Array Value},HS place cells ps=some out->
  Vo ρ cells arr->Iz ρ ps qs-> ∃arr',Instr.fill place arr qs=some arr'/\Vo ρ out arr'
 | [],_,cells,out,arr,h,hr,hp=>by cases hp;simp only [HS,Ad] at h;subst h;exact ⟨arr,rfl,hr⟩
 | (i,v)::ps,_,cells,out,arr,h,hr,hp=>by
  cases hp with
  | @cons _ q _ qs hq hqs=>
   obtain ⟨j,u⟩:=q;obtain ⟨hij,hv⟩:=hq;simp only at hij hv;subst hij;unfold HS at h;cases hpl:place i with
   | none=>simp [hpl] at h
   | some pl=>
    obtain ⟨off,size⟩:=pl;simp only [hpl] at h;cases hc:(Gy v&&Nat.beq v.cells.length size&&Nat.ble (off+size) cells.length) with
    | false=>rw [hc] at h;cases h
    | true=>
     rw [hc,Ab] at h;simp only [Ac] at hc;obtain ⟨⟨hb,hs⟩,hf⟩:=hc;have hs:=Aj hs;have hf:=Al hf;have dE:=hv.cells hb;have hsz:u.cells.size=size:=by rw [<-dE.1];exact hs
     have dJ:off+v.cells.length<=cells.length:=(by omega);rw [<-hs] at h;obtain ⟨arr',h1,h2⟩:=Qd h (hr.splice dE dJ) hqs;refine ⟨arr',?_,h2⟩;unfold Instr.fill;simp only [hpl];have hle:off+u.cells.size<=arr.size:=by rw [<-hr.1,hsz];omega
     have hz: ¬(u.cells.size≠size||decide (off+u.cells.size>arr.size))=true:=by simp [hsz];rw [hsz] at hle;exact hle
     rw [AC hz];rw [<-h1]
     congr 1
     rw [<-Array.foldl_toList,Array.toList_zipIdx];have:=w6s off u.cells.toList 0 arr (by simpa using hle)
     simpa using this
theorem z5q : ∀{fs:List Field} {pl:List (Nat×Nat)},Qg P fs=some pl-> ∀w,(fs.mapM fun f=>Prod.mk f.offset<$>sizeOf f.type:Sem (List (Nat×Nat))).run P w=.ok pl w
 | [],pl,h,w=>by simp [Qg] at h;subst h;simp
 | f::fs,pl,h,w=>by
  unfold Qg at h;cases hi:P.info? f.type with
  | none=>simp [hi] at h
  | some i=>
   cases hr:Qg P fs with
   | none=>simp [hi,hr] at h
   | some l=>simp only [hi,hr,Ad] at h;subst h;have:=z5q hr w;simp [List.mapM_cons,Yw hi,this]
theorem x7h {t:TypeId} {ps:List (Nat×B9)} {qs:List (Nat×Value)} {v:B9} (h:v8p P t ps=some v) (hp:Iz ρ ps qs):
  ∃u,Yv ρ v u/\ ∀w,(Instr.build t qs.toArray).run P w=.ok u w:=by
 unfold v8p at h;split at h
 .rename_i fs zero hu hz;obtain ⟨i,z,_,_,hzr,hzv⟩:=We (ρ:=ρ) hz;split at h
  .rename_i pl hpl;simp only [Aq] at h;obtain ⟨cells,hc,rfl⟩:=h;obtain ⟨arr,h1,h2⟩:=Qd hc hzr hp;refine ⟨.agg arr,.agg _ _ h2.1 h2.2,fun w=> ?_⟩;have hpr:=z5q hpl w;simp [Instr.build,hzv,run_underlying hu,Array.mapM_eq_mapM_toList,hpr,h1]
  .cases h
 .rename_i n e zero hu hz;obtain ⟨i,z,_,_,hzr,hzv⟩:=We (ρ:=ρ) hz;split at h
  .rename_i i hi;simp only [Aq] at h;obtain ⟨cells,hc,rfl⟩:=h;obtain ⟨arr,h1,h2⟩:=Qd hc hzr hp;exact ⟨.agg arr,.agg _ _ h2.1 h2.2,fun w=>by simp_all [Instr.build,run_underlying,Yw]⟩
  .cases h
 .cases h
theorem Xh (b o n:Nat):(⟨b,o,none⟩:Addr).add n=⟨b,o+n,none⟩:=by
 grind [Addr.add]
theorem Yv.dptr_drop {cs:zy} {blk base:Nat} {val:Nat->Value} (hv: ∀(j:Nat) (hj:j<cs.length),Yv ρ.bare cs[j] (val j)) (hh: ∀j,j<cs.length->HQ ρ.fz blk (base+j) (val j)) (k:Nat):
  Yv ρ (.dptr (cs.drop k)) (.pointer (some ⟨blk,base+k,none⟩)):=
 .dptr _ _ _ (fun j=>val (k+j)) (fun j hj=>by grind) (fun j hj=>by grind)
theorem y3u {t:TypeId} {x i v:B9} {u ui:Value} {b:Bool} (h:y2m P t x i=some (v,b)) (hb:b=true) (hx:Yv ρ x u) (hi:Yv ρ i ui):
  ∃z,Yv ρ v z/\ ∀w,(Instr.indexAt t u ui).run P w=.ok z w:=by
 subst hb;unfold y2m at h;split at h
 .rename_i len e b off k n hu;cases hi;simp only [Aq,Ae,Ao] at h;obtain ⟨s,hs,rfl,hn⟩:=h;cases hx with
  | ptr _ _ l hl=>refine ⟨_,.ptr _ _ l hl,fun w=> ?_⟩;simp [Instr.indexAt,asIntOf,run_underlying hu,Instr.sureAddr,hn,Yw hs,Xh,AL]
 .rename_i len e cs k n hu;cases hi;simp only [Aq,Ae,Ao] at h;obtain ⟨s,hs,rfl,hn⟩:=h;cases hx with
  | dptr _ blk base val hv hh=>refine ⟨_,Yv.dptr_drop hv hh _,fun w=> ?_⟩;simp [Instr.indexAt,asIntOf,run_underlying hu,Instr.sureAddr,hn,Yw hs,Xh]
 .rename_i e b off len cap k n hu;cases hi;simp only [Aq,Ae,Ao] at h;obtain ⟨s,hs,rfl,hn⟩:=h;cases hx with
  | sl _ _ _ _ l c hl hc dA=>refine ⟨_,.ptr _ _ l hl,fun w=> ?_⟩;simp [Instr.indexAt,asIntOf,run_underlying hu,hn,Yw hs,Xh,AL]
 .rename_i e len get k n hu;cases hi;simp only [Aq,Ae,Ac,Ao] at h;obtain ⟨s,hs,rfl,hn,hl⟩:=h;have hl:=Aj hl;cases hx with
  | dat _ _ blk base sz cap val dH hsz hv hh=>
   have hlt:n.toNat<len:=by omega
   have hse:sz=s.size:=by grind
   refine ⟨_,.dptr _ blk (base+n.toNat*s.size) (val n.toNat) (fun j hj=>hv _ j hlt hj) (fun j hj=> ?_),fun w=> ?_⟩
   .grind
   .simp [Instr.indexAt,asIntOf,run_underlying hu,hn,Yw hs,Xh]
  | datn=>omega
  | datz=>omega
 .rename_i e b sz off len cap k n hu;cases hi;simp only [Aq,Ae,Ac,Ao] at h;obtain ⟨s,hs,rfl,hn,hl⟩:=h;have hl:=Aj hl;cases hx with
  | sla _ _ _ _ _ l c hl' hc dA=>refine ⟨_,.epa _ _ _ _ l hl',fun w=> ?_⟩;simp [Instr.indexAt,asIntOf,run_underlying hu,hn,Yw hs,Xh,hl,AR,AL]
  | slan=>omega
 .rename_i e b sz off len k n hu;cases hi;simp only [Aq,Ae,Ac,Ao] at h;obtain ⟨s,hs,rfl,hn,hl⟩:=h;have hl:=Aj hl;cases hx with
  | slv _ _ _ _ l c hl' dA=>refine ⟨_,.epa _ _ _ _ l hl',fun w=> ?_⟩;simp [Instr.indexAt,asIntOf,run_underlying hu,hn,Yw hs,Xh,hl,AR,AL]
  | slve=>omega
  | slvn=>omega
 .rename_i len e b sz r fo k n hu;cases hi;simp only [Aq,Ae,Ao] at h;obtain ⟨s,hs,rfl,hn⟩:=h;cases hx with
  | epa _ _ _ _ l hl=>refine ⟨_,.epa _ _ _ _ l hl,fun w=> ?_⟩;simp [Instr.indexAt,asIntOf,run_underlying hu,Instr.sureAddr,hn,Yw hs,Xh,AL]
 .cases h
theorem y3v {t:TypeId} {x v:B9} {f:Nat} {u:Value} (h:y2n P t x f=some v) (hx:Yv ρ x u):
  ∃z,Yv ρ v z/\ ∀w,(Instr.fieldAt t u f).run P w=.ok z w:=by
 unfold y2n at h;split at h
 .rename_i fs hu;split at h
  .rename_i fd hf;split at h
   .rename_i i hi;cases hz:Nat.beq i.size 0 with
    | true=>grind
    | false=>
     rw [hz,Aa] at h;have hne:i.size≠0:=fun e=>by simp_all
     split at h
     .obtain rfl:=Ag h;cases hx with
      | ptr _ _ l hl=>exact ⟨_,.ptr _ _ l hl,fun w=>by simp_all [Instr.fieldAt,run_underlying,Instr.sureAddr,fieldPlace,Yw,Xh]⟩
     .obtain rfl:=Ag h;cases hx with
      | dptr _ blk base val hv hh=>exact ⟨_,Yv.dptr_drop hv hh _,fun w=>by simp_all [Instr.fieldAt,run_underlying,Instr.sureAddr,fieldPlace,Yw,Xh]⟩
     .obtain rfl:=Ag h;cases hx with
      | epa _ _ _ _ l hl=>exact ⟨_,.epa _ _ _ _ l hl,fun w=>by simp_all [Instr.fieldAt,run_underlying,Instr.sureAddr,fieldPlace,Yw,Xh]⟩
     .cases h
   .cases h
  .cases h
 .cases h
theorem x7c {t:TypeId} {x v:B9} {f:Nat} {u:Value} (h:v8n P t x f=some v) (hx:Yv ρ x u):
  ∃z,Yv ρ v z/\ ∀w,(Instr.field t u f).run P w=.ok z w:=by
 unfold v8n at h;split at h
 .rename_i fs cs hu;split at h
  .rename_i fd hf;cases hx with
   | agg _ vs hl hh=>obtain ⟨z,hz,hr⟩:=Kg h ⟨hl,hh⟩;simp_all [Instr.field,run_underlying,asAgg]
  .cases h
 .cases h
theorem x7b {t:TypeId} {x i v:B9} {u ui:Value} {b:Bool} (h:v8m P t x i=some (v,b)) (hb:b=true) (hx:Yv ρ x u) (hi:Yv ρ i ui):
  ∃z,Yv ρ v z/\ ∀w,(Instr.index t u ui).run P w=.ok z w:=by
 subst hb;unfold v8m at h;split at h
 .rename_i len e cs k n hu;cases hi;split at h
  .rename_i s hs;simp only [Aq,Ae,Ao] at h;obtain ⟨v,hp,rfl,hn⟩:=h;cases hx with
   | agg _ vs hl hh=>obtain ⟨z,hz,hr⟩:=Kg hp ⟨hl,hh⟩;simp_all [Instr.index,asIntOf,run_underlying,Yw]
  .cases h
 .rename_i s k n hu;cases hi;cases hx;simp only [Ad,Ae,Ao] at h;obtain ⟨rfl,hn⟩:=h;refine ⟨_,.int _ _,fun w=> ?_⟩;have hlt:n.toNat<s.length:=by omega
  have hn0:=hn.1;have e:(⟨s.toArray⟩:ByteArray)[n.toNat]? =some s[n.toNat]:=by rw [getElem?_pos _ _ (by simpa [ByteArray.size] using hlt)];simp [ByteArray.getElem_eq_getElem_data]
  have e2:Cl s n.toNat=(s[n.toNat].toNat :Int):=by unfold Cl;rw [Bj,At hlt];rfl
  simp_all [Instr.index,asIntOf,run_underlying]
 .cases h
theorem y7c {k:IntKind}: ∀{r:zy} {x n:Int} {us:List Value},Sy k x r=some n->Vg (Yv ρ) r us-> ∀w,(us.foldlM Builtin.min2 (.int k x)).run P w=.ok (.int k n) w
 | [],x,n,_,h,hr,w=>by cases hr;simp [Sy] at h;subst h;simp
 | a::r,x,n,_,h,hr,w=>by
  cases hr with
  | cons ha hrs=>
   cases a <;> simp only [Sy,Jc] at h <;> try (cases h;done)
   cases ha;have:=y7c h hrs w;simp [List.foldlM_cons,Builtin.min2,this]
theorem y7e {k:IntKind}: ∀{r:zy} {x n:Int} {us:List Value},Sx k x r=some n->Vg (Yv ρ) r us-> ∀w,(us.foldlM Builtin.max2 (.int k x)).run P w=.ok (.int k n) w
 | [],x,n,_,h,hr,w=>by cases hr;simp [Sx] at h;subst h;simp
 | a::r,x,n,_,h,hr,w=>by
  cases hr with
  | cons ha hrs=>
   cases a <;> simp only [Sx,Jd] at h <;> try (cases h;done)
   cases ha;have:=y7e h hrs w;simp [List.foldlM_cons,Builtin.max2,this]
theorem y9l {bi:Builtin} {ts:Array TypeId} {type:TypeId} {xs:zy} {us:Array Value} {v:B9} (h:XH P bi ts.toList xs=some v) (hx:Vg (Yv ρ) xs us.toList):
  ∃z,Yv ρ v z/\ ∀(cst:Array Bool) (w:World),(builtin bi ts type cst us).run P w=.ok (.value z) w:=by
 obtain ⟨ts⟩:=ts;obtain ⟨us⟩:=us;simp only at h hx;unfold XH at h;split at h
 .rename_i t _ x _;cases hx with
  | cons ha _=>
   split at h
   .rename_i hu;cases ha;obtain rfl:=Ag h;exact ⟨_,.int _ _,fun cst w=>by simp [builtin,Builtin.len_,run_underlying hu,goInt,<-ByteArray.size_data]⟩
   .rename_i hu;obtain rfl:=Ag h;exact ⟨_,.int _ _,fun cst w=>by simp [builtin,Builtin.len_,run_underlying hu,goInt]⟩
   all_goals first
    | (rename_i hu
       obtain rfl:=Ag h;cases ha <;> exact ⟨_,.int _ _,fun cst w=>by simp [builtin,Builtin.len_,run_underlying hu,goInt]⟩)
    | grind
 .rename_i k x r;cases hx with
  | cons ha hr=>cases ha;simp only [Aq] at h;obtain ⟨n,hn,rfl⟩:=h;have:=y7c (P:=P) hn hr;exact ⟨_,.int _ _,fun cst w=>by simp [builtin,Builtin.min_,this]⟩
 .rename_i k x r;cases hx with
  | cons ha hr=>cases ha;simp only [Aq] at h;obtain ⟨n,hn,rfl⟩:=h;have:=y7e (P:=P) hn hr;exact ⟨_,.int _ _,fun cst w=>by simp [builtin,Builtin.max_,this]⟩
 .rename_i t _ x _;cases hx with
  | cons ha _=>
   split at h
   .rename_i hu;obtain rfl:=Ag h;cases ha with
    | sl _ _ _ _ l c hl hc dA=>simp only [D2] at hc;subst hc;exact ⟨_,.int _ _,fun cst w=>by simp [builtin,Builtin.cap_,run_underlying hu,goInt]⟩
   .rename_i hu;obtain rfl:=Ag h;cases ha;exact ⟨_,.int _ _,fun cst w=>by simp [builtin,Builtin.cap_,run_underlying hu,goInt]⟩
   .cases h
 .cases h
end
section
variable {P:Program} {ρ:CE}
theorem Yf (isSlice:Bool) (len cap m h l:Nat) (low high max:Option Value) (hm:(max=none/\m=cap)\/(∃k,max=some (.int k m)/\m<=cap))
  (hh:(high=none/\max=none/\h=len)\/(∃k,high=some (.int k h)/\h<=m)) (hl:(low=none/\l=0)\/ ∃k,low=some (.int k l)/\l<=h) (w:World):
  (Instr.sliceBounds isSlice len cap low high max).run P w=.ok (l,h,m) w:=by
 have nn: ∀n:Nat,(0:Int)<=n:=fun n=>Int.natCast_nonneg n;rcases hm with ⟨rfl,rfl⟩ | ⟨km,rfl,hm⟩
 .rcases hh with ⟨rfl,_,rfl⟩ | ⟨kh,rfl,hh⟩
  .rcases hl with ⟨rfl,rfl⟩ | ⟨kl,rfl,hl⟩;all_goals simp_all [Instr.sliceBounds,Instr.sliceBound,asIntOf]
  .rcases hl with ⟨rfl,rfl⟩ | ⟨kl,rfl,hl⟩;all_goals simp_all [Instr.sliceBounds,Instr.sliceBound,asIntOf]
 .rcases hh with ⟨rfl,e,_⟩ | ⟨kh,rfl,hh⟩
  .cases e
  .rcases hl with ⟨rfl,rfl⟩ | ⟨kl,rfl,hl⟩;all_goals simp_all [Instr.sliceBounds,Instr.sliceBound,asIntOf]
theorem Xy {ev:Operand->B9} {ec:Operand->Value} {o:Option Operand} {d n:Nat} {b:Bool} (h:Db ev o d=some (n,b)) (hb:b=true) (hr: ∀x,o=some x->Yv ρ (ev x) (ec x)):
  (o=none/\n=d)\/ ∃k,o.map ec=some (.int k n):=by
 subst hb;unfold Db at h;cases o with
 | none=>grind
 | some x=>
  right;have hx:=hr x rfl;simp only at h;split at h
  .rename_i k i e;simp only [Ad,Ae,Ao] at h;obtain ⟨rfl,h0⟩:=h;rw [e] at hx;refine ⟨k,?_⟩;simp only [BZ];rw [show ((i.toNat:Nat):Int)=i by omega];generalize ec x=u at hx ⊢;cases hx;rfl
  .cases h
theorem x3s (c:Bool) (b o off k:Nat) (m l:Nat) (_:Nat.beq m l=c):(if m=l then some (⟨b,o+off,none⟩:Addr) else some ((⟨b,o+off,none⟩:Addr).add k))=some ⟨b,o+(bif Nat.beq m l then off else off+k),none⟩:=by
 by_cases h:m=l
 .simp_all
 .rw [AC h,show Nat.beq m l=false from A5.2 fun e=>h (Aj e),Xh,AL];rfl
theorem x7a {ev:Operand->B9} {ec:Operand->Value} {t:TypeId} {x:Operand} {lo hi mx:Option Operand} {v:B9} {b:Bool} (h:v8k P ev t x lo hi mx=some (v,b)) (hb:b=true)
  (hx:Yv ρ (ev x) (ec x)) (hlo: ∀y,lo=some y->Yv ρ (ev y) (ec y)) (hhi: ∀y,hi=some y->Yv ρ (ev y) (ec y)) (hmx: ∀y,mx=some y->Yv ρ (ev y) (ec y)):
  ∃z,Yv ρ v z/\ ∀w,(Instr.sliceAt t (ec x) (lo.map ec) (hi.map ec) (mx.map ec)).run P w=.ok z w:=by
 subst hb;unfold v8k at h;split at h
 .rename_i e hu hev;rw [hev] at hx;split at h
  .rename_i s l a hh b hs hl hh';simp only [Ad,Ae,Ac] at h;obtain ⟨rfl,⟨⟨ha,hb⟩,h1⟩,h2⟩:=h;have e1:=Aj h1;have e2:=Aj h2;subst e1;subst e2;have q1:=Xy hl ha hlo;have q2:=Xy hh' hb hhi;generalize hw:ec x=u at hx;cases hx;refine ⟨_,.nils,fun w=> ?_⟩;have sb:=Yf (P:=P) true 0 0 0 0 0 (lo.map ec) (hi.map ec) none (.inl ⟨rfl,rfl⟩)
    (q2.elim (fun q=>.inl ⟨by rw [q.1];rfl,rfl,rfl⟩) (fun ⟨k,q⟩=>.inr ⟨k,q,Ar _⟩)) (q1.elim (fun q=>.inl ⟨by rw [q.1];rfl,rfl⟩) (fun ⟨k,q⟩=>.inr ⟨k,q,Ar _⟩))
   simp_all [Instr.sliceAt,Instr.slice,run_underlying,Yw]
  .cases h
 .rename_i e b off len c hu hev;rw [hev] at hx;split at h
  .rename_i s m x1 hh x2 l x3 hs hm hhi' hl;split at h
   .cases h
   .rename_i hno;simp only [Ad,Ae,Ac] at h;obtain ⟨rfl,⟨⟨⟨⟨h1,h2⟩,h3⟩,h4⟩,h5⟩,h6⟩:=h;have h4:=Al h4;have h5:=Al h5;have h6:=Al h6;have q0:=Xy hm h1 hmx;have q1:=Xy hl h3 hlo;have q2:=Xy hhi' h2 hhi;generalize hw:ec x=u at hx;cases hx with
    | sl _ _ _ _ lc c' hρ hc _=>
     simp only [D2] at hc;subst hc;refine ⟨_,.sl _ _ _ _ lc _ hρ rfl (by omega),fun w=> ?_⟩;have sb:=Yf (P:=P) true len c' m hh l (lo.map ec) (hi.map ec) (mx.map ec) (q0.elim (fun q=>.inl ⟨by rw [q.1];rfl,q.2⟩) (fun ⟨k,q⟩=>.inr ⟨k,q,h4⟩))
      (q2.elim (fun q=>.inl ⟨by rw [q.1];rfl,by
       simp_all,q.2⟩) (fun ⟨k,q⟩=>.inr ⟨k,q,h5⟩)) (q1.elim (fun q=>.inl ⟨by rw [q.1];rfl,q.2⟩) (fun ⟨k,q⟩=>.inr ⟨k,q,h6⟩)) w
     simp [Instr.sliceAt,Instr.slice,run_underlying hu,sb,Yw hs];exact x3s _ _ _ _ _ _ _ rfl
  .cases h
 .rename_i e b off len zz hu hev;rw [hev] at hx;split at h
  .rename_i s hh x2 l x3 hs hhi' hl;cases hz:Nat.beq zz s.size with
   | false=>grind
   | true=>
    rw [hz,Ab] at h;have hz:=Aj hz;rcases (by cases hlo':(Nat.beq hh l&&Nat.ble 1 l) with
      | true=>rw [hlo',Ab] at h;exact .inl ⟨rfl,h⟩
      | false=>rw [hlo',Aa] at h;exact .inr h:((Nat.beq hh l&&Nat.ble 1 l)=true/\some _=some _)\/(some _=some _)) with ⟨hq,h⟩ | h
    .simp only [Ad,Ae,Ac] at h hq;obtain ⟨rfl,⟨h2,h3⟩,h5⟩:=h;obtain rfl:=Aj hq.1;have h5:=Al h5;have q1:=Xy hl h3 hlo;have q2:=Xy hhi' h2 hhi;generalize hw:ec x=u at hx;cases hx with
     | sl _ _ _ _ lc c hρ hc dA=>
      have sb:=Yf (P:=P) true len c c hh hh (lo.map ec) (hi.map ec) none (.inl ⟨rfl,rfl⟩)
       (q2.elim (fun q=>.inl ⟨by rw [q.1];rfl,rfl,q.2⟩) (fun ⟨k,q⟩=>.inr ⟨k,q,by omega⟩)) (q1.elim (fun q=>.inl ⟨by rw [q.1];rfl,q.2⟩) (fun ⟨k,q⟩=>.inr ⟨k,q,Ar _⟩))
      have e0: ∀(base:Nat),Yv ρ (.dat 0 fun _=>[]) (.slice (some ⟨lc.blk,base,none⟩) 0 (c - hh)):=fun base=>
       .dat 0 _ lc.blk base 0 (c - hh) (fun _ _=>undef) (Ay _) (fun i hi=>absurd hi (AD _)) (fun i j hi=>absurd hi (AD _)) (fun i j hi=>absurd hi (AD _))
      by_cases hcl:c=hh
      .subst hcl;refine ⟨_,e0 (lc.base+off),fun w=> ?_⟩;simp [Instr.sliceAt,Instr.slice,run_underlying hu,sb,Yw hs]
      .refine ⟨_,e0 (lc.base+off+hh*s.size),fun w=> ?_⟩;simp [Instr.sliceAt,Instr.slice,run_underlying hu,sb,Yw hs,AC hcl,Xh]
    simp only [Ad,Ae,Ac,BD] at h;obtain ⟨rfl,⟨⟨⟨h2,h3⟩,h5⟩,h6⟩,h7⟩:=h;have h5:=Al h5;have h6:=Al h6;have q1:=Xy hl h3 hlo;have q2:=Xy hhi' h2 hhi;generalize hw:ec x=u at hx;cases hx with
    | sl _ _ _ _ lc c hρ hc dA=>
     simp only [D2] at hc;have hlc:l<=c:=(by omega);have hmul:l*s.size+(c - l)*zz=c*zz:=by rw [hz,<-AR];grind
     refine ⟨.slice (some ⟨lc.blk,lc.base+(off+l*s.size),none⟩) (hh - l) (c - l),.sl _ _ _ _ lc _ hρ ?_ (by omega),fun w=> ?_⟩
     .simp only [D2];omega
     .have sb:=Yf (P:=P) true len c c hh l (lo.map ec) (hi.map ec) none (.inl ⟨rfl,rfl⟩)
       (q2.elim (fun q=>.inl ⟨by rw [q.1];rfl,rfl,q.2⟩) (fun ⟨k,q⟩=>.inr ⟨k,q,by omega⟩)) (q1.elim (fun q=>.inl ⟨by rw [q.1];rfl,q.2⟩) (fun ⟨k,q⟩=>.inr ⟨k,q,h6⟩)) w
      simp [Instr.sliceAt,Instr.slice,run_underlying hu,sb,Yw hs];by_cases hcl:c=l
      .rw [AJ hcl];rcases h7 with h7 | h7
       .have:=Al h7;omega
       simp_all
      grind [Xh]
  .rename_i s y hh x2 l x3 hs hhi' hl;split at h
   .rename_i m x1 hm;cases hz:(Nat.beq zz s.size&&hi.isSome) with
    | false=>grind
    | true=>
     rw [hz,Ab] at h;simp only [Ad,Ae,Ac] at h hz;obtain ⟨rfl,⟨⟨⟨⟨h1,h2⟩,h3⟩,h4⟩,h5⟩,h6⟩:=h;have h4:=Al h4;have h5:=Al h5;have h6:=Al h6;have q0:=Xy hm h1 hmx;have q1:=Xy hl h3 hlo;have q2:=Xy hhi' h2 hhi;generalize hw:ec x=u at hx;cases hx with
     | sl _ _ _ _ lc c hρ _ dA=>
      refine ⟨_,.sl _ _ _ _ lc _ hρ rfl (by omega),fun w=> ?_⟩;have sb:=Yf (P:=P) true len c m hh l (lo.map ec) (hi.map ec) ((some y).map ec) (q0.elim (fun q=>by cases q.1) (fun ⟨k,q⟩=>.inr ⟨k,q,by omega⟩))
       (q2.elim (fun q=>by grind) (fun ⟨k,q⟩=>.inr ⟨k,q,h5⟩)) (q1.elim (fun q=>.inl ⟨by rw [q.1];rfl,q.2⟩) (fun ⟨k,q⟩=>.inr ⟨k,q,h6⟩)) w
      simp only [BZ] at sb;simp [Instr.sliceAt,Instr.slice,run_underlying hu,sb,Yw hs];exact x3s _ _ _ _ _ _ _ rfl
   .cases h
  .cases h
 .rename_i e b sz off len zz hu hev;rw [hev] at hx;split at h
  .rename_i s hh x2 l x3 hs hhi' hl;cases hz:(Nat.beq zz s.size&&Nat.beq sz zz) with
   | false=>grind
   | true=>
    rw [hz,Ab] at h;simp only [Ac] at hz;have hz1:=Aj hz.1;obtain rfl:=Aj hz.2;subst hz1;rcases (by cases hlo':lo.isSome with
      | true=>rw [hlo',Ab] at h;exact .inl h
      | false=>rw [hlo',Aa] at h;exact .inr h:(some _=some _)\/(some _=some _)) with h | h
    .simp only [Ad,Ae,Ac,Ao] at h;obtain ⟨rfl,h2,h3,h5,h6⟩:=h;have q1:=Xy hl h3 hlo;have q2:=Xy hhi' h2 hhi;generalize hw:ec x=u at hx;cases hx with
     | sla _ _ _ _ _ lc c hρ hc dA=>
      have hlc:l<=c:=(by omega);have sb:=Yf (P:=P) true len c c hh l (lo.map ec) (hi.map ec) none (.inl ⟨rfl,rfl⟩)
       (q2.elim (fun q=>.inl ⟨by rw [q.1];rfl,rfl,q.2⟩) (fun ⟨k,q⟩=>.inr ⟨k,q,by omega⟩)) (q1.elim (fun q=>.inl ⟨by rw [q.1];rfl,q.2⟩) (fun ⟨k,q⟩=>.inr ⟨k,q,h6⟩))
      by_cases hcl:c=l
      .subst hcl;have e0:hh - c=0:=(by omega);rw [e0];refine ⟨_,.slve _ _ _ lc.blk (lc.base+off*s.size) (c - c),fun w=> ?_⟩;simp [Instr.sliceAt,Instr.slice,run_underlying hu,sb,Yw hs,e0]
      .refine ⟨_,.slv _ _ _ _ lc (c - l) hρ (by omega),fun w=> ?_⟩;simp [Instr.sliceAt,Instr.slice,run_underlying hu,sb,Yw hs,AC hcl,Xh,AR,AL]
     | slan=>
      obtain rfl:hh=0:=by omega
      obtain rfl:l=0:=by omega
      refine ⟨_,.slvn _ _ _,fun w=> ?_⟩;have sb:=Yf (P:=P) true 0 0 0 0 0 (lo.map ec) (hi.map ec) none (.inl ⟨rfl,rfl⟩)
       (q2.elim (fun q=>.inl ⟨by rw [q.1];rfl,rfl,rfl⟩) (fun ⟨k,q⟩=>.inr ⟨k,q,Ar _⟩)) (q1.elim (fun q=>.inl ⟨by rw [q.1];rfl,rfl⟩) (fun ⟨k,q⟩=>.inr ⟨k,q,Ar _⟩))
      simp_all [Instr.sliceAt,Instr.slice,run_underlying,Yw]
    simp only [Ad,Ae,Ac,BD,Ao] at h;obtain ⟨rfl,h2,h3,h5,h6,h7⟩:=h;have q1:=Xy hl h3 hlo;have q2:=Xy hhi' h2 hhi;generalize hw:ec x=u at hx;cases hx with
    | sla _ _ _ _ _ lc c hρ hc dA=>
     simp only [D2] at hc;have hlc:l<=c:=(by omega);have hmul:l*s.size+(c - l)*s.size=c*s.size:=by rw [<-AR];grind
     have hmul2:(off+l)*s.size=off*s.size+l*s.size:=AR _ _ _;refine ⟨.slice (some ⟨lc.blk,lc.base+(off+l)*s.size,none⟩) (hh - l) (c - l),.sla _ _ _ _ _ lc _ hρ ?_ (by omega),fun w=> ?_⟩
     .simp only [D2];omega
     .have sb:=Yf (P:=P) true len c c hh l (lo.map ec) (hi.map ec) none (.inl ⟨rfl,rfl⟩)
       (q2.elim (fun q=>.inl ⟨by rw [q.1];rfl,rfl,q.2⟩) (fun ⟨k,q⟩=>.inr ⟨k,q,by omega⟩)) (q1.elim (fun q=>.inl ⟨by rw [q.1];rfl,q.2⟩) (fun ⟨k,q⟩=>.inr ⟨k,q,h6⟩)) w
      simp [Instr.sliceAt,Instr.slice,run_underlying hu,sb,Yw hs];by_cases hcl:c=l
      .rw [AJ hcl];rcases h7 with h7 | h7
       .omega
       simp_all
      grind [Xh]
    | slan=>
     obtain rfl:hh=0:=by omega
     obtain rfl:l=0:=by omega
     refine ⟨_,.slan _ _ _ _,fun w=> ?_⟩;have sb:=Yf (P:=P) true 0 0 0 0 0 (lo.map ec) (hi.map ec) none (.inl ⟨rfl,rfl⟩)
      (q2.elim (fun q=>.inl ⟨by rw [q.1];rfl,rfl,rfl⟩) (fun ⟨k,q⟩=>.inr ⟨k,q,Ar _⟩)) (q1.elim (fun q=>.inl ⟨by rw [q.1];rfl,rfl⟩) (fun ⟨k,q⟩=>.inr ⟨k,q,Ar _⟩))
     simp_all [Instr.sliceAt,Instr.slice,run_underlying,Yw]
  .cases h
 .rename_i e b sz off len hu hev;rw [hev] at hx;split at h
  .rename_i s hh x2 l x3 hs hhi' hl;cases hz:Nat.beq sz s.size with
   | false=>grind
   | true=>
    rw [hz,Ab] at h;obtain rfl:=Aj hz;simp only [Ad,Ae,Ac,Ao] at h;obtain ⟨rfl,h2,h3,h5,h6⟩:=h;have q1:=Xy hl h3 hlo;have q2:=Xy hhi' h2 hhi;generalize hw:ec x=u at hx;cases hx with
    | slv _ _ _ _ lc c hρ dA=>
     have hlc:l<=c:=(by omega);have sb:=Yf (P:=P) true len c c hh l (lo.map ec) (hi.map ec) none (.inl ⟨rfl,rfl⟩)
      (q2.elim (fun q=>.inl ⟨by rw [q.1];rfl,rfl,q.2⟩) (fun ⟨k,q⟩=>.inr ⟨k,q,by omega⟩)) (q1.elim (fun q=>.inl ⟨by rw [q.1];rfl,q.2⟩) (fun ⟨k,q⟩=>.inr ⟨k,q,h6⟩))
     by_cases hcl:c=l
     .subst hcl;have e0:hh - c=0:=(by omega);rw [e0];refine ⟨_,.slve _ _ _ lc.blk (lc.base+off*s.size) (c - c),fun w=> ?_⟩;simp [Instr.sliceAt,Instr.slice,run_underlying hu,sb,Yw hs,e0]
     .refine ⟨_,.slv _ _ _ _ lc (c - l) hρ (by omega),fun w=> ?_⟩;simp [Instr.sliceAt,Instr.slice,run_underlying hu,sb,Yw hs,AC hcl,Xh,AR,AL]
    | slve _ _ _ blk base c=>
     obtain rfl:hh=0:=by omega
     obtain rfl:l=0:=by omega
     have sb:=Yf (P:=P) true 0 c c 0 0 (lo.map ec) (hi.map ec) none (.inl ⟨rfl,rfl⟩)
      (q2.elim (fun q=>.inl ⟨by rw [q.1];rfl,rfl,rfl⟩) (fun ⟨k,q⟩=>.inr ⟨k,q,Ay _⟩)) (q1.elim (fun q=>.inl ⟨by rw [q.1];rfl,rfl⟩) (fun ⟨k,q⟩=>.inr ⟨k,q,Ar _⟩))
     refine ⟨_,.slve _ _ _ blk base c,fun w=> ?_⟩;simp_all [Instr.sliceAt,Instr.slice,run_underlying,Yw,Xh]
    | slvn=>
     obtain rfl:hh=0:=by omega
     obtain rfl:l=0:=by omega
     refine ⟨_,.slvn _ _ _,fun w=> ?_⟩;have sb:=Yf (P:=P) true 0 0 0 0 0 (lo.map ec) (hi.map ec) none (.inl ⟨rfl,rfl⟩)
      (q2.elim (fun q=>.inl ⟨by rw [q.1];rfl,rfl,rfl⟩) (fun ⟨k,q⟩=>.inr ⟨k,q,Ar _⟩)) (q1.elim (fun q=>.inl ⟨by rw [q.1];rfl,rfl⟩) (fun ⟨k,q⟩=>.inr ⟨k,q,Ar _⟩))
     simp_all [Instr.sliceAt,Instr.slice,run_underlying,Yw]
  .cases h
 .rename_i e len get hu hev;rw [hev] at hx;split at h
  .rename_i s hh x2 l x3 hs hhi' hl;simp only [Ad,Ae,Ac,Ao] at h;obtain ⟨rfl,h2,h3,h5,h6,h7⟩:=h;have h7:=j5j h7;have q1:=Xy hl h3 hlo;have q2:=Xy hhi' h2 hhi;generalize hw:ec x=u at hx;cases hx with
   | dat _ _ blk base sz c val dH hsz hv hh'=>
    have hlc:l<=c:=(by omega);have sb:=Yf (P:=P) true len c c hh l (lo.map ec) (hi.map ec) none (.inl ⟨rfl,rfl⟩)
     (q2.elim (fun q=>.inl ⟨by rw [q.1];rfl,rfl,q.2⟩) (fun ⟨k,q⟩=>.inr ⟨k,q,by omega⟩)) (q1.elim (fun q=>.inl ⟨by rw [q.1];rfl,q.2⟩) (fun ⟨k,q⟩=>.inr ⟨k,q,h6⟩))
    by_cases hcl:c=l
    .subst hcl;have e0:hh - c=0:=(by omega);rw [e0];refine ⟨_,.dat 0 _ blk base s.size (c - c) (fun _ _=>undef) (Ay _) (fun i hi=>absurd hi (AD _)) (fun i j hi=>absurd hi (AD _)) (fun i j hi=>absurd hi (AD _)),fun w=> ?_⟩;simp [Instr.sliceAt,Instr.slice,run_underlying hu,sb,Yw hs,e0]
    .refine ⟨_,.dat (hh - l) (fun k=>get (l+k)) blk (base+l*s.size) s.size (c - l) (fun k=>val (l+k)) (by omega) (fun i hi=>h7 _ (by omega)) (fun i j hi hj=>hv _ j (by omega) hj) (fun i j hi hj=> ?_),fun w=> ?_⟩
     .grind
     .simp [Instr.sliceAt,Instr.slice,run_underlying hu,sb,Yw hs,AC hcl,Xh]
   | datn=>
    obtain rfl:hh=0:=by omega
    obtain rfl:l=0:=by omega
    refine ⟨_,.datn _,fun w=> ?_⟩;have sb:=Yf (P:=P) true 0 0 0 0 0 (lo.map ec) (hi.map ec) none (.inl ⟨rfl,rfl⟩)
     (q2.elim (fun q=>.inl ⟨by rw [q.1];rfl,rfl,rfl⟩) (fun ⟨k,q⟩=>.inr ⟨k,q,Ar _⟩)) (q1.elim (fun q=>.inl ⟨by rw [q.1];rfl,rfl⟩) (fun ⟨k,q⟩=>.inr ⟨k,q,Ar _⟩))
    simp_all [Instr.sliceAt,Instr.slice,run_underlying,Yw]
   | datz _ a c=>
    obtain rfl:hh=0:=by omega
    obtain rfl:l=0:=by omega
    have sb:=Yf (P:=P) true 0 c c 0 0 (lo.map ec) (hi.map ec) none (.inl ⟨rfl,rfl⟩)
     (q2.elim (fun q=>.inl ⟨by rw [q.1];rfl,rfl,rfl⟩) (fun ⟨k,q⟩=>.inr ⟨k,q,Ay _⟩)) (q1.elim (fun q=>.inl ⟨by rw [q.1];rfl,rfl⟩) (fun ⟨k,q⟩=>.inr ⟨k,q,Ar _⟩))
    by_cases hc0:c=0
    .subst hc0;refine ⟨_,.datz _ a 0,fun w=> ?_⟩;simp_all [Instr.sliceAt,Instr.slice,run_underlying,Yw]
    .refine ⟨_,.datz _ (a.add (0*s.size)) c,fun w=> ?_⟩;simp_all [Instr.sliceAt,Instr.slice,run_underlying,Yw]
  .cases h
 .rename_i n e b off hu hev;rw [hev] at hx;split at h
  .rename_i s m x1 hh x2 l x3 hs hm hhi' hl;split at h
   .cases h
   .rename_i hno;simp only [Ad,Ae,Ac] at h;obtain ⟨rfl,⟨⟨⟨⟨h1,h2⟩,h3⟩,h4⟩,h5⟩,h6⟩:=h;have h4:=Al h4;have h5:=Al h5;have h6:=Al h6;have q0:=Xy hm h1 hmx;have q1:=Xy hl h3 hlo;have q2:=Xy hhi' h2 hhi;generalize hw:ec x=u at hx;cases hx with
    | ptr _ _ lc hρ=>
     refine ⟨_,.sl _ _ _ _ lc _ hρ rfl (by omega),fun w=> ?_⟩;have sb:=Yf (P:=P) false n n m hh l (lo.map ec) (hi.map ec) (mx.map ec) (q0.elim (fun q=>.inl ⟨by rw [q.1];rfl,q.2⟩) (fun ⟨k,q⟩=>.inr ⟨k,q,h4⟩))
      (q2.elim (fun q=>.inl ⟨by rw [q.1];rfl,by
       simp_all,q.2⟩) (fun ⟨k,q⟩=>.inr ⟨k,q,h5⟩)) (q1.elim (fun q=>.inl ⟨by rw [q.1];rfl,q.2⟩) (fun ⟨k,q⟩=>.inr ⟨k,q,h6⟩)) w
     have bb:=x3s _ lc.blk lc.base off (l*s.size) m l rfl;simp [Instr.sliceAt,run_underlying hu,Instr.sureAddr,sb,Yw hs]
     grind
  .cases h
 .rename_i s hu hev;rw [hev] at hx;split at h
  .rename_i hh x2 l x3 hh' hl;simp only [Ad,Ae,Ac,Ao] at h;obtain ⟨rfl,a2,a3,h5,h6⟩:=h;have q1:=Xy hl a3 hlo;have q2:=Xy hh' a2 hhi;generalize hw:ec x=u at hx;cases hx;refine ⟨_,.str _,fun w=> ?_⟩;have hsz:(⟨s.toArray⟩:ByteArray).size =s.length:=by simp [<-ByteArray.size_data]
   have sb:=Yf (P:=P) false s.length s.length s.length hh l (lo.map ec) (hi.map ec) none (.inl ⟨rfl,rfl⟩)
    (q2.elim (fun q=>.inl ⟨by rw [q.1];rfl,rfl,q.2⟩) (fun ⟨k,q⟩=>.inr ⟨k,q,h5⟩)) (q1.elim (fun q=>.inl ⟨by rw [q.1];rfl,q.2⟩) (fun ⟨k,q⟩=>.inr ⟨k,q,h6⟩)) w
   have e:(⟨((s.drop l).take (hh - l)).toArray⟩:ByteArray)=(⟨s.toArray⟩:ByteArray).extract l hh:=by apply ByteArray.ext;rw [ByteArray.data_extract];simp [List.extract_eq_take_drop]
   rw [e];simp [Instr.sliceAt,Instr.slice,run_underlying hu,hsz,sb]
  .cases h
 .cases h
def Ks (ρ:CE) (ev:Operand->B9) (ec:Operand->Value) (op:Op):Prop:= ∀x,x∈op.operands->Yv ρ (ev x) (ec x)
theorem XA {ev:Operand->B9} {ec:Operand->Value}: ∀(ps:List (Nat×Operand)),(∀p∈ps,Yv ρ (ev p.2) (ec p.2))->Iz ρ (ps.map fun p=>(p.1,ev p.2)) (ps.map fun p=>(p.1,ec p.2)):=fun ps h=>
 Vg.maps _ _ ps fun p hp=>⟨rfl,h p hp⟩
theorem y8o {o:Oper} {ev:Operand->B9} {ec:Operand->Value} {v:B9} {b:Bool} (h:Qc P o.op ev=some (v,b)) (hb:b=true) (hr:Ks ρ ev ec o.op):
  ∃u,Yv ρ v u/\ ∀w,(execOp ec o).run P w=.ok (.value u) w:=by
 obtain ⟨dst,op,type,pos,after,guard⟩:=o;simp only at h hr ⊢;have lift: ∀{s:Sem Value},(∃z,Yv ρ v z/\ ∀w,s.run P w=.ok z w)->(∀w,(execOp ec ⟨dst,op,type,pos,after,guard⟩).run P w=(do pure (.value (<-s)):Sem Next).run P w)->
   ∃u,Yv ρ v u/\ ∀w,(execOp ec ⟨dst,op,type,pos,after,guard⟩).run P w=.ok (.value u) w:=by
  simp_all
 cases op with
 | move x=>simp only [Qc,Ad,Ae] at h;obtain ⟨rfl,_⟩:=h;exact ⟨ec x,hr x (by simp [Op.operands]),fun w=>rfl⟩
 | assign x=>simp only [Qc,Ad,Ae] at h;obtain ⟨rfl,_⟩:=h;exact ⟨ec x,hr x (by simp [Op.operands]),fun w=>rfl⟩
 | pick c x y=>
  have hc:=hr c (by simp [Op.operands]);have hx:=hr x (by simp [Op.operands]);have hy:=hr y (by simp [Op.operands]);unfold Qc at h;simp only at h;split at h
  .rename_i cb e;rw [e] at hc;generalize hw:ec c=u at hc;cases hc;simp only [Ad,Ae] at h;obtain ⟨rfl,_⟩:=h;cases cb;all_goals simp_all [execOp,asBool]
  .cases h
 | build t parts=>
  simp only [Qc,Aq,Ae] at h;obtain ⟨v',hv,rfl,_⟩:=h;refine lift (x7h hv (XA _ fun p hp=>hr p.2 ?_)) fun w=> ?_
  .grind [Op.operands]
  .have:(parts.map fun (i,x)=>(i,ec x))=(parts.toList.map fun p=>(p.1,ec p.2)).toArray :=by
    grind
   simp only [execOp,this]
 | nilCheck x=>
  have hx:=hr x (by simp [Op.operands]);unfold Qc at h;simp only at h;split at h;all_goals first
   | (rename_i e
      rw [e] at hx;simp only [Ad,Ae] at h;obtain ⟨rfl,_⟩:=h;refine ⟨ec x,hx,fun w=> ?_⟩;generalize hw:ec x=u at hx;cases hx <;> simp [execOp,hw])
   | cases h
 | binOp op t x y yt=>have hx:=hr x (by simp [Op.operands]);have hy:=hr y (by simp [Op.operands]);exact lift (v2p (by simpa only [Qc] using h) hb hx hy x y) fun w=>rfl
 | unOp op t x=>have hx:=hr x (by simp [Op.operands]);simp only [Qc,Aq,Ae] at h;obtain ⟨v',hv,rfl,_⟩:=h;exact lift (v8j hv hx) fun w=>rfl
 | convert src dst' x=>
  have hx:=hr x (by simp [Op.operands]);unfold Qc at h;simp only at h;split at h
  .rename_i sd k k' n hs hu e;rw [e] at hx;generalize hw:ec x=u at hx;cases hx;simp only [Ad,Ae] at h;obtain ⟨rfl,_⟩:=h;refine ⟨_,.int _ _,fun w=> ?_⟩;cases sd <;> simp [execOp,Go.convert,hw,run_underlying hs,run_underlying hu,Conv.intToInt]
  .cases h
 | makeInterface t x=>
  have hx:=hr x (by simp [Op.operands]);unfold Qc at h;simp only at h;split at h
  .cases h
  .cases h
  .rename_i d hni hu;simp only [Ad,Ae] at h;obtain ⟨rfl,_⟩:=h;refine ⟨_,.ifc t _ _ hx,fun w=> ?_⟩;simp_all [execOp,Instr.makeInterface,run_underlying]
 | makeFunc fn first captured=>
  cases fn with
  | func f=>
   unfold Qc at h;simp only at h;cases hf:first.isEmpty with
   | false=>
    rw [hf,Aa] at h;cases hc:captured.isEmpty with
    | false=>grind
    | true=>
     rw [hc,Ab] at h;simp only [Ad,Ae] at h;obtain ⟨rfl,_⟩:=h;have hc:captured= #[]:=(by grind);subst hc;refine ⟨_,.fnb f _ (first.map ec) (by simp) fun i h1 h2=> ?_,fun w=>by simp [execOp,Instr.makeFunc]⟩;have:i<first.size:=by grind
     simpa using hr first[i] (by simp [Op.operands])
   | true=>
    rw [hf,Ab] at h;simp only [Ad,Ae] at h;obtain ⟨rfl,_⟩:=h;have hf:first= #[]:=by grind
    subst hf;refine ⟨_,.fn f _ (captured.map ec) (by simp) fun i h1 h2=> ?_,fun w=>by simp [execOp,Instr.makeFunc]⟩;have:i<captured.size:=by grind
    simpa using hr captured[i] (by simp [Op.operands])
  | _=>simp [Qc] at h
 | fieldAddr t x f=>have hx:=hr x (by simp [Op.operands]);simp only [Qc,Aq,Ae] at h;obtain ⟨v',hv,rfl,_⟩:=h;exact lift (y3v hv hx) fun w=>rfl
 | field t x f=>have hx:=hr x (by simp [Op.operands]);simp only [Qc,Aq,Ae] at h;obtain ⟨v',hv,rfl,_⟩:=h;exact lift (x7c hv hx) fun w=>rfl
 | indexAddr t x i=>have hx:=hr x (by simp [Op.operands]);have hi:=hr i (by simp [Op.operands]);exact lift (y3u (by simpa only [Qc] using h) hb hx hi) fun w=>rfl
 | index t x i=>have hx:=hr x (by simp [Op.operands]);have hi:=hr i (by simp [Op.operands]);exact lift (x7b (by simpa only [Qc] using h) hb hx hi) fun w=>rfl
 | extract x i=>
  have hx:=hr x (by simp [Op.operands]);unfold Qc at h;simp only at h;split at h
  .rename_i vs e;rw [e] at hx;simp only [Aq,Ae] at h;obtain ⟨v',hv,rfl,_⟩:=h;obtain ⟨hlt,rfl⟩:=Bb.1 hv;generalize hw:ec x=u at hx;cases hx with
   | tup _ us hl hh=>have h2:i<us.size:=(by omega);simp_all [execOp,Instr.extract]
  .cases h
 | slice t x lo hi mx=>
  refine lift (x7a (by simpa only [Qc] using h) hb (hr x (by simp [Op.operands])) (fun y hy=>hr y ?_) (fun y hy=>hr y ?_) (fun y hy=>hr y ?_)) fun w=>rfl;all_goals grind [Op.operands]
 | call c=>
  obtain ⟨callee,args,argTypes⟩:=c;cases callee with
  | builtin bi=>
   simp only [Qc,Aq,Ae] at h;obtain ⟨v',hv,rfl,_⟩:=h;obtain ⟨z,hz,hs⟩:=y9l (ts:=argTypes) (us:=args.map ec) (type:=type) hv (by
    rw [Bt];exact Vg.maps _ _ _ fun a ha=>hr a (by grind [Op.operands,Call.operands]))
   simp_all [execOp,resolve,invoke]
  | value f=>simp [Qc] at h
  | invoke r m=>simp [Qc] at h
 | _=>simp [Qc] at h
end
section
variable {P:Program} {ρ:CE}
def Mf (ρ:CE) (w:World) (blk o:Nat) (cs:zy):Prop:=
 ∀(i:Nat) (h:i<cs.length),∃v,w.cell? ⟨blk,o+i,none⟩=some v/\Yv ρ cs[i] v
theorem CF.cellsAt {mem:CJ} {next:Nat} {w:World} (h:CF ρ mem next w) {b:Nat} {l:C3} {ab:CG} (hb:ρ b=some l) (hm:Yn mem b=some ab) (hno:ab.isObj=false):Mf ρ w l.blk l.base ab.cells:=by
 obtain ⟨_,_,_,_,cs,el,h1,h2,h3⟩:=(h.blk b l ab hb hm).at hno;intro i hi
 grind [World.cell?]
theorem CF.dataAt {mem:CJ} {next:Nat} {w:World} (h:CF ρ mem next w) {cs:zy} {blk base:Nat} {val:Nat->Value} (hv: ∀(j:Nat) (hj:j<cs.length),Yv ρ.bare cs[j] (val j))
  (hh: ∀j,j<cs.length->HQ ρ.fz blk (base+j) (val j)):Mf ρ w blk base cs:=by
 intro i hi;obtain ⟨arr,el,fz,e,f⟩:=hh i hi;have:=h.old _ _ e;exact ⟨val i,by simp [World.cell?,this,f],(hv i hi).mono (Sq ρ)⟩
theorem Mf.load {w:World} {blk o:Nat} {cs:zy} (h:Mf ρ w blk o cs) {off n:Nat} (hn:off+n<=cs.length\/n=0):
  ∃vs:Array Value,vs.size=n/\(∀(i:Nat) (h1:off+i<cs.length) (h2:i<vs.size),Yv ρ cs[off+i] vs[i])/\(loadCells ⟨blk,o+off,none⟩ n).run P w=.ok vs w:=by
 have hc: ∀j,j<n->w.cell? ((⟨blk,o+off,none⟩:Addr).add j)=some ((w.cell? ⟨blk,o+(off+j),none⟩).getD undef):=by intro j hj;obtain ⟨v,e,_⟩:=h (off+j) (by omega);rw [Xh,AL,e];rfl
 refine ⟨_,?_,?_,run_loadCells w _ n (fun j=>(w.cell? ⟨blk,o+(off+j),none⟩).getD undef) hc⟩
 .simp
 .intro i h1 h2;obtain ⟨v,e,f⟩:=h (off+i) h1
  grind
theorem Mf.part {w:World} {blk o:Nat} {cs:zy} (h:Mf ρ w blk o cs) {t:TypeId} {off:Nat} {v:B9} (hp:FF P t cs off=some v):
  ∃z,Yv ρ v z/\(loadVar t ⟨blk,o+off,none⟩).run P w=.ok z w:=by
 unfold FF at hp;split at hp
 .rename_i i ha hi;simp only [Aq] at hp;obtain ⟨p,hc,rfl⟩:=hp;obtain ⟨_,hl,hle⟩:=NM hc;obtain ⟨vs,hs,hv,hr⟩:=h.load (P:=P) (off:=off) (n:=i.size) (by omega);refine ⟨.agg vs,.agg _ _ (by omega) fun j h1 h2=> ?_,?_⟩
  .grind
  simp_all [loadVar,Si,Yw]
 .rename_i i ha hi;obtain ⟨hlt,rfl⟩:=Bb.1 hp;obtain ⟨v,e,f⟩:=h off hlt;simp_all [loadVar,Si]
 .cases hp
theorem N0 {α:Type} {c:Bool} {x:Option α} {y:α} (h:(bif c then none else x)=some y):c=false/\x=some y:=by cases c <;> simp_all
theorem y8r {mem:CJ} {next:Nat} {w:World} (h:CF ρ mem next w) {t:TypeId} {x v:B9} {u:Value} (hl:Na P mem t x=some v) (hx:Yv ρ x u):
  ∃z,Yv ρ v z/\(Instr.loadAt t u).run P w=.ok z w:=by
 unfold Na at hl;split at hl
 .split at hl
  .rename_i b off _ blk hm;cases hx with
   | ptr _ _ l hρ=>
    obtain ⟨hno,hl⟩:=N0 hl;obtain ⟨z,hz,hr⟩:=(h.cellsAt hρ hm hno).part hl
    grind [Instr.loadAt,Instr.sureAddr]
  .cases hl
 .cases hx with
  | dptr _ blk base val hv hh=>
   obtain ⟨z,hz,hr⟩:=(h.dataAt hv hh).part hl
   grind [Instr.loadAt,Instr.sureAddr]
 .cases hl
theorem WU (n:Nat) (get:Nat->zy):rows (n+1) get=rows n get++get n:=by unfold rows;rw [BQ,List.flatMap_append];simp
theorem Yg {get:Nat->zy} {sz:Nat}: ∀(n:Nat),(∀i,i<n->(get i).length =sz)->(rows n get).length =n*sz
 | 0,_=>by simp [rows]
 | n+1,h=>by rw [WU,AK,Yg n fun i hi=>h i (by omega),h n (by omega),AR,B3]
theorem Vj {get:Nat->zy} {sz:Nat}: ∀(n:Nat),(∀i,i<n->(get i).length =sz)-> ∀(r j:Nat),r<n->j<sz->(rows n get)[r*sz+j]? =(get r)[j]?
 | 0,_,r,j,hr,_=>by omega
 | n+1,h,r,j,hr,hj=>by
  have hl:=Yg n fun i hi=>h i (by omega);rw [WU];by_cases e:r=n
  .subst e;rw [List.getElem?_append_right (by omega),hl]
   congr 1;omega
  .have hlt:r<n:=by omega
   have:(r+1)*sz<=n*sz:=AB sz hlt;rw [AR,B3] at this;rw [List.getElem?_append_left (by omega)];exact Vj n (fun i hi=>h i (by omega)) r j hlt hj
theorem CF.rowAt {mem:CJ} {next:Nat} {w:World} (h:CF ρ mem next w) {b:Nat} {l:C3} {ab:CG} {A:Da} (hb:ρ b=some l) (hm:Yn mem b=some ab) (hA:ab.arr=some A) {r:Nat} (hr:r<A.n):Mf ρ w l.blk (l.base+r*A.sz) (A.get r):=by
 have hno:=((h.blk b l ab hb hm).rows hA).noObj;obtain ⟨_,_,_,har,_⟩:=(h.blk b l ab hb hm).rows hA;obtain ⟨e1,_,e3⟩:=har A hA;intro i hi;have hsz:=e3 r hr;have hg:=Vj A.n e3 r i hr (by omega);rw [At hi,<-e1] at hg;obtain ⟨hlt,hge⟩:=Bb.1 hg;obtain ⟨v,e,f⟩:=h.cellsAt hb hm hno (r*A.sz+i) hlt
 grind
theorem y3k {mem:CJ} {next:Nat} {w:World} (h:CF ρ mem next w) {t:TypeId} {x v:B9} {u:Value} (hl:NW P mem t x=some (v,true)) (hx:Yv ρ x u):
  ∃z,Yv ρ v z/\(Instr.loadAt t u).run P w=.ok z w:=by
 unfold NW at hl;split at hl
 .split at hl
  .rename_i b sz r fo _ blk hm;split at hl
   .rename_i A hA;simp only [Aq,Ae,Ac,Ao] at hl;obtain ⟨v',hp,rfl,hs,hr⟩:=hl;obtain rfl:=Aj hs;cases hx with
    | epa _ _ _ _ l hρ=>
     obtain ⟨z,hz,dB⟩:=(h.rowAt hρ hm hA hr).part hp
     grind [Instr.loadAt,Instr.sureAddr]
   .cases hl
  .cases hl
 .simp only [Aq,Ae,and_true] at hl
  grind [y8r]
theorem y6e {st st':St} {b e:Bool} (h:st.test b=(e,st')):st'.env=st.env/\st'.mem=st.mem/\st'.next=st.next/\(st'.ob=true->e=b/\st.ob=true):=by
 obtain ⟨env,mem,next,orc,ob⟩:=st;cases orc with
 | nil=>
  grind [St.test]
 | cons c r=>
  grind [St.test]
theorem XE : ∀(rw:Cs) (r:Nat) (st:St) (cs:zy) (st1:St),Iu rw r st=(cs,st1)->st1.env=st.env/\st1.mem=st.mem/\st1.next=st.next/\(st1.ob=true->cs=rw.get r/\st.ob=true)
 | .flat g,r,st,cs,st1,h=>by simp only [Iu,Ae] at h;obtain ⟨rfl,rfl⟩:=h;exact ⟨rfl,rfl,rfl,fun h=>⟨rfl,h⟩⟩
 | .one r0 c0 b,r,st,cs,st1,h=>by
  unfold Iu at h;split at h;rename_i e st2 ht;obtain ⟨t1,t2,t3,t4⟩:=y6e ht;cases e with
  | true=>simp only [Ab,Ae] at h;obtain ⟨rfl,rfl⟩:=h;exact ⟨t1,t2,t3,fun ho=>⟨by simp only [Cs.get];rw [<-(t4 ho).1];rfl,(t4 ho).2⟩⟩
  | false=>rw [Aa] at h;obtain ⟨p1,p2,p3,p4⟩:=XE b r st2 cs st1 h;refine ⟨p1.trans t1,p2.trans t2,p3.trans t3,fun ho=> ?_⟩;obtain ⟨q1,q2⟩:=p4 ho;exact ⟨by simp only [Cs.get];rw [<-(t4 q2).1];exact q1,(t4 q2).2⟩
 | .alt c a b,r,st,cs,st1,h=>by
  unfold Iu at h;split at h;rename_i e st2 ht;obtain ⟨t1,t2,t3,t4⟩:=y6e ht;cases e with
  | true=>rw [Ab] at h;obtain ⟨p1,p2,p3,p4⟩:=XE a r st2 cs st1 h;refine ⟨p1.trans t1,p2.trans t2,p3.trans t3,fun ho=> ?_⟩;obtain ⟨q1,q2⟩:=p4 ho;exact ⟨by simp only [Cs.get];rw [<-(t4 q2).1];exact q1,(t4 q2).2⟩
  | false=>rw [Aa] at h;obtain ⟨p1,p2,p3,p4⟩:=XE b r st2 cs st1 h;refine ⟨p1.trans t1,p2.trans t2,p3.trans t3,fun ho=> ?_⟩;obtain ⟨q1,q2⟩:=p4 ho;exact ⟨by simp only [Cs.get];rw [<-(t4 q2).1];exact q1,(t4 q2).2⟩
theorem W8 {st st1:St} {t:TypeId} {x v:B9} {o:Bool} (h:v8l P st t x=some (v,o,st1)):st1.env=st.env/\st1.mem=st.mem/\st1.next=st.next/\(st1.ob=true->NW P st.mem t x=some (v,o)/\st.ob=true):=by
 unfold v8l at h;split at h
 .split at h
  .rename_i b sz r fo _ blk hm;split at h
   .rename_i A hA;split at h;rename_i cs st2 hp;simp only [Aq,Ae] at h;obtain ⟨v',hv,rfl,rfl,rfl⟩:=h;obtain ⟨p1,p2,p3,p4⟩:=XE _ _ _ _ _ hp;refine ⟨p1,p2,p3,fun ho=> ?_⟩;obtain ⟨q1,q2⟩:=p4 ho;refine ⟨?_,q2⟩;subst q1;have hv:FF P t (A.get r) fo=some v':=hv
    grind [NW]
   .cases h
  .cases h
 .rename_i hx;simp only [Aq,Ae] at h
  grind [NW]
theorem Ss {α:Type} {c:Bool} {x z:Option α} {y:α} (h:(bif c then x else z)=some y):(c=true/\x=some y)\/(c=false/\z=some y):=by grind
theorem z7l {A:Da} {r fo:Nat} {cs:zy} {st st1:St} {rw1:Cs} (h:setRow A r fo cs st=some (rw1,st1)):st1.env=st.env/\st1.mem=st.mem/\st1.next=st.next/\(st1.ob=true->((A.get r).length =A.sz->rw1.get=Xi A.get r fo cs)/\st.ob=true):=by
 obtain ⟨sz,n,rw0⟩:=A;unfold setRow at h;have full: ∀(g:Nat->zy),cs.length=sz->(g r).length =sz->(fun k=>bif Nat.beq k r then cs else g k)=Xi g r 0 cs:=fun g h1 h2=>by
  grind [Xi]
 split at h
 .rename_i g hg;simp only at hg;subst hg;rcases Ss h with ⟨_,h⟩ | ⟨_,h⟩
  .simp only [Ad,Ae] at h;obtain ⟨rfl,rfl⟩:=h;exact ⟨rfl,rfl,rfl,fun ho=>⟨fun _=>rfl,ho⟩⟩
  .rcases Ss h with ⟨hc,h2⟩ | ⟨_,h2⟩
   .simp only [Ac] at hc;obtain rfl:=Aj hc.1;have hc2:=Aj hc.2;clear h;simp only [Ad,Ae] at h2;obtain ⟨rfl,rfl⟩:=h2;exact ⟨rfl,rfl,rfl,fun ho=>⟨fun hl=>full g hc2 hl,ho⟩⟩
   .simp only [Ad,Ae] at h2;obtain ⟨rfl,rfl⟩:=h2;exact ⟨rfl,rfl,rfl,fun ho=>⟨fun _=>rfl,ho⟩⟩
 .rename_i r0 c0 b hb;simp only at hb;subst hb;split at h;rename_i e st2 ht;obtain ⟨t1,t2,t3,t4⟩:=y6e ht;rcases Ss h with ⟨hc,h2⟩ | ⟨_,h2⟩
  .simp only [Ac] at hc;obtain rfl:=Aj hc.1.2;have hc2:=Aj hc.2;clear h;simp only [Ad,Ae] at h2;obtain ⟨rfl,rfl⟩:=h2;refine ⟨t1,t2,t3,fun ho=>⟨fun hl=> ?_,(t4 ho).2⟩⟩;have he:=(t4 ho).1;rw [hc.1.1] at he;obtain rfl:=Aj he.symm;have:=full (Cs.get (.one r c0 b)) hc2 hl;show _=Xi (Cs.get (.one r c0 b)) r 0 cs
   grind [Cs.get]
  .rcases Ss h2 with ⟨hc,h2⟩ | ⟨_,h2⟩
   .clear h;simp only [Ad,Ae] at h2;obtain ⟨rfl,rfl⟩:=h2;refine ⟨t1,t2,t3,fun ho=>⟨fun hl=> ?_,(t4 ho).2⟩⟩;have he:=(t4 ho).1;rw [hc] at he;obtain rfl:=Aj he.symm;show _=Xi (Cs.get (.one r c0 b)) r fo cs;have e0:(Cs.get (.one r c0 b)) r=c0:=by simp [Cs.get]
    funext k
    grind [Cs.get,Xi]
   .cases h2
 .rename_i c a b hb;simp only at hb;subst hb;rcases Ss h with ⟨hc,h2⟩ | ⟨_,h2⟩
  .simp only [Ac] at hc;obtain rfl:=Aj hc.1;have hc2:=Aj hc.2;clear h;simp only [Ad,Ae] at h2;obtain ⟨rfl,rfl⟩:=h2;exact ⟨rfl,rfl,rfl,fun ho=>⟨fun hl=>full _ hc2 hl,ho⟩⟩
  .cases h2
structure Dc (ρ:CE) (floor:Nat) (st st':St) (v:B9) (w:World) (ρ':CE) (u:Value) (w':World):Prop where
 val:Yv ρ' v u
 rel:CF ρ' st'.mem st'.next w'
 ev:Ev ρ ρ' floor st.mem st.next st'.mem st'.next w w'
def No (P:Program) (o:Oper) (a:Act) (w:World) (K:CE->Value->World->Prop):Prop:=
 (∃ρ' u w',(execOp a.eval o).run P w=.ok (.value u) w'/\K ρ' u w')\/
 (∃ρ' w',(execOp a.eval o).run P w=.ok .skip w'/\K ρ' undef w')\/
 (∃f args,(execOp a.eval o).run P w=.ok (.enter f args) w/\Calls P f args w fun e w'=> ∃ρ' u,e=.returned u/\K ρ' u w')
theorem No.wp {o:Oper} {a:Act} {w:World} {K:CE->Value->World->Prop} {next:Act->World->Prop} {Q:Exit->Act->World->Prop} (h:No P o a w K) (hk: ∀ρ' u w',K ρ' u w'->next (a.put o.dst u) w'):o.wp P a w next Q:=by
 unfold Oper.wp;rcases h with ⟨ρ',u,w',e,k⟩ | ⟨ρ',w',e,k⟩ | ⟨f,args,e,hc⟩
 .rw [e];exact hk _ _ _ k
 .rw [e];exact hk _ _ _ k
 .rw [e];exact hc.mono fun e w' ⟨ρ',u,he,k⟩=>by grind
theorem CF.hold {mem:CJ} {next:Nat} {w:World} (h:CF ρ mem next w): ∀k,w.heap.size<=k->ρ.fz k=none:=by
 intro k hk;cases e:ρ.fz k with
 | none=>rfl
 | some o=>have:=(AI.1 (h.old k o e)).1;omega
theorem RP {st:St} {w:World} (h:CF ρ st.mem st.next w) (floor:Nat) (cs:zy) (ty:TypeId) (vs:Array Value) (el:TypeId) (hn:cs.length<=vs.size)
  (hv: ∀(i:Nat) (h1:i<cs.length) (h2:i<vs.size),Yv ρ cs[i] vs[i]) (v:B9) (u:Value) (dO: ∀ρ',ρ' st.next=some ⟨w.heap.size,0,cs.length,vs.size⟩->Yv ρ' v u) (hel:el=ty:=by rfl):
  Dc ρ floor st (Cr st cs ty) v w (Vb ρ st.next ⟨w.heap.size,0,cs.length,vs.size⟩) u {w with heap:=w.heap.push (.cells vs el)}:=
 ⟨dO _ (by simp [Vb]),h.new cs ty vs el h.hold hn hv hel,Ev.ofNew h floor _ _ _ (Ar _)⟩
theorem x6y {st st':St} {w:World} (h:CF ρ st.mem st.next w) {floor:Nat} {t:TypeId} {x v:B9} {u z:Value} (hs:NX P floor st t x v=some st') (hx:Yv ρ x u) (hv:Yv ρ v z):
  ∃w',(Instr.storeAt t u z).run P w=.ok () w'/\Dc ρ floor st st' (.tup []) w ρ undef w'/\st'.env=st.env/\st'.ob=st.ob:=by
 unfold NX at hs;split at hs
 .rename_i b off i hi;simp only at hs;cases hc:(Nat.ble floor b&&Nat.beq v.cells.length i.size&&Gy v&&v.cells.all Cz) with
  | false=>grind
  | true=>
   rw [hc,Ab] at hs;simp only [Ac] at hc;obtain ⟨⟨⟨hf,hn⟩,hbx⟩,hsc⟩:=hc;have hf:=Al hf;have hn:=Aj hn;split at hs
   .rename_i blk hm;cases dJ: !blk.isObj&&Nat.ble (off+i.size) blk.cells.length with
    | false=>grind
    | true=>
     rw [dJ,Ab] at hs;simp only [Ac,A8] at dJ;obtain ⟨hno,dJ⟩:=dJ;have dJ:=Al dJ;obtain rfl:=Ag hs;cases hx with
     | ptr _ _ l hρ=>
      have dE:=hv.cells hbx;have dP:=Yv.cells_oneCell dE hsc;have dA:z.cells.toList.length=v.cells.length:=(by simpa using dE.1.symm);obtain ⟨cur,el,hw,hsz,cZ⟩:=h.write hρ hm (off:=off) (cs:=v.cells) (vs:=z.cells.toList) hno dA (by omega) (fun j h1 h2=>by simpa using dE.2 j h1 (by grind));have dB:=run_storeCells_at P l.blk (l.base+off) el z.cells.toList 0 cur w hw (by omega) dP;refine ⟨w.setRow l.blk (cur.toList.take (l.base+off)++z.cells.toList++cur.toList.drop (l.base+off+z.cells.toList.length)).toArray,?_,⟨.tup [] #[] rfl (fun j h1 _=>by simp at h1),?_,Ev.ofWrite h hρ hf _ _⟩,rfl,rfl⟩;all_goals simp_all [Instr.storeAt,Instr.sureAddr,storeVar,Yw,St.withMem]
   .cases hs
 .cases hs
theorem z3g {get:Nat->zy} {sz n r fo:Nat} {cs:zy} (hl: ∀i,i<n->(get i).length =sz) (hf:fo+cs.length<=sz): ∀i,i<n->(Xi get r fo cs i).length =sz:=by
 intro i hi;unfold Xi;cases e:Nat.beq i r with
 | false=>exact hl i hi
 | true=>
  obtain rfl:=Aj e
  grind
theorem u1h {get:Nat->zy} {sz n r fo:Nat} {cs:zy} (hl: ∀i,i<n->(get i).length =sz) (hr:r<n) (hf:fo+cs.length<=sz):
  (rows n get).take (r*sz+fo)++cs++(rows n get).drop (r*sz+fo+cs.length)=rows n (Xi get r fo cs):=by
 have dA:=Yg n hl;have eT:=Yg n (z3g (r:=r) hl hf);have hb:(r+1)*sz<=n*sz:=AB sz hr;rw [AR,B3] at hb;have dJ:r*sz+fo+cs.length<=(rows n get).length :=by omega
 apply List.ext_getElem?;intro i;rw [Kq _ _ _ _ dJ];by_cases hi:i<n*sz
 .have hsz:0<sz:=by
   grind
  have hj:i %sz<sz:=Bx _ hsz;have hq:i / sz<n:=Bd (by grind);have e:i=i / sz*sz+i %sz:=by rw [BE];exact (BA i sz).symm
  generalize i / sz=q at*;generalize i %sz=j at*;subst e;rw [Vj n (z3g (r:=r) hl hf) q j hq hj,Vj n hl q j hq hj];unfold Xi;cases eq:Nat.beq q r with
  | true=>
   obtain rfl:=Aj eq
   grind
  | false=>
   have hne:=Nat.ne_of_beq_eq_false eq;simp only [Aa];rcases Nat.lt_or_gt_of_ne hne with h | h
   .have:(q+1)*sz<=r*sz:=AB sz h
    grind
   .have:(r+1)*sz<=q*sz:=AB sz h
    grind
 grind
theorem CF.setArr {mem:CJ} {next:Nat} {w:World} {b:Nat} {cs:zy} {ty:TypeId} (h:CF ρ (Wv mem b (some ⟨cs,ty,none⟩)) next w) (A:Da) (hno:(⟨cs,ty,none⟩:CG).isObj =false) (h1:cs=rows A.n A.get) (h2:1<=A.sz) (h3: ∀i,i<A.n->(A.get i).length =A.sz):
  CF ρ (Wv mem b (some ⟨cs,ty,some A⟩)) next w:=by
 have some_iff: ∀c,(Yn (Wv mem b (some ⟨cs,ty,some A⟩)) c).isSome =(Yn (Wv mem b (some ⟨cs,ty,none⟩)) c).isSome :=fun c=>by
  grind [Vp]
 refine ⟨h.dom,fun c c' m m' e e' he hs hs'=>h.inj c c' m m' e e' he (by grind) (by grind),fun c m ab e hc=> ?_,h.old,fun c m e hs=>h.sep c m e (by grind),h.real,fun c hc=> ?_,h.ldom⟩
 .by_cases ecb:c=b
  .subst ecb;rw [Yk] at hc;obtain rfl:=Ag hc;obtain ⟨q,n,t,_,k⟩:=(h.blk c m ⟨cs,ty,none⟩ e (Yk _ _ _)).at hno;exact .plain ⟨q,n,t,fun B hB=>by grind,k⟩
  .rw [Zv _ _ ecb] at hc;exact h.blk c m ab e (by rw [Zv _ _ ecb];exact hc)
 .have:=h.bd c hc
  grind [Vp]
theorem TO {cx:CP} {st st':St} {b:Bool} (h:st.owe cx b=some st'):st'.env=st.env/\st'.mem=st.mem/\st'.next=st.next/\(st'.ob=true->b=true/\st.ob=true):=by
 obtain ⟨env,mem,next,orc,ob⟩:=st
 grind [St.owe]
theorem x3v {cx:CP} {st st':St} {w:World} (h:CF ρ st.mem st.next w) {t:TypeId} {x v:B9} {u z:Value} (hs:Mg P cx st t x v=some st') (hob:st'.ob=true) (hx:Yv ρ x u) (hv:Yv ρ v z):
  ∃w',(Instr.storeAt t u z).run P w=.ok () w'/\Dc ρ cx.floor st st' (.tup []) w ρ undef w':=by
 unfold Mg at hs;split at hs
 .rename_i b sz r fo i hi;cases hc:(Nat.ble cx.floor b&&Nat.beq v.cells.length i.size&&Gy v&&v.cells.all Cz&&Nat.ble (fo+i.size) sz) with
  | false=>grind
  | true=>
   rw [hc,Ab] at hs;simp only [Ac] at hc;obtain ⟨⟨⟨⟨hf,hn⟩,hbx⟩,hsc⟩,hfo⟩:=hc;have hf:=Al hf;have hn:=Aj hn;have hfo:=Al hfo;split at hs
   .rename_i blk hm;split at hs
    .rename_i A hA;split at hs
     .rename_i rw1 st1 eN;obtain ⟨_,o2,o3,o4⟩:=TO hs;obtain ⟨ho,hob1⟩:=o4 hob;obtain ⟨s1,s2,s3,s4⟩:=z7l eN;have o2:st'.mem=Wv st1.mem b (some ⟨rows A.n rw1.get,blk.ty,some ⟨A.sz,A.n,rw1⟩⟩):=o2;have o3:st'.next=st1.next:=o3
      rw [s2] at o2;rw [s3] at o3;simp only [Ac,Ao] at ho;obtain ⟨hsz,hr⟩:=ho;obtain rfl:=Aj hsz;cases hx with
      | epa _ _ _ _ l hρ=>
       have hbk:=(h.blk b l blk hρ hm).rows hA;have hno:=hbk.noObj;obtain ⟨eD,eU,dL⟩:=hbk.arr A hA;have dE:=hv.cells hbx;have dP:=Yv.cells_oneCell dE hsc;have dA:z.cells.toList.length=v.cells.length:=(by simpa using dE.1.symm);have hrl:=Yg A.n dL;have hb:(r+1)*A.sz<=A.n*A.sz:=AB A.sz hr;rw [AR,B3] at hb;obtain ⟨cur,el,hw,hsz,cZ⟩:=h.write hρ hm (off:=r*A.sz+fo) (cs:=v.cells) (vs:=z.cells.toList) hno dA (by grind) (fun j h1 h2=>by simpa using dE.2 j h1 (by grind));have dB:=run_storeCells_at P l.blk (l.base+(r*A.sz+fo)) el z.cells.toList 0 cur w hw (by omega) dP;have hno2:=hbk.splice (off:=r*A.sz+fo) (cs:=v.cells) (vs:=z.cells.toList) dA (by grind) (fun j h1 h2=>by simpa using dE.2 j h1 (by grind)) blk.ty none;rw [eD,u1h dL hr (by omega)] at cZ hno2;have hrw:=(s4 hob1).1 (dL r hr);rw [<-hrw] at cZ hno2;have cZ:=cZ.setArr ⟨A.sz,A.n,rw1⟩ hno2 rfl eU (by show∀i,i<A.n->(rw1.get i).length =A.sz;rw [hrw];exact z3g (sz:=A.sz) dL (by omega));refine ⟨w.setRow l.blk (cur.toList.take (l.base+(r*A.sz+fo))++z.cells.toList++cur.toList.drop (l.base+(r*A.sz+fo)+z.cells.toList.length)).toArray,?_,⟨.tup [] #[] rfl (fun j h1 _=>by simp at h1),?_,?_⟩⟩
       .have hzs:z.cells.size=i.size:=(by grind);simp only [Bg] at dB;simp [Instr.storeAt,Instr.sureAddr,storeVar,Yw hi,hzs,-List.append_assoc,-Array.length_toList,dB]
       all_goals grind [Ev.ofWrite]
     .cases hs
    .cases hs
   .cases hs
 .cases hs
theorem x0h (f:Nat->Value):(Array.range 0).map f= #[]:=by grind
theorem Sk (n:Nat) (l:zy):(DC n l).length =n*l.length:=by simp_all [DC]
theorem v5b (l:zy): ∀(n i:Nat) (h:i<(DC n l).length) (hl:i %l.length<l.length),(DC n l)[i]=l[i %l.length]
 | 0,i,h,_=>by simp [DC] at h
 | n+1,i,h,hl=>by
  have e:DC (n+1) l=l++DC n l:=by simp [DC,List.replicate_succ]
  have fD:0<l.length:=by omega
  by_cases hi:i<l.length
  .simp only [e,Bu hi,Nat.mod_eq_of_lt hi]
  .have h2:i - l.length<(DC n l).length :=by rw [e] at h;simp at h;omega
   simp only [e];rw [Bm (by omega)];have hm:(i - l.length) %l.length=i %l.length:=(Nat.mod_eq_sub_mod (by omega)).symm;rw [v5b l n (i - l.length) h2 (by omega)];simp only [hm]
theorem Rh {zero:zy} {zs:Array Value} (h:Vo ρ zero zs) (n m:Nat) (hm:m=n*zero.length):Vo ρ (DC n zero) ((Array.range m).map (zs[· %zs.size]!)):=by
 refine ⟨by rw [Sk];simp [hm],fun i h1 h2=> ?_⟩;have hi:i<n*zero.length:=by grind
 have fD:0<zero.length:=by
  grind
 have hlt:i %zero.length<zero.length:=Bx _ fD;rw [v5b zero n i h1 hlt];have hlt2:i %zero.length<zs.size:=by rw [<-h.1];exact hlt
 have:=h.2 (i %zero.length) hlt hlt2;simp only [Array.getElem_map,Array.getElem_range];rw [<-h.1]
 grind
theorem y2o {st st':St} {w:World} (h:CF ρ st.mem st.next w) (floor:Nat) {t:TypeId} {len:Nat} {ps:List (Nat×B9)} {qs:List (Nat×Value)} {v:B9} {un:Bool} (hb:Kj P un st t len ps=some (v,st')) (hp:Iz ρ ps qs):
  ∃ρ' u w',(Instr.buildSlice t len qs.toArray).run P w=.ok u w'/\Dc ρ floor st st' v w ρ' u w'/\st'.env=st.env/\st'.ob=st.ob:=by
 unfold Kj at hb;split at hb
 .rename_i e hu;split at hb
  .rename_i i zero hi hz;cases hc:(Nat.ble (len*i.size) 16777216&&Nat.beq zero.length i.size) with
   | false=>grind
   | true=>
    rw [hc,Ab] at hb;simp only [Ac] at hc;have hle:=Al hc.1;have hzl:=Aj hc.2;split at hb
    .rename_i cells dE;simp only [Ad,Ae] at hb;obtain ⟨rfl,rfl⟩:=hb;obtain ⟨_,z,_,_,hzr,hzv⟩:=We (ρ:=ρ) hz;have eE:=Rh hzr len (len*i.size) (by rw [hzl]);obtain ⟨arr,h1,h2⟩:=Qd dE eE hp;have dA:len<=len:=Ar _;have dH:D2 ⟨w.heap.size,0,cells.length,arr.size⟩ 0 (bif un&&Nat.beq cells.length (len*i.size) then .un i.size else .ex len) len:=by
      cases hq:(un&&Nat.beq cells.length (len*i.size)) with
      | false=>rfl
      | true=>simp only [Ac] at hq;have hq2:=Aj hq.2;have:=h2.1;exact ⟨by grind,by grind⟩
     refine ⟨_,.slice (some ⟨w.heap.size,0,none⟩) len len,_,?_,RP h floor cells e arr e (by rw [h2.1];grind) h2.2 _ _ (fun ρ' hρ'=>.sl _ 0 _ _ _ _ hρ' dH dA),rfl,rfl⟩;have hgt: ¬len*i.size>2 ^ 24:=(by omega);by_cases h0:len*i.size=0
     .have h1':Instr.fill (fun j=>some (j*i.size,i.size)) #[] qs=some arr:=by
       grind
      simp [Instr.buildSlice,run_underlying hu,Yw hi,h0,h1',newRow,x0h]
     .have hgt': ¬2 ^ 24<len*i.size:=hgt;simp [Instr.buildSlice,run_underlying hu,Yw hi,h0,hzv,h1,newRow,hgt']
    .cases hb
  .cases hb
 .cases hb
theorem y2w {n:Int} (h0:0<=n) (h1:n<=1099511627776):IntKind.i64.wrap n=n:=by
 have hm:n %(2 ^ IntKind.i64.bits:Int)=n:=by
  apply Int.emod_eq_of_lt h0;have:(2 ^ IntKind.i64.bits:Int)=18446744073709551616:=by decide
  omega
 unfold wrap;simp only [hm];have: ¬(n>=(2 ^ (IntKind.i64.bits - 1):Int)):=by
  have:(2 ^ (IntKind.i64.bits - 1):Int)=9223372036854775808:=by decide
  omega
 simp [this]
theorem z0l {st st':St} {w:World} (h:CF ρ st.mem st.next w) (floor:Nat) {t:TypeId} {x y v:B9} {ux uy:Value} (hb:Un P st t x y=some (v,st')) (hx:Yv ρ x ux) (hy:Yv ρ y uy):
  ∃ρ' u w',(Instr.makeSlice t ux uy).run P w=.ok u w'/\Dc ρ floor st st' v w ρ' u w'/\st'.env=st.env/\st'.ob=st.ob:=by
 unfold Un at hb;split at hb
 .rename_i e _ l _ c hu;cases hx;cases hy;split at hb
  .rename_i i zero hi hz;cases hc:(Nat.beq zero.length i.size&&(decide (0<=l)&&decide (l<=c)&&decide (c*i.bytes<=1099511627776)&&decide (c<=1099511627776))) with
   | false=>grind
   | true=>
    rw [hc,Ab] at hb;simp only [Ac,Ao] at hc;obtain ⟨hzl,⟨⟨h0,hlc⟩,hcb⟩,hc40⟩:=hc;have hzl:=Aj hzl;simp only [Ad,Ae] at hb;obtain ⟨rfl,rfl⟩:=hb;obtain ⟨_,z,_,_,hzr,hzv⟩:=We (ρ:=ρ) hz;have eE:=Rh hzr c.toNat (c.toNat*i.size) (by rw [hzl]);have wl:=y2w (n:=l) h0 (by omega);have wc:=y2w (n:=c) (by omega) hc40;have e1: ¬c<0:=(by omega);have e2: ¬(281474976710656<(i.bytes:Int)*c):=(by grind);have e3: ¬l<0:=(by omega);have e4: ¬c<l:=(by omega);by_cases hz0:c.toNat*i.size=0
    .rw [hz0] at eE;refine ⟨_,.slice (some ⟨w.heap.size,0,none⟩) l.toNat c.toNat,_,?_,RP h floor (DC c.toNat zero) e #[] e (by rw [Sk,hzl];simp [hz0]) (fun j h1 h2=>by simp at h2) _ _ (fun ρ' hρ'=>.sl _ 0 _ _ _ _ hρ' rfl (by omega)),rfl,rfl⟩;simp [Instr.makeSlice,run_underlying hu,asInt,asIntOf,run_typeInfo w hi,wl,wc,e1,e2,e3,e4,Yw hi,hz0,newRow,x0h]
    .refine ⟨_,.slice (some ⟨w.heap.size,0,none⟩) l.toNat c.toNat,_,?_,RP h floor (DC c.toNat zero) e _ e (by rw [eE.1];grind) eE.2 _ _ (fun ρ' hρ'=>.sl _ 0 _ _ _ _ hρ' rfl (by omega)),rfl,rfl⟩;simp [Instr.makeSlice,run_underlying hu,asInt,asIntOf,run_typeInfo w hi,wl,wc,e1,e2,e3,e4,Yw hi,hz0,newRow,hzv]
  .cases hb
 .cases hb
end
section
variable {P:Program} {ρ:CE}
theorem CF.kill {mem:CJ} {next:Nat} {w:World} (h:CF ρ mem next w) (b:Nat):CF ρ (Wv mem b none) next w:=
 ⟨h.dom,fun c c' m m' e e' he hs hs'=>by
  have hc:c≠b:=fun e=>by rw [e,Yk] at hs;cases hs
  have hc':c'≠b:=fun e=>by grind [Yk]
  rw [Zv _ _ hc] at hs;rw [Zv _ _ hc'] at hs';exact h.inj c c' m m' e e' he hs hs',
  fun c m ab e hc=>by
   have hcb:c≠b:=fun e=>by rw [e,Yk] at hc;cases hc
   rw [Zv _ _ hcb] at hc;exact h.blk c m ab e hc,h.old,fun c m e hs=>by
   have hcb:c≠b:=fun e=>by rw [e,Yk] at hs;cases hs
   rw [Zv _ _ hcb] at hs;exact h.sep c m e hs,h.real,fun c hc=>by
   by_cases hcb:c=b
   .rw [hcb,Yk]
   .rw [Zv _ _ hcb];exact h.bd c hc,h.ldom⟩
theorem Ev.ofKill {mem:CJ} {next:Nat} {w:World} (h:CF ρ mem next w) (floor:Nat) {b:Nat} {l:C3} (hb:ρ b=some l):Ev ρ ρ floor mem next (Wv mem b none) next w w where
 ext:=CE.le_refl _
 new _ _:=rfl
 nxt:=Ar _
 unborn k _ e cs ty hm:=by grind [Zv]
 frame _ _ hk _:=hk
 fresh k m hk e:=by have:=h.dom k m e;omega
 size:=Ar _
 os:=rfl
 tape:=rfl
 output:=rfl
 still _ _:=rfl
theorem CF.beyond {mem:CJ} {next:Nat} {w:World} (h:CF ρ mem next w) {b:Nat} {l:C3} {ab:CG} (hb:ρ b=some l) (hm:Yn mem b=some ab) (hno:ab.isObj=false) {off:Nat} {new:zy} {vs:List Value} (ty:TypeId)
  (dA:vs.length=new.length) (hoff:off<=ab.cells.length) (dJ:ab.cells.length+new.length<=l.tot) (hv: ∀(i:Nat) (h1:i<new.length) (h2:i<vs.length),Yv ρ new[i] vs[i]) (hel:ab.ty=ty):
  ∃ cur el,w.heap[l.blk]? =some (.cells cur el (0,0))/\l.base+ab.cells.length+vs.length<=cur.size/\
   CF (Vb ρ next ⟨l.blk,l.base+off,ab.cells.length - off+new.length,l.tot - off⟩) (Wv (Wv mem b none) next (some ⟨ab.cells.drop off++new,ty,none⟩)) (next+1)
    (w.setRow l.blk (cur.toList.take (l.base+ab.cells.length)++vs++cur.toList.drop (l.base+ab.cells.length+vs.length)).toArray):=by
 obtain ⟨hty,hn,ht,_,cur,el,h1,h2,h3⟩:=(h.blk b l ab hb hm).at hno;have hbn:b<next:=h.dom b l hb
 have hle:=JH (l:=⟨l.blk,l.base+off,ab.cells.length - off+new.length,l.tot - off⟩) h.none_next;have hfc:l.base+ab.cells.length+vs.length<=cur.toList.length:=by simp;omega
 have dG: ∀c m,Vb ρ next ⟨l.blk,l.base+off,ab.cells.length - off+new.length,l.tot - off⟩ c=some m->(c=next/\m=⟨l.blk,l.base+off,ab.cells.length - off+new.length,l.tot - off⟩)\/(c≠next/\ρ c=some m):=fun c m e=>by
  grind [Vt]
 have live: ∀c,c≠next->(Yn (Wv (Wv mem b none) next (some ⟨ab.cells.drop off++new,ty,none⟩)) c).isSome =true->c≠b/\(Yn mem c).isSome =true:=fun c hc hs=>by
  grind [Zv,Yk]
 refine ⟨cur,el,h1,by grind,fun c m e=> ?_,fun c c' m m' e e' he hs hs'=> ?_,fun c m ac e hc=> ?_,fun k o e=> ?_,fun c m e=> ?_,fun c m e=> ?_,fun c hc=>by rw [Zv _ _ (by omega),Zv _ _ (by omega)];exact h.bd c (by omega),⟨fun j l e=>Bo (h.ldom.1 j l e),h.ldom.2⟩⟩
 .rcases dG c m e with ⟨rfl,_⟩ | ⟨_,e⟩
  .omega
  .have:=h.dom c m e;omega
 .rcases dG c m e with ⟨hc,hl⟩ | ⟨hc,e2⟩ <;> rcases dG c' m' e' with ⟨hc',hl'⟩ | ⟨hc',e2'⟩
  .rw [hc,hc']
  .obtain ⟨hcb,hs'⟩:=live c' hc' hs';rw [hl] at he;exact absurd (h.inj c' b m' l e2' hb he.symm hs' (by rw [hm];rfl)) hcb
  .obtain ⟨hcb,hs⟩:=live c hc hs;rw [hl'] at he;exact absurd (h.inj c b m l e2 hb he hs (by rw [hm];rfl)) hcb
  .obtain ⟨_,hs⟩:=live c hc hs;obtain ⟨_,hs'⟩:=live c' hc' hs';exact h.inj c c' m m' e2 e2' he hs hs'
 .rcases dG c m e with ⟨rfl,rfl⟩ | ⟨hcn,e2⟩
  .rw [Yk] at hc;obtain rfl:=Ag hc;refine .plain ⟨by rw [setRow_heap w l.blk cur _ el (0,0) h1];grind,by simp,by simp;omega,(fun A e=>by cases e),_,el,setRow_heap w l.blk cur _ el (0,0) h1,?_,fun i hi=> ?_⟩
   .grind
   .simp only [AK,Bv] at hi;simp only [List.getElem?_toArray];rw [Kq _ _ _ _ hfc];by_cases g1:off+i<ab.cells.length
    .rw [AJ (by omega),Bu (by simp;omega)];obtain ⟨v,e1,e2⟩:=h3 (off+i) g1;exact ⟨v,by grind,by simpa using e2.mono hle⟩
    .rw [AC (by omega),AJ (by omega),Bm (by simp;omega)];have hi2:l.base+off+i - (l.base+ab.cells.length)<vs.length:=(by omega);refine ⟨vs[l.base+off+i - (l.base+ab.cells.length)],At hi2,?_⟩;have e3:i - (ab.cells.drop off).length =l.base+off+i - (l.base+ab.cells.length):=by simp;omega
     have:=hv (l.base+off+i - (l.base+ab.cells.length)) (by omega) hi2;simp only [e3];exact this.mono hle
  .have hcs:(Yn mem c).isSome =true/\c≠b:=by
    grind
   rw [Zv _ _ hcn,Zv _ _ hcs.2] at hc;refine (h.blk c m ac e2 hc).world hle (setRow_other w l.blk m.blk _ fun heq=>hcs.2 ?_);exact h.inj c b m l e2 hb heq hcs.1 (by rw [hm];rfl)
 .have e:ρ.fz k=some o:=e;have hk:=h.old k o e;rw [setRow_other]
  .exact hk
  .intro heq;have:=h.sep b l hb (by rw [hm];rfl)
   grind
 .intro hs;rcases dG c m e with ⟨rfl,rfl⟩ | ⟨hcn,e⟩
  .exact h.sep b l hb (by rw [hm];rfl)
  .exact h.sep c m e (live c hcn hs).2
 .rw [setRow_size];rcases dG c m e with ⟨rfl,rfl⟩ | ⟨_,e⟩
  .grind
  .exact h.real c m e
theorem CF.beyond2 {mem:CJ} {next:Nat} {w:World} (h:CF ρ mem next w) {b:Nat} {l:C3} {ab:CG} (hb:ρ b=some l) (hm:Yn mem b=some ab) (hno:ab.isObj=false) {off m T:Nat} {new:zy} {vs:List Value} (ty:TypeId)
  (dA:vs.length=new.length) (hoff:off<=m) (hmc:m<=ab.cells.length) (dJ:m - off+new.length<=T) (hT:off+T<=l.tot) (hv: ∀(i:Nat) (h1:i<new.length) (h2:i<vs.length),Yv ρ new[i] vs[i]) (hel:ab.ty=ty):
  ∃ cur el,w.heap[l.blk]? =some (.cells cur el (0,0))/\l.base+m+vs.length<=cur.size/\
   CF (Vb ρ next ⟨l.blk,l.base+off,m - off+new.length,T⟩) (Wv (Wv mem b none) next (some ⟨(ab.cells.take m).drop off++new,ty,none⟩)) (next+1)
    (w.setRow l.blk (cur.toList.take (l.base+m)++vs++cur.toList.drop (l.base+m+vs.length)).toArray):=by
 obtain ⟨hty,hn,ht,_,cur,el,h1,h2,h3⟩:=(h.blk b l ab hb hm).at hno;have hbn:b<next:=h.dom b l hb
 have hle:=JH (l:=⟨l.blk,l.base+off,m - off+new.length,T⟩) h.none_next;have hfc:l.base+m+vs.length<=cur.toList.length:=by simp;omega
 have dG: ∀c lm,Vb ρ next ⟨l.blk,l.base+off,m - off+new.length,T⟩ c=some lm->(c=next/\lm=⟨l.blk,l.base+off,m - off+new.length,T⟩)\/(c≠next/\ρ c=some lm):=fun c lm e=>by
  grind [Vt]
 have live: ∀c,c≠next->(Yn (Wv (Wv mem b none) next (some ⟨(ab.cells.take m).drop off++new,ty,none⟩)) c).isSome =true->c≠b/\(Yn mem c).isSome =true:=fun c hc hs=>by
  grind [Zv,Yk]
 refine ⟨cur,el,h1,by grind,fun c lm e=> ?_,fun c c' lm lm' e e' he hs hs'=> ?_,fun c lm ac e hc=> ?_,fun k o e=> ?_,fun c lm e=> ?_,fun c lm e=> ?_,fun c hc=>by rw [Zv _ _ (by omega),Zv _ _ (by omega)];exact h.bd c (by omega),⟨fun j l e=>Bo (h.ldom.1 j l e),h.ldom.2⟩⟩
 .rcases dG c lm e with ⟨rfl,_⟩ | ⟨_,e⟩
  .omega
  .have:=h.dom c lm e;omega
 .rcases dG c lm e with ⟨hc,hl⟩ | ⟨hc,e2⟩ <;> rcases dG c' lm' e' with ⟨hc',hl'⟩ | ⟨hc',e2'⟩
  .rw [hc,hc']
  .obtain ⟨hcb,hs'⟩:=live c' hc' hs';rw [hl] at he;exact absurd (h.inj c' b lm' l e2' hb he.symm hs' (by rw [hm];rfl)) hcb
  .obtain ⟨hcb,hs⟩:=live c hc hs;rw [hl'] at he;exact absurd (h.inj c b lm l e2 hb he hs (by rw [hm];rfl)) hcb
  .obtain ⟨_,hs⟩:=live c hc hs;obtain ⟨_,hs'⟩:=live c' hc' hs';exact h.inj c c' lm lm' e2 e2' he hs hs'
 .rcases dG c lm e with ⟨rfl,rfl⟩ | ⟨hcn,e2⟩
  .rw [Yk] at hc;obtain rfl:=Ag hc;have htl:((ab.cells.take m).drop off).length =m - off:=by grind
   refine .plain ⟨by rw [setRow_heap w l.blk cur _ el (0,0) h1];grind,by grind,dJ,(fun A e=>by cases e),_,el,setRow_heap w l.blk cur _ el (0,0) h1,?_,fun i hi=> ?_⟩
   .grind
   .simp only [] at hi;rw [AK,htl] at hi;simp only [List.getElem?_toArray];rw [Kq _ _ _ _ hfc];by_cases g1:off+i<m
    .rw [AJ (by omega),Bu (by grind)];obtain ⟨v,e1,e2⟩:=h3 (off+i) (by omega);exact ⟨v,by grind,by simpa using e2.mono hle⟩
    .rw [AC (by omega),AJ (by omega),Bm (by grind)];have hi2:l.base+off+i - (l.base+m)<vs.length:=(by omega);refine ⟨vs[l.base+off+i - (l.base+m)],At hi2,?_⟩;have e3:i - ((ab.cells.take m).drop off).length =l.base+off+i - (l.base+m):=(by grind);have:=hv (l.base+off+i - (l.base+m)) (by omega) hi2;simp only [e3];exact this.mono hle
  .have hcs:(Yn mem c).isSome =true/\c≠b:=by
    grind
   rw [Zv _ _ hcn,Zv _ _ hcs.2] at hc;refine (h.blk c lm ac e2 hc).world hle (setRow_other w l.blk lm.blk _ fun heq=>hcs.2 ?_);exact h.inj c b lm l e2 hb heq hcs.1 (by rw [hm];rfl)
 .have e:ρ.fz k=some o:=e;have hk:=h.old k o e;rw [setRow_other]
  .exact hk
  .intro heq;have:=h.sep b l hb (by rw [hm];rfl)
   grind
 .intro hs;rcases dG c lm e with ⟨rfl,rfl⟩ | ⟨hcn,e⟩
  .exact h.sep b l hb (by rw [hm];rfl)
  .exact h.sep c lm e (live c hcn hs).2
 .rw [setRow_size];rcases dG c lm e with ⟨rfl,rfl⟩ | ⟨_,e⟩
  .grind
  .exact h.real c lm e
theorem Ev.ofBeyond {mem:CJ} {next:Nat} {w:World} (h:CF ρ mem next w) {floor b:Nat} {l:C3} (hb:ρ b=some l) (hf:floor<=b) (l':C3) (hl:l'.blk=l.blk) (o:Option CG) (cs:Array Value):
  Ev ρ (Vb ρ next l') floor mem next (Wv (Wv mem b none) next o) (next+1) w (w.setRow l.blk cs) where
 ext:=JH h.none_next
 new k hk:=by simp [Vb,BC hk]
 nxt:=B8 _
 unborn k hk e cs ty hm:=by
  grind [Zv]
 frame k o hk hfr:=by
  grind [setRow_other]
 fresh k m hk e:=by
  rw [Vt] at e;by_cases hkn:k=next
  .grind
  .rw [AC hkn] at e;have:=h.dom k m e;omega
 size:=by simp_all
 os:=rfl
 tape:=rfl
 output:=rfl
 still _ _:=rfl
theorem Vf {mem:CJ} {next:Nat} {w:World} (h:CF ρ mem next w) {sz:Nat} {x:B9} {u:Value} {len:Nat} {cs:zy} (hc:Xp mem sz x=some (len,cs)) (hx:Yv ρ x u) (hl:cs.length=len*sz):
  (∀w,(Builtin.lenOf u).run P w=.ok len w)/\ ∀n,n<=len-> ∃vs:Array Value,Vo ρ (cs.take (n*sz)) vs/\ ∀d,(Builtin.firstCells sz n u).run P {w with drawn:=d}=.ok vs {w with drawn:=d}:=by
 unfold Xp at hc;split at hc
 .simp only [Ad,Ae] at hc;obtain ⟨rfl,rfl⟩:=hc;cases hx;refine ⟨fun w=>by simp [Builtin.lenOf],fun n hn=>⟨#[],⟨by simp,fun i h1 _=>by simp at h1⟩,fun d=>by simp [Builtin.firstCells]⟩⟩
 .rename_i b off len' cap;split at hc
  .rename_i blk hm;obtain ⟨hno,hc⟩:=N0 hc;simp only [Aq,Ae] at hc;obtain ⟨p,hp,rfl,rfl⟩:=hc;cases hx with
   | sl _ _ _ _ l c hρ dH dA=>
    refine ⟨fun w=>by simp [Builtin.lenOf],fun n hn=> ?_⟩;obtain ⟨_,hpl,hle⟩:=NM hp;have hmul:n*sz<=len'*sz:=AB sz hn;have hex: ∀d,∃vs:Array Value,Vo ρ (p.take (n*sz)) vs/\(Builtin.firstCells sz n (.slice (some ⟨l.blk,l.base+off,none⟩) len' c)).run P {w with drawn:=d}=.ok vs {w with drawn:=d}:=by
     intro d;obtain ⟨vs,hs,hv,hr⟩:=((h.drawn d).cellsAt hρ hm hno).load (P:=P) (off:=off) (n:=n*sz) (by omega);refine ⟨vs,⟨by simp;omega,fun i h1 h2=> ?_⟩,by simpa [Builtin.firstCells] using hr⟩
     grind
    obtain ⟨vs,hv,hr⟩:=hex 0;refine ⟨vs,hv,fun d=> ?_⟩;obtain ⟨b',e1,e2⟩: ∃b',(∀d,(loadCells ⟨l.blk,l.base+off,none⟩ (n*sz)).run P {w with drawn:=d}=.ok b' {w with drawn:=d})/\True:=by
     have hc: ∀d j,j<n*sz->({w with drawn:=d}:World).cell? ((⟨l.blk,l.base+off,none⟩:Addr).add j)=some ((w.cell? ⟨l.blk,l.base+(off+j),none⟩).getD undef):=by
      intro d j hj;obtain ⟨v,e,_⟩:=(h.cellsAt hρ hm hno) (off+j) (by omega)
      rw [Xh,AL];show w.cell? _=_;rw [e];rfl
     simp_all [run_loadCells]
    grind [Builtin.firstCells]
  .cases hc
 .cases hc
theorem x6f (n:Nat): ∀(r c:Nat),c<n->Builtin.growBy n r c<=n+(n+768) / 4
 | 0,c,h=>by simp only [Builtin.growBy];omega
 | r+1,c,h=>by
  unfold Builtin.growBy;rw [AC (by omega)];by_cases h2:c+(c+768) / 4<n
  .exact x6f n r _ h2
  .cases r with
   | zero=>simp only [Builtin.growBy];omega
   | succ r=>unfold Builtin.growBy;rw [AJ (by omega)];omega
theorem y7a (n c:Nat) (h:c<n):Builtin.nextslicecap n c<=2*n+192:=by
 grind [Builtin.nextslicecap,x6f]
theorem v4s {need c bytes:Nat} (h:(need+1)*(bytes+1)<=1099511627776) (hc:c<need): ¬Builtin.nextslicecap need c*bytes>2 ^ 48:=by
 have h1:=y7a need c hc;have h2:Builtin.nextslicecap need c*bytes<=(192*(need+1))*(bytes+1):=Nat.mul_le_mul (by omega) (by omega)
 grind
end
end Go.Am
end
