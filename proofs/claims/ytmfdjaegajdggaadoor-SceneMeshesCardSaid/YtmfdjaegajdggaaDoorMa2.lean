/- A part of a proof: several texts in one. -/
import Derived.Test.YtmfdjaegajdggaaDoorMa1
import Derived.AtR
import Derived.RangeFuncRecord
import Derived.RangeFuncNested
import Derived.Laws.BytesString
import Derived.Lib.UnsafeStr
import Derived.MapKept
import Derived.Sort.Grow
import Derived.Deep.Slices
import Derived.Deep.Fields
import Derived.ChangeSame
import Derived.OpenShut
import Derived.Shelf.Strings.Builder1
import Derived.Shelf.Strings.Split
import Derived.Shelf.Strconv.Atoi
import Derived.Shelf.Strconv.Itoa0
import Derived.Shelf.Strconv.Itoa1
import Derived.Shelf.LaysM
import Derived.Shelf.Strconv.Itoa2
import Derived.Shelf.Strconv.Itoa3
import Derived.Shelf.Strconv.AtoiErrFast
import Derived.Shelf.Strconv.ParseIntEmpty
import Derived.Shelf.Strconv.AtoiFail
import Derived.Shelf.Strconv.Clone
import Derived.Shelf.Strconv.SyntaxError
import Derived.Shelf.LaysC
import Derived.Shelf.Strconv.ToError
import Derived.Shelf.Strconv.Lower
import Derived.Shelf.Strconv.ParseUint10
import Derived.Shelf.Strconv.ParseUint10Empty
import Derived.Shelf.Strconv.ParseUint10Any
import Derived.Shelf.Strconv.ParseInt10
import Derived.Shelf.Strconv.AtoiLong
import Derived.Shelf.Strconv.AtoiInnerAll
import Derived.Shelf.Strconv.RangeError
import Derived.Shelf.Strconv.ToErrorRange
import Derived.Shelf.Strconv.AtoiAll
import Derived.Shelf.Strings.Search1
import Derived.Shelf.Strings.Search2
import Derived.Shelf.Strings.Search3
import Derived.Shelf.Strings.Count
import Derived.Shelf.Strings.Shaped
import Derived.Shelf.Strings.Prefix
import Derived.Shelf.Unicode.DecodeSlow
import Derived.Test.YtmfdjaegajdggaaDoorProg
set_option maxRecDepth 1000000
set_option maxHeartbeats 8000000
set_option linter.unusedVariables false
set_option linter.unusedSimpArgs false
noncomputable section
namespace Go.Am
open IntKind (wrap)
abbrev RegOps :=Array Oper×Nat×List Oper
structure AFr where
 cx:Ctx
 ro:Option RegOps
 todo:List Item
 rnd:Option Nat
 rs:List ResultVar
 env:T AVal
structure ALoop where
 st:LoopState
 pend:Option Code
 n:Nat
 env:T AVal
 params:List Tmp
 assign:Code
 body:Code
abbrev Loops :=T (Option ALoop)
def z3p (m:Loops) (b:Nat):Option ALoop:=T.get none m b
def x0o (m:Loops) (b:Nat) (o:Option ALoop):Loops:=T.set none m b o
structure Cfg where
 cx:Ctx
 ro:Option RegOps
 todo:List Item
 rnd:Option Nat
 rs:List ResultVar
 st:St
 cs:List AFr
 lps:Loops
def popS (v:AVal) (st:St) (lps:Loops):List AFr→Option Cfg
 | ⟨cx,some (ops,i,o::l),todo,rnd,rs,env⟩::cs=>match (st.withEnv env).put cx o.dst v with
  | some st'=>some ⟨cx,some (ops,i+1,l),todo,rnd,rs,st',cs,lps⟩
  | none=>none
 | ⟨cx,none,.inRangeFunc j::k,rnd,rs,env⟩::cs=>some ⟨cx,none,.endRangeFunc j::k,rnd,rs,st.withEnv env,cs,lps⟩
 | _=>none
def y0j :Option Code→LoopState
 | none=>.ready
 | some _=>.done
def rndOk (lps:Loops):Option Nat→Bool
 | none=>true
 | some j=>(z3p lps j).isSome
def y0f (P:Program) (rnd:Option Nat) (rs:List ResultVar) (st:St) (cs:List AFr) (lps:Loops) (jump:Option Code):Option Cfg:=
 match rnd with
 | none=>match Vu P st rs with
  | some vs=>popS (Uq vs) st lps cs
  | none=>none
 | some j=>match z3p lps j with
  | some ⟨_,_,n,env,params,assign,body⟩=>
   popS (.bool jump.isNone) st (x0o lps j (some ⟨y0j jump,jump,n,env,params,assign,body⟩)) cs
  | none=>none
def z8b (n:Nat):List Tmp→List AVal→T AVal→Option (T AVal)
 | [],[],env=>some env
 | t::ts,a::l,env=>bif Nat.ble (t+1) n then z8b n ts l (T.set .undef env t a) else none
 | _,_,_=>none
def z7p (P:Program) (f:FuncId) (args:List AVal) (fr:AFr) (st:St) (cs:List AFr) (lps:Loops):Option Cfg:=
 match P.funcs[f]? with
 | some fn=>match fn.body with
  | some body=>some ⟨⟨Nat.max fn.ntmps args.length,fr.cx.floor,fr.cx.sym⟩,none,[.code body],none,fn.results.toList,st.withEnv (z1z args 0 .leaf),fr::cs,lps⟩
  | none=>none
 | none=>none
def x5m (j:Nat) (args:List AVal) (fr:AFr) (st:St) (cs:List AFr) (lps:Loops):Option Cfg:=
 match z3p lps j with
 | some ⟨_,_,n,env,params,assign,body⟩=>match z8b n params args env with
  | some env'=>some ⟨⟨n,fr.cx.floor,fr.cx.sym⟩,none,[.code assign,.beginRound,.code body],some j,[],st.withEnv env',fr::cs,lps⟩
  | none=>none
 | none=>none
def callee (S:Specs) (st:St) (op:Op):Option ((FuncId×List AVal) ⊕ (Nat×List AVal)):=
 match op with
 | .call {callee:=.value f,args,argTypes:=_}=>match st.eval f with
  | .fn g caps=>match S g with
   | some _=>none
   | none=>some (.inl (g,args.toList.map st.eval++caps))
  | .fnb g first=>match S g with
   | some _=>none
   | none=>some (.inl (g,first++args.toList.map st.eval))
  | .yld j=>some (.inr (j,args.toList.map st.eval))
  | _=>none
 | _=>none
def z4q (P:Program) (t:TypeId):Option Bool:=match P.underlying t with
 | some (.map k e)=>match P.underlying k,P.underlying e,P.info? e with
  | some .string,some (.int .i64),some i=>match i.zero with
   | some (.int .i64 n)=>bif n == 0 then some true else none
   | _=>none
  | some .string,some .bool,some i=>match i.zero with
   | some (.bool b)=>bif b then none else some false
   | _=>none
  | _,_,_=>none
 | _=>none
def x7m {α:Type} (l:List (List UInt8×α)) (k:List UInt8):Bool:=l.any fun p=>k == p.1
def x2g {α:Type} (d:α):List (List UInt8×α)→List UInt8→α
 | [],_=>d
 | p::r,k=>bif k == p.1 then p.2 else x2g d r k
def x5h {α:Type}:List (List UInt8×α)→List UInt8→α→List (List UInt8×α)
 | [],k,v=>[(k,v)]
 | p::r,k,v=>bif k == p.1 then (p.1,v)::r else p::x5h r k v
def dcR (s:List UInt8) (pos:Nat):Int:=((Utf8.decode ⟨s.toArray⟩ pos).1:Int)
def dcW (s:List UInt8) (pos:Nat):Nat:=(Utf8.decode ⟨s.toArray⟩ pos).2
def z5q :AVal→UInt8
 | .int _ n=>UInt8.ofNat n.toNat
 | _=>0
def z4z :AVal→Bool
 | .int .u8 n=>decide (0≤n∧n<256)
 | _=>false
def z2w (n:Nat) (g:Nat→List AVal):List UInt8:=(List.range n).map fun k=>z5q ((g k).getD 0 .undef)
def z5p (n:Nat) (g:Nat→List AVal):Bool:=pd (∀k,k<n→ ∃v,g k=[v]∧z4z v=true)
def y1d (m:Mem):AVal→Option (List UInt8×Bool)
 | .nils =>some ([],true)
 | .sl b off len _=>match Ze m b with
  | some blk=>bif blk.isObj then none else match cut blk.cells off len with
   | some cs=>some (cs.map z5q,cs.all z4z)
   | none=>none
  | none=>none
 | .sla b sz off len _=>match Ze m b with
  | some blk=>match blk.arr with
   | some A=>some (z2w len fun k=>A.get (off+k),Nat.beq sz 1&&(Nat.beq A.sz 1&&(decide (off+len≤A.n)&&z5p len fun k=>A.get (off+k))))
   | none=>none
  | none=>none
 | _=>none
def refB :AVal→Option Nat
 | .sl b _ _ _=>some b
 | .sla b _ _ _ _=>some b
 | _=>none
def z2f (P:Program) (floor:Nat) (st:St) (t:TypeId) (x k v:AVal):Option St:=match x,k with
 | .mapr b,.str k=>bif Nat.ble floor b then match z4q P t,Ze st.mem b,v with
  | some true,some ⟨[.obj (.mi l)],ty,none⟩,.int .i64 n=>some (st.withMem (Ya st.mem b (some ⟨[.obj (.mi (x5h l k n))],ty,none⟩)))
  | some false,some ⟨[.obj (.mb l)],ty,none⟩,.bool e=>some (st.withMem (Ya st.mem b (some ⟨[.obj (.mb (x5h l k e))],ty,none⟩)))
  | _,_,_=>none
  else none
 | _,_=>none
def aX (P:Program) (floor:Nat) (st:St):Op→Option (AVal×Bool×St)
 | .makeMap t none=>match z4q P t with
  | some k=>some (.mapr st.next,true,z0h st [.obj (bif k then .mi [] else .mb [])] t)
  | none=>none
 | .lookup t x i co=>match st.eval x,st.eval i with
  | .mapr b,.str k=>match z4q P t,Ze st.mem b with
   | some true,some ⟨[.obj (.mi l)],_,none⟩=>some (bif co then .tup [.int .i64 (x2g 0 l k),.bool (x7m l k)] else .int .i64 (x2g 0 l k),true,st)
   | some false,some ⟨[.obj (.mb l)],_,none⟩=>some (bif co then .tup [.bool (x2g false l k),.bool (x7m l k)] else .bool (x2g false l k),true,st)
   | _,_=>none
  | _,_=>none
 | .mapUpdate t m k v=>(z2f P floor st t (st.eval m) (st.eval k) (st.eval v)).map fun st'=>(.tup [],true,st')
 | .insert t m k v=>(z2f P floor st t (st.eval m) (st.eval k) (st.eval v)).map fun st'=>(.tup [],true,st')
 | .range t x=>match P.underlying t,st.eval x with
  | some .string,.str s=>some (.ptr st.next 0,true,z0h st [.obj (.it s 0)] t)
  | _,_=>none
 | .next x true=>match st.eval x with
  | .ptr b 0=>bif Nat.ble floor b then match Ze st.mem b with
   | some ⟨[.obj (.it s pos)],ty,none⟩=>match st.test (decide (pos<s.length)) with
    | (e,st1)=>some (bif e then .tup [.bool true,.int .i64 pos,.int .i32 (dcR s pos)] else .tup [.bool false],true,
      bif e then st1.withMem (Ya st1.mem b (some ⟨[.obj (.it s (pos+dcW s pos))],ty,none⟩)) else st1)
   | _=>none
   else none
  | _=>none
 | .alloc t=>bif Nat.beq t bldT then match P.info? t with
   | some i=>match i.zero with
    | some (.agg ⟨[.pointer none,.slice none 0 0]⟩)=>some (.ptr st.next 0,true,z0h st [.obj .bld,.nils] t)
    | _=>none
   | none=>none
  else none
 | .load t x=>match st.eval x with
  | .ptr b 1=>match Ze st.mem b,y5g P t,P.info? t with
   | some ⟨[.obj .bld,buf],_,none⟩,some false,some _=>some (buf,true,st)
   | _,_,_=>none
  | _=>none
 | .store t a x=>match st.eval a with
  | .ptr b 1=>bif Nat.ble floor b&&z0b (st.eval x) then match Ze st.mem b,P.info? t with
   | some ⟨[.obj .bld,_],ty,none⟩,some i=>bif Nat.beq i.size 1 then some (.tup [],true,st.withMem (Ya st.mem b (some ⟨[.obj .bld,st.eval x],ty,none⟩))) else none
   | _,_=>none
   else none
  | _=>none
 | .convert src dst x=>match P.underlying src,P.underlying dst with
  | some (.slice e),some .string =>match P.underlying e with
   | some (.int .u8)=>match y1d st.mem (st.eval x) with
    | some (s,o)=>some (.str s,o,st)
    | none=>none
   | _=>none
  | _,_=>none
 | .binOp op t x y _=>match st.eval x,y,P.underlying t with
  | .ifb b,.const .nilIface,some (.interface _)=>match op with
   | .eql =>some (.bool b,true,st)
   | .neq =>some (.bool !b,true,st)
   | _=>none
  | _,_,_=>none
 | .call {callee:=.value f,args,argTypes:=_}=>match st.eval f,args.toList.map st.eval with
  | .fn g [],[.ptr b 0]=>bif Nat.beq g x6h&&(P.funcs[g]?).any (fun fn=>fn.body.isSome) then match Ze st.mem b with
    | some ⟨[.obj .bld,buf],ty,none⟩=>bif Nat.beq ty bldT then match y1d st.mem buf with
     | some (s,o)=>match refB buf with
      | none=>some (.str s,decide (s.length≤9223372036854775807)&&o,st)
      | some c=>bif Nat.ble floor c&&tyB st.mem bytT c then some (.str s,decide (s.length≤9223372036854775807)&&o,st.withMem (Ya st.mem c none)) else none
     | none=>none
     else none
    | _=>none
   else none
  | _,_=>none
 | _=>none
def y9d (P:Program) (S:Specs) (Rc:Runner) (cx:Ctx) (ops:Array Oper) (i:Nat) (o:Oper) (l:List Oper) (todo:List Item) (rnd:Option Nat) (rs:List ResultVar) (st:St) (cs:List AFr) (lps:Loops):Option Cfg:=
 match Ug ops o cx st with
 | some (true,st)=>match aX P cx.floor st o.op with
  | some (v,b,st1)=>match st1.owe cx b with
   | some st2=>match st2.put cx o.dst v with
    | some st3=>some ⟨cx,some (ops,i+1,l),todo,rnd,rs,st3,cs,lps⟩
    | none=>none
   | none=>none
  | none=>match callee S st o.op with
  | some (.inl (g,args))=>z7p P g args ⟨cx,some (ops,i,o::l),todo,rnd,rs,st.env⟩ st cs lps
  | some (.inr (j,args))=>x5m j args ⟨cx,some (ops,i,o::l),todo,rnd,rs,st.env⟩ st cs lps
  | none=>match z4j P S Rc false o cx st with
   | some st=>some ⟨cx,some (ops,i+1,l),todo,rnd,rs,st,cs,lps⟩
   | none=>none
 | some (false,st)=>match st.put cx o.dst (.tup []) with
  | some st=>some ⟨cx,some (ops,i+1,l),todo,rnd,rs,st,cs,lps⟩
  | none=>none
 | none=>none
def Kz (ops:Array Oper):Bool:=ops.toList.all fun o=>match o.op with
 | .defer _=>false
 | _=>true
def stubOp (o:Oper):Oper:=⟨none,.move (.const (.bool true)),o.type,o.pos,o.after,none⟩
def Yo (ops:Array Oper) (m:Nat):Array Oper:=⟨ops.toList.take m++(ops.toList.drop m).map stubOp⟩
def x5g (ops:Array Oper) (m:Nat):Bool:=
 Kz ops&&(z5h 0 (Yo ops m)&&(((List.range ops.size).all fun j=>Nat.ble (j+1) m||(List.range j).all fun i=>((y8f (Yo ops m).toList []).getD j 0).testBit i)&&((List.range m).all fun i=>match ops[i]? with
  | some ⟨_,_,_,_,_,some (j,_)⟩=>Nat.ble (j+1) m
  | _=>true)))
def x6i (f:Operand):List Oper→Operand
 | []=>f
 | ⟨some d,.move x,_,_,_,_⟩::l=>match f with
  | .tmp t=>bif Nat.beq t d then x else x6i f l
  | _=>f
 | _::l=>x6i f l
def x0t (st:St) (ops:List Oper):Oper→Bool
 | ⟨_,.call ⟨.value f,_,_⟩,_,_,_,_⟩=>match st.eval (x6i f ops) with
  | .yld _=>true
  | _=>false
 | _=>false
def z7w (st:St) (ops:List Oper):List Oper→Nat→Option Nat
 | [],_=>none
 | o::l,i=>bif x0t st ops o then some i else z7w st ops l (i+1)
def x6g (ops:Array Oper) (st:St):Option Nat:=
 match z7w st ops.toList ops.toList 0 with
 | some m=>bif x5g ops m then some m else none
 | none=>none
def tryZ (ops:Array Oper):List Nat→Option Nat
 | []=>none
 | z::l=>bif z5h z ops then some z else tryZ ops l
def hasApp (ops:Array Oper):Bool:=ops.toList.any fun o=>match o.op with
 | .call {callee:=.builtin .append,.. }=>true
 | _=>false
def x7j (ops:Array Oper):Bool:=ops.toList.any fun o=>match o.op,o.dst with
 | .buildSlice _ _ _,some d=>ops.toList.any fun p=>match p.op with
  | .call {callee:=.value _,args,argTypes:=_}=>args.toList.any fun a=>match a with
   | .tmp t=>Nat.beq t d
   | _=>false
  | _=>false
 | _,_=>false
def x7i (ops:Array Oper):Option Nat:=bif Kz ops then tryZ ops (bif x7j ops then [1,0,2] else bif hasApp ops then [0,2,3,1] else [0,1,2]) else none
def St.nextId :St→Nat×St
 | ⟨env,mem,next,orc,ob⟩=>(next,⟨env,mem,next+1,orc,ob⟩)
def y6h (P:Program) (S:Specs) (Rc:Runner):Cfg→Option Cfg
 | ⟨cx,some (_,_,[]),todo,rnd,rs,st,cs,lps⟩=>some ⟨cx,none,todo,rnd,rs,st,cs,lps⟩
 | ⟨cx,some (ops,i,o::l),todo,rnd,rs,st,cs,lps⟩=>y9d P S Rc cx ops i o l todo rnd rs st cs lps
 | ⟨cx,none,todo,rnd,rs,st,cs,lps⟩=>match todo with
  | []=>y0f P rnd rs st cs lps none
  | .code .ret ::_=>y0f P rnd rs st cs lps (some .ret)
  | .code .skip ::k=>some ⟨cx,none,k,rnd,rs,st,cs,lps⟩
  | .code (.label _)::k=>some ⟨cx,none,k,rnd,rs,st,cs,lps⟩
  | .inBlock _::k=>some ⟨cx,none,k,rnd,rs,st,cs,lps⟩
  | .inScope _::k=>some ⟨cx,none,k,rnd,rs,st,cs,lps⟩
  | .code (.seq a b)::k=>some ⟨cx,none,.code a::.code b::k,rnd,rs,st,cs,lps⟩
  | .code (.cond c a b)::k=>match st.eval c with
   | .bool v=>match st.test v with
    | (e,st)=>some ⟨cx,none,.code (bif e then a else b)::k,rnd,rs,st,cs,lps⟩
   | _=>none
  | .code (.block id body)::k=>some ⟨cx,none,.code body::.inBlock id::k,rnd,rs,st,cs,lps⟩
  | .code (.scope body)::k=>some ⟨cx,none,.code body::.inScope body::k,rnd,rs,st,cs,lps⟩
  | .code (.loop body)::k=>some ⟨cx,none,.code body::.inLoop body::k,rnd,rs,st,cs,lps⟩
  | .inLoop body::k=>some ⟨cx,none,.code body::.inLoop body::k,rnd,rs,st,cs,lps⟩
  | .code (.exit id)::k=>match exitTo id k with
   | some k=>some ⟨cx,none,k,rnd,rs,st,cs,lps⟩
   | none=>match rnd with
    | some _=>y0f P rnd rs st cs lps (some (.exit id))
    | none=>none
  | .code (.region _ ops false)::k=>bif Kz ops then some ⟨cx,some (ops,0,ops.toList),k,rnd,rs,st,cs,lps⟩ else none
  | .code (.region _ ops true)::k=>match x6g ops st with
   | some m=>match z1s 0 P S Rc (Yo ops m) cx (Un (Yo ops m)) [] st with
    | some st=>some ⟨cx,some (ops,m,ops.toList.drop m),k,rnd,rs,st,cs,lps⟩
    | none=>none
   | none=>match x7i ops with
    | some z=>match z1s z P S Rc ops cx (Un ops) [] st with
     | some st=>some ⟨cx,none,k,rnd,rs,st,cs,lps⟩
     | none=>none
    | none=>none
  | .code (.rangeFunc f params assign body)::k=>match st.eval f with
   | .fn g caps=>match st.nextId with
    | (j,st')=>bif rndOk lps rnd then z7p P g (.yld j::caps) ⟨cx,none,.inRangeFunc j::k,rnd,rs,st.env⟩ st' cs (x0o lps j (some ⟨.ready,none,cx.n,st.env,params.toList,assign,body⟩)) else none
   | _=>none
  | .beginRound ::k=>match rnd with
   | some j=>match z3p lps j with
    | some ⟨.ready,pend,n,env,params,assign,body⟩=>some ⟨cx,none,k,rnd,rs,st,cs,x0o lps j (some ⟨.busy,pend,n,env,params,assign,body⟩)⟩
    | _=>none
   | none=>none
  | .endRangeFunc j::k=>match z3p lps j with
   | some ⟨.busy,_,_,_,_,_,_⟩=>none
   | some ⟨_,pend,n,env,params,assign,body⟩=>some ⟨cx,none,(pend.map Item.code).toList ++k,rnd,rs,st,cs,x0o lps j (some ⟨.exhausted,pend,n,env,params,assign,body⟩)⟩
   | none=>none
  | _=>none
def Qd :Cfg→Bool
 | ⟨_,none,[],none,_,_,[],_⟩=>true
 | ⟨_,none,.code .ret ::_,none,_,_,[],_⟩=>true
 | _=>false
def runS (P:Program) (S:Specs) (Rc:Runner) (n:Nat):Cfg→Option Cfg:=
 Nat.rec (motive:=fun _=>Cfg→Option Cfg) (fun _=>none) (fun _ R C=>bif Qd C then some C else match y6h P S Rc C with
  | some C'=>R C'
  | none=>none) n
def Uk :Item→Bool
 | .code _ | .inBlock _ | .inLoop _ | .inScope _ | .beginRound =>true
 | _=>false
def x6m (P:Program) (S:Specs) (n:Nat) (d:Nat):Runner:=
 Nat.rec (motive:=fun _=>Runner) (fun _ _ _=>none) (fun _ R cx todo st=>bif todo.all Uk&&Nat.ble cx.floor st.next then match runS P S R n ⟨cx,none,todo,none,[],st,[],.leaf⟩ with
  | some C=>bif Nat.beq C.cx.n cx.n then some C.st else none
  | none=>none
  else none) d
section
variable {P:Program}
section ops
variable {b:Frame} {a:Act} {k:List Item} {cs:List Frame} {w:World} {ops:Array Oper}
theorem z8j {i:Nat} {rest:List Nat} {o:Oper} {K:Act→World→Prop} {Q:Exit→Act→World→Prop} (hQ: ∀e a w,Q e a w→e=.normal) (ho:ops[i]? =some o) (hnd: ∀c,o.op≠ .defer c)
  (h:if Region.wanted o (yielded ops a.tmps) then o.wp P a w K Q else K (a.put o.dst undef) w):
  ∃a' w',K a' w'∧Steps P (lone (b.atR a (.inRegion ops (i::rest)::k)) cs w) (lone (b.atR a' (.inRegion ops rest::k)) cs w'):=by
 by_cases hw:Region.wanted o (yielded ops a.tmps)=true
 ·rw [Av hw] at h;have hg:=stepGR_op (P:=P) (b:=b) (k:=k) (cs:=cs) (w:=w) (rest:=rest) ho hw;rw [Oper.semAt_eq _ _ _ hnd] at hg;have fin: ∀(a:Act) (v:Value),(b.atR a (.inRegion ops (i::rest)::k)).finish v=b.atR (a.put o.dst v) (.inRegion ops rest::k):=fun a v=>by rw [Frame.finish_atR,ho];rfl
  unfold Oper.wp at h;generalize hr:(execOp a.eval o).run P w=r at h;cases r with
  | ok n w'=>
   cases n <;> simp only [Oper.upon] at h
   case value v=>exact ⟨_,w',h,.one (step_lone_go (by simp_all [stepG.apply]))⟩
   case skip=>exact ⟨_,w',h,.one (step_lone_go (by simp_all [stepG.apply]))⟩
   case defer d=>refine ⟨_,w',h,.one (step_lone_go ?_)⟩;have e:=fin {a with defers:=d::a.defers} undef;simp_all [stepG.apply,Frame.atR]
   case enter f args=>
    obtain ⟨e,w'',fr,hR,cU,_,hleave⟩:=h (b.atR a (.inRegion ops (i::rest)::k)::cs);have dW:step P (lone (b.atR a (.inRegion ops (i::rest)::k)) cs w)=.next (lone (Frame.enter P f args .normal) (b.atR a (.inRegion ops (i::rest)::k)::cs) w'):=
     step_lone_go (by simp_all [stepG.apply,Frame.atR])
    cases e with
    | returned v=>
     refine ⟨_,w'',hR,.head dW (cU.trans (.one ?_))⟩
     grind [step_leave_returned]
    | panicked chain=>grind
    | outgrown=>obtain ⟨_,_,hq⟩:=hR;grind
   case row row args=>
    obtain ⟨v,w'',hR,cU⟩:=h (b.atR a (.inRegion ops (i::rest)::k)) cs;have dW:step P (lone (b.atR a (.inRegion ops (i::rest)::k)) cs w)=.next (lone (Frame.ofRow P row args .normal) (b.atR a (.inRegion ops (i::rest)::k)::cs) w'):=
     step_lone_go (by simp_all [stepG.apply,Frame.atR])
    refine ⟨_,w'',hR,.head dW ?_⟩
    grind
   all_goals exact h.elim
  | halt x w'=>cases x <;> simp only [Oper.upon] at h <;> first | exact h.elim | grind
 ·rw [As hw] at h;have hs:=stepR_op_skip (P:=P) (b:=b) (a:=a) (k:=k) (cs:=cs) (w:=w) (ops:=ops) (i:=i) (rest:=rest) (by grind);rw [ho] at hs;exact ⟨_,w,h,.one hs⟩
theorem z4g {R:Act→World→Prop} {Q:Exit→Act→World→Prop} (hQ: ∀e a w,Q e a w→e=.normal ∧R a w) (hnd:Kz ops=true): ∀(l:List Nat) (a:Act) (w:World),wpOps P ops Q l a w→
  ∃a' w',R a' w'∧Steps P (lone (b.atR a (.inRegion ops l::k)) cs w) (lone (b.atR a' k) cs w')
 | [],a,w,h=>⟨a,w,(hQ _ _ _ h).2,.one stepR_region_end⟩
 | i::l,a,w,h=>by
  simp only [wpOps] at h;cases ho:ops[i]? with
  | none=>rw [ho] at h;obtain ⟨a',w',hR,hs⟩:=z4g hQ hnd l a w h;have h1:=stepR_op_skip (P:=P) (b:=b) (a:=a) (k:=k) (cs:=cs) (w:=w) (ops:=ops) (i:=i) (rest:=l) (by simp [ho]);rw [ho] at h1;exact ⟨a',w',hR,.head h1 hs⟩
  | some o=>
   rw [ho] at h;have hno: ∀c,o.op≠ .defer c:=by
    intro c hc;have hm:o∈ops.toList:=(by grind);have:=Aw.1 hnd o hm
    grind
   have h':if Region.wanted o (yielded ops a.tmps) then o.wp P a w (wpOps P ops Q l) Q else wpOps P ops Q l (a.put o.dst undef) w:=by
    by_cases hw:Region.wanted o (yielded ops a.tmps)=true
    ·simp only [hw,if_true] at h ⊢;rcases h with h | ⟨_,a0,w0,h0⟩;all_goals grind
    grind
   obtain ⟨a1,w1,h1,s1⟩:=z8j (b:=b) (k:=k) (cs:=cs) (rest:=l) (fun e a w q=>(hQ e a w q).1) ho hno h';obtain ⟨a',w',hR,hs⟩:=z4g hQ hnd l a1 w1 h1;exact ⟨a',w',hR,s1.trans hs⟩
end ops
end
section
variable {P:Program}
def Sp (ρ:Rho) (w:World) (r:Nat):Prop:=r<w.heap.size∧ρ.fz r=none∧ ∀b l,ρ b=some l→l.blk≠r
theorem Sp.ev {ρ ρ':Rho} {floor:Nat} {m m':Mem} {n n':Nat} {w w':World} (he:Ev ρ ρ' floor m n m' n' w w') {r:Nat} (hs:Sp ρ w r):Sp ρ' w' r∧w'.heap[r]? =w.heap[r]? :=by
 obtain ⟨h1,h2,h3⟩:=hs;refine ⟨⟨AG h1 he.size,by rw [he.still r h1];exact h2,fun b l hl=> ?_⟩,?_⟩
 ·by_cases hb:b<n
  ·rw [he.new b hb] at hl;grind
  ·rcases he.fresh b l (by omega) hl with h | ⟨b0,l0,e0,_,g0⟩;all_goals grind
 ·have:w.heap[r]? =some w.heap[r]:=by simp [h1]
  rw [this];exact he.frame r _ this fun b l hl _=>h3 b l hl
structure Xu (m:List Nat) (w w':World):Prop where
 size:w'.heap.size=w.heap.size
 other: ∀k,k ∉ m→w'.heap[k]? =w.heap[k]?
 os:w'.os=w.os
 tape:w'.tape=w.tape
 output:w'.output=w.output
theorem Xu.refl (m:List Nat) (w:World):Xu m w w:=⟨rfl,fun _ _=>rfl,rfl,rfl,rfl⟩
theorem Xu.put (w:World) (r:Nat) (o:Obj):Xu [r] w (w.putObj r o):=⟨World.putObj_size,fun k hk=>World.putObj_heap_other (by grind),rfl,rfl,rfl⟩
theorem Xu.trans {m m':List Nat} {a b c:World} (h:Xu m a b) (k:Xu m' b c):Xu (m++m') a c:=
 ⟨k.size.trans h.size,fun i hi=>by simp only [List.mem_append,not_or] at hi;exact (k.other i hi.2).trans (h.other i hi.1),k.os.trans h.os,k.tape.trans h.tape,k.output.trans h.output⟩
theorem Rel.turned {ρ:Rho} {mem:Mem} {next:Nat} {w w':World} (h:Rel ρ mem next w) {m:List Nat} (hm: ∀r∈m,Sp ρ w r) (ht:Xu m w w'):Rel ρ mem next w':=
 ⟨h.dom,h.inj,fun b l ab e g=>(h.blk b l ab e g).world (Rho.le_refl ρ) (ht.other _ fun hr=>(hm _ hr).2.2 b l e rfl),fun k o e=>by
  rw [ht.other k fun hr=>by rw [(hm _ hr).2.1] at e;cases e];exact h.old k o e,
  h.sep,fun b l e=>by rw [ht.size];exact h.real b l e,h.bd,h.ldom⟩
theorem Ev.turned {ρ0 ρ:Rho} {floor:Nat} {m0 mem:Mem} {n0 next:Nat} {w0 w w':World} (h:Ev ρ0 ρ floor m0 n0 mem next w0 w) {m:List Nat} (hm: ∀r∈m,w0.heap.size≤r) (ht:Xu m w w'):Ev ρ0 ρ floor m0 n0 mem next w0 w':=
 ⟨h.ext,h.new,h.nxt,h.unborn,fun k o hk hf=>by
  have hlt:k<w0.heap.size:=(Ar.1 hk).1;rw [ht.other k fun hr=>by grind];exact h.frame k o hk hf,h.fresh,by rw [ht.size];exact h.size,ht.os.trans h.os,ht.tape.trans h.tape,ht.output.trans h.output,h.still⟩
theorem Sp.turned {ρ:Rho} {w w':World} {r:Nat} (h:Sp ρ w r) {m:List Nat} (ht:Xu m w w'):Sp ρ w' r:=⟨by rw [ht.size];exact h.1,h.2.1,h.2.2⟩
theorem Rel.grow {ρ:Rho} {mem:Mem} {next:Nat} {w:World} (h:Rel ρ mem next w) (o:Obj):Rel ρ mem next (w.alloc o):=by
 have same: ∀k,k<w.heap.size→(w.alloc o).heap[k]? =w.heap[k]? :=fun k hk=>by
  show (w.heap.push o)[k]? =_
  grind
 exact ⟨h.dom,h.inj,fun b l ab e g=>(h.blk b l ab e g).world (Rho.le_refl ρ) (same _ (h.real b l e)),fun k ob e=>by
  have:=h.old k ob e
  grind,h.sep,fun b l e=>by
  have:=h.real b l e
  grind,h.bd,h.ldom⟩
theorem Ev.grow {ρ0 ρ:Rho} {floor:Nat} {m0 mem:Mem} {n0 next:Nat} {w0 w:World} (h:Ev ρ0 ρ floor m0 n0 mem next w0 w) (o:Obj):Ev ρ0 ρ floor m0 n0 mem next w0 (w.alloc o):=
 ⟨h.ext,h.new,h.nxt,h.unborn,fun k ob hk hf=>by
  have:=h.frame k ob hk hf;have hlt:=(Ar.1 this).1;show (w.heap.push o)[k]? =_
  grind,h.fresh,by
  have:=h.size;show _≤(w.heap.push o).size;simp;omega,h.os,h.tape,h.output,h.still⟩
theorem Sp.grow {ρ:Rho} {w:World} {r:Nat} (h:Sp ρ w r) (o:Obj):Sp ρ (w.alloc o) r∧(w.alloc o).heap[r]? =w.heap[r]? :=by
 refine ⟨⟨?_,h.2.1,h.2.2⟩,?_⟩
 ·have:=h.1;show r<(w.heap.push o).size;simp;omega
 ·show (w.heap.push o)[r]? =_;simp [Bm,AO h.1]
theorem Sp.fresh {ρ:Rho} {mem:Mem} {next:Nat} {w:World} (h:Rel ρ mem next w) (o:Obj):Sp ρ (w.alloc o) w.heap.size:=
 ⟨by simp_all,h.hold _ (Aj _),fun b l e=>AO (h.real b l e)⟩
def lpAdd (ρ:Rho) (j l:Nat):Rho:=⟨ρ.f,ρ.fz,fun k=>if k=j then some l else ρ.lp k⟩
theorem Rel.lp_none {ρ:Rho} {mem:Mem} {next:Nat} {w:World} (h:Rel ρ mem next w):ρ.lp next=none:=by
 cases e:ρ.lp next with
 | none=>rfl
 | some l=>exact absurd (h.ldom.1 _ _ e) (Nat.lt_irrefl _)
theorem z8l {ρ:Rho} {j l:Nat} (h:ρ.lp j=none):ρ.le (lpAdd ρ j l):=⟨fun _ _ e=>e,fun _ _ e=>e,fun k l' e=>by
 show (if k=j then some l else ρ.lp k)=some l'
 grind⟩
theorem Rel.lpAdd {ρ:Rho} {mem:Mem} {next:Nat} {w:World} (h:Rel ρ mem next w) (l:Nat):Rel (lpAdd ρ next l) mem (next+1) w:=
 ⟨fun b l' e=>AQ (h.dom b l' e),h.inj,fun b l' ab e g=>(h.blk b l' ab e g).world (z8l h.lp_none) rfl,h.old,h.sep,h.real,fun b hb=>h.bd b (by omega),⟨fun j l' e=>by
  have e:(if j=next then some l else ρ.lp j)=some l':=e;by_cases hj:j=next
  ·omega
  ·rw [As hj] at e;exact AQ (h.ldom.1 j l' e),h.ldom.2⟩⟩
theorem Ev.lpAdd {ρ0 ρ:Rho} {floor:Nat} {m0 mem:Mem} {n0 next:Nat} {w0 w:World} (h:Ev ρ0 ρ floor m0 n0 mem next w0 w) (hr:Rel ρ mem next w) (l:Nat):Ev ρ0 (lpAdd ρ next l) floor m0 n0 mem (next+1) w0 w:=
 ⟨Rho.le_trans h.ext (z8l hr.lp_none),h.new,Nat.le_succ_of_le h.nxt,h.unborn,h.frame,h.fresh,h.size,h.os,h.tape,h.output,h.still⟩
inductive y5x (ρ:Rho):Item→Item→Prop
 | same (x:Item) (h:Uk x=true):y5x ρ x x
 | inR (j l:Nat) (h:ρ.lp j=some l):y5x ρ (.inRangeFunc j) (.inRangeFunc l)
 | endR (j l:Nat) (h:ρ.lp j=some l):y5x ρ (.endRangeFunc j) (.endRangeFunc l)
abbrev z6e (ρ:Rho):List Item→List Item→Prop:=Xj (y5x ρ)
theorem Xj.mono {α β:Type} {R R':α→β→Prop} (hr: ∀a b,R a b→R' a b) {l:List α} {m:List β} (h:Xj R l m):Xj R' l m:=by
 induction h with
 | nil=>exact .nil
 | cons h _ ih=>exact .cons (hr _ _ h) ih
theorem y5x.mono {ρ ρ':Rho} (h:ρ.le ρ') {x y:Item} (hx:y5x ρ x y):y5x ρ' x y:=by
 cases hx with
 | same x hx=>exact .same x hx
 | inR j l e=>exact .inR j l (h.2.2 _ _ e)
 | endR j l e=>exact .endR j l (h.2.2 _ _ e)
theorem z6e.exit {ρ:Rho} {k k':List Item} (h:z6e ρ k k') (id:Nat):(∀r,exitTo id k=some r→ ∃r',exitTo id k'=some r'∧z6e ρ r r')∧(exitTo id k=none→exitTo id k'=none):=by
 induction h with
 | nil=>exact ⟨fun r e=>(by cases e),fun _=>rfl⟩
 | @cons x y l m hx t ih=>
  cases hx with
  | same x hx=>
   cases x with
   | inBlock id'=>
    grind [exitTo]
   | code _=>exact ih
   | inLoop _=>exact ih
   | inScope _=>exact ih
   | beginRound=>exact ih
   | inRegion _ _=>cases hx
   | inRangeFunc _=>cases hx
   | endRangeFunc _=>cases hx
   | call _ _ _ _=>cases hx
   | extern _ _=>cases hx
  | inR j l e=>exact ih
  | endR j l e=>exact ih
def x7h (r:Nat):Deferred:={target:=.collected r,args:= #[]}
def Xw (ro:Option RegOps) (k:List Item):List Item:=match ro with
 | none=>k
 | some (ops,i,_)=>.inRegion ops ((List.range ops.size).drop i)::k
def roOk :Option RegOps→Prop
 | none=>True
 | some (ops,i,l)=>l=ops.toList.drop i∧Kz ops=true
structure y8v (ρ:Rho) (cx:Ctx) (ro:Option RegOps) (todo:List Item) (rnd:Option Nat) (env:T AVal) (b:Frame) (a:Act) (k:List Item) (ms:List Nat):Prop where
 env:Xz ρ env cx.n a.tmps
 defers:a.defers=ms.map x7h
 todo:z6e ρ todo k
 ro:roOk ro
 rnd:match rnd with
  | none=>b.roundOf=none
  | some j=>ms=[]∧ ∃l,ρ.lp j=some l∧b.roundOf=some l
theorem y8v.mono {ρ ρ':Rho} (h:ρ.le ρ') {cx:Ctx} {ro:Option RegOps} {todo:List Item} {rnd:Option Nat} {env:T AVal} {b:Frame} {a:Act} {k:List Item} {ms:List Nat} (hf:y8v ρ cx ro todo rnd env b a k ms):y8v ρ' cx ro todo rnd env b a k ms:=
 ⟨hf.env.mono h,hf.defers,hf.todo.mono fun _ _=>y5x.mono h,hf.ro,by
  have:=hf.rnd;cases rnd with
  | none=>exact this
  | some j=>obtain ⟨h0,l,h1,h2⟩:=this;exact ⟨h0,l,h.2.2 _ _ h1,h2⟩⟩
def x2b (P:Program) (rnd:Option Nat) (rs:List ResultVar) (b:Frame):Prop:=b.kind=.normal ∧(rnd=none→ ∃fn,P.funcs[b.fn]? =some fn∧fn.results.toList=rs)
inductive y8w (P:Program) (ρ:Rho):List AFr→List Frame→List Nat→Prop
 | nil:y8w P ρ [] [] []
 | cons {af:AFr} {b:Frame} {a:Act} {k:List Item} {ms:List Nat} {cs:List AFr} {css:List Frame} {mss:List Nat} (h:y8v ρ af.cx af.ro af.todo af.rnd af.env b a k ms)
   (hl:cs≠ []→x2b P af.rnd af.rs b) (t:y8w P ρ cs css mss):y8w P ρ (af::cs) (b.atR a (Xw af.ro k)::css) (ms++mss)
theorem y8w.mono {ρ ρ':Rho} (h:ρ.le ρ') {cs:List AFr} {css:List Frame} {mss:List Nat} (hc:y8w P ρ cs css mss):y8w P ρ' cs css mss:=by
 induction hc with
 | nil=>exact .nil
 | cons hf hl t ih=>exact .cons (hf.mono h) hl ih
structure z7v (base:Nat) (ρ:Rho) (w:World) (j:Nat) (L:ALoop) (l:Nat):Prop where
 lp:ρ.lp j=some l
 low:base≤l
 sp:Sp ρ w l
 obj: ∃tmps fn d,w.heap[l]? =some (.loop ⟨L.st,L.pend,fn,tmps,L.params.toArray,L.assign,L.body,d⟩)∧Xz ρ L.env L.n tmps
structure z7u (P:Program) (base:Nat) (ρ:Rho) (cs:List AFr) (lps:Loops) (css:List Frame) (w:World) (m0 m1:List Nat):Prop where
 cs:y8w P ρ cs css m1
 nodup:(m0++m1).Nodup
 marks: ∀r∈m0++m1,base≤r∧Sp ρ w r∧w.heap[r]? =some (.deferred (some []))
 loops: ∀j L,z3p lps j=some L→ ∃l,z7v base ρ w j L l
 inj: ∀j j' L L' l,z3p lps j=some L→z3p lps j'=some L'→ρ.lp j=some l→ρ.lp j'=some l→j=j'
theorem z7v.ev {base:Nat} {ρ ρ':Rho} {floor:Nat} {m m':Mem} {n n':Nat} {w w':World} (he:Ev ρ ρ' floor m n m' n' w w') {j:Nat} {L:ALoop} {l:Nat} (h:z7v base ρ w j L l):z7v base ρ' w' j L l:=by obtain ⟨h1,h2,h3,tmps,fn,d,h4,h5⟩:=h;obtain ⟨s1,s2⟩:=h3.ev he;exact ⟨he.ext.2.2 _ _ h1,h2,s1,tmps,fn,d,by grind,h5.mono he.ext⟩
theorem z7u.ev {base:Nat} {ρ ρ':Rho} {floor:Nat} {m m':Mem} {n n':Nat} {w w':World} (he:Ev ρ ρ' floor m n m' n' w w') {cs:List AFr} {lps:Loops} {css:List Frame} {m0 m1:List Nat} (h:z7u P base ρ cs lps css w m0 m1):z7u P base ρ' cs lps css w' m0 m1:=by
 refine ⟨h.cs.mono he.ext,h.nodup,fun r hr=> ?_,fun j L hL=> ?_,fun j j' L L' l hL hL' e e'=> ?_⟩
 ·obtain ⟨h1,h2,h3⟩:=h.marks r hr;obtain ⟨s1,s2⟩:=h2.ev he
  grind
 ·obtain ⟨l,hl⟩:=h.loops j L hL;exact ⟨l,hl.ev he⟩
 ·obtain ⟨l1,hl1⟩:=h.loops j L hL;obtain ⟨l2,hl2⟩:=h.loops j' L' hL';have e1:=he.ext.2.2 _ _ hl1.lp;have e2:=he.ext.2.2 _ _ hl2.lp;rw [e] at e1;rw [e'] at e2;obtain rfl:=Ac e1;obtain rfl:=Ac e2;exact h.inj j j' L L' l hL hL' hl1.lp hl2.lp
theorem z7u.turned {base:Nat} {ρ:Rho} {w w':World} {cs:List AFr} {lps:Loops} {css:List Frame} {m0 m0' m1:List Nat} (h:z7u P base ρ cs lps css w m0 m1) {m:List Nat} (ht:Xu m w w') (hsub:m0'.Sublist m0) (hm: ∀r∈m,r ∉ m0'++m1) (hl: ∀r∈m,∃ds,w.heap[r]? =some (.deferred ds)):
  z7u P base ρ cs lps css w' m0' m1:=by
 refine ⟨h.cs,h.nodup.sublist (hsub.append (List.Sublist.refl _)),fun r hr=> ?_,fun j L hL=> ?_,h.inj⟩
 ·obtain ⟨h1,h2,h3⟩:=h.marks r ((hsub.append (List.Sublist.refl m1)).subset hr);exact ⟨h1,h2.turned ht,by rw [ht.other r fun hrm=>hm r hrm hr];exact h3⟩
 ·obtain ⟨l,h1,h2,h3,tmps,fn,d,h4,h5⟩:=h.loops j L hL;refine ⟨l,h1,h2,h3.turned ht,tmps,fn,d,?_,h5⟩;rw [ht.other l fun hlm=> ?_];all_goals grind
theorem z7u.record {base:Nat} {ρ:Rho} {w w':World} {cs:List AFr} {lps:Loops} {css:List Frame} {m0 m1:List Nat} (h:z7u P base ρ cs lps css w m0 m1) {j l:Nat} {L L':ALoop} (hj:z3p lps j=some L) (hl:z7v base ρ w j L l)
  (hL:z7v base ρ w' j L' l) (ht:Xu [l] w w'):z7u P base ρ cs (x0o lps j (some L')) css w' m0 m1:=by
 have eA:=hl.obj;obtain ⟨tmps,fn,d,h4,_⟩:=eA;have get: ∀i,z3p (x0o lps j (some L')) i=if i=j then some L' else z3p lps i:=fun i=>T.get_set none lps j (some L') i
 refine ⟨h.cs,h.nodup,fun r hr=> ?_,fun i M hM=> ?_,fun i i' M M' l' hM hM' e e'=> ?_⟩
 ·obtain ⟨h1,h2,h3⟩:=h.marks r hr;refine ⟨h1,h2.turned ht,?_⟩;rw [ht.other r fun hrm=> ?_];all_goals grind
 ·rw [get] at hM;by_cases hij:i=j
  ·grind
  ·rw [As hij] at hM;obtain ⟨l2,q1,q2,q3,tmps2,fn2,d2,q4,q5⟩:=h.loops i M hM;refine ⟨l2,q1,q2,q3.turned ht,tmps2,fn2,d2,?_,q5⟩;rw [ht.other l2 fun hlm=> ?_]
   ·exact q4
   ·obtain rfl:l2=l:=by grind
    exact hij (h.inj i j M L l2 hM hj q1 hl.lp)
 ·rw [get] at hM hM';have old: ∀x N,(if x=j then some L' else z3p lps x)=some N→ ∃N',z3p lps x=some N':=fun x N hx=>by
   grind
  obtain ⟨N,hN⟩:=old i M hM;obtain ⟨N',hN'⟩:=old i' M' hM';exact h.inj i i' N N' l' hN hN' e e'
end
section
variable {P:Program}
structure x8v (P:Program) (base:Nat) (C:Cfg) (ρ:Rho) (b:Frame) (a:Act) (k:List Item) (css:List Frame) (w:World) (ma mb:List Nat):Prop where
 top:y8v ρ C.cx C.ro C.todo C.rnd C.st.env b a k ma
 lv:C.cs≠ []→x2b P C.rnd C.rs b
 rest:z7u P base ρ C.cs C.lps css w ma mb
 rel:Rel ρ C.st.mem C.st.next w
structure Fl (fl:Nat) (C:Cfg):Prop where
 cx:C.cx.floor=fl
 cs: ∀af∈C.cs,af.cx.floor=fl
 le:fl≤C.st.next
def y3v (b:Frame):List Frame→FuncId×CallKind×Option Nat
 | []=>(b.fn,b.kind,b.roundOf)
 | c::css=>y3v c css
def z2k (P:Program) (fl:Nat) (C C':Cfg):Prop:=
 ∀(m0:Mem) (n0:Nat) (ρ0:Rho) (w0:World) (ρ:Rho) (b:Frame) (a:Act) (k:List Item) (css:List Frame) (w:World) (ma mb:List Nat),x8v P w0.heap.size C ρ b a k css w ma mb→Ev ρ0 ρ fl m0 n0 C.st.mem C.st.next w0 w→ ∀cs0:List Frame,
  ∃ρ' b' a' k' css' w' ma' mb',Steps P (lone (b.atR a (Xw C.ro k)) (css++cs0) w) (lone (b'.atR a' (Xw C'.ro k')) (css'++cs0) w')∧x8v P w0.heap.size C' ρ' b' a' k' css' w' ma' mb'∧Ev ρ0 ρ' fl m0 n0 C'.st.mem C'.st.next w0 w'∧y3v b' css'=y3v b css∧w.heap.size≤w'.heap.size
theorem z2k.refl (fl:Nat) (C:Cfg):z2k P fl C C:=fun m0 n0 ρ0 w0 ρ b a k css w ma mb hs he cs0=>⟨ρ,b,a,k,css,w,ma,mb,Steps.refl _ _,hs,he,rfl,Aj _⟩
structure Sim (P:Program) (fl:Nat) (C C':Cfg):Prop where
 fls:Fl fl C'
 inv:Yw fl C.st C'.st
 leads:C'.st.ob=true→z2k P fl C C'
theorem Sim.move {fl:Nat} {cx:Ctx} {todo todo':List Item} {rnd:Option Nat} {rs:List ResultVar} {st:St} {cs:List AFr} {lps:Loops} (hfl:Fl fl ⟨cx,none,todo,rnd,rs,st,cs,lps⟩)
  (hk: ∀(ρ:Rho) (k:List Item),z6e ρ todo k→ ∃k',z6e ρ todo' k'∧ ∀(b:Frame) (a:Act) (css:List Frame) (w:World),step P (lone (b.atR a k) css w)=.next (lone (b.atR a k') css w)):
  Sim P fl ⟨cx,none,todo,rnd,rs,st,cs,lps⟩ ⟨cx,none,todo',rnd,rs,st,cs,lps⟩:=
 ⟨⟨hfl.cx,hfl.cs,hfl.le⟩,Yw.refl _ _,fun ho m0 n0 ρ0 w0 ρ b a k css w ma mb hs he cs0=>by
   obtain ⟨k',ht,dB⟩:=hk ρ k hs.top.todo;exact ⟨ρ,b,a,k',css,w,ma,mb,.one (dB b a _ w),⟨⟨hs.top.env,hs.top.defers,ht,trivial,hs.top.rnd⟩,hs.lv,hs.rest,hs.rel⟩,he,rfl,Aj _⟩⟩
theorem z6e.code {ρ:Rho} {c:Code} {t k:List Item} (h:z6e ρ (.code c::t) k): ∃k',k=.code c::k'∧z6e ρ t k':=by
 cases h with
 | cons hx ht=>cases hx;grind
theorem z2m {cs:List Frame}: ∀(ms:List Nat) (fr:Frame) (w:World),fr.mode=.returning →fr.defers=ms.map x7h→ms.Nodup→(∀r∈ms,w.heap[r]? =some (.deferred (some [])))→
  ∃w',Steps P (lone fr cs w) (lone {fr with defers:=[]} cs w')∧Xu ms w w'
 | [],fr,w,hm,hd,_,_=>⟨w,by
   have:{fr with defers:=[]}=fr:=by cases fr;grind
   rw [this];exact Steps.refl _ _,Xu.refl _ _⟩
 | r::ms,fr,w,hm,hd,hn,ho=>by
  have hr:=ho r (by simp);have h1:=step_collected (P:=P) (cs:=cs) (fr:=fr) (d:=x7h r) (ds:=ms.map x7h) (by rw [hm];simp) (by rw [hd];rfl) rfl (run_takeDeferred hr);rw [List.nodup_cons] at hn;obtain ⟨w',hs,ht⟩:=z2m (cs:=cs) ms {fr with defers:=ms.map x7h} (w.putObj r (.deferred none)) hm rfl hn.2 fun r' hr'=>by
   grind [World.putObj_heap_other]
  exact ⟨w',.head h1 hs,(Xu.put w r _).trans ht⟩
theorem z5g {fl base:Nat} {C:Cfg} {ρ:Rho} {b:Frame} {a:Act} {k:List Item} {css:List Frame} {w:World} {ma mb:List Nat} (hs:x8v P base C ρ b a k css w ma mb) (hro:C.ro=none) (cP:C.rnd=none) (htodo:C.todo=[]∨ ∃t,C.todo=.code .ret ::t)
  {m0:Mem} {n0:Nat} {ρ0:Rho} {w0:World} (hb:base=w0.heap.size) (he:Ev ρ0 ρ fl m0 n0 C.st.mem C.st.next w0 w) (cs0:List Frame):
  ∃w',Steps P (lone (b.atR a (Xw C.ro k)) cs0 w) (lone {b.atR {a with defers:=[]} k with mode:=.returning} cs0 w')∧Xz ρ C.st.env C.cx.n a.tmps∧Rel ρ C.st.mem C.st.next w'∧Ev ρ0 ρ fl m0 n0 C.st.mem C.st.next w0 w'∧z7u P base ρ C.cs C.lps css w' [] mb∧w.heap.size≤w'.heap.size:=by
 have hrn:=hs.top.rnd;rw [cP] at hrn;have h1:step P (lone (b.atR a (Xw C.ro k)) cs0 w)=.next (lone {b.atR a k with mode:=.returning} cs0 w):=by
  rw [hro];have ht:=hs.top.todo;rcases htodo with e | ⟨t,e⟩
  ·rw [e] at ht;cases ht;exact stepR_end hrn
  ·rw [e] at ht;obtain ⟨k',rfl,_⟩:=ht.code;exact stepR_ret hrn
 have hnd:ma.Nodup:=(List.nodup_append.1 hs.rest.nodup).1;obtain ⟨w',h2,ht⟩:=z2m (P:=P) (cs:=cs0) ma {b.atR a k with mode:=.returning} w rfl hs.top.defers hnd fun r hr=>(hs.rest.marks r (by simp [hr])).2.2;refine ⟨w',.head h1 h2,hs.top.env,hs.rel.turned (fun r hr=>(hs.rest.marks r (by simp [hr])).2.1) ht,he.turned (fun r hr=>by rw [←hb];exact (hs.rest.marks r (by simp [hr])).1) ht,hs.rest.turned ht (List.nil_sublist _) (fun r hr hrm=> ?_) (fun r hr=>⟨_,(hs.rest.marks r (by simp [hr])).2.2⟩),Bt ht.size.symm⟩;rw [Bd] at hrm;exact (List.nodup_append.1 hs.rest.nodup).2.2 r hr r hrm rfl
theorem z8h {fl base:Nat} {v:AVal} {st:St} {lps:Loops} {cs:List AFr} {C':Cfg} (h:popS v st lps cs=some C') (hcs: ∀af∈cs,af.cx.floor=fl) (hle:fl≤st.next):
  Fl fl C'∧C'.st.mem=st.mem∧C'.st.next=st.next∧C'.st.ob=st.ob∧(cs≠ [])∧ ∀(ρ:Rho) (css:List Frame) (w:World) (mb:List Nat) (u:Value),Zj ρ v u→z7u P base ρ cs lps css w [] mb→Rel ρ st.mem st.next w→
   ∃c css' b' a' k' ma' mb',css=c::css'∧c.finish u=b'.atR a' (Xw C'.ro k')∧x8v P base C' ρ b' a' k' css' w ma' mb'∧y3v b' css'=y3v c css':=by
 unfold popS at h;split at h
 ·rename_i cx ops i o l todo rnd rs env cs';split at h
  ·rename_i st' hp;obtain rfl:=Ac h;obtain ⟨p1,p2,p3,p4⟩:=Ys hp;refine ⟨⟨hcs _ (Bo ..),fun af haf=>hcs af (by simp [haf]),by rw [show st'.next=st.next from p2];exact hle⟩,p1,p2,p3,by simp,fun ρ css w mb u hv hr cD=> ?_⟩;obtain ⟨hc,hnd,hmk,hlp,hinj⟩:=hr;cases hc with
   | @cons _ b a k ms _ css' mss hf hl ht=>
    simp only at hf hl;refine ⟨_,css',b,a.put o.dst u,k,ms,mss,rfl,?_,⟨⟨hf.env.put hv ?_,by rw [Act.put_defers'];exact hf.defers,hf.todo,?_,hf.rnd⟩,hl,⟨ht,hnd,hmk,hlp,hinj⟩,?_⟩,by cases css' <;> rfl⟩
    ·obtain ⟨hro,_⟩:=hf.ro;have hi:ops.toList[i]? =some o:=by
      have:=Au (·[0]?) hro
      grind
     have hi':ops[i]? =some o:=(by grind);have hlt:i<ops.size:=(Ar.1 hi').1;have hd:(List.range ops.size).drop i=i::(List.range ops.size).drop (i+1):=by rw [AU (by grind)];simp
     grind [Xw,Frame.finish_atR]
    ·rcases p4 with ⟨e,e2⟩ | ⟨d,e,hlt,e2⟩
     ·exact .inl ⟨e,e2⟩
     ·exact .inr ⟨d,e,hlt,e2⟩
    ·obtain ⟨hro,dC⟩:=hf.ro;refine ⟨?_,dC⟩;have:=Au List.tail hro
     simpa using this
    ·show Rel ρ st'.mem st'.next w
     rw [show st'.mem=st.mem from p1,show st'.next=st.next from p2];exact cD
  ·cases h
 ·rename_i cx j k rnd rs env cs';obtain rfl:=Ac h;refine ⟨⟨hcs _ (Bo ..),fun af haf=>hcs af (by simp [haf]),hle⟩,rfl,rfl,rfl,by simp,fun ρ css w mb u hv hr cD=> ?_⟩;obtain ⟨hc,hnd,hmk,hlp,hinj⟩:=hr;cases hc with
  | @cons _ b a k0 ms _ css' mss hf hl ht=>
   simp only at hf hl;have htd:=hf.todo;cases htd with
   | cons hx htl=>
    cases hx with
    | same _ hp=>cases hp
    | inR _ l hlj=>exact ⟨_,css',b,a,_,ms,mss,rfl,finish_atR_inRangeFunc l u,⟨⟨hf.env,hf.defers,.cons (.endR _ l hlj) htl,trivial,hf.rnd⟩,hl,⟨ht,hnd,hmk,hlp,hinj⟩,cD⟩,by cases css' <;> rfl⟩
 ·cases h
theorem y6f {b:Frame} {a:Act} {k:List Item} {cs:List Frame} {w:World} {ops:Array Oper} {i:Nat} {rest:List Nat} {o:Oper} {f:FuncId} {args:Array Value} (ho:ops[i]? =some o) (hnd: ∀c,o.op≠ .defer c) (hw:Region.wanted o (yielded ops a.tmps)=true)
  (hr:(execOp a.eval o).run P w=.ok (.enter f args) w):step P (lone (b.atR a (.inRegion ops (i::rest)::k)) cs w)=.next (lone (Frame.enter P f args .normal) (b.atR a (.inRegion ops (i::rest)::k)::cs) w):=by
 have hg:=stepGR_op (P:=P) (b:=b) (k:=k) (cs:=cs) (w:=w) (rest:=rest) ho hw;rw [Oper.semAt_eq _ _ _ hnd] at hg;exact step_lone_go (by simp_all [stepG.apply,Frame.atR])
theorem y6e {b:Frame} {a:Act} {k:List Item} {cs:List Frame} {w:World} {ops:Array Oper} {i:Nat} {rest:List Nat} {o:Oper} {l:Nat} {f:FuncId} {tmps:Array Value} {assign body:Code} (ho:ops[i]? =some o) (hnd: ∀c,o.op≠ .defer c) (hw:Region.wanted o (yielded ops a.tmps)=true)
  (hr:(execOp a.eval o).run P w=.ok (.round l f tmps assign body) w):step P (lone (b.atR a (.inRegion ops (i::rest)::k)) cs w)=.next (lone (Frame.round l f tmps assign body .normal) (b.atR a (.inRegion ops (i::rest)::k)::cs) w):=by
 have hg:=stepGR_op (P:=P) (b:=b) (k:=k) (cs:=cs) (w:=w) (rest:=rest) ho hw;rw [Oper.semAt_eq _ _ _ hnd] at hg;exact step_lone_go (by simp_all [stepG.apply])
theorem Jh {ρ:Rho} {n:Nat}: ∀{ps:List Tmp} {args:List AVal} {env env':T AVal} {vals:List Value} {tmps:Array Value},z8b n ps args env=some env'→Xz ρ env n tmps→Xj (Zj ρ) args vals→
  ps.length=vals.length∧Xz ρ env' n ((ps.zip vals).foldl (fun t p=>t.setIfInBounds p.1 p.2) tmps)
 | [],[],env,env',vals,tmps,h,he,ha=>by cases ha;obtain rfl:=Ac h;simp_all
 | t::ps,x::args,env,env',vals,tmps,h,he,ha=>by
  cases ha with
  | @cons _ u _ vals hx ha=>
   unfold z8b at h;obtain ⟨hc,h⟩:=Zv h;have hlt:=Ae hc;have he':Xz ρ (T.set .undef env t x) n (tmps.setIfInBounds t u):=by have:=Xz.put (a:=⟨tmps,[]⟩) (dst:=some t) he hx (.inr ⟨t,rfl,hlt,rfl⟩);exact this
   obtain ⟨h1,h2⟩:=Jh h he' ha;simp_all
 | [],_::_,_,_,_,_,h,_,_=>by cases h
 | _::_,[],_,_,_,_,h,_,_=>by cases h
theorem Fl.enter {fl:Nat} {cx:Ctx} {ro:Option RegOps} {todo:List Item} {rnd:Option Nat} {rs:List ResultVar} {st:St} {cs:List AFr} {lps lps':Loops} (h:Fl fl ⟨cx,ro,todo,rnd,rs,st,cs,lps⟩) {n:Nat} {todo':List Item} {rnd':Option Nat} {rs':List ResultVar} {st':St} {ro':Option RegOps} {td:List Item} {e:T AVal} (hn:st.next≤st'.next):
  Fl fl ⟨⟨n,cx.floor,cx.sym⟩,none,todo',rnd',rs',st',⟨cx,ro',td,rnd,rs,e⟩::cs,lps'⟩:=
 ⟨h.cx,fun af haf=>by
  rcases A6.1 haf with rfl | haf
  ·exact h.cx
  ·exact h.cs af haf,AJ h.le hn⟩
theorem z7o {base:Nat} {ρ:Rho} {f:FuncId} {args:List AVal} {cx:Ctx} {ro':Option RegOps} {td:List Item} {rnd:Option Nat} {rs:List ResultVar} {e:T AVal} {st:St} {cs:List AFr} {lps:Loops} {C':Cfg} {b:Frame} {a:Act} {k:List Item} {css:List Frame} {w:World} {ma mb:List Nat} {vals:Array Value}
  (h:z7p P f args ⟨cx,ro',td,rnd,rs,e⟩ st cs lps=some C') (hf:y8v ρ cx ro' td rnd e b a k ma) (hlv:cs≠ []→x2b P rnd rs b) (hr:z7u P base ρ cs lps css w ma mb) (cD:Rel ρ st.mem st.next w) (cG:Xj (Zj ρ) args vals.toList):
  ∃fn body,P.funcs[f]? =some fn∧fn.body=some body∧C'=⟨⟨Nat.max fn.ntmps args.length,cx.floor,cx.sym⟩,none,[.code body],none,fn.results.toList,st.withEnv (z1z args 0 .leaf),⟨cx,ro',td,rnd,rs,e⟩::cs,lps⟩∧
   ∃b' a' k',Frame.enter P f vals .normal =b'.atR a' (Xw none k')∧x8v P base C' ρ b' a' k' (b.atR a (Xw ro' k)::css) w [] (ma++mb):=by
 unfold z7p at h;split at h
 ·rename_i fn hfn;split at h
  ·rename_i body hb;obtain rfl:=Ac h;refine ⟨fn,body,hfn,hb,rfl,⟨f, #[],[],[],.run,.normal,none⟩,{tmps:=vals++Array.replicate (fn.ntmps - vals.size) undef,defers:=[]},[.code body],?_,⟨⟨z5e cG fn.ntmps,rfl,.cons (.same _ rfl) .nil,trivial,rfl⟩,fun _=>⟨rfl,fun _=>⟨fn,hfn,rfl⟩⟩,?_,cD⟩⟩
   ·grind [Frame.enter,Frame.atR,Xw]
   ·exact ⟨.cons hf hlv hr.cs,hr.nodup,hr.marks,hr.loops,hr.inj⟩
  ·cases h
 ·cases h
theorem z0j {ρ:Rho} {ops:Array Oper} {o:Oper} {cx:Ctx} {st st1:St} {e:Bool} (h:Ug ops o cx st=some (e,st1)):st1.mem=st.mem∧st1.next=st.next∧(st1.ob=true→st.ob=true∧ ∀{tmps:Array Value},Xz ρ st.env cx.n tmps→Xz ρ st1.env cx.n tmps∧Region.wanted o (yielded ops tmps)=e):=by obtain ⟨w1,w2,w3⟩:=Ye h;refine ⟨w1,w2,fun ho=>⟨(w3 ho).1,fun {tmps} he=>⟨he.congr fun t=>(w3 ho).2 t,Xf h ho he.size fun d _=>he.get d⟩⟩⟩
theorem y2b {ops:Array Oper} {i:Nat} {o:Oper} {l:List Oper} (h:o::l=ops.toList.drop i):ops[i]? =some o∧l=ops.toList.drop (i+1)∧(List.range ops.size).drop i=i::(List.range ops.size).drop (i+1):=by
 have hi:ops.toList[i]? =some o:=by
  have:=Au (·[0]?) h
  grind
 have hi':ops[i]? =some o:=by grind
 have hlt:i<ops.size:=(Ar.1 hi').1;refine ⟨hi',?_,?_⟩
 ·have:=Au List.tail h
  simpa using this
 ·rw [AU (by grind)];simp
theorem Uh {ops:Array Oper} (h:Kz ops=true) {i:Nat} {o:Oper} (ho:ops[i]? =some o) (c:Call):o.op≠ .defer c:=by
 intro hc;have hm:o∈ops.toList:=by grind
 have:=Aw.1 h o hm
 grind
theorem z5o {ρ:Rho} {st:St} {n:Nat} {a:Act} (he:Xz ρ st.env n a.tmps) (args:Array Operand):Xj (Zj ρ) (args.toList.map st.eval) (args.map a.eval).toList :=by rw [AW];exact Xj.maps _ _ _ fun x _=>he.eval x
theorem y1o {ops:Array Oper} {m i:Nat} (hm:m≤ops.size) (h:i<m):(Yo ops m)[i]? =ops[i]? :=by
 grind [Yo]
theorem y9a {ops:Array Oper} {m i:Nat} (hm:m≤ops.size) (h:m≤i):(Yo ops m)[i]? =(ops[i]?).map stubOp:=by
 grind [Yo]
theorem z9o {ops:Array Oper} {m:Nat} (hm:m≤ops.size):(Yo ops m).size =ops.size:=by simp [Yo];omega
theorem z1n {ops:Array Oper} {m:Nat} (hm:m≤ops.size) (i:Nat):((Yo ops m)[i]?).map (·.after)=(ops[i]?).map (·.after):=by
 by_cases h:i<m
 ·rw [y1o hm h]
 ·rw [y9a hm (by omega)];cases ops[i]? <;> rfl
theorem y6c (md:Region.Mode) {ops:Array Oper} {m:Nat} (hm:m≤ops.size) (listed:Array Bool):Region.ready md (Yo ops m) listed=Region.ready md ops listed:=by
 grind [Region.ready,z1n,Yo]
theorem y4n (md:Region.Mode) {ops:Array Oper} {m:Nat} (hm:m≤ops.size): ∀(fuel t:Nat) (listed:Array Bool) (acc:List Nat),Region.linearise.go md (Yo ops m) fuel t listed acc=Region.linearise.go md ops fuel t listed acc
 | 0,t,listed,acc=>rfl
 | fuel+1,t,listed,acc=>by
  have e:=y6c md hm listed;unfold Region.ready at e;simp only [Region.linearise.go];rw [e];split
  ·exact y4n md hm fuel _ _ _
  ·rfl
theorem y6k {ops:Array Oper} (dQ: ∀(j:Nat) o,ops[j]? =some o→ ∀e∈o.after.toList,Region.binds .any e=true→e.on<j): ∀listed:Array Bool,listed.size=ops.size→ ∀i,i<ops.size→listed.getD i false=false→ ∃j,j∈Region.ready .any ops listed:=by
 intro listed hsz i
 induction i using Nat.strongRecOn with
 | _ i ih=>
  intro hi hl;by_cases h: ∃e∈(ops[i]).after.toList,Region.binds .any e=true∧listed.getD e.on false=false
  ·grind
  ·refine ⟨i,mem_ready.2 ⟨?_,ops[i],by simp [hi],fun e he hb=> ?_⟩⟩;all_goals grind
theorem y5b {ops:Array Oper} (dQ: ∀(j:Nat) o,ops[j]? =some o→ ∀e∈o.after.toList,Region.binds .any e=true→e.on<j) (fuel t:Nat) (listed:Array Bool) (hsz:listed.size=ops.size) (hcl:z1l ops (fun i=>listed.getD i false)) {q:Nat} (hq:q<ops.size) (hl:listed.getD q false=false):
  ∃i x t',ops[i]? =some x∧listed.getD i false=false∧z9i (fun i=>listed.getD i false) x∧Region.linearise.go .any ops (fuel+1) t listed []=i::Region.linearise.go .any ops fuel t' (listed.setIfInBounds i true) []∧
   (listed.setIfInBounds i true).size =ops.size∧z1l ops (fun q=>(listed.setIfInBounds i true).getD q false)∧ ∀q,(listed.setIfInBounds i true).getD q false=(listed.getD q false||q == i):=by
 obtain ⟨j0,hj0⟩:=y6k dQ listed hsz q hq hl;have hne:Region.ready .any ops listed≠ []:=fun e=>by grind
 have hlt:t %(Region.ready .any ops listed).length <(Region.ready .any ops listed).length :=Bg _ (List.length_pos_iff.2 hne);have hgo:Region.linearise.go .any ops (fuel+1) t listed []=(match (Region.ready .any ops listed)[t %(Region.ready .any ops listed).length]? with
  | some i=>Region.linearise.go .any ops fuel (t / (Region.ready .any ops listed).length) (listed.setIfInBounds i true) [i]
  | none=>[].reverse):=rfl
 rw [hgo,An hlt];simp only;have hi:=AE hlt;generalize (Region.ready .any ops listed)[t %(Region.ready .any ops listed).length]=i at hi;obtain ⟨h1,x,hx,hr⟩:=mem_ready.1 hi;have hil:i<ops.size:=(Ar.1 hx).1;have hils:i<listed.size:=by omega
 have hif:listed.getD i false=false:=by grind
 rw [linearise_go_acc,List.reverse_singleton,List.singleton_append];have dO: ∀q,(listed.setIfInBounds i true).getD q false=(listed.getD q false||q == i):=fun q=>by
  by_cases hq:q=i
  ·simp_all
  ·have:(q == i)=false:=by simp [hq]
   rw [this,Bool.or_false];simp [Array.getD_eq_getD_getElem?,Ne.symm hq]
 have cL:z9i (fun i=>listed.getD i false) x:=fun e he hb=>hr e (Array.mem_toList_iff.1 he) hb;refine ⟨i,x,_,hx,hif,cL,rfl,by grind,fun j y hy hs e he hb=> ?_,dO⟩;simp only [dO] at hs ⊢;by_cases hji:j=i
 ·grind
 ·have hs':listed.getD j false=true:=by grind
  have:=hcl j y hy hs' e he hb
  grind
theorem y5a {ops:Array Oper} {m:Nat} (dQ: ∀(j:Nat) o,ops[j]? =some o→ ∀e∈o.after.toList,Region.binds .any e=true→e.on<j) (hf: ∀j x,m≤j→ops[j]? =some x→ ∀i,i<j→z2u ops i x):
  ∀(fuel t j:Nat) (listed:Array Bool),listed.size=ops.size→z1l ops (fun i=>listed.getD i false)→m≤j→j+fuel=ops.size→(∀q,q<j→listed.getD q false=true)→(∀q,j≤q→listed.getD q false=false)→Region.linearise.go .any ops fuel t listed []=(List.range ops.size).drop j
 | 0,t,j,listed,hsz,hcl,hj,hn,h1,h2=>by rw [AH (by simp;omega)];rfl
 | fuel+1,t,j,listed,hsz,hcl,hj,hn,h1,h2=>by
  obtain ⟨i,x,t',hx,hif,hr,hgo,dZ,hcl',dO⟩:=y5b dQ fuel t listed hsz hcl (q:=j) (by omega) (h2 j (Aj _));have hij: ¬i<j:=fun e=>by rw [h1 i e] at hif;cases hif
  have e:i=j:=by
   by_cases h:j<i
   ·have:listed.getD j false=true:=hf i x (by omega) hx j h _ hcl hr;rw [h2 j (Aj _)] at this;cases this
   ·omega
  subst e;rw [hgo,y5a dQ hf fuel t' (i+1) _ dZ hcl' (by omega) (by omega) (fun q hq=>by
   rw [dO];by_cases e:q=i
   ·simp [e]
   ·rw [h1 q (by omega)];rfl) (fun q hq=>by
   rw [dO,h2 q (by omega)];simp;omega)]
  rw [AU (show i<(List.range ops.size).length by simp;omega)];simp
theorem x4a {ops:Array Oper} {m:Nat} (dQ: ∀(j:Nat) o,ops[j]? =some o→ ∀e∈o.after.toList,Region.binds .any e=true→e.on<j) (hm:m<ops.size) (hf: ∀j x,m≤j→ops[j]? =some x→ ∀i,i<j→z2u ops i x):
  ∀(fuel t:Nat) (listed:Array Bool),listed.size=ops.size→z1l ops (fun i=>listed.getD i false)→(List.range ops.size).countP (fun i=> !listed.getD i false)=fuel→(∀q,m≤q→listed.getD q false=false)→
   ∃l,Region.linearise.go .any ops fuel t listed []=l++(List.range ops.size).drop m∧ ∀i∈l,i<m:=by
 intro fuel
 induction fuel with
 | zero=>
  intro t listed hsz _ hc hl;have:=List.countP_eq_zero.1 hc m (AN.2 hm)
  grind
 | succ fuel ih=>
  intro t listed hsz hcl hc hl;obtain ⟨i,x,t',hx,hif,hr,hgo,dZ,hcl',dO⟩:=y5b dQ fuel t listed hsz hcl hm (hl m (Aj _));have hil:i<ops.size:=(Ar.1 hx).1;have hc':(List.range ops.size).countP (fun q=> !(listed.setIfInBounds i true).getD q false)=fuel:=by have:=Ku (fun q=> !listed.getD q false) (fun q=> !(listed.setIfInBounds i true).getD q false) i ops.size (fun k hk=>by grind) (by grind) (by grind) hil;omega
  by_cases him:i<m
  ·obtain ⟨l,h2,h3⟩:=ih t' (listed.setIfInBounds i true) dZ hcl' hc' (fun q hq=>by grind)
   grind
  ·have e:i=m:=by
    by_cases h:m<i
    ·have:listed.getD m false=true:=hf i x (by omega) hx m h _ hcl hr
     grind
    ·omega
   subst e;have dD: ∀q,q<i→listed.getD q false=true:=fun q hq=>hf i x (Aj _) hx q hq _ hcl hr;refine ⟨[],?_,fun q hq=>by cases hq⟩;have hcount:fuel+1+i=ops.size:=by
    rw [←hc];have key: ∀n,i≤n→n≤ops.size→(List.range n).countP (fun q=> !listed.getD q false)+i=n:=by
     intro n
     induction n with
     | zero=>grind
     | succ n ihn=>
      intro h1 h2;rw [List.range_succ,List.countP_append];by_cases e:i≤n
      ·grind
      ·have hni:n+1=i:=(by omega);have h0:(List.range n).countP (fun q=> !listed.getD q false)=0:=List.countP_eq_zero.2 fun q hq=>by
        grind
       grind
    grind
   grind [y5a]
theorem z6z {b:Frame} {k:List Item} {cs:List Frame} {ops:Array Oper} {Q:Exit→Act→World→Prop} (hQ: ∀e a w,Q e a w→e=.normal) {m:Nat} (hm:m≤ops.size) (hnd:Kz ops=true)
  (hg: ∀i x g,i<m→ops[i]? =some x→x.guard=some g→g.1<m) {r:List Nat} (hr: ∀i∈r,m≤i): ∀(l:List Nat) (a:Act) (w:World),(∀i∈l,i<m)→wpOps P (Yo ops m) Q (l++r) a w→
   ∃a' w',Q .normal a' w'∧Steps P (lone (b.atR a (.inRegion ops (l++r)::k)) cs w) (lone (b.atR a' (.inRegion ops r::k)) cs w')
 | [],a,w,_,h=>by
  refine ⟨a,w,?_,Steps.refl _ _⟩;rw [Bd] at h;clear hg
  induction r with
  | nil=>exact h
  | cons i r ih=>
   refine ih (fun q hq=>hr q (by simp [hq])) ?_;simp only [wpOps] at h;rw [y9a hm (hr i (by simp))] at h;cases ho:ops[i]? with
   | none=>grind
   | some o=>
    rw [ho] at h;simp only [Option.map_some] at h;have hw:Region.wanted (stubOp o) (yielded (Yo ops m) a.tmps)=true:=rfl;rw [Av hw] at h;rcases h with h | ⟨_,a0,w0,h0⟩
    ·have h:wpOps P (Yo ops m) Q r (a.put none (a.eval (.const (.bool true)))) w:=h;exact h
    grind
 | i::l,a,w,hl,h=>by
  have him:=hl i (by simp);simp only [A8,wpOps] at h;rw [y1o hm him] at h;have hil:i<ops.size:=by omega
  obtain ⟨x,hx⟩: ∃x,ops[i]? =some x:=⟨ops[i],by simp [hil]⟩
  rw [hx] at h;simp only at h;have hy:Region.wanted x (yielded (Yo ops m) a.tmps)=Region.wanted x (yielded ops a.tmps):=by
   grind [Region.wanted,yielded,y1o]
  rw [hy] at h;have h':if Region.wanted x (yielded ops a.tmps) then x.wp P a w (wpOps P (Yo ops m) Q (l++r)) Q else wpOps P (Yo ops m) Q (l++r) (a.put x.dst undef) w:=by
   by_cases hw:Region.wanted x (yielded ops a.tmps)=true
   ·simp only [hw,if_true] at h ⊢;rcases h with h | ⟨_,a0,w0,h0⟩;all_goals grind
   grind
  obtain ⟨a1,w1,h1,s1⟩:=z8j (b:=b) (k:=k) (cs:=cs) (rest:=l++r) hQ hx (Uh hnd hx) h';obtain ⟨a',w',hR,hs⟩:=z6z hQ hm hnd hg hr l a1 w1 (fun q hq=>hl q (by simp [hq])) h1;exact ⟨a',w',hR,s1.trans hs⟩
theorem z6w {st:St} {ops:List Oper}: ∀(l:List Oper) (i:Nat) {m:Nat},z7w st ops l i=some m→i≤m∧m<i+l.length
 | [],i,m,h=>by cases h
 | o::l,i,m,h=>by
  unfold z7w at h;cases hy:x0t st ops o with
  | true=>grind
  | false=>
   rw [hy] at h;have:=z6w l (i+1) h
   grind
theorem y6b {ops:Array Oper} {st:St} {m:Nat} (h:x6g ops st=some m):m<ops.size∧Kz ops=true∧z5h 0 (Yo ops m)=true∧(∀j x,m≤j→(Yo ops m)[j]? =some x→ ∀i,i<j→z2u (Yo ops m) i x)∧
  ∀i x g,i<m→ops[i]? =some x→x.guard=some g→g.1<m:=by
 unfold x6g at h;split at h
 ·rename_i m' hd;obtain ⟨hc,h⟩:=Zv h;obtain rfl:=Ac h;have hlt:=(z6w _ _ hd).2;rw [AA,Array.length_toList] at hlt;simp only [x5g,Ad] at hc;obtain ⟨hnd,hdr,dD,hgd⟩:=hc;refine ⟨hlt,hnd,hdr,fun j x hj hx i hi=> ?_,fun i x g hi hx hgx=> ?_⟩
  ·have hjl:j<ops.size:=by grind [z9o]
   have:=Aw.1 dD j (AN.2 hjl);simp only [A3] at this;rcases this with h1 | h1
   ·have:=Ae h1;omega
   ·exact ((z0d hdr).bits j x hx i (Aw.1 h1 i (AN.2 hi))).2
  ·have h2:=Aw.1 hgd i (AN.2 hi);rw [hx] at h2;obtain ⟨dst,op,type,pos,after,guard⟩:=x;simp only at hgx;subst hgx;obtain ⟨j,want⟩:=g;exact Ae h2
 ·cases h
end
section
variable {P:Program} {ρ:Rho}
theorem Rel.setObj {mem:Mem} {next:Nat} {w:World} (h:Rel ρ mem next w) {b:Nat} {l:Loc} {ab:ABlk} {o':x5e} {r':List AVal} (hb:ρ b=some l) (hm:Ze mem b=some ab) (hob:ab.isObj=true) (cE:r'.length+1=ab.cells.length)
  (x:Obj) (hx:z1k ρ ab.ty l.blk r' o' (some x)):Rel ρ (Ya mem b (some ⟨.obj o'::r',ab.ty,none⟩)) next (w.putObj l.blk x):=by
 have hlt:=h.real b l hb;have hn:l=⟨l.blk,0,r'.length+1,r'.length+1⟩:=by
  have:=(h.blk b l ab hb hm)
  cases this with
  | plain k=>have:=k.noObj;rw [this] at hob;cases hob
  | obj o r ty e1 e2 _=>subst e1;rw [e2];simp only [Al] at cE;rw [cE]
 have iff: ∀c,(Ze (Ya mem b (some ⟨.obj o'::r',ab.ty,none⟩)) c).isSome =(Ze mem c).isSome :=fun c=>by
  rw [Xv];split
  ·rename_i e;rw [e,hm];rfl
  ·rfl
 refine ⟨h.dom,fun c c' m m' e e' he hs hs'=>h.inj c c' m m' e e' he (by rw [←iff];exact hs) (by rw [←iff];exact hs'),fun c m ac e hc=> ?_,fun k o e=> ?_,fun c m e hs=>h.sep c m e (by rw [←iff];exact hs),fun c m e=>by rw [World.putObj_size];exact h.real c m e,fun c hc=> ?_,h.ldom⟩
 ·by_cases hcb:c=b
  ·subst hcb;rw [Zq] at hc;obtain rfl:=Ac hc;rw [hb] at e;obtain rfl:=Ac e;exact .obj o' r' ab.ty rfl hn (by rw [World.putObj_heap_same hlt];exact hx)
  ·rw [Zy _ _ hcb] at hc;refine (h.blk c m ac e hc).world (Rho.le_refl _) (World.putObj_heap_other fun heq=>hcb ?_);exact h.inj c b m l e hb heq (by rw [hc];rfl) (by rw [hm];rfl)
 ·rw [World.putObj_heap_other]
  ·exact h.old k o e
  ·intro heq;have:=h.sep b l hb (by rw [hm];rfl);rw [←heq,e] at this;cases this
 ·have:=h.dom b l hb;rw [Zy _ _ (by omega)];exact h.bd c hc
theorem Ev.ofObj {mem:Mem} {next:Nat} {w:World} (h:Rel ρ mem next w) {floor b:Nat} {l:Loc} (hb:ρ b=some l) (hf:floor≤b) (o:Option ABlk) (x:Obj):
  Ev ρ ρ floor mem next (Ya mem b o) next w (w.putObj l.blk x) where
 ext:=Rho.le_refl _
 new _ _:=rfl
 nxt:=Aj _
 unborn k _ e cs ty hm:=by
  rw [Zy]
  ·exact hm
  ·intro e';rw [e',hb] at e;cases e
 frame k o hk hfr:=by rw [World.putObj_heap_other fun e=>hfr b l hb hf e.symm];exact hk
 fresh k m hk e:=by have:=h.dom k m e;omega
 size:=by rw [World.putObj_size];exact Aj _
 os:=rfl
 tape:=rfl
 output:=rfl
 still _ _:=rfl
theorem Rel.newObj {mem:Mem} {next:Nat} {w:World} (h:Rel ρ mem next w) (o:x5e) (r:List AVal) (ty:TypeId) (x:Obj) (hx:z1k ρ ty w.heap.size r o (some x)):
  Rel (Xq ρ next ⟨w.heap.size,0,r.length+1,r.length+1⟩) (Ya mem next (some ⟨.obj o::r,ty,none⟩)) (next+1) (w.alloc x):=by
 have hle:=Vf (l:=⟨w.heap.size,0,r.length+1,r.length+1⟩) h.none_next;have cJ: ∀b l,Xq ρ next ⟨w.heap.size,0,r.length+1,r.length+1⟩ b=some l→(b=next∧l=⟨w.heap.size,0,r.length+1,r.length+1⟩)∨(b≠next∧ρ b=some l):=fun b l e=>by
  grind [Xa]
 have hold: ∀k,k<w.heap.size→(w.alloc x).heap[k]? =w.heap[k]? :=fun k hk=>by show (w.heap.push x)[k]? =_;rw [Bm,As (AO hk)]
 have hnew:(w.alloc x).heap[w.heap.size]? =some x:=World.alloc_heap_new w x;have hsize:(w.alloc x).heap.size =w.heap.size+1:=Array.size_push _;refine ⟨fun b l e=> ?_,fun b b' l l' e e' hbl hs hs'=> ?_,fun b l ab e hm=> ?_,fun k o e=> ?_,fun b l e hs=> ?_,fun b l e=> ?_,fun b hb=>by rw [Zy _ _ (by omega)];exact h.bd b (by omega),⟨fun j l e=>AQ (h.ldom.1 j l e),h.ldom.2⟩⟩
 ·rcases cJ b l e with ⟨rfl,_⟩ | ⟨_,e⟩
  ·omega
  ·have:=h.dom b l e;omega
 ·rcases cJ b l e with ⟨hb,hl⟩ | ⟨hb,e2⟩ <;> rcases cJ b' l' e' with ⟨hb',hl'⟩ | ⟨hb',e2'⟩
  ·rw [hb,hb']
  ·have:=h.real b' l' e2';grind
  ·have:=h.real b l e2;grind
  ·rw [Zy _ _ hb] at hs;rw [Zy _ _ hb'] at hs';exact h.inj b b' l l' e2 e2' hbl hs hs'
 ·rcases cJ b l e with ⟨rfl,rfl⟩ | ⟨hb,e⟩
  ·rw [Zq] at hm;obtain rfl:=Ac hm;exact .obj o r ty rfl rfl (by rw [hnew];exact hx.mono hle)
  ·rw [Zy _ _ hb] at hm;exact (h.blk b l ab e hm).world hle (hold _ (h.real b l e))
 ·have hk:=h.old k o e;have hlt:=(Ar.1 hk).1;rw [hold k hlt];exact hk
 ·rcases cJ b l e with ⟨rfl,rfl⟩ | ⟨hb,e⟩
  ·exact h.hold _ (Aj _)
  ·rw [Zy _ _ hb] at hs;exact h.sep b l e hs
 ·rw [hsize];rcases cJ b l e with ⟨rfl,rfl⟩ | ⟨_,e⟩
  ·show w.heap.size<_;omega
  ·have:=h.real b l e;omega
theorem Qt {st:St} {w:World} (h:Rel ρ st.mem st.next w) (floor:Nat) (o:x5e) (r:List AVal) (ty:TypeId) (x:Obj) (hx:z1k ρ ty w.heap.size r o (some x)) {v:AVal} {u:Value}
  (cR: ∀ρ',ρ' st.next=some ⟨w.heap.size,0,r.length+1,r.length+1⟩→Zj ρ' v u):
  z6v ρ floor st (z0h st (.obj o::r) ty) v w (Xq ρ st.next ⟨w.heap.size,0,r.length+1,r.length+1⟩) u (w.alloc x):=
 ⟨cR _ (by simp [Xq]),h.newObj o r ty x hx,Ev.ofNew h floor _ _ _ (Aj _)⟩
theorem z8a {w:World} {k:Nat} {c cs:Array Value} {el:TypeId} {fz:Nat×Nat} (h:w.heap[k]? =some (.cells c el fz)):w.setRow k cs=w.putObj k (.cells cs el fz):=by
 unfold World.setRow World.putObj
 congr 1
 apply Array.ext_getElem?;intro i;rw [Array.getElem?_modify,Array.getElem?_setIfInBounds];have hlt:=(Ar.1 h).1;by_cases e:k=i
 ·subst e;rw [Av rfl,Av rfl,h];simp [hlt]
 ·simp [e]
theorem y5i {w:World} {k:Nat} {s:ByteArray} {p:Nat} (h:w.heap[k]? =some (.stringIter s p)):(getObj k).run P w=.ok (.stringIter s p) w:=by simp [getObj,Sem.run,h]
theorem x2k {w:World} {k:Nat} {s:ByteArray} {p:Nat} {o':Obj} (h:w.heap[k]? =some (.stringIter s p)):(setObj k o').run P w=.ok () (w.putObj k o'):=by simp [setObj,Sem.run,h,World.putObj]
theorem x1i {w:World} {t:TypeId} {m:Array (String×TypeId)} (h:P.underlying t=some (.interface m)) (v:Value) (hv:v=.nilIface ∨ ∃d z,v=.iface d z):(Op.equal t v .nilIface).run P w=.ok (match v with | .nilIface =>true | _=>false) w:=by
 have key: ∀d,(Op.equalIn (d+1) t v .nilIface).run P w=.ok (match v with | .nilIface =>true | _=>false) w:=fun d=>by rcases hv with rfl | ⟨d,z,rfl⟩ <;> simp [Op.equalIn,run_underlying h]
 exact key 9999
theorem Rel.objAt {mem:Mem} {next:Nat} {w:World} (h:Rel ρ mem next w) {b:Nat} {l:Loc} {o:x5e} {r:List AVal} {ty:TypeId} (hb:ρ b=some l) (hm:Ze mem b=some ⟨.obj o::r,ty,none⟩):z1k ρ ty l.blk r o w.heap[l.blk]? :=by
 have:=h.blk b l _ hb hm;cases this with
 | plain k=>have:=k.noObj;cases this
 | obj o' r' ty' e1 e2 h3=>simp only [ABlk.mk.injEq,Be,AVal.obj.injEq] at e1;obtain ⟨⟨rfl,rfl⟩,rfl,_⟩:=e1;exact h3
theorem Rel.objBase {mem:Mem} {next:Nat} {w:World} (h:Rel ρ mem next w) {b:Nat} {l:Loc} {o:x5e} {r:List AVal} {ty:TypeId} (hb:ρ b=some l) (hm:Ze mem b=some ⟨.obj o::r,ty,none⟩):l.base=0:=by
 have:=h.blk b l _ hb hm;cases this with
 | plain k=>have:=k.noObj;cases this
 | obj o' r' ty' e1 e2 h3=>rw [e2]
def y5y {α:Type} (vf:α→Value) (es:List MapEntry) (l:List (List UInt8×α)):Prop:=es.map (fun e=>(e.key,e.val))=l.map fun p=>(.string ⟨p.1.toArray⟩,vf p.2)
def x1b {α:Type} (vf:α→Value) (k:List UInt8):List (List UInt8×α)→Nat→Option (Nat×Value)
 | [],_=>none
 | p::r,i=>bif k == p.1 then some (i,vf p.2) else x1b vf k r (i+1)
theorem bytes_beq (a b:List UInt8):((⟨a.toArray⟩:ByteArray) == ⟨b.toArray⟩)=(a == b):=by rw [AV,MapKept.bytes_beq,Ba];simp
theorem z0c {α:Type} (vf:α→Value) (k:List UInt8): ∀(es:List MapEntry) (l:List (List UInt8×α)) (i:Nat),y5y vf es l→Instr.findNow .string (.string ⟨k.toArray⟩) es i=some (x1b vf k l i)
 | [],[],_,_=>rfl
 | [],_::_,_,h=>by cases h
 | _::_,[],_,h=>by cases h
 | e::es,p::l,i,h=>by
  unfold y5y at h;simp only [AX,Be,Aa] at h;obtain ⟨⟨h1,h2⟩,h3⟩:=h;have ih:=z0c vf k es l (i+1) h3;unfold Instr.findNow x1b;rw [h1];simp only [Instr.sameNow,bytes_beq];cases hk:(k == p.1) with
  | true=>rw [Ap,h2]
  | false=>rw [Ai];exact ih
theorem y5m {α:Type} (vf:α→Value) (d:α) (k:List UInt8): ∀(l:List (List UInt8×α)) (i:Nat),match x1b vf k l i with
  | some (_,v)=>v=vf (x2g d l k)∧x7m l k=true
  | none=>x2g d l k=d∧x7m l k=false
 | [],_=>⟨rfl,rfl⟩
 | p::l,i=>by
  have ih:=y5m vf d k l (i+1);unfold x1b x2g x7m;cases hk:(k == p.1) with
  | true=>simp [hk]
  | false=>simpa [hk,x7m] using ih
theorem y5l {α:Type} (vf:α→Value) (k:List UInt8) (v:α) (c:Nat): ∀(l:List (List UInt8×α)) (es:List MapEntry) (i:Nat),y5y vf es l→match x1b vf k l i with
  | some (j,_)=>i≤j∧(∃e,es[j - i]? =some e∧e.key=.string ⟨k.toArray⟩)∧y5y vf (es.modify (j - i) fun e=>{e with key:=.string ⟨k.toArray⟩,val:=vf v}) (x5h l k v)
  | none=>y5y vf (es++[⟨.string ⟨k.toArray⟩,vf v,c⟩]) (x5h l k v)
 | [],es,i,h=>by
  have:es=[]:=by unfold y5y at h;simpa using h
  subst this;simp [x1b,x5h,y5y]
 | p::l,[],i,h=>by cases h
 | p::l,e::es,i,h=>by
  unfold y5y at h;simp only [AX,Be,Aa] at h;obtain ⟨⟨h1,h2⟩,h3⟩:=h;have ih:=y5l vf k v c l es (i+1) h3;unfold x1b x5h;cases hk:(k == p.1) with
  | true=>
   have hk':k=p.1:=by simpa using hk
   simp only [Ap,Nat.sub_self];refine ⟨Aj _,⟨e,rfl,by rw [h1,hk']⟩,?_⟩;unfold y5y;simp only [List.modify_zero_cons,AX,Be,Aa];exact ⟨⟨by rw [hk'],trivial⟩,h3⟩
  | false=>
   simp only [Ai];cases hf:x1b vf k l (i+1) with
   | none=>rw [hf] at ih;unfold y5y at ih ⊢;simp only [A8,AX,Be,Aa];exact ⟨⟨h1,h2⟩,ih⟩
   | some q=>rw [hf] at ih;obtain ⟨j,x⟩:=q;simp only at ih ⊢;obtain ⟨k1,⟨e',k2,k3⟩,k4⟩:=ih;have hj:j - i=(j - (i+1))+1:=(by omega);refine ⟨by omega,⟨e',by rw [hj];exact k2,k3⟩,?_⟩;rw [hj];unfold y5y at k4 ⊢;simp only [List.modify_succ_cons,AX,Be,Aa];exact ⟨⟨h1,h2⟩,k4⟩
theorem Qc {α:Type} (vf:α→Value) (d:α) {w:World} {t kt et:TypeId} {r clock:Nat} {es:Array MapEntry} {l:List (List UInt8×α)} (hm:P.underlying t=some (.map kt et)) (hk:P.underlying kt=some .string)
  (hz:(zeroValue et).run P w=.ok (vf d) w) (hb:w.heap[r]? =some (.map es clock)) (hes:y5y vf es.toList l) (k:List UInt8) (co:Bool):
  (Instr.lookup t (.map (some r)) (.string ⟨k.toArray⟩) co).run P w=.ok (if co then .tuple #[vf (x2g d l k),.bool (x7m l k)] else vf (x2g d l k)) w:=by
 have hf:=z0c vf k es.toList l 0 hes;have hc: ∀b,(Instr.checkKey b 10000 kt (.string ⟨k.toArray⟩)).run P w=.ok () w:=fun b=>MapKept.run_checkKey (k:=.string ⟨k.toArray⟩) hk (by simp [MapKept.IsKey]) b 9999;have hg:=y5m vf d k l 0;cases hfk:x1b vf k l 0 with
 | none=>rw [hfk] at hf hg;simp only at hg;rw [hg.1,hg.2];simp [Instr.lookup,run_underlying hm,MapKept.run_getObj_map hb,hc,MapKept.run_findKey hk hf,hz,Result.andThen]
 | some q=>obtain ⟨j,v⟩:=q;rw [hfk] at hf hg;simp only at hg;rw [←hg.1,hg.2];simp [Instr.lookup,run_underlying hm,MapKept.run_getObj_map hb,hc,MapKept.run_findKey hk hf,Result.andThen]
theorem Qb {α:Type} (vf:α→Value) {w:World} {t kt et:TypeId} {r clock:Nat} {es:Array MapEntry} {l:List (List UInt8×α)} (hm:P.underlying t=some (.map kt et)) (hk:P.underlying kt=some .string)
  (hb:w.heap[r]? =some (.map es clock)) (hes:y5y vf es.toList l) (k:List UInt8) (v:α):
  ∃es' clock',(Instr.mapUpdate t (.map (some r)) (.string ⟨k.toArray⟩) (vf v)).run P w=.ok () (w.putObj r (.map es' clock'))∧y5y vf es'.toList (x5h l k v):=by
 have hf:=z0c vf k es.toList l 0 hes;have hc: ∀b,(Instr.checkKey b 10000 kt (.string ⟨k.toArray⟩)).run P w=.ok () w:=fun b=>MapKept.run_checkKey (k:=.string ⟨k.toArray⟩) hk (by simp [MapKept.IsKey]) b 9999;have hg:=y5l vf k v clock l es.toList 0 hes;cases hfk:x1b vf k l 0 with
 | none=>rw [hfk] at hf hg;simp only at hg;refine ⟨es.push ⟨.string ⟨k.toArray⟩,vf v,clock⟩,clock+1,?_,by simpa using hg⟩;simp [Instr.mapUpdate,run_underlying hm,MapKept.run_getObj_map hb,hc,MapKept.run_findKey hk hf,MapKept.run_setObj_map _ hb,Result.andThen,World.putObj]
 | some q=>
  obtain ⟨j,x⟩:=q;rw [hfk] at hf hg;simp only [Nat.sub_zero] at hg;obtain ⟨_,⟨e,h1,h2⟩,h3⟩:=hg;have h1':es[j]? =some e:=by simpa using h1
  refine ⟨es.modify j fun e=>{e with key:=.string ⟨k.toArray⟩,val:=vf v},clock,?_,by simpa using h3⟩;have hs: ∀w:World,(Instr.keyThatStays (.string ⟨k.toArray⟩) (.string ⟨k.toArray⟩)).run P w=.ok (.string ⟨k.toArray⟩) w:=fun w=>by simp [Instr.keyThatStays,Instr.sameBits,(MapKept.bytes_beq (⟨k.toArray⟩:ByteArray) ⟨k.toArray⟩).2 rfl]
  simp [Instr.mapUpdate,run_underlying hm,MapKept.run_getObj_map hb,hc,MapKept.run_findKey hk hf,MapKept.run_setObj_map _ hb,Result.andThen,World.putObj,h1',h2,hs]
theorem z7q {v:AVal} {u:Value} (h:z4z v=true) (hr:Zj ρ v u):u=.int .u8 ((z5q v).toNat :Int):=by
 unfold z4z at h;split at h
 ·rename_i n;have h:=Ax h;cases hr;simp only [z5q]
  congr 1
  have:(UInt8.ofNat n.toNat).toNat =n.toNat:=by rw [UInt8.toNat_ofNat'];omega
  rw [this];omega
 ·cases h
def x2d (w:World) (el:TypeId) (g o:Nat) (s:List UInt8):Prop:= ∃cs,w.heap[g]? =some (.cells cs el (0,0))∧(s≠ []→o+s.length≤cs.size)∧ ∀j x,s[j]? =some x→cs[o+j]? =some (.int .u8 x.toNat)
theorem Kt {mem:Mem} {next:Nat} {w:World} (cD:Rel ρ mem next w) {v:AVal} {u:Value} {s:List UInt8} (h:y1d mem v=some (s,true)) (hv:Zj ρ v u):
  (u=.slice none 0 0∧s=[])∨ ∃b l g o c el,refB v=some b∧ρ b=some l∧(Ze mem b).isSome =true∧l.blk=g∧u=.slice (some ⟨g,o,none⟩) s.length c∧s.length≤c∧(∀ab,Ze mem b=some ab→el=ab.ty)∧x2d w el g o s:=by
 unfold y1d at h;split at h
 ·simp only [Ab,Aa] at h;obtain ⟨rfl,_⟩:=h;cases hv;exact .inl ⟨rfl,rfl⟩
 ·rename_i b off len cap;split at h
  ·rename_i blk hm;obtain ⟨hno,h⟩:=z7r h;split at h
   ·rename_i cs hc;simp only [Ab,Aa] at h;obtain ⟨rfl,dD⟩:=h;obtain ⟨k1,k2,k3⟩:=Kv hc;cases hv with
    | sl _ _ _ _ l c hl _ cE=>
     obtain ⟨hty,hn,ht,_,cur,el,h1,h2,h3⟩:=(cD.blk b l blk hl hm).at hno;refine .inr ⟨b,l,l.blk,l.base+off,c,el,rfl,hl,by rw [hm];rfl,rfl,by simp [k2],by simpa [k2] using cE,fun ab e=>by rw [hm] at e;rw [←Ac e];exact hty _ _ _ h1,cur,h1,?_,fun j x hx=> ?_⟩
     ·intro hne;have:len≠0:=fun e=>hne (by rw [List.map_eq_nil_iff];exact List.eq_nil_of_length_eq_zero (by rw [k2,e]));simp only [List.length_map,k2];omega
     ·simp only [List.getElem?_map,Ag] at hx;obtain ⟨y,hy,rfl⟩:=hx;have hj:j<cs.length:=(AL.1 hy).1;obtain ⟨z,q1,q2⟩:=h3 (off+j) (by omega);have hyz:blk.cells[off+j]'(by omega)=y:=by
       have:cs[j]? =blk.cells[off+j]? :=by rw [k1,List.getElem?_take,Av (by omega),List.getElem?_drop]
       rw [this,An (by omega)] at hy;exact Ac hy
      rw [hyz] at q2;have hby:=Aw.1 dD y (List.mem_of_getElem? hy);rw [AI,q1,z7q hby q2]
   ·cases h
  ·cases h
 ·rename_i b sz off len cap;split at h
  ·rename_i blk hm;split at h
   ·rename_i A hA;simp only [Ab,Aa,Ad,Aq] at h;obtain ⟨rfl,hs1,hs2,cM,hok⟩:=h;obtain rfl:=Af hs1;have hsz:=Af hs2;have hok: ∀k,k<len→ ∃v,A.get (off+k)=[v]∧z4z v=true:= @Ax _ (Classical.propDecidable _) hok;have hlen0:(z2w len fun k=>A.get (off+k)).length =len:=(by simp [z2w]);cases hv with
    | slan=>exact .inl ⟨rfl,by simp [z2w]⟩
    | sla _ _ _ _ _ l c hl _ cE=>
     obtain ⟨hty,hn,ht,har,cur,el,h1,h2,h3⟩:=(cD.blk b l blk hl hm).rows hA;obtain ⟨a1,a2,a3⟩:=har A hA;have hrl:=Zb A.n a3;rw [←a1,hsz,Nat.mul_one] at hrl;refine .inr ⟨b,l,l.blk,l.base+off*1,c,el,rfl,hl,by rw [hm];rfl,rfl,by rw [hlen0],by rw [hlen0];exact cE,fun ab e=>by rw [hm] at e;rw [←Ac e];exact hty _ _ _ h1,cur,h1,?_,fun j x hx=> ?_⟩
     ·intro _;rw [hlen0];omega
     ·have hj:j<len:=by rw [←hlen0];exact (AL.1 hx).1
      obtain ⟨v0,e1,e2⟩:=hok j hj;obtain ⟨z,q1,q2⟩:=h3 (off+j) (by omega);have hg:blk.cells[off+j]? =some v0:=by
       have:=Xk A.n a3 (off+j) 0 (by omega) (by omega);rw [hsz] at this;rw [a1]
       simpa [e1] using this
      have hyz:blk.cells[off+j]'(by omega)=v0:=by rw [An (by omega)] at hg;exact Ac hg
      rw [hyz] at q2;have hx':x=z5q v0:=by simp only [z2w,List.getElem?_map,List.getElem?_range hj,Option.map_some,Ab] at hx;rw [←hx,e1];rfl
      rw [Nat.mul_one,AI,q1,z7q e2 q2,hx']
   ·cases h
  ·cases h
 ·cases h
theorem y9k {w:World} {g o c:Nat} {el:TypeId} {s:List UInt8} (h:x2d w el g o s):(Conv.bytesToString (.slice (some ⟨g,o,none⟩) s.length c)).run P w=.ok (.string ⟨s.toArray⟩) w:=by
 obtain ⟨cs,h1,h2,h3⟩:=h;have hl:(loadCells ⟨g,o,none⟩ s.length).run P w=.ok ((s.map fun x=>(x.toNat:Int)).map (Value.int .u8)).toArray w:=by
  have:=run_loadCells_list (P:=P) w ⟨g,o,none⟩ ((s.map fun x=>(x.toNat:Int)).map (Value.int .u8)) fun j v hv=>by simp only [List.map_map,List.getElem?_map,Ag] at hv;obtain ⟨x,hx,rfl⟩:=hv;rw [Yj];have:=h3 j x hx;simp [World.cell?,h1,this]
  simpa using this
 rw [run_bytesToString w ⟨g,o,none⟩ s.length c _ hl]
 congr 2
 have: ∀(l:List UInt8) (acc:ByteArray),(l.map fun x=>(x.toNat:Int)).foldl (fun r n=>r.push (UInt8.ofNat n.toNat)) acc=⟨acc.data++l.toArray⟩:=by
  intro l
  induction l with
  | nil=>intro acc;simp
  | cons x l ih=>intro acc;simp only [AX,List.foldl_cons,ih];simp [ByteArray.push]
 rw [this];simp
theorem y1l :Zj ρ (.tup []) undef:=.tup [] #[] rfl fun j h1 _=>by simp at h1
theorem z5v {floor:Nat} {st st':St} {t:TypeId} {x k v:AVal} (h:z2f P floor st t x k v=some st'):Yw floor st st'∧st'.env=st.env:=by
 unfold z2f at h;split at h
 ·obtain ⟨hf,h⟩:=Zv h;have hf:=Ae hf;split at h
  ·rename_i hm _;obtain rfl:=Ac h;exact ⟨Yw.write st _ hf hm,rfl⟩
  ·rename_i hm _;obtain rfl:=Ac h;exact ⟨Yw.write st _ hf hm,rfl⟩
  ·cases h
 ·cases h
theorem Ui {t:TypeId} {kd:Bool} (h:z4q P t=some kd): ∃k e,P.underlying t=some (.map k e)∧P.underlying k=some .string ∧ ∀w,(zeroValue e).run P w=.ok (bif kd then .int .i64 0 else .bool false) w:=by
 unfold z4q at h;split at h
 ·rename_i k e hu;refine ⟨k,e,hu,?_⟩;split at h
  ·rename_i i h1 h2 h3;split at h
   ·rename_i n hz;obtain ⟨hn,h⟩:=Zv h;obtain rfl:=Ac h;obtain rfl:n=0:=by simpa using hn
    exact ⟨h1,fun w=>by simp [zeroValue,run_typeInfo w h3,hz]⟩
   ·cases h
  ·rename_i i h1 h2 h3;split at h
   ·rename_i b hz;cases b with
    | true=>cases h
    | false=>obtain rfl:=Ac h;exact ⟨h1,fun w=>by simp [zeroValue,run_typeInfo w h3,hz]⟩
   ·cases h
  ·cases h
 ·cases h
theorem z1i {floor:Nat} {st st':St} {t:TypeId} {x k v:AVal} (h:z2f P floor st t x k v=some st') {w:World} (cD:Rel ρ st.mem st.next w) {ux uk uv:Value} (hx:Zj ρ x ux) (hk:Zj ρ k uk) (hv:Zj ρ v uv):
  ∃w',(Instr.mapUpdate t ux uk uv).run P w=.ok () w'∧z6v ρ floor st st' (.tup []) w ρ undef w':=by
 unfold z2f at h;split at h
 ·rename_i b ks;obtain ⟨hf,h⟩:=Zv h;have hf:=Ae hf;cases hx with
  | mapr _ l hl=>
  cases hk;split at h
  ·rename_i ml ty n hkd hm _;obtain rfl:=Ac h;cases hv;obtain ⟨kt,et,hu,hk,_⟩:=Ui hkd;obtain ⟨_,es,ck,ho,hes⟩:=cD.objAt hl hm;obtain ⟨es',ck',cF,hes'⟩:=Qb (P:=P) (fun n:Int=>.int .i64 n) hu hk ho hes ks n;exact ⟨_,cF,y1l,cD.setObj hl hm rfl rfl _ ⟨rfl,es',ck',rfl,hes'⟩,Ev.ofObj cD hl hf _ _⟩
  ·rename_i ml ty e hkd hm _;obtain rfl:=Ac h;cases hv;obtain ⟨kt,et,hu,hk,_⟩:=Ui hkd;obtain ⟨_,es,ck,ho,hes⟩:=cD.objAt hl hm;obtain ⟨es',ck',cF,hes'⟩:=Qb (P:=P) (fun n:Bool=>.bool n) hu hk ho hes ks e;exact ⟨_,cF,y1l,cD.setObj hl hm rfl rfl _ ⟨rfl,es',ck',rfl,hes'⟩,Ev.ofObj cD hl hf _ _⟩
  ·cases h
 ·cases h
theorem Yw.kill {floor:Nat} (st:St) {c:Nat} (hf:floor≤c):Yw floor st (st.withMem (Ya st.mem c none)) where
 nxt:=Aj _
 bd h k hk:=by
  show Ze (Ya st.mem c none) k=none;rw [Xv];split
  ·rfl
  ·exact h k hk
 low _ k hk:=Zy _ _ (by omega)
 ob h:=h
theorem aX_inv {floor:Nat} {st st':St} {op:Op} {v:AVal} {b:Bool} (h:aX P floor st op=some (v,b,st')):Yw floor st st'∧st'.env=st.env:=by
 have same: ∀{v0:AVal} {b0:Bool},some (v0,b0,st)=some (v,b,st')→Yw floor st st'∧st'.env=st.env:=fun e=>by simp only [Ab,Aa] at e;obtain ⟨_,_,rfl⟩:=e;exact ⟨Yw.refl _ _,rfl⟩
 have fresh: ∀{v0:AVal} {b0:Bool} {cs:List AVal} {ty:TypeId},some (v0,b0,z0h st cs ty)=some (v,b,st')→Yw floor st st'∧st'.env=st.env:=fun e=>by simp only [Ab,Aa] at e;obtain ⟨_,_,rfl⟩:=e;exact ⟨Yw.new st _ _,rfl⟩
 unfold aX at h;split at h
 ·split at h
  ·exact fresh h
  ·cases h
 ·split at h
  ·split at h
   ·exact same h
   ·exact same h
   ·cases h
  ·cases h
 ·simp only [Ag,Aa] at h;obtain ⟨st1,h1,_,_,rfl⟩:=h;exact z5v h1
 ·simp only [Ag,Aa] at h;obtain ⟨st1,h1,_,_,rfl⟩:=h;exact z5v h1
 ·split at h
  ·exact fresh h
  ·cases h
 ·split at h
  ·obtain ⟨hf,h⟩:=Zv h;split at h
   ·rename_i c s pos ty hm;split at h;rename_i e st1 ht;obtain ⟨t1,t2,t3,t4⟩:=Kg ht;simp only [Ab,Aa] at h;obtain ⟨_,_,rfl⟩:=h;have hi:=Yw.same (floor:=floor) t2 t3 fun ho=>(t4 ho).2;cases e with
    | false=>exact ⟨hi,t1⟩
    | true=>exact ⟨hi.trans (Yw.write st1 _ (Ae hf) (by rw [t2];exact hm)),t1⟩
   ·cases h
  ·cases h
 ·obtain ⟨_,h⟩:=Zv h;split at h
  ·split at h
   ·exact fresh h
   ·cases h
  ·cases h
 ·split at h
  ·split at h
   ·exact same h
   ·cases h
  ·cases h
 ·split at h
  ·obtain ⟨hf,h⟩:=Zv h;simp only [Ad] at hf;split at h
   ·rename_i hm _;obtain ⟨_,h⟩:=Zv h;simp only [Ab,Aa] at h;obtain ⟨_,_,rfl⟩:=h;exact ⟨Yw.write st _ (Ae hf.1) hm,rfl⟩
   ·cases h
  ·cases h
 ·split at h
  ·split at h
   ·split at h
    ·exact same h
    ·cases h
   ·cases h
  ·cases h
 ·split at h
  ·split at h
   ·exact same h
   ·exact same h
   ·cases h
  ·cases h
 ·split at h
  ·obtain ⟨_,h⟩:=Zv h;split at h
   ·obtain ⟨_,h⟩:=Zv h;split at h
    ·split at h
     ·exact same h
     ·rename_i c _;obtain ⟨hc,h⟩:=Zv h;simp only [Ad] at hc;simp only [Ab,Aa] at h;obtain ⟨_,_,rfl⟩:=h;have hc1:=Ae hc.1;cases hmc:Ze st.mem c with
      | some ab=>exact ⟨Yw.write st _ hc1 hmc,rfl⟩
      | none=>exact ⟨Yw.kill st hc1,rfl⟩
    ·cases h
   ·cases h
  ·cases h
 ·cases h
theorem Rel.kept {mem:Mem} {next:Nat} {w w':World} (h:Rel ρ mem next w) (hs:w.heap.size≤w'.heap.size) {p:Nat→Prop} (hp: ∀b l,ρ b=some l→(Ze mem b).isSome =true→p l.blk) (hz: ∀k o,ρ.fz k=some o→p k)
  (hk: ∀k o,w.heap[k]? =some o→p k→w'.heap[k]? =some o):Rel ρ mem next w':=
 ⟨h.dom,h.inj,fun b l ab e hm=>by
  have q:=h.blk b l ab e hm;obtain ⟨o,ho⟩:=q.some;exact q.world (Rho.le_refl _) (by rw [ho];exact hk _ _ ho (hp b l e (by rw [hm];rfl))),fun k o e=>hk k o (h.old k o e) (hz k o e),h.sep,fun b l e=>AG (h.real b l e) hs,h.bd,h.ldom⟩
theorem x4z (hN:Qa P) {o:Oper} {floor:Nat} {st st':St} {v:AVal} (h:aX P floor st o.op=some (v,true,st')) (hob:st'.ob=true) {a:Act} (hr:Vk ρ st.eval a.eval o.op) {w:World} (cD:Rel ρ st.mem st.next w):
  x9a P o a w (z6v ρ floor st st' v w):=by
 obtain ⟨dst,op,type,pos,after,guard⟩:=o;simp only at h hr;unfold aX at h;split at h
 ·-- makeMap
  rename_i t;split at h
  ·rename_i kd hkd;simp only [Ab,Aa] at h;obtain ⟨rfl,_,rfl⟩:=h;refine .inl ⟨_,.map (some w.heap.size),_,?_,Qt cD floor _ [] t (.map #[] 0) ?_ fun ρ' hρ'=>.mapr _ _ hρ'⟩
   ·have hmk:(Instr.makeMap t none).run P w=.ok (.map (some w.heap.size)) (w.alloc (.map #[] 0)):=rfl;simp [execOp,hmk]
   ·cases kd
    ·exact ⟨rfl,_,_,rfl,rfl⟩
    ·exact ⟨rfl,_,_,rfl,rfl⟩
  ·cases h
 ·-- lookup
  rename_i t x i co;have hx:=hr x (by simp [Op.operands]);have hi:=hr i (by simp [Op.operands]);split at h
  ·rename_i b ks ex ei;rw [ex] at hx;rw [ei] at hi;generalize hux:a.eval x=ux at hx;generalize hui:a.eval i=ui at hi;cases hx with
   | mapr _ l hl=>
   cases hi;split at h
   ·rename_i ml ty hkd hm;obtain ⟨kt,et,hu,hk,hz⟩:=Ui hkd;simp only [Ab,Aa] at h;obtain ⟨rfl,_,rfl⟩:=h;obtain ⟨_,es,ck,ho,hes⟩:=cD.objAt hl hm;have cF:=Qc (P:=P) (fun n:Int=>.int .i64 n) 0 hu hk (hz w) ho hes ks co;refine .inl ⟨ρ,_,w,by simp only [execOp,hux,hui];simp only [Sem.run_bind,cF,Result.andThen];rfl,?_,cD,Ev.refl _ _ _ _ _ cD.dom⟩;cases co
    ·exact .int _ _
    ·exact .tup _ _ rfl fun j h1 h2=>by
      match j with
      | 0=>exact .int _ _
      | 1=>exact .bool _
      | j+2=>simp at h1;omega
   ·rename_i ml ty hkd hm;obtain ⟨kt,et,hu,hk,hz⟩:=Ui hkd;simp only [Ab,Aa] at h;obtain ⟨rfl,_,rfl⟩:=h;obtain ⟨_,es,ck,ho,hes⟩:=cD.objAt hl hm;have cF:=Qc (P:=P) (fun n:Bool=>.bool n) false hu hk (hz w) ho hes ks co;refine .inl ⟨ρ,_,w,by simp only [execOp,hux,hui];simp only [Sem.run_bind,cF,Result.andThen];rfl,?_,cD,Ev.refl _ _ _ _ _ cD.dom⟩;cases co
    ·exact .bool _
    ·exact .tup _ _ rfl fun j h1 h2=>by
      match j with
      | 0=>exact .bool _
      | 1=>exact .bool _
      | j+2=>simp at h1;omega
   ·cases h
  ·cases h
 ·-- mapUpdate
  rename_i t m k x;simp only [Ag,Aa] at h;obtain ⟨st1,h1,rfl,_,rfl⟩:=h;obtain ⟨w',cF,hp⟩:=z1i h1 cD (hr m (by simp [Op.operands])) (hr k (by simp [Op.operands])) (hr x (by simp [Op.operands]));exact .inr (.inl ⟨ρ,w',by simp [execOp,cF],hp⟩)
 ·-- insert
  rename_i t m k x;simp only [Ag,Aa] at h;obtain ⟨st1,h1,rfl,_,rfl⟩:=h;obtain ⟨w',cF,hp⟩:=z1i h1 cD (hr m (by simp [Op.operands])) (hr k (by simp [Op.operands])) (hr x (by simp [Op.operands]));exact .inr (.inl ⟨ρ,w',by simp [execOp,cF],hp⟩)
 ·-- range
  rename_i t x;have hx:=hr x (by simp [Op.operands]);split at h
  ·rename_i s hu ex;rw [ex] at hx;generalize hux:a.eval x=ux at hx;cases hx;simp only [Ab,Aa] at h;obtain ⟨rfl,_,rfl⟩:=h;refine .inl ⟨_,.pointer (some ⟨w.heap.size,0,none⟩),_,?_,Qt cD floor (.it s 0) [] t (.stringIter ⟨s.toArray⟩ 0) ⟨rfl,rfl⟩ fun ρ' hρ'=>.ptr _ 0 _ hρ'⟩;simp [execOp,hux,Instr.range,run_underlying hu,Result.andThen]
  ·cases h
 ·-- next
  rename_i x;have hx:=hr x (by simp [Op.operands]);split at h
  ·rename_i b ex;rw [ex] at hx;generalize hux:a.eval x=ux at hx;obtain ⟨hf,h⟩:=Zv h;have hf:=Ae hf;split at h
   ·rename_i s pos ty hm;split at h;rename_i e st1 ht;obtain ⟨t1,t2,t3,t4⟩:=Kg ht;simp only [Ab,Aa] at h;obtain ⟨rfl,_,rfl⟩:=h;cases hx with
    | ptr _ _ l hl=>
    have dJ:=cD.objBase hl hm;obtain ⟨_,ho⟩:=cD.objAt hl hm;have hsz:(⟨s.toArray⟩:ByteArray).size =s.length:=(by simp [←ByteArray.size_data]);rw [dJ,AA] at hux;cases e with
    | true=>
     obtain ⟨hlt,_⟩:=t4 hob;have hlt:=Ax hlt.symm;refine .inl ⟨ρ,.tuple #[.bool true,goInt pos,.int .i32 (Utf8.decode ⟨s.toArray⟩ pos).1],w.putObj l.blk (.stringIter ⟨s.toArray⟩ (pos+dcW s pos)),?_,?_,?_,?_⟩
     ·simp [execOp,hux,Instr.next,y5i ho,x2k ho,hsz,hlt,dcW,Result.andThen]
     ·exact .tup _ _ rfl fun j h1 h2=>by
       match j with
       | 0=>exact .bool _
       | 1=>exact .int _ _
       | 2=>exact .int _ _
       | j+3=>simp at h1;omega
     ·show Rel ρ (Ya st1.mem b _) st1.next _
      rw [t2,t3];exact cD.setObj hl hm rfl rfl _ ⟨rfl,rfl⟩
     ·show Ev ρ ρ floor st.mem st.next (Ya st1.mem b _) st1.next _ _
      rw [t2,t3];exact Ev.ofObj cD hl hf _ _
    | false=>
     obtain ⟨hlt,_⟩:=t4 hob;have hlt: ¬pos<s.length:=of_decide_eq_false hlt.symm;refine .inl ⟨ρ,.tuple #[.bool false],w,?_,?_,?_,?_⟩
     ·simp [execOp,hux,Instr.next,y5i ho,hsz,hlt,Result.andThen]
     ·exact .tup _ _ rfl fun j h1 h2=>by
       match j with
       | 0=>exact .bool _
       | j+1=>simp at h1
     ·show Rel ρ st1.mem st1.next w
      rw [t2,t3];exact cD
     ·show Ev ρ ρ floor st.mem st.next st1.mem st1.next w w
      rw [t2,t3];exact Ev.refl _ _ _ _ _ cD.dom
   ·cases h
  ·cases h
 ·-- alloc
  rename_i t;obtain ⟨ht,h⟩:=Zv h;split at h
  ·rename_i i hi;split at h
   ·rename_i hz;simp only [Ab,Aa] at h;obtain ⟨rfl,_,rfl⟩:=h;have hzr:(zeroValue t).run P w=.ok (.agg #[.pointer none,.slice none 0 0]) w:=(by simp [zeroValue,run_typeInfo w hi,hz]);refine .inl ⟨_,.pointer (some ⟨w.heap.size,0,none⟩),_,?_,Qt cD floor .bld [.nils] t (.cells #[.pointer none,.slice none 0 0] t (0,0)) ⟨.nils,.slice none 0 0,none,rfl,rfl,.nils,.inl rfl⟩ fun ρ' hρ'=>.ptr _ 0 _ hρ'⟩;simp [execOp,Instr.alloc,newVar,newRow,hzr,Value.cells]
   ·cases h
  ·cases h
 ·-- load
  rename_i t x;have hx:=hr x (by simp [Op.operands]);split at h
  ·rename_i b ex;rw [ex] at hx;generalize hux:a.eval x=ux at hx;split at h
   ·rename_i buf ty i hm hag hi;simp only [Ab,Aa] at h;obtain ⟨rfl,_,rfl⟩:=h;cases hx with
    | ptr _ _ l hl=>
    have dJ:=cD.objBase hl hm;obtain ⟨_,bv,p,e1,ho,hbv,_⟩:=cD.objAt hl hm;obtain rfl:=(List.cons.inj e1).1;rw [dJ,AA] at hux;refine .inl ⟨ρ,bv,w,?_,hbv,cD,Ev.refl _ _ _ _ _ cD.dom⟩;have hc:w.cell? ⟨l.blk,1,none⟩=some bv:=(by simp [World.cell?,ho]);simp [execOp,hux,Instr.loadAt,Instr.sureAddr,loadVar,Jb hag,hc]
   ·cases h
  ·cases h
 ·-- store
  rename_i t ad x;have hx:=hr ad (by simp [Op.operands]);have hv:=hr x (by simp [Op.operands]);split at h
  ·rename_i b ex;rw [ex] at hx;generalize hux:a.eval ad=ux at hx;obtain ⟨hf,h⟩:=Zv h;simp only [Ad] at hf;obtain ⟨hf,hsc⟩:=hf;have hf:=Ae hf;split at h
   ·rename_i buf ty i hm hi;obtain ⟨hsz,h⟩:=Zv h;have hsz:=Af hsz;simp only [Ab,Aa] at h;obtain ⟨rfl,_,rfl⟩:=h;cases hx with
    | ptr _ _ l hl=>
    have dJ:=cD.objBase hl hm;obtain ⟨_,bv,p,e1,ho,hbv,hp⟩:=cD.objAt hl hm;rw [dJ,AA] at hux;refine .inr (.inl ⟨ρ,w.putObj l.blk (.cells #[.pointer p,a.eval x] ty (0,0)),?_,y1l,cD.setObj (o':=.bld) (r':=[st.eval x]) hl hm rfl rfl _ ⟨_,_,p,rfl,rfl,hv,hp⟩,Ev.ofObj cD hl hf _ _⟩);have cS:=hv.oneCell hsc;have hcs:(a.eval x).cells = #[a.eval x]:=by
     cases hz:a.eval x <;> first | rfl | (rw [hz] at cS;cases cS)
    have cF:=run_storeCells_at P l.blk 1 ty [a.eval x] 0 _ w ho (by simp) (by simpa using cS);rw [z8a ho] at cF;simp_all [execOp,Instr.storeAt,Instr.sureAddr,storeVar,Zu]
   ·cases h
  ·cases h
 ·-- convert
  rename_i src dst x;have hx:=hr x (by simp [Op.operands]);split at h
  ·rename_i e hs hd;split at h
   ·rename_i he;split at h
    ·rename_i s o hby;simp only [Ab,Aa] at h;obtain ⟨rfl,rfl,rfl⟩:=h;refine .inl ⟨ρ,.string ⟨s.toArray⟩,w,?_,.str _,cD,Ev.refl _ _ _ _ _ cD.dom⟩;rcases Kt cD hby hx with ⟨e1,rfl⟩ | ⟨_,_,g,o,c,_,_,_,_,_,e1,_,_,hat⟩
     ·simp only [execOp,e1,run_convert_bytes_string w src dst e none 0 0 hs he hd];simp [run_convert_bytes_string w src dst e none 0 0 hs he hd,Conv.bytesToString];rfl
     ·simp [execOp,e1,run_convert_bytes_string w src dst e _ _ _ hs he hd,y9k hat]
    ·cases h
   ·cases h
  ·cases h
 ·-- e == nil
  rename_i bop t x y yt;have hx:=hr x (by simp [Op.operands]);split at h
  ·rename_i e m ex hu;rw [ex] at hx;generalize hux:a.eval x=ux at hx;have hy:a.eval (.const .nilIface)=.nilIface :=rfl;split at h
   ·simp only [Ab,Aa] at h;obtain ⟨rfl,_,rfl⟩:=h;refine .inl ⟨ρ,.bool e,w,?_,.bool _,cD,Ev.refl _ _ _ _ _ cD.dom⟩;cases hx <;> simp [execOp,hux,hy,eqGuard,binOp,run_underlying hu,x1i hu]
   ·simp only [Ab,Aa] at h;obtain ⟨rfl,_,rfl⟩:=h;refine .inl ⟨ρ,.bool !e,w,?_,.bool _,cD,Ev.refl _ _ _ _ _ cD.dom⟩;cases hx <;> simp [execOp,hux,hy,eqGuard,binOp,run_underlying hu,x1i hu]
   ·cases h
  ·cases h
 ·-- String
  rename_i f args argTypes;have hf:=hr f (by simp [Op.operands,Call.operands]);have cG:Xj (Zj ρ) (args.toList.map st.eval) (args.map a.eval).toList :=by rw [AW];exact Xj.maps _ _ _ fun x hx=>hr x (by grind [Op.operands,Call.operands])
  split at h
  ·rename_i g b eg ea;rw [eg] at hf;rw [ea] at cG;obtain ⟨hg,h'⟩:=Zv h;clear h;simp only [Ad] at hg;obtain ⟨hg,hbody⟩:=hg;obtain rfl:=Af hg;obtain ⟨fn,hfn,hb⟩: ∃fn,P.funcs[x6h]? =some fn∧fn.body.isSome=true:=by
    cases e:P.funcs[x6h]? with
    | none=>rw [e] at hbody;cases hbody
    | some fn=>rw [e] at hbody;exact ⟨fn,rfl,hbody⟩
   generalize hvals:args.map a.eval=vals at cG;obtain ⟨vals⟩:=vals;generalize hw:a.eval f=u at hf;cases hf with
   | fn _ _ cvs hl hh=>
   obtain rfl:cvs= #[]:=Array.eq_empty_of_size_eq_zero (by rw [←hl];rfl);cases cG with
   | cons h1 h2=>
   cases h2;cases h1 with
   | ptr _ _ l hl'=>
   split at h'
   ·rename_i buf ty hm;obtain ⟨hty,h⟩:=Zv h';clear h';obtain rfl:=Af hty;split at h
    ·rename_i s o hby0;have dJ:=cD.objBase hl' hm;obtain ⟨_,bv,p,e1,ho,hbv,_⟩:=cD.objAt hl' hm;obtain rfl:=(List.cons.inj e1).1;have hexec:(execOp a.eval ⟨dst,.call ⟨.value f,args,argTypes⟩,type,pos,after,guard⟩).run P w=.ok (.enter x6h #[.pointer (some ⟨l.blk,0,none⟩)]) w:=by have cF:=Uw hN hfn hb #[.pointer (some ⟨l.blk,0,none⟩)] w;rw [dJ] at hvals;simp [execOp,resolve,hw,Deferred.ofValue,hvals,invoke,cF]
     refine .inr (.inr ⟨x6h,_,hexec,?_⟩);have hstr:=fun cE=>hN.2 (by rw [hfn];rfl) l.blk _ bv w s cE ho;split at h
     ·rename_i hrf;simp only [Ab,Aa,Ad,Aq] at h;obtain ⟨rfl,⟨cE,rfl⟩,rfl⟩:=h;have hby:=hby0;have hstr:=hstr cE;rcases Kt cD hby hbv with ⟨k1,k2⟩ | ⟨b',_,_,_,_,_,k1,_⟩
      ·refine (hstr (.inl ⟨k1,k2⟩)).mono fun e w' ⟨q1,q2,q3,q4,q5,q6⟩=>⟨ρ,_,q1,.str _,?_,?_⟩
       ·exact cD.kept q2 (p:=fun _=>True) (fun _ _ _ _=>trivial) (fun _ _ _=>trivial) fun k o hk _=>q3 k o hk fun g o n c e=>by rw [k1] at e;cases e
       ·exact ⟨Rho.le_refl _,fun _ _=>rfl,Aj _,fun _ _ _ _ _ h=>h,fun k o hk _=>q3 k o hk fun g o n c e=>(by rw [k1] at e;cases e),fun k m hk e=>(by have:=cD.dom k m e;omega),q2,q4,q5,q6,fun _ _=>rfl⟩
      ·rw [hrf] at k1;cases k1
     ·rename_i c hrf;obtain ⟨hc,h⟩:=Zv h;simp only [Ad] at hc;obtain ⟨hc1,hc2⟩:=hc;have hc1:=Ae hc1;simp only [Ab,Aa,Ad,Aq] at h;obtain ⟨rfl,⟨cE,rfl⟩,rfl⟩:=h;have hby:=hby0;have hstr:=hstr cE;rcases Kt cD hby hbv with ⟨k1,k2⟩ | ⟨b',lc,g,o,cc,el,k1,k2,k3,k4,k5,k6,k7,cur,k8,k9,k10⟩
      ·have hkill:=cD.kill c;refine (hstr (.inl ⟨k1,k2⟩)).mono fun e w' ⟨q1,q2,q3,q4,q5,q6⟩=>⟨ρ,_,q1,.str _,?_,?_⟩
       ·exact hkill.kept q2 (p:=fun _=>True) (fun _ _ _ _=>trivial) (fun _ _ _=>trivial) fun k o hk _=>q3 k o hk fun g o n c e=>by rw [k1] at e;cases e
       ·refine ⟨Rho.le_refl _,fun _ _=>rfl,Aj _,fun k hk e cs ty hm'=> ?_,fun k o hk _=>q3 k o hk fun g o n c e=>(by rw [k1] at e;cases e),fun k m hk e=>(by have:=cD.dom k m e;omega),q2,q4,q5,q6,fun _ _=>rfl⟩;show Ze (Ya st.mem c none) k=_;rw [Zy]
        ·exact hm'
        ·intro e';subst e';rw [k1] at hbv;unfold y1d at hby;cases hbv <;> first | (cases hrf;done) | skip
         all_goals (have hrf:=Ac hrf;subst hrf;simp [hm'] at hby)
      ·rw [hrf] at k1;obtain rfl:=Ac k1;subst k4;obtain ⟨ab,hab⟩:=Bl.1 k3;have hel:=k7 ab hab;have hbt:ab.ty=bytT:=by unfold tyB at hc2;rw [hab] at hc2;exact Af hc2
       rw [hel,hbt] at k8;have hkill:=cD.kill c;have hne: ∀k,lc.blk≠k→ ∀g o n c,bv=.slice (some ⟨g,o,none⟩) n c→g≠k:=fun k hk g o n c e=>by rw [k5] at e;cases e;exact hk
       refine (hstr (.inr ⟨lc.blk,o,cc,cur,k5,k6,k8,k9,k10⟩)).mono fun e w' ⟨q1,q2,q3,q4,q5,q6⟩=>⟨ρ,_,q1,.str _,?_,?_⟩
       ·refine hkill.kept q2 (p:=fun k=>lc.blk≠k) (fun b2 l2 e2 hs2 heq=> ?_) (fun k o hk heq=> ?_) fun k o hk hp=>q3 k o hk (hne k hp)
        ·by_cases hbc:b2=c
         ·rw [hbc,Zq] at hs2;cases hs2
         ·rw [Zy _ _ hbc] at hs2;exact hbc (cD.inj b2 c l2 lc e2 k2 heq.symm hs2 k3)
        ·have:=cD.sep c lc k2 k3;rw [heq,hk] at this;cases this
       ·refine ⟨Rho.le_refl _,fun _ _=>rfl,Aj _,fun k hk e cs ty hm'=> ?_,fun k o hk hfr=>q3 k o hk (hne k (hfr c lc k2 hc1)),fun k m hk e=>(by have:=cD.dom k m e;omega),q2,q4,q5,q6,fun _ _=>rfl⟩;show Ze (Ya st.mem c none) k=_;rw [Zy]
        ·exact hm'
        ·intro e';rw [e',k2] at e;cases e
    ·cases h
   ·cases h'
  ·cases h
 ·cases h
structure x8t (P:Program) (ops:Array Oper) (cx:Ctx) (o:Oper) (st st':St):Prop where
 inv:Yw cx.floor st st'
 slot: ∀d,o.dst=some d→d<cx.n
 other:st'.ob=true→ ∀t,o.dst≠some t→st'.tmp t=st.tmp t
 does:st'.ob=true→ ∀(ρ:Rho) (a:Act) (w:World),a.tmps.size=cx.n→(∀d,Xn ops o=some d→Zj ρ (st.tmp d) (a.tmps.getD d undef))→Vk ρ st.eval a.eval o.op→Rel ρ st.mem st.next w→
  ∀(K:Act→World→Prop) (Q:Exit→Act→World→Prop),(∀ρ' u w',(∀d,o.dst=some d→Zj ρ' (st'.tmp d) u)→Rel ρ' st'.mem st'.next w'→Ev ρ ρ' cx.floor st.mem st.next st'.mem st'.next w w'→K (a.put o.dst u) w')→
   if Region.wanted o (yielded ops a.tmps) then o.wp P a w K Q else K (a.put o.dst undef) w
theorem x8u.two {S:Specs} {ops:Array Oper} {cx:Ctx} {x:Bool×Oper} {st st':St} (s:x8u S P ops cx x st st'):x8t P ops cx x.2 st st':=
 ⟨s.inv,s.slot,s.other,fun ho ρ a w h1 h2 h3 h4 K Q hK=>s.does ho ρ a w st.eval h1 (fun _ _=>rfl) h2 h3 h4 K Q fun ρ' u w' q1 q2 q3 _=>hK ρ' u w' q1 q2 q3⟩
theorem y9c (hN:Qa P) {ops:Array Oper} {cx:Ctx} {o:Oper} {st st1 st2 st3 st':St} {v:AVal} {b:Bool} (hw:Ug ops o cx st=some (true,st1)) (hx:aX P cx.floor st1 o.op=some (v,b,st2)) (how:st2.owe cx b=some st3) (hp:st3.put cx o.dst v=some st'):x8t P ops cx o st st':=by
 obtain ⟨w1,w2,w3⟩:=Ye hw;obtain ⟨dP,cH⟩:=aX_inv hx;obtain ⟨e1,e2,e3,e4⟩:=Yp how;obtain ⟨p1,p2,p3,p4⟩:=Ys hp;have dI: ∀d,o.dst=some d→st'.tmp d=v:=fun d hd=>by
  rcases p4 with ⟨e,_⟩ | ⟨d',e,_,he⟩
  ·rw [hd] at e;cases e
  ·rw [hd] at e;obtain rfl:=Ac e;show T.get .undef st'.env d=v;rw [he,T.get_set,Av rfl]
 have hi1:Yw cx.floor st st1:=Yw.same w1 w2 fun ho=>(w3 ho).1;have hi2:Yw cx.floor st2 st':=Yw.same (p1.trans e2) (p2.trans e3) fun ho=>(e4 (by rw [←p3];exact ho)).2;have hob:st'.ob=true→b=true∧st2.ob=true∧st1.ob=true:=fun ho=>by obtain ⟨h1,h2⟩:=e4 (by rw [←p3];exact ho);exact ⟨h1,h2,dP.ob h2⟩
 refine ⟨(hi1.trans dP).trans hi2,fun d hd=> ?_,fun ho t ht=> ?_,fun ho ρ a w hsz hgr hr cD K Q hK=> ?_⟩
 ·rcases p4 with ⟨e,_⟩ | ⟨d',e,hlt,_⟩
  ·rw [hd] at e;cases e
  ·rw [hd] at e;obtain rfl:=Ac e;exact hlt
 ·obtain ⟨_,_,ho1⟩:=hob ho;rw [←(w3 ho1).2 t];show T.get .undef st'.env t=T.get .undef st1.env t;rcases p4 with ⟨_,he⟩ | ⟨d',e,_,he⟩
  ·rw [he,e1,cH]
  ·rw [he,T.get_set,As (fun h=>ht (by rw [e,h])),e1,cH]
 ·obtain ⟨rfl,ho2,ho1⟩:=hob ho;have cV:=(w3 ho1).2;have dL: ∀y,st1.eval y=st.eval y:=fun y=>by cases y <;> first | rfl | exact cV _
  rw [Xf hw ho1 hsz hgr,Av rfl];have hr':Vk ρ st1.eval a.eval o.op:=fun y hy=>by rw [dL y];exact hr y hy
  refine (x4z hN hx ho2 hr' (by rw [w1,w2];exact cD)).wp fun ρ' u w' hpost=> ?_;have he:=hpost.ev;rw [w1,w2] at he;refine hK ρ' u w' (fun d hd=>by rw [dI d hd];exact hpost.val) (by rw [p1,p2,e2,e3];exact hpost.rel) (by rw [p1,p2,e2,e3];exact he)
end
section
variable {P:Program}
theorem y6i {S:Specs} {Rc:Runner} (hN:Qa P) (hS:Zk P S) (hCI:y5w Rc) (hC:ROk P Rc) {fl:Nat} {cx:Ctx} {ops:Array Oper} {i:Nat} {o:Oper} {l:List Oper} {todo:List Item} {rnd:Option Nat} {rs:List ResultVar} {st:St} {cs:List AFr} {lps:Loops} {C':Cfg}
  (hfl:Fl fl ⟨cx,some (ops,i,o::l),todo,rnd,rs,st,cs,lps⟩) (h:y9d P S Rc cx ops i o l todo rnd rs st cs lps=some C'):Sim P fl ⟨cx,some (ops,i,o::l),todo,rnd,rs,st,cs,lps⟩ C':=by
 have plain2: ∀st2,x8t P ops cx o st st2→Sim P fl ⟨cx,some (ops,i,o::l),todo,rnd,rs,st,cs,lps⟩ ⟨cx,some (ops,i+1,l),todo,rnd,rs,st2,cs,lps⟩:=by
  intro st2 s1;have e:=hfl.cx;simp only at e;refine ⟨⟨e,hfl.cs,AJ hfl.le s1.inv.nxt⟩,by rw [←e];exact s1.inv,fun ho m0 n0 ρ0 w0 ρ b a k css w ma mb hs he cs0=> ?_⟩;obtain ⟨cH,hdf,htd,⟨hro,dC⟩,cP⟩:=hs.top;simp only at cH hdf htd hro cP;obtain ⟨ho_i,hl',hdrop⟩:=y2b hro;have key:=s1.does ho ρ a w cH.size (fun d _=>cH.get d) (fun y _=>cH.eval y) hs.rel
   (fun a' w'=> ∃ρ',a'.defers=a.defers∧Xz ρ' st2.env cx.n a'.tmps∧Rel ρ' st2.mem st2.next w'∧Ev ρ ρ' cx.floor st.mem st.next st2.mem st2.next w w') (fun e _ _=>e=.normal) (fun ρ' u w' cR cW hev=>by
    refine ⟨ρ',Act.put_defers' _ _ _,?_,cW,hev⟩;cases hdst:o.dst with
    | none=>exact ((cH.mono hev.ext).congr fun t=>s1.other ho t (by grind))
    | some d=>
     refine ((cH.mono hev.ext).put (cR d hdst) (.inr ⟨d,rfl,s1.slot d hdst,rfl⟩)).congr fun t=> ?_;rw [T.get_set];split
     ·rename_i e;subst e;rfl
     ·rename_i e;exact s1.other ho t (by grind))
  obtain ⟨a',w',⟨ρ',hd',he',hr',hev⟩,cU⟩:=z8j (b:=b) (k:=k) (cs:=css++cs0) (rest:=(List.range ops.size).drop (i+1)) (fun e a w h=>h) ho_i (Uh dC ho_i) key;refine ⟨ρ',b,a',k,css,w',ma,mb,by rw [Xw,hdrop];exact cU,⟨⟨he',by grind,htd.mono fun _ _=>y5x.mono hev.ext,⟨hl',dC⟩,?_⟩,hs.lv,hs.rest.ev hev,hr'⟩,he.trans (by grind),rfl,hev.size⟩;exact ((⟨cH,hdf,htd,⟨hro,dC⟩,cP⟩:y8v ρ cx (some (ops,i,o::l)) todo rnd st.env b a k ma).mono hev.ext).rnd
 have hcx:cx.floor≤st.next:=by have:=hfl.le;have e:=hfl.cx;grind
 have plain: ∀st2,z7x P S Rc ops cx (false,o) st=some st2→Sim P fl ⟨cx,some (ops,i,o::l),todo,rnd,rs,st,cs,lps⟩ ⟨cx,some (ops,i+1,l),todo,rnd,rs,st2,cs,lps⟩:=fun st2 h1=>plain2 st2 (z7a hN hS hCI hC hcx h1).two;unfold y9d at h;split at h
 ·rename_i st1 hw;split at h
  ·-- an operation that only such a region has
   rename_i v b st2 hx;split at h
   ·rename_i st3 how;split at h
    ·rename_i st4 hp;obtain rfl:=Ac h;exact plain2 st4 (y9c hN hw hx how hp)
    ·cases h
   ·cases h
  rename_i hx;split at h
  ·-- a function is entered
   rename_i g args cY;obtain ⟨w1,w2,w3⟩:=z0j (ρ:=⟨fun _=>none,fun _=>none,fun _=>none⟩) hw;have hCeq: ∃fn body,P.funcs[g]? =some fn∧fn.body=some body∧C'=⟨⟨Nat.max fn.ntmps args.length,cx.floor,cx.sym⟩,none,[.code body],none,fn.results.toList,st1.withEnv (z1z args 0 .leaf),⟨cx,some (ops,i,o::l),todo,rnd,rs,st1.env⟩::cs,lps⟩:=by
    grind [z7p]
   obtain ⟨fn,body,hfn,hb,hCe⟩:=hCeq;have hmem:C'.st.mem=st.mem:=by rw [hCe];exact w1
   have hnext:C'.st.next=st.next:=by rw [hCe];exact w2
   refine ⟨by rw [hCe];exact hfl.enter (Bt w2.symm),Yw.same hmem hnext fun ho=>(w3 (by rw [hCe] at ho;exact ho)).1,fun ho m0 n0 ρ0 w0 ρ b a k css w ma mb hs he cs0=> ?_⟩;have ho1:st1.ob=true:=by rw [hCe] at ho;exact ho
   obtain ⟨cH,hdf,htd,⟨hro,dC⟩,cP⟩:=hs.top;simp only at cH hdf htd hro cP;obtain ⟨ho_i,hl',hdrop⟩:=y2b hro;obtain ⟨_,_,w3'⟩:=z0j (ρ:=ρ) hw;obtain ⟨dX,hwt⟩:=(w3' ho1).2 cH;have hexec: ∃vals,(execOp a.eval o).run P w=.ok (.enter g vals) w∧Xj (Zj ρ) args vals.toList:=by
    obtain ⟨dst,op,type,pos,after,guard⟩:=o;simp only at cY ⊢;unfold callee at cY;split at cY
    ·rename_i f cargs argTypes;split at cY
     ·rename_i g' caps hg;split at cY
      ·cases cY
      ·simp only [Ab,Sum.inl.injEq,Aa] at cY;obtain ⟨rfl,rfl⟩:=cY;have hf:=dX.eval f;rw [hg] at hf;generalize hw':a.eval f=u at hf;cases hf with
       | fn _ _ cvs hl hh=>
        have:=Uw hN hfn (by rw [hb];rfl) (cargs.map a.eval++cvs) w
        grind [execOp,resolve,Deferred.ofValue,invoke,Xj.append,z5o,Xj.of]
     ·rename_i g' first hg
      split at cY
      ·cases cY
      ·simp only [Ab,Sum.inl.injEq,Aa] at cY;obtain ⟨rfl,rfl⟩:=cY;have hf:=dX.eval f;rw [hg] at hf;generalize hw':a.eval f=u at hf;cases hf with
       | fnb _ _ cvs hl hh=>
        have:=Uw hN hfn (by rw [hb];rfl) (cvs++cargs.map a.eval) w
        grind [execOp,resolve,Deferred.ofValue,invoke,Xj.append,Xj.of,z5o]
     all_goals grind
    ·cases cY
   obtain ⟨vals,hex,cG⟩:=hexec;have dB:=y6f (b:=b) (k:=k) (cs:=css++cs0) (rest:=(List.range ops.size).drop (i+1)) ho_i (Uh dC ho_i) hwt hex;obtain ⟨_,_,_,_,_,b',a',k',hen,hsr⟩:=z7o h (⟨dX,hdf,htd,⟨hro,dC⟩,cP⟩) hs.lv hs.rest (by rw [w1,w2];exact hs.rel) cG;refine ⟨ρ,b',a',k',_,w,_,_,.one ?_,hsr,by grind,by cases css <;> rfl,Aj _⟩
   grind [Xw]
  ·-- a round is entered
   rename_i j args cY;obtain ⟨w1,w2,w3⟩:=z0j (ρ:=⟨fun _=>none,fun _=>none,fun _=>none⟩) hw;unfold x5m at h;split at h
   ·rename_i lst lpend ln lenv lparams lassign lbody hlg;split at h
    ·rename_i env' hsa;obtain rfl:=Ac h;refine ⟨hfl.enter (Bt w2.symm),Yw.same w1 w2 fun ho=>(w3 ho).1,fun ho m0 n0 ρ0 w0 ρ b a k css w ma mb hs he cs0=> ?_⟩;have ho1:st1.ob=true:=ho;obtain ⟨cH,hdf,htd,⟨hro,dC⟩,cP⟩:=hs.top;simp only at cH hdf htd hro cP;obtain ⟨ho_i,hl',hdrop⟩:=y2b hro;obtain ⟨_,_,w3'⟩:=z0j (ρ:=ρ) hw;obtain ⟨dX,hwt⟩:=(w3' ho1).2 cH;obtain ⟨lr,hlp,hlow,hsp,ltmps,lfn,ld,eA,dK⟩:=hs.rest.loops j _ hlg;simp only at eA dK;have hexec: ∃vals:Array Value,Xj (Zj ρ) args vals.toList∧(execOp a.eval o).run P w=.ok (.round lr lfn ((lparams.toArray.zip vals).foldl (fun tmps (t,x)=>tmps.setIfInBounds t x) ltmps) lassign lbody) w:=by
      obtain ⟨dst,op,type,pos,after,guard⟩:=o;simp only at cY ⊢;unfold callee at cY;split at cY
      ·rename_i f cargs argTypes;split at cY
       ·grind
       ·grind
       ·rename_i j' hg;simp only [Ab,Sum.inr.injEq,Aa] at cY;obtain ⟨rfl,rfl⟩:=cY;have hf:=dX.eval f;rw [hg] at hf;generalize hw':a.eval f=u at hf;cases hf with
        | yld _ l' hl'=>rw [hlp] at hl';obtain rfl:=Ac hl';have hca:=z5o dX cargs;obtain ⟨cE,_⟩:=Jh hsa dK hca;refine ⟨cargs.map a.eval,hca,?_⟩;simp_all [run_yield,execOp,resolve,Deferred.ofValue,invoke]
       ·cases cY
      ·cases cY
     obtain ⟨vals,cG,hex⟩:=hexec;obtain ⟨_,henv'⟩:=Jh hsa dK cG;have dB:=y6e (b:=b) (k:=k) (cs:=css++cs0) (rest:=(List.range ops.size).drop (i+1)) ho_i (Uh dC ho_i) hwt hex;refine ⟨ρ,⟨lfn, #[],[],[],.run,.normal,some lr⟩,{tmps:=(lparams.toArray.zip vals).foldl (fun tmps (t,x)=>tmps.setIfInBounds t x) ltmps,defers:=[]},[.code lassign,.beginRound,.code lbody],b.atR a (Xw (some (ops,i,o::l)) k)::css,w,[],ma++mb,.one ?_,⟨⟨?_,rfl,.cons (.same _ rfl) (.cons (.same _ rfl) (.cons (.same _ rfl) .nil)),trivial,⟨rfl,lr,hlp,rfl⟩⟩,fun _=>⟨rfl,fun h0=>by cases h0⟩,?_,by rw [show (st1.withEnv env').mem =st.mem from w1,show (st1.withEnv env').next =st.next from w2];exact hs.rel⟩,by rw [show (st1.withEnv env').mem =st.mem from w1,show (st1.withEnv env').next =st.next from w2];exact he,by cases css <;> rfl,Aj _⟩
     ·simp only [Xw,hdrop];exact dB
     ·have:(lparams.toArray.zip vals).foldl (fun tmps (t,x)=>tmps.setIfInBounds t x) ltmps=(lparams.zip vals.toList).foldl (fun t p=>t.setIfInBounds p.1 p.2) ltmps:=by rw [←Array.foldl_toList];simp
      simp only [this];exact henv'
     ·exact ⟨.cons ⟨dX,hdf,htd,⟨hro,dC⟩,cP⟩ hs.lv hs.rest.cs,hs.rest.nodup,hs.rest.marks,hs.rest.loops,hs.rest.inj⟩
    ·cases h
   ·cases h
  clear plain2
  grind [z7x]
 all_goals (clear plain2;grind [z7x])
end
section
variable {P:Program}
theorem z9n {ops:Array Oper} {z:Nat}: ∀{l:List Nat},tryZ ops l=some z→z5h z ops=true
 | [],h=>by cases h
 | x::l,h=>by
  unfold tryZ at h;rcases Xc h with ⟨h1,h⟩ | ⟨_,h⟩
  ·obtain rfl:=Ac h;exact h1
  ·exact z9n h
theorem y7j {ops:Array Oper} {z:Nat} (h:x7i ops=some z):z5h z ops=true∧Kz ops=true:=by unfold x7i at h;obtain ⟨hn,h⟩:=Zv h;exact ⟨z9n h,hn⟩
theorem z6e.item {ρ:Rho} {x:Item} {t k:List Item} (hx:Uk x=true) (h:z6e ρ (x::t) k): ∃k',k=x::k'∧z6e ρ t k':=by
 cases h with
 | cons h ht=>
  cases h with
  | same _ _=>grind
  | inR j l e=>cases hx
  | endR j l e=>cases hx
theorem z4v {fl:Nat} {cx:Ctx} {todo:List Item} {rnd:Option Nat} {rs:List ResultVar} {st:St} {cs:List AFr} {lps:Loops} {jump:Option Code} {C':Cfg} (hfl:Fl fl ⟨cx,none,todo,rnd,rs,st,cs,lps⟩)
  (h:y0f P rnd rs st cs lps jump=some C') (hj:(todo=[]∧jump=none)∨(∃t,todo=.code .ret ::t∧jump=some .ret)∨(∃id t,todo=.code (.exit id)::t∧exitTo id t=none∧jump=some (.exit id)∧rnd.isSome=true)):
  Sim P fl ⟨cx,none,todo,rnd,rs,st,cs,lps⟩ C':=by
 unfold y0f at h;split at h
 ·split at h
  ·rename_i vs hvs;obtain ⟨hfl',hm,hn,hob,hne,key⟩:=z8h (P:=P) (base:=0) h hfl.cs hfl.le;refine ⟨hfl',Yw.same hm hn fun ho=>by grind,fun ho m0 n0 ρ0 w0 ρ b a k css w ma mb hs he cs0=> ?_⟩;obtain ⟨_,_,_,_,_,key⟩:=z8h (P:=P) (base:=w0.heap.size) h hfl.cs hfl.le;have htd:todo=[]∨ ∃t,todo=.code .ret ::t:=by
    grind
   obtain ⟨w',cU,cH,cD,hev,cQ,hsz⟩:=z5g hs rfl rfl htd rfl he (css++cs0);obtain ⟨hk,hfn⟩:=hs.lv hne;obtain ⟨fn,hfn,hrs⟩:=hfn rfl;simp only at hrs hfn;obtain ⟨u,hu,hres⟩:=Jo (fn:=fn) cH cD (by rw [hrs];exact hvs);obtain ⟨c,css',b',a',k',ma',mb',rfl,hfin,hsr,hbot⟩:=key ρ css w' mb u hu cQ cD;refine ⟨ρ,b',a',k',css',w',ma',mb',cU.trans (.one ?_),hsr,by grind,by rw [hbot];rfl,hsz⟩;rw [←hfin];exact step_leave_returned (fr:={b.atR {a with defers:=[]} k with mode:=.returning}) ⟨rfl,rfl,hk,fn,hfn,hres⟩
  ·cases h
 ·rename_i j;split at h
  ·rename_i lst lpend ln lenv lparams lassign lbody hlg;obtain ⟨hfl',hm,hn,hob,hne,_⟩:=z8h (P:=P) (base:=0) h hfl.cs hfl.le;refine ⟨hfl',Yw.same hm hn fun ho=>by grind,fun ho m0 n0 ρ0 w0 ρ b a k css w ma mb hs he cs0=> ?_⟩;obtain ⟨_,_,_,_,_,key⟩:=z8h (P:=P) (base:=w0.heap.size) h hfl.cs hfl.le;obtain ⟨rfl,lr0,hlp0,hro⟩:=hs.top.rnd;obtain ⟨lr,hla⟩:=hs.rest.loops j _ hlg;have hla':=hla;obtain ⟨hlp,hlow,hsp,ltmps,lfn,ld,eA,dK⟩:=hla;rw [hlp] at hlp0;obtain rfl:=Ac hlp0;have cF:=run_endRound (P:=P) jump eA;have hlst:(if jump.isNone then LoopState.ready else LoopState.done)=y0j jump:=by cases jump <;> rfl
   rw [hlst] at cF;have cQ:=hs.rest.record (w':=w.putObj lr (.loop ⟨y0j jump,jump,lfn,ltmps,lparams.toArray,lassign,lbody,ld⟩)) hlg hla' (L':=⟨y0j jump,jump,ln,lenv,lparams,lassign,lbody⟩)
    ⟨hlp,hlow,hsp.turned (Xu.put _ _ _),ltmps,lfn,ld,World.putObj_heap_same hsp.1,dK⟩ (Xu.put _ _ _)
   obtain ⟨c,css',b',a',k',ma',mb',rfl,hfin,hsr,hbot⟩:=key ρ css _ mb (.bool jump.isNone) (.bool _) cQ (hs.rel.turned (fun r hr=>by grind) (Xu.put _ _ _));have hev:=he.turned (m:=[lr]) (fun r hr=>by grind) (Xu.put w lr (.loop ⟨y0j jump,jump,lfn,ltmps,lparams.toArray,lassign,lbody,ld⟩));refine ⟨ρ,b',a',k',css',_,ma',mb',.one ?_,hsr,by grind,by rw [hbot];rfl,Bt (Xu.put _ _ _).size.symm⟩;obtain ⟨hk,_⟩:=hs.lv hne;rw [←hfin];have htd:=hs.top.todo;rcases hj with ⟨rfl,rfl⟩ | ⟨t,rfl,rfl⟩ | ⟨id,t,rfl,hx,rfl,_⟩
   ·cases htd;exact stepR_round_end hro hk cF
   ·obtain ⟨k',rfl,_⟩:=htd.code;exact stepR_round_ret hro hk cF
   ·obtain ⟨k',rfl,ht⟩:=htd.code;exact stepR_round_exit hro hk ((ht.exit id).2 hx) cF
  ·cases h
theorem z9p {S:Specs} {Rc:Runner} (hN:Qa P) (hmx:P.follows .mixedOrders =true) (hS:Zk P S) (hCI:y5w Rc) (hC:ROk P Rc) {fl:Nat} {C C':Cfg} (hfl:Fl fl C) (h:y6h P S Rc C=some C'):Sim P fl C C':=by
 unfold y6h at h;split at h
 ·-- a region's end
  rename_i ops i todo rnd rs st cs lps;obtain rfl:=Ac h;refine ⟨⟨hfl.cx,hfl.cs,hfl.le⟩,Yw.refl _ _,fun ho m0 n0 ρ0 w0 ρ b a k css w ma mb hs he cs0=> ?_⟩;obtain ⟨cH,hdf,htd,⟨hro,dC⟩,cP⟩:=hs.top;refine ⟨ρ,b,a,k,css,w,ma,mb,.one ?_,⟨⟨cH,hdf,htd,trivial,cP⟩,hs.lv,hs.rest,hs.rel⟩,he,rfl,Aj _⟩;have hge:ops.size≤i:=by simp_all
  have:(List.range ops.size).drop i=[]:=AH (by grind)
  grind [Xw,stepR_region_end]
 ·exact y6i hN hS hCI hC hfl h
 ·rename_i cx todo rnd rs st cs lps;split at h
  ·grind [z4v]
  ·grind [z4v]
  ·obtain rfl:=Ac h;exact Sim.move hfl fun ρ k hk=>by obtain ⟨k',rfl,ht⟩:=hk.code;grind [stepR_skip]
  ·obtain rfl:=Ac h;exact Sim.move hfl fun ρ k hk=>by obtain ⟨k',rfl,ht⟩:=hk.code;grind [stepR_label]
  ·obtain rfl:=Ac h;exact Sim.move hfl fun ρ k hk=>by obtain ⟨k',rfl,ht⟩:=z6e.item rfl hk;grind [stepR_inBlock]
  ·obtain rfl:=Ac h;exact Sim.move hfl fun ρ k hk=>by obtain ⟨k',rfl,ht⟩:=z6e.item rfl hk;exact ⟨k',ht,fun b a css w=>step_lone_go (by simp [stepG,stepG.exec,Frame.atR])⟩
  ·obtain rfl:=Ac h;exact Sim.move hfl fun ρ k hk=>by obtain ⟨k',rfl,ht⟩:=hk.code;exact ⟨_,.cons (.same _ rfl) (.cons (.same _ rfl) ht),fun b a css w=>stepR_seq⟩
  ·-- a test
   rename_i c x y k0;split at h
   ·rename_i v hv;split at h;rename_i e st1 ht;obtain rfl:=Ac h;obtain ⟨t1,t2,t3,t4⟩:=Kg ht;refine ⟨⟨hfl.cx,hfl.cs,by have:=hfl.le;grind⟩,Yw.same t2 t3 fun ho=>(t4 ho).2,fun ho m0 n0 ρ0 w0 ρ b a k css w ma mb hs he cs0=> ?_⟩;obtain ⟨rfl,_⟩:=t4 ho;obtain ⟨cH,hdf,htd,hro,cP⟩:=hs.top;obtain ⟨k',rfl,htl⟩:=htd.code;have hc:=cH.eval c;rw [hv] at hc;have hev:a.eval c=.bool e:=by generalize a.eval c=u at hc;cases hc;rfl
    refine ⟨ρ,b,a,_,css,w,ma,mb,.one (stepR_cond hev),⟨⟨by grind,hdf,.cons ?_ htl,trivial,cP⟩,hs.lv,hs.rest,by rw [t2,t3];exact hs.rel⟩,by grind,rfl,Aj _⟩;cases e <;> exact .same _ rfl
   ·cases h
  ·obtain rfl:=Ac h;exact Sim.move hfl fun ρ k hk=>by obtain ⟨k',rfl,ht⟩:=hk.code;exact ⟨_,.cons (.same _ rfl) (.cons (.same _ rfl) ht),fun b a css w=>stepR_block⟩
  ·obtain rfl:=Ac h;exact Sim.move hfl fun ρ k hk=>by obtain ⟨k',rfl,ht⟩:=hk.code;exact ⟨_,.cons (.same _ rfl) (.cons (.same _ rfl) ht),fun b a css w=>step_lone_go (by simp [stepG,stepG.exec,Frame.atR])⟩
  ·obtain rfl:=Ac h;exact Sim.move hfl fun ρ k hk=>by obtain ⟨k',rfl,ht⟩:=hk.code;exact ⟨_,.cons (.same _ rfl) (.cons (.same _ rfl) ht),fun b a css w=>stepR_loop⟩
  ·obtain rfl:=Ac h;exact Sim.move hfl fun ρ k hk=>by obtain ⟨k',rfl,ht⟩:=z6e.item rfl hk;exact ⟨_,.cons (.same _ rfl) (.cons (.same _ rfl) ht),fun b a css w=>stepR_inLoop⟩
  ·-- an exit
   rename_i id k0;split at h
   ·rename_i k1 hx;obtain rfl:=Ac h;exact Sim.move hfl fun ρ k hk=>by
     obtain ⟨k',rfl,ht⟩:=hk.code;obtain ⟨r',h1,h2⟩:=(ht.exit id).1 _ hx
     grind [stepR_exit]
   grind [z4v]
  ·-- a region in the order of the text
   rename_i id ops k0;obtain ⟨dC,h⟩:=Zv h;obtain rfl:=Ac h;refine ⟨⟨hfl.cx,hfl.cs,hfl.le⟩,Yw.refl _ _,fun ho m0 n0 ρ0 w0 ρ b a k css w ma mb hs he cs0=> ?_⟩;obtain ⟨cH,hdf,htd,hro,cP⟩:=hs.top;obtain ⟨k',rfl,htl⟩:=htd.code;exact ⟨ρ,b,a,k',css,w,ma,mb,.one stepR_region,⟨⟨cH,hdf,htl,⟨rfl,dC⟩,cP⟩,hs.lv,hs.rest,hs.rel⟩,he,rfl,Aj _⟩
  ·-- a region that draws its order
   rename_i id ops k0;split at h
   ·-- it hands out a round
    rename_i m hty;split at h
    ·rename_i st1 hop;obtain rfl:=Ac h;obtain ⟨hm,dC,cX,hfor,hgd⟩:=y6b hty;have hm':=Nat.le_of_lt hm;have hi:=z4i hCI _ _ _ _ hop;have e:=hfl.cx;simp only at e;have hcx:cx.floor≤st.next:=by have:=hfl.le;grind
     refine ⟨⟨e,hfl.cs,AJ hfl.le hi.nxt⟩,by grind,fun ho m0 n0 ρ0 w0 ρ b a k css w ma mb hs he cs0=> ?_⟩;obtain ⟨cH,hdf,htd,hro,cP⟩:=hs.top;obtain ⟨k',rfl,htl⟩:=htd.code;have hw:=z0s hN hS hCI hC hcx cX hop ho hdf cH (hs.rel.drawn (w.drawn+1));have hw2:=wpAny_sound (Yo ops m).size (w.tape w.drawn (.order b.fn id)) _ a _ hw;rw [y4n _ hm',z9o hm'] at hw2;have back: ∀(j:Nat) x,ops[j]? =some x→ ∃y,(Yo ops m)[j]? =some y∧y.after=x.after:=fun j x hx=>by
      grind [z1n]
     have dQ: ∀(j:Nat) x,ops[j]? =some x→ ∀e∈x.after.toList,Region.binds .any e=true→e.on<j:=fun j x hx e he hb=>by obtain ⟨y,hy,hya⟩:=back j x hx;exact (z0d cX).ord j y hy e (by grind) hb
     have hcl0: ∀S,z1l ops S→z1l (Yo ops m) S:=fun S hc j y hy hS e he hb=>by
      have hsa:=z1n hm' j;rw [hy] at hsa;cases hsx:ops[j]? with
      | none=>grind
      | some x=>rw [hsx] at hsa;simp only [Option.map_some,Ab] at hsa;exact hc j x hsx hS e (by grind) hb
     have hfor': ∀j x,m≤j→ops[j]? =some x→ ∀i,i<j→z2u ops i x:=fun j x hj hx i hij S hc hr=>by obtain ⟨y,hy,hya⟩:=back j x hx;exact hfor j y hj hy i hij S (hcl0 S hc) fun e he hb=>hr e (by grind) hb
     have dG: ∀i,(Array.replicate ops.size false).getD i false=false:=fun i=>by by_cases hi:i<ops.size <;> simp [hi]
     obtain ⟨l,hl,hlm⟩:=x4a dQ hm hfor' ops.size (w.tape w.drawn (.order b.fn id)) (Array.replicate ops.size false) (by simp) (fun j x hx hS=>by grind) (by
      simp_all) (fun q _=>dG q)
     rw [hl] at hw2;obtain ⟨a',w',⟨_,hd',ρ',q1,q2,q3⟩,cU⟩:=z6z (b:=b) (k:=k') (cs:=css++cs0) (fun e a w hq=>hq.1) hm' dC hgd (r:=(List.range ops.size).drop m) (fun i hi=>by
      obtain ⟨n,hn,rfl⟩:=A7 hi;simp) l a _ hlm hw2
     have hev:=q3.drawn;refine ⟨ρ',b,a',k',css,w',ma,mb,.head stepR_region_draw ?_,⟨⟨q1,hd',htl.mono fun _ _=>y5x.mono hev.ext,⟨rfl,dC⟩,?_⟩,hs.lv,hs.rest.ev hev,q2⟩,he.trans (by grind),rfl,hev.size⟩
     ·grind [Region.schedule,Xw,Region.linearise]
     ·exact ((⟨cH,hdf,htd,hro,cP⟩:y8v ρ cx none _ rnd st.env b a _ ma).mono hev.ext).rnd
    ·cases h
   split at h;rename_i z hlz;obtain ⟨cX,dC⟩:=y7j hlz;split at h
   ·rename_i st1 hop;obtain rfl:=Ac h;have hi:=z4i hCI _ _ _ _ hop;have e:=hfl.cx;simp only at e;have hcx:cx.floor≤st.next:=by have:=hfl.le;grind
    refine ⟨⟨e,hfl.cs,AJ hfl.le hi.nxt⟩,by grind,fun ho m0 n0 ρ0 w0 ρ b a k css w ma mb hs he cs0=> ?_⟩;obtain ⟨cH,hdf,htd,hro,cP⟩:=hs.top;obtain ⟨k',rfl,htl⟩:=htd.code;have hw:=z0s hN hS hCI hC hcx cX hop ho hdf cH (hs.rel.drawn (w.drawn+1));have hw2:=wpAny_sound ops.size (w.tape w.drawn (.order b.fn id)) _ a _ hw;obtain ⟨a',w',⟨hd',ρ',q1,q2,q3⟩,cU⟩:=z4g (b:=b) (k:=k') (cs:=css++cs0) (fun e a w hq=>hq) dC _ _ _ hw2;have hev:=q3.drawn;refine ⟨ρ',b,a',k',css,w',ma,mb,.head stepR_region_draw ?_,⟨⟨q1,hd',htl.mono fun _ _=>y5x.mono hev.ext,trivial,?_⟩,hs.lv,hs.rest.ev hev,q2⟩,he.trans (by grind),rfl,hev.size⟩
    ·simp only [Region.schedule,hmx,Bool.true_or,if_true];exact cU
    ·exact ((⟨cH,hdf,htd,hro,cP⟩:y8v ρ cx none _ rnd st.env b a _ ma).mono hev.ext).rnd
   all_goals grind
  ·-- a loop over a function
   rename_i f params assign body k0;split at h
   ·rename_i g caps hg;obtain ⟨env,mem,next,orc,ob⟩:=st;simp only [St.nextId] at h;obtain ⟨hrk,h⟩:=Zv h;have hCeq: ∃fn fbody,P.funcs[g]? =some fn∧fn.body=some fbody∧C'=⟨⟨Nat.max fn.ntmps (AVal.yld next::caps).length,cx.floor,cx.sym⟩,none,[.code fbody],none,fn.results.toList,St.withEnv ⟨env,mem,next+1,orc,ob⟩ (z1z (AVal.yld next::caps) 0 .leaf),⟨cx,none,.inRangeFunc next::k0,rnd,rs,env⟩::cs,x0o lps next (some ⟨.ready,none,cx.n,env,params.toList,assign,body⟩)⟩:=by
     grind [z7p]
    obtain ⟨fn,fbody,hfn,hb,hCe⟩:=hCeq;refine ⟨by rw [hCe];exact hfl.enter (Br _),?_,fun ho m0 n0 ρ0 w0 ρ b a k css w ma mb hs he cs0=> ?_⟩
    ·rw [hCe];exact ⟨Br _,fun hbd x hx=>hbd x (Nat.le_of_succ_le hx),fun _ _ _=>rfl,fun ho=>ho⟩
    obtain ⟨cH,hdf,htd,hro,cP⟩:=hs.top;obtain ⟨k',rfl,htl⟩:=htd.code;have cD:=hs.rel;simp only at cH cD he cP hdf htl;have lay: ∃l mk w1 d,(Instr.enterLoop b.fn a.tmps params assign body b.roundOf).run P w=.ok (l,(mk:List Nat).map x7h) w1∧w1.heap[l]? =some (.loop ⟨.ready,none,b.fn,a.tmps,params,assign,body,d⟩)∧w0.heap.size≤l∧Sp ρ w1 l∧Rel ρ mem next w1∧Ev ρ0 ρ fl m0 n0 mem next w0 w1∧(rnd.isSome=true→mk=[])∧
      z7u P w0.heap.size ρ cs lps css w1 (mk++ma) mb∧(∀j L l',z3p lps j=some L→ρ.lp j=some l'→l'≠l)∧w.heap.size≤w1.heap.size:=by
     have gr: ∀(w1:World) (o:Obj) (mk:List Nat),z7u P w0.heap.size ρ cs lps css w1 mk mb→z7u P w0.heap.size ρ cs lps css (w1.alloc o) mk mb:=fun w1 o mk hr=>
      ⟨hr.cs,hr.nodup,fun r hx=>by obtain ⟨q1,q2,q3⟩:=hr.marks r hx;exact ⟨q1,(q2.grow o).1,by rw [(q2.grow o).2];exact q3⟩,fun j L hL=>by
       obtain ⟨l,q1,q2,q3,tm,fn',d,q4,q5⟩:=hr.loops j L hL;exact ⟨l,q1,q2,(q3.grow o).1,tm,fn',d,by rw [(q3.grow o).2];exact q4,q5⟩,hr.inj⟩
     have far: ∀(w1:World),z7u P w0.heap.size ρ cs lps css w1 ma mb→ ∀j L l',z3p lps j=some L→ρ.lp j=some l'→l'<w1.heap.size:=fun w1 hr j L l' hL e=>by obtain ⟨l2,q⟩:=hr.loops j L hL;have:=q.lp;rw [e] at this;obtain rfl:=Ac this;exact q.sp.1
     cases hr:b.roundOf with
     | none=>
      have hrn:rnd=none:=by
       grind
      subst hrn;have hs1:Sp ρ (w.alloc (.deferred (some []))) w.heap.size:=Sp.fresh cD _;have dA:=cD.grow (.deferred (some []));have hsz1:(w.alloc (.deferred (some []))).heap.size =w.heap.size+1:=(by simp_all);have dH:z7u P w0.heap.size ρ cs lps css (w.alloc (.deferred (some []))) ([w.heap.size]++ma) mb:=by
       have hr1:=gr w (.deferred (some [])) ma hs.rest;have hnin:w.heap.size ∉ ma++mb:=fun hin=>by have:=(hs.rest.marks _ hin).2.1.1;omega
       refine ⟨hr1.cs,by rw [AK];exact List.nodup_cons.2 ⟨hnin,hr1.nodup⟩,fun r hx=> ?_,hr1.loops,hr1.inj⟩;simp only [A8,Bd,A6] at hx;rcases hx with rfl | hx
       ·exact ⟨he.size,hs1,by show (w.heap.push _)[w.heap.size]? =_;simp⟩
       ·exact hr1.marks r hx
      refine ⟨w.heap.size+1,[w.heap.size],_,w.heap.size,run_enterLoop_outer _ _ _ _ _,?_,by have:=he.size;omega,?_,dA.grow _,(he.grow _).grow _,(fun e=>by cases e),gr _ _ _ dH,fun j L l' hL e=> ?_,?_⟩
      ·grind [World.alloc_heap_new]
      ·grind [Sp.fresh]
      ·have:=far w hs.rest j L l' hL e;omega
      ·show _≤((w.heap.push _).push _).size
       grind
     | some l0=>
      obtain ⟨j0,rfl⟩: ∃j0,rnd=some j0:=by
       grind
      obtain ⟨hma,l1,hlp1,e2⟩:=cP;rw [hr] at e2;obtain rfl:=Ac e2;subst hma;have hsome: ∃L0,z3p lps j0=some L0:=Bl.1 hrk;obtain ⟨L0,hL0⟩:=hsome;obtain ⟨l2,q1,q2,q3,tm,fn',d,q4,q5⟩:=hs.rest.loops j0 L0 hL0;rw [hlp1] at q1;obtain rfl:=Ac q1;refine ⟨w.heap.size,[],_,_,run_enterLoop_inner q4 _ _ _ _ _,World.alloc_heap_new _ _,he.size,Sp.fresh cD _,cD.grow _,he.grow _,(fun _=>rfl),gr _ _ _ hs.rest,fun j L l' hL e=> ?_,?_⟩
      ·have:=far w hs.rest j L l' hL e;omega
      simp_all
    obtain ⟨l,mk,w1,d,hen,eA,hlow,hsp,dA,hev1,hmk,dH,hne,hsz⟩:=lay;have hle:ρ.le (lpAdd ρ next l):=z8l dA.lp_none;have hlpj:(lpAdd ρ next l).lp next=some l:=Av rfl
    have get: ∀i L,z3p (x0o lps next (some L)) i=if i=next then some L else z3p lps i:=fun i L=>T.get_set none lps next (some L) i
    have hlps: ∀j L l',z3p lps j=some L→(lpAdd ρ next l).lp j=some l'→j≠next→ρ.lp j=some l':=fun j L l' _ e hj=>by
     have e:(if j=next then some l else ρ.lp j)=some l':=e
     grind
    have hrest2:z7u P w0.heap.size (lpAdd ρ next l) cs (x0o lps next (some ⟨.ready,none,cx.n,env,params.toList,assign,body⟩)) css w1 (mk++ma) mb:=by
     refine ⟨dH.cs.mono hle,dH.nodup,dH.marks,fun j L hL=> ?_,fun j j' L L' l' hL hL' e e'=> ?_⟩
     ·rw [get] at hL;by_cases hj:j=next
      ·subst hj;rw [Av rfl] at hL;obtain rfl:=Ac hL;exact ⟨l,hlpj,hlow,hsp,a.tmps,b.fn,d,by simp_all,cH.mono hle⟩
      ·rw [As hj] at hL;obtain ⟨l2,q1,q2,q3,tm,fn',d',q4,q5⟩:=dH.loops j L hL;exact ⟨l2,hle.2.2 _ _ q1,q2,q3,tm,fn',d',q4,q5.mono hle⟩
     ·rw [get] at hL hL';by_cases hj:j=next <;> by_cases hj':j'=next
      ·rw [hj,hj']
      ·grind
      ·grind
      ·rw [As hj] at hL;rw [As hj'] at hL';exact dH.inj j j' L L' l' hL hL' (hlps _ _ _ hL e hj) (hlps _ _ _ hL' e' hj')
    have hf:=(show Xz ρ (St.env ⟨env,mem,next,orc,ob⟩) cx.n a.tmps from cH).eval f;rw [hg] at hf;generalize hw':a.eval f=u at hf;cases hf with
    | fn _ _ cvs hl hh=>
     have cG:Xj (Zj (lpAdd ρ next l)) (AVal.yld next::caps) (#[Value.func (.yield l) #[] #[]]++cvs).toList :=by rw [Array.toList_append];exact .cons (.yld _ _ hlpj) (Xj.of (by simp_all) fun i h1 h2=>by simpa using (hh i h1 (by grind)).mono hle)
     have dE:=Uw hN hfn (by rw [hb];rfl) (#[Value.func (.yield l) #[] #[]]++cvs) w1;have dB:=stepR_rangeFunc (P:=P) (b:=b) (a:=a) (k:=k') (cs:=css++cs0) (g:=f) (d:=⟨.fn (.func g) cvs, #[Value.func (.yield l) #[] #[]]⟩) (w₁':=w1) hen
      (by simp_all [resolve,Deferred.ofValue,Act.eval]) (by simp only [invoke];exact dE)
     have hfr:y8v (lpAdd ρ next l) cx none (.inRangeFunc next::k0) rnd env b {a with defers:=mk.map x7h++a.defers} (.inRangeFunc l::k') (mk++ma):=
      ⟨cH.mono hle,by grind,.cons (.inR _ _ hlpj) (htl.mono fun _ _=>y5x.mono hle),trivial,by
       cases rnd with
       | none=>exact cP
       | some j=>
        obtain ⟨h0,l',h1,h2⟩:=cP;exact ⟨by grind,l',hle.2.2 _ _ h1,h2⟩⟩
     obtain ⟨_,_,_,_,_,b',a',k2,hent,hsr⟩:=z7o h hfr hs.lv hrest2 (show Rel _ mem (next+1) w1 from dA.lpAdd l) cG;refine ⟨lpAdd ρ next l,b',a',k2,_,w1,_,_,.one ?_,hsr,?_,by cases css <;> rfl,hsz⟩
     ·rw [show C'.ro=none by rw [hCe],←hent];exact dB
     ·rw [hCe];exact hev1.lpAdd dA l
   ·cases h
  ·-- a round begins
   rename_i k0;split at h
   ·rename_i j;split at h
    ·rename_i pend n env params assign body hlg;obtain rfl:=Ac h;refine ⟨⟨hfl.cx,hfl.cs,hfl.le⟩,Yw.refl _ _,fun ho m0 n0 ρ0 w0 ρ b a k css w ma mb hs he cs0=> ?_⟩;obtain ⟨cH,hdf,htd,hro,cP⟩:=hs.top;obtain ⟨rfl,lr0,hlp0,hrb⟩:=cP;obtain ⟨k',rfl,htl⟩:=z6e.item rfl htd;obtain ⟨lr,hla⟩:=hs.rest.loops j _ hlg;have hla':=hla;obtain ⟨hlp,hlow,hsp,ltmps,lfn,ld,eA,dK⟩:=hla;rw [hlp] at hlp0;obtain rfl:=Ac hlp0;have cF:=run_beginRound (P:=P) eA rfl;have cQ:=hs.rest.record (w':=w.putObj lr (.loop ⟨.busy,pend,lfn,ltmps,params.toArray,assign,body,ld⟩)) hlg hla' (L':=⟨.busy,pend,n,env,params,assign,body⟩)
      ⟨hlp,hlow,hsp.turned (Xu.put _ _ _),ltmps,lfn,ld,World.putObj_heap_same hsp.1,dK⟩ (Xu.put _ _ _)
     refine ⟨ρ,b,a,k',css,_,[],mb,.one (stepR_beginRound hrb cF),⟨⟨cH,hdf,htl,trivial,⟨rfl,lr,hlp,hrb⟩⟩,hs.lv,cQ,hs.rel.turned (fun r hr=>by grind) (Xu.put _ _ _)⟩,he.turned (m:=[lr]) (fun r hr=>by grind) (Xu.put _ _ _),rfl,Bt (Xu.put _ _ _).size.symm⟩
    ·cases h
   ·cases h
  ·-- a loop's end
   rename_i j k0;split at h
   ·cases h
   ·rename_i lst pend n env params assign body hnb hlg;obtain rfl:=Ac h;refine ⟨⟨hfl.cx,hfl.cs,hfl.le⟩,Yw.refl _ _,fun ho m0 n0 ρ0 w0 ρ b a k css w ma mb hs he cs0=> ?_⟩;obtain ⟨cH,hdf,htd,hro,cP⟩:=hs.top;obtain ⟨lr,hla⟩:=hs.rest.loops j _ hlg;have hla':=hla;obtain ⟨hlp,hlow,hsp,ltmps,lfn,ld,eA,dK⟩:=hla;cases htd with
    | @cons _ y _ k' hx htl=>
     cases hx with
     | same _ hp=>cases hp
     | endR _ l hl =>
      rw [hlp] at hl;obtain rfl:=Ac hl;have hb:lst≠ .busy :=fun e=>by grind
      have cF:=run_endLoop (P:=P) eA hb;have cQ:=hs.rest.record (w':=w.putObj lr (.loop ⟨.exhausted,pend,lfn,ltmps,params.toArray,assign,body,ld⟩)) hlg hla' (L':=⟨.exhausted,pend,n,env,params,assign,body⟩)
       ⟨hlp,hlow,hsp.turned (Xu.put _ _ _),ltmps,lfn,ld,World.putObj_heap_same hsp.1,dK⟩ (Xu.put _ _ _)
      refine ⟨ρ,b,a,_,css,_,ma,mb,.one (stepR_endRangeFunc cF),⟨⟨cH,hdf,?_,trivial,cP⟩,hs.lv,cQ,hs.rel.turned (fun r hr=>by grind) (Xu.put _ _ _)⟩,he.turned (m:=[lr]) (fun r hr=>by grind) (Xu.put _ _ _),rfl,Bt (Xu.put _ _ _).size.symm⟩;cases pend with
      | none=>exact htl
      | some c=>exact .cons (.same _ rfl) htl
   ·cases h
  ·cases h
theorem y9l {S:Specs} {Rc:Runner} {n:Nat} {C:Cfg}:runS P S Rc (n+1) C=(bif Qd C then some C else match y6h P S Rc C with
  | some C'=>runS P S Rc n C'
  | none=>none):=rfl
theorem z5d {C:Cfg} (h:Qd C=true):C.ro=none∧C.rnd=none∧C.cs=[]∧(C.todo=[]∨ ∃t,C.todo=.code .ret ::t):=by
 unfold Qd at h
 grind
theorem z2k.trans {fl:Nat} {A B C:Cfg} (h:z2k P fl A B) (k:z2k P fl B C):z2k P fl A C:=by intro m0 n0 ρ0 w0 ρ b a t css w ma mb hs he cs0;obtain ⟨ρ1,b1,a1,t1,css1,w1,ma1,mb1,s1,r1,e1,q1,z1⟩:=h m0 n0 ρ0 w0 ρ b a t css w ma mb hs he cs0;obtain ⟨ρ2,b2,a2,t2,css2,w2,ma2,mb2,s2,r2,e2,q2,z2⟩:=k m0 n0 ρ0 w0 ρ1 b1 a1 t1 css1 w1 ma1 mb1 r1 e1 cs0;exact ⟨ρ2,b2,a2,t2,css2,w2,ma2,mb2,s1.trans s2,r2,e2,q2.trans q1,AJ z1 z2⟩
theorem z8d {S:Specs} {Rc:Runner} (hN:Qa P) (hmx:P.follows .mixedOrders =true) (hS:Zk P S) (hCI:y5w Rc) (hC:ROk P Rc) {fl:Nat}: ∀(n:Nat) (C C':Cfg),Fl fl C→runS P S Rc n C=some C'→Qd C'=true∧Yw fl C.st C'.st∧(C'.st.ob=true→z2k P fl C C')
 | 0,C,st',_,h=>by cases h
 | n+1,C,C',hfl,h=>by
  rw [y9l] at h;cases hf:Qd C with
  | true=>rw [hf] at h;obtain rfl:=Ac h;exact ⟨hf,Yw.refl _ _,fun _=>z2k.refl fl C⟩
  | false=>
   rw [hf,Ai] at h;split at h
   ·rename_i C1 h1;have s1:=z9p hN hmx hS hCI hC hfl h1;obtain ⟨f1,f4,f5⟩:=z8d hN hmx hS hCI hC n C1 C' s1.fls h;exact ⟨f1,s1.inv.trans f4,fun ho=>(s1.leads (f4.ob ho)).trans (f5 ho)⟩
   ·cases h
theorem z6e.refl_plain {ρ:Rho}: ∀(k:List Item),k.all Uk=true→z6e ρ k k
 | [],_=>.nil
 | x::k,h=>by simp only [A5,Ad] at h;exact .cons (.same x h.1) (z6e.refl_plain k h.2)
theorem z7c (base:Nat) (ρ:Rho) (w:World):z7u P base ρ [] .leaf [] w [] []:=
 ⟨.nil,List.nodup_nil,(fun r hr=>by cases hr),(fun j L hL=>by cases hL),(fun j j' L L' l hL=>by cases hL)⟩
theorem y9m (hN:Qa P) (hmx:P.follows .mixedOrders =true) {S:Specs} (hS:Zk P S) (n:Nat): ∀d,y5w (x6m P S n d)∧ROk P (x6m P S n d)
 | 0=>⟨(fun cx todo st st' h=>by cases h),(fun cx todo st st' _ h=>by cases h)⟩
 | d+1=>by
  obtain ⟨hCI,hC⟩:=y9m hN hmx hS n d;have key: ∀{cx todo st st'},x6m P S n (d+1) cx todo st=some st'→todo.all Uk=true∧Fl cx.floor ⟨cx,none,todo,none,[],st,[],.leaf⟩∧ ∃C',runS P S (x6m P S n d) n ⟨cx,none,todo,none,[],st,[],.leaf⟩=some C'∧C'.cx.n=cx.n∧C'.st=st':=by
   intro cx todo st st' h;have h:(bif todo.all Uk&&Nat.ble cx.floor st.next then match runS P S (x6m P S n d) n ⟨cx,none,todo,none,[],st,[],.leaf⟩ with
    | some C=>bif Nat.beq C.cx.n cx.n then some C.st else none
    | none=>none
    else none)=some st':=h
   obtain ⟨hp,h⟩:=Zv h;simp only [Ad] at hp;refine ⟨hp.1,⟨rfl,fun af haf=>(by cases haf),Ae hp.2⟩,?_⟩;split at h
   ·rename_i C' hr;obtain ⟨hn,h⟩:=Zv h;simp_all
   ·cases h
  refine ⟨fun cx todo st st' h=> ?_,fun cx todo st st' hcx h ho ρ a w b cs hd cH cD=> ?_⟩
  ·obtain ⟨_,hfl,C',hr,_,rfl⟩:=key h;exact (z8d hN hmx hS hCI hC n _ C' hfl hr).2.1
  ·obtain ⟨hpl,hfl,C',hr,hn,rfl⟩:=key h;obtain ⟨f1,f2,f3⟩:=z8d hN hmx hS hCI hC n _ C' hfl hr;obtain ⟨e1,e2,e3,e4⟩:=z5d f1;obtain ⟨ρ',b',a',k',css',w',ma',mb',s1,r1,v1,q1,_⟩:=f3 ho st.mem st.next ρ w ρ {b with roundOf:=none} a todo [] w [] []
    ⟨⟨cH,hd,z6e.refl_plain todo hpl,trivial,rfl⟩,fun h=>absurd rfl h,z7c _ _ _,cD⟩ (Ev.refl _ _ _ _ _ cD.dom) cs
   have hcs:=r1.rest.cs;rw [e3] at hcs;cases hcs;obtain ⟨w2,s2,henv',cW,dL,_,_⟩:=z5g r1 e1 e2 e4 rfl v1 cs;refine ⟨ρ',{a' with defers:=[]},k',w2,?_,rfl,by grind,cW,dL⟩;have hb:b.at a todo=Frame.atR {b with roundOf:=none} a (Xw none todo):=rfl;have hb':Frame.atR b' {a' with defers:=[]} k'=b.at {a' with defers:=[]} k':=by
    have q:(b'.fn,b'.kind,b'.roundOf)=(b.fn,b.kind,none):=q1
    grind [Frame.atR,Frame.at]
   rw [hb,←hb'];exact s1.trans s2
end
structure z1m where
 keep:List Nat
 frz:List Nat
 slots:List (Option (List Nat))
 lslots:List (Option (List Nat)):=[]
def z2z (b:Nat):List Nat→Nat→Option Nat
 | [],_=>none
 | x::l,i=>bif Nat.beq x b then some i else z2z b l (i+1)
def hasN (b:Nat):List Nat→Bool
 | []=>false
 | x::l=>bif Nat.beq x b then true else hasN b l
def x4u (cells:List AVal) (off sz:Nat):Nat→List AVal:=fun k=>(cells.drop (off+k*sz)).take sz
def frzV (P:Program) (blk:ABlk):AVal→AVal
 | .ptr _ o=>.dptr (blk.cells.drop o)
 | .sl _ off len _=>match P.info? blk.ty with
  | some i=>bif Nat.ble (off+len*i.size) blk.cells.length then .dat len (x4u blk.cells off i.size) else .undef
  | none=>.undef
 | .sla _ sz off len _=>match blk.arr with
  | some A=>bif Nat.beq A.sz sz&&Nat.ble (off+len) A.n then .dat len (fun k=>A.get (off+k)) else .undef
  | none=>.undef
 | _=>.undef
def renB (P:Program) (mem:Mem) (N:z1m) (b:Nat) (v:AVal) (f:Nat→AVal):AVal:=
 match z2z b N.keep 0 with
 | some b'=>f b'
 | none=>bif hasN b N.frz then match Ze mem b with
   | some blk=>frzV P blk v
   | none=>.undef
  else .undef
def ren (P:Program) (mem:Mem) (N:z1m):Nat→AVal→AVal
 | 0,_=>.undef
 | d+1,v=>match v with
  | .ptr b o=>renB P mem N b (.ptr b o) fun b'=>.ptr b' o
  | .sl b off len cap=>renB P mem N b (.sl b off len cap) fun b'=>.sl b' off len cap
  | .sla b sz off len cap=>renB P mem N b (.sla b sz off len cap) fun b'=>.sla b' sz off len cap
  | .epa b sz i fo=>renB P mem N b (.epa b sz i fo) fun b'=>.epa b' sz i fo
  | .yld j=>match z2z j N.keep 0 with
   | some j'=>.yld j'
   | none=>.undef
  | .slv b sz off len=>match z2z b N.keep 0 with
   | some b'=>.slv b' sz off len
   | none=>.undef
  | .mapr b=>match z2z b N.keep 0 with
   | some b'=>.mapr b'
   | none=>.undef
  | .agg cs=>.agg (cs.map (ren P mem N d))
  | .tup cs=>.tup (cs.map (ren P mem N d))
  | .fn f cs=>.fn f (cs.map (ren P mem N d))
  | .fnb f cs=>.fnb f (cs.map (ren P mem N d))
  | .ifc t v=>.ifc t (ren P mem N d v)
  | v=>v
def T.map (f:AVal→AVal) (t:T AVal):T AVal:=
 T.rec (motive:=fun _=>T AVal) .leaf (fun v _ _ l r=>.node (f v) l r) t
def z4y (f:AVal→AVal) (env:T AVal):List Nat→T AVal
 | []=>.leaf
 | t::l=>T.set .undef (z4y f env l) t (f (T.get .undef env t))
def x5p (f:AVal→AVal) (env:T AVal):Option (List Nat)→T AVal
 | none=>T.map f env
 | some l=>z4y f env l
def z0p (f:AVal→AVal):Rws→Rws
 | .flat g=>.flat g
 | .one r cs b=>.one r (cs.map f) (z0p f b)
 | .alt c a b=>.alt c (z0p f a) (z0p f b)
def z7d (P:Program) (mem:Mem) (N:z1m):ABlk→ABlk
 | ⟨cells,ty,none⟩=>⟨cells.map (ren P mem N 6),ty,none⟩
 | ⟨_,ty,some A⟩=>⟨rows A.n (z0p (ren P mem N 6) A.rw).get,ty,some ⟨A.sz,A.n,z0p (ren P mem N 6) A.rw⟩⟩
def z7n :Rws→Bool
 | .flat g=>pd (∀i,(g i).all (pf 6)=true)
 | .one _ _ b=>z7n b
 | .alt _ a b=>z7n a&&z7n b
def x4l (blk:ABlk):Bool:=match blk.arr with
 | none=>true
 | some A=>z7n A.rw
def z0y (P:Program) (mem:Mem) (N:z1m):List Nat→Nat→Mem×Bool
 | [],_=>(.leaf,true)
 | b::l,i=>match z0y P mem N l (i+1) with
  | (m,o)=>match Ze mem b with
   | none=>(m,o)
   | some blk=>(Ya m i (some (z7d P mem N blk)),x4l blk&&o)
def z1a (mem:Mem):List Nat→Bool
 | []=>true
 | b::l=>match Ze mem b with
  | none=>z1a mem l
  | some blk=>(match blk.arr with
   | none=>blk.cells.all (pf 6)
   | some A=>pd (∀i,(A.get i).all (pf 6)=true))&&z1a mem l
def y3e (f:AVal→AVal) (lps:Loops):List Nat→Nat→List (Option (List Nat))→Loops
 | [],_,_=>.leaf
 | b::l,i,sl=>match z3p lps b with
  | none=>y3e f lps l (i+1) sl.tail
  | some ⟨st,pend,n,env,params,assign,body⟩=>x0o (y3e f lps l (i+1) sl.tail) i (some ⟨st,pend,n,x5p f env (sl.headD none),params,assign,body⟩)
def z1p (keep:List Nat):Item→Option Item
 | .inRangeFunc j=>(z2z j keep 0).map .inRangeFunc
 | .endRangeFunc j=>(z2z j keep 0).map .endRangeFunc
 | x=>bif Uk x then some x else none
def Qu (keep:List Nat):List Item→Option (List Item)
 | []=>some []
 | x::l=>match z1p keep x,Qu keep l with
  | some y,some m=>some (y::m)
  | _,_=>none
def z9u (keep:List Nat):Option Nat→Option (Option Nat)
 | none=>some none
 | some j=>(z2z j keep 0).map some
def y6x (f:AVal→AVal) (keep:List Nat):List AFr→List (Option (List Nat))→Option (List AFr)
 | [],_=>some []
 | ⟨cx,ro,todo,rnd,rs,env⟩::cs,sl=>match Qu keep todo,z9u keep rnd,y6x f keep cs sl.tail with
  | some todo',some rnd',some cs'=>some (⟨cx,ro,todo',rnd',rs,x5p f env (sl.headD none)⟩::cs')
  | _,_,_=>none
def disj :List Nat→List Nat→Bool
 | [],_=>true
 | b::l,frz=> !hasN b frz&&(!hasN b l&&disj l frz)
def x3q (P:Program) (N:z1m):Cfg→Option Cfg
 | ⟨cx,ro,todo,rnd,rs,⟨env,mem,next,orc,ob⟩,cs,lps⟩=>
  match Qu N.keep todo,z9u N.keep rnd,y6x (ren P mem N 6) N.keep cs N.slots.tail with
  | some todo',some rnd',some cs'=>
   bif disj N.keep N.frz then
    match z0y P mem N N.keep 0 with
    | (mem',o)=>some ⟨cx,ro,todo',rnd',rs,⟨x5p (ren P mem N 6) env (N.slots.headD none),mem',N.keep.length,[],o&&(z1a mem N.frz&&ob)⟩,cs',y3e (ren P mem N 6) lps N.keep 0 N.lslots⟩
   else none
  | _,_,_=>none
def atP :Code→List Nat→List Item→Code×List Item
 | c,[],k=>(c,k)
 | .seq a b,0::p,k=>atP a p (.code b::k)
 | .seq _ b,_::p,k=>atP b p k
 | .block id c,_::p,k=>atP c p (.inBlock id::k)
 | .loop c,_::p,k=>atP c p (.inLoop c::k)
 | .scope c,_::p,k=>atP c p (.inScope c::k)
 | .cond _ a _,0::p,k=>atP a p k
 | .cond _ _ b,_::p,k=>atP b p k
 | .rangeFunc _ _ a b,0::p,_=>atP a p [.beginRound,.code b]
 | .rangeFunc _ _ _ b,_::p,_=>atP b p []
 | c,_::_,k=>(c,k)
def Yh (P:Program) (f:FuncId) (p:List Nat) (j:Nat):List Item:=match atP (x6a P f) p [] with
 | (c,k)=>(.code c::k).drop j
def codeP (P:Program) (f:FuncId) (p:List Nat):Code:=(atP (x6a P f) p []).1
def z3m (P:Program) (f:FuncId) (p:List Nat) (i:Nat):Option RegOps:=match codeP P f p with
 | .region _ ops _=>some (ops,i,ops.toList.drop i)
 | _=>none
def x4f (P:Program) (S:Specs) (Rc:Runner) (n:Nat):Cfg→Option Cfg:=
 Nat.rec (motive:=fun _=>Cfg→Option Cfg) (fun C=>some C) (fun _ R C=>match y6h P S Rc C with
  | some C'=>R C'
  | none=>none) n
section
variable {P:Program}
theorem Wu {p:Prop} (h:pd p=true):p:= @Ax p (Classical.propDecidable p) h
theorem pd_true {p:Prop} (h:p):pd p=true:= @Ah p (Classical.propDecidable p) h
theorem z7m {b:Nat}: ∀{l:List Nat} {i j:Nat},z2z b l i=some j→i≤j∧l[j - i]? =some b
 | [],i,j,h=>by cases h
 | x::l,i,j,h=>by
  unfold z2z at h;rcases Xc h with ⟨hx,h⟩ | ⟨_,h⟩
  ·simp_all
  ·obtain ⟨h1,h2⟩:=z7m h
   grind
theorem z3r {b:Nat}: ∀{l:List Nat},hasN b l=true↔b∈l
 | []=>by simp [hasN]
 | x::l=>by
  unfold hasN;cases hx:Nat.beq x b with
  | true=>simp [Af hx]
  | false=>
   have:x≠b:=fun e=>by rw [e,Nat.beq_refl] at hx;cases hx
   rw [Ai,z3r,A6];exact ⟨.inr,fun h=>h.resolve_left fun e=>this e.symm⟩
theorem z5i : ∀{l frz:List Nat},disj l frz=true→l.Nodup∧ ∀b∈l,b ∉ frz
 | [],_,_=>⟨List.nodup_nil,fun b hb=>by cases hb⟩
 | x::l,frz,h=>by
  unfold disj at h;simp only [Ad,AM] at h;obtain ⟨h1,h2,h3⟩:=h;obtain ⟨i1,i2⟩:=z5i h3;have n1:x ∉ frz:=fun hm=>by rw [z3r.2 hm] at h1;cases h1
  have n2:x ∉ l:=fun hm=>by rw [z3r.2 hm] at h2;cases h2
  exact ⟨List.nodup_cons.2 ⟨n2,i1⟩,fun b hb=>by
   rcases A6.1 hb with rfl | hb
   ·exact n1
   ·exact i2 b hb⟩
def Fz (ρ:Rho) (mem:Mem) (N:z1m) (k:Nat):Prop:= ∃b l,b∈N.frz∧ρ b=some l∧(Ze mem b).isSome =true∧l.blk=k
def z4b (ρ:Rho) (mem:Mem) (N:z1m) (w:World):Rho:=
 ⟨fun b'=>(N.keep[b']?).bind fun b=>ρ b,fun k=> @ite _ (Fz ρ mem N k) (Classical.propDecidable _) (w.heap[k]?) (ρ.fz k),fun j'=>(N.keep[j']?).bind fun j=>ρ.lp j⟩
theorem Jk {ρ:Rho} {mem:Mem} {next:Nat} {w:World} (h:Rel ρ mem next w) (N:z1m) {k:Nat} {o:Obj} (e:ρ.fz k=some o):(z4b ρ mem N w).fz k=some o:=by
 show @ite _ (Fz ρ mem N k) (Classical.propDecidable _) (w.heap[k]?) (ρ.fz k)=some o;by_cases hf:Fz ρ mem N k
 ·obtain ⟨b,l,_,hb,hm,rfl⟩:=hf;have:=h.sep b l hb hm
  grind
 grind
theorem y2h {ρ:Rho} {mem:Mem} {w:World} {N:z1m} {b:Nat} {l:Loc} (hb:b∈N.frz) (hl:ρ b=some l) (hm:(Ze mem b).isSome =true):(z4b ρ mem N w).fz l.blk=w.heap[l.blk]? :=
 Av ⟨b,l,hb,hl,hm,rfl⟩
theorem Ke {ρ:Rho} {mem:Mem} {next:Nat} {w:World} (h:Rel ρ mem next w) (N:z1m):ρ.bare.le (z4b ρ mem N w).bare :=⟨fun _ _ e=>(by cases e),fun _ _ e=>Jk h N e,fun _ _ e=>(by cases e)⟩
theorem Wm {ρ:Rho} {mem:Mem} {w:World} {N:z1m} {b b':Nat} (h:z2z b N.keep 0=some b'):(z4b ρ mem N w) b'=ρ b∧(z4b ρ mem N w).lp b'=ρ.lp b:=by
 obtain ⟨_,h2⟩:=z7m h;rw [Nat.sub_zero] at h2;constructor
 ·show (N.keep[b']?).bind _=_;rw [h2];rfl
 ·show (N.keep[b']?).bind _=_;rw [h2];rfl
theorem Qp {mem:Mem}: ∀{frz:List Nat},z1a mem frz=true→ ∀b∈frz,∀blk,Ze mem b=some blk→(match blk.arr with | none=>blk.cells.all (pf 6)=true | some A=> ∀i,(A.get i).all (pf 6)=true)
 | [],_,b,hb,_,_=>by cases hb
 | x::l,h,b,hb,blk,hm=>by
  unfold z1a at h;rcases A6.1 hb with rfl | hb
  ·rw [hm] at h;simp only [Ad] at h;cases hA:blk.arr with
   | none=>have:=h.1;rw [hA] at this;exact this
   | some A=>have:=h.1;rw [hA] at this;exact Wu this
  ·cases hx:Ze mem x with
   | none=>rw [hx] at h;exact Qp h b hb blk hm
   | some blk'=>rw [hx] at h;simp only [Ad] at h;exact Qp h.2 b hb blk hm
theorem z5b {mem:Mem} {next:Nat} {w:World} {ρ:Rho} (h:Rel ρ mem next w) {N:z1m} (ho:z1a mem N.frz=true) {b:Nat} (hb:b∈N.frz) {blk:ABlk} (hm:Ze mem b=some blk) {l:Loc} (hl:ρ b=some l):
  ∃val:Nat→Value,∀(i:Nat) (hi:i<blk.cells.length),Zj (z4b ρ mem N w).bare blk.cells[i] (val i)∧z9j (z4b ρ mem N w).fz l.blk (l.base+i) (val i):=by
 have hno:blk.isObj=false:=by
  cases hx:blk.isObj with
  | false=>rfl
  | true=>
   have hq:=Qp ho b hb blk hm;obtain ⟨cells,ty,arr⟩:=blk;unfold ABlk.isObj at hx;split at hx
   ·rename_i e;simp only [ABlk.mk.injEq] at e;obtain ⟨rfl,_,rfl⟩:=e;simp [pf] at hq
   ·cases hx
 obtain ⟨_,hn,ht,har,cs,el,h1,h2,h3⟩:=(h.blk b l blk hl hm).at hno;refine ⟨fun i=>(cs[l.base+i]?).getD undef,fun i hi=> ?_⟩;obtain ⟨v,e1,e2⟩:=h3 i hi;have hpf:pf 6 blk.cells[i]=true:=by
  have:=Qp ho b hb blk hm;cases hA:blk.arr with
  | none=>grind
  | some A=>
   rw [hA] at this;obtain ⟨q1,_,_⟩:=har A hA;have hmem:blk.cells[i]∈rows A.n A.get:=by grind
   grind [rows]
 dsimp only;rw [e1];refine ⟨(We 6 _ _ hpf e2).mono (Ke h N),cs,el,(0,0),?_,e1⟩
 grind [y2h]
theorem y7v {mem:Mem} {next:Nat} {w:World} {ρ:Rho} (h:Rel ρ mem next w) {N:z1m} (ho:z1a mem N.frz=true) {b:Nat} (hb:b∈N.frz) {blk:ABlk} (hm:Ze mem b=some blk) {v:AVal} {u:Value} (hv:Zj ρ v u)
  (hvb:(∃o,v=.ptr b o)∨(∃off len cap,v=.sl b off len cap)∨(∃sz off len cap,v=.sla b sz off len cap)∨ ∃sz i fo,v=.epa b sz i fo):Zj (z4b ρ mem N w) (frzV P blk v) u:=by
 rcases hvb with ⟨o,rfl⟩ | ⟨off,len,cap,rfl⟩ | ⟨sz,off,len,cap,rfl⟩ | ⟨sz,i,fo,rfl⟩
 ·cases hv with
  | ptr _ _ l hl=>
   obtain ⟨val,cR⟩:=z5b h ho hb hm hl;refine .dptr _ _ _ (fun j=>val (o+j)) (fun j hj=> ?_) (fun j hj=> ?_);all_goals grind
 ·simp only [frzV];split
  ·rename_i i hi;cases hc:Nat.ble (off+len*i.size) blk.cells.length with
   | false=>exact .undef _
   | true=>
    rw [Ap];have hle:=Ae hc;cases hv with
    | sl _ _ _ _ l c hl _ cE=>
     obtain ⟨val,cR⟩:=z5b h ho hb hm hl;have hin: ∀k,k<len→k*i.size+i.size≤len*i.size:=fun k hk=>by
      have:=At i.size (show k+1≤len from hk)
      grind
     refine .dat len _ l.blk (l.base+off) i.size c (fun k j=>val (off+(k*i.size+j))) cE (fun k hk=> ?_) (fun k j hk hj=> ?_) (fun k j hk hj=> ?_);all_goals grind [x4u]
  ·exact .undef _
 ·simp only [frzV];split
  ·rename_i A hA;cases hc:(Nat.beq A.sz sz&&Nat.ble (off+len) A.n) with
   | false=>exact .undef _
   | true=>
    rw [Ap];simp only [Ad] at hc;obtain rfl:=Af hc.1;have hle:=Ae hc.2;cases hv with
    | slan=>exact .datn _
    | sla _ _ _ _ _ l c hl _ cE=>
     obtain ⟨val,cR⟩:=z5b h ho hb hm hl;obtain ⟨q1,q2,q3⟩:=(h.blk b l blk hl hm).arr A hA;have dS:=Zb A.n q3;have hrow: ∀k j,k<len→j<A.sz→ ∃hi:(off+k)*A.sz+j<blk.cells.length,blk.cells[(off+k)*A.sz+j]? =(A.get (off+k))[j]? :=fun k j hk hj=>by
      grind [Xk]
     refine .dat len _ l.blk (l.base+off*A.sz) A.sz c (fun k j=>val ((off+k)*A.sz+j)) cE (fun k hk=>q3 _ (by omega)) (fun k j hk hj=> ?_) (fun k j hk hj=> ?_);all_goals grind
  ·exact .undef _
 ·exact .undef _
theorem Jm {mem:Mem} {next:Nat} {w:World} {ρ:Rho} (h:Rel ρ mem next w) {N:z1m} (ho:z1a mem N.frz=true) {b:Nat} {v:AVal} {u:Value} {f:Nat→AVal} (hv:Zj ρ v u)
  (hvb:(∃o,v=.ptr b o)∨(∃off len cap,v=.sl b off len cap)∨(∃sz off len cap,v=.sla b sz off len cap)∨ ∃sz i fo,v=.epa b sz i fo)
  (hf: ∀b',z2z b N.keep 0=some b'→Zj (z4b ρ mem N w) (f b') u):Zj (z4b ρ mem N w) (renB P mem N b v f) u:=by
 unfold renB;split
 ·grind
 ·cases hc:hasN b N.frz with
  | false=>exact .undef _
  | true=>
   rw [Ap];split
   ·grind [y7v,z3r]
   ·exact .undef _
theorem Jp {mem:Mem} {next:Nat} {w:World} {ρ:Rho} (h:Rel ρ mem next w) {N:z1m} (ho:z1a mem N.frz=true): ∀(d:Nat) (v:AVal) (u:Value),Zj ρ v u→Zj (z4b ρ mem N w) (ren P mem N d v) u
 | 0,_,_,_=>.undef _
 | d+1,v,u,hv=>by
  have ih:=fun v u=>Jp h ho (N:=N) d v u;have list: ∀{cs:List AVal} {vs:Array Value},cs.length=vs.size→(∀(i:Nat) (h1:i<cs.length) (h2:i<vs.size),Zj ρ cs[i] vs[i])→
    (cs.map (ren P mem N d)).length =vs.size∧ ∀(i:Nat) (h1:i<(cs.map (ren P mem N d)).length) (h2:i<vs.size),Zj (z4b ρ mem N w) (cs.map (ren P mem N d))[i] vs[i]:=fun hl hh=>
   ⟨by simpa using hl,fun i h1 h2=>by simpa using ih _ _ (hh i (by simpa using h1) h2)⟩
  unfold ren;cases hv with
  | undef=>exact .undef _
  | bool b=>exact .bool b
  | int k n=>exact .int k n
  | str s=>exact .str s
  | agg cs vs hl hh=>exact .agg _ _ (list hl hh).1 (list hl hh).2
  | tup cs vs hl hh=>exact .tup _ _ (list hl hh).1 (list hl hh).2
  | fn f cs vs hl hh=>exact .fn f _ _ (list hl hh).1 (list hl hh).2
  | fnb f cs vs hl hh=>exact .fnb f _ _ (list hl hh).1 (list hl hh).2
  | ptr b o l hl=>exact Jm h ho (.ptr b o l hl) (.inl ⟨o,rfl⟩) fun b' hb'=>.ptr b' o l (by rw [(Wm hb').1];exact hl)
  | nilp=>exact .nilp
  | sl b off len cap l c hl hc cE=>exact Jm h ho (.sl b off len cap l c hl hc cE) (.inr (.inl ⟨off,len,cap,rfl⟩)) fun b' hb'=>.sl b' off len cap l c (by rw [(Wm hb').1];exact hl) hc cE
  | nils=>exact .nils
  | sla b sz off len cap l c hl hc cE=>exact Jm h ho (.sla b sz off len cap l c hl hc cE) (.inr (.inr (.inl ⟨sz,off,len,cap,rfl⟩))) fun b' hb'=>.sla b' sz off len cap l c (by rw [(Wm hb').1];exact hl) hc cE
  | slan b sz off cap=>exact Jm h ho (.slan b sz off cap) (.inr (.inr (.inl ⟨sz,off,0,cap,rfl⟩))) fun b' hb'=>.slan b' sz off cap
  | epa b sz i fo l hl=>exact Jm h ho (.epa b sz i fo l hl) (.inr (.inr (.inr ⟨sz,i,fo,rfl⟩))) fun b' hb'=>.epa b' sz i fo l (by rw [(Wm hb').1];exact hl)
  | nilf=>exact .nilf
  | yld j l hl=>
   simp only;split
   ·rename_i j' hj';exact .yld j' l (by rw [(Wm hj').2];exact hl)
   ·exact .undef _
  | slv b sz off len l c hl cE=>
   simp only;split
   ·rename_i j' hj';exact .slv j' sz off len l c (by rw [(Wm hj').1];exact hl) cE
   ·exact .undef _
  | slve b sz off blk base c=>
   simp only;split
   ·exact .slve _ sz off blk base c
   ·exact .undef _
  | slvn b sz off=>
   simp only;split
   ·exact .slvn _ sz off
   ·exact .undef _
  | ifc t a v hv=>exact .ifc t _ _ (ih _ _ hv)
  | nili=>exact .nili
  | mapr b l hl=>
   simp only;split
   ·rename_i j' hj';exact .mapr j' l (by rw [(Wm hj').1];exact hl)
   ·exact .undef _
  | ifbt=>exact .ifbt
  | ifbf t v=>exact .ifbf t v
  | dat len get blk base sz cap val cK hsz hv hh=>refine .dat len get blk base sz cap val cK hsz (fun i j hi hj=>(hv i j hi hj).mono (Ke h N)) (fun i j hi hj=> ?_);obtain ⟨cs,el,fz,e1,e2⟩:=hh i j hi hj;exact ⟨cs,el,fz,Jk h N e1,e2⟩
  | datn get=>exact .datn get
  | datz get a c=>exact .datz get a c
  | nnl len get a c hd=>exact .nnl len get a c ((We 1 _ _ rfl hd).mono (Rho.le_trans (Ke h N) (z5s _)))
  | dptr cs blk base val hv hh=>refine .dptr cs blk base val (fun j hj=>(hv j hj).mono (Ke h N)) (fun j hj=> ?_);obtain ⟨cs',el,fz,e1,e2⟩:=hh j hj;exact ⟨cs',el,fz,Jk h N e1,e2⟩
theorem T.get_map {f:AVal→AVal} (hf:f .undef =.undef): ∀(t:T AVal) (i:Nat),T.get .undef (T.map f t) i=f (T.get .undef t i)
 | .leaf,i=>hf.symm
 | .node v l r,0=>rfl
 | .node v l r,i+1=>by
  show T.get .undef (.node (f v) (T.map f l) (T.map f r)) (i+1)=_;rw [T.get_succ,T.get_succ];split
  ·exact T.get_map hf l _
  ·exact T.get_map hf r _
theorem z1w {f:AVal→AVal} (env:T AVal): ∀(L:List Nat) (t:Nat),T.get .undef (z4y f env L) t=if t∈L then f (T.get .undef env t) else .undef
 | [],t=>by simp [z4y]
 | x::L,t=>by
  unfold z4y;rw [T.get_set,z1w env L t];by_cases h:t=x
  ·subst h;simp
  ·simp [h]
theorem y4t {mem:Mem} {next:Nat} {w:World} {ρ:Rho} (h:Rel ρ mem next w) {N:z1m} (ho:z1a mem N.frz=true) {env:T AVal} {n:Nat} {tmps:Array Value} (he:Xz ρ env n tmps): ∀(L:Option (List Nat)),Xz (z4b ρ mem N w) (x5p (ren P mem N 6) env L) n tmps
 | none=>by
  refine ⟨he.size,fun i=> ?_,fun i hi=> ?_⟩
  ·show Zj _ (T.get .undef (T.map (ren P mem N 6) env) i) _;rw [T.get_map rfl];exact Jp h ho 6 _ _ (he.get i)
  ·show T.get .undef (T.map (ren P mem N 6) env) i=_;rw [T.get_map rfl,he.out i hi];rfl
 | some L=>by
  refine ⟨he.size,fun i=> ?_,fun i hi=> ?_⟩
  ·show Zj _ (T.get .undef (z4y (ren P mem N 6) env L) i) _;rw [z1w];split
   ·exact Jp h ho 6 _ _ (he.get i)
   ·exact .undef _
  ·show T.get .undef (z4y (ren P mem N 6) env L) i=_;rw [z1w,he.out i hi];split <;> rfl
theorem y0i {mem:Mem} {N:z1m}: ∀(l:List Nat) (i j:Nat),Ze (z0y P mem N l i).1 j=if i≤j then (l[j - i]?).bind fun b=>(Ze mem b).map (z7d P mem N) else none
 | [],i,j=>by simp [z0y,Ze]
 | b::l,i,j=>by
  unfold z0y;have ih:=y0i (mem:=mem) (N:=N) l (i+1);have tail:i<j→(b::l)[j - i]? =l[j - (i+1)]? :=fun h=>by rw [show j - i=(j - (i+1))+1 by omega];rfl
  cases hm:Ze mem b with
  | none=>
   show Ze (z0y P mem N l (i+1)).1 j=_;rw [ih];rcases A0 i j with h | h | h
   ·rw [Av (by omega),Av (by omega),tail h]
   ·subst h;rw [As (by omega),Av (by omega)];simp [hm]
   ·rw [As (by omega),As (by omega)]
  | some blk=>
   show Ze (Ya (z0y P mem N l (i+1)).1 i (some (z7d P mem N blk))) j=_;rw [Xv,ih];rcases A0 i j with h | h | h
   ·rw [As (by omega),Av (by omega),Av (by omega),tail h]
   ·subst h;rw [Av rfl,Av (by omega)];simp [hm]
   ·rw [As (by omega),As (by omega),As (by omega)]
theorem z1v {mem:Mem} {N:z1m}: ∀(l:List Nat) (i:Nat),(z0y P mem N l i).2=true→ ∀b∈l,∀blk,Ze mem b=some blk→x4l blk=true
 | [],i,_,b,hb,_,_=>by cases hb
 | x::l,i,h,b,hb,blk,hm=>by
  unfold z0y at h;cases hx:Ze mem x with
  | none=>
   rw [hx] at h;rcases A6.1 hb with rfl | hb
   ·rw [hx] at hm;cases hm
   ·exact z1v l (i+1) h b hb blk hm
  | some blk'=>
   rw [hx] at h;have h:(x4l blk'&&(z0y P mem N l (i+1)).2)=true:=h;simp only [Ad] at h;rcases A6.1 hb with rfl | hb
   ·rw [hx] at hm;obtain rfl:=Ac hm;exact h.1
   ·exact z1v l (i+1) h.2 b hb blk hm
theorem Kn {f:AVal→AVal} {lps:Loops}: ∀(l:List Nat) (i:Nat) (sl:List (Option (List Nat))) (j:Nat) (L:ALoop),z3p (y3e f lps l i sl) j=some L→i≤j∧ ∃b L0 x,l[j - i]? =some b∧z3p lps b=some L0∧L=⟨L0.st,L0.pend,L0.n,x5p f L0.env x,L0.params,L0.assign,L0.body⟩
 | [],i,sl,j,L,h=>by cases h
 | b::l,i,sl,j,L,h=>by
  unfold y3e at h;split at h
  ·obtain ⟨h1,b',L0,x,h2,h3,h4⟩:=Kn l (i+1) _ j L h
   grind
  ·rename_i st pend n env params assign body hb;rw [show z3p (x0o (y3e f lps l (i+1) sl.tail) i (some ⟨st,pend,n,x5p f env (sl.headD none),params,assign,body⟩)) j=if j=i then some ⟨st,pend,n,x5p f env (sl.headD none),params,assign,body⟩ else z3p (y3e f lps l (i+1) sl.tail) j from T.get_set none _ i _ j] at h;by_cases hj:j=i
   ·subst hj;rw [Av rfl] at h;obtain rfl:=Ac h;exact ⟨Aj _,b,_,_,by simp,hb,rfl⟩
   ·rw [As hj] at h;obtain ⟨h1,b',L0,x,h2,h3,h4⟩:=Kn l (i+1) _ j L h
    grind
theorem y2i {mem:Mem} {w:World} {ρ:Rho} {N:z1m} {x x' y:Item} (h:z1p N.keep x=some x') (hx:y5x ρ x y):y5x (z4b ρ mem N w) x' y:=by
 cases hx with
 | inR j l e=>simp only [z1p,Ag] at h;obtain ⟨j',hj,rfl⟩:=h;exact .inR j' l (by rw [(Wm hj).2];exact e)
 | endR j l e=>simp only [z1p,Ag] at h;obtain ⟨j',hj,rfl⟩:=h;exact .endR j' l (by rw [(Wm hj).2];exact e)
 | same x hp=>
  have:z1p N.keep x=some x:=by
   unfold z1p;split
   ·cases hp
   ·cases hp
   grind
  rw [this] at h;obtain rfl:=Ac h;exact .same _ hp
theorem z2n {mem:Mem} {w:World} {ρ:Rho} {N:z1m}: ∀{l l' m:List Item},Qu N.keep l=some l'→z6e ρ l m→z6e (z4b ρ mem N w) l' m
 | [],l',m,h,ht=>by cases ht;obtain rfl:=Ac h;exact .nil
 | x::l,l',m,h,ht=>by
  cases ht with
  | cons hx ht=>
   unfold Qu at h;split at h
   ·rename_i y k hy hk;obtain rfl:=Ac h;exact .cons (y2i hy hx) (z2n hk ht)
   ·cases h
theorem y4s {mem:Mem} {next:Nat} {w:World} {ρ:Rho} (h:Rel ρ mem next w) {N:z1m} (ho:z1a mem N.frz=true) {cx:Ctx} {ro:Option RegOps} {todo todo':List Item} {rnd rnd':Option Nat} {env:T AVal} {b:Frame} {a:Act} {k:List Item} {ms:List Nat} (ht:Qu N.keep todo=some todo') (hr:z9u N.keep rnd=some rnd')
  (hf:y8v ρ cx ro todo rnd env b a k ms) (L:Option (List Nat)):y8v (z4b ρ mem N w) cx ro todo' rnd' (x5p (ren P mem N 6) env L) b a k ms∧(rnd'=none→rnd=none):=by
 refine ⟨⟨y4t h ho hf.env L,hf.defers,z2n ht hf.todo,hf.ro,?_⟩,fun e=> ?_⟩
 ·have hrn:=hf.rnd;cases rnd with
  | none=>obtain rfl:=Ac hr;exact hrn
  | some j=>simp only [z9u,Ag] at hr;obtain ⟨j',hj,rfl⟩:=hr;obtain ⟨h0,l,h1,h2⟩:=hrn;exact ⟨h0,l,by rw [(Wm hj).2];exact h1,h2⟩
 ·cases rnd with
  | none=>rfl
  | some j=>simp_all [z9u]
theorem z9v {mem:Mem} {next:Nat} {w:World} {ρ:Rho} (h:Rel ρ mem next w) {N:z1m} (ho:z1a mem N.frz=true): ∀{cs cs':List AFr} {sl:List (Option (List Nat))} {css:List Frame} {mss:List Nat},y6x (ren P mem N 6) N.keep cs sl=some cs'→y8w P ρ cs css mss→y8w P (z4b ρ mem N w) cs' css mss∧(cs'≠ []→cs≠ [])
 | [],cs',sl,css,mss,hc,hr=>by cases hr;obtain rfl:=Ac hc;exact ⟨.nil,id⟩
 | af::cs,cs',sl,css,mss,hc,hr=>by
  cases hr with
  | cons hf hl ht=>
   unfold y6x at hc;split at hc
   ·rename_i todo' rnd' cs'' h1 h2 h3;obtain rfl:=Ac hc;obtain ⟨i1,i2⟩:=z9v h ho h3 ht;obtain ⟨f1,f2⟩:=y4s (P:=P) h ho h1 h2 hf (sl.headD none);exact ⟨.cons f1 (fun hne=>⟨(hl (i2 hne)).1,fun e=>(hl (i2 hne)).2 (f2 e)⟩) i1,fun _=>by simp⟩
   ·cases hc
def RowTo (ρ ρ':Rho) (L L':List AVal):Prop:=L'.length=L.length∧ ∀(j:Nat) (h1:j<L.length) (h2:j<L'.length) (v:Value),Zj ρ L[j] v→Zj ρ' L'[j] v
theorem z0o {mem:Mem} {next:Nat} {w:World} {ρ:Rho} (h:Rel ρ mem next w) {N:z1m} (ho:z1a mem N.frz=true): ∀(rw1:Rws),z7n rw1=true→ ∀k,RowTo ρ (z4b ρ mem N w) (rw1.get k) ((z0p (ren P mem N 6) rw1).get k)
 | .flat g,hf,k=>by refine ⟨rfl,fun j h1 h2 v hv=> ?_⟩;have dD: ∀i,(g i).all (pf 6)=true:=Wu hf;exact ((We 6 _ _ (Aw.1 (dD k) _ (AE h1)) hv).mono (Ke h N)).mono (z5s _)
 | .one r cs b,hf,k=>by
  have ih:=z0o h ho (N:=N) b hf k;have hc:RowTo ρ (z4b ρ mem N w) cs (cs.map (ren P mem N 6)):=⟨by simp,fun j h1 h2 v hv=>by simpa using Jp h ho 6 _ _ hv⟩
  simp only [z0p,Rws.get];cases Nat.beq k r with
  | true=>exact hc
  | false=>exact ih
 | .alt c a b,hf,k=>by
  simp only [z7n,Ad] at hf;have iha:=z0o h ho (N:=N) a hf.1 k;have ihb:=z0o h ho (N:=N) b hf.2 k;simp only [z0p,Rws.get];cases c k with
  | true=>exact iha
  | false=>exact ihb
theorem y6w {mem:Mem} {next:Nat} {w:World} {ρ:Rho} (h:Rel ρ mem next w) {N:z1m} (ho:z1a mem N.frz=true) (hd:disj N.keep N.frz=true) (hfl:(z0y P mem N N.keep 0).2=true):Rel (z4b ρ mem N w) (z0y P mem N N.keep 0).1 N.keep.length w:=by
 obtain ⟨hnd,hdj⟩:=z5i hd;have get: ∀j,Ze (z0y P mem N N.keep 0).1 j=(N.keep[j]?).bind fun b=>(Ze mem b).map (z7d P mem N):=fun j=>by
  grind [y0i]
 have blk: ∀{b' l},(z4b ρ mem N w) b'=some l→ ∃b,N.keep[b']? =some b∧ρ b=some l:=fun {b' l} e=>by
  have e:(N.keep[b']?).bind (fun b=>ρ b)=some l:=e
  grind
 have live: ∀{b' b},N.keep[b']? =some b→(Ze (z0y P mem N N.keep 0).1 b').isSome =true→(Ze mem b).isSome =true:=fun {b' b} e hs=>by
  grind
 refine ⟨fun b' l e=> ?_,fun b' b'' l l' e e' hbl hs hs'=> ?_,fun b' l ab e hm=> ?_,fun k o e=> ?_,fun b' l e hs=> ?_,fun b' l e=> ?_,fun b' hb=> ?_,fun j l e=> ?_,h.ldom.2.mono fun k o e=>Jk h N e⟩
 ·grind
 ·obtain ⟨b,e1,e2⟩:=blk e;obtain ⟨c,e3,e4⟩:=blk e';have:=h.inj b c l l' e2 e4 hbl (live e1 hs) (live e3 hs');subst this;exact (List.getElem?_inj (AL.1 e1).1 hnd).1 (e1.trans e3.symm)
 ·obtain ⟨b,e1,e2⟩:=blk e;rw [get,e1] at hm;simp only [Option.bind_some,Ag] at hm;obtain ⟨ab0,hm0,rfl⟩:=hm;cases h.blk b l ab0 e2 hm0 with
  | obj o r ty hab hn hh=>
   subst hab;refine .obj o (r.map (ren P mem N 6)) ty rfl (by rw [hn];simp) ?_;cases o with
   | mi ml=>obtain ⟨rfl,k⟩:=hh;exact ⟨rfl,k⟩
   | mb ml=>obtain ⟨rfl,k⟩:=hh;exact ⟨rfl,k⟩
   | it s pos=>obtain ⟨rfl,k⟩:=hh;exact ⟨rfl,k⟩
   | bld=>obtain ⟨buf,v,p,rfl,k1,k2,k3⟩:=hh;exact ⟨_,v,p,rfl,k1,Jp h ho 6 _ _ k2,k3⟩
  | plain hpl=>
  obtain ⟨hty,hn,ht,har,cs,el,g1,g2,g3⟩:=hpl;obtain ⟨cells,ty,arr⟩:=ab0;cases arr with
  | none=>
   refine .plain ⟨hty,by simpa [z7d] using hn,ht,(fun A hA=>by cases hA),cs,el,g1,g2,fun i hi=> ?_⟩
   grind [z7d,Jp]
  | some A=>
   obtain ⟨a1,a2,a3⟩:=har A rfl;simp only at a1;have hfb:x4l ⟨cells,ty,some A⟩=true:=z1v N.keep 0 hfl b (List.mem_of_getElem? e1) _ hm0;have hrow:=z0o (P:=P) h ho (N:=N) A.rw hfb;have hl': ∀i,i<A.n→((z0p (ren P mem N 6) A.rw).get i).length =A.sz:=fun i hi=>by rw [(hrow i).1];exact a3 i hi
   have k1:=Zb A.n a3;have k2:=Zb A.n hl';refine .plain ⟨hty,by show l.n=(rows A.n _).length;grind,ht,(fun B hB=>by obtain rfl:=Ac hB;exact ⟨rfl,a2,hl'⟩),cs,el,g1,g2,fun i hi=> ?_⟩;have hi':i<A.n*A.sz:=by rw [←k2];exact hi
   have hj:i %A.sz<A.sz:=Bg _ a2;have hq:i / A.sz<A.n:=AR (by grind);have e:i / A.sz*A.sz+i %A.sz=i:=by rw [Bb];exact A4 i A.sz
   have hic:i<cells.length:=by grind
   have r1:=Xk A.n a3 (i / A.sz) (i %A.sz) hq hj;have r2:=Xk A.n hl' (i / A.sz) (i %A.sz) hq hj;rw [e] at r1 r2;have hi2:i<(rows A.n (z0p (ren P mem N 6) A.rw).get).length :=hi;have j1:i %A.sz<(A.rw.get (i / A.sz)).length :=by rw [show A.rw.get=A.get from rfl,a3 _ hq];exact hj
   have j2:i %A.sz<((z0p (ren P mem N 6) A.rw).get (i / A.sz)).length :=by grind
   obtain ⟨v,q1,q2⟩:=g3 i hic;have s1:cells[i]=(A.rw.get (i / A.sz))[i %A.sz]:=by
    have:cells[i]? =some (A.rw.get (i / A.sz))[i %A.sz]:=by rw [a1,r1,show A.get=A.rw.get from rfl,An j1]
    grind
   have s2:(rows A.n (z0p (ren P mem N 6) A.rw).get)[i]'hi2=((z0p (ren P mem N 6) A.rw).get (i / A.sz))[i %A.sz]:=by
    grind
   refine ⟨v,q1,?_⟩;show Zj _ ((rows A.n (z0p (ren P mem N 6) A.rw).get)[i]'hi2) v;rw [s2];refine (hrow _).2 _ j1 j2 v ?_
   grind
 ·have e: @ite _ (Fz ρ mem N k) (Classical.propDecidable _) (w.heap[k]?) (ρ.fz k)=some o:=e;by_cases hf:Fz ρ mem N k
  ·grind
  ·rw [As hf] at e;exact h.old k o e
 ·obtain ⟨b,e1,e2⟩:=blk e;have hs0:=live e1 hs;have hnf: ¬Fz ρ mem N l.blk:=fun ⟨c,l',c1,c2,c3,c4⟩=>by
   have:=h.inj c b l' l c2 e2 c4 c3 hs0
   grind
  show @ite _ (Fz ρ mem N l.blk) (Classical.propDecidable _) (w.heap[l.blk]?) (ρ.fz l.blk)=none;rw [As hnf];exact h.sep b l e2 hs0
 ·obtain ⟨b,_,e2⟩:=blk e;exact h.real b l e2
 ·grind
 ·have e:(N.keep[j]?).bind (fun b=>ρ.lp b)=some l:=e;have:=h.ldom.1
  grind
theorem renEv {H:Old} {mem:Mem} {next:Nat} {w0 w:World} {ρ:Rho} (h:Rel ρ mem next w) {N:z1m} (he:Ev (Jn H) ρ 0 .leaf 0 mem next w0 w) (mem':Mem) (next':Nat):Ev (Jn H) (z4b ρ mem N w) 0 .leaf 0 mem' next' w0 w:=
 ⟨⟨fun b l e=>(by cases e),fun k o e=>Jk h N (he.ext.2.1 k o e),fun j l e=>(by cases e)⟩,fun b hb=>absurd hb (Ay _),AF _,fun b hb=>absurd hb (Ay _),he.frame,fun b l _ e=>by
   have e:(N.keep[b]?).bind (fun b=>ρ b)=some l:=e;rw [Option.bind_eq_some_iff] at e;obtain ⟨c,_,e2⟩:=e;exact he.fresh c l (AF _) e2,he.size,he.os,he.tape,he.output,fun k hk=>by
   have hnf: ¬Fz ρ mem N k:=fun ⟨b,l,_,e2,_,e4⟩=>by
    rcases he.fresh b l (AF _) e2 with h1 | ⟨b0,l0,e0,_⟩
    ·omega
    ·cases e0
   show @ite _ (Fz ρ mem N k) (Classical.propDecidable _) (w.heap[k]?) (ρ.fz k)=_;rw [As hnf];exact he.still k hk⟩
def z3x (P:Program) (C C':Cfg):Prop:=
 ∀(H:Old) (w0:World) (ρ:Rho) (b:Frame) (a:Act) (k:List Item) (css:List Frame) (w:World) (ma mb:List Nat),x8v P w0.heap.size C ρ b a k css w ma mb→Ev (Jn H) ρ 0 .leaf 0 C.st.mem C.st.next w0 w→ ∀cs0:List Frame,
  ∃ρ' b' a' k' css' w' ma' mb',Steps P (lone (b.atR a (Xw C.ro k)) (css++cs0) w) (lone (b'.atR a' (Xw C'.ro k')) (css'++cs0) w')∧x8v P w0.heap.size C' ρ' b' a' k' css' w' ma' mb'∧Ev (Jn H) ρ' 0 .leaf 0 C'.st.mem C'.st.next w0 w'∧y3v b' css'=y3v b css∧w.heap.size≤w'.heap.size
theorem z3x.refl (C:Cfg):z3x P C C:=fun H w0 ρ b a k css w ma mb hs he cs0=>⟨ρ,b,a,k,css,w,ma,mb,Steps.refl _ _,hs,he,rfl,Aj _⟩
theorem z3x.trans {A B C:Cfg} (h:z3x P A B) (k:z3x P B C):z3x P A C:=by intro H w0 ρ b a t css w ma mb hs he cs0;obtain ⟨ρ1,b1,a1,t1,css1,w1,ma1,mb1,s1,r1,e1,q1,z1⟩:=h H w0 ρ b a t css w ma mb hs he cs0;obtain ⟨ρ2,b2,a2,t2,css2,w2,ma2,mb2,s2,r2,e2,q2,z2⟩:=k H w0 ρ1 b1 a1 t1 css1 w1 ma1 mb1 r1 e1 cs0;exact ⟨ρ2,b2,a2,t2,css2,w2,ma2,mb2,s1.trans s2,r2,e2,q2.trans q1,AJ z1 z2⟩
theorem z2k.goes {C C':Cfg} (h:z2k P 0 C C'):z3x P C C':=fun H w0 ρ b a k css w ma mb hs he cs0=>h .leaf 0 (Jn H) w0 ρ b a k css w ma mb hs he cs0
def fl0 (C:Cfg):Bool:=Nat.beq C.cx.floor 0&&C.cs.all fun af=>Nat.beq af.cx.floor 0
theorem x4m {C:Cfg} (h:fl0 C=true):Fl 0 C:=by unfold fl0 at h;simp only [Ad] at h;exact ⟨Af h.1,fun af haf=>Af (Aw.1 h.2 af haf),AF _⟩
theorem z4c {f:AVal→AVal} {keep:List Nat} {fl:Nat}: ∀{cs cs':List AFr} {sl:List (Option (List Nat))},y6x f keep cs sl=some cs'→(∀af∈cs,af.cx.floor=fl)→ ∀af∈cs',af.cx.floor=fl
 | [],cs',sl,h,_,af,haf=>by obtain rfl:=Ac h;cases haf
 | a0::cs,cs',sl,h,hcs,af,haf=>by
  unfold y6x at h;split at h
  ·rename_i t1 r1 c1 g1 g2 g3;obtain rfl:=Ac h;rcases A6.1 haf with rfl | haf
   ·grind
   ·exact z4c g3 (fun x hx=>hcs x (List.mem_cons_of_mem _ hx)) af haf
  ·cases h
theorem y7e {N:z1m} {C C':Cfg} (h:x3q P N C=some C') (ho:C'.st.ob=true):C.st.ob=true∧z3x P C C'∧(Fl 0 C→Fl 0 C'):=by
 obtain ⟨cx,ro,todo,rnd,rs,⟨env,mem,next,orc,ob⟩,cs,lps⟩:=C;simp only [x3q] at h;split at h
 ·rename_i todo' rnd' cs' h1 h2 h3;obtain ⟨hd,h⟩:=Zv h;obtain rfl:=Ac h;simp only [Ad] at ho;obtain ⟨hkm,ho2,ho3⟩:=ho;refine ⟨ho3,fun H w0 ρ b a k css w ma mb hs he cs0=> ?_,fun hfl=>⟨hfl.cx,fun af haf=> ?_,AF _⟩⟩
  ·have cD:=hs.rel;simp only at cD he;obtain ⟨f1,f2⟩:=y4s (P:=P) cD ho2 h1 h2 hs.top (N.slots.headD none);obtain ⟨c1,c2⟩:=z9v (P:=P) cD ho2 h3 hs.rest.cs;refine ⟨z4b ρ mem N w,b,a,k,css,w,ma,mb,Steps.refl _ _,⟨f1,fun hne=>⟨(hs.lv (c2 hne)).1,fun e=>(hs.lv (c2 hne)).2 (f2 e)⟩,⟨c1,hs.rest.nodup,fun r hr=> ?_,fun j L hL=> ?_,fun j j' L L' l hL hL' e e'=> ?_⟩,?_⟩,renEv cD he _ _,rfl,Aj _⟩
   ·obtain ⟨q1,⟨q2,q3,q4⟩,q5⟩:=hs.rest.marks r hr;refine ⟨q1,⟨q2,?_,fun b' l e=> ?_⟩,q5⟩
    ·show @ite _ (Fz ρ mem N r) (Classical.propDecidable _) (w.heap[r]?) (ρ.fz r)=none;rw [As fun ⟨c,l,_,e2,_,e4⟩=>q4 c l e2 e4];exact q3
    ·have e:(N.keep[b']?).bind (fun b=>ρ b)=some l:=e
     grind
   ·obtain ⟨_,c,L0,x,e1,e2,rfl⟩:=Kn N.keep 0 _ j L hL;rw [Nat.sub_zero] at e1;obtain ⟨l,q1,q2,⟨q3,q4,q5⟩,tm,fn',d,q6,q7⟩:=hs.rest.loops c L0 e2;refine ⟨l,?_,q2,⟨q3,?_,fun b' l' e=> ?_⟩,tm,fn',d,q6,y4t (P:=P) cD ho2 q7 x⟩
    ·show (N.keep[j]?).bind (fun b=>ρ.lp b)=some l
     grind
    ·show @ite _ (Fz ρ mem N l) (Classical.propDecidable _) (w.heap[l]?) (ρ.fz l)=none;rw [As fun ⟨c,l,_,e2,_,e4⟩=>q5 c l e2 e4];exact q4
    ·have e:(N.keep[b']?).bind (fun b=>ρ b)=some l':=e
     grind
   ·obtain ⟨_,c,L0,x,e1,e2,rfl⟩:=Kn N.keep 0 _ j L hL;obtain ⟨_,c',L0',x',e1',e2',rfl⟩:=Kn N.keep 0 _ j' L' hL';rw [Nat.sub_zero] at e1 e1';have e:(N.keep[j]?).bind (fun b=>ρ.lp b)=some l:=e;have e':(N.keep[j']?).bind (fun b=>ρ.lp b)=some l:=e';rw [e1] at e;rw [e1'] at e';have:=hs.rest.inj c c' L0 L0' l e2 e2' e e';subst this;exact (List.getElem?_inj (AL.1 e1).1 (z5i hd).1).1 (e1.trans e1'.symm)
   ·exact y6w cD ho2 hd hkm
  ·exact z4c h3 hfl.cs af haf
 ·cases h
theorem y0k {S:Specs} {Rc:Runner} (hN:Qa P) (hmx:P.follows .mixedOrders =true) (hS:Zk P S) (hCI:y5w Rc) (hC:ROk P Rc) {fl:Nat}: ∀(n:Nat) (C C':Cfg),Fl fl C→x4f P S Rc n C=some C'→Fl fl C'∧Yw fl C.st C'.st∧(C'.st.ob=true→z2k P fl C C')
 | 0,C,C',hfl,h=>by
  obtain rfl:=Ac h
  grind [Yw.refl,z2k.refl]
 | n+1,C,C',hfl,h=>by
  have h:(match y6h P S Rc C with
   | some C'=>x4f P S Rc n C'
   | none=>none)=some C':=h
  split at h
  ·rename_i C1 h1;have s1:=z9p hN hmx hS hCI hC hfl h1;obtain ⟨f1,f4,f5⟩:=y0k hN hmx hS hCI hC n C1 C' s1.fls h;exact ⟨f1,s1.inv.trans f4,fun ho=>(s1.leads (f4.ob ho)).trans (f5 ho)⟩
  ·cases h
def Zs (P:Program) (f:FuncId) (args:List AVal) (sym:Bool) (orc:List Bool):Cfg:=
 match P.funcs[f]? with
 | some fn=>⟨⟨Nat.max fn.ntmps args.length,0,sym⟩,none,[.code (fn.body.getD .ret)],none,fn.results.toList,⟨z1z args 0 .leaf,.leaf,0,orc,true⟩,[],.leaf⟩
 | none=>⟨⟨0,0,sym⟩,none,[],none,[],⟨.leaf,.leaf,0,[],true⟩,[],.leaf⟩
theorem goes_call {f:FuncId} {args:List AVal} {sym:Bool} {orc:List Bool} {C':Cfg} {vs:List AVal} {H:Old} (hf:(P.funcs[f]?).any (fun fn=>fn.body.isSome)=true) (h:z3x P (Zs P f args sym orc) C') (hfin:Qd C'=true) (hob:(Vu P C'.st (Zs P f args sym orc).rs)=some vs)
  {vals:Array Value} {w:World} (cG:Xj (Zj (Jn H)) args vals.toList) (hH: ∀k o,H k=some o→w.heap[k]? =some o) (hG:Glob H):
  Calls P f vals w fun e w'=> ∃ρ u,e=.returned u∧Out H w ρ (Uq vs) u w':=by
 cases hfn:P.funcs[f]? with
 | none=>grind
 | some fn=>
  rw [hfn] at hf;have hf:fn.body.isSome=true:=hf;obtain ⟨body,hb⟩:=Bl.1 hf;have hstart:Zs P f args sym orc=⟨⟨Nat.max fn.ntmps args.length,0,sym⟩,none,[.code body],none,fn.results.toList,⟨z1z args 0 .leaf,.leaf,0,orc,true⟩,[],.leaf⟩:=by unfold Zs;grind
  rw [hstart] at h hob;simp only at hob;intro cs;obtain ⟨ρ',b',a',k',css',w',ma',mb',s1,r1,v1,q1,_⟩:=h H w (Jn H) ⟨f, #[],[],[],.run,.normal,none⟩ {tmps:=vals++Array.replicate (fn.ntmps - vals.size) undef,defers:=[]} [.code body] [] w [] []
   ⟨⟨z5e cG fn.ntmps,rfl,.cons (.same _ rfl) .nil,trivial,rfl⟩,fun h=>absurd rfl h,z7c _ _ _,z9w hH hG⟩ (Ev.refl _ _ _ _ _ (z9w hH hG).dom) cs
  obtain ⟨e1,e2,e3,e4⟩:=z5d hfin;have hcs:=r1.rest.cs;rw [e3] at hcs;cases hcs;obtain ⟨w2,s2,henv',cW,dL,_,_⟩:=z5g r1 e1 e2 e4 rfl v1 cs;obtain ⟨u,hu,hres⟩:=Jo (fn:=fn) henv' cW hob;have q:(b'.fn,b'.kind,b'.roundOf)=(f,CallKind.normal,none):=q1;simp only [Aa] at q;have hen:Frame.enter P f vals .normal =Frame.atR ⟨f, #[],[],[],.run,.normal,none⟩ {tmps:=vals++Array.replicate (fn.ntmps - vals.size) undef,defers:=[]} (Xw none [.code body]):=by
   grind [Frame.enter,Frame.atR,Xw]
  refine ⟨.returned u,w2,{b'.atR {a' with defers:=[]} k' with mode:=.returning},⟨ρ',u,rfl,out_of hu cW dL⟩,?_,q.1,rfl,rfl,q.2.1,fn,by show P.funcs[b'.fn]? =_;grind,hres⟩;rw [hen];exact s1.trans s2
end
def Qg :List ABlk→Nat→Mem
 | [],_=>.leaf
 | b::l,i=>Ya (Qg l (i+1)) i (some b)
def Cfg.withO :Cfg→List Bool→Cfg
 | ⟨cx,ro,todo,rnd,rs,⟨env,mem,next,_,_⟩,cs,lps⟩,o=>⟨cx,ro,todo,rnd,rs,⟨env,mem,next,o,true⟩,cs,lps⟩
def Cfg.withB :Cfg→Bool→Cfg
 | ⟨cx,ro,todo,rnd,rs,⟨env,mem,next,_,_⟩,cs,lps⟩,b=>⟨cx,ro,todo,rnd,rs,⟨env,mem,next,[],b⟩,cs,lps⟩
inductive Vj (σ:Type) where
 | stuck
 | ret (vs:List AVal)
 | to (s:σ)
def z2v (P:Program) (rs:List ResultVar) (C:Cfg) (vs:List AVal):Prop:= ∃C',z3x P C C'∧Qd C'=true∧Vu P C'.st rs=some vs
def Vr (P:Program) (rs:List ResultVar) {σ:Type} (cfg:σ→Cfg) (C:Cfg):Vj σ→Prop
 | .stuck =>True
 | .ret vs=>z2v P rs C vs
 | .to s=>z3x P C (cfg s)
section
variable {P:Program} {rs:List ResultVar} {σ:Type} {cfg:σ→Cfg} {C:Cfg}
theorem y5e {c:Bool} {a b:Vj σ} (ha:c=true→Vr P rs cfg C a) (hb:c=false→Vr P rs cfg C b):Vr P rs cfg C (bif c then a else b):=by grind
theorem x4d {c:Bool} {a:Vj σ} (ha:c=true→Vr P rs cfg C a):Vr P rs cfg C (bif c then a else .stuck):=y5e ha fun _=>trivial
theorem x4c {vs:List AVal} (C':Cfg) (h:z3x P C C') (hf:Qd C'=true) (hr:Vu P C'.st rs=some vs):Vr P rs cfg C (.ret vs):=⟨C',h,hf,hr⟩
end
def goOn {σ:Type} (step:σ→Vj σ):Nat→Vj σ→Vj σ
 | 0,o=>o
 | n+1,.to s=>goOn step n (step s)
 | _+1,o=>o
theorem Yd {P:Program} {rs:List ResultVar} {σ:Type} {cfg:σ→Cfg} {step:σ→Vj σ} (dB: ∀s,Vr P rs cfg (cfg s) (step s)) {C:Cfg}: ∀(n:Nat) (o:Vj σ),Vr P rs cfg C o→Vr P rs cfg C (goOn step n o)
 | 0,o,h=>h
 | n+1,.stuck,h=>h
 | n+1,.ret vs,h=>h
 | n+1,.to s,h=>Yd dB n (step s) (match step s,dB s with
  | .stuck,_=>trivial
  | .ret vs,⟨C',g,hf,hr⟩=>⟨C',z3x.trans h g,hf,hr⟩
  | .to s',g=>z3x.trans h g)
theorem Yn {σ:Type} (step:σ→Vj σ) (n:Nat) (vs:List AVal):goOn step n (.ret vs)=.ret vs:=by cases n <;> rfl
theorem Zf {σ:Type} (step:σ→Vj σ) (n:Nat) (s:σ):goOn step (n+1) (.to s)=goOn step n (step s):=rfl
theorem z7g {a b:Bool} (ha:a=true) (hb:b=true):(a&&b)=true:=by grind
theorem x0d {a b:Bool} (h:a=b):(a == b)=true:=by grind
def Specs.with (S:Specs) (f:FuncId) (F:List AVal→Option (AVal×Bool)):Specs:=fun g=>bif Nat.beq g f then some (.val F) else S g
theorem z9q {P:Program} {f:FuncId} {args:List AVal} {sym:Bool} {orc:List Bool}:(Zs P f args sym orc).rs =Zx P f:=by
 grind [Zs,Zx]
theorem y8x {P:Program} {S:Specs} (hS:Zk P S) {f:FuncId} {F:List AVal→Option (AVal×Bool)} (hf:(P.funcs[f]?).any (fun fn=>fn.body.isSome)=true)
  (hF: ∀args v,F args=some (v,true)→ ∃vs,Uq vs=v∧z2v P (Zx P f) (Zs P f args true []) vs∧ ∃d,pf d v=true):Zk P (S.with f F):=by
 intro g G hg;unfold Specs.with at hg;cases hgf:Nat.beq g f with
 | false=>rw [hgf] at hg;exact hS g G hg
 | true=>
  rw [hgf] at hg;obtain rfl:Spec.val F=G:=Ac hg;obtain rfl:g=f:=Af hgf;refine ⟨?_,fun args v hv H vals w cG hH hG=> ?_⟩
  ·grind
  ·obtain ⟨vs,rfl,⟨C',g1,g2,g3⟩,d,hp⟩:=hF args v hv;exact (goes_call hf g1 g2 (by rw [z9q];exact g3) cG hH hG).mono fun e w' ⟨ρ,u,he,ho⟩=>⟨ρ.fz,u,ho.le,ho.old,ho.same,he,We d _ u hp ho.val,ho.below⟩
def cOf (get:Nat→List AVal) (i:Nat):Int:=match get i with
 | .int _ n::_=>n
 | _=>0
abbrev iget (c:Nat→Int):Nat→List AVal:=fun i=>[.int .i64 (c i)]
def isI (get:Nat→List AVal):Bool:=pd (get=iget (cOf get))
theorem x3t (x:Int):(x != x)=false:=by simp
theorem x4o (x:Int):(x == x)=true:=by simp
theorem x0k (x:Int):(!(x != x))=true:=by simp
theorem x0m (x:Int):(!(x == x))=false:=by simp
theorem w64 (n:Int):IntKind.i64.wrap n=(n+9223372036854775808) %18446744073709551616 - 9223372036854775808:=by rw [IntKind.wrap_i64]
theorem w_in {n:Int} (h: -9223372036854775808≤n) (h':n≤9223372036854775807):IntKind.i64.wrap n=n:=by simp only [w64];omega
theorem x0v (x y:Int):x2e x y=min x y:=by unfold x2e;grind
theorem x0w (x y:Int):x2f x y=max x y:=by unfold x2f;grind
theorem Zp {α:Type} {c:Bool} {a b:α} (h:c=true):(bif c then a else b)=a:=by rw [h];rfl
inductive VLe :AVal→AVal→Prop
 | refl (v:AVal):VLe v v
 | undef (v:AVal):VLe v .undef
 | nils (b sz off:Nat) (cap:y8u):VLe .nils (.sla b sz off 0 cap)
 | sl (b sz q len:Nat) (cap:y8u):VLe (.sl b (q*sz) len cap) (.sla b sz q len cap)
 | nild (g:Nat→List AVal):VLe .nils (.dat 0 g)
 | dat (n:Nat) (g g':Nat→List AVal) (h: ∀i,i<n→g i=g' i):VLe (.dat n g) (.dat n g')
 | dptr (cs cs':List AVal) (hl:cs.length=cs'.length) (h: ∀(ρ:Rho) (i:Nat) (h1:i<cs.length) (h2:i<cs'.length) (v:Value),Zj ρ cs[i] v→Zj ρ cs'[i] v):VLe (.dptr cs) (.dptr cs')
theorem VLe.sound {ρ:Rho} {a a':AVal} {v:Value} (h:VLe a a') (hv:Zj ρ a v):Zj ρ a' v:=by
 cases h with
 | refl=>exact hv
 | undef=>exact .undef _
 | nils b sz off cap=>cases hv;exact .slan b sz off cap
 | sl b sz q len cap=>cases hv with | sl _ _ _ _ l c h hc cE=>exact .sla b sz q len cap l c h hc cE
 | nild g=>cases hv;exact .datn _
 | dptr cs cs' hl h=>cases hv with
  | dptr _ blk base val q1 q2=>exact .dptr cs' blk base val (fun j hj=>h _ j (by omega) hj _ (q1 j (by omega))) fun j hj=>q2 j (by omega)
 | dat n g g' hg=>
  cases hv with
  | datn=>exact .datn _
  | datz=>exact .datz _ _ _
  | dat _ _ blk base sz cap val cK hsz hv hh=>
   refine .dat n g' blk base sz cap val cK (fun i hi=>by grind) (fun i j hi hj=> ?_) hh
   grind
theorem VLe.of_undef {a:AVal} (h:VLe .undef a):a=.undef :=by cases h <;> rfl
inductive RLe :List AVal→List AVal→Prop
 | nil:RLe [] []
 | cons {a b:AVal} {l m:List AVal} (h:VLe a b) (t:RLe l m):RLe (a::l) (b::m)
theorem RLe.refl : ∀l:List AVal,RLe l l
 | []=>.nil
 | a::l=>.cons (.refl a) (RLe.refl l)
theorem RLe.len {l m:List AVal} (h:RLe l m):l.length=m.length:=by
 induction h with
 | nil=>rfl
 | cons _ _ ih=>simp [ih]
theorem RLe.get {l m:List AVal} (h:RLe l m): ∀(i:Nat) (h1:i<l.length) (h2:i<m.length),VLe l[i] m[i]:=by
 induction h with
 | nil=>grind
 | cons h _ ih=>
  grind
inductive BLe :Option ABlk→Option ABlk→Prop
 | refl (b:Option ABlk):BLe b b
 | drop (b:Option ABlk):BLe b none
 | rowed (cells:List AVal) (ty:TypeId) (a:Option Arr) (sz n:Nat) (g:Nat→List AVal) (ho:(⟨cells,ty,a⟩:ABlk).isObj =false) (hc:cells=rows n g) (h1:1≤sz) (hl: ∀i,i<n→(g i).length =sz):BLe (some ⟨cells,ty,a⟩) (some ⟨rows n g,ty,some ⟨sz,n,g⟩⟩)
 | rws (ty:TypeId) (sz n:Nat) (a a':Rws) (h: ∀k,k<n→RLe (a.get k) (a'.get k)):BLe (some ⟨rows n a.get,ty,some ⟨sz,n,a⟩⟩) (some ⟨rows n a'.get,ty,some ⟨sz,n,a'⟩⟩)
theorem BLe.sound {ρ:Rho} {w:World} {a a':ABlk} {l:Loc} (h:BLe (some a) (some a')) (hb:Yi ρ w a l):Yi ρ w a' l:=by
 cases h with
 | refl=>exact hb
 | rowed cells ty a sz n g ho hc h1 hl=>subst hc;have hb:=hb.at ho;refine .plain ⟨hb.typ,hb.n,hb.tot,fun A hA=> ?_,hb.cells⟩;obtain rfl:=Ac hA;exact ⟨rfl,h1,hl⟩
 | rws ty sz n a a' h=>
  have hb:=hb.rows rfl;obtain ⟨_,h1,hl⟩:=hb.arr _ rfl;have h1:1≤sz:=h1;have hl: ∀k,k<n→(a.get k).length =sz:=hl;have hl': ∀k,k<n→(a'.get k).length =sz:=fun k hk=>by rw [←(h k hk).len];exact hl k hk
  have k1:=Zb n hl;have k2:=Zb n hl';obtain ⟨cs,el,g1,g2,g3⟩:=hb.cells;refine .plain ⟨hb.typ,by rw [hb.n];show (rows n a.get).length =(rows n a'.get).length;rw [k1,k2],hb.tot,fun A hA=> ?_,cs,el,g1,g2,fun i hi=> ?_⟩
  ·obtain rfl:=Ac hA;exact ⟨rfl,h1,hl'⟩
  ·have hi2:i<(rows n a'.get).length :=hi;have hi':i<n*sz:=by rw [←k2];exact hi
   have hj:i %sz<sz:=Bg _ h1;have hq:i / sz<n:=AR (by rw [Bb];exact hi');have e:i / sz*sz+i %sz=i:=by rw [Bb];exact A4 i sz
   have hic:i<(rows n a.get).length :=by rw [k1];exact hi'
   have r1:=Xk n hl (i / sz) (i %sz) hq hj;have r2:=Xk n hl' (i / sz) (i %sz) hq hj;rw [e] at r1 r2;have j1:i %sz<(a.get (i / sz)).length :=by rw [hl _ hq];exact hj
   have j2:i %sz<(a'.get (i / sz)).length :=by rw [hl' _ hq];exact hj
   obtain ⟨v,q1,q2⟩:=g3 i hic;have q2:Zj ρ ((rows n a.get)[i]'hic) v:=q2;refine ⟨v,q1,?_⟩;show Zj ρ ((rows n a'.get)[i]'hi2) v;rw [An hic,An j1] at r1;rw [An hi2,An j2] at r2;rw [Ac r1] at q2;rw [Ac r2];exact ((h _ hq).get _ j1 j2).sound q2
theorem z7b {g h:Nat→List AVal}: ∀(n:Nat),(∀i,i<n→g i=h i)→rows n g=rows n h
 | 0,_=>rfl
 | n+1,e=>by rw [z0l,z0l,z7b n fun i hi=>e i (by omega),e n (by omega)]
def x7o (asz sz off len n:Nat) (get:Nat→List AVal):AVal:=bif Nat.beq asz sz&&Nat.ble (off+len) n then .dat len (fun k=>get (off+k)) else .undef
theorem x7n (sz n:Nat) (g:Nat→List AVal):x7o sz sz 0 n n g=.dat n g:=by
 unfold x7o;rw [show (Nat.beq sz sz&&Nat.ble (0+n) n)=true by simp_all,Ap]
 grind
def Um (g:Nat→List AVal):Bool:=pd (∀i,(g i).all (pf 6)=true)
theorem x4x {p:AVal→Bool} {l:List AVal} (h:l.all p=true) (n:Nat):(l.take n).all p=true:=
 by grind
theorem x4y {p:AVal→Bool} {l:List AVal} (h:l.all p=true) (n:Nat):(l.drop n).all p=true:=
 by grind
theorem x1g {g:Nat→List AVal} {off len sz:Nat} {new:List AVal} (h:Um g=true) (hn:new.all (pf 6)=true):Um (Zh g off len sz new)=true:=pd_true fun i=>by
 unfold Zh;cases Nat.ble len i with
 | true=>grind
 | false=>exact Wu h _
theorem x1d {g:Nat→List AVal} {r fo:Nat} {cs:List AVal} (h:Um g=true) (hn:cs.all (pf 6)=true):Um (Jv g r fo cs)=true:=pd_true fun i=>by
 unfold Jv;cases Nat.beq i r with
 | true=>rw [Ap,List.all_append,List.all_append,x4x (Wu h r),hn,x4y (Wu h r)];rfl
 | false=>exact Wu h _
theorem y6a {P:Program} {S:Specs} (hS:Zk P S) {f:FuncId} {F:List AVal→Option (AVal×Bool)} (hf:(P.funcs[f]?).any (fun fn=>fn.body.isSome)=true)
  (hF: ∀args v,F args=some (v,true)→ ∃vs,(∀(ρ:Rho) (u:Value),Zj ρ (Uq vs) u→Zj ρ v u)∧z2v P (Zx P f) (Zs P f args true []) vs∧ ∃d,pf d (Uq vs)=true):Zk P (S.with f F):=by
 intro g G hg;unfold Specs.with at hg;cases hgf:Nat.beq g f with
 | false=>rw [hgf] at hg;exact hS g G hg
 | true=>
  rw [hgf] at hg;obtain rfl:Spec.val F=G:=Ac hg;obtain rfl:g=f:=Af hgf;refine ⟨?_,fun args v hv H vals w cG hH hG=> ?_⟩
  ·grind
  ·obtain ⟨vs,hw,⟨C',g1,g2,g3⟩,d,hp⟩:=hF args v hv;exact (goes_call hf g1 g2 (by rw [z9q];exact g3) cG hH hG).mono fun e w' ⟨ρ,u,he,ho⟩=>⟨ρ.fz,u,ho.le,ho.old,ho.same,he,hw _ _ (We d _ u hp ho.val),ho.below⟩
theorem y7x :Um (fun _=>[])=true:=pd_true fun _=>rfl
theorem y3j (s t:Nat):Um (fun k=>(([]:List AVal).drop (k*s)).take t)=true:=pd_true fun i=>by simp
theorem z5c {g:Nat→List AVal} {o:Nat} (h:Um g=true):Um (fun k=>g (o+k))=true:=pd_true fun i=>Wu h (o+i)
theorem x1f {g h:Nat→List AVal} {len:Nat} (p:Um g=true) (q:Um h=true):Um (Yt g len h)=true:=pd_true fun i=>by
 unfold Yt;cases Nat.ble len i with
 | true=>exact Wu q _
 | false=>exact Wu p _
def y8d (sz n:Nat) (g:Nat→List AVal):Bool:=pd (∀i,i<n→(g i).length =sz∧(g i).all z0b=true)
open Go.Sort Go.RowKit
variable {P:Program} {ρ:Rho}
def q4 (f:Nat→Nat→Int):Nat→List AVal:=fun k=>[.int .i64 (f k 0),.int .i64 (f k 1),.int .i64 (f k 2),.int .i64 (f k 3)]
theorem y0c (a:Nat):(Nat.beq a a == true)=true:=by simp_all
inductive VP where
 | keep
 | drop
  | grow (b sz:Nat)
  | list (n:Nat) (g:Nat→List AVal)
  | len (n:Nat)
  | frz (n n':Nat) (a g:Nat→List AVal)
def Wp (n:Nat) (a g:Nat→List AVal):Bool:=pd (∀i,i<n→a i=g i)
def y9q (cells:List AVal) (sz n:Nat) (g:Nat→List AVal):Bool:=pd (cells=rows n g∧1≤sz∧ ∀i,i<n→(g i).length =sz)
def rlesR (n:Nat) (a g:Nat→List AVal):Bool:=pd (∀i,i<n→RLe (a i) (g i))
def y2z (a b:Nat):Bool:=pd (a=b)
theorem Zo {a b:Nat} (h:a=b):y2z a b=true:=pd_true h
def x1a (v:AVal) (n:Nat) (a:Nat→List AVal):Bool:=pd (v=.dat n a)
theorem x4k (sz n:Nat) (g:Nat→List AVal):x1a (x7o sz sz 0 n n g) n g=true:=pd_true (x7n sz n g)
theorem x0z (n:Nat) (g:Nat→List AVal):x1a (.dat n g) n g=true:=pd_true rfl
def y0e :VP→AVal→Bool→AVal×Bool
 | .keep,v,ob=>(v,ob)
 | .drop,_,ob=>(.undef,ob)
 | .grow b sz,v,ob=>match v with
  | .nils =>(.sla b sz 0 0 (.un sz),ob)
  | .sl b o len cap=>(.sla b sz 0 len cap,Nat.beq o 0&&ob)
  | v=>(v,ob)
 | .list n' g,v,ob=>match v with
  | .nils =>(.dat 0 g,ob)
  | .dat n a=>(.dat n' g,y2z n n'&&(Wp n a g&&ob))
  | v=>(v,ob)
 | .len n',v,ob=>match v with
  | .sla b sz off n cap=>(.sla b sz off n' cap,y2z n n'&&ob)
  | v=>(v,ob)
 | .frz n n' a g,v,ob=>(.dat n' g,x1a v n a&&(y2z n n'&&(Wp n a g&&ob)))
theorem y5c {p:VP} {v:AVal} {ob:Bool} (h:(y0e p v ob).2=true):VLe v (y0e p v ob).1∧ob=true:=by
 cases p with
 | keep=>exact ⟨.refl _,h⟩
 | drop=>exact ⟨.undef _,h⟩
 | grow b sz=>
  cases v with
  | nils=>exact ⟨.nils _ _ _ _,h⟩
  | sl b' o len cap=>simp only [y0e,Ad] at h;have e:=Af h.1;subst e;have:=VLe.sl b' sz 0 len cap;rw [Nat.zero_mul] at this;exact ⟨this,h.2⟩
  | _=>exact ⟨.refl _,h⟩
 | list n' g=>
  cases v with
  | nils=>exact ⟨.nild _,h⟩
  | dat n a=>simp only [y0e,Ad] at h;obtain rfl:=Wu h.1;exact ⟨.dat _ _ _ (Wu h.2.1),h.2.2⟩
  | _=>exact ⟨.refl _,h⟩
 | len n'=>
  cases v with
  | sla b sz off n cap=>simp only [y0e,Ad] at h;obtain rfl:=Wu h.1;exact ⟨.refl _,h.2⟩
  | _=>exact ⟨.refl _,h⟩
 | frz n n' a g=>simp only [y0e,Ad] at h;obtain rfl:=Wu h.1;obtain rfl:=Wu h.2.1;exact ⟨.dat _ _ _ (Wu h.2.2.1),h.2.2.2⟩
def z7i :List VP→List AVal→Bool→List AVal×Bool
 | _,[],ob=>([],ob)
 | [],l,ob=>(l,ob)
 | p::ps,v::l,ob=>match z7i ps l ob with
  | (l',ob)=>match y0e p v ob with
   | (v',ob)=>(v'::l',ob)
theorem z4u : ∀{ps:List VP} {l:List AVal} {ob:Bool},(z7i ps l ob).2=true→RLe l (z7i ps l ob).1∧ob=true
 | [],[],_,h=>⟨.nil,h⟩
 | _::_,[],_,h=>⟨.nil,h⟩
 | [],a::l,_,h=>⟨RLe.refl _,h⟩
 | p::ps,v::l,ob,h=>by simp only [z7i] at h ⊢;obtain ⟨h1,h2⟩:=y5c h;obtain ⟨h3,h4⟩:=z4u h2;exact ⟨.cons h1 h3,h4⟩
inductive BP where
 | keep
 | drop
 | cells (ps:List VP)
 | rowed (sz n:Nat) (g:Nat→List AVal)
 | rws (a:Rws)
def lessO :List AVal→List AVal→TypeId→Option ABlk
 | .obj o::_,_::r,ty=>some ⟨.obj o::r,ty,none⟩
 | .obj _::_,[],_=>none
 | _,cs,ty=>some ⟨cs,ty,none⟩
def z6p :BP→Option ABlk→Bool→Option ABlk×Bool
 | .keep,o,ob=>(o,ob)
 | .drop,_,ob=>(none,ob)
 | .cells ps,o,ob=>match o with
  | some ⟨cells,ty,none⟩=>match z7i ps cells ob with
   | (cs,ob)=>(lessO cells cs ty,ob)
  | o=>(o,ob)
 | .rowed sz n g,o,ob=>match o with
  | some ⟨cells,ty,none⟩=>(bif (⟨cells,ty,none⟩:ABlk).isObj then none else some ⟨rows n g,ty,some ⟨sz,n,.flat g⟩⟩,y9q cells sz n g&&ob)
  | some ⟨_,ty,some ⟨sz',n',a⟩⟩=>(some ⟨rows n g,ty,some ⟨sz',n,.flat g⟩⟩,y2z n' n&&(Wp n' a.get g&&ob))
  | o=>(o,ob)
 | .rws a',o,ob=>match o with
  | some ⟨_,ty,some ⟨sz,n,a⟩⟩=>(some ⟨rows n a'.get,ty,some ⟨sz,n,a'⟩⟩,rlesR n a.get a'.get&&ob)
  | o=>(o,ob)
theorem RLe.sound {ρ:Rho} {l m:List AVal} (h:RLe l m) (i:Nat) (h1:i<l.length) (h2:i<m.length) {v:Value} (hv:Zj ρ l[i] v):Zj ρ m[i] v:=(h.get i h1 h2).sound hv
theorem x0j (cells:List AVal) (ty:TypeId) (A:Arr):(⟨cells,ty,some A⟩:ABlk).isObj =false:=by
 unfold ABlk.isObj;split
 ·rename_i e;cases e
 ·rfl
theorem y2y {p:BP} {o:Option ABlk} {ob:Bool} {x':ABlk} (h:(z6p p o ob).2=true) (hx:(z6p p o ob).1=some x'):ob=true∧ ∃x,o=some x∧ ∀(ρ:Rho) (w:World) (l:Loc),Yi ρ w x l→Yi ρ w x' l:=by
 cases p with
 | keep=>exact ⟨h,x',hx,fun _ _ _ q=>q⟩
 | drop=>cases hx
 | cells ps=>
  rcases o with _ | ⟨cells,ty,_ | A⟩
  ·cases hx
  ·simp only [z6p] at h hx;obtain ⟨h1,h2⟩:=z4u h;refine ⟨h2,_,rfl,fun ρ w l hb=> ?_⟩;generalize (z7i ps cells ob).1=cs' at hx h1;cases hb with
   | obj o r ty' e1 e2 e3=>
    simp only [ABlk.mk.injEq] at e1;obtain ⟨rfl,rfl,_⟩:=e1;cases h1 with
    | cons ha hr=>
    rename_i c0 r';obtain rfl:=Ac hx;refine .obj o r' ty rfl (by rw [e2,RLe.len hr]) ?_;cases o with
    | mi ml=>obtain ⟨rfl,k⟩:=e3;cases hr;exact ⟨rfl,k⟩
    | mb ml=>obtain ⟨rfl,k⟩:=e3;cases hr;exact ⟨rfl,k⟩
    | it s pos=>obtain ⟨rfl,k⟩:=e3;cases hr;exact ⟨rfl,k⟩
    | bld=>
     obtain ⟨buf,v,p,rfl,k1,k2,k3⟩:=e3;cases hr with
     | cons hb0 hr0=>
     cases hr0;exact ⟨_,v,p,rfl,k1,hb0.sound k2,k3⟩
   | plain hb=>
   have hno:=hb.noObj;have hx:some (⟨cs',ty,none⟩:ABlk)=some x':=by
    unfold lessO at hx;split at hx
    ·cases hno
    ·cases hno
    ·exact hx
   obtain rfl:=Ac hx;obtain ⟨cs,el,g1,g2,g3⟩:=hb.cells;refine .plain ⟨hb.typ,by rw [hb.n];exact h1.len,hb.tot,(fun A hA=>by cases hA),cs,el,g1,g2,fun i hi=> ?_⟩;have hi0:i<cells.length:=by rw [h1.len];exact hi
   obtain ⟨v,q1,q2⟩:=g3 i hi0;exact ⟨v,q1,h1.sound i hi0 hi q2⟩
  ·exact ⟨h,_,rfl,fun ρ w l hb=>by obtain rfl:=Ac hx;exact hb⟩
 | rowed sz n g=>
  rcases o with _ | ⟨cells,ty,_ | ⟨sz',n',a⟩⟩
  ·cases hx
  ·simp only [z6p,Ad] at h hx;obtain ⟨hno,hx⟩:=z7r hx;obtain rfl:=Ac hx;obtain ⟨h1,h2,h3⟩:=Wu h.1;exact ⟨h.2,_,rfl,fun ρ w l hb=>(BLe.rowed cells ty none sz n g hno h1 h2 h3).sound hb⟩
  ·simp only [z6p,Ad] at h hx;obtain rfl:=Ac hx;obtain rfl:=Wu h.1;have h1:=Wu h.2.1;refine ⟨h.2.2,_,rfl,fun ρ w l hb=> ?_⟩;obtain ⟨q1,q2,q3⟩:=hb.arr _ rfl;exact (BLe.rowed cells ty _ sz' n' g (x0j _ _ _) (q1.trans (z7b _ h1)) q2 fun i hi=>by rw [←h1 i hi];exact q3 i hi).sound hb
 | rws a'=>
  rcases o with _ | ⟨cells,ty,_ | ⟨sz',n',a⟩⟩
  ·cases hx
  ·exact ⟨h,_,rfl,fun ρ w l hb=>by obtain rfl:=Ac hx;exact hb⟩
  ·simp only [z6p,Ad] at h hx;obtain rfl:=Ac hx;refine ⟨h.2,_,rfl,fun ρ w l hb=> ?_⟩;obtain ⟨q1,_,_⟩:=hb.arr _ rfl;have q1:cells=rows n' a.get:=q1;subst q1;exact (BLe.rws ty sz' n' a a' (Wu h.1)).sound hb
def y7m :List (Nat×VP)→T AVal→Bool→T AVal×Bool
 | [],env,ob=>(env,ob)
 | (t,p)::l,env,ob=>match y7m l env ob with
  | (e,ob)=>match y0e p (T.get .undef e t) ob with
   | (v,ob)=>(T.set .undef e t v,ob)
def ELe (e e':T AVal):Prop:= ∀t,(∀(ρ:Rho) (v:Value),Zj ρ (T.get .undef e t) v→Zj ρ (T.get .undef e' t) v)∧(T.get .undef e t=.undef →T.get .undef e' t=.undef)
theorem ELe.refl (e:T AVal):ELe e e:=fun _=>⟨fun _ _ h=>h,fun h=>h⟩
theorem z8n : ∀{l:List (Nat×VP)} {env:T AVal} {ob:Bool},(y7m l env ob).2=true→ELe env (y7m l env ob).1∧ob=true
 | [],_,_,h=>⟨ELe.refl _,h⟩
 | (t,p)::l,env,ob,h=>by
  simp only [y7m] at h ⊢;obtain ⟨h1,h2⟩:=y5c h;obtain ⟨h3,h4⟩:=z8n h2;refine ⟨fun s=> ?_,h4⟩;rw [T.get_set];by_cases e:s=t
  ·subst e;rw [Av rfl];exact ⟨fun ρ v hv=>h1.sound ((h3 s).1 ρ v hv),fun hu=>by have e:=(h3 s).2 hu;rw [e] at h1 ⊢;exact h1.of_undef⟩
  ·rw [As e];exact h3 s
def y2x :List BP→Nat→Mem→Bool→Mem×Bool
 | [],_,m,ob=>(m,ob)
 | p::ps,i,m,ob=>match y2x ps (i+1) m ob with
  | (m',ob)=>match z6p p (Ze m i) ob with
   | (x,ob)=>(Ya m' i x,ob)
theorem x4b {p:BP} {o:Option ABlk} {ob:Bool} (h:(z6p p o ob).2=true):ob=true:=by
 cases p with
 | keep=>exact h
 | drop=>exact h
 | cells ps=>
  rcases o with _ | ⟨cells,ty,_ | A⟩
  ·exact h
  ·exact (z4u h).2
  ·exact h
 | rowed sz n g=>
  rcases o with _ | ⟨cells,ty,_ | A⟩;all_goals simp_all [z6p]
 | rws a=>
  rcases o with _ | ⟨cells,ty,_ | A⟩;all_goals simp_all [z6p]
theorem z7j : ∀{ps:List BP} {i:Nat} {m:Mem} {ob:Bool},(y2x ps i m ob).2=true→ob=true∧ ∀b x',Ze (y2x ps i m ob).1 b=some x'→ ∃x,Ze m b=some x∧ ∀(ρ:Rho) (w:World) (l:Loc),Yi ρ w x l→Yi ρ w x' l
 | [],_,_,_,h=>⟨h,fun b x' hb=>⟨x',hb,fun _ _ _ q=>q⟩⟩
 | p::ps,i,m,ob,h=>by
  simp only [y2x] at h ⊢;have hob:(y2x ps (i+1) m ob).2=true:=x4b h;obtain ⟨h1,h2⟩:=z7j hob;refine ⟨h1,fun b x' hb=> ?_⟩;rw [Xv] at hb;by_cases e:b=i
  ·subst e;rw [Av rfl] at hb;exact (y2y h hb).2
  ·rw [As e] at hb;exact h2 b x' hb
def y7l :List (List (Nat×VP))→List AFr→Bool→List AFr×Bool
 | _,[],ob=>([],ob)
 | [],l,ob=>(l,ob)
 | p::ps,⟨cx,ro,todo,rnd,rs,env⟩::l,ob=>match y7l ps l ob with
  | (l',ob)=>match y7m p env ob with
   | (e,ob)=>(⟨cx,ro,todo,rnd,rs,e⟩::l',ob)
def FLe (a a':AFr):Prop:=a.cx=a'.cx∧a.ro=a'.ro∧a.todo=a'.todo∧a.rnd=a'.rnd∧a.rs=a'.rs∧ELe a.env a'.env
theorem FLe.refl (a:AFr):FLe a a:=⟨rfl,rfl,rfl,rfl,rfl,ELe.refl _⟩
theorem Xj.refl' : ∀l:List AFr,Xj FLe l l
 | []=>.nil
 | a::l=>.cons (FLe.refl a) (Xj.refl' l)
theorem y5d : ∀{ps:List (List (Nat×VP))} {l:List AFr} {ob:Bool},(y7l ps l ob).2=true→Xj FLe l (y7l ps l ob).1∧ob=true
 | [],[],_,h=>⟨.nil,h⟩
 | _::_,[],_,h=>⟨.nil,h⟩
 | [],a::l,_,h=>⟨Xj.refl' _,h⟩
 | p::ps,⟨cx,ro,todo,rnd,rs,env⟩::l,ob,h=>by simp only [y7l] at h ⊢;obtain ⟨h1,h2⟩:=z8n h;obtain ⟨h3,h4⟩:=y5d h2;exact ⟨.cons ⟨rfl,rfl,rfl,rfl,rfl,h1⟩ h3,h4⟩
structure Less where
 slots:List (Nat×VP):=[]
 blks:List BP:=[]
 cs:List (List (Nat×VP)):=[]
def y7o (L:Less):Cfg→Cfg
 | ⟨cx,ro,todo,rnd,rs,⟨env,mem,next,orc,ob⟩,cs,lps⟩=>match y7l L.cs cs ob with
  | (cs',ob)=>match y2x L.blks 0 mem ob with
   | (mem',ob)=>match y7m L.slots env ob with
    | (env',ob)=>⟨cx,ro,todo,rnd,rs,⟨env',mem',next,orc,ob⟩,cs',lps⟩
def y0p :List (TypeId×Nat×(Nat→List AVal))→Nat→Mem→Mem
 | [],_,m=>m
 | (ty,sz,g)::l,i,m=>Ya (y0p l (i+1) m) i (some ⟨[],ty,some ⟨sz,0,.flat g⟩⟩)
def y5h (gs:List (TypeId×Nat×(Nat→List AVal))):Cfg→Cfg
 | ⟨cx,ro,todo,rnd,rs,⟨env,mem,next,orc,ob⟩,cs,lps⟩=>⟨cx,ro,todo,rnd,rs,⟨env,y0p gs next mem,next+gs.length,orc,ob⟩,cs,lps⟩
theorem z1y : ∀(gs:List (TypeId×Nat×(Nat→List AVal))) (i:Nat) (m:Mem) (b:Nat),(b<i→Ze (y0p gs i m) b=Ze m b)∧(i+gs.length≤b→Ze (y0p gs i m) b=Ze m b)
 | [],i,m,b=>⟨fun _=>rfl,fun _=>rfl⟩
 | (ty,sz,g)::l,i,m,b=>by obtain ⟨h1,h2⟩:=z1y l (i+1) m b;simp only [y0p,Xv,Al];exact ⟨fun h=>by rw [As (by omega)];exact h1 (by omega),fun h=>by rw [As (by omega)];exact h2 (by omega)⟩
theorem y8w.less {P:Program} {ρ:Rho} {cs:List AFr} {css:List Frame} {mss:List Nat} (h:y8w P ρ cs css mss): ∀{cs':List AFr},Xj FLe cs cs'→y8w P ρ cs' css mss:=by
 induction h with
 | nil=>intro cs' h;cases h;exact .nil
 | @cons af b a k ms cs css mss hf hl t ih=>
  intro cs' h;cases h with
  | @cons _ af' _ cs'' h1 h2=>
   obtain ⟨e1,e2,e3,e4,e5,e6⟩:=h1;have hne:cs''≠ []→cs≠ []:=fun hn he=>by subst he;cases h2;exact hn rfl
   rw [show Xw af.ro k=Xw af'.ro k by rw [e2]];exact .cons ⟨by rw [←e1];exact ⟨hf.env.size,fun t=>(e6 t).1 _ _ (hf.env.get t),fun t ht=>(e6 t).2 (hf.env.out t ht)⟩,hf.defers,by rw [←e3];exact hf.todo,by rw [←e2];exact hf.ro,by rw [←e4];exact hf.rnd⟩
    (fun hn=>by grind) (ih h2)
theorem z1x {P:Program} {cx:Ctx} {ro:Option RegOps} {todo:List Item} {rnd:Option Nat} {rs:List ResultVar} {env env':T AVal} {mem mem':Mem} {k k':Nat} {o o':List Bool} {b0 b0':Bool} {cs cs':List AFr} {lps:Loops}
  (hE:ELe env env') (hC:Xj FLe cs cs') (hM: ∀b x',b<k→Ze mem' b=some x'→ ∃x,Ze mem b=some x∧ ∀(ρ:Rho) (w:World) (l:Loc),Yi ρ w x l→Yi ρ w x' l) (hk:k≤k') (hbd:(∀b,k≤b→Ze mem b=none)→ ∀b,k'≤b→Ze mem' b=none):
  z3x P ⟨cx,ro,todo,rnd,rs,⟨env,mem,k,o,b0⟩,cs,lps⟩ ⟨cx,ro,todo,rnd,rs,⟨env',mem',k',o',b0'⟩,cs',lps⟩:=
 fun H w0 ρ b a t css w ma mb hs he cs0=>by
  have hr:=hs.rel;simp only at hr he;have hne:cs'≠ []→cs≠ []:=fun hn e=>by subst e;cases hC;exact hn rfl
  refine ⟨ρ,b,a,t,css,w,ma,mb,Steps.refl _ _,⟨⟨?_,hs.top.defers,hs.top.todo,hs.top.ro,hs.top.rnd⟩,fun hn=>hs.lv (hne hn),⟨hs.rest.cs.less hC,hs.rest.nodup,hs.rest.marks,hs.rest.loops,hs.rest.inj⟩,?_⟩,?_,rfl,Aj _⟩
  ·exact ⟨hs.top.env.size,fun t=>(hE t).1 _ _ (hs.top.env.get t),fun t ht=>(hE t).2 (hs.top.env.out t ht)⟩
  ·have lift: ∀c l,ρ c=some l→(Ze mem' c).isSome =true→(Ze mem c).isSome =true:=fun c l hc h=>by obtain ⟨x,hx⟩:=Bl.1 h;obtain ⟨y,hy,_⟩:=hM c x (hr.dom c l hc) hx;rw [hy];rfl
   refine ⟨fun c l hc=>AG (hr.dom c l hc) hk,fun c c' l l' hc hc' hl h1 h2=>hr.inj c c' l l' hc hc' hl (lift c l hc h1) (lift c' l' hc' h2),fun c l ab hc h1=> ?_,hr.old,fun c l hc h1=>hr.sep c l hc (lift c l hc h1),hr.real,hbd hr.bd,fun j l hj=>AG (hr.ldom.1 j l hj) hk,hr.ldom.2⟩;obtain ⟨y,hy,h2⟩:=hM c ab (hr.dom c l hc) h1;exact h2 _ _ _ (hr.blk c l y hc hy)
  ·exact ⟨he.ext,fun _ hb=>absurd hb (Ay _),AF _,fun _ hb=>absurd hb (Ay _),he.frame,he.fresh,he.size,he.os,he.tape,he.output,he.still⟩
theorem y7n {P:Program} {L:Less} {C:Cfg} (ho:(y7o L C).st.ob =true):C.st.ob=true∧z3x P C (y7o L C):=by
 obtain ⟨cx,ro,todo,rnd,rs,⟨env,mem,next,orc,ob⟩,cs,lps⟩:=C;simp only [y7o] at ho ⊢;obtain ⟨h1,h2⟩:=z8n ho;obtain ⟨h3,h4⟩:=z7j h2;obtain ⟨h5,h6⟩:=y5d h3;refine ⟨h6,z1x h1 h5 (fun b x' _ hb=>h4 b x' hb) (Aj _) fun hbd b hb=> ?_⟩;cases hq:Ze (y2x L.blks 0 mem (y7l L.cs cs ob).2).1 b with
 | none=>rfl
 | some x'=>
  grind
theorem y3h {P:Program} (gs:List (TypeId×Nat×(Nat→List AVal))) (C:Cfg):z3x P C (y5h gs C)∧(y5h gs C).st.ob =C.st.ob:=by
 obtain ⟨cx,ro,todo,rnd,rs,⟨env,mem,next,orc,ob⟩,cs,lps⟩:=C;exact ⟨z1x (ELe.refl _) (Xj.refl' _) (fun b x' hb h=>⟨x',by grind [z1y],fun _ _ _ q=>q⟩) (Nat.le_add_right _ _) fun hbd b hb=>by
  rw [(z1y gs next mem b).2 hb];grind,rfl⟩
theorem y7u {P:Program} {C C':Cfg} {orc:List Bool} {ob:Bool} (g:z3x P (C.withO orc) (C'.withB ob)):z3x P C C':=by
 obtain ⟨cx,ro,todo,rnd,rs,⟨env,mem,next,o,b⟩,cs,lps⟩:=C;obtain ⟨cx',ro',todo',rnd',rs',⟨env',mem',next',o',b'⟩,cs',lps'⟩:=C';exact fun H w0 ρ b a k css w ma mb hs he cs0=>by obtain ⟨ρ',b',a',k',css',w',ma',mb',h1,h2,h3,h4⟩:=g H w0 ρ b a k css w ma mb ⟨hs.top,hs.lv,hs.rest,hs.rel⟩ he cs0;exact ⟨ρ',b',a',k',css',w',ma',mb',h1,⟨h2.top,h2.lv,h2.rest,h2.rel⟩,h3,h4⟩
theorem x2j {P:Program} {S:Specs} (hN:Qa P) (hmx:P.follows .mixedOrders =true) (hS:Zk P S) {n m d:Nat} {C C':Cfg} (gs:List (TypeId×Nat×(Nat→List AVal))) (N:z1m) (L:Less) (orc:List Bool) (ob:Bool)
  (h:(((x4f P S (x6m P S m d) n (C.withO orc)).map (y5h gs)).bind (x3q P N)).map (y7o L)=some (C'.withB ob)) (ho:ob=true) (hfl:fl0 C=true):z3x P C C':=by
 rw [Ag] at h;obtain ⟨C2,h1,h2⟩:=h;rw [Option.bind_eq_some_iff] at h1;obtain ⟨C1,h3,h4⟩:=h1;rw [Ag] at h3;obtain ⟨C0,h5,rfl⟩:=h3;have hfo:fl0 (C.withO orc)=true:=by obtain ⟨cx,ro,todo,rnd,rs,⟨env,mem,next,o,b⟩,cs,lps⟩:=C;exact hfl
 obtain ⟨hCI,hC⟩:=y9m hN hmx hS m d;obtain ⟨f1,f2,f3⟩:=y0k hN hmx hS hCI hC n (C.withO orc) C0 (x4m hfo) h5;have hob:(y7o L C2).st.ob =true:=by rw [h2];obtain ⟨cx,ro,todo,rnd,rs,⟨env,mem,next,o,b⟩,cs,lps⟩:=C';exact ho
 obtain ⟨l1,l2⟩:=y7n (P:=P) hob;obtain ⟨g1,g2,_⟩:=y7e h4 l1;obtain ⟨q1,q2⟩:=y3h (P:=P) gs C0;rw [q2] at g1;have:=(((f3 g1).goes.trans q1).trans g2).trans l2;rw [h2] at this;exact y7u this
theorem Xx (n:Nat) (g:Nat→List AVal):Wp n g g=true:=pd_true fun _ _=>rfl
theorem y9h (a g:Nat→List AVal):Wp 0 a g=true:=pd_true fun _ h=>absurd h (Ay _)
theorem x8o {a b:Nat} (h: ¬a≤b):Nat.ble a b=false:=AP.2 fun e=>h (Ae e)
theorem x8n {a b:Nat} (h:a≤b):Nat.ble a b=true:=by simp_all
theorem y9j {n N sz:Nat} {G H H':Nat→List AVal} {cells:List AVal} (m:Nat) (h:Wp n G H=true) (hN:N=n+m) (h0: ∀i,i<n→H' i=H i) (h1: ∀i,i<m→(cells.drop (i*sz)).take sz=H' (n+i)):Wp N (Zh G 0 n sz cells) H'=true:=pd_true fun i hi=>by
 unfold Zh;by_cases e:n≤i
 ·grind [x8n]
 ·rw [x8o e,Ai,AA,Wu h i (by omega),h0 i (by omega)]
theorem z2e {α:Type} {sz:Nat}: ∀(l:List (List α)) (i:Nat),(∀x∈l,x.length=sz)→i<l.length→(l.flatten.drop (i*sz)).take sz=l.getD i []
 | [],i,_,h=>absurd h (Ay _)
 | x::l,0,hl,_=>by
  grind
 | x::l,i+1,hl,h=>by have hx:=hl x (by simp);rw [List.flatten_cons,List.getD_cons_succ,←z2e l i (fun y hy=>hl y (by simp [hy])) (by simpa using h)];rw [List.drop_append,hx,show (i+1)*sz - sz=i*sz by rw [AB,Bs];omega,AH (by rw [hx,AB,Bs];omega),Bd]
theorem Vy {m N:Nat} {G H H':Nat→List AVal} (h':Wp m H H'=true) (hN:N=0+m):Wp N (Yt G 0 H) H'=true:=pd_true fun i hi=>Wu h' i (by omega)
theorem Xh {n:Nat} {G H:Nat→List AVal} (h:Wp n G H=true):Wp n (fun k=>G (0+k)) H=true:=by grind
theorem x2x {cells:List AVal} {sz n:Nat} {g:Nat→List AVal} (h:cells=rows n g) (h1:Nat.ble 1 sz=true) (h2: ∀i,(g i).length =sz):y9q cells sz n g=true:=pd_true ⟨h,Ae h1,fun i _=>h2 i⟩
class Wk (α:Type) where
 w:Nat
 d:α
 cells:α→List AVal
 of:List AVal→α
 len: ∀a,(cells a).length =w
 pos:1≤w
 flat: ∀a,(cells a).all (pf 6)=true
 sc: ∀a,(cells a).all z0b=true
 back: ∀a,of (cells a)=a
def iOf :AVal→Int
 | .int _ n=>n
 | _=>0
def oOf :AVal→Bool
 | .bool b=>b
 | _=>false
instance : Wk Int where
 w:=1
 d:=0
 cells x:=[.int .i64 x]
 of l:=iOf (l.getD 0 .undef)
 len _:=rfl
 pos:=Aj 1
 flat _:=rfl
 sc _:=rfl
 back _:=rfl
instance : Wk Bool where
 w:=1
 d:=false
 cells x:=[.bool x]
 of l:=oOf (l.getD 0 .undef)
 len _:=rfl
 pos:=Aj 1
 flat _:=rfl
 sc _:=rfl
 back _:=rfl
structure R2 where
 (a b:Int)
 deriving DecidableEq
structure R3 where
 (a b c:Int)
 deriving DecidableEq
structure R4 where
 (a b c d:Int)
 deriving DecidableEq
structure R6 where
 (a b c d e f:Int)
 deriving DecidableEq
instance : Wk R2 where
 w:=2
 d:=⟨0,0⟩
 cells x:=[.int .i64 x.a,.int .i64 x.b]
 of l:=⟨iOf (l.getD 0 .undef),iOf (l.getD 1 .undef)⟩
 len _:=rfl
 pos:=by decide
 flat _:=rfl
 sc _:=rfl
 back _:=rfl
instance : Wk R3 where
 w:=3
 d:=⟨0,0,0⟩
 cells x:=[.int .i64 x.a,.int .i64 x.b,.int .i64 x.c]
 of l:=⟨iOf (l.getD 0 .undef),iOf (l.getD 1 .undef),iOf (l.getD 2 .undef)⟩
 len _:=rfl
 pos:=by decide
 flat _:=rfl
 sc _:=rfl
 back _:=rfl
instance : Wk R4 where
 w:=4
 d:=⟨0,0,0,0⟩
 cells x:=[.int .i64 x.a,.int .i64 x.b,.int .i64 x.c,.int .i64 x.d]
 of l:=⟨iOf (l.getD 0 .undef),iOf (l.getD 1 .undef),iOf (l.getD 2 .undef),iOf (l.getD 3 .undef)⟩
 len _:=rfl
 pos:=by decide
 flat _:=rfl
 sc _:=rfl
 back _:=rfl
instance : Wk R6 where
 w:=6
 d:=⟨0,0,0,0,0,0⟩
 cells x:=[.int .i64 x.a,.int .i64 x.b,.int .i64 x.c,.int .i64 x.d,.int .i64 x.e,.int .i64 x.f]
 of l:=⟨iOf (l.getD 0 .undef),iOf (l.getD 1 .undef),iOf (l.getD 2 .undef),iOf (l.getD 3 .undef),iOf (l.getD 4 .undef),iOf (l.getD 5 .undef)⟩
 len _:=rfl
 pos:=by decide
 flat _:=rfl
 sc _:=rfl
 back _:=rfl
section
variable {α:Type} [Wk α]
def rd (L:List α) (k:Nat):α:=L.getD k Wk.d
def Zz (L:List α):Nat→List AVal:=fun k=>Wk.cells (rd L k)
def lst (α:Type) [Wk α] (n:Nat) (g:Nat→List AVal):List α:=(List.range n).map fun k=>Wk.of (g k)
def isT (α:Type) [Wk α] (n:Nat) (g:Nat→List AVal):Bool:=pd (∀i,i<n→g i=Wk.cells (Wk.of (g i):α))
theorem Uj {L:List α} {k:Nat} (h:k<L.length):rd L k=L[k]:=by grind [rd]
theorem z6m {L M:List α} {k:Nat} (h:k<L.length):rd (L++M) k=rd L k:=by
 grind [rd]
theorem z4d {L M:List α} {k:Nat} (h:L.length≤k):rd (L++M) k=rd M (k - L.length):=by
 grind [rd]
theorem y4z (L:List α):lst α L.length (Zz L)=L:=by
 apply List.ext_getElem;all_goals grind [lst,Zz,Wk.back,Uj]
def cvT (L:List α):List α:=lst α L.length (Zz L)
theorem y5t (L:List α):cvT L=L:=y4z L
theorem y7i (n:Nat) (g:Nat→List AVal):(lst α n g).length =n:=by simp [lst]
theorem z3q (L:List α) (n:Nat):isT α n (Zz L)=true:=pd_true fun i _=>by simp only [Zz];rw [Wk.back]
theorem y0l (L:List α) (off n:Nat):isT α n (fun k=>Zz L (off+k))=true:=pd_true fun i _=>by simp only [Zz];rw [Wk.back]
theorem y5f (g:Nat→List AVal):isT α 0 g=true:=pd_true fun i h=>absurd h (Ay _)
theorem x4i (g:Nat→List AVal) (h0:g 0=Wk.cells (Wk.of (g 0):α)):isT α 1 g=true:=pd_true fun i h=>by
 grind
theorem x4h (g:Nat→List AVal) (h0:g 0=Wk.cells (Wk.of (g 0):α)) (h1:g 1=Wk.cells (Wk.of (g 1):α)):isT α 2 g=true:=pd_true fun i h=>by
 grind
theorem x4g {n:Nat} {g:Nat→List AVal} (h:isT α n g=true): ∀i,i<n→g i=Zz (lst α n g) i:=fun i hi=>by
 rw [Wu h i hi]
 grind [Zz,Uj,lst]
theorem Uv (L:List α):Um (Zz L)=true:=pd_true fun _=>Wk.flat _
theorem y8b {sz:Nat} (L:List α) (n:Nat) (h:sz=Wk.w α):y8d sz n (Zz L)=true:=pd_true fun _ _=>⟨by rw [h];exact Wk.len _,Wk.sc _⟩
theorem y8c {sz:Nat} (L:List α) (off n:Nat) (h:sz=Wk.w α):y8d sz n (fun k=>Zz L (off+k))=true:=pd_true fun _ _=>⟨by rw [h];exact Wk.len _,Wk.sc _⟩
theorem y3r {sz N off m:Nat} {G:Nat→List AVal} (h:y8d sz N G=true) (hb:decide (off+m≤N)=true):y8d sz m (fun k=>G (off+k))=true:=pd_true fun i hi=>by have hb:=Ax hb;exact Wu h (off+i) (by omega)
theorem x1n {sz n N m:Nat} {G:Nat→List AVal} {cells:List AVal} (h:y8d sz n G=true) (hN:N=n+m) (hc:cells.length=m*sz) (hs:cells.all z0b=true):y8d sz N (Zh G 0 n sz cells)=true:=pd_true fun i hi=>by
 unfold Zh;by_cases e:n≤i
 ·rw [x8n e,Ap];have:(i - n)*sz+sz≤m*sz:=by
   have:=At sz (show i - n+1≤m by omega)
   grind
  grind
 ·rw [x8o e,Ai,AA];exact Wu h i (by omega)
theorem Vd {L M:List α} {n N sz:Nat} {G:Nat→List AVal} {cells:List AVal} (h:Wp n G (Zz L)=true) (hn:n=L.length) (hN:N=n+M.length) (hsz:sz=Wk.w α) (hc:cells=(M.map Wk.cells).flatten):Wp N (Zh G 0 n sz cells) (Zz (L++M))=true:=by
 grind [y9j,Zz,z2e,Wk.len,Uj]
theorem rd_set {L:List α} {r k:Nat} {y:α} (hk:k<L.length):rd (L.set r y) k=if k=r then y else rd L k:=by
 grind [Uj]
theorem y4o {L:List α} {n r fo:Nat} {G:Nat→List AVal} {cs:List AVal} {y:α} (h:Wp n G (Zz L)=true) (hn:n=L.length) (hy:Wk.cells y=(Wk.cells (rd L r)).take fo++cs++(Wk.cells (rd L r)).drop (fo+cs.length)):Wp n (Jv G r fo cs) (Zz (L.set r y))=true:=by
 subst hn;refine pd_true fun i hi=> ?_;unfold Jv;simp only [Zz];rw [rd_set hi];cases e:Nat.beq i r with
 | true=>have:=Af e;subst this;rw [Ap,Av rfl,Wu h i hi,hy];rfl
 | false=>
  have:i≠r:=fun q=>by simp_all
  rw [Ai,As this,Wu h i hi];rfl
theorem x2m {n:Nat} {cs:List AVal} {y:α} {G:Nat→List AVal} (hG:G=fun _=>cs) (hy:Wk.cells y=cs):Wp n G (Zz (List.replicate n y))=true:=pd_true fun i hi=>by
 grind [Zz,Uj]
theorem Vz {L M:List α} {n m N:Nat} {G H:Nat→List AVal} (h:Wp n G (Zz L)=true) (hn:n=L.length) (h':Wp m H (Zz M)=true) (hN:N=n+m):Wp N (Yt G n H) (Zz (L++M))=true:=by
 subst hn;refine pd_true fun i hi=> ?_;unfold Yt;by_cases e:L.length≤i
 ·rw [x8n e,Ap,Wu h' _ (by omega)];grind [Zz,z4d]
 ·rw [x8o e,Ai,Wu h i (by omega)];grind [Zz,z6m]
def x0q (n:Nat) (g:Nat→List AVal) (sz:Nat):Bool:=pd (∀i,i<n→(g i).length =sz)
theorem x0p {sz:Nat} (L:List α) (n:Nat) (h:sz=Wk.w α):x0q n (Zz L) sz=true:=pd_true fun _ _=>by rw [h];exact Wk.len _
theorem y7p {sz n:Nat} {L:List α} {off:Nat} (h:sz=Wk.w α):x0q n (fun k=>Zz L (off+k)) sz=true:=pd_true fun _ _=>by rw [h];exact Wk.len _
def Yg (L:List α) (off n:Nat):List α:=(List.range n).map fun k=>rd L (off+k)
theorem Zg (L:List α) (off n:Nat):(Yg L off n).length =n:=by simp [Yg]
theorem z8f {L:List α} {off n k:Nat} (h:k<n):rd (Yg L off n) k=rd L (off+k):=by
 grind [Uj,Yg]
theorem z8i {L:List α} {off n:Nat} (h:off+n≤L.length):Yg L off n=(L.drop off).take n:=by
 apply List.ext_getElem;all_goals grind [Yg,Uj]
theorem y6n {L:List α} {N off n:Nat} {G:Nat→List AVal} (h:Wp N G (Zz L)=true) (hb:decide (off+n≤N)=true):Wp n (fun k=>G (off+k)) (Zz (Yg L off n))=true:=pd_true fun i hi=>by have hb:=Ax hb;simp only [Zz];rw [z8f hi,Wu h _ (by omega)];rfl
theorem Ww {L:List α} {off n:Nat}:Wp n (fun k=>Zz L (off+k)) (Zz (Yg L off n))=true:=pd_true fun i hi=>by simp only [Zz];rw [z8f hi]
theorem y0d (L:List α) (off n:Nat):lst α n (fun k=>Zz L (off+k))=Yg L off n:=by
 grind [lst,Yg,Zz,Wk.back]
theorem x4j (L:List Int):isI (Zz L)=true:=pd_true rfl
def cpyL (L:List α) (off n:Nat) (M:List α):List α:=(List.range L.length).map fun k=>bif Nat.ble off k&&Nat.ble (k+1) (off+n) then rd M (k - off) else rd L k
theorem z0f (L:List α) (off n:Nat) (M:List α):(cpyL L off n M).length =L.length:=by simp [cpyL]
theorem x6x {L M:List α} {off n k:Nat} (h:k<L.length):rd (cpyL L off n M) k=bif Nat.ble off k&&Nat.ble (k+1) (off+n) then rd M (k - off) else rd L k:=by
 grind [Uj,cpyL]
theorem x2o {L M:List α} {N off n m:Nat} {G H:Nat→List AVal} (h:Wp N G (Zz L)=true) (hN:N=L.length) (h':Wp m H (Zz M)=true) (hm:n≤m):Wp N (Wd G off n H) (Zz (cpyL L off n M))=true:=by
 subst hN;refine pd_true fun i hi=> ?_;unfold Wd;simp only [Zz];rw [x6x hi];cases e:(Nat.ble off i&&Nat.ble (i+1) (off+n)) with
 | true=>simp only [Ad] at e;have e1:=Ae e.1;have e2:=Ae e.2;rw [Ap,Ap,Wu h' _ (by omega)];rfl
 | false=>rw [Ai,Ai,Wu h i hi];rfl
theorem y9i (z g:Nat→List AVal) (n:Nat):Wp n (Wd z 0 (Nat.min n n) g) g=true:=pd_true fun i hi=>by unfold Wd;rw [show Nat.min n n=n from Nat.min_self n,AA,AD (AF i),AD hi];rfl
theorem x1e {g h:Nat→List AVal} {off n:Nat} (p:Um g=true) (q:Um h=true):Um (Wd g off n h)=true:=pd_true fun i=>by
 unfold Wd;cases (Nat.ble off i&&Nat.ble (i+1) (off+n)) with
 | true=>exact Wu q _
 | false=>exact Wu p _
end
theorem y5q : ∀{az bs:List AVal} (i:Nat) {t u:T AVal},Xj VLe az bs→ELe t u→ELe (z1z az i t) (z1z bs i u)
 | _,_,i,t,u,.nil,h=>h
 | _,_,i,t,u,.cons (a:=a) (b:=b) h1 h2,h=>by
  refine y5q (i+1) h2 fun s=> ?_;rw [T.get_set,T.get_set];by_cases e:s=i
  ·rw [Av e,Av e];exact ⟨fun ρ v hv=>h1.sound hv,fun q=>by subst q;exact h1.of_undef⟩
  ·rw [As e,As e];exact h s
theorem y0r {P:Program} {f:FuncId} {az bs:List AVal} {vs:List AVal} (h:Xj VLe az bs) (k:z2v P (Zx P f) (Zs P f bs true []) vs):z2v P (Zx P f) (Zs P f az true []) vs:=by
 obtain ⟨C',g,h2,h3⟩:=k;refine ⟨C',z3x.trans ?_ g,h2,h3⟩;unfold Zs;cases P.funcs[f]? with
 | none=>exact z3x.refl _
 | some fn=>simp only;rw [h.length];exact z1x (y5q 0 h (ELe.refl _)) .nil (fun b x' hb=>absurd hb (Ay _)) (Aj _) fun hbd b hb=>hbd b hb
theorem y5z {P:Program} {S:Specs} (hS:Zk P S) {f:FuncId} {F:List AVal→Option (AVal×Bool)} (hf:(P.funcs[f]?).any (fun fn=>fn.body.isSome)=true)
  (hF: ∀args v,F args=some (v,true)→ ∃bs vs,Xj VLe args bs∧Uq vs=v∧z2v P (Zx P f) (Zs P f bs true []) vs∧ ∃d,pf d v=true):Zk P (S.with f F):=
 y8x hS hf fun args v h=>by obtain ⟨bs,vs,h1,h2,h3,d,h4⟩:=hF args v h;exact ⟨vs,h2,y0r h1 h3,d,h4⟩
def asL (α:Type) [Wk α]:AVal→Option (List α×(Nat→List AVal)×Nat)
 | .nils =>some ([],fun _=>[],0)
 | .dat n g=>some (lst α n g,g,n)
 | _=>none
theorem asL_le {α:Type} [Wk α] {v:AVal} {L:List α} {g:Nat→List AVal} {n:Nat} (h:asL α v=some (L,g,n)) (ho:isT α n g=true):VLe v (.dat L.length (Zz L)):=by
 unfold asL at h;split at h
 ·simp only [Ab,Aa] at h;obtain ⟨rfl,_,_⟩:=h;exact .nild _
 ·simp only [Ab,Aa] at h;obtain ⟨rfl,rfl,rfl⟩:=h;rw [y7i];exact .dat _ _ _ (x4g ho)
 ·cases h
open Go.ChangeShapes Go.WideShapes Go.Deep
section
variable {P:Program}
def z8o (P:Program) (rec:TypeId→Option (List IntKind)):List Field→Nat→Option (List IntKind)
 | [],_=>some []
 | f::r,o=>bif Nat.beq f.offset o then match rec f.type with
   | some ks=>bif Nat.beq (P.cellsOf f.type) ks.length then (z8o P rec r (o+ks.length)).map (ks++ ·) else none
   | none=>none
  else none
def y0g (P:Program):Nat→TypeId→Option (List IntKind)
 | 0,_=>none
 | d+1,t=>match P.underlying t with
  | some (.int k)=>some [k]
  | some (.struct fs)=>match z8o P (y0g P d) fs.toList 0 with
   | some ks=>bif Nat.beq (P.cellsOf t) ks.length then some ks else none
   | none=>none
  | _=>none
def x5c (ks:List IntKind) (cs:List Value):Prop:= ∃ns:List Int,ns.length=ks.length∧cs=List.zipWith Value.int ks ns∧ ∀p∈List.zip ks ns,p.1.has p.2
theorem x5c.append {a b:List IntKind} {x y:List Value} (h:x5c a x) (k:x5c b y):x5c (a++b) (x++y):=by
 obtain ⟨ns,h1,rfl,h3⟩:=h;obtain ⟨ms,k1,rfl,k3⟩:=k;refine ⟨ns++ms,by simp [h1,k1],?_,fun p hp=> ?_⟩;all_goals grind
theorem x5c.length {ks:List IntKind} {cs:List Value} (h:x5c ks cs):cs.length=ks.length:=by obtain ⟨ns,h1,rfl,_⟩:=h;simp [h1]
variable {HH:Type} {enc:TypeId×Value→HH} {w:World} {base:Nat} {spare:Nat→Bool} {held:Bool}
theorem z2p {rec:TypeId→Option (List IntKind)} (hr: ∀t ks,rec t=some ks→ ∀fuel cs x,DataW.trod enc P w base spare held fuel t cs=some x→x5c ks cs) (cs:List Value):
  ∀(l:List Field) (o:Nat) (ks:List IntKind),z8o P rec l o=some ks→o+ks.length≤cs.length→(∀f∈l,∃fuel x,DataW.trod enc P w base spare held fuel f.type ((cs.drop f.offset).take (P.cellsOf f.type))=some x)→x5c ks ((cs.drop o).take ks.length)
 | [],o,ks,h,_,_=>by obtain rfl:=Ac h;exact ⟨[],rfl,by simp,by simp⟩
 | f::r,o,ks,h,hl,hf=>by
  unfold z8o at h;obtain ⟨ho,h⟩:=Zv h;obtain rfl:=Af ho;split at h
  ·rename_i ks1 h1;obtain ⟨hc,h⟩:=Zv h;have hc:=Af hc;simp only [Ag] at h;obtain ⟨ks2,h2,rfl⟩:=h;obtain ⟨fuel,x,hx⟩:=hf f (by simp);have i1:=hr _ _ h1 _ _ _ hx;rw [hc] at i1;rw [Ao] at hl;have i2:=z2p hr cs r _ ks2 h2 (by omega) fun g hg=>hf g (by simp [hg]);have:(cs.drop f.offset).take (ks1++ks2).length =(cs.drop f.offset).take ks1.length++(cs.drop (f.offset+ks1.length)).take ks2.length:=by rw [Ao,List.take_add,List.drop_drop]
   rw [this];exact i1.append i2
  ·cases h
theorem z4w : ∀(d:Nat) (t:TypeId) (ks:List IntKind),y0g P d t=some ks→ ∀(fuel:Nat) (cs:List Value) (x:DataW HH×List MemPlace),DataW.trod enc P w base spare held fuel t cs=some x→x5c ks cs
 | 0,_,_,h=>by cases h
 | d +1,t,ks,h=>by
  intro fuel cs x hx;unfold y0g at h;split at h
  ·rename_i k hk;obtain rfl:=Ac h;obtain ⟨m,rfl,_,hw⟩:=DataW.trod_int hk hx;refine ⟨[m],rfl,rfl,fun p hp=> ?_⟩;simp_all [Lit.wf,IntKind.has]
  ·rename_i fs hs;split at h
   ·rename_i ks1 h1;obtain ⟨hc,h⟩:=Zv h;obtain rfl:=Ac h;have hc:=Af hc;obtain ⟨xs,n,_,_,hl,cE,hf⟩:=DataW.trod_struct hs hx;have hl:cs.length=ks1.length:=hl.trans hc;have:=z2p (fun t ks ht fuel cs x hx=>z4w d t ks ht fuel cs x hx) cs fs.toList 0 ks1 h1 (by omega) fun f hf'=>by
     obtain ⟨j,hj,rfl⟩:=A7 hf';have hj2:j<fs.size:=(by grind);have:=hf j fs[j] (by simp [hj2])
     grind
    grind
   ·cases h
  ·cases h
def rowOf (ks:List IntKind) (c:Nat→Int):List AVal:=List.zipWith AVal.int ks ((List.range ks.length).map c)
theorem y9r (ks:List IntKind) (c:Nat→Int) (j:Nat) (h:j<(rowOf ks c).length): ∃hk:j<ks.length,(rowOf ks c)[j]=.int ks[j] (c j):=by
 grind [rowOf]
theorem x4r {e:TypeId} {ks:List IntKind} (hk:y0g P 30 e=some ks) {blk off len cap m fl:Nat} {D:Nat→DataW HH} {Pl:Nat→List MemPlace} (hl:len≤cap) (hlm:len≤m)
  (hi: ∀i,i<m→ ∃cs',w.cells? base ((⟨blk,off,none⟩:Addr).add (i*P.cellsOf e)) (P.cellsOf e)=some cs'∧DataW.trod enc P w base spare held fl e cs'=some (D i,Pl i)):
  ∃c:Nat→Nat→Int,Zj (Jn fun k=>w.heap[k]?) (.dat len (fun i=>rowOf ks (c i))) (.slice (some ⟨blk,off,none⟩) len cap)∧ ∀i,i<len→ ∀(j:Nat) (k:IntKind),ks[j]? =some k→k.has (c i j):=by
 have key: ∀i,i<len→ ∃ns:List Int,ns.length=ks.length∧(∀j,j<ks.length→ ∃k,ks[j]? =some k∧w.cell? ⟨blk,off+(i*ks.length+j),none⟩=some (.int k (ns.getD j 0))∧k.has (ns.getD j 0)):=by
  intro i hil;obtain ⟨cs',hc',ht'⟩:=hi i (by omega);have I:=z4w 30 e ks hk _ _ _ ht';obtain ⟨_,cE,eB⟩:=World.cells?_some hc';have hce:P.cellsOf e=ks.length:=by rw [←cE];exact I.length
  obtain ⟨ns,n1,n2,n3⟩:=I;refine ⟨ns,n1,fun j hj=> ?_⟩;have hj2:j<ns.length:=by omega
  refine ⟨ks[j],by simp [hj],?_,?_⟩
  ·grind [Yj]
  ·have:(ks[j],ns[j])∈List.zip ks ns:=by
    rw [List.mem_iff_getElem]
    grind
   grind
 let c:Nat→Nat→Int:=fun i j=>if hil:i<len then ((key i hil).choose).getD j 0 else 0
 have hcs: ∀i,i<len→ ∀j,j<ks.length→ ∃k,ks[j]? =some k∧w.cell? ⟨blk,off+(i*ks.length+j),none⟩=some (.int k (c i j))∧k.has (c i j):=by
  grind
 refine ⟨c,.dat len _ blk off ks.length cap (fun i j=>.int (ks.getD j .i64) (c i j)) hl (fun i _=>by simp [rowOf]) (fun i j hil hj=> ?_) (fun i j hil hj=> ?_),fun i hil j k hkj=> ?_⟩
 ·obtain ⟨hk2,e2⟩:=y9r ks (c i) j hj;rw [e2];have:ks.getD j .i64 =ks[j]:=by simp [hk2]
  rw [this];exact .int _ _
 ·obtain ⟨k,e1,e2,_⟩:=hcs i hil j hj;have:ks.getD j .i64 =k:=by simp [e1]
  rw [this];unfold World.cell? at e2;split at e2
  ·rename_i cl el fz hb2;simp only [Option.isSome_none,Bool.false_eq_true,if_false] at e2;exact ⟨cl,el,fz,hb2,e2⟩
  ·cases e2
 grind
theorem open_dat {t e:TypeId} {ks:List IntKind} {v:Value} {d:DataW HH} {p:List MemPlace} (ht:P.underlying t=some (.slice e)) (hk:y0g P 30 e=some ks) {b0:Nat} (hv:Value.okWide P w .any b0 t v) (h:DataW.Trod enc P w base spare held t v d p):
  ∃(n:Nat) (c:Nat→Nat→Int),Zj (Jn fun k=>w.heap[k]?) (.dat n (fun i=>rowOf ks (c i))) v∧(∀i,i<n→ ∀(j:Nat) (k:IntKind),ks[j]? =some k→k.has (c i j))∧n≤maxLen:=by
 obtain ⟨fuel,h⟩:=h;have hvc:v.cells.toList=[v]:=by
  unfold Value.okWide at hv;rw [ht] at hv;unfold Cell.okWide at hv;rw [ht] at hv;cases v <;> first | rfl | (simp [Cell.ok,ht] at hv)
 rcases open_slice ht h with ⟨h0,_⟩ | ⟨a,len,cap,m,fl,D,Pl,hcs,hb,hl,cK,hm,_,hi⟩
 ·rw [hvc] at h0;obtain rfl:v=.slice none 0 0:=by grind
  exact ⟨0,fun _ _=>0,.datn _,fun i hi=>absurd hi (Ay _),AF _⟩
 ·rw [hvc] at hcs;obtain rfl:v=.slice (some a) len cap:=by grind
  have hspot:a.spot=none:=by unfold Value.okWide at hv;rw [ht] at hv;unfold Cell.okWide at hv;rw [ht] at hv;simp only [Cell.ok,ht] at hv;exact hv.2.2.2.1
  obtain ⟨blk,off,spot⟩:=a;simp only at hspot;subst hspot;have hlm:len≤m:=by grind
  obtain ⟨c,h1,h2⟩:=x4r hk hl hlm hi;exact ⟨len,c,h1,h2,by omega⟩
end
end Go.Am
namespace Go.Proofs
open Go.Shelf Go.RowKit Go.Lib
variable {P:Program} {ρ:Ren}
theorem x6j {e:TypeId} (hc:P.cellsOf e=1) (count o n:Nat) (hn:o+n≤count):liesAt P P.depth e count o e n=true:=by have hd:P.depth=(2*(P.types.size+Made.depth)+1)+1:=rfl;rw [hd];simp only [liesAt,Bool.or_eq_true];left;rw [hd];simp [rowAt,hc,sameLayout];omega
theorem z3z (w:World) (pt it ty e:TypeId) (hp:P.underlying pt=some (.pointer e)) (hc:P.cellsOf e=1) (g o cells:Nat) (hsh:w.shape? g=some (e,cells)) (l:List UInt8) (h0:l≠ []) (hn:o+l.length≤cells) (h63:l.length≤9223372036854775807)
  (eB: ∀j x,l[j]? =some x→w.cell? ((⟨g,o,none⟩:Addr).add j)=some (.int .u8 x.toNat)):
  (Builtin.unsafeString_ #[pt,it] ty #[.pointer (some ⟨g,o,none⟩),.int .i64 l.length]).run P w=.ok (.string ⟨l.toArray⟩) (w.freeze ⟨g,o,none⟩ l.length):=by
 have hl:l.length≠0:=by simpa using h0
 have hlb:=run_loadBytes (P:=P) w l ⟨g,o,none⟩ .empty eB;have hlies:=x6j (P:=P) hc (cells / P.cellsOf e) o l.length (by rw [hc];simpa using hn);have h63': ¬(9223372036854775807:Int)<(l.length:Int):=by omega
 have hmax:IntKind.i64.max=9223372036854775807:=rfl;obtain ⟨e1,e2,e3,hdef⟩:∃e1 e2 e3,Builtin.unsafeString_ #[pt,it] ty #[.pointer (some ⟨g,o,none⟩),.int .i64 l.length]=
   (do
    let n←asInt (.int .i64 l.length)
    if n<0 then runtimePanic e1
    if n>IntKind.i64.max then unsupported e2
    if n=0 then pure (.string .empty)
    else if←variablesAt ⟨g,o,none⟩ (←elemOf pt) n.toNat then do
     let s←loadBytes ⟨g,o,none⟩ .empty n.toNat
     freeze ⟨g,o,none⟩ n.toNat
     pure (.string s)
    else unsupported e3):=⟨_,_,_,rfl⟩
 rw [hdef];have hneg: ¬(l.length:Int)<0:=by omega
 simp [asInt,asIntOf,hmax,h63',hneg,hl,variablesAt,hsh,elemOf,run_underlying hp,hlies,hlb]
theorem y9g (w:World) (g o n k:Nat) (h:g≠k):(w.freeze ⟨g,o,none⟩ n).heap[k]? =w.heap[k]? :=by
 unfold World.freeze;split
 ·rfl
 ·simp only [Array.getElem?_modify];rw [if_neg h]
theorem z6i (w:World) (p:Addr) (n:Nat):(w.freeze p n).heap.size =w.heap.size∧(w.freeze p n).os =w.os∧(w.freeze p n).tape =w.tape∧(w.freeze p n).output =w.output:=by unfold World.freeze;split <;> simp
set_option maxHeartbeats 4000000 in
set_option maxRecDepth 100000 in
theorem z8c (L:Lays.n169 P ρ) (X:Builder.Extra P ρ) (b:Nat) (p:Value) (w:World) (hbk:w.heap[b]? =some (.cells #[p,Value.slice none 0 0] (ρ.t 72) (0,0))):
  Calls P (ρ.f 169) #[.pointer (some ⟨b,0,none⟩)] w fun e w'=>e=.returned (.string ⟨#[]⟩)∧w'=w.drew:=by
 have c1:w.drew.cell? ⟨b,1,none⟩=some (Value.slice none 0 0):=by have:w.drew.heap[b]? =some (.cells #[p,Value.slice none 0 0] (ρ.t 72) (0,0)):=hbk;rw [Lib.cell_of_heap this];rfl
 have hUS: ∀(W:World) (q:Option Addr),(Builtin.unsafeString_ #[(ρ.t 127),(ρ.t 3)] (ρ.t 9) #[.pointer q,.int .i64 0]).run P W=.ok (.string .empty) W:=fun W q=>Lib.run_unsafeString_none W _ _ _ q;have hSD:(Builtin.unsafeSliceData_ #[(ρ.t 37)] (ρ.t 127) #[.slice none 0 0]).run P w.drew=.ok (.pointer none) w.drew:=rfl;have mixed:=L.mixed;have t72:=L.t72;have a72:=L.a72;have z72:=L.z72;have v72:=L.v72;have u72:=run_underlying L.t72;have t70:=L.t70;have a70:=L.a70;have z70:=L.z70;have v70:=L.v70;have u70:=run_underlying L.t70;have t37:=L.t37;have a37:=L.a37;have z37:=L.z37;have v37:=L.v37;have u37:=run_underlying L.t37;have t127:=L.t127;have a127:=L.a127;have z127:=L.z127;have v127:=L.v127;have u127:=run_underlying L.t127;have t3:=L.t3;have a3:=L.a3;have z3:=L.z3;have v3:=L.v3;have u3:=run_underlying L.t3;have t9:=L.t9;have a9:=L.a9;have z9:=L.z9;have v9:=L.v9;have u9:=run_underlying L.t9;have t5:=X.t5;have a5:=X.a5;have z5:=X.z5;have v5:=X.v5;have u5:=run_underlying X.t5
 go_enter L.f169,Body.n169_ntmps ρ
 go_wp2
 go_region_o
 all_goals (go_wp2;go_ret;exact ⟨rfl,rfl⟩)
set_option maxHeartbeats 4000000 in
set_option maxRecDepth 100000 in
theorem z6k (L:Lays.n169 P ρ) (X:Builder.Extra P ρ) (b:Nat) (p:Value) (w:World) (g o cap:Nat) (hc0:cap≠0) (hbk:w.heap[b]? =some (.cells #[p,Value.slice (some ⟨g,o,none⟩) 0 cap] (ρ.t 72) (0,0))):
  Calls P (ρ.f 169) #[.pointer (some ⟨b,0,none⟩)] w fun e w'=>e=.returned (.string ⟨#[]⟩)∧w'=w.drew:=by
 have c1:w.drew.cell? ⟨b,1,none⟩=some (Value.slice (some ⟨g,o,none⟩) 0 cap):=by have:w.drew.heap[b]? =some (.cells #[p,Value.slice (some ⟨g,o,none⟩) 0 cap] (ρ.t 72) (0,0)):=hbk;rw [Lib.cell_of_heap this];rfl
 have hUS: ∀(W:World) (q:Option Addr),(Builtin.unsafeString_ #[(ρ.t 127),(ρ.t 3)] (ρ.t 9) #[.pointer q,.int .i64 0]).run P W=.ok (.string .empty) W:=fun W q=>Lib.run_unsafeString_none W _ _ _ q;have hSD:(Builtin.unsafeSliceData_ #[(ρ.t 37)] (ρ.t 127) #[.slice (some ⟨g,o,none⟩) 0 cap]).run P w.drew=.ok (.pointer (some ⟨g,o,none⟩)) w.drew:=Lib.run_unsafeSliceData_row _ _ _ _ _ _ hc0;clear hc0;have mixed:=L.mixed;have t72:=L.t72;have a72:=L.a72;have z72:=L.z72;have v72:=L.v72;have u72:=run_underlying L.t72;have t70:=L.t70;have a70:=L.a70;have z70:=L.z70;have v70:=L.v70;have u70:=run_underlying L.t70;have t37:=L.t37;have a37:=L.a37;have z37:=L.z37;have v37:=L.v37;have u37:=run_underlying L.t37;have t127:=L.t127;have a127:=L.a127;have z127:=L.z127;have v127:=L.v127;have u127:=run_underlying L.t127;have t3:=L.t3;have a3:=L.a3;have z3:=L.z3;have v3:=L.v3;have u3:=run_underlying L.t3;have t9:=L.t9;have a9:=L.a9;have z9:=L.z9;have v9:=L.v9;have u9:=run_underlying L.t9;have t5:=X.t5;have a5:=X.a5;have z5:=X.z5;have v5:=X.v5;have u5:=run_underlying X.t5
 go_enter L.f169,Body.n169_ntmps ρ
 go_wp2
 go_region_o
 all_goals (go_wp2;go_ret;exact ⟨rfl,rfl⟩)
set_option maxHeartbeats 4000000 in
set_option maxRecDepth 100000 in
theorem z2y (L:Lays.n169 P ρ) (X:Builder.Extra P ρ) (b:Nat) (p:Value) (w:World) (g o:Nat) (cur:Array Value) (hbk:w.heap[b]? =some (.cells #[p,Value.slice (some ⟨g,o,none⟩) 0 0] (ρ.t 72) (0,0))) (hg:w.heap[g]? =some (.cells cur (ρ.t 5) (0,0))):
  Calls P (ρ.f 169) #[.pointer (some ⟨b,0,none⟩)] w fun e w'=>e=.returned (.string ⟨#[]⟩)∧w'=w.drew.alloc (.view ⟨g,o,none⟩ (ρ.t 5)):=by
 have c1:w.drew.cell? ⟨b,1,none⟩=some (Value.slice (some ⟨g,o,none⟩) 0 0):=by have:w.drew.heap[b]? =some (.cells #[p,Value.slice (some ⟨g,o,none⟩) 0 0] (ρ.t 72) (0,0)):=hbk;rw [Lib.cell_of_heap this];rfl
 have hUS: ∀(W:World) (q:Option Addr),(Builtin.unsafeString_ #[(ρ.t 127),(ρ.t 3)] (ρ.t 9) #[.pointer q,.int .i64 0]).run P W=.ok (.string .empty) W:=fun W q=>Lib.run_unsafeString_none W _ _ _ q;have hlt:b<w.heap.size:=(Array.getElem?_eq_some_iff.1 hbk).1;have hSD:(Builtin.unsafeSliceData_ #[(ρ.t 37)] (ρ.t 127) #[.slice (some ⟨g,o,none⟩) 0 0]).run P w.drew=.ok (.pointer (some ⟨w.drew.heap.size,0,none⟩)) (w.drew.alloc (.view ⟨g,o,none⟩ (ρ.t 5))):=
  Lib.run_unsafeSliceData_zero w.drew _ _ (ρ.t 5) L.t127 ⟨g,o,none⟩ 0 ((ρ.t 5),cur.size) (by have hg':w.drew.heap[g]? =some (.cells cur (ρ.t 5) (0,0)):=hg;simp [World.shape?,hg'])
 have c2:(w.drew.alloc (.view ⟨g,o,none⟩ (ρ.t 5))).cell? ⟨b,1,none⟩=some (.slice (some ⟨g,o,none⟩) 0 0):=by have:(w.drew.alloc (.view ⟨g,o,none⟩ (ρ.t 5))).heap[b]? =_:=(Lib.alloc_old w.drew _ b hlt).trans hbk;rw [Lib.cell_of_heap this];rfl
 have c3:(w.alloc (.view ⟨g,o,none⟩ (ρ.t 5))).drew.cell? ⟨b,1,none⟩=some (.slice (some ⟨g,o,none⟩) 0 0):=c2;have c0:w.cell? ⟨b,1,none⟩=some (.slice (some ⟨g,o,none⟩) 0 0):=c1;have mixed:=L.mixed;have t72:=L.t72;have a72:=L.a72;have z72:=L.z72;have v72:=L.v72;have u72:=run_underlying L.t72;have t70:=L.t70;have a70:=L.a70;have z70:=L.z70;have v70:=L.v70;have u70:=run_underlying L.t70;have t37:=L.t37;have a37:=L.a37;have z37:=L.z37;have v37:=L.v37;have u37:=run_underlying L.t37;have t127:=L.t127;have a127:=L.a127;have z127:=L.z127;have v127:=L.v127;have u127:=run_underlying L.t127;have t3:=L.t3;have a3:=L.a3;have z3:=L.z3;have v3:=L.v3;have u3:=run_underlying L.t3;have t9:=L.t9;have a9:=L.a9;have z9:=L.z9;have v9:=L.v9;have u9:=run_underlying L.t9;have t5:=X.t5;have a5:=X.a5;have z5:=X.z5;have v5:=X.v5;have u5:=run_underlying X.t5
 go_enter L.f169,Body.n169_ntmps ρ
 go_wp2
 go_region_o
 all_goals (go_wp2;go_ret;exact ⟨rfl,rfl⟩)
set_option maxHeartbeats 4000000 in
set_option maxRecDepth 100000 in
theorem z6j (L:Lays.n169 P ρ) (X:Builder.Extra P ρ) (b:Nat) (p:Value) (w:World) (g o cap:Nat) (cur:Array Value) (l:List UInt8) (h0:l≠ []) (cK:l.length≤cap) (h63:l.length≤9223372036854775807) (hbk:w.heap[b]? =some (.cells #[p,Value.slice (some ⟨g,o,none⟩) l.length cap] (ρ.t 72) (0,0))) (hg:w.heap[g]? =some (.cells cur (ρ.t 5) (0,0))) (hn:o+l.length≤cur.size) (hc: ∀j x,l[j]? =some x→cur[o+j]? =some (.int .u8 x.toNat)):
  Calls P (ρ.f 169) #[.pointer (some ⟨b,0,none⟩)] w fun e w'=>e=.returned (.string ⟨l.toArray⟩)∧w'=w.drew.freeze ⟨g,o,none⟩ l.length:=by
 have c1:w.drew.cell? ⟨b,1,none⟩=some (Value.slice (some ⟨g,o,none⟩) l.length cap):=by have:w.drew.heap[b]? =some (.cells #[p,Value.slice (some ⟨g,o,none⟩) l.length cap] (ρ.t 72) (0,0)):=hbk;rw [Lib.cell_of_heap this];rfl
 have hl0:l.length≠0:=by simpa using h0
 have hSD:(Builtin.unsafeSliceData_ #[(ρ.t 37)] (ρ.t 127) #[.slice (some ⟨g,o,none⟩) l.length cap]).run P w.drew=.ok (.pointer (some ⟨g,o,none⟩)) w.drew:=
  Lib.run_unsafeSliceData_row _ _ _ _ _ _ (by omega)
 have hUS:(Builtin.unsafeString_ #[(ρ.t 127),(ρ.t 3)] (ρ.t 9) #[.pointer (some ⟨g,o,none⟩),.int .i64 l.length]).run P w.drew=.ok (.string ⟨l.toArray⟩) (w.drew.freeze ⟨g,o,none⟩ l.length):=by
  have hg':w.drew.heap[g]? =some (.cells cur (ρ.t 5) (0,0)):=hg;refine z3z w.drew (ρ.t 127) (ρ.t 3) (ρ.t 9) (ρ.t 5) L.t127 X.cellsByte g o cur.size (by simp [World.shape?,hg']) l h0 hn h63 ?_;intro j x hx;have:=hc j x hx;have e:(⟨g,o,none⟩:Addr).add j=⟨g,o+j,none⟩:=by
   unfold Addr.add;by_cases hj:j=0
   ·subst hj;simp
   ·simp [hj]
  rw [e];simp [World.cell?,hg',this]
 clear hn hc hg cK;have mixed:=L.mixed;have t72:=L.t72;have a72:=L.a72;have z72:=L.z72;have v72:=L.v72;have u72:=run_underlying L.t72;have t70:=L.t70;have a70:=L.a70;have z70:=L.z70;have v70:=L.v70;have u70:=run_underlying L.t70;have t37:=L.t37;have a37:=L.a37;have z37:=L.z37;have v37:=L.v37;have u37:=run_underlying L.t37;have t127:=L.t127;have a127:=L.a127;have z127:=L.z127;have v127:=L.v127;have u127:=run_underlying L.t127;have t3:=L.t3;have a3:=L.a3;have z3:=L.z3;have v3:=L.v3;have u3:=run_underlying L.t3;have t9:=L.t9;have a9:=L.a9;have z9:=L.z9;have v9:=L.v9;have u9:=run_underlying L.t9;have t5:=X.t5;have a5:=X.a5;have z5:=X.z5;have v5:=X.v5;have u5:=run_underlying X.t5
 go_enter L.f169,Body.n169_ntmps ρ
 go_wp2
 go_region_o
 all_goals (go_wp2;go_ret;exact ⟨rfl,rfl⟩)
set_option maxHeartbeats 1000000 in
theorem x2l (L:Lays.n146 P ρ) (hi9:(P.info? (ρ.t 9)).map (fun i=>(i.zero,i.size,i.bytes))=some (some (.string ByteArray.empty),1,16)) (s:ByteArray) (b:UInt8) (w:World) (hs:s.size<4294967281):
  Calls P (ρ.f 146) #[.string s,.string ⟨#[b]⟩] w fun e w'=>
   e=.returned (.slice (some ⟨w.heap.size,0,none⟩) (Lib.countB s ⟨#[b]⟩+1) (Lib.countB s ⟨#[b]⟩+1))∧w'=w.alloc (.cells ((Lib.splitB ⟨#[b]⟩ 0 (Lib.countB s ⟨#[b]⟩) s).map Value.string).toArray (ρ.t 9)):=by
 have h1:1≤(⟨#[b]⟩:ByteArray).size :=Nat.le_refl 1;have hle:=Lib.countB_le ⟨#[b]⟩ h1 s.size s (Nat.le_refl _);have cE:=Lib.splitB_all ⟨#[b]⟩ h1 0 _ s rfl;have c:=Any.strings_genSplit_core {L with} hi9 s ⟨#[b]⟩ 0 (-1) (Lib.countB s ⟨#[b]⟩+1) w hs h1 (Nat.zero_le _)
  (fun x c hx=>(Any.strings_Index_one {L with} x b _).mono fun e w' ⟨he,hw⟩=>⟨by rw [he];show _=Ending.returned (Value.int .i64 (Lib.index x.data.toList [b]));rw [Lib.index_one],hw⟩)
  ((Any.strings_Count_one {L with} s b w).mono fun e w' ⟨he,hw⟩=>⟨by rw [he];show _=Ending.returned (Value.int .i64 ((Lib.count s.data.toList [b]:Nat):Int));rw [Lib.count_one];rfl,hw⟩) (by decide) (by decide) (by rw [if_pos (by decide)];omega)
 rw [Nat.add_sub_cancel,cE] at c;have e2:Lib.cellsOf (Lib.splitB ⟨#[b]⟩ 0 (Lib.countB s ⟨#[b]⟩) s) (Lib.countB s ⟨#[b]⟩+1)=((Lib.splitB ⟨#[b]⟩ 0 (Lib.countB s ⟨#[b]⟩) s).map Value.string).toArray :=by rw [←cE];exact Lib.cellsOf_full _
 rw [e2] at c;have t3:=L.t3;have t9:=L.t9;have t31:=L.t31;have a3:=L.a3;have a9:=L.a9;have a31:=L.a31;have z3:=L.z3;have v3:=L.v3;have z9:=L.z9;have v9:=L.v9;have z31:=L.z31;have v31:=L.v31;have e221: ∀args w,(callFunc (ρ.f 221) args).run P w=.ok (.enter (ρ.f 221) args) w:=enters_of L.f221 (by kernel_rfl) rfl
 go_enter L.f146,Body.n146_ntmps ρ
 go_wp2_with (go_at_fn (ρ.f 221);refine c.mono ?_;rintro e w' ⟨rfl,hw⟩;rw [hw])
 go_ret
 exact ⟨rfl,rfl⟩
open Go.Proofs.Tryd
def Tryd.lays169_ren :Go.Shelf.Ren:=⟨fun | 169=>29 | n=>n,fun | 70=>35 | 9=>9 | 0=>0 | 72=>38 | 37=>36 | 127=>90 | 3=>3 | 5=>5 | n=>n,fun | n=>n⟩
theorem Tryd.lays169 :Go.Proofs.Lays.n169 prog Tryd.lays169_ren:={
 mixed:=by kernel_rfl
 f169:=Tryd.func29.trans (congrArg some (by kernel_rfl))
 t0:=Tryd.underlying0
 a0:=Tryd.isAgg0
 z0:=Tryd.sizeOf0
 v0:=Tryd.zeroValue0
 t3:=Tryd.underlying3
 a3:=Tryd.isAgg3
 z3:=Tryd.sizeOf3
 v3:=Tryd.zeroValue3
 t9:=Tryd.underlying9
 a9:=Tryd.isAgg9
 z9:=Tryd.sizeOf9
 v9:=Tryd.zeroValue9
 t37:=Tryd.underlying36
 a37:=Tryd.isAgg36
 z37:=Tryd.sizeOf36
 v37:=Tryd.zeroValue36
 t70:=Tryd.underlying35
 a70:=Tryd.isAgg35
 z70:=Tryd.sizeOf35
 v70:=Tryd.zeroValue35
 t72:=Tryd.underlying38
 a72:=Tryd.isAgg38
 z72:=Tryd.sizeOf38
 v72:=Tryd.zeroValue38
 t127:=Tryd.underlying90
 a127:=Tryd.isAgg90
 z127:=Tryd.sizeOf90
 v127:=Tryd.zeroValue90}
theorem Tryd.Builder_Extra_169 :Builder.Extra prog Tryd.lays169_ren:={
 sizeBuilder:=by kernel_rfl
 liesBuilder:=by kernel_rfl
 t5:=Tryd.underlying5
 a5:=Tryd.isAgg5
 z5:=Tryd.sizeOf5
 v5:=Tryd.zeroValue5
 infoByte:=by kernel_rfl
 cellsByte:=by kernel_rfl
 sizeByte:=by kernel_rfl
 neB5:=by decide}
def Tryd.laysM171_ren :Go.Shelf.Ren:=⟨fun | 171=>27 | 243=>45 | 246=>57 | 283=>68 | 284=>69 | 285=>70 | 286=>71 | 129=>81 | 317=>80 | 318=>82 | 319=>83 | 320=>84 | 337=>89 | 338=>90 | n=>n,fun | 3=>3 | 9=>9 | 2=>2 | 4=>4 | 171=>113 | 0=>0 | 53=>114 | 37=>36 | 5=>5 | 173=>117 | 212=>128 | 51=>129 | 20=>20 | 213=>130 | 46=>120 | 232=>145 | 233=>146 | n=>n,fun | 17=>3 | 18=>6 | 19=>7 | n=>n⟩
theorem Tryd.laysM171 :Go.Proofs.LaysM.n171 prog Tryd.laysM171_ren:={
 mixed:=by kernel_rfl
 f129:=Tryd.func81.trans (congrArg some (by kernel_rfl))
 f171:=Tryd.func27.trans (congrArg some (by kernel_rfl))
 f243:=Tryd.func45.trans (congrArg some (by kernel_rfl))
 f246:=Tryd.func57.trans (congrArg some (by kernel_rfl))
 f283:=Tryd.func68.trans (congrArg some (by kernel_rfl))
 f284:=Tryd.func69.trans (congrArg some (by kernel_rfl))
 f285:=Tryd.func70.trans (congrArg some (by kernel_rfl))
 f286:=Tryd.func71.trans (congrArg some (by kernel_rfl))
 f317:=Tryd.func80.trans (congrArg some (by kernel_rfl))
 f318:=Tryd.func82.trans (congrArg some (by kernel_rfl))
 f319:=Tryd.func83.trans (congrArg some (by kernel_rfl))
 f320:=Tryd.func84.trans (congrArg some (by kernel_rfl))
 f337:=Tryd.func89.trans (congrArg some (by kernel_rfl))
 f338:=Tryd.func90.trans (congrArg some (by kernel_rfl))
 t0:=Tryd.underlying0
 a0:=Tryd.isAgg0
 z0:=Tryd.sizeOf0
 v0:=Tryd.zeroValue0
 t2:=Tryd.underlying2
 a2:=Tryd.isAgg2
 z2:=Tryd.sizeOf2
 v2:=Tryd.zeroValue2
 t3:=Tryd.underlying3
 a3:=Tryd.isAgg3
 z3:=Tryd.sizeOf3
 v3:=Tryd.zeroValue3
 t4:=Tryd.underlying4
 a4:=Tryd.isAgg4
 z4:=Tryd.sizeOf4
 v4:=Tryd.zeroValue4
 t5:=Tryd.underlying5
 a5:=Tryd.isAgg5
 z5:=Tryd.sizeOf5
 v5:=Tryd.zeroValue5
 t9:=Tryd.underlying9
 a9:=Tryd.isAgg9
 z9:=Tryd.sizeOf9
 v9:=Tryd.zeroValue9
 t20:=Tryd.underlying20
 a20:=Tryd.isAgg20
 z20:=Tryd.sizeOf20
 v20:=Tryd.zeroValue20
 t37:=Tryd.underlying36
 a37:=Tryd.isAgg36
 z37:=Tryd.sizeOf36
 v37:=Tryd.zeroValue36
 t46:=Tryd.underlying120
 a46:=Tryd.isAgg120
 z46:=Tryd.sizeOf120
 v46:=Tryd.zeroValue120
 t51:=Tryd.underlying129
 a51:=Tryd.isAgg129
 z51:=Tryd.sizeOf129
 v51:=Tryd.zeroValue129
 t53:=Tryd.underlying114
 a53:=Tryd.isAgg114
 z53:=Tryd.sizeOf114
 v53:=Tryd.zeroValue114
 t171:=Tryd.underlying113
 a171:=Tryd.isAgg113
 z171:=Tryd.sizeOf113
 v171:=Tryd.zeroValue113
 t173:=Tryd.underlying117
 a173:=Tryd.isAgg117
 z173:=Tryd.sizeOf117
 v173:=Tryd.zeroValue117
 t212:=Tryd.underlying128
 a212:=Tryd.isAgg128
 z212:=Tryd.sizeOf128
 v212:=Tryd.zeroValue128
 t213:=Tryd.underlying130
 a213:=Tryd.isAgg130
 z213:=Tryd.sizeOf130
 t232:=Tryd.underlying145
 a232:=Tryd.isAgg145
 z232:=Tryd.sizeOf145
 v232:=Tryd.zeroValue145
 t233:=Tryd.underlying146
 a233:=Tryd.isAgg146
 z233:=Tryd.sizeOf146
 v233:=Tryd.zeroValue146
 g17:=by kernel_rfl
 g18:=by kernel_rfl
 g19:=by kernel_rfl
 i0:=by kernel_rfl
 i2:=by kernel_rfl
 i3:=by kernel_rfl
 i4:=by kernel_rfl
 i5:=by kernel_rfl
 i9:=by kernel_rfl
 i20:=by kernel_rfl
 i37:=by kernel_rfl
 i46:=by kernel_rfl
 i51:=by kernel_rfl
 i53:=by kernel_rfl
 i171:=by kernel_rfl
 i173:=by kernel_rfl
 i212:=by kernel_rfl
 i232:=by kernel_rfl
 i233:=by kernel_rfl
 m17:=by kernel_rfl
 m18:=by kernel_rfl
 m19:=by kernel_rfl}
def Tryd.laysC172_ren :Go.Shelf.Ren:=⟨fun | 172=>33 | 244=>53 | 245=>54 | 247=>63 | 279=>64 | 280=>65 | 281=>66 | 282=>67 | 287=>77 | 316=>78 | 171=>27 | 205=>79 | 321=>87 | 322=>88 | 243=>45 | 246=>57 | 283=>68 | 284=>69 | 285=>70 | 286=>71 | 129=>81 | 317=>80 | 318=>82 | 319=>83 | 320=>84 | 337=>89 | 338=>90 | n=>n,fun | 9=>9 | 3=>3 | 75=>75 | 76=>76 | 4=>4 | 5=>5 | 167=>107 | 37=>36 | 0=>0 | 85=>108 | 2=>2 | 168=>110 | 53=>114 | 175=>121 | 46=>120 | 210=>125 | 127=>90 | 145=>143 | 143=>141 | 21=>21 | 171=>113 | 173=>117 | 212=>128 | 51=>129 | 20=>20 | 213=>130 | 232=>145 | 233=>146 | 80=>81 | n=>n,fun | 15=>1 | 16=>2 | 17=>3 | 18=>6 | 19=>7 | n=>n⟩
theorem Tryd.laysC172 :Go.Proofs.LaysC.n172 prog Tryd.laysC172_ren:={
 mixed:=by kernel_rfl
 f129:=Tryd.func81.trans (congrArg some (by kernel_rfl))
 f171:=Tryd.func27.trans (congrArg some (by kernel_rfl))
 f172:=Tryd.func33.trans (congrArg some (by kernel_rfl))
 f205:=Tryd.func79.trans (congrArg some (by kernel_rfl))
 f243:=Tryd.func45.trans (congrArg some (by kernel_rfl))
 f244:=Tryd.func53.trans (congrArg some (by kernel_rfl))
 f245:=Tryd.func54.trans (congrArg some (by kernel_rfl))
 f246:=Tryd.func57.trans (congrArg some (by kernel_rfl))
 f247:=Tryd.func63.trans (congrArg some (by kernel_rfl))
 f279:=Tryd.func64.trans (congrArg some (by kernel_rfl))
 f280:=Tryd.func65.trans (congrArg some (by kernel_rfl))
 f281:=Tryd.func66.trans (congrArg some (by kernel_rfl))
 f282:=Tryd.func67.trans (congrArg some (by kernel_rfl))
 f283:=Tryd.func68.trans (congrArg some (by kernel_rfl))
 f284:=Tryd.func69.trans (congrArg some (by kernel_rfl))
 f285:=Tryd.func70.trans (congrArg some (by kernel_rfl))
 f286:=Tryd.func71.trans (congrArg some (by kernel_rfl))
 f287:=Tryd.func77.trans (congrArg some (by kernel_rfl))
 f316:=Tryd.func78.trans (congrArg some (by kernel_rfl))
 f317:=Tryd.func80.trans (congrArg some (by kernel_rfl))
 f318:=Tryd.func82.trans (congrArg some (by kernel_rfl))
 f319:=Tryd.func83.trans (congrArg some (by kernel_rfl))
 f320:=Tryd.func84.trans (congrArg some (by kernel_rfl))
 f321:=Tryd.func87.trans (congrArg some (by kernel_rfl))
 f322:=Tryd.func88.trans (congrArg some (by kernel_rfl))
 f337:=Tryd.func89.trans (congrArg some (by kernel_rfl))
 f338:=Tryd.func90.trans (congrArg some (by kernel_rfl))
 t0:=Tryd.underlying0
 a0:=Tryd.isAgg0
 z0:=Tryd.sizeOf0
 v0:=Tryd.zeroValue0
 t2:=Tryd.underlying2
 a2:=Tryd.isAgg2
 z2:=Tryd.sizeOf2
 v2:=Tryd.zeroValue2
 t3:=Tryd.underlying3
 a3:=Tryd.isAgg3
 z3:=Tryd.sizeOf3
 v3:=Tryd.zeroValue3
 t4:=Tryd.underlying4
 a4:=Tryd.isAgg4
 z4:=Tryd.sizeOf4
 v4:=Tryd.zeroValue4
 t5:=Tryd.underlying5
 a5:=Tryd.isAgg5
 z5:=Tryd.sizeOf5
 v5:=Tryd.zeroValue5
 t9:=Tryd.underlying9
 a9:=Tryd.isAgg9
 z9:=Tryd.sizeOf9
 v9:=Tryd.zeroValue9
 t20:=Tryd.underlying20
 a20:=Tryd.isAgg20
 z20:=Tryd.sizeOf20
 v20:=Tryd.zeroValue20
 t21:=Tryd.underlying21
 a21:=Tryd.isAgg21
 z21:=Tryd.sizeOf21
 v21:=Tryd.zeroValue21
 t37:=Tryd.underlying36
 a37:=Tryd.isAgg36
 z37:=Tryd.sizeOf36
 v37:=Tryd.zeroValue36
 t46:=Tryd.underlying120
 a46:=Tryd.isAgg120
 z46:=Tryd.sizeOf120
 v46:=Tryd.zeroValue120
 t51:=Tryd.underlying129
 a51:=Tryd.isAgg129
 z51:=Tryd.sizeOf129
 v51:=Tryd.zeroValue129
 t53:=Tryd.underlying114
 a53:=Tryd.isAgg114
 z53:=Tryd.sizeOf114
 v53:=Tryd.zeroValue114
 t75:=Tryd.underlying75
 a75:=Tryd.isAgg75
 z75:=Tryd.sizeOf75
 v75:=Tryd.zeroValue75
 t76:=Tryd.underlying76
 a76:=Tryd.isAgg76
 z76:=Tryd.sizeOf76
 v76:=Tryd.zeroValue76
 t85:=Tryd.underlying108
 a85:=Tryd.isAgg108
 z85:=Tryd.sizeOf108
 v85:=Tryd.zeroValue108
 t127:=Tryd.underlying90
 a127:=Tryd.isAgg90
 z127:=Tryd.sizeOf90
 v127:=Tryd.zeroValue90
 t143:=Tryd.underlying141
 a143:=Tryd.isAgg141
 z143:=Tryd.sizeOf141
 v143:=Tryd.zeroValue141
 t145:=Tryd.underlying143
 a145:=Tryd.isAgg143
 z145:=Tryd.sizeOf143
 v145:=Tryd.zeroValue143
 t167:=Tryd.underlying107
 a167:=Tryd.isAgg107
 z167:=Tryd.sizeOf107
 v167:=Tryd.zeroValue107
 t168:=Tryd.underlying110
 a168:=Tryd.isAgg110
 z168:=Tryd.sizeOf110
 v168:=Tryd.zeroValue110
 t171:=Tryd.underlying113
 a171:=Tryd.isAgg113
 z171:=Tryd.sizeOf113
 v171:=Tryd.zeroValue113
 t173:=Tryd.underlying117
 a173:=Tryd.isAgg117
 z173:=Tryd.sizeOf117
 v173:=Tryd.zeroValue117
 t175:=Tryd.underlying121
 a175:=Tryd.isAgg121
 z175:=Tryd.sizeOf121
 v175:=Tryd.zeroValue121
 t210:=Tryd.underlying125
 a210:=Tryd.isAgg125
 z210:=Tryd.sizeOf125
 v210:=Tryd.zeroValue125
 t212:=Tryd.underlying128
 a212:=Tryd.isAgg128
 z212:=Tryd.sizeOf128
 v212:=Tryd.zeroValue128
 t213:=Tryd.underlying130
 a213:=Tryd.isAgg130
 z213:=Tryd.sizeOf130
 t232:=Tryd.underlying145
 a232:=Tryd.isAgg145
 z232:=Tryd.sizeOf145
 v232:=Tryd.zeroValue145
 t233:=Tryd.underlying146
 a233:=Tryd.isAgg146
 z233:=Tryd.sizeOf146
 v233:=Tryd.zeroValue146
 g15:=by kernel_rfl
 g16:=by kernel_rfl
 g17:=by kernel_rfl
 g18:=by kernel_rfl
 g19:=by kernel_rfl
 t80:=Tryd.underlying81
 a80:=Tryd.isAgg81
 z80:=Tryd.sizeOf81
 v80:=Tryd.zeroValue81
 i0:=by kernel_rfl
 i2:=by kernel_rfl
 i3:=by kernel_rfl
 i4:=by kernel_rfl
 i5:=by kernel_rfl
 i9:=by kernel_rfl
 i20:=by kernel_rfl
 i21:=by kernel_rfl
 i37:=by kernel_rfl
 i46:=by kernel_rfl
 i51:=by kernel_rfl
 i53:=by kernel_rfl
 i75:=by kernel_rfl
 i76:=by kernel_rfl
 i80:=by kernel_rfl
 i85:=by kernel_rfl
 i127:=by kernel_rfl
 i143:=by kernel_rfl
 i145:=by kernel_rfl
 i167:=by kernel_rfl
 i168:=by kernel_rfl
 i171:=by kernel_rfl
 i173:=by kernel_rfl
 i175:=by kernel_rfl
 i210:=by kernel_rfl
 i212:=by kernel_rfl
 i232:=by kernel_rfl
 i233:=by kernel_rfl
 m15:=by kernel_rfl
 m16:=by kernel_rfl
 m17:=by kernel_rfl
 m18:=by kernel_rfl
 m19:=by kernel_rfl
 c0:=by kernel_rfl
 c2:=by kernel_rfl
 c3:=by kernel_rfl
 c4:=by kernel_rfl
 c5:=by kernel_rfl
 c9:=by kernel_rfl
 c20:=by kernel_rfl
 c21:=by kernel_rfl
 c37:=by kernel_rfl
 c46:=by kernel_rfl
 c51:=by kernel_rfl
 c53:=by kernel_rfl
 c75:=by kernel_rfl
 c76:=by kernel_rfl
 c80:=by kernel_rfl
 c85:=by kernel_rfl
 c127:=by kernel_rfl
 c143:=by kernel_rfl
 c145:=by kernel_rfl
 c167:=by kernel_rfl
 c168:=by kernel_rfl
 c171:=by kernel_rfl
 c173:=by kernel_rfl
 c175:=by kernel_rfl
 c210:=by kernel_rfl
 c212:=by kernel_rfl
 c213:=by kernel_rfl
 c232:=by kernel_rfl
 c233:=by kernel_rfl}
def Tryd.lays146_ren :Go.Shelf.Ren:=⟨fun | 146=>17 | 221=>32 | 268=>50 | 138=>51 | 143=>52 | 195=>59 | 197=>60 | 218=>61 | 219=>62 | 260=>72 | 217=>73 | 225=>74 | 224=>75 | 267=>76 | 266=>85 | 314=>86 | n=>n,fun | 9=>9 | 31=>50 | 3=>3 | 4=>4 | 0=>0 | 105=>104 | 21=>21 | 5=>5 | 46=>120 | 119=>133 | 139=>136 | 138=>135 | 146=>137 | 51=>129 | n=>n,fun | 1=>0 | 3=>4 | 4=>5 | n=>n⟩
theorem Tryd.lays146 :Go.Proofs.Lays.n146 prog Tryd.lays146_ren:={
 mixed:=by kernel_rfl
 f138:=Tryd.func51.trans (congrArg some (by kernel_rfl))
 f143:=Tryd.func52.trans (congrArg some (by kernel_rfl))
 f146:=Tryd.func17.trans (congrArg some (by kernel_rfl))
 f195:=Tryd.func59.trans (congrArg some (by kernel_rfl))
 f197:=Tryd.func60.trans (congrArg some (by kernel_rfl))
 f217:=Tryd.func73.trans (congrArg some (by kernel_rfl))
 f218:=Tryd.func61.trans (congrArg some (by kernel_rfl))
 f219:=Tryd.func62.trans (congrArg some (by kernel_rfl))
 f221:=Tryd.func32.trans (congrArg some (by kernel_rfl))
 f224:=Tryd.func75.trans (congrArg some (by kernel_rfl))
 f225:=Tryd.func74.trans (congrArg some (by kernel_rfl))
 f260:=Tryd.func72.trans (congrArg some (by kernel_rfl))
 f266:=Tryd.func85.trans (congrArg some (by kernel_rfl))
 f267:=Tryd.func76.trans (congrArg some (by kernel_rfl))
 f268:=Tryd.func50.trans (congrArg some (by kernel_rfl))
 f314:=Tryd.func86.trans (congrArg some (by kernel_rfl))
 t0:=Tryd.underlying0
 a0:=Tryd.isAgg0
 z0:=Tryd.sizeOf0
 v0:=Tryd.zeroValue0
 t3:=Tryd.underlying3
 a3:=Tryd.isAgg3
 z3:=Tryd.sizeOf3
 v3:=Tryd.zeroValue3
 t4:=Tryd.underlying4
 a4:=Tryd.isAgg4
 z4:=Tryd.sizeOf4
 v4:=Tryd.zeroValue4
 t5:=Tryd.underlying5
 a5:=Tryd.isAgg5
 z5:=Tryd.sizeOf5
 v5:=Tryd.zeroValue5
 t9:=Tryd.underlying9
 a9:=Tryd.isAgg9
 z9:=Tryd.sizeOf9
 v9:=Tryd.zeroValue9
 t21:=Tryd.underlying21
 a21:=Tryd.isAgg21
 z21:=Tryd.sizeOf21
 v21:=Tryd.zeroValue21
 t31:=Tryd.underlying50
 a31:=Tryd.isAgg50
 z31:=Tryd.sizeOf50
 v31:=Tryd.zeroValue50
 t46:=Tryd.underlying120
 a46:=Tryd.isAgg120
 z46:=Tryd.sizeOf120
 v46:=Tryd.zeroValue120
 t51:=Tryd.underlying129
 a51:=Tryd.isAgg129
 z51:=Tryd.sizeOf129
 v51:=Tryd.zeroValue129
 t105:=Tryd.underlying104
 a105:=Tryd.isAgg104
 z105:=Tryd.sizeOf104
 v105:=Tryd.zeroValue104
 t119:=Tryd.underlying133
 a119:=Tryd.isAgg133
 z119:=Tryd.sizeOf133
 t138:=Tryd.underlying135
 a138:=Tryd.isAgg135
 z138:=Tryd.sizeOf135
 v138:=Tryd.zeroValue135
 t139:=Tryd.underlying136
 a139:=Tryd.isAgg136
 z139:=Tryd.sizeOf136
 v139:=Tryd.zeroValue136
 t146:=Tryd.underlying137
 a146:=Tryd.isAgg137
 z146:=Tryd.sizeOf137
 v146:=Tryd.zeroValue137
 g1:=by kernel_rfl
 g3:=by kernel_rfl
 g4:=by kernel_rfl}
def Tryd.lays240_ren :Go.Shelf.Ren:=⟨fun | 240=>44 | 276=>56 | n=>n,fun | 0=>0 | 4=>4 | 9=>9 | 20=>20 | 70=>35 | 72=>38 | 164=>99 | 37=>36 | n=>n,fun | n=>n⟩
theorem Tryd.lays240 :Go.Proofs.Lays.n240 prog Tryd.lays240_ren:={
 mixed:=by kernel_rfl
 f240:=Tryd.func44.trans (congrArg some (by kernel_rfl))
 f276:=Tryd.func56.trans (congrArg some (by kernel_rfl))
 t0:=Tryd.underlying0
 a0:=Tryd.isAgg0
 z0:=Tryd.sizeOf0
 v0:=Tryd.zeroValue0
 t4:=Tryd.underlying4
 a4:=Tryd.isAgg4
 z4:=Tryd.sizeOf4
 v4:=Tryd.zeroValue4
 t9:=Tryd.underlying9
 a9:=Tryd.isAgg9
 z9:=Tryd.sizeOf9
 v9:=Tryd.zeroValue9
 t20:=Tryd.underlying20
 a20:=Tryd.isAgg20
 z20:=Tryd.sizeOf20
 v20:=Tryd.zeroValue20
 t70:=Tryd.underlying35
 a70:=Tryd.isAgg35
 z70:=Tryd.sizeOf35
 v70:=Tryd.zeroValue35
 t72:=Tryd.underlying38
 a72:=Tryd.isAgg38
 z72:=Tryd.sizeOf38
 v72:=Tryd.zeroValue38
 t164:=Tryd.underlying99
 a164:=Tryd.isAgg99
 z164:=Tryd.sizeOf99
 v164:=Tryd.zeroValue99
}
theorem Tryd.Builder_X72_240 :Builder.X72 prog Tryd.lays240_ren where
 sizeBuilder:=by kernel_rfl
 liesBuilder:=by kernel_rfl
end Go.Proofs
namespace Go.Am
open IntKind (wrap)
open Go.Proofs.Tryd
open Go.Proofs
theorem strOk :x8r prog:=fun _ b p v w l cE hbk hv=>by
 rcases hv with ⟨rfl,rfl⟩ | ⟨g,o,c,cur,rfl,hlc,hg,hn,hc⟩
 ·refine (z8c Tryd.lays169 Tryd.Builder_Extra_169 b p w hbk).mono fun e w' ⟨he,hw⟩=>⟨he,?_⟩
  subst hw;exact ⟨Aj _,fun k o hk _=>hk,rfl,rfl,rfl⟩
 ·cases l with
  | nil=>
   by_cases hc0:c=0
   ·subst hc0;refine (z2y Tryd.lays169 Tryd.Builder_Extra_169 b p w g o cur hbk hg).mono fun e w' ⟨he,hw⟩=>⟨he,?_⟩
    subst hw;refine ⟨?_,fun k ob hk _=> ?_,rfl,rfl,rfl⟩
    ·show w.heap.size≤(w.heap.push _).size;rw [Array.size_push];exact Br _
    ·show (w.heap.push _)[k]? =_;rw [Bm,As (AO (Ar.1 hk).1)];exact hk
   ·refine (z6k Tryd.lays169 Tryd.Builder_Extra_169 b p w g o c hc0 hbk).mono fun e w' ⟨he,hw⟩=>⟨he,?_⟩
    subst hw;exact ⟨Aj _,fun k o hk _=>hk,rfl,rfl,rfl⟩
  | cons x r=>
   refine (z6j Tryd.lays169 Tryd.Builder_Extra_169 b p w g o c cur (x::r) (by simp) hlc cE hbk hg (hn (by simp)) hc).mono fun e w' ⟨he,hw⟩=>⟨he,?_⟩
   subst hw;obtain ⟨f1,f2,f3,f4⟩:=z6i w.drew ⟨g,o,none⟩ (x::r).length;exact ⟨Bt f1.symm,fun k ob hk hne=>(y9g w.drew g o _ k (hne g o _ c rfl)).trans hk,f2,f3,f4⟩
def namedB (P:Program):Bool:=P.funcs.toList.all fun fn=>fn.body.isNone|| !(fn.name == "runtime.NumGoroutine")
theorem x3u {P:Program} (h:namedB P=true) (hs:x8r P):Qa P:=by
 refine ⟨fun f fn hf hb=> ?_,hs⟩;have hm:fn∈P.funcs.toList:=by rw [Array.mem_toList_iff];exact Array.mem_of_getElem? hf
 have:=Aw.mp h fn hm;cases hbb:fn.body with
 | none=>rw [hbb] at hb;cases hb
 | some b=>simpa [hbb] using this
theorem named :Qa prog:=x3u (by kernel_rfl) strOk
theorem mixed :prog.follows .mixedOrders =true:=by kernel_rfl
end Go.Am
end
