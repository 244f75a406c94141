/- A part of a proof: several texts in one. -/
import Derived.Test.YtigjpddfojohaaaGreatMb1
import Derived.AtR
import Derived.RangeFuncRecord
import Derived.RangeFuncNested
import Derived.Laws.BytesString
import Derived.Lib.UnsafeStr
import Derived.MapKept
import Derived.Sort.Grow
import Derived.Deep.Slices
import Derived.Deep.Fields
import Derived.ChangeSame
import Derived.OpenShut
import Derived.Test.YtigjpddfojohaaaGreatProg
set_option maxRecDepth 1000000
set_option maxHeartbeats 8000000
set_option linter.unusedVariables false
set_option linter.unusedSimpArgs false
noncomputable section
namespace Go.Am
open IntKind (wrap)
abbrev RegOps :=Array Oper×Nat×List Oper
structure AFr where
 cx:Ctx
 ro:Option RegOps
 todo:List Item
 rnd:Option Nat
 rs:List ResultVar
 env:T AVal
structure ALoop where
 st:LoopState
 pend:Option Code
 n:Nat
 env:T AVal
 params:List Tmp
 assign:Code
 body:Code
abbrev Loops :=T (Option ALoop)
def z9c (m:Loops) (b:Nat):Option ALoop:=T.get none m b
def w1z (m:Loops) (b:Nat) (o:Option ALoop):Loops:=T.set none m b o
structure Cfg where
 cx:Ctx
 ro:Option RegOps
 todo:List Item
 rnd:Option Nat
 rs:List ResultVar
 st:St
 cs:List AFr
 lps:Loops
def popS (v:AVal) (st:St) (lps:Loops):List AFr→Option Cfg
 | ⟨cx,some (ops,i,o::l),todo,rnd,rs,env⟩::cs=>match (st.withEnv env).put cx o.dst v with
  | some st'=>some ⟨cx,some (ops,i+1,l),todo,rnd,rs,st',cs,lps⟩
  | none=>none
 | ⟨cx,none,.inRangeFunc j::k,rnd,rs,env⟩::cs=>some ⟨cx,none,.endRangeFunc j::k,rnd,rs,st.withEnv env,cs,lps⟩
 | _=>none
def y8m :Option Code→LoopState
 | none=>.ready
 | some _=>.done
def rndOk (lps:Loops):Option Nat→Bool
 | none=>true
 | some j=>(z9c lps j).isSome
def y8j (P:Program) (rnd:Option Nat) (rs:List ResultVar) (st:St) (cs:List AFr) (lps:Loops) (jump:Option Code):Option Cfg:=
 match rnd with
 | none=>match Vn P st rs with
  | some vs=>popS (Vt vs) st lps cs
  | none=>none
 | some j=>match z9c lps j with
  | some ⟨_,_,n,env,params,assign,body⟩=>
   popS (.bool jump.isNone) st (w1z lps j (some ⟨y8m jump,jump,n,env,params,assign,body⟩)) cs
  | none=>none
def y4o (n:Nat):List Tmp→List AVal→T AVal→Option (T AVal)
 | [],[],env=>some env
 | t::ts,a::l,env=>bif Nat.ble (t+1) n then y4o n ts l (T.set .undef env t a) else none
 | _,_,_=>none
def y3u (P:Program) (f:FuncId) (args:List AVal) (fr:AFr) (st:St) (cs:List AFr) (lps:Loops):Option Cfg:=
 match P.funcs[f]? with
 | some fn=>match fn.body with
  | some body=>some ⟨⟨Nat.max fn.ntmps args.length,fr.cx.floor,fr.cx.sym⟩,none,[.code body],none,fn.results.toList,st.withEnv (z6s args 0 .leaf),fr::cs,lps⟩
  | none=>none
 | none=>none
def v3t (j:Nat) (args:List AVal) (fr:AFr) (st:St) (cs:List AFr) (lps:Loops):Option Cfg:=
 match z9c lps j with
 | some ⟨_,_,n,env,params,assign,body⟩=>match y4o n params args env with
  | some env'=>some ⟨⟨n,fr.cx.floor,fr.cx.sym⟩,none,[.code assign,.beginRound,.code body],some j,[],st.withEnv env',fr::cs,lps⟩
  | none=>none
 | none=>none
def callee (S:Specs) (st:St) (op:Op):Option ((FuncId×List AVal) ⊕ (Nat×List AVal)):=
 match op with
 | .call {callee:=.value f,args,argTypes:=_}=>match st.eval f with
  | .fn g caps=>match S g with
   | some _=>none
   | none=>some (.inl (g,args.toList.map st.eval++caps))
  | .fnb g first=>match S g with
   | some _=>none
   | none=>some (.inl (g,first++args.toList.map st.eval))
  | .yld j=>some (.inr (j,args.toList.map st.eval))
  | _=>none
 | _=>none
def y0i (P:Program) (t:TypeId):Option Bool:=match P.underlying t with
 | some (.map k e)=>match P.underlying k,P.underlying e,P.info? e with
  | some .string,some (.int .i64),some i=>match i.zero with
   | some (.int .i64 n)=>bif n == 0 then some true else none
   | _=>none
  | some .string,some .bool,some i=>match i.zero with
   | some (.bool b)=>bif b then none else some false
   | _=>none
  | _,_,_=>none
 | _=>none
def v9m {α:Type} (l:List (List UInt8×α)) (k:List UInt8):Bool:=l.any fun p=>k == p.1
def getK {α:Type} (d:α):List (List UInt8×α)→List UInt8→α
 | [],_=>d
 | p::r,k=>bif k == p.1 then p.2 else getK d r k
def x5p {α:Type}:List (List UInt8×α)→List UInt8→α→List (List UInt8×α)
 | [],k,v=>[(k,v)]
 | p::r,k,v=>bif k == p.1 then (p.1,v)::r else p::x5p r k v
def dcR (s:List UInt8) (pos:Nat):Int:=((Utf8.decode ⟨s.toArray⟩ pos).1:Int)
def dcW (s:List UInt8) (pos:Nat):Nat:=(Utf8.decode ⟨s.toArray⟩ pos).2
def y9b :AVal→UInt8
 | .int _ n=>UInt8.ofNat n.toNat
 | _=>0
def y8q :AVal→Bool
 | .int .u8 n=>decide (0≤n∧n<256)
 | _=>false
def w2n (n:Nat) (g:Nat→List AVal):List UInt8:=(List.range n).map fun k=>y9b ((g k).getD 0 .undef)
def u2n (n:Nat) (g:Nat→List AVal):Bool:=pd (∀k,k<n→ ∃v,g k=[v]∧y8q v=true)
def y9l (m:Mem):AVal→Option (List UInt8×Bool)
 | .nils =>some ([],true)
 | .sl b off len _=>match Zt m b with
  | some blk=>bif blk.isObj then none else match cut blk.cells off len with
   | some cs=>some (cs.map y9b,cs.all y8q)
   | none=>none
  | none=>none
 | .sla b sz off len _=>match Zt m b with
  | some blk=>match blk.arr with
   | some A=>some (w2n len fun k=>A.get (off+k),Nat.beq sz 1&&(Nat.beq A.sz 1&&(decide (off+len≤A.n)&&u2n len fun k=>A.get (off+k))))
   | none=>none
  | none=>none
 | _=>none
def refB :AVal→Option Nat
 | .sl b _ _ _=>some b
 | .sla b _ _ _ _=>some b
 | _=>none
def z6w (P:Program) (floor:Nat) (st:St) (t:TypeId) (x k v:AVal):Option St:=match x,k with
 | .mapr b,.str k=>bif Nat.ble floor b then match y0i P t,Zt st.mem b,v with
  | some true,some ⟨[.obj (.mi l)],ty,none⟩,.int .i64 n=>some (st.withMem (Yr st.mem b (some ⟨[.obj (.mi (x5p l k n))],ty,none⟩)))
  | some false,some ⟨[.obj (.mb l)],ty,none⟩,.bool e=>some (st.withMem (Yr st.mem b (some ⟨[.obj (.mb (x5p l k e))],ty,none⟩)))
  | _,_,_=>none
  else none
 | _,_=>none
def aX (P:Program) (floor:Nat) (st:St):Op→Option (AVal×Bool×St)
 | .makeMap t none=>match y0i P t with
  | some k=>some (.mapr st.next,true,z3r st [.obj (bif k then .mi [] else .mb [])] t)
  | none=>none
 | .lookup t x i co=>match st.eval x,st.eval i with
  | .mapr b,.str k=>match y0i P t,Zt st.mem b with
   | some true,some ⟨[.obj (.mi l)],_,none⟩=>some (bif co then .tup [.int .i64 (getK 0 l k),.bool (v9m l k)] else .int .i64 (getK 0 l k),true,st)
   | some false,some ⟨[.obj (.mb l)],_,none⟩=>some (bif co then .tup [.bool (getK false l k),.bool (v9m l k)] else .bool (getK false l k),true,st)
   | _,_=>none
  | _,_=>none
 | .mapUpdate t m k v=>(z6w P floor st t (st.eval m) (st.eval k) (st.eval v)).map fun st'=>(.tup [],true,st')
 | .insert t m k v=>(z6w P floor st t (st.eval m) (st.eval k) (st.eval v)).map fun st'=>(.tup [],true,st')
 | .range t x=>match P.underlying t,st.eval x with
  | some .string,.str s=>some (.ptr st.next 0,true,z3r st [.obj (.it s 0)] t)
  | _,_=>none
 | .next x true=>match st.eval x with
  | .ptr b 0=>bif Nat.ble floor b then match Zt st.mem b with
   | some ⟨[.obj (.it s pos)],ty,none⟩=>match st.test (decide (pos<s.length)) with
    | (e,st1)=>some (bif e then .tup [.bool true,.int .i64 pos,.int .i32 (dcR s pos)] else .tup [.bool false],true,
      bif e then st1.withMem (Yr st1.mem b (some ⟨[.obj (.it s (pos+dcW s pos))],ty,none⟩)) else st1)
   | _=>none
   else none
  | _=>none
 | .alloc t=>bif Nat.beq t bldT then match P.info? t with
   | some i=>match i.zero with
    | some (.agg ⟨[.pointer none,.slice none 0 0]⟩)=>some (.ptr st.next 0,true,z3r st [.obj .bld,.nils] t)
    | _=>none
   | none=>none
  else none
 | .load t x=>match st.eval x with
  | .ptr b 1=>match Zt st.mem b,x6x P t,P.info? t with
   | some ⟨[.obj .bld,buf],_,none⟩,some false,some _=>some (buf,true,st)
   | _,_,_=>none
  | _=>none
 | .store t a x=>match st.eval a with
  | .ptr b 1=>bif Nat.ble floor b&&z2f (st.eval x) then match Zt st.mem b,P.info? t with
   | some ⟨[.obj .bld,_],ty,none⟩,some i=>bif Nat.beq i.size 1 then some (.tup [],true,st.withMem (Yr st.mem b (some ⟨[.obj .bld,st.eval x],ty,none⟩))) else none
   | _,_=>none
   else none
  | _=>none
 | .convert src dst x=>match P.underlying src,P.underlying dst with
  | some (.slice e),some .string =>match P.underlying e with
   | some (.int .u8)=>match y9l st.mem (st.eval x) with
    | some (s,o)=>some (.str s,o,st)
    | none=>none
   | _=>none
  | _,_=>none
 | .binOp op t x y _=>match st.eval x,y,P.underlying t with
  | .ifb b,.const .nilIface,some (.interface _)=>match op with
   | .eql =>some (.bool b,true,st)
   | .neq =>some (.bool !b,true,st)
   | _=>none
  | _,_,_=>none
 | .call {callee:=.value f,args,argTypes:=_}=>match st.eval f,args.toList.map st.eval with
  | .fn g [],[.ptr b 0]=>bif Nat.beq g v2r&&(P.funcs[g]?).any (fun fn=>fn.body.isSome) then match Zt st.mem b with
    | some ⟨[.obj .bld,buf],ty,none⟩=>bif Nat.beq ty bldT then match y9l st.mem buf with
     | some (s,o)=>match refB buf with
      | none=>some (.str s,decide (s.length≤9223372036854775807)&&o,st)
      | some c=>bif Nat.ble floor c&&tyB st.mem bytT c then some (.str s,decide (s.length≤9223372036854775807)&&o,st.withMem (Yr st.mem c none)) else none
     | none=>none
     else none
    | _=>none
   else none
  | _,_=>none
 | _=>none
def w2q (P:Program) (S:Specs) (Rc:Runner) (cx:Ctx) (ops:Array Oper) (i:Nat) (o:Oper) (l:List Oper) (todo:List Item) (rnd:Option Nat) (rs:List ResultVar) (st:St) (cs:List AFr) (lps:Loops):Option Cfg:=
 match Jd ops o cx st with
 | some (true,st)=>match aX P cx.floor st o.op with
  | some (v,b,st1)=>match st1.owe cx b with
   | some st2=>match st2.put cx o.dst v with
    | some st3=>some ⟨cx,some (ops,i+1,l),todo,rnd,rs,st3,cs,lps⟩
    | none=>none
   | none=>none
  | none=>match callee S st o.op with
  | some (.inl (g,args))=>y3u P g args ⟨cx,some (ops,i,o::l),todo,rnd,rs,st.env⟩ st cs lps
  | some (.inr (j,args))=>v3t j args ⟨cx,some (ops,i,o::l),todo,rnd,rs,st.env⟩ st cs lps
  | none=>match y0c P S Rc false o cx st with
   | some st=>some ⟨cx,some (ops,i+1,l),todo,rnd,rs,st,cs,lps⟩
   | none=>none
 | some (false,st)=>match st.put cx o.dst (.tup []) with
  | some st=>some ⟨cx,some (ops,i+1,l),todo,rnd,rs,st,cs,lps⟩
  | none=>none
 | none=>none
def Qs (ops:Array Oper):Bool:=ops.toList.all fun o=>match o.op with
 | .defer _=>false
 | _=>true
def stubOp (o:Oper):Oper:=⟨none,.move (.const (.bool true)),o.type,o.pos,o.after,none⟩
def Xm (ops:Array Oper) (m:Nat):Array Oper:=⟨ops.toList.take m++(ops.toList.drop m).map stubOp⟩
def v2q (ops:Array Oper) (m:Nat):Bool:=
 Qs ops&&(y1c 0 (Xm ops m)&&(((List.range ops.size).all fun j=>Nat.ble (j+1) m||(List.range j).all fun i=>((w1l (Xm ops m).toList []).getD j 0).testBit i)&&((List.range m).all fun i=>match ops[i]? with
  | some ⟨_,_,_,_,_,some (j,_)⟩=>Nat.ble (j+1) m
  | _=>true)))
def v6i (f:Operand):List Oper→Operand
 | []=>f
 | ⟨some d,.move x,_,_,_,_⟩::l=>match f with
  | .tmp t=>bif Nat.beq t d then x else v6i f l
  | _=>f
 | _::l=>v6i f l
def w5e (st:St) (ops:List Oper):Oper→Bool
 | ⟨_,.call ⟨.value f,_,_⟩,_,_,_,_⟩=>match st.eval (v6i f ops) with
  | .yld _=>true
  | _=>false
 | _=>false
def y4d (st:St) (ops:List Oper):List Oper→Nat→Option Nat
 | [],_=>none
 | o::l,i=>bif w5e st ops o then some i else y4d st ops l (i+1)
def v6f (ops:Array Oper) (st:St):Option Nat:=
 match y4d st ops.toList ops.toList 0 with
 | some m=>bif v2q ops m then some m else none
 | none=>none
def tryZ (ops:Array Oper):List Nat→Option Nat
 | []=>none
 | z::l=>bif y1c z ops then some z else tryZ ops l
def hasApp (ops:Array Oper):Bool:=ops.toList.any fun o=>match o.op with
 | .call {callee:=.builtin .append,.. }=>true
 | _=>false
def v9d (ops:Array Oper):Bool:=ops.toList.any fun o=>match o.op,o.dst with
 | .buildSlice _ _ _,some d=>ops.toList.any fun p=>match p.op with
  | .call {callee:=.value _,args,argTypes:=_}=>args.toList.any fun a=>match a with
   | .tmp t=>Nat.beq t d
   | _=>false
  | _=>false
 | _,_=>false
def v9c (ops:Array Oper):Option Nat:=bif Qs ops then tryZ ops (bif v9d ops then [1,0,2] else bif hasApp ops then [0,2,3,1] else [0,1,2]) else none
def St.nextId :St→Nat×St
 | ⟨env,mem,next,orc,ob⟩=>(next,⟨env,mem,next+1,orc,ob⟩)
def x7u (P:Program) (S:Specs) (Rc:Runner):Cfg→Option Cfg
 | ⟨cx,some (_,_,[]),todo,rnd,rs,st,cs,lps⟩=>some ⟨cx,none,todo,rnd,rs,st,cs,lps⟩
 | ⟨cx,some (ops,i,o::l),todo,rnd,rs,st,cs,lps⟩=>w2q P S Rc cx ops i o l todo rnd rs st cs lps
 | ⟨cx,none,todo,rnd,rs,st,cs,lps⟩=>match todo with
  | []=>y8j P rnd rs st cs lps none
  | .code .ret ::_=>y8j P rnd rs st cs lps (some .ret)
  | .code .skip ::k=>some ⟨cx,none,k,rnd,rs,st,cs,lps⟩
  | .code (.label _)::k=>some ⟨cx,none,k,rnd,rs,st,cs,lps⟩
  | .inBlock _::k=>some ⟨cx,none,k,rnd,rs,st,cs,lps⟩
  | .inScope _::k=>some ⟨cx,none,k,rnd,rs,st,cs,lps⟩
  | .code (.seq a b)::k=>some ⟨cx,none,.code a::.code b::k,rnd,rs,st,cs,lps⟩
  | .code (.cond c a b)::k=>match st.eval c with
   | .bool v=>match st.test v with
    | (e,st)=>some ⟨cx,none,.code (bif e then a else b)::k,rnd,rs,st,cs,lps⟩
   | _=>none
  | .code (.block id body)::k=>some ⟨cx,none,.code body::.inBlock id::k,rnd,rs,st,cs,lps⟩
  | .code (.scope body)::k=>some ⟨cx,none,.code body::.inScope body::k,rnd,rs,st,cs,lps⟩
  | .code (.loop body)::k=>some ⟨cx,none,.code body::.inLoop body::k,rnd,rs,st,cs,lps⟩
  | .inLoop body::k=>some ⟨cx,none,.code body::.inLoop body::k,rnd,rs,st,cs,lps⟩
  | .code (.exit id)::k=>match exitTo id k with
   | some k=>some ⟨cx,none,k,rnd,rs,st,cs,lps⟩
   | none=>match rnd with
    | some _=>y8j P rnd rs st cs lps (some (.exit id))
    | none=>none
  | .code (.region _ ops false)::k=>bif Qs ops then some ⟨cx,some (ops,0,ops.toList),k,rnd,rs,st,cs,lps⟩ else none
  | .code (.region _ ops true)::k=>match v6f ops st with
   | some m=>match z6m 0 P S Rc (Xm ops m) cx (Kp (Xm ops m)) [] st with
    | some st=>some ⟨cx,some (ops,m,ops.toList.drop m),k,rnd,rs,st,cs,lps⟩
    | none=>none
   | none=>match v9c ops with
    | some z=>match z6m z P S Rc ops cx (Kp ops) [] st with
     | some st=>some ⟨cx,none,k,rnd,rs,st,cs,lps⟩
     | none=>none
    | none=>none
  | .code (.rangeFunc f params assign body)::k=>match st.eval f with
   | .fn g caps=>match st.nextId with
    | (j,st')=>bif rndOk lps rnd then y3u P g (.yld j::caps) ⟨cx,none,.inRangeFunc j::k,rnd,rs,st.env⟩ st' cs (w1z lps j (some ⟨.ready,none,cx.n,st.env,params.toList,assign,body⟩)) else none
   | _=>none
  | .beginRound ::k=>match rnd with
   | some j=>match z9c lps j with
    | some ⟨.ready,pend,n,env,params,assign,body⟩=>some ⟨cx,none,k,rnd,rs,st,cs,w1z lps j (some ⟨.busy,pend,n,env,params,assign,body⟩)⟩
    | _=>none
   | none=>none
  | .endRangeFunc j::k=>match z9c lps j with
   | some ⟨.busy,_,_,_,_,_,_⟩=>none
   | some ⟨_,pend,n,env,params,assign,body⟩=>some ⟨cx,none,(pend.map Item.code).toList ++k,rnd,rs,st,cs,w1z lps j (some ⟨.exhausted,pend,n,env,params,assign,body⟩)⟩
   | none=>none
  | _=>none
def z2g :Cfg→Bool
 | ⟨_,none,[],none,_,_,[],_⟩=>true
 | ⟨_,none,.code .ret ::_,none,_,_,[],_⟩=>true
 | _=>false
def runS (P:Program) (S:Specs) (Rc:Runner) (n:Nat):Cfg→Option Cfg:=
 Nat.rec (motive:=fun _=>Cfg→Option Cfg) (fun _=>none) (fun _ R C=>bif z2g C then some C else match x7u P S Rc C with
  | some C'=>R C'
  | none=>none) n
def Jg :Item→Bool
 | .code _ | .inBlock _ | .inLoop _ | .inScope _ | .beginRound =>true
 | _=>false
def v6u (P:Program) (S:Specs) (n:Nat) (d:Nat):Runner:=
 Nat.rec (motive:=fun _=>Runner) (fun _ _ _=>none) (fun _ R cx todo st=>bif todo.all Jg&&Nat.ble cx.floor st.next then match runS P S R n ⟨cx,none,todo,none,[],st,[],.leaf⟩ with
  | some C=>bif Nat.beq C.cx.n cx.n then some C.st else none
  | none=>none
  else none) d
section
variable {P:Program}
section ops
variable {b:Frame} {a:Act} {k:List Item} {cs:List Frame} {w:World} {ops:Array Oper}
theorem y5h {i:Nat} {rest:List Nat} {o:Oper} {K:Act→World→Prop} {Q:Exit→Act→World→Prop} (hQ: ∀e a w,Q e a w→e=.normal) (ho:ops[i]? =some o) (hnd: ∀c,o.op≠ .defer c)
  (h:if Region.wanted o (yielded ops a.tmps) then o.wp P a w K Q else K (a.put o.dst undef) w):
  ∃a' w',K a' w'∧Steps P (lone (b.atR a (.inRegion ops (i::rest)::k)) cs w) (lone (b.atR a' (.inRegion ops rest::k)) cs w'):=by
 by_cases hw:Region.wanted o (yielded ops a.tmps)=true
 ·rw [AD hw] at h;have hg:=stepGR_op (P:=P) (b:=b) (k:=k) (cs:=cs) (w:=w) (rest:=rest) ho hw;rw [Oper.semAt_eq _ _ _ hnd] at hg;have fin: ∀(a:Act) (v:Value),(b.atR a (.inRegion ops (i::rest)::k)).finish v=b.atR (a.put o.dst v) (.inRegion ops rest::k):=fun a v=>by rw [Frame.finish_atR,ho];rfl
  unfold Oper.wp at h;generalize hr:(execOp a.eval o).run P w=r at h;cases r with
  | ok n w'=>
   cases n <;> simp only [Oper.upon] at h
   case value v=>exact ⟨_,w',h,.one (step_lone_go (by simp_all [stepG.apply]))⟩
   case skip=>exact ⟨_,w',h,.one (step_lone_go (by simp_all [stepG.apply]))⟩
   case defer d=>refine ⟨_,w',h,.one (step_lone_go ?_)⟩;have e:=fin {a with defers:=d::a.defers} undef;simp_all [stepG.apply,Frame.atR]
   case enter f args=>
    obtain ⟨e,w'',fr,hR,dN,_,hleave⟩:=h (b.atR a (.inRegion ops (i::rest)::k)::cs);have eR:step P (lone (b.atR a (.inRegion ops (i::rest)::k)) cs w)=.next (lone (Frame.enter P f args .normal) (b.atR a (.inRegion ops (i::rest)::k)::cs) w'):=
     step_lone_go (by simp_all [stepG.apply,Frame.atR])
    cases e with
    | returned v=>
     refine ⟨_,w'',hR,.head eR (dN.trans (.one ?_))⟩
     grind [step_leave_returned]
    | panicked chain=>grind
    | outgrown=>obtain ⟨_,_,hq⟩:=hR;grind
   case row row args=>
    obtain ⟨v,w'',hR,dN⟩:=h (b.atR a (.inRegion ops (i::rest)::k)) cs;have eR:step P (lone (b.atR a (.inRegion ops (i::rest)::k)) cs w)=.next (lone (Frame.ofRow P row args .normal) (b.atR a (.inRegion ops (i::rest)::k)::cs) w'):=
     step_lone_go (by simp_all [stepG.apply,Frame.atR])
    refine ⟨_,w'',hR,.head eR ?_⟩
    grind
   all_goals exact h.elim
  | halt x w'=>cases x <;> simp only [Oper.upon] at h <;> first | exact h.elim | grind
 ·rw [Ax hw] at h;have hs:=stepR_op_skip (P:=P) (b:=b) (a:=a) (k:=k) (cs:=cs) (w:=w) (ops:=ops) (i:=i) (rest:=rest) (by grind);rw [ho] at hs;exact ⟨_,w,h,.one hs⟩
theorem z9z {R:Act→World→Prop} {Q:Exit→Act→World→Prop} (hQ: ∀e a w,Q e a w→e=.normal ∧R a w) (hnd:Qs ops=true): ∀(l:List Nat) (a:Act) (w:World),wpOps P ops Q l a w→
  ∃a' w',R a' w'∧Steps P (lone (b.atR a (.inRegion ops l::k)) cs w) (lone (b.atR a' k) cs w')
 | [],a,w,h=>⟨a,w,(hQ _ _ _ h).2,.one stepR_region_end⟩
 | i::l,a,w,h=>by
  simp only [wpOps] at h;cases ho:ops[i]? with
  | none=>rw [ho] at h;obtain ⟨a',w',hR,hs⟩:=z9z hQ hnd l a w h;have h1:=stepR_op_skip (P:=P) (b:=b) (a:=a) (k:=k) (cs:=cs) (w:=w) (ops:=ops) (i:=i) (rest:=l) (by simp [ho]);rw [ho] at h1;exact ⟨a',w',hR,.head h1 hs⟩
  | some o=>
   rw [ho] at h;have hno: ∀c,o.op≠ .defer c:=by
    intro c hc;have hm:o∈ops.toList:=(by grind);have:=Aw.1 hnd o hm
    grind
   have h':if Region.wanted o (yielded ops a.tmps) then o.wp P a w (wpOps P ops Q l) Q else wpOps P ops Q l (a.put o.dst undef) w:=by
    by_cases hw:Region.wanted o (yielded ops a.tmps)=true
    ·simp only [hw,if_true] at h ⊢;rcases h with h | ⟨_,a0,w0,h0⟩;all_goals grind
    grind
   obtain ⟨a1,w1,h1,s1⟩:=y5h (b:=b) (k:=k) (cs:=cs) (rest:=l) (fun e a w q=>(hQ e a w q).1) ho hno h';obtain ⟨a',w',hR,hs⟩:=z9z hQ hnd l a1 w1 h1;exact ⟨a',w',hR,s1.trans hs⟩
end ops
end
section
variable {P:Program}
def Sp (ρ:Rho) (w:World) (r:Nat):Prop:=r<w.heap.size∧ρ.fz r=none∧ ∀b l,ρ b=some l→l.blk≠r
theorem Sp.ev {ρ ρ':Rho} {floor:Nat} {m m':Mem} {n n':Nat} {w w':World} (he:Ev ρ ρ' floor m n m' n' w w') {r:Nat} (hs:Sp ρ w r):Sp ρ' w' r∧w'.heap[r]? =w.heap[r]? :=by
 obtain ⟨h1,h2,h3⟩:=hs;refine ⟨⟨AP h1 he.size,by rw [he.still r h1];exact h2,fun b l hl=> ?_⟩,?_⟩
 ·by_cases hb:b<n
  ·rw [he.new b hb] at hl;grind
  ·rcases he.fresh b l (by omega) hl with h | ⟨b0,l0,e0,_,g0⟩;all_goals grind
 ·have:w.heap[r]? =some w.heap[r]:=by simp [h1]
  rw [this];exact he.frame r _ this fun b l hl _=>h3 b l hl
structure Xn (m:List Nat) (w w':World):Prop where
 size:w'.heap.size=w.heap.size
 other: ∀k,k ∉ m→w'.heap[k]? =w.heap[k]?
 os:w'.os=w.os
 tape:w'.tape=w.tape
 output:w'.output=w.output
theorem Xn.refl (m:List Nat) (w:World):Xn m w w:=⟨rfl,fun _ _=>rfl,rfl,rfl,rfl⟩
theorem Xn.put (w:World) (r:Nat) (o:Obj):Xn [r] w (w.putObj r o):=⟨World.putObj_size,fun k hk=>World.putObj_heap_other (by grind),rfl,rfl,rfl⟩
theorem Xn.trans {m m':List Nat} {a b c:World} (h:Xn m a b) (k:Xn m' b c):Xn (m++m') a c:=
 ⟨k.size.trans h.size,fun i hi=>by simp only [AW,not_or] at hi;exact (k.other i hi.2).trans (h.other i hi.1),k.os.trans h.os,k.tape.trans h.tape,k.output.trans h.output⟩
theorem Rel.turned {ρ:Rho} {mem:Mem} {next:Nat} {w w':World} (h:Rel ρ mem next w) {m:List Nat} (hm: ∀r∈m,Sp ρ w r) (ht:Xn m w w'):Rel ρ mem next w':=
 ⟨h.dom,h.inj,fun b l ab e g=>(h.blk b l ab e g).world (Rho.le_refl ρ) (ht.other _ fun hr=>(hm _ hr).2.2 b l e rfl),fun k o e=>by
  rw [ht.other k fun hr=>by rw [(hm _ hr).2.1] at e;cases e];exact h.old k o e,
  h.sep,fun b l e=>by rw [ht.size];exact h.real b l e,h.bd,h.ldom⟩
theorem Ev.turned {ρ0 ρ:Rho} {floor:Nat} {m0 mem:Mem} {n0 next:Nat} {w0 w w':World} (h:Ev ρ0 ρ floor m0 n0 mem next w0 w) {m:List Nat} (hm: ∀r∈m,w0.heap.size≤r) (ht:Xn m w w'):Ev ρ0 ρ floor m0 n0 mem next w0 w':=
 ⟨h.ext,h.new,h.nxt,h.unborn,fun k o hk hf=>by
  have hlt:k<w0.heap.size:=(AC.1 hk).1;rw [ht.other k fun hr=>by grind];exact h.frame k o hk hf,h.fresh,by rw [ht.size];exact h.size,ht.os.trans h.os,ht.tape.trans h.tape,ht.output.trans h.output,h.still⟩
theorem Sp.turned {ρ:Rho} {w w':World} {r:Nat} (h:Sp ρ w r) {m:List Nat} (ht:Xn m w w'):Sp ρ w' r:=⟨by rw [ht.size];exact h.1,h.2.1,h.2.2⟩
theorem Rel.grow {ρ:Rho} {mem:Mem} {next:Nat} {w:World} (h:Rel ρ mem next w) (o:Obj):Rel ρ mem next (w.alloc o):=by
 have same: ∀k,k<w.heap.size→(w.alloc o).heap[k]? =w.heap[k]? :=fun k hk=>by
  show (w.heap.push o)[k]? =_
  grind
 exact ⟨h.dom,h.inj,fun b l ab e g=>(h.blk b l ab e g).world (Rho.le_refl ρ) (same _ (h.real b l e)),fun k ob e=>by
  have:=h.old k ob e
  grind,h.sep,fun b l e=>by
  have:=h.real b l e
  grind,h.bd,h.ldom⟩
theorem Ev.grow {ρ0 ρ:Rho} {floor:Nat} {m0 mem:Mem} {n0 next:Nat} {w0 w:World} (h:Ev ρ0 ρ floor m0 n0 mem next w0 w) (o:Obj):Ev ρ0 ρ floor m0 n0 mem next w0 (w.alloc o):=
 ⟨h.ext,h.new,h.nxt,h.unborn,fun k ob hk hf=>by
  have:=h.frame k ob hk hf;have hlt:=(AC.1 this).1;show (w.heap.push o)[k]? =_
  grind,h.fresh,by
  have:=h.size;show _≤(w.heap.push o).size;simp;omega,h.os,h.tape,h.output,h.still⟩
theorem Sp.grow {ρ:Rho} {w:World} {r:Nat} (h:Sp ρ w r) (o:Obj):Sp ρ (w.alloc o) r∧(w.alloc o).heap[r]? =w.heap[r]? :=by
 refine ⟨⟨?_,h.2.1,h.2.2⟩,?_⟩
 ·have:=h.1;show r<(w.heap.push o).size;simp;omega
 ·show (w.heap.push o)[r]? =_;simp [Array.getElem?_push,Bt h.1]
theorem Sp.fresh {ρ:Rho} {mem:Mem} {next:Nat} {w:World} (h:Rel ρ mem next w) (o:Obj):Sp ρ (w.alloc o) w.heap.size:=
 ⟨by simp_all,h.hold _ (Ao _),fun b l e=>Bt (h.real b l e)⟩
def lpAdd (ρ:Rho) (j l:Nat):Rho:=⟨ρ.f,ρ.fz,fun k=>if k=j then some l else ρ.lp k⟩
theorem Rel.lp_none {ρ:Rho} {mem:Mem} {next:Nat} {w:World} (h:Rel ρ mem next w):ρ.lp next=none:=by
 cases e:ρ.lp next with
 | none=>rfl
 | some l=>exact absurd (h.ldom.1 _ _ e) (Nat.lt_irrefl _)
theorem y5j {ρ:Rho} {j l:Nat} (h:ρ.lp j=none):ρ.le (lpAdd ρ j l):=⟨fun _ _ e=>e,fun _ _ e=>e,fun k l' e=>by
 show (if k=j then some l else ρ.lp k)=some l'
 grind⟩
theorem Rel.lpAdd {ρ:Rho} {mem:Mem} {next:Nat} {w:World} (h:Rel ρ mem next w) (l:Nat):Rel (lpAdd ρ next l) mem (next+1) w:=
 ⟨fun b l' e=>Bb (h.dom b l' e),h.inj,fun b l' ab e g=>(h.blk b l' ab e g).world (y5j h.lp_none) rfl,h.old,h.sep,h.real,fun b hb=>h.bd b (by omega),⟨fun j l' e=>by
  have e:(if j=next then some l else ρ.lp j)=some l':=e;by_cases hj:j=next
  ·omega
  ·rw [Ax hj] at e;exact Bb (h.ldom.1 j l' e),h.ldom.2⟩⟩
theorem Ev.lpAdd {ρ0 ρ:Rho} {floor:Nat} {m0 mem:Mem} {n0 next:Nat} {w0 w:World} (h:Ev ρ0 ρ floor m0 n0 mem next w0 w) (hr:Rel ρ mem next w) (l:Nat):Ev ρ0 (lpAdd ρ next l) floor m0 n0 mem (next+1) w0 w:=
 ⟨Rho.le_trans h.ext (y5j hr.lp_none),h.new,Nat.le_succ_of_le h.nxt,h.unborn,h.frame,h.fresh,h.size,h.os,h.tape,h.output,h.still⟩
inductive x7l (ρ:Rho):Item→Item→Prop
 | same (x:Item) (h:Jg x=true):x7l ρ x x
 | inR (j l:Nat) (h:ρ.lp j=some l):x7l ρ (.inRangeFunc j) (.inRangeFunc l)
 | endR (j l:Nat) (h:ρ.lp j=some l):x7l ρ (.endRangeFunc j) (.endRangeFunc l)
abbrev y2b (ρ:Rho):List Item→List Item→Prop:=Xo (x7l ρ)
theorem Xo.mono {α β:Type} {R R':α→β→Prop} (hr: ∀a b,R a b→R' a b) {l:List α} {m:List β} (h:Xo R l m):Xo R' l m:=by
 induction h with
 | nil=>exact .nil
 | cons h _ ih=>exact .cons (hr _ _ h) ih
theorem x7l.mono {ρ ρ':Rho} (h:ρ.le ρ') {x y:Item} (hx:x7l ρ x y):x7l ρ' x y:=by
 cases hx with
 | same x hx=>exact .same x hx
 | inR j l e=>exact .inR j l (h.2.2 _ _ e)
 | endR j l e=>exact .endR j l (h.2.2 _ _ e)
theorem y2b.exit {ρ:Rho} {k k':List Item} (h:y2b ρ k k') (id:Nat):(∀r,exitTo id k=some r→ ∃r',exitTo id k'=some r'∧y2b ρ r r')∧(exitTo id k=none→exitTo id k'=none):=by
 induction h with
 | nil=>exact ⟨fun r e=>(by cases e),fun _=>rfl⟩
 | @cons x y l m hx t ih=>
  cases hx with
  | same x hx=>
   cases x with
   | inBlock id'=>
    grind [exitTo]
   | code _=>exact ih
   | inLoop _=>exact ih
   | inScope _=>exact ih
   | beginRound=>exact ih
   | inRegion _ _=>cases hx
   | inRangeFunc _=>cases hx
   | endRangeFunc _=>cases hx
   | call _ _ _ _=>cases hx
   | extern _ _=>cases hx
  | inR j l e=>exact ih
  | endR j l e=>exact ih
def v8u (r:Nat):Deferred:={target:=.collected r,args:= #[]}
def Xh (ro:Option RegOps) (k:List Item):List Item:=match ro with
 | none=>k
 | some (ops,i,_)=>.inRegion ops ((List.range ops.size).drop i)::k
def roOk :Option RegOps→Prop
 | none=>True
 | some (ops,i,l)=>l=ops.toList.drop i∧Qs ops=true
structure w2b (ρ:Rho) (cx:Ctx) (ro:Option RegOps) (todo:List Item) (rnd:Option Nat) (env:T AVal) (b:Frame) (a:Act) (k:List Item) (ms:List Nat):Prop where
 env:Xb ρ env cx.n a.tmps
 defers:a.defers=ms.map v8u
 todo:y2b ρ todo k
 ro:roOk ro
 rnd:match rnd with
  | none=>b.roundOf=none
  | some j=>ms=[]∧ ∃l,ρ.lp j=some l∧b.roundOf=some l
theorem w2b.mono {ρ ρ':Rho} (h:ρ.le ρ') {cx:Ctx} {ro:Option RegOps} {todo:List Item} {rnd:Option Nat} {env:T AVal} {b:Frame} {a:Act} {k:List Item} {ms:List Nat} (hf:w2b ρ cx ro todo rnd env b a k ms):w2b ρ' cx ro todo rnd env b a k ms:=
 ⟨hf.env.mono h,hf.defers,hf.todo.mono fun _ _=>x7l.mono h,hf.ro,by
  have:=hf.rnd;cases rnd with
  | none=>exact this
  | some j=>obtain ⟨h0,l,h1,h2⟩:=this;exact ⟨h0,l,h.2.2 _ _ h1,h2⟩⟩
def w6y (P:Program) (rnd:Option Nat) (rs:List ResultVar) (b:Frame):Prop:=b.kind=.normal ∧(rnd=none→ ∃fn,P.funcs[b.fn]? =some fn∧fn.results.toList=rs)
inductive w2c (P:Program) (ρ:Rho):List AFr→List Frame→List Nat→Prop
 | nil:w2c P ρ [] [] []
 | cons {af:AFr} {b:Frame} {a:Act} {k:List Item} {ms:List Nat} {cs:List AFr} {css:List Frame} {mss:List Nat} (h:w2b ρ af.cx af.ro af.todo af.rnd af.env b a k ms)
   (hl:cs≠ []→w6y P af.rnd af.rs b) (t:w2c P ρ cs css mss):w2c P ρ (af::cs) (b.atR a (Xh af.ro k)::css) (ms++mss)
theorem w2c.mono {ρ ρ':Rho} (h:ρ.le ρ') {cs:List AFr} {css:List Frame} {mss:List Nat} (hc:w2c P ρ cs css mss):w2c P ρ' cs css mss:=by
 induction hc with
 | nil=>exact .nil
 | cons hf hl t ih=>exact .cons (hf.mono h) hl ih
structure y4c (base:Nat) (ρ:Rho) (w:World) (j:Nat) (L:ALoop) (l:Nat):Prop where
 lp:ρ.lp j=some l
 low:base≤l
 sp:Sp ρ w l
 obj: ∃tmps fn d,w.heap[l]? =some (.loop ⟨L.st,L.pend,fn,tmps,L.params.toArray,L.assign,L.body,d⟩)∧Xb ρ L.env L.n tmps
structure y4b (P:Program) (base:Nat) (ρ:Rho) (cs:List AFr) (lps:Loops) (css:List Frame) (w:World) (m0 m1:List Nat):Prop where
 cs:w2c P ρ cs css m1
 nodup:(m0++m1).Nodup
 marks: ∀r∈m0++m1,base≤r∧Sp ρ w r∧w.heap[r]? =some (.deferred (some []))
 loops: ∀j L,z9c lps j=some L→ ∃l,y4c base ρ w j L l
 inj: ∀j j' L L' l,z9c lps j=some L→z9c lps j'=some L'→ρ.lp j=some l→ρ.lp j'=some l→j=j'
theorem y4c.ev {base:Nat} {ρ ρ':Rho} {floor:Nat} {m m':Mem} {n n':Nat} {w w':World} (he:Ev ρ ρ' floor m n m' n' w w') {j:Nat} {L:ALoop} {l:Nat} (h:y4c base ρ w j L l):y4c base ρ' w' j L l:=by obtain ⟨h1,h2,h3,tmps,fn,d,h4,h5⟩:=h;obtain ⟨s1,s2⟩:=h3.ev he;exact ⟨he.ext.2.2 _ _ h1,h2,s1,tmps,fn,d,by grind,h5.mono he.ext⟩
theorem y4b.ev {base:Nat} {ρ ρ':Rho} {floor:Nat} {m m':Mem} {n n':Nat} {w w':World} (he:Ev ρ ρ' floor m n m' n' w w') {cs:List AFr} {lps:Loops} {css:List Frame} {m0 m1:List Nat} (h:y4b P base ρ cs lps css w m0 m1):y4b P base ρ' cs lps css w' m0 m1:=by
 refine ⟨h.cs.mono he.ext,h.nodup,fun r hr=> ?_,fun j L hL=> ?_,fun j j' L L' l hL hL' e e'=> ?_⟩
 ·obtain ⟨h1,h2,h3⟩:=h.marks r hr;obtain ⟨s1,s2⟩:=h2.ev he
  grind
 ·obtain ⟨l,hl⟩:=h.loops j L hL;exact ⟨l,hl.ev he⟩
 ·obtain ⟨l1,hl1⟩:=h.loops j L hL;obtain ⟨l2,hl2⟩:=h.loops j' L' hL';have e1:=he.ext.2.2 _ _ hl1.lp;have e2:=he.ext.2.2 _ _ hl2.lp;rw [e] at e1;rw [e'] at e2;obtain rfl:=Af e1;obtain rfl:=Af e2;exact h.inj j j' L L' l hL hL' hl1.lp hl2.lp
theorem y4b.turned {base:Nat} {ρ:Rho} {w w':World} {cs:List AFr} {lps:Loops} {css:List Frame} {m0 m0' m1:List Nat} (h:y4b P base ρ cs lps css w m0 m1) {m:List Nat} (ht:Xn m w w') (hsub:m0'.Sublist m0) (hm: ∀r∈m,r ∉ m0'++m1) (hl: ∀r∈m,∃ds,w.heap[r]? =some (.deferred ds)):
  y4b P base ρ cs lps css w' m0' m1:=by
 refine ⟨h.cs,h.nodup.sublist (hsub.append (List.Sublist.refl _)),fun r hr=> ?_,fun j L hL=> ?_,h.inj⟩
 ·obtain ⟨h1,h2,h3⟩:=h.marks r ((hsub.append (List.Sublist.refl m1)).subset hr);exact ⟨h1,h2.turned ht,by rw [ht.other r fun hrm=>hm r hrm hr];exact h3⟩
 ·obtain ⟨l,h1,h2,h3,tmps,fn,d,h4,h5⟩:=h.loops j L hL;refine ⟨l,h1,h2,h3.turned ht,tmps,fn,d,?_,h5⟩;rw [ht.other l fun hlm=> ?_];all_goals grind
theorem y4b.record {base:Nat} {ρ:Rho} {w w':World} {cs:List AFr} {lps:Loops} {css:List Frame} {m0 m1:List Nat} (h:y4b P base ρ cs lps css w m0 m1) {j l:Nat} {L L':ALoop} (hj:z9c lps j=some L) (hl:y4c base ρ w j L l)
  (hL:y4c base ρ w' j L' l) (ht:Xn [l] w w'):y4b P base ρ cs (w1z lps j (some L')) css w' m0 m1:=by
 have eY:=hl.obj;obtain ⟨tmps,fn,d,h4,_⟩:=eY;have get: ∀i,z9c (w1z lps j (some L')) i=if i=j then some L' else z9c lps i:=fun i=>T.get_set none lps j (some L') i
 refine ⟨h.cs,h.nodup,fun r hr=> ?_,fun i M hM=> ?_,fun i i' M M' l' hM hM' e e'=> ?_⟩
 ·obtain ⟨h1,h2,h3⟩:=h.marks r hr;refine ⟨h1,h2.turned ht,?_⟩;rw [ht.other r fun hrm=> ?_];all_goals grind
 ·rw [get] at hM;by_cases hij:i=j
  ·grind
  ·rw [Ax hij] at hM;obtain ⟨l2,q1,q2,q3,tmps2,fn2,d2,q4,q5⟩:=h.loops i M hM;refine ⟨l2,q1,q2,q3.turned ht,tmps2,fn2,d2,?_,q5⟩;rw [ht.other l2 fun hlm=> ?_]
   ·exact q4
   ·obtain rfl:l2=l:=by grind
    exact hij (h.inj i j M L l2 hM hj q1 hl.lp)
 ·rw [get] at hM hM';have old: ∀x N,(if x=j then some L' else z9c lps x)=some N→ ∃N',z9c lps x=some N':=fun x N hx=>by
   grind
  obtain ⟨N,hN⟩:=old i M hM;obtain ⟨N',hN'⟩:=old i' M' hM';exact h.inj i i' N N' l' hN hN' e e'
end
section
variable {P:Program}
structure u2v (P:Program) (base:Nat) (C:Cfg) (ρ:Rho) (b:Frame) (a:Act) (k:List Item) (css:List Frame) (w:World) (ma mb:List Nat):Prop where
 top:w2b ρ C.cx C.ro C.todo C.rnd C.st.env b a k ma
 lv:C.cs≠ []→w6y P C.rnd C.rs b
 rest:y4b P base ρ C.cs C.lps css w ma mb
 rel:Rel ρ C.st.mem C.st.next w
structure Fl (fl:Nat) (C:Cfg):Prop where
 cx:C.cx.floor=fl
 cs: ∀af∈C.cs,af.cx.floor=fl
 le:fl≤C.st.next
def x4v (b:Frame):List Frame→FuncId×CallKind×Option Nat
 | []=>(b.fn,b.kind,b.roundOf)
 | c::css=>x4v c css
def z7e (P:Program) (fl:Nat) (C C':Cfg):Prop:=
 ∀(m0:Mem) (n0:Nat) (ρ0:Rho) (w0:World) (ρ:Rho) (b:Frame) (a:Act) (k:List Item) (css:List Frame) (w:World) (ma mb:List Nat),u2v P w0.heap.size C ρ b a k css w ma mb→Ev ρ0 ρ fl m0 n0 C.st.mem C.st.next w0 w→ ∀cs0:List Frame,
  ∃ρ' b' a' k' css' w' ma' mb',Steps P (lone (b.atR a (Xh C.ro k)) (css++cs0) w) (lone (b'.atR a' (Xh C'.ro k')) (css'++cs0) w')∧u2v P w0.heap.size C' ρ' b' a' k' css' w' ma' mb'∧Ev ρ0 ρ' fl m0 n0 C'.st.mem C'.st.next w0 w'∧x4v b' css'=x4v b css∧w.heap.size≤w'.heap.size
theorem z7e.refl (fl:Nat) (C:Cfg):z7e P fl C C:=fun m0 n0 ρ0 w0 ρ b a k css w ma mb hs he cs0=>⟨ρ,b,a,k,css,w,ma,mb,Steps.refl _ _,hs,he,rfl,Ao _⟩
structure Sim (P:Program) (fl:Nat) (C C':Cfg):Prop where
 fls:Fl fl C'
 inv:Yb fl C.st C'.st
 leads:C'.st.ob=true→z7e P fl C C'
theorem Sim.move {fl:Nat} {cx:Ctx} {todo todo':List Item} {rnd:Option Nat} {rs:List ResultVar} {st:St} {cs:List AFr} {lps:Loops} (hfl:Fl fl ⟨cx,none,todo,rnd,rs,st,cs,lps⟩)
  (hk: ∀(ρ:Rho) (k:List Item),y2b ρ todo k→ ∃k',y2b ρ todo' k'∧ ∀(b:Frame) (a:Act) (css:List Frame) (w:World),step P (lone (b.atR a k) css w)=.next (lone (b.atR a k') css w)):
  Sim P fl ⟨cx,none,todo,rnd,rs,st,cs,lps⟩ ⟨cx,none,todo',rnd,rs,st,cs,lps⟩:=
 ⟨⟨hfl.cx,hfl.cs,hfl.le⟩,Yb.refl _ _,fun ho m0 n0 ρ0 w0 ρ b a k css w ma mb hs he cs0=>by
   obtain ⟨k',ht,dV⟩:=hk ρ k hs.top.todo;exact ⟨ρ,b,a,k',css,w,ma,mb,.one (dV b a _ w),⟨⟨hs.top.env,hs.top.defers,ht,trivial,hs.top.rnd⟩,hs.lv,hs.rest,hs.rel⟩,he,rfl,Ao _⟩⟩
theorem y2b.code {ρ:Rho} {c:Code} {t k:List Item} (h:y2b ρ (.code c::t) k): ∃k',k=.code c::k'∧y2b ρ t k':=by
 cases h with
 | cons hx ht=>cases hx;grind
theorem z7g {cs:List Frame}: ∀(ms:List Nat) (fr:Frame) (w:World),fr.mode=.returning →fr.defers=ms.map v8u→ms.Nodup→(∀r∈ms,w.heap[r]? =some (.deferred (some [])))→
  ∃w',Steps P (lone fr cs w) (lone {fr with defers:=[]} cs w')∧Xn ms w w'
 | [],fr,w,hm,hd,_,_=>⟨w,by
   have:{fr with defers:=[]}=fr:=by cases fr;grind
   rw [this];exact Steps.refl _ _,Xn.refl _ _⟩
 | r::ms,fr,w,hm,hd,hn,ho=>by
  have hr:=ho r (by simp);have h1:=step_collected (P:=P) (cs:=cs) (fr:=fr) (d:=v8u r) (ds:=ms.map v8u) (by rw [hm];simp) (by rw [hd];rfl) rfl (run_takeDeferred hr);rw [List.nodup_cons] at hn;obtain ⟨w',hs,ht⟩:=z7g (cs:=cs) ms {fr with defers:=ms.map v8u} (w.putObj r (.deferred none)) hm rfl hn.2 fun r' hr'=>by
   grind [World.putObj_heap_other]
  exact ⟨w',.head h1 hs,(Xn.put w r _).trans ht⟩
theorem y1b {fl base:Nat} {C:Cfg} {ρ:Rho} {b:Frame} {a:Act} {k:List Item} {css:List Frame} {w:World} {ma mb:List Nat} (hs:u2v P base C ρ b a k css w ma mb) (hro:C.ro=none) (dJ:C.rnd=none) (htodo:C.todo=[]∨ ∃t,C.todo=.code .ret ::t)
  {m0:Mem} {n0:Nat} {ρ0:Rho} {w0:World} (hb:base=w0.heap.size) (he:Ev ρ0 ρ fl m0 n0 C.st.mem C.st.next w0 w) (cs0:List Frame):
  ∃w',Steps P (lone (b.atR a (Xh C.ro k)) cs0 w) (lone {b.atR {a with defers:=[]} k with mode:=.returning} cs0 w')∧Xb ρ C.st.env C.cx.n a.tmps∧Rel ρ C.st.mem C.st.next w'∧Ev ρ0 ρ fl m0 n0 C.st.mem C.st.next w0 w'∧y4b P base ρ C.cs C.lps css w' [] mb∧w.heap.size≤w'.heap.size:=by
 have hrn:=hs.top.rnd;rw [dJ] at hrn;have h1:step P (lone (b.atR a (Xh C.ro k)) cs0 w)=.next (lone {b.atR a k with mode:=.returning} cs0 w):=by
  rw [hro];have ht:=hs.top.todo;rcases htodo with e | ⟨t,e⟩
  ·rw [e] at ht;cases ht;exact stepR_end hrn
  ·rw [e] at ht;obtain ⟨k',rfl,_⟩:=ht.code;exact stepR_ret hrn
 have hnd:ma.Nodup:=(List.nodup_append.1 hs.rest.nodup).1;obtain ⟨w',h2,ht⟩:=z7g (P:=P) (cs:=cs0) ma {b.atR a k with mode:=.returning} w rfl hs.top.defers hnd fun r hr=>(hs.rest.marks r (by simp [hr])).2.2;refine ⟨w',.head h1 h2,hs.top.env,hs.rel.turned (fun r hr=>(hs.rest.marks r (by simp [hr])).2.1) ht,he.turned (fun r hr=>by rw [←hb];exact (hs.rest.marks r (by simp [hr])).1) ht,hs.rest.turned ht (List.nil_sublist _) (fun r hr hrm=> ?_) (fun r hr=>⟨_,(hs.rest.marks r (by simp [hr])).2.2⟩),Nat.le_of_eq ht.size.symm⟩;rw [A6] at hrm;exact (List.nodup_append.1 hs.rest.nodup).2.2 r hr r hrm rfl
theorem y5g {fl base:Nat} {v:AVal} {st:St} {lps:Loops} {cs:List AFr} {C':Cfg} (h:popS v st lps cs=some C') (hcs: ∀af∈cs,af.cx.floor=fl) (hle:fl≤st.next):
  Fl fl C'∧C'.st.mem=st.mem∧C'.st.next=st.next∧C'.st.ob=st.ob∧(cs≠ [])∧ ∀(ρ:Rho) (css:List Frame) (w:World) (mb:List Nat) (u:Value),Za ρ v u→y4b P base ρ cs lps css w [] mb→Rel ρ st.mem st.next w→
   ∃c css' b' a' k' ma' mb',css=c::css'∧c.finish u=b'.atR a' (Xh C'.ro k')∧u2v P base C' ρ b' a' k' css' w ma' mb'∧x4v b' css'=x4v c css':=by
 unfold popS at h;split at h
 ·rename_i cx ops i o l todo rnd rs env cs';split at h
  ·rename_i st' hp;obtain rfl:=Af h;obtain ⟨p1,p2,p3,p4⟩:=Xa hp;refine ⟨⟨hcs _ (Bf ..),fun af haf=>hcs af (by simp [haf]),by rw [show st'.next=st.next from p2];exact hle⟩,p1,p2,p3,by simp,fun ρ css w mb u hv hr cV=> ?_⟩;obtain ⟨hc,hnd,hmk,hlp,hinj⟩:=hr;cases hc with
   | @cons _ b a k ms _ css' mss hf hl ht=>
    simp only at hf hl;refine ⟨_,css',b,a.put o.dst u,k,ms,mss,rfl,?_,⟨⟨hf.env.put hv ?_,by rw [Act.put_defers'];exact hf.defers,hf.todo,?_,hf.rnd⟩,hl,⟨ht,hnd,hmk,hlp,hinj⟩,?_⟩,by cases css' <;> rfl⟩
    ·obtain ⟨hro,_⟩:=hf.ro;have hi:ops.toList[i]? =some o:=by
      have:=AB (·[0]?) hro
      grind
     have hi':ops[i]? =some o:=(by grind);have hlt:i<ops.size:=(AC.1 hi').1;have hd:(List.range ops.size).drop i=i::(List.range ops.size).drop (i+1):=by rw [AK (by grind)];simp
     grind [Xh,Frame.finish_atR]
    ·rcases p4 with ⟨e,e2⟩ | ⟨d,e,hlt,e2⟩
     ·exact .inl ⟨e,e2⟩
     ·exact .inr ⟨d,e,hlt,e2⟩
    ·obtain ⟨hro,dW⟩:=hf.ro;refine ⟨?_,dW⟩;have:=AB List.tail hro
     simpa using this
    ·show Rel ρ st'.mem st'.next w
     rw [show st'.mem=st.mem from p1,show st'.next=st.next from p2];exact cV
  ·cases h
 ·rename_i cx j k rnd rs env cs';obtain rfl:=Af h;refine ⟨⟨hcs _ (Bf ..),fun af haf=>hcs af (by simp [haf]),hle⟩,rfl,rfl,rfl,by simp,fun ρ css w mb u hv hr cV=> ?_⟩;obtain ⟨hc,hnd,hmk,hlp,hinj⟩:=hr;cases hc with
  | @cons _ b a k0 ms _ css' mss hf hl ht=>
   simp only at hf hl;have htd:=hf.todo;cases htd with
   | cons hx htl=>
    cases hx with
    | same _ hp=>cases hp
    | inR _ l hlj=>exact ⟨_,css',b,a,_,ms,mss,rfl,finish_atR_inRangeFunc l u,⟨⟨hf.env,hf.defers,.cons (.endR _ l hlj) htl,trivial,hf.rnd⟩,hl,⟨ht,hnd,hmk,hlp,hinj⟩,cV⟩,by cases css' <;> rfl⟩
 ·cases h
theorem x7s {b:Frame} {a:Act} {k:List Item} {cs:List Frame} {w:World} {ops:Array Oper} {i:Nat} {rest:List Nat} {o:Oper} {f:FuncId} {args:Array Value} (ho:ops[i]? =some o) (hnd: ∀c,o.op≠ .defer c) (hw:Region.wanted o (yielded ops a.tmps)=true)
  (hr:(execOp a.eval o).run P w=.ok (.enter f args) w):step P (lone (b.atR a (.inRegion ops (i::rest)::k)) cs w)=.next (lone (Frame.enter P f args .normal) (b.atR a (.inRegion ops (i::rest)::k)::cs) w):=by
 have hg:=stepGR_op (P:=P) (b:=b) (k:=k) (cs:=cs) (w:=w) (rest:=rest) ho hw;rw [Oper.semAt_eq _ _ _ hnd] at hg;exact step_lone_go (by simp_all [stepG.apply,Frame.atR])
theorem x7r {b:Frame} {a:Act} {k:List Item} {cs:List Frame} {w:World} {ops:Array Oper} {i:Nat} {rest:List Nat} {o:Oper} {l:Nat} {f:FuncId} {tmps:Array Value} {assign body:Code} (ho:ops[i]? =some o) (hnd: ∀c,o.op≠ .defer c) (hw:Region.wanted o (yielded ops a.tmps)=true)
  (hr:(execOp a.eval o).run P w=.ok (.round l f tmps assign body) w):step P (lone (b.atR a (.inRegion ops (i::rest)::k)) cs w)=.next (lone (Frame.round l f tmps assign body .normal) (b.atR a (.inRegion ops (i::rest)::k)::cs) w):=by
 have hg:=stepGR_op (P:=P) (b:=b) (k:=k) (cs:=cs) (w:=w) (rest:=rest) ho hw;rw [Oper.semAt_eq _ _ _ hnd] at hg;exact step_lone_go (by simp_all [stepG.apply])
theorem Qc {ρ:Rho} {n:Nat}: ∀{ps:List Tmp} {args:List AVal} {env env':T AVal} {vals:List Value} {tmps:Array Value},y4o n ps args env=some env'→Xb ρ env n tmps→Xo (Za ρ) args vals→
  ps.length=vals.length∧Xb ρ env' n ((ps.zip vals).foldl (fun t p=>t.setIfInBounds p.1 p.2) tmps)
 | [],[],env,env',vals,tmps,h,he,ha=>by cases ha;obtain rfl:=Af h;simp_all
 | t::ps,x::args,env,env',vals,tmps,h,he,ha=>by
  cases ha with
  | @cons _ u _ vals hx ha=>
   unfold y4o at h;obtain ⟨hc,h⟩:=Zq h;have hlt:=Ai hc;have he':Xb ρ (T.set .undef env t x) n (tmps.setIfInBounds t u):=by have:=Xb.put (a:=⟨tmps,[]⟩) (dst:=some t) he hx (.inr ⟨t,rfl,hlt,rfl⟩);exact this
   obtain ⟨h1,h2⟩:=Qc h he' ha;simp_all
 | [],_::_,_,_,_,_,h,_,_=>by cases h
 | _::_,[],_,_,_,_,h,_,_=>by cases h
theorem Fl.enter {fl:Nat} {cx:Ctx} {ro:Option RegOps} {todo:List Item} {rnd:Option Nat} {rs:List ResultVar} {st:St} {cs:List AFr} {lps lps':Loops} (h:Fl fl ⟨cx,ro,todo,rnd,rs,st,cs,lps⟩) {n:Nat} {todo':List Item} {rnd':Option Nat} {rs':List ResultVar} {st':St} {ro':Option RegOps} {td:List Item} {e:T AVal} (hn:st.next≤st'.next):
  Fl fl ⟨⟨n,cx.floor,cx.sym⟩,none,todo',rnd',rs',st',⟨cx,ro',td,rnd,rs,e⟩::cs,lps'⟩:=
 ⟨h.cx,fun af haf=>by
  rcases AM.1 haf with rfl | haf
  ·exact h.cx
  ·exact h.cs af haf,AG h.le hn⟩
theorem y3t {base:Nat} {ρ:Rho} {f:FuncId} {args:List AVal} {cx:Ctx} {ro':Option RegOps} {td:List Item} {rnd:Option Nat} {rs:List ResultVar} {e:T AVal} {st:St} {cs:List AFr} {lps:Loops} {C':Cfg} {b:Frame} {a:Act} {k:List Item} {css:List Frame} {w:World} {ma mb:List Nat} {vals:Array Value}
  (h:y3u P f args ⟨cx,ro',td,rnd,rs,e⟩ st cs lps=some C') (hf:w2b ρ cx ro' td rnd e b a k ma) (hlv:cs≠ []→w6y P rnd rs b) (hr:y4b P base ρ cs lps css w ma mb) (cV:Rel ρ st.mem st.next w) (cY:Xo (Za ρ) args vals.toList):
  ∃fn body,P.funcs[f]? =some fn∧fn.body=some body∧C'=⟨⟨Nat.max fn.ntmps args.length,cx.floor,cx.sym⟩,none,[.code body],none,fn.results.toList,st.withEnv (z6s args 0 .leaf),⟨cx,ro',td,rnd,rs,e⟩::cs,lps⟩∧
   ∃b' a' k',Frame.enter P f vals .normal =b'.atR a' (Xh none k')∧u2v P base C' ρ b' a' k' (b.atR a (Xh ro' k)::css) w [] (ma++mb):=by
 unfold y3u at h;split at h
 ·rename_i fn hfn;split at h
  ·rename_i body hb;obtain rfl:=Af h;refine ⟨fn,body,hfn,hb,rfl,⟨f, #[],[],[],.run,.normal,none⟩,{tmps:=vals++Array.replicate (fn.ntmps - vals.size) undef,defers:=[]},[.code body],?_,⟨⟨y0x cY fn.ntmps,rfl,.cons (.same _ rfl) .nil,trivial,rfl⟩,fun _=>⟨rfl,fun _=>⟨fn,hfn,rfl⟩⟩,?_,cV⟩⟩
   ·grind [Frame.enter,Frame.atR,Xh]
   ·exact ⟨.cons hf hlv hr.cs,hr.nodup,hr.marks,hr.loops,hr.inj⟩
  ·cases h
 ·cases h
theorem z3u {ρ:Rho} {ops:Array Oper} {o:Oper} {cx:Ctx} {st st1:St} {e:Bool} (h:Jd ops o cx st=some (e,st1)):st1.mem=st.mem∧st1.next=st.next∧(st1.ob=true→st.ob=true∧ ∀{tmps:Array Value},Xb ρ st.env cx.n tmps→Xb ρ st1.env cx.n tmps∧Region.wanted o (yielded ops tmps)=e):=by obtain ⟨w1,w2,w3⟩:=Xx h;refine ⟨w1,w2,fun ho=>⟨(w3 ho).1,fun {tmps} he=>⟨he.congr fun t=>(w3 ho).2 t,Wq h ho he.size fun d _=>he.get d⟩⟩⟩
theorem x1f {ops:Array Oper} {i:Nat} {o:Oper} {l:List Oper} (h:o::l=ops.toList.drop i):ops[i]? =some o∧l=ops.toList.drop (i+1)∧(List.range ops.size).drop i=i::(List.range ops.size).drop (i+1):=by
 have hi:ops.toList[i]? =some o:=by
  have:=AB (·[0]?) h
  grind
 have hi':ops[i]? =some o:=by grind
 have hlt:i<ops.size:=(AC.1 hi').1;refine ⟨hi',?_,?_⟩
 ·have:=AB List.tail h
  simpa using this
 ·rw [AK (by grind)];simp
theorem Kw {ops:Array Oper} (h:Qs ops=true) {i:Nat} {o:Oper} (ho:ops[i]? =some o) (c:Call):o.op≠ .defer c:=by
 intro hc;have hm:o∈ops.toList:=by grind
 have:=Aw.1 h o hm
 grind
theorem y1i {ρ:Rho} {st:St} {n:Nat} {a:Act} (he:Xb ρ st.env n a.tmps) (args:Array Operand):Xo (Za ρ) (args.toList.map st.eval) (args.map a.eval).toList :=by rw [Bg];exact Xo.maps _ _ _ fun x _=>he.eval x
theorem x0c {ops:Array Oper} {m i:Nat} (hm:m≤ops.size) (h:i<m):(Xm ops m)[i]? =ops[i]? :=by
 grind [Xm]
theorem w2m {ops:Array Oper} {m i:Nat} (hm:m≤ops.size) (h:m≤i):(Xm ops m)[i]? =(ops[i]?).map stubOp:=by
 grind [Xm]
theorem y7b {ops:Array Oper} {m:Nat} (hm:m≤ops.size):(Xm ops m).size =ops.size:=by simp [Xm];omega
theorem z6i {ops:Array Oper} {m:Nat} (hm:m≤ops.size) (i:Nat):((Xm ops m)[i]?).map (·.after)=(ops[i]?).map (·.after):=by
 by_cases h:i<m
 ·rw [x0c hm h]
 ·rw [w2m hm (by omega)];cases ops[i]? <;> rfl
theorem x7q (md:Region.Mode) {ops:Array Oper} {m:Nat} (hm:m≤ops.size) (listed:Array Bool):Region.ready md (Xm ops m) listed=Region.ready md ops listed:=by
 grind [Region.ready,z6i,Xm]
theorem x5n (md:Region.Mode) {ops:Array Oper} {m:Nat} (hm:m≤ops.size): ∀(fuel t:Nat) (listed:Array Bool) (acc:List Nat),Region.linearise.go md (Xm ops m) fuel t listed acc=Region.linearise.go md ops fuel t listed acc
 | 0,t,listed,acc=>rfl
 | fuel+1,t,listed,acc=>by
  have e:=x7q md hm listed;unfold Region.ready at e;simp only [Region.linearise.go];rw [e];split
  ·exact x5n md hm fuel _ _ _
  ·rfl
theorem x7y {ops:Array Oper} (eJ: ∀(j:Nat) o,ops[j]? =some o→ ∀e∈o.after.toList,Region.binds .any e=true→e.on<j): ∀listed:Array Bool,listed.size=ops.size→ ∀i,i<ops.size→listed.getD i false=false→ ∃j,j∈Region.ready .any ops listed:=by
 intro listed hsz i
 induction i using Nat.strongRecOn with
 | _ i ih=>
  intro hi hl;by_cases h: ∃e∈(ops[i]).after.toList,Region.binds .any e=true∧listed.getD e.on false=false
  ·grind
  ·refine ⟨i,mem_ready.2 ⟨?_,ops[i],by simp [hi],fun e he hb=> ?_⟩⟩;all_goals grind
theorem x6q {ops:Array Oper} (eJ: ∀(j:Nat) o,ops[j]? =some o→ ∀e∈o.after.toList,Region.binds .any e=true→e.on<j) (fuel t:Nat) (listed:Array Bool) (hsz:listed.size=ops.size) (hcl:z6g ops (fun i=>listed.getD i false)) {q:Nat} (hq:q<ops.size) (hl:listed.getD q false=false):
  ∃i x t',ops[i]? =some x∧listed.getD i false=false∧y6n (fun i=>listed.getD i false) x∧Region.linearise.go .any ops (fuel+1) t listed []=i::Region.linearise.go .any ops fuel t' (listed.setIfInBounds i true) []∧
   (listed.setIfInBounds i true).size =ops.size∧z6g ops (fun q=>(listed.setIfInBounds i true).getD q false)∧ ∀q,(listed.setIfInBounds i true).getD q false=(listed.getD q false||q == i):=by
 obtain ⟨j0,hj0⟩:=x7y eJ listed hsz q hq hl;have hne:Region.ready .any ops listed≠ []:=fun e=>by grind
 have hlt:t %(Region.ready .any ops listed).length <(Region.ready .any ops listed).length :=Bk _ (List.length_pos_iff.2 hne);have hgo:Region.linearise.go .any ops (fuel+1) t listed []=(match (Region.ready .any ops listed)[t %(Region.ready .any ops listed).length]? with
  | some i=>Region.linearise.go .any ops fuel (t / (Region.ready .any ops listed).length) (listed.setIfInBounds i true) [i]
  | none=>[].reverse):=rfl
 rw [hgo,Ar hlt];simp only;have hi:=AU hlt;generalize (Region.ready .any ops listed)[t %(Region.ready .any ops listed).length]=i at hi;obtain ⟨h1,x,hx,hr⟩:=mem_ready.1 hi;have hil:i<ops.size:=(AC.1 hx).1;have hils:i<listed.size:=by omega
 have hif:listed.getD i false=false:=by grind
 rw [linearise_go_acc,List.reverse_singleton,List.singleton_append];have eG: ∀q,(listed.setIfInBounds i true).getD q false=(listed.getD q false||q == i):=fun q=>by
  by_cases hq:q=i
  ·simp_all
  ·have:(q == i)=false:=by simp [hq]
   rw [this,Bool.or_false];simp [Array.getD_eq_getD_getElem?,Ne.symm hq]
 have dE:y6n (fun i=>listed.getD i false) x:=fun e he hb=>hr e (Array.mem_toList_iff.1 he) hb;refine ⟨i,x,_,hx,hif,dE,rfl,by grind,fun j y hy hs e he hb=> ?_,eG⟩;simp only [eG] at hs ⊢;by_cases hji:j=i
 ·grind
 ·have hs':listed.getD j false=true:=by grind
  have:=hcl j y hy hs' e he hb
  grind
theorem x6p {ops:Array Oper} {m:Nat} (eJ: ∀(j:Nat) o,ops[j]? =some o→ ∀e∈o.after.toList,Region.binds .any e=true→e.on<j) (hf: ∀j x,m≤j→ops[j]? =some x→ ∀i,i<j→z7v ops i x):
  ∀(fuel t j:Nat) (listed:Array Bool),listed.size=ops.size→z6g ops (fun i=>listed.getD i false)→m≤j→j+fuel=ops.size→(∀q,q<j→listed.getD q false=true)→(∀q,j≤q→listed.getD q false=false)→Region.linearise.go .any ops fuel t listed []=(List.range ops.size).drop j
 | 0,t,j,listed,hsz,hcl,hj,hn,h1,h2=>by rw [At (by simp;omega)];rfl
 | fuel+1,t,j,listed,hsz,hcl,hj,hn,h1,h2=>by
  obtain ⟨i,x,t',hx,hif,hr,hgo,eW,hcl',eG⟩:=x6q eJ fuel t listed hsz hcl (q:=j) (by omega) (h2 j (Ao _));have hij: ¬i<j:=fun e=>by rw [h1 i e] at hif;cases hif
  have e:i=j:=by
   by_cases h:j<i
   ·have:listed.getD j false=true:=hf i x (by omega) hx j h _ hcl hr;rw [h2 j (Ao _)] at this;cases this
   ·omega
  subst e;rw [hgo,x6p eJ hf fuel t' (i+1) _ eW hcl' (by omega) (by omega) (fun q hq=>by
   rw [eG];by_cases e:q=i
   ·simp [e]
   ·rw [h1 q (by omega)];rfl) (fun q hq=>by
   rw [eG,h2 q (by omega)];simp;omega)]
  rw [AK (show i<(List.range ops.size).length by simp;omega)];simp
theorem v0j {ops:Array Oper} {m:Nat} (eJ: ∀(j:Nat) o,ops[j]? =some o→ ∀e∈o.after.toList,Region.binds .any e=true→e.on<j) (hm:m<ops.size) (hf: ∀j x,m≤j→ops[j]? =some x→ ∀i,i<j→z7v ops i x):
  ∀(fuel t:Nat) (listed:Array Bool),listed.size=ops.size→z6g ops (fun i=>listed.getD i false)→(List.range ops.size).countP (fun i=> !listed.getD i false)=fuel→(∀q,m≤q→listed.getD q false=false)→
   ∃l,Region.linearise.go .any ops fuel t listed []=l++(List.range ops.size).drop m∧ ∀i∈l,i<m:=by
 intro fuel
 induction fuel with
 | zero=>
  intro t listed hsz _ hc hl;have:=List.countP_eq_zero.1 hc m (AN.2 hm)
  grind
 | succ fuel ih=>
  intro t listed hsz hcl hc hl;obtain ⟨i,x,t',hx,hif,hr,hgo,eW,hcl',eG⟩:=x6q eJ fuel t listed hsz hcl hm (hl m (Ao _));have hil:i<ops.size:=(AC.1 hx).1;have hc':(List.range ops.size).countP (fun q=> !(listed.setIfInBounds i true).getD q false)=fuel:=by have:=z0f (fun q=> !listed.getD q false) (fun q=> !(listed.setIfInBounds i true).getD q false) i ops.size (fun k hk=>by grind) (by grind) (by grind) hil;omega
  by_cases him:i<m
  ·obtain ⟨l,h2,h3⟩:=ih t' (listed.setIfInBounds i true) eW hcl' hc' (fun q hq=>by grind)
   grind
  ·have e:i=m:=by
    by_cases h:m<i
    ·have:listed.getD m false=true:=hf i x (by omega) hx m h _ hcl hr
     grind
    ·omega
   subst e;have dX: ∀q,q<i→listed.getD q false=true:=fun q hq=>hf i x (Ao _) hx q hq _ hcl hr;refine ⟨[],?_,fun q hq=>by cases hq⟩;have hcount:fuel+1+i=ops.size:=by
    rw [←hc];have key: ∀n,i≤n→n≤ops.size→(List.range n).countP (fun q=> !listed.getD q false)+i=n:=by
     intro n
     induction n with
     | zero=>grind
     | succ n ihn=>
      intro h1 h2;rw [List.range_succ,List.countP_append];by_cases e:i≤n
      ·grind
      ·have hni:n+1=i:=(by omega);have h0:(List.range n).countP (fun q=> !listed.getD q false)=0:=List.countP_eq_zero.2 fun q hq=>by
        grind
       grind
    grind
   grind [x6p]
theorem y2v {b:Frame} {k:List Item} {cs:List Frame} {ops:Array Oper} {Q:Exit→Act→World→Prop} (hQ: ∀e a w,Q e a w→e=.normal) {m:Nat} (hm:m≤ops.size) (hnd:Qs ops=true)
  (hg: ∀i x g,i<m→ops[i]? =some x→x.guard=some g→g.1<m) {r:List Nat} (hr: ∀i∈r,m≤i): ∀(l:List Nat) (a:Act) (w:World),(∀i∈l,i<m)→wpOps P (Xm ops m) Q (l++r) a w→
   ∃a' w',Q .normal a' w'∧Steps P (lone (b.atR a (.inRegion ops (l++r)::k)) cs w) (lone (b.atR a' (.inRegion ops r::k)) cs w')
 | [],a,w,_,h=>by
  refine ⟨a,w,?_,Steps.refl _ _⟩;rw [A6] at h;clear hg
  induction r with
  | nil=>exact h
  | cons i r ih=>
   refine ih (fun q hq=>hr q (by simp [hq])) ?_;simp only [wpOps] at h;rw [w2m hm (hr i (by simp))] at h;cases ho:ops[i]? with
   | none=>grind
   | some o=>
    rw [ho] at h;simp only [BH] at h;have hw:Region.wanted (stubOp o) (yielded (Xm ops m) a.tmps)=true:=rfl;rw [AD hw] at h;rcases h with h | ⟨_,a0,w0,h0⟩
    ·have h:wpOps P (Xm ops m) Q r (a.put none (a.eval (.const (.bool true)))) w:=h;exact h
    grind
 | i::l,a,w,hl,h=>by
  have him:=hl i (by simp);simp only [BF,wpOps] at h;rw [x0c hm him] at h;have hil:i<ops.size:=by omega
  obtain ⟨x,hx⟩: ∃x,ops[i]? =some x:=⟨ops[i],by simp [hil]⟩
  rw [hx] at h;simp only at h;have hy:Region.wanted x (yielded (Xm ops m) a.tmps)=Region.wanted x (yielded ops a.tmps):=by
   grind [Region.wanted,yielded,x0c]
  rw [hy] at h;have h':if Region.wanted x (yielded ops a.tmps) then x.wp P a w (wpOps P (Xm ops m) Q (l++r)) Q else wpOps P (Xm ops m) Q (l++r) (a.put x.dst undef) w:=by
   by_cases hw:Region.wanted x (yielded ops a.tmps)=true
   ·simp only [hw,if_true] at h ⊢;rcases h with h | ⟨_,a0,w0,h0⟩;all_goals grind
   grind
  obtain ⟨a1,w1,h1,s1⟩:=y5h (b:=b) (k:=k) (cs:=cs) (rest:=l++r) hQ hx (Kw hnd hx) h';obtain ⟨a',w',hR,hs⟩:=y2v hQ hm hnd hg hr l a1 w1 (fun q hq=>hl q (by simp [hq])) h1;exact ⟨a',w',hR,s1.trans hs⟩
theorem y2o {st:St} {ops:List Oper}: ∀(l:List Oper) (i:Nat) {m:Nat},y4d st ops l i=some m→i≤m∧m<i+l.length
 | [],i,m,h=>by cases h
 | o::l,i,m,h=>by
  unfold y4d at h;cases hy:w5e st ops o with
  | true=>grind
  | false=>
   rw [hy] at h;have:=y2o l (i+1) h
   grind
theorem x7p {ops:Array Oper} {st:St} {m:Nat} (h:v6f ops st=some m):m<ops.size∧Qs ops=true∧y1c 0 (Xm ops m)=true∧(∀j x,m≤j→(Xm ops m)[j]? =some x→ ∀i,i<j→z7v (Xm ops m) i x)∧
  ∀i x g,i<m→ops[i]? =some x→x.guard=some g→g.1<m:=by
 unfold v6f at h;split at h
 ·rename_i m' hd;obtain ⟨hc,h⟩:=Zq h;obtain rfl:=Af h;have hlt:=(y2o _ _ hd).2;rw [Al,Array.length_toList] at hlt;simp only [v2q,Ac] at hc;obtain ⟨hnd,hdr,dX,hgd⟩:=hc;refine ⟨hlt,hnd,hdr,fun j x hj hx i hi=> ?_,fun i x g hi hx hgx=> ?_⟩
  ·have hjl:j<ops.size:=by grind [y7b]
   have:=Aw.1 dX j (AN.2 hjl);simp only [BB] at this;rcases this with h1 | h1
   ·have:=Ai h1;omega
   ·exact ((z3p hdr).bits j x hx i (Aw.1 h1 i (AN.2 hi))).2
  ·have h2:=Aw.1 hgd i (AN.2 hi);rw [hx] at h2;obtain ⟨dst,op,type,pos,after,guard⟩:=x;simp only at hgx;subst hgx;obtain ⟨j,want⟩:=g;exact Ai h2
 ·cases h
end
section
variable {P:Program} {ρ:Rho}
theorem Rel.setObj {mem:Mem} {next:Nat} {w:World} (h:Rel ρ mem next w) {b:Nat} {l:Loc} {ab:ABlk} {o':v2o} {r':List AVal} (hb:ρ b=some l) (hm:Zt mem b=some ab) (hob:ab.isObj=true) (cW:r'.length+1=ab.cells.length)
  (x:Obj) (hx:z7u ρ ab.ty l.blk r' o' (some x)):Rel ρ (Yr mem b (some ⟨.obj o'::r',ab.ty,none⟩)) next (w.putObj l.blk x):=by
 have hlt:=h.real b l hb;have hn:l=⟨l.blk,0,r'.length+1,r'.length+1⟩:=by
  have:=(h.blk b l ab hb hm)
  cases this with
  | plain k=>have:=k.noObj;rw [this] at hob;cases hob
  | obj o r ty e1 e2 _=>subst e1;rw [e2];simp only [AQ] at cW;rw [cW]
 have iff: ∀c,(Zt (Yr mem b (some ⟨.obj o'::r',ab.ty,none⟩)) c).isSome =(Zt mem c).isSome :=fun c=>by
  rw [Xi];split
  ·rename_i e;rw [e,hm];rfl
  ·rfl
 refine ⟨h.dom,fun c c' m m' e e' he hs hs'=>h.inj c c' m m' e e' he (by rw [←iff];exact hs) (by rw [←iff];exact hs'),fun c m ac e hc=> ?_,fun k o e=> ?_,fun c m e hs=>h.sep c m e (by rw [←iff];exact hs),fun c m e=>by rw [World.putObj_size];exact h.real c m e,fun c hc=> ?_,h.ldom⟩
 ·by_cases hcb:c=b
  ·subst hcb;rw [Zd] at hc;obtain rfl:=Af hc;rw [hb] at e;obtain rfl:=Af e;exact .obj o' r' ab.ty rfl hn (by rw [World.putObj_heap_same hlt];exact hx)
  ·rw [Zx _ _ hcb] at hc;refine (h.blk c m ac e hc).world (Rho.le_refl _) (World.putObj_heap_other fun heq=>hcb ?_);exact h.inj c b m l e hb heq (by rw [hc];rfl) (by rw [hm];rfl)
 ·rw [World.putObj_heap_other]
  ·exact h.old k o e
  ·intro heq;have:=h.sep b l hb (by rw [hm];rfl);rw [←heq,e] at this;cases this
 ·have:=h.dom b l hb;rw [Zx _ _ (by omega)];exact h.bd c hc
theorem Ev.ofObj {mem:Mem} {next:Nat} {w:World} (h:Rel ρ mem next w) {floor b:Nat} {l:Loc} (hb:ρ b=some l) (hf:floor≤b) (o:Option ABlk) (x:Obj):
  Ev ρ ρ floor mem next (Yr mem b o) next w (w.putObj l.blk x) where
 ext:=Rho.le_refl _
 new _ _:=rfl
 nxt:=Ao _
 unborn k _ e cs ty hm:=by
  rw [Zx]
  ·exact hm
  ·intro e';rw [e',hb] at e;cases e
 frame k o hk hfr:=by rw [World.putObj_heap_other fun e=>hfr b l hb hf e.symm];exact hk
 fresh k m hk e:=by have:=h.dom k m e;omega
 size:=by rw [World.putObj_size];exact Ao _
 os:=rfl
 tape:=rfl
 output:=rfl
 still _ _:=rfl
theorem Rel.newObj {mem:Mem} {next:Nat} {w:World} (h:Rel ρ mem next w) (o:v2o) (r:List AVal) (ty:TypeId) (x:Obj) (hx:z7u ρ ty w.heap.size r o (some x)):
  Rel (Xs ρ next ⟨w.heap.size,0,r.length+1,r.length+1⟩) (Yr mem next (some ⟨.obj o::r,ty,none⟩)) (next+1) (w.alloc x):=by
 have hle:=Uc (l:=⟨w.heap.size,0,r.length+1,r.length+1⟩) h.none_next;have dC: ∀b l,Xs ρ next ⟨w.heap.size,0,r.length+1,r.length+1⟩ b=some l→(b=next∧l=⟨w.heap.size,0,r.length+1,r.length+1⟩)∨(b≠next∧ρ b=some l):=fun b l e=>by
  grind [Ww]
 have hold: ∀k,k<w.heap.size→(w.alloc x).heap[k]? =w.heap[k]? :=fun k hk=>by show (w.heap.push x)[k]? =_;rw [Array.getElem?_push,Ax (Bt hk)]
 have hnew:(w.alloc x).heap[w.heap.size]? =some x:=World.alloc_heap_new w x;have eQ:(w.alloc x).heap.size =w.heap.size+1:=Array.size_push _;refine ⟨fun b l e=> ?_,fun b b' l l' e e' hbl hs hs'=> ?_,fun b l ab e hm=> ?_,fun k o e=> ?_,fun b l e hs=> ?_,fun b l e=> ?_,fun b hb=>by rw [Zx _ _ (by omega)];exact h.bd b (by omega),⟨fun j l e=>Bb (h.ldom.1 j l e),h.ldom.2⟩⟩
 ·rcases dC b l e with ⟨rfl,_⟩ | ⟨_,e⟩
  ·omega
  ·have:=h.dom b l e;omega
 ·rcases dC b l e with ⟨hb,hl⟩ | ⟨hb,e2⟩ <;> rcases dC b' l' e' with ⟨hb',hl'⟩ | ⟨hb',e2'⟩
  ·rw [hb,hb']
  ·have:=h.real b' l' e2';grind
  ·have:=h.real b l e2;grind
  ·rw [Zx _ _ hb] at hs;rw [Zx _ _ hb'] at hs';exact h.inj b b' l l' e2 e2' hbl hs hs'
 ·rcases dC b l e with ⟨rfl,rfl⟩ | ⟨hb,e⟩
  ·rw [Zd] at hm;obtain rfl:=Af hm;exact .obj o r ty rfl rfl (by rw [hnew];exact hx.mono hle)
  ·rw [Zx _ _ hb] at hm;exact (h.blk b l ab e hm).world hle (hold _ (h.real b l e))
 ·have hk:=h.old k o e;have hlt:=(AC.1 hk).1;rw [hold k hlt];exact hk
 ·rcases dC b l e with ⟨rfl,rfl⟩ | ⟨hb,e⟩
  ·exact h.hold _ (Ao _)
  ·rw [Zx _ _ hb] at hs;exact h.sep b l e hs
 ·rw [eQ];rcases dC b l e with ⟨rfl,rfl⟩ | ⟨_,e⟩
  ·show w.heap.size<_;omega
  ·have:=h.real b l e;omega
theorem z3a {st:St} {w:World} (h:Rel ρ st.mem st.next w) (floor:Nat) (o:v2o) (r:List AVal) (ty:TypeId) (x:Obj) (hx:z7u ρ ty w.heap.size r o (some x)) {v:AVal} {u:Value}
  (dK: ∀ρ',ρ' st.next=some ⟨w.heap.size,0,r.length+1,r.length+1⟩→Za ρ' v u):
  y2l ρ floor st (z3r st (.obj o::r) ty) v w (Xs ρ st.next ⟨w.heap.size,0,r.length+1,r.length+1⟩) u (w.alloc x):=
 ⟨dK _ (by simp [Xs]),h.newObj o r ty x hx,Ev.ofNew h floor _ _ _ (Ao _)⟩
theorem y4n {w:World} {k:Nat} {c cs:Array Value} {el:TypeId} {fz:Nat×Nat} (h:w.heap[k]? =some (.cells c el fz)):w.setRow k cs=w.putObj k (.cells cs el fz):=by
 unfold World.setRow World.putObj
 congr 1
 apply Array.ext_getElem?;intro i;rw [Array.getElem?_modify,Array.getElem?_setIfInBounds];have hlt:=(AC.1 h).1;by_cases e:k=i
 ·subst e;rw [AD rfl,AD rfl,h];simp [hlt]
 ·simp [e]
theorem x6z {w:World} {k:Nat} {s:ByteArray} {p:Nat} (h:w.heap[k]? =some (.stringIter s p)):(getObj k).run P w=.ok (.stringIter s p) w:=by simp [getObj,Sem.run,h]
theorem w7m {w:World} {k:Nat} {s:ByteArray} {p:Nat} {o':Obj} (h:w.heap[k]? =some (.stringIter s p)):(setObj k o').run P w=.ok () (w.putObj k o'):=by simp [setObj,Sem.run,h,World.putObj]
theorem w5z {w:World} {t:TypeId} {m:Array (String×TypeId)} (h:P.underlying t=some (.interface m)) (v:Value) (hv:v=.nilIface ∨ ∃d z,v=.iface d z):(Op.equal t v .nilIface).run P w=.ok (match v with | .nilIface =>true | _=>false) w:=by
 have key: ∀d,(Op.equalIn (d+1) t v .nilIface).run P w=.ok (match v with | .nilIface =>true | _=>false) w:=fun d=>by rcases hv with rfl | ⟨d,z,rfl⟩ <;> simp [Op.equalIn,run_underlying h]
 exact key 9999
theorem Rel.objAt {mem:Mem} {next:Nat} {w:World} (h:Rel ρ mem next w) {b:Nat} {l:Loc} {o:v2o} {r:List AVal} {ty:TypeId} (hb:ρ b=some l) (hm:Zt mem b=some ⟨.obj o::r,ty,none⟩):z7u ρ ty l.blk r o w.heap[l.blk]? :=by
 have:=h.blk b l _ hb hm;cases this with
 | plain k=>have:=k.noObj;cases this
 | obj o' r' ty' e1 e2 h3=>simp only [ABlk.mk.injEq,Bc,AVal.obj.injEq] at e1;obtain ⟨⟨rfl,rfl⟩,rfl,_⟩:=e1;exact h3
theorem Rel.objBase {mem:Mem} {next:Nat} {w:World} (h:Rel ρ mem next w) {b:Nat} {l:Loc} {o:v2o} {r:List AVal} {ty:TypeId} (hb:ρ b=some l) (hm:Zt mem b=some ⟨.obj o::r,ty,none⟩):l.base=0:=by
 have:=h.blk b l _ hb hm;cases this with
 | plain k=>have:=k.noObj;cases this
 | obj o' r' ty' e1 e2 h3=>rw [e2]
def x7m {α:Type} (vf:α→Value) (es:List MapEntry) (l:List (List UInt8×α)):Prop:=es.map (fun e=>(e.key,e.val))=l.map fun p=>(.string ⟨p.1.toArray⟩,vf p.2)
def w5n {α:Type} (vf:α→Value) (k:List UInt8):List (List UInt8×α)→Nat→Option (Nat×Value)
 | [],_=>none
 | p::r,i=>bif k == p.1 then some (i,vf p.2) else w5n vf k r (i+1)
theorem bytes_beq (a b:List UInt8):((⟨a.toArray⟩:ByteArray) == ⟨b.toArray⟩)=(a == b):=by rw [AR,MapKept.bytes_beq,A7];simp
theorem z3l {α:Type} (vf:α→Value) (k:List UInt8): ∀(es:List MapEntry) (l:List (List UInt8×α)) (i:Nat),x7m vf es l→Instr.findNow .string (.string ⟨k.toArray⟩) es i=some (w5n vf k l i)
 | [],[],_,_=>rfl
 | [],_::_,_,h=>by cases h
 | _::_,[],_,h=>by cases h
 | e::es,p::l,i,h=>by
  unfold x7m at h;simp only [A2,Bc,Aa] at h;obtain ⟨⟨h1,h2⟩,h3⟩:=h;have ih:=z3l vf k es l (i+1) h3;unfold Instr.findNow w5n;rw [h1];simp only [Instr.sameNow,bytes_beq];cases hk:(k == p.1) with
  | true=>rw [Ag,h2]
  | false=>rw [Ad];exact ih
theorem x7e {α:Type} (vf:α→Value) (d:α) (k:List UInt8): ∀(l:List (List UInt8×α)) (i:Nat),match w5n vf k l i with
  | some (_,v)=>v=vf (getK d l k)∧v9m l k=true
  | none=>getK d l k=d∧v9m l k=false
 | [],_=>⟨rfl,rfl⟩
 | p::l,i=>by
  have ih:=x7e vf d k l (i+1);unfold w5n getK v9m;cases hk:(k == p.1) with
  | true=>simp [hk]
  | false=>simpa [hk,v9m] using ih
theorem x7d {α:Type} (vf:α→Value) (k:List UInt8) (v:α) (c:Nat): ∀(l:List (List UInt8×α)) (es:List MapEntry) (i:Nat),x7m vf es l→match w5n vf k l i with
  | some (j,_)=>i≤j∧(∃e,es[j - i]? =some e∧e.key=.string ⟨k.toArray⟩)∧x7m vf (es.modify (j - i) fun e=>{e with key:=.string ⟨k.toArray⟩,val:=vf v}) (x5p l k v)
  | none=>x7m vf (es++[⟨.string ⟨k.toArray⟩,vf v,c⟩]) (x5p l k v)
 | [],es,i,h=>by
  have:es=[]:=by unfold x7m at h;simpa using h
  subst this;simp [w5n,x5p,x7m]
 | p::l,[],i,h=>by cases h
 | p::l,e::es,i,h=>by
  unfold x7m at h;simp only [A2,Bc,Aa] at h;obtain ⟨⟨h1,h2⟩,h3⟩:=h;have ih:=x7d vf k v c l es (i+1) h3;unfold w5n x5p;cases hk:(k == p.1) with
  | true=>
   have hk':k=p.1:=by simpa using hk
   simp only [Ag,Nat.sub_self];refine ⟨Ao _,⟨e,rfl,by rw [h1,hk']⟩,?_⟩;unfold x7m;simp only [List.modify_zero_cons,A2,Bc,Aa];exact ⟨⟨by rw [hk'],trivial⟩,h3⟩
  | false=>
   simp only [Ad];cases hf:w5n vf k l (i+1) with
   | none=>rw [hf] at ih;unfold x7m at ih ⊢;simp only [BF,A2,Bc,Aa];exact ⟨⟨h1,h2⟩,ih⟩
   | some q=>rw [hf] at ih;obtain ⟨j,x⟩:=q;simp only at ih ⊢;obtain ⟨k1,⟨e',k2,k3⟩,k4⟩:=ih;have hj:j - i=(j - (i+1))+1:=(by omega);refine ⟨by omega,⟨e',by rw [hj];exact k2,k3⟩,?_⟩;rw [hj];unfold x7m at k4 ⊢;simp only [List.modify_succ_cons,A2,Bc,Aa];exact ⟨⟨h1,h2⟩,k4⟩
theorem z2e {α:Type} (vf:α→Value) (d:α) {w:World} {t kt et:TypeId} {r clock:Nat} {es:Array MapEntry} {l:List (List UInt8×α)} (hm:P.underlying t=some (.map kt et)) (hk:P.underlying kt=some .string)
  (hz:(zeroValue et).run P w=.ok (vf d) w) (hb:w.heap[r]? =some (.map es clock)) (hes:x7m vf es.toList l) (k:List UInt8) (co:Bool):
  (Instr.lookup t (.map (some r)) (.string ⟨k.toArray⟩) co).run P w=.ok (if co then .tuple #[vf (getK d l k),.bool (v9m l k)] else vf (getK d l k)) w:=by
 have hf:=z3l vf k es.toList l 0 hes;have hc: ∀b,(Instr.checkKey b 10000 kt (.string ⟨k.toArray⟩)).run P w=.ok () w:=fun b=>MapKept.run_checkKey (k:=.string ⟨k.toArray⟩) hk (by simp [MapKept.IsKey]) b 9999;have hg:=x7e vf d k l 0;cases hfk:w5n vf k l 0 with
 | none=>rw [hfk] at hf hg;simp only at hg;rw [hg.1,hg.2];simp [Instr.lookup,run_underlying hm,MapKept.run_getObj_map hb,hc,MapKept.run_findKey hk hf,hz,Result.andThen]
 | some q=>obtain ⟨j,v⟩:=q;rw [hfk] at hf hg;simp only at hg;rw [←hg.1,hg.2];simp [Instr.lookup,run_underlying hm,MapKept.run_getObj_map hb,hc,MapKept.run_findKey hk hf,Result.andThen]
theorem z2d {α:Type} (vf:α→Value) {w:World} {t kt et:TypeId} {r clock:Nat} {es:Array MapEntry} {l:List (List UInt8×α)} (hm:P.underlying t=some (.map kt et)) (hk:P.underlying kt=some .string)
  (hb:w.heap[r]? =some (.map es clock)) (hes:x7m vf es.toList l) (k:List UInt8) (v:α):
  ∃es' clock',(Instr.mapUpdate t (.map (some r)) (.string ⟨k.toArray⟩) (vf v)).run P w=.ok () (w.putObj r (.map es' clock'))∧x7m vf es'.toList (x5p l k v):=by
 have hf:=z3l vf k es.toList l 0 hes;have hc: ∀b,(Instr.checkKey b 10000 kt (.string ⟨k.toArray⟩)).run P w=.ok () w:=fun b=>MapKept.run_checkKey (k:=.string ⟨k.toArray⟩) hk (by simp [MapKept.IsKey]) b 9999;have hg:=x7d vf k v clock l es.toList 0 hes;cases hfk:w5n vf k l 0 with
 | none=>rw [hfk] at hf hg;simp only at hg;refine ⟨es.push ⟨.string ⟨k.toArray⟩,vf v,clock⟩,clock+1,?_,by simpa using hg⟩;simp [Instr.mapUpdate,run_underlying hm,MapKept.run_getObj_map hb,hc,MapKept.run_findKey hk hf,MapKept.run_setObj_map _ hb,Result.andThen,World.putObj]
 | some q=>
  obtain ⟨j,x⟩:=q;rw [hfk] at hf hg;simp only [Nat.sub_zero] at hg;obtain ⟨_,⟨e,h1,h2⟩,h3⟩:=hg;have h1':es[j]? =some e:=by simpa using h1
  refine ⟨es.modify j fun e=>{e with key:=.string ⟨k.toArray⟩,val:=vf v},clock,?_,by simpa using h3⟩;have hs: ∀w:World,(Instr.keyThatStays (.string ⟨k.toArray⟩) (.string ⟨k.toArray⟩)).run P w=.ok (.string ⟨k.toArray⟩) w:=fun w=>by simp [Instr.keyThatStays,Instr.sameBits,(MapKept.bytes_beq (⟨k.toArray⟩:ByteArray) ⟨k.toArray⟩).2 rfl]
  simp [Instr.mapUpdate,run_underlying hm,MapKept.run_getObj_map hb,hc,MapKept.run_findKey hk hf,MapKept.run_setObj_map _ hb,Result.andThen,World.putObj,h1',h2,hs]
theorem y3w {v:AVal} {u:Value} (h:y8q v=true) (hr:Za ρ v u):u=.int .u8 ((y9b v).toNat :Int):=by
 unfold y8q at h;split at h
 ·rename_i n;have h:=As h;cases hr;simp only [y9b]
  congr 1
  have:(UInt8.ofNat n.toNat).toNat =n.toNat:=by rw [UInt8.toNat_ofNat'];omega
  rw [this];omega
 ·cases h
def w7b (w:World) (el:TypeId) (g o:Nat) (s:List UInt8):Prop:= ∃cs,w.heap[g]? =some (.cells cs el (0,0))∧(s≠ []→o+s.length≤cs.size)∧ ∀j x,s[j]? =some x→cs[o+j]? =some (.int .u8 x.toNat)
theorem z1k {mem:Mem} {next:Nat} {w:World} (cV:Rel ρ mem next w) {v:AVal} {u:Value} {s:List UInt8} (h:y9l mem v=some (s,true)) (hv:Za ρ v u):
  (u=.slice none 0 0∧s=[])∨ ∃b l g o c el,refB v=some b∧ρ b=some l∧(Zt mem b).isSome =true∧l.blk=g∧u=.slice (some ⟨g,o,none⟩) s.length c∧s.length≤c∧(∀ab,Zt mem b=some ab→el=ab.ty)∧w7b w el g o s:=by
 unfold y9l at h;split at h
 ·simp only [Ab,Aa] at h;obtain ⟨rfl,_⟩:=h;cases hv;exact .inl ⟨rfl,rfl⟩
 ·rename_i b off len cap;split at h
  ·rename_i blk hm;obtain ⟨hno,h⟩:=y3x h;split at h
   ·rename_i cs hc;simp only [Ab,Aa] at h;obtain ⟨rfl,dX⟩:=h;obtain ⟨k1,k2,k3⟩:=z0d hc;cases hv with
    | sl _ _ _ _ l c hl _ cW=>
     obtain ⟨hty,hn,ht,_,cur,el,h1,h2,h3⟩:=(cV.blk b l blk hl hm).at hno;refine .inr ⟨b,l,l.blk,l.base+off,c,el,rfl,hl,by rw [hm];rfl,rfl,by simp [k2],by simpa [k2] using cW,fun ab e=>by rw [hm] at e;rw [←Af e];exact hty _ _ _ h1,cur,h1,?_,fun j x hx=> ?_⟩
     ·intro hne;have:len≠0:=fun e=>hne (by rw [List.map_eq_nil_iff];exact Bx (by rw [k2,e]));simp only [List.length_map,k2];omega
     ·simp only [BC,Aj] at hx;obtain ⟨y,hy,rfl⟩:=hx;have hj:j<cs.length:=(AZ.1 hy).1;obtain ⟨z,q1,q2⟩:=h3 (off+j) (by omega);have hyz:blk.cells[off+j]'(by omega)=y:=by
       have:cs[j]? =blk.cells[off+j]? :=by rw [k1,List.getElem?_take,AD (by omega),List.getElem?_drop]
       rw [this,Ar (by omega)] at hy;exact Af hy
      rw [hyz] at q2;have hby:=Aw.1 dX y (List.mem_of_getElem? hy);rw [AH,q1,y3w hby q2]
   ·cases h
  ·cases h
 ·rename_i b sz off len cap;split at h
  ·rename_i blk hm;split at h
   ·rename_i A hA;simp only [Ab,Aa,Ac,Ak] at h;obtain ⟨rfl,hs1,hs2,dF,hok⟩:=h;obtain rfl:=Ah hs1;have hsz:=Ah hs2;have hok: ∀k,k<len→ ∃v,A.get (off+k)=[v]∧y8q v=true:= @As _ (Classical.propDecidable _) hok;have hlen0:(w2n len fun k=>A.get (off+k)).length =len:=(by simp [w2n]);cases hv with
    | slan=>exact .inl ⟨rfl,by simp [w2n]⟩
    | sla _ _ _ _ _ l c hl _ cW=>
     obtain ⟨hty,hn,ht,har,cur,el,h1,h2,h3⟩:=(cV.blk b l blk hl hm).rows hA;obtain ⟨a1,a2,a3⟩:=har A hA;have hrl:=Zh A.n a3;rw [←a1,hsz,Nat.mul_one] at hrl;refine .inr ⟨b,l,l.blk,l.base+off*1,c,el,rfl,hl,by rw [hm];rfl,rfl,by rw [hlen0],by rw [hlen0];exact cW,fun ab e=>by rw [hm] at e;rw [←Af e];exact hty _ _ _ h1,cur,h1,?_,fun j x hx=> ?_⟩
     ·intro _;rw [hlen0];omega
     ·have hj:j<len:=by rw [←hlen0];exact (AZ.1 hx).1
      obtain ⟨v0,e1,e2⟩:=hok j hj;obtain ⟨z,q1,q2⟩:=h3 (off+j) (by omega);have hg:blk.cells[off+j]? =some v0:=by
       have:=Xe A.n a3 (off+j) 0 (by omega) (by omega);rw [hsz] at this;rw [a1]
       simpa [e1] using this
      have hyz:blk.cells[off+j]'(by omega)=v0:=by rw [Ar (by omega)] at hg;exact Af hg
      rw [hyz] at q2;have hx':x=y9b v0:=by simp only [w2n,BC,List.getElem?_range hj,BH,Ab] at hx;rw [←hx,e1];rfl
      rw [Nat.mul_one,AH,q1,y3w e2 q2,hx']
   ·cases h
  ·cases h
 ·cases h
theorem w3f {w:World} {g o c:Nat} {el:TypeId} {s:List UInt8} (h:w7b w el g o s):(Conv.bytesToString (.slice (some ⟨g,o,none⟩) s.length c)).run P w=.ok (.string ⟨s.toArray⟩) w:=by
 obtain ⟨cs,h1,h2,h3⟩:=h;have hl:(loadCells ⟨g,o,none⟩ s.length).run P w=.ok ((s.map fun x=>(x.toNat:Int)).map (Value.int .u8)).toArray w:=by
  have:=run_loadCells_list (P:=P) w ⟨g,o,none⟩ ((s.map fun x=>(x.toNat:Int)).map (Value.int .u8)) fun j v hv=>by simp only [List.map_map,BC,Aj] at hv;obtain ⟨x,hx,rfl⟩:=hv;rw [Yd];have:=h3 j x hx;simp [World.cell?,h1,this]
  simpa using this
 rw [run_bytesToString w ⟨g,o,none⟩ s.length c _ hl]
 congr 2
 have: ∀(l:List UInt8) (acc:ByteArray),(l.map fun x=>(x.toNat:Int)).foldl (fun r n=>r.push (UInt8.ofNat n.toNat)) acc=⟨acc.data++l.toArray⟩:=by
  intro l
  induction l with
  | nil=>intro acc;simp
  | cons x l ih=>intro acc;simp only [A2,List.foldl_cons,ih];simp [ByteArray.push]
 rw [this];simp
theorem y9u :Za ρ (.tup []) undef:=.tup [] #[] rfl fun j h1 _=>by simp at h1
theorem y1o {floor:Nat} {st st':St} {t:TypeId} {x k v:AVal} (h:z6w P floor st t x k v=some st'):Yb floor st st'∧st'.env=st.env:=by
 unfold z6w at h;split at h
 ·obtain ⟨hf,h⟩:=Zq h;have hf:=Ai hf;split at h
  ·rename_i hm _;obtain rfl:=Af h;exact ⟨Yb.write st _ hf hm,rfl⟩
  ·rename_i hm _;obtain rfl:=Af h;exact ⟨Yb.write st _ hf hm,rfl⟩
  ·cases h
 ·cases h
theorem Ku {t:TypeId} {kd:Bool} (h:y0i P t=some kd): ∃k e,P.underlying t=some (.map k e)∧P.underlying k=some .string ∧ ∀w,(zeroValue e).run P w=.ok (bif kd then .int .i64 0 else .bool false) w:=by
 unfold y0i at h;split at h
 ·rename_i k e hu;refine ⟨k,e,hu,?_⟩;split at h
  ·rename_i i h1 h2 h3;split at h
   ·rename_i n hz;obtain ⟨hn,h⟩:=Zq h;obtain rfl:=Af h;obtain rfl:n=0:=by simpa using hn
    exact ⟨h1,fun w=>by simp [zeroValue,run_typeInfo w h3,hz]⟩
   ·cases h
  ·rename_i i h1 h2 h3;split at h
   ·rename_i b hz;cases b with
    | true=>cases h
    | false=>obtain rfl:=Af h;exact ⟨h1,fun w=>by simp [zeroValue,run_typeInfo w h3,hz]⟩
   ·cases h
  ·cases h
 ·cases h
theorem z6e {floor:Nat} {st st':St} {t:TypeId} {x k v:AVal} (h:z6w P floor st t x k v=some st') {w:World} (cV:Rel ρ st.mem st.next w) {ux uk uv:Value} (hx:Za ρ x ux) (hk:Za ρ k uk) (hv:Za ρ v uv):
  ∃w',(Instr.mapUpdate t ux uk uv).run P w=.ok () w'∧y2l ρ floor st st' (.tup []) w ρ undef w':=by
 unfold z6w at h;split at h
 ·rename_i b ks;obtain ⟨hf,h⟩:=Zq h;have hf:=Ai hf;cases hx with
  | mapr _ l hl=>
  cases hk;split at h
  ·rename_i ml ty n hkd hm _;obtain rfl:=Af h;cases hv;obtain ⟨kt,et,hu,hk,_⟩:=Ku hkd;obtain ⟨_,es,ck,ho,hes⟩:=cV.objAt hl hm;obtain ⟨es',ck',cX,hes'⟩:=z2d (P:=P) (fun n:Int=>.int .i64 n) hu hk ho hes ks n;exact ⟨_,cX,y9u,cV.setObj hl hm rfl rfl _ ⟨rfl,es',ck',rfl,hes'⟩,Ev.ofObj cV hl hf _ _⟩
  ·rename_i ml ty e hkd hm _;obtain rfl:=Af h;cases hv;obtain ⟨kt,et,hu,hk,_⟩:=Ku hkd;obtain ⟨_,es,ck,ho,hes⟩:=cV.objAt hl hm;obtain ⟨es',ck',cX,hes'⟩:=z2d (P:=P) (fun n:Bool=>.bool n) hu hk ho hes ks e;exact ⟨_,cX,y9u,cV.setObj hl hm rfl rfl _ ⟨rfl,es',ck',rfl,hes'⟩,Ev.ofObj cV hl hf _ _⟩
  ·cases h
 ·cases h
theorem Yb.kill {floor:Nat} (st:St) {c:Nat} (hf:floor≤c):Yb floor st (st.withMem (Yr st.mem c none)) where
 nxt:=Ao _
 bd h k hk:=by
  show Zt (Yr st.mem c none) k=none;rw [Xi];split
  ·rfl
  ·exact h k hk
 low _ k hk:=Zx _ _ (by omega)
 ob h:=h
theorem aX_inv {floor:Nat} {st st':St} {op:Op} {v:AVal} {b:Bool} (h:aX P floor st op=some (v,b,st')):Yb floor st st'∧st'.env=st.env:=by
 have same: ∀{v0:AVal} {b0:Bool},some (v0,b0,st)=some (v,b,st')→Yb floor st st'∧st'.env=st.env:=fun e=>by simp only [Ab,Aa] at e;obtain ⟨_,_,rfl⟩:=e;exact ⟨Yb.refl _ _,rfl⟩
 have fresh: ∀{v0:AVal} {b0:Bool} {cs:List AVal} {ty:TypeId},some (v0,b0,z3r st cs ty)=some (v,b,st')→Yb floor st st'∧st'.env=st.env:=fun e=>by simp only [Ab,Aa] at e;obtain ⟨_,_,rfl⟩:=e;exact ⟨Yb.new st _ _,rfl⟩
 unfold aX at h;split at h
 ·split at h
  ·exact fresh h
  ·cases h
 ·split at h
  ·split at h
   ·exact same h
   ·exact same h
   ·cases h
  ·cases h
 ·simp only [Aj,Aa] at h;obtain ⟨st1,h1,_,_,rfl⟩:=h;exact y1o h1
 ·simp only [Aj,Aa] at h;obtain ⟨st1,h1,_,_,rfl⟩:=h;exact y1o h1
 ·split at h
  ·exact fresh h
  ·cases h
 ·split at h
  ·obtain ⟨hf,h⟩:=Zq h;split at h
   ·rename_i c s pos ty hm;split at h;rename_i e st1 ht;obtain ⟨t1,t2,t3,t4⟩:=z0w ht;simp only [Ab,Aa] at h;obtain ⟨_,_,rfl⟩:=h;have hi:=Yb.same (floor:=floor) t2 t3 fun ho=>(t4 ho).2;cases e with
    | false=>exact ⟨hi,t1⟩
    | true=>exact ⟨hi.trans (Yb.write st1 _ (Ai hf) (by rw [t2];exact hm)),t1⟩
   ·cases h
  ·cases h
 ·obtain ⟨_,h⟩:=Zq h;split at h
  ·split at h
   ·exact fresh h
   ·cases h
  ·cases h
 ·split at h
  ·split at h
   ·exact same h
   ·cases h
  ·cases h
 ·split at h
  ·obtain ⟨hf,h⟩:=Zq h;simp only [Ac] at hf;split at h
   ·rename_i hm _;obtain ⟨_,h⟩:=Zq h;simp only [Ab,Aa] at h;obtain ⟨_,_,rfl⟩:=h;exact ⟨Yb.write st _ (Ai hf.1) hm,rfl⟩
   ·cases h
  ·cases h
 ·split at h
  ·split at h
   ·split at h
    ·exact same h
    ·cases h
   ·cases h
  ·cases h
 ·split at h
  ·split at h
   ·exact same h
   ·exact same h
   ·cases h
  ·cases h
 ·split at h
  ·obtain ⟨_,h⟩:=Zq h;split at h
   ·obtain ⟨_,h⟩:=Zq h;split at h
    ·split at h
     ·exact same h
     ·rename_i c _;obtain ⟨hc,h⟩:=Zq h;simp only [Ac] at hc;simp only [Ab,Aa] at h;obtain ⟨_,_,rfl⟩:=h;have hc1:=Ai hc.1;cases hmc:Zt st.mem c with
      | some ab=>exact ⟨Yb.write st _ hc1 hmc,rfl⟩
      | none=>exact ⟨Yb.kill st hc1,rfl⟩
    ·cases h
   ·cases h
  ·cases h
 ·cases h
theorem Rel.kept {mem:Mem} {next:Nat} {w w':World} (h:Rel ρ mem next w) (hs:w.heap.size≤w'.heap.size) {p:Nat→Prop} (hp: ∀b l,ρ b=some l→(Zt mem b).isSome =true→p l.blk) (hz: ∀k o,ρ.fz k=some o→p k)
  (hk: ∀k o,w.heap[k]? =some o→p k→w'.heap[k]? =some o):Rel ρ mem next w':=
 ⟨h.dom,h.inj,fun b l ab e hm=>by
  have q:=h.blk b l ab e hm;obtain ⟨o,ho⟩:=q.some;exact q.world (Rho.le_refl _) (by rw [ho];exact hk _ _ ho (hp b l e (by rw [hm];rfl))),fun k o e=>hk k o (h.old k o e) (hz k o e),h.sep,fun b l e=>AP (h.real b l e) hs,h.bd,h.ldom⟩
theorem v2j (hN:z2c P) {o:Oper} {floor:Nat} {st st':St} {v:AVal} (h:aX P floor st o.op=some (v,true,st')) (hob:st'.ob=true) {a:Act} (hr:Vr ρ st.eval a.eval o.op) {w:World} (cV:Rel ρ st.mem st.next w):
  u2y P o a w (y2l ρ floor st st' v w):=by
 obtain ⟨dst,op,type,pos,after,guard⟩:=o;simp only at h hr;unfold aX at h;split at h
 ·-- makeMap
  rename_i t;split at h
  ·rename_i kd hkd;simp only [Ab,Aa] at h;obtain ⟨rfl,_,rfl⟩:=h;refine .inl ⟨_,.map (some w.heap.size),_,?_,z3a cV floor _ [] t (.map #[] 0) ?_ fun ρ' hρ'=>.mapr _ _ hρ'⟩
   ·have hmk:(Instr.makeMap t none).run P w=.ok (.map (some w.heap.size)) (w.alloc (.map #[] 0)):=rfl;simp [execOp,hmk]
   ·cases kd
    ·exact ⟨rfl,_,_,rfl,rfl⟩
    ·exact ⟨rfl,_,_,rfl,rfl⟩
  ·cases h
 ·-- lookup
  rename_i t x i co;have hx:=hr x (by simp [Op.operands]);have hi:=hr i (by simp [Op.operands]);split at h
  ·rename_i b ks ex ei;rw [ex] at hx;rw [ei] at hi;generalize hux:a.eval x=ux at hx;generalize hui:a.eval i=ui at hi;cases hx with
   | mapr _ l hl=>
   cases hi;split at h
   ·rename_i ml ty hkd hm;obtain ⟨kt,et,hu,hk,hz⟩:=Ku hkd;simp only [Ab,Aa] at h;obtain ⟨rfl,_,rfl⟩:=h;obtain ⟨_,es,ck,ho,hes⟩:=cV.objAt hl hm;have cX:=z2e (P:=P) (fun n:Int=>.int .i64 n) 0 hu hk (hz w) ho hes ks co;refine .inl ⟨ρ,_,w,by simp only [execOp,hux,hui];simp only [Sem.run_bind,cX,Result.andThen];rfl,?_,cV,Ev.refl _ _ _ _ _ cV.dom⟩;cases co
    ·exact .int _ _
    ·exact .tup _ _ rfl fun j h1 h2=>by
      match j with
      | 0=>exact .int _ _
      | 1=>exact .bool _
      | j+2=>simp at h1;omega
   ·rename_i ml ty hkd hm;obtain ⟨kt,et,hu,hk,hz⟩:=Ku hkd;simp only [Ab,Aa] at h;obtain ⟨rfl,_,rfl⟩:=h;obtain ⟨_,es,ck,ho,hes⟩:=cV.objAt hl hm;have cX:=z2e (P:=P) (fun n:Bool=>.bool n) false hu hk (hz w) ho hes ks co;refine .inl ⟨ρ,_,w,by simp only [execOp,hux,hui];simp only [Sem.run_bind,cX,Result.andThen];rfl,?_,cV,Ev.refl _ _ _ _ _ cV.dom⟩;cases co
    ·exact .bool _
    ·exact .tup _ _ rfl fun j h1 h2=>by
      match j with
      | 0=>exact .bool _
      | 1=>exact .bool _
      | j+2=>simp at h1;omega
   ·cases h
  ·cases h
 ·-- mapUpdate
  rename_i t m k x;simp only [Aj,Aa] at h;obtain ⟨st1,h1,rfl,_,rfl⟩:=h;obtain ⟨w',cX,hp⟩:=z6e h1 cV (hr m (by simp [Op.operands])) (hr k (by simp [Op.operands])) (hr x (by simp [Op.operands]));exact .inr (.inl ⟨ρ,w',by simp [execOp,cX],hp⟩)
 ·-- insert
  rename_i t m k x;simp only [Aj,Aa] at h;obtain ⟨st1,h1,rfl,_,rfl⟩:=h;obtain ⟨w',cX,hp⟩:=z6e h1 cV (hr m (by simp [Op.operands])) (hr k (by simp [Op.operands])) (hr x (by simp [Op.operands]));exact .inr (.inl ⟨ρ,w',by simp [execOp,cX],hp⟩)
 ·-- range
  rename_i t x;have hx:=hr x (by simp [Op.operands]);split at h
  ·rename_i s hu ex;rw [ex] at hx;generalize hux:a.eval x=ux at hx;cases hx;simp only [Ab,Aa] at h;obtain ⟨rfl,_,rfl⟩:=h;refine .inl ⟨_,.pointer (some ⟨w.heap.size,0,none⟩),_,?_,z3a cV floor (.it s 0) [] t (.stringIter ⟨s.toArray⟩ 0) ⟨rfl,rfl⟩ fun ρ' hρ'=>.ptr _ 0 _ hρ'⟩;simp [execOp,hux,Instr.range,run_underlying hu,Result.andThen]
  ·cases h
 ·-- next
  rename_i x;have hx:=hr x (by simp [Op.operands]);split at h
  ·rename_i b ex;rw [ex] at hx;generalize hux:a.eval x=ux at hx;obtain ⟨hf,h⟩:=Zq h;have hf:=Ai hf;split at h
   ·rename_i s pos ty hm;split at h;rename_i e st1 ht;obtain ⟨t1,t2,t3,t4⟩:=z0w ht;simp only [Ab,Aa] at h;obtain ⟨rfl,_,rfl⟩:=h;cases hx with
    | ptr _ _ l hl=>
    have eS:=cV.objBase hl hm;obtain ⟨_,ho⟩:=cV.objAt hl hm;have hsz:(⟨s.toArray⟩:ByteArray).size =s.length:=(by simp [←ByteArray.size_data]);rw [eS,Al] at hux;cases e with
    | true=>
     obtain ⟨hlt,_⟩:=t4 hob;have hlt:=As hlt.symm;refine .inl ⟨ρ,.tuple #[.bool true,goInt pos,.int .i32 (Utf8.decode ⟨s.toArray⟩ pos).1],w.putObj l.blk (.stringIter ⟨s.toArray⟩ (pos+dcW s pos)),?_,?_,?_,?_⟩
     ·simp [execOp,hux,Instr.next,x6z ho,w7m ho,hsz,hlt,dcW,Result.andThen]
     ·exact .tup _ _ rfl fun j h1 h2=>by
       match j with
       | 0=>exact .bool _
       | 1=>exact .int _ _
       | 2=>exact .int _ _
       | j+3=>simp at h1;omega
     ·show Rel ρ (Yr st1.mem b _) st1.next _
      rw [t2,t3];exact cV.setObj hl hm rfl rfl _ ⟨rfl,rfl⟩
     ·show Ev ρ ρ floor st.mem st.next (Yr st1.mem b _) st1.next _ _
      rw [t2,t3];exact Ev.ofObj cV hl hf _ _
    | false=>
     obtain ⟨hlt,_⟩:=t4 hob;have hlt: ¬pos<s.length:=of_decide_eq_false hlt.symm;refine .inl ⟨ρ,.tuple #[.bool false],w,?_,?_,?_,?_⟩
     ·simp [execOp,hux,Instr.next,x6z ho,hsz,hlt,Result.andThen]
     ·exact .tup _ _ rfl fun j h1 h2=>by
       match j with
       | 0=>exact .bool _
       | j+1=>simp at h1
     ·show Rel ρ st1.mem st1.next w
      rw [t2,t3];exact cV
     ·show Ev ρ ρ floor st.mem st.next st1.mem st1.next w w
      rw [t2,t3];exact Ev.refl _ _ _ _ _ cV.dom
   ·cases h
  ·cases h
 ·-- alloc
  rename_i t;obtain ⟨ht,h⟩:=Zq h;split at h
  ·rename_i i hi;split at h
   ·rename_i hz;simp only [Ab,Aa] at h;obtain ⟨rfl,_,rfl⟩:=h;have hzr:(zeroValue t).run P w=.ok (.agg #[.pointer none,.slice none 0 0]) w:=(by simp [zeroValue,run_typeInfo w hi,hz]);refine .inl ⟨_,.pointer (some ⟨w.heap.size,0,none⟩),_,?_,z3a cV floor .bld [.nils] t (.cells #[.pointer none,.slice none 0 0] t (0,0)) ⟨.nils,.slice none 0 0,none,rfl,rfl,.nils,.inl rfl⟩ fun ρ' hρ'=>.ptr _ 0 _ hρ'⟩;simp [execOp,Instr.alloc,newVar,newRow,hzr,Value.cells]
   ·cases h
  ·cases h
 ·-- load
  rename_i t x;have hx:=hr x (by simp [Op.operands]);split at h
  ·rename_i b ex;rw [ex] at hx;generalize hux:a.eval x=ux at hx;split at h
   ·rename_i buf ty i hm hag hi;simp only [Ab,Aa] at h;obtain ⟨rfl,_,rfl⟩:=h;cases hx with
    | ptr _ _ l hl=>
    have eS:=cV.objBase hl hm;obtain ⟨_,bv,p,e1,ho,hbv,_⟩:=cV.objAt hl hm;obtain rfl:=(List.cons.inj e1).1;rw [eS,Al] at hux;refine .inl ⟨ρ,bv,w,?_,hbv,cV,Ev.refl _ _ _ _ _ cV.dom⟩;have hc:w.cell? ⟨l.blk,1,none⟩=some bv:=(by simp [World.cell?,ho]);simp [execOp,hux,Instr.loadAt,Instr.sureAddr,loadVar,Qj hag,hc]
   ·cases h
  ·cases h
 ·-- store
  rename_i t ad x;have hx:=hr ad (by simp [Op.operands]);have hv:=hr x (by simp [Op.operands]);split at h
  ·rename_i b ex;rw [ex] at hx;generalize hux:a.eval ad=ux at hx;obtain ⟨hf,h⟩:=Zq h;simp only [Ac] at hf;obtain ⟨hf,hsc⟩:=hf;have hf:=Ai hf;split at h
   ·rename_i buf ty i hm hi;obtain ⟨hsz,h⟩:=Zq h;have hsz:=Ah hsz;simp only [Ab,Aa] at h;obtain ⟨rfl,_,rfl⟩:=h;cases hx with
    | ptr _ _ l hl=>
    have eS:=cV.objBase hl hm;obtain ⟨_,bv,p,e1,ho,hbv,hp⟩:=cV.objAt hl hm;rw [eS,Al] at hux;refine .inr (.inl ⟨ρ,w.putObj l.blk (.cells #[.pointer p,a.eval x] ty (0,0)),?_,y9u,cV.setObj (o':=.bld) (r':=[st.eval x]) hl hm rfl rfl _ ⟨_,_,p,rfl,rfl,hv,hp⟩,Ev.ofObj cV hl hf _ _⟩);have dL:=hv.oneCell hsc;have hcs:(a.eval x).cells = #[a.eval x]:=by
     cases hz:a.eval x <;> first | rfl | (rw [hz] at dL;cases dL)
    have cX:=run_storeCells_at P l.blk 1 ty [a.eval x] 0 _ w ho (by simp) (by simpa using dL);rw [y4n ho] at cX;simp_all [execOp,Instr.storeAt,Instr.sureAddr,storeVar,Zg]
   ·cases h
  ·cases h
 ·-- convert
  rename_i src dst x;have hx:=hr x (by simp [Op.operands]);split at h
  ·rename_i e hs hd;split at h
   ·rename_i he;split at h
    ·rename_i s o hby;simp only [Ab,Aa] at h;obtain ⟨rfl,rfl,rfl⟩:=h;refine .inl ⟨ρ,.string ⟨s.toArray⟩,w,?_,.str _,cV,Ev.refl _ _ _ _ _ cV.dom⟩;rcases z1k cV hby hx with ⟨e1,rfl⟩ | ⟨_,_,g,o,c,_,_,_,_,_,e1,_,_,hat⟩
     ·simp only [execOp,e1,run_convert_bytes_string w src dst e none 0 0 hs he hd];simp [run_convert_bytes_string w src dst e none 0 0 hs he hd,Conv.bytesToString];rfl
     ·simp [execOp,e1,run_convert_bytes_string w src dst e _ _ _ hs he hd,w3f hat]
    ·cases h
   ·cases h
  ·cases h
 ·-- e == nil
  rename_i bop t x y yt;have hx:=hr x (by simp [Op.operands]);split at h
  ·rename_i e m ex hu;rw [ex] at hx;generalize hux:a.eval x=ux at hx;have hy:a.eval (.const .nilIface)=.nilIface :=rfl;split at h
   ·simp only [Ab,Aa] at h;obtain ⟨rfl,_,rfl⟩:=h;refine .inl ⟨ρ,.bool e,w,?_,.bool _,cV,Ev.refl _ _ _ _ _ cV.dom⟩;cases hx <;> simp [execOp,hux,hy,eqGuard,binOp,run_underlying hu,w5z hu]
   ·simp only [Ab,Aa] at h;obtain ⟨rfl,_,rfl⟩:=h;refine .inl ⟨ρ,.bool !e,w,?_,.bool _,cV,Ev.refl _ _ _ _ _ cV.dom⟩;cases hx <;> simp [execOp,hux,hy,eqGuard,binOp,run_underlying hu,w5z hu]
   ·cases h
  ·cases h
 ·-- String
  rename_i f args argTypes;have hf:=hr f (by simp [Op.operands,Call.operands]);have cY:Xo (Za ρ) (args.toList.map st.eval) (args.map a.eval).toList :=by rw [Bg];exact Xo.maps _ _ _ fun x hx=>hr x (by grind [Op.operands,Call.operands])
  split at h
  ·rename_i g b eg ea;rw [eg] at hf;rw [ea] at cY;obtain ⟨hg,h'⟩:=Zq h;clear h;simp only [Ac] at hg;obtain ⟨hg,hbody⟩:=hg;obtain rfl:=Ah hg;obtain ⟨fn,hfn,hb⟩: ∃fn,P.funcs[v2r]? =some fn∧fn.body.isSome=true:=by
    cases e:P.funcs[v2r]? with
    | none=>rw [e] at hbody;cases hbody
    | some fn=>rw [e] at hbody;exact ⟨fn,rfl,hbody⟩
   generalize eF:args.map a.eval=vals at cY;obtain ⟨vals⟩:=vals;generalize hw:a.eval f=u at hf;cases hf with
   | fn _ _ cvs hl hh=>
   obtain rfl:cvs= #[]:=Array.eq_empty_of_size_eq_zero (by rw [←hl];rfl);cases cY with
   | cons h1 h2=>
   cases h2;cases h1 with
   | ptr _ _ l hl'=>
   split at h'
   ·rename_i buf ty hm;obtain ⟨hty,h⟩:=Zq h';clear h';obtain rfl:=Ah hty;split at h
    ·rename_i s o hby0;have eS:=cV.objBase hl' hm;obtain ⟨_,bv,p,e1,ho,hbv,_⟩:=cV.objAt hl' hm;obtain rfl:=(List.cons.inj e1).1;have hexec:(execOp a.eval ⟨dst,.call ⟨.value f,args,argTypes⟩,type,pos,after,guard⟩).run P w=.ok (.enter v2r #[.pointer (some ⟨l.blk,0,none⟩)]) w:=by have cX:=Jm hN hfn hb #[.pointer (some ⟨l.blk,0,none⟩)] w;rw [eS] at eF;simp [execOp,resolve,hw,Deferred.ofValue,eF,invoke,cX]
     refine .inr (.inr ⟨v2r,_,hexec,?_⟩);have hstr:=fun cW=>hN.2 (by rw [hfn];rfl) l.blk _ bv w s cW ho;split at h
     ·rename_i hrf;simp only [Ab,Aa,Ac,Ak] at h;obtain ⟨rfl,⟨cW,rfl⟩,rfl⟩:=h;have hby:=hby0;have hstr:=hstr cW;rcases z1k cV hby hbv with ⟨k1,k2⟩ | ⟨b',_,_,_,_,_,k1,_⟩
      ·refine (hstr (.inl ⟨k1,k2⟩)).mono fun e w' ⟨q1,q2,q3,q4,q5,q6⟩=>⟨ρ,_,q1,.str _,?_,?_⟩
       ·exact cV.kept q2 (p:=fun _=>True) (fun _ _ _ _=>trivial) (fun _ _ _=>trivial) fun k o hk _=>q3 k o hk fun g o n c e=>by rw [k1] at e;cases e
       ·exact ⟨Rho.le_refl _,fun _ _=>rfl,Ao _,fun _ _ _ _ _ h=>h,fun k o hk _=>q3 k o hk fun g o n c e=>(by rw [k1] at e;cases e),fun k m hk e=>(by have:=cV.dom k m e;omega),q2,q4,q5,q6,fun _ _=>rfl⟩
      ·rw [hrf] at k1;cases k1
     ·rename_i c hrf;obtain ⟨hc,h⟩:=Zq h;simp only [Ac] at hc;obtain ⟨hc1,hc2⟩:=hc;have hc1:=Ai hc1;simp only [Ab,Aa,Ac,Ak] at h;obtain ⟨rfl,⟨cW,rfl⟩,rfl⟩:=h;have hby:=hby0;have hstr:=hstr cW;rcases z1k cV hby hbv with ⟨k1,k2⟩ | ⟨b',lc,g,o,cc,el,k1,k2,k3,k4,k5,k6,k7,cur,k8,k9,k10⟩
      ·have hkill:=cV.kill c;refine (hstr (.inl ⟨k1,k2⟩)).mono fun e w' ⟨q1,q2,q3,q4,q5,q6⟩=>⟨ρ,_,q1,.str _,?_,?_⟩
       ·exact hkill.kept q2 (p:=fun _=>True) (fun _ _ _ _=>trivial) (fun _ _ _=>trivial) fun k o hk _=>q3 k o hk fun g o n c e=>by rw [k1] at e;cases e
       ·refine ⟨Rho.le_refl _,fun _ _=>rfl,Ao _,fun k hk e cs ty hm'=> ?_,fun k o hk _=>q3 k o hk fun g o n c e=>(by rw [k1] at e;cases e),fun k m hk e=>(by have:=cV.dom k m e;omega),q2,q4,q5,q6,fun _ _=>rfl⟩;show Zt (Yr st.mem c none) k=_;rw [Zx]
        ·exact hm'
        ·intro e';subst e';rw [k1] at hbv;unfold y9l at hby;cases hbv <;> first | (cases hrf;done) | skip
         all_goals (have hrf:=Af hrf;subst hrf;simp [hm'] at hby)
      ·rw [hrf] at k1;obtain rfl:=Af k1;subst k4;obtain ⟨ab,hab⟩:=BG.1 k3;have hel:=k7 ab hab;have hbt:ab.ty=bytT:=by unfold tyB at hc2;rw [hab] at hc2;exact Ah hc2
       rw [hel,hbt] at k8;have hkill:=cV.kill c;have hne: ∀k,lc.blk≠k→ ∀g o n c,bv=.slice (some ⟨g,o,none⟩) n c→g≠k:=fun k hk g o n c e=>by rw [k5] at e;cases e;exact hk
       refine (hstr (.inr ⟨lc.blk,o,cc,cur,k5,k6,k8,k9,k10⟩)).mono fun e w' ⟨q1,q2,q3,q4,q5,q6⟩=>⟨ρ,_,q1,.str _,?_,?_⟩
       ·refine hkill.kept q2 (p:=fun k=>lc.blk≠k) (fun b2 l2 e2 hs2 heq=> ?_) (fun k o hk heq=> ?_) fun k o hk hp=>q3 k o hk (hne k hp)
        ·by_cases hbc:b2=c
         ·rw [hbc,Zd] at hs2;cases hs2
         ·rw [Zx _ _ hbc] at hs2;exact hbc (cV.inj b2 c l2 lc e2 k2 heq.symm hs2 k3)
        ·have:=cV.sep c lc k2 k3;rw [heq,hk] at this;cases this
       ·refine ⟨Rho.le_refl _,fun _ _=>rfl,Ao _,fun k hk e cs ty hm'=> ?_,fun k o hk hfr=>q3 k o hk (hne k (hfr c lc k2 hc1)),fun k m hk e=>(by have:=cV.dom k m e;omega),q2,q4,q5,q6,fun _ _=>rfl⟩;show Zt (Yr st.mem c none) k=_;rw [Zx]
        ·exact hm'
        ·intro e';rw [e',k2] at e;cases e
    ·cases h
   ·cases h'
  ·cases h
 ·cases h
structure u2t (P:Program) (ops:Array Oper) (cx:Ctx) (o:Oper) (st st':St):Prop where
 inv:Yb cx.floor st st'
 slot: ∀d,o.dst=some d→d<cx.n
 other:st'.ob=true→ ∀t,o.dst≠some t→st'.tmp t=st.tmp t
 does:st'.ob=true→ ∀(ρ:Rho) (a:Act) (w:World),a.tmps.size=cx.n→(∀d,Wc ops o=some d→Za ρ (st.tmp d) (a.tmps.getD d undef))→Vr ρ st.eval a.eval o.op→Rel ρ st.mem st.next w→
  ∀(K:Act→World→Prop) (Q:Exit→Act→World→Prop),(∀ρ' u w',(∀d,o.dst=some d→Za ρ' (st'.tmp d) u)→Rel ρ' st'.mem st'.next w'→Ev ρ ρ' cx.floor st.mem st.next st'.mem st'.next w w'→K (a.put o.dst u) w')→
   if Region.wanted o (yielded ops a.tmps) then o.wp P a w K Q else K (a.put o.dst undef) w
theorem u2u.two {S:Specs} {ops:Array Oper} {cx:Ctx} {x:Bool×Oper} {st st':St} (s:u2u S P ops cx x st st'):u2t P ops cx x.2 st st':=
 ⟨s.inv,s.slot,s.other,fun ho ρ a w h1 h2 h3 h4 K Q hK=>s.does ho ρ a w st.eval h1 (fun _ _=>rfl) h2 h3 h4 K Q fun ρ' u w' q1 q2 q3 _=>hK ρ' u w' q1 q2 q3⟩
theorem w2p (hN:z2c P) {ops:Array Oper} {cx:Ctx} {o:Oper} {st st1 st2 st3 st':St} {v:AVal} {b:Bool} (hw:Jd ops o cx st=some (true,st1)) (hx:aX P cx.floor st1 o.op=some (v,b,st2)) (how:st2.owe cx b=some st3) (hp:st3.put cx o.dst v=some st'):u2t P ops cx o st st':=by
 obtain ⟨w1,w2,w3⟩:=Xx hw;obtain ⟨eH,cZ⟩:=aX_inv hx;obtain ⟨e1,e2,e3,e4⟩:=Ys how;obtain ⟨p1,p2,p3,p4⟩:=Xa hp;have eI: ∀d,o.dst=some d→st'.tmp d=v:=fun d hd=>by
  rcases p4 with ⟨e,_⟩ | ⟨d',e,_,he⟩
  ·rw [hd] at e;cases e
  ·rw [hd] at e;obtain rfl:=Af e;show T.get .undef st'.env d=v;rw [he,T.get_set,AD rfl]
 have hi1:Yb cx.floor st st1:=Yb.same w1 w2 fun ho=>(w3 ho).1;have hi2:Yb cx.floor st2 st':=Yb.same (p1.trans e2) (p2.trans e3) fun ho=>(e4 (by rw [←p3];exact ho)).2;have hob:st'.ob=true→b=true∧st2.ob=true∧st1.ob=true:=fun ho=>by obtain ⟨h1,h2⟩:=e4 (by rw [←p3];exact ho);exact ⟨h1,h2,eH.ob h2⟩
 refine ⟨(hi1.trans eH).trans hi2,fun d hd=> ?_,fun ho t ht=> ?_,fun ho ρ a w hsz hgr hr cV K Q hK=> ?_⟩
 ·rcases p4 with ⟨e,_⟩ | ⟨d',e,hlt,_⟩
  ·rw [hd] at e;cases e
  ·rw [hd] at e;obtain rfl:=Af e;exact hlt
 ·obtain ⟨_,_,ho1⟩:=hob ho;rw [←(w3 ho1).2 t];show T.get .undef st'.env t=T.get .undef st1.env t;rcases p4 with ⟨_,he⟩ | ⟨d',e,_,he⟩
  ·rw [he,e1,cZ]
  ·rw [he,T.get_set,Ax (fun h=>ht (by rw [e,h])),e1,cZ]
 ·obtain ⟨rfl,ho2,ho1⟩:=hob ho;have dG:=(w3 ho1).2;have eD: ∀y,st1.eval y=st.eval y:=fun y=>by cases y <;> first | rfl | exact dG _
  rw [Wq hw ho1 hsz hgr,AD rfl];have hr':Vr ρ st1.eval a.eval o.op:=fun y hy=>by rw [eD y];exact hr y hy
  refine (v2j hN hx ho2 hr' (by rw [w1,w2];exact cV)).wp fun ρ' u w' hpost=> ?_;have he:=hpost.ev;rw [w1,w2] at he;refine hK ρ' u w' (fun d hd=>by rw [eI d hd];exact hpost.val) (by rw [p1,p2,e2,e3];exact hpost.rel) (by rw [p1,p2,e2,e3];exact he)
end
section
variable {P:Program}
theorem x7v {S:Specs} {Rc:Runner} (hN:z2c P) (hS:Zw P S) (hCI:x7k Rc) (hC:ROk P Rc) {fl:Nat} {cx:Ctx} {ops:Array Oper} {i:Nat} {o:Oper} {l:List Oper} {todo:List Item} {rnd:Option Nat} {rs:List ResultVar} {st:St} {cs:List AFr} {lps:Loops} {C':Cfg}
  (hfl:Fl fl ⟨cx,some (ops,i,o::l),todo,rnd,rs,st,cs,lps⟩) (h:w2q P S Rc cx ops i o l todo rnd rs st cs lps=some C'):Sim P fl ⟨cx,some (ops,i,o::l),todo,rnd,rs,st,cs,lps⟩ C':=by
 have plain2: ∀st2,u2t P ops cx o st st2→Sim P fl ⟨cx,some (ops,i,o::l),todo,rnd,rs,st,cs,lps⟩ ⟨cx,some (ops,i+1,l),todo,rnd,rs,st2,cs,lps⟩:=by
  intro st2 s1;have e:=hfl.cx;simp only at e;refine ⟨⟨e,hfl.cs,AG hfl.le s1.inv.nxt⟩,by rw [←e];exact s1.inv,fun ho m0 n0 ρ0 w0 ρ b a k css w ma mb hs he cs0=> ?_⟩;obtain ⟨cZ,hdf,htd,⟨hro,dW⟩,dJ⟩:=hs.top;simp only at cZ hdf htd hro dJ;obtain ⟨ho_i,hl',hdrop⟩:=x1f hro;have key:=s1.does ho ρ a w cZ.size (fun d _=>cZ.get d) (fun y _=>cZ.eval y) hs.rel
   (fun a' w'=> ∃ρ',a'.defers=a.defers∧Xb ρ' st2.env cx.n a'.tmps∧Rel ρ' st2.mem st2.next w'∧Ev ρ ρ' cx.floor st.mem st.next st2.mem st2.next w w') (fun e _ _=>e=.normal) (fun ρ' u w' dK dP hev=>by
    refine ⟨ρ',Act.put_defers' _ _ _,?_,dP,hev⟩;cases hdst:o.dst with
    | none=>exact ((cZ.mono hev.ext).congr fun t=>s1.other ho t (by grind))
    | some d=>
     refine ((cZ.mono hev.ext).put (dK d hdst) (.inr ⟨d,rfl,s1.slot d hdst,rfl⟩)).congr fun t=> ?_;rw [T.get_set];split
     ·rename_i e;subst e;rfl
     ·rename_i e;exact s1.other ho t (by grind))
  obtain ⟨a',w',⟨ρ',hd',he',hr',hev⟩,dN⟩:=y5h (b:=b) (k:=k) (cs:=css++cs0) (rest:=(List.range ops.size).drop (i+1)) (fun e a w h=>h) ho_i (Kw dW ho_i) key;refine ⟨ρ',b,a',k,css,w',ma,mb,by rw [Xh,hdrop];exact dN,⟨⟨he',by grind,htd.mono fun _ _=>x7l.mono hev.ext,⟨hl',dW⟩,?_⟩,hs.lv,hs.rest.ev hev,hr'⟩,he.trans (by grind),rfl,hev.size⟩;exact ((⟨cZ,hdf,htd,⟨hro,dW⟩,dJ⟩:w2b ρ cx (some (ops,i,o::l)) todo rnd st.env b a k ma).mono hev.ext).rnd
 have hcx:cx.floor≤st.next:=by have:=hfl.le;have e:=hfl.cx;grind
 have plain: ∀st2,y4j P S Rc ops cx (false,o) st=some st2→Sim P fl ⟨cx,some (ops,i,o::l),todo,rnd,rs,st,cs,lps⟩ ⟨cx,some (ops,i+1,l),todo,rnd,rs,st2,cs,lps⟩:=fun st2 h1=>plain2 st2 (y2x hN hS hCI hC hcx h1).two;unfold w2q at h;split at h
 ·rename_i st1 hw;split at h
  ·-- an operation that only such a region has
   rename_i v b st2 hx;split at h
   ·rename_i st3 how;split at h
    ·rename_i st4 hp;obtain rfl:=Af h;exact plain2 st4 (w2p hN hw hx how hp)
    ·cases h
   ·cases h
  rename_i hx;split at h
  ·-- a function is entered
   rename_i g args dR;obtain ⟨w1,w2,w3⟩:=z3u (ρ:=⟨fun _=>none,fun _=>none,fun _=>none⟩) hw;have hCeq: ∃fn body,P.funcs[g]? =some fn∧fn.body=some body∧C'=⟨⟨Nat.max fn.ntmps args.length,cx.floor,cx.sym⟩,none,[.code body],none,fn.results.toList,st1.withEnv (z6s args 0 .leaf),⟨cx,some (ops,i,o::l),todo,rnd,rs,st1.env⟩::cs,lps⟩:=by
    grind [y3u]
   obtain ⟨fn,body,hfn,hb,hCe⟩:=hCeq;have hmem:C'.st.mem=st.mem:=by rw [hCe];exact w1
   have hnext:C'.st.next=st.next:=by rw [hCe];exact w2
   refine ⟨by rw [hCe];exact hfl.enter (Nat.le_of_eq w2.symm),Yb.same hmem hnext fun ho=>(w3 (by rw [hCe] at ho;exact ho)).1,fun ho m0 n0 ρ0 w0 ρ b a k css w ma mb hs he cs0=> ?_⟩;have ho1:st1.ob=true:=by rw [hCe] at ho;exact ho
   obtain ⟨cZ,hdf,htd,⟨hro,dW⟩,dJ⟩:=hs.top;simp only at cZ hdf htd hro dJ;obtain ⟨ho_i,hl',hdrop⟩:=x1f hro;obtain ⟨_,_,w3'⟩:=z3u (ρ:=ρ) hw;obtain ⟨eT,hwt⟩:=(w3' ho1).2 cZ;have hexec: ∃vals,(execOp a.eval o).run P w=.ok (.enter g vals) w∧Xo (Za ρ) args vals.toList:=by
    obtain ⟨dst,op,type,pos,after,guard⟩:=o;simp only at dR ⊢;unfold callee at dR;split at dR
    ·rename_i f cargs argTypes;split at dR
     ·rename_i g' caps hg;split at dR
      ·cases dR
      ·simp only [Ab,Sum.inl.injEq,Aa] at dR;obtain ⟨rfl,rfl⟩:=dR;have hf:=eT.eval f;rw [hg] at hf;generalize hw':a.eval f=u at hf;cases hf with
       | fn _ _ cvs hl hh=>
        have:=Jm hN hfn (by rw [hb];rfl) (cargs.map a.eval++cvs) w
        grind [execOp,resolve,Deferred.ofValue,invoke,Xo.append,y1i,Xo.of]
     ·rename_i g' first hg
      split at dR
      ·cases dR
      ·simp only [Ab,Sum.inl.injEq,Aa] at dR;obtain ⟨rfl,rfl⟩:=dR;have hf:=eT.eval f;rw [hg] at hf;generalize hw':a.eval f=u at hf;cases hf with
       | fnb _ _ cvs hl hh=>
        have:=Jm hN hfn (by rw [hb];rfl) (cvs++cargs.map a.eval) w
        grind [execOp,resolve,Deferred.ofValue,invoke,Xo.append,Xo.of,y1i]
     all_goals grind
    ·cases dR
   obtain ⟨vals,hex,cY⟩:=hexec;have dV:=x7s (b:=b) (k:=k) (cs:=css++cs0) (rest:=(List.range ops.size).drop (i+1)) ho_i (Kw dW ho_i) hwt hex;obtain ⟨_,_,_,_,_,b',a',k',hen,hsr⟩:=y3t h (⟨eT,hdf,htd,⟨hro,dW⟩,dJ⟩) hs.lv hs.rest (by rw [w1,w2];exact hs.rel) cY;refine ⟨ρ,b',a',k',_,w,_,_,.one ?_,hsr,by grind,by cases css <;> rfl,Ao _⟩
   grind [Xh]
  ·-- a round is entered
   rename_i j args dR;obtain ⟨w1,w2,w3⟩:=z3u (ρ:=⟨fun _=>none,fun _=>none,fun _=>none⟩) hw;unfold v3t at h;split at h
   ·rename_i lst lpend ln lenv lparams lassign lbody hlg;split at h
    ·rename_i env' hsa;obtain rfl:=Af h;refine ⟨hfl.enter (Nat.le_of_eq w2.symm),Yb.same w1 w2 fun ho=>(w3 ho).1,fun ho m0 n0 ρ0 w0 ρ b a k css w ma mb hs he cs0=> ?_⟩;have ho1:st1.ob=true:=ho;obtain ⟨cZ,hdf,htd,⟨hro,dW⟩,dJ⟩:=hs.top;simp only at cZ hdf htd hro dJ;obtain ⟨ho_i,hl',hdrop⟩:=x1f hro;obtain ⟨_,_,w3'⟩:=z3u (ρ:=ρ) hw;obtain ⟨eT,hwt⟩:=(w3' ho1).2 cZ;obtain ⟨lr,hlp,hlow,hsp,ltmps,lfn,ld,eY,eC⟩:=hs.rest.loops j _ hlg;simp only at eY eC;have hexec: ∃vals:Array Value,Xo (Za ρ) args vals.toList∧(execOp a.eval o).run P w=.ok (.round lr lfn ((lparams.toArray.zip vals).foldl (fun tmps (t,x)=>tmps.setIfInBounds t x) ltmps) lassign lbody) w:=by
      obtain ⟨dst,op,type,pos,after,guard⟩:=o;simp only at dR ⊢;unfold callee at dR;split at dR
      ·rename_i f cargs argTypes;split at dR
       ·grind
       ·grind
       ·rename_i j' hg;simp only [Ab,Sum.inr.injEq,Aa] at dR;obtain ⟨rfl,rfl⟩:=dR;have hf:=eT.eval f;rw [hg] at hf;generalize hw':a.eval f=u at hf;cases hf with
        | yld _ l' hl'=>rw [hlp] at hl';obtain rfl:=Af hl';have hca:=y1i eT cargs;obtain ⟨cW,_⟩:=Qc hsa eC hca;refine ⟨cargs.map a.eval,hca,?_⟩;simp_all [run_yield,execOp,resolve,Deferred.ofValue,invoke]
       ·cases dR
      ·cases dR
     obtain ⟨vals,cY,hex⟩:=hexec;obtain ⟨_,henv'⟩:=Qc hsa eC cY;have dV:=x7r (b:=b) (k:=k) (cs:=css++cs0) (rest:=(List.range ops.size).drop (i+1)) ho_i (Kw dW ho_i) hwt hex;refine ⟨ρ,⟨lfn, #[],[],[],.run,.normal,some lr⟩,{tmps:=(lparams.toArray.zip vals).foldl (fun tmps (t,x)=>tmps.setIfInBounds t x) ltmps,defers:=[]},[.code lassign,.beginRound,.code lbody],b.atR a (Xh (some (ops,i,o::l)) k)::css,w,[],ma++mb,.one ?_,⟨⟨?_,rfl,.cons (.same _ rfl) (.cons (.same _ rfl) (.cons (.same _ rfl) .nil)),trivial,⟨rfl,lr,hlp,rfl⟩⟩,fun _=>⟨rfl,fun h0=>by cases h0⟩,?_,by rw [show (st1.withEnv env').mem =st.mem from w1,show (st1.withEnv env').next =st.next from w2];exact hs.rel⟩,by rw [show (st1.withEnv env').mem =st.mem from w1,show (st1.withEnv env').next =st.next from w2];exact he,by cases css <;> rfl,Ao _⟩
     ·simp only [Xh,hdrop];exact dV
     ·have:(lparams.toArray.zip vals).foldl (fun tmps (t,x)=>tmps.setIfInBounds t x) ltmps=(lparams.zip vals.toList).foldl (fun t p=>t.setIfInBounds p.1 p.2) ltmps:=by rw [←Array.foldl_toList];simp
      simp only [this];exact henv'
     ·exact ⟨.cons ⟨eT,hdf,htd,⟨hro,dW⟩,dJ⟩ hs.lv hs.rest.cs,hs.rest.nodup,hs.rest.marks,hs.rest.loops,hs.rest.inj⟩
    ·cases h
   ·cases h
  clear plain2
  grind [y4j]
 all_goals (clear plain2;grind [y4j])
end
section
variable {P:Program}
theorem y6z {ops:Array Oper} {z:Nat}: ∀{l:List Nat},tryZ ops l=some z→y1c z ops=true
 | [],h=>by cases h
 | x::l,h=>by
  unfold tryZ at h;rcases Wk h with ⟨h1,h⟩ | ⟨_,h⟩
  ·obtain rfl:=Af h;exact h1
  ·exact y6z h
theorem x9y {ops:Array Oper} {z:Nat} (h:v9c ops=some z):y1c z ops=true∧Qs ops=true:=by unfold v9c at h;obtain ⟨hn,h⟩:=Zq h;exact ⟨y6z h,hn⟩
theorem y2b.item {ρ:Rho} {x:Item} {t k:List Item} (hx:Jg x=true) (h:y2b ρ (x::t) k): ∃k',k=x::k'∧y2b ρ t k':=by
 cases h with
 | cons h ht=>
  cases h with
  | same _ _=>grind
  | inR j l e=>cases hx
  | endR j l e=>cases hx
theorem y0l {fl:Nat} {cx:Ctx} {todo:List Item} {rnd:Option Nat} {rs:List ResultVar} {st:St} {cs:List AFr} {lps:Loops} {jump:Option Code} {C':Cfg} (hfl:Fl fl ⟨cx,none,todo,rnd,rs,st,cs,lps⟩)
  (h:y8j P rnd rs st cs lps jump=some C') (hj:(todo=[]∧jump=none)∨(∃t,todo=.code .ret ::t∧jump=some .ret)∨(∃id t,todo=.code (.exit id)::t∧exitTo id t=none∧jump=some (.exit id)∧rnd.isSome=true)):
  Sim P fl ⟨cx,none,todo,rnd,rs,st,cs,lps⟩ C':=by
 unfold y8j at h;split at h
 ·split at h
  ·rename_i vs hvs;obtain ⟨hfl',hm,hn,hob,hne,key⟩:=y5g (P:=P) (base:=0) h hfl.cs hfl.le;refine ⟨hfl',Yb.same hm hn fun ho=>by grind,fun ho m0 n0 ρ0 w0 ρ b a k css w ma mb hs he cs0=> ?_⟩;obtain ⟨_,_,_,_,_,key⟩:=y5g (P:=P) (base:=w0.heap.size) h hfl.cs hfl.le;have htd:todo=[]∨ ∃t,todo=.code .ret ::t:=by
    grind
   obtain ⟨w',dN,cZ,cV,hev,dO,hsz⟩:=y1b hs rfl rfl htd rfl he (css++cs0);obtain ⟨hk,hfn⟩:=hs.lv hne;obtain ⟨fn,hfn,hrs⟩:=hfn rfl;simp only at hrs hfn;obtain ⟨u,hu,eX⟩:=Qh (fn:=fn) cZ cV (by rw [hrs];exact hvs);obtain ⟨c,css',b',a',k',ma',mb',rfl,hfin,hsr,hbot⟩:=key ρ css w' mb u hu dO cV;refine ⟨ρ,b',a',k',css',w',ma',mb',dN.trans (.one ?_),hsr,by grind,by rw [hbot];rfl,hsz⟩;rw [←hfin];exact step_leave_returned (fr:={b.atR {a with defers:=[]} k with mode:=.returning}) ⟨rfl,rfl,hk,fn,hfn,eX⟩
  ·cases h
 ·rename_i j;split at h
  ·rename_i lst lpend ln lenv lparams lassign lbody hlg;obtain ⟨hfl',hm,hn,hob,hne,_⟩:=y5g (P:=P) (base:=0) h hfl.cs hfl.le;refine ⟨hfl',Yb.same hm hn fun ho=>by grind,fun ho m0 n0 ρ0 w0 ρ b a k css w ma mb hs he cs0=> ?_⟩;obtain ⟨_,_,_,_,_,key⟩:=y5g (P:=P) (base:=w0.heap.size) h hfl.cs hfl.le;obtain ⟨rfl,lr0,hlp0,hro⟩:=hs.top.rnd;obtain ⟨lr,hla⟩:=hs.rest.loops j _ hlg;have hla':=hla;obtain ⟨hlp,hlow,hsp,ltmps,lfn,ld,eY,eC⟩:=hla;rw [hlp] at hlp0;obtain rfl:=Af hlp0;have cX:=run_endRound (P:=P) jump eY;have hlst:(if jump.isNone then LoopState.ready else LoopState.done)=y8m jump:=by cases jump <;> rfl
   rw [hlst] at cX;have dO:=hs.rest.record (w':=w.putObj lr (.loop ⟨y8m jump,jump,lfn,ltmps,lparams.toArray,lassign,lbody,ld⟩)) hlg hla' (L':=⟨y8m jump,jump,ln,lenv,lparams,lassign,lbody⟩)
    ⟨hlp,hlow,hsp.turned (Xn.put _ _ _),ltmps,lfn,ld,World.putObj_heap_same hsp.1,eC⟩ (Xn.put _ _ _)
   obtain ⟨c,css',b',a',k',ma',mb',rfl,hfin,hsr,hbot⟩:=key ρ css _ mb (.bool jump.isNone) (.bool _) dO (hs.rel.turned (fun r hr=>by grind) (Xn.put _ _ _));have hev:=he.turned (m:=[lr]) (fun r hr=>by grind) (Xn.put w lr (.loop ⟨y8m jump,jump,lfn,ltmps,lparams.toArray,lassign,lbody,ld⟩));refine ⟨ρ,b',a',k',css',_,ma',mb',.one ?_,hsr,by grind,by rw [hbot];rfl,Nat.le_of_eq (Xn.put _ _ _).size.symm⟩;obtain ⟨hk,_⟩:=hs.lv hne;rw [←hfin];have htd:=hs.top.todo;rcases hj with ⟨rfl,rfl⟩ | ⟨t,rfl,rfl⟩ | ⟨id,t,rfl,hx,rfl,_⟩
   ·cases htd;exact stepR_round_end hro hk cX
   ·obtain ⟨k',rfl,_⟩:=htd.code;exact stepR_round_ret hro hk cX
   ·obtain ⟨k',rfl,ht⟩:=htd.code;exact stepR_round_exit hro hk ((ht.exit id).2 hx) cX
  ·cases h
theorem y7c {S:Specs} {Rc:Runner} (hN:z2c P) (hmx:P.follows .mixedOrders =true) (hS:Zw P S) (hCI:x7k Rc) (hC:ROk P Rc) {fl:Nat} {C C':Cfg} (hfl:Fl fl C) (h:x7u P S Rc C=some C'):Sim P fl C C':=by
 unfold x7u at h;split at h
 ·-- a region's end
  rename_i ops i todo rnd rs st cs lps;obtain rfl:=Af h;refine ⟨⟨hfl.cx,hfl.cs,hfl.le⟩,Yb.refl _ _,fun ho m0 n0 ρ0 w0 ρ b a k css w ma mb hs he cs0=> ?_⟩;obtain ⟨cZ,hdf,htd,⟨hro,dW⟩,dJ⟩:=hs.top;refine ⟨ρ,b,a,k,css,w,ma,mb,.one ?_,⟨⟨cZ,hdf,htd,trivial,dJ⟩,hs.lv,hs.rest,hs.rel⟩,he,rfl,Ao _⟩;have hge:ops.size≤i:=by simp_all
  have:(List.range ops.size).drop i=[]:=At (by grind)
  grind [Xh,stepR_region_end]
 ·exact x7v hN hS hCI hC hfl h
 ·rename_i cx todo rnd rs st cs lps;split at h
  ·grind [y0l]
  ·grind [y0l]
  ·obtain rfl:=Af h;exact Sim.move hfl fun ρ k hk=>by obtain ⟨k',rfl,ht⟩:=hk.code;grind [stepR_skip]
  ·obtain rfl:=Af h;exact Sim.move hfl fun ρ k hk=>by obtain ⟨k',rfl,ht⟩:=hk.code;grind [stepR_label]
  ·obtain rfl:=Af h;exact Sim.move hfl fun ρ k hk=>by obtain ⟨k',rfl,ht⟩:=y2b.item rfl hk;grind [stepR_inBlock]
  ·obtain rfl:=Af h;exact Sim.move hfl fun ρ k hk=>by obtain ⟨k',rfl,ht⟩:=y2b.item rfl hk;exact ⟨k',ht,fun b a css w=>step_lone_go (by simp [stepG,stepG.exec,Frame.atR])⟩
  ·obtain rfl:=Af h;exact Sim.move hfl fun ρ k hk=>by obtain ⟨k',rfl,ht⟩:=hk.code;exact ⟨_,.cons (.same _ rfl) (.cons (.same _ rfl) ht),fun b a css w=>stepR_seq⟩
  ·-- a test
   rename_i c x y k0;split at h
   ·rename_i v hv;split at h;rename_i e st1 ht;obtain rfl:=Af h;obtain ⟨t1,t2,t3,t4⟩:=z0w ht;refine ⟨⟨hfl.cx,hfl.cs,by have:=hfl.le;grind⟩,Yb.same t2 t3 fun ho=>(t4 ho).2,fun ho m0 n0 ρ0 w0 ρ b a k css w ma mb hs he cs0=> ?_⟩;obtain ⟨rfl,_⟩:=t4 ho;obtain ⟨cZ,hdf,htd,hro,dJ⟩:=hs.top;obtain ⟨k',rfl,htl⟩:=htd.code;have hc:=cZ.eval c;rw [hv] at hc;have hev:a.eval c=.bool e:=by generalize a.eval c=u at hc;cases hc;rfl
    refine ⟨ρ,b,a,_,css,w,ma,mb,.one (stepR_cond hev),⟨⟨by grind,hdf,.cons ?_ htl,trivial,dJ⟩,hs.lv,hs.rest,by rw [t2,t3];exact hs.rel⟩,by grind,rfl,Ao _⟩;cases e <;> exact .same _ rfl
   ·cases h
  ·obtain rfl:=Af h;exact Sim.move hfl fun ρ k hk=>by obtain ⟨k',rfl,ht⟩:=hk.code;exact ⟨_,.cons (.same _ rfl) (.cons (.same _ rfl) ht),fun b a css w=>stepR_block⟩
  ·obtain rfl:=Af h;exact Sim.move hfl fun ρ k hk=>by obtain ⟨k',rfl,ht⟩:=hk.code;exact ⟨_,.cons (.same _ rfl) (.cons (.same _ rfl) ht),fun b a css w=>step_lone_go (by simp [stepG,stepG.exec,Frame.atR])⟩
  ·obtain rfl:=Af h;exact Sim.move hfl fun ρ k hk=>by obtain ⟨k',rfl,ht⟩:=hk.code;exact ⟨_,.cons (.same _ rfl) (.cons (.same _ rfl) ht),fun b a css w=>stepR_loop⟩
  ·obtain rfl:=Af h;exact Sim.move hfl fun ρ k hk=>by obtain ⟨k',rfl,ht⟩:=y2b.item rfl hk;exact ⟨_,.cons (.same _ rfl) (.cons (.same _ rfl) ht),fun b a css w=>stepR_inLoop⟩
  ·-- an exit
   rename_i id k0;split at h
   ·rename_i k1 hx;obtain rfl:=Af h;exact Sim.move hfl fun ρ k hk=>by
     obtain ⟨k',rfl,ht⟩:=hk.code;obtain ⟨r',h1,h2⟩:=(ht.exit id).1 _ hx
     grind [stepR_exit]
   grind [y0l]
  ·-- a region in the order of the text
   rename_i id ops k0;obtain ⟨dW,h⟩:=Zq h;obtain rfl:=Af h;refine ⟨⟨hfl.cx,hfl.cs,hfl.le⟩,Yb.refl _ _,fun ho m0 n0 ρ0 w0 ρ b a k css w ma mb hs he cs0=> ?_⟩;obtain ⟨cZ,hdf,htd,hro,dJ⟩:=hs.top;obtain ⟨k',rfl,htl⟩:=htd.code;exact ⟨ρ,b,a,k',css,w,ma,mb,.one stepR_region,⟨⟨cZ,hdf,htl,⟨rfl,dW⟩,dJ⟩,hs.lv,hs.rest,hs.rel⟩,he,rfl,Ao _⟩
  ·-- a region that draws its order
   rename_i id ops k0;split at h
   ·-- it hands out a round
    rename_i m hty;split at h
    ·rename_i st1 hop;obtain rfl:=Af h;obtain ⟨hm,dW,dQ,hfor,hgd⟩:=x7p hty;have hm':=Nat.le_of_lt hm;have hi:=y0b hCI _ _ _ _ hop;have e:=hfl.cx;simp only at e;have hcx:cx.floor≤st.next:=by have:=hfl.le;grind
     refine ⟨⟨e,hfl.cs,AG hfl.le hi.nxt⟩,by grind,fun ho m0 n0 ρ0 w0 ρ b a k css w ma mb hs he cs0=> ?_⟩;obtain ⟨cZ,hdf,htd,hro,dJ⟩:=hs.top;obtain ⟨k',rfl,htl⟩:=htd.code;have hw:=z5d hN hS hCI hC hcx dQ hop ho hdf cZ (hs.rel.drawn (w.drawn+1));have hw2:=wpAny_sound (Xm ops m).size (w.tape w.drawn (.order b.fn id)) _ a _ hw;rw [x5n _ hm',y7b hm'] at hw2;have back: ∀(j:Nat) x,ops[j]? =some x→ ∃y,(Xm ops m)[j]? =some y∧y.after=x.after:=fun j x hx=>by
      grind [z6i]
     have eJ: ∀(j:Nat) x,ops[j]? =some x→ ∀e∈x.after.toList,Region.binds .any e=true→e.on<j:=fun j x hx e he hb=>by obtain ⟨y,hy,hya⟩:=back j x hx;exact (z3p dQ).ord j y hy e (by grind) hb
     have hcl0: ∀S,z6g ops S→z6g (Xm ops m) S:=fun S hc j y hy hS e he hb=>by
      have hsa:=z6i hm' j;rw [hy] at hsa;cases hsx:ops[j]? with
      | none=>grind
      | some x=>rw [hsx] at hsa;simp only [BH,Ab] at hsa;exact hc j x hsx hS e (by grind) hb
     have hfor': ∀j x,m≤j→ops[j]? =some x→ ∀i,i<j→z7v ops i x:=fun j x hj hx i hij S hc hr=>by obtain ⟨y,hy,hya⟩:=back j x hx;exact hfor j y hj hy i hij S (hcl0 S hc) fun e he hb=>hr e (by grind) hb
     have dZ: ∀i,(Array.replicate ops.size false).getD i false=false:=fun i=>by by_cases hi:i<ops.size <;> simp [hi]
     obtain ⟨l,hl,hlm⟩:=v0j eJ hm hfor' ops.size (w.tape w.drawn (.order b.fn id)) (Array.replicate ops.size false) (by simp) (fun j x hx hS=>by grind) (by
      simp_all) (fun q _=>dZ q)
     rw [hl] at hw2;obtain ⟨a',w',⟨_,hd',ρ',q1,q2,q3⟩,dN⟩:=y2v (b:=b) (k:=k') (cs:=css++cs0) (fun e a w hq=>hq.1) hm' dW hgd (r:=(List.range ops.size).drop m) (fun i hi=>by
      obtain ⟨n,hn,rfl⟩:=A1 hi;simp) l a _ hlm hw2
     have hev:=q3.drawn;refine ⟨ρ',b,a',k',css,w',ma,mb,.head stepR_region_draw ?_,⟨⟨q1,hd',htl.mono fun _ _=>x7l.mono hev.ext,⟨rfl,dW⟩,?_⟩,hs.lv,hs.rest.ev hev,q2⟩,he.trans (by grind),rfl,hev.size⟩
     ·grind [Region.schedule,Xh,Region.linearise]
     ·exact ((⟨cZ,hdf,htd,hro,dJ⟩:w2b ρ cx none _ rnd st.env b a _ ma).mono hev.ext).rnd
    ·cases h
   split at h;rename_i z hlz;obtain ⟨dQ,dW⟩:=x9y hlz;split at h
   ·rename_i st1 hop;obtain rfl:=Af h;have hi:=y0b hCI _ _ _ _ hop;have e:=hfl.cx;simp only at e;have hcx:cx.floor≤st.next:=by have:=hfl.le;grind
    refine ⟨⟨e,hfl.cs,AG hfl.le hi.nxt⟩,by grind,fun ho m0 n0 ρ0 w0 ρ b a k css w ma mb hs he cs0=> ?_⟩;obtain ⟨cZ,hdf,htd,hro,dJ⟩:=hs.top;obtain ⟨k',rfl,htl⟩:=htd.code;have hw:=z5d hN hS hCI hC hcx dQ hop ho hdf cZ (hs.rel.drawn (w.drawn+1));have hw2:=wpAny_sound ops.size (w.tape w.drawn (.order b.fn id)) _ a _ hw;obtain ⟨a',w',⟨hd',ρ',q1,q2,q3⟩,dN⟩:=z9z (b:=b) (k:=k') (cs:=css++cs0) (fun e a w hq=>hq) dW _ _ _ hw2;have hev:=q3.drawn;refine ⟨ρ',b,a',k',css,w',ma,mb,.head stepR_region_draw ?_,⟨⟨q1,hd',htl.mono fun _ _=>x7l.mono hev.ext,trivial,?_⟩,hs.lv,hs.rest.ev hev,q2⟩,he.trans (by grind),rfl,hev.size⟩
    ·simp only [Region.schedule,hmx,Bool.true_or,if_true];exact dN
    ·exact ((⟨cZ,hdf,htd,hro,dJ⟩:w2b ρ cx none _ rnd st.env b a _ ma).mono hev.ext).rnd
   all_goals grind
  ·-- a loop over a function
   rename_i f params assign body k0;split at h
   ·rename_i g caps hg;obtain ⟨env,mem,next,orc,ob⟩:=st;simp only [St.nextId] at h;obtain ⟨hrk,h⟩:=Zq h;have hCeq: ∃fn fbody,P.funcs[g]? =some fn∧fn.body=some fbody∧C'=⟨⟨Nat.max fn.ntmps (AVal.yld next::caps).length,cx.floor,cx.sym⟩,none,[.code fbody],none,fn.results.toList,St.withEnv ⟨env,mem,next+1,orc,ob⟩ (z6s (AVal.yld next::caps) 0 .leaf),⟨cx,none,.inRangeFunc next::k0,rnd,rs,env⟩::cs,w1z lps next (some ⟨.ready,none,cx.n,env,params.toList,assign,body⟩)⟩:=by
     grind [y3u]
    obtain ⟨fn,fbody,hfn,hb,hCe⟩:=hCeq;refine ⟨by rw [hCe];exact hfl.enter (BO _),?_,fun ho m0 n0 ρ0 w0 ρ b a k css w ma mb hs he cs0=> ?_⟩
    ·rw [hCe];exact ⟨BO _,fun hbd x hx=>hbd x (Nat.le_of_succ_le hx),fun _ _ _=>rfl,fun ho=>ho⟩
    obtain ⟨cZ,hdf,htd,hro,dJ⟩:=hs.top;obtain ⟨k',rfl,htl⟩:=htd.code;have cV:=hs.rel;simp only at cZ cV he dJ hdf htl;have lay: ∃l mk w1 d,(Instr.enterLoop b.fn a.tmps params assign body b.roundOf).run P w=.ok (l,(mk:List Nat).map v8u) w1∧w1.heap[l]? =some (.loop ⟨.ready,none,b.fn,a.tmps,params,assign,body,d⟩)∧w0.heap.size≤l∧Sp ρ w1 l∧Rel ρ mem next w1∧Ev ρ0 ρ fl m0 n0 mem next w0 w1∧(rnd.isSome=true→mk=[])∧
      y4b P w0.heap.size ρ cs lps css w1 (mk++ma) mb∧(∀j L l',z9c lps j=some L→ρ.lp j=some l'→l'≠l)∧w.heap.size≤w1.heap.size:=by
     have gr: ∀(w1:World) (o:Obj) (mk:List Nat),y4b P w0.heap.size ρ cs lps css w1 mk mb→y4b P w0.heap.size ρ cs lps css (w1.alloc o) mk mb:=fun w1 o mk hr=>
      ⟨hr.cs,hr.nodup,fun r hx=>by obtain ⟨q1,q2,q3⟩:=hr.marks r hx;exact ⟨q1,(q2.grow o).1,by rw [(q2.grow o).2];exact q3⟩,fun j L hL=>by
       obtain ⟨l,q1,q2,q3,tm,fn',d,q4,q5⟩:=hr.loops j L hL;exact ⟨l,q1,q2,(q3.grow o).1,tm,fn',d,by rw [(q3.grow o).2];exact q4,q5⟩,hr.inj⟩
     have far: ∀(w1:World),y4b P w0.heap.size ρ cs lps css w1 ma mb→ ∀j L l',z9c lps j=some L→ρ.lp j=some l'→l'<w1.heap.size:=fun w1 hr j L l' hL e=>by obtain ⟨l2,q⟩:=hr.loops j L hL;have:=q.lp;rw [e] at this;obtain rfl:=Af this;exact q.sp.1
     cases hr:b.roundOf with
     | none=>
      have hrn:rnd=none:=by
       grind
      subst hrn;have hs1:Sp ρ (w.alloc (.deferred (some []))) w.heap.size:=Sp.fresh cV _;have dU:=cV.grow (.deferred (some []));have hsz1:(w.alloc (.deferred (some []))).heap.size =w.heap.size+1:=(by simp_all);have eB:y4b P w0.heap.size ρ cs lps css (w.alloc (.deferred (some []))) ([w.heap.size]++ma) mb:=by
       have hr1:=gr w (.deferred (some [])) ma hs.rest;have hnin:w.heap.size ∉ ma++mb:=fun hin=>by have:=(hs.rest.marks _ hin).2.1.1;omega
       refine ⟨hr1.cs,by rw [AF];exact List.nodup_cons.2 ⟨hnin,hr1.nodup⟩,fun r hx=> ?_,hr1.loops,hr1.inj⟩;simp only [BF,A6,AM] at hx;rcases hx with rfl | hx
       ·exact ⟨he.size,hs1,by show (w.heap.push _)[w.heap.size]? =_;simp⟩
       ·exact hr1.marks r hx
      refine ⟨w.heap.size+1,[w.heap.size],_,w.heap.size,run_enterLoop_outer _ _ _ _ _,?_,by have:=he.size;omega,?_,dU.grow _,(he.grow _).grow _,(fun e=>by cases e),gr _ _ _ eB,fun j L l' hL e=> ?_,?_⟩
      ·grind [World.alloc_heap_new]
      ·grind [Sp.fresh]
      ·have:=far w hs.rest j L l' hL e;omega
      ·show _≤((w.heap.push _).push _).size
       grind
     | some l0=>
      obtain ⟨j0,rfl⟩: ∃j0,rnd=some j0:=by
       grind
      obtain ⟨hma,l1,hlp1,e2⟩:=dJ;rw [hr] at e2;obtain rfl:=Af e2;subst hma;have eZ: ∃L0,z9c lps j0=some L0:=BG.1 hrk;obtain ⟨L0,hL0⟩:=eZ;obtain ⟨l2,q1,q2,q3,tm,fn',d,q4,q5⟩:=hs.rest.loops j0 L0 hL0;rw [hlp1] at q1;obtain rfl:=Af q1;refine ⟨w.heap.size,[],_,_,run_enterLoop_inner q4 _ _ _ _ _,World.alloc_heap_new _ _,he.size,Sp.fresh cV _,cV.grow _,he.grow _,(fun _=>rfl),gr _ _ _ hs.rest,fun j L l' hL e=> ?_,?_⟩
      ·have:=far w hs.rest j L l' hL e;omega
      simp_all
    obtain ⟨l,mk,w1,d,hen,eY,hlow,hsp,dU,hev1,hmk,eB,hne,hsz⟩:=lay;have hle:ρ.le (lpAdd ρ next l):=y5j dU.lp_none;have hlpj:(lpAdd ρ next l).lp next=some l:=AD rfl
    have get: ∀i L,z9c (w1z lps next (some L)) i=if i=next then some L else z9c lps i:=fun i L=>T.get_set none lps next (some L) i
    have hlps: ∀j L l',z9c lps j=some L→(lpAdd ρ next l).lp j=some l'→j≠next→ρ.lp j=some l':=fun j L l' _ e hj=>by
     have e:(if j=next then some l else ρ.lp j)=some l':=e
     grind
    have hrest2:y4b P w0.heap.size (lpAdd ρ next l) cs (w1z lps next (some ⟨.ready,none,cx.n,env,params.toList,assign,body⟩)) css w1 (mk++ma) mb:=by
     refine ⟨eB.cs.mono hle,eB.nodup,eB.marks,fun j L hL=> ?_,fun j j' L L' l' hL hL' e e'=> ?_⟩
     ·rw [get] at hL;by_cases hj:j=next
      ·subst hj;rw [AD rfl] at hL;obtain rfl:=Af hL;exact ⟨l,hlpj,hlow,hsp,a.tmps,b.fn,d,by simp_all,cZ.mono hle⟩
      ·rw [Ax hj] at hL;obtain ⟨l2,q1,q2,q3,tm,fn',d',q4,q5⟩:=eB.loops j L hL;exact ⟨l2,hle.2.2 _ _ q1,q2,q3,tm,fn',d',q4,q5.mono hle⟩
     ·rw [get] at hL hL';by_cases hj:j=next <;> by_cases hj':j'=next
      ·rw [hj,hj']
      ·grind
      ·grind
      ·rw [Ax hj] at hL;rw [Ax hj'] at hL';exact eB.inj j j' L L' l' hL hL' (hlps _ _ _ hL e hj) (hlps _ _ _ hL' e' hj')
    have hf:=(show Xb ρ (St.env ⟨env,mem,next,orc,ob⟩) cx.n a.tmps from cZ).eval f;rw [hg] at hf;generalize hw':a.eval f=u at hf;cases hf with
    | fn _ _ cvs hl hh=>
     have cY:Xo (Za (lpAdd ρ next l)) (AVal.yld next::caps) (#[Value.func (.yield l) #[] #[]]++cvs).toList :=by rw [Array.toList_append];exact .cons (.yld _ _ hlpj) (Xo.of (by simp_all) fun i h1 h2=>by simpa using (hh i h1 (by grind)).mono hle)
     have dI:=Jm hN hfn (by rw [hb];rfl) (#[Value.func (.yield l) #[] #[]]++cvs) w1;have dV:=stepR_rangeFunc (P:=P) (b:=b) (a:=a) (k:=k') (cs:=css++cs0) (g:=f) (d:=⟨.fn (.func g) cvs, #[Value.func (.yield l) #[] #[]]⟩) (w₁':=w1) hen
      (by simp_all [resolve,Deferred.ofValue,Act.eval]) (by simp only [invoke];exact dI)
     have hfr:w2b (lpAdd ρ next l) cx none (.inRangeFunc next::k0) rnd env b {a with defers:=mk.map v8u++a.defers} (.inRangeFunc l::k') (mk++ma):=
      ⟨cZ.mono hle,by grind,.cons (.inR _ _ hlpj) (htl.mono fun _ _=>x7l.mono hle),trivial,by
       cases rnd with
       | none=>exact dJ
       | some j=>
        obtain ⟨h0,l',h1,h2⟩:=dJ;exact ⟨by grind,l',hle.2.2 _ _ h1,h2⟩⟩
     obtain ⟨_,_,_,_,_,b',a',k2,hent,hsr⟩:=y3t h hfr hs.lv hrest2 (show Rel _ mem (next+1) w1 from dU.lpAdd l) cY;refine ⟨lpAdd ρ next l,b',a',k2,_,w1,_,_,.one ?_,hsr,?_,by cases css <;> rfl,hsz⟩
     ·rw [show C'.ro=none by rw [hCe],←hent];exact dV
     ·rw [hCe];exact hev1.lpAdd dU l
   ·cases h
  ·-- a round begins
   rename_i k0;split at h
   ·rename_i j;split at h
    ·rename_i pend n env params assign body hlg;obtain rfl:=Af h;refine ⟨⟨hfl.cx,hfl.cs,hfl.le⟩,Yb.refl _ _,fun ho m0 n0 ρ0 w0 ρ b a k css w ma mb hs he cs0=> ?_⟩;obtain ⟨cZ,hdf,htd,hro,dJ⟩:=hs.top;obtain ⟨rfl,lr0,hlp0,hrb⟩:=dJ;obtain ⟨k',rfl,htl⟩:=y2b.item rfl htd;obtain ⟨lr,hla⟩:=hs.rest.loops j _ hlg;have hla':=hla;obtain ⟨hlp,hlow,hsp,ltmps,lfn,ld,eY,eC⟩:=hla;rw [hlp] at hlp0;obtain rfl:=Af hlp0;have cX:=run_beginRound (P:=P) eY rfl;have dO:=hs.rest.record (w':=w.putObj lr (.loop ⟨.busy,pend,lfn,ltmps,params.toArray,assign,body,ld⟩)) hlg hla' (L':=⟨.busy,pend,n,env,params,assign,body⟩)
      ⟨hlp,hlow,hsp.turned (Xn.put _ _ _),ltmps,lfn,ld,World.putObj_heap_same hsp.1,eC⟩ (Xn.put _ _ _)
     refine ⟨ρ,b,a,k',css,_,[],mb,.one (stepR_beginRound hrb cX),⟨⟨cZ,hdf,htl,trivial,⟨rfl,lr,hlp,hrb⟩⟩,hs.lv,dO,hs.rel.turned (fun r hr=>by grind) (Xn.put _ _ _)⟩,he.turned (m:=[lr]) (fun r hr=>by grind) (Xn.put _ _ _),rfl,Nat.le_of_eq (Xn.put _ _ _).size.symm⟩
    ·cases h
   ·cases h
  ·-- a loop's end
   rename_i j k0;split at h
   ·cases h
   ·rename_i lst pend n env params assign body hnb hlg;obtain rfl:=Af h;refine ⟨⟨hfl.cx,hfl.cs,hfl.le⟩,Yb.refl _ _,fun ho m0 n0 ρ0 w0 ρ b a k css w ma mb hs he cs0=> ?_⟩;obtain ⟨cZ,hdf,htd,hro,dJ⟩:=hs.top;obtain ⟨lr,hla⟩:=hs.rest.loops j _ hlg;have hla':=hla;obtain ⟨hlp,hlow,hsp,ltmps,lfn,ld,eY,eC⟩:=hla;cases htd with
    | @cons _ y _ k' hx htl=>
     cases hx with
     | same _ hp=>cases hp
     | endR _ l hl =>
      rw [hlp] at hl;obtain rfl:=Af hl;have hb:lst≠ .busy :=fun e=>by grind
      have cX:=run_endLoop (P:=P) eY hb;have dO:=hs.rest.record (w':=w.putObj lr (.loop ⟨.exhausted,pend,lfn,ltmps,params.toArray,assign,body,ld⟩)) hlg hla' (L':=⟨.exhausted,pend,n,env,params,assign,body⟩)
       ⟨hlp,hlow,hsp.turned (Xn.put _ _ _),ltmps,lfn,ld,World.putObj_heap_same hsp.1,eC⟩ (Xn.put _ _ _)
      refine ⟨ρ,b,a,_,css,_,ma,mb,.one (stepR_endRangeFunc cX),⟨⟨cZ,hdf,?_,trivial,dJ⟩,hs.lv,dO,hs.rel.turned (fun r hr=>by grind) (Xn.put _ _ _)⟩,he.turned (m:=[lr]) (fun r hr=>by grind) (Xn.put _ _ _),rfl,Nat.le_of_eq (Xn.put _ _ _).size.symm⟩;cases pend with
      | none=>exact htl
      | some c=>exact .cons (.same _ rfl) htl
   ·cases h
  ·cases h
theorem w3g {S:Specs} {Rc:Runner} {n:Nat} {C:Cfg}:runS P S Rc (n+1) C=(bif z2g C then some C else match x7u P S Rc C with
  | some C'=>runS P S Rc n C'
  | none=>none):=rfl
theorem y0w {C:Cfg} (h:z2g C=true):C.ro=none∧C.rnd=none∧C.cs=[]∧(C.todo=[]∨ ∃t,C.todo=.code .ret ::t):=by
 unfold z2g at h
 grind
theorem z7e.trans {fl:Nat} {A B C:Cfg} (h:z7e P fl A B) (k:z7e P fl B C):z7e P fl A C:=by intro m0 n0 ρ0 w0 ρ b a t css w ma mb hs he cs0;obtain ⟨ρ1,b1,a1,t1,css1,w1,ma1,mb1,s1,r1,e1,q1,z1⟩:=h m0 n0 ρ0 w0 ρ b a t css w ma mb hs he cs0;obtain ⟨ρ2,b2,a2,t2,css2,w2,ma2,mb2,s2,r2,e2,q2,z2⟩:=k m0 n0 ρ0 w0 ρ1 b1 a1 t1 css1 w1 ma1 mb1 r1 e1 cs0;exact ⟨ρ2,b2,a2,t2,css2,w2,ma2,mb2,s1.trans s2,r2,e2,q2.trans q1,AG z1 z2⟩
theorem y4r {S:Specs} {Rc:Runner} (hN:z2c P) (hmx:P.follows .mixedOrders =true) (hS:Zw P S) (hCI:x7k Rc) (hC:ROk P Rc) {fl:Nat}: ∀(n:Nat) (C C':Cfg),Fl fl C→runS P S Rc n C=some C'→z2g C'=true∧Yb fl C.st C'.st∧(C'.st.ob=true→z7e P fl C C')
 | 0,C,st',_,h=>by cases h
 | n+1,C,C',hfl,h=>by
  rw [w3g] at h;cases hf:z2g C with
  | true=>rw [hf] at h;obtain rfl:=Af h;exact ⟨hf,Yb.refl _ _,fun _=>z7e.refl fl C⟩
  | false=>
   rw [hf,Ad] at h;split at h
   ·rename_i C1 h1;have s1:=y7c hN hmx hS hCI hC hfl h1;obtain ⟨f1,f4,f5⟩:=y4r hN hmx hS hCI hC n C1 C' s1.fls h;exact ⟨f1,s1.inv.trans f4,fun ho=>(s1.leads (f4.ob ho)).trans (f5 ho)⟩
   ·cases h
theorem y2b.refl_plain {ρ:Rho}: ∀(k:List Item),k.all Jg=true→y2b ρ k k
 | [],_=>.nil
 | x::k,h=>by simp only [List.all_cons,Ac] at h;exact .cons (.same x h.1) (y2b.refl_plain k h.2)
theorem y2z (base:Nat) (ρ:Rho) (w:World):y4b P base ρ [] .leaf [] w [] []:=
 ⟨.nil,List.nodup_nil,(fun r hr=>by cases hr),(fun j L hL=>by cases hL),(fun j j' L L' l hL=>by cases hL)⟩
theorem w3h (hN:z2c P) (hmx:P.follows .mixedOrders =true) {S:Specs} (hS:Zw P S) (n:Nat): ∀d,x7k (v6u P S n d)∧ROk P (v6u P S n d)
 | 0=>⟨(fun cx todo st st' h=>by cases h),(fun cx todo st st' _ h=>by cases h)⟩
 | d+1=>by
  obtain ⟨hCI,hC⟩:=w3h hN hmx hS n d;have key: ∀{cx todo st st'},v6u P S n (d+1) cx todo st=some st'→todo.all Jg=true∧Fl cx.floor ⟨cx,none,todo,none,[],st,[],.leaf⟩∧ ∃C',runS P S (v6u P S n d) n ⟨cx,none,todo,none,[],st,[],.leaf⟩=some C'∧C'.cx.n=cx.n∧C'.st=st':=by
   intro cx todo st st' h;have h:(bif todo.all Jg&&Nat.ble cx.floor st.next then match runS P S (v6u P S n d) n ⟨cx,none,todo,none,[],st,[],.leaf⟩ with
    | some C=>bif Nat.beq C.cx.n cx.n then some C.st else none
    | none=>none
    else none)=some st':=h
   obtain ⟨hp,h⟩:=Zq h;simp only [Ac] at hp;refine ⟨hp.1,⟨rfl,fun af haf=>(by cases haf),Ai hp.2⟩,?_⟩;split at h
   ·rename_i C' hr;obtain ⟨hn,h⟩:=Zq h;simp_all
   ·cases h
  refine ⟨fun cx todo st st' h=> ?_,fun cx todo st st' hcx h ho ρ a w b cs hd cZ cV=> ?_⟩
  ·obtain ⟨_,hfl,C',hr,_,rfl⟩:=key h;exact (y4r hN hmx hS hCI hC n _ C' hfl hr).2.1
  ·obtain ⟨hpl,hfl,C',hr,hn,rfl⟩:=key h;obtain ⟨f1,f2,f3⟩:=y4r hN hmx hS hCI hC n _ C' hfl hr;obtain ⟨e1,e2,e3,e4⟩:=y0w f1;obtain ⟨ρ',b',a',k',css',w',ma',mb',s1,r1,v1,q1,_⟩:=f3 ho st.mem st.next ρ w ρ {b with roundOf:=none} a todo [] w [] []
    ⟨⟨cZ,hd,y2b.refl_plain todo hpl,trivial,rfl⟩,fun h=>absurd rfl h,y2z _ _ _,cV⟩ (Ev.refl _ _ _ _ _ cV.dom) cs
   have hcs:=r1.rest.cs;rw [e3] at hcs;cases hcs;obtain ⟨w2,s2,henv',dP,eD,_,_⟩:=y1b r1 e1 e2 e4 rfl v1 cs;refine ⟨ρ',{a' with defers:=[]},k',w2,?_,rfl,by grind,dP,eD⟩;have hb:b.at a todo=Frame.atR {b with roundOf:=none} a (Xh none todo):=rfl;have hb':Frame.atR b' {a' with defers:=[]} k'=b.at {a' with defers:=[]} k':=by
    have q:(b'.fn,b'.kind,b'.roundOf)=(b.fn,b.kind,none):=q1
    grind [Frame.atR,Frame.at]
   rw [hb,←hb'];exact s1.trans s2
end
structure z6h where
 keep:List Nat
 frz:List Nat
 slots:List (Option (List Nat))
 lslots:List (Option (List Nat)):=[]
def z7x (b:Nat):List Nat→Nat→Option Nat
 | [],_=>none
 | x::l,i=>bif Nat.beq x b then some i else z7x b l (i+1)
def hasN (b:Nat):List Nat→Bool
 | []=>false
 | x::l=>bif Nat.beq x b then true else hasN b l
def v1z (cells:List AVal) (off sz:Nat):Nat→List AVal:=fun k=>(cells.drop (off+k*sz)).take sz
def frzV (P:Program) (blk:ABlk):AVal→AVal
 | .ptr _ o=>.dptr (blk.cells.drop o)
 | .sl _ off len _=>match P.info? blk.ty with
  | some i=>bif Nat.ble (off+len*i.size) blk.cells.length then .dat len (v1z blk.cells off i.size) else .undef
  | none=>.undef
 | .sla _ sz off len _=>match blk.arr with
  | some A=>bif Nat.beq A.sz sz&&Nat.ble (off+len) A.n then .dat len (fun k=>A.get (off+k)) else .undef
  | none=>.undef
 | _=>.undef
def renB (P:Program) (mem:Mem) (N:z6h) (b:Nat) (v:AVal) (f:Nat→AVal):AVal:=
 match z7x b N.keep 0 with
 | some b'=>f b'
 | none=>bif hasN b N.frz then match Zt mem b with
   | some blk=>frzV P blk v
   | none=>.undef
  else .undef
def ren (P:Program) (mem:Mem) (N:z6h):Nat→AVal→AVal
 | 0,_=>.undef
 | d+1,v=>match v with
  | .ptr b o=>renB P mem N b (.ptr b o) fun b'=>.ptr b' o
  | .sl b off len cap=>renB P mem N b (.sl b off len cap) fun b'=>.sl b' off len cap
  | .sla b sz off len cap=>renB P mem N b (.sla b sz off len cap) fun b'=>.sla b' sz off len cap
  | .epa b sz i fo=>renB P mem N b (.epa b sz i fo) fun b'=>.epa b' sz i fo
  | .yld j=>match z7x j N.keep 0 with
   | some j'=>.yld j'
   | none=>.undef
  | .slv b sz off len=>match z7x b N.keep 0 with
   | some b'=>.slv b' sz off len
   | none=>.undef
  | .mapr b=>match z7x b N.keep 0 with
   | some b'=>.mapr b'
   | none=>.undef
  | .agg cs=>.agg (cs.map (ren P mem N d))
  | .tup cs=>.tup (cs.map (ren P mem N d))
  | .fn f cs=>.fn f (cs.map (ren P mem N d))
  | .fnb f cs=>.fnb f (cs.map (ren P mem N d))
  | .ifc t v=>.ifc t (ren P mem N d v)
  | v=>v
def T.map (f:AVal→AVal) (t:T AVal):T AVal:=
 T.rec (motive:=fun _=>T AVal) .leaf (fun v _ _ l r=>.node (f v) l r) t
def y0n (f:AVal→AVal) (env:T AVal):List Nat→T AVal
 | []=>.leaf
 | t::l=>T.set .undef (y0n f env l) t (f (T.get .undef env t))
def v4f (f:AVal→AVal) (env:T AVal):Option (List Nat)→T AVal
 | none=>T.map f env
 | some l=>y0n f env l
def z4o (f:AVal→AVal):Rws→Rws
 | .flat g=>.flat g
 | .one r cs b=>.one r (cs.map f) (z4o f b)
 | .alt c a b=>.alt c (z4o f a) (z4o f b)
def y3a (P:Program) (mem:Mem) (N:z6h):ABlk→ABlk
 | ⟨cells,ty,none⟩=>⟨cells.map (ren P mem N 6),ty,none⟩
 | ⟨_,ty,some A⟩=>⟨rows A.n (z4o (ren P mem N 6) A.rw).get,ty,some ⟨A.sz,A.n,z4o (ren P mem N 6) A.rw⟩⟩
def y3o :Rws→Bool
 | .flat g=>pd (∀i,(g i).all (pf 6)=true)
 | .one _ _ b=>y3o b
 | .alt _ a b=>y3o a&&y3o b
def v1g (blk:ABlk):Bool:=match blk.arr with
 | none=>true
 | some A=>y3o A.rw
def z5h (P:Program) (mem:Mem) (N:z6h):List Nat→Nat→Mem×Bool
 | [],_=>(.leaf,true)
 | b::l,i=>match z5h P mem N l (i+1) with
  | (m,o)=>match Zt mem b with
   | none=>(m,o)
   | some blk=>(Yr m i (some (y3a P mem N blk)),v1g blk&&o)
def z5m (mem:Mem):List Nat→Bool
 | []=>true
 | b::l=>match Zt mem b with
  | none=>z5m mem l
  | some blk=>(match blk.arr with
   | none=>blk.cells.all (pf 6)
   | some A=>pd (∀i,(A.get i).all (pf 6)=true))&&z5m mem l
def x3g (f:AVal→AVal) (lps:Loops):List Nat→Nat→List (Option (List Nat))→Loops
 | [],_,_=>.leaf
 | b::l,i,sl=>match z9c lps b with
  | none=>x3g f lps l (i+1) sl.tail
  | some ⟨st,pend,n,env,params,assign,body⟩=>w1z (x3g f lps l (i+1) sl.tail) i (some ⟨st,pend,n,v4f f env (sl.headD none),params,assign,body⟩)
def z6l (keep:List Nat):Item→Option Item
 | .inRangeFunc j=>(z7x j keep 0).map .inRangeFunc
 | .endRangeFunc j=>(z7x j keep 0).map .endRangeFunc
 | x=>bif Jg x then some x else none
def z1p (keep:List Nat):List Item→Option (List Item)
 | []=>some []
 | x::l=>match z6l keep x,z1p keep l with
  | some y,some m=>some (y::m)
  | _,_=>none
def y7p (keep:List Nat):Option Nat→Option (Option Nat)
 | none=>some none
 | some j=>(z7x j keep 0).map some
def x9i (f:AVal→AVal) (keep:List Nat):List AFr→List (Option (List Nat))→Option (List AFr)
 | [],_=>some []
 | ⟨cx,ro,todo,rnd,rs,env⟩::cs,sl=>match z1p keep todo,y7p keep rnd,x9i f keep cs sl.tail with
  | some todo',some rnd',some cs'=>some (⟨cx,ro,todo',rnd',rs,v4f f env (sl.headD none)⟩::cs')
  | _,_,_=>none
def disj :List Nat→List Nat→Bool
 | [],_=>true
 | b::l,frz=> !hasN b frz&&(!hasN b l&&disj l frz)
def w9u (P:Program) (N:z6h):Cfg→Option Cfg
 | ⟨cx,ro,todo,rnd,rs,⟨env,mem,next,orc,ob⟩,cs,lps⟩=>
  match z1p N.keep todo,y7p N.keep rnd,x9i (ren P mem N 6) N.keep cs N.slots.tail with
  | some todo',some rnd',some cs'=>
   bif disj N.keep N.frz then
    match z5h P mem N N.keep 0 with
    | (mem',o)=>some ⟨cx,ro,todo',rnd',rs,⟨v4f (ren P mem N 6) env (N.slots.headD none),mem',N.keep.length,[],o&&(z5m mem N.frz&&ob)⟩,cs',x3g (ren P mem N 6) lps N.keep 0 N.lslots⟩
   else none
  | _,_,_=>none
def atP :Code→List Nat→List Item→Code×List Item
 | c,[],k=>(c,k)
 | .seq a b,0::p,k=>atP a p (.code b::k)
 | .seq _ b,_::p,k=>atP b p k
 | .block id c,_::p,k=>atP c p (.inBlock id::k)
 | .loop c,_::p,k=>atP c p (.inLoop c::k)
 | .scope c,_::p,k=>atP c p (.inScope c::k)
 | .cond _ a _,0::p,k=>atP a p k
 | .cond _ _ b,_::p,k=>atP b p k
 | .rangeFunc _ _ a b,0::p,_=>atP a p [.beginRound,.code b]
 | .rangeFunc _ _ _ b,_::p,_=>atP b p []
 | c,_::_,k=>(c,k)
def Zm (P:Program) (f:FuncId) (p:List Nat) (j:Nat):List Item:=match atP (v5u P f) p [] with
 | (c,k)=>(.code c::k).drop j
def Uj (P:Program) (f:FuncId) (p:List Nat):Code:=(atP (v5u P f) p []).1
def z1q (P:Program) (f:FuncId) (p:List Nat) (i:Nat):Option RegOps:=match Uj P f p with
 | .region _ ops _=>some (ops,i,ops.toList.drop i)
 | _=>none
def v0s (P:Program) (S:Specs) (Rc:Runner) (n:Nat):Cfg→Option Cfg:=
 Nat.rec (motive:=fun _=>Cfg→Option Cfg) (fun C=>some C) (fun _ R C=>match x7u P S Rc C with
  | some C'=>R C'
  | none=>none) n
section
variable {P:Program}
theorem Wn {p:Prop} (h:pd p=true):p:= @As p (Classical.propDecidable p) h
theorem Yu {p:Prop} (h:p):pd p=true:= @Ae p (Classical.propDecidable p) h
theorem y3n {b:Nat}: ∀{l:List Nat} {i j:Nat},z7x b l i=some j→i≤j∧l[j - i]? =some b
 | [],i,j,h=>by cases h
 | x::l,i,j,h=>by
  unfold z7x at h;rcases Wk h with ⟨hx,h⟩ | ⟨_,h⟩
  ·simp_all
  ·obtain ⟨h1,h2⟩:=y3n h
   grind
theorem z9g {b:Nat}: ∀{l:List Nat},hasN b l=true↔b∈l
 | []=>by simp [hasN]
 | x::l=>by
  unfold hasN;cases hx:Nat.beq x b with
  | true=>simp [Ah hx]
  | false=>
   have:x≠b:=fun e=>by rw [e,Bv] at hx;cases hx
   rw [Ad,z9g,AM];exact ⟨.inr,fun h=>h.resolve_left fun e=>this e.symm⟩
theorem y1d : ∀{l frz:List Nat},disj l frz=true→l.Nodup∧ ∀b∈l,b ∉ frz
 | [],_,_=>⟨List.nodup_nil,fun b hb=>by cases hb⟩
 | x::l,frz,h=>by
  unfold disj at h;simp only [Ac,A8] at h;obtain ⟨h1,h2,h3⟩:=h;obtain ⟨i1,i2⟩:=y1d h3;have n1:x ∉ frz:=fun hm=>by rw [z9g.2 hm] at h1;cases h1
  have n2:x ∉ l:=fun hm=>by rw [z9g.2 hm] at h2;cases h2
  exact ⟨List.nodup_cons.2 ⟨n2,i1⟩,fun b hb=>by
   rcases AM.1 hb with rfl | hb
   ·exact n1
   ·exact i2 b hb⟩
def Fz (ρ:Rho) (mem:Mem) (N:z6h) (k:Nat):Prop:= ∃b l,b∈N.frz∧ρ b=some l∧(Zt mem b).isSome =true∧l.blk=k
def z9u (ρ:Rho) (mem:Mem) (N:z6h) (w:World):Rho:=
 ⟨fun b'=>(N.keep[b']?).bind fun b=>ρ b,fun k=> @ite _ (Fz ρ mem N k) (Classical.propDecidable _) (w.heap[k]?) (ρ.fz k),fun j'=>(N.keep[j']?).bind fun j=>ρ.lp j⟩
theorem Kr {ρ:Rho} {mem:Mem} {next:Nat} {w:World} (h:Rel ρ mem next w) (N:z6h) {k:Nat} {o:Obj} (e:ρ.fz k=some o):(z9u ρ mem N w).fz k=some o:=by
 show @ite _ (Fz ρ mem N k) (Classical.propDecidable _) (w.heap[k]?) (ρ.fz k)=some o;by_cases hf:Fz ρ mem N k
 ·obtain ⟨b,l,_,hb,hm,rfl⟩:=hf;have:=h.sep b l hb hm
  grind
 grind
theorem x1p {ρ:Rho} {mem:Mem} {w:World} {N:z6h} {b:Nat} {l:Loc} (hb:b∈N.frz) (hl:ρ b=some l) (hm:(Zt mem b).isSome =true):(z9u ρ mem N w).fz l.blk=w.heap[l.blk]? :=
 AD ⟨b,l,hb,hl,hm,rfl⟩
theorem z0y {ρ:Rho} {mem:Mem} {next:Nat} {w:World} (h:Rel ρ mem next w) (N:z6h):ρ.bare.le (z9u ρ mem N w).bare :=⟨fun _ _ e=>(by cases e),fun _ _ e=>Kr h N e,fun _ _ e=>(by cases e)⟩
theorem Vz {ρ:Rho} {mem:Mem} {w:World} {N:z6h} {b b':Nat} (h:z7x b N.keep 0=some b'):(z9u ρ mem N w) b'=ρ b∧(z9u ρ mem N w).lp b'=ρ.lp b:=by
 obtain ⟨_,h2⟩:=y3n h;rw [Nat.sub_zero] at h2;constructor
 ·show (N.keep[b']?).bind _=_;rw [h2];rfl
 ·show (N.keep[b']?).bind _=_;rw [h2];rfl
theorem z1w {mem:Mem}: ∀{frz:List Nat},z5m mem frz=true→ ∀b∈frz,∀blk,Zt mem b=some blk→(match blk.arr with | none=>blk.cells.all (pf 6)=true | some A=> ∀i,(A.get i).all (pf 6)=true)
 | [],_,b,hb,_,_=>by cases hb
 | x::l,h,b,hb,blk,hm=>by
  unfold z5m at h;rcases AM.1 hb with rfl | hb
  ·rw [hm] at h;simp only [Ac] at h;cases hA:blk.arr with
   | none=>have:=h.1;rw [hA] at this;exact this
   | some A=>have:=h.1;rw [hA] at this;exact Wn this
  ·cases hx:Zt mem x with
   | none=>rw [hx] at h;exact z1w h b hb blk hm
   | some blk'=>rw [hx] at h;simp only [Ac] at h;exact z1w h.2 b hb blk hm
theorem y0u {mem:Mem} {next:Nat} {w:World} {ρ:Rho} (h:Rel ρ mem next w) {N:z6h} (ho:z5m mem N.frz=true) {b:Nat} (hb:b∈N.frz) {blk:ABlk} (hm:Zt mem b=some blk) {l:Loc} (hl:ρ b=some l):
  ∃val:Nat→Value,∀(i:Nat) (hi:i<blk.cells.length),Za (z9u ρ mem N w).bare blk.cells[i] (val i)∧y6o (z9u ρ mem N w).fz l.blk (l.base+i) (val i):=by
 have hno:blk.isObj=false:=by
  cases hx:blk.isObj with
  | false=>rfl
  | true=>
   have hq:=z1w ho b hb blk hm;obtain ⟨cells,ty,arr⟩:=blk;unfold ABlk.isObj at hx;split at hx
   ·rename_i e;simp only [ABlk.mk.injEq] at e;obtain ⟨rfl,_,rfl⟩:=e;simp [pf] at hq
   ·cases hx
 obtain ⟨_,hn,ht,har,cs,el,h1,h2,h3⟩:=(h.blk b l blk hl hm).at hno;refine ⟨fun i=>(cs[l.base+i]?).getD undef,fun i hi=> ?_⟩;obtain ⟨v,e1,e2⟩:=h3 i hi;have hpf:pf 6 blk.cells[i]=true:=by
  have:=z1w ho b hb blk hm;cases hA:blk.arr with
  | none=>grind
  | some A=>
   rw [hA] at this;obtain ⟨q1,_,_⟩:=har A hA;have hmem:blk.cells[i]∈rows A.n A.get:=by grind
   grind [rows]
 dsimp only;rw [e1];refine ⟨(Vu 6 _ _ hpf e2).mono (z0y h N),cs,el,(0,0),?_,e1⟩
 grind [x1p]
theorem w0q {mem:Mem} {next:Nat} {w:World} {ρ:Rho} (h:Rel ρ mem next w) {N:z6h} (ho:z5m mem N.frz=true) {b:Nat} (hb:b∈N.frz) {blk:ABlk} (hm:Zt mem b=some blk) {v:AVal} {u:Value} (hv:Za ρ v u)
  (hvb:(∃o,v=.ptr b o)∨(∃off len cap,v=.sl b off len cap)∨(∃sz off len cap,v=.sla b sz off len cap)∨ ∃sz i fo,v=.epa b sz i fo):Za (z9u ρ mem N w) (frzV P blk v) u:=by
 rcases hvb with ⟨o,rfl⟩ | ⟨off,len,cap,rfl⟩ | ⟨sz,off,len,cap,rfl⟩ | ⟨sz,i,fo,rfl⟩
 ·cases hv with
  | ptr _ _ l hl=>
   obtain ⟨val,dK⟩:=y0u h ho hb hm hl;refine .dptr _ _ _ (fun j=>val (o+j)) (fun j hj=> ?_) (fun j hj=> ?_);all_goals grind
 ·simp only [frzV];split
  ·rename_i i hi;cases hc:Nat.ble (off+len*i.size) blk.cells.length with
   | false=>exact .undef _
   | true=>
    rw [Ag];have hle:=Ai hc;cases hv with
    | sl _ _ _ _ l c hl _ cW=>
     obtain ⟨val,dK⟩:=y0u h ho hb hm hl;have hin: ∀k,k<len→k*i.size+i.size≤len*i.size:=fun k hk=>by
      have:=Az i.size (show k+1≤len from hk)
      grind
     refine .dat len _ l.blk (l.base+off) i.size c (fun k j=>val (off+(k*i.size+j))) cW (fun k hk=> ?_) (fun k j hk hj=> ?_) (fun k j hk hj=> ?_);all_goals grind [v1z]
  ·exact .undef _
 ·simp only [frzV];split
  ·rename_i A hA;cases hc:(Nat.beq A.sz sz&&Nat.ble (off+len) A.n) with
   | false=>exact .undef _
   | true=>
    rw [Ag];simp only [Ac] at hc;obtain rfl:=Ah hc.1;have hle:=Ai hc.2;cases hv with
    | slan=>exact .datn _
    | sla _ _ _ _ _ l c hl _ cW=>
     obtain ⟨val,dK⟩:=y0u h ho hb hm hl;obtain ⟨q1,q2,q3⟩:=(h.blk b l blk hl hm).arr A hA;have eL:=Zh A.n q3;have eU: ∀k j,k<len→j<A.sz→ ∃hi:(off+k)*A.sz+j<blk.cells.length,blk.cells[(off+k)*A.sz+j]? =(A.get (off+k))[j]? :=fun k j hk hj=>by
      grind [Xe]
     refine .dat len _ l.blk (l.base+off*A.sz) A.sz c (fun k j=>val ((off+k)*A.sz+j)) cW (fun k hk=>q3 _ (by omega)) (fun k j hk hj=> ?_) (fun k j hk hj=> ?_);all_goals grind
  ·exact .undef _
 ·exact .undef _
theorem Qz {mem:Mem} {next:Nat} {w:World} {ρ:Rho} (h:Rel ρ mem next w) {N:z6h} (ho:z5m mem N.frz=true) {b:Nat} {v:AVal} {u:Value} {f:Nat→AVal} (hv:Za ρ v u)
  (hvb:(∃o,v=.ptr b o)∨(∃off len cap,v=.sl b off len cap)∨(∃sz off len cap,v=.sla b sz off len cap)∨ ∃sz i fo,v=.epa b sz i fo)
  (hf: ∀b',z7x b N.keep 0=some b'→Za (z9u ρ mem N w) (f b') u):Za (z9u ρ mem N w) (renB P mem N b v f) u:=by
 unfold renB;split
 ·grind
 ·cases hc:hasN b N.frz with
  | false=>exact .undef _
  | true=>
   rw [Ag];split
   ·grind [w0q,z9g]
   ·exact .undef _
theorem Kt {mem:Mem} {next:Nat} {w:World} {ρ:Rho} (h:Rel ρ mem next w) {N:z6h} (ho:z5m mem N.frz=true): ∀(d:Nat) (v:AVal) (u:Value),Za ρ v u→Za (z9u ρ mem N w) (ren P mem N d v) u
 | 0,_,_,_=>.undef _
 | d+1,v,u,hv=>by
  have ih:=fun v u=>Kt h ho (N:=N) d v u;have list: ∀{cs:List AVal} {vs:Array Value},cs.length=vs.size→(∀(i:Nat) (h1:i<cs.length) (h2:i<vs.size),Za ρ cs[i] vs[i])→
    (cs.map (ren P mem N d)).length =vs.size∧ ∀(i:Nat) (h1:i<(cs.map (ren P mem N d)).length) (h2:i<vs.size),Za (z9u ρ mem N w) (cs.map (ren P mem N d))[i] vs[i]:=fun hl hh=>
   ⟨by simpa using hl,fun i h1 h2=>by simpa using ih _ _ (hh i (by simpa using h1) h2)⟩
  unfold ren;cases hv with
  | undef=>exact .undef _
  | bool b=>exact .bool b
  | int k n=>exact .int k n
  | str s=>exact .str s
  | agg cs vs hl hh=>exact .agg _ _ (list hl hh).1 (list hl hh).2
  | tup cs vs hl hh=>exact .tup _ _ (list hl hh).1 (list hl hh).2
  | fn f cs vs hl hh=>exact .fn f _ _ (list hl hh).1 (list hl hh).2
  | fnb f cs vs hl hh=>exact .fnb f _ _ (list hl hh).1 (list hl hh).2
  | ptr b o l hl=>exact Qz h ho (.ptr b o l hl) (.inl ⟨o,rfl⟩) fun b' hb'=>.ptr b' o l (by rw [(Vz hb').1];exact hl)
  | nilp=>exact .nilp
  | sl b off len cap l c hl hc cW=>exact Qz h ho (.sl b off len cap l c hl hc cW) (.inr (.inl ⟨off,len,cap,rfl⟩)) fun b' hb'=>.sl b' off len cap l c (by rw [(Vz hb').1];exact hl) hc cW
  | nils=>exact .nils
  | sla b sz off len cap l c hl hc cW=>exact Qz h ho (.sla b sz off len cap l c hl hc cW) (.inr (.inr (.inl ⟨sz,off,len,cap,rfl⟩))) fun b' hb'=>.sla b' sz off len cap l c (by rw [(Vz hb').1];exact hl) hc cW
  | slan b sz off cap=>exact Qz h ho (.slan b sz off cap) (.inr (.inr (.inl ⟨sz,off,0,cap,rfl⟩))) fun b' hb'=>.slan b' sz off cap
  | epa b sz i fo l hl=>exact Qz h ho (.epa b sz i fo l hl) (.inr (.inr (.inr ⟨sz,i,fo,rfl⟩))) fun b' hb'=>.epa b' sz i fo l (by rw [(Vz hb').1];exact hl)
  | nilf=>exact .nilf
  | yld j l hl=>
   simp only;split
   ·rename_i j' hj';exact .yld j' l (by rw [(Vz hj').2];exact hl)
   ·exact .undef _
  | slv b sz off len l c hl cW=>
   simp only;split
   ·rename_i j' hj';exact .slv j' sz off len l c (by rw [(Vz hj').1];exact hl) cW
   ·exact .undef _
  | slve b sz off blk base c=>
   simp only;split
   ·exact .slve _ sz off blk base c
   ·exact .undef _
  | slvn b sz off=>
   simp only;split
   ·exact .slvn _ sz off
   ·exact .undef _
  | ifc t a v hv=>exact .ifc t _ _ (ih _ _ hv)
  | nili=>exact .nili
  | mapr b l hl=>
   simp only;split
   ·rename_i j' hj';exact .mapr j' l (by rw [(Vz hj').1];exact hl)
   ·exact .undef _
  | ifbt=>exact .ifbt
  | ifbf t v=>exact .ifbf t v
  | dat len get blk base sz cap val dD hsz hv hh=>refine .dat len get blk base sz cap val dD hsz (fun i j hi hj=>(hv i j hi hj).mono (z0y h N)) (fun i j hi hj=> ?_);obtain ⟨cs,el,fz,e1,e2⟩:=hh i j hi hj;exact ⟨cs,el,fz,Kr h N e1,e2⟩
  | datn get=>exact .datn get
  | datz get a c=>exact .datz get a c
  | nnl len get a c hd=>exact .nnl len get a c ((Vu 1 _ _ rfl hd).mono (Rho.le_trans (z0y h N) (y1k _)))
  | dptr cs blk base val hv hh=>refine .dptr cs blk base val (fun j hj=>(hv j hj).mono (z0y h N)) (fun j hj=> ?_);obtain ⟨cs',el,fz,e1,e2⟩:=hh j hj;exact ⟨cs',el,fz,Kr h N e1,e2⟩
theorem T.get_map {f:AVal→AVal} (hf:f .undef =.undef): ∀(t:T AVal) (i:Nat),T.get .undef (T.map f t) i=f (T.get .undef t i)
 | .leaf,i=>hf.symm
 | .node v l r,0=>rfl
 | .node v l r,i+1=>by
  show T.get .undef (.node (f v) (T.map f l) (T.map f r)) (i+1)=_;rw [T.get_succ,T.get_succ];split
  ·exact T.get_map hf l _
  ·exact T.get_map hf r _
theorem z6o {f:AVal→AVal} (env:T AVal): ∀(L:List Nat) (t:Nat),T.get .undef (y0n f env L) t=if t∈L then f (T.get .undef env t) else .undef
 | [],t=>by simp [y0n]
 | x::L,t=>by
  unfold y0n;rw [T.get_set,z6o env L t];by_cases h:t=x
  ·subst h;simp
  ·simp [h]
theorem x6a {mem:Mem} {next:Nat} {w:World} {ρ:Rho} (h:Rel ρ mem next w) {N:z6h} (ho:z5m mem N.frz=true) {env:T AVal} {n:Nat} {tmps:Array Value} (he:Xb ρ env n tmps): ∀(L:Option (List Nat)),Xb (z9u ρ mem N w) (v4f (ren P mem N 6) env L) n tmps
 | none=>by
  refine ⟨he.size,fun i=> ?_,fun i hi=> ?_⟩
  ·show Za _ (T.get .undef (T.map (ren P mem N 6) env) i) _;rw [T.get_map rfl];exact Kt h ho 6 _ _ (he.get i)
  ·show T.get .undef (T.map (ren P mem N 6) env) i=_;rw [T.get_map rfl,he.out i hi];rfl
 | some L=>by
  refine ⟨he.size,fun i=> ?_,fun i hi=> ?_⟩
  ·show Za _ (T.get .undef (y0n (ren P mem N 6) env L) i) _;rw [z6o];split
   ·exact Kt h ho 6 _ _ (he.get i)
   ·exact .undef _
  ·show T.get .undef (y0n (ren P mem N 6) env L) i=_;rw [z6o,he.out i hi];split <;> rfl
theorem y8l {mem:Mem} {N:z6h}: ∀(l:List Nat) (i j:Nat),Zt (z5h P mem N l i).1 j=if i≤j then (l[j - i]?).bind fun b=>(Zt mem b).map (y3a P mem N) else none
 | [],i,j=>by simp [z5h,Zt]
 | b::l,i,j=>by
  unfold z5h;have ih:=y8l (mem:=mem) (N:=N) l (i+1);have tail:i<j→(b::l)[j - i]? =l[j - (i+1)]? :=fun h=>by rw [show j - i=(j - (i+1))+1 by omega];rfl
  cases hm:Zt mem b with
  | none=>
   show Zt (z5h P mem N l (i+1)).1 j=_;rw [ih];rcases Bd i j with h | h | h
   ·rw [AD (by omega),AD (by omega),tail h]
   ·subst h;rw [Ax (by omega),AD (by omega)];simp [hm]
   ·rw [Ax (by omega),Ax (by omega)]
  | some blk=>
   show Zt (Yr (z5h P mem N l (i+1)).1 i (some (y3a P mem N blk))) j=_;rw [Xi,ih];rcases Bd i j with h | h | h
   ·rw [Ax (by omega),AD (by omega),AD (by omega),tail h]
   ·subst h;rw [AD rfl,AD (by omega)];simp [hm]
   ·rw [Ax (by omega),Ax (by omega),Ax (by omega)]
theorem z6n {mem:Mem} {N:z6h}: ∀(l:List Nat) (i:Nat),(z5h P mem N l i).2=true→ ∀b∈l,∀blk,Zt mem b=some blk→v1g blk=true
 | [],i,_,b,hb,_,_=>by cases hb
 | x::l,i,h,b,hb,blk,hm=>by
  unfold z5h at h;cases hx:Zt mem x with
  | none=>
   rw [hx] at h;rcases AM.1 hb with rfl | hb
   ·rw [hx] at hm;cases hm
   ·exact z6n l (i+1) h b hb blk hm
  | some blk'=>
   rw [hx] at h;have h:(v1g blk'&&(z5h P mem N l (i+1)).2)=true:=h;simp only [Ac] at h;rcases AM.1 hb with rfl | hb
   ·rw [hx] at hm;obtain rfl:=Af hm;exact h.1
   ·exact z6n l (i+1) h.2 b hb blk hm
theorem z1f {f:AVal→AVal} {lps:Loops}: ∀(l:List Nat) (i:Nat) (sl:List (Option (List Nat))) (j:Nat) (L:ALoop),z9c (x3g f lps l i sl) j=some L→i≤j∧ ∃b L0 x,l[j - i]? =some b∧z9c lps b=some L0∧L=⟨L0.st,L0.pend,L0.n,v4f f L0.env x,L0.params,L0.assign,L0.body⟩
 | [],i,sl,j,L,h=>by cases h
 | b::l,i,sl,j,L,h=>by
  unfold x3g at h;split at h
  ·obtain ⟨h1,b',L0,x,h2,h3,h4⟩:=z1f l (i+1) _ j L h
   grind
  ·rename_i st pend n env params assign body hb;rw [show z9c (w1z (x3g f lps l (i+1) sl.tail) i (some ⟨st,pend,n,v4f f env (sl.headD none),params,assign,body⟩)) j=if j=i then some ⟨st,pend,n,v4f f env (sl.headD none),params,assign,body⟩ else z9c (x3g f lps l (i+1) sl.tail) j from T.get_set none _ i _ j] at h;by_cases hj:j=i
   ·subst hj;rw [AD rfl] at h;obtain rfl:=Af h;exact ⟨Ao _,b,_,_,by simp,hb,rfl⟩
   ·rw [Ax hj] at h;obtain ⟨h1,b',L0,x,h2,h3,h4⟩:=z1f l (i+1) _ j L h
    grind
theorem x1w {mem:Mem} {w:World} {ρ:Rho} {N:z6h} {x x' y:Item} (h:z6l N.keep x=some x') (hx:x7l ρ x y):x7l (z9u ρ mem N w) x' y:=by
 cases hx with
 | inR j l e=>simp only [z6l,Aj] at h;obtain ⟨j',hj,rfl⟩:=h;exact .inR j' l (by rw [(Vz hj).2];exact e)
 | endR j l e=>simp only [z6l,Aj] at h;obtain ⟨j',hj,rfl⟩:=h;exact .endR j' l (by rw [(Vz hj).2];exact e)
 | same x hp=>
  have:z6l N.keep x=some x:=by
   unfold z6l;split
   ·cases hp
   ·cases hp
   grind
  rw [this] at h;obtain rfl:=Af h;exact .same _ hp
theorem z7h {mem:Mem} {w:World} {ρ:Rho} {N:z6h}: ∀{l l' m:List Item},z1p N.keep l=some l'→y2b ρ l m→y2b (z9u ρ mem N w) l' m
 | [],l',m,h,ht=>by cases ht;obtain rfl:=Af h;exact .nil
 | x::l,l',m,h,ht=>by
  cases ht with
  | cons hx ht=>
   unfold z1p at h;split at h
   ·rename_i y k hy hk;obtain rfl:=Af h;exact .cons (x1w hy hx) (z7h hk ht)
   ·cases h
theorem x5z {mem:Mem} {next:Nat} {w:World} {ρ:Rho} (h:Rel ρ mem next w) {N:z6h} (ho:z5m mem N.frz=true) {cx:Ctx} {ro:Option RegOps} {todo todo':List Item} {rnd rnd':Option Nat} {env:T AVal} {b:Frame} {a:Act} {k:List Item} {ms:List Nat} (ht:z1p N.keep todo=some todo') (hr:y7p N.keep rnd=some rnd')
  (hf:w2b ρ cx ro todo rnd env b a k ms) (L:Option (List Nat)):w2b (z9u ρ mem N w) cx ro todo' rnd' (v4f (ren P mem N 6) env L) b a k ms∧(rnd'=none→rnd=none):=by
 refine ⟨⟨x6a h ho hf.env L,hf.defers,z7h ht hf.todo,hf.ro,?_⟩,fun e=> ?_⟩
 ·have hrn:=hf.rnd;cases rnd with
  | none=>obtain rfl:=Af hr;exact hrn
  | some j=>simp only [y7p,Aj] at hr;obtain ⟨j',hj,rfl⟩:=hr;obtain ⟨h0,l,h1,h2⟩:=hrn;exact ⟨h0,l,by rw [(Vz hj).2];exact h1,h2⟩
 ·cases rnd with
  | none=>rfl
  | some j=>simp_all [y7p]
theorem y7q {mem:Mem} {next:Nat} {w:World} {ρ:Rho} (h:Rel ρ mem next w) {N:z6h} (ho:z5m mem N.frz=true): ∀{cs cs':List AFr} {sl:List (Option (List Nat))} {css:List Frame} {mss:List Nat},x9i (ren P mem N 6) N.keep cs sl=some cs'→w2c P ρ cs css mss→w2c P (z9u ρ mem N w) cs' css mss∧(cs'≠ []→cs≠ [])
 | [],cs',sl,css,mss,hc,hr=>by cases hr;obtain rfl:=Af hc;exact ⟨.nil,id⟩
 | af::cs,cs',sl,css,mss,hc,hr=>by
  cases hr with
  | cons hf hl ht=>
   unfold x9i at hc;split at hc
   ·rename_i todo' rnd' cs'' h1 h2 h3;obtain rfl:=Af hc;obtain ⟨i1,i2⟩:=y7q h ho h3 ht;obtain ⟨f1,f2⟩:=x5z (P:=P) h ho h1 h2 hf (sl.headD none);exact ⟨.cons f1 (fun hne=>⟨(hl (i2 hne)).1,fun e=>(hl (i2 hne)).2 (f2 e)⟩) i1,fun _=>by simp⟩
   ·cases hc
def RowTo (ρ ρ':Rho) (L L':List AVal):Prop:=L'.length=L.length∧ ∀(j:Nat) (h1:j<L.length) (h2:j<L'.length) (v:Value),Za ρ L[j] v→Za ρ' L'[j] v
theorem z4n {mem:Mem} {next:Nat} {w:World} {ρ:Rho} (h:Rel ρ mem next w) {N:z6h} (ho:z5m mem N.frz=true): ∀(rw1:Rws),y3o rw1=true→ ∀k,RowTo ρ (z9u ρ mem N w) (rw1.get k) ((z4o (ren P mem N 6) rw1).get k)
 | .flat g,hf,k=>by refine ⟨rfl,fun j h1 h2 v hv=> ?_⟩;have dX: ∀i,(g i).all (pf 6)=true:=Wn hf;exact ((Vu 6 _ _ (Aw.1 (dX k) _ (AU h1)) hv).mono (z0y h N)).mono (y1k _)
 | .one r cs b,hf,k=>by
  have ih:=z4n h ho (N:=N) b hf k;have hc:RowTo ρ (z9u ρ mem N w) cs (cs.map (ren P mem N 6)):=⟨by simp,fun j h1 h2 v hv=>by simpa using Kt h ho 6 _ _ hv⟩
  simp only [z4o,Rws.get];cases Nat.beq k r with
  | true=>exact hc
  | false=>exact ih
 | .alt c a b,hf,k=>by
  simp only [y3o,Ac] at hf;have iha:=z4n h ho (N:=N) a hf.1 k;have ihb:=z4n h ho (N:=N) b hf.2 k;simp only [z4o,Rws.get];cases c k with
  | true=>exact iha
  | false=>exact ihb
theorem x9h {mem:Mem} {next:Nat} {w:World} {ρ:Rho} (h:Rel ρ mem next w) {N:z6h} (ho:z5m mem N.frz=true) (hd:disj N.keep N.frz=true) (hfl:(z5h P mem N N.keep 0).2=true):Rel (z9u ρ mem N w) (z5h P mem N N.keep 0).1 N.keep.length w:=by
 obtain ⟨hnd,hdj⟩:=y1d hd;have get: ∀j,Zt (z5h P mem N N.keep 0).1 j=(N.keep[j]?).bind fun b=>(Zt mem b).map (y3a P mem N):=fun j=>by
  grind [y8l]
 have blk: ∀{b' l},(z9u ρ mem N w) b'=some l→ ∃b,N.keep[b']? =some b∧ρ b=some l:=fun {b' l} e=>by
  have e:(N.keep[b']?).bind (fun b=>ρ b)=some l:=e
  grind
 have live: ∀{b' b},N.keep[b']? =some b→(Zt (z5h P mem N N.keep 0).1 b').isSome =true→(Zt mem b).isSome =true:=fun {b' b} e hs=>by
  grind
 refine ⟨fun b' l e=> ?_,fun b' b'' l l' e e' hbl hs hs'=> ?_,fun b' l ab e hm=> ?_,fun k o e=> ?_,fun b' l e hs=> ?_,fun b' l e=> ?_,fun b' hb=> ?_,fun j l e=> ?_,h.ldom.2.mono fun k o e=>Kr h N e⟩
 ·grind
 ·obtain ⟨b,e1,e2⟩:=blk e;obtain ⟨c,e3,e4⟩:=blk e';have:=h.inj b c l l' e2 e4 hbl (live e1 hs) (live e3 hs');subst this;exact (List.getElem?_inj (AZ.1 e1).1 hnd).1 (e1.trans e3.symm)
 ·obtain ⟨b,e1,e2⟩:=blk e;rw [get,e1] at hm;simp only [Option.bind_some,Aj] at hm;obtain ⟨ab0,hm0,rfl⟩:=hm;cases h.blk b l ab0 e2 hm0 with
  | obj o r ty hab hn hh=>
   subst hab;refine .obj o (r.map (ren P mem N 6)) ty rfl (by rw [hn];simp) ?_;cases o with
   | mi ml=>obtain ⟨rfl,k⟩:=hh;exact ⟨rfl,k⟩
   | mb ml=>obtain ⟨rfl,k⟩:=hh;exact ⟨rfl,k⟩
   | it s pos=>obtain ⟨rfl,k⟩:=hh;exact ⟨rfl,k⟩
   | bld=>obtain ⟨buf,v,p,rfl,k1,k2,k3⟩:=hh;exact ⟨_,v,p,rfl,k1,Kt h ho 6 _ _ k2,k3⟩
  | plain hpl=>
  obtain ⟨hty,hn,ht,har,cs,el,g1,g2,g3⟩:=hpl;obtain ⟨cells,ty,arr⟩:=ab0;cases arr with
  | none=>
   refine .plain ⟨hty,by simpa [y3a] using hn,ht,(fun A hA=>by cases hA),cs,el,g1,g2,fun i hi=> ?_⟩
   grind [y3a,Kt]
  | some A=>
   obtain ⟨a1,a2,a3⟩:=har A rfl;simp only at a1;have hfb:v1g ⟨cells,ty,some A⟩=true:=z6n N.keep 0 hfl b (List.mem_of_getElem? e1) _ hm0;have eU:=z4n (P:=P) h ho (N:=N) A.rw hfb;have hl': ∀i,i<A.n→((z4o (ren P mem N 6) A.rw).get i).length =A.sz:=fun i hi=>by rw [(eU i).1];exact a3 i hi
   have k1:=Zh A.n a3;have k2:=Zh A.n hl';refine .plain ⟨hty,by show l.n=(rows A.n _).length;grind,ht,(fun B hB=>by obtain rfl:=Af hB;exact ⟨rfl,a2,hl'⟩),cs,el,g1,g2,fun i hi=> ?_⟩;have hi':i<A.n*A.sz:=by rw [←k2];exact hi
   have hj:i %A.sz<A.sz:=Bk _ a2;have hq:i / A.sz<A.n:=A4 (by grind);have e:i / A.sz*A.sz+i %A.sz=i:=by rw [Bu];exact Bm i A.sz
   have hic:i<cells.length:=by grind
   have r1:=Xe A.n a3 (i / A.sz) (i %A.sz) hq hj;have r2:=Xe A.n hl' (i / A.sz) (i %A.sz) hq hj;rw [e] at r1 r2;have hi2:i<(rows A.n (z4o (ren P mem N 6) A.rw).get).length :=hi;have j1:i %A.sz<(A.rw.get (i / A.sz)).length :=by rw [show A.rw.get=A.get from rfl,a3 _ hq];exact hj
   have j2:i %A.sz<((z4o (ren P mem N 6) A.rw).get (i / A.sz)).length :=by grind
   obtain ⟨v,q1,q2⟩:=g3 i hic;have s1:cells[i]=(A.rw.get (i / A.sz))[i %A.sz]:=by
    have:cells[i]? =some (A.rw.get (i / A.sz))[i %A.sz]:=by rw [a1,r1,show A.get=A.rw.get from rfl,Ar j1]
    grind
   have s2:(rows A.n (z4o (ren P mem N 6) A.rw).get)[i]'hi2=((z4o (ren P mem N 6) A.rw).get (i / A.sz))[i %A.sz]:=by
    grind
   refine ⟨v,q1,?_⟩;show Za _ ((rows A.n (z4o (ren P mem N 6) A.rw).get)[i]'hi2) v;rw [s2];refine (eU _).2 _ j1 j2 v ?_
   grind
 ·have e: @ite _ (Fz ρ mem N k) (Classical.propDecidable _) (w.heap[k]?) (ρ.fz k)=some o:=e;by_cases hf:Fz ρ mem N k
  ·grind
  ·rw [Ax hf] at e;exact h.old k o e
 ·obtain ⟨b,e1,e2⟩:=blk e;have hs0:=live e1 hs;have hnf: ¬Fz ρ mem N l.blk:=fun ⟨c,l',c1,c2,c3,c4⟩=>by
   have:=h.inj c b l' l c2 e2 c4 c3 hs0
   grind
  show @ite _ (Fz ρ mem N l.blk) (Classical.propDecidable _) (w.heap[l.blk]?) (ρ.fz l.blk)=none;rw [Ax hnf];exact h.sep b l e2 hs0
 ·obtain ⟨b,_,e2⟩:=blk e;exact h.real b l e2
 ·grind
 ·have e:(N.keep[j]?).bind (fun b=>ρ.lp b)=some l:=e;have:=h.ldom.1
  grind
theorem renEv {H:Old} {mem:Mem} {next:Nat} {w0 w:World} {ρ:Rho} (h:Rel ρ mem next w) {N:z6h} (he:Ev (Jy H) ρ 0 .leaf 0 mem next w0 w) (mem':Mem) (next':Nat):Ev (Jy H) (z9u ρ mem N w) 0 .leaf 0 mem' next' w0 w:=
 ⟨⟨fun b l e=>(by cases e),fun k o e=>Kr h N (he.ext.2.1 k o e),fun j l e=>(by cases e)⟩,fun b hb=>absurd hb (AA _),AE _,fun b hb=>absurd hb (AA _),he.frame,fun b l _ e=>by
   have e:(N.keep[b]?).bind (fun b=>ρ b)=some l:=e;rw [Option.bind_eq_some_iff] at e;obtain ⟨c,_,e2⟩:=e;exact he.fresh c l (AE _) e2,he.size,he.os,he.tape,he.output,fun k hk=>by
   have hnf: ¬Fz ρ mem N k:=fun ⟨b,l,_,e2,_,e4⟩=>by
    rcases he.fresh b l (AE _) e2 with h1 | ⟨b0,l0,e0,_⟩
    ·omega
    ·cases e0
   show @ite _ (Fz ρ mem N k) (Classical.propDecidable _) (w.heap[k]?) (ρ.fz k)=_;rw [Ax hnf];exact he.still k hk⟩
def z8d (P:Program) (C C':Cfg):Prop:=
 ∀(H:Old) (w0:World) (ρ:Rho) (b:Frame) (a:Act) (k:List Item) (css:List Frame) (w:World) (ma mb:List Nat),u2v P w0.heap.size C ρ b a k css w ma mb→Ev (Jy H) ρ 0 .leaf 0 C.st.mem C.st.next w0 w→ ∀cs0:List Frame,
  ∃ρ' b' a' k' css' w' ma' mb',Steps P (lone (b.atR a (Xh C.ro k)) (css++cs0) w) (lone (b'.atR a' (Xh C'.ro k')) (css'++cs0) w')∧u2v P w0.heap.size C' ρ' b' a' k' css' w' ma' mb'∧Ev (Jy H) ρ' 0 .leaf 0 C'.st.mem C'.st.next w0 w'∧x4v b' css'=x4v b css∧w.heap.size≤w'.heap.size
theorem z8d.refl (C:Cfg):z8d P C C:=fun H w0 ρ b a k css w ma mb hs he cs0=>⟨ρ,b,a,k,css,w,ma,mb,Steps.refl _ _,hs,he,rfl,Ao _⟩
theorem z8d.trans {A B C:Cfg} (h:z8d P A B) (k:z8d P B C):z8d P A C:=by intro H w0 ρ b a t css w ma mb hs he cs0;obtain ⟨ρ1,b1,a1,t1,css1,w1,ma1,mb1,s1,r1,e1,q1,z1⟩:=h H w0 ρ b a t css w ma mb hs he cs0;obtain ⟨ρ2,b2,a2,t2,css2,w2,ma2,mb2,s2,r2,e2,q2,z2⟩:=k H w0 ρ1 b1 a1 t1 css1 w1 ma1 mb1 r1 e1 cs0;exact ⟨ρ2,b2,a2,t2,css2,w2,ma2,mb2,s1.trans s2,r2,e2,q2.trans q1,AG z1 z2⟩
theorem z7e.goes {C C':Cfg} (h:z7e P 0 C C'):z8d P C C':=fun H w0 ρ b a k css w ma mb hs he cs0=>h .leaf 0 (Jy H) w0 ρ b a k css w ma mb hs he cs0
def fl0 (C:Cfg):Bool:=Nat.beq C.cx.floor 0&&C.cs.all fun af=>Nat.beq af.cx.floor 0
theorem v1h {C:Cfg} (h:fl0 C=true):Fl 0 C:=by unfold fl0 at h;simp only [Ac] at h;exact ⟨Ah h.1,fun af haf=>Ah (Aw.1 h.2 af haf),AE _⟩
theorem z9v {f:AVal→AVal} {keep:List Nat} {fl:Nat}: ∀{cs cs':List AFr} {sl:List (Option (List Nat))},x9i f keep cs sl=some cs'→(∀af∈cs,af.cx.floor=fl)→ ∀af∈cs',af.cx.floor=fl
 | [],cs',sl,h,_,af,haf=>by obtain rfl:=Af h;cases haf
 | a0::cs,cs',sl,h,hcs,af,haf=>by
  unfold x9i at h;split at h
  ·rename_i t1 r1 c1 g1 g2 g3;obtain rfl:=Af h;rcases AM.1 haf with rfl | haf
   ·grind
   ·exact z9v g3 (fun x hx=>hcs x (Bw _ hx)) af haf
  ·cases h
theorem x9r {N:z6h} {C C':Cfg} (h:w9u P N C=some C') (ho:C'.st.ob=true):C.st.ob=true∧z8d P C C'∧(Fl 0 C→Fl 0 C'):=by
 obtain ⟨cx,ro,todo,rnd,rs,⟨env,mem,next,orc,ob⟩,cs,lps⟩:=C;simp only [w9u] at h;split at h
 ·rename_i todo' rnd' cs' h1 h2 h3;obtain ⟨hd,h⟩:=Zq h;obtain rfl:=Af h;simp only [Ac] at ho;obtain ⟨hkm,ho2,ho3⟩:=ho;refine ⟨ho3,fun H w0 ρ b a k css w ma mb hs he cs0=> ?_,fun hfl=>⟨hfl.cx,fun af haf=> ?_,AE _⟩⟩
  ·have cV:=hs.rel;simp only at cV he;obtain ⟨f1,f2⟩:=x5z (P:=P) cV ho2 h1 h2 hs.top (N.slots.headD none);obtain ⟨c1,c2⟩:=y7q (P:=P) cV ho2 h3 hs.rest.cs;refine ⟨z9u ρ mem N w,b,a,k,css,w,ma,mb,Steps.refl _ _,⟨f1,fun hne=>⟨(hs.lv (c2 hne)).1,fun e=>(hs.lv (c2 hne)).2 (f2 e)⟩,⟨c1,hs.rest.nodup,fun r hr=> ?_,fun j L hL=> ?_,fun j j' L L' l hL hL' e e'=> ?_⟩,?_⟩,renEv cV he _ _,rfl,Ao _⟩
   ·obtain ⟨q1,⟨q2,q3,q4⟩,q5⟩:=hs.rest.marks r hr;refine ⟨q1,⟨q2,?_,fun b' l e=> ?_⟩,q5⟩
    ·show @ite _ (Fz ρ mem N r) (Classical.propDecidable _) (w.heap[r]?) (ρ.fz r)=none;rw [Ax fun ⟨c,l,_,e2,_,e4⟩=>q4 c l e2 e4];exact q3
    ·have e:(N.keep[b']?).bind (fun b=>ρ b)=some l:=e
     grind
   ·obtain ⟨_,c,L0,x,e1,e2,rfl⟩:=z1f N.keep 0 _ j L hL;rw [Nat.sub_zero] at e1;obtain ⟨l,q1,q2,⟨q3,q4,q5⟩,tm,fn',d,q6,q7⟩:=hs.rest.loops c L0 e2;refine ⟨l,?_,q2,⟨q3,?_,fun b' l' e=> ?_⟩,tm,fn',d,q6,x6a (P:=P) cV ho2 q7 x⟩
    ·show (N.keep[j]?).bind (fun b=>ρ.lp b)=some l
     grind
    ·show @ite _ (Fz ρ mem N l) (Classical.propDecidable _) (w.heap[l]?) (ρ.fz l)=none;rw [Ax fun ⟨c,l,_,e2,_,e4⟩=>q5 c l e2 e4];exact q4
    ·have e:(N.keep[b']?).bind (fun b=>ρ b)=some l':=e
     grind
   ·obtain ⟨_,c,L0,x,e1,e2,rfl⟩:=z1f N.keep 0 _ j L hL;obtain ⟨_,c',L0',x',e1',e2',rfl⟩:=z1f N.keep 0 _ j' L' hL';rw [Nat.sub_zero] at e1 e1';have e:(N.keep[j]?).bind (fun b=>ρ.lp b)=some l:=e;have e':(N.keep[j']?).bind (fun b=>ρ.lp b)=some l:=e';rw [e1] at e;rw [e1'] at e';have:=hs.rest.inj c c' L0 L0' l e2 e2' e e';subst this;exact (List.getElem?_inj (AZ.1 e1).1 (y1d hd).1).1 (e1.trans e1'.symm)
   ·exact x9h cV ho2 hd hkm
  ·exact z9v h3 hfl.cs af haf
 ·cases h
theorem y8o {S:Specs} {Rc:Runner} (hN:z2c P) (hmx:P.follows .mixedOrders =true) (hS:Zw P S) (hCI:x7k Rc) (hC:ROk P Rc) {fl:Nat}: ∀(n:Nat) (C C':Cfg),Fl fl C→v0s P S Rc n C=some C'→Fl fl C'∧Yb fl C.st C'.st∧(C'.st.ob=true→z7e P fl C C')
 | 0,C,C',hfl,h=>by
  obtain rfl:=Af h
  grind [Yb.refl,z7e.refl]
 | n+1,C,C',hfl,h=>by
  have h:(match x7u P S Rc C with
   | some C'=>v0s P S Rc n C'
   | none=>none)=some C':=h
  split at h
  ·rename_i C1 h1;have s1:=y7c hN hmx hS hCI hC hfl h1;obtain ⟨f1,f4,f5⟩:=y8o hN hmx hS hCI hC n C1 C' s1.fls h;exact ⟨f1,s1.inv.trans f4,fun ho=>(s1.leads (f4.ob ho)).trans (f5 ho)⟩
  ·cases h
def Zj (P:Program) (f:FuncId) (args:List AVal) (sym:Bool) (orc:List Bool):Cfg:=
 match P.funcs[f]? with
 | some fn=>⟨⟨Nat.max fn.ntmps args.length,0,sym⟩,none,[.code (fn.body.getD .ret)],none,fn.results.toList,⟨z6s args 0 .leaf,.leaf,0,orc,true⟩,[],.leaf⟩
 | none=>⟨⟨0,0,sym⟩,none,[],none,[],⟨.leaf,.leaf,0,[],true⟩,[],.leaf⟩
theorem goes_call {f:FuncId} {args:List AVal} {sym:Bool} {orc:List Bool} {C':Cfg} {vs:List AVal} {H:Old} (hf:(P.funcs[f]?).any (fun fn=>fn.body.isSome)=true) (h:z8d P (Zj P f args sym orc) C') (hfin:z2g C'=true) (hob:(Vn P C'.st (Zj P f args sym orc).rs)=some vs)
  {vals:Array Value} {w:World} (cY:Xo (Za (Jy H)) args vals.toList) (hH: ∀k o,H k=some o→w.heap[k]? =some o) (hG:v5z H):
  Calls P f vals w fun e w'=> ∃ρ u,e=.returned u∧Out H w ρ (Vt vs) u w':=by
 cases hfn:P.funcs[f]? with
 | none=>grind
 | some fn=>
  rw [hfn] at hf;have hf:fn.body.isSome=true:=hf;obtain ⟨body,hb⟩:=BG.1 hf;have hstart:Zj P f args sym orc=⟨⟨Nat.max fn.ntmps args.length,0,sym⟩,none,[.code body],none,fn.results.toList,⟨z6s args 0 .leaf,.leaf,0,orc,true⟩,[],.leaf⟩:=by unfold Zj;grind
  rw [hstart] at h hob;simp only at hob;intro cs;obtain ⟨ρ',b',a',k',css',w',ma',mb',s1,r1,v1,q1,_⟩:=h H w (Jy H) ⟨f, #[],[],[],.run,.normal,none⟩ {tmps:=vals++Array.replicate (fn.ntmps - vals.size) undef,defers:=[]} [.code body] [] w [] []
   ⟨⟨y0x cY fn.ntmps,rfl,.cons (.same _ rfl) .nil,trivial,rfl⟩,fun h=>absurd rfl h,y2z _ _ _,y7r hH hG⟩ (Ev.refl _ _ _ _ _ (y7r hH hG).dom) cs
  obtain ⟨e1,e2,e3,e4⟩:=y0w hfin;have hcs:=r1.rest.cs;rw [e3] at hcs;cases hcs;obtain ⟨w2,s2,henv',dP,eD,_,_⟩:=y1b r1 e1 e2 e4 rfl v1 cs;obtain ⟨u,hu,eX⟩:=Qh (fn:=fn) henv' dP hob;have q:(b'.fn,b'.kind,b'.roundOf)=(f,CallKind.normal,none):=q1;simp only [Aa] at q;have hen:Frame.enter P f vals .normal =Frame.atR ⟨f, #[],[],[],.run,.normal,none⟩ {tmps:=vals++Array.replicate (fn.ntmps - vals.size) undef,defers:=[]} (Xh none [.code body]):=by
   grind [Frame.enter,Frame.atR,Xh]
  refine ⟨.returned u,w2,{b'.atR {a' with defers:=[]} k' with mode:=.returning},⟨ρ',u,rfl,out_of hu dP eD⟩,?_,q.1,rfl,rfl,q.2.1,fn,by show P.funcs[b'.fn]? =_;grind,eX⟩;rw [hen];exact s1.trans s2
end
def Xj :List ABlk→Nat→Mem
 | [],_=>.leaf
 | b::l,i=>Yr (Xj l (i+1)) i (some b)
def y2h (c:Nat→Int):Nat→List AVal:=fun i=>[.int .i64 (c i)]
def Cfg.withO :Cfg→List Bool→Cfg
 | ⟨cx,ro,todo,rnd,rs,⟨env,mem,next,_,_⟩,cs,lps⟩,o=>⟨cx,ro,todo,rnd,rs,⟨env,mem,next,o,true⟩,cs,lps⟩
def Cfg.withB :Cfg→Bool→Cfg
 | ⟨cx,ro,todo,rnd,rs,⟨env,mem,next,_,_⟩,cs,lps⟩,b=>⟨cx,ro,todo,rnd,rs,⟨env,mem,next,[],b⟩,cs,lps⟩
inductive Ya (σ:Type) where
 | stuck
 | ret (vs:List AVal)
 | to (s:σ)
def Ws (P:Program) (rs:List ResultVar) (C:Cfg) (vs:List AVal):Prop:= ∃C',z8d P C C'∧z2g C'=true∧Vn P C'.st rs=some vs
def Yh (P:Program) (rs:List ResultVar) {σ:Type} (cfg:σ→Cfg) (C:Cfg):Ya σ→Prop
 | .stuck =>True
 | .ret vs=>Ws P rs C vs
 | .to s=>z8d P C (cfg s)
section
variable {P:Program} {rs:List ResultVar} {σ:Type} {cfg:σ→Cfg} {C:Cfg}
theorem x6t {c:Bool} {a b:Ya σ} (ha:c=true→Yh P rs cfg C a) (hb:c=false→Yh P rs cfg C b):Yh P rs cfg C (bif c then a else b):=by grind
theorem v0l {c:Bool} {a:Ya σ} (ha:c=true→Yh P rs cfg C a):Yh P rs cfg C (bif c then a else .stuck):=x6t ha fun _=>trivial
theorem Zf {vs:List AVal} (C':Cfg) (h:z8d P C C') (hf:z2g C'=true) (hr:Vn P C'.st rs=some vs):Yh P rs cfg C (.ret vs):=⟨C',h,hf,hr⟩
end
def Zo {σ:Type} (step:σ→Ya σ):Nat→Ya σ→Ya σ
 | 0,o=>o
 | n+1,.to s=>Zo step n (step s)
 | _+1,o=>o
theorem Zk {P:Program} {rs:List ResultVar} {σ:Type} {cfg:σ→Cfg} {step:σ→Ya σ} (dV: ∀s,Yh P rs cfg (cfg s) (step s)) {C:Cfg}: ∀(n:Nat) (o:Ya σ),Yh P rs cfg C o→Yh P rs cfg C (Zo step n o)
 | 0,o,h=>h
 | n+1,.stuck,h=>h
 | n+1,.ret vs,h=>h
 | n+1,.to s,h=>Zk dV n (step s) (match step s,dV s with
  | .stuck,_=>trivial
  | .ret vs,⟨C',g,hf,hr⟩=>⟨C',z8d.trans h g,hf,hr⟩
  | .to s',g=>z8d.trans h g)
theorem Zp {σ:Type} (step:σ→Ya σ) (n:Nat) (vs:List AVal):Zo step n (.ret vs)=.ret vs:=by cases n <;> rfl
theorem Zv {σ:Type} (step:σ→Ya σ) (n:Nat) (s:σ):Zo step (n+1) (.to s)=Zo step n (step s):=rfl
theorem y3d {a b:Bool} (ha:a=true) (hb:b=true):(a&&b)=true:=by grind
theorem w4m {a b:Bool} (h:a=b):(a == b)=true:=by grind
def Specs.with (S:Specs) (f:FuncId) (F:List AVal→Option (AVal×Bool)):Specs:=fun g=>bif Nat.beq g f then some (.val F) else S g
theorem y7d {P:Program} {f:FuncId} {args:List AVal} {sym:Bool} {orc:List Bool}:(Zj P f args sym orc).rs =Zz P f:=by
 grind [Zj,Zz]
theorem w2d {P:Program} {S:Specs} (hS:Zw P S) {f:FuncId} {F:List AVal→Option (AVal×Bool)} (hf:(P.funcs[f]?).any (fun fn=>fn.body.isSome)=true)
  (hF: ∀args v,F args=some (v,true)→ ∃vs,Vt vs=v∧Ws P (Zz P f) (Zj P f args true []) vs∧ ∃d,pf d v=true):Zw P (S.with f F):=by
 intro g G hg;unfold Specs.with at hg;cases hgf:Nat.beq g f with
 | false=>rw [hgf] at hg;exact hS g G hg
 | true=>
  rw [hgf] at hg;obtain rfl:Spec.val F=G:=Af hg;obtain rfl:g=f:=Ah hgf;refine ⟨?_,fun args v hv H vals w cY hH hG=> ?_⟩
  ·grind
  ·obtain ⟨vs,rfl,⟨C',g1,g2,g3⟩,d,hp⟩:=hF args v hv;exact (goes_call hf g1 g2 (by rw [y7d];exact g3) cY hH hG).mono fun e w' ⟨ρ,u,he,ho⟩=>⟨ρ.fz,u,ho.le,ho.old,ho.same,he,Vu d _ u hp ho.val,ho.below⟩
def cOf (get:Nat→List AVal) (i:Nat):Int:=match get i with
 | .int _ n::_=>n
 | _=>0
def isI (get:Nat→List AVal):Bool:=pd (get=y2h (cOf get))
theorem x6w {get:Nat→List AVal} (h:isI get=true): ∃c,get=y2h c:=⟨_,Wn h⟩
theorem w9z (x:Int):(x != x)=false:=by simp
theorem v1t (x:Int):(x == x)=true:=by simp
theorem w4q (x:Int):(!(x != x))=true:=by simp
theorem w4r (x:Int):(!(x == x))=false:=by simp
theorem w64 (n:Int):IntKind.i64.wrap n=(n+9223372036854775808) %18446744073709551616 - 9223372036854775808:=by rw [IntKind.wrap_i64]
theorem w_in {n:Int} (h: -9223372036854775808≤n) (h':n≤9223372036854775807):IntKind.i64.wrap n=n:=by simp only [w64];omega
theorem y0q (x y:Int):y6q x y=min x y:=by unfold y6q;grind
theorem y0r (x y:Int):y6r x y=max x y:=by unfold y6r;grind
theorem Zr {α:Type} {c:Bool} {a b:α} (h:c=true):(bif c then a else b)=a:=by rw [h];rfl
inductive VLe :AVal→AVal→Prop
 | refl (v:AVal):VLe v v
 | undef (v:AVal):VLe v .undef
 | nils (b sz off:Nat) (cap:w1x):VLe .nils (.sla b sz off 0 cap)
 | sl (b sz q len:Nat) (cap:w1x):VLe (.sl b (q*sz) len cap) (.sla b sz q len cap)
 | nild (g:Nat→List AVal):VLe .nils (.dat 0 g)
 | dat (n:Nat) (g g':Nat→List AVal) (h: ∀i,i<n→g i=g' i):VLe (.dat n g) (.dat n g')
 | dptr (cs cs':List AVal) (hl:cs.length=cs'.length) (h: ∀(ρ:Rho) (i:Nat) (h1:i<cs.length) (h2:i<cs'.length) (v:Value),Za ρ cs[i] v→Za ρ cs'[i] v):VLe (.dptr cs) (.dptr cs')
theorem VLe.sound {ρ:Rho} {a a':AVal} {v:Value} (h:VLe a a') (hv:Za ρ a v):Za ρ a' v:=by
 cases h with
 | refl=>exact hv
 | undef=>exact .undef _
 | nils b sz off cap=>cases hv;exact .slan b sz off cap
 | sl b sz q len cap=>cases hv with | sl _ _ _ _ l c h hc cW=>exact .sla b sz q len cap l c h hc cW
 | nild g=>cases hv;exact .datn _
 | dptr cs cs' hl h=>cases hv with
  | dptr _ blk base val q1 q2=>exact .dptr cs' blk base val (fun j hj=>h _ j (by omega) hj _ (q1 j (by omega))) fun j hj=>q2 j (by omega)
 | dat n g g' hg=>
  cases hv with
  | datn=>exact .datn _
  | datz=>exact .datz _ _ _
  | dat _ _ blk base sz cap val dD hsz hv hh=>
   refine .dat n g' blk base sz cap val dD (fun i hi=>by grind) (fun i j hi hj=> ?_) hh
   grind
theorem VLe.of_undef {a:AVal} (h:VLe .undef a):a=.undef :=by cases h <;> rfl
inductive RLe :List AVal→List AVal→Prop
 | nil:RLe [] []
 | cons {a b:AVal} {l m:List AVal} (h:VLe a b) (t:RLe l m):RLe (a::l) (b::m)
theorem RLe.refl : ∀l:List AVal,RLe l l
 | []=>.nil
 | a::l=>.cons (.refl a) (RLe.refl l)
theorem RLe.len {l m:List AVal} (h:RLe l m):l.length=m.length:=by
 induction h with
 | nil=>rfl
 | cons _ _ ih=>simp [ih]
theorem RLe.get {l m:List AVal} (h:RLe l m): ∀(i:Nat) (h1:i<l.length) (h2:i<m.length),VLe l[i] m[i]:=by
 induction h with
 | nil=>grind
 | cons h _ ih=>
  grind
inductive BLe :Option ABlk→Option ABlk→Prop
 | refl (b:Option ABlk):BLe b b
 | drop (b:Option ABlk):BLe b none
 | rowed (cells:List AVal) (ty:TypeId) (a:Option Arr) (sz n:Nat) (g:Nat→List AVal) (ho:(⟨cells,ty,a⟩:ABlk).isObj =false) (hc:cells=rows n g) (h1:1≤sz) (hl: ∀i,i<n→(g i).length =sz):BLe (some ⟨cells,ty,a⟩) (some ⟨rows n g,ty,some ⟨sz,n,g⟩⟩)
 | rws (ty:TypeId) (sz n:Nat) (a a':Rws) (h: ∀k,k<n→RLe (a.get k) (a'.get k)):BLe (some ⟨rows n a.get,ty,some ⟨sz,n,a⟩⟩) (some ⟨rows n a'.get,ty,some ⟨sz,n,a'⟩⟩)
theorem BLe.sound {ρ:Rho} {w:World} {a a':ABlk} {l:Loc} (h:BLe (some a) (some a')) (hb:Xq ρ w a l):Xq ρ w a' l:=by
 cases h with
 | refl=>exact hb
 | rowed cells ty a sz n g ho hc h1 hl=>subst hc;have hb:=hb.at ho;refine .plain ⟨hb.typ,hb.n,hb.tot,fun A hA=> ?_,hb.cells⟩;obtain rfl:=Af hA;exact ⟨rfl,h1,hl⟩
 | rws ty sz n a a' h=>
  have hb:=hb.rows rfl;obtain ⟨_,h1,hl⟩:=hb.arr _ rfl;have h1:1≤sz:=h1;have hl: ∀k,k<n→(a.get k).length =sz:=hl;have hl': ∀k,k<n→(a'.get k).length =sz:=fun k hk=>by rw [←(h k hk).len];exact hl k hk
  have k1:=Zh n hl;have k2:=Zh n hl';obtain ⟨cs,el,g1,g2,g3⟩:=hb.cells;refine .plain ⟨hb.typ,by rw [hb.n];show (rows n a.get).length =(rows n a'.get).length;rw [k1,k2],hb.tot,fun A hA=> ?_,cs,el,g1,g2,fun i hi=> ?_⟩
  ·obtain rfl:=Af hA;exact ⟨rfl,h1,hl'⟩
  ·have hi2:i<(rows n a'.get).length :=hi;have hi':i<n*sz:=by rw [←k2];exact hi
   have hj:i %sz<sz:=Bk _ h1;have hq:i / sz<n:=A4 (by rw [Bu];exact hi');have e:i / sz*sz+i %sz=i:=by rw [Bu];exact Bm i sz
   have hic:i<(rows n a.get).length :=by rw [k1];exact hi'
   have r1:=Xe n hl (i / sz) (i %sz) hq hj;have r2:=Xe n hl' (i / sz) (i %sz) hq hj;rw [e] at r1 r2;have j1:i %sz<(a.get (i / sz)).length :=by rw [hl _ hq];exact hj
   have j2:i %sz<(a'.get (i / sz)).length :=by rw [hl' _ hq];exact hj
   obtain ⟨v,q1,q2⟩:=g3 i hic;have q2:Za ρ ((rows n a.get)[i]'hic) v:=q2;refine ⟨v,q1,?_⟩;show Za ρ ((rows n a'.get)[i]'hi2) v;rw [Ar hic,Ar j1] at r1;rw [Ar hi2,Ar j2] at r2;rw [Af r1] at q2;rw [Af r2];exact ((h _ hq).get _ j1 j2).sound q2
theorem z6j {g h:Nat→List AVal}: ∀(n:Nat),(∀i,i<n→g i=h i)→rows n g=rows n h
 | 0,_=>rfl
 | n+1,e=>by rw [z4d,z4d,z6j n fun i hi=>e i (by omega),e n (by omega)]
theorem y3f {n:Nat} {g:Nat→List AVal} (h: ∀k,∀v∈g k,z2f v=true) (ty:TypeId) (a:Option Arr):(⟨Go.Am.rows n g,ty,a⟩:ABlk).isObj =false:=
 z1c (ρ:=⟨fun _=>none,fun _=>none,fun _=>none⟩) (fun v hv=>by obtain ⟨k,_,hk⟩:=x5w hv;exact .inr (h k v hk)) _ _
theorem z1t {n:Nat} {c:Nat→Int} (ty:TypeId) (a:Option Arr):(⟨Go.Am.rows n (y2h c),ty,a⟩:ABlk).isObj =false:=y3f (fun k v hv=>by obtain rfl:=BI.1 hv;rfl) _ _
def z2b (l:List Int):Nat→Int:=fun k=>l.getD k 0
def y5s (asz sz off len n:Nat) (get:Nat→List AVal):AVal:=bif Nat.beq asz sz&&Nat.ble (off+len) n then .dat len (fun k=>get (off+k)) else .undef
theorem v9v (sz n:Nat) (g:Nat→List AVal):y5s sz sz 0 n n g=.dat n g:=by
 unfold y5s;rw [show (Nat.beq sz sz&&Nat.ble (0+n) n)=true by simp_all,Ag]
 grind
def Ji (g:Nat→List AVal):Bool:=pd (∀i,(g i).all (pf 6)=true)
theorem v2h {p:AVal→Bool} {l:List AVal} (h:l.all p=true) (n:Nat):(l.take n).all p=true:=
 by grind
theorem v2i {p:AVal→Bool} {l:List AVal} (h:l.all p=true) (n:Nat):(l.drop n).all p=true:=
 by grind
theorem w5t {g:Nat→List AVal} {off len sz:Nat} {new:List AVal} (h:Ji g=true) (hn:new.all (pf 6)=true):Ji (Ze g off len sz new)=true:=Yu fun i=>by
 unfold Ze;cases Nat.ble len i with
 | true=>grind
 | false=>exact Wn h _
theorem w5q {g:Nat→List AVal} {r fo:Nat} {cs:List AVal} (h:Ji g=true) (hn:cs.all (pf 6)=true):Ji (Xp g r fo cs)=true:=Yu fun i=>by
 unfold Xp;cases Nat.beq i r with
 | true=>rw [Ag,List.all_append,List.all_append,v2h (Wn h r),hn,v2i (Wn h r)];rfl
 | false=>exact Wn h _
theorem y2t {P:Program} {S:Specs} (hS:Zw P S) {f:FuncId} {F:List AVal→Option (AVal×Bool)} (hf:(P.funcs[f]?).any (fun fn=>fn.body.isSome)=true)
  (hF: ∀args v,F args=some (v,true)→ ∃vs,(∀(ρ:Rho) (u:Value),Za ρ (Vt vs) u→Za ρ v u)∧Ws P (Zz P f) (Zj P f args true []) vs∧ ∃d,pf d (Vt vs)=true):Zw P (S.with f F):=by
 intro g G hg;unfold Specs.with at hg;cases hgf:Nat.beq g f with
 | false=>rw [hgf] at hg;exact hS g G hg
 | true=>
  rw [hgf] at hg;obtain rfl:Spec.val F=G:=Af hg;obtain rfl:g=f:=Ah hgf;refine ⟨?_,fun args v hv H vals w cY hH hG=> ?_⟩
  ·grind
  ·obtain ⟨vs,hw,⟨C',g1,g2,g3⟩,d,hp⟩:=hF args v hv;exact (goes_call hf g1 g2 (by rw [y7d];exact g3) cY hH hG).mono fun e w' ⟨ρ,u,he,ho⟩=>⟨ρ.fz,u,ho.le,ho.old,ho.same,he,hw _ _ (Vu d _ u hp ho.val),ho.below⟩
theorem w0u :Ji (fun _=>[])=true:=Yu fun _=>rfl
theorem x4b (s t:Nat):Ji (fun k=>(([]:List AVal).drop (k*s)).take t)=true:=Yu fun i=>by simp
theorem y0v {g:Nat→List AVal} {o:Nat} (h:Ji g=true):Ji (fun k=>g (o+k))=true:=Yu fun i=>Wn h (o+i)
theorem w5s {g h:Nat→List AVal} {len:Nat} (p:Ji g=true) (q:Ji h=true):Ji (Uy g len h)=true:=Yu fun i=>by
 unfold Uy;cases Nat.ble len i with
 | true=>exact Wn q _
 | false=>exact Wn p _
def y8y (sz n:Nat) (g:Nat→List AVal):Bool:=pd (∀i,i<n→(g i).length =sz∧(g i).all z2f=true)
open Go.Sort Go.RowKit
variable {P:Program} {ρ:Rho}
theorem Rel.rewritten {mem:Mem} {next:Nat} {w w':World} (h:Rel ρ mem next w) {b:Nat} {l:Loc} {ab:ABlk} (hb:ρ b=some l) (hm:Zt mem b=some ab) {cs:List AVal}
  (cW:cs.length=ab.cells.length) (dG: ∀k,k<w.heap.size→k≠l.blk→w'.heap[k]? =w.heap[k]?) (eQ:w.heap.size≤w'.heap.size)
  (hno:ab.isObj=false) (hnew: ∃cur el,w'.heap[l.blk]? =some (.cells cur el (0,0))∧(∀cur0 z,w.heap[l.blk]? =some (.cells cur0 ab.ty z)→el=ab.ty)∧l.base+l.tot≤cur.size∧ ∀(i:Nat) (hi:i<cs.length),∃v,cur[l.base+i]? =some v∧Za ρ cs[i] v):
  Rel ρ (Yr mem b (some ⟨cs,ab.ty,none⟩)) next w':=by
 have hbk:=(h.blk b l ab hb hm).at hno;refine ⟨h.dom,fun c c' m m' e e' he hs hs'=> ?_,fun c m ac e hc=> ?_,fun k o e=> ?_,fun c m e hs=>h.sep c m e (by
  grind [Zx]),fun c m e=>AP (h.real c m e) eQ,fun c hc=>by have:=h.dom b l hb;rw [Zx _ _ (by omega)];exact h.bd c hc,h.ldom⟩
 ·refine h.inj c c' m m' e e' he ?_ ?_;all_goals grind [Zx]
 ·by_cases hcb:c=b
  ·subst hcb;rw [Zd] at hc;obtain rfl:=Af hc;rw [hb] at e;obtain rfl:=Af e;obtain ⟨cur,el,n1,n2,n3,n4⟩:=hnew;obtain ⟨cur0,el0,o1,_⟩:=hbk.cells;have hel:=hbk.typ _ _ _ o1;subst hel;have:=n2 _ _ o1;exact .plain ⟨by rw [n1];grind,by rw [cW];exact hbk.n,hbk.tot,(fun A e=>by cases e),cur,el,n1,n3,n4⟩
  ·rw [Zx _ _ hcb] at hc;refine (h.blk c m ac e hc).world (Rho.le_refl _) (dG m.blk (h.real c m e) fun heq=>hcb ?_);exact h.inj c b m l e hb heq (by rw [hc];rfl) (by rw [hm];rfl)
 ·have hk:=h.old k o e;rw [dG k ?_ ?_]
  ·exact hk
  ·grind
  ·intro heq;have:=h.sep b l hb (by rw [hm];rfl)
   grind
def Yw (n:Nat) (c:Nat→Int):List Int:=(List.range n).map c
def fRow (srt:List Int→List Int) (args:List AVal) (mem:Mem):Option (AVal×Nat×ABlk×Bool):=match args with
 | [.sla b sz off n cap]=>match Zt mem b with
  | some ⟨_,ty,some A⟩=>some (.tup [],b,⟨rows A.n (y2h (z2b (srt (Yw n (cOf A.get))))),ty,some ⟨1,A.n,y2h (z2b (srt (Yw n (cOf A.get))))⟩⟩,
    Nat.beq sz 1&&(Nat.beq A.sz 1&&(Nat.beq off 0&&(decide (n=A.n)&&(isI A.get&&decide (n<4611686018427387904))))))
  | _=>none
 | _=>none
theorem Jz (n:Nat) (c:Nat→Int) (i:Nat) (h:i<n):(rows n (y2h c))[i]? =some (.int .i64 (c i)):=by
 have:=Xe (get:=y2h c) (sz:=1) n (fun _ _=>rfl) i 0 h Nat.one_pos
 simpa [y2h] using this
theorem Wt (n:Nat) (c:Nat→Int):(rows n (y2h c)).length =n:=by rw [Zh (sz:=1) n fun _ _=>rfl,Nat.mul_one]
theorem z1u (w:World) (n blk off:Nat) (d:Array Int) (os:Array Obj) (k:Nat) (hk:k<w.heap.size):
  (grow (putRow (Value.int .i64) (Go.Sort.ahead w n) blk off d) os).heap[k]? =if k=blk then (w.heap[k]?).map (onCells (putCells (Value.int .i64) off d)) else w.heap[k]? :=by
 show (((Go.Sort.ahead w n).heap.modify blk (onCells (putCells (Value.int .i64) off d)))++os)[k]? =_;rw [Array.getElem?_append_left (by simp_all),Array.getElem?_modify];show (if blk=k then _ else _)=_;by_cases h:k=blk
 ·simp_all
 ·rw [Ax (fun e=>h e.symm),Ax h];rfl
theorem Ev.rewritten {mem:Mem} {next floor:Nat} {w w':World} (h:Rel ρ mem next w) {b:Nat} (o:Option ABlk) (hb: ∀l,ρ b=some l→floor≤b) (hnone:ρ b=none→ ∀cs ty,Zt mem b≠some ⟨cs,ty,none⟩)
  (dG: ∀k,k<w.heap.size→(∀l,ρ b=some l→k≠l.blk)→w'.heap[k]? =w.heap[k]?) (eQ:w.heap.size≤w'.heap.size) (h1:w'.os=w.os) (h2:w'.tape=w.tape) (h3:w'.output=w.output):
  Ev ρ ρ floor mem next (Yr mem b o) next w w' where
 ext:=Rho.le_refl _
 new _ _:=rfl
 nxt:=Ao _
 unborn k _ e cs ty hm:=by
  grind [Zx]
 frame k o hk hfr:=by
  grind
 fresh k m hk e:=by have:=h.dom k m e;omega
 size:=eQ
 os:=h1
 tape:=h2
 output:=h3
 still _ _:=rfl
theorem Rel.unbornSet {mem:Mem} {next:Nat} {w:World} (h:Rel ρ mem next w) {b:Nat} (hb:ρ b=none) (hlt:b<next) (o:Option ABlk):Rel ρ (Yr mem b o) next w:=by
 have ne: ∀c l,ρ c=some l→c≠b:=fun c l e he=>by grind
 refine ⟨h.dom,fun c c' m m' e e' he hs hs'=> ?_,fun c m ac e hc=> ?_,h.old,fun c m e hs=> ?_,h.real,fun c hc=> ?_,h.ldom⟩
 ·rw [Zx _ _ (ne _ _ e)] at hs;rw [Zx _ _ (ne _ _ e')] at hs';exact h.inj c c' m m' e e' he hs hs'
 ·rw [Zx _ _ (ne _ _ e)] at hc;exact h.blk c m ac e hc
 ·rw [Zx _ _ (ne _ _ e)] at hs;exact h.sep c m e hs
 ·rw [Zx _ _ (by omega)];exact h.bd c hc
theorem u2h {f:FuncId} {srt:List Int→List Int} (hsl: ∀zs,(srt zs).length =zs.length)
  (hC: ∀(blk off cap:Nat) (zs:List Int) (w:World),Holds (Value.int .i64) w blk off zs.toArray→blk<w.heap.size→zs.length<4611686018427387904→
   Calls P f #[.slice (some ⟨blk,off,none⟩) zs.length cap] w fun e w'=>e=.returned (.tuple #[])∧ ∃n os,w'=grow (putRow (Value.int .i64) (Go.Sort.ahead w n) blk off (srt zs).toArray) os)
  (hN: ∀(p:Option Addr) (cap:Nat) (w:World),Calls P f #[.slice p 0 cap] w fun e w'=>e=.returned (.tuple #[])∧w'=w):y9t P f (fRow srt):=by
 intro args mem v b blk h eZ ρ next floor vals w hfl cY cV
 unfold fRow at h;split at h
 ·rename_i b0 sz off n cap;split at h
  ·rename_i cells ty A hm;obtain ⟨asz,an,get⟩:=A;simp only [Ab,Aa,Ac] at h;obtain ⟨rfl,rfl,rfl,h1,h2,h3,h4,h5,h6⟩:=h;have g1:=Ah h1;have g2:=Ah h2;have g3:=Ah h3;have g4:n=an:=As h4;have h6:n<4611686018427387904:=As h6;subst g1;subst g2;subst g3;subst g4;obtain ⟨c,hcg⟩:=x6w h5;have e0:cOf (y2h c)=c:=rfl;simp only [hcg,e0];obtain ⟨u,hu,eF⟩: ∃u,Za ρ (.sla b0 1 0 n cap) u∧vals= #[u]:=by
    obtain ⟨vl⟩:=vals;cases cY with
    | cons h1 h2=>cases h2;grind
   subst eF;have hlt:b0<next:=by
    rcases AV b0 next with h | h
    ·exact h
    ·have:=cV.bd b0 h;grind
   generalize hL:srt (Yw n c)=L;have hLl:L.length=n:=by grind [Yw]
   have hnn:ρ b0=none→ ∀cs ty',Zt mem b0≠some ⟨cs,ty',none⟩:=fun _ cs ty' e=>by grind
   cases hu with
   | sla _ _ _ _ _ l cc e hc cW=>
    have hbk:=(cV.blk b0 l _ e hm).rows rfl;obtain ⟨har,_,_⟩:=hbk.arr _ rfl;simp only [hcg] at har;subst har;obtain ⟨cur,el,hh,hsz,dA⟩:=hbk.cells;simp only [Wt] at dA;have dS: ∀i,i<n→cur[l.base+i]? =some (.int .i64 (c i)):=fun i hi=>by obtain ⟨v,e1,e2⟩:=dA i hi;rw [show (rows n (y2h c))[i]'(by grind)=.int .i64 (c i) from Af (by rw [←Ar,Jz n c i hi])] at e2;cases e2;exact e1
    have eA:=cV.real b0 l e;have hzs:(Yw n c).length =n:=(by grind);have hH:Holds (Value.int .i64) w l.blk (l.base+0*1) (Yw n c).toArray :=fun j hj=>by
     grind [World.cell?,Yw,World.frozen?]
    have dI:=hC l.blk (l.base+0*1) cc (Yw n c) w hH eA (by omega);rw [hzs,hL] at dI;refine dI.mono fun e' w' ⟨he,q,os,hw'⟩=>⟨_,he,?_,?_,?_⟩
    ·exact .tup [] #[] rfl fun i h1 h2=>absurd h1 (AA _)
    ·subst hw';refine Rel.setArr ?_ ⟨1,n,y2h (z2b L)⟩ (z1t _ _) rfl (Ao 1) fun _ _=>rfl;refine Rel.rewritten cV e hm (by simp only [Wt]) (fun k hk hne=> ?_) ?_ hbk.noObj ?_
     ·grind [z1u]
     ·simp_all
     ·refine ⟨putCells (Value.int .i64) (l.base+0*1) L.toArray cur,el,?_,fun _ _ _=>hbk.typ _ _ _ hh,?_,fun i hi=> ?_⟩
      ·rw [z1u _ _ _ _ _ _ _ eA,AD rfl,hh];rfl
      ·grind [putCells]
      ·rw [Wt] at hi;refine ⟨.int .i64 (z2b L i),?_,?_⟩
       ·grind [putCells,z2b]
       ·rw [show (rows n (y2h (z2b L)))[i]'(by grind)=.int .i64 (z2b L i) from Af (by rw [←Ar,Jz n _ i hi])];exact .int _ _
    ·subst hw';refine Ev.rewritten cV _ (fun l' _=>hfl) hnn (fun k hk hne=> ?_) ?_ rfl rfl rfl
     ·grind [z1u]
     simp_all
   | slan=>
    refine (hN none 0 w).mono fun e' w' ⟨he,hw'⟩=>⟨_,he,?_,?_,?_⟩
    ·exact .tup [] #[] rfl fun i h1 h2=>absurd h1 (AA _)
    ·subst hw';refine Rel.setArr ?_ ⟨1,0,y2h (z2b L)⟩ (z1t _ _) rfl (Ao 1) fun _ _=>rfl;cases e:ρ b0 with
     | none=>exact Rel.unbornSet cV e hlt _
     | some l=>have hbk:=(cV.blk b0 l _ e hm).rows rfl;obtain ⟨har,_,_⟩:=hbk.arr _ rfl;simp only [hcg] at har;subst har;obtain ⟨cur,el,hh,hsz,dA⟩:=hbk.cells;exact Rel.rewritten cV e hm rfl (fun _ _ _=>rfl) (Ao _) hbk.noObj ⟨cur,el,hh,fun _ _ _=>hbk.typ _ _ _ hh,hsz,fun i hi=>absurd hi (AA _)⟩
    grind [Ev.rewritten]
  ·cases h
 ·cases h
def fCut (srt:List Int→List Int) (res:List Int→Nat) (args:List AVal) (mem:Mem):Option (AVal×Nat×ABlk×Bool):=match args with
 | [.sla b sz off n cap]=>match Zt mem b with
  | some ⟨_,ty,some A⟩=>some (.sla b 1 0 (res (Yw n (cOf A.get))) cap,b,⟨rows A.n (y2h (z2b (srt (Yw n (cOf A.get))))),ty,some ⟨1,A.n,y2h (z2b (srt (Yw n (cOf A.get))))⟩⟩,
    Nat.beq sz 1&&(Nat.beq A.sz 1&&(Nat.beq off 0&&(decide (n=A.n)&&(isI A.get&&decide (n<4611686018427387904))))))
  | _=>none
 | _=>none
theorem u2i {f:FuncId} {srt:List Int→List Int} {res:List Int→Nat} (hsl: ∀zs,(srt zs).length =zs.length) (eX: ∀zs,res zs≤zs.length)
  (hC: ∀(blk off cap:Nat) (zs:List Int) (w:World),Holds (Value.int .i64) w blk off zs.toArray→blk<w.heap.size→zs.length<4611686018427387904→zs.length≤cap→
   Calls P f #[.slice (some ⟨blk,off,none⟩) zs.length cap] w fun e w'=>e=.returned (.slice (some ⟨blk,off,none⟩) (res zs) cap)∧ ∃n os,w'=grow (putRow (Value.int .i64) (Go.Sort.ahead w n) blk off (srt zs).toArray) os)
  (hN: ∀(p:Option Addr) (cap:Nat) (w:World),Calls P f #[.slice p 0 cap] w fun e w'=>e=.returned (.slice p 0 cap)∧w'=w):y9t P f (fCut srt res):=by
 intro args mem v b blk h eZ ρ next floor vals w hfl cY cV
 unfold fCut at h;split at h
 ·rename_i b0 sz off n cap;split at h
  ·rename_i cells ty A hm;obtain ⟨asz,an,get⟩:=A;simp only [Ab,Aa,Ac] at h;obtain ⟨rfl,rfl,rfl,h1,h2,h3,h4,h5,h6⟩:=h;have g1:=Ah h1;have g2:=Ah h2;have g3:=Ah h3;have g4:n=an:=As h4;have h6:n<4611686018427387904:=As h6;subst g1;subst g2;subst g3;subst g4;obtain ⟨c,hcg⟩:=x6w h5;have e0:cOf (y2h c)=c:=rfl;simp only [hcg,e0];obtain ⟨u,hu,eF⟩: ∃u,Za ρ (.sla b0 1 0 n cap) u∧vals= #[u]:=by
    obtain ⟨vl⟩:=vals;cases cY with
    | cons h1 h2=>cases h2;grind
   subst eF;have hlt:b0<next:=by
    rcases AV b0 next with h | h
    ·exact h
    ·have:=cV.bd b0 h;grind
   generalize hL:srt (Yw n c)=L;have hLl:L.length=n:=by grind [Yw]
   have hnn:ρ b0=none→ ∀cs ty',Zt mem b0≠some ⟨cs,ty',none⟩:=fun _ cs ty' e=>by grind
   cases hu with
   | sla _ _ _ _ _ l cc e hc cW=>
    have hbk:=(cV.blk b0 l _ e hm).rows rfl;obtain ⟨har,_,_⟩:=hbk.arr _ rfl;simp only [hcg] at har;subst har;obtain ⟨cur,el,hh,hsz,dA⟩:=hbk.cells;simp only [Wt] at dA;have dS: ∀i,i<n→cur[l.base+i]? =some (.int .i64 (c i)):=fun i hi=>by obtain ⟨v,e1,e2⟩:=dA i hi;rw [show (rows n (y2h c))[i]'(by grind)=.int .i64 (c i) from Af (by rw [←Ar,Jz n c i hi])] at e2;cases e2;exact e1
    have eA:=cV.real b0 l e;have hzs:(Yw n c).length =n:=(by grind);have hH:Holds (Value.int .i64) w l.blk (l.base+0*1) (Yw n c).toArray :=fun j hj=>by
     grind [World.cell?,Yw,World.frozen?]
    have dI:=hC l.blk (l.base+0*1) cc (Yw n c) w hH eA (by omega) (by omega);rw [hzs,hL] at dI;refine dI.mono fun e' w' ⟨he,q,os,hw'⟩=>⟨_,he,?_,?_,?_⟩
    ·exact .sla _ _ _ _ _ l cc e hc (AG (eX _) (by omega))
    ·subst hw';refine Rel.setArr ?_ ⟨1,n,y2h (z2b L)⟩ (z1t _ _) rfl (Ao 1) fun _ _=>rfl;refine Rel.rewritten cV e hm (by simp only [Wt]) (fun k hk hne=> ?_) ?_ hbk.noObj ?_
     ·grind [z1u]
     ·simp_all
     ·refine ⟨putCells (Value.int .i64) (l.base+0*1) L.toArray cur,el,?_,fun _ _ _=>hbk.typ _ _ _ hh,?_,fun i hi=> ?_⟩
      ·rw [z1u _ _ _ _ _ _ _ eA,AD rfl,hh];rfl
      ·grind [putCells]
      ·rw [Wt] at hi;refine ⟨.int .i64 (z2b L i),?_,?_⟩
       ·grind [putCells,z2b]
       ·rw [show (rows n (y2h (z2b L)))[i]'(by grind)=.int .i64 (z2b L i) from Af (by rw [←Ar,Jz n _ i hi])];exact .int _ _
    ·subst hw';refine Ev.rewritten cV _ (fun l' _=>hfl) hnn (fun k hk hne=> ?_) ?_ rfl rfl rfl
     ·grind [z1u]
     simp_all
   | slan=>
    refine (hN none 0 w).mono fun e' w' ⟨he,hw'⟩=>⟨_,he,?_,?_,?_⟩
    ·rw [show res (Yw 0 c)=0 from Nat.le_zero.1 (eX _)];exact .slan _ _ _ _
    ·subst hw';refine Rel.setArr ?_ ⟨1,0,y2h (z2b L)⟩ (z1t _ _) rfl (Ao 1) fun _ _=>rfl;cases e:ρ b0 with
     | none=>exact Rel.unbornSet cV e hlt _
     | some l=>have hbk:=(cV.blk b0 l _ e hm).rows rfl;obtain ⟨har,_,_⟩:=hbk.arr _ rfl;simp only [hcg] at har;subst har;obtain ⟨cur,el,hh,hsz,dA⟩:=hbk.cells;exact Rel.rewritten cV e hm rfl (fun _ _ _=>rfl) (Ao _) hbk.noObj ⟨cur,el,hh,fun _ _ _=>hbk.typ _ _ _ hh,hsz,fun i hi=>absurd hi (AA _)⟩
    grind [Ev.rewritten]
  ·cases h
 ·cases h
def q4 (f:Nat→Nat→Int):Nat→List AVal:=fun k=>[.int .i64 (f k 0),.int .i64 (f k 1),.int .i64 (f k 2),.int .i64 (f k 3)]
theorem y8b (a:Nat):(Nat.beq a a == true)=true:=by simp_all
inductive VP where
 | keep
 | drop
  | grow (b sz:Nat)
  | list (n:Nat) (g:Nat→List AVal)
  | len (n:Nat)
  | frz (n n':Nat) (a g:Nat→List AVal)
def Vf (n:Nat) (a g:Nat→List AVal):Bool:=pd (∀i,i<n→a i=g i)
def x1e (cells:List AVal) (sz n:Nat) (g:Nat→List AVal):Bool:=pd (cells=rows n g∧1≤sz∧ ∀i,i<n→(g i).length =sz)
def rlesR (n:Nat) (a g:Nat→List AVal):Bool:=pd (∀i,i<n→RLe (a i) (g i))
def y5m (a b:Nat):Bool:=pd (a=b)
theorem Kj {a b:Nat} (h:a=b):y5m a b=true:=Yu h
def w5m (v:AVal) (n:Nat) (a:Nat→List AVal):Bool:=pd (v=.dat n a)
theorem v1c (sz n:Nat) (g:Nat→List AVal):w5m (y5s sz sz 0 n n g) n g=true:=Yu (v9v sz n g)
theorem w5l (n:Nat) (g:Nat→List AVal):w5m (.dat n g) n g=true:=Yu rfl
def y8g :VP→AVal→Bool→AVal×Bool
 | .keep,v,ob=>(v,ob)
 | .drop,_,ob=>(.undef,ob)
 | .grow b sz,v,ob=>match v with
  | .nils =>(.sla b sz 0 0 (.un sz),ob)
  | .sl b o len cap=>(.sla b sz 0 len cap,Nat.beq o 0&&ob)
  | v=>(v,ob)
 | .list n' g,v,ob=>match v with
  | .nils =>(.dat 0 g,ob)
  | .dat n a=>(.dat n' g,y5m n n'&&(Vf n a g&&ob))
  | v=>(v,ob)
 | .len n',v,ob=>match v with
  | .sla b sz off n cap=>(.sla b sz off n' cap,y5m n n'&&ob)
  | v=>(v,ob)
 | .frz n n' a g,v,ob=>(.dat n' g,w5m v n a&&(y5m n n'&&(Vf n a g&&ob)))
theorem x6r {p:VP} {v:AVal} {ob:Bool} (h:(y8g p v ob).2=true):VLe v (y8g p v ob).1∧ob=true:=by
 cases p with
 | keep=>exact ⟨.refl _,h⟩
 | drop=>exact ⟨.undef _,h⟩
 | grow b sz=>
  cases v with
  | nils=>exact ⟨.nils _ _ _ _,h⟩
  | sl b' o len cap=>simp only [y8g,Ac] at h;have e:=Ah h.1;subst e;have:=VLe.sl b' sz 0 len cap;rw [Nat.zero_mul] at this;exact ⟨this,h.2⟩
  | _=>exact ⟨.refl _,h⟩
 | list n' g=>
  cases v with
  | nils=>exact ⟨.nild _,h⟩
  | dat n a=>simp only [y8g,Ac] at h;obtain rfl:=Wn h.1;exact ⟨.dat _ _ _ (Wn h.2.1),h.2.2⟩
  | _=>exact ⟨.refl _,h⟩
 | len n'=>
  cases v with
  | sla b sz off n cap=>simp only [y8g,Ac] at h;obtain rfl:=Wn h.1;exact ⟨.refl _,h.2⟩
  | _=>exact ⟨.refl _,h⟩
 | frz n n' a g=>simp only [y8g,Ac] at h;obtain rfl:=Wn h.1;obtain rfl:=Wn h.2.1;exact ⟨.dat _ _ _ (Wn h.2.2.1),h.2.2.2⟩
def y3h :List VP→List AVal→Bool→List AVal×Bool
 | _,[],ob=>([],ob)
 | [],l,ob=>(l,ob)
 | p::ps,v::l,ob=>match y3h ps l ob with
  | (l',ob)=>match y8g p v ob with
   | (v',ob)=>(v'::l',ob)
theorem y0k : ∀{ps:List VP} {l:List AVal} {ob:Bool},(y3h ps l ob).2=true→RLe l (y3h ps l ob).1∧ob=true
 | [],[],_,h=>⟨.nil,h⟩
 | _::_,[],_,h=>⟨.nil,h⟩
 | [],a::l,_,h=>⟨RLe.refl _,h⟩
 | p::ps,v::l,ob,h=>by simp only [y3h] at h ⊢;obtain ⟨h1,h2⟩:=x6r h;obtain ⟨h3,h4⟩:=y0k h2;exact ⟨.cons h1 h3,h4⟩
inductive BP where
 | keep
 | drop
 | cells (ps:List VP)
 | rowed (sz n:Nat) (g:Nat→List AVal)
 | rws (a:Rws)
def v9e :List AVal→List AVal→TypeId→Option ABlk
 | .obj o::_,_::r,ty=>some ⟨.obj o::r,ty,none⟩
 | .obj _::_,[],_=>none
 | _,cs,ty=>some ⟨cs,ty,none⟩
def v9f (cells:List AVal):List AVal→TypeId→Option ABlk
 | .dat n g::r,ty=>some ⟨.dat n g::r,ty,none⟩
 | cs,ty=>v9e cells cs ty
def y2g :BP→Option ABlk→Bool→Option ABlk×Bool
 | .keep,o,ob=>(o,ob)
 | .drop,_,ob=>(none,ob)
 | .cells ps,o,ob=>match o with
  | some ⟨cells,ty,none⟩=>match y3h ps cells ob with
   | (cs,ob)=>(v9f cells cs ty,ob)
  | o=>(o,ob)
 | .rowed sz n g,o,ob=>match o with
  | some ⟨cells,ty,none⟩=>(bif (⟨cells,ty,none⟩:ABlk).isObj then none else some ⟨rows n g,ty,some ⟨sz,n,.flat g⟩⟩,x1e cells sz n g&&ob)
  | some ⟨_,ty,some ⟨sz',n',a⟩⟩=>(some ⟨rows n g,ty,some ⟨sz',n,.flat g⟩⟩,y5m n' n&&(Vf n' a.get g&&ob))
  | o=>(o,ob)
 | .rws a',o,ob=>match o with
  | some ⟨_,ty,some ⟨sz,n,a⟩⟩=>(some ⟨rows n a'.get,ty,some ⟨sz,n,a'⟩⟩,rlesR n a.get a'.get&&ob)
  | o=>(o,ob)
theorem RLe.sound {ρ:Rho} {l m:List AVal} (h:RLe l m) (i:Nat) (h1:i<l.length) (h2:i<m.length) {v:Value} (hv:Za ρ l[i] v):Za ρ m[i] v:=(h.get i h1 h2).sound hv
theorem w4p (cells:List AVal) (ty:TypeId) (A:Arr):(⟨cells,ty,some A⟩:ABlk).isObj =false:=by
 unfold ABlk.isObj;split
 ·rename_i e;cases e
 ·rfl
theorem x2z {p:BP} {o:Option ABlk} {ob:Bool} {x':ABlk} (h:(y2g p o ob).2=true) (hx:(y2g p o ob).1=some x'):ob=true∧ ∃x,o=some x∧ ∀(ρ:Rho) (w:World) (l:Loc),Xq ρ w x l→Xq ρ w x' l:=by
 cases p with
 | keep=>exact ⟨h,x',hx,fun _ _ _ q=>q⟩
 | drop=>cases hx
 | cells ps=>
  rcases o with _ | ⟨cells,ty,_ | A⟩
  ·cases hx
  ·simp only [y2g] at h hx;obtain ⟨h1,h2⟩:=y0k h;refine ⟨h2,_,rfl,fun ρ w l hb=> ?_⟩;generalize (y3h ps cells ob).1=cs' at hx h1;cases hb with
   | obj o r ty' e1 e2 e3=>
    simp only [ABlk.mk.injEq] at e1;obtain ⟨rfl,rfl,_⟩:=e1;cases h1 with
    | cons ha hr=>
    rename_i c0 r';have hx:v9e (.obj o::r) (c0::r') ty=some x':=by
     unfold v9f at hx;split at hx
     ·rename_i e;rw [Bc] at e;obtain ⟨rfl,_⟩:=e;cases ha
     ·exact hx
    obtain rfl:=Af hx;refine .obj o r' ty rfl (by rw [e2,RLe.len hr]) ?_;cases o with
    | mi ml=>obtain ⟨rfl,k⟩:=e3;cases hr;exact ⟨rfl,k⟩
    | mb ml=>obtain ⟨rfl,k⟩:=e3;cases hr;exact ⟨rfl,k⟩
    | it s pos=>obtain ⟨rfl,k⟩:=e3;cases hr;exact ⟨rfl,k⟩
    | bld=>
     obtain ⟨buf,v,p,rfl,k1,k2,k3⟩:=e3;cases hr with
     | cons hb0 hr0=>
     cases hr0;exact ⟨_,v,p,rfl,k1,hb0.sound k2,k3⟩
   | plain hb=>
   have hno:=hb.noObj;have hx:some (⟨cs',ty,none⟩:ABlk)=some x':=by
    unfold v9f at hx;split at hx
    ·exact hx
    ·unfold v9e at hx;split at hx
     ·cases hno
     ·cases hno
     ·exact hx
   obtain rfl:=Af hx;obtain ⟨cs,el,g1,g2,g3⟩:=hb.cells;refine .plain ⟨hb.typ,by rw [hb.n];exact h1.len,hb.tot,(fun A hA=>by cases hA),cs,el,g1,g2,fun i hi=> ?_⟩;have hi0:i<cells.length:=by rw [h1.len];exact hi
   obtain ⟨v,q1,q2⟩:=g3 i hi0;exact ⟨v,q1,h1.sound i hi0 hi q2⟩
  ·exact ⟨h,_,rfl,fun ρ w l hb=>by obtain rfl:=Af hx;exact hb⟩
 | rowed sz n g=>
  rcases o with _ | ⟨cells,ty,_ | ⟨sz',n',a⟩⟩
  ·cases hx
  ·simp only [y2g,Ac] at h hx;obtain ⟨hno,hx⟩:=y3x hx;obtain rfl:=Af hx;obtain ⟨h1,h2,h3⟩:=Wn h.1;exact ⟨h.2,_,rfl,fun ρ w l hb=>(BLe.rowed cells ty none sz n g hno h1 h2 h3).sound hb⟩
  ·simp only [y2g,Ac] at h hx;obtain rfl:=Af hx;obtain rfl:=Wn h.1;have h1:=Wn h.2.1;refine ⟨h.2.2,_,rfl,fun ρ w l hb=> ?_⟩;obtain ⟨q1,q2,q3⟩:=hb.arr _ rfl;exact (BLe.rowed cells ty _ sz' n' g (w4p _ _ _) (q1.trans (z6j _ h1)) q2 fun i hi=>by rw [←h1 i hi];exact q3 i hi).sound hb
 | rws a'=>
  rcases o with _ | ⟨cells,ty,_ | ⟨sz',n',a⟩⟩
  ·cases hx
  ·exact ⟨h,_,rfl,fun ρ w l hb=>by obtain rfl:=Af hx;exact hb⟩
  ·simp only [y2g,Ac] at h hx;obtain rfl:=Af hx;refine ⟨h.2,_,rfl,fun ρ w l hb=> ?_⟩;obtain ⟨q1,_,_⟩:=hb.arr _ rfl;have q1:cells=rows n' a.get:=q1;subst q1;exact (BLe.rws ty sz' n' a a' (Wn h.1)).sound hb
def w0a :List (Nat×VP)→T AVal→Bool→T AVal×Bool
 | [],env,ob=>(env,ob)
 | (t,p)::l,env,ob=>match w0a l env ob with
  | (e,ob)=>match y8g p (T.get .undef e t) ob with
   | (v,ob)=>(T.set .undef e t v,ob)
def ELe (e e':T AVal):Prop:= ∀t,(∀(ρ:Rho) (v:Value),Za ρ (T.get .undef e t) v→Za ρ (T.get .undef e' t) v)∧(T.get .undef e t=.undef →T.get .undef e' t=.undef)
theorem ELe.refl (e:T AVal):ELe e e:=fun _=>⟨fun _ _ h=>h,fun h=>h⟩
theorem y5l : ∀{l:List (Nat×VP)} {env:T AVal} {ob:Bool},(w0a l env ob).2=true→ELe env (w0a l env ob).1∧ob=true
 | [],_,_,h=>⟨ELe.refl _,h⟩
 | (t,p)::l,env,ob,h=>by
  simp only [w0a] at h ⊢;obtain ⟨h1,h2⟩:=x6r h;obtain ⟨h3,h4⟩:=y5l h2;refine ⟨fun s=> ?_,h4⟩;rw [T.get_set];by_cases e:s=t
  ·subst e;rw [AD rfl];exact ⟨fun ρ v hv=>h1.sound ((h3 s).1 ρ v hv),fun hu=>by have e:=(h3 s).2 hu;rw [e] at h1 ⊢;exact h1.of_undef⟩
  ·rw [Ax e];exact h3 s
def x2y :List BP→Nat→Mem→Bool→Mem×Bool
 | [],_,m,ob=>(m,ob)
 | p::ps,i,m,ob=>match x2y ps (i+1) m ob with
  | (m',ob)=>match y2g p (Zt m i) ob with
   | (x,ob)=>(Yr m' i x,ob)
theorem v0k {p:BP} {o:Option ABlk} {ob:Bool} (h:(y2g p o ob).2=true):ob=true:=by
 cases p with
 | keep=>exact h
 | drop=>exact h
 | cells ps=>
  rcases o with _ | ⟨cells,ty,_ | A⟩
  ·exact h
  ·exact (y0k h).2
  ·exact h
 | rowed sz n g=>
  rcases o with _ | ⟨cells,ty,_ | A⟩;all_goals simp_all [y2g]
 | rws a=>
  rcases o with _ | ⟨cells,ty,_ | A⟩;all_goals simp_all [y2g]
theorem y3i : ∀{ps:List BP} {i:Nat} {m:Mem} {ob:Bool},(x2y ps i m ob).2=true→ob=true∧ ∀b x',Zt (x2y ps i m ob).1 b=some x'→ ∃x,Zt m b=some x∧ ∀(ρ:Rho) (w:World) (l:Loc),Xq ρ w x l→Xq ρ w x' l
 | [],_,_,_,h=>⟨h,fun b x' hb=>⟨x',hb,fun _ _ _ q=>q⟩⟩
 | p::ps,i,m,ob,h=>by
  simp only [x2y] at h ⊢;have hob:(x2y ps (i+1) m ob).2=true:=v0k h;obtain ⟨h1,h2⟩:=y3i hob;refine ⟨h1,fun b x' hb=> ?_⟩;rw [Xi] at hb;by_cases e:b=i
  ·subst e;rw [AD rfl] at hb;exact (x2z h hb).2
  ·rw [Ax e] at hb;exact h2 b x' hb
def x9z :List (List (Nat×VP))→List AFr→Bool→List AFr×Bool
 | _,[],ob=>([],ob)
 | [],l,ob=>(l,ob)
 | p::ps,⟨cx,ro,todo,rnd,rs,env⟩::l,ob=>match x9z ps l ob with
  | (l',ob)=>match w0a p env ob with
   | (e,ob)=>(⟨cx,ro,todo,rnd,rs,e⟩::l',ob)
def FLe (a a':AFr):Prop:=a.cx=a'.cx∧a.ro=a'.ro∧a.todo=a'.todo∧a.rnd=a'.rnd∧a.rs=a'.rs∧ELe a.env a'.env
theorem FLe.refl (a:AFr):FLe a a:=⟨rfl,rfl,rfl,rfl,rfl,ELe.refl _⟩
theorem Xo.refl' : ∀l:List AFr,Xo FLe l l
 | []=>.nil
 | a::l=>.cons (FLe.refl a) (Xo.refl' l)
theorem x6s : ∀{ps:List (List (Nat×VP))} {l:List AFr} {ob:Bool},(x9z ps l ob).2=true→Xo FLe l (x9z ps l ob).1∧ob=true
 | [],[],_,h=>⟨.nil,h⟩
 | _::_,[],_,h=>⟨.nil,h⟩
 | [],a::l,_,h=>⟨Xo.refl' _,h⟩
 | p::ps,⟨cx,ro,todo,rnd,rs,env⟩::l,ob,h=>by simp only [x9z] at h ⊢;obtain ⟨h1,h2⟩:=y5l h;obtain ⟨h3,h4⟩:=x6s h2;exact ⟨.cons ⟨rfl,rfl,rfl,rfl,rfl,h1⟩ h3,h4⟩
structure Less where
 slots:List (Nat×VP):=[]
 blks:List BP:=[]
 cs:List (List (Nat×VP)):=[]
def w0c (L:Less):Cfg→Cfg
 | ⟨cx,ro,todo,rnd,rs,⟨env,mem,next,orc,ob⟩,cs,lps⟩=>match x9z L.cs cs ob with
  | (cs',ob)=>match x2y L.blks 0 mem ob with
   | (mem',ob)=>match w0a L.slots env ob with
    | (env',ob)=>⟨cx,ro,todo,rnd,rs,⟨env',mem',next,orc,ob⟩,cs',lps⟩
def y8v :List (TypeId×Nat×(Nat→List AVal))→Nat→Mem→Mem
 | [],_,m=>m
 | (ty,sz,g)::l,i,m=>Yr (y8v l (i+1) m) i (some ⟨[],ty,some ⟨sz,0,.flat g⟩⟩)
def x6y (gs:List (TypeId×Nat×(Nat→List AVal))):Cfg→Cfg
 | ⟨cx,ro,todo,rnd,rs,⟨env,mem,next,orc,ob⟩,cs,lps⟩=>⟨cx,ro,todo,rnd,rs,⟨env,y8v gs next mem,next+gs.length,orc,ob⟩,cs,lps⟩
theorem z6q : ∀(gs:List (TypeId×Nat×(Nat→List AVal))) (i:Nat) (m:Mem) (b:Nat),(b<i→Zt (y8v gs i m) b=Zt m b)∧(i+gs.length≤b→Zt (y8v gs i m) b=Zt m b)
 | [],i,m,b=>⟨fun _=>rfl,fun _=>rfl⟩
 | (ty,sz,g)::l,i,m,b=>by obtain ⟨h1,h2⟩:=z6q l (i+1) m b;simp only [y8v,Xi,AQ];exact ⟨fun h=>by rw [Ax (by omega)];exact h1 (by omega),fun h=>by rw [Ax (by omega)];exact h2 (by omega)⟩
theorem w2c.less {P:Program} {ρ:Rho} {cs:List AFr} {css:List Frame} {mss:List Nat} (h:w2c P ρ cs css mss): ∀{cs':List AFr},Xo FLe cs cs'→w2c P ρ cs' css mss:=by
 induction h with
 | nil=>intro cs' h;cases h;exact .nil
 | @cons af b a k ms cs css mss hf hl t ih=>
  intro cs' h;cases h with
  | @cons _ af' _ cs'' h1 h2=>
   obtain ⟨e1,e2,e3,e4,e5,e6⟩:=h1;have hne:cs''≠ []→cs≠ []:=fun hn he=>by subst he;cases h2;exact hn rfl
   rw [show Xh af.ro k=Xh af'.ro k by rw [e2]];exact .cons ⟨by rw [←e1];exact ⟨hf.env.size,fun t=>(e6 t).1 _ _ (hf.env.get t),fun t ht=>(e6 t).2 (hf.env.out t ht)⟩,hf.defers,by rw [←e3];exact hf.todo,by rw [←e2];exact hf.ro,by rw [←e4];exact hf.rnd⟩
    (fun hn=>by grind) (ih h2)
theorem z6p {P:Program} {cx:Ctx} {ro:Option RegOps} {todo:List Item} {rnd:Option Nat} {rs:List ResultVar} {env env':T AVal} {mem mem':Mem} {k k':Nat} {o o':List Bool} {b0 b0':Bool} {cs cs':List AFr} {lps:Loops}
  (hE:ELe env env') (hC:Xo FLe cs cs') (hM: ∀b x',b<k→Zt mem' b=some x'→ ∃x,Zt mem b=some x∧ ∀(ρ:Rho) (w:World) (l:Loc),Xq ρ w x l→Xq ρ w x' l) (hk:k≤k') (hbd:(∀b,k≤b→Zt mem b=none)→ ∀b,k'≤b→Zt mem' b=none):
  z8d P ⟨cx,ro,todo,rnd,rs,⟨env,mem,k,o,b0⟩,cs,lps⟩ ⟨cx,ro,todo,rnd,rs,⟨env',mem',k',o',b0'⟩,cs',lps⟩:=
 fun H w0 ρ b a t css w ma mb hs he cs0=>by
  have hr:=hs.rel;simp only at hr he;have hne:cs'≠ []→cs≠ []:=fun hn e=>by subst e;cases hC;exact hn rfl
  refine ⟨ρ,b,a,t,css,w,ma,mb,Steps.refl _ _,⟨⟨?_,hs.top.defers,hs.top.todo,hs.top.ro,hs.top.rnd⟩,fun hn=>hs.lv (hne hn),⟨hs.rest.cs.less hC,hs.rest.nodup,hs.rest.marks,hs.rest.loops,hs.rest.inj⟩,?_⟩,?_,rfl,Ao _⟩
  ·exact ⟨hs.top.env.size,fun t=>(hE t).1 _ _ (hs.top.env.get t),fun t ht=>(hE t).2 (hs.top.env.out t ht)⟩
  ·have lift: ∀c l,ρ c=some l→(Zt mem' c).isSome =true→(Zt mem c).isSome =true:=fun c l hc h=>by obtain ⟨x,hx⟩:=BG.1 h;obtain ⟨y,hy,_⟩:=hM c x (hr.dom c l hc) hx;rw [hy];rfl
   refine ⟨fun c l hc=>AP (hr.dom c l hc) hk,fun c c' l l' hc hc' hl h1 h2=>hr.inj c c' l l' hc hc' hl (lift c l hc h1) (lift c' l' hc' h2),fun c l ab hc h1=> ?_,hr.old,fun c l hc h1=>hr.sep c l hc (lift c l hc h1),hr.real,hbd hr.bd,fun j l hj=>AP (hr.ldom.1 j l hj) hk,hr.ldom.2⟩;obtain ⟨y,hy,h2⟩:=hM c ab (hr.dom c l hc) h1;exact h2 _ _ _ (hr.blk c l y hc hy)
  ·exact ⟨he.ext,fun _ hb=>absurd hb (AA _),AE _,fun _ hb=>absurd hb (AA _),he.frame,he.fresh,he.size,he.os,he.tape,he.output,he.still⟩
theorem w0b {P:Program} {L:Less} {C:Cfg} (ho:(w0c L C).st.ob =true):C.st.ob=true∧z8d P C (w0c L C):=by
 obtain ⟨cx,ro,todo,rnd,rs,⟨env,mem,next,orc,ob⟩,cs,lps⟩:=C;simp only [w0c] at ho ⊢;obtain ⟨h1,h2⟩:=y5l ho;obtain ⟨h3,h4⟩:=y3i h2;obtain ⟨h5,h6⟩:=x6s h3;refine ⟨h6,z6p h1 h5 (fun b x' _ hb=>h4 b x' hb) (Ao _) fun hbd b hb=> ?_⟩;cases hq:Zt (x2y L.blks 0 mem (x9z L.cs cs ob).2).1 b with
 | none=>rfl
 | some x'=>
  grind
theorem x3r {P:Program} (gs:List (TypeId×Nat×(Nat→List AVal))) (C:Cfg):z8d P C (x6y gs C)∧(x6y gs C).st.ob =C.st.ob:=by
 obtain ⟨cx,ro,todo,rnd,rs,⟨env,mem,next,orc,ob⟩,cs,lps⟩:=C;exact ⟨z6p (ELe.refl _) (Xo.refl' _) (fun b x' hb h=>⟨x',by grind [z6q],fun _ _ _ q=>q⟩) (Nat.le_add_right _ _) fun hbd b hb=>by
  rw [(z6q gs next mem b).2 hb];grind,rfl⟩
theorem w0m {P:Program} {C C':Cfg} {orc:List Bool} {ob:Bool} (g:z8d P (C.withO orc) (C'.withB ob)):z8d P C C':=by
 obtain ⟨cx,ro,todo,rnd,rs,⟨env,mem,next,o,b⟩,cs,lps⟩:=C;obtain ⟨cx',ro',todo',rnd',rs',⟨env',mem',next',o',b'⟩,cs',lps'⟩:=C';exact fun H w0 ρ b a k css w ma mb hs he cs0=>by obtain ⟨ρ',b',a',k',css',w',ma',mb',h1,h2,h3,h4⟩:=g H w0 ρ b a k css w ma mb ⟨hs.top,hs.lv,hs.rest,hs.rel⟩ he cs0;exact ⟨ρ',b',a',k',css',w',ma',mb',h1,⟨h2.top,h2.lv,h2.rest,h2.rel⟩,h3,h4⟩
theorem w7j {P:Program} {S:Specs} (hN:z2c P) (hmx:P.follows .mixedOrders =true) (hS:Zw P S) {n m d:Nat} {C C':Cfg} (gs:List (TypeId×Nat×(Nat→List AVal))) (N:z6h) (L:Less) (orc:List Bool) (ob:Bool)
  (h:(((v0s P S (v6u P S m d) n (C.withO orc)).map (x6y gs)).bind (w9u P N)).map (w0c L)=some (C'.withB ob)) (ho:ob=true) (hfl:fl0 C=true):z8d P C C':=by
 rw [Aj] at h;obtain ⟨C2,h1,h2⟩:=h;rw [Option.bind_eq_some_iff] at h1;obtain ⟨C1,h3,h4⟩:=h1;rw [Aj] at h3;obtain ⟨C0,h5,rfl⟩:=h3;have hfo:fl0 (C.withO orc)=true:=by obtain ⟨cx,ro,todo,rnd,rs,⟨env,mem,next,o,b⟩,cs,lps⟩:=C;exact hfl
 obtain ⟨hCI,hC⟩:=w3h hN hmx hS m d;obtain ⟨f1,f2,f3⟩:=y8o hN hmx hS hCI hC n (C.withO orc) C0 (v1h hfo) h5;have hob:(w0c L C2).st.ob =true:=by rw [h2];obtain ⟨cx,ro,todo,rnd,rs,⟨env,mem,next,o,b⟩,cs,lps⟩:=C';exact ho
 obtain ⟨l1,l2⟩:=w0b (P:=P) hob;obtain ⟨g1,g2,_⟩:=x9r h4 l1;obtain ⟨q1,q2⟩:=x3r (P:=P) gs C0;rw [q2] at g1;have:=(((f3 g1).goes.trans q1).trans g2).trans l2;rw [h2] at this;exact w0m this
theorem y4q (n:Nat) (g:Nat→List AVal):Vf n g g=true:=Yu fun _ _=>rfl
theorem w3a (a g:Nat→List AVal):Vf 0 a g=true:=Yu fun _ h=>absurd h (AA _)
theorem v2f {a b:Nat} (h: ¬a≤b):Nat.ble a b=false:=A3.2 fun e=>h (Ai e)
theorem v2e {a b:Nat} (h:a≤b):Nat.ble a b=true:=by simp_all
theorem w3e {n N sz:Nat} {G H H':Nat→List AVal} {cells:List AVal} (m:Nat) (h:Vf n G H=true) (hN:N=n+m) (h0: ∀i,i<n→H' i=H i) (h1: ∀i,i<m→(cells.drop (i*sz)).take sz=H' (n+i)):Vf N (Ze G 0 n sz cells) H'=true:=Yu fun i hi=>by
 unfold Ze;by_cases e:n≤i
 ·grind [v2e]
 ·rw [v2f e,Ad,Al,Wn h i (by omega),h0 i (by omega)]
theorem z6v {α:Type} {sz:Nat}: ∀(l:List (List α)) (i:Nat),(∀x∈l,x.length=sz)→i<l.length→(l.flatten.drop (i*sz)).take sz=l.getD i []
 | [],i,_,h=>absurd h (AA _)
 | x::l,0,hl,_=>by
  grind
 | x::l,i+1,hl,h=>by have hx:=hl x (by simp);rw [List.flatten_cons,List.getD_cons_succ,←z6v l i (fun y hy=>hl y (by simp [hy])) (by simpa using h)];rw [List.drop_append,hx,show (i+1)*sz - sz=i*sz by rw [AI,BL];omega,At (by rw [hx,AI,BL];omega),A6]
theorem w3d {m N:Nat} {G H H':Nat→List AVal} (h':Vf m H H'=true) (hN:N=0+m):Vf N (Uy G 0 H) H'=true:=Yu fun i hi=>Wn h' i (by omega)
theorem x0n {n:Nat} {G H:Nat→List AVal} (h:Vf n G H=true):Vf n (fun k=>G (0+k)) H=true:=by grind
theorem w8l {cells:List AVal} {sz n:Nat} {g:Nat→List AVal} (h:cells=rows n g) (h1:Nat.ble 1 sz=true) (h2: ∀i,(g i).length =sz):x1e cells sz n g=true:=Yu ⟨h,Ai h1,fun i _=>h2 i⟩
def x6n :List (Nat×ABlk)→Mem
 | []=>.leaf
 | (i,b)::l=>Yr (x6n l) i (some b)
def x6o :List (Nat×ALoop)→Loops
 | []=>.leaf
 | (i,b)::l=>w1z (x6o l) i (some b)
class Ym (α:Type) where
 w:Nat
 d:α
 cells:α→List AVal
 of:List AVal→α
 len: ∀a,(cells a).length =w
 pos:1≤w
 flat: ∀a,(cells a).all (pf 6)=true
 sc: ∀a,(cells a).all z2f=true
 back: ∀a,of (cells a)=a
def iOf :AVal→Int
 | .int _ n=>n
 | _=>0
def oOf :AVal→Bool
 | .bool b=>b
 | _=>false
instance : Ym Int where
 w:=1
 d:=0
 cells x:=[.int .i64 x]
 of l:=iOf (l.getD 0 .undef)
 len _:=rfl
 pos:=Ao 1
 flat _:=rfl
 sc _:=rfl
 back _:=rfl
instance : Ym Bool where
 w:=1
 d:=false
 cells x:=[.bool x]
 of l:=oOf (l.getD 0 .undef)
 len _:=rfl
 pos:=Ao 1
 flat _:=rfl
 sc _:=rfl
 back _:=rfl
structure R2 where
 (a b:Int)
 deriving DecidableEq
structure R3 where
 (a b c:Int)
 deriving DecidableEq
structure R4 where
 (a b c d:Int)
 deriving DecidableEq
structure R6 where
 (a b c d e f:Int)
 deriving DecidableEq
instance : Ym R2 where
 w:=2
 d:=⟨0,0⟩
 cells x:=[.int .i64 x.a,.int .i64 x.b]
 of l:=⟨iOf (l.getD 0 .undef),iOf (l.getD 1 .undef)⟩
 len _:=rfl
 pos:=by decide
 flat _:=rfl
 sc _:=rfl
 back _:=rfl
instance : Ym R3 where
 w:=3
 d:=⟨0,0,0⟩
 cells x:=[.int .i64 x.a,.int .i64 x.b,.int .i64 x.c]
 of l:=⟨iOf (l.getD 0 .undef),iOf (l.getD 1 .undef),iOf (l.getD 2 .undef)⟩
 len _:=rfl
 pos:=by decide
 flat _:=rfl
 sc _:=rfl
 back _:=rfl
instance : Ym R4 where
 w:=4
 d:=⟨0,0,0,0⟩
 cells x:=[.int .i64 x.a,.int .i64 x.b,.int .i64 x.c,.int .i64 x.d]
 of l:=⟨iOf (l.getD 0 .undef),iOf (l.getD 1 .undef),iOf (l.getD 2 .undef),iOf (l.getD 3 .undef)⟩
 len _:=rfl
 pos:=by decide
 flat _:=rfl
 sc _:=rfl
 back _:=rfl
instance : Ym R6 where
 w:=6
 d:=⟨0,0,0,0,0,0⟩
 cells x:=[.int .i64 x.a,.int .i64 x.b,.int .i64 x.c,.int .i64 x.d,.int .i64 x.e,.int .i64 x.f]
 of l:=⟨iOf (l.getD 0 .undef),iOf (l.getD 1 .undef),iOf (l.getD 2 .undef),iOf (l.getD 3 .undef),iOf (l.getD 4 .undef),iOf (l.getD 5 .undef)⟩
 len _:=rfl
 pos:=by decide
 flat _:=rfl
 sc _:=rfl
 back _:=rfl
section
variable {α:Type} [Ym α]
def rd (L:List α) (k:Nat):α:=L.getD k Ym.d
def Zy (L:List α):Nat→List AVal:=fun k=>Ym.cells (rd L k)
def lst (α:Type) [Ym α] (n:Nat) (g:Nat→List AVal):List α:=(List.range n).map fun k=>Ym.of (g k)
def isT (α:Type) [Ym α] (n:Nat) (g:Nat→List AVal):Bool:=pd (∀i,i<n→g i=Ym.cells (Ym.of (g i):α))
theorem Xf {L:List α} {k:Nat} (h:k<L.length):rd L k=L[k]:=by grind [rd]
theorem y2e {L M:List α} {k:Nat} (h:k<L.length):rd (L++M) k=rd L k:=by
 grind [rd]
theorem z9x {L M:List α} {k:Nat} (h:L.length≤k):rd (L++M) k=rd M (k - L.length):=by
 grind [rd]
theorem Zc (L:List α):lst α L.length (Zy L)=L:=by
 apply Bz;all_goals grind [lst,Zy,Ym.back,Xf]
def cvT (L:List α):List α:=lst α L.length (Zy L)
theorem Zn (L:List α):cvT L=L:=Zc L
theorem y3g (n:Nat) (g:Nat→List AVal):(lst α n g).length =n:=by simp [lst]
theorem z9e (L:List α) (n:Nat):isT α n (Zy L)=true:=Yu fun i _=>by simp only [Zy];rw [Ym.back]
theorem y8p (L:List α) (off n:Nat):isT α n (fun k=>Zy L (off+k))=true:=Yu fun i _=>by simp only [Zy];rw [Ym.back]
theorem x6u (g:Nat→List AVal):isT α 0 g=true:=Yu fun i h=>absurd h (AA _)
theorem v0u (g:Nat→List AVal) (h0:g 0=Ym.cells (Ym.of (g 0):α)):isT α 1 g=true:=Yu fun i h=>by
 grind
theorem v0t (g:Nat→List AVal) (h0:g 0=Ym.cells (Ym.of (g 0):α)) (h1:g 1=Ym.cells (Ym.of (g 1):α)):isT α 2 g=true:=Yu fun i h=>by
 grind
theorem x6v {n:Nat} {g:Nat→List AVal} (h:isT α n g=true): ∀i,i<n→g i=Zy (lst α n g) i:=fun i hi=>by
 rw [Wn h i hi]
 grind [Zy,Xf,lst]
theorem Yn (L:List α):Ji (Zy L)=true:=Yu fun _=>Ym.flat _
theorem w1h {sz:Nat} (L:List α) (n:Nat) (h:sz=Ym.w α):y8y sz n (Zy L)=true:=Yu fun _ _=>⟨by rw [h];exact Ym.len _,Ym.sc _⟩
theorem w1i {sz:Nat} (L:List α) (off n:Nat) (h:sz=Ym.w α):y8y sz n (fun k=>Zy L (off+k))=true:=Yu fun _ _=>⟨by rw [h];exact Ym.len _,Ym.sc _⟩
theorem x4p {sz N off m:Nat} {G:Nat→List AVal} (h:y8y sz N G=true) (hb:decide (off+m≤N)=true):y8y sz m (fun k=>G (off+k))=true:=Yu fun i hi=>by have hb:=As hb;exact Wn h (off+i) (by omega)
theorem w6g {sz n N m:Nat} {G:Nat→List AVal} {cells:List AVal} (h:y8y sz n G=true) (hN:N=n+m) (hc:cells.length=m*sz) (hs:cells.all z2f=true):y8y sz N (Ze G 0 n sz cells)=true:=Yu fun i hi=>by
 unfold Ze;by_cases e:n≤i
 ·rw [v2e e,Ag];have:(i - n)*sz+sz≤m*sz:=by
   have:=Az sz (show i - n+1≤m by omega)
   grind
  grind
 ·rw [v2f e,Ad,Al];exact Wn h i (by omega)
theorem x5s {L M:List α} {n N sz:Nat} {G:Nat→List AVal} {cells:List AVal} (h:Vf n G (Zy L)=true) (hn:n=L.length) (hN:N=n+M.length) (hsz:sz=Ym.w α) (hc:cells=(M.map Ym.cells).flatten):Vf N (Ze G 0 n sz cells) (Zy (L++M))=true:=by
 grind [w3e,Zy,z6v,Ym.len,Xf]
theorem v4g {L:List α} {r k:Nat} {y:α} (hk:k<L.length):rd (L.set r y) k=if k=r then y else rd L k:=by
 grind [Xf]
theorem x5r {L:List α} {n r fo:Nat} {G:Nat→List AVal} {cs:List AVal} {y:α} (h:Vf n G (Zy L)=true) (hn:n=L.length) (hy:Ym.cells y=(Ym.cells (rd L r)).take fo++cs++(Ym.cells (rd L r)).drop (fo+cs.length)):Vf n (Xp G r fo cs) (Zy (L.set r y))=true:=by
 subst hn;refine Yu fun i hi=> ?_;unfold Xp;simp only [Zy];rw [v4g hi];cases e:Nat.beq i r with
 | true=>have:=Ah e;subst this;rw [Ag,AD rfl,Wn h i hi,hy];rfl
 | false=>
  have:i≠r:=fun q=>by simp_all
  rw [Ad,Ax this,Wn h i hi];rfl
theorem w7u {n:Nat} {cs:List AVal} {y:α} {G:Nat→List AVal} (hG:G=fun _=>cs) (hy:Ym.cells y=cs):Vf n G (Zy (List.replicate n y))=true:=Yu fun i hi=>by
 grind [Zy,Xf]
theorem w3c {L M:List α} {n m N:Nat} {G H:Nat→List AVal} (h:Vf n G (Zy L)=true) (hn:n=L.length) (h':Vf m H (Zy M)=true) (hN:N=n+m):Vf N (Uy G n H) (Zy (L++M))=true:=by
 subst hn;refine Yu fun i hi=> ?_;unfold Uy;by_cases e:L.length≤i
 ·rw [v2e e,Ag,Wn h' _ (by omega)];grind [Zy,z9x]
 ·rw [v2f e,Ad,Wn h i (by omega)];grind [Zy,y2e]
def lenR (n:Nat) (g:Nat→List AVal) (sz:Nat):Bool:=pd (∀i,i<n→(g i).length =sz)
theorem w4y {sz:Nat} (L:List α) (n:Nat) (h:sz=Ym.w α):lenR n (Zy L) sz=true:=Yu fun _ _=>by rw [h];exact Ym.len _
theorem w0d {sz n:Nat} {L:List α} {off:Nat} (h:sz=Ym.w α):lenR n (fun k=>Zy L (off+k)) sz=true:=Yu fun _ _=>by rw [h];exact Ym.len _
def Ja (L:List α) (off n:Nat):List α:=(List.range n).map fun k=>rd L (off+k)
theorem z7k (L:List α) (off n:Nat):(Ja L off n).length =n:=by simp [Ja]
theorem y5c {L:List α} {off n k:Nat} (h:k<n):rd (Ja L off n) k=rd L (off+k):=by
 grind [Xf,Ja]
theorem x8g {L:List α} {N off n:Nat} {G:Nat→List AVal} (h:Vf N G (Zy L)=true) (hb:decide (off+n≤N)=true):Vf n (fun k=>G (off+k)) (Zy (Ja L off n))=true:=Yu fun i hi=>by have hb:=As hb;simp only [Zy];rw [y5c hi,Wn h _ (by omega)];rfl
theorem x8f {L:List α} {off n:Nat}:Vf n (fun k=>Zy L (off+k)) (Zy (Ja L off n))=true:=Yu fun i hi=>by simp only [Zy];rw [y5c hi]
theorem Wj (L:List α):lst α L.length (fun k=>Zy L (0+k))=L:=by
 grind [Zc]
theorem v0v (L:List Int):isI (Zy L)=true:=Yu rfl
theorem z3h (L:List Int):Yw L.length (cOf (Zy L))=L:=Zc L
def y2a (L:List α) (off n:Nat) (M:List α):List α:=(List.range L.length).map fun k=>bif Nat.ble off k&&Nat.ble (k+1) (off+n) then rd M (k - off) else rd L k
theorem z0e (L:List α) (off n:Nat) (M:List α):(y2a L off n M).length =L.length:=by simp [y2a]
theorem w3z {L M:List α} {off n k:Nat} (h:k<L.length):rd (y2a L off n M) k=bif Nat.ble off k&&Nat.ble (k+1) (off+n) then rd M (k - off) else rd L k:=by
 grind [Xf,y2a]
theorem w7w {L M:List α} {N off n m:Nat} {G H:Nat→List AVal} (h:Vf N G (Zy L)=true) (hN:N=L.length) (h':Vf m H (Zy M)=true) (hm:n≤m):Vf N (Wd G off n H) (Zy (y2a L off n M))=true:=by
 subst hN;refine Yu fun i hi=> ?_;unfold Wd;simp only [Zy];rw [w3z hi];cases e:(Nat.ble off i&&Nat.ble (i+1) (off+n)) with
 | true=>simp only [Ac] at e;have e1:=Ai e.1;have e2:=Ai e.2;rw [Ag,Ag,Wn h' _ (by omega)];rfl
 | false=>rw [Ad,Ad,Wn h i hi];rfl
theorem w3b (z g:Nat→List AVal) (n:Nat):Vf n (Wd z 0 (Nat.min n n) g) g=true:=Yu fun i hi=>by unfold Wd;rw [show Nat.min n n=n from Nat.min_self n,Al,AO (AE i),AO hi];rfl
theorem w5r {g h:Nat→List AVal} {off n:Nat} (p:Ji g=true) (q:Ji h=true):Ji (Wd g off n h)=true:=Yu fun i=>by
 unfold Wd;cases (Nat.ble off i&&Nat.ble (i+1) (off+n)) with
 | true=>exact Wn q _
 | false=>exact Wn p _
end
theorem Qv {P:Program} {rs:List ResultVar} {σ:Type} {cfg:σ→Cfg} {C C':Cfg} (g:z8d P C C'): ∀{o:Ya σ},Yh P rs cfg C' o→Yh P rs cfg C o
 | .stuck,_=>trivial
 | .ret _,⟨D,h,h2,h3⟩=>⟨D,g.trans h,h2,h3⟩
 | .to _,h=>g.trans h
theorem x7h : ∀{az bs:List AVal} (i:Nat) {t u:T AVal},Xo VLe az bs→ELe t u→ELe (z6s az i t) (z6s bs i u)
 | _,_,i,t,u,.nil,h=>h
 | _,_,i,t,u,.cons (a:=a) (b:=b) h1 h2,h=>by
  refine x7h (i+1) h2 fun s=> ?_;rw [T.get_set,T.get_set];by_cases e:s=i
  ·rw [AD e,AD e];exact ⟨fun ρ v hv=>h1.sound hv,fun q=>by subst q;exact h1.of_undef⟩
  ·rw [Ax e,Ax e];exact h s
theorem y0z {P:Program} {f:FuncId} {az bs:List AVal} {vs:List AVal} (h:Xo VLe az bs) (k:Ws P (Zz P f) (Zj P f bs true []) vs):Ws P (Zz P f) (Zj P f az true []) vs:=by
 obtain ⟨C',g,h2,h3⟩:=k;refine ⟨C',z8d.trans ?_ g,h2,h3⟩;unfold Zj;cases P.funcs[f]? with
 | none=>exact z8d.refl _
 | some fn=>simp only;rw [h.length];exact z6p (x7h 0 h (ELe.refl _)) .nil (fun b x' hb=>absurd hb (AA _)) (Ao _) fun hbd b hb=>hbd b hb
theorem y2s {P:Program} {S:Specs} (hS:Zw P S) {f:FuncId} {F:List AVal→Option (AVal×Bool)} (hf:(P.funcs[f]?).any (fun fn=>fn.body.isSome)=true)
  (hF: ∀args v,F args=some (v,true)→ ∃bs vs,Xo VLe args bs∧Vt vs=v∧Ws P (Zz P f) (Zj P f bs true []) vs∧ ∃d,pf d v=true):Zw P (S.with f F):=
 w2d hS hf fun args v h=>by obtain ⟨bs,vs,h1,h2,h3,d,h4⟩:=hF args v h;exact ⟨vs,h2,y0z h1 h3,d,h4⟩
def asL (α:Type) [Ym α]:AVal→Option (List α×(Nat→List AVal)×Nat)
 | .nils =>some ([],fun _=>[],0)
 | .dat n g=>some (lst α n g,g,n)
 | _=>none
theorem Yg {α:Type} [Ym α] {v:AVal} {L:List α} {g:Nat→List AVal} {n:Nat} (h:asL α v=some (L,g,n)) (ho:isT α n g=true):VLe v (.dat L.length (Zy L)):=by
 unfold asL at h;split at h
 ·simp only [Ab,Aa] at h;obtain ⟨rfl,_,_⟩:=h;exact .nild _
 ·simp only [Ab,Aa] at h;obtain ⟨rfl,rfl,rfl⟩:=h;rw [y3g];exact .dat _ _ _ (x6v ho)
 ·cases h
open Go.ChangeShapes Go.WideShapes Go.Deep
section
variable {P:Program}
def y5n (P:Program) (rec:TypeId→Option (List IntKind)):List Field→Nat→Option (List IntKind)
 | [],_=>some []
 | f::r,o=>bif Nat.beq f.offset o then match rec f.type with
   | some ks=>bif Nat.beq (P.cellsOf f.type) ks.length then (y5n P rec r (o+ks.length)).map (ks++ ·) else none
   | none=>none
  else none
def z7m (P:Program):Nat→TypeId→Option (List IntKind)
 | 0,_=>none
 | d+1,t=>match P.underlying t with
  | some (.int k)=>some [k]
  | some (.struct fs)=>match y5n P (z7m P d) fs.toList 0 with
   | some ks=>bif Nat.beq (P.cellsOf t) ks.length then some ks else none
   | none=>none
  | _=>none
def v2m (ks:List IntKind) (cs:List Value):Prop:= ∃ns:List Int,ns.length=ks.length∧cs=List.zipWith Value.int ks ns∧ ∀p∈List.zip ks ns,p.1.has p.2
theorem v2m.append {a b:List IntKind} {x y:List Value} (h:v2m a x) (k:v2m b y):v2m (a++b) (x++y):=by
 obtain ⟨ns,h1,rfl,h3⟩:=h;obtain ⟨ms,k1,rfl,k3⟩:=k;refine ⟨ns++ms,by simp [h1,k1],?_,fun p hp=> ?_⟩;all_goals grind
theorem v2m.length {ks:List IntKind} {cs:List Value} (h:v2m ks cs):cs.length=ks.length:=by obtain ⟨ns,h1,rfl,_⟩:=h;simp [h1]
variable {HH:Type} {enc:TypeId×Value→HH} {w:World} {base:Nat} {spare:Nat→Bool} {held:Bool}
theorem z7n {rec:TypeId→Option (List IntKind)} (hr: ∀t ks,rec t=some ks→ ∀fuel cs x,DataW.trod enc P w base spare held fuel t cs=some x→v2m ks cs) (cs:List Value):
  ∀(l:List Field) (o:Nat) (ks:List IntKind),y5n P rec l o=some ks→o+ks.length≤cs.length→(∀f∈l,∃fuel x,DataW.trod enc P w base spare held fuel f.type ((cs.drop f.offset).take (P.cellsOf f.type))=some x)→v2m ks ((cs.drop o).take ks.length)
 | [],o,ks,h,_,_=>by obtain rfl:=Af h;exact ⟨[],rfl,by simp,by simp⟩
 | f::r,o,ks,h,hl,hf=>by
  unfold y5n at h;obtain ⟨ho,h⟩:=Zq h;obtain rfl:=Ah ho;split at h
  ·rename_i ks1 h1;obtain ⟨hc,h⟩:=Zq h;have hc:=Ah hc;simp only [Aj] at h;obtain ⟨ks2,h2,rfl⟩:=h;obtain ⟨fuel,x,hx⟩:=hf f (by simp);have i1:=hr _ _ h1 _ _ _ hx;rw [hc] at i1;rw [AL] at hl;have i2:=z7n hr cs r _ ks2 h2 (by omega) fun g hg=>hf g (by simp [hg]);have:(cs.drop f.offset).take (ks1++ks2).length =(cs.drop f.offset).take ks1.length++(cs.drop (f.offset+ks1.length)).take ks2.length:=by rw [AL,List.take_add,List.drop_drop]
   rw [this];exact i1.append i2
  ·cases h
theorem Jc : ∀(d:Nat) (t:TypeId) (ks:List IntKind),z7m P d t=some ks→ ∀(fuel:Nat) (cs:List Value) (x:DataW HH×List MemPlace),DataW.trod enc P w base spare held fuel t cs=some x→v2m ks cs
 | 0,_,_,h=>by cases h
 | d +1,t,ks,h=>by
  intro fuel cs x hx;unfold z7m at h;split at h
  ·rename_i k hk;obtain rfl:=Af h;obtain ⟨m,rfl,_,hw⟩:=DataW.trod_int hk hx;refine ⟨[m],rfl,rfl,fun p hp=> ?_⟩;simp_all [Lit.wf,IntKind.has]
  ·rename_i fs hs;split at h
   ·rename_i ks1 h1;obtain ⟨hc,h⟩:=Zq h;obtain rfl:=Af h;have hc:=Ah hc;obtain ⟨xs,n,_,_,hl,cW,hf⟩:=DataW.trod_struct hs hx;have hl:cs.length=ks1.length:=hl.trans hc;have:=z7n (fun t ks ht fuel cs x hx=>Jc d t ks ht fuel cs x hx) cs fs.toList 0 ks1 h1 (by omega) fun f hf'=>by
     obtain ⟨j,hj,rfl⟩:=A1 hf';have hj2:j<fs.size:=(by grind);have:=hf j fs[j] (by simp [hj2])
     grind
    grind
   ·cases h
  ·cases h
def y7k (ks:List IntKind) (c:Nat→Int):List AVal:=List.zipWith AVal.int ks ((List.range ks.length).map c)
theorem w3p (ks:List IntKind) (c:Nat→Int) (j:Nat) (h:j<(y7k ks c).length): ∃hk:j<ks.length,(y7k ks c)[j]=.int ks[j] (c j):=by
 grind [y7k]
theorem v1v {e:TypeId} {ks:List IntKind} (hk:z7m P 30 e=some ks) {blk off len cap m fl:Nat} {D:Nat→DataW HH} {Pl:Nat→List MemPlace} (hl:len≤cap) (hlm:len≤m)
  (hi: ∀i,i<m→ ∃cs',w.cells? base ((⟨blk,off,none⟩:Addr).add (i*P.cellsOf e)) (P.cellsOf e)=some cs'∧DataW.trod enc P w base spare held fl e cs'=some (D i,Pl i)):
  ∃c:Nat→Nat→Int,Za (Jy fun k=>w.heap[k]?) (.dat len (fun i=>y7k ks (c i))) (.slice (some ⟨blk,off,none⟩) len cap)∧ ∀i,i<len→ ∀(j:Nat) (k:IntKind),ks[j]? =some k→k.has (c i j):=by
 have key: ∀i,i<len→ ∃ns:List Int,ns.length=ks.length∧(∀j,j<ks.length→ ∃k,ks[j]? =some k∧w.cell? ⟨blk,off+(i*ks.length+j),none⟩=some (.int k (ns.getD j 0))∧k.has (ns.getD j 0)):=by
  intro i hil;obtain ⟨cs',hc',ht'⟩:=hi i (by omega);have I:=Jc 30 e ks hk _ _ _ ht';obtain ⟨_,cW,dS⟩:=World.cells?_some hc';have hce:P.cellsOf e=ks.length:=by rw [←cW];exact I.length
  obtain ⟨ns,n1,n2,n3⟩:=I;refine ⟨ns,n1,fun j hj=> ?_⟩;have hj2:j<ns.length:=by omega
  refine ⟨ks[j],by simp [hj],?_,?_⟩
  ·grind [Yd]
  ·have:(ks[j],ns[j])∈List.zip ks ns:=by
    rw [List.mem_iff_getElem]
    grind
   grind
 let c:Nat→Nat→Int:=fun i j=>if hil:i<len then ((key i hil).choose).getD j 0 else 0
 have hcs: ∀i,i<len→ ∀j,j<ks.length→ ∃k,ks[j]? =some k∧w.cell? ⟨blk,off+(i*ks.length+j),none⟩=some (.int k (c i j))∧k.has (c i j):=by
  grind
 refine ⟨c,.dat len _ blk off ks.length cap (fun i j=>.int (ks.getD j .i64) (c i j)) hl (fun i _=>by simp [y7k]) (fun i j hil hj=> ?_) (fun i j hil hj=> ?_),fun i hil j k hkj=> ?_⟩
 ·obtain ⟨hk2,e2⟩:=w3p ks (c i) j hj;rw [e2];have:ks.getD j .i64 =ks[j]:=by simp [hk2]
  rw [this];exact .int _ _
 ·obtain ⟨k,e1,e2,_⟩:=hcs i hil j hj;have:ks.getD j .i64 =k:=by simp [e1]
  rw [this];unfold World.cell? at e2;split at e2
  ·rename_i cl el fz hb2;simp only [Option.isSome_none,Bool.false_eq_true,if_false] at e2;exact ⟨cl,el,fz,hb2,e2⟩
  ·cases e2
 grind
end
open Go.Proofs.Tryz
open Go.Proofs
theorem strOk :u2r prog:=fun h=>by
 have:(prog.funcs[v2r]?).isSome =false:=by kernel_rfl
 rw [this] at h;cases h
def namedB (P:Program):Bool:=P.funcs.toList.all fun fn=>fn.body.isNone|| !(fn.name == "runtime.NumGoroutine")
theorem v0a {P:Program} (h:namedB P=true) (hs:u2r P):z2c P:=by
 refine ⟨fun f fn hf hb=> ?_,hs⟩;have hm:fn∈P.funcs.toList:=by rw [Array.mem_toList_iff];exact Array.mem_of_getElem? hf
 have:=Aw.mp h fn hm;cases hbb:fn.body with
 | none=>rw [hbb] at hb;cases hb
 | some b=>simpa [hbb] using this
theorem named :z2c prog:=v0a (by kernel_rfl) strOk
theorem mixed :prog.follows .mixedOrders =true:=by kernel_rfl
end Go.Am
namespace Go.Am
open IntKind (wrap)
open Go.Proofs.Tryz
open Go.Proofs
instance {α :Type} [Ym α]:Ym (List α) where
 w:=1
 d:=[]
 cells l:=[.dat l.length (Zy l)]
 of cs:=match cs.getD 0 .undef with
  | .dat n g=>lst α n g
  | _=>[]
 len _:=rfl
 pos:=Ao 1
 flat _:=rfl
 sc _:=rfl
 back l:=Zc l
theorem x0o {α:Type} [Ym α] {L:List α} {n off sz:Nat} {cells:List AVal} (hn:n=L.length) (hsz:sz=Ym.w α) (hc:(cells.drop off).take (n*sz)=(L.map Ym.cells).flatten):Vf n (v1z cells off sz) (Zy L)=true:=Yu fun i hi=>by
 have e:((((cells.drop off).take (n*sz)).drop (i*sz)).take sz)=(cells.drop (off+i*sz)).take sz:=by rw [List.drop_take,List.take_take,List.drop_drop,Nat.min_eq_left];have:=Az sz (show i+1≤n by omega);rw [AI,BL] at this;omega
 have h:=z6v (sz:=sz) (L.map Ym.cells) i (fun x hx=>by obtain ⟨y,_,rfl⟩:=List.mem_map.1 hx;rw [Ym.len,hsz]) (by simpa using by omega);unfold v1z;rw [←e,hc,h];simp only [Zy];rw [Xf (show i<L.length by omega),A9,BC,Ar (show i<L.length by omega)];rfl
theorem w7v {G H:Nat→List AVal} (h:G 0=H 0):Vf 1 G H=true:=Yu fun i hi=>by
 obtain rfl:i=0:=by omega
 exact h
theorem w0t {L:List AVal} (s t:Nat) (h:L.all (pf 6)=true):Ji (fun k=>(L.drop (k*s)).take t)=true:=Yu fun i=>
 Aw.2 fun v hv=>Aw.1 h v (List.mem_of_mem_drop (List.mem_of_mem_take hv))
structure OB where
 b:Bool
 h:b=true
def nn :OB:=⟨true,rfl⟩
def pp (q r:OB):OB:=⟨q.b&&r.b,y3d q.h r.h⟩
def tt {c v:Bool} (k:c=v) (r:OB):OB:=⟨(c == v)&&r.b,y3d (w4m k) r.h⟩
def ww {c:Bool} (k:c=true) (r:OB):OB:=⟨c&&r.b,y3d k r.h⟩
def fl {α:Type} [Ym α] (L:List α) (r:OB):OB:=⟨Ji (Zy L)&&r.b,y3d (Yn L) r.h⟩
def xw {c:Bool} (k:c=true):OB:=⟨c,k⟩
def xI (α:Type) [Ym α] (n:Nat) (g:Nat→List AVal) (h:isT α n g=true:=by first | with_reducible exact z9e _ _ | exact z9e _ _ | exact x6u _ | exact y8p _ _ _ | assumption | exact v0u _ rfl | exact v0t _ rfl rfl):OB:=⟨isT α n g,h⟩
def xr {α:Type} [Ym α] (L:List α):OB:=⟨isT α L.length (Zy L),z9e L _⟩
def xL (a b:Nat) (h:y5m a b=true:=by first | exact Kj rfl | exact Kj (by simp only [AL,AQ,List.length_nil,BJ,z0e,z7k,List.length_replicate] <;> omega) | assumption):OB:=⟨y5m a b,h⟩
def xS (n:Nat) (G H:Nat→List AVal) (h:Vf n G H=true:=by
  repeat' (first | exact y4q _ _ | assumption | exact w3a _ _ | exact w7v rfl | exact x8f | exact x0o rfl rfl rfl | rfl | (refine x5s ?_ ?_ rfl rfl rfl) | (refine x5r ?_ ?_ rfl) | exact w3b _ _ _ | (refine w7w ?_ ?_ ?_ (Nat.min_le_left _ _)) | exact x8g (by repeat' (first | exact y4q _ _ | (refine x5s ?_ ?_ rfl rfl rfl) | (refine x5r ?_ ?_ rfl) | (simp only [AL,AQ,List.length_nil,BJ,z0e];done) | omega)) (by assumption) | (refine w3c ?_ ?_ ?_ rfl) | exact w3d (y4q _ _) rfl | apply x0n | exact w7u rfl rfl | exact Al _ | (simp only [AL,AQ,List.length_nil,BJ,z0e,z7k,List.length_replicate] <;> omega))):OB:=⟨Vf n G H,h⟩
def xF (G:Nat→List AVal) (h:Ji G=true:=by
  repeat' (first | with_reducible exact Yn _ | apply w5t | apply w5q | apply w5s | apply w5r | exact Yn _ | exact w0u | exact x4b _ _ | exact w0t _ _ rfl | apply y0v | rfl | assumption)):OB:=⟨Ji G,h⟩
def xZ (v:AVal) (n:Nat) (g:Nat→List AVal) (h:w5m v n g=true:=by first | exact v1c _ _ _ | exact w5l _ _):OB:=⟨w5m v n g,h⟩
def xG (c:Bool) (h:c=true:=by
  repeat' (first | with_reducible (first | assumption | exact Bv _ | exact y8b _ | exact w9z _ | exact w4q _ | exact v1t _ | exact w4r _ | apply y3d | apply w4m) | rfl | exact v0v _ | exact w1h _ _ rfl | exact w1i _ _ _ rfl | exact w4y _ _ rfl | exact w0d rfl | exact w8l rfl rfl (fun _=>rfl) | (refine x4p ?_ (by assumption)) | (refine w6g ?_ rfl rfl rfl) | exact z9e _ _ | exact x6u _ | exact y8p _ _ _ | exact Yn _ | apply y0v | apply y3d | apply w4m)):OB:=⟨c,h⟩
def kpB (n:Nat) (l:List BP):List BP:=Nat.rec l (fun _ r=>.keep ::r) n
abbrev tn (n:Int):Nat:=Int.toNat n
abbrev ii (n:Int):AVal:=.int .i64 n
abbrev wr (n:Int):Int:=wrap .i64 n
def trs (n:Nat) (l:List Bool):List Bool:=Nat.rec l (fun _ r=>true::r) n
theorem sl {S:Specs} (hS:Zw prog S) (n:Nat) (gs:List (TypeId×Nat×(Nat→List AVal))) (N:z6h) (L:Less) (orc:List Bool) (ob:OB) {C C':Cfg}
  (h:(((v0s prog S (v6u prog S 100000 4) n (C.withO orc)).map (x6y gs)).bind (w9u prog N)).map (w0c L)=some (C'.withB ob.b):=by kernel_rfl) (hfl:fl0 C=true:=by rfl):z8d prog C C':=
 w7j named mixed hS gs N L orc ob.b h ob.h hfl
def rC (n f:Nat) (p:List Nat) (j r:Nat) (env:List (Nat×AVal)):Cfg:=⟨⟨n,0,true⟩,none,Zm prog f p j,none,Zz prog r,⟨Yx env,Xj [] 0,0,[],true⟩,[],.leaf⟩
theorem lr {σ:Type} {cfg:σ→Cfg} {C:Cfg} {rs:List ResultVar} {vs:List AVal} (n f:Nat) (p:List Nat) (j r:Nat) (env:List (Nat×AVal)) (h:z8d prog C (rC n f p j r env)) (hf:z2g (rC n f p j r env)=true:=by rfl)
  (hr:Vn prog (rC n f p j r env).st rs=some vs:=by kernel_rfl):Yh prog rs cfg C (.ret vs):=Zf _ h hf hr
theorem lb {rs:List ResultVar} {σ:Type} {cfg:σ→Cfg} {C:Cfg} {c:Bool} {a b:Ya σ} (ha:c=true→Yh prog rs cfg C a) (hb:c=false→Yh prog rs cfg C b):Yh prog rs cfg C (bif c then a else b):=x6t ha hb
theorem lo {rs:List ResultVar} {σ:Type} {cfg:σ→Cfg} {C:Cfg} {c:Bool} {a:Ya σ} (ha:c=true→Yh prog rs cfg C a):Yh prog rs cfg C (bif c then a else .stuck):=v0l ha
end Go.Am
end
