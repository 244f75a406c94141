/- A part of a proof: several texts in one. -/
import Derived.Test.YthnnmgkacjjpeaaGreatDoorNf1
import Derived.AtR
import Derived.RangeFuncRecord
import Derived.RangeFuncNested
import Derived.Laws.BytesString
import Derived.Lib.UnsafeStr
import Derived.MapKept
import Derived.Sort.Grow
import Derived.Deep.Slices
import Derived.Deep.Fields
import Derived.ChangeSame
import Derived.OpenShut
import Derived.Shelf.Strings.Builder1
import Derived.Shelf.Strings.Split
set_option maxRecDepth 1000000
set_option maxHeartbeats 8000000
set_option linter.unusedVariables false
set_option linter.unusedSimpArgs false
noncomputable section
namespace Go.Am
open IntKind (wrap)
abbrev CS :=Array Oper×Nat×List Oper
structure C9 where
 cx:CL
 ro:Option CS
 todo:List Item
 rnd:Option Nat
 rs:List ResultVar
 env:T B5
structure DA where
 st:LoopState
 pend:Option Code
 n:Nat
 env:T B5
 params:List Tmp
 assign:Code
 body:Code
abbrev CO :=T (Option DA)
def DJ (m:CO) (b:Nat):Option DA:=T.get none m b
def Ff (m:CO) (b:Nat) (o:Option DA):CO:=T.set none m b o
structure CH where
 cx:CL
 ro:Option CS
 todo:List Item
 rnd:Option Nat
 rs:List ResultVar
 st:St
 cs:List C9
 lps:CO
def Hx (v:B5) (st:St) (lps:CO):List C9->Option CH
 | ⟨cx,some (ops,i,o::l),todo,rnd,rs,env⟩::cs=>match (st.withEnv env).put cx o.dst v with
  | some st'=>some ⟨cx,some (ops,i+1,l),todo,rnd,rs,st',cs,lps⟩
  | none=>none
 | ⟨cx,none,.inRangeFunc j::k,rnd,rs,env⟩::cs=>some ⟨cx,none,.endRangeFunc j::k,rnd,rs,st.withEnv env,cs,lps⟩
 | _=>none
def Rx :Option Code->LoopState
 | none=>.ready
 | some _=>.done
def TI (lps:CO):Option Nat->Bool
 | none=>true
 | some j=>(DJ lps j).isSome
def Ry (P:Program) (rnd:Option Nat) (rs:List ResultVar) (st:St) (cs:List C9) (lps:CO) (jump:Option Code):Option CH:=
 match rnd with
 | none=>match Qh P st rs with
  | some vs=>Hx (Kg vs) st lps cs
  | none=>none
 | some j=>match DJ lps j with
  | some ⟨_,_,n,env,params,assign,body⟩=>
   Hx (.bool jump.isNone) st (Ff lps j (some ⟨Rx jump,jump,n,env,params,assign,body⟩)) cs
  | none=>none
def XA (n:Nat):List Tmp->zx->T B5->Option (T B5)
 | [],[],env=>some env
 | t::ts,a::l,env=>bif Nat.ble (t+1) n then XA n ts l (T.set .undef env t a) else none
 | _,_,_=>none
def QL (P:Program) (f:FuncId) (args:zx) (fr:C9) (st:St) (cs:List C9) (lps:CO):Option CH:=
 match P.funcs[f]? with
 | some fn=>match fn.body with
  | some body=>some ⟨⟨Nat.max fn.ntmps args.length,fr.cx.floor,fr.cx.sym⟩,none,[.code body],none,fn.results.toList,st.withEnv (Ex args 0 .leaf),fr::cs,lps⟩
  | none=>none
 | none=>none
def u6a (j:Nat) (args:zx) (fr:C9) (st:St) (cs:List C9) (lps:CO):Option CH:=
 match DJ lps j with
 | some ⟨_,_,n,env,params,assign,body⟩=>match XA n params args env with
  | some env'=>some ⟨⟨n,fr.cx.floor,fr.cx.sym⟩,none,[.code assign,.beginRound,.code body],some j,[],st.withEnv env',fr::cs,lps⟩
  | none=>none
 | none=>none
def callee (S:B7) (st:St) (op:Op):Option ((FuncId×zx) ⊕ (Nat×zx)):=
 match op with
 | .call {callee:=.value f,args,argTypes:=_}=>match st.eval f with
  | .fn g caps=>match S g with
   | some _=>none
   | none=>some (.inl (g,args.toList.map st.eval++caps))
  | .fnb g first=>match S g with
   | some _=>none
   | none=>some (.inl (g,first++args.toList.map st.eval))
  | .yld j=>some (.inr (j,args.toList.map st.eval))
  | _=>none
 | _=>none
def R5 (P:Program) (t:TypeId):Option Bool:=match P.underlying t with
 | some (.map k e)=>match P.underlying k,P.underlying e,P.info? e with
  | some .string,some (.int .i64),some i=>match i.zero with
   | some (.int .i64 n)=>bif n == 0 then some true else none
   | _=>none
  | some .string,some .bool,some i=>match i.zero with
   | some (.bool b)=>bif b then none else some false
   | _=>none
  | _,_,_=>none
 | _=>none
def Cx {α:Type} (l:List (zy×α)) (k:zy):Bool:=l.any fun p=>k == p.1
def getK {α:Type} (d:α):List (zy×α)->zy->α
 | [],_=>d
 | p::r,k=>bif k == p.1 then p.2 else getK d r k
def Cy {α:Type}:List (zy×α)->zy->α->List (zy×α)
 | [],k,v=>[(k,v)]
 | p::r,k,v=>bif k == p.1 then (p.1,v)::r else p::Cy r k v
def Di (s:zy) (pos:Nat):Int:=((Utf8.decode ⟨s.toArray⟩ pos).1:Int)
def Fn (s:zy) (pos:Nat):Nat:=(Utf8.decode ⟨s.toArray⟩ pos).2
def MV :B5->UInt8
 | .int _ n=>UInt8.ofNat n.toNat
 | _=>0
def Iv :B5->Bool
 | .int .u8 n=>decide (0<=n/\n<256)
 | _=>false
def Fa (n:Nat) (g:Nat->zx):zy:=(List.range n).map fun k=>MV ((g k).getD 0 .undef)
def v7p :zx->Bool
 | [v]=>Iv v
 | _=>false
def R1 (n:Nat) (g:Nat->zx):Bool:=Ny ((List.range n).all fun k=>v7p (g k)) (∀k,k<n-> ∃v,g k=[v]/\Iv v=true)
def Rv (m:CE):B5->Option (zy×Bool)
 | .nils =>some ([],true)
 | .sl b off len _=>match Yi m b with
  | some blk=>bif blk.isObj then none else match cut blk.cells off len with
   | some cs=>some (cs.map MV,cs.all Iv)
   | none=>none
  | none=>none
 | .sla b sz off len _=>match Yi m b with
  | some blk=>match blk.arr with
   | some A=>some (Fa len fun k=>A.get (off+k),Nat.beq sz 1&&(Nat.beq A.sz 1&&(decide (off+len<=A.n)&&R1 len fun k=>A.get (off+k))))
   | none=>none
  | none=>none
 | _=>none
def TN :B5->Option Nat
 | .sl b _ _ _=>some b
 | .sla b _ _ _ _=>some b
 | _=>none
def QB (P:Program) (floor:Nat) (st:St) (t:TypeId) (x k v:B5):Option St:=match x,k with
 | .mapr b,.str k=>bif Nat.ble floor b then match R5 P t,Yi st.mem b,v with
  | some true,some ⟨[.obj (.mi l)],ty,none⟩,.int .i64 n=>some (st.withMem (Wm st.mem b (some ⟨[.obj (.mi (Cy l k n))],ty,none⟩)))
  | some false,some ⟨[.obj (.mb l)],ty,none⟩,.bool e=>some (st.withMem (Wm st.mem b (some ⟨[.obj (.mb (Cy l k e))],ty,none⟩)))
  | _,_,_=>none
  else none
 | _,_=>none
def aX (P:Program) (floor:Nat) (st:St):Op->Option (B5×Bool×St)
 | .makeMap t none=>match R5 P t with
  | some k=>some (.mapr st.next,true,Cg st [.obj (bif k then .mi [] else .mb [])] t)
  | none=>none
 | .lookup t x i co=>match st.eval x,st.eval i with
  | .mapr b,.str k=>match R5 P t,Yi st.mem b with
   | some true,some ⟨[.obj (.mi l)],_,none⟩=>some (bif co then .tup [.int .i64 (getK 0 l k),.bool (Cx l k)] else .int .i64 (getK 0 l k),true,st)
   | some false,some ⟨[.obj (.mb l)],_,none⟩=>some (bif co then .tup [.bool (getK false l k),.bool (Cx l k)] else .bool (getK false l k),true,st)
   | _,_=>none
  | _,_=>none
 | .mapUpdate t m k v=>(QB P floor st t (st.eval m) (st.eval k) (st.eval v)).map fun st'=>(.tup [],true,st')
 | .insert t m k v=>(QB P floor st t (st.eval m) (st.eval k) (st.eval v)).map fun st'=>(.tup [],true,st')
 | .range t x=>match P.underlying t,st.eval x with
  | some .string,.str s=>some (.ptr st.next 0,true,Cg st [.obj (.it s 0)] t)
  | _,_=>none
 | .next x true=>match st.eval x with
  | .ptr b 0=>bif Nat.ble floor b then match Yi st.mem b with
   | some ⟨[.obj (.it s pos)],ty,none⟩=>match st.test (decide (pos<s.length)) with
    | (e,st1)=>some (bif e then .tup [.bool true,.int .i64 pos,.int .i32 (Di s pos)] else .tup [.bool false],true,
      bif e then st1.withMem (Wm st1.mem b (some ⟨[.obj (.it s (pos+Fn s pos))],ty,none⟩)) else st1)
   | _=>none
   else none
  | _=>none
 | .alloc t=>bif Nat.beq t DN then match P.info? t with
   | some i=>match i.zero with
    | some (.agg ⟨[.pointer none,.slice none 0 0]⟩)=>some (.ptr st.next 0,true,Cg st [.obj .bld,.nils] t)
    | _=>none
   | none=>none
  else none
 | .load t x=>match st.eval x with
  | .ptr b 1=>match Yi st.mem b,XK P t,P.info? t with
   | some ⟨[.obj .bld,buf],_,none⟩,some false,some _=>some (buf,true,st)
   | _,_,_=>none
  | _=>none
 | .store t a x=>match st.eval a with
  | .ptr b 1=>bif Nat.ble floor b&&Ci (st.eval x) then match Yi st.mem b,P.info? t with
   | some ⟨[.obj .bld,_],ty,none⟩,some i=>bif Nat.beq i.size 1 then some (.tup [],true,st.withMem (Wm st.mem b (some ⟨[.obj .bld,st.eval x],ty,none⟩))) else none
   | _,_=>none
   else none
  | _=>none
 | .convert src dst x=>match P.underlying src,P.underlying dst with
  | some (.slice e),some .string =>match P.underlying e with
   | some (.int .u8)=>match Rv st.mem (st.eval x) with
    | some (s,o)=>some (.str s,o,st)
    | none=>none
   | _=>none
  | _,_=>none
 | .binOp op t x y _=>match st.eval x,y,P.underlying t with
  | .ifb b,.const .nilIface,some (.interface _)=>match op with
   | .eql =>some (.bool b,true,st)
   | .neq =>some (.bool !b,true,st)
   | _=>none
  | _,_,_=>none
 | .call {callee:=.value f,args,argTypes:=_}=>match st.eval f,args.toList.map st.eval with
  | .fn g [],[.ptr b 0]=>bif Nat.beq g Mm&&(P.funcs[g]?).any (fun fn=>fn.body.isSome) then match Yi st.mem b with
    | some ⟨[.obj .bld,buf],ty,none⟩=>bif Nat.beq ty DN then match Rv st.mem buf with
     | some (s,o)=>match TN buf with
      | none=>some (.str s,decide (s.length<=9223372036854775807)&&o,st)
      | some c=>bif Nat.ble floor c&&JP st.mem PZ c then some (.str s,decide (s.length<=9223372036854775807)&&o,st.withMem (Wm st.mem c none)) else none
     | none=>none
     else none
    | _=>none
   else none
  | _,_=>none
 | _=>none
def v2f (P:Program) (S:B7) (Rc:CF) (cx:CL) (ops:Array Oper) (i:Nat) (o:Oper) (l:List Oper) (todo:List Item) (rnd:Option Nat) (rs:List ResultVar) (st:St) (cs:List C9) (lps:CO):Option CH:=
 match Fs ops o cx st with
 | some (true,st)=>match aX P cx.floor st o.op with
  | some (v,b,st1)=>match st1.owe cx b with
   | some st2=>match st2.put cx o.dst v with
    | some st3=>some ⟨cx,some (ops,i+1,l),todo,rnd,rs,st3,cs,lps⟩
    | none=>none
   | none=>none
  | none=>match callee S st o.op with
  | some (.inl (g,args))=>QL P g args ⟨cx,some (ops,i,o::l),todo,rnd,rs,st.env⟩ st cs lps
  | some (.inr (j,args))=>u6a j args ⟨cx,some (ops,i,o::l),todo,rnd,rs,st.env⟩ st cs lps
  | none=>match MZ P S Rc false o cx st with
   | some st=>some ⟨cx,some (ops,i+1,l),todo,rnd,rs,st,cs,lps⟩
   | none=>none
 | some (false,st)=>match st.put cx o.dst (.tup []) with
  | some st=>some ⟨cx,some (ops,i+1,l),todo,rnd,rs,st,cs,lps⟩
  | none=>none
 | none=>none
def HA (ops:Array Oper):Bool:=ops.toList.all fun o=>match o.op with
 | .defer _=>false
 | _=>true
def ET (o:Oper):Oper:=⟨none,.move (.const (.bool true)),o.type,o.pos,o.after,none⟩
def Vu (ops:Array Oper) (m:Nat):Array Oper:=⟨ops.toList.take m++(ops.toList.drop m).map ET⟩
def u4t (ops:Array Oper) (m:Nat):Bool:=
 HA ops&&(MX 0 (Vu ops m)&&(((List.range ops.size).all fun j=>Nat.ble (j+1) m||(List.range j).all fun i=>((Ez (Vu ops m).toList []).getD j 0).testBit i)&&((List.range m).all fun i=>match ops[i]? with
  | some ⟨_,_,_,_,_,some (j,_)⟩=>Nat.ble (j+1) m
  | _=>true)))
def u9g (f:Operand):List Oper->Operand
 | []=>f
 | ⟨some d,.move x,_,_,_,_⟩::l=>match f with
  | .tmp t=>bif Nat.beq t d then x else u9g f l
  | _=>f
 | _::l=>u9g f l
def v5v (st:St) (ops:List Oper):Oper->Bool
 | ⟨_,.call ⟨.value f,_,_⟩,_,_,_,_⟩=>match st.eval (u9g f ops) with
  | .yld _=>true
  | _=>false
 | _=>false
def XE (st:St) (ops:List Oper):List Oper->Nat->Option Nat
 | [],_=>none
 | o::l,i=>bif v5v st ops o then some i else XE st ops l (i+1)
def u9c (ops:Array Oper) (st:St):Option Nat:=
 match XE st ops.toList ops.toList 0 with
 | some m=>bif u4t ops m then some m else none
 | none=>none
def H2 (ops:Array Oper):zw->Option Nat
 | []=>none
 | z::l=>bif MX z ops then some z else H2 ops l
def O9 (ops:Array Oper):Bool:=ops.toList.any fun o=>match o.op with
 | .call {callee:=.builtin .append,.. }=>true
 | _=>false
def j3f (ops:Array Oper):Bool:=ops.toList.any fun o=>match o.op,o.dst with
 | .buildSlice _ _ _,some d=>ops.toList.any fun p=>match p.op with
  | .call {callee:=.value _,args,argTypes:=_}=>args.toList.any fun a=>match a with
   | .tmp t=>Nat.beq t d
   | _=>false
  | _=>false
 | _,_=>false
def j3e (ops:Array Oper):Option Nat:=bif HA ops then H2 ops (bif j3f ops then [1,0,2] else bif O9 ops then [0,2,3,1] else [0,1,2]) else none
def St.nextId :St->Nat×St
 | ⟨env,mem,next,orc,ob⟩=>(next,⟨env,mem,next+1,orc,ob⟩)
def Q4 (P:Program) (S:B7) (Rc:CF):CH->Option CH
 | ⟨cx,some (_,_,[]),todo,rnd,rs,st,cs,lps⟩=>some ⟨cx,none,todo,rnd,rs,st,cs,lps⟩
 | ⟨cx,some (ops,i,o::l),todo,rnd,rs,st,cs,lps⟩=>v2f P S Rc cx ops i o l todo rnd rs st cs lps
 | ⟨cx,none,todo,rnd,rs,st,cs,lps⟩=>match todo with
  | []=>Ry P rnd rs st cs lps none
  | .code .ret ::_=>Ry P rnd rs st cs lps (some .ret)
  | .code .skip ::k=>some ⟨cx,none,k,rnd,rs,st,cs,lps⟩
  | .code (.label _)::k=>some ⟨cx,none,k,rnd,rs,st,cs,lps⟩
  | .inBlock _::k=>some ⟨cx,none,k,rnd,rs,st,cs,lps⟩
  | .inScope _::k=>some ⟨cx,none,k,rnd,rs,st,cs,lps⟩
  | .code (.seq a b)::k=>some ⟨cx,none,.code a::.code b::k,rnd,rs,st,cs,lps⟩
  | .code (.cond c a b)::k=>match st.eval c with
   | .bool v=>match st.test v with
    | (e,st)=>some ⟨cx,none,.code (bif e then a else b)::k,rnd,rs,st,cs,lps⟩
   | _=>none
  | .code (.block id body)::k=>some ⟨cx,none,.code body::.inBlock id::k,rnd,rs,st,cs,lps⟩
  | .code (.scope body)::k=>some ⟨cx,none,.code body::.inScope body::k,rnd,rs,st,cs,lps⟩
  | .code (.loop body)::k=>some ⟨cx,none,.code body::.inLoop body::k,rnd,rs,st,cs,lps⟩
  | .inLoop body::k=>some ⟨cx,none,.code body::.inLoop body::k,rnd,rs,st,cs,lps⟩
  | .code (.exit id)::k=>match exitTo id k with
   | some k=>some ⟨cx,none,k,rnd,rs,st,cs,lps⟩
   | none=>match rnd with
    | some _=>Ry P rnd rs st cs lps (some (.exit id))
    | none=>none
  | .code (.region _ ops false)::k=>bif HA ops then some ⟨cx,some (ops,0,ops.toList),k,rnd,rs,st,cs,lps⟩ else none
  | .code (.region _ ops true)::k=>match u9c ops st with
   | some m=>match QD 0 P S Rc (Vu ops m) cx (Ij (Vu ops m)) [] st with
    | some st=>some ⟨cx,some (ops,m,ops.toList.drop m),k,rnd,rs,st,cs,lps⟩
    | none=>none
   | none=>match j3e ops with
    | some z=>match QD z P S Rc ops cx (Ij ops) [] st with
     | some st=>some ⟨cx,none,k,rnd,rs,st,cs,lps⟩
     | none=>none
    | none=>none
  | .code (.rangeFunc f params assign body)::k=>match st.eval f with
   | .fn g caps=>match st.nextId with
    | (j,st')=>bif TI lps rnd then QL P g (.yld j::caps) ⟨cx,none,.inRangeFunc j::k,rnd,rs,st.env⟩ st' cs (Ff lps j (some ⟨.ready,none,cx.n,st.env,params.toList,assign,body⟩)) else none
   | _=>none
  | .beginRound ::k=>match rnd with
   | some j=>match DJ lps j with
    | some ⟨.ready,pend,n,env,params,assign,body⟩=>some ⟨cx,none,k,rnd,rs,st,cs,Ff lps j (some ⟨.busy,pend,n,env,params,assign,body⟩)⟩
    | _=>none
   | none=>none
  | .endRangeFunc j::k=>match DJ lps j with
   | some ⟨.busy,_,_,_,_,_,_⟩=>none
   | some ⟨_,pend,n,env,params,assign,body⟩=>some ⟨cx,none,(pend.map Item.code).toList ++k,rnd,rs,st,cs,Ff lps j (some ⟨.exhausted,pend,n,env,params,assign,body⟩)⟩
   | none=>none
  | _=>none
def G3 :CH->Bool
 | ⟨_,none,[],none,_,_,[],_⟩=>true
 | ⟨_,none,.code .ret ::_,none,_,_,[],_⟩=>true
 | _=>false
def FG (P:Program) (S:B7) (Rc:CF) (n:Nat):CH->Option CH:=
 Nat.rec (motive:=fun _=>CH->Option CH) (fun _=>none) (fun _ R C=>bif G3 C then some C else match Q4 P S Rc C with
  | some C'=>R C'
  | none=>none) n
def ML :Item->Bool
 | .code _ | .inBlock _ | .inLoop _ | .inScope _ | .beginRound =>true
 | _=>false
def Ml (P:Program) (S:B7) (n:Nat) (d:Nat):CF:=
 Nat.rec (motive:=fun _=>CF) (fun _ _ _=>none) (fun _ R cx todo st=>bif todo.all ML&&Nat.ble cx.floor st.next then match FG P S R n ⟨cx,none,todo,none,[],st,[],.leaf⟩ with
  | some C=>bif Nat.beq C.cx.n cx.n then some C.st else none
  | none=>none
  else none) d
section
variable {P:Program}
section ops
variable {b:Frame} {a:Act} {k:List Item} {cs:List Frame} {w:World} {ops:Array Oper}
theorem x3h {i:Nat} {rest:zw} {o:Oper} {K:Act->World->Prop} {Q:Exit->Act->World->Prop} (hQ: ∀e a w,Q e a w->e=.normal) (ho:ops[i]? =some o) (hnd: ∀c,o.op≠ .defer c)
  (h:if Region.wanted o (yielded ops a.tmps) then o.wp P a w K Q else K (a.put o.dst undef) w):
  ∃a' w',K a' w'/\Steps P (lone (b.atR a (.inRegion ops (i::rest)::k)) cs w) (lone (b.atR a' (.inRegion ops rest::k)) cs w'):=by
 by_cases hw:Region.wanted o (yielded ops a.tmps)=true
 .rw [AG hw] at h;have hg:=stepGR_op (P:=P) (b:=b) (k:=k) (cs:=cs) (w:=w) (rest:=rest) ho hw;rw [Oper.semAt_eq _ _ _ hnd] at hg;have fin: ∀(a:Act) (v:Value),(b.atR a (.inRegion ops (i::rest)::k)).finish v=b.atR (a.put o.dst v) (.inRegion ops rest::k):=fun a v=>by rw [Frame.finish_atR,ho];rfl
  unfold Oper.wp at h;generalize hr:(execOp a.eval o).run P w=r at h;cases r with
  | ok n w'=>
   cases n <;> simp only [Oper.upon] at h
   case value v=>exact ⟨_,w',h,.one (step_lone_go (by simp_all [stepG.apply]))⟩
   case skip=>exact ⟨_,w',h,.one (step_lone_go (by simp_all [stepG.apply]))⟩
   case defer d=>refine ⟨_,w',h,.one (step_lone_go ?_)⟩;have e:=fin {a with defers:=d::a.defers} undef;simp_all [stepG.apply,Frame.atR]
   case enter f args=>
    obtain ⟨e,w'',fr,hR,eV,_,hleave⟩:=h (b.atR a (.inRegion ops (i::rest)::k)::cs);have gE:step P (lone (b.atR a (.inRegion ops (i::rest)::k)) cs w)=.next (lone (Frame.enter P f args .normal) (b.atR a (.inRegion ops (i::rest)::k)::cs) w'):=
     step_lone_go (by simp_all [stepG.apply,Frame.atR])
    cases e with
    | returned v=>
     refine ⟨_,w'',hR,.head gE (eV.trans (.one ?_))⟩
     grind [step_leave_returned]
    | panicked chain=>grind
    | outgrown=>obtain ⟨_,_,hq⟩:=hR;grind
   case row row args=>
    obtain ⟨v,w'',hR,eV⟩:=h (b.atR a (.inRegion ops (i::rest)::k)) cs;have gE:step P (lone (b.atR a (.inRegion ops (i::rest)::k)) cs w)=.next (lone (Frame.ofRow P row args .normal) (b.atR a (.inRegion ops (i::rest)::k)::cs) w'):=
     step_lone_go (by simp_all [stepG.apply,Frame.atR])
    refine ⟨_,w'',hR,.head gE ?_⟩
    grind
   all_goals exact h.elim
  | halt x w'=>cases x <;> simp only [Oper.upon] at h <;> first | exact h.elim | grind
 .rw [Az hw] at h;have hs:=stepR_op_skip (P:=P) (b:=b) (a:=a) (k:=k) (cs:=cs) (w:=w) (ops:=ops) (i:=i) (rest:=rest) (by grind);rw [ho] at hs;exact ⟨_,w,h,.one hs⟩
theorem Z3 {R:Act->World->Prop} {Q:Exit->Act->World->Prop} (hQ: ∀e a w,Q e a w->e=.normal /\R a w) (hnd:HA ops=true): ∀(l:zw) (a:Act) (w:World),wpOps P ops Q l a w->
  ∃a' w',R a' w'/\Steps P (lone (b.atR a (.inRegion ops l::k)) cs w) (lone (b.atR a' k) cs w')
 | [],a,w,h=>⟨a,w,(hQ _ _ _ h).2,.one stepR_region_end⟩
 | i::l,a,w,h=>by
  simp only [wpOps] at h;cases ho:ops[i]? with
  | none=>rw [ho] at h;obtain ⟨a',w',hR,hs⟩:=Z3 hQ hnd l a w h;have h1:=stepR_op_skip (P:=P) (b:=b) (a:=a) (k:=k) (cs:=cs) (w:=w) (ops:=ops) (i:=i) (rest:=l) (by simp [ho]);rw [ho] at h1;exact ⟨a',w',hR,.head h1 hs⟩
  | some o=>
   rw [ho] at h;have hno: ∀c,o.op≠ .defer c:=by
    intro c hc;have hm:o∈ops.toList:=(by grind);have:=Ax.1 hnd o hm
    grind
   have h':if Region.wanted o (yielded ops a.tmps) then o.wp P a w (wpOps P ops Q l) Q else wpOps P ops Q l (a.put o.dst undef) w:=by
    by_cases hw:Region.wanted o (yielded ops a.tmps)=true
    .simp only [hw,if_true] at h ⊢;rcases h with h | ⟨_,a0,w0,h0⟩;all_goals grind
    grind
   obtain ⟨a1,w1,h1,s1⟩:=x3h (b:=b) (k:=k) (cs:=cs) (rest:=l) (fun e a w q=>(hQ e a w q).1) ho hno h';obtain ⟨a',w',hR,hs⟩:=Z3 hQ hnd l a1 w1 h1;exact ⟨a',w',hR,s1.trans hs⟩
end ops
end
section
variable {P:Program}
def Sp (ρ:B9) (w:World) (r:Nat):Prop:=r<w.heap.size/\ρ.fz r=none/\ ∀b l,ρ b=some l->l.blk≠r
theorem Sp.ev {ρ ρ':B9} {floor:Nat} {m m':CE} {n n':Nat} {w w':World} (he:Ev ρ ρ' floor m n m' n' w w') {r:Nat} (hs:Sp ρ w r):Sp ρ' w' r/\w'.heap[r]? =w.heap[r]? :=by
 obtain ⟨h1,h2,h3⟩:=hs;refine ⟨⟨A1 h1 he.size,by rw [he.still r h1];exact h2,fun b l hl=> ?_⟩,?_⟩
 .by_cases hb:b<n
  .rw [he.new b hb] at hl;grind
  .rcases he.fresh b l (by omega) hl with h | ⟨b0,l0,e0,_,g0⟩;all_goals grind
 .have:w.heap[r]? =some w.heap[r]:=by simp [h1]
  rw [this];exact he.frame r _ this fun b l hl _=>h3 b l hl
structure Uy (m:zw) (w w':World):Prop where
 size:w'.heap.size=w.heap.size
 other: ∀k,k ∉ m->w'.heap[k]? =w.heap[k]?
 os:w'.os=w.os
 tape:w'.tape=w.tape
 output:w'.output=w.output
theorem Uy.refl (m:zw) (w:World):Uy m w w:=⟨rfl,fun _ _=>rfl,rfl,rfl,rfl⟩
theorem Uy.put (w:World) (r:Nat) (o:Obj):Uy [r] w (w.putObj r o):=⟨World.putObj_size,fun k hk=>World.putObj_heap_other (by grind),rfl,rfl,rfl⟩
theorem Uy.trans {m m':zw} {a b c:World} (h:Uy m a b) (k:Uy m' b c):Uy (m++m') a c:=
 ⟨k.size.trans h.size,fun i hi=>by simp only [AW,not_or] at hi;exact (k.other i hi.2).trans (h.other i hi.1),k.os.trans h.os,k.tape.trans h.tape,k.output.trans h.output⟩
theorem CB.turned {ρ:B9} {mem:CE} {next:Nat} {w w':World} (h:CB ρ mem next w) {m:zw} (hm: ∀r∈m,Sp ρ w r) (ht:Uy m w w'):CB ρ mem next w':=
 ⟨h.dom,h.inj,fun b l ab e g=>(h.blk b l ab e g).world (B9.le_refl ρ) (ht.other _ fun hr=>(hm _ hr).2.2 b l e rfl),fun k o e=>by
  rw [ht.other k fun hr=>by rw [(hm _ hr).2.1] at e;cases e];exact h.old k o e,
  h.sep,fun b l e=>by rw [ht.size];exact h.real b l e,h.bd,h.ldom⟩
theorem Ev.turned {ρ0 ρ:B9} {floor:Nat} {m0 mem:CE} {n0 next:Nat} {w0 w w':World} (h:Ev ρ0 ρ floor m0 n0 mem next w0 w) {m:zw} (hm: ∀r∈m,w0.heap.size<=r) (ht:Uy m w w'):Ev ρ0 ρ floor m0 n0 mem next w0 w':=
 ⟨h.ext,h.new,h.nxt,h.unborn,fun k o hk hf=>by
  have hlt:k<w0.heap.size:=(AB.1 hk).1;rw [ht.other k fun hr=>by grind];exact h.frame k o hk hf,h.fresh,by rw [ht.size];exact h.size,ht.os.trans h.os,ht.tape.trans h.tape,ht.output.trans h.output,h.still⟩
theorem Sp.turned {ρ:B9} {w w':World} {r:Nat} (h:Sp ρ w r) {m:zw} (ht:Uy m w w'):Sp ρ w' r:=⟨by rw [ht.size];exact h.1,h.2.1,h.2.2⟩
theorem CB.grow {ρ:B9} {mem:CE} {next:Nat} {w:World} (h:CB ρ mem next w) (o:Obj):CB ρ mem next (w.alloc o):=by
 have same: ∀k,k<w.heap.size->(w.alloc o).heap[k]? =w.heap[k]? :=fun k hk=>by
  show (w.heap.push o)[k]? =_
  grind
 exact ⟨h.dom,h.inj,fun b l ab e g=>(h.blk b l ab e g).world (B9.le_refl ρ) (same _ (h.real b l e)),fun k ob e=>by
  have:=h.old k ob e
  grind,h.sep,fun b l e=>by
  have:=h.real b l e
  grind,h.bd,h.ldom⟩
theorem Ev.grow {ρ0 ρ:B9} {floor:Nat} {m0 mem:CE} {n0 next:Nat} {w0 w:World} (h:Ev ρ0 ρ floor m0 n0 mem next w0 w) (o:Obj):Ev ρ0 ρ floor m0 n0 mem next w0 (w.alloc o):=
 ⟨h.ext,h.new,h.nxt,h.unborn,fun k ob hk hf=>by
  have:=h.frame k ob hk hf;have hlt:=(AB.1 this).1;show (w.heap.push o)[k]? =_
  grind,h.fresh,by
  have:=h.size;show _<=(w.heap.push o).size;simp;omega,h.os,h.tape,h.output,h.still⟩
theorem Sp.grow {ρ:B9} {w:World} {r:Nat} (h:Sp ρ w r) (o:Obj):Sp ρ (w.alloc o) r/\(w.alloc o).heap[r]? =w.heap[r]? :=by
 refine ⟨⟨?_,h.2.1,h.2.2⟩,?_⟩
 .have:=h.1;show r<(w.heap.push o).size;simp;omega
 .show (w.heap.push o)[r]? =_;simp [BT,Bj h.1]
theorem Sp.fresh {ρ:B9} {mem:CE} {next:Nat} {w:World} (h:CB ρ mem next w) (o:Obj):Sp ρ (w.alloc o) w.heap.size:=
 ⟨by simp_all,h.hold _ (Aj _),fun b l e=>Bj (h.real b l e)⟩
def lpAdd (ρ:B9) (j l:Nat):B9:=⟨ρ.f,ρ.fz,fun k=>if k=j then some l else ρ.lp k⟩
theorem CB.lp_none {ρ:B9} {mem:CE} {next:Nat} {w:World} (h:CB ρ mem next w):ρ.lp next=none:=by
 cases e:ρ.lp next with
 | none=>rfl
 | some l=>exact absurd (h.ldom.1 _ _ e) (Nat.lt_irrefl _)
theorem x3l {ρ:B9} {j l:Nat} (h:ρ.lp j=none):ρ.le (lpAdd ρ j l):=⟨fun _ _ e=>e,fun _ _ e=>e,fun k l' e=>by
 show (if k=j then some l else ρ.lp k)=some l'
 grind⟩
theorem CB.lpAdd {ρ:B9} {mem:CE} {next:Nat} {w:World} (h:CB ρ mem next w) (l:Nat):CB (lpAdd ρ next l) mem (next+1) w:=
 ⟨fun b l' e=>Bm (h.dom b l' e),h.inj,fun b l' ab e g=>(h.blk b l' ab e g).world (x3l h.lp_none) rfl,h.old,h.sep,h.real,fun b hb=>h.bd b (by omega),⟨fun j l' e=>by
  have e:(if j=next then some l else ρ.lp j)=some l':=e;by_cases hj:j=next
  .omega
  .rw [Az hj] at e;exact Bm (h.ldom.1 j l' e),h.ldom.2⟩⟩
theorem Ev.lpAdd {ρ0 ρ:B9} {floor:Nat} {m0 mem:CE} {n0 next:Nat} {w0 w:World} (h:Ev ρ0 ρ floor m0 n0 mem next w0 w) (hr:CB ρ mem next w) (l:Nat):Ev ρ0 (lpAdd ρ next l) floor m0 n0 mem (next+1) w0 w:=
 ⟨B9.le_trans h.ext (x3l hr.lp_none),h.new,Nat.le_succ_of_le h.nxt,h.unborn,h.frame,h.fresh,h.size,h.os,h.tape,h.output,h.still⟩
inductive E8 (ρ:B9):Item->Item->Prop
 | same (x:Item) (h:ML x=true):E8 ρ x x
 | inR (j l:Nat) (h:ρ.lp j=some l):E8 ρ (.inRangeFunc j) (.inRangeFunc l)
 | endR (j l:Nat) (h:ρ.lp j=some l):E8 ρ (.endRangeFunc j) (.endRangeFunc l)
abbrev DR (ρ:B9):List Item->List Item->Prop:=Ux (E8 ρ)
theorem Ux.mono {α β:Type} {R R':α->β->Prop} (hr: ∀a b,R a b->R' a b) {l:List α} {m:List β} (h:Ux R l m):Ux R' l m:=by
 induction h with
 | nil=>exact .nil
 | cons h _ ih=>exact .cons (hr _ _ h) ih
theorem E8.mono {ρ ρ':B9} (h:ρ.le ρ') {x y:Item} (hx:E8 ρ x y):E8 ρ' x y:=by
 cases hx with
 | same x hx=>exact .same x hx
 | inR j l e=>exact .inR j l (h.2.2 _ _ e)
 | endR j l e=>exact .endR j l (h.2.2 _ _ e)
theorem DR.exit {ρ:B9} {k k':List Item} (h:DR ρ k k') (id:Nat):(∀r,exitTo id k=some r-> ∃r',exitTo id k'=some r'/\DR ρ r r')/\(exitTo id k=none->exitTo id k'=none):=by
 induction h with
 | nil=>exact ⟨fun r e=>(by cases e),fun _=>rfl⟩
 | @cons x y l m hx t ih=>
  cases hx with
  | same x hx=>
   cases x with
   | inBlock id'=>
    grind [exitTo]
   | code _=>exact ih
   | inLoop _=>exact ih
   | inScope _=>exact ih
   | beginRound=>exact ih
   | inRegion _ _=>cases hx
   | inRangeFunc _=>cases hx
   | endRangeFunc _=>cases hx
   | call _ _ _ _=>cases hx
   | extern _ _=>cases hx
  | inR j l e=>exact ih
  | endR j l e=>exact ih
def O1 (r:Nat):Deferred:={target:=.collected r,args:= #[]}
def Vo (ro:Option CS) (k:List Item):List Item:=match ro with
 | none=>k
 | some (ops,i,_)=>.inRegion ops ((List.range ops.size).drop i)::k
def roOk :Option CS->Prop
 | none=>True
 | some (ops,i,l)=>l=ops.toList.drop i/\HA ops=true
structure Fc (ρ:B9) (cx:CL) (ro:Option CS) (todo:List Item) (rnd:Option Nat) (env:T B5) (b:Frame) (a:Act) (k:List Item) (ms:zw):Prop where
 env:Vg ρ env cx.n a.tmps
 defers:a.defers=ms.map O1
 todo:DR ρ todo k
 ro:roOk ro
 rnd:match rnd with
  | none=>b.roundOf=none
  | some j=>ms=[]/\ ∃l,ρ.lp j=some l/\b.roundOf=some l
theorem Fc.mono {ρ ρ':B9} (h:ρ.le ρ') {cx:CL} {ro:Option CS} {todo:List Item} {rnd:Option Nat} {env:T B5} {b:Frame} {a:Act} {k:List Item} {ms:zw} (hf:Fc ρ cx ro todo rnd env b a k ms):Fc ρ' cx ro todo rnd env b a k ms:=
 ⟨hf.env.mono h,hf.defers,hf.todo.mono fun _ _=>E8.mono h,hf.ro,by
  have:=hf.rnd;cases rnd with
  | none=>exact this
  | some j=>obtain ⟨h0,l,h1,h2⟩:=this;exact ⟨h0,l,h.2.2 _ _ h1,h2⟩⟩
def v8d (P:Program) (rnd:Option Nat) (rs:List ResultVar) (b:Frame):Prop:=b.kind=.normal /\(rnd=none-> ∃fn,P.funcs[b.fn]? =some fn/\fn.results.toList=rs)
inductive Fb (P:Program) (ρ:B9):List C9->List Frame->zw->Prop
 | nil:Fb P ρ [] [] []
 | cons {af:C9} {b:Frame} {a:Act} {k:List Item} {ms:zw} {cs:List C9} {css:List Frame} {mss:zw} (h:Fc ρ af.cx af.ro af.todo af.rnd af.env b a k ms)
   (hl:cs≠ []->v8d P af.rnd af.rs b) (t:Fb P ρ cs css mss):Fb P ρ (af::cs) (b.atR a (Vo af.ro k)::css) (ms++mss)
theorem Fb.mono {ρ ρ':B9} (h:ρ.le ρ') {cs:List C9} {css:List Frame} {mss:zw} (hc:Fb P ρ cs css mss):Fb P ρ' cs css mss:=by
 induction hc with
 | nil=>exact .nil
 | cons hf hl t ih=>exact .cons (hf.mono h) hl ih
structure QH (base:Nat) (ρ:B9) (w:World) (j:Nat) (L:DA) (l:Nat):Prop where
 lp:ρ.lp j=some l
 low:base<=l
 sp:Sp ρ w l
 obj: ∃tmps fn d,w.heap[l]? =some (.loop ⟨L.st,L.pend,fn,tmps,L.params.toArray,L.assign,L.body,d⟩)/\Vg ρ L.env L.n tmps
structure D5 (P:Program) (base:Nat) (ρ:B9) (cs:List C9) (lps:CO) (css:List Frame) (w:World) (m0 m1:zw):Prop where
 cs:Fb P ρ cs css m1
 nodup:(m0++m1).Nodup
 marks: ∀r∈m0++m1,base<=r/\Sp ρ w r/\w.heap[r]? =some (.deferred (some []))
 loops: ∀j L,DJ lps j=some L-> ∃l,QH base ρ w j L l
 inj: ∀j j' L L' l,DJ lps j=some L->DJ lps j'=some L'->ρ.lp j=some l->ρ.lp j'=some l->j=j'
theorem QH.ev {base:Nat} {ρ ρ':B9} {floor:Nat} {m m':CE} {n n':Nat} {w w':World} (he:Ev ρ ρ' floor m n m' n' w w') {j:Nat} {L:DA} {l:Nat} (h:QH base ρ w j L l):QH base ρ' w' j L l:=by obtain ⟨h1,h2,h3,tmps,fn,d,h4,h5⟩:=h;obtain ⟨s1,s2⟩:=h3.ev he;exact ⟨he.ext.2.2 _ _ h1,h2,s1,tmps,fn,d,by grind,h5.mono he.ext⟩
theorem D5.ev {base:Nat} {ρ ρ':B9} {floor:Nat} {m m':CE} {n n':Nat} {w w':World} (he:Ev ρ ρ' floor m n m' n' w w') {cs:List C9} {lps:CO} {css:List Frame} {m0 m1:zw} (h:D5 P base ρ cs lps css w m0 m1):D5 P base ρ' cs lps css w' m0 m1:=by
 refine ⟨h.cs.mono he.ext,h.nodup,fun r hr=> ?_,fun j L hL=> ?_,fun j j' L L' l hL hL' e e'=> ?_⟩
 .obtain ⟨h1,h2,h3⟩:=h.marks r hr;obtain ⟨s1,s2⟩:=h2.ev he
  grind
 .obtain ⟨l,hl⟩:=h.loops j L hL;exact ⟨l,hl.ev he⟩
 .obtain ⟨l1,hl1⟩:=h.loops j L hL;obtain ⟨l2,hl2⟩:=h.loops j' L' hL';have e1:=he.ext.2.2 _ _ hl1.lp;have e2:=he.ext.2.2 _ _ hl2.lp;rw [e] at e1;rw [e'] at e2;obtain rfl:=Ag e1;obtain rfl:=Ag e2;exact h.inj j j' L L' l hL hL' hl1.lp hl2.lp
theorem D5.turned {base:Nat} {ρ:B9} {w w':World} {cs:List C9} {lps:CO} {css:List Frame} {m0 m0' m1:zw} (h:D5 P base ρ cs lps css w m0 m1) {m:zw} (ht:Uy m w w') (hsub:m0'.Sublist m0) (hm: ∀r∈m,r ∉ m0'++m1) (hl: ∀r∈m,∃ds,w.heap[r]? =some (.deferred ds)):
  D5 P base ρ cs lps css w' m0' m1:=by
 refine ⟨h.cs,h.nodup.sublist (hsub.append (List.Sublist.refl _)),fun r hr=> ?_,fun j L hL=> ?_,h.inj⟩
 .obtain ⟨h1,h2,h3⟩:=h.marks r ((hsub.append (List.Sublist.refl m1)).subset hr);exact ⟨h1,h2.turned ht,by rw [ht.other r fun hrm=>hm r hrm hr];exact h3⟩
 .obtain ⟨l,h1,h2,h3,tmps,fn,d,h4,h5⟩:=h.loops j L hL;refine ⟨l,h1,h2,h3.turned ht,tmps,fn,d,?_,h5⟩;rw [ht.other l fun hlm=> ?_];all_goals grind
theorem D5.record {base:Nat} {ρ:B9} {w w':World} {cs:List C9} {lps:CO} {css:List Frame} {m0 m1:zw} (h:D5 P base ρ cs lps css w m0 m1) {j l:Nat} {L L':DA} (hj:DJ lps j=some L) (hl:QH base ρ w j L l)
  (hL:QH base ρ w' j L' l) (ht:Uy [l] w w'):D5 P base ρ cs (Ff lps j (some L')) css w' m0 m1:=by
 have gI:=hl.obj;obtain ⟨tmps,fn,d,h4,_⟩:=gI;have get: ∀i,DJ (Ff lps j (some L')) i=if i=j then some L' else DJ lps i:=fun i=>T.get_set none lps j (some L') i
 refine ⟨h.cs,h.nodup,fun r hr=> ?_,fun i M hM=> ?_,fun i i' M M' l' hM hM' e e'=> ?_⟩
 .obtain ⟨h1,h2,h3⟩:=h.marks r hr;refine ⟨h1,h2.turned ht,?_⟩;rw [ht.other r fun hrm=> ?_];all_goals grind
 .rw [get] at hM;by_cases hij:i=j
  .grind
  .rw [Az hij] at hM;obtain ⟨l2,q1,q2,q3,tmps2,fn2,d2,q4,q5⟩:=h.loops i M hM;refine ⟨l2,q1,q2,q3.turned ht,tmps2,fn2,d2,?_,q5⟩;rw [ht.other l2 fun hlm=> ?_]
   .exact q4
   .obtain rfl:l2=l:=by grind
    exact hij (h.inj i j M L l2 hM hj q1 hl.lp)
 .rw [get] at hM hM';have old: ∀x N,(if x=j then some L' else DJ lps x)=some N-> ∃N',DJ lps x=some N':=fun x N hx=>by
   grind
  obtain ⟨N,hN⟩:=old i M hM;obtain ⟨N',hN'⟩:=old i' M' hM';exact h.inj i i' N N' l' hN hN' e e'
end
section
variable {P:Program}
structure OW (P:Program) (base:Nat) (C:CH) (ρ:B9) (b:Frame) (a:Act) (k:List Item) (css:List Frame) (w:World) (ma mb:zw):Prop where
 top:Fc ρ C.cx C.ro C.todo C.rnd C.st.env b a k ma
 lv:C.cs≠ []->v8d P C.rnd C.rs b
 rest:D5 P base ρ C.cs C.lps css w ma mb
 rel:CB ρ C.st.mem C.st.next w
structure Fl (fl:Nat) (C:CH):Prop where
 cx:C.cx.floor=fl
 cs: ∀af∈C.cs,af.cx.floor=fl
 le:fl<=C.st.next
def Ma (b:Frame):List Frame->FuncId×CallKind×Option Nat
 | []=>(b.fn,b.kind,b.roundOf)
 | c::css=>Ma c css
def Es (P:Program) (fl:Nat) (C C':CH):Prop:=
 ∀(m0:CE) (n0:Nat) (ρ0:B9) (w0:World) (ρ:B9) (b:Frame) (a:Act) (k:List Item) (css:List Frame) (w:World) (ma mb:zw),OW P w0.heap.size C ρ b a k css w ma mb->Ev ρ0 ρ fl m0 n0 C.st.mem C.st.next w0 w-> ∀cs0:List Frame,
  ∃ρ' b' a' k' css' w' ma' mb',Steps P (lone (b.atR a (Vo C.ro k)) (css++cs0) w) (lone (b'.atR a' (Vo C'.ro k')) (css'++cs0) w')/\OW P w0.heap.size C' ρ' b' a' k' css' w' ma' mb'/\Ev ρ0 ρ' fl m0 n0 C'.st.mem C'.st.next w0 w'/\Ma b' css'=Ma b css/\w.heap.size<=w'.heap.size
theorem Es.refl (fl:Nat) (C:CH):Es P fl C C:=fun m0 n0 ρ0 w0 ρ b a k css w ma mb hs he cs0=>⟨ρ,b,a,k,css,w,ma,mb,Steps.refl _ _,hs,he,rfl,Aj _⟩
structure EB (P:Program) (fl:Nat) (C C':CH):Prop where
 fls:Fl fl C'
 inv:Xi fl C.st C'.st
 leads:C'.st.ob=true->Es P fl C C'
theorem EB.move {fl:Nat} {cx:CL} {todo todo':List Item} {rnd:Option Nat} {rs:List ResultVar} {st:St} {cs:List C9} {lps:CO} (hfl:Fl fl ⟨cx,none,todo,rnd,rs,st,cs,lps⟩)
  (hk: ∀(ρ:B9) (k:List Item),DR ρ todo k-> ∃k',DR ρ todo' k'/\ ∀(b:Frame) (a:Act) (css:List Frame) (w:World),step P (lone (b.atR a k) css w)=.next (lone (b.atR a k') css w)):
  EB P fl ⟨cx,none,todo,rnd,rs,st,cs,lps⟩ ⟨cx,none,todo',rnd,rs,st,cs,lps⟩:=
 ⟨⟨hfl.cx,hfl.cs,hfl.le⟩,Xi.refl _ _,fun ho m0 n0 ρ0 w0 ρ b a k css w ma mb hs he cs0=>by
   obtain ⟨k',ht,fD⟩:=hk ρ k hs.top.todo;exact ⟨ρ,b,a,k',css,w,ma,mb,.one (fD b a _ w),⟨⟨hs.top.env,hs.top.defers,ht,trivial,hs.top.rnd⟩,hs.lv,hs.rest,hs.rel⟩,he,rfl,Aj _⟩⟩
theorem DR.code {ρ:B9} {c:Code} {t k:List Item} (h:DR ρ (.code c::t) k): ∃k',k=.code c::k'/\DR ρ t k':=by
 cases h with
 | cons hx ht=>cases hx;grind
theorem y3i {cs:List Frame}: ∀(ms:zw) (fr:Frame) (w:World),fr.mode=.returning ->fr.defers=ms.map O1->ms.Nodup->(∀r∈ms,w.heap[r]? =some (.deferred (some [])))->
  ∃w',Steps P (lone fr cs w) (lone {fr with defers:=[]} cs w')/\Uy ms w w'
 | [],fr,w,hm,hd,_,_=>⟨w,by
   have:{fr with defers:=[]}=fr:=by cases fr;grind
   rw [this];exact Steps.refl _ _,Uy.refl _ _⟩
 | r::ms,fr,w,hm,hd,hn,ho=>by
  have hr:=ho r (by simp);have h1:=step_collected (P:=P) (cs:=cs) (fr:=fr) (d:=O1 r) (ds:=ms.map O1) (by rw [hm];simp) (by rw [hd];rfl) rfl (run_takeDeferred hr);rw [List.nodup_cons] at hn;obtain ⟨w',hs,ht⟩:=y3i (cs:=cs) ms {fr with defers:=ms.map O1} (w.putObj r (.deferred none)) hm rfl hn.2 fun r' hr'=>by
   grind [World.putObj_heap_other]
  exact ⟨w',.head h1 hs,(Uy.put w r _).trans ht⟩
theorem ZS {fl base:Nat} {C:CH} {ρ:B9} {b:Frame} {a:Act} {k:List Item} {css:List Frame} {w:World} {ma mb:zw} (hs:OW P base C ρ b a k css w ma mb) (hro:C.ro=none) (eR:C.rnd=none) (htodo:C.todo=[]\/ ∃t,C.todo=.code .ret ::t)
  {m0:CE} {n0:Nat} {ρ0:B9} {w0:World} (hb:base=w0.heap.size) (he:Ev ρ0 ρ fl m0 n0 C.st.mem C.st.next w0 w) (cs0:List Frame):
  ∃w',Steps P (lone (b.atR a (Vo C.ro k)) cs0 w) (lone {b.atR {a with defers:=[]} k with mode:=.returning} cs0 w')/\Vg ρ C.st.env C.cx.n a.tmps/\CB ρ C.st.mem C.st.next w'/\Ev ρ0 ρ fl m0 n0 C.st.mem C.st.next w0 w'/\D5 P base ρ C.cs C.lps css w' [] mb/\w.heap.size<=w'.heap.size:=by
 have hrn:=hs.top.rnd;rw [eR] at hrn;have h1:step P (lone (b.atR a (Vo C.ro k)) cs0 w)=.next (lone {b.atR a k with mode:=.returning} cs0 w):=by
  rw [hro];have ht:=hs.top.todo;rcases htodo with e | ⟨t,e⟩
  .rw [e] at ht;cases ht;exact stepR_end hrn
  .rw [e] at ht;obtain ⟨k',rfl,_⟩:=ht.code;exact stepR_ret hrn
 have hnd:ma.Nodup:=(List.nodup_append.1 hs.rest.nodup).1;obtain ⟨w',h2,ht⟩:=y3i (P:=P) (cs:=cs0) ma {b.atR a k with mode:=.returning} w rfl hs.top.defers hnd fun r hr=>(hs.rest.marks r (by simp [hr])).2.2;refine ⟨w',.head h1 h2,hs.top.env,hs.rel.turned (fun r hr=>(hs.rest.marks r (by simp [hr])).2.1) ht,he.turned (fun r hr=>by rw [<-hb];exact (hs.rest.marks r (by simp [hr])).1) ht,hs.rest.turned ht (List.nil_sublist _) (fun r hr hrm=> ?_) (fun r hr=>⟨_,(hs.rest.marks r (by simp [hr])).2.2⟩),B0 ht.size.symm⟩;rw [Bd] at hrm;exact (List.nodup_append.1 hs.rest.nodup).2.2 r hr r hrm rfl
theorem W2 {fl base:Nat} {v:B5} {st:St} {lps:CO} {cs:List C9} {C':CH} (h:Hx v st lps cs=some C') (hcs: ∀af∈cs,af.cx.floor=fl) (hle:fl<=st.next):
  Fl fl C'/\C'.st.mem=st.mem/\C'.st.next=st.next/\C'.st.ob=st.ob/\(cs≠ [])/\ ∀(ρ:B9) (css:List Frame) (w:World) (mb:zw) (u:Value),Zn ρ v u->D5 P base ρ cs lps css w [] mb->CB ρ st.mem st.next w->
   ∃c css' b' a' k' ma' mb',css=c::css'/\c.finish u=b'.atR a' (Vo C'.ro k')/\OW P base C' ρ b' a' k' css' w ma' mb'/\Ma b' css'=Ma c css':=by
 unfold Hx at h;split at h
 .rename_i cx ops i o l todo rnd rs env cs';split at h
  .rename_i st' hp;obtain rfl:=Ag h;obtain ⟨p1,p2,p3,p4⟩:=Vp hp;refine ⟨⟨hcs _ (Bh ..),fun af haf=>hcs af (by simp [haf]),by rw [show st'.next=st.next from p2];exact hle⟩,p1,p2,p3,by simp,fun ρ css w mb u hv hr eB=> ?_⟩;obtain ⟨hc,hnd,hmk,hlp,hinj⟩:=hr;cases hc with
   | @cons _ b a k ms _ css' mss hf hl ht=>
    simp only at hf hl;refine ⟨_,css',b,a.put o.dst u,k,ms,mss,rfl,?_,⟨⟨hf.env.put hv ?_,by rw [Act.put_defers'];exact hf.defers,hf.todo,?_,hf.rnd⟩,hl,⟨ht,hnd,hmk,hlp,hinj⟩,?_⟩,by cases css' <;> rfl⟩
    .obtain ⟨hro,_⟩:=hf.ro;have hi:ops.toList[i]? =some o:=by
      have:=Au (·[0]?) hro
      grind
     have hi':ops[i]? =some o:=(by grind);have hlt:i<ops.size:=(AB.1 hi').1;have hd:(List.range ops.size).drop i=i::(List.range ops.size).drop (i+1):=by rw [AQ (by grind)];simp
     grind [Vo,Frame.finish_atR]
    .rcases p4 with ⟨e,e2⟩ | ⟨d,e,hlt,e2⟩
     .exact .inl ⟨e,e2⟩
     .exact .inr ⟨d,e,hlt,e2⟩
    .obtain ⟨hro,fE⟩:=hf.ro;refine ⟨?_,fE⟩;have:=Au List.tail hro
     simpa using this
    .show CB ρ st'.mem st'.next w
     rw [show st'.mem=st.mem from p1,show st'.next=st.next from p2];exact eB
  .cases h
 .rename_i cx j k rnd rs env cs';obtain rfl:=Ag h;refine ⟨⟨hcs _ (Bh ..),fun af haf=>hcs af (by simp [haf]),hle⟩,rfl,rfl,rfl,by simp,fun ρ css w mb u hv hr eB=> ?_⟩;obtain ⟨hc,hnd,hmk,hlp,hinj⟩:=hr;cases hc with
  | @cons _ b a k0 ms _ css' mss hf hl ht=>
   simp only at hf hl;have htd:=hf.todo;cases htd with
   | cons hx htl=>
    cases hx with
    | same _ hp=>cases hp
    | inR _ l hlj=>exact ⟨_,css',b,a,_,ms,mss,rfl,finish_atR_inRangeFunc l u,⟨⟨hf.env,hf.defers,.cons (.endR _ l hlj) htl,trivial,hf.rnd⟩,hl,⟨ht,hnd,hmk,hlp,hinj⟩,eB⟩,by cases css' <;> rfl⟩
 .cases h
theorem w7d {b:Frame} {a:Act} {k:List Item} {cs:List Frame} {w:World} {ops:Array Oper} {i:Nat} {rest:zw} {o:Oper} {f:FuncId} {args:Array Value} (ho:ops[i]? =some o) (hnd: ∀c,o.op≠ .defer c) (hw:Region.wanted o (yielded ops a.tmps)=true)
  (hr:(execOp a.eval o).run P w=.ok (.enter f args) w):step P (lone (b.atR a (.inRegion ops (i::rest)::k)) cs w)=.next (lone (Frame.enter P f args .normal) (b.atR a (.inRegion ops (i::rest)::k)::cs) w):=by
 have hg:=stepGR_op (P:=P) (b:=b) (k:=k) (cs:=cs) (w:=w) (rest:=rest) ho hw;rw [Oper.semAt_eq _ _ _ hnd] at hg;exact step_lone_go (by simp_all [stepG.apply,Frame.atR])
theorem w7c {b:Frame} {a:Act} {k:List Item} {cs:List Frame} {w:World} {ops:Array Oper} {i:Nat} {rest:zw} {o:Oper} {l:Nat} {f:FuncId} {tmps:Array Value} {assign body:Code} (ho:ops[i]? =some o) (hnd: ∀c,o.op≠ .defer c) (hw:Region.wanted o (yielded ops a.tmps)=true)
  (hr:(execOp a.eval o).run P w=.ok (.round l f tmps assign body) w):step P (lone (b.atR a (.inRegion ops (i::rest)::k)) cs w)=.next (lone (Frame.round l f tmps assign body .normal) (b.atR a (.inRegion ops (i::rest)::k)::cs) w):=by
 have hg:=stepGR_op (P:=P) (b:=b) (k:=k) (cs:=cs) (w:=w) (rest:=rest) ho hw;rw [Oper.semAt_eq _ _ _ hnd] at hg;exact step_lone_go (by simp_all [stepG.apply])
theorem ZC {ρ:B9} {n:Nat}: ∀{ps:List Tmp} {args:zx} {env env':T B5} {vals:List Value} {tmps:Array Value},XA n ps args env=some env'->Vg ρ env n tmps->Ux (Zn ρ) args vals->
  ps.length=vals.length/\Vg ρ env' n ((ps.zip vals).foldl (fun t p=>t.setIfInBounds p.1 p.2) tmps)
 | [],[],env,env',vals,tmps,h,he,ha=>by cases ha;obtain rfl:=Ag h;simp_all
 | t::ps,x::args,env,env',vals,tmps,h,he,ha=>by
  cases ha with
  | @cons _ u _ vals hx ha=>
   unfold XA at h;obtain ⟨hc,h⟩:=Ze h;have hlt:=Al hc;have he':Vg ρ (T.set .undef env t x) n (tmps.setIfInBounds t u):=by have:=Vg.put (a:=⟨tmps,[]⟩) (dst:=some t) he hx (.inr ⟨t,rfl,hlt,rfl⟩);exact this
   obtain ⟨h1,h2⟩:=ZC h he' ha;simp_all
 | [],_::_,_,_,_,_,h,_,_=>by cases h
 | _::_,[],_,_,_,_,h,_,_=>by cases h
theorem Fl.enter {fl:Nat} {cx:CL} {ro:Option CS} {todo:List Item} {rnd:Option Nat} {rs:List ResultVar} {st:St} {cs:List C9} {lps lps':CO} (h:Fl fl ⟨cx,ro,todo,rnd,rs,st,cs,lps⟩) {n:Nat} {todo':List Item} {rnd':Option Nat} {rs':List ResultVar} {st':St} {ro':Option CS} {td:List Item} {e:T B5} (hn:st.next<=st'.next):
  Fl fl ⟨⟨n,cx.floor,cx.sym⟩,none,todo',rnd',rs',st',⟨cx,ro',td,rnd,rs,e⟩::cs,lps'⟩:=
 ⟨h.cx,fun af haf=>by
  rcases AZ.1 haf with rfl | haf
  .exact h.cx
  .exact h.cs af haf,AP h.le hn⟩
theorem x1s {base:Nat} {ρ:B9} {f:FuncId} {args:zx} {cx:CL} {ro':Option CS} {td:List Item} {rnd:Option Nat} {rs:List ResultVar} {e:T B5} {st:St} {cs:List C9} {lps:CO} {C':CH} {b:Frame} {a:Act} {k:List Item} {css:List Frame} {w:World} {ma mb:zw} {vals:Array Value}
  (h:QL P f args ⟨cx,ro',td,rnd,rs,e⟩ st cs lps=some C') (hf:Fc ρ cx ro' td rnd e b a k ma) (hlv:cs≠ []->v8d P rnd rs b) (hr:D5 P base ρ cs lps css w ma mb) (eB:CB ρ st.mem st.next w) (eD:Ux (Zn ρ) args vals.toList):
  ∃fn body,P.funcs[f]? =some fn/\fn.body=some body/\C'=⟨⟨Nat.max fn.ntmps args.length,cx.floor,cx.sym⟩,none,[.code body],none,fn.results.toList,st.withEnv (Ex args 0 .leaf),⟨cx,ro',td,rnd,rs,e⟩::cs,lps⟩/\
   ∃b' a' k',Frame.enter P f vals .normal =b'.atR a' (Vo none k')/\OW P base C' ρ b' a' k' (b.atR a (Vo ro' k)::css) w [] (ma++mb):=by
 unfold QL at h;split at h
 .rename_i fn hfn;split at h
  .rename_i body hb;obtain rfl:=Ag h;refine ⟨fn,body,hfn,hb,rfl,⟨f, #[],[],[],.run,.normal,none⟩,{tmps:=vals++Array.replicate (fn.ntmps - vals.size) undef,defers:=[]},[.code body],?_,⟨⟨ZW eD fn.ntmps,rfl,.cons (.same _ rfl) .nil,trivial,rfl⟩,fun _=>⟨rfl,fun _=>⟨fn,hfn,rfl⟩⟩,?_,eB⟩⟩
   .grind [Frame.enter,Frame.atR,Vo]
   .exact ⟨.cons hf hlv hr.cs,hr.nodup,hr.marks,hr.loops,hr.inj⟩
  .cases h
 .cases h
theorem UU {ρ:B9} {ops:Array Oper} {o:Oper} {cx:CL} {st st1:St} {e:Bool} (h:Fs ops o cx st=some (e,st1)):st1.mem=st.mem/\st1.next=st.next/\(st1.ob=true->st.ob=true/\ ∀{tmps:Array Value},Vg ρ st.env cx.n tmps->Vg ρ st1.env cx.n tmps/\Region.wanted o (yielded ops tmps)=e):=by obtain ⟨w1,w2,w3⟩:=Wr h;refine ⟨w1,w2,fun ho=>⟨(w3 ho).1,fun {tmps} he=>⟨he.congr fun t=>(w3 ho).2 t,Un h ho he.size fun d _=>he.get d⟩⟩⟩
theorem x9y {ops:Array Oper} {i:Nat} {o:Oper} {l:List Oper} (h:o::l=ops.toList.drop i):ops[i]? =some o/\l=ops.toList.drop (i+1)/\(List.range ops.size).drop i=i::(List.range ops.size).drop (i+1):=by
 have hi:ops.toList[i]? =some o:=by
  have:=Au (·[0]?) h
  grind
 have hi':ops[i]? =some o:=by grind
 have hlt:i<ops.size:=(AB.1 hi').1;refine ⟨hi',?_,?_⟩
 .have:=Au List.tail h
  simpa using this
 .rw [AQ (by grind)];simp
theorem U9 {ops:Array Oper} (h:HA ops=true) {i:Nat} {o:Oper} (ho:ops[i]? =some o) (c:Call):o.op≠ .defer c:=by
 intro hc;have hm:o∈ops.toList:=by grind
 have:=Ax.1 h o hm
 grind
theorem ZL {ρ:B9} {st:St} {n:Nat} {a:Act} (he:Vg ρ st.env n a.tmps) (args:Array Operand):Ux (Zn ρ) (args.toList.map st.eval) (args.map a.eval).toList :=by rw [Bs];exact Ux.maps _ _ _ fun x _=>he.eval x
theorem x8t {ops:Array Oper} {m i:Nat} (hm:m<=ops.size) (h:i<m):(Vu ops m)[i]? =ops[i]? :=by
 grind [Vu]
theorem v2c {ops:Array Oper} {m i:Nat} (hm:m<=ops.size) (h:m<=i):(Vu ops m)[i]? =(ops[i]?).map ET:=by
 grind [Vu]
theorem x5a {ops:Array Oper} {m:Nat} (hm:m<=ops.size):(Vu ops m).size =ops.size:=by simp [Vu];omega
theorem y2i {ops:Array Oper} {m:Nat} (hm:m<=ops.size) (i:Nat):((Vu ops m)[i]?).map (·.after)=(ops[i]?).map (·.after):=by
 by_cases h:i<m
 .rw [x8t hm h]
 .rw [v2c hm (by omega)];cases ops[i]? <;> rfl
theorem w7a (md:Region.Mode) {ops:Array Oper} {m:Nat} (hm:m<=ops.size) (listed:Array Bool):Region.ready md (Vu ops m) listed=Region.ready md ops listed:=by
 grind [Region.ready,y2i,Vu]
theorem w4f (md:Region.Mode) {ops:Array Oper} {m:Nat} (hm:m<=ops.size): ∀(fuel t:Nat) (listed:Array Bool) (acc:zw),Region.linearise.go md (Vu ops m) fuel t listed acc=Region.linearise.go md ops fuel t listed acc
 | 0,t,listed,acc=>rfl
 | fuel+1,t,listed,acc=>by
  have e:=w7a md hm listed;unfold Region.ready at e;simp only [Region.linearise.go];rw [e];split
  .exact w4f md hm fuel _ _ _
  .rfl
theorem w7j {ops:Array Oper} (fV: ∀(j:Nat) o,ops[j]? =some o-> ∀e∈o.after.toList,Region.binds .any e=true->e.on<j): ∀listed:Array Bool,listed.size=ops.size-> ∀i,i<ops.size->listed.getD i false=false-> ∃j,j∈Region.ready .any ops listed:=by
 intro listed hsz i
 induction i using Nat.strongRecOn with
 | _ i ih=>
  intro hi hl;by_cases h: ∃e∈(ops[i]).after.toList,Region.binds .any e=true/\listed.getD e.on false=false
  .grind
  .refine ⟨i,mem_ready.2 ⟨?_,ops[i],by simp [hi],fun e he hb=> ?_⟩⟩;all_goals grind
theorem w5n {ops:Array Oper} (fV: ∀(j:Nat) o,ops[j]? =some o-> ∀e∈o.after.toList,Region.binds .any e=true->e.on<j) (fuel t:Nat) (listed:Array Bool) (hsz:listed.size=ops.size) (hcl:HK ops (fun i=>listed.getD i false)) {q:Nat} (hq:q<ops.size) (hl:listed.getD q false=false):
  ∃i x t',ops[i]? =some x/\listed.getD i false=false/\HR (fun i=>listed.getD i false) x/\Region.linearise.go .any ops (fuel+1) t listed []=i::Region.linearise.go .any ops fuel t' (listed.setIfInBounds i true) []/\
   (listed.setIfInBounds i true).size =ops.size/\HK ops (fun q=>(listed.setIfInBounds i true).getD q false)/\ ∀q,(listed.setIfInBounds i true).getD q false=(listed.getD q false||q == i):=by
 obtain ⟨j0,hj0⟩:=w7j fV listed hsz q hq hl;have hne:Region.ready .any ops listed≠ []:=fun e=>by grind
 have hlt:t %(Region.ready .any ops listed).length <(Region.ready .any ops listed).length :=Bw _ (List.length_pos_iff.2 hne);have hgo:Region.linearise.go .any ops (fuel+1) t listed []=(match (Region.ready .any ops listed)[t %(Region.ready .any ops listed).length]? with
  | some i=>Region.linearise.go .any ops fuel (t / (Region.ready .any ops listed).length) (listed.setIfInBounds i true) [i]
  | none=>[].reverse):=rfl
 rw [hgo,At hlt];simp only;have hi:=AL hlt;generalize (Region.ready .any ops listed)[t %(Region.ready .any ops listed).length]=i at hi;obtain ⟨h1,x,hx,hr⟩:=mem_ready.1 hi;have hil:i<ops.size:=(AB.1 hx).1;have hils:i<listed.size:=by omega
 have hif:listed.getD i false=false:=by grind
 rw [linearise_go_acc,List.reverse_singleton,List.singleton_append];have fT: ∀q,(listed.setIfInBounds i true).getD q false=(listed.getD q false||q == i):=fun q=>by
  by_cases hq:q=i
  .simp_all
  .have:(q == i)=false:=by simp [hq]
   rw [this,Bool.or_false];simp [Array.getD_eq_getD_getElem?,Ne.symm hq]
 have eL:HR (fun i=>listed.getD i false) x:=fun e he hb=>hr e (Array.mem_toList_iff.1 he) hb;refine ⟨i,x,_,hx,hif,eL,rfl,by grind,fun j y hy hs e he hb=> ?_,fT⟩;simp only [fT] at hs ⊢;by_cases hji:j=i
 .grind
 .have hs':listed.getD j false=true:=by grind
  have:=hcl j y hy hs' e he hb
  grind
theorem w5m {ops:Array Oper} {m:Nat} (fV: ∀(j:Nat) o,ops[j]? =some o-> ∀e∈o.after.toList,Region.binds .any e=true->e.on<j) (hf: ∀j x,m<=j->ops[j]? =some x-> ∀i,i<j->Is ops i x):
  ∀(fuel t j:Nat) (listed:Array Bool),listed.size=ops.size->HK ops (fun i=>listed.getD i false)->m<=j->j+fuel=ops.size->(∀q,q<j->listed.getD q false=true)->(∀q,j<=q->listed.getD q false=false)->Region.linearise.go .any ops fuel t listed []=(List.range ops.size).drop j
 | 0,t,j,listed,hsz,hcl,hj,hn,h1,h2=>by rw [Av (by simp;omega)];rfl
 | fuel+1,t,j,listed,hsz,hcl,hj,hn,h1,h2=>by
  obtain ⟨i,x,t',hx,hif,hr,hgo,gG,hcl',fT⟩:=w5n fV fuel t listed hsz hcl (q:=j) (by omega) (h2 j (Aj _));have hij: ¬i<j:=fun e=>by rw [h1 i e] at hif;cases hif
  have e:i=j:=by
   by_cases h:j<i
   .have:listed.getD j false=true:=hf i x (by omega) hx j h _ hcl hr;rw [h2 j (Aj _)] at this;cases this
   .omega
  subst e;rw [hgo,w5m fV hf fuel t' (i+1) _ gG hcl' (by omega) (by omega) (fun q hq=>by
   rw [fT];by_cases e:q=i
   .simp [e]
   .rw [h1 q (by omega)];rfl) (fun q hq=>by
   rw [fT,h2 q (by omega)];simp;omega)]
  rw [AQ (show i<(List.range ops.size).length by simp;omega)];simp
theorem u2n {ops:Array Oper} {m:Nat} (fV: ∀(j:Nat) o,ops[j]? =some o-> ∀e∈o.after.toList,Region.binds .any e=true->e.on<j) (hm:m<ops.size) (hf: ∀j x,m<=j->ops[j]? =some x-> ∀i,i<j->Is ops i x):
  ∀(fuel t:Nat) (listed:Array Bool),listed.size=ops.size->HK ops (fun i=>listed.getD i false)->(List.range ops.size).countP (fun i=> !listed.getD i false)=fuel->(∀q,m<=q->listed.getD q false=false)->
   ∃l,Region.linearise.go .any ops fuel t listed []=l++(List.range ops.size).drop m/\ ∀i∈l,i<m:=by
 intro fuel
 induction fuel with
 | zero=>
  intro t listed hsz _ hc hl;have:=List.countP_eq_zero.1 hc m (A0.2 hm)
  grind
 | succ fuel ih=>
  intro t listed hsz hcl hc hl;obtain ⟨i,x,t',hx,hif,hr,hgo,gG,hcl',fT⟩:=w5n fV fuel t listed hsz hcl hm (hl m (Aj _));have hil:i<ops.size:=(AB.1 hx).1;have hc':(List.range ops.size).countP (fun q=> !(listed.setIfInBounds i true).getD q false)=fuel:=by have:=Y8 (fun q=> !listed.getD q false) (fun q=> !(listed.setIfInBounds i true).getD q false) i ops.size (fun k hk=>by grind) (by grind) (by grind) hil;omega
  by_cases him:i<m
  .obtain ⟨l,h2,h3⟩:=ih t' (listed.setIfInBounds i true) gG hcl' hc' (fun q hq=>by grind)
   grind
  .have e:i=m:=by
    by_cases h:m<i
    .have:listed.getD m false=true:=hf i x (by omega) hx m h _ hcl hr
     grind
    .omega
   subst e;have fC: ∀q,q<i->listed.getD q false=true:=fun q hq=>hf i x (Aj _) hx q hq _ hcl hr;refine ⟨[],?_,fun q hq=>by cases hq⟩;have hcount:fuel+1+i=ops.size:=by
    rw [<-hc];have key: ∀n,i<=n->n<=ops.size->(List.range n).countP (fun q=> !listed.getD q false)+i=n:=by
     intro n
     induction n with
     | zero=>grind
     | succ n ihn=>
      intro h1 h2;rw [List.range_succ,List.countP_append];by_cases e:i<=n
      .grind
      .have hni:n+1=i:=(by omega);have h0:(List.range n).countP (fun q=> !listed.getD q false)=0:=List.countP_eq_zero.2 fun q hq=>by
        grind
       grind
    grind
   grind [w5m]
theorem x0s {b:Frame} {k:List Item} {cs:List Frame} {ops:Array Oper} {Q:Exit->Act->World->Prop} (hQ: ∀e a w,Q e a w->e=.normal) {m:Nat} (hm:m<=ops.size) (hnd:HA ops=true)
  (hg: ∀i x g,i<m->ops[i]? =some x->x.guard=some g->g.1<m) {r:zw} (hr: ∀i∈r,m<=i): ∀(l:zw) (a:Act) (w:World),(∀i∈l,i<m)->wpOps P (Vu ops m) Q (l++r) a w->
   ∃a' w',Q .normal a' w'/\Steps P (lone (b.atR a (.inRegion ops (l++r)::k)) cs w) (lone (b.atR a' (.inRegion ops r::k)) cs w')
 | [],a,w,_,h=>by
  refine ⟨a,w,?_,Steps.refl _ _⟩;rw [Bd] at h;clear hg
  induction r with
  | nil=>exact h
  | cons i r ih=>
   refine ih (fun q hq=>hr q (by simp [hq])) ?_;simp only [wpOps] at h;rw [v2c hm (hr i (by simp))] at h;cases ho:ops[i]? with
   | none=>grind
   | some o=>
    rw [ho] at h;simp only [BU] at h;have hw:Region.wanted (ET o) (yielded (Vu ops m) a.tmps)=true:=rfl;rw [AG hw] at h;rcases h with h | ⟨_,a0,w0,h0⟩
    .have h:wpOps P (Vu ops m) Q r (a.put none (a.eval (.const (.bool true)))) w:=h;exact h
    grind
 | i::l,a,w,hl,h=>by
  have him:=hl i (by simp);simp only [Bl,wpOps] at h;rw [x8t hm him] at h;have hil:i<ops.size:=by omega
  obtain ⟨x,hx⟩: ∃x,ops[i]? =some x:=⟨ops[i],by simp [hil]⟩
  rw [hx] at h;simp only at h;have hy:Region.wanted x (yielded (Vu ops m) a.tmps)=Region.wanted x (yielded ops a.tmps):=by
   grind [Region.wanted,yielded,x8t]
  rw [hy] at h;have h':if Region.wanted x (yielded ops a.tmps) then x.wp P a w (wpOps P (Vu ops m) Q (l++r)) Q else wpOps P (Vu ops m) Q (l++r) (a.put x.dst undef) w:=by
   by_cases hw:Region.wanted x (yielded ops a.tmps)=true
   .simp only [hw,if_true] at h ⊢;rcases h with h | ⟨_,a0,w0,h0⟩;all_goals grind
   grind
  obtain ⟨a1,w1,h1,s1⟩:=x3h (b:=b) (k:=k) (cs:=cs) (rest:=l++r) hQ hx (U9 hnd hx) h';obtain ⟨a',w',hR,hs⟩:=x0s hQ hm hnd hg hr l a1 w1 (fun q hq=>hl q (by simp [hq])) h1;exact ⟨a',w',hR,s1.trans hs⟩
theorem x0k {st:St} {ops:List Oper}: ∀(l:List Oper) (i:Nat) {m:Nat},XE st ops l i=some m->i<=m/\m<i+l.length
 | [],i,m,h=>by cases h
 | o::l,i,m,h=>by
  unfold XE at h;cases hy:v5v st ops o with
  | true=>grind
  | false=>
   rw [hy] at h;have:=x0k l (i+1) h
   grind
theorem w6z {ops:Array Oper} {st:St} {m:Nat} (h:u9c ops st=some m):m<ops.size/\HA ops=true/\MX 0 (Vu ops m)=true/\(∀j x,m<=j->(Vu ops m)[j]? =some x-> ∀i,i<j->Is (Vu ops m) i x)/\
  ∀i x g,i<m->ops[i]? =some x->x.guard=some g->g.1<m:=by
 unfold u9c at h;split at h
 .rename_i m' hd;obtain ⟨hc,h⟩:=Ze h;obtain rfl:=Ag h;have hlt:=(x0k _ _ hd).2;rw [Ak,Array.length_toList] at hlt;simp only [u4t,Ad] at hc;obtain ⟨hnd,hdr,fC,hgd⟩:=hc;refine ⟨hlt,hnd,hdr,fun j x hj hx i hi=> ?_,fun i x g hi hx hgx=> ?_⟩
  .have hjl:j<ops.size:=by grind [x5a]
   have:=Ax.1 fC j (A0.2 hjl);simp only [BD] at this;rcases this with h1 | h1
   .have:=Al h1;omega
   .exact ((YT hdr).bits j x hx i (Ax.1 h1 i (A0.2 hi))).2
  .have h2:=Ax.1 hgd i (A0.2 hi);rw [hx] at h2;obtain ⟨dst,op,type,pos,after,guard⟩:=x;simp only at hgx;subst hgx;obtain ⟨j,want⟩:=g;exact Al h2
 .cases h
end
section
variable {P:Program} {ρ:B9}
theorem CB.setObj {mem:CE} {next:Nat} {w:World} (h:CB ρ mem next w) {b:Nat} {l:CT} {ab:CA} {o':HY} {r':zx} (hb:ρ b=some l) (hm:Yi mem b=some ab) (hob:ab.isObj=true) (eC:r'.length+1=ab.cells.length)
  (x:Obj) (hx:HL ρ ab.ty l.blk r' o' (some x)):CB ρ (Wm mem b (some ⟨.obj o'::r',ab.ty,none⟩)) next (w.putObj l.blk x):=by
 have hlt:=h.real b l hb;have hn:l=⟨l.blk,0,r'.length+1,r'.length+1⟩:=by
  have:=(h.blk b l ab hb hm)
  cases this with
  | plain k=>have:=k.noObj;rw [this] at hob;cases hob
  | obj o r ty e1 e2 _=>subst e1;rw [e2];simp only [Aq] at eC;rw [eC]
 have iff: ∀c,(Yi (Wm mem b (some ⟨.obj o'::r',ab.ty,none⟩)) c).isSome =(Yi mem c).isSome :=fun c=>by
  rw [Vr];split
  .rename_i e;rw [e,hm];rfl
  .rfl
 refine ⟨h.dom,fun c c' m m' e e' he hs hs'=>h.inj c c' m m' e e' he (by rw [<-iff];exact hs) (by rw [<-iff];exact hs'),fun c m ac e hc=> ?_,fun k o e=> ?_,fun c m e hs=>h.sep c m e (by rw [<-iff];exact hs),fun c m e=>by rw [World.putObj_size];exact h.real c m e,fun c hc=> ?_,h.ldom⟩
 .by_cases hcb:c=b
  .subst hcb;rw [Zs] at hc;obtain rfl:=Ag hc;rw [hb] at e;obtain rfl:=Ag e;exact .obj o' r' ab.ty rfl hn (by rw [World.putObj_heap_same hlt];exact hx)
  .rw [Zw _ _ hcb] at hc;refine (h.blk c m ac e hc).world (B9.le_refl _) (World.putObj_heap_other fun heq=>hcb ?_);exact h.inj c b m l e hb heq (by rw [hc];rfl) (by rw [hm];rfl)
 .rw [World.putObj_heap_other]
  .exact h.old k o e
  .intro heq;have:=h.sep b l hb (by rw [hm];rfl);rw [<-heq,e] at this;cases this
 .have:=h.dom b l hb;rw [Zw _ _ (by omega)];exact h.bd c hc
theorem Ev.ofObj {mem:CE} {next:Nat} {w:World} (h:CB ρ mem next w) {floor b:Nat} {l:CT} (hb:ρ b=some l) (hf:floor<=b) (o:Option CA) (x:Obj):
  Ev ρ ρ floor mem next (Wm mem b o) next w (w.putObj l.blk x) where
 ext:=B9.le_refl _
 new _ _:=rfl
 nxt:=Aj _
 unborn k _ e cs ty hm:=by
  rw [Zw]
  .exact hm
  .intro e';rw [e',hb] at e;cases e
 frame k o hk hfr:=by rw [World.putObj_heap_other fun e=>hfr b l hb hf e.symm];exact hk
 fresh k m hk e:=by have:=h.dom k m e;omega
 size:=by rw [World.putObj_size];exact Aj _
 os:=rfl
 tape:=rfl
 output:=rfl
 still _ _:=rfl
theorem CB.newObj {mem:CE} {next:Nat} {w:World} (h:CB ρ mem next w) (o:HY) (r:zx) (ty:TypeId) (x:Obj) (hx:HL ρ ty w.heap.size r o (some x)):
  CB (Uq ρ next ⟨w.heap.size,0,r.length+1,r.length+1⟩) (Wm mem next (some ⟨.obj o::r,ty,none⟩)) (next+1) (w.alloc x):=by
 have hle:=Ip (l:=⟨w.heap.size,0,r.length+1,r.length+1⟩) h.none_next;have eK: ∀b l,Uq ρ next ⟨w.heap.size,0,r.length+1,r.length+1⟩ b=some l->(b=next/\l=⟨w.heap.size,0,r.length+1,r.length+1⟩)\/(b≠next/\ρ b=some l):=fun b l e=>by
  grind [Uc]
 have hold: ∀k,k<w.heap.size->(w.alloc x).heap[k]? =w.heap[k]? :=fun k hk=>by show (w.heap.push x)[k]? =_;rw [BT,Az (Bj hk)]
 have hnew:(w.alloc x).heap[w.heap.size]? =some x:=World.alloc_heap_new w x;have gC:(w.alloc x).heap.size =w.heap.size+1:=Array.size_push _;refine ⟨fun b l e=> ?_,fun b b' l l' e e' hbl hs hs'=> ?_,fun b l ab e hm=> ?_,fun k o e=> ?_,fun b l e hs=> ?_,fun b l e=> ?_,fun b hb=>by rw [Zw _ _ (by omega)];exact h.bd b (by omega),⟨fun j l e=>Bm (h.ldom.1 j l e),h.ldom.2⟩⟩
 .rcases eK b l e with ⟨rfl,_⟩ | ⟨_,e⟩
  .omega
  .have:=h.dom b l e;omega
 .rcases eK b l e with ⟨hb,hl⟩ | ⟨hb,e2⟩ <;> rcases eK b' l' e' with ⟨hb',hl'⟩ | ⟨hb',e2'⟩
  .rw [hb,hb']
  .have:=h.real b' l' e2';grind
  .have:=h.real b l e2;grind
  .rw [Zw _ _ hb] at hs;rw [Zw _ _ hb'] at hs';exact h.inj b b' l l' e2 e2' hbl hs hs'
 .rcases eK b l e with ⟨rfl,rfl⟩ | ⟨hb,e⟩
  .rw [Zs] at hm;obtain rfl:=Ag hm;exact .obj o r ty rfl rfl (by rw [hnew];exact hx.mono hle)
  .rw [Zw _ _ hb] at hm;exact (h.blk b l ab e hm).world hle (hold _ (h.real b l e))
 .have hk:=h.old k o e;have hlt:=(AB.1 hk).1;rw [hold k hlt];exact hk
 .rcases eK b l e with ⟨rfl,rfl⟩ | ⟨hb,e⟩
  .exact h.hold _ (Aj _)
  .rw [Zw _ _ hb] at hs;exact h.sep b l e hs
 .rw [gC];rcases eK b l e with ⟨rfl,rfl⟩ | ⟨_,e⟩
  .show w.heap.size<_;omega
  .have:=h.real b l e;omega
theorem YY {st:St} {w:World} (h:CB ρ st.mem st.next w) (floor:Nat) (o:HY) (r:zx) (ty:TypeId) (x:Obj) (hx:HL ρ ty w.heap.size r o (some x)) {v:B5} {u:Value}
  (eT: ∀ρ',ρ' st.next=some ⟨w.heap.size,0,r.length+1,r.length+1⟩->Zn ρ' v u):
  D2 ρ floor st (Cg st (.obj o::r) ty) v w (Uq ρ st.next ⟨w.heap.size,0,r.length+1,r.length+1⟩) u (w.alloc x):=
 ⟨eT _ (by simp [Uq]),h.newObj o r ty x hx,Ev.ofNew h floor _ _ _ (Aj _)⟩
theorem x2l {w:World} {k:Nat} {c cs:Array Value} {el:TypeId} {fz:Nat×Nat} (h:w.heap[k]? =some (.cells c el fz)):w.setRow k cs=w.putObj k (.cells cs el fz):=by
 unfold World.setRow World.putObj
 congr 1
 apply Array.ext_getElem?;intro i;rw [BB,Array.getElem?_setIfInBounds];have hlt:=(AB.1 h).1;by_cases e:k=i
 .subst e;rw [AG rfl,AG rfl,h];simp [hlt]
 .simp [e]
theorem w5x {w:World} {k:Nat} {s:ByteArray} {p:Nat} (h:w.heap[k]? =some (.stringIter s p)):(getObj k).run P w=.ok (.stringIter s p) w:=by simp [getObj,Sem.run,h]
theorem v8t {w:World} {k:Nat} {s:ByteArray} {p:Nat} {o':Obj} (h:w.heap[k]? =some (.stringIter s p)):(setObj k o').run P w=.ok () (w.putObj k o'):=by simp [setObj,Sem.run,h,World.putObj]
theorem v6w {w:World} {t:TypeId} {m:Array (String×TypeId)} (h:P.underlying t=some (.interface m)) (v:Value) (hv:v=.nilIface \/ ∃d z,v=.iface d z):(Op.equal t v .nilIface).run P w=.ok (match v with | .nilIface =>true | _=>false) w:=by
 have key: ∀d,(Op.equalIn (d+1) t v .nilIface).run P w=.ok (match v with | .nilIface =>true | _=>false) w:=fun d=>by rcases hv with rfl | ⟨d,z,rfl⟩ <;> simp [Op.equalIn,run_underlying h]
 exact key 9999
theorem CB.objAt {mem:CE} {next:Nat} {w:World} (h:CB ρ mem next w) {b:Nat} {l:CT} {o:HY} {r:zx} {ty:TypeId} (hb:ρ b=some l) (hm:Yi mem b=some ⟨.obj o::r,ty,none⟩):HL ρ ty l.blk r o w.heap[l.blk]? :=by
 have:=h.blk b l _ hb hm;cases this with
 | plain k=>have:=k.noObj;cases this
 | obj o' r' ty' e1 e2 h3=>simp only [CA.mk.injEq,Bk,B5.obj.injEq] at e1;obtain ⟨⟨rfl,rfl⟩,rfl,_⟩:=e1;exact h3
theorem CB.objBase {mem:CE} {next:Nat} {w:World} (h:CB ρ mem next w) {b:Nat} {l:CT} {o:HY} {r:zx} {ty:TypeId} (hb:ρ b=some l) (hm:Yi mem b=some ⟨.obj o::r,ty,none⟩):l.base=0:=by
 have:=h.blk b l _ hb hm;cases this with
 | plain k=>have:=k.noObj;cases this
 | obj o' r' ty' e1 e2 h3=>rw [e2]
def E7 {α:Type} (vf:α->Value) (es:List MapEntry) (l:List (zy×α)):Prop:=es.map (fun e=>(e.key,e.val))=l.map fun p=>(.string ⟨p.1.toArray⟩,vf p.2)
def GD {α:Type} (vf:α->Value) (k:zy):List (zy×α)->Nat->Option (Nat×Value)
 | [],_=>none
 | p::r,i=>bif k == p.1 then some (i,vf p.2) else GD vf k r (i+1)
theorem bytes_beq (a b:zy):((⟨a.toArray⟩:ByteArray) == ⟨b.toArray⟩)=(a == b):=by rw [AK,MapKept.bytes_beq,AR];simp
theorem YU {α:Type} (vf:α->Value) (k:zy): ∀(es:List MapEntry) (l:List (zy×α)) (i:Nat),E7 vf es l->Instr.findNow .string (.string ⟨k.toArray⟩) es i=some (GD vf k l i)
 | [],[],_,_=>rfl
 | [],_::_,_,h=>by cases h
 | _::_,[],_,h=>by cases h
 | e::es,p::l,i,h=>by
  unfold E7 at h;simp only [A8,Bk,Ac] at h;obtain ⟨⟨h1,h2⟩,h3⟩:=h;have ih:=YU vf k es l (i+1) h3;unfold Instr.findNow GD;rw [h1];simp only [Instr.sameNow,bytes_beq];cases hk:(k == p.1) with
  | true=>rw [Af,h2]
  | false=>rw [Ab];exact ih
theorem w6c {α:Type} (vf:α->Value) (d:α) (k:zy): ∀(l:List (zy×α)) (i:Nat),match GD vf k l i with
  | some (_,v)=>v=vf (getK d l k)/\Cx l k=true
  | none=>getK d l k=d/\Cx l k=false
 | [],_=>⟨rfl,rfl⟩
 | p::l,i=>by
  have ih:=w6c vf d k l (i+1);unfold GD getK Cx;cases hk:(k == p.1) with
  | true=>simp [hk]
  | false=>simpa [hk,Cx] using ih
theorem w6b {α:Type} (vf:α->Value) (k:zy) (v:α) (c:Nat): ∀(l:List (zy×α)) (es:List MapEntry) (i:Nat),E7 vf es l->match GD vf k l i with
  | some (j,_)=>i<=j/\(∃e,es[j - i]? =some e/\e.key=.string ⟨k.toArray⟩)/\E7 vf (es.modify (j - i) fun e=>{e with key:=.string ⟨k.toArray⟩,val:=vf v}) (Cy l k v)
  | none=>E7 vf (es++[⟨.string ⟨k.toArray⟩,vf v,c⟩]) (Cy l k v)
 | [],es,i,h=>by
  have:es=[]:=by unfold E7 at h;simpa using h
  subst this;simp [GD,Cy,E7]
 | p::l,[],i,h=>by cases h
 | p::l,e::es,i,h=>by
  unfold E7 at h;simp only [A8,Bk,Ac] at h;obtain ⟨⟨h1,h2⟩,h3⟩:=h;have ih:=w6b vf k v c l es (i+1) h3;unfold GD Cy;cases hk:(k == p.1) with
  | true=>
   have hk':k=p.1:=by simpa using hk
   simp only [Af,BR];refine ⟨Aj _,⟨e,rfl,by rw [h1,hk']⟩,?_⟩;unfold E7;simp only [List.modify_zero_cons,A8,Bk,Ac];exact ⟨⟨by rw [hk'],trivial⟩,h3⟩
  | false=>
   simp only [Ab];cases hf:GD vf k l (i+1) with
   | none=>rw [hf] at ih;unfold E7 at ih ⊢;simp only [Bl,A8,Bk,Ac];exact ⟨⟨h1,h2⟩,ih⟩
   | some q=>rw [hf] at ih;obtain ⟨j,x⟩:=q;simp only at ih ⊢;obtain ⟨k1,⟨e',k2,k3⟩,k4⟩:=ih;have hj:j - i=(j - (i+1))+1:=(by omega);refine ⟨by omega,⟨e',by rw [hj];exact k2,k3⟩,?_⟩;rw [hj];unfold E7 at k4 ⊢;simp only [List.modify_succ_cons,A8,Bk,Ac];exact ⟨⟨h1,h2⟩,k4⟩
theorem z7r {α:Type} (vf:α->Value) (d:α) {w:World} {t kt et:TypeId} {r clock:Nat} {es:Array MapEntry} {l:List (zy×α)} (hm:P.underlying t=some (.map kt et)) (hk:P.underlying kt=some .string)
  (hz:(zeroValue et).run P w=.ok (vf d) w) (hb:w.heap[r]? =some (.map es clock)) (hes:E7 vf es.toList l) (k:zy) (co:Bool):
  (Instr.lookup t (.map (some r)) (.string ⟨k.toArray⟩) co).run P w=.ok (if co then .tuple #[vf (getK d l k),.bool (Cx l k)] else vf (getK d l k)) w:=by
 have hf:=YU vf k es.toList l 0 hes;have hc: ∀b,(Instr.checkKey b 10000 kt (.string ⟨k.toArray⟩)).run P w=.ok () w:=fun b=>MapKept.run_checkKey (k:=.string ⟨k.toArray⟩) hk (by simp [MapKept.IsKey]) b 9999;have hg:=w6c vf d k l 0;cases hfk:GD vf k l 0 with
 | none=>rw [hfk] at hf hg;simp only at hg;rw [hg.1,hg.2];simp [Instr.lookup,run_underlying hm,MapKept.run_getObj_map hb,hc,MapKept.run_findKey hk hf,hz,Result.andThen]
 | some q=>obtain ⟨j,v⟩:=q;rw [hfk] at hf hg;simp only at hg;rw [<-hg.1,hg.2];simp [Instr.lookup,run_underlying hm,MapKept.run_getObj_map hb,hc,MapKept.run_findKey hk hf,Result.andThen]
theorem z7q {α:Type} (vf:α->Value) {w:World} {t kt et:TypeId} {r clock:Nat} {es:Array MapEntry} {l:List (zy×α)} (hm:P.underlying t=some (.map kt et)) (hk:P.underlying kt=some .string)
  (hb:w.heap[r]? =some (.map es clock)) (hes:E7 vf es.toList l) (k:zy) (v:α):
  ∃es' clock',(Instr.mapUpdate t (.map (some r)) (.string ⟨k.toArray⟩) (vf v)).run P w=.ok () (w.putObj r (.map es' clock'))/\E7 vf es'.toList (Cy l k v):=by
 have hf:=YU vf k es.toList l 0 hes;have hc: ∀b,(Instr.checkKey b 10000 kt (.string ⟨k.toArray⟩)).run P w=.ok () w:=fun b=>MapKept.run_checkKey (k:=.string ⟨k.toArray⟩) hk (by simp [MapKept.IsKey]) b 9999;have hg:=w6b vf k v clock l es.toList 0 hes;cases hfk:GD vf k l 0 with
 | none=>rw [hfk] at hf hg;simp only at hg;refine ⟨es.push ⟨.string ⟨k.toArray⟩,vf v,clock⟩,clock+1,?_,by simpa using hg⟩;simp [Instr.mapUpdate,run_underlying hm,MapKept.run_getObj_map hb,hc,MapKept.run_findKey hk hf,MapKept.run_setObj_map _ hb,Result.andThen,World.putObj]
 | some q=>
  obtain ⟨j,x⟩:=q;rw [hfk] at hf hg;simp only [Nat.sub_zero] at hg;obtain ⟨_,⟨e,h1,h2⟩,h3⟩:=hg;have h1':es[j]? =some e:=by simpa using h1
  refine ⟨es.modify j fun e=>{e with key:=.string ⟨k.toArray⟩,val:=vf v},clock,?_,by simpa using h3⟩;have hs: ∀w:World,(Instr.keyThatStays (.string ⟨k.toArray⟩) (.string ⟨k.toArray⟩)).run P w=.ok (.string ⟨k.toArray⟩) w:=fun w=>by simp [Instr.keyThatStays,Instr.sameBits,(MapKept.bytes_beq (⟨k.toArray⟩:ByteArray) ⟨k.toArray⟩).2 rfl]
  simp [Instr.mapUpdate,run_underlying hm,MapKept.run_getObj_map hb,hc,MapKept.run_findKey hk hf,MapKept.run_setObj_map _ hb,Result.andThen,World.putObj,h1',h2,hs]
theorem x1v {v:B5} {u:Value} (h:Iv v=true) (hr:Zn ρ v u):u=.int .u8 ((MV v).toNat :Int):=by
 unfold Iv at h;split at h
 .rename_i n;have h:=Aw h;cases hr;simp only [MV]
  congr 1
  have:(UInt8.ofNat n.toNat).toNat =n.toNat:=by rw [UInt8.toNat_ofNat'];omega
  rw [this];omega
 .cases h
def v8g (w:World) (el:TypeId) (g o:Nat) (s:zy):Prop:= ∃cs,w.heap[g]? =some (.cells cs el (0,0))/\(s≠ []->o+s.length<=cs.size)/\ ∀j x,s[j]? =some x->cs[o+j]? =some (.int .u8 x.toNat)
theorem Y1 {mem:CE} {next:Nat} {w:World} (eB:CB ρ mem next w) {v:B5} {u:Value} {s:zy} (h:Rv mem v=some (s,true)) (hv:Zn ρ v u):
  (u=.slice none 0 0/\s=[])\/ ∃b l g o c el,TN v=some b/\ρ b=some l/\(Yi mem b).isSome =true/\l.blk=g/\u=.slice (some ⟨g,o,none⟩) s.length c/\s.length<=c/\(∀ab,Yi mem b=some ab->el=ab.ty)/\v8g w el g o s:=by
 unfold Rv at h;split at h
 .simp only [Ae,Ac] at h;obtain ⟨rfl,_⟩:=h;cases hv;exact .inl ⟨rfl,rfl⟩
 .rename_i b off len cap;split at h
  .rename_i blk hm;obtain ⟨hno,h⟩:=MU h;split at h
   .rename_i cs hc;simp only [Ae,Ac] at h;obtain ⟨rfl,fC⟩:=h;obtain ⟨k1,k2,k3⟩:=MH hc;cases hv with
    | sl _ _ _ _ l c hl _ eC=>
     obtain ⟨hty,hn,ht,_,cur,el,h1,h2,h3⟩:=(eB.blk b l blk hl hm).at hno;refine .inr ⟨b,l,l.blk,l.base+off,c,el,rfl,hl,by rw [hm];rfl,rfl,by simp [k2],by simpa [k2] using eC,fun ab e=>by rw [hm] at e;rw [<-Ag e];exact hty _ _ _ h1,cur,h1,?_,fun j x hx=> ?_⟩
     .intro hne;have:len≠0:=fun e=>hne (by rw [List.map_eq_nil_iff];exact Br (by rw [k2,e]));simp only [BW,k2];omega
     .simp only [BK,Ao] at hx;obtain ⟨y,hy,rfl⟩:=hx;have hj:j<cs.length:=(Bb.1 hy).1;obtain ⟨z,q1,q2⟩:=h3 (off+j) (by omega);have hyz:blk.cells[off+j]'(by omega)=y:=by
       have:cs[j]? =blk.cells[off+j]? :=by rw [k1,List.getElem?_take,AG (by omega),BV]
       rw [this,At (by omega)] at hy;exact Ag hy
      rw [hyz] at q2;have hby:=Ax.1 fC y (List.mem_of_getElem? hy);rw [AN,q1,x1v hby q2]
   .cases h
  .cases h
 .rename_i b sz off len cap;split at h
  .rename_i blk hm;split at h
   .rename_i A hA;simp only [Ae,Ac,Ad,An] at h;obtain ⟨rfl,hs1,hs2,eM,hok⟩:=h;obtain rfl:=Ai hs1;have hsz:=Ai hs2;have hok: ∀k,k<len-> ∃v,A.get (off+k)=[v]/\Iv v=true:=v4v (fun h k hk=>by
     have:=Ax.1 h k (A0.2 hk);unfold v7p at this;split at this
     .rename_i v e;exact ⟨v,e,this⟩
     .cases this) hok
    have hlen0:(Fa len fun k=>A.get (off+k)).length =len:=(by simp [Fa]);cases hv with
    | slan=>exact .inl ⟨rfl,by simp [Fa]⟩
    | sla _ _ _ _ _ l c hl _ eC=>
     obtain ⟨hty,hn,ht,har,cur,el,h1,h2,h3⟩:=(eB.blk b l blk hl hm).rows hA;obtain ⟨a1,a2,a3⟩:=har A hA;have hrl:=Yk A.n a3;rw [<-a1,hsz,Nat.mul_one] at hrl;refine .inr ⟨b,l,l.blk,l.base+off*1,c,el,rfl,hl,by rw [hm];rfl,rfl,by rw [hlen0],by rw [hlen0];exact eC,fun ab e=>by rw [hm] at e;rw [<-Ag e];exact hty _ _ _ h1,cur,h1,?_,fun j x hx=> ?_⟩
     .intro _;rw [hlen0];omega
     .have hj:j<len:=by rw [<-hlen0];exact (Bb.1 hx).1
      obtain ⟨v0,e1,e2⟩:=hok j hj;obtain ⟨z,q1,q2⟩:=h3 (off+j) (by omega);have hg:blk.cells[off+j]? =some v0:=by
       have:=Vf A.n a3 (off+j) 0 (by omega) (by omega);rw [hsz] at this;rw [a1]
       simpa [e1] using this
      have hyz:blk.cells[off+j]'(by omega)=v0:=by rw [At (by omega)] at hg;exact Ag hg
      rw [hyz] at q2;have hx':x=MV v0:=by simp only [Fa,BK,List.getElem?_range hj,BU,Ae] at hx;rw [<-hx,e1];rfl
      rw [Nat.mul_one,AN,q1,x1v e2 q2,hx']
   .cases h
  .cases h
 .cases h
theorem v2v {w:World} {g o c:Nat} {el:TypeId} {s:zy} (h:v8g w el g o s):(Conv.bytesToString (.slice (some ⟨g,o,none⟩) s.length c)).run P w=.ok (.string ⟨s.toArray⟩) w:=by
 obtain ⟨cs,h1,h2,h3⟩:=h;have hl:(loadCells ⟨g,o,none⟩ s.length).run P w=.ok ((s.map fun x=>(x.toNat:Int)).map (Value.int .u8)).toArray w:=by
  have:=run_loadCells_list (P:=P) w ⟨g,o,none⟩ ((s.map fun x=>(x.toNat:Int)).map (Value.int .u8)) fun j v hv=>by simp only [List.map_map,BK,Ao] at hv;obtain ⟨x,hx,rfl⟩:=hv;rw [Xo];have:=h3 j x hx;simp [World.cell?,h1,this]
  simpa using this
 rw [run_bytesToString w ⟨g,o,none⟩ s.length c _ hl]
 congr 2
 have: ∀(l:zy) (acc:ByteArray),(l.map fun x=>(x.toNat:Int)).foldl (fun r n=>r.push (UInt8.ofNat n.toNat)) acc=⟨acc.data++l.toArray⟩:=by
  intro l
  induction l with
  | nil=>intro acc;simp
  | cons x l ih=>intro acc;simp only [A8,List.foldl_cons,ih];simp [ByteArray.push]
 rw [this];simp
theorem x8k :Zn ρ (.tup []) undef:=.tup [] #[] rfl fun j h1 _=>by simp at h1
theorem y8z {floor:Nat} {st st':St} {t:TypeId} {x k v:B5} (h:QB P floor st t x k v=some st'):Xi floor st st'/\st'.env=st.env:=by
 unfold QB at h;split at h
 .obtain ⟨hf,h⟩:=Ze h;have hf:=Al hf;split at h
  .rename_i hm _;obtain rfl:=Ag h;exact ⟨Xi.write st _ hf hm,rfl⟩
  .rename_i hm _;obtain rfl:=Ag h;exact ⟨Xi.write st _ hf hm,rfl⟩
  .cases h
 .cases h
theorem U8 {t:TypeId} {kd:Bool} (h:R5 P t=some kd): ∃k e,P.underlying t=some (.map k e)/\P.underlying k=some .string /\ ∀w,(zeroValue e).run P w=.ok (bif kd then .int .i64 0 else .bool false) w:=by
 unfold R5 at h;split at h
 .rename_i k e hu;refine ⟨k,e,hu,?_⟩;split at h
  .rename_i i h1 h2 h3;split at h
   .rename_i n hz;obtain ⟨hn,h⟩:=Ze h;obtain rfl:=Ag h;obtain rfl:n=0:=by simpa using hn
    exact ⟨h1,fun w=>by simp [zeroValue,run_typeInfo w h3,hz]⟩
   .cases h
  .rename_i i h1 h2 h3;split at h
   .rename_i b hz;cases b with
    | true=>cases h
    | false=>obtain rfl:=Ag h;exact ⟨h1,fun w=>by simp [zeroValue,run_typeInfo w h3,hz]⟩
   .cases h
  .cases h
 .cases h
theorem y1v {floor:Nat} {st st':St} {t:TypeId} {x k v:B5} (h:QB P floor st t x k v=some st') {w:World} (eB:CB ρ st.mem st.next w) {ux uk uv:Value} (hx:Zn ρ x ux) (hk:Zn ρ k uk) (hv:Zn ρ v uv):
  ∃w',(Instr.mapUpdate t ux uk uv).run P w=.ok () w'/\D2 ρ floor st st' (.tup []) w ρ undef w':=by
 unfold QB at h;split at h
 .rename_i b ks;obtain ⟨hf,h⟩:=Ze h;have hf:=Al hf;cases hx with
  | mapr _ l hl=>
  cases hk;split at h
  .rename_i ml ty n hkd hm _;obtain rfl:=Ag h;cases hv;obtain ⟨kt,et,hu,hk,_⟩:=U8 hkd;obtain ⟨_,es,ck,ho,hes⟩:=eB.objAt hl hm;obtain ⟨es',ck',eE,hes'⟩:=z7q (P:=P) (fun n:Int=>.int .i64 n) hu hk ho hes ks n;exact ⟨_,eE,x8k,eB.setObj hl hm rfl rfl _ ⟨rfl,es',ck',rfl,hes'⟩,Ev.ofObj eB hl hf _ _⟩
  .rename_i ml ty e hkd hm _;obtain rfl:=Ag h;cases hv;obtain ⟨kt,et,hu,hk,_⟩:=U8 hkd;obtain ⟨_,es,ck,ho,hes⟩:=eB.objAt hl hm;obtain ⟨es',ck',eE,hes'⟩:=z7q (P:=P) (fun n:Bool=>.bool n) hu hk ho hes ks e;exact ⟨_,eE,x8k,eB.setObj hl hm rfl rfl _ ⟨rfl,es',ck',rfl,hes'⟩,Ev.ofObj eB hl hf _ _⟩
  .cases h
 .cases h
theorem Xi.kill {floor:Nat} (st:St) {c:Nat} (hf:floor<=c):Xi floor st (st.withMem (Wm st.mem c none)) where
 nxt:=Aj _
 bd h k hk:=by
  show Yi (Wm st.mem c none) k=none;rw [Vr];split
  .rfl
  .exact h k hk
 low _ k hk:=Zw _ _ (by omega)
 ob h:=h
theorem P2 {floor:Nat} {st st':St} {op:Op} {v:B5} {b:Bool} (h:aX P floor st op=some (v,b,st')):Xi floor st st'/\st'.env=st.env:=by
 have same: ∀{v0:B5} {b0:Bool},some (v0,b0,st)=some (v,b,st')->Xi floor st st'/\st'.env=st.env:=fun e=>by simp only [Ae,Ac] at e;obtain ⟨_,_,rfl⟩:=e;exact ⟨Xi.refl _ _,rfl⟩
 have fresh: ∀{v0:B5} {b0:Bool} {cs:zx} {ty:TypeId},some (v0,b0,Cg st cs ty)=some (v,b,st')->Xi floor st st'/\st'.env=st.env:=fun e=>by simp only [Ae,Ac] at e;obtain ⟨_,_,rfl⟩:=e;exact ⟨Xi.new st _ _,rfl⟩
 unfold aX at h;split at h
 .split at h
  .exact fresh h
  .cases h
 .split at h
  .split at h
   .exact same h
   .exact same h
   .cases h
  .cases h
 .simp only [Ao,Ac] at h;obtain ⟨st1,h1,_,_,rfl⟩:=h;exact y8z h1
 .simp only [Ao,Ac] at h;obtain ⟨st1,h1,_,_,rfl⟩:=h;exact y8z h1
 .split at h
  .exact fresh h
  .cases h
 .split at h
  .obtain ⟨hf,h⟩:=Ze h;split at h
   .rename_i c s pos ty hm;split at h;rename_i e st1 ht;obtain ⟨t1,t2,t3,t4⟩:=RM ht;simp only [Ae,Ac] at h;obtain ⟨_,_,rfl⟩:=h;have hi:=Xi.same (floor:=floor) t2 t3 fun ho=>(t4 ho).2;cases e with
    | false=>exact ⟨hi,t1⟩
    | true=>exact ⟨hi.trans (Xi.write st1 _ (Al hf) (by rw [t2];exact hm)),t1⟩
   .cases h
  .cases h
 .obtain ⟨_,h⟩:=Ze h;split at h
  .split at h
   .exact fresh h
   .cases h
  .cases h
 .split at h
  .split at h
   .exact same h
   .cases h
  .cases h
 .split at h
  .obtain ⟨hf,h⟩:=Ze h;simp only [Ad] at hf;split at h
   .rename_i hm _;obtain ⟨_,h⟩:=Ze h;simp only [Ae,Ac] at h;obtain ⟨_,_,rfl⟩:=h;exact ⟨Xi.write st _ (Al hf.1) hm,rfl⟩
   .cases h
  .cases h
 .split at h
  .split at h
   .split at h
    .exact same h
    .cases h
   .cases h
  .cases h
 .split at h
  .split at h
   .exact same h
   .exact same h
   .cases h
  .cases h
 .split at h
  .obtain ⟨_,h⟩:=Ze h;split at h
   .obtain ⟨_,h⟩:=Ze h;split at h
    .split at h
     .exact same h
     .rename_i c _;obtain ⟨hc,h⟩:=Ze h;simp only [Ad] at hc;simp only [Ae,Ac] at h;obtain ⟨_,_,rfl⟩:=h;have hc1:=Al hc.1;cases hmc:Yi st.mem c with
      | some ab=>exact ⟨Xi.write st _ hc1 hmc,rfl⟩
      | none=>exact ⟨Xi.kill st hc1,rfl⟩
    .cases h
   .cases h
  .cases h
 .cases h
theorem CB.kept {mem:CE} {next:Nat} {w w':World} (h:CB ρ mem next w) (hs:w.heap.size<=w'.heap.size) {p:Nat->Prop} (hp: ∀b l,ρ b=some l->(Yi mem b).isSome =true->p l.blk) (hz: ∀k o,ρ.fz k=some o->p k)
  (hk: ∀k o,w.heap[k]? =some o->p k->w'.heap[k]? =some o):CB ρ mem next w':=
 ⟨h.dom,h.inj,fun b l ab e hm=>by
  have q:=h.blk b l ab e hm;obtain ⟨o,ho⟩:=q.some;exact q.world (B9.le_refl _) (by rw [ho];exact hk _ _ ho (hp b l e (by rw [hm];rfl))),fun k o e=>hk k o (h.old k o e) (hz k o e),h.sep,fun b l e=>A1 (h.real b l e) hs,h.bd,h.ldom⟩
theorem u4k (hN:EC P) {o:Oper} {floor:Nat} {st st':St} {v:B5} (h:aX P floor st o.op=some (v,true,st')) (hob:st'.ob=true) {a:Act} (hr:Qn ρ st.eval a.eval o.op) {w:World} (eB:CB ρ st.mem st.next w):
  OV P o a w (D2 ρ floor st st' v w):=by
 obtain ⟨dst,op,type,pos,after,guard⟩:=o;simp only at h hr;unfold aX at h;split at h
 ·-- makeMap
  rename_i t;split at h
  .rename_i kd hkd;simp only [Ae,Ac] at h;obtain ⟨rfl,_,rfl⟩:=h;refine .inl ⟨_,.map (some w.heap.size),_,?_,YY eB floor _ [] t (.map #[] 0) ?_ fun ρ' hρ'=>.mapr _ _ hρ'⟩
   .have hmk:(Instr.makeMap t none).run P w=.ok (.map (some w.heap.size)) (w.alloc (.map #[] 0)):=rfl;simp [execOp,hmk]
   .cases kd
    .exact ⟨rfl,_,_,rfl,rfl⟩
    .exact ⟨rfl,_,_,rfl,rfl⟩
  .cases h
 ·-- lookup
  rename_i t x i co;have hx:=hr x (by simp [Op.operands]);have hi:=hr i (by simp [Op.operands]);split at h
  .rename_i b ks ex ei;rw [ex] at hx;rw [ei] at hi;generalize hux:a.eval x=ux at hx;generalize hui:a.eval i=ui at hi;cases hx with
   | mapr _ l hl=>
   cases hi;split at h
   .rename_i ml ty hkd hm;obtain ⟨kt,et,hu,hk,hz⟩:=U8 hkd;simp only [Ae,Ac] at h;obtain ⟨rfl,_,rfl⟩:=h;obtain ⟨_,es,ck,ho,hes⟩:=eB.objAt hl hm;have eE:=z7r (P:=P) (fun n:Int=>.int .i64 n) 0 hu hk (hz w) ho hes ks co;refine .inl ⟨ρ,_,w,by simp only [execOp,hux,hui];simp only [Sem.run_bind,eE,Result.andThen];rfl,?_,eB,Ev.refl _ _ _ _ _ eB.dom⟩;cases co
    .exact .int _ _
    .exact .tup _ _ rfl fun j h1 h2=>by
      match j with
      | 0=>exact .int _ _
      | 1=>exact .bool _
      | j+2=>simp at h1;omega
   .rename_i ml ty hkd hm;obtain ⟨kt,et,hu,hk,hz⟩:=U8 hkd;simp only [Ae,Ac] at h;obtain ⟨rfl,_,rfl⟩:=h;obtain ⟨_,es,ck,ho,hes⟩:=eB.objAt hl hm;have eE:=z7r (P:=P) (fun n:Bool=>.bool n) false hu hk (hz w) ho hes ks co;refine .inl ⟨ρ,_,w,by simp only [execOp,hux,hui];simp only [Sem.run_bind,eE,Result.andThen];rfl,?_,eB,Ev.refl _ _ _ _ _ eB.dom⟩;cases co
    .exact .bool _
    .exact .tup _ _ rfl fun j h1 h2=>by
      match j with
      | 0=>exact .bool _
      | 1=>exact .bool _
      | j+2=>simp at h1;omega
   .cases h
  .cases h
 ·-- mapUpdate
  rename_i t m k x;simp only [Ao,Ac] at h;obtain ⟨st1,h1,rfl,_,rfl⟩:=h;obtain ⟨w',eE,hp⟩:=y1v h1 eB (hr m (by simp [Op.operands])) (hr k (by simp [Op.operands])) (hr x (by simp [Op.operands]));exact .inr (.inl ⟨ρ,w',by simp [execOp,eE],hp⟩)
 ·-- insert
  rename_i t m k x;simp only [Ao,Ac] at h;obtain ⟨st1,h1,rfl,_,rfl⟩:=h;obtain ⟨w',eE,hp⟩:=y1v h1 eB (hr m (by simp [Op.operands])) (hr k (by simp [Op.operands])) (hr x (by simp [Op.operands]));exact .inr (.inl ⟨ρ,w',by simp [execOp,eE],hp⟩)
 ·-- range
  rename_i t x;have hx:=hr x (by simp [Op.operands]);split at h
  .rename_i s hu ex;rw [ex] at hx;generalize hux:a.eval x=ux at hx;cases hx;simp only [Ae,Ac] at h;obtain ⟨rfl,_,rfl⟩:=h;refine .inl ⟨_,.pointer (some ⟨w.heap.size,0,none⟩),_,?_,YY eB floor (.it s 0) [] t (.stringIter ⟨s.toArray⟩ 0) ⟨rfl,rfl⟩ fun ρ' hρ'=>.ptr _ 0 _ hρ'⟩;simp [execOp,hux,Instr.range,run_underlying hu,Result.andThen]
  .cases h
 ·-- next
  rename_i x;have hx:=hr x (by simp [Op.operands]);split at h
  .rename_i b ex;rw [ex] at hx;generalize hux:a.eval x=ux at hx;obtain ⟨hf,h⟩:=Ze h;have hf:=Al hf;split at h
   .rename_i s pos ty hm;split at h;rename_i e st1 ht;obtain ⟨t1,t2,t3,t4⟩:=RM ht;simp only [Ae,Ac] at h;obtain ⟨rfl,_,rfl⟩:=h;cases hx with
    | ptr _ _ l hl=>
    have fO:=eB.objBase hl hm;obtain ⟨_,ho⟩:=eB.objAt hl hm;have hsz:(⟨s.toArray⟩:ByteArray).size =s.length:=(by simp [<-ByteArray.size_data]);rw [fO,Ak] at hux;cases e with
    | true=>
     obtain ⟨hlt,_⟩:=t4 hob;have hlt:=Aw hlt.symm;refine .inl ⟨ρ,.tuple #[.bool true,goInt pos,.int .i32 (Utf8.decode ⟨s.toArray⟩ pos).1],w.putObj l.blk (.stringIter ⟨s.toArray⟩ (pos+Fn s pos)),?_,?_,?_,?_⟩
     .simp [execOp,hux,Instr.next,w5x ho,v8t ho,hsz,hlt,Fn,Result.andThen]
     .exact .tup _ _ rfl fun j h1 h2=>by
       match j with
       | 0=>exact .bool _
       | 1=>exact .int _ _
       | 2=>exact .int _ _
       | j+3=>simp at h1;omega
     .show CB ρ (Wm st1.mem b _) st1.next _
      rw [t2,t3];exact eB.setObj hl hm rfl rfl _ ⟨rfl,rfl⟩
     .show Ev ρ ρ floor st.mem st.next (Wm st1.mem b _) st1.next _ _
      rw [t2,t3];exact Ev.ofObj eB hl hf _ _
    | false=>
     obtain ⟨hlt,_⟩:=t4 hob;have hlt: ¬pos<s.length:=of_decide_eq_false hlt.symm;refine .inl ⟨ρ,.tuple #[.bool false],w,?_,?_,?_,?_⟩
     .simp [execOp,hux,Instr.next,w5x ho,hsz,hlt,Result.andThen]
     .exact .tup _ _ rfl fun j h1 h2=>by
       match j with
       | 0=>exact .bool _
       | j+1=>simp at h1
     .show CB ρ st1.mem st1.next w
      rw [t2,t3];exact eB
     .show Ev ρ ρ floor st.mem st.next st1.mem st1.next w w
      rw [t2,t3];exact Ev.refl _ _ _ _ _ eB.dom
   .cases h
  .cases h
 ·-- alloc
  rename_i t;obtain ⟨ht,h⟩:=Ze h;split at h
  .rename_i i hi;split at h
   .rename_i hz;simp only [Ae,Ac] at h;obtain ⟨rfl,_,rfl⟩:=h;have hzr:(zeroValue t).run P w=.ok (.agg #[.pointer none,.slice none 0 0]) w:=(by simp [zeroValue,run_typeInfo w hi,hz]);refine .inl ⟨_,.pointer (some ⟨w.heap.size,0,none⟩),_,?_,YY eB floor .bld [.nils] t (.cells #[.pointer none,.slice none 0 0] t (0,0)) ⟨.nils,.slice none 0 0,none,rfl,rfl,.nils,.inl rfl⟩ fun ρ' hρ'=>.ptr _ 0 _ hρ'⟩;simp [execOp,Instr.alloc,newVar,newRow,hzr,Value.cells]
   .cases h
  .cases h
 ·-- load
  rename_i t x;have hx:=hr x (by simp [Op.operands]);split at h
  .rename_i b ex;rw [ex] at hx;generalize hux:a.eval x=ux at hx;split at h
   .rename_i buf ty i hm hag hi;simp only [Ae,Ac] at h;obtain ⟨rfl,_,rfl⟩:=h;cases hx with
    | ptr _ _ l hl=>
    have fO:=eB.objBase hl hm;obtain ⟨_,bv,p,e1,ho,hbv,_⟩:=eB.objAt hl hm;obtain rfl:=(List.cons.inj e1).1;rw [fO,Ak] at hux;refine .inl ⟨ρ,bv,w,?_,hbv,eB,Ev.refl _ _ _ _ _ eB.dom⟩;have hc:w.cell? ⟨l.blk,1,none⟩=some bv:=(by simp [World.cell?,ho]);simp [execOp,hux,Instr.loadAt,Instr.sureAddr,loadVar,RQ hag,hc]
   .cases h
  .cases h
 ·-- store
  rename_i t ad x;have hx:=hr ad (by simp [Op.operands]);have hv:=hr x (by simp [Op.operands]);split at h
  .rename_i b ex;rw [ex] at hx;generalize hux:a.eval ad=ux at hx;obtain ⟨hf,h⟩:=Ze h;simp only [Ad] at hf;obtain ⟨hf,hsc⟩:=hf;have hf:=Al hf;split at h
   .rename_i buf ty i hm hi;obtain ⟨hsz,h⟩:=Ze h;have hsz:=Ai hsz;simp only [Ae,Ac] at h;obtain ⟨rfl,_,rfl⟩:=h;cases hx with
    | ptr _ _ l hl=>
    have fO:=eB.objBase hl hm;obtain ⟨_,bv,p,e1,ho,hbv,hp⟩:=eB.objAt hl hm;rw [fO,Ak] at hux;refine .inr (.inl ⟨ρ,w.putObj l.blk (.cells #[.pointer p,a.eval x] ty (0,0)),?_,x8k,eB.setObj (o':=.bld) (r':=[st.eval x]) hl hm rfl rfl _ ⟨_,_,p,rfl,rfl,hv,hp⟩,Ev.ofObj eB hl hf _ _⟩);have eS:=hv.oneCell hsc;have hcs:(a.eval x).cells = #[a.eval x]:=by
     cases hz:a.eval x <;> first | rfl | (rw [hz] at eS;cases eS)
    have eE:=run_storeCells_at P l.blk 1 ty [a.eval x] 0 _ w ho (by simp) (by simpa using eS);rw [x2l ho] at eE;simp_all [execOp,Instr.storeAt,Instr.sureAddr,storeVar,Zh]
   .cases h
  .cases h
 ·-- convert
  rename_i src dst x;have hx:=hr x (by simp [Op.operands]);split at h
  .rename_i e hs hd;split at h
   .rename_i he;split at h
    .rename_i s o hby;simp only [Ae,Ac] at h;obtain ⟨rfl,rfl,rfl⟩:=h;refine .inl ⟨ρ,.string ⟨s.toArray⟩,w,?_,.str _,eB,Ev.refl _ _ _ _ _ eB.dom⟩;rcases Y1 eB hby hx with ⟨e1,rfl⟩ | ⟨_,_,g,o,c,_,_,_,_,_,e1,_,_,hat⟩
     .simp only [execOp,e1,run_convert_bytes_string w src dst e none 0 0 hs he hd];simp [run_convert_bytes_string w src dst e none 0 0 hs he hd,Conv.bytesToString];rfl
     .simp [execOp,e1,run_convert_bytes_string w src dst e _ _ _ hs he hd,v2v hat]
    .cases h
   .cases h
  .cases h
 ·-- e == nil
  rename_i bop t x y yt;have hx:=hr x (by simp [Op.operands]);split at h
  .rename_i e m ex hu;rw [ex] at hx;generalize hux:a.eval x=ux at hx;have hy:a.eval (.const .nilIface)=.nilIface :=rfl;split at h
   .simp only [Ae,Ac] at h;obtain ⟨rfl,_,rfl⟩:=h;refine .inl ⟨ρ,.bool e,w,?_,.bool _,eB,Ev.refl _ _ _ _ _ eB.dom⟩;cases hx <;> simp [execOp,hux,hy,eqGuard,binOp,run_underlying hu,v6w hu]
   .simp only [Ae,Ac] at h;obtain ⟨rfl,_,rfl⟩:=h;refine .inl ⟨ρ,.bool !e,w,?_,.bool _,eB,Ev.refl _ _ _ _ _ eB.dom⟩;cases hx <;> simp [execOp,hux,hy,eqGuard,binOp,run_underlying hu,v6w hu]
   .cases h
  .cases h
 ·-- String
  rename_i f args argTypes;have hf:=hr f (by simp [Op.operands,Call.operands]);have eD:Ux (Zn ρ) (args.toList.map st.eval) (args.map a.eval).toList :=by rw [Bs];exact Ux.maps _ _ _ fun x hx=>hr x (by grind [Op.operands,Call.operands])
  split at h
  .rename_i g b eg ea;rw [eg] at hf;rw [ea] at eD;obtain ⟨hg,h'⟩:=Ze h;clear h;simp only [Ad] at hg;obtain ⟨hg,hbody⟩:=hg;obtain rfl:=Ai hg;obtain ⟨fn,hfn,hb⟩: ∃fn,P.funcs[Mm]? =some fn/\fn.body.isSome=true:=by
    cases e:P.funcs[Mm]? with
    | none=>rw [e] at hbody;cases hbody
    | some fn=>rw [e] at hbody;exact ⟨fn,rfl,hbody⟩
   generalize fG:args.map a.eval=vals at eD;obtain ⟨vals⟩:=vals;generalize hw:a.eval f=u at hf;cases hf with
   | fn _ _ cvs hl hh=>
   obtain rfl:cvs= #[]:=Array.eq_empty_of_size_eq_zero (by rw [<-hl];rfl);cases eD with
   | cons h1 h2=>
   cases h2;cases h1 with
   | ptr _ _ l hl'=>
   split at h'
   .rename_i buf ty hm;obtain ⟨hty,h⟩:=Ze h';clear h';obtain rfl:=Ai hty;split at h
    .rename_i s o hby0;have fO:=eB.objBase hl' hm;obtain ⟨_,bv,p,e1,ho,hbv,_⟩:=eB.objAt hl' hm;obtain rfl:=(List.cons.inj e1).1;have hexec:(execOp a.eval ⟨dst,.call ⟨.value f,args,argTypes⟩,type,pos,after,guard⟩).run P w=.ok (.enter Mm #[.pointer (some ⟨l.blk,0,none⟩)]) w:=by have eE:=Pu hN hfn hb #[.pointer (some ⟨l.blk,0,none⟩)] w;rw [fO] at fG;simp [execOp,resolve,hw,Deferred.ofValue,fG,invoke,eE]
     refine .inr (.inr ⟨Mm,_,hexec,?_⟩);have hstr:=fun eC=>hN.2 (by rw [hfn];rfl) l.blk _ bv w s eC ho;split at h
     .rename_i hrf;simp only [Ae,Ac,Ad,An] at h;obtain ⟨rfl,⟨eC,rfl⟩,rfl⟩:=h;have hby:=hby0;have hstr:=hstr eC;rcases Y1 eB hby hbv with ⟨k1,k2⟩ | ⟨b',_,_,_,_,_,k1,_⟩
      .refine (hstr (.inl ⟨k1,k2⟩)).mono fun e w' ⟨q1,q2,q3,q4,q5,q6⟩=>⟨ρ,_,q1,.str _,?_,?_⟩
       .exact eB.kept q2 (p:=fun _=>True) (fun _ _ _ _=>trivial) (fun _ _ _=>trivial) fun k o hk _=>q3 k o hk fun g o n c e=>by rw [k1] at e;cases e
       .exact ⟨B9.le_refl _,fun _ _=>rfl,Aj _,fun _ _ _ _ _ h=>h,fun k o hk _=>q3 k o hk fun g o n c e=>(by rw [k1] at e;cases e),fun k m hk e=>(by have:=eB.dom k m e;omega),q2,q4,q5,q6,fun _ _=>rfl⟩
      .rw [hrf] at k1;cases k1
     .rename_i c hrf;obtain ⟨hc,h⟩:=Ze h;simp only [Ad] at hc;obtain ⟨hc1,hc2⟩:=hc;have hc1:=Al hc1;simp only [Ae,Ac,Ad,An] at h;obtain ⟨rfl,⟨eC,rfl⟩,rfl⟩:=h;have hby:=hby0;have hstr:=hstr eC;rcases Y1 eB hby hbv with ⟨k1,k2⟩ | ⟨b',lc,g,o,cc,el,k1,k2,k3,k4,k5,k6,k7,cur,k8,k9,k10⟩
      .have hkill:=eB.kill c;refine (hstr (.inl ⟨k1,k2⟩)).mono fun e w' ⟨q1,q2,q3,q4,q5,q6⟩=>⟨ρ,_,q1,.str _,?_,?_⟩
       .exact hkill.kept q2 (p:=fun _=>True) (fun _ _ _ _=>trivial) (fun _ _ _=>trivial) fun k o hk _=>q3 k o hk fun g o n c e=>by rw [k1] at e;cases e
       .refine ⟨B9.le_refl _,fun _ _=>rfl,Aj _,fun k hk e cs ty hm'=> ?_,fun k o hk _=>q3 k o hk fun g o n c e=>(by rw [k1] at e;cases e),fun k m hk e=>(by have:=eB.dom k m e;omega),q2,q4,q5,q6,fun _ _=>rfl⟩;show Yi (Wm st.mem c none) k=_;rw [Zw]
        .exact hm'
        .intro e';subst e';rw [k1] at hbv;unfold Rv at hby;cases hbv <;> first | (cases hrf;done) | skip
         all_goals (have hrf:=Ag hrf;subst hrf;simp [hm'] at hby)
      .rw [hrf] at k1;obtain rfl:=Ag k1;subst k4;obtain ⟨ab,hab⟩:=BS.1 k3;have hel:=k7 ab hab;have hbt:ab.ty=PZ:=by unfold JP at hc2;rw [hab] at hc2;exact Ai hc2
       rw [hel,hbt] at k8;have hkill:=eB.kill c;have hne: ∀k,lc.blk≠k-> ∀g o n c,bv=.slice (some ⟨g,o,none⟩) n c->g≠k:=fun k hk g o n c e=>by rw [k5] at e;cases e;exact hk
       refine (hstr (.inr ⟨lc.blk,o,cc,cur,k5,k6,k8,k9,k10⟩)).mono fun e w' ⟨q1,q2,q3,q4,q5,q6⟩=>⟨ρ,_,q1,.str _,?_,?_⟩
       .refine hkill.kept q2 (p:=fun k=>lc.blk≠k) (fun b2 l2 e2 hs2 heq=> ?_) (fun k o hk heq=> ?_) fun k o hk hp=>q3 k o hk (hne k hp)
        .by_cases hbc:b2=c
         .rw [hbc,Zs] at hs2;cases hs2
         .rw [Zw _ _ hbc] at hs2;exact hbc (eB.inj b2 c l2 lc e2 k2 heq.symm hs2 k3)
        .have:=eB.sep c lc k2 k3;rw [heq,hk] at this;cases this
       .refine ⟨B9.le_refl _,fun _ _=>rfl,Aj _,fun k hk e cs ty hm'=> ?_,fun k o hk hfr=>q3 k o hk (hne k (hfr c lc k2 hc1)),fun k m hk e=>(by have:=eB.dom k m e;omega),q2,q4,q5,q6,fun _ _=>rfl⟩;show Yi (Wm st.mem c none) k=_;rw [Zw]
        .exact hm'
        .intro e';rw [e',k2] at e;cases e
    .cases h
   .cases h'
  .cases h
 .cases h
structure j6k (P:Program) (ops:Array Oper) (cx:CL) (o:Oper) (st st':St):Prop where
 inv:Xi cx.floor st st'
 slot: ∀d,o.dst=some d->d<cx.n
 other:st'.ob=true-> ∀t,o.dst≠some t->st'.tmp t=st.tmp t
 does:st'.ob=true-> ∀(ρ:B9) (a:Act) (w:World),a.tmps.size=cx.n->(∀d,Jj ops o=some d->Zn ρ (st.tmp d) (a.tmps.getD d undef))->Qn ρ st.eval a.eval o.op->CB ρ st.mem st.next w->
  ∀(K:Act->World->Prop) (Q:Exit->Act->World->Prop),(∀ρ' u w',(∀d,o.dst=some d->Zn ρ' (st'.tmp d) u)->CB ρ' st'.mem st'.next w'->Ev ρ ρ' cx.floor st.mem st.next st'.mem st'.next w w'->K (a.put o.dst u) w')->
   if Region.wanted o (yielded ops a.tmps) then o.wp P a w K Q else K (a.put o.dst undef) w
theorem j6l.two {S:B7} {ops:Array Oper} {cx:CL} {x:Bool×Oper} {st st':St} (s:j6l S P ops cx x st st'):j6k P ops cx x.2 st st':=
 ⟨s.inv,s.slot,s.other,fun ho ρ a w h1 h2 h3 h4 K Q hK=>s.does ho ρ a w st.eval h1 (fun _ _=>rfl) h2 h3 h4 K Q fun ρ' u w' q1 q2 q3 _=>hK ρ' u w' q1 q2 q3⟩
theorem v2e (hN:EC P) {ops:Array Oper} {cx:CL} {o:Oper} {st st1 st2 st3 st':St} {v:B5} {b:Bool} (hw:Fs ops o cx st=some (true,st1)) (hx:aX P cx.floor st1 o.op=some (v,b,st2)) (how:st2.owe cx b=some st3) (hp:st3.put cx o.dst v=some st'):j6k P ops cx o st st':=by
 obtain ⟨w1,w2,w3⟩:=Wr hw;obtain ⟨fU,eG⟩:=P2 hx;obtain ⟨e1,e2,e3,e4⟩:=Wa how;obtain ⟨p1,p2,p3,p4⟩:=Vp hp;have fN: ∀d,o.dst=some d->st'.tmp d=v:=fun d hd=>by
  rcases p4 with ⟨e,_⟩ | ⟨d',e,_,he⟩
  .rw [hd] at e;cases e
  .rw [hd] at e;obtain rfl:=Ag e;show T.get .undef st'.env d=v;rw [he,T.get_set,AG rfl]
 have hi1:Xi cx.floor st st1:=Xi.same w1 w2 fun ho=>(w3 ho).1;have hi2:Xi cx.floor st2 st':=Xi.same (p1.trans e2) (p2.trans e3) fun ho=>(e4 (by rw [<-p3];exact ho)).2;have hob:st'.ob=true->b=true/\st2.ob=true/\st1.ob=true:=fun ho=>by obtain ⟨h1,h2⟩:=e4 (by rw [<-p3];exact ho);exact ⟨h1,h2,fU.ob h2⟩
 refine ⟨(hi1.trans fU).trans hi2,fun d hd=> ?_,fun ho t ht=> ?_,fun ho ρ a w hsz hgr hr eB K Q hK=> ?_⟩
 .rcases p4 with ⟨e,_⟩ | ⟨d',e,hlt,_⟩
  .rw [hd] at e;cases e
  .rw [hd] at e;obtain rfl:=Ag e;exact hlt
 .obtain ⟨_,_,ho1⟩:=hob ho;rw [<-(w3 ho1).2 t];show T.get .undef st'.env t=T.get .undef st1.env t;rcases p4 with ⟨_,he⟩ | ⟨d',e,_,he⟩
  .rw [he,e1,eG]
  .rw [he,T.get_set,Az (fun h=>ht (by rw [e,h])),e1,eG]
 .obtain ⟨rfl,ho2,ho1⟩:=hob ho;have eO:=(w3 ho1).2;have fR: ∀y,st1.eval y=st.eval y:=fun y=>by cases y <;> first | rfl | exact eO _
  rw [Un hw ho1 hsz hgr,AG rfl];have hr':Qn ρ st1.eval a.eval o.op:=fun y hy=>by rw [fR y];exact hr y hy
  refine (u4k hN hx ho2 hr' (by rw [w1,w2];exact eB)).wp fun ρ' u w' hpost=> ?_;have he:=hpost.ev;rw [w1,w2] at he;refine hK ρ' u w' (fun d hd=>by rw [fN d hd];exact hpost.val) (by rw [p1,p2,e2,e3];exact hpost.rel) (by rw [p1,p2,e2,e3];exact he)
end
section
variable {P:Program}
theorem w7g {S:B7} {Rc:CF} (hN:EC P) (hS:Zv P S) (hCI:E9 Rc) (hC:GY P Rc) {fl:Nat} {cx:CL} {ops:Array Oper} {i:Nat} {o:Oper} {l:List Oper} {todo:List Item} {rnd:Option Nat} {rs:List ResultVar} {st:St} {cs:List C9} {lps:CO} {C':CH}
  (hfl:Fl fl ⟨cx,some (ops,i,o::l),todo,rnd,rs,st,cs,lps⟩) (h:v2f P S Rc cx ops i o l todo rnd rs st cs lps=some C'):EB P fl ⟨cx,some (ops,i,o::l),todo,rnd,rs,st,cs,lps⟩ C':=by
 have plain2: ∀st2,j6k P ops cx o st st2->EB P fl ⟨cx,some (ops,i,o::l),todo,rnd,rs,st,cs,lps⟩ ⟨cx,some (ops,i+1,l),todo,rnd,rs,st2,cs,lps⟩:=by
  intro st2 s1;have e:=hfl.cx;simp only at e;refine ⟨⟨e,hfl.cs,AP hfl.le s1.inv.nxt⟩,by rw [<-e];exact s1.inv,fun ho m0 n0 ρ0 w0 ρ b a k css w ma mb hs he cs0=> ?_⟩;obtain ⟨eG,hdf,htd,⟨hro,fE⟩,eR⟩:=hs.top;simp only at eG hdf htd hro eR;obtain ⟨ho_i,hl',hdrop⟩:=x9y hro;have key:=s1.does ho ρ a w eG.size (fun d _=>eG.get d) (fun y _=>eG.eval y) hs.rel
   (fun a' w'=> ∃ρ',a'.defers=a.defers/\Vg ρ' st2.env cx.n a'.tmps/\CB ρ' st2.mem st2.next w'/\Ev ρ ρ' cx.floor st.mem st.next st2.mem st2.next w w') (fun e _ _=>e=.normal) (fun ρ' u w' eT eX hev=>by
    refine ⟨ρ',Act.put_defers' _ _ _,?_,eX,hev⟩;cases hdst:o.dst with
    | none=>exact ((eG.mono hev.ext).congr fun t=>s1.other ho t (by grind))
    | some d=>
     refine ((eG.mono hev.ext).put (eT d hdst) (.inr ⟨d,rfl,s1.slot d hdst,rfl⟩)).congr fun t=> ?_;rw [T.get_set];split
     .rename_i e;subst e;rfl
     .rename_i e;exact s1.other ho t (by grind))
  obtain ⟨a',w',⟨ρ',hd',he',hr',hev⟩,eV⟩:=x3h (b:=b) (k:=k) (cs:=css++cs0) (rest:=(List.range ops.size).drop (i+1)) (fun e a w h=>h) ho_i (U9 fE ho_i) key;refine ⟨ρ',b,a',k,css,w',ma,mb,by rw [Vo,hdrop];exact eV,⟨⟨he',by grind,htd.mono fun _ _=>E8.mono hev.ext,⟨hl',fE⟩,?_⟩,hs.lv,hs.rest.ev hev,hr'⟩,he.trans (by grind),rfl,hev.size⟩;exact ((⟨eG,hdf,htd,⟨hro,fE⟩,eR⟩:Fc ρ cx (some (ops,i,o::l)) todo rnd st.env b a k ma).mono hev.ext).rnd
 have hcx:cx.floor<=st.next:=by have:=hfl.le;have e:=hfl.cx;grind
 have plain: ∀st2,HV P S Rc ops cx (false,o) st=some st2->EB P fl ⟨cx,some (ops,i,o::l),todo,rnd,rs,st,cs,lps⟩ ⟨cx,some (ops,i+1,l),todo,rnd,rs,st2,cs,lps⟩:=fun st2 h1=>plain2 st2 (x0u hN hS hCI hC hcx h1).two;unfold v2f at h;split at h
 .rename_i st1 hw;split at h
  ·-- an operation that only such a region has
   rename_i v b st2 hx;split at h
   .rename_i st3 how;split at h
    .rename_i st4 hp;obtain rfl:=Ag h;exact plain2 st4 (v2e hN hw hx how hp)
    .cases h
   .cases h
  rename_i hx;split at h
  ·-- a function is entered
   rename_i g args eZ;obtain ⟨w1,w2,w3⟩:=UU (ρ:=⟨fun _=>none,fun _=>none,fun _=>none⟩) hw;have hCeq: ∃fn body,P.funcs[g]? =some fn/\fn.body=some body/\C'=⟨⟨Nat.max fn.ntmps args.length,cx.floor,cx.sym⟩,none,[.code body],none,fn.results.toList,st1.withEnv (Ex args 0 .leaf),⟨cx,some (ops,i,o::l),todo,rnd,rs,st1.env⟩::cs,lps⟩:=by
    grind [QL]
   obtain ⟨fn,body,hfn,hb,hCe⟩:=hCeq;have hmem:C'.st.mem=st.mem:=by rw [hCe];exact w1
   have hnext:C'.st.next=st.next:=by rw [hCe];exact w2
   refine ⟨by rw [hCe];exact hfl.enter (B0 w2.symm),Xi.same hmem hnext fun ho=>(w3 (by rw [hCe] at ho;exact ho)).1,fun ho m0 n0 ρ0 w0 ρ b a k css w ma mb hs he cs0=> ?_⟩;have ho1:st1.ob=true:=by rw [hCe] at ho;exact ho
   obtain ⟨eG,hdf,htd,⟨hro,fE⟩,eR⟩:=hs.top;simp only at eG hdf htd hro eR;obtain ⟨ho_i,hl',hdrop⟩:=x9y hro;obtain ⟨_,_,w3'⟩:=UU (ρ:=ρ) hw;obtain ⟨gF,hwt⟩:=(w3' ho1).2 eG;have hexec: ∃vals,(execOp a.eval o).run P w=.ok (.enter g vals) w/\Ux (Zn ρ) args vals.toList:=by
    obtain ⟨dst,op,type,pos,after,guard⟩:=o;simp only at eZ ⊢;unfold callee at eZ;split at eZ
    .rename_i f cargs argTypes;split at eZ
     .rename_i g' caps hg;split at eZ
      .cases eZ
      .simp only [Ae,Sum.inl.injEq,Ac] at eZ;obtain ⟨rfl,rfl⟩:=eZ;have hf:=gF.eval f;rw [hg] at hf;generalize hw':a.eval f=u at hf;cases hf with
       | fn _ _ cvs hl hh=>
        have:=Pu hN hfn (by rw [hb];rfl) (cargs.map a.eval++cvs) w
        grind [execOp,resolve,Deferred.ofValue,invoke,Ux.append,ZL,Ux.of]
     .rename_i g' first hg
      split at eZ
      .cases eZ
      .simp only [Ae,Sum.inl.injEq,Ac] at eZ;obtain ⟨rfl,rfl⟩:=eZ;have hf:=gF.eval f;rw [hg] at hf;generalize hw':a.eval f=u at hf;cases hf with
       | fnb _ _ cvs hl hh=>
        have:=Pu hN hfn (by rw [hb];rfl) (cvs++cargs.map a.eval) w
        grind [execOp,resolve,Deferred.ofValue,invoke,Ux.append,Ux.of,ZL]
     all_goals grind
    .cases eZ
   obtain ⟨vals,hex,eD⟩:=hexec;have fD:=w7d (b:=b) (k:=k) (cs:=css++cs0) (rest:=(List.range ops.size).drop (i+1)) ho_i (U9 fE ho_i) hwt hex;obtain ⟨_,_,_,_,_,b',a',k',hen,hsr⟩:=x1s h (⟨gF,hdf,htd,⟨hro,fE⟩,eR⟩) hs.lv hs.rest (by rw [w1,w2];exact hs.rel) eD;refine ⟨ρ,b',a',k',_,w,_,_,.one ?_,hsr,by grind,by cases css <;> rfl,Aj _⟩
   grind [Vo]
  ·-- a round is entered
   rename_i j args eZ;obtain ⟨w1,w2,w3⟩:=UU (ρ:=⟨fun _=>none,fun _=>none,fun _=>none⟩) hw;unfold u6a at h;split at h
   .rename_i CG lpend ln lenv lparams lassign lbody hlg;split at h
    .rename_i env' hsa;obtain rfl:=Ag h;refine ⟨hfl.enter (B0 w2.symm),Xi.same w1 w2 fun ho=>(w3 ho).1,fun ho m0 n0 ρ0 w0 ρ b a k css w ma mb hs he cs0=> ?_⟩;have ho1:st1.ob=true:=ho;obtain ⟨eG,hdf,htd,⟨hro,fE⟩,eR⟩:=hs.top;simp only at eG hdf htd hro eR;obtain ⟨ho_i,hl',hdrop⟩:=x9y hro;obtain ⟨_,_,w3'⟩:=UU (ρ:=ρ) hw;obtain ⟨gF,hwt⟩:=(w3' ho1).2 eG;obtain ⟨lr,hlp,hlow,hsp,ltmps,lfn,ld,gI,fP⟩:=hs.rest.loops j _ hlg;simp only at gI fP;have hexec: ∃vals:Array Value,Ux (Zn ρ) args vals.toList/\(execOp a.eval o).run P w=.ok (.round lr lfn ((lparams.toArray.zip vals).foldl (fun tmps (t,x)=>tmps.setIfInBounds t x) ltmps) lassign lbody) w:=by
      obtain ⟨dst,op,type,pos,after,guard⟩:=o;simp only at eZ ⊢;unfold callee at eZ;split at eZ
      .rename_i f cargs argTypes;split at eZ
       .grind
       .grind
       .rename_i j' hg;simp only [Ae,Sum.inr.injEq,Ac] at eZ;obtain ⟨rfl,rfl⟩:=eZ;have hf:=gF.eval f;rw [hg] at hf;generalize hw':a.eval f=u at hf;cases hf with
        | yld _ l' hl'=>rw [hlp] at hl';obtain rfl:=Ag hl';have hca:=ZL gF cargs;obtain ⟨eC,_⟩:=ZC hsa fP hca;refine ⟨cargs.map a.eval,hca,?_⟩;simp_all [run_yield,execOp,resolve,Deferred.ofValue,invoke]
       .cases eZ
      .cases eZ
     obtain ⟨vals,eD,hex⟩:=hexec;obtain ⟨_,henv'⟩:=ZC hsa fP eD;have fD:=w7c (b:=b) (k:=k) (cs:=css++cs0) (rest:=(List.range ops.size).drop (i+1)) ho_i (U9 fE ho_i) hwt hex;refine ⟨ρ,⟨lfn, #[],[],[],.run,.normal,some lr⟩,{tmps:=(lparams.toArray.zip vals).foldl (fun tmps (t,x)=>tmps.setIfInBounds t x) ltmps,defers:=[]},[.code lassign,.beginRound,.code lbody],b.atR a (Vo (some (ops,i,o::l)) k)::css,w,[],ma++mb,.one ?_,⟨⟨?_,rfl,.cons (.same _ rfl) (.cons (.same _ rfl) (.cons (.same _ rfl) .nil)),trivial,⟨rfl,lr,hlp,rfl⟩⟩,fun _=>⟨rfl,fun h0=>by cases h0⟩,?_,by rw [show (st1.withEnv env').mem =st.mem from w1,show (st1.withEnv env').next =st.next from w2];exact hs.rel⟩,by rw [show (st1.withEnv env').mem =st.mem from w1,show (st1.withEnv env').next =st.next from w2];exact he,by cases css <;> rfl,Aj _⟩
     .simp only [Vo,hdrop];exact fD
     .have:(lparams.toArray.zip vals).foldl (fun tmps (t,x)=>tmps.setIfInBounds t x) ltmps=(lparams.zip vals.toList).foldl (fun t p=>t.setIfInBounds p.1 p.2) ltmps:=by rw [<-Array.foldl_toList];simp
      simp only [this];exact henv'
     .exact ⟨.cons ⟨gF,hdf,htd,⟨hro,fE⟩,eR⟩ hs.lv hs.rest.cs,hs.rest.nodup,hs.rest.marks,hs.rest.loops,hs.rest.inj⟩
    .cases h
   .cases h
  clear plain2
  grind [HV]
 all_goals (clear plain2;grind [HV])
end
section
variable {P:Program}
theorem x4x {ops:Array Oper} {z:Nat}: ∀{l:zw},H2 ops l=some z->MX z ops=true
 | [],h=>by cases h
 | x::l,h=>by
  unfold H2 at h;rcases Ui h with ⟨h1,h⟩ | ⟨_,h⟩
  .obtain rfl:=Ag h;exact h1
  .exact x4x h
theorem w9m {ops:Array Oper} {z:Nat} (h:j3e ops=some z):MX z ops=true/\HA ops=true:=by unfold j3e at h;obtain ⟨hn,h⟩:=Ze h;exact ⟨x4x h,hn⟩
theorem DR.item {ρ:B9} {x:Item} {t k:List Item} (hx:ML x=true) (h:DR ρ (x::t) k): ∃k',k=x::k'/\DR ρ t k':=by
 cases h with
 | cons h ht=>
  cases h with
  | same _ _=>grind
  | inR j l e=>cases hx
  | endR j l e=>cases hx
theorem Z0 {fl:Nat} {cx:CL} {todo:List Item} {rnd:Option Nat} {rs:List ResultVar} {st:St} {cs:List C9} {lps:CO} {jump:Option Code} {C':CH} (hfl:Fl fl ⟨cx,none,todo,rnd,rs,st,cs,lps⟩)
  (h:Ry P rnd rs st cs lps jump=some C') (hj:(todo=[]/\jump=none)\/(∃t,todo=.code .ret ::t/\jump=some .ret)\/(∃id t,todo=.code (.exit id)::t/\exitTo id t=none/\jump=some (.exit id)/\rnd.isSome=true)):
  EB P fl ⟨cx,none,todo,rnd,rs,st,cs,lps⟩ C':=by
 unfold Ry at h;split at h
 .split at h
  .rename_i vs hvs;obtain ⟨hfl',hm,hn,hob,hne,key⟩:=W2 (P:=P) (base:=0) h hfl.cs hfl.le;refine ⟨hfl',Xi.same hm hn fun ho=>by grind,fun ho m0 n0 ρ0 w0 ρ b a k css w ma mb hs he cs0=> ?_⟩;obtain ⟨_,_,_,_,_,key⟩:=W2 (P:=P) (base:=w0.heap.size) h hfl.cs hfl.le;have htd:todo=[]\/ ∃t,todo=.code .ret ::t:=by
    grind
   obtain ⟨w',eV,eG,eB,hev,eN,hsz⟩:=ZS hs rfl rfl htd rfl he (css++cs0);obtain ⟨hk,hfn⟩:=hs.lv hne;obtain ⟨fn,hfn,hrs⟩:=hfn rfl;simp only at hrs hfn;obtain ⟨u,hu,gH⟩:=ZA (fn:=fn) eG eB (by rw [hrs];exact hvs);obtain ⟨c,css',b',a',k',ma',mb',rfl,hfin,hsr,hbot⟩:=key ρ css w' mb u hu eN eB;refine ⟨ρ,b',a',k',css',w',ma',mb',eV.trans (.one ?_),hsr,by grind,by rw [hbot];rfl,hsz⟩;rw [<-hfin];exact step_leave_returned (fr:={b.atR {a with defers:=[]} k with mode:=.returning}) ⟨rfl,rfl,hk,fn,hfn,gH⟩
  .cases h
 .rename_i j;split at h
  .rename_i CG lpend ln lenv lparams lassign lbody hlg;obtain ⟨hfl',hm,hn,hob,hne,_⟩:=W2 (P:=P) (base:=0) h hfl.cs hfl.le;refine ⟨hfl',Xi.same hm hn fun ho=>by grind,fun ho m0 n0 ρ0 w0 ρ b a k css w ma mb hs he cs0=> ?_⟩;obtain ⟨_,_,_,_,_,key⟩:=W2 (P:=P) (base:=w0.heap.size) h hfl.cs hfl.le;obtain ⟨rfl,lr0,hlp0,hro⟩:=hs.top.rnd;obtain ⟨lr,hla⟩:=hs.rest.loops j _ hlg;have hla':=hla;obtain ⟨hlp,hlow,hsp,ltmps,lfn,ld,gI,fP⟩:=hla;rw [hlp] at hlp0;obtain rfl:=Ag hlp0;have eE:=run_endRound (P:=P) jump gI;have hlst:(if jump.isNone then LoopState.ready else LoopState.done)=Rx jump:=by cases jump <;> rfl
   rw [hlst] at eE;have eN:=hs.rest.record (w':=w.putObj lr (.loop ⟨Rx jump,jump,lfn,ltmps,lparams.toArray,lassign,lbody,ld⟩)) hlg hla' (L':=⟨Rx jump,jump,ln,lenv,lparams,lassign,lbody⟩)
    ⟨hlp,hlow,hsp.turned (Uy.put _ _ _),ltmps,lfn,ld,World.putObj_heap_same hsp.1,fP⟩ (Uy.put _ _ _)
   obtain ⟨c,css',b',a',k',ma',mb',rfl,hfin,hsr,hbot⟩:=key ρ css _ mb (.bool jump.isNone) (.bool _) eN (hs.rel.turned (fun r hr=>by grind) (Uy.put _ _ _));have hev:=he.turned (m:=[lr]) (fun r hr=>by grind) (Uy.put w lr (.loop ⟨Rx jump,jump,lfn,ltmps,lparams.toArray,lassign,lbody,ld⟩));refine ⟨ρ,b',a',k',css',_,ma',mb',.one ?_,hsr,by grind,by rw [hbot];rfl,B0 (Uy.put _ _ _).size.symm⟩;obtain ⟨hk,_⟩:=hs.lv hne;rw [<-hfin];have htd:=hs.top.todo;rcases hj with ⟨rfl,rfl⟩ | ⟨t,rfl,rfl⟩ | ⟨id,t,rfl,hx,rfl,_⟩
   .cases htd;exact stepR_round_end hro hk eE
   .obtain ⟨k',rfl,_⟩:=htd.code;exact stepR_round_ret hro hk eE
   .obtain ⟨k',rfl,ht⟩:=htd.code;exact stepR_round_exit hro hk ((ht.exit id).2 hx) eE
  .cases h
theorem x5b {S:B7} {Rc:CF} (hN:EC P) (hmx:P.follows .mixedOrders =true) (hS:Zv P S) (hCI:E9 Rc) (hC:GY P Rc) {fl:Nat} {C C':CH} (hfl:Fl fl C) (h:Q4 P S Rc C=some C'):EB P fl C C':=by
 unfold Q4 at h;split at h
 ·-- a region's end
  rename_i ops i todo rnd rs st cs lps;obtain rfl:=Ag h;refine ⟨⟨hfl.cx,hfl.cs,hfl.le⟩,Xi.refl _ _,fun ho m0 n0 ρ0 w0 ρ b a k css w ma mb hs he cs0=> ?_⟩;obtain ⟨eG,hdf,htd,⟨hro,fE⟩,eR⟩:=hs.top;refine ⟨ρ,b,a,k,css,w,ma,mb,.one ?_,⟨⟨eG,hdf,htd,trivial,eR⟩,hs.lv,hs.rest,hs.rel⟩,he,rfl,Aj _⟩;have hge:ops.size<=i:=by simp_all
  have:(List.range ops.size).drop i=[]:=Av (by grind)
  grind [Vo,stepR_region_end]
 .exact w7g hN hS hCI hC hfl h
 .rename_i cx todo rnd rs st cs lps;split at h
  .grind [Z0]
  .grind [Z0]
  .obtain rfl:=Ag h;exact EB.move hfl fun ρ k hk=>by obtain ⟨k',rfl,ht⟩:=hk.code;grind [stepR_skip]
  .obtain rfl:=Ag h;exact EB.move hfl fun ρ k hk=>by obtain ⟨k',rfl,ht⟩:=hk.code;grind [stepR_label]
  .obtain rfl:=Ag h;exact EB.move hfl fun ρ k hk=>by obtain ⟨k',rfl,ht⟩:=DR.item rfl hk;grind [stepR_inBlock]
  .obtain rfl:=Ag h;exact EB.move hfl fun ρ k hk=>by obtain ⟨k',rfl,ht⟩:=DR.item rfl hk;exact ⟨k',ht,fun b a css w=>step_lone_go (by simp [stepG,stepG.exec,Frame.atR])⟩
  .obtain rfl:=Ag h;exact EB.move hfl fun ρ k hk=>by obtain ⟨k',rfl,ht⟩:=hk.code;exact ⟨_,.cons (.same _ rfl) (.cons (.same _ rfl) ht),fun b a css w=>stepR_seq⟩
  ·-- a test
   rename_i c x y k0;split at h
   .rename_i v hv;split at h;rename_i e st1 ht;obtain rfl:=Ag h;obtain ⟨t1,t2,t3,t4⟩:=RM ht;refine ⟨⟨hfl.cx,hfl.cs,by have:=hfl.le;grind⟩,Xi.same t2 t3 fun ho=>(t4 ho).2,fun ho m0 n0 ρ0 w0 ρ b a k css w ma mb hs he cs0=> ?_⟩;obtain ⟨rfl,_⟩:=t4 ho;obtain ⟨eG,hdf,htd,hro,eR⟩:=hs.top;obtain ⟨k',rfl,htl⟩:=htd.code;have hc:=eG.eval c;rw [hv] at hc;have hev:a.eval c=.bool e:=by generalize a.eval c=u at hc;cases hc;rfl
    refine ⟨ρ,b,a,_,css,w,ma,mb,.one (stepR_cond hev),⟨⟨by grind,hdf,.cons ?_ htl,trivial,eR⟩,hs.lv,hs.rest,by rw [t2,t3];exact hs.rel⟩,by grind,rfl,Aj _⟩;cases e <;> exact .same _ rfl
   .cases h
  .obtain rfl:=Ag h;exact EB.move hfl fun ρ k hk=>by obtain ⟨k',rfl,ht⟩:=hk.code;exact ⟨_,.cons (.same _ rfl) (.cons (.same _ rfl) ht),fun b a css w=>stepR_block⟩
  .obtain rfl:=Ag h;exact EB.move hfl fun ρ k hk=>by obtain ⟨k',rfl,ht⟩:=hk.code;exact ⟨_,.cons (.same _ rfl) (.cons (.same _ rfl) ht),fun b a css w=>step_lone_go (by simp [stepG,stepG.exec,Frame.atR])⟩
  .obtain rfl:=Ag h;exact EB.move hfl fun ρ k hk=>by obtain ⟨k',rfl,ht⟩:=hk.code;exact ⟨_,.cons (.same _ rfl) (.cons (.same _ rfl) ht),fun b a css w=>stepR_loop⟩
  .obtain rfl:=Ag h;exact EB.move hfl fun ρ k hk=>by obtain ⟨k',rfl,ht⟩:=DR.item rfl hk;exact ⟨_,.cons (.same _ rfl) (.cons (.same _ rfl) ht),fun b a css w=>stepR_inLoop⟩
  ·-- an exit
   rename_i id k0;split at h
   .rename_i k1 hx;obtain rfl:=Ag h;exact EB.move hfl fun ρ k hk=>by
     obtain ⟨k',rfl,ht⟩:=hk.code;obtain ⟨r',h1,h2⟩:=(ht.exit id).1 _ hx
     grind [stepR_exit]
   grind [Z0]
  ·-- a region in the order of the text
   rename_i id ops k0;obtain ⟨fE,h⟩:=Ze h;obtain rfl:=Ag h;refine ⟨⟨hfl.cx,hfl.cs,hfl.le⟩,Xi.refl _ _,fun ho m0 n0 ρ0 w0 ρ b a k css w ma mb hs he cs0=> ?_⟩;obtain ⟨eG,hdf,htd,hro,eR⟩:=hs.top;obtain ⟨k',rfl,htl⟩:=htd.code;exact ⟨ρ,b,a,k',css,w,ma,mb,.one stepR_region,⟨⟨eG,hdf,htl,⟨rfl,fE⟩,eR⟩,hs.lv,hs.rest,hs.rel⟩,he,rfl,Aj _⟩
  ·-- a region that draws its order
   rename_i id ops k0;split at h
   ·-- it hands out a round
    rename_i m hty;split at h
    .rename_i st1 hop;obtain rfl:=Ag h;obtain ⟨hm,fE,eY,hfor,hgd⟩:=w6z hty;have hm':=Nat.le_of_lt hm;have hi:=y7d hCI _ _ _ _ hop;have e:=hfl.cx;simp only at e;have hcx:cx.floor<=st.next:=by have:=hfl.le;grind
     refine ⟨⟨e,hfl.cs,AP hfl.le hi.nxt⟩,by grind,fun ho m0 n0 ρ0 w0 ρ b a k css w ma mb hs he cs0=> ?_⟩;obtain ⟨eG,hdf,htd,hro,eR⟩:=hs.top;obtain ⟨k',rfl,htl⟩:=htd.code;have hw:=y0p hN hS hCI hC hcx eY hop ho hdf eG (hs.rel.drawn (w.drawn+1));have hw2:=wpAny_sound (Vu ops m).size (w.tape w.drawn (.order b.fn id)) _ a _ hw;rw [w4f _ hm',x5a hm'] at hw2;have back: ∀(j:Nat) x,ops[j]? =some x-> ∃y,(Vu ops m)[j]? =some y/\y.after=x.after:=fun j x hx=>by
      grind [y2i]
     have fV: ∀(j:Nat) x,ops[j]? =some x-> ∀e∈x.after.toList,Region.binds .any e=true->e.on<j:=fun j x hx e he hb=>by obtain ⟨y,hy,hya⟩:=back j x hx;exact (YT eY).ord j y hy e (by grind) hb
     have hcl0: ∀S,HK ops S->HK (Vu ops m) S:=fun S hc j y hy hS e he hb=>by
      have hsa:=y2i hm' j;rw [hy] at hsa;cases hsx:ops[j]? with
      | none=>grind
      | some x=>rw [hsx] at hsa;simp only [BU,Ae] at hsa;exact hc j x hsx hS e (by grind) hb
     have hfor': ∀j x,m<=j->ops[j]? =some x-> ∀i,i<j->Is ops i x:=fun j x hj hx i hij S hc hr=>by obtain ⟨y,hy,hya⟩:=back j x hx;exact hfor j y hj hy i hij S (hcl0 S hc) fun e he hb=>hr e (by grind) hb
     have fJ: ∀i,(Array.replicate ops.size false).getD i false=false:=fun i=>by by_cases hi:i<ops.size <;> simp [hi]
     obtain ⟨l,hl,hlm⟩:=u2n fV hm hfor' ops.size (w.tape w.drawn (.order b.fn id)) (Array.replicate ops.size false) (by simp) (fun j x hx hS=>by grind) (by
      simp_all) (fun q _=>fJ q)
     rw [hl] at hw2;obtain ⟨a',w',⟨_,hd',ρ',q1,q2,q3⟩,eV⟩:=x0s (b:=b) (k:=k') (cs:=css++cs0) (fun e a w hq=>hq.1) hm' fE hgd (r:=(List.range ops.size).drop m) (fun i hi=>by
      obtain ⟨n,hn,rfl⟩:=A6 hi;simp) l a _ hlm hw2
     have hev:=q3.drawn;refine ⟨ρ',b,a',k',css,w',ma,mb,.head stepR_region_draw ?_,⟨⟨q1,hd',htl.mono fun _ _=>E8.mono hev.ext,⟨rfl,fE⟩,?_⟩,hs.lv,hs.rest.ev hev,q2⟩,he.trans (by grind),rfl,hev.size⟩
     .grind [Region.schedule,Vo,Region.linearise]
     .exact ((⟨eG,hdf,htd,hro,eR⟩:Fc ρ cx none _ rnd st.env b a _ ma).mono hev.ext).rnd
    .cases h
   split at h;rename_i z hlz;obtain ⟨eY,fE⟩:=w9m hlz;split at h
   .rename_i st1 hop;obtain rfl:=Ag h;have hi:=y7d hCI _ _ _ _ hop;have e:=hfl.cx;simp only at e;have hcx:cx.floor<=st.next:=by have:=hfl.le;grind
    refine ⟨⟨e,hfl.cs,AP hfl.le hi.nxt⟩,by grind,fun ho m0 n0 ρ0 w0 ρ b a k css w ma mb hs he cs0=> ?_⟩;obtain ⟨eG,hdf,htd,hro,eR⟩:=hs.top;obtain ⟨k',rfl,htl⟩:=htd.code;have hw:=y0p hN hS hCI hC hcx eY hop ho hdf eG (hs.rel.drawn (w.drawn+1));have hw2:=wpAny_sound ops.size (w.tape w.drawn (.order b.fn id)) _ a _ hw;obtain ⟨a',w',⟨hd',ρ',q1,q2,q3⟩,eV⟩:=Z3 (b:=b) (k:=k') (cs:=css++cs0) (fun e a w hq=>hq) fE _ _ _ hw2;have hev:=q3.drawn;refine ⟨ρ',b,a',k',css,w',ma,mb,.head stepR_region_draw ?_,⟨⟨q1,hd',htl.mono fun _ _=>E8.mono hev.ext,trivial,?_⟩,hs.lv,hs.rest.ev hev,q2⟩,he.trans (by grind),rfl,hev.size⟩
    .simp only [Region.schedule,hmx,Bool.true_or,if_true];exact eV
    .exact ((⟨eG,hdf,htd,hro,eR⟩:Fc ρ cx none _ rnd st.env b a _ ma).mono hev.ext).rnd
   all_goals grind
  ·-- a loop over a function
   rename_i f params assign body k0;split at h
   .rename_i g caps hg;obtain ⟨env,mem,next,orc,ob⟩:=st;simp only [St.nextId] at h;obtain ⟨hrk,h⟩:=Ze h;have hCeq: ∃fn fbody,P.funcs[g]? =some fn/\fn.body=some fbody/\C'=⟨⟨Nat.max fn.ntmps (B5.yld next::caps).length,cx.floor,cx.sym⟩,none,[.code fbody],none,fn.results.toList,St.withEnv ⟨env,mem,next+1,orc,ob⟩ (Ex (B5.yld next::caps) 0 .leaf),⟨cx,none,.inRangeFunc next::k0,rnd,rs,env⟩::cs,Ff lps next (some ⟨.ready,none,cx.n,env,params.toList,assign,body⟩)⟩:=by
     grind [QL]
    obtain ⟨fn,fbody,hfn,hb,hCe⟩:=hCeq;refine ⟨by rw [hCe];exact hfl.enter (BY _),?_,fun ho m0 n0 ρ0 w0 ρ b a k css w ma mb hs he cs0=> ?_⟩
    .rw [hCe];exact ⟨BY _,fun hbd x hx=>hbd x (Nat.le_of_succ_le hx),fun _ _ _=>rfl,fun ho=>ho⟩
    obtain ⟨eG,hdf,htd,hro,eR⟩:=hs.top;obtain ⟨k',rfl,htl⟩:=htd.code;have eB:=hs.rel;simp only at eG eB he eR hdf htl;have lay: ∃l mk w1 d,(Instr.enterLoop b.fn a.tmps params assign body b.roundOf).run P w=.ok (l,(mk:zw).map O1) w1/\w1.heap[l]? =some (.loop ⟨.ready,none,b.fn,a.tmps,params,assign,body,d⟩)/\w0.heap.size<=l/\Sp ρ w1 l/\CB ρ mem next w1/\Ev ρ0 ρ fl m0 n0 mem next w0 w1/\(rnd.isSome=true->mk=[])/\
      D5 P w0.heap.size ρ cs lps css w1 (mk++ma) mb/\(∀j L l',DJ lps j=some L->ρ.lp j=some l'->l'≠l)/\w.heap.size<=w1.heap.size:=by
     have gr: ∀(w1:World) (o:Obj) (mk:zw),D5 P w0.heap.size ρ cs lps css w1 mk mb->D5 P w0.heap.size ρ cs lps css (w1.alloc o) mk mb:=fun w1 o mk hr=>
      ⟨hr.cs,hr.nodup,fun r hx=>by obtain ⟨q1,q2,q3⟩:=hr.marks r hx;exact ⟨q1,(q2.grow o).1,by rw [(q2.grow o).2];exact q3⟩,fun j L hL=>by
       obtain ⟨l,q1,q2,q3,tm,fn',d,q4,q5⟩:=hr.loops j L hL;exact ⟨l,q1,q2,(q3.grow o).1,tm,fn',d,by rw [(q3.grow o).2];exact q4,q5⟩,hr.inj⟩
     have far: ∀(w1:World),D5 P w0.heap.size ρ cs lps css w1 ma mb-> ∀j L l',DJ lps j=some L->ρ.lp j=some l'->l'<w1.heap.size:=fun w1 hr j L l' hL e=>by obtain ⟨l2,q⟩:=hr.loops j L hL;have:=q.lp;rw [e] at this;obtain rfl:=Ag this;exact q.sp.1
     cases hr:b.roundOf with
     | none=>
      have hrn:rnd=none:=by
       grind
      subst hrn;have hs1:Sp ρ (w.alloc (.deferred (some []))) w.heap.size:=Sp.fresh eB _;have fB:=eB.grow (.deferred (some []));have hsz1:(w.alloc (.deferred (some []))).heap.size =w.heap.size+1:=(by simp_all);have fL:D5 P w0.heap.size ρ cs lps css (w.alloc (.deferred (some []))) ([w.heap.size]++ma) mb:=by
       have hr1:=gr w (.deferred (some [])) ma hs.rest;have hnin:w.heap.size ∉ ma++mb:=fun hin=>by have:=(hs.rest.marks _ hin).2.1.1;omega
       refine ⟨hr1.cs,by rw [AI];exact List.nodup_cons.2 ⟨hnin,hr1.nodup⟩,fun r hx=> ?_,hr1.loops,hr1.inj⟩;simp only [Bl,Bd,AZ] at hx;rcases hx with rfl | hx
       .exact ⟨he.size,hs1,by show (w.heap.push _)[w.heap.size]? =_;simp⟩
       .exact hr1.marks r hx
      refine ⟨w.heap.size+1,[w.heap.size],_,w.heap.size,run_enterLoop_outer _ _ _ _ _,?_,by have:=he.size;omega,?_,fB.grow _,(he.grow _).grow _,(fun e=>by cases e),gr _ _ _ fL,fun j L l' hL e=> ?_,?_⟩
      .grind [World.alloc_heap_new]
      .grind [Sp.fresh]
      .have:=far w hs.rest j L l' hL e;omega
      .show _<=((w.heap.push _).push _).size
       grind
     | some l0=>
      obtain ⟨j0,rfl⟩: ∃j0,rnd=some j0:=by
       grind
      obtain ⟨hma,l1,hlp1,e2⟩:=eR;rw [hr] at e2;obtain rfl:=Ag e2;subst hma;have gD: ∃L0,DJ lps j0=some L0:=BS.1 hrk;obtain ⟨L0,hL0⟩:=gD;obtain ⟨l2,q1,q2,q3,tm,fn',d,q4,q5⟩:=hs.rest.loops j0 L0 hL0;rw [hlp1] at q1;obtain rfl:=Ag q1;refine ⟨w.heap.size,[],_,_,run_enterLoop_inner q4 _ _ _ _ _,World.alloc_heap_new _ _,he.size,Sp.fresh eB _,eB.grow _,he.grow _,(fun _=>rfl),gr _ _ _ hs.rest,fun j L l' hL e=> ?_,?_⟩
      .have:=far w hs.rest j L l' hL e;omega
      simp_all
    obtain ⟨l,mk,w1,d,hen,gI,hlow,hsp,fB,hev1,hmk,fL,hne,hsz⟩:=lay;have hle:ρ.le (lpAdd ρ next l):=x3l fB.lp_none;have hlpj:(lpAdd ρ next l).lp next=some l:=AG rfl
    have get: ∀i L,DJ (Ff lps next (some L)) i=if i=next then some L else DJ lps i:=fun i L=>T.get_set none lps next (some L) i
    have hlps: ∀j L l',DJ lps j=some L->(lpAdd ρ next l).lp j=some l'->j≠next->ρ.lp j=some l':=fun j L l' _ e hj=>by
     have e:(if j=next then some l else ρ.lp j)=some l':=e
     grind
    have hrest2:D5 P w0.heap.size (lpAdd ρ next l) cs (Ff lps next (some ⟨.ready,none,cx.n,env,params.toList,assign,body⟩)) css w1 (mk++ma) mb:=by
     refine ⟨fL.cs.mono hle,fL.nodup,fL.marks,fun j L hL=> ?_,fun j j' L L' l' hL hL' e e'=> ?_⟩
     .rw [get] at hL;by_cases hj:j=next
      .subst hj;rw [AG rfl] at hL;obtain rfl:=Ag hL;exact ⟨l,hlpj,hlow,hsp,a.tmps,b.fn,d,by simp_all,eG.mono hle⟩
      .rw [Az hj] at hL;obtain ⟨l2,q1,q2,q3,tm,fn',d',q4,q5⟩:=fL.loops j L hL;exact ⟨l2,hle.2.2 _ _ q1,q2,q3,tm,fn',d',q4,q5.mono hle⟩
     .rw [get] at hL hL';by_cases hj:j=next <;> by_cases hj':j'=next
      .rw [hj,hj']
      .grind
      .grind
      .rw [Az hj] at hL;rw [Az hj'] at hL';exact fL.inj j j' L L' l' hL hL' (hlps _ _ _ hL e hj) (hlps _ _ _ hL' e' hj')
    have hf:=(show Vg ρ (St.env ⟨env,mem,next,orc,ob⟩) cx.n a.tmps from eG).eval f;rw [hg] at hf;generalize hw':a.eval f=u at hf;cases hf with
    | fn _ _ cvs hl hh=>
     have eD:Ux (Zn (lpAdd ρ next l)) (B5.yld next::caps) (#[Value.func (.yield l) #[] #[]]++cvs).toList :=by rw [Array.toList_append];exact .cons (.yld _ _ hlpj) (Ux.of (by simp_all) fun i h1 h2=>by simpa using (hh i h1 (by grind)).mono hle)
     have eQ:=Pu hN hfn (by rw [hb];rfl) (#[Value.func (.yield l) #[] #[]]++cvs) w1;have fD:=stepR_rangeFunc (P:=P) (b:=b) (a:=a) (k:=k') (cs:=css++cs0) (g:=f) (d:=⟨.fn (.func g) cvs, #[Value.func (.yield l) #[] #[]]⟩) (w₁':=w1) hen
      (by simp_all [resolve,Deferred.ofValue,Act.eval]) (by simp only [invoke];exact eQ)
     have hfr:Fc (lpAdd ρ next l) cx none (.inRangeFunc next::k0) rnd env b {a with defers:=mk.map O1++a.defers} (.inRangeFunc l::k') (mk++ma):=
      ⟨eG.mono hle,by grind,.cons (.inR _ _ hlpj) (htl.mono fun _ _=>E8.mono hle),trivial,by
       cases rnd with
       | none=>exact eR
       | some j=>
        obtain ⟨h0,l',h1,h2⟩:=eR;exact ⟨by grind,l',hle.2.2 _ _ h1,h2⟩⟩
     obtain ⟨_,_,_,_,_,b',a',k2,hent,hsr⟩:=x1s h hfr hs.lv hrest2 (show CB _ mem (next+1) w1 from fB.lpAdd l) eD;refine ⟨lpAdd ρ next l,b',a',k2,_,w1,_,_,.one ?_,hsr,?_,by cases css <;> rfl,hsz⟩
     .rw [show C'.ro=none by rw [hCe],<-hent];exact fD
     .rw [hCe];exact hev1.lpAdd fB l
   .cases h
  ·-- a round begins
   rename_i k0;split at h
   .rename_i j;split at h
    .rename_i pend n env params assign body hlg;obtain rfl:=Ag h;refine ⟨⟨hfl.cx,hfl.cs,hfl.le⟩,Xi.refl _ _,fun ho m0 n0 ρ0 w0 ρ b a k css w ma mb hs he cs0=> ?_⟩;obtain ⟨eG,hdf,htd,hro,eR⟩:=hs.top;obtain ⟨rfl,lr0,hlp0,hrb⟩:=eR;obtain ⟨k',rfl,htl⟩:=DR.item rfl htd;obtain ⟨lr,hla⟩:=hs.rest.loops j _ hlg;have hla':=hla;obtain ⟨hlp,hlow,hsp,ltmps,lfn,ld,gI,fP⟩:=hla;rw [hlp] at hlp0;obtain rfl:=Ag hlp0;have eE:=run_beginRound (P:=P) gI rfl;have eN:=hs.rest.record (w':=w.putObj lr (.loop ⟨.busy,pend,lfn,ltmps,params.toArray,assign,body,ld⟩)) hlg hla' (L':=⟨.busy,pend,n,env,params,assign,body⟩)
      ⟨hlp,hlow,hsp.turned (Uy.put _ _ _),ltmps,lfn,ld,World.putObj_heap_same hsp.1,fP⟩ (Uy.put _ _ _)
     refine ⟨ρ,b,a,k',css,_,[],mb,.one (stepR_beginRound hrb eE),⟨⟨eG,hdf,htl,trivial,⟨rfl,lr,hlp,hrb⟩⟩,hs.lv,eN,hs.rel.turned (fun r hr=>by grind) (Uy.put _ _ _)⟩,he.turned (m:=[lr]) (fun r hr=>by grind) (Uy.put _ _ _),rfl,B0 (Uy.put _ _ _).size.symm⟩
    .cases h
   .cases h
  ·-- a loop's end
   rename_i j k0;split at h
   .cases h
   .rename_i CG pend n env params assign body hnb hlg;obtain rfl:=Ag h;refine ⟨⟨hfl.cx,hfl.cs,hfl.le⟩,Xi.refl _ _,fun ho m0 n0 ρ0 w0 ρ b a k css w ma mb hs he cs0=> ?_⟩;obtain ⟨eG,hdf,htd,hro,eR⟩:=hs.top;obtain ⟨lr,hla⟩:=hs.rest.loops j _ hlg;have hla':=hla;obtain ⟨hlp,hlow,hsp,ltmps,lfn,ld,gI,fP⟩:=hla;cases htd with
    | @cons _ y _ k' hx htl=>
     cases hx with
     | same _ hp=>cases hp
     | endR _ l hl =>
      rw [hlp] at hl;obtain rfl:=Ag hl;have hb:CG≠ .busy :=fun e=>by grind
      have eE:=run_endLoop (P:=P) gI hb;have eN:=hs.rest.record (w':=w.putObj lr (.loop ⟨.exhausted,pend,lfn,ltmps,params.toArray,assign,body,ld⟩)) hlg hla' (L':=⟨.exhausted,pend,n,env,params,assign,body⟩)
       ⟨hlp,hlow,hsp.turned (Uy.put _ _ _),ltmps,lfn,ld,World.putObj_heap_same hsp.1,fP⟩ (Uy.put _ _ _)
      refine ⟨ρ,b,a,_,css,_,ma,mb,.one (stepR_endRangeFunc eE),⟨⟨eG,hdf,?_,trivial,eR⟩,hs.lv,eN,hs.rel.turned (fun r hr=>by grind) (Uy.put _ _ _)⟩,he.turned (m:=[lr]) (fun r hr=>by grind) (Uy.put _ _ _),rfl,B0 (Uy.put _ _ _).size.symm⟩;cases pend with
      | none=>exact htl
      | some c=>exact .cons (.same _ rfl) htl
   .cases h
  .cases h
theorem v2w {S:B7} {Rc:CF} {n:Nat} {C:CH}:FG P S Rc (n+1) C=(bif G3 C then some C else match Q4 P S Rc C with
  | some C'=>FG P S Rc n C'
  | none=>none):=rfl
theorem y7y {C:CH} (h:G3 C=true):C.ro=none/\C.rnd=none/\C.cs=[]/\(C.todo=[]\/ ∃t,C.todo=.code .ret ::t):=by
 unfold G3 at h
 grind
theorem Es.trans {fl:Nat} {A B C:CH} (h:Es P fl A B) (k:Es P fl B C):Es P fl A C:=by intro m0 n0 ρ0 w0 ρ b a t css w ma mb hs he cs0;obtain ⟨ρ1,b1,a1,t1,css1,w1,ma1,mb1,s1,r1,e1,q1,z1⟩:=h m0 n0 ρ0 w0 ρ b a t css w ma mb hs he cs0;obtain ⟨ρ2,b2,a2,t2,css2,w2,ma2,mb2,s2,r2,e2,q2,z2⟩:=k m0 n0 ρ0 w0 ρ1 b1 a1 t1 css1 w1 ma1 mb1 r1 e1 cs0;exact ⟨ρ2,b2,a2,t2,css2,w2,ma2,mb2,s1.trans s2,r2,e2,q2.trans q1,AP z1 z2⟩
theorem x2p {S:B7} {Rc:CF} (hN:EC P) (hmx:P.follows .mixedOrders =true) (hS:Zv P S) (hCI:E9 Rc) (hC:GY P Rc) {fl:Nat}: ∀(n:Nat) (C C':CH),Fl fl C->FG P S Rc n C=some C'->G3 C'=true/\Xi fl C.st C'.st/\(C'.st.ob=true->Es P fl C C')
 | 0,C,st',_,h=>by cases h
 | n+1,C,C',hfl,h=>by
  rw [v2w] at h;cases hf:G3 C with
  | true=>rw [hf] at h;obtain rfl:=Ag h;exact ⟨hf,Xi.refl _ _,fun _=>Es.refl fl C⟩
  | false=>
   rw [hf,Ab] at h;split at h
   .rename_i C1 h1;have s1:=x5b hN hmx hS hCI hC hfl h1;obtain ⟨f1,f4,f5⟩:=x2p hN hmx hS hCI hC n C1 C' s1.fls h;exact ⟨f1,s1.inv.trans f4,fun ho=>(s1.leads (f4.ob ho)).trans (f5 ho)⟩
   .cases h
theorem DR.refl_plain {ρ:B9}: ∀(k:List Item),k.all ML=true->DR ρ k k
 | [],_=>.nil
 | x::k,h=>by simp only [BJ,Ad] at h;exact .cons (.same x h.1) (DR.refl_plain k h.2)
theorem x0x (base:Nat) (ρ:B9) (w:World):D5 P base ρ [] .leaf [] w [] []:=
 ⟨.nil,List.nodup_nil,(fun r hr=>by cases hr),(fun j L hL=>by cases hL),(fun j j' L L' l hL=>by cases hL)⟩
theorem v2x (hN:EC P) (hmx:P.follows .mixedOrders =true) {S:B7} (hS:Zv P S) (n:Nat): ∀d,E9 (Ml P S n d)/\GY P (Ml P S n d)
 | 0=>⟨(fun cx todo st st' h=>by cases h),(fun cx todo st st' _ h=>by cases h)⟩
 | d+1=>by
  obtain ⟨hCI,hC⟩:=v2x hN hmx hS n d;have key: ∀{cx todo st st'},Ml P S n (d+1) cx todo st=some st'->todo.all ML=true/\Fl cx.floor ⟨cx,none,todo,none,[],st,[],.leaf⟩/\ ∃C',FG P S (Ml P S n d) n ⟨cx,none,todo,none,[],st,[],.leaf⟩=some C'/\C'.cx.n=cx.n/\C'.st=st':=by
   intro cx todo st st' h;have h:(bif todo.all ML&&Nat.ble cx.floor st.next then match FG P S (Ml P S n d) n ⟨cx,none,todo,none,[],st,[],.leaf⟩ with
    | some C=>bif Nat.beq C.cx.n cx.n then some C.st else none
    | none=>none
    else none)=some st':=h
   obtain ⟨hp,h⟩:=Ze h;simp only [Ad] at hp;refine ⟨hp.1,⟨rfl,fun af haf=>(by cases haf),Al hp.2⟩,?_⟩;split at h
   .rename_i C' hr;obtain ⟨hn,h⟩:=Ze h;simp_all
   .cases h
  refine ⟨fun cx todo st st' h=> ?_,fun cx todo st st' hcx h ho ρ a w b cs hd eG eB=> ?_⟩
  .obtain ⟨_,hfl,C',hr,_,rfl⟩:=key h;exact (x2p hN hmx hS hCI hC n _ C' hfl hr).2.1
  .obtain ⟨hpl,hfl,C',hr,hn,rfl⟩:=key h;obtain ⟨f1,f2,f3⟩:=x2p hN hmx hS hCI hC n _ C' hfl hr;obtain ⟨e1,e2,e3,e4⟩:=y7y f1;obtain ⟨ρ',b',a',k',css',w',ma',mb',s1,r1,v1,q1,_⟩:=f3 ho st.mem st.next ρ w ρ {b with roundOf:=none} a todo [] w [] []
    ⟨⟨eG,hd,DR.refl_plain todo hpl,trivial,rfl⟩,fun h=>absurd rfl h,x0x _ _ _,eB⟩ (Ev.refl _ _ _ _ _ eB.dom) cs
   have hcs:=r1.rest.cs;rw [e3] at hcs;cases hcs;obtain ⟨w2,s2,henv',eX,fR,_,_⟩:=ZS r1 e1 e2 e4 rfl v1 cs;refine ⟨ρ',{a' with defers:=[]},k',w2,?_,rfl,by grind,eX,fR⟩;have hb:b.at a todo=Frame.atR {b with roundOf:=none} a (Vo none todo):=rfl;have hb':Frame.atR b' {a' with defers:=[]} k'=b.at {a' with defers:=[]} k':=by
    have q:(b'.fn,b'.kind,b'.roundOf)=(b.fn,b.kind,none):=q1
    grind [Frame.atR,Frame.at]
   rw [hb,<-hb'];exact s1.trans s2
end
structure Cj where
 keep:zw
 frz:zw
 slots:List (Option zw)
 lslots:List (Option zw):=[]
def F7 (b:Nat):zw->Nat->Option Nat
 | [],_=>none
 | x::l,i=>bif Nat.beq x b then some i else F7 b l (i+1)
def hasN (b:Nat):zw->Bool
 | []=>false
 | x::l=>bif Nat.beq x b then true else hasN b l
def X4 (cells:zx) (off sz:Nat):Nat->zx:=fun k=>(cells.drop (off+k*sz)).take sz
def IM (P:Program) (blk:CA):B5->B5
 | .ptr _ o=>.dptr (blk.cells.drop o)
 | .sl _ off len _=>match P.info? blk.ty with
  | some i=>bif Nat.ble (off+len*i.size) blk.cells.length then .dat len (X4 blk.cells off i.size) else .undef
  | none=>.undef
 | .sla _ sz off len _=>match blk.arr with
  | some A=>bif Nat.beq A.sz sz&&Nat.ble (off+len) A.n then .dat len (fun k=>A.get (off+k)) else .undef
  | none=>.undef
 | _=>.undef
def FI (P:Program) (mem:CE) (N:Cj) (b:Nat) (v:B5) (f:Nat->B5):B5:=
 match F7 b N.keep 0 with
 | some b'=>f b'
 | none=>bif hasN b N.frz then match Yi mem b with
   | some blk=>IM P blk v
   | none=>.undef
  else .undef
def Cf (P:Program) (mem:CE) (N:Cj):Nat->B5->B5
 | 0,_=>.undef
 | d+1,v=>match v with
  | .ptr b o=>FI P mem N b (.ptr b o) fun b'=>.ptr b' o
  | .sl b off len cap=>FI P mem N b (.sl b off len cap) fun b'=>.sl b' off len cap
  | .sla b sz off len cap=>FI P mem N b (.sla b sz off len cap) fun b'=>.sla b' sz off len cap
  | .epa b sz i fo=>FI P mem N b (.epa b sz i fo) fun b'=>.epa b' sz i fo
  | .yld j=>match F7 j N.keep 0 with
   | some j'=>.yld j'
   | none=>.undef
  | .slv b sz off len=>match F7 b N.keep 0 with
   | some b'=>.slv b' sz off len
   | none=>.undef
  | .mapr b=>match F7 b N.keep 0 with
   | some b'=>.mapr b'
   | none=>.undef
  | .agg cs=>.agg (cs.map (Cf P mem N d))
  | .tup cs=>.tup (cs.map (Cf P mem N d))
  | .fn f cs=>.fn f (cs.map (Cf P mem N d))
  | .fnb f cs=>.fnb f (cs.map (Cf P mem N d))
  | .ifc t v=>.ifc t (Cf P mem N d v)
  | v=>v
def T.map (f:B5->B5) (t:T B5):T B5:=
 T.rec (motive:=fun _=>T B5) .leaf (fun v _ _ l r=>.node (f v) l r) t
def MY (f:B5->B5) (env:T B5):zw->T B5
 | []=>.leaf
 | t::l=>T.set .undef (MY f env l) t (f (T.get .undef env t))
def JL (f:B5->B5) (env:T B5):Option zw->T B5
 | none=>T.map f env
 | some l=>MY f env l
def E4 (f:B5->B5):CI->CI
 | .flat g=>.flat g
 | .one r cs b=>.one r (cs.map f) (E4 f b)
 | .alt c a b=>.alt c (E4 f a) (E4 f b)
def QS (P:Program) (mem:CE) (N:Cj):CA->CA
 | ⟨cells,ty,none⟩=>⟨cells.map (Cf P mem N 6),ty,none⟩
 | ⟨_,ty,some A⟩=>⟨rows A.n (E4 (Cf P mem N 6) A.rw).get,ty,some ⟨A.sz,A.n,E4 (Cf P mem N 6) A.rw⟩⟩
def QP :CI->Bool
 | .flat g=>pd (∀i,(g i).all (pf 6)=true)
 | .one _ _ b=>QP b
 | .alt _ a b=>QP a&&QP b
def X5 (blk:CA):Bool:=match blk.arr with
 | none=>true
 | some A=>QP A.rw
def E1 (P:Program) (mem:CE) (N:Cj):zw->Nat->CE×Bool
 | [],_=>(.leaf,true)
 | b::l,i=>match E1 P mem N l (i+1) with
  | (m,o)=>match Yi mem b with
   | none=>(m,o)
   | some blk=>(Wm m i (some (QS P mem N blk)),X5 blk&&o)
def EZ (mem:CE):zw->Bool
 | []=>true
 | b::l=>match Yi mem b with
  | none=>EZ mem l
  | some blk=>(match blk.arr with
   | none=>blk.cells.all (pf 6)
   | some A=>pd (∀i,(A.get i).all (pf 6)=true))&&EZ mem l
def Me (f:B5->B5) (lps:CO):zw->Nat->List (Option zw)->CO
 | [],_,_=>.leaf
 | b::l,i,sl=>match DJ lps b with
  | none=>Me f lps l (i+1) sl.tail
  | some ⟨st,pend,n,env,params,assign,body⟩=>Ff (Me f lps l (i+1) sl.tail) i (some ⟨st,pend,n,JL f env (sl.headD none),params,assign,body⟩)
def QF (keep:zw):Item->Option Item
 | .inRangeFunc j=>(F7 j keep 0).map .inRangeFunc
 | .endRangeFunc j=>(F7 j keep 0).map .endRangeFunc
 | x=>bif ML x then some x else none
def Pi (keep:zw):List Item->Option (List Item)
 | []=>some []
 | x::l=>match QF keep x,Pi keep l with
  | some y,some m=>some (y::m)
  | _,_=>none
def SJ (keep:zw):Option Nat->Option (Option Nat)
 | none=>some none
 | some j=>(F7 j keep 0).map some
def QZ (f:B5->B5) (keep:zw):List C9->List (Option zw)->Option (List C9)
 | [],_=>some []
 | ⟨cx,ro,todo,rnd,rs,env⟩::cs,sl=>match Pi keep todo,SJ keep rnd,QZ f keep cs sl.tail with
  | some todo',some rnd',some cs'=>some (⟨cx,ro,todo',rnd',rs,JL f env (sl.headD none)⟩::cs')
  | _,_,_=>none
def GU :zw->zw->Bool
 | [],_=>true
 | b::l,frz=> !hasN b frz&&(!hasN b l&&GU l frz)
def YC (P:Program) (N:Cj):CH->Option CH
 | ⟨cx,ro,todo,rnd,rs,⟨env,mem,next,orc,ob⟩,cs,lps⟩=>
  match Pi N.keep todo,SJ N.keep rnd,QZ (Cf P mem N 6) N.keep cs N.slots.tail with
  | some todo',some rnd',some cs'=>
   bif GU N.keep N.frz then
    match E1 P mem N N.keep 0 with
    | (mem',o)=>some ⟨cx,ro,todo',rnd',rs,⟨JL (Cf P mem N 6) env (N.slots.headD none),mem',N.keep.length,[],o&&(EZ mem N.frz&&ob)⟩,cs',Me (Cf P mem N 6) lps N.keep 0 N.lslots⟩
   else none
  | _,_,_=>none
def GX :Code->zw->List Item->Code×List Item
 | c,[],k=>(c,k)
 | .seq a b,0::p,k=>GX a p (.code b::k)
 | .seq _ b,_::p,k=>GX b p k
 | .block id c,_::p,k=>GX c p (.inBlock id::k)
 | .loop c,_::p,k=>GX c p (.inLoop c::k)
 | .scope c,_::p,k=>GX c p (.inScope c::k)
 | .cond _ a _,0::p,k=>GX a p k
 | .cond _ _ b,_::p,k=>GX b p k
 | .rangeFunc _ _ a b,0::p,_=>GX a p [.beginRound,.code b]
 | .rangeFunc _ _ _ b,_::p,_=>GX b p []
 | c,_::_,k=>(c,k)
def Zf (P:Program) (f:FuncId) (p:zw) (j:Nat):List Item:=match GX (u8m P f) p [] with
 | (c,k)=>(.code c::k).drop j
def Cr (P:Program) (f:FuncId) (p:zw):Code:=(GX (u8m P f) p []).1
def C4 (P:Program) (f:FuncId) (p:zw) (i:Nat):Option CS:=match Cr P f p with
 | .region _ ops _=>some (ops,i,ops.toList.drop i)
 | _=>none
def X6 (P:Program) (S:B7) (Rc:CF) (n:Nat):CH->Option CH:=
 Nat.rec (motive:=fun _=>CH->Option CH) (fun C=>some C) (fun _ R C=>match Q4 P S Rc C with
  | some C'=>R C'
  | none=>none) n
section
variable {P:Program}
theorem Kx {p:Prop} (h:pd p=true):p:= @Aw p (Classical.propDecidable p) h
theorem Xj {p:Prop} (h:p):pd p=true:= @Aa p (Classical.propDecidable p) h
theorem x1m {b:Nat}: ∀{l:zw} {i j:Nat},F7 b l i=some j->i<=j/\l[j - i]? =some b
 | [],i,j,h=>by cases h
 | x::l,i,j,h=>by
  unfold F7 at h;rcases Ui h with ⟨hx,h⟩ | ⟨_,h⟩
  .simp_all
  .obtain ⟨h1,h2⟩:=x1m h
   grind
theorem VK {b:Nat}: ∀{l:zw},hasN b l=true↔b∈l
 | []=>by simp [hasN]
 | x::l=>by
  unfold hasN;cases hx:Nat.beq x b with
  | true=>simp [Ai hx]
  | false=>
   have:x≠b:=fun e=>by rw [e,Bu] at hx;cases hx
   rw [Ab,VK,AZ];exact ⟨.inr,fun h=>h.resolve_left fun e=>this e.symm⟩
theorem ZR : ∀{l frz:zw},GU l frz=true->l.Nodup/\ ∀b∈l,b ∉ frz
 | [],_,_=>⟨List.nodup_nil,fun b hb=>by cases hb⟩
 | x::l,frz,h=>by
  unfold GU at h;simp only [Ad,Bc] at h;obtain ⟨h1,h2,h3⟩:=h;obtain ⟨i1,i2⟩:=ZR h3;have n1:x ∉ frz:=fun hm=>by rw [VK.2 hm] at h1;cases h1
  have n2:x ∉ l:=fun hm=>by rw [VK.2 hm] at h2;cases h2
  exact ⟨List.nodup_cons.2 ⟨n2,i1⟩,fun b hb=>by
   rcases AZ.1 hb with rfl | hb
   .exact n1
   .exact i2 b hb⟩
def Fz (ρ:B9) (mem:CE) (N:Cj) (k:Nat):Prop:= ∃b l,b∈N.frz/\ρ b=some l/\(Yi mem b).isSome =true/\l.blk=k
def DL (ρ:B9) (mem:CE) (N:Cj) (w:World):B9:=
 ⟨fun b'=>(N.keep[b']?).bind fun b=>ρ b,fun k=> @ite _ (Fz ρ mem N k) (Classical.propDecidable _) (w.heap[k]?) (ρ.fz k),fun j'=>(N.keep[j']?).bind fun j=>ρ.lp j⟩
theorem RU {ρ:B9} {mem:CE} {next:Nat} {w:World} (h:CB ρ mem next w) (N:Cj) {k:Nat} {o:Obj} (e:ρ.fz k=some o):(DL ρ mem N w).fz k=some o:=by
 show @ite _ (Fz ρ mem N k) (Classical.propDecidable _) (w.heap[k]?) (ρ.fz k)=some o;by_cases hf:Fz ρ mem N k
 .obtain ⟨b,l,_,hb,hm,rfl⟩:=hf;have:=h.sep b l hb hm
  grind
 grind
theorem w0h {ρ:B9} {mem:CE} {w:World} {N:Cj} {b:Nat} {l:CT} (hb:b∈N.frz) (hl:ρ b=some l) (hm:(Yi mem b).isSome =true):(DL ρ mem N w).fz l.blk=w.heap[l.blk]? :=
 AG ⟨b,l,hb,hl,hm,rfl⟩
theorem RJ {ρ:B9} {mem:CE} {next:Nat} {w:World} (h:CB ρ mem next w) (N:Cj):ρ.bare.le (DL ρ mem N w).bare :=⟨fun _ _ e=>(by cases e),fun _ _ e=>RU h N e,fun _ _ e=>(by cases e)⟩
theorem Km {ρ:B9} {mem:CE} {w:World} {N:Cj} {b b':Nat} (h:F7 b N.keep 0=some b'):(DL ρ mem N w) b'=ρ b/\(DL ρ mem N w).lp b'=ρ.lp b:=by
 obtain ⟨_,h2⟩:=x1m h;rw [Nat.sub_zero] at h2;constructor
 .show (N.keep[b']?).bind _=_;rw [h2];rfl
 .show (N.keep[b']?).bind _=_;rw [h2];rfl
theorem UY {mem:CE}: ∀{frz:zw},EZ mem frz=true-> ∀b∈frz,∀blk,Yi mem b=some blk->(match blk.arr with | none=>blk.cells.all (pf 6)=true | some A=> ∀i,(A.get i).all (pf 6)=true)
 | [],_,b,hb,_,_=>by cases hb
 | x::l,h,b,hb,blk,hm=>by
  unfold EZ at h;rcases AZ.1 hb with rfl | hb
  .rw [hm] at h;simp only [Ad] at h;cases hA:blk.arr with
   | none=>have:=h.1;rw [hA] at this;exact this
   | some A=>have:=h.1;rw [hA] at this;exact Kx this
  .cases hx:Yi mem x with
   | none=>rw [hx] at h;exact UY h b hb blk hm
   | some blk'=>rw [hx] at h;simp only [Ad] at h;exact UY h.2 b hb blk hm
theorem ZX {mem:CE} {next:Nat} {w:World} {ρ:B9} (h:CB ρ mem next w) {N:Cj} (ho:EZ mem N.frz=true) {b:Nat} (hb:b∈N.frz) {blk:CA} (hm:Yi mem b=some blk) {l:CT} (hl:ρ b=some l):
  ∃val:Nat->Value,∀(i:Nat) (hi:i<blk.cells.length),Zn (DL ρ mem N w).bare blk.cells[i] (val i)/\HQ (DL ρ mem N w).fz l.blk (l.base+i) (val i):=by
 have hno:blk.isObj=false:=by
  cases hx:blk.isObj with
  | false=>rfl
  | true=>
   have hq:=UY ho b hb blk hm;obtain ⟨cells,ty,arr⟩:=blk;unfold CA.isObj at hx;split at hx
   .rename_i e;simp only [CA.mk.injEq] at e;obtain ⟨rfl,_,rfl⟩:=e;simp [pf] at hq
   .cases hx
 obtain ⟨_,hn,ht,har,cs,el,h1,h2,h3⟩:=(h.blk b l blk hl hm).at hno;refine ⟨fun i=>(cs[l.base+i]?).getD undef,fun i hi=> ?_⟩;obtain ⟨v,e1,e2⟩:=h3 i hi;have hpf:pf 6 blk.cells[i]=true:=by
  have:=UY ho b hb blk hm;cases hA:blk.arr with
  | none=>grind
  | some A=>
   rw [hA] at this;obtain ⟨q1,_,_⟩:=har A hA;have hmem:blk.cells[i]∈rows A.n A.get:=by grind
   grind [rows]
 dsimp only;rw [e1];refine ⟨(Ky 6 _ _ hpf e2).mono (RJ h N),cs,el,(0,0),?_,e1⟩
 grind [w0h]
theorem v0c {mem:CE} {next:Nat} {w:World} {ρ:B9} (h:CB ρ mem next w) {N:Cj} (ho:EZ mem N.frz=true) {b:Nat} (hb:b∈N.frz) {blk:CA} (hm:Yi mem b=some blk) {v:B5} {u:Value} (hv:Zn ρ v u)
  (hvb:(∃o,v=.ptr b o)\/(∃off len cap,v=.sl b off len cap)\/(∃sz off len cap,v=.sla b sz off len cap)\/ ∃sz i fo,v=.epa b sz i fo):Zn (DL ρ mem N w) (IM P blk v) u:=by
 rcases hvb with ⟨o,rfl⟩ | ⟨off,len,cap,rfl⟩ | ⟨sz,off,len,cap,rfl⟩ | ⟨sz,i,fo,rfl⟩
 .cases hv with
  | ptr _ _ l hl=>
   obtain ⟨val,eT⟩:=ZX h ho hb hm hl;refine .dptr _ _ _ (fun j=>val (o+j)) (fun j hj=> ?_) (fun j hj=> ?_);all_goals grind
 .simp only [IM];split
  .rename_i i hi;cases hc:Nat.ble (off+len*i.size) blk.cells.length with
   | false=>exact .undef _
   | true=>
    rw [Af];have hle:=Al hc;cases hv with
    | sl _ _ _ _ l c hl _ eC=>
     obtain ⟨val,eT⟩:=ZX h ho hb hm hl;have hin: ∀k,k<len->k*i.size+i.size<=len*i.size:=fun k hk=>by
      have:=AD i.size (show k+1<=len from hk)
      grind
     refine .dat len _ l.blk (l.base+off) i.size c (fun k j=>val (off+(k*i.size+j))) eC (fun k hk=> ?_) (fun k j hk hj=> ?_) (fun k j hk hj=> ?_);all_goals grind [X4]
  .exact .undef _
 .simp only [IM];split
  .rename_i A hA;cases hc:(Nat.beq A.sz sz&&Nat.ble (off+len) A.n) with
   | false=>exact .undef _
   | true=>
    rw [Af];simp only [Ad] at hc;obtain rfl:=Ai hc.1;have hle:=Al hc.2;cases hv with
    | slan=>exact .datn _
    | sla _ _ _ _ _ l c hl _ eC=>
     obtain ⟨val,eT⟩:=ZX h ho hb hm hl;obtain ⟨q1,q2,q3⟩:=(h.blk b l blk hl hm).arr A hA;have fX:=Yk A.n q3;have fQ: ∀k j,k<len->j<A.sz-> ∃hi:(off+k)*A.sz+j<blk.cells.length,blk.cells[(off+k)*A.sz+j]? =(A.get (off+k))[j]? :=fun k j hk hj=>by
      grind [Vf]
     refine .dat len _ l.blk (l.base+off*A.sz) A.sz c (fun k j=>val ((off+k)*A.sz+j)) eC (fun k hk=>q3 _ (by omega)) (fun k j hk hj=> ?_) (fun k j hk hj=> ?_);all_goals grind
  .exact .undef _
 .exact .undef _
theorem RS {mem:CE} {next:Nat} {w:World} {ρ:B9} (h:CB ρ mem next w) {N:Cj} (ho:EZ mem N.frz=true) {b:Nat} {v:B5} {u:Value} {f:Nat->B5} (hv:Zn ρ v u)
  (hvb:(∃o,v=.ptr b o)\/(∃off len cap,v=.sl b off len cap)\/(∃sz off len cap,v=.sla b sz off len cap)\/ ∃sz i fo,v=.epa b sz i fo)
  (hf: ∀b',F7 b N.keep 0=some b'->Zn (DL ρ mem N w) (f b') u):Zn (DL ρ mem N w) (FI P mem N b v f) u:=by
 unfold FI;split
 .grind
 .cases hc:hasN b N.frz with
  | false=>exact .undef _
  | true=>
   rw [Af];split
   .grind [v0c,VK]
   .exact .undef _
theorem Pq {mem:CE} {next:Nat} {w:World} {ρ:B9} (h:CB ρ mem next w) {N:Cj} (ho:EZ mem N.frz=true): ∀(d:Nat) (v:B5) (u:Value),Zn ρ v u->Zn (DL ρ mem N w) (Cf P mem N d v) u
 | 0,_,_,_=>.undef _
 | d+1,v,u,hv=>by
  have ih:=fun v u=>Pq h ho (N:=N) d v u;have list: ∀{cs:zx} {vs:Array Value},cs.length=vs.size->(∀(i:Nat) (h1:i<cs.length) (h2:i<vs.size),Zn ρ cs[i] vs[i])->
    (cs.map (Cf P mem N d)).length =vs.size/\ ∀(i:Nat) (h1:i<(cs.map (Cf P mem N d)).length) (h2:i<vs.size),Zn (DL ρ mem N w) (cs.map (Cf P mem N d))[i] vs[i]:=fun hl hh=>
   ⟨by simpa using hl,fun i h1 h2=>by simpa using ih _ _ (hh i (by simpa using h1) h2)⟩
  unfold Cf;cases hv with
  | undef=>exact .undef _
  | bool b=>exact .bool b
  | int k n=>exact .int k n
  | str s=>exact .str s
  | agg cs vs hl hh=>exact .agg _ _ (list hl hh).1 (list hl hh).2
  | tup cs vs hl hh=>exact .tup _ _ (list hl hh).1 (list hl hh).2
  | fn f cs vs hl hh=>exact .fn f _ _ (list hl hh).1 (list hl hh).2
  | fnb f cs vs hl hh=>exact .fnb f _ _ (list hl hh).1 (list hl hh).2
  | ptr b o l hl=>exact RS h ho (.ptr b o l hl) (.inl ⟨o,rfl⟩) fun b' hb'=>.ptr b' o l (by rw [(Km hb').1];exact hl)
  | nilp=>exact .nilp
  | sl b off len cap l c hl hc eC=>exact RS h ho (.sl b off len cap l c hl hc eC) (.inr (.inl ⟨off,len,cap,rfl⟩)) fun b' hb'=>.sl b' off len cap l c (by rw [(Km hb').1];exact hl) hc eC
  | nils=>exact .nils
  | sla b sz off len cap l c hl hc eC=>exact RS h ho (.sla b sz off len cap l c hl hc eC) (.inr (.inr (.inl ⟨sz,off,len,cap,rfl⟩))) fun b' hb'=>.sla b' sz off len cap l c (by rw [(Km hb').1];exact hl) hc eC
  | slan b sz off cap=>exact RS h ho (.slan b sz off cap) (.inr (.inr (.inl ⟨sz,off,0,cap,rfl⟩))) fun b' hb'=>.slan b' sz off cap
  | epa b sz i fo l hl=>exact RS h ho (.epa b sz i fo l hl) (.inr (.inr (.inr ⟨sz,i,fo,rfl⟩))) fun b' hb'=>.epa b' sz i fo l (by rw [(Km hb').1];exact hl)
  | nilf=>exact .nilf
  | yld j l hl=>
   simp only;split
   .rename_i j' hj';exact .yld j' l (by rw [(Km hj').2];exact hl)
   .exact .undef _
  | slv b sz off len l c hl eC=>
   simp only;split
   .rename_i j' hj';exact .slv j' sz off len l c (by rw [(Km hj').1];exact hl) eC
   .exact .undef _
  | slve b sz off blk base c=>
   simp only;split
   .exact .slve _ sz off blk base c
   .exact .undef _
  | slvn b sz off=>
   simp only;split
   .exact .slvn _ sz off
   .exact .undef _
  | ifc t a v hv=>exact .ifc t _ _ (ih _ _ hv)
  | nili=>exact .nili
  | mapr b l hl=>
   simp only;split
   .rename_i j' hj';exact .mapr j' l (by rw [(Km hj').1];exact hl)
   .exact .undef _
  | ifbt=>exact .ifbt
  | ifbf t v=>exact .ifbf t v
  | dat len get blk base sz cap val eJ hsz hv hh=>refine .dat len get blk base sz cap val eJ hsz (fun i j hi hj=>(hv i j hi hj).mono (RJ h N)) (fun i j hi hj=> ?_);obtain ⟨cs,el,fz,e1,e2⟩:=hh i j hi hj;exact ⟨cs,el,fz,RU h N e1,e2⟩
  | datn get=>exact .datn get
  | datz get a c=>exact .datz get a c
  | nnl len get a c hd=>exact .nnl len get a c ((Ky 1 _ _ rfl hd).mono (B9.le_trans (RJ h N) (RZ _)))
  | dptr cs blk base val hv hh=>refine .dptr cs blk base val (fun j hj=>(hv j hj).mono (RJ h N)) (fun j hj=> ?_);obtain ⟨cs',el,fz,e1,e2⟩:=hh j hj;exact ⟨cs',el,fz,RU h N e1,e2⟩
theorem T.get_map {f:B5->B5} (hf:f .undef =.undef): ∀(t:T B5) (i:Nat),T.get .undef (T.map f t) i=f (T.get .undef t i)
 | .leaf,i=>hf.symm
 | .node v l r,0=>rfl
 | .node v l r,i+1=>by
  show T.get .undef (.node (f v) (T.map f l) (T.map f r)) (i+1)=_;rw [T.get_succ,T.get_succ];split
  .exact T.get_map hf l _
  .exact T.get_map hf r _
theorem y2q {f:B5->B5} (env:T B5): ∀(L:zw) (t:Nat),T.get .undef (MY f env L) t=if t∈L then f (T.get .undef env t) else .undef
 | [],t=>by simp [MY]
 | x::L,t=>by
  unfold MY;rw [T.get_set,y2q env L t];by_cases h:t=x
  .subst h;simp
  .simp [h]
theorem w4u {mem:CE} {next:Nat} {w:World} {ρ:B9} (h:CB ρ mem next w) {N:Cj} (ho:EZ mem N.frz=true) {env:T B5} {n:Nat} {tmps:Array Value} (he:Vg ρ env n tmps): ∀(L:Option zw),Vg (DL ρ mem N w) (JL (Cf P mem N 6) env L) n tmps
 | none=>by
  refine ⟨he.size,fun i=> ?_,fun i hi=> ?_⟩
  .show Zn _ (T.get .undef (T.map (Cf P mem N 6) env) i) _;rw [T.get_map rfl];exact Pq h ho 6 _ _ (he.get i)
  .show T.get .undef (T.map (Cf P mem N 6) env) i=_;rw [T.get_map rfl,he.out i hi];rfl
 | some L=>by
  refine ⟨he.size,fun i=> ?_,fun i hi=> ?_⟩
  .show Zn _ (T.get .undef (MY (Cf P mem N 6) env L) i) _;rw [y2q];split
   .exact Pq h ho 6 _ _ (he.get i)
   .exact .undef _
  .show T.get .undef (MY (Cf P mem N 6) env L) i=_;rw [y2q,he.out i hi];split <;> rfl
theorem x7a {mem:CE} {N:Cj}: ∀(l:zw) (i j:Nat),Yi (E1 P mem N l i).1 j=if i<=j then (l[j - i]?).bind fun b=>(Yi mem b).map (QS P mem N) else none
 | [],i,j=>by simp [E1,Yi]
 | b::l,i,j=>by
  unfold E1;have ih:=x7a (mem:=mem) (N:=N) l (i+1);have tail:i<j->(b::l)[j - i]? =l[j - (i+1)]? :=fun h=>by rw [show j - i=(j - (i+1))+1 by omega];rfl
  cases hm:Yi mem b with
  | none=>
   show Yi (E1 P mem N l (i+1)).1 j=_;rw [ih];rcases Bo i j with h | h | h
   .rw [AG (by omega),AG (by omega),tail h]
   .subst h;rw [Az (by omega),AG (by omega)];simp [hm]
   .rw [Az (by omega),Az (by omega)]
  | some blk=>
   show Yi (Wm (E1 P mem N l (i+1)).1 i (some (QS P mem N blk))) j=_;rw [Vr,ih];rcases Bo i j with h | h | h
   .rw [Az (by omega),AG (by omega),AG (by omega),tail h]
   .subst h;rw [AG rfl,AG (by omega)];simp [hm]
   .rw [Az (by omega),Az (by omega),Az (by omega)]
theorem y2p {mem:CE} {N:Cj}: ∀(l:zw) (i:Nat),(E1 P mem N l i).2=true-> ∀b∈l,∀blk,Yi mem b=some blk->X5 blk=true
 | [],i,_,b,hb,_,_=>by cases hb
 | x::l,i,h,b,hb,blk,hm=>by
  unfold E1 at h;cases hx:Yi mem x with
  | none=>
   rw [hx] at h;rcases AZ.1 hb with rfl | hb
   .rw [hx] at hm;cases hm
   .exact y2p l (i+1) h b hb blk hm
  | some blk'=>
   rw [hx] at h;have h:(X5 blk'&&(E1 P mem N l (i+1)).2)=true:=h;simp only [Ad] at h;rcases AZ.1 hb with rfl | hb
   .rw [hx] at hm;obtain rfl:=Ag hm;exact h.1
   .exact y2p l (i+1) h.2 b hb blk hm
theorem RG {f:B5->B5} {lps:CO}: ∀(l:zw) (i:Nat) (sl:List (Option zw)) (j:Nat) (L:DA),DJ (Me f lps l i sl) j=some L->i<=j/\ ∃b L0 x,l[j - i]? =some b/\DJ lps b=some L0/\L=⟨L0.st,L0.pend,L0.n,JL f L0.env x,L0.params,L0.assign,L0.body⟩
 | [],i,sl,j,L,h=>by cases h
 | b::l,i,sl,j,L,h=>by
  unfold Me at h;split at h
  .obtain ⟨h1,b',L0,x,h2,h3,h4⟩:=RG l (i+1) _ j L h
   grind
  .rename_i st pend n env params assign body hb;rw [show DJ (Ff (Me f lps l (i+1) sl.tail) i (some ⟨st,pend,n,JL f env (sl.headD none),params,assign,body⟩)) j=if j=i then some ⟨st,pend,n,JL f env (sl.headD none),params,assign,body⟩ else DJ (Me f lps l (i+1) sl.tail) j from T.get_set none _ i _ j] at h;by_cases hj:j=i
   .subst hj;rw [AG rfl] at h;obtain rfl:=Ag h;exact ⟨Aj _,b,_,_,by simp,hb,rfl⟩
   .rw [Az hj] at h;obtain ⟨h1,b',L0,x,h2,h3,h4⟩:=RG l (i+1) _ j L h
    grind
theorem w0n {mem:CE} {w:World} {ρ:B9} {N:Cj} {x x' y:Item} (h:QF N.keep x=some x') (hx:E8 ρ x y):E8 (DL ρ mem N w) x' y:=by
 cases hx with
 | inR j l e=>simp only [QF,Ao] at h;obtain ⟨j',hj,rfl⟩:=h;exact .inR j' l (by rw [(Km hj).2];exact e)
 | endR j l e=>simp only [QF,Ao] at h;obtain ⟨j',hj,rfl⟩:=h;exact .endR j' l (by rw [(Km hj).2];exact e)
 | same x hp=>
  have:QF N.keep x=some x:=by
   unfold QF;split
   .cases hp
   .cases hp
   grind
  rw [this] at h;obtain rfl:=Ag h;exact .same _ hp
theorem y3k {mem:CE} {w:World} {ρ:B9} {N:Cj}: ∀{l l' m:List Item},Pi N.keep l=some l'->DR ρ l m->DR (DL ρ mem N w) l' m
 | [],l',m,h,ht=>by cases ht;obtain rfl:=Ag h;exact .nil
 | x::l,l',m,h,ht=>by
  cases ht with
  | cons hx ht=>
   unfold Pi at h;split at h
   .rename_i y k hy hk;obtain rfl:=Ag h;exact .cons (w0n hy hx) (y3k hk ht)
   .cases h
theorem w4t {mem:CE} {next:Nat} {w:World} {ρ:B9} (h:CB ρ mem next w) {N:Cj} (ho:EZ mem N.frz=true) {cx:CL} {ro:Option CS} {todo todo':List Item} {rnd rnd':Option Nat} {env:T B5} {b:Frame} {a:Act} {k:List Item} {ms:zw} (ht:Pi N.keep todo=some todo') (hr:SJ N.keep rnd=some rnd')
  (hf:Fc ρ cx ro todo rnd env b a k ms) (L:Option zw):Fc (DL ρ mem N w) cx ro todo' rnd' (JL (Cf P mem N 6) env L) b a k ms/\(rnd'=none->rnd=none):=by
 refine ⟨⟨w4u h ho hf.env L,hf.defers,y3k ht hf.todo,hf.ro,?_⟩,fun e=> ?_⟩
 .have hrn:=hf.rnd;cases rnd with
  | none=>obtain rfl:=Ag hr;exact hrn
  | some j=>simp only [SJ,Ao] at hr;obtain ⟨j',hj,rfl⟩:=hr;obtain ⟨h0,l,h1,h2⟩:=hrn;exact ⟨h0,l,by rw [(Km hj).2];exact h1,h2⟩
 .cases rnd with
  | none=>rfl
  | some j=>simp_all [SJ]
theorem x5v {mem:CE} {next:Nat} {w:World} {ρ:B9} (h:CB ρ mem next w) {N:Cj} (ho:EZ mem N.frz=true): ∀{cs cs':List C9} {sl:List (Option zw)} {css:List Frame} {mss:zw},QZ (Cf P mem N 6) N.keep cs sl=some cs'->Fb P ρ cs css mss->Fb P (DL ρ mem N w) cs' css mss/\(cs'≠ []->cs≠ [])
 | [],cs',sl,css,mss,hc,hr=>by cases hr;obtain rfl:=Ag hc;exact ⟨.nil,id⟩
 | af::cs,cs',sl,css,mss,hc,hr=>by
  cases hr with
  | cons hf hl ht=>
   unfold QZ at hc;split at hc
   .rename_i todo' rnd' cs'' h1 h2 h3;obtain rfl:=Ag hc;obtain ⟨i1,i2⟩:=x5v h ho h3 ht;obtain ⟨f1,f2⟩:=w4t (P:=P) h ho h1 h2 hf (sl.headD none);exact ⟨.cons f1 (fun hne=>⟨(hl (i2 hne)).1,fun e=>(hl (i2 hne)).2 (f2 e)⟩) i1,fun _=>by simp⟩
   .cases hc
def Lg (ρ ρ':B9) (L L':zx):Prop:=L'.length=L.length/\ ∀(j:Nat) (h1:j<L.length) (h2:j<L'.length) (v:Value),Zn ρ L[j] v->Zn ρ' L'[j] v
theorem WW {mem:CE} {next:Nat} {w:World} {ρ:B9} (h:CB ρ mem next w) {N:Cj} (ho:EZ mem N.frz=true): ∀(rw1:CI),QP rw1=true-> ∀k,Lg ρ (DL ρ mem N w) (rw1.get k) ((E4 (Cf P mem N 6) rw1).get k)
 | .flat g,hf,k=>by refine ⟨rfl,fun j h1 h2 v hv=> ?_⟩;have fC: ∀i,(g i).all (pf 6)=true:=Kx hf;exact ((Ky 6 _ _ (Ax.1 (fC k) _ (AL h1)) hv).mono (RJ h N)).mono (RZ _)
 | .one r cs b,hf,k=>by
  have ih:=WW h ho (N:=N) b hf k;have hc:Lg ρ (DL ρ mem N w) cs (cs.map (Cf P mem N 6)):=⟨by simp,fun j h1 h2 v hv=>by simpa using Pq h ho 6 _ _ hv⟩
  simp only [E4,CI.get];cases Nat.beq k r with
  | true=>exact hc
  | false=>exact ih
 | .alt c a b,hf,k=>by
  simp only [QP,Ad] at hf;have iha:=WW h ho (N:=N) a hf.1 k;have ihb:=WW h ho (N:=N) b hf.2 k;simp only [E4,CI.get];cases c k with
  | true=>exact iha
  | false=>exact ihb
theorem w8u {mem:CE} {next:Nat} {w:World} {ρ:B9} (h:CB ρ mem next w) {N:Cj} (ho:EZ mem N.frz=true) (hd:GU N.keep N.frz=true) (hfl:(E1 P mem N N.keep 0).2=true):CB (DL ρ mem N w) (E1 P mem N N.keep 0).1 N.keep.length w:=by
 obtain ⟨hnd,hdj⟩:=ZR hd;have get: ∀j,Yi (E1 P mem N N.keep 0).1 j=(N.keep[j]?).bind fun b=>(Yi mem b).map (QS P mem N):=fun j=>by
  grind [x7a]
 have blk: ∀{b' l},(DL ρ mem N w) b'=some l-> ∃b,N.keep[b']? =some b/\ρ b=some l:=fun {b' l} e=>by
  have e:(N.keep[b']?).bind (fun b=>ρ b)=some l:=e
  grind
 have live: ∀{b' b},N.keep[b']? =some b->(Yi (E1 P mem N N.keep 0).1 b').isSome =true->(Yi mem b).isSome =true:=fun {b' b} e hs=>by
  grind
 refine ⟨fun b' l e=> ?_,fun b' b'' l l' e e' hbl hs hs'=> ?_,fun b' l ab e hm=> ?_,fun k o e=> ?_,fun b' l e hs=> ?_,fun b' l e=> ?_,fun b' hb=> ?_,fun j l e=> ?_,h.ldom.2.mono fun k o e=>RU h N e⟩
 .grind
 .obtain ⟨b,e1,e2⟩:=blk e;obtain ⟨c,e3,e4⟩:=blk e';have:=h.inj b c l l' e2 e4 hbl (live e1 hs) (live e3 hs');subst this;exact (List.getElem?_inj (Bb.1 e1).1 hnd).1 (e1.trans e3.symm)
 .obtain ⟨b,e1,e2⟩:=blk e;rw [get,e1] at hm;simp only [Option.bind_some,Ao] at hm;obtain ⟨ab0,hm0,rfl⟩:=hm;cases h.blk b l ab0 e2 hm0 with
  | obj o r ty hab hn hh=>
   subst hab;refine .obj o (r.map (Cf P mem N 6)) ty rfl (by rw [hn];simp) ?_;cases o with
   | mi ml=>obtain ⟨rfl,k⟩:=hh;exact ⟨rfl,k⟩
   | mb ml=>obtain ⟨rfl,k⟩:=hh;exact ⟨rfl,k⟩
   | it s pos=>obtain ⟨rfl,k⟩:=hh;exact ⟨rfl,k⟩
   | bld=>obtain ⟨buf,v,p,rfl,k1,k2,k3⟩:=hh;exact ⟨_,v,p,rfl,k1,Pq h ho 6 _ _ k2,k3⟩
  | plain hpl=>
  obtain ⟨hty,hn,ht,har,cs,el,g1,g2,g3⟩:=hpl;obtain ⟨cells,ty,arr⟩:=ab0;cases arr with
  | none=>
   refine .plain ⟨hty,by simpa [QS] using hn,ht,(fun A hA=>by cases hA),cs,el,g1,g2,fun i hi=> ?_⟩
   grind [QS,Pq]
  | some A=>
   obtain ⟨a1,a2,a3⟩:=har A rfl;simp only at a1;have hfb:X5 ⟨cells,ty,some A⟩=true:=y2p N.keep 0 hfl b (List.mem_of_getElem? e1) _ hm0;have fQ:=WW (P:=P) h ho (N:=N) A.rw hfb;have hl': ∀i,i<A.n->((E4 (Cf P mem N 6) A.rw).get i).length =A.sz:=fun i hi=>by rw [(fQ i).1];exact a3 i hi
   have k1:=Yk A.n a3;have k2:=Yk A.n hl';refine .plain ⟨hty,by show l.n=(rows A.n _).length;grind,ht,(fun B hB=>by obtain rfl:=Ag hB;exact ⟨rfl,a2,hl'⟩),cs,el,g1,g2,fun i hi=> ?_⟩;have hi':i<A.n*A.sz:=by rw [<-k2];exact hi
   have hj:i %A.sz<A.sz:=Bw _ a2;have hq:i / A.sz<A.n:=Bg (by grind);have e:i / A.sz*A.sz+i %A.sz=i:=by rw [BE];exact Bx i A.sz
   have hic:i<cells.length:=by grind
   have r1:=Vf A.n a3 (i / A.sz) (i %A.sz) hq hj;have r2:=Vf A.n hl' (i / A.sz) (i %A.sz) hq hj;rw [e] at r1 r2;have hi2:i<(rows A.n (E4 (Cf P mem N 6) A.rw).get).length :=hi;have j1:i %A.sz<(A.rw.get (i / A.sz)).length :=by rw [show A.rw.get=A.get from rfl,a3 _ hq];exact hj
   have j2:i %A.sz<((E4 (Cf P mem N 6) A.rw).get (i / A.sz)).length :=by grind
   obtain ⟨v,q1,q2⟩:=g3 i hic;have s1:cells[i]=(A.rw.get (i / A.sz))[i %A.sz]:=by
    have:cells[i]? =some (A.rw.get (i / A.sz))[i %A.sz]:=by rw [a1,r1,show A.get=A.rw.get from rfl,At j1]
    grind
   have s2:(rows A.n (E4 (Cf P mem N 6) A.rw).get)[i]'hi2=((E4 (Cf P mem N 6) A.rw).get (i / A.sz))[i %A.sz]:=by
    grind
   refine ⟨v,q1,?_⟩;show Zn _ ((rows A.n (E4 (Cf P mem N 6) A.rw).get)[i]'hi2) v;rw [s2];refine (fQ _).2 _ j1 j2 v ?_
   grind
 .have e: @ite _ (Fz ρ mem N k) (Classical.propDecidable _) (w.heap[k]?) (ρ.fz k)=some o:=e;by_cases hf:Fz ρ mem N k
  .grind
  .rw [Az hf] at e;exact h.old k o e
 .obtain ⟨b,e1,e2⟩:=blk e;have hs0:=live e1 hs;have hnf: ¬Fz ρ mem N l.blk:=fun ⟨c,l',c1,c2,c3,c4⟩=>by
   have:=h.inj c b l' l c2 e2 c4 c3 hs0
   grind
  show @ite _ (Fz ρ mem N l.blk) (Classical.propDecidable _) (w.heap[l.blk]?) (ρ.fz l.blk)=none;rw [Az hnf];exact h.sep b l e2 hs0
 .obtain ⟨b,_,e2⟩:=blk e;exact h.real b l e2
 .grind
 .have e:(N.keep[j]?).bind (fun b=>ρ.lp b)=some l:=e;have:=h.ldom.1
  grind
theorem TM {H:Do} {mem:CE} {next:Nat} {w0 w:World} {ρ:B9} (h:CB ρ mem next w) {N:Cj} (he:Ev (DI H) ρ 0 .leaf 0 mem next w0 w) (mem':CE) (next':Nat):Ev (DI H) (DL ρ mem N w) 0 .leaf 0 mem' next' w0 w:=
 ⟨⟨fun b l e=>(by cases e),fun k o e=>RU h N (he.ext.2.1 k o e),fun j l e=>(by cases e)⟩,fun b hb=>absurd hb (AJ _),AH _,fun b hb=>absurd hb (AJ _),he.frame,fun b l _ e=>by
   have e:(N.keep[b]?).bind (fun b=>ρ b)=some l:=e;rw [Option.bind_eq_some_iff] at e;obtain ⟨c,_,e2⟩:=e;exact he.fresh c l (AH _) e2,he.size,he.os,he.tape,he.output,fun k hk=>by
   have hnf: ¬Fz ρ mem N k:=fun ⟨b,l,_,e2,_,e4⟩=>by
    rcases he.fresh b l (AH _) e2 with h1 | ⟨b0,l0,e0,_⟩
    .omega
    .cases e0
   show @ite _ (Fz ρ mem N k) (Classical.propDecidable _) (w.heap[k]?) (ρ.fz k)=_;rw [Az hnf];exact he.still k hk⟩
def DC (P:Program) (C C':CH):Prop:=
 ∀(H:Do) (w0:World) (ρ:B9) (b:Frame) (a:Act) (k:List Item) (css:List Frame) (w:World) (ma mb:zw),OW P w0.heap.size C ρ b a k css w ma mb->Ev (DI H) ρ 0 .leaf 0 C.st.mem C.st.next w0 w-> ∀cs0:List Frame,
  ∃ρ' b' a' k' css' w' ma' mb',Steps P (lone (b.atR a (Vo C.ro k)) (css++cs0) w) (lone (b'.atR a' (Vo C'.ro k')) (css'++cs0) w')/\OW P w0.heap.size C' ρ' b' a' k' css' w' ma' mb'/\Ev (DI H) ρ' 0 .leaf 0 C'.st.mem C'.st.next w0 w'/\Ma b' css'=Ma b css/\w.heap.size<=w'.heap.size
theorem DC.refl (C:CH):DC P C C:=fun H w0 ρ b a k css w ma mb hs he cs0=>⟨ρ,b,a,k,css,w,ma,mb,Steps.refl _ _,hs,he,rfl,Aj _⟩
theorem DC.trans {A B C:CH} (h:DC P A B) (k:DC P B C):DC P A C:=by intro H w0 ρ b a t css w ma mb hs he cs0;obtain ⟨ρ1,b1,a1,t1,css1,w1,ma1,mb1,s1,r1,e1,q1,z1⟩:=h H w0 ρ b a t css w ma mb hs he cs0;obtain ⟨ρ2,b2,a2,t2,css2,w2,ma2,mb2,s2,r2,e2,q2,z2⟩:=k H w0 ρ1 b1 a1 t1 css1 w1 ma1 mb1 r1 e1 cs0;exact ⟨ρ2,b2,a2,t2,css2,w2,ma2,mb2,s1.trans s2,r2,e2,q2.trans q1,AP z1 z2⟩
theorem Es.goes {C C':CH} (h:Es P 0 C C'):DC P C C':=fun H w0 ρ b a k css w ma mb hs he cs0=>h .leaf 0 (DI H) w0 ρ b a k css w ma mb hs he cs0
def UD (C:CH):Bool:=Nat.beq C.cx.floor 0&&C.cs.all fun af=>Nat.beq af.cx.floor 0
theorem u3i {C:CH} (h:UD C=true):Fl 0 C:=by unfold UD at h;simp only [Ad] at h;exact ⟨Ai h.1,fun af haf=>Ai (Ax.1 h.2 af haf),AH _⟩
theorem y6u {f:B5->B5} {keep:zw} {fl:Nat}: ∀{cs cs':List C9} {sl:List (Option zw)},QZ f keep cs sl=some cs'->(∀af∈cs,af.cx.floor=fl)-> ∀af∈cs',af.cx.floor=fl
 | [],cs',sl,h,_,af,haf=>by obtain rfl:=Ag h;cases haf
 | a0::cs,cs',sl,h,hcs,af,haf=>by
  unfold QZ at h;split at h
  .rename_i t1 r1 c1 g1 g2 g3;obtain rfl:=Ag h;rcases AZ.1 haf with rfl | haf
   .grind
   .exact y6u g3 (fun x hx=>hcs x (A5 _ hx)) af haf
  .cases h
theorem w9e {N:Cj} {C C':CH} (h:YC P N C=some C') (ho:C'.st.ob=true):C.st.ob=true/\DC P C C'/\(Fl 0 C->Fl 0 C'):=by
 obtain ⟨cx,ro,todo,rnd,rs,⟨env,mem,next,orc,ob⟩,cs,lps⟩:=C;simp only [YC] at h;split at h
 .rename_i todo' rnd' cs' h1 h2 h3;obtain ⟨hd,h⟩:=Ze h;obtain rfl:=Ag h;simp only [Ad] at ho;obtain ⟨hkm,ho2,ho3⟩:=ho;refine ⟨ho3,fun H w0 ρ b a k css w ma mb hs he cs0=> ?_,fun hfl=>⟨hfl.cx,fun af haf=> ?_,AH _⟩⟩
  .have eB:=hs.rel;simp only at eB he;obtain ⟨f1,f2⟩:=w4t (P:=P) eB ho2 h1 h2 hs.top (N.slots.headD none);obtain ⟨c1,c2⟩:=x5v (P:=P) eB ho2 h3 hs.rest.cs;refine ⟨DL ρ mem N w,b,a,k,css,w,ma,mb,Steps.refl _ _,⟨f1,fun hne=>⟨(hs.lv (c2 hne)).1,fun e=>(hs.lv (c2 hne)).2 (f2 e)⟩,⟨c1,hs.rest.nodup,fun r hr=> ?_,fun j L hL=> ?_,fun j j' L L' l hL hL' e e'=> ?_⟩,?_⟩,TM eB he _ _,rfl,Aj _⟩
   .obtain ⟨q1,⟨q2,q3,q4⟩,q5⟩:=hs.rest.marks r hr;refine ⟨q1,⟨q2,?_,fun b' l e=> ?_⟩,q5⟩
    .show @ite _ (Fz ρ mem N r) (Classical.propDecidable _) (w.heap[r]?) (ρ.fz r)=none;rw [Az fun ⟨c,l,_,e2,_,e4⟩=>q4 c l e2 e4];exact q3
    .have e:(N.keep[b']?).bind (fun b=>ρ b)=some l:=e
     grind
   .obtain ⟨_,c,L0,x,e1,e2,rfl⟩:=RG N.keep 0 _ j L hL;rw [Nat.sub_zero] at e1;obtain ⟨l,q1,q2,⟨q3,q4,q5⟩,tm,fn',d,q6,q7⟩:=hs.rest.loops c L0 e2;refine ⟨l,?_,q2,⟨q3,?_,fun b' l' e=> ?_⟩,tm,fn',d,q6,w4u (P:=P) eB ho2 q7 x⟩
    .show (N.keep[j]?).bind (fun b=>ρ.lp b)=some l
     grind
    .show @ite _ (Fz ρ mem N l) (Classical.propDecidable _) (w.heap[l]?) (ρ.fz l)=none;rw [Az fun ⟨c,l,_,e2,_,e4⟩=>q5 c l e2 e4];exact q4
    .have e:(N.keep[b']?).bind (fun b=>ρ b)=some l':=e
     grind
   .obtain ⟨_,c,L0,x,e1,e2,rfl⟩:=RG N.keep 0 _ j L hL;obtain ⟨_,c',L0',x',e1',e2',rfl⟩:=RG N.keep 0 _ j' L' hL';rw [Nat.sub_zero] at e1 e1';have e:(N.keep[j]?).bind (fun b=>ρ.lp b)=some l:=e;have e':(N.keep[j']?).bind (fun b=>ρ.lp b)=some l:=e';rw [e1] at e;rw [e1'] at e';have:=hs.rest.inj c c' L0 L0' l e2 e2' e e';subst this;exact (List.getElem?_inj (Bb.1 e1).1 (ZR hd).1).1 (e1.trans e1'.symm)
   .exact w8u eB ho2 hd hkm
  .exact y6u h3 hfl.cs af haf
 .cases h
theorem x7d {S:B7} {Rc:CF} (hN:EC P) (hmx:P.follows .mixedOrders =true) (hS:Zv P S) (hCI:E9 Rc) (hC:GY P Rc) {fl:Nat}: ∀(n:Nat) (C C':CH),Fl fl C->X6 P S Rc n C=some C'->Fl fl C'/\Xi fl C.st C'.st/\(C'.st.ob=true->Es P fl C C')
 | 0,C,C',hfl,h=>by
  obtain rfl:=Ag h
  grind [Xi.refl,Es.refl]
 | n+1,C,C',hfl,h=>by
  have h:(match Q4 P S Rc C with
   | some C'=>X6 P S Rc n C'
   | none=>none)=some C':=h
  split at h
  .rename_i C1 h1;have s1:=x5b hN hmx hS hCI hC hfl h1;obtain ⟨f1,f4,f5⟩:=x7d hN hmx hS hCI hC n C1 C' s1.fls h;exact ⟨f1,s1.inv.trans f4,fun ho=>(s1.leads (f4.ob ho)).trans (f5 ho)⟩
  .cases h
def Zm (P:Program) (f:FuncId) (args:zx) (sym:Bool) (orc:List Bool):CH:=
 match P.funcs[f]? with
 | some fn=>⟨⟨Nat.max fn.ntmps args.length,0,sym⟩,none,[.code (fn.body.getD .ret)],none,fn.results.toList,⟨Ex args 0 .leaf,.leaf,0,orc,true⟩,[],.leaf⟩
 | none=>⟨⟨0,0,sym⟩,none,[],none,[],⟨.leaf,.leaf,0,[],true⟩,[],.leaf⟩
theorem goes_call {f:FuncId} {args:zx} {sym:Bool} {orc:List Bool} {C':CH} {vs:zx} {H:Do} (hf:(P.funcs[f]?).any (fun fn=>fn.body.isSome)=true) (h:DC P (Zm P f args sym orc) C') (hfin:G3 C'=true) (hob:(Qh P C'.st (Zm P f args sym orc).rs)=some vs)
  {vals:Array Value} {w:World} (eD:Ux (Zn (DI H)) args vals.toList) (hH: ∀k o,H k=some o->w.heap[k]? =some o) (hG:Glob H):
  Calls P f vals w fun e w'=> ∃ρ u,e=.returned u/\Out H w ρ (Kg vs) u w':=by
 cases hfn:P.funcs[f]? with
 | none=>grind
 | some fn=>
  rw [hfn] at hf;have hf:fn.body.isSome=true:=hf;obtain ⟨body,hb⟩:=BS.1 hf;have hstart:Zm P f args sym orc=⟨⟨Nat.max fn.ntmps args.length,0,sym⟩,none,[.code body],none,fn.results.toList,⟨Ex args 0 .leaf,.leaf,0,orc,true⟩,[],.leaf⟩:=by unfold Zm;grind
  rw [hstart] at h hob;simp only at hob;intro cs;obtain ⟨ρ',b',a',k',css',w',ma',mb',s1,r1,v1,q1,_⟩:=h H w (DI H) ⟨f, #[],[],[],.run,.normal,none⟩ {tmps:=vals++Array.replicate (fn.ntmps - vals.size) undef,defers:=[]} [.code body] [] w [] []
   ⟨⟨ZW eD fn.ntmps,rfl,.cons (.same _ rfl) .nil,trivial,rfl⟩,fun h=>absurd rfl h,x0x _ _ _,x5w hH hG⟩ (Ev.refl _ _ _ _ _ (x5w hH hG).dom) cs
  obtain ⟨e1,e2,e3,e4⟩:=y7y hfin;have hcs:=r1.rest.cs;rw [e3] at hcs;cases hcs;obtain ⟨w2,s2,henv',eX,fR,_,_⟩:=ZS r1 e1 e2 e4 rfl v1 cs;obtain ⟨u,hu,gH⟩:=ZA (fn:=fn) henv' eX hob;have q:(b'.fn,b'.kind,b'.roundOf)=(f,CallKind.normal,none):=q1;simp only [Ac] at q;have hen:Frame.enter P f vals .normal =Frame.atR ⟨f, #[],[],[],.run,.normal,none⟩ {tmps:=vals++Array.replicate (fn.ntmps - vals.size) undef,defers:=[]} (Vo none [.code body]):=by
   grind [Frame.enter,Frame.atR,Vo]
  refine ⟨.returned u,w2,{b'.atR {a' with defers:=[]} k' with mode:=.returning},⟨ρ',u,rfl,Nz hu eX fR⟩,?_,q.1,rfl,rfl,q.2.1,fn,by show P.funcs[b'.fn]? =_;grind,gH⟩;rw [hen];exact s1.trans s2
end
def Wd :List CA->Nat->CE
 | [],_=>.leaf
 | b::l,i=>Wm (Wd l (i+1)) i (some b)
def DY (c:Nat->Int):Nat->zx:=fun i=>[.int .i64 (c i)]
def CH.withO :CH->List Bool->CH
 | ⟨cx,ro,todo,rnd,rs,⟨env,mem,next,_,_⟩,cs,lps⟩,o=>⟨cx,ro,todo,rnd,rs,⟨env,mem,next,o,true⟩,cs,lps⟩
def CH.withB :CH->Bool->CH
 | ⟨cx,ro,todo,rnd,rs,⟨env,mem,next,_,_⟩,cs,lps⟩,b=>⟨cx,ro,todo,rnd,rs,⟨env,mem,next,[],b⟩,cs,lps⟩
inductive Xy (σ:Type) where
 | stuck
 | ret (vs:zx)
 | to (s:σ)
def Kw (P:Program) (rs:List ResultVar) (C:CH) (vs:zx):Prop:= ∃C',DC P C C'/\G3 C'=true/\Qh P C'.st rs=some vs
def Wu (P:Program) (rs:List ResultVar) {σ:Type} (cfg:σ->CH) (C:CH):Xy σ->Prop
 | .stuck =>True
 | .ret vs=>Kw P rs C vs
 | .to s=>DC P C (cfg s)
section
variable {P:Program} {rs:List ResultVar} {σ:Type} {cfg:σ->CH} {C:CH}
theorem w5q {c:Bool} {a b:Xy σ} (ha:c=true->Wu P rs cfg C a) (hb:c=false->Wu P rs cfg C b):Wu P rs cfg C (bif c then a else b):=by grind
theorem u2p {c:Bool} {a:Xy σ} (ha:c=true->Wu P rs cfg C a):Wu P rs cfg C (bif c then a else .stuck):=w5q ha fun _=>trivial
theorem Jy {vs:zx} (C':CH) (h:DC P C C') (hf:G3 C'=true) (hr:Qh P C'.st rs=some vs):Wu P rs cfg C (.ret vs):=⟨C',h,hf,hr⟩
end
def Zt {σ:Type} (step:σ->Xy σ):Nat->Xy σ->Xy σ
 | 0,o=>o
 | n+1,.to s=>Zt step n (step s)
 | _+1,o=>o
theorem Zb {P:Program} {rs:List ResultVar} {σ:Type} {cfg:σ->CH} {step:σ->Xy σ} (fD: ∀s,Wu P rs cfg (cfg s) (step s)) {C:CH}: ∀(n:Nat) (o:Xy σ),Wu P rs cfg C o->Wu P rs cfg C (Zt step n o)
 | 0,o,h=>h
 | n+1,.stuck,h=>h
 | n+1,.ret vs,h=>h
 | n+1,.to s,h=>Zb fD n (step s) (match step s,fD s with
  | .stuck,_=>trivial
  | .ret vs,⟨C',g,hf,hr⟩=>⟨C',DC.trans h g,hf,hr⟩
  | .to s',g=>DC.trans h g)
theorem Za {σ:Type} (step:σ->Xy σ) (n:Nat) (vs:zx):Zt step n (.ret vs)=.ret vs:=by cases n <;> rfl
theorem Zx {σ:Type} (step:σ->Xy σ) (n:Nat) (s:σ):Zt step (n+1) (.to s)=Zt step n (step s):=rfl
theorem QR {a b:Bool} (ha:a=true) (hb:b=true):(a&&b)=true:=by grind
theorem v4w {a b:Bool} (h:a=b):(a == b)=true:=by grind
def B7.with (S:B7) (f:FuncId) (F:zx->Option (B5×Bool)):B7:=fun g=>bif Nat.beq g f then some (.val F) else S g
theorem x5c {P:Program} {f:FuncId} {args:zx} {sym:Bool} {orc:List Bool}:(Zm P f args sym orc).rs =Zy P f:=by
 grind [Zm,Zy]
theorem v1s {P:Program} {S:B7} (hS:Zv P S) {f:FuncId} {F:zx->Option (B5×Bool)} (hf:(P.funcs[f]?).any (fun fn=>fn.body.isSome)=true)
  (hF: ∀args v,F args=some (v,true)-> ∃vs,Kg vs=v/\Kw P (Zy P f) (Zm P f args true []) vs/\ ∃d,pf d v=true):Zv P (S.with f F):=by
 intro g G hg;unfold B7.with at hg;cases hgf:Nat.beq g f with
 | false=>rw [hgf] at hg;exact hS g G hg
 | true=>
  rw [hgf] at hg;obtain rfl:OX.val F=G:=Ag hg;obtain rfl:g=f:=Ai hgf;refine ⟨?_,fun args v hv H vals w eD hH hG=> ?_⟩
  .grind
  .obtain ⟨vs,rfl,⟨C',g1,g2,g3⟩,d,hp⟩:=hF args v hv;exact (goes_call hf g1 g2 (by rw [x5c];exact g3) eD hH hG).mono fun e w' ⟨ρ,u,he,ho⟩=>⟨ρ.fz,u,ho.le,ho.old,ho.same,he,Ky d _ u hp ho.val,ho.below⟩
def Cb (get:Nat->zx) (i:Nat):Int:=match get i with
 | .int _ n::_=>n
 | _=>0
def LW (get:Nat->zx):Bool:=pd (get=DY (Cb get))
theorem w5u {get:Nat->zx} (h:LW get=true): ∃c,get=DY c:=⟨_,Kx h⟩
theorem u1z (x:Int):(x != x)=false:=by simp
theorem u3t (x:Int):(x == x)=true:=by simp
theorem v5d (x:Int):(!(x != x))=true:=by simp
theorem v5e (x:Int):(!(x == x))=false:=by simp
theorem w64 (n:Int):IntKind.i64.wrap n=(n+9223372036854775808) %18446744073709551616 - 9223372036854775808:=by rw [IntKind.wrap_i64]
theorem w_in {n:Int} (h: -9223372036854775808<=n) (h':n<=9223372036854775807):IntKind.i64.wrap n=n:=by simp only [w64];omega
theorem Lp (x y:Int):Cl x y=min x y:=by unfold Cl;grind
theorem Lo (x y:Int):Ck x y=max x y:=by unfold Ck;grind
theorem Zu {α:Type} {c:Bool} {a b:α} (h:c=true):(bif c then a else b)=a:=by rw [h];rfl
inductive DO :B5->B5->Prop
 | refl (v:B5):DO v v
 | undef (v:B5):DO v .undef
 | nils (b sz off:Nat) (cap:E6):DO .nils (.sla b sz off 0 cap)
 | sl (b sz q len:Nat) (cap:E6):DO (.sl b (q*sz) len cap) (.sla b sz q len cap)
 | nild (g:Nat->zx):DO .nils (.dat 0 g)
 | dat (n:Nat) (g g':Nat->zx) (h: ∀i,i<n->g i=g' i):DO (.dat n g) (.dat n g')
 | dptr (cs cs':zx) (hl:cs.length=cs'.length) (h: ∀(ρ:B9) (i:Nat) (h1:i<cs.length) (h2:i<cs'.length) (v:Value),Zn ρ cs[i] v->Zn ρ cs'[i] v):DO (.dptr cs) (.dptr cs')
theorem DO.sound {ρ:B9} {a a':B5} {v:Value} (h:DO a a') (hv:Zn ρ a v):Zn ρ a' v:=by
 cases h with
 | refl=>exact hv
 | undef=>exact .undef _
 | nils b sz off cap=>cases hv;exact .slan b sz off cap
 | sl b sz q len cap=>cases hv with | sl _ _ _ _ l c h hc eC=>exact .sla b sz q len cap l c h hc eC
 | nild g=>cases hv;exact .datn _
 | dptr cs cs' hl h=>cases hv with
  | dptr _ blk base val q1 q2=>exact .dptr cs' blk base val (fun j hj=>h _ j (by omega) hj _ (q1 j (by omega))) fun j hj=>q2 j (by omega)
 | dat n g g' hg=>
  cases hv with
  | datn=>exact .datn _
  | datz=>exact .datz _ _ _
  | dat _ _ blk base sz cap val eJ hsz hv hh=>
   refine .dat n g' blk base sz cap val eJ (fun i hi=>by grind) (fun i j hi hj=> ?_) hh
   grind
theorem DO.of_undef {a:B5} (h:DO .undef a):a=.undef :=by cases h <;> rfl
inductive Cd :zx->zx->Prop
 | nil:Cd [] []
 | cons {a b:B5} {l m:zx} (h:DO a b) (t:Cd l m):Cd (a::l) (b::m)
theorem Cd.refl : ∀l:zx,Cd l l
 | []=>.nil
 | a::l=>.cons (.refl a) (Cd.refl l)
theorem Cd.len {l m:zx} (h:Cd l m):l.length=m.length:=by
 induction h with
 | nil=>rfl
 | cons _ _ ih=>simp [ih]
theorem Cd.get {l m:zx} (h:Cd l m): ∀(i:Nat) (h1:i<l.length) (h2:i<m.length),DO l[i] m[i]:=by
 induction h with
 | nil=>grind
 | cons h _ ih=>
  grind
inductive Ia :Option CA->Option CA->Prop
 | refl (b:Option CA):Ia b b
 | drop (b:Option CA):Ia b none
 | rowed (cells:zx) (ty:TypeId) (a:Option DW) (sz n:Nat) (g:Nat->zx) (ho:(⟨cells,ty,a⟩:CA).isObj =false) (hc:cells=rows n g) (h1:1<=sz) (hl: ∀i,i<n->(g i).length =sz):Ia (some ⟨cells,ty,a⟩) (some ⟨rows n g,ty,some ⟨sz,n,g⟩⟩)
 | rws (ty:TypeId) (sz n:Nat) (a a':CI) (h: ∀k,k<n->Cd (a.get k) (a'.get k)):Ia (some ⟨rows n a.get,ty,some ⟨sz,n,a⟩⟩) (some ⟨rows n a'.get,ty,some ⟨sz,n,a'⟩⟩)
theorem Ia.sound {ρ:B9} {w:World} {a a':CA} {l:CT} (h:Ia (some a) (some a')) (hb:Vv ρ w a l):Vv ρ w a' l:=by
 cases h with
 | refl=>exact hb
 | rowed cells ty a sz n g ho hc h1 hl=>subst hc;have hb:=hb.at ho;refine .plain ⟨hb.typ,hb.n,hb.tot,fun A hA=> ?_,hb.cells⟩;obtain rfl:=Ag hA;exact ⟨rfl,h1,hl⟩
 | rws ty sz n a a' h=>
  have hb:=hb.rows rfl;obtain ⟨_,h1,hl⟩:=hb.arr _ rfl;have h1:1<=sz:=h1;have hl: ∀k,k<n->(a.get k).length =sz:=hl;have hl': ∀k,k<n->(a'.get k).length =sz:=fun k hk=>by rw [<-(h k hk).len];exact hl k hk
  have k1:=Yk n hl;have k2:=Yk n hl';obtain ⟨cs,el,g1,g2,g3⟩:=hb.cells;refine .plain ⟨hb.typ,by rw [hb.n];show (rows n a.get).length =(rows n a'.get).length;rw [k1,k2],hb.tot,fun A hA=> ?_,cs,el,g1,g2,fun i hi=> ?_⟩
  .obtain rfl:=Ag hA;exact ⟨rfl,h1,hl'⟩
  .have hi2:i<(rows n a'.get).length :=hi;have hi':i<n*sz:=by rw [<-k2];exact hi
   have hj:i %sz<sz:=Bw _ h1;have hq:i / sz<n:=Bg (by rw [BE];exact hi');have e:i / sz*sz+i %sz=i:=by rw [BE];exact Bx i sz
   have hic:i<(rows n a.get).length :=by rw [k1];exact hi'
   have r1:=Vf n hl (i / sz) (i %sz) hq hj;have r2:=Vf n hl' (i / sz) (i %sz) hq hj;rw [e] at r1 r2;have j1:i %sz<(a.get (i / sz)).length :=by rw [hl _ hq];exact hj
   have j2:i %sz<(a'.get (i / sz)).length :=by rw [hl' _ hq];exact hj
   obtain ⟨v,q1,q2⟩:=g3 i hic;have q2:Zn ρ ((rows n a.get)[i]'hic) v:=q2;refine ⟨v,q1,?_⟩;show Zn ρ ((rows n a'.get)[i]'hi2) v;rw [At hic,At j1] at r1;rw [At hi2,At j2] at r2;rw [Ag r1] at q2;rw [Ag r2];exact ((h _ hq).get _ j1 j2).sound q2
theorem y2j {g h:Nat->zx}: ∀(n:Nat),(∀i,i<n->g i=h i)->rows n g=rows n h
 | 0,_=>rfl
 | n+1,e=>by rw [UR,UR,y2j n fun i hi=>e i (by omega),e n (by omega)]
theorem x1d {n:Nat} {g:Nat->zx} (h: ∀k,∀v∈g k,Ci v=true) (ty:TypeId) (a:Option DW):(⟨Go.Am.rows n g,ty,a⟩:CA).isObj =false:=
 RI (ρ:=⟨fun _=>none,fun _=>none,fun _=>none⟩) (fun v hv=>by obtain ⟨k,_,hk⟩:=w4p hv;exact .inr (h k v hk)) _ _
theorem UZ {n:Nat} {c:Nat->Int} (ty:TypeId) (a:Option DW):(⟨Go.Am.rows n (DY c),ty,a⟩:CA).isObj =false:=x1d (fun k v hv=>by obtain rfl:=Ba.1 hv;rfl) _ _
def EE (l:zq):Nat->Int:=fun k=>l.getD k 0
def Cz (asz sz off len n:Nat) (get:Nat->zx):B5:=bif Nat.beq asz sz&&Nat.ble (off+len) n then .dat len (fun k=>get (off+k)) else .undef
theorem v6c (sz n:Nat) (g:Nat->zx):Cz sz sz 0 n n g=.dat n g:=by
 unfold Cz;rw [show (Nat.beq sz sz&&Nat.ble (0+n) n)=true by simp_all,Af]
 grind
def Cv (g:Nat->zx):Bool:=pd (∀i,(g i).all (pf 6)=true)
theorem u4i {p:B5->Bool} {l:zx} (h:l.all p=true) (n:Nat):(l.take n).all p=true:=
 by grind
theorem u4j {p:B5->Bool} {l:zx} (h:l.all p=true) (n:Nat):(l.drop n).all p=true:=
 by grind
theorem v6l {g:Nat->zx} {off len sz:Nat} {new:zx} (h:Cv g=true) (hn:new.all (pf 6)=true):Cv (Zg g off len sz new)=true:=Xj fun i=>by
 unfold Zg;cases Nat.ble len i with
 | true=>grind
 | false=>exact Kx h _
theorem v6i {g:Nat->zx} {r fo:Nat} {cs:zx} (h:Cv g=true) (hn:cs.all (pf 6)=true):Cv (Yr g r fo cs)=true:=Xj fun i=>by
 unfold Yr;cases Nat.beq i r with
 | true=>rw [Af,List.all_append,List.all_append,u4i (Kx h r),hn,u4j (Kx h r)];rfl
 | false=>exact Kx h _
theorem x0o {P:Program} {S:B7} (hS:Zv P S) {f:FuncId} {F:zx->Option (B5×Bool)} (hf:(P.funcs[f]?).any (fun fn=>fn.body.isSome)=true)
  (hF: ∀args v,F args=some (v,true)-> ∃vs,(∀(ρ:B9) (u:Value),Zn ρ (Kg vs) u->Zn ρ v u)/\Kw P (Zy P f) (Zm P f args true []) vs/\ ∃d,pf d (Kg vs)=true):Zv P (S.with f F):=by
 intro g G hg;unfold B7.with at hg;cases hgf:Nat.beq g f with
 | false=>rw [hgf] at hg;exact hS g G hg
 | true=>
  rw [hgf] at hg;obtain rfl:OX.val F=G:=Ag hg;obtain rfl:g=f:=Ai hgf;refine ⟨?_,fun args v hv H vals w eD hH hG=> ?_⟩
  .grind
  .obtain ⟨vs,hw,⟨C',g1,g2,g3⟩,d,hp⟩:=hF args v hv;exact (goes_call hf g1 g2 (by rw [x5c];exact g3) eD hH hG).mono fun e w' ⟨ρ,u,he,ho⟩=>⟨ρ.fz,u,ho.le,ho.old,ho.same,he,hw _ _ (Ky d _ u hp ho.val),ho.below⟩
theorem v0e :Cv (fun _=>[])=true:=Xj fun _=>rfl
theorem w2n (s t:Nat):Cv (fun k=>(([]:zx).drop (k*s)).take t)=true:=Xj fun i=>by simp
theorem y7x {g:Nat->zx} {o:Nat} (h:Cv g=true):Cv (fun k=>g (o+k))=true:=Xj fun i=>Kx h (o+i)
theorem v6k {g h:Nat->zx} {len:Nat} (p:Cv g=true) (q:Cv h=true):Cv (Yw g len h)=true:=Xj fun i=>by
 unfold Yw;cases Nat.ble len i with
 | true=>exact Kx q _
 | false=>exact Kx p _
open Go.Sort Go.RowKit
variable {P:Program} {ρ:B9}
theorem CB.rewritten {mem:CE} {next:Nat} {w w':World} (h:CB ρ mem next w) {b:Nat} {l:CT} {ab:CA} (hb:ρ b=some l) (hm:Yi mem b=some ab) {cs:zx}
  (eC:cs.length=ab.cells.length) (eO: ∀k,k<w.heap.size->k≠l.blk->w'.heap[k]? =w.heap[k]?) (gC:w.heap.size<=w'.heap.size)
  (hno:ab.isObj=false) (hnew: ∃cur el,w'.heap[l.blk]? =some (.cells cur el (0,0))/\(∀cur0 z,w.heap[l.blk]? =some (.cells cur0 ab.ty z)->el=ab.ty)/\l.base+l.tot<=cur.size/\ ∀(i:Nat) (hi:i<cs.length),∃v,cur[l.base+i]? =some v/\Zn ρ cs[i] v):
  CB ρ (Wm mem b (some ⟨cs,ab.ty,none⟩)) next w':=by
 have hbk:=(h.blk b l ab hb hm).at hno;refine ⟨h.dom,fun c c' m m' e e' he hs hs'=> ?_,fun c m ac e hc=> ?_,fun k o e=> ?_,fun c m e hs=>h.sep c m e (by
  grind [Zw]),fun c m e=>A1 (h.real c m e) gC,fun c hc=>by have:=h.dom b l hb;rw [Zw _ _ (by omega)];exact h.bd c hc,h.ldom⟩
 .refine h.inj c c' m m' e e' he ?_ ?_;all_goals grind [Zw]
 .by_cases hcb:c=b
  .subst hcb;rw [Zs] at hc;obtain rfl:=Ag hc;rw [hb] at e;obtain rfl:=Ag e;obtain ⟨cur,el,n1,n2,n3,n4⟩:=hnew;obtain ⟨cur0,el0,o1,_⟩:=hbk.cells;have hel:=hbk.typ _ _ _ o1;subst hel;have:=n2 _ _ o1;exact .plain ⟨by rw [n1];grind,by rw [eC];exact hbk.n,hbk.tot,(fun A e=>by cases e),cur,el,n1,n3,n4⟩
  .rw [Zw _ _ hcb] at hc;refine (h.blk c m ac e hc).world (B9.le_refl _) (eO m.blk (h.real c m e) fun heq=>hcb ?_);exact h.inj c b m l e hb heq (by rw [hc];rfl) (by rw [hm];rfl)
 .have hk:=h.old k o e;rw [eO k ?_ ?_]
  .exact hk
  .grind
  .intro heq;have:=h.sep b l hb (by rw [hm];rfl)
   grind
def Xk (n:Nat) (c:Nat->Int):zq:=(List.range n).map c
def IR (srt:zq->zq) (args:zx) (mem:CE):Option (B5×Nat×CA×Bool):=match args with
 | [.sla b sz off n cap]=>match Yi mem b with
  | some ⟨_,ty,some A⟩=>some (.tup [],b,⟨rows A.n (DY (EE (srt (Xk n (Cb A.get))))),ty,some ⟨1,A.n,DY (EE (srt (Xk n (Cb A.get))))⟩⟩,
    Nat.beq sz 1&&(Nat.beq A.sz 1&&(Nat.beq off 0&&(decide (n=A.n)&&(LW A.get&&decide (n<4611686018427387904))))))
  | _=>none
 | _=>none
theorem VC (n:Nat) (c:Nat->Int) (i:Nat) (h:i<n):(rows n (DY c))[i]? =some (.int .i64 (c i)):=by
 have:=Vf (get:=DY c) (sz:=1) n (fun _ _=>rfl) i 0 h Nat.one_pos
 simpa [DY] using this
theorem Kz (n:Nat) (c:Nat->Int):(rows n (DY c)).length =n:=by rw [Yk (sz:=1) n fun _ _=>rfl,Nat.mul_one]
theorem Pf (w:World) (n blk off:Nat) (d:Array Int) (os:Array Obj) (k:Nat) (hk:k<w.heap.size):
  (grow (putRow (Value.int .i64) (Go.Sort.ahead w n) blk off d) os).heap[k]? =if k=blk then (w.heap[k]?).map (onCells (putCells (Value.int .i64) off d)) else w.heap[k]? :=by
 show (((Go.Sort.ahead w n).heap.modify blk (onCells (putCells (Value.int .i64) off d)))++os)[k]? =_;rw [Array.getElem?_append_left (by simp_all),BB];show (if blk=k then _ else _)=_;by_cases h:k=blk
 .simp_all
 .rw [Az (fun e=>h e.symm),Az h];rfl
theorem Ev.rewritten {mem:CE} {next floor:Nat} {w w':World} (h:CB ρ mem next w) {b:Nat} (o:Option CA) (hb: ∀l,ρ b=some l->floor<=b) (hnone:ρ b=none-> ∀cs ty,Yi mem b≠some ⟨cs,ty,none⟩)
  (eO: ∀k,k<w.heap.size->(∀l,ρ b=some l->k≠l.blk)->w'.heap[k]? =w.heap[k]?) (gC:w.heap.size<=w'.heap.size) (h1:w'.os=w.os) (h2:w'.tape=w.tape) (h3:w'.output=w.output):
  Ev ρ ρ floor mem next (Wm mem b o) next w w' where
 ext:=B9.le_refl _
 new _ _:=rfl
 nxt:=Aj _
 unborn k _ e cs ty hm:=by
  grind [Zw]
 frame k o hk hfr:=by
  grind
 fresh k m hk e:=by have:=h.dom k m e;omega
 size:=gC
 os:=h1
 tape:=h2
 output:=h3
 still _ _:=rfl
theorem CB.unbornSet {mem:CE} {next:Nat} {w:World} (h:CB ρ mem next w) {b:Nat} (hb:ρ b=none) (hlt:b<next) (o:Option CA):CB ρ (Wm mem b o) next w:=by
 have ne: ∀c l,ρ c=some l->c≠b:=fun c l e he=>by grind
 refine ⟨h.dom,fun c c' m m' e e' he hs hs'=> ?_,fun c m ac e hc=> ?_,h.old,fun c m e hs=> ?_,h.real,fun c hc=> ?_,h.ldom⟩
 .rw [Zw _ _ (ne _ _ e)] at hs;rw [Zw _ _ (ne _ _ e')] at hs';exact h.inj c c' m m' e e' he hs hs'
 .rw [Zw _ _ (ne _ _ e)] at hc;exact h.blk c m ac e hc
 .rw [Zw _ _ (ne _ _ e)] at hs;exact h.sep c m e hs
 .rw [Zw _ _ (by omega)];exact h.bd c hc
theorem j5w {f:FuncId} {srt:zq->zq} (hsl: ∀zs,(srt zs).length =zs.length)
  (hC: ∀(blk off cap:Nat) (zs:zq) (w:World),Holds (Value.int .i64) w blk off zs.toArray->blk<w.heap.size->zs.length<4611686018427387904->
   Calls P f #[.slice (some ⟨blk,off,none⟩) zs.length cap] w fun e w'=>e=.returned (.tuple #[])/\ ∃n os,w'=grow (putRow (Value.int .i64) (Go.Sort.ahead w n) blk off (srt zs).toArray) os)
  (hN: ∀(p:Option Addr) (cap:Nat) (w:World),Calls P f #[.slice p 0 cap] w fun e w'=>e=.returned (.tuple #[])/\w'=w):Gm P f (IR srt):=by
 intro args mem v b blk h gD ρ next floor vals w hfl eD eB
 unfold IR at h;split at h
 .rename_i b0 sz off n cap;split at h
  .rename_i cells ty A hm;obtain ⟨asz,an,get⟩:=A;simp only [Ae,Ac,Ad] at h;obtain ⟨rfl,rfl,rfl,h1,h2,h3,h4,h5,h6⟩:=h;have g1:=Ai h1;have g2:=Ai h2;have g3:=Ai h3;have g4:n=an:=Aw h4;have h6:n<4611686018427387904:=Aw h6;subst g1;subst g2;subst g3;subst g4;obtain ⟨c,hcg⟩:=w5u h5;have e0:Cb (DY c)=c:=rfl;simp only [hcg,e0];obtain ⟨u,hu,fG⟩: ∃u,Zn ρ (.sla b0 1 0 n cap) u/\vals= #[u]:=by
    obtain ⟨vl⟩:=vals;cases eD with
    | cons h1 h2=>cases h2;grind
   subst fG;have hlt:b0<next:=by
    rcases A7 b0 next with h | h
    .exact h
    .have:=eB.bd b0 h;grind
   generalize hL:srt (Xk n c)=L;have hLl:L.length=n:=by grind [Xk]
   have hnn:ρ b0=none-> ∀cs ty',Yi mem b0≠some ⟨cs,ty',none⟩:=fun _ cs ty' e=>by grind
   cases hu with
   | sla _ _ _ _ _ l cc e hc eC=>
    have hbk:=(eB.blk b0 l _ e hm).rows rfl;obtain ⟨har,_,_⟩:=hbk.arr _ rfl;simp only [hcg] at har;subst har;obtain ⟨cur,el,hh,hsz,eH⟩:=hbk.cells;simp only [Kz] at eH;have eW: ∀i,i<n->cur[l.base+i]? =some (.int .i64 (c i)):=fun i hi=>by obtain ⟨v,e1,e2⟩:=eH i hi;rw [show (rows n (DY c))[i]'(by grind)=.int .i64 (c i) from Ag (by rw [<-At,VC n c i hi])] at e2;cases e2;exact e1
    have fK:=eB.real b0 l e;have hzs:(Xk n c).length =n:=(by grind);have hH:Holds (Value.int .i64) w l.blk (l.base+0*1) (Xk n c).toArray :=fun j hj=>by
     grind [World.cell?,Xk,World.frozen?]
    have eQ:=hC l.blk (l.base+0*1) cc (Xk n c) w hH fK (by omega);rw [hzs,hL] at eQ;refine eQ.mono fun e' w' ⟨he,q,os,hw'⟩=>⟨_,he,?_,?_,?_⟩
    .exact .tup [] #[] rfl fun i h1 h2=>absurd h1 (AJ _)
    .subst hw';refine CB.setArr ?_ ⟨1,n,DY (EE L)⟩ (UZ _ _) rfl (Aj 1) fun _ _=>rfl;refine CB.rewritten eB e hm (by simp only [Kz]) (fun k hk hne=> ?_) ?_ hbk.noObj ?_
     .grind [Pf]
     .simp_all
     .refine ⟨putCells (Value.int .i64) (l.base+0*1) L.toArray cur,el,?_,fun _ _ _=>hbk.typ _ _ _ hh,?_,fun i hi=> ?_⟩
      .rw [Pf _ _ _ _ _ _ _ fK,AG rfl,hh];rfl
      .grind [putCells]
      .rw [Kz] at hi;refine ⟨.int .i64 (EE L i),?_,?_⟩
       .grind [putCells,EE]
       .rw [show (rows n (DY (EE L)))[i]'(by grind)=.int .i64 (EE L i) from Ag (by rw [<-At,VC n _ i hi])];exact .int _ _
    .subst hw';refine Ev.rewritten eB _ (fun l' _=>hfl) hnn (fun k hk hne=> ?_) ?_ rfl rfl rfl
     .grind [Pf]
     simp_all
   | slan=>
    refine (hN none 0 w).mono fun e' w' ⟨he,hw'⟩=>⟨_,he,?_,?_,?_⟩
    .exact .tup [] #[] rfl fun i h1 h2=>absurd h1 (AJ _)
    .subst hw';refine CB.setArr ?_ ⟨1,0,DY (EE L)⟩ (UZ _ _) rfl (Aj 1) fun _ _=>rfl;cases e:ρ b0 with
     | none=>exact CB.unbornSet eB e hlt _
     | some l=>have hbk:=(eB.blk b0 l _ e hm).rows rfl;obtain ⟨har,_,_⟩:=hbk.arr _ rfl;simp only [hcg] at har;subst har;obtain ⟨cur,el,hh,hsz,eH⟩:=hbk.cells;exact CB.rewritten eB e hm rfl (fun _ _ _=>rfl) (Aj _) hbk.noObj ⟨cur,el,hh,fun _ _ _=>hbk.typ _ _ _ hh,hsz,fun i hi=>absurd hi (AJ _)⟩
    grind [Ev.rewritten]
  .cases h
 .cases h
def IX (srt:zq->zq) (res:zq->Nat) (args:zx) (mem:CE):Option (B5×Nat×CA×Bool):=match args with
 | [.sla b sz off n cap]=>match Yi mem b with
  | some ⟨_,ty,some A⟩=>some (.sla b 1 0 (res (Xk n (Cb A.get))) cap,b,⟨rows A.n (DY (EE (srt (Xk n (Cb A.get))))),ty,some ⟨1,A.n,DY (EE (srt (Xk n (Cb A.get))))⟩⟩,
    Nat.beq sz 1&&(Nat.beq A.sz 1&&(Nat.beq off 0&&(decide (n=A.n)&&(LW A.get&&decide (n<4611686018427387904))))))
  | _=>none
 | _=>none
theorem j5x {f:FuncId} {srt:zq->zq} {res:zq->Nat} (hsl: ∀zs,(srt zs).length =zs.length) (gH: ∀zs,res zs<=zs.length)
  (hC: ∀(blk off cap:Nat) (zs:zq) (w:World),Holds (Value.int .i64) w blk off zs.toArray->blk<w.heap.size->zs.length<4611686018427387904->zs.length<=cap->
   Calls P f #[.slice (some ⟨blk,off,none⟩) zs.length cap] w fun e w'=>e=.returned (.slice (some ⟨blk,off,none⟩) (res zs) cap)/\ ∃n os,w'=grow (putRow (Value.int .i64) (Go.Sort.ahead w n) blk off (srt zs).toArray) os)
  (hN: ∀(p:Option Addr) (cap:Nat) (w:World),Calls P f #[.slice p 0 cap] w fun e w'=>e=.returned (.slice p 0 cap)/\w'=w):Gm P f (IX srt res):=by
 intro args mem v b blk h gD ρ next floor vals w hfl eD eB
 unfold IX at h;split at h
 .rename_i b0 sz off n cap;split at h
  .rename_i cells ty A hm;obtain ⟨asz,an,get⟩:=A;simp only [Ae,Ac,Ad] at h;obtain ⟨rfl,rfl,rfl,h1,h2,h3,h4,h5,h6⟩:=h;have g1:=Ai h1;have g2:=Ai h2;have g3:=Ai h3;have g4:n=an:=Aw h4;have h6:n<4611686018427387904:=Aw h6;subst g1;subst g2;subst g3;subst g4;obtain ⟨c,hcg⟩:=w5u h5;have e0:Cb (DY c)=c:=rfl;simp only [hcg,e0];obtain ⟨u,hu,fG⟩: ∃u,Zn ρ (.sla b0 1 0 n cap) u/\vals= #[u]:=by
    obtain ⟨vl⟩:=vals;cases eD with
    | cons h1 h2=>cases h2;grind
   subst fG;have hlt:b0<next:=by
    rcases A7 b0 next with h | h
    .exact h
    .have:=eB.bd b0 h;grind
   generalize hL:srt (Xk n c)=L;have hLl:L.length=n:=by grind [Xk]
   have hnn:ρ b0=none-> ∀cs ty',Yi mem b0≠some ⟨cs,ty',none⟩:=fun _ cs ty' e=>by grind
   cases hu with
   | sla _ _ _ _ _ l cc e hc eC=>
    have hbk:=(eB.blk b0 l _ e hm).rows rfl;obtain ⟨har,_,_⟩:=hbk.arr _ rfl;simp only [hcg] at har;subst har;obtain ⟨cur,el,hh,hsz,eH⟩:=hbk.cells;simp only [Kz] at eH;have eW: ∀i,i<n->cur[l.base+i]? =some (.int .i64 (c i)):=fun i hi=>by obtain ⟨v,e1,e2⟩:=eH i hi;rw [show (rows n (DY c))[i]'(by grind)=.int .i64 (c i) from Ag (by rw [<-At,VC n c i hi])] at e2;cases e2;exact e1
    have fK:=eB.real b0 l e;have hzs:(Xk n c).length =n:=(by grind);have hH:Holds (Value.int .i64) w l.blk (l.base+0*1) (Xk n c).toArray :=fun j hj=>by
     grind [World.cell?,Xk,World.frozen?]
    have eQ:=hC l.blk (l.base+0*1) cc (Xk n c) w hH fK (by omega) (by omega);rw [hzs,hL] at eQ;refine eQ.mono fun e' w' ⟨he,q,os,hw'⟩=>⟨_,he,?_,?_,?_⟩
    .exact .sla _ _ _ _ _ l cc e hc (AP (gH _) (by omega))
    .subst hw';refine CB.setArr ?_ ⟨1,n,DY (EE L)⟩ (UZ _ _) rfl (Aj 1) fun _ _=>rfl;refine CB.rewritten eB e hm (by simp only [Kz]) (fun k hk hne=> ?_) ?_ hbk.noObj ?_
     .grind [Pf]
     .simp_all
     .refine ⟨putCells (Value.int .i64) (l.base+0*1) L.toArray cur,el,?_,fun _ _ _=>hbk.typ _ _ _ hh,?_,fun i hi=> ?_⟩
      .rw [Pf _ _ _ _ _ _ _ fK,AG rfl,hh];rfl
      .grind [putCells]
      .rw [Kz] at hi;refine ⟨.int .i64 (EE L i),?_,?_⟩
       .grind [putCells,EE]
       .rw [show (rows n (DY (EE L)))[i]'(by grind)=.int .i64 (EE L i) from Ag (by rw [<-At,VC n _ i hi])];exact .int _ _
    .subst hw';refine Ev.rewritten eB _ (fun l' _=>hfl) hnn (fun k hk hne=> ?_) ?_ rfl rfl rfl
     .grind [Pf]
     simp_all
   | slan=>
    refine (hN none 0 w).mono fun e' w' ⟨he,hw'⟩=>⟨_,he,?_,?_,?_⟩
    .rw [show res (Xk 0 c)=0 from Nat.le_zero.1 (gH _)];exact .slan _ _ _ _
    .subst hw';refine CB.setArr ?_ ⟨1,0,DY (EE L)⟩ (UZ _ _) rfl (Aj 1) fun _ _=>rfl;cases e:ρ b0 with
     | none=>exact CB.unbornSet eB e hlt _
     | some l=>have hbk:=(eB.blk b0 l _ e hm).rows rfl;obtain ⟨har,_,_⟩:=hbk.arr _ rfl;simp only [hcg] at har;subst har;obtain ⟨cur,el,hh,hsz,eH⟩:=hbk.cells;exact CB.rewritten eB e hm rfl (fun _ _ _=>rfl) (Aj _) hbk.noObj ⟨cur,el,hh,fun _ _ _=>hbk.typ _ _ _ hh,hsz,fun i hi=>absurd hi (AJ _)⟩
    grind [Ev.rewritten]
  .cases h
 .cases h
def q4 (f:Nat->Nat->Int):Nat->zx:=fun k=>[.int .i64 (f k 0),.int .i64 (f k 1),.int .i64 (f k 2),.int .i64 (f k 3)]
theorem x6p (a:Nat):(Nat.beq a a == true)=true:=by simp_all
inductive VP where
 | keep
 | drop
  | grow (b sz:Nat)
  | list (n:Nat) (g:Nat->zx)
  | len (n:Nat)
  | frz (n n':Nat) (a g:Nat->zx)
def Ub (n:Nat) (a g:Nat->zx):Bool:=pd (∀i,i<n->a i=g i)
def x9x (cells:zx) (sz n:Nat) (g:Nat->zx):Bool:=pd (cells=rows n g/\1<=sz/\ ∀i,i<n->(g i).length =sz)
def Cs (n:Nat) (a g:Nat->zx):Bool:=pd (∀i,i<n->Cd (a i) (g i))
def HU (a b:Nat):Bool:=pd (a=b)
theorem Yc {a b:Nat} (h:a=b):HU a b=true:=Xj h
def ST (v:B5) (n:Nat) (a:Nat->zx):Bool:=pd (v=.dat n a)
theorem u3f (sz n:Nat) (g:Nat->zx):ST (Cz sz sz 0 n n g) n g=true:=Xj (v6c sz n g)
theorem v6d (n:Nat) (g:Nat->zx):ST (.dat n g) n g=true:=Xj rfl
def JB :VP->B5->Bool->B5×Bool
 | .keep,v,ob=>(v,ob)
 | .drop,_,ob=>(.undef,ob)
 | .grow b sz,v,ob=>match v with
  | .nils =>(.sla b sz 0 0 (.un sz),ob)
  | .sl b o len cap=>(.sla b sz 0 len cap,Nat.beq o 0&&ob)
  | v=>(v,ob)
 | .list n' g,v,ob=>match v with
  | .nils =>(.dat 0 g,ob)
  | .dat n a=>(.dat n' g,HU n n'&&(Ub n a g&&ob))
  | v=>(v,ob)
 | .len n',v,ob=>match v with
  | .sla b sz off n cap=>(.sla b sz off n' cap,HU n n'&&ob)
  | v=>(v,ob)
 | .frz n n' a g,v,ob=>(.dat n' g,ST v n a&&(HU n n'&&(Ub n a g&&ob)))
theorem w5o {p:VP} {v:B5} {ob:Bool} (h:(JB p v ob).2=true):DO v (JB p v ob).1/\ob=true:=by
 cases p with
 | keep=>exact ⟨.refl _,h⟩
 | drop=>exact ⟨.undef _,h⟩
 | grow b sz=>
  cases v with
  | nils=>exact ⟨.nils _ _ _ _,h⟩
  | sl b' o len cap=>simp only [JB,Ad] at h;have e:=Ai h.1;subst e;have:=DO.sl b' sz 0 len cap;rw [Nat.zero_mul] at this;exact ⟨this,h.2⟩
  | _=>exact ⟨.refl _,h⟩
 | list n' g=>
  cases v with
  | nils=>exact ⟨.nild _,h⟩
  | dat n a=>simp only [JB,Ad] at h;obtain rfl:=Kx h.1;exact ⟨.dat _ _ _ (Kx h.2.1),h.2.2⟩
  | _=>exact ⟨.refl _,h⟩
 | len n'=>
  cases v with
  | sla b sz off n cap=>simp only [JB,Ad] at h;obtain rfl:=Kx h.1;exact ⟨.refl _,h.2⟩
  | _=>exact ⟨.refl _,h⟩
 | frz n n' a g=>simp only [JB,Ad] at h;obtain rfl:=Kx h.1;obtain rfl:=Kx h.2.1;exact ⟨.dat _ _ _ (Kx h.2.2.1),h.2.2.2⟩
def QQ :List VP->zx->Bool->zx×Bool
 | _,[],ob=>([],ob)
 | [],l,ob=>(l,ob)
 | p::ps,v::l,ob=>match QQ ps l ob with
  | (l',ob)=>match JB p v ob with
   | (v',ob)=>(v'::l',ob)
theorem Z1 : ∀{ps:List VP} {l:zx} {ob:Bool},(QQ ps l ob).2=true->Cd l (QQ ps l ob).1/\ob=true
 | [],[],_,h=>⟨.nil,h⟩
 | _::_,[],_,h=>⟨.nil,h⟩
 | [],a::l,_,h=>⟨Cd.refl _,h⟩
 | p::ps,v::l,ob,h=>by simp only [QQ] at h ⊢;obtain ⟨h1,h2⟩:=w5o h;obtain ⟨h3,h4⟩:=Z1 h2;exact ⟨.cons h1 h3,h4⟩
inductive BP where
 | keep
 | drop
 | cells (ps:List VP)
 | rowed (sz n:Nat) (g:Nat->zx)
 | rws (a:CI)
  | rowo (sz n:Nat) (a:CI)
def v3l (cells:zx) (sz n:Nat) (a:CI):Bool:=pd (Cd cells (rows n a.get)/\1<=sz/\ ∀i,i<n->(a.get i).length =sz)
def j3g :zx->zx->TypeId->Option CA
 | .obj o::_,_::r,ty=>some ⟨.obj o::r,ty,none⟩
 | .obj _::_,[],_=>none
 | _,cs,ty=>some ⟨cs,ty,none⟩
def j3h (cells:zx):zx->TypeId->Option CA
 | .dat n g::r,ty=>some ⟨.dat n g::r,ty,none⟩
 | cs,ty=>j3g cells cs ty
def F8 :BP->Option CA->Bool->Option CA×Bool
 | .keep,o,ob=>(o,ob)
 | .drop,_,ob=>(none,ob)
 | .cells ps,o,ob=>match o with
  | some ⟨cells,ty,none⟩=>match QQ ps cells ob with
   | (cs,ob)=>(j3h cells cs ty,ob)
  | o=>(o,ob)
 | .rowed sz n g,o,ob=>match o with
  | some ⟨cells,ty,none⟩=>(bif (⟨cells,ty,none⟩:CA).isObj then none else some ⟨rows n g,ty,some ⟨sz,n,.flat g⟩⟩,x9x cells sz n g&&ob)
  | some ⟨_,ty,some ⟨sz',n',a⟩⟩=>(some ⟨rows n g,ty,some ⟨sz',n,.flat g⟩⟩,HU n' n&&(Ub n' a.get g&&ob))
  | o=>(o,ob)
 | .rws a',o,ob=>match o with
  | some ⟨_,ty,some ⟨sz,n,a⟩⟩=>(some ⟨rows n a'.get,ty,some ⟨sz,n,a'⟩⟩,Cs n a.get a'.get&&ob)
  | o=>(o,ob)
 | .rowo sz n a',o,ob=>match o with
  | some ⟨cells,ty,none⟩=>(bif (⟨cells,ty,none⟩:CA).isObj then none else some ⟨rows n a'.get,ty,some ⟨sz,n,a'⟩⟩,v3l cells sz n a'&&ob)
  | o=>(o,ob)
theorem Cd.sound {ρ:B9} {l m:zx} (h:Cd l m) (i:Nat) (h1:i<l.length) (h2:i<m.length) {v:Value} (hv:Zn ρ l[i] v):Zn ρ m[i] v:=(h.get i h1 h2).sound hv
theorem v5c (cells:zx) (ty:TypeId) (A:DW):(⟨cells,ty,some A⟩:CA).isObj =false:=by
 unfold CA.isObj;split
 .rename_i e;cases e
 .rfl
theorem w1q {p:BP} {o:Option CA} {ob:Bool} {x':CA} (h:(F8 p o ob).2=true) (hx:(F8 p o ob).1=some x'):ob=true/\ ∃x,o=some x/\ ∀(ρ:B9) (w:World) (l:CT),Vv ρ w x l->Vv ρ w x' l:=by
 cases p with
 | keep=>exact ⟨h,x',hx,fun _ _ _ q=>q⟩
 | drop=>cases hx
 | cells ps=>
  rcases o with _ | ⟨cells,ty,_ | A⟩
  .cases hx
  .simp only [F8] at h hx;obtain ⟨h1,h2⟩:=Z1 h;refine ⟨h2,_,rfl,fun ρ w l hb=> ?_⟩;generalize (QQ ps cells ob).1=cs' at hx h1;cases hb with
   | obj o r ty' e1 e2 e3=>
    simp only [CA.mk.injEq] at e1;obtain ⟨rfl,rfl,_⟩:=e1;cases h1 with
    | cons ha hr=>
    rename_i c0 r';have hx:j3g (.obj o::r) (c0::r') ty=some x':=by
     unfold j3h at hx;split at hx
     .rename_i e;rw [Bk] at e;obtain ⟨rfl,_⟩:=e;cases ha
     .exact hx
    obtain rfl:=Ag hx;refine .obj o r' ty rfl (by rw [e2,Cd.len hr]) ?_;cases o with
    | mi ml=>obtain ⟨rfl,k⟩:=e3;cases hr;exact ⟨rfl,k⟩
    | mb ml=>obtain ⟨rfl,k⟩:=e3;cases hr;exact ⟨rfl,k⟩
    | it s pos=>obtain ⟨rfl,k⟩:=e3;cases hr;exact ⟨rfl,k⟩
    | bld=>
     obtain ⟨buf,v,p,rfl,k1,k2,k3⟩:=e3;cases hr with
     | cons hb0 hr0=>
     cases hr0;exact ⟨_,v,p,rfl,k1,hb0.sound k2,k3⟩
   | plain hb=>
   have hno:=hb.noObj;have hx:some (⟨cs',ty,none⟩:CA)=some x':=by
    unfold j3h at hx;split at hx
    .exact hx
    .unfold j3g at hx;split at hx
     .cases hno
     .cases hno
     .exact hx
   obtain rfl:=Ag hx;obtain ⟨cs,el,g1,g2,g3⟩:=hb.cells;refine .plain ⟨hb.typ,by rw [hb.n];exact h1.len,hb.tot,(fun A hA=>by cases hA),cs,el,g1,g2,fun i hi=> ?_⟩;have hi0:i<cells.length:=by rw [h1.len];exact hi
   obtain ⟨v,q1,q2⟩:=g3 i hi0;exact ⟨v,q1,h1.sound i hi0 hi q2⟩
  .exact ⟨h,_,rfl,fun ρ w l hb=>by obtain rfl:=Ag hx;exact hb⟩
 | rowed sz n g=>
  rcases o with _ | ⟨cells,ty,_ | ⟨sz',n',a⟩⟩
  .cases hx
  .simp only [F8,Ad] at h hx;obtain ⟨hno,hx⟩:=MU hx;obtain rfl:=Ag hx;obtain ⟨h1,h2,h3⟩:=Kx h.1;exact ⟨h.2,_,rfl,fun ρ w l hb=>(Ia.rowed cells ty none sz n g hno h1 h2 h3).sound hb⟩
  .simp only [F8,Ad] at h hx;obtain rfl:=Ag hx;obtain rfl:=Kx h.1;have h1:=Kx h.2.1;refine ⟨h.2.2,_,rfl,fun ρ w l hb=> ?_⟩;obtain ⟨q1,q2,q3⟩:=hb.arr _ rfl;exact (Ia.rowed cells ty _ sz' n' g (v5c _ _ _) (q1.trans (y2j _ h1)) q2 fun i hi=>by rw [<-h1 i hi];exact q3 i hi).sound hb
 | rws a'=>
  rcases o with _ | ⟨cells,ty,_ | ⟨sz',n',a⟩⟩
  .cases hx
  .exact ⟨h,_,rfl,fun ρ w l hb=>by obtain rfl:=Ag hx;exact hb⟩
  .simp only [F8,Ad] at h hx;obtain rfl:=Ag hx;refine ⟨h.2,_,rfl,fun ρ w l hb=> ?_⟩;obtain ⟨q1,_,_⟩:=hb.arr _ rfl;have q1:cells=rows n' a.get:=q1;subst q1;exact (Ia.rws ty sz' n' a a' (Kx h.1)).sound hb
 | rowo sz n a'=>
  rcases o with _ | ⟨cells,ty,_ | A⟩
  .cases hx
  .simp only [F8,Ad] at h hx;obtain ⟨hno,hx⟩:=MU hx;obtain rfl:=Ag hx;obtain ⟨h1,h2,h3⟩:=Kx h.1;refine ⟨h.2,_,rfl,fun ρ w l hb=> ?_⟩;have hb:=hb.at hno;obtain ⟨cs,el,g1,g2,g3⟩:=hb.cells;refine .plain ⟨hb.typ,by rw [hb.n];exact h1.len,hb.tot,fun A hA=>by obtain rfl:=Ag hA;exact ⟨rfl,h2,h3⟩,cs,el,g1,g2,fun i hi=> ?_⟩;have hi0:i<cells.length:=by rw [h1.len];exact hi
   obtain ⟨v,q1,q2⟩:=g3 i hi0;exact ⟨v,q1,h1.sound i hi0 hi q2⟩
  .exact ⟨h,_,rfl,fun ρ w l hb=>by obtain rfl:=Ag hx;exact hb⟩
def QV :List (Nat×VP)->T B5->Bool->T B5×Bool
 | [],env,ob=>(env,ob)
 | (t,p)::l,env,ob=>match QV l env ob with
  | (e,ob)=>match JB p (T.get .undef e t) ob with
   | (v,ob)=>(T.set .undef e t v,ob)
def G0 (e e':T B5):Prop:= ∀t,(∀(ρ:B9) (v:Value),Zn ρ (T.get .undef e t) v->Zn ρ (T.get .undef e' t) v)/\(T.get .undef e t=.undef ->T.get .undef e' t=.undef)
theorem G0.refl (e:T B5):G0 e e:=fun _=>⟨fun _ _ h=>h,fun h=>h⟩
theorem x3n : ∀{l:List (Nat×VP)} {env:T B5} {ob:Bool},(QV l env ob).2=true->G0 env (QV l env ob).1/\ob=true
 | [],_,_,h=>⟨G0.refl _,h⟩
 | (t,p)::l,env,ob,h=>by
  simp only [QV] at h ⊢;obtain ⟨h1,h2⟩:=w5o h;obtain ⟨h3,h4⟩:=x3n h2;refine ⟨fun s=> ?_,h4⟩;rw [T.get_set];by_cases e:s=t
  .subst e;rw [AG rfl];exact ⟨fun ρ v hv=>h1.sound ((h3 s).1 ρ v hv),fun hu=>by have e:=(h3 s).2 hu;rw [e] at h1 ⊢;exact h1.of_undef⟩
  .rw [Az e];exact h3 s
def Mh :List BP->Nat->CE->Bool->CE×Bool
 | [],_,m,ob=>(m,ob)
 | p::ps,i,m,ob=>match Mh ps (i+1) m ob with
  | (m',ob)=>match F8 p (Yi m i) ob with
   | (x,ob)=>(Wm m' i x,ob)
theorem u2o {p:BP} {o:Option CA} {ob:Bool} (h:(F8 p o ob).2=true):ob=true:=by
 cases p with
 | keep=>exact h
 | drop=>exact h
 | cells ps=>
  rcases o with _ | ⟨cells,ty,_ | A⟩
  .exact h
  .exact (Z1 h).2
  .exact h
 | rowed sz n g=>
  rcases o with _ | ⟨cells,ty,_ | A⟩;all_goals simp_all [F8]
 | rws a=>
  rcases o with _ | ⟨cells,ty,_ | A⟩;all_goals simp_all [F8]
 | rowo sz n a=>
  rcases o with _ | ⟨cells,ty,_ | A⟩;all_goals simp_all [F8]
theorem x1h : ∀{ps:List BP} {i:Nat} {m:CE} {ob:Bool},(Mh ps i m ob).2=true->ob=true/\ ∀b x',Yi (Mh ps i m ob).1 b=some x'-> ∃x,Yi m b=some x/\ ∀(ρ:B9) (w:World) (l:CT),Vv ρ w x l->Vv ρ w x' l
 | [],_,_,_,h=>⟨h,fun b x' hb=>⟨x',hb,fun _ _ _ q=>q⟩⟩
 | p::ps,i,m,ob,h=>by
  simp only [Mh] at h ⊢;have hob:(Mh ps (i+1) m ob).2=true:=u2o h;obtain ⟨h1,h2⟩:=x1h hob;refine ⟨h1,fun b x' hb=> ?_⟩;rw [Vr] at hb;by_cases e:b=i
  .subst e;rw [AG rfl] at hb;exact (w1q h hb).2
  .rw [Az e] at hb;exact h2 b x' hb
def QW :List (List (Nat×VP))->List C9->Bool->List C9×Bool
 | _,[],ob=>([],ob)
 | [],l,ob=>(l,ob)
 | p::ps,⟨cx,ro,todo,rnd,rs,env⟩::l,ob=>match QW ps l ob with
  | (l',ob)=>match QV p env ob with
   | (e,ob)=>(⟨cx,ro,todo,rnd,rs,e⟩::l',ob)
def Pa (a a':C9):Prop:=a.cx=a'.cx/\a.ro=a'.ro/\a.todo=a'.todo/\a.rnd=a'.rnd/\a.rs=a'.rs/\G0 a.env a'.env
theorem Pa.refl (a:C9):Pa a a:=⟨rfl,rfl,rfl,rfl,rfl,G0.refl _⟩
theorem Ux.refl' : ∀l:List C9,Ux Pa l l
 | []=>.nil
 | a::l=>.cons (Pa.refl a) (Ux.refl' l)
theorem w5p : ∀{ps:List (List (Nat×VP))} {l:List C9} {ob:Bool},(QW ps l ob).2=true->Ux Pa l (QW ps l ob).1/\ob=true
 | [],[],_,h=>⟨.nil,h⟩
 | _::_,[],_,h=>⟨.nil,h⟩
 | [],a::l,_,h=>⟨Ux.refl' _,h⟩
 | p::ps,⟨cx,ro,todo,rnd,rs,env⟩::l,ob,h=>by simp only [QW] at h ⊢;obtain ⟨h1,h2⟩:=x3n h;obtain ⟨h3,h4⟩:=w5p h2;exact ⟨.cons ⟨rfl,rfl,rfl,rfl,rfl,h1⟩ h3,h4⟩
structure GZ where
 slots:List (Nat×VP):=[]
 blks:List BP:=[]
 cs:List (List (Nat×VP)):=[]
def QU (L:GZ):CH->CH
 | ⟨cx,ro,todo,rnd,rs,⟨env,mem,next,orc,ob⟩,cs,lps⟩=>match QW L.cs cs ob with
  | (cs',ob)=>match Mh L.blks 0 mem ob with
   | (mem',ob)=>match QV L.slots env ob with
    | (env',ob)=>⟨cx,ro,todo,rnd,rs,⟨env',mem',next,orc,ob⟩,cs',lps⟩
def Rw :List (TypeId×Nat×(Nat->zx))->Nat->CE->CE
 | [],_,m=>m
 | (ty,sz,g)::l,i,m=>Wm (Rw l (i+1) m) i (some ⟨[],ty,some ⟨sz,0,.flat g⟩⟩)
def XJ (gs:List (TypeId×Nat×(Nat->zx))):CH->CH
 | ⟨cx,ro,todo,rnd,rs,⟨env,mem,next,orc,ob⟩,cs,lps⟩=>⟨cx,ro,todo,rnd,rs,⟨env,Rw gs next mem,next+gs.length,orc,ob⟩,cs,lps⟩
theorem y2s : ∀(gs:List (TypeId×Nat×(Nat->zx))) (i:Nat) (m:CE) (b:Nat),(b<i->Yi (Rw gs i m) b=Yi m b)/\(i+gs.length<=b->Yi (Rw gs i m) b=Yi m b)
 | [],i,m,b=>⟨fun _=>rfl,fun _=>rfl⟩
 | (ty,sz,g)::l,i,m,b=>by obtain ⟨h1,h2⟩:=y2s l (i+1) m b;simp only [Rw,Vr,Aq];exact ⟨fun h=>by rw [Az (by omega)];exact h1 (by omega),fun h=>by rw [Az (by omega)];exact h2 (by omega)⟩
theorem Fb.less {P:Program} {ρ:B9} {cs:List C9} {css:List Frame} {mss:zw} (h:Fb P ρ cs css mss): ∀{cs':List C9},Ux Pa cs cs'->Fb P ρ cs' css mss:=by
 induction h with
 | nil=>intro cs' h;cases h;exact .nil
 | @cons af b a k ms cs css mss hf hl t ih=>
  intro cs' h;cases h with
  | @cons _ af' _ cs'' h1 h2=>
   obtain ⟨e1,e2,e3,e4,e5,e6⟩:=h1;have hne:cs''≠ []->cs≠ []:=fun hn he=>by subst he;cases h2;exact hn rfl
   rw [show Vo af.ro k=Vo af'.ro k by rw [e2]];exact .cons ⟨by rw [<-e1];exact ⟨hf.env.size,fun t=>(e6 t).1 _ _ (hf.env.get t),fun t ht=>(e6 t).2 (hf.env.out t ht)⟩,hf.defers,by rw [<-e3];exact hf.todo,by rw [<-e2];exact hf.ro,by rw [<-e4];exact hf.rnd⟩
    (fun hn=>by grind) (ih h2)
theorem y2r {P:Program} {cx:CL} {ro:Option CS} {todo:List Item} {rnd:Option Nat} {rs:List ResultVar} {env env':T B5} {mem mem':CE} {k k':Nat} {o o':List Bool} {b0 b0':Bool} {cs cs':List C9} {lps:CO}
  (hE:G0 env env') (hC:Ux Pa cs cs') (hM: ∀b x',b<k->Yi mem' b=some x'-> ∃x,Yi mem b=some x/\ ∀(ρ:B9) (w:World) (l:CT),Vv ρ w x l->Vv ρ w x' l) (hk:k<=k') (hbd:(∀b,k<=b->Yi mem b=none)-> ∀b,k'<=b->Yi mem' b=none):
  DC P ⟨cx,ro,todo,rnd,rs,⟨env,mem,k,o,b0⟩,cs,lps⟩ ⟨cx,ro,todo,rnd,rs,⟨env',mem',k',o',b0'⟩,cs',lps⟩:=
 fun H w0 ρ b a t css w ma mb hs he cs0=>by
  have hr:=hs.rel;simp only at hr he;have hne:cs'≠ []->cs≠ []:=fun hn e=>by subst e;cases hC;exact hn rfl
  refine ⟨ρ,b,a,t,css,w,ma,mb,Steps.refl _ _,⟨⟨?_,hs.top.defers,hs.top.todo,hs.top.ro,hs.top.rnd⟩,fun hn=>hs.lv (hne hn),⟨hs.rest.cs.less hC,hs.rest.nodup,hs.rest.marks,hs.rest.loops,hs.rest.inj⟩,?_⟩,?_,rfl,Aj _⟩
  .exact ⟨hs.top.env.size,fun t=>(hE t).1 _ _ (hs.top.env.get t),fun t ht=>(hE t).2 (hs.top.env.out t ht)⟩
  .have lift: ∀c l,ρ c=some l->(Yi mem' c).isSome =true->(Yi mem c).isSome =true:=fun c l hc h=>by obtain ⟨x,hx⟩:=BS.1 h;obtain ⟨y,hy,_⟩:=hM c x (hr.dom c l hc) hx;rw [hy];rfl
   refine ⟨fun c l hc=>A1 (hr.dom c l hc) hk,fun c c' l l' hc hc' hl h1 h2=>hr.inj c c' l l' hc hc' hl (lift c l hc h1) (lift c' l' hc' h2),fun c l ab hc h1=> ?_,hr.old,fun c l hc h1=>hr.sep c l hc (lift c l hc h1),hr.real,hbd hr.bd,fun j l hj=>A1 (hr.ldom.1 j l hj) hk,hr.ldom.2⟩;obtain ⟨y,hy,h2⟩:=hM c ab (hr.dom c l hc) h1;exact h2 _ _ _ (hr.blk c l y hc hy)
  .exact ⟨he.ext,fun _ hb=>absurd hb (AJ _),AH _,fun _ hb=>absurd hb (AJ _),he.frame,he.fresh,he.size,he.os,he.tape,he.output,he.still⟩
theorem w9p {P:Program} {L:GZ} {C:CH} (ho:(QU L C).st.ob =true):C.st.ob=true/\DC P C (QU L C):=by
 obtain ⟨cx,ro,todo,rnd,rs,⟨env,mem,next,orc,ob⟩,cs,lps⟩:=C;simp only [QU] at ho ⊢;obtain ⟨h1,h2⟩:=x3n ho;obtain ⟨h3,h4⟩:=x1h h2;obtain ⟨h5,h6⟩:=w5p h3;refine ⟨h6,y2r h1 h5 (fun b x' _ hb=>h4 b x' hb) (Aj _) fun hbd b hb=> ?_⟩;cases hq:Yi (Mh L.blks 0 mem (QW L.cs cs ob).2).1 b with
 | none=>rfl
 | some x'=>
  grind
theorem w2j {P:Program} (gs:List (TypeId×Nat×(Nat->zx))) (C:CH):DC P C (XJ gs C)/\(XJ gs C).st.ob =C.st.ob:=by
 obtain ⟨cx,ro,todo,rnd,rs,⟨env,mem,next,orc,ob⟩,cs,lps⟩:=C;exact ⟨y2r (G0.refl _) (Ux.refl' _) (fun b x' hb h=>⟨x',by grind [y2s],fun _ _ _ q=>q⟩) (Nat.le_add_right _ _) fun hbd b hb=>by
  rw [(y2s gs next mem b).2 hb];grind,rfl⟩
theorem v0a {P:Program} {C C':CH} {orc:List Bool} {ob:Bool} (g:DC P (C.withO orc) (C'.withB ob)):DC P C C':=by
 obtain ⟨cx,ro,todo,rnd,rs,⟨env,mem,next,o,b⟩,cs,lps⟩:=C;obtain ⟨cx',ro',todo',rnd',rs',⟨env',mem',next',o',b'⟩,cs',lps'⟩:=C';exact fun H w0 ρ b a k css w ma mb hs he cs0=>by obtain ⟨ρ',b',a',k',css',w',ma',mb',h1,h2,h3,h4⟩:=g H w0 ρ b a k css w ma mb ⟨hs.top,hs.lv,hs.rest,hs.rel⟩ he cs0;exact ⟨ρ',b',a',k',css',w',ma',mb',h1,⟨h2.top,h2.lv,h2.rest,h2.rel⟩,h3,h4⟩
theorem v8p {P:Program} {S:B7} (hN:EC P) (hmx:P.follows .mixedOrders =true) (hS:Zv P S) {n m d:Nat} {C C':CH} (gs:List (TypeId×Nat×(Nat->zx))) (N:Cj) (L:GZ) (orc:List Bool) (ob:Bool)
  (h:(((X6 P S (Ml P S m d) n (C.withO orc)).map (XJ gs)).bind (YC P N)).map (QU L)=some (C'.withB ob)) (ho:ob=true) (hfl:UD C=true):DC P C C':=by
 rw [Ao] at h;obtain ⟨C2,h1,h2⟩:=h;rw [Option.bind_eq_some_iff] at h1;obtain ⟨C1,h3,h4⟩:=h1;rw [Ao] at h3;obtain ⟨C0,h5,rfl⟩:=h3;have hfo:UD (C.withO orc)=true:=by obtain ⟨cx,ro,todo,rnd,rs,⟨env,mem,next,o,b⟩,cs,lps⟩:=C;exact hfl
 obtain ⟨hCI,hC⟩:=v2x hN hmx hS m d;obtain ⟨f1,f2,f3⟩:=x7d hN hmx hS hCI hC n (C.withO orc) C0 (u3i hfo) h5;have hob:(QU L C2).st.ob =true:=by rw [h2];obtain ⟨cx,ro,todo,rnd,rs,⟨env,mem,next,o,b⟩,cs,lps⟩:=C';exact ho
 obtain ⟨l1,l2⟩:=w9p (P:=P) hob;obtain ⟨g1,g2,_⟩:=w9e h4 l1;obtain ⟨q1,q2⟩:=w2j (P:=P) gs C0;rw [q2] at g1;have:=(((f3 g1).goes.trans q1).trans g2).trans l2;rw [h2] at this;exact v0a this
theorem Vd (n:Nat) (g:Nat->zx):Ub n g g=true:=Xj fun _ _=>rfl
theorem v2q (a g:Nat->zx):Ub 0 a g=true:=Xj fun _ h=>absurd h (AJ _)
theorem XZ {a b:Nat} (h: ¬a<=b):Nat.ble a b=false:=AY.2 fun e=>h (Al e)
theorem X2 {a b:Nat} (h:a<=b):Nat.ble a b=true:=by simp_all
theorem v2s {n N sz:Nat} {G H H':Nat->zx} {cells:zx} (m:Nat) (h:Ub n G H=true) (hN:N=n+m) (h0: ∀i,i<n->H' i=H i) (h1: ∀i,i<m->(cells.drop (i*sz)).take sz=H' (n+i)):Ub N (Zg G 0 n sz cells) H'=true:=Xj fun i hi=>by
 unfold Zg;by_cases e:n<=i
 .grind [X2]
 .rw [XZ e,Ab,Ak,Kx h i (by omega),h0 i (by omega)]
theorem Zl {α:Type} {sz:Nat}: ∀(l:List (List α)) (i:Nat),(∀x∈l,x.length=sz)->i<l.length->(l.flatten.drop (i*sz)).take sz=l.getD i []
 | [],i,_,h=>absurd h (AJ _)
 | x::l,0,hl,_=>by
  grind
 | x::l,i+1,hl,h=>by have hx:=hl x (by simp);rw [List.flatten_cons,List.getD_cons_succ,<-Zl l i (fun y hy=>hl y (by simp [hy])) (by simpa using h)];rw [List.drop_append,hx,show (i+1)*sz - sz=i*sz by rw [AV,BZ];omega,Av (by rw [hx,AV,BZ];omega),Bd]
theorem Qu {m N:Nat} {G H H':Nat->zx} (h':Ub m H H'=true) (hN:N=0+m):Ub N (Yw G 0 H) H'=true:=Xj fun i hi=>Kx h' i (by omega)
theorem Ur {n:Nat} {G H:Nat->zx} (h:Ub n G H=true):Ub n (fun k=>G (0+k)) H=true:=by grind
theorem u0a {cells:zx} {sz n:Nat} {g:Nat->zx} (h:cells=rows n g) (h1:Nat.ble 1 sz=true) (h2: ∀i,(g i).length =sz):x9x cells sz n g=true:=Xj ⟨h,Al h1,fun i _=>h2 i⟩
def Ee :List (Nat×CA)->CE
 | []=>.leaf
 | (i,b)::l=>Wm (Ee l) i (some b)
def Ed :List (Nat×DA)->CO
 | []=>.leaf
 | (i,b)::l=>Ff (Ed l) i (some b)
class Xg (α:Type) where
 w:Nat
 d:α
 cells:α->zx
 of:zx->α
 len: ∀a,(cells a).length =w
 pos:1<=w
 flat: ∀a,(cells a).all (pf 6)=true
 sc: ∀a,(cells a).all Ci=true
 back: ∀a,of (cells a)=a
def Cn :B5->Int
 | .int _ n=>n
 | _=>0
def oOf :B5->Bool
 | .bool b=>b
 | _=>false
instance : Xg Int where
 w:=1
 d:=0
 cells x:=[.int .i64 x]
 of l:=Cn (l.getD 0 .undef)
 len _:=rfl
 pos:=Aj 1
 flat _:=rfl
 sc _:=rfl
 back _:=rfl
instance : Xg Bool where
 w:=1
 d:=false
 cells x:=[.bool x]
 of l:=oOf (l.getD 0 .undef)
 len _:=rfl
 pos:=Aj 1
 flat _:=rfl
 sc _:=rfl
 back _:=rfl
structure R2 where
 (a b:Int)
 deriving DecidableEq
abbrev zp:=List R2
structure R3 where
 (a b c:Int)
 deriving DecidableEq
structure R4 where
 (a b c d:Int)
 deriving DecidableEq
abbrev zr:=List R4
structure R6 where
 (a b c d e f:Int)
 deriving DecidableEq
abbrev zt:=List R6
instance : Xg R2 where
 w:=2
 d:=⟨0,0⟩
 cells x:=[.int .i64 x.a,.int .i64 x.b]
 of l:=⟨Cn (l.getD 0 .undef),Cn (l.getD 1 .undef)⟩
 len _:=rfl
 pos:=by decide
 flat _:=rfl
 sc _:=rfl
 back _:=rfl
instance : Xg R3 where
 w:=3
 d:=⟨0,0,0⟩
 cells x:=[.int .i64 x.a,.int .i64 x.b,.int .i64 x.c]
 of l:=⟨Cn (l.getD 0 .undef),Cn (l.getD 1 .undef),Cn (l.getD 2 .undef)⟩
 len _:=rfl
 pos:=by decide
 flat _:=rfl
 sc _:=rfl
 back _:=rfl
instance : Xg R4 where
 w:=4
 d:=⟨0,0,0,0⟩
 cells x:=[.int .i64 x.a,.int .i64 x.b,.int .i64 x.c,.int .i64 x.d]
 of l:=⟨Cn (l.getD 0 .undef),Cn (l.getD 1 .undef),Cn (l.getD 2 .undef),Cn (l.getD 3 .undef)⟩
 len _:=rfl
 pos:=by decide
 flat _:=rfl
 sc _:=rfl
 back _:=rfl
instance : Xg R6 where
 w:=6
 d:=⟨0,0,0,0,0,0⟩
 cells x:=[.int .i64 x.a,.int .i64 x.b,.int .i64 x.c,.int .i64 x.d,.int .i64 x.e,.int .i64 x.f]
 of l:=⟨Cn (l.getD 0 .undef),Cn (l.getD 1 .undef),Cn (l.getD 2 .undef),Cn (l.getD 3 .undef),Cn (l.getD 4 .undef),Cn (l.getD 5 .undef)⟩
 len _:=rfl
 pos:=by decide
 flat _:=rfl
 sc _:=rfl
 back _:=rfl
section
variable {α:Type} [Xg α]
def rd (L:List α) (k:Nat):α:=L.getD k Xg.d
def Zz (L:List α):Nat->zx:=fun k=>Xg.cells (rd L k)
abbrev dt (l:List α):B5:=.dat l.length (Zz l)
abbrev rz (l:List α) (t w:Nat):CA:=⟨rows l.length (Zz l),t,some ⟨w,l.length,Zz l⟩⟩
def CG (α:Type) [Xg α] (n:Nat) (g:Nat->zx):List α:=(List.range n).map fun k=>Xg.of (g k)
def CV (α:Type) [Xg α] (n:Nat) (g:Nat->zx):Bool:=pd (∀i,i<n->g i=Xg.cells (Xg.of (g i):α))
theorem Wv {L:List α} {k:Nat} (h:k<L.length):rd L k=L[k]:=by grind [rd]
theorem z7s {L M:List α} {k:Nat} (h:k<L.length):rd (L++M) k=rd L k:=by
 grind [rd]
theorem z6b {L M:List α} {k:Nat} (h:L.length<=k):rd (L++M) k=rd M (k - L.length):=by
 grind [rd]
theorem Zr (L:List α):CG α L.length (Zz L)=L:=by
 apply Bt;all_goals grind [CG,Zz,Xg.back,Wv]
def B6 (L:List α):List α:=CG α L.length (Zz L)
theorem Yb (L:List α):B6 L=L:=Zr L
theorem x1f (n:Nat) (g:Nat->zx):(CG α n g).length =n:=by simp [CG]
theorem VM (L:List α) (n:Nat):CV α n (Zz L)=true:=Xj fun i _=>by simp only [Zz];rw [Xg.back]
theorem x7e (L:List α) (off n:Nat):CV α n (fun k=>Zz L (off+k))=true:=Xj fun i _=>by simp only [Zz];rw [Xg.back]
theorem w5s (g:Nat->zx):CV α 0 g=true:=Xj fun i h=>absurd h (AJ _)
theorem u2z (g:Nat->zx) (h0:g 0=Xg.cells (Xg.of (g 0):α)):CV α 1 g=true:=Xj fun i h=>by
 grind
theorem u2y (g:Nat->zx) (h0:g 0=Xg.cells (Xg.of (g 0):α)) (h1:g 1=Xg.cells (Xg.of (g 1):α)):CV α 2 g=true:=Xj fun i h=>by
 grind
theorem w5t {n:Nat} {g:Nat->zx} (h:CV α n g=true): ∀i,i<n->g i=Zz (CG α n g) i:=fun i hi=>by
 rw [Kx h i hi]
 grind [Zz,Wv,CG]
theorem Xh (L:List α):Cv (Zz L)=true:=Xj fun _=>Xg.flat _
theorem v0r {sz:Nat} (L:List α) (n:Nat) (h:sz=Xg.w α):Jf sz n (Zz L)=true:=HG fun _ _=>⟨by rw [h];exact Xg.len _,Xg.sc _⟩
theorem v0s {sz:Nat} (L:List α) (off n:Nat) (h:sz=Xg.w α):Jf sz n (fun k=>Zz L (off+k))=true:=HG fun _ _=>⟨by rw [h];exact Xg.len _,Xg.sc _⟩
theorem w3a {sz N off m:Nat} {G:Nat->zx} (h:Jf sz N G=true) (hb:decide (off+m<=N)=true):Jf sz m (fun k=>G (off+k))=true:=HG fun i hi=>by have hb:=Aw hb;exact Pg h (off+i) (by omega)
theorem v7f {sz n N m:Nat} {G:Nat->zx} {cells:zx} (h:Jf sz n G=true) (hN:N=n+m) (hc:cells.length=m*sz) (hs:cells.all Ci=true):Jf sz N (Zg G 0 n sz cells)=true:=HG fun i hi=>by
 unfold Zg;by_cases e:n<=i
 .rw [X2 e,Af];have:(i - n)*sz+sz<=m*sz:=by
   have:=AD sz (show i - n+1<=m by omega)
   grind
  grind
 .rw [XZ e,Ab,Ak];exact Pg h i (by omega)
theorem Gj {L M:List α} {n N sz:Nat} {G:Nat->zx} {cells:zx} (h:Ub n G (Zz L)=true) (hn:n=L.length) (hN:N=n+M.length) (hsz:sz=Xg.w α) (hc:cells=(M.map Xg.cells).flatten):Ub N (Zg G 0 n sz cells) (Zz (L++M))=true:=by
 grind [v2s,Zz,Zl,Xg.len,Wv]
theorem Iy {L:List α} {r k:Nat} {y:α} (hk:k<L.length):rd (L.set r y) k=if k=r then y else rd L k:=by
 grind [Wv]
theorem w4k {L:List α} {n r fo:Nat} {G:Nat->zx} {cs:zx} {y:α} (h:Ub n G (Zz L)=true) (hn:n=L.length) (hy:Xg.cells y=(Xg.cells (rd L r)).take fo++cs++(Xg.cells (rd L r)).drop (fo+cs.length)):Ub n (Yr G r fo cs) (Zz (L.set r y))=true:=by
 subst hn;refine Xj fun i hi=> ?_;unfold Yr;simp only [Zz];rw [Iy hi];cases e:Nat.beq i r with
 | true=>have:=Ai e;subst this;rw [Af,AG rfl,Kx h i hi,hy];rfl
 | false=>
  have:i≠r:=fun q=>by simp_all
  rw [Ab,Az this,Kx h i hi];rfl
theorem v9c {n:Nat} {cs:zx} {y:α} {G:Nat->zx} (hG:G=fun _=>cs) (hy:Xg.cells y=cs):Ub n G (Zz (List.replicate n y))=true:=Xj fun i hi=>by
 grind [Zz,Wv]
theorem Qv {L M:List α} {n m N:Nat} {G H:Nat->zx} (h:Ub n G (Zz L)=true) (hn:n=L.length) (h':Ub m H (Zz M)=true) (hN:N=n+m):Ub N (Yw G n H) (Zz (L++M))=true:=by
 subst hn;refine Xj fun i hi=> ?_;unfold Yw;by_cases e:L.length<=i
 .rw [X2 e,Af,Kx h' _ (by omega)];grind [Zz,z6b]
 .rw [XZ e,Ab,Kx h i (by omega)];grind [Zz,z7s]
theorem v5o {sz:Nat} (L:List α) (n:Nat) (h:sz=Xg.w α):CX n (Zz L) sz=true:=HG fun _ _=>by rw [h];exact Xg.len _
theorem w9r {sz n:Nat} {L:List α} {off:Nat} (h:sz=Xg.w α):CX n (fun k=>Zz L (off+k)) sz=true:=HG fun _ _=>by rw [h];exact Xg.len _
def Vy (L:List α) (off n:Nat):List α:=(List.range n).map fun k=>rd L (off+k)
theorem Yj (L:List α) (off n:Nat):(Vy L off n).length =n:=by simp [Vy]
theorem VX {L:List α} {off n k:Nat} (h:k<n):rd (Vy L off n) k=rd L (off+k):=by
 grind [Wv,Vy]
theorem x3g {L:List α} {off n:Nat} (h:off+n<=L.length):Vy L off n=(L.drop off).take n:=by
 apply Bt;all_goals grind [Vy,Wv]
theorem w7r {L:List α} {N off n:Nat} {G:Nat->zx} (h:Ub N G (Zz L)=true) (hb:decide (off+n<=N)=true):Ub n (fun k=>G (off+k)) (Zz (Vy L off n))=true:=Xj fun i hi=>by have hb:=Aw hb;simp only [Zz];rw [VX hi,Kx h _ (by omega)];rfl
theorem Jt {L:List α} {off n:Nat}:Ub n (fun k=>Zz L (off+k)) (Zz (Vy L off n))=true:=Xj fun i hi=>by simp only [Zz];rw [VX hi]
theorem Uf (L:List α):CG α L.length (fun k=>Zz L (0+k))=L:=by
 grind [Zr]
theorem x6u (L:List α) (off n:Nat):CG α n (fun k=>Zz L (off+k))=Vy L off n:=by
 grind [CG,Vy,Zz,Xg.back]
theorem u3a (L:zq):LW (Zz L)=true:=Xj rfl
theorem YW (L:zq):Xk L.length (Cb (Zz L))=L:=Zr L
def EO (L:List α) (off n:Nat) (M:List α):List α:=(List.range L.length).map fun k=>bif Nat.ble off k&&Nat.ble (k+1) (off+n) then rd M (k - off) else rd L k
theorem U3 (L:List α) (off n:Nat) (M:List α):(EO L off n M).length =L.length:=by simp [EO]
theorem v3w {L M:List α} {off n k:Nat} (h:k<L.length):rd (EO L off n M) k=bif Nat.ble off k&&Nat.ble (k+1) (off+n) then rd M (k - off) else rd L k:=by
 grind [Wv,EO]
theorem v9e {L M:List α} {N off n m:Nat} {G H:Nat->zx} (h:Ub N G (Zz L)=true) (hN:N=L.length) (h':Ub m H (Zz M)=true) (hm:n<=m):Ub N (Jq G off n H) (Zz (EO L off n M))=true:=by
 subst hN;refine Xj fun i hi=> ?_;unfold Jq;simp only [Zz];rw [v3w hi];cases e:(Nat.ble off i&&Nat.ble (i+1) (off+n)) with
 | true=>simp only [Ad] at e;have e1:=Al e.1;have e2:=Al e.2;rw [Af,Af,Kx h' _ (by omega)];rfl
 | false=>rw [Ab,Ab,Kx h i hi];rfl
theorem v2r (z g:Nat->zx) (n:Nat):Ub n (Jq z 0 (Nat.min n n) g) g=true:=Xj fun i hi=>by unfold Jq;rw [show Nat.min n n=n from Nat.min_self n,Ak,AU (AH i),AU hi];rfl
theorem v6j {g h:Nat->zx} {off n:Nat} (p:Cv g=true) (q:Cv h=true):Cv (Jq g off n h)=true:=Xj fun i=>by
 unfold Jq;cases (Nat.ble off i&&Nat.ble (i+1) (off+n)) with
 | true=>exact Kx q _
 | false=>exact Kx p _
end
theorem Up {P:Program} {rs:List ResultVar} {σ:Type} {cfg:σ->CH} {C C':CH} (g:DC P C C'): ∀{o:Xy σ},Wu P rs cfg C' o->Wu P rs cfg C o
 | .stuck,_=>trivial
 | .ret _,⟨D,h,h2,h3⟩=>⟨D,g.trans h,h2,h3⟩
 | .to _,h=>g.trans h
theorem w6h : ∀{az bs:zx} (i:Nat) {t u:T B5},Ux DO az bs->G0 t u->G0 (Ex az i t) (Ex bs i u)
 | _,_,i,t,u,.nil,h=>h
 | _,_,i,t,u,.cons (a:=a) (b:=b) h1 h2,h=>by
  refine w6h (i+1) h2 fun s=> ?_;rw [T.get_set,T.get_set];by_cases e:s=i
  .rw [AG e,AG e];exact ⟨fun ρ v hv=>h1.sound hv,fun q=>by subst q;exact h1.of_undef⟩
  .rw [Az e,Az e];exact h s
theorem ZU {P:Program} {f:FuncId} {az bs:zx} {vs:zx} (h:Ux DO az bs) (k:Kw P (Zy P f) (Zm P f bs true []) vs):Kw P (Zy P f) (Zm P f az true []) vs:=by
 obtain ⟨C',g,h2,h3⟩:=k;refine ⟨C',DC.trans ?_ g,h2,h3⟩;unfold Zm;cases P.funcs[f]? with
 | none=>exact DC.refl _
 | some fn=>simp only;rw [h.length];exact y2r (w6h 0 h (G0.refl _)) .nil (fun b x' hb=>absurd hb (AJ _)) (Aj _) fun hbd b hb=>hbd b hb
theorem w6v {P:Program} {S:B7} (hS:Zv P S) {f:FuncId} {F:zx->Option (B5×Bool)} (hf:(P.funcs[f]?).any (fun fn=>fn.body.isSome)=true)
  (hF: ∀args v,F args=some (v,true)-> ∃bs vs,Ux DO args bs/\Kg vs=v/\Kw P (Zy P f) (Zm P f bs true []) vs/\ ∃d,pf d v=true):Zv P (S.with f F):=
 v1s hS hf fun args v h=>by obtain ⟨bs,vs,h1,h2,h3,d,h4⟩:=hF args v h;exact ⟨vs,h2,ZU h1 h3,d,h4⟩
def C5 (α:Type) [Xg α]:B5->Option (List α×(Nat->zx)×Nat)
 | .nils =>some ([],fun _=>[],0)
 | .dat n g=>some (CG α n g,g,n)
 | _=>none
theorem Xd {α:Type} [Xg α] {v:B5} {L:List α} {g:Nat->zx} {n:Nat} (h:C5 α v=some (L,g,n)) (ho:CV α n g=true):DO v (.dat L.length (Zz L)):=by
 unfold C5 at h;split at h
 .simp only [Ae,Ac] at h;obtain ⟨rfl,_,_⟩:=h;exact .nild _
 .simp only [Ae,Ac] at h;obtain ⟨rfl,rfl,rfl⟩:=h;rw [x1f];exact .dat _ _ _ (w5t ho)
 .cases h
open Go.ChangeShapes Go.WideShapes Go.Deep
section
variable {P:Program}
def W1 (P:Program) (rec:TypeId->Option (List IntKind)):List Field->Nat->Option (List IntKind)
 | [],_=>some []
 | f::r,o=>bif Nat.beq f.offset o then match rec f.type with
   | some ks=>bif Nat.beq (P.cellsOf f.type) ks.length then (W1 P rec r (o+ks.length)).map (ks++ ·) else none
   | none=>none
  else none
def Iw (P:Program):Nat->TypeId->Option (List IntKind)
 | 0,_=>none
 | d+1,t=>match P.underlying t with
  | some (.int k)=>some [k]
  | some (.struct fs)=>match W1 P (Iw P d) fs.toList 0 with
   | some ks=>bif Nat.beq (P.cellsOf t) ks.length then some ks else none
   | none=>none
  | _=>none
def HZ (ks:List IntKind) (cs:List Value):Prop:= ∃ns:zq,ns.length=ks.length/\cs=List.zipWith Value.int ks ns/\ ∀p∈List.zip ks ns,p.1.has p.2
theorem HZ.append {a b:List IntKind} {x y:List Value} (h:HZ a x) (k:HZ b y):HZ (a++b) (x++y):=by
 obtain ⟨ns,h1,rfl,h3⟩:=h;obtain ⟨ms,k1,rfl,k3⟩:=k;refine ⟨ns++ms,by simp [h1,k1],?_,fun p hp=> ?_⟩;all_goals grind
theorem HZ.length {ks:List IntKind} {cs:List Value} (h:HZ ks cs):cs.length=ks.length:=by obtain ⟨ns,h1,rfl,_⟩:=h;simp [h1]
variable {HH:Type} {enc:TypeId×Value->HH} {w:World} {base:Nat} {spare:Nat->Bool} {gL:Bool}
theorem y3p {rec:TypeId->Option (List IntKind)} (hr: ∀t ks,rec t=some ks-> ∀fuel cs x,DataW.trod enc P w base spare gL fuel t cs=some x->HZ ks cs) (cs:List Value):
  ∀(l:List Field) (o:Nat) (ks:List IntKind),W1 P rec l o=some ks->o+ks.length<=cs.length->(∀f∈l,∃fuel x,DataW.trod enc P w base spare gL fuel f.type ((cs.drop f.offset).take (P.cellsOf f.type))=some x)->HZ ks ((cs.drop o).take ks.length)
 | [],o,ks,h,_,_=>by obtain rfl:=Ag h;exact ⟨[],rfl,by simp,by simp⟩
 | f::r,o,ks,h,hl,hf=>by
  unfold W1 at h;obtain ⟨ho,h⟩:=Ze h;obtain rfl:=Ai ho;split at h
  .rename_i ks1 h1;obtain ⟨hc,h⟩:=Ze h;have hc:=Ai hc;simp only [Ao] at h;obtain ⟨ks2,h2,rfl⟩:=h;obtain ⟨fuel,x,hx⟩:=hf f (by simp);have i1:=hr _ _ h1 _ _ _ hx;rw [hc] at i1;rw [Ap] at hl;have i2:=y3p hr cs r _ ks2 h2 (by omega) fun g hg=>hf g (by simp [hg]);have:(cs.drop f.offset).take (ks1++ks2).length =(cs.drop f.offset).take ks1.length++(cs.drop (f.offset+ks1.length)).take ks2.length:=by rw [Ap,List.take_add,List.drop_drop]
   rw [this];exact i1.append i2
  .cases h
theorem RV : ∀(d:Nat) (t:TypeId) (ks:List IntKind),Iw P d t=some ks-> ∀(fuel:Nat) (cs:List Value) (x:DataW HH×List MemPlace),DataW.trod enc P w base spare gL fuel t cs=some x->HZ ks cs
 | 0,_,_,h=>by cases h
 | d +1,t,ks,h=>by
  intro fuel cs x hx;unfold Iw at h;split at h
  .rename_i k hk;obtain rfl:=Ag h;obtain ⟨m,rfl,_,hw⟩:=DataW.trod_int hk hx;refine ⟨[m],rfl,rfl,fun p hp=> ?_⟩;simp_all [Lit.wf,IntKind.has]
  .rename_i fs hs;split at h
   .rename_i ks1 h1;obtain ⟨hc,h⟩:=Ze h;obtain rfl:=Ag h;have hc:=Ai hc;obtain ⟨xs,n,_,_,hl,eC,hf⟩:=DataW.trod_struct hs hx;have hl:cs.length=ks1.length:=hl.trans hc;have:=y3p (fun t ks ht fuel cs x hx=>RV d t ks ht fuel cs x hx) cs fs.toList 0 ks1 h1 (by omega) fun f hf'=>by
     obtain ⟨j,hj,rfl⟩:=A6 hf';have hj2:j<fs.size:=(by grind);have:=hf j fs[j] (by simp [hj2])
     grind
    grind
   .cases h
  .cases h
def JD (ks:List IntKind) (c:Nat->Int):zx:=List.zipWith B5.int ks ((List.range ks.length).map c)
theorem v3m (ks:List IntKind) (c:Nat->Int) (j:Nat) (h:j<(JD ks c).length): ∃hk:j<ks.length,(JD ks c)[j]=.int ks[j] (c j):=by
 grind [JD]
theorem u3w {e:TypeId} {ks:List IntKind} (hk:Iw P 30 e=some ks) {blk off len cap m fl:Nat} {D:Nat->DataW HH} {Pl:Nat->List MemPlace} (hl:len<=cap) (hlm:len<=m)
  (hi: ∀i,i<m-> ∃cs',w.cells? base ((⟨blk,off,none⟩:Addr).add (i*P.cellsOf e)) (P.cellsOf e)=some cs'/\DataW.trod enc P w base spare gL fl e cs'=some (D i,Pl i)):
  ∃c:Nat->Nat->Int,Zn (DI fun k=>w.heap[k]?) (.dat len (fun i=>JD ks (c i))) (.slice (some ⟨blk,off,none⟩) len cap)/\ ∀i,i<len-> ∀(j:Nat) (k:IntKind),ks[j]? =some k->k.has (c i j):=by
 have key: ∀i,i<len-> ∃ns:zq,ns.length=ks.length/\(∀j,j<ks.length-> ∃k,ks[j]? =some k/\w.cell? ⟨blk,off+(i*ks.length+j),none⟩=some (.int k (ns.getD j 0))/\k.has (ns.getD j 0)):=by
  intro i hil;obtain ⟨cs',hc',ht'⟩:=hi i (by omega);have I:=RV 30 e ks hk _ _ _ ht';obtain ⟨_,eC,eW⟩:=World.cells?_some hc';have hce:P.cellsOf e=ks.length:=by rw [<-eC];exact I.length
  obtain ⟨ns,n1,n2,n3⟩:=I;refine ⟨ns,n1,fun j hj=> ?_⟩;have hj2:j<ns.length:=by omega
  refine ⟨ks[j],by simp [hj],?_,?_⟩
  .grind [Xo]
  .have:(ks[j],ns[j])∈List.zip ks ns:=by
    rw [List.mem_iff_getElem]
    grind
   grind
 let c:Nat->Nat->Int:=fun i j=>if hil:i<len then ((key i hil).choose).getD j 0 else 0
 have hcs: ∀i,i<len-> ∀j,j<ks.length-> ∃k,ks[j]? =some k/\w.cell? ⟨blk,off+(i*ks.length+j),none⟩=some (.int k (c i j))/\k.has (c i j):=by
  grind
 refine ⟨c,.dat len _ blk off ks.length cap (fun i j=>.int (ks.getD j .i64) (c i j)) hl (fun i _=>by simp [JD]) (fun i j hil hj=> ?_) (fun i j hil hj=> ?_),fun i hil j k hkj=> ?_⟩
 .obtain ⟨hk2,e2⟩:=v3m ks (c i) j hj;rw [e2];have:ks.getD j .i64 =ks[j]:=by simp [hk2]
  rw [this];exact .int _ _
 .obtain ⟨k,e1,e2,_⟩:=hcs i hil j hj;have:ks.getD j .i64 =k:=by simp [e1]
  rw [this];unfold World.cell? at e2;split at e2
  .rename_i cl el fz hb2;simp only [Option.isSome_none,Bool.false_eq_true,if_false] at e2;exact ⟨cl,el,fz,hb2,e2⟩
  .cases e2
 grind
end
end Go.Am
namespace Go.Proofs
open Go.Shelf Go.RowKit Go.Lib
variable {P:Program} {ρ:Ren}
theorem u9s {e:TypeId} (hc:P.cellsOf e=1) (count o n:Nat) (hn:o+n<=count):liesAt P P.depth e count o e n=true:=by have hd:P.depth=(2*(P.types.size+Made.depth)+1)+1:=rfl;rw [hd];simp only [liesAt,Bool.or_eq_true];left;rw [hd];simp [rowAt,hc,sameLayout];omega
theorem y6s (w:World) (pt it ty e:TypeId) (hp:P.underlying pt=some (.pointer e)) (hc:P.cellsOf e=1) (g o cells:Nat) (hsh:w.shape? g=some (e,cells)) (l:List UInt8) (h0:l≠ []) (hn:o+l.length<=cells) (h63:l.length<=9223372036854775807)
  (eW: ∀j x,l[j]? =some x->w.cell? ((⟨g,o,none⟩:Addr).add j)=some (.int .u8 x.toNat)):
  (Builtin.unsafeString_ #[pt,it] ty #[.pointer (some ⟨g,o,none⟩),.int .i64 l.length]).run P w=.ok (.string ⟨l.toArray⟩) (w.freeze ⟨g,o,none⟩ l.length):=by
 have hl:l.length≠0:=by simpa using h0
 have hlb:=run_loadBytes (P:=P) w l ⟨g,o,none⟩ .empty eW;have hlies:=u9s (P:=P) hc (cells / P.cellsOf e) o l.length (by rw [hc];simpa using hn);have h63': ¬(9223372036854775807:Int)<(l.length:Int):=by omega
 have hmax:IntKind.i64.max=9223372036854775807:=rfl;obtain ⟨e1,e2,e3,hdef⟩: ∃e1 e2 e3,Builtin.unsafeString_ #[pt,it] ty #[.pointer (some ⟨g,o,none⟩),.int .i64 l.length]=
   (do
    let n<-asInt (.int .i64 l.length)
    if n<0 then runtimePanic e1
    if n>IntKind.i64.max then unsupported e2
    if n=0 then pure (.string .empty)
    else if<-variablesAt ⟨g,o,none⟩ (<-elemOf pt) n.toNat then do
     let s<-loadBytes ⟨g,o,none⟩ .empty n.toNat
     freeze ⟨g,o,none⟩ n.toNat
     pure (.string s)
    else unsupported e3):=⟨_,_,_,rfl⟩
 rw [hdef];have hneg: ¬(l.length:Int)<0:=by omega
 simp [asInt,asIntOf,hmax,h63',hneg,hl,variablesAt,hsh,elemOf,run_underlying hp,hlies,hlb]
theorem v2p (w:World) (g o n k:Nat) (h:g≠k):(w.freeze ⟨g,o,none⟩ n).heap[k]? =w.heap[k]? :=by
 unfold World.freeze;split
 .rfl
 .simp only [Array.getElem?_modify];rw [if_neg h]
theorem y9t (w:World) (p:Addr) (n:Nat):(w.freeze p n).heap.size =w.heap.size/\(w.freeze p n).os =w.os/\(w.freeze p n).tape =w.tape/\(w.freeze p n).output =w.output:=by unfold World.freeze;split <;> simp
set_option maxHeartbeats 4000000 in
set_option maxRecDepth 100000 in
theorem x2o (L:Lays.n169 P ρ) (X:Builder.Extra P ρ) (b:Nat) (p:Value) (w:World) (hbk:w.heap[b]? =some (.cells #[p,Value.slice none 0 0] (ρ.t 72) (0,0))):
  Calls P (ρ.f 169) #[.pointer (some ⟨b,0,none⟩)] w fun e w'=>e=.returned (.string ⟨#[]⟩)/\w'=w.drew:=by
 have c1:w.drew.cell? ⟨b,1,none⟩=some (Value.slice none 0 0):=by have:w.drew.heap[b]? =some (.cells #[p,Value.slice none 0 0] (ρ.t 72) (0,0)):=hbk;rw [Lib.cell_of_heap this];rfl
 have hUS: ∀(W:World) (q:Option Addr),(Builtin.unsafeString_ #[(ρ.t 127),(ρ.t 3)] (ρ.t 9) #[.pointer q,.int .i64 0]).run P W=.ok (.string .empty) W:=fun W q=>Lib.run_unsafeString_none W _ _ _ q;have hSD:(Builtin.unsafeSliceData_ #[(ρ.t 37)] (ρ.t 127) #[.slice none 0 0]).run P w.drew=.ok (.pointer none) w.drew:=rfl;have mixed:=L.mixed;have t72:=L.t72;have a72:=L.a72;have z72:=L.z72;have v72:=L.v72;have u72:=run_underlying L.t72;have t70:=L.t70;have a70:=L.a70;have z70:=L.z70;have v70:=L.v70;have u70:=run_underlying L.t70;have t37:=L.t37;have a37:=L.a37;have z37:=L.z37;have v37:=L.v37;have u37:=run_underlying L.t37;have t127:=L.t127;have a127:=L.a127;have z127:=L.z127;have v127:=L.v127;have u127:=run_underlying L.t127;have t3:=L.t3;have a3:=L.a3;have z3:=L.z3;have v3:=L.v3;have u3:=run_underlying L.t3;have t9:=L.t9;have a9:=L.a9;have z9:=L.z9;have v9:=L.v9;have u9:=run_underlying L.t9;have t5:=X.t5;have a5:=X.a5;have z5:=X.z5;have v5:=X.v5;have u5:=run_underlying X.t5
 go_enter L.f169,Body.n169_ntmps ρ
 go_wp2
 go_region_o
 all_goals (go_wp2;go_ret;exact ⟨rfl,rfl⟩)
set_option maxHeartbeats 4000000 in
set_option maxRecDepth 100000 in
theorem y9v (L:Lays.n169 P ρ) (X:Builder.Extra P ρ) (b:Nat) (p:Value) (w:World) (g o cap:Nat) (hc0:cap≠0) (hbk:w.heap[b]? =some (.cells #[p,Value.slice (some ⟨g,o,none⟩) 0 cap] (ρ.t 72) (0,0))):
  Calls P (ρ.f 169) #[.pointer (some ⟨b,0,none⟩)] w fun e w'=>e=.returned (.string ⟨#[]⟩)/\w'=w.drew:=by
 have c1:w.drew.cell? ⟨b,1,none⟩=some (Value.slice (some ⟨g,o,none⟩) 0 cap):=by have:w.drew.heap[b]? =some (.cells #[p,Value.slice (some ⟨g,o,none⟩) 0 cap] (ρ.t 72) (0,0)):=hbk;rw [Lib.cell_of_heap this];rfl
 have hUS: ∀(W:World) (q:Option Addr),(Builtin.unsafeString_ #[(ρ.t 127),(ρ.t 3)] (ρ.t 9) #[.pointer q,.int .i64 0]).run P W=.ok (.string .empty) W:=fun W q=>Lib.run_unsafeString_none W _ _ _ q;have hSD:(Builtin.unsafeSliceData_ #[(ρ.t 37)] (ρ.t 127) #[.slice (some ⟨g,o,none⟩) 0 cap]).run P w.drew=.ok (.pointer (some ⟨g,o,none⟩)) w.drew:=Lib.run_unsafeSliceData_row _ _ _ _ _ _ hc0;clear hc0;have mixed:=L.mixed;have t72:=L.t72;have a72:=L.a72;have z72:=L.z72;have v72:=L.v72;have u72:=run_underlying L.t72;have t70:=L.t70;have a70:=L.a70;have z70:=L.z70;have v70:=L.v70;have u70:=run_underlying L.t70;have t37:=L.t37;have a37:=L.a37;have z37:=L.z37;have v37:=L.v37;have u37:=run_underlying L.t37;have t127:=L.t127;have a127:=L.a127;have z127:=L.z127;have v127:=L.v127;have u127:=run_underlying L.t127;have t3:=L.t3;have a3:=L.a3;have z3:=L.z3;have v3:=L.v3;have u3:=run_underlying L.t3;have t9:=L.t9;have a9:=L.a9;have z9:=L.z9;have v9:=L.v9;have u9:=run_underlying L.t9;have t5:=X.t5;have a5:=X.a5;have z5:=X.z5;have v5:=X.v5;have u5:=run_underlying X.t5
 go_enter L.f169,Body.n169_ntmps ρ
 go_wp2
 go_region_o
 all_goals (go_wp2;go_ret;exact ⟨rfl,rfl⟩)
set_option maxHeartbeats 4000000 in
set_option maxRecDepth 100000 in
theorem y4c (L:Lays.n169 P ρ) (X:Builder.Extra P ρ) (b:Nat) (p:Value) (w:World) (g o:Nat) (cur:Array Value) (hbk:w.heap[b]? =some (.cells #[p,Value.slice (some ⟨g,o,none⟩) 0 0] (ρ.t 72) (0,0))) (hg:w.heap[g]? =some (.cells cur (ρ.t 5) (0,0))):
  Calls P (ρ.f 169) #[.pointer (some ⟨b,0,none⟩)] w fun e w'=>e=.returned (.string ⟨#[]⟩)/\w'=w.drew.alloc (.view ⟨g,o,none⟩ (ρ.t 5)):=by
 have c1:w.drew.cell? ⟨b,1,none⟩=some (Value.slice (some ⟨g,o,none⟩) 0 0):=by have:w.drew.heap[b]? =some (.cells #[p,Value.slice (some ⟨g,o,none⟩) 0 0] (ρ.t 72) (0,0)):=hbk;rw [Lib.cell_of_heap this];rfl
 have hUS: ∀(W:World) (q:Option Addr),(Builtin.unsafeString_ #[(ρ.t 127),(ρ.t 3)] (ρ.t 9) #[.pointer q,.int .i64 0]).run P W=.ok (.string .empty) W:=fun W q=>Lib.run_unsafeString_none W _ _ _ q;have hlt:b<w.heap.size:=(Array.getElem?_eq_some_iff.1 hbk).1;have hSD:(Builtin.unsafeSliceData_ #[(ρ.t 37)] (ρ.t 127) #[.slice (some ⟨g,o,none⟩) 0 0]).run P w.drew=.ok (.pointer (some ⟨w.drew.heap.size,0,none⟩)) (w.drew.alloc (.view ⟨g,o,none⟩ (ρ.t 5))):=
  Lib.run_unsafeSliceData_zero w.drew _ _ (ρ.t 5) L.t127 ⟨g,o,none⟩ 0 ((ρ.t 5),cur.size) (by have hg':w.drew.heap[g]? =some (.cells cur (ρ.t 5) (0,0)):=hg;simp [World.shape?,hg'])
 have c2:(w.drew.alloc (.view ⟨g,o,none⟩ (ρ.t 5))).cell? ⟨b,1,none⟩=some (.slice (some ⟨g,o,none⟩) 0 0):=by have:(w.drew.alloc (.view ⟨g,o,none⟩ (ρ.t 5))).heap[b]? =_:=(Lib.alloc_old w.drew _ b hlt).trans hbk;rw [Lib.cell_of_heap this];rfl
 have c3:(w.alloc (.view ⟨g,o,none⟩ (ρ.t 5))).drew.cell? ⟨b,1,none⟩=some (.slice (some ⟨g,o,none⟩) 0 0):=c2;have c0:w.cell? ⟨b,1,none⟩=some (.slice (some ⟨g,o,none⟩) 0 0):=c1;have mixed:=L.mixed;have t72:=L.t72;have a72:=L.a72;have z72:=L.z72;have v72:=L.v72;have u72:=run_underlying L.t72;have t70:=L.t70;have a70:=L.a70;have z70:=L.z70;have v70:=L.v70;have u70:=run_underlying L.t70;have t37:=L.t37;have a37:=L.a37;have z37:=L.z37;have v37:=L.v37;have u37:=run_underlying L.t37;have t127:=L.t127;have a127:=L.a127;have z127:=L.z127;have v127:=L.v127;have u127:=run_underlying L.t127;have t3:=L.t3;have a3:=L.a3;have z3:=L.z3;have v3:=L.v3;have u3:=run_underlying L.t3;have t9:=L.t9;have a9:=L.a9;have z9:=L.z9;have v9:=L.v9;have u9:=run_underlying L.t9;have t5:=X.t5;have a5:=X.a5;have z5:=X.z5;have v5:=X.v5;have u5:=run_underlying X.t5
 go_enter L.f169,Body.n169_ntmps ρ
 go_wp2
 go_region_o
 all_goals (go_wp2;go_ret;exact ⟨rfl,rfl⟩)
set_option maxHeartbeats 4000000 in
set_option maxRecDepth 100000 in
theorem y9u (L:Lays.n169 P ρ) (X:Builder.Extra P ρ) (b:Nat) (p:Value) (w:World) (g o cap:Nat) (cur:Array Value) (l:List UInt8) (h0:l≠ []) (eJ:l.length<=cap) (h63:l.length<=9223372036854775807) (hbk:w.heap[b]? =some (.cells #[p,Value.slice (some ⟨g,o,none⟩) l.length cap] (ρ.t 72) (0,0))) (hg:w.heap[g]? =some (.cells cur (ρ.t 5) (0,0))) (hn:o+l.length<=cur.size) (hc: ∀j x,l[j]? =some x->cur[o+j]? =some (.int .u8 x.toNat)):
  Calls P (ρ.f 169) #[.pointer (some ⟨b,0,none⟩)] w fun e w'=>e=.returned (.string ⟨l.toArray⟩)/\w'=w.drew.freeze ⟨g,o,none⟩ l.length:=by
 have c1:w.drew.cell? ⟨b,1,none⟩=some (Value.slice (some ⟨g,o,none⟩) l.length cap):=by have:w.drew.heap[b]? =some (.cells #[p,Value.slice (some ⟨g,o,none⟩) l.length cap] (ρ.t 72) (0,0)):=hbk;rw [Lib.cell_of_heap this];rfl
 have hl0:l.length≠0:=by simpa using h0
 have hSD:(Builtin.unsafeSliceData_ #[(ρ.t 37)] (ρ.t 127) #[.slice (some ⟨g,o,none⟩) l.length cap]).run P w.drew=.ok (.pointer (some ⟨g,o,none⟩)) w.drew:=
  Lib.run_unsafeSliceData_row _ _ _ _ _ _ (by omega)
 have hUS:(Builtin.unsafeString_ #[(ρ.t 127),(ρ.t 3)] (ρ.t 9) #[.pointer (some ⟨g,o,none⟩),.int .i64 l.length]).run P w.drew=.ok (.string ⟨l.toArray⟩) (w.drew.freeze ⟨g,o,none⟩ l.length):=by
  have hg':w.drew.heap[g]? =some (.cells cur (ρ.t 5) (0,0)):=hg;refine y6s w.drew (ρ.t 127) (ρ.t 3) (ρ.t 9) (ρ.t 5) L.t127 X.cellsByte g o cur.size (by simp [World.shape?,hg']) l h0 hn h63 ?_;intro j x hx;have:=hc j x hx;have e:(⟨g,o,none⟩:Addr).add j=⟨g,o+j,none⟩:=by
   unfold Addr.add;by_cases hj:j=0
   .subst hj;simp
   .simp [hj]
  rw [e];simp [World.cell?,hg',this]
 clear hn hc hg eJ;have mixed:=L.mixed;have t72:=L.t72;have a72:=L.a72;have z72:=L.z72;have v72:=L.v72;have u72:=run_underlying L.t72;have t70:=L.t70;have a70:=L.a70;have z70:=L.z70;have v70:=L.v70;have u70:=run_underlying L.t70;have t37:=L.t37;have a37:=L.a37;have z37:=L.z37;have v37:=L.v37;have u37:=run_underlying L.t37;have t127:=L.t127;have a127:=L.a127;have z127:=L.z127;have v127:=L.v127;have u127:=run_underlying L.t127;have t3:=L.t3;have a3:=L.a3;have z3:=L.z3;have v3:=L.v3;have u3:=run_underlying L.t3;have t9:=L.t9;have a9:=L.a9;have z9:=L.z9;have v9:=L.v9;have u9:=run_underlying L.t9;have t5:=X.t5;have a5:=X.a5;have z5:=X.z5;have v5:=X.v5;have u5:=run_underlying X.t5
 go_enter L.f169,Body.n169_ntmps ρ
 go_wp2
 go_region_o
 all_goals (go_wp2;go_ret;exact ⟨rfl,rfl⟩)
set_option maxHeartbeats 1000000 in
theorem v9b (L:Lays.n146 P ρ) (hi9:(P.info? (ρ.t 9)).map (fun i=>(i.zero,i.size,i.bytes))=some (some (.string ByteArray.empty),1,16)) (s:ByteArray) (b:UInt8) (w:World) (hs:s.size<4294967281):
  Calls P (ρ.f 146) #[.string s,.string ⟨#[b]⟩] w fun e w'=>
   e=.returned (.slice (some ⟨w.heap.size,0,none⟩) (Lib.countB s ⟨#[b]⟩+1) (Lib.countB s ⟨#[b]⟩+1))/\w'=w.alloc (.cells ((Lib.splitB ⟨#[b]⟩ 0 (Lib.countB s ⟨#[b]⟩) s).map Value.string).toArray (ρ.t 9)):=by
 have h1:1<=(⟨#[b]⟩:ByteArray).size :=Nat.le_refl 1;have hle:=Lib.countB_le ⟨#[b]⟩ h1 s.size s (Nat.le_refl _);have eC:=Lib.splitB_all ⟨#[b]⟩ h1 0 _ s rfl;have c:=Any.strings_genSplit_core {L with} hi9 s ⟨#[b]⟩ 0 (-1) (Lib.countB s ⟨#[b]⟩+1) w hs h1 (Nat.zero_le _)
  (fun x c hx=>(Any.strings_Index_one {L with} x b _).mono fun e w' ⟨he,hw⟩=>⟨by rw [he];show _=Ending.returned (Value.int .i64 (Lib.index x.data.toList [b]));rw [Lib.index_one],hw⟩)
  ((Any.strings_Count_one {L with} s b w).mono fun e w' ⟨he,hw⟩=>⟨by rw [he];show _=Ending.returned (Value.int .i64 ((Lib.count s.data.toList [b]:Nat):Int));rw [Lib.count_one];rfl,hw⟩) (by decide) (by decide) (by rw [if_pos (by decide)];omega)
 rw [Nat.add_sub_cancel,eC] at c;have e2:Lib.cellsOf (Lib.splitB ⟨#[b]⟩ 0 (Lib.countB s ⟨#[b]⟩) s) (Lib.countB s ⟨#[b]⟩+1)=((Lib.splitB ⟨#[b]⟩ 0 (Lib.countB s ⟨#[b]⟩) s).map Value.string).toArray :=by rw [<-eC];exact Lib.cellsOf_full _
 rw [e2] at c;have t3:=L.t3;have t9:=L.t9;have t31:=L.t31;have a3:=L.a3;have a9:=L.a9;have a31:=L.a31;have z3:=L.z3;have v3:=L.v3;have z9:=L.z9;have v9:=L.v9;have z31:=L.z31;have v31:=L.v31;have e221: ∀args w,(callFunc (ρ.f 221) args).run P w=.ok (.enter (ρ.f 221) args) w:=enters_of L.f221 (by kernel_rfl) rfl
 go_enter L.f146,Body.n146_ntmps ρ
 go_wp2_with (go_at_fn (ρ.f 221);refine c.mono ?_;rintro e w' ⟨rfl,hw⟩;rw [hw])
 go_ret
 exact ⟨rfl,rfl⟩
end Go.Proofs
end
