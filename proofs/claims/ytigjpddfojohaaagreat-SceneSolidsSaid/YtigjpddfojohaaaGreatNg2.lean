/- A part of a proof: several texts in one. -/
import Derived.Test.YtigjpddfojohaaaGreatNg1
import Derived.AtR
import Derived.RangeFuncRecord
import Derived.RangeFuncNested
import Derived.Laws.BytesString
import Derived.Lib.UnsafeStr
import Derived.MapKept
import Derived.Sort.Grow
import Derived.Deep.Slices
import Derived.Deep.Fields
import Derived.ChangeSame
import Derived.OpenShut
import Derived.Test.YtigjpddfojohaaaGreatProg
set_option maxRecDepth 1000000
set_option maxHeartbeats 8000000
set_option linter.unusedVariables false
set_option linter.unusedSimpArgs false
noncomputable section
namespace Go.Am
open IntKind (wrap)
abbrev CZ :=Array Oper×Nat×List Oper
structure Ci where
 cx:CP
 ro:Option CZ
 todo:List Item
 rnd:Option Nat
 rs:List ResultVar
 env:T B9
structure DK where
 st:LoopState
 pend:Option Code
 n:Nat
 env:T B9
 params:List Tmp
 assign:Code
 body:Code
abbrev CQ :=T (Option DK)
def DT (m:CQ) (b:Nat):Option DK:=T.get none m b
def Fv (m:CQ) (b:Nat) (o:Option DK):CQ:=T.set none m b o
structure CI where
 cx:CP
 ro:Option CZ
 todo:List Item
 rnd:Option Nat
 rs:List ResultVar
 st:St
 cs:List Ci
 lps:CQ
def IN (v:B9) (st:St) (lps:CQ):List Ci->Option CI
 | ⟨cx,some (ops,i,o::l),todo,rnd,rs,env⟩::cs=>match (st.withEnv env).put cx o.dst v with
  | some st'=>some ⟨cx,some (ops,i+1,l),todo,rnd,rs,st',cs,lps⟩
  | none=>none
 | ⟨cx,none,.inRangeFunc j::k,rnd,rs,env⟩::cs=>some ⟨cx,none,.endRangeFunc j::k,rnd,rs,st.withEnv env,cs,lps⟩
 | _=>none
def Tc :Option Code->LoopState
 | none=>.ready
 | some _=>.done
def US (lps:CQ):Option Nat->Bool
 | none=>true
 | some j=>(DT lps j).isSome
def Td (P:Program) (rnd:Option Nat) (rs:List ResultVar) (st:St) (cs:List Ci) (lps:CQ) (jump:Option Code):Option CI:=
 match rnd with
 | none=>match Ko P st rs with
  | some vs=>IN (Uz vs) st lps cs
  | none=>none
 | some j=>match DT lps j with
  | some ⟨_,_,n,env,params,assign,body⟩=>
   IN (.bool jump.isNone) st (Fv lps j (some ⟨Tc jump,jump,n,env,params,assign,body⟩)) cs
  | none=>none
def ZK (n:Nat):List Tmp->zy->T B9->Option (T B9)
 | [],[],env=>some env
 | t::ts,a::l,env=>bif Nat.ble (t+1) n then ZK n ts l (T.set .undef env t a) else none
 | _,_,_=>none
def Rl (P:Program) (f:FuncId) (args:zy) (fr:Ci) (st:St) (cs:List Ci) (lps:CQ):Option CI:=
 match P.funcs[f]? with
 | some fn=>match fn.body with
  | some body=>some ⟨⟨Nat.max fn.ntmps args.length,fr.cx.floor,fr.cx.sym⟩,none,[.code body],none,fn.results.toList,st.withEnv (FL args 0 .leaf),fr::cs,lps⟩
  | none=>none
 | none=>none
def u8b (j:Nat) (args:zy) (fr:Ci) (st:St) (cs:List Ci) (lps:CQ):Option CI:=
 match DT lps j with
 | some ⟨_,_,n,env,params,assign,body⟩=>match ZK n params args env with
  | some env'=>some ⟨⟨n,fr.cx.floor,fr.cx.sym⟩,none,[.code assign,.beginRound,.code body],some j,[],st.withEnv env',fr::cs,lps⟩
  | none=>none
 | none=>none
def callee (S:CB) (st:St) (op:Op):Option ((FuncId×zy) ⊕ (Nat×zy)):=
 match op with
 | .call {callee:=.value f,args,argTypes:=_}=>match st.eval f with
  | .fn g caps=>match S g with
   | some _=>none
   | none=>some (.inl (g,args.toList.map st.eval++caps))
  | .fnb g first=>match S g with
   | some _=>none
   | none=>some (.inl (g,first++args.toList.map st.eval))
  | .yld j=>some (.inr (j,args.toList.map st.eval))
  | _=>none
 | _=>none
def Sv (P:Program) (t:TypeId):Option Bool:=match P.underlying t with
 | some (.map k e)=>match P.underlying k,P.underlying e,P.info? e with
  | some .string,some (.int .i64),some i=>match i.zero with
   | some (.int .i64 n)=>bif n == 0 then some true else none
   | _=>none
  | some .string,some .bool,some i=>match i.zero with
   | some (.bool b)=>bif b then none else some false
   | _=>none
  | _,_,_=>none
 | _=>none
def PN {α:Type} (l:List (zu×α)) (k:zu):Bool:=l.any fun p=>k == p.1
def getK {α:Type} (d:α):List (zu×α)->zu->α
 | [],_=>d
 | p::r,k=>bif k == p.1 then p.2 else getK d r k
def Et {α:Type}:List (zu×α)->zu->α->List (zu×α)
 | [],k,v=>[(k,v)]
 | p::r,k,v=>bif k == p.1 then (p.1,v)::r else p::Et r k v
def EA (s:zu) (pos:Nat):Int:=((Utf8.decode ⟨s.toArray⟩ pos).1:Int)
def Fy (s:zu) (pos:Nat):Nat:=(Utf8.decode ⟨s.toArray⟩ pos).2
def TY :B9->UInt8
 | .int _ n=>UInt8.ofNat n.toNat
 | _=>0
def Rq :B9->Bool
 | .int .u8 n=>decide (0<=n/\n<256)
 | _=>false
def UA (n:Nat) (g:Nat->zy):zu:=(List.range n).map fun k=>TY ((g k).getD 0 .undef)
def v8d :zy->Bool
 | [v]=>Rq v
 | _=>false
def t0a (n:Nat) (g:Nat->zy):Bool:=Ol ((List.range n).all fun k=>v8d (g k)) (∀k,k<n-> ∃v,g k=[v]/\Rq v=true)
def TV (m:CJ):B9->Option (zu×Bool)
 | .nils =>some ([],true)
 | .sl b off len _=>match Yn m b with
  | some blk=>bif blk.isObj then none else match cut blk.cells off len with
   | some cs=>some (cs.map TY,cs.all Rq)
   | none=>none
  | none=>none
 | .sla b sz off len _=>match Yn m b with
  | some blk=>match blk.arr with
   | some A=>some (UA len fun k=>A.get (off+k),Nat.beq sz 1&&(Nat.beq A.sz 1&&(decide (off+len<=A.n)&&t0a len fun k=>A.get (off+k))))
   | none=>none
  | none=>none
 | _=>none
def U6 :B9->Option Nat
 | .sl b _ _ _=>some b
 | .sla b _ _ _ _=>some b
 | _=>none
def Rd (P:Program) (floor:Nat) (st:St) (t:TypeId) (x k v:B9):Option St:=match x,k with
 | .mapr b,.str k=>bif Nat.ble floor b then match Sv P t,Yn st.mem b,v with
  | some true,some ⟨[.obj (.mi l)],ty,none⟩,.int .i64 n=>some (st.withMem (Wv st.mem b (some ⟨[.obj (.mi (Et l k n))],ty,none⟩)))
  | some false,some ⟨[.obj (.mb l)],ty,none⟩,.bool e=>some (st.withMem (Wv st.mem b (some ⟨[.obj (.mb (Et l k e))],ty,none⟩)))
  | _,_,_=>none
  else none
 | _,_=>none
def aX (P:Program) (floor:Nat) (st:St):Op->Option (B9×Bool×St)
 | .makeMap t none=>match Sv P t with
  | some k=>some (.mapr st.next,true,Cr st [.obj (bif k then .mi [] else .mb [])] t)
  | none=>none
 | .lookup t x i co=>match st.eval x,st.eval i with
  | .mapr b,.str k=>match Sv P t,Yn st.mem b with
   | some true,some ⟨[.obj (.mi l)],_,none⟩=>some (bif co then .tup [.int .i64 (getK 0 l k),.bool (PN l k)] else .int .i64 (getK 0 l k),true,st)
   | some false,some ⟨[.obj (.mb l)],_,none⟩=>some (bif co then .tup [.bool (getK false l k),.bool (PN l k)] else .bool (getK false l k),true,st)
   | _,_=>none
  | _,_=>none
 | .mapUpdate t m k v=>(Rd P floor st t (st.eval m) (st.eval k) (st.eval v)).map fun st'=>(.tup [],true,st')
 | .insert t m k v=>(Rd P floor st t (st.eval m) (st.eval k) (st.eval v)).map fun st'=>(.tup [],true,st')
 | .range t x=>match P.underlying t,st.eval x with
  | some .string,.str s=>some (.ptr st.next 0,true,Cr st [.obj (.it s 0)] t)
  | _,_=>none
 | .next x true=>match st.eval x with
  | .ptr b 0=>bif Nat.ble floor b then match Yn st.mem b with
   | some ⟨[.obj (.it s pos)],ty,none⟩=>match st.test (decide (pos<s.length)) with
    | (e,st1)=>some (bif e then .tup [.bool true,.int .i64 pos,.int .i32 (EA s pos)] else .tup [.bool false],true,
      bif e then st1.withMem (Wv st1.mem b (some ⟨[.obj (.it s (pos+Fy s pos))],ty,none⟩)) else st1)
   | _=>none
   else none
  | _=>none
 | .alloc t=>bif Nat.beq t Q9 then match P.info? t with
   | some i=>match i.zero with
    | some (.agg ⟨[.pointer none,.slice none 0 0]⟩)=>some (.ptr st.next 0,true,Cr st [.obj .bld,.nils] t)
    | _=>none
   | none=>none
  else none
 | .load t x=>match st.eval x with
  | .ptr b 1=>match Yn st.mem b,ZU P t,P.info? t with
   | some ⟨[.obj .bld,buf],_,none⟩,some false,some _=>some (buf,true,st)
   | _,_,_=>none
  | _=>none
 | .store t a x=>match st.eval a with
  | .ptr b 1=>bif Nat.ble floor b&&Cz (st.eval x) then match Yn st.mem b,P.info? t with
   | some ⟨[.obj .bld,_],ty,none⟩,some i=>bif Nat.beq i.size 1 then some (.tup [],true,st.withMem (Wv st.mem b (some ⟨[.obj .bld,st.eval x],ty,none⟩))) else none
   | _,_=>none
   else none
  | _=>none
 | .convert src dst x=>match P.underlying src,P.underlying dst with
  | some (.slice e),some .string =>match P.underlying e with
   | some (.int .u8)=>match TV st.mem (st.eval x) with
    | some (s,o)=>some (.str s,o,st)
    | none=>none
   | _=>none
  | _,_=>none
 | .binOp op t x y _=>match st.eval x,y,P.underlying t with
  | .ifb b,.const .nilIface,some (.interface _)=>match op with
   | .eql =>some (.bool b,true,st)
   | .neq =>some (.bool !b,true,st)
   | _=>none
  | _,_,_=>none
 | .call {callee:=.value f,args,argTypes:=_}=>match st.eval f,args.toList.map st.eval with
  | .fn g [],[.ptr b 0]=>bif Nat.beq g J3&&(P.funcs[g]?).any (fun fn=>fn.body.isSome) then match Yn st.mem b with
    | some ⟨[.obj .bld,buf],ty,none⟩=>bif Nat.beq ty Q9 then match TV st.mem buf with
     | some (s,o)=>match U6 buf with
      | none=>some (.str s,decide (s.length<=9223372036854775807)&&o,st)
      | some c=>bif Nat.ble floor c&&J4 st.mem Q6 c then some (.str s,decide (s.length<=9223372036854775807)&&o,st.withMem (Wv st.mem c none)) else none
     | none=>none
     else none
    | _=>none
   else none
  | _,_=>none
 | _=>none
def v3l (P:Program) (S:CB) (Rc:CL) (cx:CP) (ops:Array Oper) (i:Nat) (o:Oper) (l:List Oper) (todo:List Item) (rnd:Option Nat) (rs:List ResultVar) (st:St) (cs:List Ci) (lps:CQ):Option CI:=
 match GD ops o cx st with
 | some (true,st)=>match aX P cx.floor st o.op with
  | some (v,b,st1)=>match st1.owe cx b with
   | some st2=>match st2.put cx o.dst v with
    | some st3=>some ⟨cx,some (ops,i+1,l),todo,rnd,rs,st3,cs,lps⟩
    | none=>none
   | none=>none
  | none=>match callee S st o.op with
  | some (.inl (g,args))=>Rl P g args ⟨cx,some (ops,i,o::l),todo,rnd,rs,st.env⟩ st cs lps
  | some (.inr (j,args))=>u8b j args ⟨cx,some (ops,i,o::l),todo,rnd,rs,st.env⟩ st cs lps
  | none=>match N4 P S Rc false o cx st with
   | some st=>some ⟨cx,some (ops,i+1,l),todo,rnd,rs,st,cs,lps⟩
   | none=>none
 | some (false,st)=>match st.put cx o.dst (.tup []) with
  | some st=>some ⟨cx,some (ops,i+1,l),todo,rnd,rs,st,cs,lps⟩
  | none=>none
 | none=>none
def HA (ops:Array Oper):Bool:=ops.toList.all fun o=>match o.op with
 | .defer _=>false
 | _=>true
def Ei (o:Oper):Oper:=⟨none,.move (.const (.bool true)),o.type,o.pos,o.after,none⟩
def Ws (ops:Array Oper) (m:Nat):Array Oper:=⟨ops.toList.take m++(ops.toList.drop m).map Ei⟩
def u6d (ops:Array Oper) (m:Nat):Bool:=
 HA ops&&(N1 0 (Ws ops m)&&(((List.range ops.size).all fun j=>Nat.ble (j+1) m||(List.range j).all fun i=>((FQ (Ws ops m).toList []).getD j 0).testBit i)&&((List.range m).all fun i=>match ops[i]? with
  | some ⟨_,_,_,_,_,some (j,_)⟩=>Nat.ble (j+1) m
  | _=>true)))
def j1t (f:Operand):List Oper->Operand
 | []=>f
 | ⟨some d,.move x,_,_,_,_⟩::l=>match f with
  | .tmp t=>bif Nat.beq t d then x else j1t f l
  | _=>f
 | _::l=>j1t f l
def v6r (st:St) (ops:List Oper):Oper->Bool
 | ⟨_,.call ⟨.value f,_,_⟩,_,_,_,_⟩=>match st.eval (j1t f ops) with
  | .yld _=>true
  | _=>false
 | _=>false
def ZN (st:St) (ops:List Oper):List Oper->Nat->Option Nat
 | [],_=>none
 | o::l,i=>bif v6r st ops o then some i else ZN st ops l (i+1)
def j1p (ops:Array Oper) (st:St):Option Nat:=
 match ZN st ops.toList ops.toList 0 with
 | some m=>bif u6d ops m then some m else none
 | none=>none
def H5 (ops:Array Oper):zr->Option Nat
 | []=>none
 | z::l=>bif N1 z ops then some z else H5 ops l
def PZ (ops:Array Oper):Bool:=ops.toList.any fun o=>match o.op with
 | .call {callee:=.builtin .append,.. }=>true
 | _=>false
def j5v (ops:Array Oper):Bool:=ops.toList.any fun o=>match o.op,o.dst with
 | .buildSlice _ _ _,some d=>ops.toList.any fun p=>match p.op with
  | .call {callee:=.value _,args,argTypes:=_}=>args.toList.any fun a=>match a with
   | .tmp t=>Nat.beq t d
   | _=>false
  | _=>false
 | _,_=>false
def j5u (ops:Array Oper):Option Nat:=bif HA ops then H5 ops (bif j5v ops then [1,0,2] else bif PZ ops then [0,2,3,1] else [0,1,2]) else none
def St.nextId :St->Nat×St
 | ⟨env,mem,next,orc,ob⟩=>(next,⟨env,mem,next+1,orc,ob⟩)
def SC (P:Program) (S:CB) (Rc:CL):CI->Option CI
 | ⟨cx,some (_,_,[]),todo,rnd,rs,st,cs,lps⟩=>some ⟨cx,none,todo,rnd,rs,st,cs,lps⟩
 | ⟨cx,some (ops,i,o::l),todo,rnd,rs,st,cs,lps⟩=>v3l P S Rc cx ops i o l todo rnd rs st cs lps
 | ⟨cx,none,todo,rnd,rs,st,cs,lps⟩=>match todo with
  | []=>Td P rnd rs st cs lps none
  | .code .ret ::_=>Td P rnd rs st cs lps (some .ret)
  | .code .skip ::k=>some ⟨cx,none,k,rnd,rs,st,cs,lps⟩
  | .code (.label _)::k=>some ⟨cx,none,k,rnd,rs,st,cs,lps⟩
  | .inBlock _::k=>some ⟨cx,none,k,rnd,rs,st,cs,lps⟩
  | .inScope _::k=>some ⟨cx,none,k,rnd,rs,st,cs,lps⟩
  | .code (.seq a b)::k=>some ⟨cx,none,.code a::.code b::k,rnd,rs,st,cs,lps⟩
  | .code (.cond c a b)::k=>match st.eval c with
   | .bool v=>match st.test v with
    | (e,st)=>some ⟨cx,none,.code (bif e then a else b)::k,rnd,rs,st,cs,lps⟩
   | _=>none
  | .code (.block id body)::k=>some ⟨cx,none,.code body::.inBlock id::k,rnd,rs,st,cs,lps⟩
  | .code (.scope body)::k=>some ⟨cx,none,.code body::.inScope body::k,rnd,rs,st,cs,lps⟩
  | .code (.loop body)::k=>some ⟨cx,none,.code body::.inLoop body::k,rnd,rs,st,cs,lps⟩
  | .inLoop body::k=>some ⟨cx,none,.code body::.inLoop body::k,rnd,rs,st,cs,lps⟩
  | .code (.exit id)::k=>match exitTo id k with
   | some k=>some ⟨cx,none,k,rnd,rs,st,cs,lps⟩
   | none=>match rnd with
    | some _=>Td P rnd rs st cs lps (some (.exit id))
    | none=>none
  | .code (.region _ ops false)::k=>bif HA ops then some ⟨cx,some (ops,0,ops.toList),k,rnd,rs,st,cs,lps⟩ else none
  | .code (.region _ ops true)::k=>match j1p ops st with
   | some m=>match Rf 0 P S Rc (Ws ops m) cx (JB (Ws ops m)) [] st with
    | some st=>some ⟨cx,some (ops,m,ops.toList.drop m),k,rnd,rs,st,cs,lps⟩
    | none=>none
   | none=>match j5u ops with
    | some z=>match Rf z P S Rc ops cx (JB ops) [] st with
     | some st=>some ⟨cx,none,k,rnd,rs,st,cs,lps⟩
     | none=>none
    | none=>none
  | .code (.rangeFunc f params assign body)::k=>match st.eval f with
   | .fn g caps=>match st.nextId with
    | (j,st')=>bif US lps rnd then Rl P g (.yld j::caps) ⟨cx,none,.inRangeFunc j::k,rnd,rs,st.env⟩ st' cs (Fv lps j (some ⟨.ready,none,cx.n,st.env,params.toList,assign,body⟩)) else none
   | _=>none
  | .beginRound ::k=>match rnd with
   | some j=>match DT lps j with
    | some ⟨.ready,pend,n,env,params,assign,body⟩=>some ⟨cx,none,k,rnd,rs,st,cs,Fv lps j (some ⟨.busy,pend,n,env,params,assign,body⟩)⟩
    | _=>none
   | none=>none
  | .endRangeFunc j::k=>match DT lps j with
   | some ⟨.busy,_,_,_,_,_,_⟩=>none
   | some ⟨_,pend,n,env,params,assign,body⟩=>some ⟨cx,none,(pend.map Item.code).toList ++k,rnd,rs,st,cs,Fv lps j (some ⟨.exhausted,pend,n,env,params,assign,body⟩)⟩
   | none=>none
  | _=>none
def G9 :CI->Bool
 | ⟨_,none,[],none,_,_,[],_⟩=>true
 | ⟨_,none,.code .ret ::_,none,_,_,[],_⟩=>true
 | _=>false
def FW (P:Program) (S:CB) (Rc:CL) (n:Nat):CI->Option CI:=
 Nat.rec (motive:=fun _=>CI->Option CI) (fun _=>none) (fun _ R C=>bif G9 C then some C else match SC P S Rc C with
  | some C'=>R C'
  | none=>none) n
def NQ :Item->Bool
 | .code _ | .inBlock _ | .inLoop _ | .inScope _ | .beginRound =>true
 | _=>false
def PS (P:Program) (S:CB) (n:Nat) (d:Nat):CL:=
 Nat.rec (motive:=fun _=>CL) (fun _ _ _=>none) (fun _ R cx todo st=>bif todo.all NQ&&Nat.ble cx.floor st.next then match FW P S R n ⟨cx,none,todo,none,[],st,[],.leaf⟩ with
  | some C=>bif Nat.beq C.cx.n cx.n then some C.st else none
  | none=>none
  else none) d
section
variable {P:Program}
section ops
variable {b:Frame} {a:Act} {k:List Item} {cs:List Frame} {w:World} {ops:Array Oper}
theorem x2w {i:Nat} {rest:zr} {o:Oper} {K:Act->World->Prop} {Q:Exit->Act->World->Prop} (hQ: ∀e a w,Q e a w->e=.normal) (ho:ops[i]? =some o) (hnd: ∀c,o.op≠ .defer c)
  (h:if Region.wanted o (yielded ops a.tmps) then o.wp P a w K Q else K (a.put o.dst undef) w):
  ∃a' w',K a' w'/\Steps P (lone (b.atR a (.inRegion ops (i::rest)::k)) cs w) (lone (b.atR a' (.inRegion ops rest::k)) cs w'):=by
 by_cases hw:Region.wanted o (yielded ops a.tmps)=true
 .rw [AJ hw] at h;have hg:=stepGR_op (P:=P) (b:=b) (k:=k) (cs:=cs) (w:=w) (rest:=rest) ho hw;rw [Oper.semAt_eq _ _ _ hnd] at hg;have fin: ∀(a:Act) (v:Value),(b.atR a (.inRegion ops (i::rest)::k)).finish v=b.atR (a.put o.dst v) (.inRegion ops rest::k):=fun a v=>by rw [Frame.finish_atR,ho];rfl
  unfold Oper.wp at h;generalize hr:(execOp a.eval o).run P w=r at h;cases r with
  | ok n w'=>
   cases n <;> simp only [Oper.upon] at h
   case value v=>exact ⟨_,w',h,.one (step_lone_go (by simp_all [stepG.apply]))⟩
   case skip=>exact ⟨_,w',h,.one (step_lone_go (by simp_all [stepG.apply]))⟩
   case defer d=>refine ⟨_,w',h,.one (step_lone_go ?_)⟩;have e:=fin {a with defers:=d::a.defers} undef;simp_all [stepG.apply,Frame.atR]
   case enter f args=>
    obtain ⟨e,w'',fr,hR,dR,_,hleave⟩:=h (b.atR a (.inRegion ops (i::rest)::k)::cs);have eZ:step P (lone (b.atR a (.inRegion ops (i::rest)::k)) cs w)=.next (lone (Frame.enter P f args .normal) (b.atR a (.inRegion ops (i::rest)::k)::cs) w'):=
     step_lone_go (by simp_all [stepG.apply,Frame.atR])
    cases e with
    | returned v=>
     refine ⟨_,w'',hR,.head eZ (dR.trans (.one ?_))⟩
     grind [step_leave_returned]
    | panicked chain=>grind
    | outgrown=>obtain ⟨_,_,hq⟩:=hR;grind
   case row row args=>
    obtain ⟨v,w'',hR,dR⟩:=h (b.atR a (.inRegion ops (i::rest)::k)) cs;have eZ:step P (lone (b.atR a (.inRegion ops (i::rest)::k)) cs w)=.next (lone (Frame.ofRow P row args .normal) (b.atR a (.inRegion ops (i::rest)::k)::cs) w'):=
     step_lone_go (by simp_all [stepG.apply,Frame.atR])
    refine ⟨_,w'',hR,.head eZ ?_⟩
    grind
   all_goals exact h.elim
  | halt x w'=>cases x <;> simp only [Oper.upon] at h <;> first | exact h.elim | grind
 .rw [AC hw] at h;have hs:=stepR_op_skip (P:=P) (b:=b) (a:=a) (k:=k) (cs:=cs) (w:=w) (ops:=ops) (i:=i) (rest:=rest) (by grind);rw [ho] at hs;exact ⟨_,w,h,.one hs⟩
theorem y6v {R:Act->World->Prop} {Q:Exit->Act->World->Prop} (hQ: ∀e a w,Q e a w->e=.normal /\R a w) (hnd:HA ops=true): ∀(l:zr) (a:Act) (w:World),wpOps P ops Q l a w->
  ∃a' w',R a' w'/\Steps P (lone (b.atR a (.inRegion ops l::k)) cs w) (lone (b.atR a' k) cs w')
 | [],a,w,h=>⟨a,w,(hQ _ _ _ h).2,.one stepR_region_end⟩
 | i::l,a,w,h=>by
  simp only [wpOps] at h;cases ho:ops[i]? with
  | none=>rw [ho] at h;obtain ⟨a',w',hR,hs⟩:=y6v hQ hnd l a w h;have h1:=stepR_op_skip (P:=P) (b:=b) (a:=a) (k:=k) (cs:=cs) (w:=w) (ops:=ops) (i:=i) (rest:=l) (by simp [ho]);rw [ho] at h1;exact ⟨a',w',hR,.head h1 hs⟩
  | some o=>
   rw [ho] at h;have hno: ∀c,o.op≠ .defer c:=by
    intro c hc;have hm:o∈ops.toList:=(by grind);have:=Au.1 hnd o hm
    grind
   have h':if Region.wanted o (yielded ops a.tmps) then o.wp P a w (wpOps P ops Q l) Q else wpOps P ops Q l (a.put o.dst undef) w:=by
    by_cases hw:Region.wanted o (yielded ops a.tmps)=true
    .simp only [hw,if_true] at h ⊢;rcases h with h | ⟨_,a0,w0,h0⟩;all_goals grind
    grind
   obtain ⟨a1,w1,h1,s1⟩:=x2w (b:=b) (k:=k) (cs:=cs) (rest:=l) (fun e a w q=>(hQ e a w q).1) ho hno h';obtain ⟨a',w',hR,hs⟩:=y6v hQ hnd l a1 w1 h1;exact ⟨a',w',hR,s1.trans hs⟩
end ops
end
section
variable {P:Program}
def Sp (ρ:CE) (w:World) (r:Nat):Prop:=r<w.heap.size/\ρ.fz r=none/\ ∀b l,ρ b=some l->l.blk≠r
theorem Sp.ev {ρ ρ':CE} {floor:Nat} {m m':CJ} {n n':Nat} {w w':World} (he:Ev ρ ρ' floor m n m' n' w w') {r:Nat} (hs:Sp ρ w r):Sp ρ' w' r/\w'.heap[r]? =w.heap[r]? :=by
 obtain ⟨h1,h2,h3⟩:=hs;refine ⟨⟨AY h1 he.size,by rw [he.still r h1];exact h2,fun b l hl=> ?_⟩,?_⟩
 .by_cases hb:b<n
  .rw [he.new b hb] at hl;grind
  .rcases he.fresh b l (by omega) hl with h | ⟨b0,l0,e0,_,g0⟩;all_goals grind
 .have:w.heap[r]? =some w.heap[r]:=by simp [h1]
  rw [this];exact he.frame r _ this fun b l hl _=>h3 b l hl
structure Vm (m:zr) (w w':World):Prop where
 size:w'.heap.size=w.heap.size
 other: ∀k,k ∉ m->w'.heap[k]? =w.heap[k]?
 os:w'.os=w.os
 tape:w'.tape=w.tape
 output:w'.output=w.output
theorem Vm.refl (m:zr) (w:World):Vm m w w:=⟨rfl,fun _ _=>rfl,rfl,rfl,rfl⟩
theorem Vm.put (w:World) (r:Nat) (o:Obj):Vm [r] w (w.putObj r o):=⟨World.putObj_size,fun k hk=>World.putObj_heap_other (by grind),rfl,rfl,rfl⟩
theorem Vm.trans {m m':zr} {a b c:World} (h:Vm m a b) (k:Vm m' b c):Vm (m++m') a c:=
 ⟨k.size.trans h.size,fun i hi=>by simp only [AF,not_or] at hi;exact (k.other i hi.2).trans (h.other i hi.1),k.os.trans h.os,k.tape.trans h.tape,k.output.trans h.output⟩
theorem CF.turned {ρ:CE} {mem:CJ} {next:Nat} {w w':World} (h:CF ρ mem next w) {m:zr} (hm: ∀r∈m,Sp ρ w r) (ht:Vm m w w'):CF ρ mem next w':=
 ⟨h.dom,h.inj,fun b l ab e g=>(h.blk b l ab e g).world (CE.le_refl ρ) (ht.other _ fun hr=>(hm _ hr).2.2 b l e rfl),fun k o e=>by
  rw [ht.other k fun hr=>by rw [(hm _ hr).2.1] at e;cases e];exact h.old k o e,
  h.sep,fun b l e=>by rw [ht.size];exact h.real b l e,h.bd,h.ldom⟩
theorem Ev.turned {ρ0 ρ:CE} {floor:Nat} {m0 mem:CJ} {n0 next:Nat} {w0 w w':World} (h:Ev ρ0 ρ floor m0 n0 mem next w0 w) {m:zr} (hm: ∀r∈m,w0.heap.size<=r) (ht:Vm m w w'):Ev ρ0 ρ floor m0 n0 mem next w0 w':=
 ⟨h.ext,h.new,h.nxt,h.unborn,fun k o hk hf=>by
  have hlt:k<w0.heap.size:=(AI.1 hk).1;rw [ht.other k fun hr=>by grind];exact h.frame k o hk hf,h.fresh,by rw [ht.size];exact h.size,ht.os.trans h.os,ht.tape.trans h.tape,ht.output.trans h.output,h.still⟩
theorem Sp.turned {ρ:CE} {w w':World} {r:Nat} (h:Sp ρ w r) {m:zr} (ht:Vm m w w'):Sp ρ w' r:=⟨by rw [ht.size];exact h.1,h.2.1,h.2.2⟩
theorem CF.grow {ρ:CE} {mem:CJ} {next:Nat} {w:World} (h:CF ρ mem next w) (o:Obj):CF ρ mem next (w.alloc o):=by
 have same: ∀k,k<w.heap.size->(w.alloc o).heap[k]? =w.heap[k]? :=fun k hk=>by
  show (w.heap.push o)[k]? =_
  grind
 exact ⟨h.dom,h.inj,fun b l ab e g=>(h.blk b l ab e g).world (CE.le_refl ρ) (same _ (h.real b l e)),fun k ob e=>by
  have:=h.old k ob e
  grind,h.sep,fun b l e=>by
  have:=h.real b l e
  grind,h.bd,h.ldom⟩
theorem Ev.grow {ρ0 ρ:CE} {floor:Nat} {m0 mem:CJ} {n0 next:Nat} {w0 w:World} (h:Ev ρ0 ρ floor m0 n0 mem next w0 w) (o:Obj):Ev ρ0 ρ floor m0 n0 mem next w0 (w.alloc o):=
 ⟨h.ext,h.new,h.nxt,h.unborn,fun k ob hk hf=>by
  have:=h.frame k ob hk hf;have hlt:=(AI.1 this).1;show (w.heap.push o)[k]? =_
  grind,h.fresh,by
  have:=h.size;show _<=(w.heap.push o).size;simp;omega,h.os,h.tape,h.output,h.still⟩
theorem Sp.grow {ρ:CE} {w:World} {r:Nat} (h:Sp ρ w r) (o:Obj):Sp ρ (w.alloc o) r/\(w.alloc o).heap[r]? =w.heap[r]? :=by
 refine ⟨⟨?_,h.2.1,h.2.2⟩,?_⟩
 .have:=h.1;show r<(w.heap.push o).size;simp;omega
 .show (w.heap.push o)[r]? =_;simp [Array.getElem?_push,BC h.1]
theorem Sp.fresh {ρ:CE} {mem:CJ} {next:Nat} {w:World} (h:CF ρ mem next w) (o:Obj):Sp ρ (w.alloc o) w.heap.size:=
 ⟨by simp_all,h.hold _ (Ar _),fun b l e=>BC (h.real b l e)⟩
def lpAdd (ρ:CE) (j l:Nat):CE:=⟨ρ.f,ρ.fz,fun k=>if k=j then some l else ρ.lp k⟩
theorem CF.lp_none {ρ:CE} {mem:CJ} {next:Nat} {w:World} (h:CF ρ mem next w):ρ.lp next=none:=by
 cases e:ρ.lp next with
 | none=>rfl
 | some l=>exact absurd (h.ldom.1 _ _ e) (B7 _)
theorem x3a {ρ:CE} {j l:Nat} (h:ρ.lp j=none):ρ.le (lpAdd ρ j l):=⟨fun _ _ e=>e,fun _ _ e=>e,fun k l' e=>by
 show (if k=j then some l else ρ.lp k)=some l'
 grind⟩
theorem CF.lpAdd {ρ:CE} {mem:CJ} {next:Nat} {w:World} (h:CF ρ mem next w) (l:Nat):CF (lpAdd ρ next l) mem (next+1) w:=
 ⟨fun b l' e=>Bo (h.dom b l' e),h.inj,fun b l' ab e g=>(h.blk b l' ab e g).world (x3a h.lp_none) rfl,h.old,h.sep,h.real,fun b hb=>h.bd b (by omega),⟨fun j l' e=>by
  have e:(if j=next then some l else ρ.lp j)=some l':=e;by_cases hj:j=next
  .omega
  .rw [AC hj] at e;exact Bo (h.ldom.1 j l' e),h.ldom.2⟩⟩
theorem Ev.lpAdd {ρ0 ρ:CE} {floor:Nat} {m0 mem:CJ} {n0 next:Nat} {w0 w:World} (h:Ev ρ0 ρ floor m0 n0 mem next w0 w) (hr:CF ρ mem next w) (l:Nat):Ev ρ0 (lpAdd ρ next l) floor m0 n0 mem (next+1) w0 w:=
 ⟨CE.le_trans h.ext (x3a hr.lp_none),h.new,Nat.le_succ_of_le h.nxt,h.unborn,h.frame,h.fresh,h.size,h.os,h.tape,h.output,h.still⟩
inductive Eq (ρ:CE):Item->Item->Prop
 | same (x:Item) (h:NQ x=true):Eq ρ x x
 | inR (j l:Nat) (h:ρ.lp j=some l):Eq ρ (.inRangeFunc j) (.inRangeFunc l)
 | endR (j l:Nat) (h:ρ.lp j=some l):Eq ρ (.endRangeFunc j) (.endRangeFunc l)
abbrev D7 (ρ:CE):List Item->List Item->Prop:=Vg (Eq ρ)
theorem Vg.mono {α β:Type} {R R':α->β->Prop} (hr: ∀a b,R a b->R' a b) {l:List α} {m:List β} (h:Vg R l m):Vg R' l m:=by
 induction h with
 | nil=>exact .nil
 | cons h _ ih=>exact .cons (hr _ _ h) ih
theorem Eq.mono {ρ ρ':CE} (h:ρ.le ρ') {x y:Item} (hx:Eq ρ x y):Eq ρ' x y:=by
 cases hx with
 | same x hx=>exact .same x hx
 | inR j l e=>exact .inR j l (h.2.2 _ _ e)
 | endR j l e=>exact .endR j l (h.2.2 _ _ e)
theorem D7.exit {ρ:CE} {k k':List Item} (h:D7 ρ k k') (id:Nat):(∀r,exitTo id k=some r-> ∃r',exitTo id k'=some r'/\D7 ρ r r')/\(exitTo id k=none->exitTo id k'=none):=by
 induction h with
 | nil=>exact ⟨fun r e=>(by cases e),fun _=>rfl⟩
 | @cons x y l m hx t ih=>
  cases hx with
  | same x hx=>
   cases x with
   | inBlock id'=>
    grind [exitTo]
   | code _=>exact ih
   | inLoop _=>exact ih
   | inScope _=>exact ih
   | beginRound=>exact ih
   | inRegion _ _=>cases hx
   | inRangeFunc _=>cases hx
   | endRangeFunc _=>cases hx
   | call _ _ _ _=>cases hx
   | extern _ _=>cases hx
  | inR j l e=>exact ih
  | endR j l e=>exact ih
def PP (r:Nat):Deferred:={target:=.collected r,args:= #[]}
def Vq (ro:Option CZ) (k:List Item):List Item:=match ro with
 | none=>k
 | some (ops,i,_)=>.inRegion ops ((List.range ops.size).drop i)::k
def roOk :Option CZ->Prop
 | none=>True
 | some (ops,i,l)=>l=ops.toList.drop i/\HA ops=true
structure Ft (ρ:CE) (cx:CP) (ro:Option CZ) (todo:List Item) (rnd:Option Nat) (env:T B9) (b:Frame) (a:Act) (k:List Item) (ms:zr):Prop where
 env:Vy ρ env cx.n a.tmps
 defers:a.defers=ms.map PP
 todo:D7 ρ todo k
 ro:roOk ro
 rnd:match rnd with
  | none=>b.roundOf=none
  | some j=>ms=[]/\ ∃l,ρ.lp j=some l/\b.roundOf=some l
theorem Ft.mono {ρ ρ':CE} (h:ρ.le ρ') {cx:CP} {ro:Option CZ} {todo:List Item} {rnd:Option Nat} {env:T B9} {b:Frame} {a:Act} {k:List Item} {ms:zr} (hf:Ft ρ cx ro todo rnd env b a k ms):Ft ρ' cx ro todo rnd env b a k ms:=
 ⟨hf.env.mono h,hf.defers,hf.todo.mono fun _ _=>Eq.mono h,hf.ro,by
  have:=hf.rnd;cases rnd with
  | none=>exact this
  | some j=>obtain ⟨h0,l,h1,h2⟩:=this;exact ⟨h0,l,h.2.2 _ _ h1,h2⟩⟩
def v8r (P:Program) (rnd:Option Nat) (rs:List ResultVar) (b:Frame):Prop:=b.kind=.normal /\(rnd=none-> ∃fn,P.funcs[b.fn]? =some fn/\fn.results.toList=rs)
inductive Fs (P:Program) (ρ:CE):List Ci->List Frame->zr->Prop
 | nil:Fs P ρ [] [] []
 | cons {af:Ci} {b:Frame} {a:Act} {k:List Item} {ms:zr} {cs:List Ci} {css:List Frame} {mss:zr} (h:Ft ρ af.cx af.ro af.todo af.rnd af.env b a k ms)
   (hl:cs≠ []->v8r P af.rnd af.rs b) (t:Fs P ρ cs css mss):Fs P ρ (af::cs) (b.atR a (Vq af.ro k)::css) (ms++mss)
theorem Fs.mono {ρ ρ':CE} (h:ρ.le ρ') {cs:List Ci} {css:List Frame} {mss:zr} (hc:Fs P ρ cs css mss):Fs P ρ' cs css mss:=by
 induction hc with
 | nil=>exact .nil
 | cons hf hl t ih=>exact .cons (hf.mono h) hl ih
structure Rj (base:Nat) (ρ:CE) (w:World) (j:Nat) (L:DK) (l:Nat):Prop where
 lp:ρ.lp j=some l
 low:base<=l
 sp:Sp ρ w l
 obj: ∃tmps fn d,w.heap[l]? =some (.loop ⟨L.st,L.pend,fn,tmps,L.params.toArray,L.assign,L.body,d⟩)/\Vy ρ L.env L.n tmps
structure Dl (P:Program) (base:Nat) (ρ:CE) (cs:List Ci) (lps:CQ) (css:List Frame) (w:World) (m0 m1:zr):Prop where
 cs:Fs P ρ cs css m1
 nodup:(m0++m1).Nodup
 marks: ∀r∈m0++m1,base<=r/\Sp ρ w r/\w.heap[r]? =some (.deferred (some []))
 loops: ∀j L,DT lps j=some L-> ∃l,Rj base ρ w j L l
 inj: ∀j j' L L' l,DT lps j=some L->DT lps j'=some L'->ρ.lp j=some l->ρ.lp j'=some l->j=j'
theorem Rj.ev {base:Nat} {ρ ρ':CE} {floor:Nat} {m m':CJ} {n n':Nat} {w w':World} (he:Ev ρ ρ' floor m n m' n' w w') {j:Nat} {L:DK} {l:Nat} (h:Rj base ρ w j L l):Rj base ρ' w' j L l:=by obtain ⟨h1,h2,h3,tmps,fn,d,h4,h5⟩:=h;obtain ⟨s1,s2⟩:=h3.ev he;exact ⟨he.ext.2.2 _ _ h1,h2,s1,tmps,fn,d,by grind,h5.mono he.ext⟩
theorem Dl.ev {base:Nat} {ρ ρ':CE} {floor:Nat} {m m':CJ} {n n':Nat} {w w':World} (he:Ev ρ ρ' floor m n m' n' w w') {cs:List Ci} {lps:CQ} {css:List Frame} {m0 m1:zr} (h:Dl P base ρ cs lps css w m0 m1):Dl P base ρ' cs lps css w' m0 m1:=by
 refine ⟨h.cs.mono he.ext,h.nodup,fun r hr=> ?_,fun j L hL=> ?_,fun j j' L L' l hL hL' e e'=> ?_⟩
 .obtain ⟨h1,h2,h3⟩:=h.marks r hr;obtain ⟨s1,s2⟩:=h2.ev he
  grind
 .obtain ⟨l,hl⟩:=h.loops j L hL;exact ⟨l,hl.ev he⟩
 .obtain ⟨l1,hl1⟩:=h.loops j L hL;obtain ⟨l2,hl2⟩:=h.loops j' L' hL';have e1:=he.ext.2.2 _ _ hl1.lp;have e2:=he.ext.2.2 _ _ hl2.lp;rw [e] at e1;rw [e'] at e2;obtain rfl:=Ag e1;obtain rfl:=Ag e2;exact h.inj j j' L L' l hL hL' hl1.lp hl2.lp
theorem Dl.turned {base:Nat} {ρ:CE} {w w':World} {cs:List Ci} {lps:CQ} {css:List Frame} {m0 m0' m1:zr} (h:Dl P base ρ cs lps css w m0 m1) {m:zr} (ht:Vm m w w') (hsub:m0'.Sublist m0) (hm: ∀r∈m,r ∉ m0'++m1) (hl: ∀r∈m,∃ds,w.heap[r]? =some (.deferred ds)):
  Dl P base ρ cs lps css w' m0' m1:=by
 refine ⟨h.cs,h.nodup.sublist (hsub.append (List.Sublist.refl _)),fun r hr=> ?_,fun j L hL=> ?_,h.inj⟩
 .obtain ⟨h1,h2,h3⟩:=h.marks r ((hsub.append (List.Sublist.refl m1)).subset hr);exact ⟨h1,h2.turned ht,by rw [ht.other r fun hrm=>hm r hrm hr];exact h3⟩
 .obtain ⟨l,h1,h2,h3,tmps,fn,d,h4,h5⟩:=h.loops j L hL;refine ⟨l,h1,h2,h3.turned ht,tmps,fn,d,?_,h5⟩;rw [ht.other l fun hlm=> ?_];all_goals grind
theorem Dl.record {base:Nat} {ρ:CE} {w w':World} {cs:List Ci} {lps:CQ} {css:List Frame} {m0 m1:zr} (h:Dl P base ρ cs lps css w m0 m1) {j l:Nat} {L L':DK} (hj:DT lps j=some L) (hl:Rj base ρ w j L l)
  (hL:Rj base ρ w' j L' l) (ht:Vm [l] w w'):Dl P base ρ cs (Fv lps j (some L')) css w' m0 m1:=by
 have fG:=hl.obj;obtain ⟨tmps,fn,d,h4,_⟩:=fG;have get: ∀i,DT (Fv lps j (some L')) i=if i=j then some L' else DT lps i:=fun i=>T.get_set none lps j (some L') i
 refine ⟨h.cs,h.nodup,fun r hr=> ?_,fun i M hM=> ?_,fun i i' M M' l' hM hM' e e'=> ?_⟩
 .obtain ⟨h1,h2,h3⟩:=h.marks r hr;refine ⟨h1,h2.turned ht,?_⟩;rw [ht.other r fun hrm=> ?_];all_goals grind
 .rw [get] at hM;by_cases hij:i=j
  .grind
  .rw [AC hij] at hM;obtain ⟨l2,q1,q2,q3,tmps2,fn2,d2,q4,q5⟩:=h.loops i M hM;refine ⟨l2,q1,q2,q3.turned ht,tmps2,fn2,d2,?_,q5⟩;rw [ht.other l2 fun hlm=> ?_]
   .exact q4
   .obtain rfl:l2=l:=by grind
    exact hij (h.inj i j M L l2 hM hj q1 hl.lp)
 .rw [get] at hM hM';have old: ∀x N,(if x=j then some L' else DT lps x)=some N-> ∃N',DT lps x=some N':=fun x N hx=>by
   grind
  obtain ⟨N,hN⟩:=old i M hM;obtain ⟨N',hN'⟩:=old i' M' hM';exact h.inj i i' N N' l' hN hN' e e'
end
section
variable {P:Program}
structure Np (P:Program) (base:Nat) (C:CI) (ρ:CE) (b:Frame) (a:Act) (k:List Item) (css:List Frame) (w:World) (ma mb:zr):Prop where
 top:Ft ρ C.cx C.ro C.todo C.rnd C.st.env b a k ma
 lv:C.cs≠ []->v8r P C.rnd C.rs b
 rest:Dl P base ρ C.cs C.lps css w ma mb
 rel:CF ρ C.st.mem C.st.next w
structure Fl (fl:Nat) (C:CI):Prop where
 cx:C.cx.floor=fl
 cs: ∀af∈C.cs,af.cx.floor=fl
 le:fl<=C.st.next
def Nb (b:Frame):List Frame->FuncId×CallKind×Option Nat
 | []=>(b.fn,b.kind,b.roundOf)
 | c::css=>Nb c css
def FH (P:Program) (fl:Nat) (C C':CI):Prop:=
 ∀(m0:CJ) (n0:Nat) (ρ0:CE) (w0:World) (ρ:CE) (b:Frame) (a:Act) (k:List Item) (css:List Frame) (w:World) (ma mb:zr),Np P w0.heap.size C ρ b a k css w ma mb->Ev ρ0 ρ fl m0 n0 C.st.mem C.st.next w0 w-> ∀cs0:List Frame,
  ∃ρ' b' a' k' css' w' ma' mb',Steps P (lone (b.atR a (Vq C.ro k)) (css++cs0) w) (lone (b'.atR a' (Vq C'.ro k')) (css'++cs0) w')/\Np P w0.heap.size C' ρ' b' a' k' css' w' ma' mb'/\Ev ρ0 ρ' fl m0 n0 C'.st.mem C'.st.next w0 w'/\Nb b' css'=Nb b css/\w.heap.size<=w'.heap.size
theorem FH.refl (fl:Nat) (C:CI):FH P fl C C:=fun m0 n0 ρ0 w0 ρ b a k css w ma mb hs he cs0=>⟨ρ,b,a,k,css,w,ma,mb,Steps.refl _ _,hs,he,rfl,Ar _⟩
structure EQ (P:Program) (fl:Nat) (C C':CI):Prop where
 fls:Fl fl C'
 inv:Xd fl C.st C'.st
 leads:C'.st.ob=true->FH P fl C C'
theorem EQ.move {fl:Nat} {cx:CP} {todo todo':List Item} {rnd:Option Nat} {rs:List ResultVar} {st:St} {cs:List Ci} {lps:CQ} (hfl:Fl fl ⟨cx,none,todo,rnd,rs,st,cs,lps⟩)
  (hk: ∀(ρ:CE) (k:List Item),D7 ρ todo k-> ∃k',D7 ρ todo' k'/\ ∀(b:Frame) (a:Act) (css:List Frame) (w:World),step P (lone (b.atR a k) css w)=.next (lone (b.atR a k') css w)):
  EQ P fl ⟨cx,none,todo,rnd,rs,st,cs,lps⟩ ⟨cx,none,todo',rnd,rs,st,cs,lps⟩:=
 ⟨⟨hfl.cx,hfl.cs,hfl.le⟩,Xd.refl _ _,fun ho m0 n0 ρ0 w0 ρ b a k css w ma mb hs he cs0=>by
   obtain ⟨k',ht,dZ⟩:=hk ρ k hs.top.todo;exact ⟨ρ,b,a,k',css,w,ma,mb,.one (dZ b a _ w),⟨⟨hs.top.env,hs.top.defers,ht,trivial,hs.top.rnd⟩,hs.lv,hs.rest,hs.rel⟩,he,rfl,Ar _⟩⟩
theorem D7.code {ρ:CE} {c:Code} {t k:List Item} (h:D7 ρ (.code c::t) k): ∃k',k=.code c::k'/\D7 ρ t k':=by
 cases h with
 | cons hx ht=>cases hx;grind
theorem y2x {cs:List Frame}: ∀(ms:zr) (fr:Frame) (w:World),fr.mode=.returning ->fr.defers=ms.map PP->ms.Nodup->(∀r∈ms,w.heap[r]? =some (.deferred (some [])))->
  ∃w',Steps P (lone fr cs w) (lone {fr with defers:=[]} cs w')/\Vm ms w w'
 | [],fr,w,hm,hd,_,_=>⟨w,by
   have:{fr with defers:=[]}=fr:=by cases fr;grind
   rw [this];exact Steps.refl _ _,Vm.refl _ _⟩
 | r::ms,fr,w,hm,hd,hn,ho=>by
  have hr:=ho r (by simp);have h1:=step_collected (P:=P) (cs:=cs) (fr:=fr) (d:=PP r) (ds:=ms.map PP) (by rw [hm];simp) (by rw [hd];rfl) rfl (run_takeDeferred hr);rw [List.nodup_cons] at hn;obtain ⟨w',hs,ht⟩:=y2x (cs:=cs) ms {fr with defers:=ms.map PP} (w.putObj r (.deferred none)) hm rfl hn.2 fun r' hr'=>by
   grind [World.putObj_heap_other]
  exact ⟨w',.head h1 hs,(Vm.put w r _).trans ht⟩
theorem y7x {fl base:Nat} {C:CI} {ρ:CE} {b:Frame} {a:Act} {k:List Item} {css:List Frame} {w:World} {ma mb:zr} (hs:Np P base C ρ b a k css w ma mb) (hro:C.ro=none) (dN:C.rnd=none) (htodo:C.todo=[]\/ ∃t,C.todo=.code .ret ::t)
  {m0:CJ} {n0:Nat} {ρ0:CE} {w0:World} (hb:base=w0.heap.size) (he:Ev ρ0 ρ fl m0 n0 C.st.mem C.st.next w0 w) (cs0:List Frame):
  ∃w',Steps P (lone (b.atR a (Vq C.ro k)) cs0 w) (lone {b.atR {a with defers:=[]} k with mode:=.returning} cs0 w')/\Vy ρ C.st.env C.cx.n a.tmps/\CF ρ C.st.mem C.st.next w'/\Ev ρ0 ρ fl m0 n0 C.st.mem C.st.next w0 w'/\Dl P base ρ C.cs C.lps css w' [] mb/\w.heap.size<=w'.heap.size:=by
 have hrn:=hs.top.rnd;rw [dN] at hrn;have h1:step P (lone (b.atR a (Vq C.ro k)) cs0 w)=.next (lone {b.atR a k with mode:=.returning} cs0 w):=by
  rw [hro];have ht:=hs.top.todo;rcases htodo with e | ⟨t,e⟩
  .rw [e] at ht;cases ht;exact stepR_end hrn
  .rw [e] at ht;obtain ⟨k',rfl,_⟩:=ht.code;exact stepR_ret hrn
 have hnd:ma.Nodup:=(List.nodup_append.1 hs.rest.nodup).1;obtain ⟨w',h2,ht⟩:=y2x (P:=P) (cs:=cs0) ma {b.atR a k with mode:=.returning} w rfl hs.top.defers hnd fun r hr=>(hs.rest.marks r (by simp [hr])).2.2;refine ⟨w',.head h1 h2,hs.top.env,hs.rel.turned (fun r hr=>(hs.rest.marks r (by simp [hr])).2.1) ht,he.turned (fun r hr=>by rw [<-hb];exact (hs.rest.marks r (by simp [hr])).1) ht,hs.rest.turned ht (List.nil_sublist _) (fun r hr hrm=> ?_) (fun r hr=>⟨_,(hs.rest.marks r (by simp [hr])).2.2⟩),B5 ht.size.symm⟩;rw [A1] at hrm;exact (List.nodup_append.1 hs.rest.nodup).2.2 r hr r hrm rfl
theorem ZC {fl base:Nat} {v:B9} {st:St} {lps:CQ} {cs:List Ci} {C':CI} (h:IN v st lps cs=some C') (hcs: ∀af∈cs,af.cx.floor=fl) (hle:fl<=st.next):
  Fl fl C'/\C'.st.mem=st.mem/\C'.st.next=st.next/\C'.st.ob=st.ob/\(cs≠ [])/\ ∀(ρ:CE) (css:List Frame) (w:World) (mb:zr) (u:Value),Yv ρ v u->Dl P base ρ cs lps css w [] mb->CF ρ st.mem st.next w->
   ∃c css' b' a' k' ma' mb',css=c::css'/\c.finish u=b'.atR a' (Vq C'.ro k')/\Np P base C' ρ b' a' k' css' w ma' mb'/\Nb b' css'=Nb c css':=by
 unfold IN at h;split at h
 .rename_i cx ops i o l todo rnd rs env cs';split at h
  .rename_i st' hp;obtain rfl:=Ag h;obtain ⟨p1,p2,p3,p4⟩:=Wt hp;refine ⟨⟨hcs _ (Br ..),fun af haf=>hcs af (by simp [haf]),by rw [show st'.next=st.next from p2];exact hle⟩,p1,p2,p3,by simp,fun ρ css w mb u hv hr cZ=> ?_⟩;obtain ⟨hc,hnd,hmk,hlp,hinj⟩:=hr;cases hc with
   | @cons _ b a k ms _ css' mss hf hl ht=>
    simp only at hf hl;refine ⟨_,css',b,a.put o.dst u,k,ms,mss,rfl,?_,⟨⟨hf.env.put hv ?_,by rw [Act.put_defers'];exact hf.defers,hf.todo,?_,hf.rnd⟩,hl,⟨ht,hnd,hmk,hlp,hinj⟩,?_⟩,by cases css' <;> rfl⟩
    .obtain ⟨hro,_⟩:=hf.ro;have hi:ops.toList[i]? =some o:=by
      have:=AE (·[0]?) hro
      grind
     have hi':ops[i]? =some o:=(by grind);have hlt:i<ops.size:=(AI.1 hi').1;have hd:(List.range ops.size).drop i=i::(List.range ops.size).drop (i+1):=by rw [AT (by grind)];simp
     grind [Vq,Frame.finish_atR]
    .rcases p4 with ⟨e,e2⟩ | ⟨d,e,hlt,e2⟩
     .exact .inl ⟨e,e2⟩
     .exact .inr ⟨d,e,hlt,e2⟩
    .obtain ⟨hro,eA⟩:=hf.ro;refine ⟨?_,eA⟩;have:=AE List.tail hro
     simpa using this
    .show CF ρ st'.mem st'.next w
     rw [show st'.mem=st.mem from p1,show st'.next=st.next from p2];exact cZ
  .cases h
 .rename_i cx j k rnd rs env cs';obtain rfl:=Ag h;refine ⟨⟨hcs _ (Br ..),fun af haf=>hcs af (by simp [haf]),hle⟩,rfl,rfl,rfl,by simp,fun ρ css w mb u hv hr cZ=> ?_⟩;obtain ⟨hc,hnd,hmk,hlp,hinj⟩:=hr;cases hc with
  | @cons _ b a k0 ms _ css' mss hf hl ht=>
   simp only at hf hl;have htd:=hf.todo;cases htd with
   | cons hx htl=>
    cases hx with
    | same _ hp=>cases hp
    | inR _ l hlj=>exact ⟨_,css',b,a,_,ms,mss,rfl,finish_atR_inRangeFunc l u,⟨⟨hf.env,hf.defers,.cons (.endR _ l hlj) htl,trivial,hf.rnd⟩,hl,⟨ht,hnd,hmk,hlp,hinj⟩,cZ⟩,by cases css' <;> rfl⟩
 .cases h
theorem w7q {b:Frame} {a:Act} {k:List Item} {cs:List Frame} {w:World} {ops:Array Oper} {i:Nat} {rest:zr} {o:Oper} {f:FuncId} {args:Array Value} (ho:ops[i]? =some o) (hnd: ∀c,o.op≠ .defer c) (hw:Region.wanted o (yielded ops a.tmps)=true)
  (hr:(execOp a.eval o).run P w=.ok (.enter f args) w):step P (lone (b.atR a (.inRegion ops (i::rest)::k)) cs w)=.next (lone (Frame.enter P f args .normal) (b.atR a (.inRegion ops (i::rest)::k)::cs) w):=by
 have hg:=stepGR_op (P:=P) (b:=b) (k:=k) (cs:=cs) (w:=w) (rest:=rest) ho hw;rw [Oper.semAt_eq _ _ _ hnd] at hg;exact step_lone_go (by simp_all [stepG.apply,Frame.atR])
theorem w7p {b:Frame} {a:Act} {k:List Item} {cs:List Frame} {w:World} {ops:Array Oper} {i:Nat} {rest:zr} {o:Oper} {l:Nat} {f:FuncId} {tmps:Array Value} {assign body:Code} (ho:ops[i]? =some o) (hnd: ∀c,o.op≠ .defer c) (hw:Region.wanted o (yielded ops a.tmps)=true)
  (hr:(execOp a.eval o).run P w=.ok (.round l f tmps assign body) w):step P (lone (b.atR a (.inRegion ops (i::rest)::k)) cs w)=.next (lone (Frame.round l f tmps assign body .normal) (b.atR a (.inRegion ops (i::rest)::k)::cs) w):=by
 have hg:=stepGR_op (P:=P) (b:=b) (k:=k) (cs:=cs) (w:=w) (rest:=rest) ho hw;rw [Oper.semAt_eq _ _ _ hnd] at hg;exact step_lone_go (by simp_all [stepG.apply])
theorem z3i {ρ:CE} {n:Nat}: ∀{ps:List Tmp} {args:zy} {env env':T B9} {vals:List Value} {tmps:Array Value},ZK n ps args env=some env'->Vy ρ env n tmps->Vg (Yv ρ) args vals->
  ps.length=vals.length/\Vy ρ env' n ((ps.zip vals).foldl (fun t p=>t.setIfInBounds p.1 p.2) tmps)
 | [],[],env,env',vals,tmps,h,he,ha=>by cases ha;obtain rfl:=Ag h;simp_all
 | t::ps,x::args,env,env',vals,tmps,h,he,ha=>by
  cases ha with
  | @cons _ u _ vals hx ha=>
   unfold ZK at h;obtain ⟨hc,h⟩:=Zo h;have hlt:=Al hc;have he':Vy ρ (T.set .undef env t x) n (tmps.setIfInBounds t u):=by have:=Vy.put (a:=⟨tmps,[]⟩) (dst:=some t) he hx (.inr ⟨t,rfl,hlt,rfl⟩);exact this
   obtain ⟨h1,h2⟩:=z3i h he' ha;simp_all
 | [],_::_,_,_,_,_,h,_,_=>by cases h
 | _::_,[],_,_,_,_,h,_,_=>by cases h
theorem Fl.enter {fl:Nat} {cx:CP} {ro:Option CZ} {todo:List Item} {rnd:Option Nat} {rs:List ResultVar} {st:St} {cs:List Ci} {lps lps':CQ} (h:Fl fl ⟨cx,ro,todo,rnd,rs,st,cs,lps⟩) {n:Nat} {todo':List Item} {rnd':Option Nat} {rs':List ResultVar} {st':St} {ro':Option CZ} {td:List Item} {e:T B9} (hn:st.next<=st'.next):
  Fl fl ⟨⟨n,cx.floor,cx.sym⟩,none,todo',rnd',rs',st',⟨cx,ro',td,rnd,rs,e⟩::cs,lps'⟩:=
 ⟨h.cx,fun af haf=>by
  rcases AN.1 haf with rfl | haf
  .exact h.cx
  .exact h.cs af haf,AG h.le hn⟩
theorem x1d {base:Nat} {ρ:CE} {f:FuncId} {args:zy} {cx:CP} {ro':Option CZ} {td:List Item} {rnd:Option Nat} {rs:List ResultVar} {e:T B9} {st:St} {cs:List Ci} {lps:CQ} {C':CI} {b:Frame} {a:Act} {k:List Item} {css:List Frame} {w:World} {ma mb:zr} {vals:Array Value}
  (h:Rl P f args ⟨cx,ro',td,rnd,rs,e⟩ st cs lps=some C') (hf:Ft ρ cx ro' td rnd e b a k ma) (hlv:cs≠ []->v8r P rnd rs b) (hr:Dl P base ρ cs lps css w ma mb) (cZ:CF ρ st.mem st.next w) (dC:Vg (Yv ρ) args vals.toList):
  ∃fn body,P.funcs[f]? =some fn/\fn.body=some body/\C'=⟨⟨Nat.max fn.ntmps args.length,cx.floor,cx.sym⟩,none,[.code body],none,fn.results.toList,st.withEnv (FL args 0 .leaf),⟨cx,ro',td,rnd,rs,e⟩::cs,lps⟩/\
   ∃b' a' k',Frame.enter P f vals .normal =b'.atR a' (Vq none k')/\Np P base C' ρ b' a' k' (b.atR a (Vq ro' k)::css) w [] (ma++mb):=by
 unfold Rl at h;split at h
 .rename_i fn hfn;split at h
  .rename_i body hb;obtain rfl:=Ag h;refine ⟨fn,body,hfn,hb,rfl,⟨f, #[],[],[],.run,.normal,none⟩,{tmps:=vals++Array.replicate (fn.ntmps - vals.size) undef,defers:=[]},[.code body],?_,⟨⟨y7t dC fn.ntmps,rfl,.cons (.same _ rfl) .nil,trivial,rfl⟩,fun _=>⟨rfl,fun _=>⟨fn,hfn,rfl⟩⟩,?_,cZ⟩⟩
   .grind [Frame.enter,Frame.atR,Vq]
   .exact ⟨.cons hf hlv hr.cs,hr.nodup,hr.marks,hr.loops,hr.inj⟩
  .cases h
 .cases h
theorem W0 {ρ:CE} {ops:Array Oper} {o:Oper} {cx:CP} {st st1:St} {e:Bool} (h:GD ops o cx st=some (e,st1)):st1.mem=st.mem/\st1.next=st.next/\(st1.ob=true->st.ob=true/\ ∀{tmps:Array Value},Vy ρ st.env cx.n tmps->Vy ρ st1.env cx.n tmps/\Region.wanted o (yielded ops tmps)=e):=by obtain ⟨w1,w2,w3⟩:=Wc h;refine ⟨w1,w2,fun ho=>⟨(w3 ho).1,fun {tmps} he=>⟨he.congr fun t=>(w3 ho).2 t,Uv h ho he.size fun d _=>he.get d⟩⟩⟩
theorem x9s {ops:Array Oper} {i:Nat} {o:Oper} {l:List Oper} (h:o::l=ops.toList.drop i):ops[i]? =some o/\l=ops.toList.drop (i+1)/\(List.range ops.size).drop i=i::(List.range ops.size).drop (i+1):=by
 have hi:ops.toList[i]? =some o:=by
  have:=AE (·[0]?) h
  grind
 have hi':ops[i]? =some o:=by grind
 have hlt:i<ops.size:=(AI.1 hi').1;refine ⟨hi',?_,?_⟩
 .have:=AE List.tail h
  simpa using this
 .rw [AT (by grind)];simp
theorem XC {ops:Array Oper} (h:HA ops=true) {i:Nat} {o:Oper} (ho:ops[i]? =some o) (c:Call):o.op≠ .defer c:=by
 intro hc;have hm:o∈ops.toList:=by grind
 have:=Au.1 h o hm
 grind
theorem y8f {ρ:CE} {st:St} {n:Nat} {a:Act} (he:Vy ρ st.env n a.tmps) (args:Array Operand):Vg (Yv ρ) (args.toList.map st.eval) (args.map a.eval).toList :=by rw [Bt];exact Vg.maps _ _ _ fun x _=>he.eval x
theorem x8e {ops:Array Oper} {m i:Nat} (hm:m<=ops.size) (h:i<m):(Ws ops m)[i]? =ops[i]? :=by
 grind [Ws]
theorem v3h {ops:Array Oper} {m i:Nat} (hm:m<=ops.size) (h:m<=i):(Ws ops m)[i]? =(ops[i]?).map Ei:=by
 grind [Ws]
theorem x4o {ops:Array Oper} {m:Nat} (hm:m<=ops.size):(Ws ops m).size =ops.size:=by simp [Ws];omega
theorem y1v {ops:Array Oper} {m:Nat} (hm:m<=ops.size) (i:Nat):((Ws ops m)[i]?).map (·.after)=(ops[i]?).map (·.after):=by
 by_cases h:i<m
 .rw [x8e hm h]
 .rw [v3h hm (by omega)];cases ops[i]? <;> rfl
theorem w7o (md:Region.Mode) {ops:Array Oper} {m:Nat} (hm:m<=ops.size) (listed:Array Bool):Region.ready md (Ws ops m) listed=Region.ready md ops listed:=by
 grind [Region.ready,y1v,Ws]
theorem w4v (md:Region.Mode) {ops:Array Oper} {m:Nat} (hm:m<=ops.size): ∀(fuel t:Nat) (listed:Array Bool) (acc:zr),Region.linearise.go md (Ws ops m) fuel t listed acc=Region.linearise.go md ops fuel t listed acc
 | 0,t,listed,acc=>rfl
 | fuel+1,t,listed,acc=>by
  have e:=w7o md hm listed;unfold Region.ready at e;simp only [Region.linearise.go];rw [e];split
  .exact w4v md hm fuel _ _ _
  .rfl
theorem w8a {ops:Array Oper} (eQ: ∀(j:Nat) o,ops[j]? =some o-> ∀e∈o.after.toList,Region.binds .any e=true->e.on<j): ∀listed:Array Bool,listed.size=ops.size-> ∀i,i<ops.size->listed.getD i false=false-> ∃j,j∈Region.ready .any ops listed:=by
 intro listed hsz i
 induction i using Nat.strongRecOn with
 | _ i ih=>
  intro hi hl;by_cases h: ∃e∈(ops[i]).after.toList,Region.binds .any e=true/\listed.getD e.on false=false
  .grind
  .refine ⟨i,mem_ready.2 ⟨?_,ops[i],by simp [hi],fun e he hb=> ?_⟩⟩;all_goals grind
theorem w6d {ops:Array Oper} (eQ: ∀(j:Nat) o,ops[j]? =some o-> ∀e∈o.after.toList,Region.binds .any e=true->e.on<j) (fuel t:Nat) (listed:Array Bool) (hsz:listed.size=ops.size) (hcl:HJ ops (fun i=>listed.getD i false)) {q:Nat} (hq:q<ops.size) (hl:listed.getD q false=false):
  ∃i x t',ops[i]? =some x/\listed.getD i false=false/\HR (fun i=>listed.getD i false) x/\Region.linearise.go .any ops (fuel+1) t listed []=i::Region.linearise.go .any ops fuel t' (listed.setIfInBounds i true) []/\
   (listed.setIfInBounds i true).size =ops.size/\HJ ops (fun q=>(listed.setIfInBounds i true).getD q false)/\ ∀q,(listed.setIfInBounds i true).getD q false=(listed.getD q false||q == i):=by
 obtain ⟨j0,hj0⟩:=w8a eQ listed hsz q hq hl;have hne:Region.ready .any ops listed≠ []:=fun e=>by grind
 have hlt:t %(Region.ready .any ops listed).length <(Region.ready .any ops listed).length :=Bx _ (List.length_pos_iff.2 hne);have hgo:Region.linearise.go .any ops (fuel+1) t listed []=(match (Region.ready .any ops listed)[t %(Region.ready .any ops listed).length]? with
  | some i=>Region.linearise.go .any ops fuel (t / (Region.ready .any ops listed).length) (listed.setIfInBounds i true) [i]
  | none=>[].reverse):=rfl
 rw [hgo,At hlt];simp only;have hi:=AS hlt;generalize (Region.ready .any ops listed)[t %(Region.ready .any ops listed).length]=i at hi;obtain ⟨h1,x,hx,hr⟩:=mem_ready.1 hi;have hil:i<ops.size:=(AI.1 hx).1;have hils:i<listed.size:=by omega
 have hif:listed.getD i false=false:=by grind
 rw [linearise_go_acc,List.reverse_singleton,List.singleton_append];have eN: ∀q,(listed.setIfInBounds i true).getD q false=(listed.getD q false||q == i):=fun q=>by
  by_cases hq:q=i
  .simp_all
  .have:(q == i)=false:=by simp [hq]
   rw [this,BY];simp [Array.getD_eq_getD_getElem?,Ne.symm hq]
 have dI:HR (fun i=>listed.getD i false) x:=fun e he hb=>hr e (Array.mem_toList_iff.1 he) hb;refine ⟨i,x,_,hx,hif,dI,rfl,by grind,fun j y hy hs e he hb=> ?_,eN⟩;simp only [eN] at hs ⊢;by_cases hji:j=i
 .grind
 .have hs':listed.getD j false=true:=by grind
  have:=hcl j y hy hs' e he hb
  grind
theorem w6c {ops:Array Oper} {m:Nat} (eQ: ∀(j:Nat) o,ops[j]? =some o-> ∀e∈o.after.toList,Region.binds .any e=true->e.on<j) (hf: ∀j x,m<=j->ops[j]? =some x-> ∀i,i<j->JJ ops i x):
  ∀(fuel t j:Nat) (listed:Array Bool),listed.size=ops.size->HJ ops (fun i=>listed.getD i false)->m<=j->j+fuel=ops.size->(∀q,q<j->listed.getD q false=true)->(∀q,j<=q->listed.getD q false=false)->Region.linearise.go .any ops fuel t listed []=(List.range ops.size).drop j
 | 0,t,j,listed,hsz,hcl,hj,hn,h1,h2=>by rw [Av (by simp;omega)];rfl
 | fuel+1,t,j,listed,hsz,hcl,hj,hn,h1,h2=>by
  obtain ⟨i,x,t',hx,hif,hr,hgo,fE,hcl',eN⟩:=w6d eQ fuel t listed hsz hcl (q:=j) (by omega) (h2 j (Ar _));have hij: ¬i<j:=fun e=>by rw [h1 i e] at hif;cases hif
  have e:i=j:=by
   by_cases h:j<i
   .have:listed.getD j false=true:=hf i x (by omega) hx j h _ hcl hr;rw [h2 j (Ar _)] at this;cases this
   .omega
  subst e;rw [hgo,w6c eQ hf fuel t' (i+1) _ fE hcl' (by omega) (by omega) (fun q hq=>by
   rw [eN];by_cases e:q=i
   .simp [e]
   .rw [h1 q (by omega)];rfl) (fun q hq=>by
   rw [eN,h2 q (by omega)];simp;omega)]
  rw [AT (show i<(List.range ops.size).length by simp;omega)];simp
theorem u3t {ops:Array Oper} {m:Nat} (eQ: ∀(j:Nat) o,ops[j]? =some o-> ∀e∈o.after.toList,Region.binds .any e=true->e.on<j) (hm:m<ops.size) (hf: ∀j x,m<=j->ops[j]? =some x-> ∀i,i<j->JJ ops i x):
  ∀(fuel t:Nat) (listed:Array Bool),listed.size=ops.size->HJ ops (fun i=>listed.getD i false)->(List.range ops.size).countP (fun i=> !listed.getD i false)=fuel->(∀q,m<=q->listed.getD q false=false)->
   ∃l,Region.linearise.go .any ops fuel t listed []=l++(List.range ops.size).drop m/\ ∀i∈l,i<m:=by
 intro fuel
 induction fuel with
 | zero=>
  intro t listed hsz _ hc hl;have:=List.countP_eq_zero.1 hc m (AP.2 hm)
  grind
 | succ fuel ih=>
  intro t listed hsz hcl hc hl;obtain ⟨i,x,t',hx,hif,hr,hgo,fE,hcl',eN⟩:=w6d eQ fuel t listed hsz hcl hm (hl m (Ar _));have hil:i<ops.size:=(AI.1 hx).1;have hc':(List.range ops.size).countP (fun q=> !(listed.setIfInBounds i true).getD q false)=fuel:=by have:=z3z (fun q=> !listed.getD q false) (fun q=> !(listed.setIfInBounds i true).getD q false) i ops.size (fun k hk=>by grind) (by grind) (by grind) hil;omega
  by_cases him:i<m
  .obtain ⟨l,h2,h3⟩:=ih t' (listed.setIfInBounds i true) fE hcl' hc' (fun q hq=>by grind)
   grind
  .have e:i=m:=by
    by_cases h:m<i
    .have:listed.getD m false=true:=hf i x (by omega) hx m h _ hcl hr
     grind
    .omega
   subst e;have eB: ∀q,q<i->listed.getD q false=true:=fun q hq=>hf i x (Ar _) hx q hq _ hcl hr;refine ⟨[],?_,fun q hq=>by cases hq⟩;have hcount:fuel+1+i=ops.size:=by
    rw [<-hc];have key: ∀n,i<=n->n<=ops.size->(List.range n).countP (fun q=> !listed.getD q false)+i=n:=by
     intro n
     induction n with
     | zero=>grind
     | succ n ihn=>
      intro h1 h2;rw [BQ,List.countP_append];by_cases e:i<=n
      .grind
      .have hni:n+1=i:=(by omega);have h0:(List.range n).countP (fun q=> !listed.getD q false)=0:=List.countP_eq_zero.2 fun q hq=>by
        grind
       grind
    grind
   grind [w6c]
theorem y9v {b:Frame} {k:List Item} {cs:List Frame} {ops:Array Oper} {Q:Exit->Act->World->Prop} (hQ: ∀e a w,Q e a w->e=.normal) {m:Nat} (hm:m<=ops.size) (hnd:HA ops=true)
  (hg: ∀i x g,i<m->ops[i]? =some x->x.guard=some g->g.1<m) {r:zr} (hr: ∀i∈r,m<=i): ∀(l:zr) (a:Act) (w:World),(∀i∈l,i<m)->wpOps P (Ws ops m) Q (l++r) a w->
   ∃a' w',Q .normal a' w'/\Steps P (lone (b.atR a (.inRegion ops (l++r)::k)) cs w) (lone (b.atR a' (.inRegion ops r::k)) cs w')
 | [],a,w,_,h=>by
  refine ⟨a,w,?_,Steps.refl _ _⟩;rw [A1] at h;clear hg
  induction r with
  | nil=>exact h
  | cons i r ih=>
   refine ih (fun q hq=>hr q (by simp [hq])) ?_;simp only [wpOps] at h;rw [v3h hm (hr i (by simp))] at h;cases ho:ops[i]? with
   | none=>grind
   | some o=>
    rw [ho] at h;simp only [BZ] at h;have hw:Region.wanted (Ei o) (yielded (Ws ops m) a.tmps)=true:=rfl;rw [AJ hw] at h;rcases h with h | ⟨_,a0,w0,h0⟩
    .have h:wpOps P (Ws ops m) Q r (a.put none (a.eval (.const (.bool true)))) w:=h;exact h
    grind
 | i::l,a,w,hl,h=>by
  have him:=hl i (by simp);simp only [BV,wpOps] at h;rw [x8e hm him] at h;have hil:i<ops.size:=by omega
  obtain ⟨x,hx⟩: ∃x,ops[i]? =some x:=⟨ops[i],by simp [hil]⟩
  rw [hx] at h;simp only at h;have hy:Region.wanted x (yielded (Ws ops m) a.tmps)=Region.wanted x (yielded ops a.tmps):=by
   grind [Region.wanted,yielded,x8e]
  rw [hy] at h;have h':if Region.wanted x (yielded ops a.tmps) then x.wp P a w (wpOps P (Ws ops m) Q (l++r)) Q else wpOps P (Ws ops m) Q (l++r) (a.put x.dst undef) w:=by
   by_cases hw:Region.wanted x (yielded ops a.tmps)=true
   .simp only [hw,if_true] at h ⊢;rcases h with h | ⟨_,a0,w0,h0⟩;all_goals grind
   grind
  obtain ⟨a1,w1,h1,s1⟩:=x2w (b:=b) (k:=k) (cs:=cs) (rest:=l++r) hQ hx (XC hnd hx) h';obtain ⟨a',w',hR,hs⟩:=y9v hQ hm hnd hg hr l a1 w1 (fun q hq=>hl q (by simp [hq])) h1;exact ⟨a',w',hR,s1.trans hs⟩
theorem y9q {st:St} {ops:List Oper}: ∀(l:List Oper) (i:Nat) {m:Nat},ZN st ops l i=some m->i<=m/\m<i+l.length
 | [],i,m,h=>by cases h
 | o::l,i,m,h=>by
  unfold ZN at h;cases hy:v6r st ops o with
  | true=>grind
  | false=>
   rw [hy] at h;have:=y9q l (i+1) h
   grind
theorem w7n {ops:Array Oper} {st:St} {m:Nat} (h:j1p ops st=some m):m<ops.size/\HA ops=true/\N1 0 (Ws ops m)=true/\(∀j x,m<=j->(Ws ops m)[j]? =some x-> ∀i,i<j->JJ (Ws ops m) i x)/\
  ∀i x g,i<m->ops[i]? =some x->x.guard=some g->g.1<m:=by
 unfold j1p at h;split at h
 .rename_i m' hd;obtain ⟨hc,h⟩:=Zo h;obtain rfl:=Ag h;have hlt:=(y9q _ _ hd).2;rw [Ah,Array.length_toList] at hlt;simp only [u6d,Ac] at hc;obtain ⟨hnd,hdr,eB,hgd⟩:=hc;refine ⟨hlt,hnd,hdr,fun j x hj hx i hi=> ?_,fun i x g hi hx hgx=> ?_⟩
  .have hjl:j<ops.size:=by grind [x4o]
   have:=Au.1 eB j (AP.2 hjl);simp only [BD] at this;rcases this with h1 | h1
   .have:=Al h1;omega
   .exact ((z8p hdr).bits j x hx i (Au.1 h1 i (AP.2 hi))).2
  .have h2:=Au.1 hgd i (AP.2 hi);rw [hx] at h2;obtain ⟨dst,op,type,pos,after,guard⟩:=x;simp only at hgx;subst hgx;obtain ⟨j,want⟩:=g;exact Al h2
 .cases h
end
section
variable {P:Program} {ρ:CE}
theorem CF.setObj {mem:CJ} {next:Nat} {w:World} (h:CF ρ mem next w) {b:Nat} {l:C3} {ab:CG} {o':H0} {r':zy} (hb:ρ b=some l) (hm:Yn mem b=some ab) (hob:ab.isObj=true) (dA:r'.length+1=ab.cells.length)
  (x:Obj) (hx:JK ρ ab.ty l.blk r' o' (some x)):CF ρ (Wv mem b (some ⟨.obj o'::r',ab.ty,none⟩)) next (w.putObj l.blk x):=by
 have hlt:=h.real b l hb;have hn:l=⟨l.blk,0,r'.length+1,r'.length+1⟩:=by
  have:=(h.blk b l ab hb hm)
  cases this with
  | plain k=>have:=k.noObj;rw [this] at hob;cases hob
  | obj o r ty e1 e2 _=>subst e1;rw [e2];simp only [AZ] at dA;rw [dA]
 have iff: ∀c,(Yn (Wv mem b (some ⟨.obj o'::r',ab.ty,none⟩)) c).isSome =(Yn mem c).isSome :=fun c=>by
  rw [Vp];split
  .rename_i e;rw [e,hm];rfl
  .rfl
 refine ⟨h.dom,fun c c' m m' e e' he hs hs'=>h.inj c c' m m' e e' he (by rw [<-iff];exact hs) (by rw [<-iff];exact hs'),fun c m ac e hc=> ?_,fun k o e=> ?_,fun c m e hs=>h.sep c m e (by rw [<-iff];exact hs),fun c m e=>by rw [World.putObj_size];exact h.real c m e,fun c hc=> ?_,h.ldom⟩
 .by_cases hcb:c=b
  .subst hcb;rw [Yk] at hc;obtain rfl:=Ag hc;rw [hb] at e;obtain rfl:=Ag e;exact .obj o' r' ab.ty rfl hn (by rw [World.putObj_heap_same hlt];exact hx)
  .rw [Zv _ _ hcb] at hc;refine (h.blk c m ac e hc).world (CE.le_refl _) (World.putObj_heap_other fun heq=>hcb ?_);exact h.inj c b m l e hb heq (by rw [hc];rfl) (by rw [hm];rfl)
 .rw [World.putObj_heap_other]
  .exact h.old k o e
  .intro heq;have:=h.sep b l hb (by rw [hm];rfl);rw [<-heq,e] at this;cases this
 .have:=h.dom b l hb;rw [Zv _ _ (by omega)];exact h.bd c hc
theorem Ev.ofObj {mem:CJ} {next:Nat} {w:World} (h:CF ρ mem next w) {floor b:Nat} {l:C3} (hb:ρ b=some l) (hf:floor<=b) (o:Option CG) (x:Obj):
  Ev ρ ρ floor mem next (Wv mem b o) next w (w.putObj l.blk x) where
 ext:=CE.le_refl _
 new _ _:=rfl
 nxt:=Ar _
 unborn k _ e cs ty hm:=by
  rw [Zv]
  .exact hm
  .intro e';rw [e',hb] at e;cases e
 frame k o hk hfr:=by rw [World.putObj_heap_other fun e=>hfr b l hb hf e.symm];exact hk
 fresh k m hk e:=by have:=h.dom k m e;omega
 size:=by rw [World.putObj_size];exact Ar _
 os:=rfl
 tape:=rfl
 output:=rfl
 still _ _:=rfl
theorem CF.newObj {mem:CJ} {next:Nat} {w:World} (h:CF ρ mem next w) (o:H0) (r:zy) (ty:TypeId) (x:Obj) (hx:JK ρ ty w.heap.size r o (some x)):
  CF (Vb ρ next ⟨w.heap.size,0,r.length+1,r.length+1⟩) (Wv mem next (some ⟨.obj o::r,ty,none⟩)) (next+1) (w.alloc x):=by
 have hle:=JH (l:=⟨w.heap.size,0,r.length+1,r.length+1⟩) h.none_next;have dG: ∀b l,Vb ρ next ⟨w.heap.size,0,r.length+1,r.length+1⟩ b=some l->(b=next/\l=⟨w.heap.size,0,r.length+1,r.length+1⟩)\/(b≠next/\ρ b=some l):=fun b l e=>by
  grind [Vt]
 have hold: ∀k,k<w.heap.size->(w.alloc x).heap[k]? =w.heap[k]? :=fun k hk=>by show (w.heap.push x)[k]? =_;rw [Array.getElem?_push,AC (BC hk)]
 have hnew:(w.alloc x).heap[w.heap.size]? =some x:=World.alloc_heap_new w x;have eY:(w.alloc x).heap.size =w.heap.size+1:=Array.size_push _;refine ⟨fun b l e=> ?_,fun b b' l l' e e' hbl hs hs'=> ?_,fun b l ab e hm=> ?_,fun k o e=> ?_,fun b l e hs=> ?_,fun b l e=> ?_,fun b hb=>by rw [Zv _ _ (by omega)];exact h.bd b (by omega),⟨fun j l e=>Bo (h.ldom.1 j l e),h.ldom.2⟩⟩
 .rcases dG b l e with ⟨rfl,_⟩ | ⟨_,e⟩
  .omega
  .have:=h.dom b l e;omega
 .rcases dG b l e with ⟨hb,hl⟩ | ⟨hb,e2⟩ <;> rcases dG b' l' e' with ⟨hb',hl'⟩ | ⟨hb',e2'⟩
  .rw [hb,hb']
  .have:=h.real b' l' e2';grind
  .have:=h.real b l e2;grind
  .rw [Zv _ _ hb] at hs;rw [Zv _ _ hb'] at hs';exact h.inj b b' l l' e2 e2' hbl hs hs'
 .rcases dG b l e with ⟨rfl,rfl⟩ | ⟨hb,e⟩
  .rw [Yk] at hm;obtain rfl:=Ag hm;exact .obj o r ty rfl rfl (by rw [hnew];exact hx.mono hle)
  .rw [Zv _ _ hb] at hm;exact (h.blk b l ab e hm).world hle (hold _ (h.real b l e))
 .have hk:=h.old k o e;have hlt:=(AI.1 hk).1;rw [hold k hlt];exact hk
 .rcases dG b l e with ⟨rfl,rfl⟩ | ⟨hb,e⟩
  .exact h.hold _ (Ar _)
  .rw [Zv _ _ hb] at hs;exact h.sep b l e hs
 .rw [eY];rcases dG b l e with ⟨rfl,rfl⟩ | ⟨_,e⟩
  .show w.heap.size<_;omega
  .have:=h.real b l e;omega
theorem z8b {st:St} {w:World} (h:CF ρ st.mem st.next w) (floor:Nat) (o:H0) (r:zy) (ty:TypeId) (x:Obj) (hx:JK ρ ty w.heap.size r o (some x)) {v:B9} {u:Value}
  (dO: ∀ρ',ρ' st.next=some ⟨w.heap.size,0,r.length+1,r.length+1⟩->Yv ρ' v u):
  Dc ρ floor st (Cr st (.obj o::r) ty) v w (Vb ρ st.next ⟨w.heap.size,0,r.length+1,r.length+1⟩) u (w.alloc x):=
 ⟨dO _ (by simp [Vb]),h.newObj o r ty x hx,Ev.ofNew h floor _ _ _ (Ar _)⟩
theorem x2b {w:World} {k:Nat} {c cs:Array Value} {el:TypeId} {fz:Nat×Nat} (h:w.heap[k]? =some (.cells c el fz)):w.setRow k cs=w.putObj k (.cells cs el fz):=by
 unfold World.setRow World.putObj
 congr 1
 apply Array.ext_getElem?;intro i;rw [Array.getElem?_modify,Array.getElem?_setIfInBounds];have hlt:=(AI.1 h).1;by_cases e:k=i
 .subst e;rw [AJ rfl,AJ rfl,h];simp [hlt]
 .simp [e]
theorem w6p {w:World} {k:Nat} {s:ByteArray} {p:Nat} (h:w.heap[k]? =some (.stringIter s p)):(getObj k).run P w=.ok (.stringIter s p) w:=by simp [getObj,Sem.run,h]
theorem u0b {w:World} {k:Nat} {s:ByteArray} {p:Nat} {o':Obj} (h:w.heap[k]? =some (.stringIter s p)):(setObj k o').run P w=.ok () (w.putObj k o'):=by simp [setObj,Sem.run,h,World.putObj]
theorem v7n {w:World} {t:TypeId} {m:Array (String×TypeId)} (h:P.underlying t=some (.interface m)) (v:Value) (hv:v=.nilIface \/ ∃d z,v=.iface d z):(Op.equal t v .nilIface).run P w=.ok (match v with | .nilIface =>true | _=>false) w:=by
 have key: ∀d,(Op.equalIn (d+1) t v .nilIface).run P w=.ok (match v with | .nilIface =>true | _=>false) w:=fun d=>by rcases hv with rfl | ⟨d,z,rfl⟩ <;> simp [Op.equalIn,run_underlying h]
 exact key 9999
theorem CF.objAt {mem:CJ} {next:Nat} {w:World} (h:CF ρ mem next w) {b:Nat} {l:C3} {o:H0} {r:zy} {ty:TypeId} (hb:ρ b=some l) (hm:Yn mem b=some ⟨.obj o::r,ty,none⟩):JK ρ ty l.blk r o w.heap[l.blk]? :=by
 have:=h.blk b l _ hb hm;cases this with
 | plain k=>have:=k.noObj;cases this
 | obj o' r' ty' e1 e2 h3=>simp only [CG.mk.injEq,Bq,B9.obj.injEq] at e1;obtain ⟨⟨rfl,rfl⟩,rfl,_⟩:=e1;exact h3
theorem CF.objBase {mem:CJ} {next:Nat} {w:World} (h:CF ρ mem next w) {b:Nat} {l:C3} {o:H0} {r:zy} {ty:TypeId} (hb:ρ b=some l) (hm:Yn mem b=some ⟨.obj o::r,ty,none⟩):l.base=0:=by
 have:=h.blk b l _ hb hm;cases this with
 | plain k=>have:=k.noObj;cases this
 | obj o' r' ty' e1 e2 h3=>rw [e2]
def Ep {α:Type} (vf:α->Value) (es:List MapEntry) (l:List (zu×α)):Prop:=es.map (fun e=>(e.key,e.val))=l.map fun p=>(.string ⟨p.1.toArray⟩,vf p.2)
def GN {α:Type} (vf:α->Value) (k:zu):List (zu×α)->Nat->Option (Nat×Value)
 | [],_=>none
 | p::r,i=>bif k == p.1 then some (i,vf p.2) else GN vf k r (i+1)
theorem bytes_beq (a b:zu):((⟨a.toArray⟩:ByteArray) == ⟨b.toArray⟩)=(a == b):=by rw [AU,MapKept.bytes_beq,Bi];simp
theorem z8l {α:Type} (vf:α->Value) (k:zu): ∀(es:List MapEntry) (l:List (zu×α)) (i:Nat),Ep vf es l->Instr.findNow .string (.string ⟨k.toArray⟩) es i=some (GN vf k l i)
 | [],[],_,_=>rfl
 | [],_::_,_,h=>by cases h
 | _::_,[],_,h=>by cases h
 | e::es,p::l,i,h=>by
  unfold Ep at h;simp only [A0,Bq,Ae] at h;obtain ⟨⟨h1,h2⟩,h3⟩:=h;have ih:=z8l vf k es l (i+1) h3;unfold Instr.findNow GN;rw [h1];simp only [Instr.sameNow,bytes_beq];cases hk:(k == p.1) with
  | true=>rw [Ab,h2]
  | false=>rw [Aa];exact ih
theorem w6u {α:Type} (vf:α->Value) (d:α) (k:zu): ∀(l:List (zu×α)) (i:Nat),match GN vf k l i with
  | some (_,v)=>v=vf (getK d l k)/\PN l k=true
  | none=>getK d l k=d/\PN l k=false
 | [],_=>⟨rfl,rfl⟩
 | p::l,i=>by
  have ih:=w6u vf d k l (i+1);unfold GN getK PN;cases hk:(k == p.1) with
  | true=>simp [hk]
  | false=>simpa [hk,PN] using ih
theorem w6t {α:Type} (vf:α->Value) (k:zu) (v:α) (c:Nat): ∀(l:List (zu×α)) (es:List MapEntry) (i:Nat),Ep vf es l->match GN vf k l i with
  | some (j,_)=>i<=j/\(∃e,es[j - i]? =some e/\e.key=.string ⟨k.toArray⟩)/\Ep vf (es.modify (j - i) fun e=>{e with key:=.string ⟨k.toArray⟩,val:=vf v}) (Et l k v)
  | none=>Ep vf (es++[⟨.string ⟨k.toArray⟩,vf v,c⟩]) (Et l k v)
 | [],es,i,h=>by
  have:es=[]:=by unfold Ep at h;simpa using h
  subst this;simp [GN,Et,Ep]
 | p::l,[],i,h=>by cases h
 | p::l,e::es,i,h=>by
  unfold Ep at h;simp only [A0,Bq,Ae] at h;obtain ⟨⟨h1,h2⟩,h3⟩:=h;have ih:=w6t vf k v c l es (i+1) h3;unfold GN Et;cases hk:(k == p.1) with
  | true=>
   have hk':k=p.1:=by simpa using hk
   simp only [Ab,Nat.sub_self];refine ⟨Ar _,⟨e,rfl,by rw [h1,hk']⟩,?_⟩;unfold Ep;simp only [List.modify_zero_cons,A0,Bq,Ae];exact ⟨⟨by rw [hk'],trivial⟩,h3⟩
  | false=>
   simp only [Aa];cases hf:GN vf k l (i+1) with
   | none=>rw [hf] at ih;unfold Ep at ih ⊢;simp only [BV,A0,Bq,Ae];exact ⟨⟨h1,h2⟩,ih⟩
   | some q=>rw [hf] at ih;obtain ⟨j,x⟩:=q;simp only at ih ⊢;obtain ⟨k1,⟨e',k2,k3⟩,k4⟩:=ih;have hj:j - i=(j - (i+1))+1:=(by omega);refine ⟨by omega,⟨e',by rw [hj];exact k2,k3⟩,?_⟩;rw [hj];unfold Ep at k4 ⊢;simp only [List.modify_succ_cons,A0,Bq,Ae];exact ⟨⟨h1,h2⟩,k4⟩
theorem z6w {α:Type} (vf:α->Value) (d:α) {w:World} {t kt et:TypeId} {r clock:Nat} {es:Array MapEntry} {l:List (zu×α)} (hm:P.underlying t=some (.map kt et)) (hk:P.underlying kt=some .string)
  (hz:(zeroValue et).run P w=.ok (vf d) w) (hb:w.heap[r]? =some (.map es clock)) (hes:Ep vf es.toList l) (k:zu) (co:Bool):
  (Instr.lookup t (.map (some r)) (.string ⟨k.toArray⟩) co).run P w=.ok (if co then .tuple #[vf (getK d l k),.bool (PN l k)] else vf (getK d l k)) w:=by
 have hf:=z8l vf k es.toList l 0 hes;have hc: ∀b,(Instr.checkKey b 10000 kt (.string ⟨k.toArray⟩)).run P w=.ok () w:=fun b=>MapKept.run_checkKey (k:=.string ⟨k.toArray⟩) hk (by simp [MapKept.IsKey]) b 9999;have hg:=w6u vf d k l 0;cases hfk:GN vf k l 0 with
 | none=>rw [hfk] at hf hg;simp only at hg;rw [hg.1,hg.2];simp [Instr.lookup,run_underlying hm,MapKept.run_getObj_map hb,hc,MapKept.run_findKey hk hf,hz,Result.andThen]
 | some q=>obtain ⟨j,v⟩:=q;rw [hfk] at hf hg;simp only at hg;rw [<-hg.1,hg.2];simp [Instr.lookup,run_underlying hm,MapKept.run_getObj_map hb,hc,MapKept.run_findKey hk hf,Result.andThen]
theorem z6v {α:Type} (vf:α->Value) {w:World} {t kt et:TypeId} {r clock:Nat} {es:Array MapEntry} {l:List (zu×α)} (hm:P.underlying t=some (.map kt et)) (hk:P.underlying kt=some .string)
  (hb:w.heap[r]? =some (.map es clock)) (hes:Ep vf es.toList l) (k:zu) (v:α):
  ∃es' clock',(Instr.mapUpdate t (.map (some r)) (.string ⟨k.toArray⟩) (vf v)).run P w=.ok () (w.putObj r (.map es' clock'))/\Ep vf es'.toList (Et l k v):=by
 have hf:=z8l vf k es.toList l 0 hes;have hc: ∀b,(Instr.checkKey b 10000 kt (.string ⟨k.toArray⟩)).run P w=.ok () w:=fun b=>MapKept.run_checkKey (k:=.string ⟨k.toArray⟩) hk (by simp [MapKept.IsKey]) b 9999;have hg:=w6t vf k v clock l es.toList 0 hes;cases hfk:GN vf k l 0 with
 | none=>rw [hfk] at hf hg;simp only at hg;refine ⟨es.push ⟨.string ⟨k.toArray⟩,vf v,clock⟩,clock+1,?_,by simpa using hg⟩;simp [Instr.mapUpdate,run_underlying hm,MapKept.run_getObj_map hb,hc,MapKept.run_findKey hk hf,MapKept.run_setObj_map _ hb,Result.andThen,World.putObj]
 | some q=>
  obtain ⟨j,x⟩:=q;rw [hfk] at hf hg;simp only [Nat.sub_zero] at hg;obtain ⟨_,⟨e,h1,h2⟩,h3⟩:=hg;have h1':es[j]? =some e:=by simpa using h1
  refine ⟨es.modify j fun e=>{e with key:=.string ⟨k.toArray⟩,val:=vf v},clock,?_,by simpa using h3⟩;have hs: ∀w:World,(Instr.keyThatStays (.string ⟨k.toArray⟩) (.string ⟨k.toArray⟩)).run P w=.ok (.string ⟨k.toArray⟩) w:=fun w=>by simp [Instr.keyThatStays,Instr.sameBits,(MapKept.bytes_beq (⟨k.toArray⟩:ByteArray) ⟨k.toArray⟩).2 rfl]
  simp [Instr.mapUpdate,run_underlying hm,MapKept.run_getObj_map hb,hc,MapKept.run_findKey hk hf,MapKept.run_setObj_map _ hb,Result.andThen,World.putObj,h1',h2,hs]
theorem x1h {v:B9} {u:Value} (h:Rq v=true) (hr:Yv ρ v u):u=.int .u8 ((TY v).toNat :Int):=by
 unfold Rq at h;split at h
 .rename_i n;have h:=Ax h;cases hr;simp only [TY]
  congr 1
  have:(UInt8.ofNat n.toNat).toNat =n.toNat:=by rw [UInt8.toNat_ofNat'];omega
  rw [this];omega
 .cases h
def v8u (w:World) (el:TypeId) (g o:Nat) (s:zu):Prop:= ∃cs,w.heap[g]? =some (.cells cs el (0,0))/\(s≠ []->o+s.length<=cs.size)/\ ∀j x,s[j]? =some x->cs[o+j]? =some (.int .u8 x.toNat)
theorem z5u {mem:CJ} {next:Nat} {w:World} (cZ:CF ρ mem next w) {v:B9} {u:Value} {s:zu} (h:TV mem v=some (s,true)) (hv:Yv ρ v u):
  (u=.slice none 0 0/\s=[])\/ ∃b l g o c el,U6 v=some b/\ρ b=some l/\(Yn mem b).isSome =true/\l.blk=g/\u=.slice (some ⟨g,o,none⟩) s.length c/\s.length<=c/\(∀ab,Yn mem b=some ab->el=ab.ty)/\v8u w el g o s:=by
 unfold TV at h;split at h
 .simp only [Ad,Ae] at h;obtain ⟨rfl,_⟩:=h;cases hv;exact .inl ⟨rfl,rfl⟩
 .rename_i b off len cap;split at h
  .rename_i blk hm;obtain ⟨hno,h⟩:=N0 h;split at h
   .rename_i cs hc;simp only [Ad,Ae] at h;obtain ⟨rfl,eB⟩:=h;obtain ⟨k1,k2,k3⟩:=NM hc;cases hv with
    | sl _ _ _ _ l c hl _ dA=>
     obtain ⟨hty,hn,ht,_,cur,el,h1,h2,h3⟩:=(cZ.blk b l blk hl hm).at hno;refine .inr ⟨b,l,l.blk,l.base+off,c,el,rfl,hl,by rw [hm];rfl,rfl,by simp [k2],by simpa [k2] using dA,fun ab e=>by rw [hm] at e;rw [<-Ag e];exact hty _ _ _ h1,cur,h1,?_,fun j x hx=> ?_⟩
     .intro hne;have:len≠0:=fun e=>hne (by rw [List.map_eq_nil_iff];exact BI (by rw [k2,e]));simp only [B0,k2];omega
     .simp only [BR,Aq] at hx;obtain ⟨y,hy,rfl⟩:=hx;have hj:j<cs.length:=(Bb.1 hy).1;obtain ⟨z,q1,q2⟩:=h3 (off+j) (by omega);have hyz:blk.cells[off+j]'(by omega)=y:=by
       have:cs[j]? =blk.cells[off+j]? :=by rw [k1,List.getElem?_take,AJ (by omega),List.getElem?_drop]
       rw [this,At (by omega)] at hy;exact Ag hy
      rw [hyz] at q2;have hby:=Au.1 eB y (List.mem_of_getElem? hy);rw [AL,q1,x1h hby q2]
   .cases h
  .cases h
 .rename_i b sz off len cap;split at h
  .rename_i blk hm;split at h
   .rename_i A hA;simp only [Ad,Ae,Ac,Ao] at h;obtain ⟨rfl,hs1,hs2,dJ,hok⟩:=h;obtain rfl:=Aj hs1;have hsz:=Aj hs2;have hok: ∀k,k<len-> ∃v,A.get (off+k)=[v]/\Rq v=true:=v5t (fun h k hk=>by
     have:=Au.1 h k (AP.2 hk);unfold v8d at this;split at this
     .rename_i v e;exact ⟨v,e,this⟩
     .cases this) hok
    have hlen0:(UA len fun k=>A.get (off+k)).length =len:=(by simp [UA]);cases hv with
    | slan=>exact .inl ⟨rfl,by simp [UA]⟩
    | sla _ _ _ _ _ l c hl _ dA=>
     obtain ⟨hty,hn,ht,har,cur,el,h1,h2,h3⟩:=(cZ.blk b l blk hl hm).rows hA;obtain ⟨a1,a2,a3⟩:=har A hA;have hrl:=Yg A.n a3;rw [<-a1,hsz,Nat.mul_one] at hrl;refine .inr ⟨b,l,l.blk,l.base+off*1,c,el,rfl,hl,by rw [hm];rfl,rfl,by rw [hlen0],by rw [hlen0];exact dA,fun ab e=>by rw [hm] at e;rw [<-Ag e];exact hty _ _ _ h1,cur,h1,?_,fun j x hx=> ?_⟩
     .intro _;rw [hlen0];omega
     .have hj:j<len:=by rw [<-hlen0];exact (Bb.1 hx).1
      obtain ⟨v0,e1,e2⟩:=hok j hj;obtain ⟨z,q1,q2⟩:=h3 (off+j) (by omega);have hg:blk.cells[off+j]? =some v0:=by
       have:=Vj A.n a3 (off+j) 0 (by omega) (by omega);rw [hsz] at this;rw [a1]
       simpa [e1] using this
      have hyz:blk.cells[off+j]'(by omega)=v0:=by rw [At (by omega)] at hg;exact Ag hg
      rw [hyz] at q2;have hx':x=TY v0:=by simp only [UA,BR,List.getElem?_range hj,BZ,Ad] at hx;rw [<-hx,e1];rfl
      rw [Nat.mul_one,AL,q1,x1h e2 q2,hx']
   .cases h
  .cases h
 .cases h
theorem v4h {w:World} {g o c:Nat} {el:TypeId} {s:zu} (h:v8u w el g o s):(Conv.bytesToString (.slice (some ⟨g,o,none⟩) s.length c)).run P w=.ok (.string ⟨s.toArray⟩) w:=by
 obtain ⟨cs,h1,h2,h3⟩:=h;have hl:(loadCells ⟨g,o,none⟩ s.length).run P w=.ok ((s.map fun x=>(x.toNat:Int)).map (Value.int .u8)).toArray w:=by
  have:=run_loadCells_list (P:=P) w ⟨g,o,none⟩ ((s.map fun x=>(x.toNat:Int)).map (Value.int .u8)) fun j v hv=>by simp only [B4,BR,Aq] at hv;obtain ⟨x,hx,rfl⟩:=hv;rw [Xh];have:=h3 j x hx;simp [World.cell?,h1,this]
  simpa using this
 rw [run_bytesToString w ⟨g,o,none⟩ s.length c _ hl]
 congr 2
 have: ∀(l:zu) (acc:ByteArray),(l.map fun x=>(x.toNat:Int)).foldl (fun r n=>r.push (UInt8.ofNat n.toNat)) acc=⟨acc.data++l.toArray⟩:=by
  intro l
  induction l with
  | nil=>intro acc;simp
  | cons x l ih=>intro acc;simp only [A0,List.foldl_cons,ih];simp [ByteArray.push]
 rw [this];simp
theorem x7t :Yv ρ (.tup []) undef:=.tup [] #[] rfl fun j h1 _=>by simp at h1
theorem y8p {floor:Nat} {st st':St} {t:TypeId} {x k v:B9} (h:Rd P floor st t x k v=some st'):Xd floor st st'/\st'.env=st.env:=by
 unfold Rd at h;split at h
 .obtain ⟨hf,h⟩:=Zo h;have hf:=Al hf;split at h
  .rename_i hm _;obtain rfl:=Ag h;exact ⟨Xd.write st _ hf hm,rfl⟩
  .rename_i hm _;obtain rfl:=Ag h;exact ⟨Xd.write st _ hf hm,rfl⟩
  .cases h
 .cases h
theorem XB {t:TypeId} {kd:Bool} (h:Sv P t=some kd): ∃k e,P.underlying t=some (.map k e)/\P.underlying k=some .string /\ ∀w,(zeroValue e).run P w=.ok (bif kd then .int .i64 0 else .bool false) w:=by
 unfold Sv at h;split at h
 .rename_i k e hu;refine ⟨k,e,hu,?_⟩;split at h
  .rename_i i h1 h2 h3;split at h
   .rename_i n hz;obtain ⟨hn,h⟩:=Zo h;obtain rfl:=Ag h;obtain rfl:n=0:=by simpa using hn
    exact ⟨h1,fun w=>by simp [zeroValue,run_typeInfo w h3,hz]⟩
   .cases h
  .rename_i i h1 h2 h3;split at h
   .rename_i b hz;cases b with
    | true=>cases h
    | false=>obtain rfl:=Ag h;exact ⟨h1,fun w=>by simp [zeroValue,run_typeInfo w h3,hz]⟩
   .cases h
  .cases h
 .cases h
theorem y1l {floor:Nat} {st st':St} {t:TypeId} {x k v:B9} (h:Rd P floor st t x k v=some st') {w:World} (cZ:CF ρ st.mem st.next w) {ux uk uv:Value} (hx:Yv ρ x ux) (hk:Yv ρ k uk) (hv:Yv ρ v uv):
  ∃w',(Instr.mapUpdate t ux uk uv).run P w=.ok () w'/\Dc ρ floor st st' (.tup []) w ρ undef w':=by
 unfold Rd at h;split at h
 .rename_i b ks;obtain ⟨hf,h⟩:=Zo h;have hf:=Al hf;cases hx with
  | mapr _ l hl=>
  cases hk;split at h
  .rename_i ml ty n hkd hm _;obtain rfl:=Ag h;cases hv;obtain ⟨kt,et,hu,hk,_⟩:=XB hkd;obtain ⟨_,es,ck,ho,hes⟩:=cZ.objAt hl hm;obtain ⟨es',ck',dB,hes'⟩:=z6v (P:=P) (fun n:Int=>.int .i64 n) hu hk ho hes ks n;exact ⟨_,dB,x7t,cZ.setObj hl hm rfl rfl _ ⟨rfl,es',ck',rfl,hes'⟩,Ev.ofObj cZ hl hf _ _⟩
  .rename_i ml ty e hkd hm _;obtain rfl:=Ag h;cases hv;obtain ⟨kt,et,hu,hk,_⟩:=XB hkd;obtain ⟨_,es,ck,ho,hes⟩:=cZ.objAt hl hm;obtain ⟨es',ck',dB,hes'⟩:=z6v (P:=P) (fun n:Bool=>.bool n) hu hk ho hes ks e;exact ⟨_,dB,x7t,cZ.setObj hl hm rfl rfl _ ⟨rfl,es',ck',rfl,hes'⟩,Ev.ofObj cZ hl hf _ _⟩
  .cases h
 .cases h
theorem Xd.kill {floor:Nat} (st:St) {c:Nat} (hf:floor<=c):Xd floor st (st.withMem (Wv st.mem c none)) where
 nxt:=Ar _
 bd h k hk:=by
  show Yn (Wv st.mem c none) k=none;rw [Vp];split
  .rfl
  .exact h k hk
 low _ k hk:=Zv _ _ (by omega)
 ob h:=h
theorem RA {floor:Nat} {st st':St} {op:Op} {v:B9} {b:Bool} (h:aX P floor st op=some (v,b,st')):Xd floor st st'/\st'.env=st.env:=by
 have same: ∀{v0:B9} {b0:Bool},some (v0,b0,st)=some (v,b,st')->Xd floor st st'/\st'.env=st.env:=fun e=>by simp only [Ad,Ae] at e;obtain ⟨_,_,rfl⟩:=e;exact ⟨Xd.refl _ _,rfl⟩
 have fresh: ∀{v0:B9} {b0:Bool} {cs:zy} {ty:TypeId},some (v0,b0,Cr st cs ty)=some (v,b,st')->Xd floor st st'/\st'.env=st.env:=fun e=>by simp only [Ad,Ae] at e;obtain ⟨_,_,rfl⟩:=e;exact ⟨Xd.new st _ _,rfl⟩
 unfold aX at h;split at h
 .split at h
  .exact fresh h
  .cases h
 .split at h
  .split at h
   .exact same h
   .exact same h
   .cases h
  .cases h
 .simp only [Aq,Ae] at h;obtain ⟨st1,h1,_,_,rfl⟩:=h;exact y8p h1
 .simp only [Aq,Ae] at h;obtain ⟨st1,h1,_,_,rfl⟩:=h;exact y8p h1
 .split at h
  .exact fresh h
  .cases h
 .split at h
  .obtain ⟨hf,h⟩:=Zo h;split at h
   .rename_i c s pos ty hm;split at h;rename_i e st1 ht;obtain ⟨t1,t2,t3,t4⟩:=Sg ht;simp only [Ad,Ae] at h;obtain ⟨_,_,rfl⟩:=h;have hi:=Xd.same (floor:=floor) t2 t3 fun ho=>(t4 ho).2;cases e with
    | false=>exact ⟨hi,t1⟩
    | true=>exact ⟨hi.trans (Xd.write st1 _ (Al hf) (by rw [t2];exact hm)),t1⟩
   .cases h
  .cases h
 .obtain ⟨_,h⟩:=Zo h;split at h
  .split at h
   .exact fresh h
   .cases h
  .cases h
 .split at h
  .split at h
   .exact same h
   .cases h
  .cases h
 .split at h
  .obtain ⟨hf,h⟩:=Zo h;simp only [Ac] at hf;split at h
   .rename_i hm _;obtain ⟨_,h⟩:=Zo h;simp only [Ad,Ae] at h;obtain ⟨_,_,rfl⟩:=h;exact ⟨Xd.write st _ (Al hf.1) hm,rfl⟩
   .cases h
  .cases h
 .split at h
  .split at h
   .split at h
    .exact same h
    .cases h
   .cases h
  .cases h
 .split at h
  .split at h
   .exact same h
   .exact same h
   .cases h
  .cases h
 .split at h
  .obtain ⟨_,h⟩:=Zo h;split at h
   .obtain ⟨_,h⟩:=Zo h;split at h
    .split at h
     .exact same h
     .rename_i c _;obtain ⟨hc,h⟩:=Zo h;simp only [Ac] at hc;simp only [Ad,Ae] at h;obtain ⟨_,_,rfl⟩:=h;have hc1:=Al hc.1;cases hmc:Yn st.mem c with
      | some ab=>exact ⟨Xd.write st _ hc1 hmc,rfl⟩
      | none=>exact ⟨Xd.kill st hc1,rfl⟩
    .cases h
   .cases h
  .cases h
 .cases h
theorem CF.kept {mem:CJ} {next:Nat} {w w':World} (h:CF ρ mem next w) (hs:w.heap.size<=w'.heap.size) {p:Nat->Prop} (hp: ∀b l,ρ b=some l->(Yn mem b).isSome =true->p l.blk) (hz: ∀k o,ρ.fz k=some o->p k)
  (hk: ∀k o,w.heap[k]? =some o->p k->w'.heap[k]? =some o):CF ρ mem next w':=
 ⟨h.dom,h.inj,fun b l ab e hm=>by
  have q:=h.blk b l ab e hm;obtain ⟨o,ho⟩:=q.some;exact q.world (CE.le_refl _) (by rw [ho];exact hk _ _ ho (hp b l e (by rw [hm];rfl))),fun k o e=>hk k o (h.old k o e) (hz k o e),h.sep,fun b l e=>AY (h.real b l e) hs,h.bd,h.ldom⟩
theorem u5s (hN:ER P) {o:Oper} {floor:Nat} {st st':St} {v:B9} (h:aX P floor st o.op=some (v,true,st')) (hob:st'.ob=true) {a:Act} (hr:Ks ρ st.eval a.eval o.op) {w:World} (cZ:CF ρ st.mem st.next w):
  No P o a w (Dc ρ floor st st' v w):=by
 obtain ⟨dst,op,type,pos,after,guard⟩:=o;simp only at h hr;unfold aX at h;split at h
 ·-- makeMap
  rename_i t;split at h
  .rename_i kd hkd;simp only [Ad,Ae] at h;obtain ⟨rfl,_,rfl⟩:=h;refine .inl ⟨_,.map (some w.heap.size),_,?_,z8b cZ floor _ [] t (.map #[] 0) ?_ fun ρ' hρ'=>.mapr _ _ hρ'⟩
   .have hmk:(Instr.makeMap t none).run P w=.ok (.map (some w.heap.size)) (w.alloc (.map #[] 0)):=rfl;simp [execOp,hmk]
   .cases kd
    .exact ⟨rfl,_,_,rfl,rfl⟩
    .exact ⟨rfl,_,_,rfl,rfl⟩
  .cases h
 ·-- lookup
  rename_i t x i co;have hx:=hr x (by simp [Op.operands]);have hi:=hr i (by simp [Op.operands]);split at h
  .rename_i b ks ex ei;rw [ex] at hx;rw [ei] at hi;generalize hux:a.eval x=ux at hx;generalize hui:a.eval i=ui at hi;cases hx with
   | mapr _ l hl=>
   cases hi;split at h
   .rename_i ml ty hkd hm;obtain ⟨kt,et,hu,hk,hz⟩:=XB hkd;simp only [Ad,Ae] at h;obtain ⟨rfl,_,rfl⟩:=h;obtain ⟨_,es,ck,ho,hes⟩:=cZ.objAt hl hm;have dB:=z6w (P:=P) (fun n:Int=>.int .i64 n) 0 hu hk (hz w) ho hes ks co;refine .inl ⟨ρ,_,w,by simp only [execOp,hux,hui];simp only [Sem.run_bind,dB,Result.andThen];rfl,?_,cZ,Ev.refl _ _ _ _ _ cZ.dom⟩;cases co
    .exact .int _ _
    .exact .tup _ _ rfl fun j h1 h2=>by
      match j with
      | 0=>exact .int _ _
      | 1=>exact .bool _
      | j+2=>simp at h1;omega
   .rename_i ml ty hkd hm;obtain ⟨kt,et,hu,hk,hz⟩:=XB hkd;simp only [Ad,Ae] at h;obtain ⟨rfl,_,rfl⟩:=h;obtain ⟨_,es,ck,ho,hes⟩:=cZ.objAt hl hm;have dB:=z6w (P:=P) (fun n:Bool=>.bool n) false hu hk (hz w) ho hes ks co;refine .inl ⟨ρ,_,w,by simp only [execOp,hux,hui];simp only [Sem.run_bind,dB,Result.andThen];rfl,?_,cZ,Ev.refl _ _ _ _ _ cZ.dom⟩;cases co
    .exact .bool _
    .exact .tup _ _ rfl fun j h1 h2=>by
      match j with
      | 0=>exact .bool _
      | 1=>exact .bool _
      | j+2=>simp at h1;omega
   .cases h
  .cases h
 ·-- mapUpdate
  rename_i t m k x;simp only [Aq,Ae] at h;obtain ⟨st1,h1,rfl,_,rfl⟩:=h;obtain ⟨w',dB,hp⟩:=y1l h1 cZ (hr m (by simp [Op.operands])) (hr k (by simp [Op.operands])) (hr x (by simp [Op.operands]));exact .inr (.inl ⟨ρ,w',by simp [execOp,dB],hp⟩)
 ·-- insert
  rename_i t m k x;simp only [Aq,Ae] at h;obtain ⟨st1,h1,rfl,_,rfl⟩:=h;obtain ⟨w',dB,hp⟩:=y1l h1 cZ (hr m (by simp [Op.operands])) (hr k (by simp [Op.operands])) (hr x (by simp [Op.operands]));exact .inr (.inl ⟨ρ,w',by simp [execOp,dB],hp⟩)
 ·-- range
  rename_i t x;have hx:=hr x (by simp [Op.operands]);split at h
  .rename_i s hu ex;rw [ex] at hx;generalize hux:a.eval x=ux at hx;cases hx;simp only [Ad,Ae] at h;obtain ⟨rfl,_,rfl⟩:=h;refine .inl ⟨_,.pointer (some ⟨w.heap.size,0,none⟩),_,?_,z8b cZ floor (.it s 0) [] t (.stringIter ⟨s.toArray⟩ 0) ⟨rfl,rfl⟩ fun ρ' hρ'=>.ptr _ 0 _ hρ'⟩;simp [execOp,hux,Instr.range,run_underlying hu,Result.andThen]
  .cases h
 ·-- next
  rename_i x;have hx:=hr x (by simp [Op.operands]);split at h
  .rename_i b ex;rw [ex] at hx;generalize hux:a.eval x=ux at hx;obtain ⟨hf,h⟩:=Zo h;have hf:=Al hf;split at h
   .rename_i s pos ty hm;split at h;rename_i e st1 ht;obtain ⟨t1,t2,t3,t4⟩:=Sg ht;simp only [Ad,Ae] at h;obtain ⟨rfl,_,rfl⟩:=h;cases hx with
    | ptr _ _ l hl=>
    have fA:=cZ.objBase hl hm;obtain ⟨_,ho⟩:=cZ.objAt hl hm;have hsz:(⟨s.toArray⟩:ByteArray).size =s.length:=(by simp [<-ByteArray.size_data]);rw [fA,Ah] at hux;cases e with
    | true=>
     obtain ⟨hlt,_⟩:=t4 hob;have hlt:=Ax hlt.symm;refine .inl ⟨ρ,.tuple #[.bool true,goInt pos,.int .i32 (Utf8.decode ⟨s.toArray⟩ pos).1],w.putObj l.blk (.stringIter ⟨s.toArray⟩ (pos+Fy s pos)),?_,?_,?_,?_⟩
     .simp [execOp,hux,Instr.next,w6p ho,u0b ho,hsz,hlt,Fy,Result.andThen]
     .exact .tup _ _ rfl fun j h1 h2=>by
       match j with
       | 0=>exact .bool _
       | 1=>exact .int _ _
       | 2=>exact .int _ _
       | j+3=>simp at h1;omega
     .show CF ρ (Wv st1.mem b _) st1.next _
      rw [t2,t3];exact cZ.setObj hl hm rfl rfl _ ⟨rfl,rfl⟩
     .show Ev ρ ρ floor st.mem st.next (Wv st1.mem b _) st1.next _ _
      rw [t2,t3];exact Ev.ofObj cZ hl hf _ _
    | false=>
     obtain ⟨hlt,_⟩:=t4 hob;have hlt: ¬pos<s.length:=BL hlt.symm;refine .inl ⟨ρ,.tuple #[.bool false],w,?_,?_,?_,?_⟩
     .simp [execOp,hux,Instr.next,w6p ho,hsz,hlt,Result.andThen]
     .exact .tup _ _ rfl fun j h1 h2=>by
       match j with
       | 0=>exact .bool _
       | j+1=>simp at h1
     .show CF ρ st1.mem st1.next w
      rw [t2,t3];exact cZ
     .show Ev ρ ρ floor st.mem st.next st1.mem st1.next w w
      rw [t2,t3];exact Ev.refl _ _ _ _ _ cZ.dom
   .cases h
  .cases h
 ·-- alloc
  rename_i t;obtain ⟨ht,h⟩:=Zo h;split at h
  .rename_i i hi;split at h
   .rename_i hz;simp only [Ad,Ae] at h;obtain ⟨rfl,_,rfl⟩:=h;have hzr:(zeroValue t).run P w=.ok (.agg #[.pointer none,.slice none 0 0]) w:=(by simp [zeroValue,run_typeInfo w hi,hz]);refine .inl ⟨_,.pointer (some ⟨w.heap.size,0,none⟩),_,?_,z8b cZ floor .bld [.nils] t (.cells #[.pointer none,.slice none 0 0] t (0,0)) ⟨.nils,.slice none 0 0,none,rfl,rfl,.nils,.inl rfl⟩ fun ρ' hρ'=>.ptr _ 0 _ hρ'⟩;simp [execOp,Instr.alloc,newVar,newRow,hzr,Value.cells]
   .cases h
  .cases h
 ·-- load
  rename_i t x;have hx:=hr x (by simp [Op.operands]);split at h
  .rename_i b ex;rw [ex] at hx;generalize hux:a.eval x=ux at hx;split at h
   .rename_i buf ty i hm hag hi;simp only [Ad,Ae] at h;obtain ⟨rfl,_,rfl⟩:=h;cases hx with
    | ptr _ _ l hl=>
    have fA:=cZ.objBase hl hm;obtain ⟨_,bv,p,e1,ho,hbv,_⟩:=cZ.objAt hl hm;obtain rfl:=(List.cons.inj e1).1;rw [fA,Ah] at hux;refine .inl ⟨ρ,bv,w,?_,hbv,cZ,Ev.refl _ _ _ _ _ cZ.dom⟩;have hc:w.cell? ⟨l.blk,1,none⟩=some bv:=(by simp [World.cell?,ho]);simp [execOp,hux,Instr.loadAt,Instr.sureAddr,loadVar,Si hag,hc]
   .cases h
  .cases h
 ·-- store
  rename_i t ad x;have hx:=hr ad (by simp [Op.operands]);have hv:=hr x (by simp [Op.operands]);split at h
  .rename_i b ex;rw [ex] at hx;generalize hux:a.eval ad=ux at hx;obtain ⟨hf,h⟩:=Zo h;simp only [Ac] at hf;obtain ⟨hf,hsc⟩:=hf;have hf:=Al hf;split at h
   .rename_i buf ty i hm hi;obtain ⟨hsz,h⟩:=Zo h;have hsz:=Aj hsz;simp only [Ad,Ae] at h;obtain ⟨rfl,_,rfl⟩:=h;cases hx with
    | ptr _ _ l hl=>
    have fA:=cZ.objBase hl hm;obtain ⟨_,bv,p,e1,ho,hbv,hp⟩:=cZ.objAt hl hm;rw [fA,Ah] at hux;refine .inr (.inl ⟨ρ,w.putObj l.blk (.cells #[.pointer p,a.eval x] ty (0,0)),?_,x7t,cZ.setObj (o':=.bld) (r':=[st.eval x]) hl hm rfl rfl _ ⟨_,_,p,rfl,rfl,hv,hp⟩,Ev.ofObj cZ hl hf _ _⟩);have dP:=hv.oneCell hsc;have hcs:(a.eval x).cells = #[a.eval x]:=by
     cases hz:a.eval x <;> first | rfl | (rw [hz] at dP;cases dP)
    have dB:=run_storeCells_at P l.blk 1 ty [a.eval x] 0 _ w ho (by simp) (by simpa using dP);rw [x2b ho] at dB;simp_all [execOp,Instr.storeAt,Instr.sureAddr,storeVar,Yw]
   .cases h
  .cases h
 ·-- convert
  rename_i src dst x;have hx:=hr x (by simp [Op.operands]);split at h
  .rename_i e hs hd;split at h
   .rename_i he;split at h
    .rename_i s o hby;simp only [Ad,Ae] at h;obtain ⟨rfl,rfl,rfl⟩:=h;refine .inl ⟨ρ,.string ⟨s.toArray⟩,w,?_,.str _,cZ,Ev.refl _ _ _ _ _ cZ.dom⟩;rcases z5u cZ hby hx with ⟨e1,rfl⟩ | ⟨_,_,g,o,c,_,_,_,_,_,e1,_,_,Dz⟩
     .simp only [execOp,e1,run_convert_bytes_string w src dst e none 0 0 hs he hd];simp [run_convert_bytes_string w src dst e none 0 0 hs he hd,Conv.bytesToString];rfl
     .simp [execOp,e1,run_convert_bytes_string w src dst e _ _ _ hs he hd,v4h Dz]
    .cases h
   .cases h
  .cases h
 ·-- e == nil
  rename_i bop t x y yt;have hx:=hr x (by simp [Op.operands]);split at h
  .rename_i e m ex hu;rw [ex] at hx;generalize hux:a.eval x=ux at hx;have hy:a.eval (.const .nilIface)=.nilIface :=rfl;split at h
   .simp only [Ad,Ae] at h;obtain ⟨rfl,_,rfl⟩:=h;refine .inl ⟨ρ,.bool e,w,?_,.bool _,cZ,Ev.refl _ _ _ _ _ cZ.dom⟩;cases hx <;> simp [execOp,hux,hy,eqGuard,binOp,run_underlying hu,v7n hu]
   .simp only [Ad,Ae] at h;obtain ⟨rfl,_,rfl⟩:=h;refine .inl ⟨ρ,.bool !e,w,?_,.bool _,cZ,Ev.refl _ _ _ _ _ cZ.dom⟩;cases hx <;> simp [execOp,hux,hy,eqGuard,binOp,run_underlying hu,v7n hu]
   .cases h
  .cases h
 ·-- String
  rename_i f args argTypes;have hf:=hr f (by simp [Op.operands,Call.operands]);have dC:Vg (Yv ρ) (args.toList.map st.eval) (args.map a.eval).toList :=by rw [Bt];exact Vg.maps _ _ _ fun x hx=>hr x (by grind [Op.operands,Call.operands])
  split at h
  .rename_i g b eg ea;rw [eg] at hf;rw [ea] at dC;obtain ⟨hg,h'⟩:=Zo h;clear h;simp only [Ac] at hg;obtain ⟨hg,hbody⟩:=hg;obtain rfl:=Aj hg;obtain ⟨fn,hfn,hb⟩: ∃fn,P.funcs[J3]? =some fn/\fn.body.isSome=true:=by
    cases e:P.funcs[J3]? with
    | none=>rw [e] at hbody;cases hbody
    | some fn=>rw [e] at hbody;exact ⟨fn,rfl,hbody⟩
   generalize eM:args.map a.eval=vals at dC;obtain ⟨vals⟩:=vals;generalize hw:a.eval f=u at hf;cases hf with
   | fn _ _ cvs hl hh=>
   obtain rfl:cvs= #[]:=Array.eq_empty_of_size_eq_zero (by rw [<-hl];rfl);cases dC with
   | cons h1 h2=>
   cases h2;cases h1 with
   | ptr _ _ l hl'=>
   split at h'
   .rename_i buf ty hm;obtain ⟨hty,h⟩:=Zo h';clear h';obtain rfl:=Aj hty;split at h
    .rename_i s o hby0;have fA:=cZ.objBase hl' hm;obtain ⟨_,bv,p,e1,ho,hbv,_⟩:=cZ.objAt hl' hm;obtain rfl:=(List.cons.inj e1).1;have hexec:(execOp a.eval ⟨dst,.call ⟨.value f,args,argTypes⟩,type,pos,after,guard⟩).run P w=.ok (.enter J3 #[.pointer (some ⟨l.blk,0,none⟩)]) w:=by have dB:=R5 hN hfn hb #[.pointer (some ⟨l.blk,0,none⟩)] w;rw [fA] at eM;simp [execOp,resolve,hw,Deferred.ofValue,eM,invoke,dB]
     refine .inr (.inr ⟨J3,_,hexec,?_⟩);have hstr:=fun dA=>hN.2 (by rw [hfn];rfl) l.blk _ bv w s dA ho;split at h
     .rename_i hrf;simp only [Ad,Ae,Ac,Ao] at h;obtain ⟨rfl,⟨dA,rfl⟩,rfl⟩:=h;have hby:=hby0;have hstr:=hstr dA;rcases z5u cZ hby hbv with ⟨k1,k2⟩ | ⟨b',_,_,_,_,_,k1,_⟩
      .refine (hstr (.inl ⟨k1,k2⟩)).mono fun e w' ⟨q1,q2,q3,q4,q5,q6⟩=>⟨ρ,_,q1,.str _,?_,?_⟩
       .exact cZ.kept q2 (p:=fun _=>True) (fun _ _ _ _=>trivial) (fun _ _ _=>trivial) fun k o hk _=>q3 k o hk fun g o n c e=>by rw [k1] at e;cases e
       .exact ⟨CE.le_refl _,fun _ _=>rfl,Ar _,fun _ _ _ _ _ h=>h,fun k o hk _=>q3 k o hk fun g o n c e=>(by rw [k1] at e;cases e),fun k m hk e=>(by have:=cZ.dom k m e;omega),q2,q4,q5,q6,fun _ _=>rfl⟩
      .rw [hrf] at k1;cases k1
     .rename_i c hrf;obtain ⟨hc,h⟩:=Zo h;simp only [Ac] at hc;obtain ⟨hc1,hc2⟩:=hc;have hc1:=Al hc1;simp only [Ad,Ae,Ac,Ao] at h;obtain ⟨rfl,⟨dA,rfl⟩,rfl⟩:=h;have hby:=hby0;have hstr:=hstr dA;rcases z5u cZ hby hbv with ⟨k1,k2⟩ | ⟨b',lc,g,o,cc,el,k1,k2,k3,k4,k5,k6,k7,cur,k8,k9,k10⟩
      .have hkill:=cZ.kill c;refine (hstr (.inl ⟨k1,k2⟩)).mono fun e w' ⟨q1,q2,q3,q4,q5,q6⟩=>⟨ρ,_,q1,.str _,?_,?_⟩
       .exact hkill.kept q2 (p:=fun _=>True) (fun _ _ _ _=>trivial) (fun _ _ _=>trivial) fun k o hk _=>q3 k o hk fun g o n c e=>by rw [k1] at e;cases e
       .refine ⟨CE.le_refl _,fun _ _=>rfl,Ar _,fun k hk e cs ty hm'=> ?_,fun k o hk _=>q3 k o hk fun g o n c e=>(by rw [k1] at e;cases e),fun k m hk e=>(by have:=cZ.dom k m e;omega),q2,q4,q5,q6,fun _ _=>rfl⟩;show Yn (Wv st.mem c none) k=_;rw [Zv]
        .exact hm'
        .intro e';subst e';rw [k1] at hbv;unfold TV at hby;cases hbv <;> first | (cases hrf;done) | skip
         all_goals (have hrf:=Ag hrf;subst hrf;simp [hm'] at hby)
      .rw [hrf] at k1;obtain rfl:=Ag k1;subst k4;obtain ⟨ab,hab⟩:=BW.1 k3;have hel:=k7 ab hab;have hbt:ab.ty=Q6:=by unfold J4 at hc2;rw [hab] at hc2;exact Aj hc2
       rw [hel,hbt] at k8;have hkill:=cZ.kill c;have hne: ∀k,lc.blk≠k-> ∀g o n c,bv=.slice (some ⟨g,o,none⟩) n c->g≠k:=fun k hk g o n c e=>by rw [k5] at e;cases e;exact hk
       refine (hstr (.inr ⟨lc.blk,o,cc,cur,k5,k6,k8,k9,k10⟩)).mono fun e w' ⟨q1,q2,q3,q4,q5,q6⟩=>⟨ρ,_,q1,.str _,?_,?_⟩
       .refine hkill.kept q2 (p:=fun k=>lc.blk≠k) (fun b2 l2 e2 hs2 heq=> ?_) (fun k o hk heq=> ?_) fun k o hk hp=>q3 k o hk (hne k hp)
        .by_cases hbc:b2=c
         .rw [hbc,Yk] at hs2;cases hs2
         .rw [Zv _ _ hbc] at hs2;exact hbc (cZ.inj b2 c l2 lc e2 k2 heq.symm hs2 k3)
        .have:=cZ.sep c lc k2 k3;rw [heq,hk] at this;cases this
       .refine ⟨CE.le_refl _,fun _ _=>rfl,Ar _,fun k hk e cs ty hm'=> ?_,fun k o hk hfr=>q3 k o hk (hne k (hfr c lc k2 hc1)),fun k m hk e=>(by have:=cZ.dom k m e;omega),q2,q4,q5,q6,fun _ _=>rfl⟩;show Yn (Wv st.mem c none) k=_;rw [Zv]
        .exact hm'
        .intro e';rw [e',k2] at e;cases e
    .cases h
   .cases h'
  .cases h
 .cases h
structure t0h (P:Program) (ops:Array Oper) (cx:CP) (o:Oper) (st st':St):Prop where
 inv:Xd cx.floor st st'
 slot: ∀d,o.dst=some d->d<cx.n
 other:st'.ob=true-> ∀t,o.dst≠some t->st'.tmp t=st.tmp t
 does:st'.ob=true-> ∀(ρ:CE) (a:Act) (w:World),a.tmps.size=cx.n->(∀d,Uf ops o=some d->Yv ρ (st.tmp d) (a.tmps.getD d undef))->Ks ρ st.eval a.eval o.op->CF ρ st.mem st.next w->
  ∀(K:Act->World->Prop) (Q:Exit->Act->World->Prop),(∀ρ' u w',(∀d,o.dst=some d->Yv ρ' (st'.tmp d) u)->CF ρ' st'.mem st'.next w'->Ev ρ ρ' cx.floor st.mem st.next st'.mem st'.next w w'->K (a.put o.dst u) w')->
   if Region.wanted o (yielded ops a.tmps) then o.wp P a w K Q else K (a.put o.dst undef) w
theorem t0i.two {S:CB} {ops:Array Oper} {cx:CP} {x:Bool×Oper} {st st':St} (s:t0i S P ops cx x st st'):t0h P ops cx x.2 st st':=
 ⟨s.inv,s.slot,s.other,fun ho ρ a w h1 h2 h3 h4 K Q hK=>s.does ho ρ a w st.eval h1 (fun _ _=>rfl) h2 h3 h4 K Q fun ρ' u w' q1 q2 q3 _=>hK ρ' u w' q1 q2 q3⟩
theorem v3k (hN:ER P) {ops:Array Oper} {cx:CP} {o:Oper} {st st1 st2 st3 st':St} {v:B9} {b:Bool} (hw:GD ops o cx st=some (true,st1)) (hx:aX P cx.floor st1 o.op=some (v,b,st2)) (how:st2.owe cx b=some st3) (hp:st3.put cx o.dst v=some st'):t0h P ops cx o st st':=by
 obtain ⟨w1,w2,w3⟩:=Wc hw;obtain ⟨eO,dD⟩:=RA hx;obtain ⟨e1,e2,e3,e4⟩:=Wu how;obtain ⟨p1,p2,p3,p4⟩:=Wt hp;have eP: ∀d,o.dst=some d->st'.tmp d=v:=fun d hd=>by
  rcases p4 with ⟨e,_⟩ | ⟨d',e,_,he⟩
  .rw [hd] at e;cases e
  .rw [hd] at e;obtain rfl:=Ag e;show T.get .undef st'.env d=v;rw [he,T.get_set,AJ rfl]
 have hi1:Xd cx.floor st st1:=Xd.same w1 w2 fun ho=>(w3 ho).1;have hi2:Xd cx.floor st2 st':=Xd.same (p1.trans e2) (p2.trans e3) fun ho=>(e4 (by rw [<-p3];exact ho)).2;have hob:st'.ob=true->b=true/\st2.ob=true/\st1.ob=true:=fun ho=>by obtain ⟨h1,h2⟩:=e4 (by rw [<-p3];exact ho);exact ⟨h1,h2,eO.ob h2⟩
 refine ⟨(hi1.trans eO).trans hi2,fun d hd=> ?_,fun ho t ht=> ?_,fun ho ρ a w hsz hgr hr cZ K Q hK=> ?_⟩
 .rcases p4 with ⟨e,_⟩ | ⟨d',e,hlt,_⟩
  .rw [hd] at e;cases e
  .rw [hd] at e;obtain rfl:=Ag e;exact hlt
 .obtain ⟨_,_,ho1⟩:=hob ho;rw [<-(w3 ho1).2 t];show T.get .undef st'.env t=T.get .undef st1.env t;rcases p4 with ⟨_,he⟩ | ⟨d',e,_,he⟩
  .rw [he,e1,dD]
  .rw [he,T.get_set,AC (fun h=>ht (by rw [e,h])),e1,dD]
 .obtain ⟨rfl,ho2,ho1⟩:=hob ho;have dK:=(w3 ho1).2;have eK: ∀y,st1.eval y=st.eval y:=fun y=>by cases y <;> first | rfl | exact dK _
  rw [Uv hw ho1 hsz hgr,AJ rfl];have hr':Ks ρ st1.eval a.eval o.op:=fun y hy=>by rw [eK y];exact hr y hy
  refine (u5s hN hx ho2 hr' (by rw [w1,w2];exact cZ)).wp fun ρ' u w' hpost=> ?_;have he:=hpost.ev;rw [w1,w2] at he;refine hK ρ' u w' (fun d hd=>by rw [eP d hd];exact hpost.val) (by rw [p1,p2,e2,e3];exact hpost.rel) (by rw [p1,p2,e2,e3];exact he)
end
section
variable {P:Program}
theorem w7t {S:CB} {Rc:CL} (hN:ER P) (hS:Zw P S) (hCI:Er Rc) (hC:G5 P Rc) {fl:Nat} {cx:CP} {ops:Array Oper} {i:Nat} {o:Oper} {l:List Oper} {todo:List Item} {rnd:Option Nat} {rs:List ResultVar} {st:St} {cs:List Ci} {lps:CQ} {C':CI}
  (hfl:Fl fl ⟨cx,some (ops,i,o::l),todo,rnd,rs,st,cs,lps⟩) (h:v3l P S Rc cx ops i o l todo rnd rs st cs lps=some C'):EQ P fl ⟨cx,some (ops,i,o::l),todo,rnd,rs,st,cs,lps⟩ C':=by
 have plain2: ∀st2,t0h P ops cx o st st2->EQ P fl ⟨cx,some (ops,i,o::l),todo,rnd,rs,st,cs,lps⟩ ⟨cx,some (ops,i+1,l),todo,rnd,rs,st2,cs,lps⟩:=by
  intro st2 s1;have e:=hfl.cx;simp only at e;refine ⟨⟨e,hfl.cs,AG hfl.le s1.inv.nxt⟩,by rw [<-e];exact s1.inv,fun ho m0 n0 ρ0 w0 ρ b a k css w ma mb hs he cs0=> ?_⟩;obtain ⟨dD,hdf,htd,⟨hro,eA⟩,dN⟩:=hs.top;simp only at dD hdf htd hro dN;obtain ⟨ho_i,hl',hdrop⟩:=x9s hro;have key:=s1.does ho ρ a w dD.size (fun d _=>dD.get d) (fun y _=>dD.eval y) hs.rel
   (fun a' w'=> ∃ρ',a'.defers=a.defers/\Vy ρ' st2.env cx.n a'.tmps/\CF ρ' st2.mem st2.next w'/\Ev ρ ρ' cx.floor st.mem st.next st2.mem st2.next w w') (fun e _ _=>e=.normal) (fun ρ' u w' dO dT hev=>by
    refine ⟨ρ',Act.put_defers' _ _ _,?_,dT,hev⟩;cases hdst:o.dst with
    | none=>exact ((dD.mono hev.ext).congr fun t=>s1.other ho t (by grind))
    | some d=>
     refine ((dD.mono hev.ext).put (dO d hdst) (.inr ⟨d,rfl,s1.slot d hdst,rfl⟩)).congr fun t=> ?_;rw [T.get_set];split
     .rename_i e;subst e;rfl
     .rename_i e;exact s1.other ho t (by grind))
  obtain ⟨a',w',⟨ρ',hd',he',hr',hev⟩,dR⟩:=x2w (b:=b) (k:=k) (cs:=css++cs0) (rest:=(List.range ops.size).drop (i+1)) (fun e a w h=>h) ho_i (XC eA ho_i) key;refine ⟨ρ',b,a',k,css,w',ma,mb,by rw [Vq,hdrop];exact dR,⟨⟨he',by grind,htd.mono fun _ _=>Eq.mono hev.ext,⟨hl',eA⟩,?_⟩,hs.lv,hs.rest.ev hev,hr'⟩,he.trans (by grind),rfl,hev.size⟩;exact ((⟨dD,hdf,htd,⟨hro,eA⟩,dN⟩:Ft ρ cx (some (ops,i,o::l)) todo rnd st.env b a k ma).mono hev.ext).rnd
 have hcx:cx.floor<=st.next:=by have:=hfl.le;have e:=hfl.cx;grind
 have plain: ∀st2,HW P S Rc ops cx (false,o) st=some st2->EQ P fl ⟨cx,some (ops,i,o::l),todo,rnd,rs,st,cs,lps⟩ ⟨cx,some (ops,i+1,l),todo,rnd,rs,st2,cs,lps⟩:=fun st2 h1=>plain2 st2 (y9x hN hS hCI hC hcx h1).two;unfold v3l at h;split at h
 .rename_i st1 hw;split at h
  ·-- an operation that only such a region has
   rename_i v b st2 hx;split at h
   .rename_i st3 how;split at h
    .rename_i st4 hp;obtain rfl:=Ag h;exact plain2 st4 (v3k hN hw hx how hp)
    .cases h
   .cases h
  rename_i hx;split at h
  ·-- a function is entered
   rename_i g args dV;obtain ⟨w1,w2,w3⟩:=W0 (ρ:=⟨fun _=>none,fun _=>none,fun _=>none⟩) hw;have hCeq: ∃fn body,P.funcs[g]? =some fn/\fn.body=some body/\C'=⟨⟨Nat.max fn.ntmps args.length,cx.floor,cx.sym⟩,none,[.code body],none,fn.results.toList,st1.withEnv (FL args 0 .leaf),⟨cx,some (ops,i,o::l),todo,rnd,rs,st1.env⟩::cs,lps⟩:=by
    grind [Rl]
   obtain ⟨fn,body,hfn,hb,hCe⟩:=hCeq;have hmem:C'.st.mem=st.mem:=by rw [hCe];exact w1
   have hnext:C'.st.next=st.next:=by rw [hCe];exact w2
   refine ⟨by rw [hCe];exact hfl.enter (B5 w2.symm),Xd.same hmem hnext fun ho=>(w3 (by rw [hCe] at ho;exact ho)).1,fun ho m0 n0 ρ0 w0 ρ b a k css w ma mb hs he cs0=> ?_⟩;have ho1:st1.ob=true:=by rw [hCe] at ho;exact ho
   obtain ⟨dD,hdf,htd,⟨hro,eA⟩,dN⟩:=hs.top;simp only at dD hdf htd hro dN;obtain ⟨ho_i,hl',hdrop⟩:=x9s hro;obtain ⟨_,_,w3'⟩:=W0 (ρ:=ρ) hw;obtain ⟨fB,hwt⟩:=(w3' ho1).2 dD;have hexec: ∃vals,(execOp a.eval o).run P w=.ok (.enter g vals) w/\Vg (Yv ρ) args vals.toList:=by
    obtain ⟨dst,op,type,pos,after,guard⟩:=o;simp only at dV ⊢;unfold callee at dV;split at dV
    .rename_i f cargs argTypes;split at dV
     .rename_i g' caps hg;split at dV
      .cases dV
      .simp only [Ad,Sum.inl.injEq,Ae] at dV;obtain ⟨rfl,rfl⟩:=dV;have hf:=fB.eval f;rw [hg] at hf;generalize hw':a.eval f=u at hf;cases hf with
       | fn _ _ cvs hl hh=>
        have:=R5 hN hfn (by rw [hb];rfl) (cargs.map a.eval++cvs) w
        grind [execOp,resolve,Deferred.ofValue,invoke,Vg.append,y8f,Vg.of]
     .rename_i g' first hg
      split at dV
      .cases dV
      .simp only [Ad,Sum.inl.injEq,Ae] at dV;obtain ⟨rfl,rfl⟩:=dV;have hf:=fB.eval f;rw [hg] at hf;generalize hw':a.eval f=u at hf;cases hf with
       | fnb _ _ cvs hl hh=>
        have:=R5 hN hfn (by rw [hb];rfl) (cvs++cargs.map a.eval) w
        grind [execOp,resolve,Deferred.ofValue,invoke,Vg.append,Vg.of,y8f]
     all_goals grind
    .cases dV
   obtain ⟨vals,hex,dC⟩:=hexec;have dZ:=w7q (b:=b) (k:=k) (cs:=css++cs0) (rest:=(List.range ops.size).drop (i+1)) ho_i (XC eA ho_i) hwt hex;obtain ⟨_,_,_,_,_,b',a',k',hen,hsr⟩:=x1d h (⟨fB,hdf,htd,⟨hro,eA⟩,dN⟩) hs.lv hs.rest (by rw [w1,w2];exact hs.rel) dC;refine ⟨ρ,b',a',k',_,w,_,_,.one ?_,hsr,by grind,by cases css <;> rfl,Ar _⟩
   grind [Vq]
  ·-- a round is entered
   rename_i j args dV;obtain ⟨w1,w2,w3⟩:=W0 (ρ:=⟨fun _=>none,fun _=>none,fun _=>none⟩) hw;unfold u8b at h;split at h
   .rename_i Cw lpend ln lenv lparams lassign lbody hlg;split at h
    .rename_i env' hsa;obtain rfl:=Ag h;refine ⟨hfl.enter (B5 w2.symm),Xd.same w1 w2 fun ho=>(w3 ho).1,fun ho m0 n0 ρ0 w0 ρ b a k css w ma mb hs he cs0=> ?_⟩;have ho1:st1.ob=true:=ho;obtain ⟨dD,hdf,htd,⟨hro,eA⟩,dN⟩:=hs.top;simp only at dD hdf htd hro dN;obtain ⟨ho_i,hl',hdrop⟩:=x9s hro;obtain ⟨_,_,w3'⟩:=W0 (ρ:=ρ) hw;obtain ⟨fB,hwt⟩:=(w3' ho1).2 dD;obtain ⟨lr,hlp,hlow,hsp,ltmps,lfn,ld,fG,eI⟩:=hs.rest.loops j _ hlg;simp only at fG eI;have hexec: ∃vals:Array Value,Vg (Yv ρ) args vals.toList/\(execOp a.eval o).run P w=.ok (.round lr lfn ((lparams.toArray.zip vals).foldl (fun tmps (t,x)=>tmps.setIfInBounds t x) ltmps) lassign lbody) w:=by
      obtain ⟨dst,op,type,pos,after,guard⟩:=o;simp only at dV ⊢;unfold callee at dV;split at dV
      .rename_i f cargs argTypes;split at dV
       .grind
       .grind
       .rename_i j' hg;simp only [Ad,Sum.inr.injEq,Ae] at dV;obtain ⟨rfl,rfl⟩:=dV;have hf:=fB.eval f;rw [hg] at hf;generalize hw':a.eval f=u at hf;cases hf with
        | yld _ l' hl'=>rw [hlp] at hl';obtain rfl:=Ag hl';have hca:=y8f fB cargs;obtain ⟨dA,_⟩:=z3i hsa eI hca;refine ⟨cargs.map a.eval,hca,?_⟩;simp_all [run_yield,execOp,resolve,Deferred.ofValue,invoke]
       .cases dV
      .cases dV
     obtain ⟨vals,dC,hex⟩:=hexec;obtain ⟨_,henv'⟩:=z3i hsa eI dC;have dZ:=w7p (b:=b) (k:=k) (cs:=css++cs0) (rest:=(List.range ops.size).drop (i+1)) ho_i (XC eA ho_i) hwt hex;refine ⟨ρ,⟨lfn, #[],[],[],.run,.normal,some lr⟩,{tmps:=(lparams.toArray.zip vals).foldl (fun tmps (t,x)=>tmps.setIfInBounds t x) ltmps,defers:=[]},[.code lassign,.beginRound,.code lbody],b.atR a (Vq (some (ops,i,o::l)) k)::css,w,[],ma++mb,.one ?_,⟨⟨?_,rfl,.cons (.same _ rfl) (.cons (.same _ rfl) (.cons (.same _ rfl) .nil)),trivial,⟨rfl,lr,hlp,rfl⟩⟩,fun _=>⟨rfl,fun h0=>by cases h0⟩,?_,by rw [show (st1.withEnv env').mem =st.mem from w1,show (st1.withEnv env').next =st.next from w2];exact hs.rel⟩,by rw [show (st1.withEnv env').mem =st.mem from w1,show (st1.withEnv env').next =st.next from w2];exact he,by cases css <;> rfl,Ar _⟩
     .simp only [Vq,hdrop];exact dZ
     .have:(lparams.toArray.zip vals).foldl (fun tmps (t,x)=>tmps.setIfInBounds t x) ltmps=(lparams.zip vals.toList).foldl (fun t p=>t.setIfInBounds p.1 p.2) ltmps:=by rw [<-Array.foldl_toList];simp
      simp only [this];exact henv'
     .exact ⟨.cons ⟨fB,hdf,htd,⟨hro,eA⟩,dN⟩ hs.lv hs.rest.cs,hs.rest.nodup,hs.rest.marks,hs.rest.loops,hs.rest.inj⟩
    .cases h
   .cases h
  clear plain2
  grind [HW]
 all_goals (clear plain2;grind [HW])
end
section
variable {P:Program}
theorem x4m {ops:Array Oper} {z:Nat}: ∀{l:zr},H5 ops l=some z->N1 z ops=true
 | [],h=>by cases h
 | x::l,h=>by
  unfold H5 at h;rcases Uw h with ⟨h1,h⟩ | ⟨_,h⟩
  .obtain rfl:=Ag h;exact h1
  .exact x4m h
theorem v0p {ops:Array Oper} {z:Nat} (h:j5u ops=some z):N1 z ops=true/\HA ops=true:=by unfold j5u at h;obtain ⟨hn,h⟩:=Zo h;exact ⟨x4m h,hn⟩
theorem D7.item {ρ:CE} {x:Item} {t k:List Item} (hx:NQ x=true) (h:D7 ρ (x::t) k): ∃k',k=x::k'/\D7 ρ t k':=by
 cases h with
 | cons h ht=>
  cases h with
  | same _ _=>grind
  | inR j l e=>cases hx
  | endR j l e=>cases hx
theorem y7j {fl:Nat} {cx:CP} {todo:List Item} {rnd:Option Nat} {rs:List ResultVar} {st:St} {cs:List Ci} {lps:CQ} {jump:Option Code} {C':CI} (hfl:Fl fl ⟨cx,none,todo,rnd,rs,st,cs,lps⟩)
  (h:Td P rnd rs st cs lps jump=some C') (hj:(todo=[]/\jump=none)\/(∃t,todo=.code .ret ::t/\jump=some .ret)\/(∃id t,todo=.code (.exit id)::t/\exitTo id t=none/\jump=some (.exit id)/\rnd.isSome=true)):
  EQ P fl ⟨cx,none,todo,rnd,rs,st,cs,lps⟩ C':=by
 unfold Td at h;split at h
 .split at h
  .rename_i vs hvs;obtain ⟨hfl',hm,hn,hob,hne,key⟩:=ZC (P:=P) (base:=0) h hfl.cs hfl.le;refine ⟨hfl',Xd.same hm hn fun ho=>by grind,fun ho m0 n0 ρ0 w0 ρ b a k css w ma mb hs he cs0=> ?_⟩;obtain ⟨_,_,_,_,_,key⟩:=ZC (P:=P) (base:=w0.heap.size) h hfl.cs hfl.le;have htd:todo=[]\/ ∃t,todo=.code .ret ::t:=by
    grind
   obtain ⟨w',dR,dD,cZ,hev,dS,hsz⟩:=y7x hs rfl rfl htd rfl he (css++cs0);obtain ⟨hk,hfn⟩:=hs.lv hne;obtain ⟨fn,hfn,hrs⟩:=hfn rfl;simp only at hrs hfn;obtain ⟨u,hu,fF⟩:=z3o (fn:=fn) dD cZ (by rw [hrs];exact hvs);obtain ⟨c,css',b',a',k',ma',mb',rfl,hfin,hsr,hbot⟩:=key ρ css w' mb u hu dS cZ;refine ⟨ρ,b',a',k',css',w',ma',mb',dR.trans (.one ?_),hsr,by grind,by rw [hbot];rfl,hsz⟩;rw [<-hfin];exact step_leave_returned (fr:={b.atR {a with defers:=[]} k with mode:=.returning}) ⟨rfl,rfl,hk,fn,hfn,fF⟩
  .cases h
 .rename_i j;split at h
  .rename_i Cw lpend ln lenv lparams lassign lbody hlg;obtain ⟨hfl',hm,hn,hob,hne,_⟩:=ZC (P:=P) (base:=0) h hfl.cs hfl.le;refine ⟨hfl',Xd.same hm hn fun ho=>by grind,fun ho m0 n0 ρ0 w0 ρ b a k css w ma mb hs he cs0=> ?_⟩;obtain ⟨_,_,_,_,_,key⟩:=ZC (P:=P) (base:=w0.heap.size) h hfl.cs hfl.le;obtain ⟨rfl,lr0,hlp0,hro⟩:=hs.top.rnd;obtain ⟨lr,hla⟩:=hs.rest.loops j _ hlg;have hla':=hla;obtain ⟨hlp,hlow,hsp,ltmps,lfn,ld,fG,eI⟩:=hla;rw [hlp] at hlp0;obtain rfl:=Ag hlp0;have dB:=run_endRound (P:=P) jump fG;have hlst:(if jump.isNone then LoopState.ready else LoopState.done)=Tc jump:=by cases jump <;> rfl
   rw [hlst] at dB;have dS:=hs.rest.record (w':=w.putObj lr (.loop ⟨Tc jump,jump,lfn,ltmps,lparams.toArray,lassign,lbody,ld⟩)) hlg hla' (L':=⟨Tc jump,jump,ln,lenv,lparams,lassign,lbody⟩)
    ⟨hlp,hlow,hsp.turned (Vm.put _ _ _),ltmps,lfn,ld,World.putObj_heap_same hsp.1,eI⟩ (Vm.put _ _ _)
   obtain ⟨c,css',b',a',k',ma',mb',rfl,hfin,hsr,hbot⟩:=key ρ css _ mb (.bool jump.isNone) (.bool _) dS (hs.rel.turned (fun r hr=>by grind) (Vm.put _ _ _));have hev:=he.turned (m:=[lr]) (fun r hr=>by grind) (Vm.put w lr (.loop ⟨Tc jump,jump,lfn,ltmps,lparams.toArray,lassign,lbody,ld⟩));refine ⟨ρ,b',a',k',css',_,ma',mb',.one ?_,hsr,by grind,by rw [hbot];rfl,B5 (Vm.put _ _ _).size.symm⟩;obtain ⟨hk,_⟩:=hs.lv hne;rw [<-hfin];have htd:=hs.top.todo;rcases hj with ⟨rfl,rfl⟩ | ⟨t,rfl,rfl⟩ | ⟨id,t,rfl,hx,rfl,_⟩
   .cases htd;exact stepR_round_end hro hk dB
   .obtain ⟨k',rfl,_⟩:=htd.code;exact stepR_round_ret hro hk dB
   .obtain ⟨k',rfl,ht⟩:=htd.code;exact stepR_round_exit hro hk ((ht.exit id).2 hx) dB
  .cases h
theorem x4p {S:CB} {Rc:CL} (hN:ER P) (hmx:P.follows .mixedOrders =true) (hS:Zw P S) (hCI:Er Rc) (hC:G5 P Rc) {fl:Nat} {C C':CI} (hfl:Fl fl C) (h:SC P S Rc C=some C'):EQ P fl C C':=by
 unfold SC at h;split at h
 ·-- a region's end
  rename_i ops i todo rnd rs st cs lps;obtain rfl:=Ag h;refine ⟨⟨hfl.cx,hfl.cs,hfl.le⟩,Xd.refl _ _,fun ho m0 n0 ρ0 w0 ρ b a k css w ma mb hs he cs0=> ?_⟩;obtain ⟨dD,hdf,htd,⟨hro,eA⟩,dN⟩:=hs.top;refine ⟨ρ,b,a,k,css,w,ma,mb,.one ?_,⟨⟨dD,hdf,htd,trivial,dN⟩,hs.lv,hs.rest,hs.rel⟩,he,rfl,Ar _⟩;have hge:ops.size<=i:=by simp_all
  have:(List.range ops.size).drop i=[]:=Av (by grind)
  grind [Vq,stepR_region_end]
 .exact w7t hN hS hCI hC hfl h
 .rename_i cx todo rnd rs st cs lps;split at h
  .grind [y7j]
  .grind [y7j]
  .obtain rfl:=Ag h;exact EQ.move hfl fun ρ k hk=>by obtain ⟨k',rfl,ht⟩:=hk.code;grind [stepR_skip]
  .obtain rfl:=Ag h;exact EQ.move hfl fun ρ k hk=>by obtain ⟨k',rfl,ht⟩:=hk.code;grind [stepR_label]
  .obtain rfl:=Ag h;exact EQ.move hfl fun ρ k hk=>by obtain ⟨k',rfl,ht⟩:=D7.item rfl hk;grind [stepR_inBlock]
  .obtain rfl:=Ag h;exact EQ.move hfl fun ρ k hk=>by obtain ⟨k',rfl,ht⟩:=D7.item rfl hk;exact ⟨k',ht,fun b a css w=>step_lone_go (by simp [stepG,stepG.exec,Frame.atR])⟩
  .obtain rfl:=Ag h;exact EQ.move hfl fun ρ k hk=>by obtain ⟨k',rfl,ht⟩:=hk.code;exact ⟨_,.cons (.same _ rfl) (.cons (.same _ rfl) ht),fun b a css w=>stepR_seq⟩
  ·-- a test
   rename_i c x y k0;split at h
   .rename_i v hv;split at h;rename_i e st1 ht;obtain rfl:=Ag h;obtain ⟨t1,t2,t3,t4⟩:=Sg ht;refine ⟨⟨hfl.cx,hfl.cs,by have:=hfl.le;grind⟩,Xd.same t2 t3 fun ho=>(t4 ho).2,fun ho m0 n0 ρ0 w0 ρ b a k css w ma mb hs he cs0=> ?_⟩;obtain ⟨rfl,_⟩:=t4 ho;obtain ⟨dD,hdf,htd,hro,dN⟩:=hs.top;obtain ⟨k',rfl,htl⟩:=htd.code;have hc:=dD.eval c;rw [hv] at hc;have hev:a.eval c=.bool e:=by generalize a.eval c=u at hc;cases hc;rfl
    refine ⟨ρ,b,a,_,css,w,ma,mb,.one (stepR_cond hev),⟨⟨by grind,hdf,.cons ?_ htl,trivial,dN⟩,hs.lv,hs.rest,by rw [t2,t3];exact hs.rel⟩,by grind,rfl,Ar _⟩;cases e <;> exact .same _ rfl
   .cases h
  .obtain rfl:=Ag h;exact EQ.move hfl fun ρ k hk=>by obtain ⟨k',rfl,ht⟩:=hk.code;exact ⟨_,.cons (.same _ rfl) (.cons (.same _ rfl) ht),fun b a css w=>stepR_block⟩
  .obtain rfl:=Ag h;exact EQ.move hfl fun ρ k hk=>by obtain ⟨k',rfl,ht⟩:=hk.code;exact ⟨_,.cons (.same _ rfl) (.cons (.same _ rfl) ht),fun b a css w=>step_lone_go (by simp [stepG,stepG.exec,Frame.atR])⟩
  .obtain rfl:=Ag h;exact EQ.move hfl fun ρ k hk=>by obtain ⟨k',rfl,ht⟩:=hk.code;exact ⟨_,.cons (.same _ rfl) (.cons (.same _ rfl) ht),fun b a css w=>stepR_loop⟩
  .obtain rfl:=Ag h;exact EQ.move hfl fun ρ k hk=>by obtain ⟨k',rfl,ht⟩:=D7.item rfl hk;exact ⟨_,.cons (.same _ rfl) (.cons (.same _ rfl) ht),fun b a css w=>stepR_inLoop⟩
  ·-- an exit
   rename_i id k0;split at h
   .rename_i k1 hx;obtain rfl:=Ag h;exact EQ.move hfl fun ρ k hk=>by
     obtain ⟨k',rfl,ht⟩:=hk.code;obtain ⟨r',h1,h2⟩:=(ht.exit id).1 _ hx
     grind [stepR_exit]
   grind [y7j]
  ·-- a region in the order of the text
   rename_i id ops k0;obtain ⟨eA,h⟩:=Zo h;obtain rfl:=Ag h;refine ⟨⟨hfl.cx,hfl.cs,hfl.le⟩,Xd.refl _ _,fun ho m0 n0 ρ0 w0 ρ b a k css w ma mb hs he cs0=> ?_⟩;obtain ⟨dD,hdf,htd,hro,dN⟩:=hs.top;obtain ⟨k',rfl,htl⟩:=htd.code;exact ⟨ρ,b,a,k',css,w,ma,mb,.one stepR_region,⟨⟨dD,hdf,htl,⟨rfl,eA⟩,dN⟩,hs.lv,hs.rest,hs.rel⟩,he,rfl,Ar _⟩
  ·-- a region that draws its order
   rename_i id ops k0;split at h
   ·-- it hands out a round
    rename_i m hty;split at h
    .rename_i st1 hop;obtain rfl:=Ag h;obtain ⟨hm,eA,dU,hfor,hgd⟩:=w7n hty;have hm':=Nat.le_of_lt hm;have hi:=y6x hCI _ _ _ _ hop;have e:=hfl.cx;simp only at e;have hcx:cx.floor<=st.next:=by have:=hfl.le;grind
     refine ⟨⟨e,hfl.cs,AG hfl.le hi.nxt⟩,by grind,fun ho m0 n0 ρ0 w0 ρ b a k css w ma mb hs he cs0=> ?_⟩;obtain ⟨dD,hdf,htd,hro,dN⟩:=hs.top;obtain ⟨k',rfl,htl⟩:=htd.code;have hw:=y0j hN hS hCI hC hcx dU hop ho hdf dD (hs.rel.drawn (w.drawn+1));have hw2:=wpAny_sound (Ws ops m).size (w.tape w.drawn (.order b.fn id)) _ a _ hw;rw [w4v _ hm',x4o hm'] at hw2;have back: ∀(j:Nat) x,ops[j]? =some x-> ∃y,(Ws ops m)[j]? =some y/\y.after=x.after:=fun j x hx=>by
      grind [y1v]
     have eQ: ∀(j:Nat) x,ops[j]? =some x-> ∀e∈x.after.toList,Region.binds .any e=true->e.on<j:=fun j x hx e he hb=>by obtain ⟨y,hy,hya⟩:=back j x hx;exact (z8p dU).ord j y hy e (by grind) hb
     have hcl0: ∀S,HJ ops S->HJ (Ws ops m) S:=fun S hc j y hy hS e he hb=>by
      have hsa:=y1v hm' j;rw [hy] at hsa;cases hsx:ops[j]? with
      | none=>grind
      | some x=>rw [hsx] at hsa;simp only [BZ,Ad] at hsa;exact hc j x hsx hS e (by grind) hb
     have hfor': ∀j x,m<=j->ops[j]? =some x-> ∀i,i<j->JJ ops i x:=fun j x hj hx i hij S hc hr=>by obtain ⟨y,hy,hya⟩:=back j x hx;exact hfor j y hj hy i hij S (hcl0 S hc) fun e he hb=>hr e (by grind) hb
     have eE: ∀i,(Array.replicate ops.size false).getD i false=false:=fun i=>by by_cases hi:i<ops.size <;> simp [hi]
     obtain ⟨l,hl,hlm⟩:=u3t eQ hm hfor' ops.size (w.tape w.drawn (.order b.fn id)) (Array.replicate ops.size false) (by simp) (fun j x hx hS=>by grind) (by
      simp_all) (fun q _=>eE q)
     rw [hl] at hw2;obtain ⟨a',w',⟨_,hd',ρ',q1,q2,q3⟩,dR⟩:=y9v (b:=b) (k:=k') (cs:=css++cs0) (fun e a w hq=>hq.1) hm' eA hgd (r:=(List.range ops.size).drop m) (fun i hi=>by
      obtain ⟨n,hn,rfl⟩:=AQ hi;simp) l a _ hlm hw2
     have hev:=q3.drawn;refine ⟨ρ',b,a',k',css,w',ma,mb,.head stepR_region_draw ?_,⟨⟨q1,hd',htl.mono fun _ _=>Eq.mono hev.ext,⟨rfl,eA⟩,?_⟩,hs.lv,hs.rest.ev hev,q2⟩,he.trans (by grind),rfl,hev.size⟩
     .grind [Region.schedule,Vq,Region.linearise]
     .exact ((⟨dD,hdf,htd,hro,dN⟩:Ft ρ cx none _ rnd st.env b a _ ma).mono hev.ext).rnd
    .cases h
   split at h;rename_i z hlz;obtain ⟨dU,eA⟩:=v0p hlz;split at h
   .rename_i st1 hop;obtain rfl:=Ag h;have hi:=y6x hCI _ _ _ _ hop;have e:=hfl.cx;simp only at e;have hcx:cx.floor<=st.next:=by have:=hfl.le;grind
    refine ⟨⟨e,hfl.cs,AG hfl.le hi.nxt⟩,by grind,fun ho m0 n0 ρ0 w0 ρ b a k css w ma mb hs he cs0=> ?_⟩;obtain ⟨dD,hdf,htd,hro,dN⟩:=hs.top;obtain ⟨k',rfl,htl⟩:=htd.code;have hw:=y0j hN hS hCI hC hcx dU hop ho hdf dD (hs.rel.drawn (w.drawn+1));have hw2:=wpAny_sound ops.size (w.tape w.drawn (.order b.fn id)) _ a _ hw;obtain ⟨a',w',⟨hd',ρ',q1,q2,q3⟩,dR⟩:=y6v (b:=b) (k:=k') (cs:=css++cs0) (fun e a w hq=>hq) eA _ _ _ hw2;have hev:=q3.drawn;refine ⟨ρ',b,a',k',css,w',ma,mb,.head stepR_region_draw ?_,⟨⟨q1,hd',htl.mono fun _ _=>Eq.mono hev.ext,trivial,?_⟩,hs.lv,hs.rest.ev hev,q2⟩,he.trans (by grind),rfl,hev.size⟩
    .simp only [Region.schedule,hmx,Bool.true_or,if_true];exact dR
    .exact ((⟨dD,hdf,htd,hro,dN⟩:Ft ρ cx none _ rnd st.env b a _ ma).mono hev.ext).rnd
   all_goals grind
  ·-- a loop over a function
   rename_i f params assign body k0;split at h
   .rename_i g caps hg;obtain ⟨env,mem,next,orc,ob⟩:=st;simp only [St.nextId] at h;obtain ⟨hrk,h⟩:=Zo h;have hCeq: ∃fn fbody,P.funcs[g]? =some fn/\fn.body=some fbody/\C'=⟨⟨Nat.max fn.ntmps (B9.yld next::caps).length,cx.floor,cx.sym⟩,none,[.code fbody],none,fn.results.toList,St.withEnv ⟨env,mem,next+1,orc,ob⟩ (FL (B9.yld next::caps) 0 .leaf),⟨cx,none,.inRangeFunc next::k0,rnd,rs,env⟩::cs,Fv lps next (some ⟨.ready,none,cx.n,env,params.toList,assign,body⟩)⟩:=by
     grind [Rl]
    obtain ⟨fn,fbody,hfn,hb,hCe⟩:=hCeq;refine ⟨by rw [hCe];exact hfl.enter (B8 _),?_,fun ho m0 n0 ρ0 w0 ρ b a k css w ma mb hs he cs0=> ?_⟩
    .rw [hCe];exact ⟨B8 _,fun hbd x hx=>hbd x (Nat.le_of_succ_le hx),fun _ _ _=>rfl,fun ho=>ho⟩
    obtain ⟨dD,hdf,htd,hro,dN⟩:=hs.top;obtain ⟨k',rfl,htl⟩:=htd.code;have cZ:=hs.rel;simp only at dD cZ he dN hdf htl;have lay: ∃l mk w1 d,(Instr.enterLoop b.fn a.tmps params assign body b.roundOf).run P w=.ok (l,(mk:zr).map PP) w1/\w1.heap[l]? =some (.loop ⟨.ready,none,b.fn,a.tmps,params,assign,body,d⟩)/\w0.heap.size<=l/\Sp ρ w1 l/\CF ρ mem next w1/\Ev ρ0 ρ fl m0 n0 mem next w0 w1/\(rnd.isSome=true->mk=[])/\
      Dl P w0.heap.size ρ cs lps css w1 (mk++ma) mb/\(∀j L l',DT lps j=some L->ρ.lp j=some l'->l'≠l)/\w.heap.size<=w1.heap.size:=by
     have gr: ∀(w1:World) (o:Obj) (mk:zr),Dl P w0.heap.size ρ cs lps css w1 mk mb->Dl P w0.heap.size ρ cs lps css (w1.alloc o) mk mb:=fun w1 o mk hr=>
      ⟨hr.cs,hr.nodup,fun r hx=>by obtain ⟨q1,q2,q3⟩:=hr.marks r hx;exact ⟨q1,(q2.grow o).1,by rw [(q2.grow o).2];exact q3⟩,fun j L hL=>by
       obtain ⟨l,q1,q2,q3,tm,fn',d,q4,q5⟩:=hr.loops j L hL;exact ⟨l,q1,q2,(q3.grow o).1,tm,fn',d,by rw [(q3.grow o).2];exact q4,q5⟩,hr.inj⟩
     have far: ∀(w1:World),Dl P w0.heap.size ρ cs lps css w1 ma mb-> ∀j L l',DT lps j=some L->ρ.lp j=some l'->l'<w1.heap.size:=fun w1 hr j L l' hL e=>by obtain ⟨l2,q⟩:=hr.loops j L hL;have:=q.lp;rw [e] at this;obtain rfl:=Ag this;exact q.sp.1
     cases hr:b.roundOf with
     | none=>
      have hrn:rnd=none:=by
       grind
      subst hrn;have hs1:Sp ρ (w.alloc (.deferred (some []))) w.heap.size:=Sp.fresh cZ _;have dY:=cZ.grow (.deferred (some []));have hsz1:(w.alloc (.deferred (some []))).heap.size =w.heap.size+1:=(by simp_all);have eG:Dl P w0.heap.size ρ cs lps css (w.alloc (.deferred (some []))) ([w.heap.size]++ma) mb:=by
       have hr1:=gr w (.deferred (some [])) ma hs.rest;have hnin:w.heap.size ∉ ma++mb:=fun hin=>by have:=(hs.rest.marks _ hin).2.1.1;omega
       refine ⟨hr1.cs,by rw [AH];exact List.nodup_cons.2 ⟨hnin,hr1.nodup⟩,fun r hx=> ?_,hr1.loops,hr1.inj⟩;simp only [BV,A1,AN] at hx;rcases hx with rfl | hx
       .exact ⟨he.size,hs1,by show (w.heap.push _)[w.heap.size]? =_;simp⟩
       .exact hr1.marks r hx
      refine ⟨w.heap.size+1,[w.heap.size],_,w.heap.size,run_enterLoop_outer _ _ _ _ _,?_,by have:=he.size;omega,?_,dY.grow _,(he.grow _).grow _,(fun e=>by cases e),gr _ _ _ eG,fun j L l' hL e=> ?_,?_⟩
      .grind [World.alloc_heap_new]
      .grind [Sp.fresh]
      .have:=far w hs.rest j L l' hL e;omega
      .show _<=((w.heap.push _).push _).size
       grind
     | some l0=>
      obtain ⟨j0,rfl⟩: ∃j0,rnd=some j0:=by
       grind
      obtain ⟨hma,l1,hlp1,e2⟩:=dN;rw [hr] at e2;obtain rfl:=Ag e2;subst hma;have fH: ∃L0,DT lps j0=some L0:=BW.1 hrk;obtain ⟨L0,hL0⟩:=fH;obtain ⟨l2,q1,q2,q3,tm,fn',d,q4,q5⟩:=hs.rest.loops j0 L0 hL0;rw [hlp1] at q1;obtain rfl:=Ag q1;refine ⟨w.heap.size,[],_,_,run_enterLoop_inner q4 _ _ _ _ _,World.alloc_heap_new _ _,he.size,Sp.fresh cZ _,cZ.grow _,he.grow _,(fun _=>rfl),gr _ _ _ hs.rest,fun j L l' hL e=> ?_,?_⟩
      .have:=far w hs.rest j L l' hL e;omega
      simp_all
    obtain ⟨l,mk,w1,d,hen,fG,hlow,hsp,dY,hev1,hmk,eG,hne,hsz⟩:=lay;have hle:ρ.le (lpAdd ρ next l):=x3a dY.lp_none;have hlpj:(lpAdd ρ next l).lp next=some l:=AJ rfl
    have get: ∀i L,DT (Fv lps next (some L)) i=if i=next then some L else DT lps i:=fun i L=>T.get_set none lps next (some L) i
    have hlps: ∀j L l',DT lps j=some L->(lpAdd ρ next l).lp j=some l'->j≠next->ρ.lp j=some l':=fun j L l' _ e hj=>by
     have e:(if j=next then some l else ρ.lp j)=some l':=e
     grind
    have hrest2:Dl P w0.heap.size (lpAdd ρ next l) cs (Fv lps next (some ⟨.ready,none,cx.n,env,params.toList,assign,body⟩)) css w1 (mk++ma) mb:=by
     refine ⟨eG.cs.mono hle,eG.nodup,eG.marks,fun j L hL=> ?_,fun j j' L L' l' hL hL' e e'=> ?_⟩
     .rw [get] at hL;by_cases hj:j=next
      .subst hj;rw [AJ rfl] at hL;obtain rfl:=Ag hL;exact ⟨l,hlpj,hlow,hsp,a.tmps,b.fn,d,by simp_all,dD.mono hle⟩
      .rw [AC hj] at hL;obtain ⟨l2,q1,q2,q3,tm,fn',d',q4,q5⟩:=eG.loops j L hL;exact ⟨l2,hle.2.2 _ _ q1,q2,q3,tm,fn',d',q4,q5.mono hle⟩
     .rw [get] at hL hL';by_cases hj:j=next <;> by_cases hj':j'=next
      .rw [hj,hj']
      .grind
      .grind
      .rw [AC hj] at hL;rw [AC hj'] at hL';exact eG.inj j j' L L' l' hL hL' (hlps _ _ _ hL e hj) (hlps _ _ _ hL' e' hj')
    have hf:=(show Vy ρ (St.env ⟨env,mem,next,orc,ob⟩) cx.n a.tmps from dD).eval f;rw [hg] at hf;generalize hw':a.eval f=u at hf;cases hf with
    | fn _ _ cvs hl hh=>
     have dC:Vg (Yv (lpAdd ρ next l)) (B9.yld next::caps) (#[Value.func (.yield l) #[] #[]]++cvs).toList :=by rw [Array.toList_append];exact .cons (.yld _ _ hlpj) (Vg.of (by simp_all) fun i h1 h2=>by simpa using (hh i h1 (by grind)).mono hle)
     have dM:=R5 hN hfn (by rw [hb];rfl) (#[Value.func (.yield l) #[] #[]]++cvs) w1;have dZ:=stepR_rangeFunc (P:=P) (b:=b) (a:=a) (k:=k') (cs:=css++cs0) (g:=f) (d:=⟨.fn (.func g) cvs, #[Value.func (.yield l) #[] #[]]⟩) (w₁':=w1) hen
      (by simp_all [resolve,Deferred.ofValue,Act.eval]) (by simp only [invoke];exact dM)
     have hfr:Ft (lpAdd ρ next l) cx none (.inRangeFunc next::k0) rnd env b {a with defers:=mk.map PP++a.defers} (.inRangeFunc l::k') (mk++ma):=
      ⟨dD.mono hle,by grind,.cons (.inR _ _ hlpj) (htl.mono fun _ _=>Eq.mono hle),trivial,by
       cases rnd with
       | none=>exact dN
       | some j=>
        obtain ⟨h0,l',h1,h2⟩:=dN;exact ⟨by grind,l',hle.2.2 _ _ h1,h2⟩⟩
     obtain ⟨_,_,_,_,_,b',a',k2,hent,hsr⟩:=x1d h hfr hs.lv hrest2 (show CF _ mem (next+1) w1 from dY.lpAdd l) dC;refine ⟨lpAdd ρ next l,b',a',k2,_,w1,_,_,.one ?_,hsr,?_,by cases css <;> rfl,hsz⟩
     .rw [show C'.ro=none by rw [hCe],<-hent];exact dZ
     .rw [hCe];exact hev1.lpAdd dY l
   .cases h
  ·-- a round begins
   rename_i k0;split at h
   .rename_i j;split at h
    .rename_i pend n env params assign body hlg;obtain rfl:=Ag h;refine ⟨⟨hfl.cx,hfl.cs,hfl.le⟩,Xd.refl _ _,fun ho m0 n0 ρ0 w0 ρ b a k css w ma mb hs he cs0=> ?_⟩;obtain ⟨dD,hdf,htd,hro,dN⟩:=hs.top;obtain ⟨rfl,lr0,hlp0,hrb⟩:=dN;obtain ⟨k',rfl,htl⟩:=D7.item rfl htd;obtain ⟨lr,hla⟩:=hs.rest.loops j _ hlg;have hla':=hla;obtain ⟨hlp,hlow,hsp,ltmps,lfn,ld,fG,eI⟩:=hla;rw [hlp] at hlp0;obtain rfl:=Ag hlp0;have dB:=run_beginRound (P:=P) fG rfl;have dS:=hs.rest.record (w':=w.putObj lr (.loop ⟨.busy,pend,lfn,ltmps,params.toArray,assign,body,ld⟩)) hlg hla' (L':=⟨.busy,pend,n,env,params,assign,body⟩)
      ⟨hlp,hlow,hsp.turned (Vm.put _ _ _),ltmps,lfn,ld,World.putObj_heap_same hsp.1,eI⟩ (Vm.put _ _ _)
     refine ⟨ρ,b,a,k',css,_,[],mb,.one (stepR_beginRound hrb dB),⟨⟨dD,hdf,htl,trivial,⟨rfl,lr,hlp,hrb⟩⟩,hs.lv,dS,hs.rel.turned (fun r hr=>by grind) (Vm.put _ _ _)⟩,he.turned (m:=[lr]) (fun r hr=>by grind) (Vm.put _ _ _),rfl,B5 (Vm.put _ _ _).size.symm⟩
    .cases h
   .cases h
  ·-- a loop's end
   rename_i j k0;split at h
   .cases h
   .rename_i Cw pend n env params assign body hnb hlg;obtain rfl:=Ag h;refine ⟨⟨hfl.cx,hfl.cs,hfl.le⟩,Xd.refl _ _,fun ho m0 n0 ρ0 w0 ρ b a k css w ma mb hs he cs0=> ?_⟩;obtain ⟨dD,hdf,htd,hro,dN⟩:=hs.top;obtain ⟨lr,hla⟩:=hs.rest.loops j _ hlg;have hla':=hla;obtain ⟨hlp,hlow,hsp,ltmps,lfn,ld,fG,eI⟩:=hla;cases htd with
    | @cons _ y _ k' hx htl=>
     cases hx with
     | same _ hp=>cases hp
     | endR _ l hl =>
      rw [hlp] at hl;obtain rfl:=Ag hl;have hb:Cw≠ .busy :=fun e=>by grind
      have dB:=run_endLoop (P:=P) fG hb;have dS:=hs.rest.record (w':=w.putObj lr (.loop ⟨.exhausted,pend,lfn,ltmps,params.toArray,assign,body,ld⟩)) hlg hla' (L':=⟨.exhausted,pend,n,env,params,assign,body⟩)
       ⟨hlp,hlow,hsp.turned (Vm.put _ _ _),ltmps,lfn,ld,World.putObj_heap_same hsp.1,eI⟩ (Vm.put _ _ _)
      refine ⟨ρ,b,a,_,css,_,ma,mb,.one (stepR_endRangeFunc dB),⟨⟨dD,hdf,?_,trivial,dN⟩,hs.lv,dS,hs.rel.turned (fun r hr=>by grind) (Vm.put _ _ _)⟩,he.turned (m:=[lr]) (fun r hr=>by grind) (Vm.put _ _ _),rfl,B5 (Vm.put _ _ _).size.symm⟩;cases pend with
      | none=>exact htl
      | some c=>exact .cons (.same _ rfl) htl
   .cases h
  .cases h
theorem v4i {S:CB} {Rc:CL} {n:Nat} {C:CI}:FW P S Rc (n+1) C=(bif G9 C then some C else match SC P S Rc C with
  | some C'=>FW P S Rc n C'
  | none=>none):=rfl
theorem y7s {C:CI} (h:G9 C=true):C.ro=none/\C.rnd=none/\C.cs=[]/\(C.todo=[]\/ ∃t,C.todo=.code .ret ::t):=by
 unfold G9 at h
 grind
theorem FH.trans {fl:Nat} {A B C:CI} (h:FH P fl A B) (k:FH P fl B C):FH P fl A C:=by intro m0 n0 ρ0 w0 ρ b a t css w ma mb hs he cs0;obtain ⟨ρ1,b1,a1,t1,css1,w1,ma1,mb1,s1,r1,e1,q1,z1⟩:=h m0 n0 ρ0 w0 ρ b a t css w ma mb hs he cs0;obtain ⟨ρ2,b2,a2,t2,css2,w2,ma2,mb2,s2,r2,e2,q2,z2⟩:=k m0 n0 ρ0 w0 ρ1 b1 a1 t1 css1 w1 ma1 mb1 r1 e1 cs0;exact ⟨ρ2,b2,a2,t2,css2,w2,ma2,mb2,s1.trans s2,r2,e2,q2.trans q1,AG z1 z2⟩
theorem x2g {S:CB} {Rc:CL} (hN:ER P) (hmx:P.follows .mixedOrders =true) (hS:Zw P S) (hCI:Er Rc) (hC:G5 P Rc) {fl:Nat}: ∀(n:Nat) (C C':CI),Fl fl C->FW P S Rc n C=some C'->G9 C'=true/\Xd fl C.st C'.st/\(C'.st.ob=true->FH P fl C C')
 | 0,C,st',_,h=>by cases h
 | n+1,C,C',hfl,h=>by
  rw [v4i] at h;cases hf:G9 C with
  | true=>rw [hf] at h;obtain rfl:=Ag h;exact ⟨hf,Xd.refl _ _,fun _=>FH.refl fl C⟩
  | false=>
   rw [hf,Aa] at h;split at h
   .rename_i C1 h1;have s1:=x4p hN hmx hS hCI hC hfl h1;obtain ⟨f1,f4,f5⟩:=x2g hN hmx hS hCI hC n C1 C' s1.fls h;exact ⟨f1,s1.inv.trans f4,fun ho=>(s1.leads (f4.ob ho)).trans (f5 ho)⟩
   .cases h
theorem D7.refl_plain {ρ:CE}: ∀(k:List Item),k.all NQ=true->D7 ρ k k
 | [],_=>.nil
 | x::k,h=>by simp only [BH,Ac] at h;exact .cons (.same x h.1) (D7.refl_plain k h.2)
theorem x0f (base:Nat) (ρ:CE) (w:World):Dl P base ρ [] .leaf [] w [] []:=
 ⟨.nil,List.nodup_nil,(fun r hr=>by cases hr),(fun j L hL=>by cases hL),(fun j j' L L' l hL=>by cases hL)⟩
theorem v4j (hN:ER P) (hmx:P.follows .mixedOrders =true) {S:CB} (hS:Zw P S) (n:Nat): ∀d,Er (PS P S n d)/\G5 P (PS P S n d)
 | 0=>⟨(fun cx todo st st' h=>by cases h),(fun cx todo st st' _ h=>by cases h)⟩
 | d+1=>by
  obtain ⟨hCI,hC⟩:=v4j hN hmx hS n d;have key: ∀{cx todo st st'},PS P S n (d+1) cx todo st=some st'->todo.all NQ=true/\Fl cx.floor ⟨cx,none,todo,none,[],st,[],.leaf⟩/\ ∃C',FW P S (PS P S n d) n ⟨cx,none,todo,none,[],st,[],.leaf⟩=some C'/\C'.cx.n=cx.n/\C'.st=st':=by
   intro cx todo st st' h;have h:(bif todo.all NQ&&Nat.ble cx.floor st.next then match FW P S (PS P S n d) n ⟨cx,none,todo,none,[],st,[],.leaf⟩ with
    | some C=>bif Nat.beq C.cx.n cx.n then some C.st else none
    | none=>none
    else none)=some st':=h
   obtain ⟨hp,h⟩:=Zo h;simp only [Ac] at hp;refine ⟨hp.1,⟨rfl,fun af haf=>(by cases haf),Al hp.2⟩,?_⟩;split at h
   .rename_i C' hr;obtain ⟨hn,h⟩:=Zo h;simp_all
   .cases h
  refine ⟨fun cx todo st st' h=> ?_,fun cx todo st st' hcx h ho ρ a w b cs hd dD cZ=> ?_⟩
  .obtain ⟨_,hfl,C',hr,_,rfl⟩:=key h;exact (x2g hN hmx hS hCI hC n _ C' hfl hr).2.1
  .obtain ⟨hpl,hfl,C',hr,hn,rfl⟩:=key h;obtain ⟨f1,f2,f3⟩:=x2g hN hmx hS hCI hC n _ C' hfl hr;obtain ⟨e1,e2,e3,e4⟩:=y7s f1;obtain ⟨ρ',b',a',k',css',w',ma',mb',s1,r1,v1,q1,_⟩:=f3 ho st.mem st.next ρ w ρ {b with roundOf:=none} a todo [] w [] []
    ⟨⟨dD,hd,D7.refl_plain todo hpl,trivial,rfl⟩,fun h=>absurd rfl h,x0f _ _ _,cZ⟩ (Ev.refl _ _ _ _ _ cZ.dom) cs
   have hcs:=r1.rest.cs;rw [e3] at hcs;cases hcs;obtain ⟨w2,s2,henv',dT,eK,_,_⟩:=y7x r1 e1 e2 e4 rfl v1 cs;refine ⟨ρ',{a' with defers:=[]},k',w2,?_,rfl,by grind,dT,eK⟩;have hb:b.at a todo=Frame.atR {b with roundOf:=none} a (Vq none todo):=rfl;have hb':Frame.atR b' {a' with defers:=[]} k'=b.at {a' with defers:=[]} k':=by
    have q:(b'.fn,b'.kind,b'.roundOf)=(b.fn,b.kind,none):=q1
    grind [Frame.atR,Frame.at]
   rw [hb,<-hb'];exact s1.trans s2
end
structure Cx where
 keep:zr
 frz:zr
 slots:List (Option zr)
 lslots:List (Option zr):=[]
def Fq (b:Nat):zr->Nat->Option Nat
 | [],_=>none
 | x::l,i=>bif Nat.beq x b then some i else Fq b l (i+1)
def hasN (b:Nat):zr->Bool
 | []=>false
 | x::l=>bif Nat.beq x b then true else hasN b l
def u5k (cells:zy) (off sz:Nat):Nat->zy:=fun k=>(cells.drop (off+k*sz)).take sz
def Ia (P:Program) (blk:CG):B9->B9
 | .ptr _ o=>.dptr (blk.cells.drop o)
 | .sl _ off len _=>match P.info? blk.ty with
  | some i=>bif Nat.ble (off+len*i.size) blk.cells.length then .dat len (u5k blk.cells off i.size) else .undef
  | none=>.undef
 | .sla _ sz off len _=>match blk.arr with
  | some A=>bif Nat.beq A.sz sz&&Nat.ble (off+len) A.n then .dat len (fun k=>A.get (off+k)) else .undef
  | none=>.undef
 | _=>.undef
def FY (P:Program) (mem:CJ) (N:Cx) (b:Nat) (v:B9) (f:Nat->B9):B9:=
 match Fq b N.keep 0 with
 | some b'=>f b'
 | none=>bif hasN b N.frz then match Yn mem b with
   | some blk=>Ia P blk v
   | none=>.undef
  else .undef
def Cq (P:Program) (mem:CJ) (N:Cx):Nat->B9->B9
 | 0,_=>.undef
 | d+1,v=>match v with
  | .ptr b o=>FY P mem N b (.ptr b o) fun b'=>.ptr b' o
  | .sl b off len cap=>FY P mem N b (.sl b off len cap) fun b'=>.sl b' off len cap
  | .sla b sz off len cap=>FY P mem N b (.sla b sz off len cap) fun b'=>.sla b' sz off len cap
  | .epa b sz i fo=>FY P mem N b (.epa b sz i fo) fun b'=>.epa b' sz i fo
  | .yld j=>match Fq j N.keep 0 with
   | some j'=>.yld j'
   | none=>.undef
  | .slv b sz off len=>match Fq b N.keep 0 with
   | some b'=>.slv b' sz off len
   | none=>.undef
  | .mapr b=>match Fq b N.keep 0 with
   | some b'=>.mapr b'
   | none=>.undef
  | .agg cs=>.agg (cs.map (Cq P mem N d))
  | .tup cs=>.tup (cs.map (Cq P mem N d))
  | .fn f cs=>.fn f (cs.map (Cq P mem N d))
  | .fnb f cs=>.fnb f (cs.map (Cq P mem N d))
  | .ifc t v=>.ifc t (Cq P mem N d v)
  | v=>v
def T.map (f:B9->B9) (t:T B9):T B9:=
 T.rec (motive:=fun _=>T B9) .leaf (fun v _ _ l r=>.node (f v) l r) t
def N2 (f:B9->B9) (env:T B9):zr->T B9
 | []=>.leaf
 | t::l=>T.set .undef (N2 f env l) t (f (T.get .undef env t))
def J1 (f:B9->B9) (env:T B9):Option zr->T B9
 | none=>T.map f env
 | some l=>N2 f env l
def Ej (f:B9->B9):Cs->Cs
 | .flat g=>.flat g
 | .one r cs b=>.one r (cs.map f) (Ej f b)
 | .alt c a b=>.alt c (Ej f a) (Ej f b)
def Rs (P:Program) (mem:CJ) (N:Cx):CG->CG
 | ⟨cells,ty,none⟩=>⟨cells.map (Cq P mem N 6),ty,none⟩
 | ⟨_,ty,some A⟩=>⟨rows A.n (Ej (Cq P mem N 6) A.rw).get,ty,some ⟨A.sz,A.n,Ej (Cq P mem N 6) A.rw⟩⟩
def Rp :Cs->Bool
 | .flat g=>pd (∀i,(g i).all (pf 6)=true)
 | .one _ _ b=>Rp b
 | .alt _ a b=>Rp a&&Rp b
def u4r (blk:CG):Bool:=match blk.arr with
 | none=>true
 | some A=>Rp A.rw
def Eo (P:Program) (mem:CJ) (N:Cx):zr->Nat->CJ×Bool
 | [],_=>(.leaf,true)
 | b::l,i=>match Eo P mem N l (i+1) with
  | (m,o)=>match Yn mem b with
   | none=>(m,o)
   | some blk=>(Wv m i (some (Rs P mem N blk)),u4r blk&&o)
def Em (mem:CJ):zr->Bool
 | []=>true
 | b::l=>match Yn mem b with
  | none=>Em mem l
  | some blk=>(match blk.arr with
   | none=>blk.cells.all (pf 6)
   | some A=>pd (∀i,(A.get i).all (pf 6)=true))&&Em mem l
def Ng (f:B9->B9) (lps:CQ):zr->Nat->List (Option zr)->CQ
 | [],_,_=>.leaf
 | b::l,i,sl=>match DT lps b with
  | none=>Ng f lps l (i+1) sl.tail
  | some ⟨st,pend,n,env,params,assign,body⟩=>Fv (Ng f lps l (i+1) sl.tail) i (some ⟨st,pend,n,J1 f env (sl.headD none),params,assign,body⟩)
def Rg (keep:zr):Item->Option Item
 | .inRangeFunc j=>(Fq j keep 0).map .inRangeFunc
 | .endRangeFunc j=>(Fq j keep 0).map .endRangeFunc
 | x=>bif NQ x then some x else none
def RQ (keep:zr):List Item->Option (List Item)
 | []=>some []
 | x::l=>match Rg keep x,RQ keep l with
  | some y,some m=>some (y::m)
  | _,_=>none
def Ti (keep:zr):Option Nat->Option (Option Nat)
 | none=>some none
 | some j=>(Fq j keep 0).map some
def Rx (f:B9->B9) (keep:zr):List Ci->List (Option zr)->Option (List Ci)
 | [],_=>some []
 | ⟨cx,ro,todo,rnd,rs,env⟩::cs,sl=>match RQ keep todo,Ti keep rnd,Rx f keep cs sl.tail with
  | some todo',some rnd',some cs'=>some (⟨cx,ro,todo',rnd',rs,J1 f env (sl.headD none)⟩::cs')
  | _,_,_=>none
def G3 :zr->zr->Bool
 | [],_=>true
 | b::l,frz=> !hasN b frz&&(!hasN b l&&G3 l frz)
def u3d (P:Program) (N:Cx):CI->Option CI
 | ⟨cx,ro,todo,rnd,rs,⟨env,mem,next,orc,ob⟩,cs,lps⟩=>
  match RQ N.keep todo,Ti N.keep rnd,Rx (Cq P mem N 6) N.keep cs N.slots.tail with
  | some todo',some rnd',some cs'=>
   bif G3 N.keep N.frz then
    match Eo P mem N N.keep 0 with
    | (mem',o)=>some ⟨cx,ro,todo',rnd',rs,⟨J1 (Cq P mem N 6) env (N.slots.headD none),mem',N.keep.length,[],o&&(Em mem N.frz&&ob)⟩,cs',Ng (Cq P mem N 6) lps N.keep 0 N.lslots⟩
   else none
  | _,_,_=>none
def G4 :Code->zr->List Item->Code×List Item
 | c,[],k=>(c,k)
 | .seq a b,0::p,k=>G4 a p (.code b::k)
 | .seq _ b,_::p,k=>G4 b p k
 | .block id c,_::p,k=>G4 c p (.inBlock id::k)
 | .loop c,_::p,k=>G4 c p (.inLoop c::k)
 | .scope c,_::p,k=>G4 c p (.inScope c::k)
 | .cond _ a _,0::p,k=>G4 a p k
 | .cond _ _ b,_::p,k=>G4 b p k
 | .rangeFunc _ _ a b,0::p,_=>G4 a p [.beginRound,.code b]
 | .rangeFunc _ _ _ b,_::p,_=>G4 b p []
 | c,_::_,k=>(c,k)
def Zq (P:Program) (f:FuncId) (p:zr) (j:Nat):List Item:=match G4 (j0v P f) p [] with
 | (c,k)=>(.code c::k).drop j
def Wx (P:Program) (f:FuncId) (p:zr):Code:=(G4 (j0v P f) p []).1
def Wr (P:Program) (f:FuncId) (p:zr) (i:Nat):Option CZ:=match Wx P f p with
 | .region _ ops _=>some (ops,i,ops.toList.drop i)
 | _=>none
def u4c (P:Program) (S:CB) (Rc:CL) (n:Nat):CI->Option CI:=
 Nat.rec (motive:=fun _=>CI->Option CI) (fun C=>some C) (fun _ R C=>match SC P S Rc C with
  | some C'=>R C'
  | none=>none) n
section
variable {P:Program}
theorem Jb {p:Prop} (h:pd p=true):p:= @Ax p (Classical.propDecidable p) h
theorem Xt {p:Prop} (h:p):pd p=true:= @Af p (Classical.propDecidable p) h
theorem x0w {b:Nat}: ∀{l:zr} {i j:Nat},Fq b l i=some j->i<=j/\l[j - i]? =some b
 | [],i,j,h=>by cases h
 | x::l,i,j,h=>by
  unfold Fq at h;rcases Uw h with ⟨hx,h⟩ | ⟨_,h⟩
  .simp_all
  .obtain ⟨h1,h2⟩:=x0w h
   grind
theorem XO {b:Nat}: ∀{l:zr},hasN b l=true↔b∈l
 | []=>by simp [hasN]
 | x::l=>by
  unfold hasN;cases hx:Nat.beq x b with
  | true=>simp [Aj hx]
  | false=>
   have:x≠b:=fun e=>by rw [e,BK] at hx;cases hx
   rw [Aa,XO,AN];exact ⟨.inr,fun h=>h.resolve_left fun e=>this e.symm⟩
theorem y7z : ∀{l frz:zr},G3 l frz=true->l.Nodup/\ ∀b∈l,b ∉ frz
 | [],_,_=>⟨List.nodup_nil,fun b hb=>by cases hb⟩
 | x::l,frz,h=>by
  unfold G3 at h;simp only [Ac,A8] at h;obtain ⟨h1,h2,h3⟩:=h;obtain ⟨i1,i2⟩:=y7z h3;have n1:x ∉ frz:=fun hm=>by rw [XO.2 hm] at h1;cases h1
  have n2:x ∉ l:=fun hm=>by rw [XO.2 hm] at h2;cases h2
  exact ⟨List.nodup_cons.2 ⟨n2,i1⟩,fun b hb=>by
   rcases AN.1 hb with rfl | hb
   .exact n1
   .exact i2 b hb⟩
def Fz (ρ:CE) (mem:CJ) (N:Cx) (k:Nat):Prop:= ∃b l,b∈N.frz/\ρ b=some l/\(Yn mem b).isSome =true/\l.blk=k
def DY (ρ:CE) (mem:CJ) (N:Cx) (w:World):CE:=
 ⟨fun b'=>(N.keep[b']?).bind fun b=>ρ b,fun k=> @ite _ (Fz ρ mem N k) (Classical.propDecidable _) (w.heap[k]?) (ρ.fz k),fun j'=>(N.keep[j']?).bind fun j=>ρ.lp j⟩
theorem Sl {ρ:CE} {mem:CJ} {next:Nat} {w:World} (h:CF ρ mem next w) (N:Cx) {k:Nat} {o:Obj} (e:ρ.fz k=some o):(DY ρ mem N w).fz k=some o:=by
 show @ite _ (Fz ρ mem N k) (Classical.propDecidable _) (w.heap[k]?) (ρ.fz k)=some o;by_cases hf:Fz ρ mem N k
 .obtain ⟨b,l,_,hb,hm,rfl⟩:=hf;have:=h.sep b l hb hm
  grind
 grind
theorem w0f {ρ:CE} {mem:CJ} {w:World} {N:Cx} {b:Nat} {l:C3} (hb:b∈N.frz) (hl:ρ b=some l) (hm:(Yn mem b).isSome =true):(DY ρ mem N w).fz l.blk=w.heap[l.blk]? :=
 AJ ⟨b,l,hb,hl,hm,rfl⟩
theorem Sb {ρ:CE} {mem:CJ} {next:Nat} {w:World} (h:CF ρ mem next w) (N:Cx):ρ.bare.le (DY ρ mem N w).bare :=⟨fun _ _ e=>(by cases e),fun _ _ e=>Sl h N e,fun _ _ e=>(by cases e)⟩
theorem Je {ρ:CE} {mem:CJ} {w:World} {N:Cx} {b b':Nat} (h:Fq b N.keep 0=some b'):(DY ρ mem N w) b'=ρ b/\(DY ρ mem N w).lp b'=ρ.lp b:=by
 obtain ⟨_,h2⟩:=x0w h;rw [Nat.sub_zero] at h2;constructor
 .show (N.keep[b']?).bind _=_;rw [h2];rfl
 .show (N.keep[b']?).bind _=_;rw [h2];rfl
theorem W3 {mem:CJ}: ∀{frz:zr},Em mem frz=true-> ∀b∈frz,∀blk,Yn mem b=some blk->(match blk.arr with | none=>blk.cells.all (pf 6)=true | some A=> ∀i,(A.get i).all (pf 6)=true)
 | [],_,b,hb,_,_=>by cases hb
 | x::l,h,b,hb,blk,hm=>by
  unfold Em at h;rcases AN.1 hb with rfl | hb
  .rw [hm] at h;simp only [Ac] at h;cases hA:blk.arr with
   | none=>have:=h.1;rw [hA] at this;exact this
   | some A=>have:=h.1;rw [hA] at this;exact Jb this
  .cases hx:Yn mem x with
   | none=>rw [hx] at h;exact W3 h b hb blk hm
   | some blk'=>rw [hx] at h;simp only [Ac] at h;exact W3 h.2 b hb blk hm
theorem y7q {mem:CJ} {next:Nat} {w:World} {ρ:CE} (h:CF ρ mem next w) {N:Cx} (ho:Em mem N.frz=true) {b:Nat} (hb:b∈N.frz) {blk:CG} (hm:Yn mem b=some blk) {l:C3} (hl:ρ b=some l):
  ∃val:Nat->Value,∀(i:Nat) (hi:i<blk.cells.length),Yv (DY ρ mem N w).bare blk.cells[i] (val i)/\HQ (DY ρ mem N w).fz l.blk (l.base+i) (val i):=by
 have hno:blk.isObj=false:=by
  cases hx:blk.isObj with
  | false=>rfl
  | true=>
   have hq:=W3 ho b hb blk hm;obtain ⟨cells,ty,arr⟩:=blk;unfold CG.isObj at hx;split at hx
   .rename_i e;simp only [CG.mk.injEq] at e;obtain ⟨rfl,_,rfl⟩:=e;simp [pf] at hq
   .cases hx
 obtain ⟨_,hn,ht,har,cs,el,h1,h2,h3⟩:=(h.blk b l blk hl hm).at hno;refine ⟨fun i=>(cs[l.base+i]?).getD undef,fun i hi=> ?_⟩;obtain ⟨v,e1,e2⟩:=h3 i hi;have hpf:pf 6 blk.cells[i]=true:=by
  have:=W3 ho b hb blk hm;cases hA:blk.arr with
  | none=>grind
  | some A=>
   rw [hA] at this;obtain ⟨q1,_,_⟩:=har A hA;have hmem:blk.cells[i]∈rows A.n A.get:=by grind
   grind [rows]
 dsimp only;rw [e1];refine ⟨(Ja 6 _ _ hpf e2).mono (Sb h N),cs,el,(0,0),?_,e1⟩
 grind [w0f]
theorem v1h {mem:CJ} {next:Nat} {w:World} {ρ:CE} (h:CF ρ mem next w) {N:Cx} (ho:Em mem N.frz=true) {b:Nat} (hb:b∈N.frz) {blk:CG} (hm:Yn mem b=some blk) {v:B9} {u:Value} (hv:Yv ρ v u)
  (hvb:(∃o,v=.ptr b o)\/(∃off len cap,v=.sl b off len cap)\/(∃sz off len cap,v=.sla b sz off len cap)\/ ∃sz i fo,v=.epa b sz i fo):Yv (DY ρ mem N w) (Ia P blk v) u:=by
 rcases hvb with ⟨o,rfl⟩ | ⟨off,len,cap,rfl⟩ | ⟨sz,off,len,cap,rfl⟩ | ⟨sz,i,fo,rfl⟩
 .cases hv with
  | ptr _ _ l hl=>
   obtain ⟨val,dO⟩:=y7q h ho hb hm hl;refine .dptr _ _ _ (fun j=>val (o+j)) (fun j hj=> ?_) (fun j hj=> ?_);all_goals grind
 .simp only [Ia];split
  .rename_i i hi;cases hc:Nat.ble (off+len*i.size) blk.cells.length with
   | false=>exact .undef _
   | true=>
    rw [Ab];have hle:=Al hc;cases hv with
    | sl _ _ _ _ l c hl _ dA=>
     obtain ⟨val,dO⟩:=y7q h ho hb hm hl;have hin: ∀k,k<len->k*i.size+i.size<=len*i.size:=fun k hk=>by
      have:=AB i.size (show k+1<=len from hk)
      grind
     refine .dat len _ l.blk (l.base+off) i.size c (fun k j=>val (off+(k*i.size+j))) dA (fun k hk=> ?_) (fun k j hk hj=> ?_) (fun k j hk hj=> ?_);all_goals grind [u5k]
  .exact .undef _
 .simp only [Ia];split
  .rename_i A hA;cases hc:(Nat.beq A.sz sz&&Nat.ble (off+len) A.n) with
   | false=>exact .undef _
   | true=>
    rw [Ab];simp only [Ac] at hc;obtain rfl:=Aj hc.1;have hle:=Al hc.2;cases hv with
    | slan=>exact .datn _
    | sla _ _ _ _ _ l c hl _ dA=>
     obtain ⟨val,dO⟩:=y7q h ho hb hm hl;obtain ⟨q1,q2,q3⟩:=(h.blk b l blk hl hm).arr A hA;have eT:=Yg A.n q3;have fC: ∀k j,k<len->j<A.sz-> ∃hi:(off+k)*A.sz+j<blk.cells.length,blk.cells[(off+k)*A.sz+j]? =(A.get (off+k))[j]? :=fun k j hk hj=>by
      grind [Vj]
     refine .dat len _ l.blk (l.base+off*A.sz) A.sz c (fun k j=>val ((off+k)*A.sz+j)) dA (fun k hk=>q3 _ (by omega)) (fun k j hk hj=> ?_) (fun k j hk hj=> ?_);all_goals grind
  .exact .undef _
 .exact .undef _
theorem Sj {mem:CJ} {next:Nat} {w:World} {ρ:CE} (h:CF ρ mem next w) {N:Cx} (ho:Em mem N.frz=true) {b:Nat} {v:B9} {u:Value} {f:Nat->B9} (hv:Yv ρ v u)
  (hvb:(∃o,v=.ptr b o)\/(∃off len cap,v=.sl b off len cap)\/(∃sz off len cap,v=.sla b sz off len cap)\/ ∃sz i fo,v=.epa b sz i fo)
  (hf: ∀b',Fq b N.keep 0=some b'->Yv (DY ρ mem N w) (f b') u):Yv (DY ρ mem N w) (FY P mem N b v f) u:=by
 unfold FY;split
 .grind
 .cases hc:hasN b N.frz with
  | false=>exact .undef _
  | true=>
   rw [Ab];split
   .grind [v1h,XO]
   .exact .undef _
theorem RY {mem:CJ} {next:Nat} {w:World} {ρ:CE} (h:CF ρ mem next w) {N:Cx} (ho:Em mem N.frz=true): ∀(d:Nat) (v:B9) (u:Value),Yv ρ v u->Yv (DY ρ mem N w) (Cq P mem N d v) u
 | 0,_,_,_=>.undef _
 | d+1,v,u,hv=>by
  have ih:=fun v u=>RY h ho (N:=N) d v u;have list: ∀{cs:zy} {vs:Array Value},cs.length=vs.size->(∀(i:Nat) (h1:i<cs.length) (h2:i<vs.size),Yv ρ cs[i] vs[i])->
    (cs.map (Cq P mem N d)).length =vs.size/\ ∀(i:Nat) (h1:i<(cs.map (Cq P mem N d)).length) (h2:i<vs.size),Yv (DY ρ mem N w) (cs.map (Cq P mem N d))[i] vs[i]:=fun hl hh=>
   ⟨by simpa using hl,fun i h1 h2=>by simpa using ih _ _ (hh i (by simpa using h1) h2)⟩
  unfold Cq;cases hv with
  | undef=>exact .undef _
  | bool b=>exact .bool b
  | int k n=>exact .int k n
  | str s=>exact .str s
  | agg cs vs hl hh=>exact .agg _ _ (list hl hh).1 (list hl hh).2
  | tup cs vs hl hh=>exact .tup _ _ (list hl hh).1 (list hl hh).2
  | fn f cs vs hl hh=>exact .fn f _ _ (list hl hh).1 (list hl hh).2
  | fnb f cs vs hl hh=>exact .fnb f _ _ (list hl hh).1 (list hl hh).2
  | ptr b o l hl=>exact Sj h ho (.ptr b o l hl) (.inl ⟨o,rfl⟩) fun b' hb'=>.ptr b' o l (by rw [(Je hb').1];exact hl)
  | nilp=>exact .nilp
  | sl b off len cap l c hl hc dA=>exact Sj h ho (.sl b off len cap l c hl hc dA) (.inr (.inl ⟨off,len,cap,rfl⟩)) fun b' hb'=>.sl b' off len cap l c (by rw [(Je hb').1];exact hl) hc dA
  | nils=>exact .nils
  | sla b sz off len cap l c hl hc dA=>exact Sj h ho (.sla b sz off len cap l c hl hc dA) (.inr (.inr (.inl ⟨sz,off,len,cap,rfl⟩))) fun b' hb'=>.sla b' sz off len cap l c (by rw [(Je hb').1];exact hl) hc dA
  | slan b sz off cap=>exact Sj h ho (.slan b sz off cap) (.inr (.inr (.inl ⟨sz,off,0,cap,rfl⟩))) fun b' hb'=>.slan b' sz off cap
  | epa b sz i fo l hl=>exact Sj h ho (.epa b sz i fo l hl) (.inr (.inr (.inr ⟨sz,i,fo,rfl⟩))) fun b' hb'=>.epa b' sz i fo l (by rw [(Je hb').1];exact hl)
  | nilf=>exact .nilf
  | yld j l hl=>
   simp only;split
   .rename_i j' hj';exact .yld j' l (by rw [(Je hj').2];exact hl)
   .exact .undef _
  | slv b sz off len l c hl dA=>
   simp only;split
   .rename_i j' hj';exact .slv j' sz off len l c (by rw [(Je hj').1];exact hl) dA
   .exact .undef _
  | slve b sz off blk base c=>
   simp only;split
   .exact .slve _ sz off blk base c
   .exact .undef _
  | slvn b sz off=>
   simp only;split
   .exact .slvn _ sz off
   .exact .undef _
  | ifc t a v hv=>exact .ifc t _ _ (ih _ _ hv)
  | nili=>exact .nili
  | mapr b l hl=>
   simp only;split
   .rename_i j' hj';exact .mapr j' l (by rw [(Je hj').1];exact hl)
   .exact .undef _
  | ifbt=>exact .ifbt
  | ifbf t v=>exact .ifbf t v
  | dat len get blk base sz cap val dH hsz hv hh=>refine .dat len get blk base sz cap val dH hsz (fun i j hi hj=>(hv i j hi hj).mono (Sb h N)) (fun i j hi hj=> ?_);obtain ⟨cs,el,fz,e1,e2⟩:=hh i j hi hj;exact ⟨cs,el,fz,Sl h N e1,e2⟩
  | datn get=>exact .datn get
  | datz get a c=>exact .datz get a c
  | nnl len get a c hd=>exact .nnl len get a c ((Ja 1 _ _ rfl hd).mono (CE.le_trans (Sb h N) (Sq _)))
  | dptr cs blk base val hv hh=>refine .dptr cs blk base val (fun j hj=>(hv j hj).mono (Sb h N)) (fun j hj=> ?_);obtain ⟨cs',el,fz,e1,e2⟩:=hh j hj;exact ⟨cs',el,fz,Sl h N e1,e2⟩
theorem T.get_map {f:B9->B9} (hf:f .undef =.undef): ∀(t:T B9) (i:Nat),T.get .undef (T.map f t) i=f (T.get .undef t i)
 | .leaf,i=>hf.symm
 | .node v l r,0=>rfl
 | .node v l r,i+1=>by
  show T.get .undef (.node (f v) (T.map f l) (T.map f r)) (i+1)=_;rw [T.get_succ,T.get_succ];split
  .exact T.get_map hf l _
  .exact T.get_map hf r _
theorem y2c {f:B9->B9} (env:T B9): ∀(L:zr) (t:Nat),T.get .undef (N2 f env L) t=if t∈L then f (T.get .undef env t) else .undef
 | [],t=>by simp [N2]
 | x::L,t=>by
  unfold N2;rw [T.get_set,y2c env L t];by_cases h:t=x
  .subst h;simp
  .simp [h]
theorem w5m {mem:CJ} {next:Nat} {w:World} {ρ:CE} (h:CF ρ mem next w) {N:Cx} (ho:Em mem N.frz=true) {env:T B9} {n:Nat} {tmps:Array Value} (he:Vy ρ env n tmps): ∀(L:Option zr),Vy (DY ρ mem N w) (J1 (Cq P mem N 6) env L) n tmps
 | none=>by
  refine ⟨he.size,fun i=> ?_,fun i hi=> ?_⟩
  .show Yv _ (T.get .undef (T.map (Cq P mem N 6) env) i) _;rw [T.get_map rfl];exact RY h ho 6 _ _ (he.get i)
  .show T.get .undef (T.map (Cq P mem N 6) env) i=_;rw [T.get_map rfl,he.out i hi];rfl
 | some L=>by
  refine ⟨he.size,fun i=> ?_,fun i hi=> ?_⟩
  .show Yv _ (T.get .undef (N2 (Cq P mem N 6) env L) i) _;rw [y2c];split
   .exact RY h ho 6 _ _ (he.get i)
   .exact .undef _
  .show T.get .undef (N2 (Cq P mem N 6) env L) i=_;rw [y2c,he.out i hi];split <;> rfl
theorem x5z {mem:CJ} {N:Cx}: ∀(l:zr) (i j:Nat),Yn (Eo P mem N l i).1 j=if i<=j then (l[j - i]?).bind fun b=>(Yn mem b).map (Rs P mem N) else none
 | [],i,j=>by simp [Eo,Yn]
 | b::l,i,j=>by
  unfold Eo;have ih:=x5z (mem:=mem) (N:=N) l (i+1);have tail:i<j->(b::l)[j - i]? =l[j - (i+1)]? :=fun h=>by rw [show j - i=(j - (i+1))+1 by omega];rfl
  cases hm:Yn mem b with
  | none=>
   show Yn (Eo P mem N l (i+1)).1 j=_;rw [ih];rcases Bs i j with h | h | h
   .rw [AJ (by omega),AJ (by omega),tail h]
   .subst h;rw [AC (by omega),AJ (by omega)];simp [hm]
   .rw [AC (by omega),AC (by omega)]
  | some blk=>
   show Yn (Wv (Eo P mem N l (i+1)).1 i (some (Rs P mem N blk))) j=_;rw [Vp,ih];rcases Bs i j with h | h | h
   .rw [AC (by omega),AJ (by omega),AJ (by omega),tail h]
   .subst h;rw [AJ rfl,AJ (by omega)];simp [hm]
   .rw [AC (by omega),AC (by omega),AC (by omega)]
theorem y2b {mem:CJ} {N:Cx}: ∀(l:zr) (i:Nat),(Eo P mem N l i).2=true-> ∀b∈l,∀blk,Yn mem b=some blk->u4r blk=true
 | [],i,_,b,hb,_,_=>by cases hb
 | x::l,i,h,b,hb,blk,hm=>by
  unfold Eo at h;cases hx:Yn mem x with
  | none=>
   rw [hx] at h;rcases AN.1 hb with rfl | hb
   .rw [hx] at hm;cases hm
   .exact y2b l (i+1) h b hb blk hm
  | some blk'=>
   rw [hx] at h;have h:(u4r blk'&&(Eo P mem N l (i+1)).2)=true:=h;simp only [Ac] at h;rcases AN.1 hb with rfl | hb
   .rw [hx] at hm;obtain rfl:=Ag hm;exact h.1
   .exact y2b l (i+1) h.2 b hb blk hm
theorem S7 {f:B9->B9} {lps:CQ}: ∀(l:zr) (i:Nat) (sl:List (Option zr)) (j:Nat) (L:DK),DT (Ng f lps l i sl) j=some L->i<=j/\ ∃b L0 x,l[j - i]? =some b/\DT lps b=some L0/\L=⟨L0.st,L0.pend,L0.n,J1 f L0.env x,L0.params,L0.assign,L0.body⟩
 | [],i,sl,j,L,h=>by cases h
 | b::l,i,sl,j,L,h=>by
  unfold Ng at h;split at h
  .obtain ⟨h1,b',L0,x,h2,h3,h4⟩:=S7 l (i+1) _ j L h
   grind
  .rename_i st pend n env params assign body hb;rw [show DT (Fv (Ng f lps l (i+1) sl.tail) i (some ⟨st,pend,n,J1 f env (sl.headD none),params,assign,body⟩)) j=if j=i then some ⟨st,pend,n,J1 f env (sl.headD none),params,assign,body⟩ else DT (Ng f lps l (i+1) sl.tail) j from T.get_set none _ i _ j] at h;by_cases hj:j=i
   .subst hj;rw [AJ rfl] at h;obtain rfl:=Ag h;exact ⟨Ar _,b,_,_,by simp,hb,rfl⟩
   .rw [AC hj] at h;obtain ⟨h1,b',L0,x,h2,h3,h4⟩:=S7 l (i+1) _ j L h
    grind
theorem w0q {mem:CJ} {w:World} {ρ:CE} {N:Cx} {x x' y:Item} (h:Rg N.keep x=some x') (hx:Eq ρ x y):Eq (DY ρ mem N w) x' y:=by
 cases hx with
 | inR j l e=>simp only [Rg,Aq] at h;obtain ⟨j',hj,rfl⟩:=h;exact .inR j' l (by rw [(Je hj).2];exact e)
 | endR j l e=>simp only [Rg,Aq] at h;obtain ⟨j',hj,rfl⟩:=h;exact .endR j' l (by rw [(Je hj).2];exact e)
 | same x hp=>
  have:Rg N.keep x=some x:=by
   unfold Rg;split
   .cases hp
   .cases hp
   grind
  rw [this] at h;obtain rfl:=Ag h;exact .same _ hp
theorem y2y {mem:CJ} {w:World} {ρ:CE} {N:Cx}: ∀{l l' m:List Item},RQ N.keep l=some l'->D7 ρ l m->D7 (DY ρ mem N w) l' m
 | [],l',m,h,ht=>by cases ht;obtain rfl:=Ag h;exact .nil
 | x::l,l',m,h,ht=>by
  cases ht with
  | cons hx ht=>
   unfold RQ at h;split at h
   .rename_i y k hy hk;obtain rfl:=Ag h;exact .cons (w0q hy hx) (y2y hk ht)
   .cases h
theorem w5l {mem:CJ} {next:Nat} {w:World} {ρ:CE} (h:CF ρ mem next w) {N:Cx} (ho:Em mem N.frz=true) {cx:CP} {ro:Option CZ} {todo todo':List Item} {rnd rnd':Option Nat} {env:T B9} {b:Frame} {a:Act} {k:List Item} {ms:zr} (ht:RQ N.keep todo=some todo') (hr:Ti N.keep rnd=some rnd')
  (hf:Ft ρ cx ro todo rnd env b a k ms) (L:Option zr):Ft (DY ρ mem N w) cx ro todo' rnd' (J1 (Cq P mem N 6) env L) b a k ms/\(rnd'=none->rnd=none):=by
 refine ⟨⟨w5m h ho hf.env L,hf.defers,y2y ht hf.todo,hf.ro,?_⟩,fun e=> ?_⟩
 .have hrn:=hf.rnd;cases rnd with
  | none=>obtain rfl:=Ag hr;exact hrn
  | some j=>simp only [Ti,Aq] at hr;obtain ⟨j',hj,rfl⟩:=hr;obtain ⟨h0,l,h1,h2⟩:=hrn;exact ⟨h0,l,by rw [(Je hj).2];exact h1,h2⟩
 .cases rnd with
  | none=>rfl
  | some j=>simp_all [Ti]
theorem x5e {mem:CJ} {next:Nat} {w:World} {ρ:CE} (h:CF ρ mem next w) {N:Cx} (ho:Em mem N.frz=true): ∀{cs cs':List Ci} {sl:List (Option zr)} {css:List Frame} {mss:zr},Rx (Cq P mem N 6) N.keep cs sl=some cs'->Fs P ρ cs css mss->Fs P (DY ρ mem N w) cs' css mss/\(cs'≠ []->cs≠ [])
 | [],cs',sl,css,mss,hc,hr=>by cases hr;obtain rfl:=Ag hc;exact ⟨.nil,id⟩
 | af::cs,cs',sl,css,mss,hc,hr=>by
  cases hr with
  | cons hf hl ht=>
   unfold Rx at hc;split at hc
   .rename_i todo' rnd' cs'' h1 h2 h3;obtain rfl:=Ag hc;obtain ⟨i1,i2⟩:=x5e h ho h3 ht;obtain ⟨f1,f2⟩:=w5l (P:=P) h ho h1 h2 hf (sl.headD none);exact ⟨.cons f1 (fun hne=>⟨(hl (i2 hne)).1,fun e=>(hl (i2 hne)).2 (f2 e)⟩) i1,fun _=>by simp⟩
   .cases hc
def Md (ρ ρ':CE) (L L':zy):Prop:=L'.length=L.length/\ ∀(j:Nat) (h1:j<L.length) (h2:j<L'.length) (v:Value),Yv ρ L[j] v->Yv ρ' L'[j] v
theorem WR {mem:CJ} {next:Nat} {w:World} {ρ:CE} (h:CF ρ mem next w) {N:Cx} (ho:Em mem N.frz=true): ∀(rw1:Cs),Rp rw1=true-> ∀k,Md ρ (DY ρ mem N w) (rw1.get k) ((Ej (Cq P mem N 6) rw1).get k)
 | .flat g,hf,k=>by refine ⟨rfl,fun j h1 h2 v hv=> ?_⟩;have eB: ∀i,(g i).all (pf 6)=true:=Jb hf;exact ((Ja 6 _ _ (Au.1 (eB k) _ (AS h1)) hv).mono (Sb h N)).mono (Sq _)
 | .one r cs b,hf,k=>by
  have ih:=WR h ho (N:=N) b hf k;have hc:Md ρ (DY ρ mem N w) cs (cs.map (Cq P mem N 6)):=⟨by simp,fun j h1 h2 v hv=>by simpa using RY h ho 6 _ _ hv⟩
  simp only [Ej,Cs.get];cases Nat.beq k r with
  | true=>exact hc
  | false=>exact ih
 | .alt c a b,hf,k=>by
  simp only [Rp,Ac] at hf;have iha:=WR h ho (N:=N) a hf.1 k;have ihb:=WR h ho (N:=N) b hf.2 k;simp only [Ej,Cs.get];cases c k with
  | true=>exact iha
  | false=>exact ihb
theorem w9w {mem:CJ} {next:Nat} {w:World} {ρ:CE} (h:CF ρ mem next w) {N:Cx} (ho:Em mem N.frz=true) (hd:G3 N.keep N.frz=true) (hfl:(Eo P mem N N.keep 0).2=true):CF (DY ρ mem N w) (Eo P mem N N.keep 0).1 N.keep.length w:=by
 obtain ⟨hnd,hdj⟩:=y7z hd;have get: ∀j,Yn (Eo P mem N N.keep 0).1 j=(N.keep[j]?).bind fun b=>(Yn mem b).map (Rs P mem N):=fun j=>by
  grind [x5z]
 have blk: ∀{b' l},(DY ρ mem N w) b'=some l-> ∃b,N.keep[b']? =some b/\ρ b=some l:=fun {b' l} e=>by
  have e:(N.keep[b']?).bind (fun b=>ρ b)=some l:=e
  grind
 have live: ∀{b' b},N.keep[b']? =some b->(Yn (Eo P mem N N.keep 0).1 b').isSome =true->(Yn mem b).isSome =true:=fun {b' b} e hs=>by
  grind
 refine ⟨fun b' l e=> ?_,fun b' b'' l l' e e' hbl hs hs'=> ?_,fun b' l ab e hm=> ?_,fun k o e=> ?_,fun b' l e hs=> ?_,fun b' l e=> ?_,fun b' hb=> ?_,fun j l e=> ?_,h.ldom.2.mono fun k o e=>Sl h N e⟩
 .grind
 .obtain ⟨b,e1,e2⟩:=blk e;obtain ⟨c,e3,e4⟩:=blk e';have:=h.inj b c l l' e2 e4 hbl (live e1 hs) (live e3 hs');subst this;exact (List.getElem?_inj (Bb.1 e1).1 hnd).1 (e1.trans e3.symm)
 .obtain ⟨b,e1,e2⟩:=blk e;rw [get,e1] at hm;simp only [Option.bind_some,Aq] at hm;obtain ⟨ab0,hm0,rfl⟩:=hm;cases h.blk b l ab0 e2 hm0 with
  | obj o r ty hab hn hh=>
   subst hab;refine .obj o (r.map (Cq P mem N 6)) ty rfl (by rw [hn];simp) ?_;cases o with
   | mi ml=>obtain ⟨rfl,k⟩:=hh;exact ⟨rfl,k⟩
   | mb ml=>obtain ⟨rfl,k⟩:=hh;exact ⟨rfl,k⟩
   | it s pos=>obtain ⟨rfl,k⟩:=hh;exact ⟨rfl,k⟩
   | bld=>obtain ⟨buf,v,p,rfl,k1,k2,k3⟩:=hh;exact ⟨_,v,p,rfl,k1,RY h ho 6 _ _ k2,k3⟩
  | plain hpl=>
  obtain ⟨hty,hn,ht,har,cs,el,g1,g2,g3⟩:=hpl;obtain ⟨cells,ty,arr⟩:=ab0;cases arr with
  | none=>
   refine .plain ⟨hty,by simpa [Rs] using hn,ht,(fun A hA=>by cases hA),cs,el,g1,g2,fun i hi=> ?_⟩
   grind [Rs,RY]
  | some A=>
   obtain ⟨a1,a2,a3⟩:=har A rfl;simp only at a1;have hfb:u4r ⟨cells,ty,some A⟩=true:=y2b N.keep 0 hfl b (List.mem_of_getElem? e1) _ hm0;have fC:=WR (P:=P) h ho (N:=N) A.rw hfb;have hl': ∀i,i<A.n->((Ej (Cq P mem N 6) A.rw).get i).length =A.sz:=fun i hi=>by rw [(fC i).1];exact a3 i hi
   have k1:=Yg A.n a3;have k2:=Yg A.n hl';refine .plain ⟨hty,by show l.n=(rows A.n _).length;grind,ht,(fun B hB=>by obtain rfl:=Ag hB;exact ⟨rfl,a2,hl'⟩),cs,el,g1,g2,fun i hi=> ?_⟩;have hi':i<A.n*A.sz:=by rw [<-k2];exact hi
   have hj:i %A.sz<A.sz:=Bx _ a2;have hq:i / A.sz<A.n:=Bd (by grind);have e:i / A.sz*A.sz+i %A.sz=i:=by rw [BE];exact BA i A.sz
   have hic:i<cells.length:=by grind
   have r1:=Vj A.n a3 (i / A.sz) (i %A.sz) hq hj;have r2:=Vj A.n hl' (i / A.sz) (i %A.sz) hq hj;rw [e] at r1 r2;have hi2:i<(rows A.n (Ej (Cq P mem N 6) A.rw).get).length :=hi;have j1:i %A.sz<(A.rw.get (i / A.sz)).length :=by rw [show A.rw.get=A.get from rfl,a3 _ hq];exact hj
   have j2:i %A.sz<((Ej (Cq P mem N 6) A.rw).get (i / A.sz)).length :=by grind
   obtain ⟨v,q1,q2⟩:=g3 i hic;have s1:cells[i]=(A.rw.get (i / A.sz))[i %A.sz]:=by
    have:cells[i]? =some (A.rw.get (i / A.sz))[i %A.sz]:=by rw [a1,r1,show A.get=A.rw.get from rfl,At j1]
    grind
   have s2:(rows A.n (Ej (Cq P mem N 6) A.rw).get)[i]'hi2=((Ej (Cq P mem N 6) A.rw).get (i / A.sz))[i %A.sz]:=by
    grind
   refine ⟨v,q1,?_⟩;show Yv _ ((rows A.n (Ej (Cq P mem N 6) A.rw).get)[i]'hi2) v;rw [s2];refine (fC _).2 _ j1 j2 v ?_
   grind
 .have e: @ite _ (Fz ρ mem N k) (Classical.propDecidable _) (w.heap[k]?) (ρ.fz k)=some o:=e;by_cases hf:Fz ρ mem N k
  .grind
  .rw [AC hf] at e;exact h.old k o e
 .obtain ⟨b,e1,e2⟩:=blk e;have hs0:=live e1 hs;have hnf: ¬Fz ρ mem N l.blk:=fun ⟨c,l',c1,c2,c3,c4⟩=>by
   have:=h.inj c b l' l c2 e2 c4 c3 hs0
   grind
  show @ite _ (Fz ρ mem N l.blk) (Classical.propDecidable _) (w.heap[l.blk]?) (ρ.fz l.blk)=none;rw [AC hnf];exact h.sep b l e2 hs0
 .obtain ⟨b,_,e2⟩:=blk e;exact h.real b l e2
 .grind
 .have e:(N.keep[j]?).bind (fun b=>ρ.lp b)=some l:=e;have:=h.ldom.1
  grind
theorem U5 {H:E8} {mem:CJ} {next:Nat} {w0 w:World} {ρ:CE} (h:CF ρ mem next w) {N:Cx} (he:Ev (DS H) ρ 0 .leaf 0 mem next w0 w) (mem':CJ) (next':Nat):Ev (DS H) (DY ρ mem N w) 0 .leaf 0 mem' next' w0 w:=
 ⟨⟨fun b l e=>(by cases e),fun k o e=>Sl h N (he.ext.2.1 k o e),fun j l e=>(by cases e)⟩,fun b hb=>absurd hb (AD _),Ay _,fun b hb=>absurd hb (AD _),he.frame,fun b l _ e=>by
   have e:(N.keep[b]?).bind (fun b=>ρ b)=some l:=e;rw [Option.bind_eq_some_iff] at e;obtain ⟨c,_,e2⟩:=e;exact he.fresh c l (Ay _) e2,he.size,he.os,he.tape,he.output,fun k hk=>by
   have hnf: ¬Fz ρ mem N k:=fun ⟨b,l,_,e2,_,e4⟩=>by
    rcases he.fresh b l (Ay _) e2 with h1 | ⟨b0,l0,e0,_⟩
    .omega
    .cases e0
   show @ite _ (Fz ρ mem N k) (Classical.propDecidable _) (w.heap[k]?) (ρ.fz k)=_;rw [AC hnf];exact he.still k hk⟩
def DM (P:Program) (C C':CI):Prop:=
 ∀(H:E8) (w0:World) (ρ:CE) (b:Frame) (a:Act) (k:List Item) (css:List Frame) (w:World) (ma mb:zr),Np P w0.heap.size C ρ b a k css w ma mb->Ev (DS H) ρ 0 .leaf 0 C.st.mem C.st.next w0 w-> ∀cs0:List Frame,
  ∃ρ' b' a' k' css' w' ma' mb',Steps P (lone (b.atR a (Vq C.ro k)) (css++cs0) w) (lone (b'.atR a' (Vq C'.ro k')) (css'++cs0) w')/\Np P w0.heap.size C' ρ' b' a' k' css' w' ma' mb'/\Ev (DS H) ρ' 0 .leaf 0 C'.st.mem C'.st.next w0 w'/\Nb b' css'=Nb b css/\w.heap.size<=w'.heap.size
theorem DM.refl (C:CI):DM P C C:=fun H w0 ρ b a k css w ma mb hs he cs0=>⟨ρ,b,a,k,css,w,ma,mb,Steps.refl _ _,hs,he,rfl,Ar _⟩
theorem DM.trans {A B C:CI} (h:DM P A B) (k:DM P B C):DM P A C:=by intro H w0 ρ b a t css w ma mb hs he cs0;obtain ⟨ρ1,b1,a1,t1,css1,w1,ma1,mb1,s1,r1,e1,q1,z1⟩:=h H w0 ρ b a t css w ma mb hs he cs0;obtain ⟨ρ2,b2,a2,t2,css2,w2,ma2,mb2,s2,r2,e2,q2,z2⟩:=k H w0 ρ1 b1 a1 t1 css1 w1 ma1 mb1 r1 e1 cs0;exact ⟨ρ2,b2,a2,t2,css2,w2,ma2,mb2,s1.trans s2,r2,e2,q2.trans q1,AG z1 z2⟩
theorem FH.goes {C C':CI} (h:FH P 0 C C'):DM P C C':=fun H w0 ρ b a k css w ma mb hs he cs0=>h .leaf 0 (DS H) w0 ρ b a k css w ma mb hs he cs0
def V1 (C:CI):Bool:=Nat.beq C.cx.floor 0&&C.cs.all fun af=>Nat.beq af.cx.floor 0
theorem u4s {C:CI} (h:V1 C=true):Fl 0 C:=by unfold V1 at h;simp only [Ac] at h;exact ⟨Aj h.1,fun af haf=>Aj (Au.1 h.2 af haf),Ay _⟩
theorem y6q {f:B9->B9} {keep:zr} {fl:Nat}: ∀{cs cs':List Ci} {sl:List (Option zr)},Rx f keep cs sl=some cs'->(∀af∈cs,af.cx.floor=fl)-> ∀af∈cs',af.cx.floor=fl
 | [],cs',sl,h,_,af,haf=>by obtain rfl:=Ag h;cases haf
 | a0::cs,cs',sl,h,hcs,af,haf=>by
  unfold Rx at h;split at h
  .rename_i t1 r1 c1 g1 g2 g3;obtain rfl:=Ag h;rcases AN.1 haf with rfl | haf
   .grind
   .exact y6q g3 (fun x hx=>hcs x (Bz _ hx)) af haf
  .cases h
theorem v0i {N:Cx} {C C':CI} (h:u3d P N C=some C') (ho:C'.st.ob=true):C.st.ob=true/\DM P C C'/\(Fl 0 C->Fl 0 C'):=by
 obtain ⟨cx,ro,todo,rnd,rs,⟨env,mem,next,orc,ob⟩,cs,lps⟩:=C;simp only [u3d] at h;split at h
 .rename_i todo' rnd' cs' h1 h2 h3;obtain ⟨hd,h⟩:=Zo h;obtain rfl:=Ag h;simp only [Ac] at ho;obtain ⟨hkm,ho2,ho3⟩:=ho;refine ⟨ho3,fun H w0 ρ b a k css w ma mb hs he cs0=> ?_,fun hfl=>⟨hfl.cx,fun af haf=> ?_,Ay _⟩⟩
  .have cZ:=hs.rel;simp only at cZ he;obtain ⟨f1,f2⟩:=w5l (P:=P) cZ ho2 h1 h2 hs.top (N.slots.headD none);obtain ⟨c1,c2⟩:=x5e (P:=P) cZ ho2 h3 hs.rest.cs;refine ⟨DY ρ mem N w,b,a,k,css,w,ma,mb,Steps.refl _ _,⟨f1,fun hne=>⟨(hs.lv (c2 hne)).1,fun e=>(hs.lv (c2 hne)).2 (f2 e)⟩,⟨c1,hs.rest.nodup,fun r hr=> ?_,fun j L hL=> ?_,fun j j' L L' l hL hL' e e'=> ?_⟩,?_⟩,U5 cZ he _ _,rfl,Ar _⟩
   .obtain ⟨q1,⟨q2,q3,q4⟩,q5⟩:=hs.rest.marks r hr;refine ⟨q1,⟨q2,?_,fun b' l e=> ?_⟩,q5⟩
    .show @ite _ (Fz ρ mem N r) (Classical.propDecidable _) (w.heap[r]?) (ρ.fz r)=none;rw [AC fun ⟨c,l,_,e2,_,e4⟩=>q4 c l e2 e4];exact q3
    .have e:(N.keep[b']?).bind (fun b=>ρ b)=some l:=e
     grind
   .obtain ⟨_,c,L0,x,e1,e2,rfl⟩:=S7 N.keep 0 _ j L hL;rw [Nat.sub_zero] at e1;obtain ⟨l,q1,q2,⟨q3,q4,q5⟩,tm,fn',d,q6,q7⟩:=hs.rest.loops c L0 e2;refine ⟨l,?_,q2,⟨q3,?_,fun b' l' e=> ?_⟩,tm,fn',d,q6,w5m (P:=P) cZ ho2 q7 x⟩
    .show (N.keep[j]?).bind (fun b=>ρ.lp b)=some l
     grind
    .show @ite _ (Fz ρ mem N l) (Classical.propDecidable _) (w.heap[l]?) (ρ.fz l)=none;rw [AC fun ⟨c,l,_,e2,_,e4⟩=>q5 c l e2 e4];exact q4
    .have e:(N.keep[b']?).bind (fun b=>ρ b)=some l':=e
     grind
   .obtain ⟨_,c,L0,x,e1,e2,rfl⟩:=S7 N.keep 0 _ j L hL;obtain ⟨_,c',L0',x',e1',e2',rfl⟩:=S7 N.keep 0 _ j' L' hL';rw [Nat.sub_zero] at e1 e1';have e:(N.keep[j]?).bind (fun b=>ρ.lp b)=some l:=e;have e':(N.keep[j']?).bind (fun b=>ρ.lp b)=some l:=e';rw [e1] at e;rw [e1'] at e';have:=hs.rest.inj c c' L0 L0' l e2 e2' e e';subst this;exact (List.getElem?_inj (Bb.1 e1).1 (y7z hd).1).1 (e1.trans e1'.symm)
   .exact w9w cZ ho2 hd hkm
  .exact y6q h3 hfl.cs af haf
 .cases h
theorem x6b {S:CB} {Rc:CL} (hN:ER P) (hmx:P.follows .mixedOrders =true) (hS:Zw P S) (hCI:Er Rc) (hC:G5 P Rc) {fl:Nat}: ∀(n:Nat) (C C':CI),Fl fl C->u4c P S Rc n C=some C'->Fl fl C'/\Xd fl C.st C'.st/\(C'.st.ob=true->FH P fl C C')
 | 0,C,C',hfl,h=>by
  obtain rfl:=Ag h
  grind [Xd.refl,FH.refl]
 | n+1,C,C',hfl,h=>by
  have h:(match SC P S Rc C with
   | some C'=>u4c P S Rc n C'
   | none=>none)=some C':=h
  split at h
  .rename_i C1 h1;have s1:=x4p hN hmx hS hCI hC hfl h1;obtain ⟨f1,f4,f5⟩:=x6b hN hmx hS hCI hC n C1 C' s1.fls h;exact ⟨f1,s1.inv.trans f4,fun ho=>(s1.leads (f4.ob ho)).trans (f5 ho)⟩
  .cases h
def Zp (P:Program) (f:FuncId) (args:zy) (sym:Bool) (orc:List Bool):CI:=
 match P.funcs[f]? with
 | some fn=>⟨⟨Nat.max fn.ntmps args.length,0,sym⟩,none,[.code (fn.body.getD .ret)],none,fn.results.toList,⟨FL args 0 .leaf,.leaf,0,orc,true⟩,[],.leaf⟩
 | none=>⟨⟨0,0,sym⟩,none,[],none,[],⟨.leaf,.leaf,0,[],true⟩,[],.leaf⟩
theorem goes_call {f:FuncId} {args:zy} {sym:Bool} {orc:List Bool} {C':CI} {vs:zy} {H:E8} (hf:(P.funcs[f]?).any (fun fn=>fn.body.isSome)=true) (h:DM P (Zp P f args sym orc) C') (hfin:G9 C'=true) (hob:(Ko P C'.st (Zp P f args sym orc).rs)=some vs)
  {vals:Array Value} {w:World} (dC:Vg (Yv (DS H)) args vals.toList) (hH: ∀k o,H k=some o->w.heap[k]? =some o) (hG:MP H):
  Calls P f vals w fun e w'=> ∃ρ u,e=.returned u/\Out H w ρ (Uz vs) u w':=by
 cases hfn:P.funcs[f]? with
 | none=>grind
 | some fn=>
  rw [hfn] at hf;have hf:fn.body.isSome=true:=hf;obtain ⟨body,hb⟩:=BW.1 hf;have hstart:Zp P f args sym orc=⟨⟨Nat.max fn.ntmps args.length,0,sym⟩,none,[.code body],none,fn.results.toList,⟨FL args 0 .leaf,.leaf,0,orc,true⟩,[],.leaf⟩:=by unfold Zp;grind
  rw [hstart] at h hob;simp only at hob;intro cs;obtain ⟨ρ',b',a',k',css',w',ma',mb',s1,r1,v1,q1,_⟩:=h H w (DS H) ⟨f, #[],[],[],.run,.normal,none⟩ {tmps:=vals++Array.replicate (fn.ntmps - vals.size) undef,defers:=[]} [.code body] [] w [] []
   ⟨⟨y7t dC fn.ntmps,rfl,.cons (.same _ rfl) .nil,trivial,rfl⟩,fun h=>absurd rfl h,x0f _ _ _,x5f hH hG⟩ (Ev.refl _ _ _ _ _ (x5f hH hG).dom) cs
  obtain ⟨e1,e2,e3,e4⟩:=y7s hfin;have hcs:=r1.rest.cs;rw [e3] at hcs;cases hcs;obtain ⟨w2,s2,henv',dT,eK,_,_⟩:=y7x r1 e1 e2 e4 rfl v1 cs;obtain ⟨u,hu,fF⟩:=z3o (fn:=fn) henv' dT hob;have q:(b'.fn,b'.kind,b'.roundOf)=(f,CallKind.normal,none):=q1;simp only [Ae] at q;have hen:Frame.enter P f vals .normal =Frame.atR ⟨f, #[],[],[],.run,.normal,none⟩ {tmps:=vals++Array.replicate (fn.ntmps - vals.size) undef,defers:=[]} (Vq none [.code body]):=by
   grind [Frame.enter,Frame.atR,Vq]
  refine ⟨.returned u,w2,{b'.atR {a' with defers:=[]} k' with mode:=.returning},⟨ρ',u,rfl,On hu dT eK⟩,?_,q.1,rfl,rfl,q.2.1,fn,by show P.funcs[b'.fn]? =_;grind,fF⟩;rw [hen];exact s1.trans s2
end
def Xe :List CG->Nat->CJ
 | [],_=>.leaf
 | b::l,i=>Wv (Xe l (i+1)) i (some b)
def Dd (c:Nat->Int):Nat->zy:=fun i=>[.int .i64 (c i)]
def CI.withO :CI->List Bool->CI
 | ⟨cx,ro,todo,rnd,rs,⟨env,mem,next,_,_⟩,cs,lps⟩,o=>⟨cx,ro,todo,rnd,rs,⟨env,mem,next,o,true⟩,cs,lps⟩
def CI.withB :CI->Bool->CI
 | ⟨cx,ro,todo,rnd,rs,⟨env,mem,next,_,_⟩,cs,lps⟩,b=>⟨cx,ro,todo,rnd,rs,⟨env,mem,next,[],b⟩,cs,lps⟩
inductive Yr (σ:Type) where
 | stuck
 | ret (vs:zy)
 | to (s:σ)
def Vi (P:Program) (rs:List ResultVar) (C:CI) (vs:zy):Prop:= ∃C',DM P C C'/\G9 C'=true/\Ko P C'.st rs=some vs
def Xx (P:Program) (rs:List ResultVar) {σ:Type} (cfg:σ->CI) (C:CI):Yr σ->Prop
 | .stuck =>True
 | .ret vs=>Vi P rs C vs
 | .to s=>DM P C (cfg s)
section
variable {P:Program} {rs:List ResultVar} {σ:Type} {cfg:σ->CI} {C:CI}
theorem w6g {c:Bool} {a b:Yr σ} (ha:c=true->Xx P rs cfg C a) (hb:c=false->Xx P rs cfg C b):Xx P rs cfg C (bif c then a else b):=by grind
theorem u3v {c:Bool} {a:Yr σ} (ha:c=true->Xx P rs cfg C a):Xx P rs cfg C (bif c then a else .stuck):=w6g ha fun _=>trivial
theorem Yu {vs:zy} (C':CI) (h:DM P C C') (hf:G9 C'=true) (hr:Ko P C'.st rs=some vs):Xx P rs cfg C (.ret vs):=⟨C',h,hf,hr⟩
end
def Yx {σ:Type} (step:σ->Yr σ):Nat->Yr σ->Yr σ
 | 0,o=>o
 | n+1,.to s=>Yx step n (step s)
 | _+1,o=>o
theorem Zg {P:Program} {rs:List ResultVar} {σ:Type} {cfg:σ->CI} {step:σ->Yr σ} (dZ: ∀s,Xx P rs cfg (cfg s) (step s)) {C:CI}: ∀(n:Nat) (o:Yr σ),Xx P rs cfg C o->Xx P rs cfg C (Yx step n o)
 | 0,o,h=>h
 | n+1,.stuck,h=>h
 | n+1,.ret vs,h=>h
 | n+1,.to s,h=>Zg dZ n (step s) (match step s,dZ s with
  | .stuck,_=>trivial
  | .ret vs,⟨C',g,hf,hr⟩=>⟨C',DM.trans h g,hf,hr⟩
  | .to s',g=>DM.trans h g)
theorem Zd {σ:Type} (step:σ->Yr σ) (n:Nat) (vs:zy):Yx step n (.ret vs)=.ret vs:=by cases n <;> rfl
theorem Zx {σ:Type} (step:σ->Yr σ) (n:Nat) (s:σ):Yx step (n+1) (.to s)=Yx step n (step s):=rfl
theorem N3 {a b:Bool} (ha:a=true) (hb:b=true):(a&&b)=true:=by grind
theorem v5u {a b:Bool} (h:a=b):(a == b)=true:=by grind
def CB.with (S:CB) (f:FuncId) (F:zy->Option (B9×Bool)):CB:=fun g=>bif Nat.beq g f then some (.val F) else S g
theorem x4q {P:Program} {f:FuncId} {args:zy} {sym:Bool} {orc:List Bool}:(Zp P f args sym orc).rs =Zy P f:=by
 grind [Zp,Zy]
theorem v2v {P:Program} {S:CB} (hS:Zw P S) {f:FuncId} {F:zy->Option (B9×Bool)} (hf:(P.funcs[f]?).any (fun fn=>fn.body.isSome)=true)
  (hF: ∀args v,F args=some (v,true)-> ∃vs,Uz vs=v/\Vi P (Zy P f) (Zp P f args true []) vs/\ ∃d,pf d v=true):Zw P (S.with f F):=by
 intro g G hg;unfold CB.with at hg;cases hgf:Nat.beq g f with
 | false=>rw [hgf] at hg;exact hS g G hg
 | true=>
  rw [hgf] at hg;obtain rfl:Fh.val F=G:=Ag hg;obtain rfl:g=f:=Aj hgf;refine ⟨?_,fun args v hv H vals w dC hH hG=> ?_⟩
  .grind
  .obtain ⟨vs,rfl,⟨C',g1,g2,g3⟩,d,hp⟩:=hF args v hv;exact (goes_call hf g1 g2 (by rw [x4q];exact g3) dC hH hG).mono fun e w' ⟨ρ,u,he,ho⟩=>⟨ρ.fz,u,ho.le,ho.old,ho.same,he,Ja d _ u hp ho.val,ho.below⟩
def CS (get:Nat->zy) (i:Nat):Int:=match get i with
 | .int _ n::_=>n
 | _=>0
def FB (get:Nat->zy):Bool:=pd (get=Dd (CS get))
theorem w6l {get:Nat->zy} (h:FB get=true): ∃c,get=Dd c:=⟨_,Jb h⟩
theorem u3i (x:Int):(x != x)=false:=by simp
theorem u5f (x:Int):(x == x)=true:=by simp
theorem v5y (x:Int):(!(x != x))=true:=by simp
theorem v6b (x:Int):(!(x == x))=false:=by simp
theorem ZX (n:Int):IntKind.i64.wrap n=(n+9223372036854775808) %18446744073709551616 - 9223372036854775808:=by rw [IntKind.wrap_i64]
theorem w_in {n:Int} (h: -9223372036854775808<=n) (h':n<=9223372036854775807):IntKind.i64.wrap n=n:=by simp only [ZX];omega
theorem GF (x y:Int):Jc x y=min x y:=by unfold Jc;grind
theorem GE (x y:Int):Jd x y=max x y:=by unfold Jd;grind
theorem Zi {α:Type} {c:Bool} {a b:α} (h:c=true):(bif c then a else b)=a:=by rw [h];rfl
inductive D1 :B9->B9->Prop
 | refl (v:B9):D1 v v
 | undef (v:B9):D1 v .undef
 | nils (b sz off:Nat) (cap:FO):D1 .nils (.sla b sz off 0 cap)
 | sl (b sz q len:Nat) (cap:FO):D1 (.sl b (q*sz) len cap) (.sla b sz q len cap)
 | nild (g:Nat->zy):D1 .nils (.dat 0 g)
 | dat (n:Nat) (g g':Nat->zy) (h: ∀i,i<n->g i=g' i):D1 (.dat n g) (.dat n g')
 | dptr (cs cs':zy) (hl:cs.length=cs'.length) (h: ∀(ρ:CE) (i:Nat) (h1:i<cs.length) (h2:i<cs'.length) (v:Value),Yv ρ cs[i] v->Yv ρ cs'[i] v):D1 (.dptr cs) (.dptr cs')
theorem D1.sound {ρ:CE} {a a':B9} {v:Value} (h:D1 a a') (hv:Yv ρ a v):Yv ρ a' v:=by
 cases h with
 | refl=>exact hv
 | undef=>exact .undef _
 | nils b sz off cap=>cases hv;exact .slan b sz off cap
 | sl b sz q len cap=>cases hv with | sl _ _ _ _ l c h hc dA=>exact .sla b sz q len cap l c h hc dA
 | nild g=>cases hv;exact .datn _
 | dptr cs cs' hl h=>cases hv with
  | dptr _ blk base val q1 q2=>exact .dptr cs' blk base val (fun j hj=>h _ j (by omega) hj _ (q1 j (by omega))) fun j hj=>q2 j (by omega)
 | dat n g g' hg=>
  cases hv with
  | datn=>exact .datn _
  | datz=>exact .datz _ _ _
  | dat _ _ blk base sz cap val dH hsz hv hh=>
   refine .dat n g' blk base sz cap val dH (fun i hi=>by grind) (fun i j hi hj=> ?_) hh
   grind
theorem D1.of_undef {a:B9} (h:D1 .undef a):a=.undef :=by cases h <;> rfl
inductive DE :zy->zy->Prop
 | nil:DE [] []
 | cons {a b:B9} {l m:zy} (h:D1 a b) (t:DE l m):DE (a::l) (b::m)
theorem DE.refl : ∀l:zy,DE l l
 | []=>.nil
 | a::l=>.cons (.refl a) (DE.refl l)
theorem DE.len {l m:zy} (h:DE l m):l.length=m.length:=by
 induction h with
 | nil=>rfl
 | cons _ _ ih=>simp [ih]
theorem DE.get {l m:zy} (h:DE l m): ∀(i:Nat) (h1:i<l.length) (h2:i<m.length),D1 l[i] m[i]:=by
 induction h with
 | nil=>grind
 | cons h _ ih=>
  grind
inductive Is :Option CG->Option CG->Prop
 | refl (b:Option CG):Is b b
 | drop (b:Option CG):Is b none
 | rowed (cells:zy) (ty:TypeId) (a:Option Da) (sz n:Nat) (g:Nat->zy) (ho:(⟨cells,ty,a⟩:CG).isObj =false) (hc:cells=rows n g) (h1:1<=sz) (hl: ∀i,i<n->(g i).length =sz):Is (some ⟨cells,ty,a⟩) (some ⟨rows n g,ty,some ⟨sz,n,g⟩⟩)
 | rws (ty:TypeId) (sz n:Nat) (a a':Cs) (h: ∀k,k<n->DE (a.get k) (a'.get k)):Is (some ⟨rows n a.get,ty,some ⟨sz,n,a⟩⟩) (some ⟨rows n a'.get,ty,some ⟨sz,n,a'⟩⟩)
theorem Is.sound {ρ:CE} {w:World} {a a':CG} {l:C3} (h:Is (some a) (some a')) (hb:Wn ρ w a l):Wn ρ w a' l:=by
 cases h with
 | refl=>exact hb
 | rowed cells ty a sz n g ho hc h1 hl=>subst hc;have hb:=hb.at ho;refine .plain ⟨hb.typ,hb.n,hb.tot,fun A hA=> ?_,hb.cells⟩;obtain rfl:=Ag hA;exact ⟨rfl,h1,hl⟩
 | rws ty sz n a a' h=>
  have hb:=hb.rows rfl;obtain ⟨_,h1,hl⟩:=hb.arr _ rfl;have h1:1<=sz:=h1;have hl: ∀k,k<n->(a.get k).length =sz:=hl;have hl': ∀k,k<n->(a'.get k).length =sz:=fun k hk=>by rw [<-(h k hk).len];exact hl k hk
  have k1:=Yg n hl;have k2:=Yg n hl';obtain ⟨cs,el,g1,g2,g3⟩:=hb.cells;refine .plain ⟨hb.typ,by rw [hb.n];show (rows n a.get).length =(rows n a'.get).length;rw [k1,k2],hb.tot,fun A hA=> ?_,cs,el,g1,g2,fun i hi=> ?_⟩
  .obtain rfl:=Ag hA;exact ⟨rfl,h1,hl'⟩
  .have hi2:i<(rows n a'.get).length :=hi;have hi':i<n*sz:=by rw [<-k2];exact hi
   have hj:i %sz<sz:=Bx _ h1;have hq:i / sz<n:=Bd (by rw [BE];exact hi');have e:i / sz*sz+i %sz=i:=by rw [BE];exact BA i sz
   have hic:i<(rows n a.get).length :=by rw [k1];exact hi'
   have r1:=Vj n hl (i / sz) (i %sz) hq hj;have r2:=Vj n hl' (i / sz) (i %sz) hq hj;rw [e] at r1 r2;have j1:i %sz<(a.get (i / sz)).length :=by rw [hl _ hq];exact hj
   have j2:i %sz<(a'.get (i / sz)).length :=by rw [hl' _ hq];exact hj
   obtain ⟨v,q1,q2⟩:=g3 i hic;have q2:Yv ρ ((rows n a.get)[i]'hic) v:=q2;refine ⟨v,q1,?_⟩;show Yv ρ ((rows n a'.get)[i]'hi2) v;rw [At hic,At j1] at r1;rw [At hi2,At j2] at r2;rw [Ag r1] at q2;rw [Ag r2];exact ((h _ hq).get _ j1 j2).sound q2
theorem y1w {g h:Nat->zy}: ∀(n:Nat),(∀i,i<n->g i=h i)->rows n g=rows n h
 | 0,_=>rfl
 | n+1,e=>by rw [WU,WU,y1w n fun i hi=>e i (by omega),e n (by omega)]
theorem x0m {n:Nat} {g:Nat->zy} (h: ∀k,∀v∈g k,Cz v=true) (ty:TypeId) (a:Option Da):(⟨Go.Am.rows n g,ty,a⟩:CG).isObj =false:=
 S9 (ρ:=⟨fun _=>none,fun _=>none,fun _=>none⟩) (fun v hv=>by obtain ⟨k,_,hk⟩:=w5f hv;exact .inr (h k v hk)) _ _
theorem W4 {n:Nat} {c:Nat->Int} (ty:TypeId) (a:Option Da):(⟨Go.Am.rows n (Dd c),ty,a⟩:CG).isObj =false:=x0m (fun k v hv=>by obtain rfl:=BM.1 hv;rfl) _ _
def EV (l:zp):Nat->Int:=fun k=>l.getD k 0
def Cv (asz sz off len n:Nat) (get:Nat->zy):B9:=bif Nat.beq asz sz&&Nat.ble (off+len) n then .dat len (fun k=>get (off+k)) else .undef
theorem j6n (sz n:Nat) (g:Nat->zy):Cv sz sz 0 n n g=.dat n g:=by
 unfold Cv;rw [show (Nat.beq sz sz&&Nat.ble (0+n) n)=true by simp_all,Ab]
 grind
def DQ (g:Nat->zy):Bool:=pd (∀i,(g i).all (pf 6)=true)
theorem u5q {p:B9->Bool} {l:zy} (h:l.all p=true) (n:Nat):(l.take n).all p=true:=
 by grind
theorem u5r {p:B9->Bool} {l:zy} (h:l.all p=true) (n:Nat):(l.drop n).all p=true:=
 by grind
theorem v7h {g:Nat->zy} {off len sz:Nat} {new:zy} (h:DQ g=true) (hn:new.all (pf 6)=true):DQ (Zf g off len sz new)=true:=Xt fun i=>by
 unfold Zf;cases Nat.ble len i with
 | true=>grind
 | false=>exact Jb h _
theorem v7e {g:Nat->zy} {r fo:Nat} {cs:zy} (h:DQ g=true) (hn:cs.all (pf 6)=true):DQ (Xi g r fo cs)=true:=Xt fun i=>by
 unfold Xi;cases Nat.beq i r with
 | true=>rw [Ab,List.all_append,List.all_append,u5q (Jb h r),hn,u5r (Jb h r)];rfl
 | false=>exact Jb h _
theorem y9u {P:Program} {S:CB} (hS:Zw P S) {f:FuncId} {F:zy->Option (B9×Bool)} (hf:(P.funcs[f]?).any (fun fn=>fn.body.isSome)=true)
  (hF: ∀args v,F args=some (v,true)-> ∃vs,(∀(ρ:CE) (u:Value),Yv ρ (Uz vs) u->Yv ρ v u)/\Vi P (Zy P f) (Zp P f args true []) vs/\ ∃d,pf d (Uz vs)=true):Zw P (S.with f F):=by
 intro g G hg;unfold CB.with at hg;cases hgf:Nat.beq g f with
 | false=>rw [hgf] at hg;exact hS g G hg
 | true=>
  rw [hgf] at hg;obtain rfl:Fh.val F=G:=Ag hg;obtain rfl:g=f:=Aj hgf;refine ⟨?_,fun args v hv H vals w dC hH hG=> ?_⟩
  .grind
  .obtain ⟨vs,hw,⟨C',g1,g2,g3⟩,d,hp⟩:=hF args v hv;exact (goes_call hf g1 g2 (by rw [x4q];exact g3) dC hH hG).mono fun e w' ⟨ρ,u,he,ho⟩=>⟨ρ.fz,u,ho.le,ho.old,ho.same,he,hw _ _ (Ja d _ u hp ho.val),ho.below⟩
theorem v1l :DQ (fun _=>[])=true:=Xt fun _=>rfl
theorem w2z (s t:Nat):DQ (fun k=>(([]:zy).drop (k*s)).take t)=true:=Xt fun i=>by simp
theorem y7r {g:Nat->zy} {o:Nat} (h:DQ g=true):DQ (fun k=>g (o+k))=true:=Xt fun i=>Jb h (o+i)
theorem v7g {g h:Nat->zy} {len:Nat} (p:DQ g=true) (q:DQ h=true):DQ (Jq g len h)=true:=Xt fun i=>by
 unfold Jq;cases Nat.ble len i with
 | true=>exact Jb q _
 | false=>exact Jb p _
open Go.Sort Go.RowKit
variable {P:Program} {ρ:CE}
theorem CF.rewritten {mem:CJ} {next:Nat} {w w':World} (h:CF ρ mem next w) {b:Nat} {l:C3} {ab:CG} (hb:ρ b=some l) (hm:Yn mem b=some ab) {cs:zy}
  (dA:cs.length=ab.cells.length) (dK: ∀k,k<w.heap.size->k≠l.blk->w'.heap[k]? =w.heap[k]?) (eY:w.heap.size<=w'.heap.size)
  (hno:ab.isObj=false) (hnew: ∃cur el,w'.heap[l.blk]? =some (.cells cur el (0,0))/\(∀cur0 z,w.heap[l.blk]? =some (.cells cur0 ab.ty z)->el=ab.ty)/\l.base+l.tot<=cur.size/\ ∀(i:Nat) (hi:i<cs.length),∃v,cur[l.base+i]? =some v/\Yv ρ cs[i] v):
  CF ρ (Wv mem b (some ⟨cs,ab.ty,none⟩)) next w':=by
 have hbk:=(h.blk b l ab hb hm).at hno;refine ⟨h.dom,fun c c' m m' e e' he hs hs'=> ?_,fun c m ac e hc=> ?_,fun k o e=> ?_,fun c m e hs=>h.sep c m e (by
  grind [Zv]),fun c m e=>AY (h.real c m e) eY,fun c hc=>by have:=h.dom b l hb;rw [Zv _ _ (by omega)];exact h.bd c hc,h.ldom⟩
 .refine h.inj c c' m m' e e' he ?_ ?_;all_goals grind [Zv]
 .by_cases hcb:c=b
  .subst hcb;rw [Yk] at hc;obtain rfl:=Ag hc;rw [hb] at e;obtain rfl:=Ag e;obtain ⟨cur,el,n1,n2,n3,n4⟩:=hnew;obtain ⟨cur0,el0,o1,_⟩:=hbk.cells;have hel:=hbk.typ _ _ _ o1;subst hel;have:=n2 _ _ o1;exact .plain ⟨by rw [n1];grind,by rw [dA];exact hbk.n,hbk.tot,(fun A e=>by cases e),cur,el,n1,n3,n4⟩
  .rw [Zv _ _ hcb] at hc;refine (h.blk c m ac e hc).world (CE.le_refl _) (dK m.blk (h.real c m e) fun heq=>hcb ?_);exact h.inj c b m l e hb heq (by rw [hc];rfl) (by rw [hm];rfl)
 .have hk:=h.old k o e;rw [dK k ?_ ?_]
  .exact hk
  .grind
  .intro heq;have:=h.sep b l hb (by rw [hm];rfl)
   grind
def Yy (n:Nat) (c:Nat->Int):zp:=(List.range n).map c
def Ij (srt:zp->zp) (args:zy) (mem:CJ):Option (B9×Nat×CG×Bool):=match args with
 | [.sla b sz off n cap]=>match Yn mem b with
  | some ⟨_,ty,some A⟩=>some (.tup [],b,⟨rows A.n (Dd (EV (srt (Yy n (CS A.get))))),ty,some ⟨1,A.n,Dd (EV (srt (Yy n (CS A.get))))⟩⟩,
    Nat.beq sz 1&&(Nat.beq A.sz 1&&(Nat.beq off 0&&(decide (n=A.n)&&(FB A.get&&decide (n<4611686018427387904))))))
  | _=>none
 | _=>none
theorem XG (n:Nat) (c:Nat->Int) (i:Nat) (h:i<n):(rows n (Dd c))[i]? =some (.int .i64 (c i)):=by
 have:=Vj (get:=Dd c) (sz:=1) n (fun _ _=>rfl) i 0 h Nat.one_pos
 simpa [Dd] using this
theorem Jg (n:Nat) (c:Nat->Int):(rows n (Dd c)).length =n:=by rw [Yg (sz:=1) n fun _ _=>rfl,Nat.mul_one]
theorem RM (w:World) (n blk off:Nat) (d:Array Int) (os:Array Obj) (k:Nat) (hk:k<w.heap.size):
  (grow (putRow (Value.int .i64) (Go.Sort.ahead w n) blk off d) os).heap[k]? =if k=blk then (w.heap[k]?).map (onCells (putCells (Value.int .i64) off d)) else w.heap[k]? :=by
 show (((Go.Sort.ahead w n).heap.modify blk (onCells (putCells (Value.int .i64) off d)))++os)[k]? =_;rw [Array.getElem?_append_left (by simp_all),Array.getElem?_modify];show (if blk=k then _ else _)=_;by_cases h:k=blk
 .simp_all
 .rw [AC (fun e=>h e.symm),AC h];rfl
theorem Ev.rewritten {mem:CJ} {next floor:Nat} {w w':World} (h:CF ρ mem next w) {b:Nat} (o:Option CG) (hb: ∀l,ρ b=some l->floor<=b) (hnone:ρ b=none-> ∀cs ty,Yn mem b≠some ⟨cs,ty,none⟩)
  (dK: ∀k,k<w.heap.size->(∀l,ρ b=some l->k≠l.blk)->w'.heap[k]? =w.heap[k]?) (eY:w.heap.size<=w'.heap.size) (h1:w'.os=w.os) (h2:w'.tape=w.tape) (h3:w'.output=w.output):
  Ev ρ ρ floor mem next (Wv mem b o) next w w' where
 ext:=CE.le_refl _
 new _ _:=rfl
 nxt:=Ar _
 unborn k _ e cs ty hm:=by
  grind [Zv]
 frame k o hk hfr:=by
  grind
 fresh k m hk e:=by have:=h.dom k m e;omega
 size:=eY
 os:=h1
 tape:=h2
 output:=h3
 still _ _:=rfl
theorem CF.unbornSet {mem:CJ} {next:Nat} {w:World} (h:CF ρ mem next w) {b:Nat} (hb:ρ b=none) (hlt:b<next) (o:Option CG):CF ρ (Wv mem b o) next w:=by
 have ne: ∀c l,ρ c=some l->c≠b:=fun c l e he=>by grind
 refine ⟨h.dom,fun c c' m m' e e' he hs hs'=> ?_,fun c m ac e hc=> ?_,h.old,fun c m e hs=> ?_,h.real,fun c hc=> ?_,h.ldom⟩
 .rw [Zv _ _ (ne _ _ e)] at hs;rw [Zv _ _ (ne _ _ e')] at hs';exact h.inj c c' m m' e e' he hs hs'
 .rw [Zv _ _ (ne _ _ e)] at hc;exact h.blk c m ac e hc
 .rw [Zv _ _ (ne _ _ e)] at hs;exact h.sep c m e hs
 .rw [Zv _ _ (by omega)];exact h.bd c hc
theorem j9s {f:FuncId} {srt:zp->zp} (hsl: ∀zs,(srt zs).length =zs.length)
  (hC: ∀(blk off cap:Nat) (zs:zp) (w:World),Holds (Value.int .i64) w blk off zs.toArray->blk<w.heap.size->zs.length<4611686018427387904->
   Calls P f #[.slice (some ⟨blk,off,none⟩) zs.length cap] w fun e w'=>e=.returned (.tuple #[])/\ ∃n os,w'=grow (putRow (Value.int .i64) (Go.Sort.ahead w n) blk off (srt zs).toArray) os)
  (hN: ∀(p:Option Addr) (cap:Nat) (w:World),Calls P f #[.slice p 0 cap] w fun e w'=>e=.returned (.tuple #[])/\w'=w):JO P f (Ij srt):=by
 intro args mem v b blk h fH ρ next floor vals w hfl dC cZ
 unfold Ij at h;split at h
 .rename_i b0 sz off n cap;split at h
  .rename_i cells ty A hm;obtain ⟨asz,an,get⟩:=A;simp only [Ad,Ae,Ac] at h;obtain ⟨rfl,rfl,rfl,h1,h2,h3,h4,h5,h6⟩:=h;have g1:=Aj h1;have g2:=Aj h2;have g3:=Aj h3;have g4:n=an:=Ax h4;have h6:n<4611686018427387904:=Ax h6;subst g1;subst g2;subst g3;subst g4;obtain ⟨c,hcg⟩:=w6l h5;have e0:CS (Dd c)=c:=rfl;simp only [hcg,e0];obtain ⟨u,hu,eM⟩: ∃u,Yv ρ (.sla b0 1 0 n cap) u/\vals= #[u]:=by
    obtain ⟨vl⟩:=vals;cases dC with
    | cons h1 h2=>cases h2;grind
   subst eM;have hlt:b0<next:=by
    rcases A7 b0 next with h | h
    .exact h
    .have:=cZ.bd b0 h;grind
   generalize hL:srt (Yy n c)=L;have hLl:L.length=n:=by grind [Yy]
   have hnn:ρ b0=none-> ∀cs ty',Yn mem b0≠some ⟨cs,ty',none⟩:=fun _ cs ty' e=>by grind
   cases hu with
   | sla _ _ _ _ _ l cc e hc dA=>
    have hbk:=(cZ.blk b0 l _ e hm).rows rfl;obtain ⟨har,_,_⟩:=hbk.arr _ rfl;simp only [hcg] at har;subst har;obtain ⟨cur,el,hh,hsz,dE⟩:=hbk.cells;simp only [Jg] at dE;have dW: ∀i,i<n->cur[l.base+i]? =some (.int .i64 (c i)):=fun i hi=>by obtain ⟨v,e1,e2⟩:=dE i hi;rw [show (rows n (Dd c))[i]'(by grind)=.int .i64 (c i) from Ag (by rw [<-At,XG n c i hi])] at e2;cases e2;exact e1
    have eF:=cZ.real b0 l e;have hzs:(Yy n c).length =n:=(by grind);have hH:Holds (Value.int .i64) w l.blk (l.base+0*1) (Yy n c).toArray :=fun j hj=>by
     grind [World.cell?,Yy,World.frozen?]
    have dM:=hC l.blk (l.base+0*1) cc (Yy n c) w hH eF (by omega);rw [hzs,hL] at dM;refine dM.mono fun e' w' ⟨he,q,os,hw'⟩=>⟨_,he,?_,?_,?_⟩
    .exact .tup [] #[] rfl fun i h1 h2=>absurd h1 (AD _)
    .subst hw';refine CF.setArr ?_ ⟨1,n,Dd (EV L)⟩ (W4 _ _) rfl (Ar 1) fun _ _=>rfl;refine CF.rewritten cZ e hm (by simp only [Jg]) (fun k hk hne=> ?_) ?_ hbk.noObj ?_
     .grind [RM]
     .simp_all
     .refine ⟨putCells (Value.int .i64) (l.base+0*1) L.toArray cur,el,?_,fun _ _ _=>hbk.typ _ _ _ hh,?_,fun i hi=> ?_⟩
      .rw [RM _ _ _ _ _ _ _ eF,AJ rfl,hh];rfl
      .grind [putCells]
      .rw [Jg] at hi;refine ⟨.int .i64 (EV L i),?_,?_⟩
       .grind [putCells,EV]
       .rw [show (rows n (Dd (EV L)))[i]'(by grind)=.int .i64 (EV L i) from Ag (by rw [<-At,XG n _ i hi])];exact .int _ _
    .subst hw';refine Ev.rewritten cZ _ (fun l' _=>hfl) hnn (fun k hk hne=> ?_) ?_ rfl rfl rfl
     .grind [RM]
     simp_all
   | slan=>
    refine (hN none 0 w).mono fun e' w' ⟨he,hw'⟩=>⟨_,he,?_,?_,?_⟩
    .exact .tup [] #[] rfl fun i h1 h2=>absurd h1 (AD _)
    .subst hw';refine CF.setArr ?_ ⟨1,0,Dd (EV L)⟩ (W4 _ _) rfl (Ar 1) fun _ _=>rfl;cases e:ρ b0 with
     | none=>exact CF.unbornSet cZ e hlt _
     | some l=>have hbk:=(cZ.blk b0 l _ e hm).rows rfl;obtain ⟨har,_,_⟩:=hbk.arr _ rfl;simp only [hcg] at har;subst har;obtain ⟨cur,el,hh,hsz,dE⟩:=hbk.cells;exact CF.rewritten cZ e hm rfl (fun _ _ _=>rfl) (Ar _) hbk.noObj ⟨cur,el,hh,fun _ _ _=>hbk.typ _ _ _ hh,hsz,fun i hi=>absurd hi (AD _)⟩
    grind [Ev.rewritten]
  .cases h
 .cases h
def Ik (srt:zp->zp) (res:zp->Nat) (args:zy) (mem:CJ):Option (B9×Nat×CG×Bool):=match args with
 | [.sla b sz off n cap]=>match Yn mem b with
  | some ⟨_,ty,some A⟩=>some (.sla b 1 0 (res (Yy n (CS A.get))) cap,b,⟨rows A.n (Dd (EV (srt (Yy n (CS A.get))))),ty,some ⟨1,A.n,Dd (EV (srt (Yy n (CS A.get))))⟩⟩,
    Nat.beq sz 1&&(Nat.beq A.sz 1&&(Nat.beq off 0&&(decide (n=A.n)&&(FB A.get&&decide (n<4611686018427387904))))))
  | _=>none
 | _=>none
theorem j9t {f:FuncId} {srt:zp->zp} {res:zp->Nat} (hsl: ∀zs,(srt zs).length =zs.length) (fF: ∀zs,res zs<=zs.length)
  (hC: ∀(blk off cap:Nat) (zs:zp) (w:World),Holds (Value.int .i64) w blk off zs.toArray->blk<w.heap.size->zs.length<4611686018427387904->zs.length<=cap->
   Calls P f #[.slice (some ⟨blk,off,none⟩) zs.length cap] w fun e w'=>e=.returned (.slice (some ⟨blk,off,none⟩) (res zs) cap)/\ ∃n os,w'=grow (putRow (Value.int .i64) (Go.Sort.ahead w n) blk off (srt zs).toArray) os)
  (hN: ∀(p:Option Addr) (cap:Nat) (w:World),Calls P f #[.slice p 0 cap] w fun e w'=>e=.returned (.slice p 0 cap)/\w'=w):JO P f (Ik srt res):=by
 intro args mem v b blk h fH ρ next floor vals w hfl dC cZ
 unfold Ik at h;split at h
 .rename_i b0 sz off n cap;split at h
  .rename_i cells ty A hm;obtain ⟨asz,an,get⟩:=A;simp only [Ad,Ae,Ac] at h;obtain ⟨rfl,rfl,rfl,h1,h2,h3,h4,h5,h6⟩:=h;have g1:=Aj h1;have g2:=Aj h2;have g3:=Aj h3;have g4:n=an:=Ax h4;have h6:n<4611686018427387904:=Ax h6;subst g1;subst g2;subst g3;subst g4;obtain ⟨c,hcg⟩:=w6l h5;have e0:CS (Dd c)=c:=rfl;simp only [hcg,e0];obtain ⟨u,hu,eM⟩: ∃u,Yv ρ (.sla b0 1 0 n cap) u/\vals= #[u]:=by
    obtain ⟨vl⟩:=vals;cases dC with
    | cons h1 h2=>cases h2;grind
   subst eM;have hlt:b0<next:=by
    rcases A7 b0 next with h | h
    .exact h
    .have:=cZ.bd b0 h;grind
   generalize hL:srt (Yy n c)=L;have hLl:L.length=n:=by grind [Yy]
   have hnn:ρ b0=none-> ∀cs ty',Yn mem b0≠some ⟨cs,ty',none⟩:=fun _ cs ty' e=>by grind
   cases hu with
   | sla _ _ _ _ _ l cc e hc dA=>
    have hbk:=(cZ.blk b0 l _ e hm).rows rfl;obtain ⟨har,_,_⟩:=hbk.arr _ rfl;simp only [hcg] at har;subst har;obtain ⟨cur,el,hh,hsz,dE⟩:=hbk.cells;simp only [Jg] at dE;have dW: ∀i,i<n->cur[l.base+i]? =some (.int .i64 (c i)):=fun i hi=>by obtain ⟨v,e1,e2⟩:=dE i hi;rw [show (rows n (Dd c))[i]'(by grind)=.int .i64 (c i) from Ag (by rw [<-At,XG n c i hi])] at e2;cases e2;exact e1
    have eF:=cZ.real b0 l e;have hzs:(Yy n c).length =n:=(by grind);have hH:Holds (Value.int .i64) w l.blk (l.base+0*1) (Yy n c).toArray :=fun j hj=>by
     grind [World.cell?,Yy,World.frozen?]
    have dM:=hC l.blk (l.base+0*1) cc (Yy n c) w hH eF (by omega) (by omega);rw [hzs,hL] at dM;refine dM.mono fun e' w' ⟨he,q,os,hw'⟩=>⟨_,he,?_,?_,?_⟩
    .exact .sla _ _ _ _ _ l cc e hc (AG (fF _) (by omega))
    .subst hw';refine CF.setArr ?_ ⟨1,n,Dd (EV L)⟩ (W4 _ _) rfl (Ar 1) fun _ _=>rfl;refine CF.rewritten cZ e hm (by simp only [Jg]) (fun k hk hne=> ?_) ?_ hbk.noObj ?_
     .grind [RM]
     .simp_all
     .refine ⟨putCells (Value.int .i64) (l.base+0*1) L.toArray cur,el,?_,fun _ _ _=>hbk.typ _ _ _ hh,?_,fun i hi=> ?_⟩
      .rw [RM _ _ _ _ _ _ _ eF,AJ rfl,hh];rfl
      .grind [putCells]
      .rw [Jg] at hi;refine ⟨.int .i64 (EV L i),?_,?_⟩
       .grind [putCells,EV]
       .rw [show (rows n (Dd (EV L)))[i]'(by grind)=.int .i64 (EV L i) from Ag (by rw [<-At,XG n _ i hi])];exact .int _ _
    .subst hw';refine Ev.rewritten cZ _ (fun l' _=>hfl) hnn (fun k hk hne=> ?_) ?_ rfl rfl rfl
     .grind [RM]
     simp_all
   | slan=>
    refine (hN none 0 w).mono fun e' w' ⟨he,hw'⟩=>⟨_,he,?_,?_,?_⟩
    .rw [show res (Yy 0 c)=0 from Nat.le_zero.1 (fF _)];exact .slan _ _ _ _
    .subst hw';refine CF.setArr ?_ ⟨1,0,Dd (EV L)⟩ (W4 _ _) rfl (Ar 1) fun _ _=>rfl;cases e:ρ b0 with
     | none=>exact CF.unbornSet cZ e hlt _
     | some l=>have hbk:=(cZ.blk b0 l _ e hm).rows rfl;obtain ⟨har,_,_⟩:=hbk.arr _ rfl;simp only [hcg] at har;subst har;obtain ⟨cur,el,hh,hsz,dE⟩:=hbk.cells;exact CF.rewritten cZ e hm rfl (fun _ _ _=>rfl) (Ar _) hbk.noObj ⟨cur,el,hh,fun _ _ _=>hbk.typ _ _ _ hh,hsz,fun i hi=>absurd hi (AD _)⟩
    grind [Ev.rewritten]
  .cases h
 .cases h
def q4 (f:Nat->Nat->Int):Nat->zy:=fun k=>[.int .i64 (f k 0),.int .i64 (f k 1),.int .i64 (f k 2),.int .i64 (f k 3)]
theorem x5r (a:Nat):(Nat.beq a a == true)=true:=by simp_all
inductive VP where
 | keep
 | drop
  | grow (b sz:Nat)
  | list (n:Nat) (g:Nat->zy)
  | len (n:Nat)
  | frz (n n':Nat) (a g:Nat->zy)
def Kb (n:Nat) (a g:Nat->zy):Bool:=pd (∀i,i<n->a i=g i)
def TB (cells:zy) (sz n:Nat) (g:Nat->zy):Bool:=pd (cells=rows n g/\1<=sz/\ ∀i,i<n->(g i).length =sz)
def UW (n:Nat) (a g:Nat->zy):Bool:=pd (∀i,i<n->DE (a i) (g i))
def HT (a b:Nat):Bool:=pd (a=b)
theorem Us {a b:Nat} (h:a=b):HT a b=true:=Xt h
def Tv (v:B9) (n:Nat) (a:Nat->zy):Bool:=pd (v=.dat n a)
theorem u4n (sz n:Nat) (g:Nat->zy):Tv (Cv sz sz 0 n n g) n g=true:=Xt (j6n sz n g)
theorem v6z (n:Nat) (g:Nat->zy):Tv (.dat n g) n g=true:=Xt rfl
def JS :VP->B9->Bool->B9×Bool
 | .keep,v,ob=>(v,ob)
 | .drop,_,ob=>(.undef,ob)
 | .grow b sz,v,ob=>match v with
  | .nils =>(.sla b sz 0 0 (.un sz),ob)
  | .sl b o len cap=>(.sla b sz 0 len cap,Nat.beq o 0&&ob)
  | v=>(v,ob)
 | .list n' g,v,ob=>match v with
  | .nils =>(.dat 0 g,ob)
  | .dat n a=>(.dat n' g,HT n n'&&(Kb n a g&&ob))
  | v=>(v,ob)
 | .len n',v,ob=>match v with
  | .sla b sz off n cap=>(.sla b sz off n' cap,HT n n'&&ob)
  | v=>(v,ob)
 | .frz n n' a g,v,ob=>(.dat n' g,Tv v n a&&(HT n n'&&(Kb n a g&&ob)))
theorem w6e {p:VP} {v:B9} {ob:Bool} (h:(JS p v ob).2=true):D1 v (JS p v ob).1/\ob=true:=by
 cases p with
 | keep=>exact ⟨.refl _,h⟩
 | drop=>exact ⟨.undef _,h⟩
 | grow b sz=>
  cases v with
  | nils=>exact ⟨.nils _ _ _ _,h⟩
  | sl b' o len cap=>simp only [JS,Ac] at h;have e:=Aj h.1;subst e;have:=D1.sl b' sz 0 len cap;rw [Nat.zero_mul] at this;exact ⟨this,h.2⟩
  | _=>exact ⟨.refl _,h⟩
 | list n' g=>
  cases v with
  | nils=>exact ⟨.nild _,h⟩
  | dat n a=>simp only [JS,Ac] at h;obtain rfl:=Jb h.1;exact ⟨.dat _ _ _ (Jb h.2.1),h.2.2⟩
  | _=>exact ⟨.refl _,h⟩
 | len n'=>
  cases v with
  | sla b sz off n cap=>simp only [JS,Ac] at h;obtain rfl:=Jb h.1;exact ⟨.refl _,h.2⟩
  | _=>exact ⟨.refl _,h⟩
 | frz n n' a g=>simp only [JS,Ac] at h;obtain rfl:=Jb h.1;obtain rfl:=Jb h.2.1;exact ⟨.dat _ _ _ (Jb h.2.2.1),h.2.2.2⟩
def Rr :List VP->zy->Bool->zy×Bool
 | _,[],ob=>([],ob)
 | [],l,ob=>(l,ob)
 | p::ps,v::l,ob=>match Rr ps l ob with
  | (l',ob)=>match JS p v ob with
   | (v',ob)=>(v'::l',ob)
theorem y7i : ∀{ps:List VP} {l:zy} {ob:Bool},(Rr ps l ob).2=true->DE l (Rr ps l ob).1/\ob=true
 | [],[],_,h=>⟨.nil,h⟩
 | _::_,[],_,h=>⟨.nil,h⟩
 | [],a::l,_,h=>⟨DE.refl _,h⟩
 | p::ps,v::l,ob,h=>by simp only [Rr] at h ⊢;obtain ⟨h1,h2⟩:=w6e h;obtain ⟨h3,h4⟩:=y7i h2;exact ⟨.cons h1 h3,h4⟩
inductive BP where
 | keep
 | drop
 | cells (ps:List VP)
 | rowed (sz n:Nat) (g:Nat->zy)
 | rws (a:Cs)
  | rowo (sz n:Nat) (a:Cs)
def OU (cells:zy) (sz n:Nat) (a:Cs):Bool:=pd (DE cells (rows n a.get)/\1<=sz/\ ∀i,i<n->(a.get i).length =sz)
def j5w :zy->zy->TypeId->Option CG
 | .obj o::_,_::r,ty=>some ⟨.obj o::r,ty,none⟩
 | .obj _::_,[],_=>none
 | _,cs,ty=>some ⟨cs,ty,none⟩
def j5x (cells:zy):zy->TypeId->Option CG
 | .dat n g::r,ty=>some ⟨.dat n g::r,ty,none⟩
 | cs,ty=>j5w cells cs ty
def Fr :BP->Option CG->Bool->Option CG×Bool
 | .keep,o,ob=>(o,ob)
 | .drop,_,ob=>(none,ob)
 | .cells ps,o,ob=>match o with
  | some ⟨cells,ty,none⟩=>match Rr ps cells ob with
   | (cs,ob)=>(j5x cells cs ty,ob)
  | o=>(o,ob)
 | .rowed sz n g,o,ob=>match o with
  | some ⟨cells,ty,none⟩=>(bif (⟨cells,ty,none⟩:CG).isObj then none else some ⟨rows n g,ty,some ⟨sz,n,.flat g⟩⟩,TB cells sz n g&&ob)
  | some ⟨_,ty,some ⟨sz',n',a⟩⟩=>(some ⟨rows n g,ty,some ⟨sz',n,.flat g⟩⟩,HT n' n&&(Kb n' a.get g&&ob))
  | o=>(o,ob)
 | .rws a',o,ob=>match o with
  | some ⟨_,ty,some ⟨sz,n,a⟩⟩=>(some ⟨rows n a'.get,ty,some ⟨sz,n,a'⟩⟩,UW n a.get a'.get&&ob)
  | o=>(o,ob)
 | .rowo sz n a',o,ob=>match o with
  | some ⟨cells,ty,none⟩=>(bif (⟨cells,ty,none⟩:CG).isObj then none else some ⟨rows n a'.get,ty,some ⟨sz,n,a'⟩⟩,OU cells sz n a'&&ob)
  | o=>(o,ob)
theorem DE.sound {ρ:CE} {l m:zy} (h:DE l m) (i:Nat) (h1:i<l.length) (h2:i<m.length) {v:Value} (hv:Yv ρ l[i] v):Yv ρ m[i] v:=(h.get i h1 h2).sound hv
theorem v5x (cells:zy) (ty:TypeId) (A:Da):(⟨cells,ty,some A⟩:CG).isObj =false:=by
 unfold CG.isObj;split
 .rename_i e;cases e
 .rfl
theorem w1x {p:BP} {o:Option CG} {ob:Bool} {x':CG} (h:(Fr p o ob).2=true) (hx:(Fr p o ob).1=some x'):ob=true/\ ∃x,o=some x/\ ∀(ρ:CE) (w:World) (l:C3),Wn ρ w x l->Wn ρ w x' l:=by
 cases p with
 | keep=>exact ⟨h,x',hx,fun _ _ _ q=>q⟩
 | drop=>cases hx
 | cells ps=>
  rcases o with _ | ⟨cells,ty,_ | A⟩
  .cases hx
  .simp only [Fr] at h hx;obtain ⟨h1,h2⟩:=y7i h;refine ⟨h2,_,rfl,fun ρ w l hb=> ?_⟩;generalize (Rr ps cells ob).1=cs' at hx h1;cases hb with
   | obj o r ty' e1 e2 e3=>
    simp only [CG.mk.injEq] at e1;obtain ⟨rfl,rfl,_⟩:=e1;cases h1 with
    | cons ha hr=>
    rename_i c0 r';have hx:j5w (.obj o::r) (c0::r') ty=some x':=by
     unfold j5x at hx;split at hx
     .rename_i e;rw [Bq] at e;obtain ⟨rfl,_⟩:=e;cases ha
     .exact hx
    obtain rfl:=Ag hx;refine .obj o r' ty rfl (by rw [e2,DE.len hr]) ?_;cases o with
    | mi ml=>obtain ⟨rfl,k⟩:=e3;cases hr;exact ⟨rfl,k⟩
    | mb ml=>obtain ⟨rfl,k⟩:=e3;cases hr;exact ⟨rfl,k⟩
    | it s pos=>obtain ⟨rfl,k⟩:=e3;cases hr;exact ⟨rfl,k⟩
    | bld=>
     obtain ⟨buf,v,p,rfl,k1,k2,k3⟩:=e3;cases hr with
     | cons hb0 hr0=>
     cases hr0;exact ⟨_,v,p,rfl,k1,hb0.sound k2,k3⟩
   | plain hb=>
   have hno:=hb.noObj;have hx:some (⟨cs',ty,none⟩:CG)=some x':=by
    unfold j5x at hx;split at hx
    .exact hx
    .unfold j5w at hx;split at hx
     .cases hno
     .cases hno
     .exact hx
   obtain rfl:=Ag hx;obtain ⟨cs,el,g1,g2,g3⟩:=hb.cells;refine .plain ⟨hb.typ,by rw [hb.n];exact h1.len,hb.tot,(fun A hA=>by cases hA),cs,el,g1,g2,fun i hi=> ?_⟩;have hi0:i<cells.length:=by rw [h1.len];exact hi
   obtain ⟨v,q1,q2⟩:=g3 i hi0;exact ⟨v,q1,h1.sound i hi0 hi q2⟩
  .exact ⟨h,_,rfl,fun ρ w l hb=>by obtain rfl:=Ag hx;exact hb⟩
 | rowed sz n g=>
  rcases o with _ | ⟨cells,ty,_ | ⟨sz',n',a⟩⟩
  .cases hx
  .simp only [Fr,Ac] at h hx;obtain ⟨hno,hx⟩:=N0 hx;obtain rfl:=Ag hx;obtain ⟨h1,h2,h3⟩:=Jb h.1;exact ⟨h.2,_,rfl,fun ρ w l hb=>(Is.rowed cells ty none sz n g hno h1 h2 h3).sound hb⟩
  .simp only [Fr,Ac] at h hx;obtain rfl:=Ag hx;obtain rfl:=Jb h.1;have h1:=Jb h.2.1;refine ⟨h.2.2,_,rfl,fun ρ w l hb=> ?_⟩;obtain ⟨q1,q2,q3⟩:=hb.arr _ rfl;exact (Is.rowed cells ty _ sz' n' g (v5x _ _ _) (q1.trans (y1w _ h1)) q2 fun i hi=>by rw [<-h1 i hi];exact q3 i hi).sound hb
 | rws a'=>
  rcases o with _ | ⟨cells,ty,_ | ⟨sz',n',a⟩⟩
  .cases hx
  .exact ⟨h,_,rfl,fun ρ w l hb=>by obtain rfl:=Ag hx;exact hb⟩
  .simp only [Fr,Ac] at h hx;obtain rfl:=Ag hx;refine ⟨h.2,_,rfl,fun ρ w l hb=> ?_⟩;obtain ⟨q1,_,_⟩:=hb.arr _ rfl;have q1:cells=rows n' a.get:=q1;subst q1;exact (Is.rws ty sz' n' a a' (Jb h.1)).sound hb
 | rowo sz n a'=>
  rcases o with _ | ⟨cells,ty,_ | A⟩
  .cases hx
  .simp only [Fr,Ac] at h hx;obtain ⟨hno,hx⟩:=N0 hx;obtain rfl:=Ag hx;obtain ⟨h1,h2,h3⟩:=Jb h.1;refine ⟨h.2,_,rfl,fun ρ w l hb=> ?_⟩;have hb:=hb.at hno;obtain ⟨cs,el,g1,g2,g3⟩:=hb.cells;refine .plain ⟨hb.typ,by rw [hb.n];exact h1.len,hb.tot,fun A hA=>by obtain rfl:=Ag hA;exact ⟨rfl,h2,h3⟩,cs,el,g1,g2,fun i hi=> ?_⟩;have hi0:i<cells.length:=by rw [h1.len];exact hi
   obtain ⟨v,q1,q2⟩:=g3 i hi0;exact ⟨v,q1,h1.sound i hi0 hi q2⟩
  .exact ⟨h,_,rfl,fun ρ w l hb=>by obtain rfl:=Ag hx;exact hb⟩
def SG :List (Nat×VP)->T B9->Bool->T B9×Bool
 | [],env,ob=>(env,ob)
 | (t,p)::l,env,ob=>match SG l env ob with
  | (e,ob)=>match JS p (T.get .undef e t) ob with
   | (v,ob)=>(T.set .undef e t v,ob)
def G7 (e e':T B9):Prop:= ∀t,(∀(ρ:CE) (v:Value),Yv ρ (T.get .undef e t) v->Yv ρ (T.get .undef e' t) v)/\(T.get .undef e t=.undef ->T.get .undef e' t=.undef)
theorem G7.refl (e:T B9):G7 e e:=fun _=>⟨fun _ _ h=>h,fun h=>h⟩
theorem x3c : ∀{l:List (Nat×VP)} {env:T B9} {ob:Bool},(SG l env ob).2=true->G7 env (SG l env ob).1/\ob=true
 | [],_,_,h=>⟨G7.refl _,h⟩
 | (t,p)::l,env,ob,h=>by
  simp only [SG] at h ⊢;obtain ⟨h1,h2⟩:=w6e h;obtain ⟨h3,h4⟩:=x3c h2;refine ⟨fun s=> ?_,h4⟩;rw [T.get_set];by_cases e:s=t
  .subst e;rw [AJ rfl];exact ⟨fun ρ v hv=>h1.sound ((h3 s).1 ρ v hv),fun hu=>by have e:=(h3 s).2 hu;rw [e] at h1 ⊢;exact h1.of_undef⟩
  .rw [AC e];exact h3 s
def Nj :List BP->Nat->CJ->Bool->CJ×Bool
 | [],_,m,ob=>(m,ob)
 | p::ps,i,m,ob=>match Nj ps (i+1) m ob with
  | (m',ob)=>match Fr p (Yn m i) ob with
   | (x,ob)=>(Wv m' i x,ob)
theorem u3u {p:BP} {o:Option CG} {ob:Bool} (h:(Fr p o ob).2=true):ob=true:=by
 cases p with
 | keep=>exact h
 | drop=>exact h
 | cells ps=>
  rcases o with _ | ⟨cells,ty,_ | A⟩
  .exact h
  .exact (y7i h).2
  .exact h
 | rowed sz n g=>
  rcases o with _ | ⟨cells,ty,_ | A⟩;all_goals simp_all [Fr]
 | rws a=>
  rcases o with _ | ⟨cells,ty,_ | A⟩;all_goals simp_all [Fr]
 | rowo sz n a=>
  rcases o with _ | ⟨cells,ty,_ | A⟩;all_goals simp_all [Fr]
theorem x0r : ∀{ps:List BP} {i:Nat} {m:CJ} {ob:Bool},(Nj ps i m ob).2=true->ob=true/\ ∀b x',Yn (Nj ps i m ob).1 b=some x'-> ∃x,Yn m b=some x/\ ∀(ρ:CE) (w:World) (l:C3),Wn ρ w x l->Wn ρ w x' l
 | [],_,_,_,h=>⟨h,fun b x' hb=>⟨x',hb,fun _ _ _ q=>q⟩⟩
 | p::ps,i,m,ob,h=>by
  simp only [Nj] at h ⊢;have hob:(Nj ps (i+1) m ob).2=true:=u3u h;obtain ⟨h1,h2⟩:=x0r hob;refine ⟨h1,fun b x' hb=> ?_⟩;rw [Vp] at hb;by_cases e:b=i
  .subst e;rw [AJ rfl] at hb;exact (w1x h hb).2
  .rw [AC e] at hb;exact h2 b x' hb
def SH :List (List (Nat×VP))->List Ci->Bool->List Ci×Bool
 | _,[],ob=>([],ob)
 | [],l,ob=>(l,ob)
 | p::ps,⟨cx,ro,todo,rnd,rs,env⟩::l,ob=>match SH ps l ob with
  | (l',ob)=>match SG p env ob with
   | (e,ob)=>(⟨cx,ro,todo,rnd,rs,e⟩::l',ob)
def RH (a a':Ci):Prop:=a.cx=a'.cx/\a.ro=a'.ro/\a.todo=a'.todo/\a.rnd=a'.rnd/\a.rs=a'.rs/\G7 a.env a'.env
theorem RH.refl (a:Ci):RH a a:=⟨rfl,rfl,rfl,rfl,rfl,G7.refl _⟩
theorem Vg.refl' : ∀l:List Ci,Vg RH l l
 | []=>.nil
 | a::l=>.cons (RH.refl a) (Vg.refl' l)
theorem w6f : ∀{ps:List (List (Nat×VP))} {l:List Ci} {ob:Bool},(SH ps l ob).2=true->Vg RH l (SH ps l ob).1/\ob=true
 | [],[],_,h=>⟨.nil,h⟩
 | _::_,[],_,h=>⟨.nil,h⟩
 | [],a::l,_,h=>⟨Vg.refl' _,h⟩
 | p::ps,⟨cx,ro,todo,rnd,rs,env⟩::l,ob,h=>by simp only [SH] at h ⊢;obtain ⟨h1,h2⟩:=x3c h;obtain ⟨h3,h4⟩:=w6f h2;exact ⟨.cons ⟨rfl,rfl,rfl,rfl,rfl,h1⟩ h3,h4⟩
structure G6 where
 slots:List (Nat×VP):=[]
 blks:List BP:=[]
 cs:List (List (Nat×VP)):=[]
def SF (L:G6):CI->CI
 | ⟨cx,ro,todo,rnd,rs,⟨env,mem,next,orc,ob⟩,cs,lps⟩=>match SH L.cs cs ob with
  | (cs',ob)=>match Nj L.blks 0 mem ob with
   | (mem',ob)=>match SG L.slots env ob with
    | (env',ob)=>⟨cx,ro,todo,rnd,rs,⟨env',mem',next,orc,ob⟩,cs',lps⟩
def Tb :List (TypeId×Nat×(Nat->zy))->Nat->CJ->CJ
 | [],_,m=>m
 | (ty,sz,g)::l,i,m=>Wv (Tb l (i+1) m) i (some ⟨[],ty,some ⟨sz,0,.flat g⟩⟩)
def ZT (gs:List (TypeId×Nat×(Nat->zy))):CI->CI
 | ⟨cx,ro,todo,rnd,rs,⟨env,mem,next,orc,ob⟩,cs,lps⟩=>⟨cx,ro,todo,rnd,rs,⟨env,Tb gs next mem,next+gs.length,orc,ob⟩,cs,lps⟩
theorem y2e : ∀(gs:List (TypeId×Nat×(Nat->zy))) (i:Nat) (m:CJ) (b:Nat),(b<i->Yn (Tb gs i m) b=Yn m b)/\(i+gs.length<=b->Yn (Tb gs i m) b=Yn m b)
 | [],i,m,b=>⟨fun _=>rfl,fun _=>rfl⟩
 | (ty,sz,g)::l,i,m,b=>by obtain ⟨h1,h2⟩:=y2e l (i+1) m b;simp only [Tb,Vp,AZ];exact ⟨fun h=>by rw [AC (by omega)];exact h1 (by omega),fun h=>by rw [AC (by omega)];exact h2 (by omega)⟩
theorem Fs.less {P:Program} {ρ:CE} {cs:List Ci} {css:List Frame} {mss:zr} (h:Fs P ρ cs css mss): ∀{cs':List Ci},Vg RH cs cs'->Fs P ρ cs' css mss:=by
 induction h with
 | nil=>intro cs' h;cases h;exact .nil
 | @cons af b a k ms cs css mss hf hl t ih=>
  intro cs' h;cases h with
  | @cons _ af' _ cs'' h1 h2=>
   obtain ⟨e1,e2,e3,e4,e5,e6⟩:=h1;have hne:cs''≠ []->cs≠ []:=fun hn he=>by subst he;cases h2;exact hn rfl
   rw [show Vq af.ro k=Vq af'.ro k by rw [e2]];exact .cons ⟨by rw [<-e1];exact ⟨hf.env.size,fun t=>(e6 t).1 _ _ (hf.env.get t),fun t ht=>(e6 t).2 (hf.env.out t ht)⟩,hf.defers,by rw [<-e3];exact hf.todo,by rw [<-e2];exact hf.ro,by rw [<-e4];exact hf.rnd⟩
    (fun hn=>by grind) (ih h2)
theorem y2d {P:Program} {cx:CP} {ro:Option CZ} {todo:List Item} {rnd:Option Nat} {rs:List ResultVar} {env env':T B9} {mem mem':CJ} {k k':Nat} {o o':List Bool} {b0 b0':Bool} {cs cs':List Ci} {lps:CQ}
  (hE:G7 env env') (hC:Vg RH cs cs') (hM: ∀b x',b<k->Yn mem' b=some x'-> ∃x,Yn mem b=some x/\ ∀(ρ:CE) (w:World) (l:C3),Wn ρ w x l->Wn ρ w x' l) (hk:k<=k') (hbd:(∀b,k<=b->Yn mem b=none)-> ∀b,k'<=b->Yn mem' b=none):
  DM P ⟨cx,ro,todo,rnd,rs,⟨env,mem,k,o,b0⟩,cs,lps⟩ ⟨cx,ro,todo,rnd,rs,⟨env',mem',k',o',b0'⟩,cs',lps⟩:=
 fun H w0 ρ b a t css w ma mb hs he cs0=>by
  have hr:=hs.rel;simp only at hr he;have hne:cs'≠ []->cs≠ []:=fun hn e=>by subst e;cases hC;exact hn rfl
  refine ⟨ρ,b,a,t,css,w,ma,mb,Steps.refl _ _,⟨⟨?_,hs.top.defers,hs.top.todo,hs.top.ro,hs.top.rnd⟩,fun hn=>hs.lv (hne hn),⟨hs.rest.cs.less hC,hs.rest.nodup,hs.rest.marks,hs.rest.loops,hs.rest.inj⟩,?_⟩,?_,rfl,Ar _⟩
  .exact ⟨hs.top.env.size,fun t=>(hE t).1 _ _ (hs.top.env.get t),fun t ht=>(hE t).2 (hs.top.env.out t ht)⟩
  .have lift: ∀c l,ρ c=some l->(Yn mem' c).isSome =true->(Yn mem c).isSome =true:=fun c l hc h=>by obtain ⟨x,hx⟩:=BW.1 h;obtain ⟨y,hy,_⟩:=hM c x (hr.dom c l hc) hx;rw [hy];rfl
   refine ⟨fun c l hc=>AY (hr.dom c l hc) hk,fun c c' l l' hc hc' hl h1 h2=>hr.inj c c' l l' hc hc' hl (lift c l hc h1) (lift c' l' hc' h2),fun c l ab hc h1=> ?_,hr.old,fun c l hc h1=>hr.sep c l hc (lift c l hc h1),hr.real,hbd hr.bd,fun j l hj=>AY (hr.ldom.1 j l hj) hk,hr.ldom.2⟩;obtain ⟨y,hy,h2⟩:=hM c ab (hr.dom c l hc) h1;exact h2 _ _ _ (hr.blk c l y hc hy)
  .exact ⟨he.ext,fun _ hb=>absurd hb (AD _),Ay _,fun _ hb=>absurd hb (AD _),he.frame,he.fresh,he.size,he.os,he.tape,he.output,he.still⟩
theorem v0s {P:Program} {L:G6} {C:CI} (ho:(SF L C).st.ob =true):C.st.ob=true/\DM P C (SF L C):=by
 obtain ⟨cx,ro,todo,rnd,rs,⟨env,mem,next,orc,ob⟩,cs,lps⟩:=C;simp only [SF] at ho ⊢;obtain ⟨h1,h2⟩:=x3c ho;obtain ⟨h3,h4⟩:=x0r h2;obtain ⟨h5,h6⟩:=w6f h3;refine ⟨h6,y2d h1 h5 (fun b x' _ hb=>h4 b x' hb) (Ar _) fun hbd b hb=> ?_⟩;cases hq:Yn (Nj L.blks 0 mem (SH L.cs cs ob).2).1 b with
 | none=>rfl
 | some x'=>
  grind
theorem w2o {P:Program} (gs:List (TypeId×Nat×(Nat->zy))) (C:CI):DM P C (ZT gs C)/\(ZT gs C).st.ob =C.st.ob:=by
 obtain ⟨cx,ro,todo,rnd,rs,⟨env,mem,next,orc,ob⟩,cs,lps⟩:=C;exact ⟨y2d (G7.refl _) (Vg.refl' _) (fun b x' hb h=>⟨x',by grind [y2e],fun _ _ _ q=>q⟩) (Nat.le_add_right _ _) fun hbd b hb=>by
  rw [(y2e gs next mem b).2 hb];grind,rfl⟩
theorem v1d {P:Program} {C C':CI} {orc:List Bool} {ob:Bool} (g:DM P (C.withO orc) (C'.withB ob)):DM P C C':=by
 obtain ⟨cx,ro,todo,rnd,rs,⟨env,mem,next,o,b⟩,cs,lps⟩:=C;obtain ⟨cx',ro',todo',rnd',rs',⟨env',mem',next',o',b'⟩,cs',lps'⟩:=C';exact fun H w0 ρ b a k css w ma mb hs he cs0=>by obtain ⟨ρ',b',a',k',css',w',ma',mb',h1,h2,h3,h4⟩:=g H w0 ρ b a k css w ma mb ⟨hs.top,hs.lv,hs.rest,hs.rel⟩ he cs0;exact ⟨ρ',b',a',k',css',w',ma',mb',h1,⟨h2.top,h2.lv,h2.rest,h2.rel⟩,h3,h4⟩
theorem v9g {P:Program} {S:CB} (hN:ER P) (hmx:P.follows .mixedOrders =true) (hS:Zw P S) {n m d:Nat} {C C':CI} (gs:List (TypeId×Nat×(Nat->zy))) (N:Cx) (L:G6) (orc:List Bool) (ob:Bool)
  (h:(((u4c P S (PS P S m d) n (C.withO orc)).map (ZT gs)).bind (u3d P N)).map (SF L)=some (C'.withB ob)) (ho:ob=true) (hfl:V1 C=true):DM P C C':=by
 rw [Aq] at h;obtain ⟨C2,h1,h2⟩:=h;rw [Option.bind_eq_some_iff] at h1;obtain ⟨C1,h3,h4⟩:=h1;rw [Aq] at h3;obtain ⟨C0,h5,rfl⟩:=h3;have hfo:V1 (C.withO orc)=true:=by obtain ⟨cx,ro,todo,rnd,rs,⟨env,mem,next,o,b⟩,cs,lps⟩:=C;exact hfl
 obtain ⟨hCI,hC⟩:=v4j hN hmx hS m d;obtain ⟨f1,f2,f3⟩:=x6b hN hmx hS hCI hC n (C.withO orc) C0 (u4s hfo) h5;have hob:(SF L C2).st.ob =true:=by rw [h2];obtain ⟨cx,ro,todo,rnd,rs,⟨env,mem,next,o,b⟩,cs,lps⟩:=C';exact ho
 obtain ⟨l1,l2⟩:=v0s (P:=P) hob;obtain ⟨g1,g2,_⟩:=v0i h4 l1;obtain ⟨q1,q2⟩:=w2o (P:=P) gs C0;rw [q2] at g1;have:=(((f3 g1).goes.trans q1).trans g2).trans l2;rw [h2] at this;exact v1d this
theorem x2f (n:Nat) (g:Nat->zy):Kb n g g=true:=Xt fun _ _=>rfl
theorem v4b (a g:Nat->zy):Kb 0 a g=true:=Xt fun _ h=>absurd h (AD _)
theorem u5o {a b:Nat} (h: ¬a<=b):Nat.ble a b=false:=A5.2 fun e=>h (Al e)
theorem u5n {a b:Nat} (h:a<=b):Nat.ble a b=true:=by simp_all
theorem v4f {n N sz:Nat} {G H H':Nat->zy} {cells:zy} (m:Nat) (h:Kb n G H=true) (hN:N=n+m) (h0: ∀i,i<n->H' i=H i) (h1: ∀i,i<m->(cells.drop (i*sz)).take sz=H' (n+i)):Kb N (Zf G 0 n sz cells) H'=true:=Xt fun i hi=>by
 unfold Zf;by_cases e:n<=i
 .grind [u5n]
 .rw [u5o e,Aa,Ah,Jb h i (by omega),h0 i (by omega)]
theorem y2i {α:Type} {sz:Nat}: ∀(l:List (List α)) (i:Nat),(∀x∈l,x.length=sz)->i<l.length->(l.flatten.drop (i*sz)).take sz=l.getD i []
 | [],i,_,h=>absurd h (AD _)
 | x::l,0,hl,_=>by
  grind
 | x::l,i+1,hl,h=>by have hx:=hl x (by simp);rw [List.flatten_cons,List.getD_cons_succ,<-y2i l i (fun y hy=>hl y (by simp [hy])) (by simpa using h)];rw [List.drop_append,hx,show (i+1)*sz - sz=i*sz by rw [AR,B3];omega,Av (by rw [hx,AR,B3];omega),A1]
theorem v4e {m N:Nat} {G H H':Nat->zy} (h':Kb m H H'=true) (hN:N=0+m):Kb N (Jq G 0 H) H'=true:=Xt fun i hi=>Jb h' i (by omega)
theorem x8t {n:Nat} {G H:Nat->zy} (h:Kb n G H=true):Kb n (fun k=>G (0+k)) H=true:=by grind
theorem u1i {cells:zy} {sz n:Nat} {g:Nat->zy} (h:cells=rows n g) (h1:Nat.ble 1 sz=true) (h2: ∀i,(g i).length =sz):TB cells sz n g=true:=Xt ⟨h,Al h1,fun i _=>h2 i⟩
def Cj :List (Nat×CG)->CJ
 | []=>.leaf
 | (i,b)::l=>Wv (Cj l) i (some b)
def Co :List (Nat×DK)->CQ
 | []=>.leaf
 | (i,b)::l=>Fv (Co l) i (some b)
class Xa (α:Type) where
 w:Nat
 d:α
 cells:α->zy
 of:zy->α
 len: ∀a,(cells a).length =w
 pos:1<=w
 flat: ∀a,(cells a).all (pf 6)=true
 sc: ∀a,(cells a).all Cz=true
 back: ∀a,of (cells a)=a
def D9 :B9->Int
 | .int _ n=>n
 | _=>0
def oOf :B9->Bool
 | .bool b=>b
 | _=>false
instance : Xa Int where
 w:=1
 d:=0
 cells x:=[.int .i64 x]
 of l:=D9 (l.getD 0 .undef)
 len _:=rfl
 pos:=Ar 1
 flat _:=rfl
 sc _:=rfl
 back _:=rfl
instance : Xa Bool where
 w:=1
 d:=false
 cells x:=[.bool x]
 of l:=oOf (l.getD 0 .undef)
 len _:=rfl
 pos:=Ar 1
 flat _:=rfl
 sc _:=rfl
 back _:=rfl
structure R2 where
 (a b:Int)
 deriving DecidableEq
abbrev zq:=List R2
structure R3 where
 (a b c:Int)
 deriving DecidableEq
abbrev zo:=List R3
structure R4 where
 (a b c d:Int)
 deriving DecidableEq
abbrev zw:=List R4
structure R6 where
 (a b c d e f:Int)
 deriving DecidableEq
abbrev zx:=List R6
instance : Xa R2 where
 w:=2
 d:=⟨0,0⟩
 cells x:=[.int .i64 x.a,.int .i64 x.b]
 of l:=⟨D9 (l.getD 0 .undef),D9 (l.getD 1 .undef)⟩
 len _:=rfl
 pos:=by decide
 flat _:=rfl
 sc _:=rfl
 back _:=rfl
instance : Xa R3 where
 w:=3
 d:=⟨0,0,0⟩
 cells x:=[.int .i64 x.a,.int .i64 x.b,.int .i64 x.c]
 of l:=⟨D9 (l.getD 0 .undef),D9 (l.getD 1 .undef),D9 (l.getD 2 .undef)⟩
 len _:=rfl
 pos:=by decide
 flat _:=rfl
 sc _:=rfl
 back _:=rfl
instance : Xa R4 where
 w:=4
 d:=⟨0,0,0,0⟩
 cells x:=[.int .i64 x.a,.int .i64 x.b,.int .i64 x.c,.int .i64 x.d]
 of l:=⟨D9 (l.getD 0 .undef),D9 (l.getD 1 .undef),D9 (l.getD 2 .undef),D9 (l.getD 3 .undef)⟩
 len _:=rfl
 pos:=by decide
 flat _:=rfl
 sc _:=rfl
 back _:=rfl
instance : Xa R6 where
 w:=6
 d:=⟨0,0,0,0,0,0⟩
 cells x:=[.int .i64 x.a,.int .i64 x.b,.int .i64 x.c,.int .i64 x.d,.int .i64 x.e,.int .i64 x.f]
 of l:=⟨D9 (l.getD 0 .undef),D9 (l.getD 1 .undef),D9 (l.getD 2 .undef),D9 (l.getD 3 .undef),D9 (l.getD 4 .undef),D9 (l.getD 5 .undef)⟩
 len _:=rfl
 pos:=by decide
 flat _:=rfl
 sc _:=rfl
 back _:=rfl
section
variable {α:Type} [Xa α]
def rd (L:List α) (k:Nat):α:=L.getD k Xa.d
def Zz (L:List α):Nat->zy:=fun k=>Xa.cells (rd L k)
abbrev dt (l:List α):B9:=.dat l.length (Zz l)
abbrev rz (l:List α) (t w:Nat):CG:=⟨rows l.length (Zz l),t,some ⟨w,l.length,Zz l⟩⟩
def Cw (α:Type) [Xa α] (n:Nat) (g:Nat->zy):List α:=(List.range n).map fun k=>Xa.of (g k)
def CX (α:Type) [Xa α] (n:Nat) (g:Nat->zy):Bool:=pd (∀i,i<n->g i=Xa.cells (Xa.of (g i):α))
theorem Xm {L:List α} {k:Nat} (h:k<L.length):rd L k=L[k]:=by grind [rd]
theorem y9h {L M:List α} {k:Nat} (h:k<L.length):rd (L++M) k=rd L k:=by
 grind [rd]
theorem y6s {L M:List α} {k:Nat} (h:L.length<=k):rd (L++M) k=rd M (k - L.length):=by
 grind [rd]
theorem Zm (L:List α):Cw α L.length (Zz L)=L:=by
 apply BJ;all_goals grind [Cw,Zz,Xa.back,Xm]
def CA (L:List α):List α:=Cw α L.length (Zz L)
theorem Za (L:List α):CA L=L:=Zm L
theorem x0p (n:Nat) (g:Nat->zy):(Cw α n g).length =n:=by simp [Cw]
theorem XR (L:List α) (n:Nat):CX α n (Zz L)=true:=Xt fun i _=>by simp only [Zz];rw [Xa.back]
theorem x6c (L:List α) (off n:Nat):CX α n (fun k=>Zz L (off+k))=true:=Xt fun i _=>by simp only [Zz];rw [Xa.back]
theorem w6j (g:Nat->zy):CX α 0 g=true:=Xt fun i h=>absurd h (AD _)
theorem u4e (g:Nat->zy) (h0:g 0=Xa.cells (Xa.of (g 0):α)):CX α 1 g=true:=Xt fun i h=>by
 grind
theorem u4d (g:Nat->zy) (h0:g 0=Xa.cells (Xa.of (g 0):α)) (h1:g 1=Xa.cells (Xa.of (g 1):α)):CX α 2 g=true:=Xt fun i h=>by
 grind
theorem w6k {n:Nat} {g:Nat->zy} (h:CX α n g=true): ∀i,i<n->g i=Zz (Cw α n g) i:=fun i hi=>by
 rw [Jb h i hi]
 grind [Zz,Xm,Cw]
theorem Xc (L:List α):DQ (Zz L)=true:=Xt fun _=>Xa.flat _
theorem v1z {sz:Nat} (L:List α) (n:Nat) (h:sz=Xa.w α):ES sz n (Zz L)=true:=RO fun _ _=>⟨by rw [h];exact Xa.len _,Xa.sc _⟩
theorem v2a {sz:Nat} (L:List α) (off n:Nat) (h:sz=Xa.w α):ES sz n (fun k=>Zz L (off+k))=true:=RO fun _ _=>⟨by rw [h];exact Xa.len _,Xa.sc _⟩
theorem w3p {sz N off m:Nat} {G:Nat->zy} (h:ES sz N G=true) (hb:decide (off+m<=N)=true):ES sz m (fun k=>G (off+k))=true:=RO fun i hi=>by have hb:=Ax hb;exact RN h (off+i) (by omega)
theorem v7u {sz n N m:Nat} {G:Nat->zy} {cells:zy} (h:ES sz n G=true) (hN:N=n+m) (hc:cells.length=m*sz) (hs:cells.all Cz=true):ES sz N (Zf G 0 n sz cells)=true:=RO fun i hi=>by
 unfold Zf;by_cases e:n<=i
 .rw [u5n e,Ab];have:(i - n)*sz+sz<=m*sz:=by
   have:=AB sz (show i - n+1<=m by omega)
   grind
  grind
 .rw [u5o e,Aa,Ah];exact RN h i (by omega)
theorem w5b {L M:List α} {n N sz:Nat} {G:Nat->zy} {cells:zy} (h:Kb n G (Zz L)=true) (hn:n=L.length) (hN:N=n+M.length) (hsz:sz=Xa.w α) (hc:cells=(M.map Xa.cells).flatten):Kb N (Zf G 0 n sz cells) (Zz (L++M))=true:=by
 grind [v4f,Zz,y2i,Xa.len,Xm]
theorem u8v {L:List α} {r k:Nat} {y:α} (hk:k<L.length):rd (L.set r y) k=if k=r then y else rd L k:=by
 grind [Xm]
theorem w5a {L:List α} {n r fo:Nat} {G:Nat->zy} {cs:zy} {y:α} (h:Kb n G (Zz L)=true) (hn:n=L.length) (hy:Xa.cells y=(Xa.cells (rd L r)).take fo++cs++(Xa.cells (rd L r)).drop (fo+cs.length)):Kb n (Xi G r fo cs) (Zz (L.set r y))=true:=by
 subst hn;refine Xt fun i hi=> ?_;unfold Xi;simp only [Zz];rw [u8v hi];cases e:Nat.beq i r with
 | true=>have:=Aj e;subst this;rw [Ab,AJ rfl,Jb h i hi,hy];rfl
 | false=>
  have:i≠r:=fun q=>by simp_all
  rw [Aa,AC this,Jb h i hi];rfl
theorem u0k {n:Nat} {cs:zy} {y:α} {G:Nat->zy} (hG:G=fun _=>cs) (hy:Xa.cells y=cs):Kb n G (Zz (List.replicate n y))=true:=Xt fun i hi=>by
 grind [Zz,Xm]
theorem v4d {L M:List α} {n m N:Nat} {G H:Nat->zy} (h:Kb n G (Zz L)=true) (hn:n=L.length) (h':Kb m H (Zz M)=true) (hN:N=n+m):Kb N (Jq G n H) (Zz (L++M))=true:=by
 subst hn;refine Xt fun i hi=> ?_;unfold Jq;by_cases e:L.length<=i
 .rw [u5n e,Ab,Jb h' _ (by omega)];grind [Zz,y6s]
 .rw [u5o e,Aa,Jb h i (by omega)];grind [Zz,y9h]
theorem v6k {sz:Nat} (L:List α) (n:Nat) (h:sz=Xa.w α):I2 n (Zz L) sz=true:=RO fun _ _=>by rw [h];exact Xa.len _
theorem v0u {sz n:Nat} {L:List α} {off:Nat} (h:sz=Xa.w α):I2 n (fun k=>Zz L (off+k)) sz=true:=RO fun _ _=>by rw [h];exact Xa.len _
def EX (L:List α) (off n:Nat):List α:=(List.range n).map fun k=>rd L (off+k)
theorem y3a (L:List α) (off n:Nat):(EX L off n).length =n:=by simp [EX]
theorem x2r {L:List α} {off n k:Nat} (h:k<n):rd (EX L off n) k=rd L (off+k):=by
 grind [Xm,EX]
theorem w8l {L:List α} {N off n:Nat} {G:Nat->zy} (h:Kb N G (Zz L)=true) (hb:decide (off+n<=N)=true):Kb n (fun k=>G (off+k)) (Zz (EX L off n))=true:=Xt fun i hi=>by have hb:=Ax hb;simp only [Zz];rw [x2r hi,Jb h _ (by omega)];rfl
theorem w8k {L:List α} {off n:Nat}:Kb n (fun k=>Zz L (off+k)) (Zz (EX L off n))=true:=Xt fun i hi=>by simp only [Zz];rw [x2r hi]
theorem Ux (L:List α):Cw α L.length (fun k=>Zz L (0+k))=L:=by
 grind [Zm]
theorem u4f (L:zp):FB (Zz L)=true:=Xt rfl
theorem Qm (L:zp):Yy L.length (CS (Zz L))=L:=Zm L
def Ea (L:List α) (off n:Nat) (M:List α):List α:=(List.range L.length).map fun k=>bif Nat.ble off k&&Nat.ble (k+1) (off+n) then rd M (k - off) else rd L k
theorem W9 (L:List α) (off n:Nat) (M:List α):(Ea L off n M).length =L.length:=by simp [Ea]
theorem v5f {L M:List α} {off n k:Nat} (h:k<L.length):rd (Ea L off n M) k=bif Nat.ble off k&&Nat.ble (k+1) (off+n) then rd M (k - off) else rd L k:=by
 grind [Xm,Ea]
theorem u0m {L M:List α} {N off n m:Nat} {G H:Nat->zy} (h:Kb N G (Zz L)=true) (hN:N=L.length) (h':Kb m H (Zz M)=true) (hm:n<=m):Kb N (Uh G off n H) (Zz (Ea L off n M))=true:=by
 subst hN;refine Xt fun i hi=> ?_;unfold Uh;simp only [Zz];rw [v5f hi];cases e:(Nat.ble off i&&Nat.ble (i+1) (off+n)) with
 | true=>simp only [Ac] at e;have e1:=Al e.1;have e2:=Al e.2;rw [Ab,Ab,Jb h' _ (by omega)];rfl
 | false=>rw [Aa,Aa,Jb h i hi];rfl
theorem v4c (z g:Nat->zy) (n:Nat):Kb n (Uh z 0 (Nat.min n n) g) g=true:=Xt fun i hi=>by unfold Uh;rw [show Nat.min n n=n from Nat.min_self n,Ah,AV (Ay i),AV hi];rfl
theorem v7f {g h:Nat->zy} {off n:Nat} (p:DQ g=true) (q:DQ h=true):DQ (Uh g off n h)=true:=Xt fun i=>by
 unfold Uh;cases (Nat.ble off i&&Nat.ble (i+1) (off+n)) with
 | true=>exact Jb q _
 | false=>exact Jb p _
end
theorem Ve {P:Program} {rs:List ResultVar} {σ:Type} {cfg:σ->CI} {C C':CI} (g:DM P C C'): ∀{o:Yr σ},Xx P rs cfg C' o->Xx P rs cfg C o
 | .stuck,_=>trivial
 | .ret _,⟨D,h,h2,h3⟩=>⟨D,g.trans h,h2,h3⟩
 | .to _,h=>g.trans h
theorem w6y : ∀{az bs:zy} (i:Nat) {t u:T B9},Vg D1 az bs->G7 t u->G7 (FL az i t) (FL bs i u)
 | _,_,i,t,u,.nil,h=>h
 | _,_,i,t,u,.cons (a:=a) (b:=b) h1 h2,h=>by
  refine w6y (i+1) h2 fun s=> ?_;rw [T.get_set,T.get_set];by_cases e:s=i
  .rw [AJ e,AJ e];exact ⟨fun ρ v hv=>h1.sound hv,fun q=>by subst q;exact h1.of_undef⟩
  .rw [AC e,AC e];exact h s
theorem y7v {P:Program} {f:FuncId} {az bs:zy} {vs:zy} (h:Vg D1 az bs) (k:Vi P (Zy P f) (Zp P f bs true []) vs):Vi P (Zy P f) (Zp P f az true []) vs:=by
 obtain ⟨C',g,h2,h3⟩:=k;refine ⟨C',DM.trans ?_ g,h2,h3⟩;unfold Zp;cases P.funcs[f]? with
 | none=>exact DM.refl _
 | some fn=>simp only;rw [h.length];exact y2d (w6y 0 h (G7.refl _)) .nil (fun b x' hb=>absurd hb (AD _)) (Ar _) fun hbd b hb=>hbd b hb
theorem w7i {P:Program} {S:CB} (hS:Zw P S) {f:FuncId} {F:zy->Option (B9×Bool)} (hf:(P.funcs[f]?).any (fun fn=>fn.body.isSome)=true)
  (hF: ∀args v,F args=some (v,true)-> ∃bs vs,Vg D1 args bs/\Uz vs=v/\Vi P (Zy P f) (Zp P f bs true []) vs/\ ∃d,pf d v=true):Zw P (S.with f F):=
 v2v hS hf fun args v h=>by obtain ⟨bs,vs,h1,h2,h3,d,h4⟩:=hF args v h;exact ⟨vs,h2,y7v h1 h3,d,h4⟩
def CY (α:Type) [Xa α]:B9->Option (List α×(Nat->zy)×Nat)
 | .nils =>some ([],fun _=>[],0)
 | .dat n g=>some (Cw α n g,g,n)
 | _=>none
theorem Yi {α:Type} [Xa α] {v:B9} {L:List α} {g:Nat->zy} {n:Nat} (h:CY α v=some (L,g,n)) (ho:CX α n g=true):D1 v (.dat L.length (Zz L)):=by
 unfold CY at h;split at h
 .simp only [Ad,Ae] at h;obtain ⟨rfl,_,_⟩:=h;exact .nild _
 .simp only [Ad,Ae] at h;obtain ⟨rfl,rfl,rfl⟩:=h;rw [x0p];exact .dat _ _ _ (w6k ho)
 .cases h
open Go.ChangeShapes Go.WideShapes Go.Deep
section
variable {P:Program}
def ZB (P:Program) (rec:TypeId->Option (List IntKind)):List Field->Nat->Option (List IntKind)
 | [],_=>some []
 | f::r,o=>bif Nat.beq f.offset o then match rec f.type with
   | some ks=>bif Nat.beq (P.cellsOf f.type) ks.length then (ZB P rec r (o+ks.length)).map (ks++ ·) else none
   | none=>none
  else none
def JN (P:Program):Nat->TypeId->Option (List IntKind)
 | 0,_=>none
 | d+1,t=>match P.underlying t with
  | some (.int k)=>some [k]
  | some (.struct fs)=>match ZB P (JN P d) fs.toList 0 with
   | some ks=>bif Nat.beq (P.cellsOf t) ks.length then some ks else none
   | none=>none
  | _=>none
def H1 (ks:List IntKind) (cs:List Value):Prop:= ∃ns:zp,ns.length=ks.length/\cs=List.zipWith Value.int ks ns/\ ∀p∈List.zip ks ns,p.1.has p.2
theorem H1.append {a b:List IntKind} {x y:List Value} (h:H1 a x) (k:H1 b y):H1 (a++b) (x++y):=by
 obtain ⟨ns,h1,rfl,h3⟩:=h;obtain ⟨ms,k1,rfl,k3⟩:=k;refine ⟨ns++ms,by simp [h1,k1],?_,fun p hp=> ?_⟩;all_goals grind
theorem H1.length {ks:List IntKind} {cs:List Value} (h:H1 ks cs):cs.length=ks.length:=by obtain ⟨ns,h1,rfl,_⟩:=h;simp [h1]
variable {HH:Type} {enc:TypeId×Value->HH} {w:World} {base:Nat} {spare:Nat->Bool} {held:Bool}
theorem y3c {rec:TypeId->Option (List IntKind)} (hr: ∀t ks,rec t=some ks-> ∀fuel cs x,DataW.trod enc P w base spare held fuel t cs=some x->H1 ks cs) (cs:List Value):
  ∀(l:List Field) (o:Nat) (ks:List IntKind),ZB P rec l o=some ks->o+ks.length<=cs.length->(∀f∈l,∃fuel x,DataW.trod enc P w base spare held fuel f.type ((cs.drop f.offset).take (P.cellsOf f.type))=some x)->H1 ks ((cs.drop o).take ks.length)
 | [],o,ks,h,_,_=>by obtain rfl:=Ag h;exact ⟨[],rfl,by simp,by simp⟩
 | f::r,o,ks,h,hl,hf=>by
  unfold ZB at h;obtain ⟨ho,h⟩:=Zo h;obtain rfl:=Aj ho;split at h
  .rename_i ks1 h1;obtain ⟨hc,h⟩:=Zo h;have hc:=Aj hc;simp only [Aq] at h;obtain ⟨ks2,h2,rfl⟩:=h;obtain ⟨fuel,x,hx⟩:=hf f (by simp);have i1:=hr _ _ h1 _ _ _ hx;rw [hc] at i1;rw [AK] at hl;have i2:=y3c hr cs r _ ks2 h2 (by omega) fun g hg=>hf g (by simp [hg]);have:(cs.drop f.offset).take (ks1++ks2).length =(cs.drop f.offset).take ks1.length++(cs.drop (f.offset+ks1.length)).take ks2.length:=by rw [AK,List.take_add,List.drop_drop]
   rw [this];exact i1.append i2
  .cases h
theorem Sm : ∀(d:Nat) (t:TypeId) (ks:List IntKind),JN P d t=some ks-> ∀(fuel:Nat) (cs:List Value) (x:DataW HH×List MemPlace),DataW.trod enc P w base spare held fuel t cs=some x->H1 ks cs
 | 0,_,_,h=>by cases h
 | d +1,t,ks,h=>by
  intro fuel cs x hx;unfold JN at h;split at h
  .rename_i k hk;obtain rfl:=Ag h;obtain ⟨m,rfl,_,hw⟩:=DataW.trod_int hk hx;refine ⟨[m],rfl,rfl,fun p hp=> ?_⟩;simp_all [Lit.wf,IntKind.has]
  .rename_i fs hs;split at h
   .rename_i ks1 h1;obtain ⟨hc,h⟩:=Zo h;obtain rfl:=Ag h;have hc:=Aj hc;obtain ⟨xs,n,_,_,hl,dA,hf⟩:=DataW.trod_struct hs hx;have hl:cs.length=ks1.length:=hl.trans hc;have:=y3c (fun t ks ht fuel cs x hx=>Sm d t ks ht fuel cs x hx) cs fs.toList 0 ks1 h1 (by omega) fun f hf'=>by
     obtain ⟨j,hj,rfl⟩:=AQ hf';have hj2:j<fs.size:=(by grind);have:=hf j fs[j] (by simp [hj2])
     grind
    grind
   .cases h
  .cases h
def JU (ks:List IntKind) (c:Nat->Int):zy:=List.zipWith B9.int ks ((List.range ks.length).map c)
theorem v4r (ks:List IntKind) (c:Nat->Int) (j:Nat) (h:j<(JU ks c).length): ∃hk:j<ks.length,(JU ks c)[j]=.int ks[j] (c j):=by
 grind [JU]
theorem u5h {e:TypeId} {ks:List IntKind} (hk:JN P 30 e=some ks) {blk off len cap m fl:Nat} {D:Nat->DataW HH} {Pl:Nat->List MemPlace} (hl:len<=cap) (hlm:len<=m)
  (hi: ∀i,i<m-> ∃cs',w.cells? base ((⟨blk,off,none⟩:Addr).add (i*P.cellsOf e)) (P.cellsOf e)=some cs'/\DataW.trod enc P w base spare held fl e cs'=some (D i,Pl i)):
  ∃c:Nat->Nat->Int,Yv (DS fun k=>w.heap[k]?) (.dat len (fun i=>JU ks (c i))) (.slice (some ⟨blk,off,none⟩) len cap)/\ ∀i,i<len-> ∀(j:Nat) (k:IntKind),ks[j]? =some k->k.has (c i j):=by
 have key: ∀i,i<len-> ∃ns:zp,ns.length=ks.length/\(∀j,j<ks.length-> ∃k,ks[j]? =some k/\w.cell? ⟨blk,off+(i*ks.length+j),none⟩=some (.int k (ns.getD j 0))/\k.has (ns.getD j 0)):=by
  intro i hil;obtain ⟨cs',hc',ht'⟩:=hi i (by omega);have I:=Sm 30 e ks hk _ _ _ ht';obtain ⟨_,dA,dW⟩:=World.cells?_some hc';have hce:P.cellsOf e=ks.length:=by rw [<-dA];exact I.length
  obtain ⟨ns,n1,n2,n3⟩:=I;refine ⟨ns,n1,fun j hj=> ?_⟩;have hj2:j<ns.length:=by omega
  refine ⟨ks[j],by simp [hj],?_,?_⟩
  .grind [Xh]
  .have:(ks[j],ns[j])∈List.zip ks ns:=by
    rw [List.mem_iff_getElem]
    grind
   grind
 let c:Nat->Nat->Int:=fun i j=>if hil:i<len then ((key i hil).choose).getD j 0 else 0
 have hcs: ∀i,i<len-> ∀j,j<ks.length-> ∃k,ks[j]? =some k/\w.cell? ⟨blk,off+(i*ks.length+j),none⟩=some (.int k (c i j))/\k.has (c i j):=by
  grind
 refine ⟨c,.dat len _ blk off ks.length cap (fun i j=>.int (ks.getD j .i64) (c i j)) hl (fun i _=>by simp [JU]) (fun i j hil hj=> ?_) (fun i j hil hj=> ?_),fun i hil j k hkj=> ?_⟩
 .obtain ⟨hk2,e2⟩:=v4r ks (c i) j hj;rw [e2];have:ks.getD j .i64 =ks[j]:=by simp [hk2]
  rw [this];exact .int _ _
 .obtain ⟨k,e1,e2,_⟩:=hcs i hil j hj;have:ks.getD j .i64 =k:=by simp [e1]
  rw [this];unfold World.cell? at e2;split at e2
  .rename_i cl el fz hb2;simp only [Option.isSome_none,Bool.false_eq_true,if_false] at e2;exact ⟨cl,el,fz,hb2,e2⟩
  .cases e2
 grind
end
open Go.Proofs.Tryz
open Go.Proofs
theorem UE :t0f prog:=fun h=>by
 have:(prog.funcs[J3]?).isSome =false:=by kernel_rfl
 rw [this] at h;cases h
def Ou (P:Program):Bool:=P.funcs.toList.all fun fn=>fn.body.isNone|| !(fn.name == "runtime.NumGoroutine")
theorem u3j {P:Program} (h:Ou P=true) (hs:t0f P):ER P:=by
 refine ⟨fun f fn hf hb=> ?_,hs⟩;have hm:fn∈P.funcs.toList:=by rw [Array.mem_toList_iff];exact Array.mem_of_getElem? hf
 have:=Au.mp h fn hm;cases hbb:fn.body with
 | none=>rw [hbb] at hb;cases hb
 | some b=>simpa [hbb] using this
theorem VC :ER prog:=u3j (by kernel_rfl) UE
theorem mixed :prog.follows .mixedOrders =true:=by kernel_rfl
end Go.Am
namespace Go.Am
open IntKind (wrap)
open Go.Proofs.Tryz
open Go.Proofs
instance {α :Type} [Xa α]:Xa (List α) where
 w:=1
 d:=[]
 cells l:=[.dat l.length (Zz l)]
 of cs:=match cs.getD 0 .undef with
  | .dat n g=>Cw α n g
  | _=>[]
 len _:=rfl
 pos:=Ar 1
 flat _:=rfl
 sc _:=rfl
 back l:=Zm l
theorem x8u {α:Type} [Xa α] {L:List α} {n off sz:Nat} {cells:zy} (hn:n=L.length) (hsz:sz=Xa.w α) (hc:(cells.drop off).take (n*sz)=(L.map Xa.cells).flatten):Kb n (u5k cells off sz) (Zz L)=true:=Xt fun i hi=>by
 have e:((((cells.drop off).take (n*sz)).drop (i*sz)).take sz)=(cells.drop (off+i*sz)).take sz:=by rw [List.drop_take,List.take_take,List.drop_drop,Nat.min_eq_left];have:=AB sz (show i+1<=n by omega);rw [AR,B3] at this;omega
 have h:=y2i (sz:=sz) (L.map Xa.cells) i (fun x hx=>by obtain ⟨y,_,rfl⟩:=Bh.1 hx;rw [Xa.len,hsz]) (by simpa using by omega);unfold u5k;rw [<-e,hc,h];simp only [Zz];rw [Xm (show i<L.length by omega),Bj,BR,At (show i<L.length by omega)];rfl
theorem u0l {G H:Nat->zy} (h:G 0=H 0):Kb 1 G H=true:=Xt fun i hi=>by
 obtain rfl:i=0:=by omega
 exact h
theorem v1k {L:zy} (s t:Nat) (h:L.all (pf 6)=true):DQ (fun k=>(L.drop (k*s)).take t)=true:=Xt fun i=>
 Au.2 fun v hv=>Au.1 h v (List.mem_of_mem_drop (List.mem_of_mem_take hv))
structure OB where
 b:Bool
 h:b=true
def nn :OB:=⟨true,rfl⟩
def pp (q r:OB):OB:=⟨q.b&&r.b,N3 q.h r.h⟩
def tt {c v:Bool} (k:c=v) (r:OB):OB:=⟨(c == v)&&r.b,N3 (v5u k) r.h⟩
def ww {c:Bool} (k:c=true) (r:OB):OB:=⟨c&&r.b,N3 k r.h⟩
def fl {α:Type} [Xa α] (L:List α) (r:OB):OB:=⟨DQ (Zz L)&&r.b,N3 (Xc L) r.h⟩
theorem Mc {a b:Int} (k:(a == b)=false):((a != b) == true)=true:=by unfold bne;rw [k];rfl
def yt {c:Bool} (k:c=true) (r:OB):OB:=⟨c&&r.b,N3 k r.h⟩
def xw {c:Bool} (k:c=true):OB:=⟨c,k⟩
def xI (α:Type) [Xa α] (n:Nat) (g:Nat->zy) (h:CX α n g=true:=by first | with_reducible exact XR _ _ | exact XR _ _ | exact w6j _ | exact x6c _ _ _ | assumption | exact u4e _ rfl | exact u4d _ rfl rfl):OB:=⟨CX α n g,h⟩
def xr {α:Type} [Xa α] (L:List α):OB:=⟨CX α L.length (Zz L),XR L _⟩
def xL (a b:Nat) (h:HT a b=true:=by first | exact Us rfl | exact Us (by simp +zetaDelta only [AK,AZ,B1,B2,W9,y3a,List.length_replicate] <;> omega) | assumption):OB:=⟨HT a b,h⟩
def xS (n:Nat) (G H:Nat->zy) (h:Kb n G H=true:=by
  repeat' (first | exact x2f _ _ | assumption | exact v4b _ _ | exact u0l rfl | exact w8k | exact x8u rfl rfl rfl | rfl | (refine w5b ?_ ?_ rfl rfl rfl) | (refine w5a ?_ ?_ rfl) | exact v4c _ _ _ | (refine u0m ?_ ?_ ?_ (Nat.min_le_left _ _)) | exact w8l (by repeat' (first | exact x2f _ _ | (refine w5b ?_ ?_ rfl rfl rfl) | (refine w5a ?_ ?_ rfl) | (simp +zetaDelta only [AK,AZ,B1,B2,W9];done) | omega)) (by assumption) | (refine v4d ?_ ?_ ?_ rfl) | exact v4e (x2f _ _) rfl | apply x8t | exact u0k rfl rfl | exact Ah _ | (simp +zetaDelta only [AK,AZ,B1,B2,W9,y3a,List.length_replicate] <;> omega))):OB:=⟨Kb n G H,h⟩
def xF (G:Nat->zy) (h:DQ G=true:=by
  repeat' (first | with_reducible exact Xc _ | apply v7h | apply v7e | apply v7g | apply v7f | exact Xc _ | exact v1l | exact w2z _ _ | exact v1k _ _ rfl | apply y7r | rfl | assumption)):OB:=⟨DQ G,h⟩
def xZ (v:B9) (n:Nat) (g:Nat->zy) (h:Tv v n g=true:=by first | exact u4n _ _ _ | exact v6z _ _):OB:=⟨Tv v n g,h⟩
def xG (c:Bool) (h:c=true:=by
  repeat' (first | with_reducible (first | assumption | exact BK _ | exact x5r _ | exact u3i _ | exact v5y _ | exact u5f _ | exact v6b _ | apply N3 | apply v5u) | rfl | exact u4f _ | exact v1z _ _ rfl | exact v2a _ _ _ rfl | exact v6k _ _ rfl | exact v0u rfl | exact u1i rfl rfl (fun _=>rfl) | (refine w3p ?_ (by assumption)) | (refine v7u ?_ rfl rfl rfl) | exact XR _ _ | exact w6j _ | exact x6c _ _ _ | exact Xc _ | apply y7r | apply N3 | apply v5u)):OB:=⟨c,h⟩
def DG (n:Nat) (l:List BP):List BP:=Nat.rec l (fun _ r=>.keep ::r) n
abbrev tn (n:Int):Nat:=Int.toNat n
abbrev ii (n:Int):B9:=.int .i64 n
abbrev wr (n:Int):Int:=wrap .i64 n
def CK (n:Nat) (l:List Bool):List Bool:=Nat.rec l (fun _ r=>true::r) n
abbrev a6:G6:=⟨[],[],[]⟩
abbrev a7 (l:zr):Cx:=⟨[],[],[some l],[]⟩
theorem sl {S:CB} (hS:Zw prog S) (n:Nat) (gs:List (TypeId×Nat×(Nat->zy))) (N:Cx) (L:G6) (orc:List Bool) (ob:OB) {C C':CI}
  (h:(((u4c prog S (PS prog S 100000 4) n (C.withO orc)).map (ZT gs)).bind (u3d prog N)).map (SF L)=some (C'.withB ob.b):=by kernel_rfl) (hfl:V1 C=true:=by rfl):DM prog C C':=
 v9g VC mixed hS gs N L orc ob.b h ob.h hfl
def rC (n f:Nat) (p:zr) (j r:Nat) (env:List (Nat×B9)):CI:=⟨⟨n,0,true⟩,none,Zq prog f p j,none,Zy prog r,⟨Zs env,Xe [] 0,0,[],true⟩,[],.leaf⟩
theorem lr {σ:Type} {cfg:σ->CI} {C:CI} {rs:List ResultVar} {vs:zy} (n f:Nat) (p:zr) (j r:Nat) (env:List (Nat×B9)) (h:DM prog C (rC n f p j r env)) (hf:G9 (rC n f p j r env)=true:=by rfl)
  (hr:Ko prog (rC n f p j r env).st rs=some vs:=by kernel_rfl):Xx prog rs cfg C (.ret vs):=Yu _ h hf hr
theorem lb {rs:List ResultVar} {σ:Type} {cfg:σ->CI} {C:CI} {c:Bool} {a b:Yr σ} (ha:c=true->Xx prog rs cfg C a) (hb:c=false->Xx prog rs cfg C b):Xx prog rs cfg C (bif c then a else b):=w6g ha hb
theorem lo {rs:List ResultVar} {σ:Type} {cfg:σ->CI} {C:CI} {c:Bool} {a:Yr σ} (ha:c=true->Xx prog rs cfg C a):Xx prog rs cfg C (bif c then a else .stuck):=u3v ha
end Go.Am
end
