/- A part of a proof: several texts in one. -/
import Derived.Test.YthnnmgkacjjpeaaGreatDoorNh1
import Derived.AtR
import Derived.RangeFuncRecord
import Derived.RangeFuncNested
import Derived.Laws.BytesString
import Derived.Lib.UnsafeStr
import Derived.MapKept
import Derived.Sort.Grow
import Derived.Deep.Slices
import Derived.Deep.Fields
import Derived.ChangeSame
import Derived.OpenShut
import Derived.Shelf.Strings.Builder1
import Derived.Shelf.Strings.Split
set_option maxRecDepth 1000000
set_option maxHeartbeats 8000000
set_option linter.unusedVariables false
set_option linter.unusedSimpArgs false
noncomputable section
namespace Go.Am
open IntKind (wrap)
abbrev BR :=Array Oper×Nat×List Oper
structure BW where
 cx:BK
 ro:Option BR
 todo:List Item
 rnd:Option Nat
 rs:List ResultVar
 env:T BA
structure Bx where
 st:LoopState
 pend:Option Code
 n:Nat
 env:T BA
 params:List Tmp
 assign:Code
 body:Code
abbrev BN :=T (Option Bx)
def CA (m:BN) (b:Nat):Option Bx:=T.get none m b
def DS (m:BN) (b:Nat) (o:Option Bx):BN:=T.set none m b o
structure BJ where
 cx:BK
 ro:Option BR
 todo:List Item
 rnd:Option Nat
 rs:List ResultVar
 st:St
 cs:List BW
 lps:BN
def EK (v:BA) (st:St) (lps:BN):List BW->Option BJ
 | ⟨cx,some (ops,i,o::l),todo,rnd,rs,env⟩::cs=>match (st.withEnv env).put cx o.dst v with
  | some st'=>some ⟨cx,some (ops,i+1,l),todo,rnd,rs,st',cs,lps⟩
  | none=>none
 | ⟨cx,none,.inRangeFunc j::k,rnd,rs,env⟩::cs=>some ⟨cx,none,.endRangeFunc j::k,rnd,rs,st.withEnv env,cs,lps⟩
 | _=>none
def If :Option Code->LoopState
 | none=>.ready
 | some _=>.done
def JD (lps:BN):Option Nat->Bool
 | none=>true
 | some j=>(CA lps j).isSome
def Ig (P:Program) (rnd:Option Nat) (rs:List ResultVar) (st:St) (cs:List BW) (lps:BN) (jump:Option Code):Option BJ:=
 match rnd with
 | none=>match aResults P st rs with
  | some vs=>EK (Ud vs) st lps cs
  | none=>none
 | some j=>match CA lps j with
  | some ⟨_,_,n,env,params,assign,body⟩=>
   EK (.bool jump.isNone) st (DS lps j (some ⟨If jump,jump,n,env,params,assign,body⟩)) cs
  | none=>none
def LG (n:Nat):List Tmp->List BA->T BA->Option (T BA)
 | [],[],env=>some env
 | t::ts,a::l,env=>bif Nat.ble (t+1) n then LG n ts l (T.set .undef env t a) else none
 | _,_,_=>none
def ID (P:Program) (f:FuncId) (args:List BA) (fr:BW) (st:St) (cs:List BW) (lps:BN):Option BJ:=
 match P.funcs[f]? with
 | some fn=>match fn.body with
  | some body=>some ⟨⟨Nat.max fn.ntmps args.length,fr.cx.floor,fr.cx.sym⟩,none,[.code body],none,fn.results.toList,st.withEnv (DC args 0 .leaf),fr::cs,lps⟩
  | none=>none
 | none=>none
def Rq (j:Nat) (args:List BA) (fr:BW) (st:St) (cs:List BW) (lps:BN):Option BJ:=
 match CA lps j with
 | some ⟨_,_,n,env,params,assign,body⟩=>match LG n params args env with
  | some env'=>some ⟨⟨n,fr.cx.floor,fr.cx.sym⟩,none,[.code assign,.beginRound,.code body],some j,[],st.withEnv env',fr::cs,lps⟩
  | none=>none
 | none=>none
def callee (S:BC) (st:St) (op:Op):Option ((FuncId×List BA) ⊕ (Nat×List BA)):=
 match op with
 | .call {callee:=.value f,args,argTypes:=_}=>match st.eval f with
  | .fn g caps=>match S g with
   | some _=>none
   | none=>some (.inl (g,args.toList.map st.eval++caps))
  | .fnb g first=>match S g with
   | some _=>none
   | none=>some (.inl (g,first++args.toList.map st.eval))
  | .yld j=>some (.inr (j,args.toList.map st.eval))
  | _=>none
 | _=>none
def IV (P:Program) (t:TypeId):Option Bool:=match P.underlying t with
 | some (.map k e)=>match P.underlying k,P.underlying e,P.info? e with
  | some .string,some (.int .i64),some i=>match i.zero with
   | some (.int .i64 n)=>bif n == 0 then some true else none
   | _=>none
  | some .string,some .bool,some i=>match i.zero with
   | some (.bool b)=>bif b then none else some false
   | _=>none
  | _,_,_=>none
 | _=>none
def GW {α:Type} (l:List (List UInt8×α)) (k:List UInt8):Bool:=l.any fun p=>k == p.1
def Dh {α:Type} (d:α):List (List UInt8×α)->List UInt8->α
 | [],_=>d
 | p::r,k=>bif k == p.1 then p.2 else Dh d r k
def El {α:Type}:List (List UInt8×α)->List UInt8->α->List (List UInt8×α)
 | [],k,v=>[(k,v)]
 | p::r,k,v=>bif k == p.1 then (p.1,v)::r else p::El r k v
def dcR (s:List UInt8) (pos:Nat):Int:=((Utf8.decode ⟨s.toArray⟩ pos).1:Int)
def Nq (s:List UInt8) (pos:Nat):Nat:=(Utf8.decode ⟨s.toArray⟩ pos).2
def Ic :BA->UInt8
 | .int _ n=>UInt8.ofNat n.toNat
 | _=>0
def Hi :BA->Bool
 | .int .u8 n=>decide (0<=n/\n<256)
 | _=>false
def Iw (n:Nat) (g:Nat->List BA):List UInt8:=(List.range n).map fun k=>Ic ((g k).getD 0 .undef)
def QY :List BA->Bool
 | [v]=>Hi v
 | _=>false
def ZD (n:Nat) (g:Nat->List BA):Bool:=Gl ((List.range n).all fun k=>QY (g k)) (∀k,k<n-> ∃v,g k=[v]/\Hi v=true)
def Ib (m:BH):BA->Option (List UInt8×Bool)
 | .nils =>some ([],true)
 | .sl b off len _=>match Zs m b with
  | some blk=>bif blk.isObj then none else match cut blk.cells off len with
   | some cs=>some (cs.map Ic,cs.all Hi)
   | none=>none
  | none=>none
 | .sla b sz off len _=>match Zs m b with
  | some blk=>match blk.arr with
   | some A=>some (Iw len fun k=>A.get (off+k),Nat.beq sz 1&&(Nat.beq A.sz 1&&(decide (off+len<=A.n)&&ZD len fun k=>A.get (off+k))))
   | none=>none
  | none=>none
 | _=>none
def JG :BA->Option Nat
 | .sl b _ _ _=>some b
 | .sla b _ _ _ _=>some b
 | _=>none
def Hm (P:Program) (floor:Nat) (st:St) (t:TypeId) (x k v:BA):Option St:=match x,k with
 | .mapr b,.str k=>bif Nat.ble floor b then match IV P t,Zs st.mem b,v with
  | some true,some ⟨[.obj (.mi l)],ty,none⟩,.int .i64 n=>some (st.withMem (Yi st.mem b (some ⟨[.obj (.mi (El l k n))],ty,none⟩)))
  | some false,some ⟨[.obj (.mb l)],ty,none⟩,.bool e=>some (st.withMem (Yi st.mem b (some ⟨[.obj (.mb (El l k e))],ty,none⟩)))
  | _,_,_=>none
  else none
 | _,_=>none
def aX (P:Program) (floor:Nat) (st:St):Op->Option (BA×Bool×St)
 | .makeMap t none=>match IV P t with
  | some k=>some (.mapr st.next,true,BY st [.obj (bif k then .mi [] else .mb [])] t)
  | none=>none
 | .lookup t x i co=>match st.eval x,st.eval i with
  | .mapr b,.str k=>match IV P t,Zs st.mem b with
   | some true,some ⟨[.obj (.mi l)],_,none⟩=>some (bif co then .tup [.int .i64 (Dh 0 l k),.bool (GW l k)] else .int .i64 (Dh 0 l k),true,st)
   | some false,some ⟨[.obj (.mb l)],_,none⟩=>some (bif co then .tup [.bool (Dh false l k),.bool (GW l k)] else .bool (Dh false l k),true,st)
   | _,_=>none
  | _,_=>none
 | .mapUpdate t m k v=>(Hm P floor st t (st.eval m) (st.eval k) (st.eval v)).map fun st'=>(.tup [],true,st')
 | .insert t m k v=>(Hm P floor st t (st.eval m) (st.eval k) (st.eval v)).map fun st'=>(.tup [],true,st')
 | .range t x=>match P.underlying t,st.eval x with
  | some .string,.str s=>some (.ptr st.next 0,true,BY st [.obj (.it s 0)] t)
  | _,_=>none
 | .next x true=>match st.eval x with
  | .ptr b 0=>bif Nat.ble floor b then match Zs st.mem b with
   | some ⟨[.obj (.it s pos)],ty,none⟩=>match st.test (decide (pos<s.length)) with
    | (e,st1)=>some (bif e then .tup [.bool true,.int .i64 pos,.int .i32 (dcR s pos)] else .tup [.bool false],true,
      bif e then st1.withMem (Yi st1.mem b (some ⟨[.obj (.it s (pos+Nq s pos))],ty,none⟩)) else st1)
   | _=>none
   else none
  | _=>none
 | .alloc t=>bif Nat.beq t CF then match P.info? t with
   | some i=>match i.zero with
    | some (.agg ⟨[.pointer none,.slice none 0 0]⟩)=>some (.ptr st.next 0,true,BY st [.obj .bld,.nils] t)
    | _=>none
   | none=>none
  else none
 | .load t x=>match st.eval x with
  | .ptr b 1=>match Zs st.mem b,K7 P t,P.info? t with
   | some ⟨[.obj .bld,buf],_,none⟩,some false,some _=>some (buf,true,st)
   | _,_,_=>none
  | _=>none
 | .store t a x=>match st.eval a with
  | .ptr b 1=>bif Nat.ble floor b&&B4 (st.eval x) then match Zs st.mem b,P.info? t with
   | some ⟨[.obj .bld,_],ty,none⟩,some i=>bif Nat.beq i.size 1 then some (.tup [],true,st.withMem (Yi st.mem b (some ⟨[.obj .bld,st.eval x],ty,none⟩))) else none
   | _,_=>none
   else none
  | _=>none
 | .convert src dst x=>match P.underlying src,P.underlying dst with
  | some (.slice e),some .string =>match P.underlying e with
   | some (.int .u8)=>match Ib st.mem (st.eval x) with
    | some (s,o)=>some (.str s,o,st)
    | none=>none
   | _=>none
  | _,_=>none
 | .binOp op t x y _=>match st.eval x,y,P.underlying t with
  | .ifb b,.const .nilIface,some (.interface _)=>match op with
   | .eql =>some (.bool b,true,st)
   | .neq =>some (.bool !b,true,st)
   | _=>none
  | _,_,_=>none
 | .call {callee:=.value f,args,argTypes:=_}=>match st.eval f,args.toList.map st.eval with
  | .fn g [],[.ptr b 0]=>bif Nat.beq g G1&&(P.funcs[g]?).any (fun fn=>fn.body.isSome) then match Zs st.mem b with
    | some ⟨[.obj .bld,buf],ty,none⟩=>bif Nat.beq ty CF then match Ib st.mem buf with
     | some (s,o)=>match JG buf with
      | none=>some (.str s,decide (s.length<=9223372036854775807)&&o,st)
      | some c=>bif Nat.ble floor c&&En st.mem H3 c then some (.str s,decide (s.length<=9223372036854775807)&&o,st.withMem (Yi st.mem c none)) else none
     | none=>none
     else none
    | _=>none
   else none
  | _,_=>none
 | _=>none
def NE (P:Program) (S:BC) (Rc:BI) (cx:BK) (ops:Array Oper) (i:Nat) (o:Oper) (l:List Oper) (todo:List Item) (rnd:Option Nat) (rs:List ResultVar) (st:St) (cs:List BW) (lps:BN):Option BJ:=
 match Uh ops o cx st with
 | some (true,st)=>match aX P cx.floor st o.op with
  | some (v,b,st1)=>match st1.owe cx b with
   | some st2=>match st2.put cx o.dst v with
    | some st3=>some ⟨cx,some (ops,i+1,l),todo,rnd,rs,st3,cs,lps⟩
    | none=>none
   | none=>none
  | none=>match callee S st o.op with
  | some (.inl (g,args))=>ID P g args ⟨cx,some (ops,i,o::l),todo,rnd,rs,st.env⟩ st cs lps
  | some (.inr (j,args))=>Rq j args ⟨cx,some (ops,i,o::l),todo,rnd,rs,st.env⟩ st cs lps
  | none=>match Fp P S Rc false o cx st with
   | some st=>some ⟨cx,some (ops,i+1,l),todo,rnd,rs,st,cs,lps⟩
   | none=>none
 | some (false,st)=>match st.put cx o.dst (.tup []) with
  | some st=>some ⟨cx,some (ops,i+1,l),todo,rnd,rs,st,cs,lps⟩
  | none=>none
 | none=>none
def Kd (ops:Array Oper):Bool:=ops.toList.all fun o=>match o.op with
 | .defer _=>false
 | _=>true
def Cg (o:Oper):Oper:=⟨none,.move (.const (.bool true)),o.type,o.pos,o.after,none⟩
def Xj (ops:Array Oper) (m:Nat):Array Oper:=⟨ops.toList.take m++(ops.toList.drop m).map Cg⟩
def SI (ops:Array Oper) (m:Nat):Bool:=
 Kd ops&&(Fn 0 (Xj ops m)&&(((List.range ops.size).all fun j=>Nat.ble (j+1) m||(List.range j).all fun i=>((DE (Xj ops m).toList []).getD j 0).testBit i)&&((List.range m).all fun i=>match ops[i]? with
  | some ⟨_,_,_,_,_,some (j,_)⟩=>Nat.ble (j+1) m
  | _=>true)))
def Nb (f:Operand):List Oper->Operand
 | []=>f
 | ⟨some d,.move x,_,_,_,_⟩::l=>match f with
  | .tmp t=>bif Nat.beq t d then x else Nb f l
  | _=>f
 | _::l=>Nb f l
def Q6 (st:St) (ops:List Oper):Oper->Bool
 | ⟨_,.call ⟨.value f,_,_⟩,_,_,_,_⟩=>match st.eval (Nb f ops) with
  | .yld _=>true
  | _=>false
 | _=>false
def LI (st:St) (ops:List Oper):List Oper->Nat->Option Nat
 | [],_=>none
 | o::l,i=>bif Q6 st ops o then some i else LI st ops l (i+1)
def Nc (ops:Array Oper) (st:St):Option Nat:=
 match LI st ops.toList ops.toList 0 with
 | some m=>bif SI ops m then some m else none
 | none=>none
def Dy (ops:Array Oper):List Nat->Option Nat
 | []=>none
 | z::l=>bif Fn z ops then some z else Dy ops l
def Gx (ops:Array Oper):Bool:=ops.toList.any fun o=>match o.op with
 | .call {callee:=.builtin .append,.. }=>true
 | _=>false
def Z7 (ops:Array Oper):Bool:=ops.toList.any fun o=>match o.op,o.dst with
 | .buildSlice _ _ _,some d=>ops.toList.any fun p=>match p.op with
  | .call {callee:=.value _,args,argTypes:=_}=>args.toList.any fun a=>match a with
   | .tmp t=>Nat.beq t d
   | _=>false
  | _=>false
 | _,_=>false
def NS (ops:Array Oper):Option Nat:=bif Kd ops then Dy ops (bif Z7 ops then [1,0,2] else bif Gx ops then [0,2,3,1] else [0,1,2]) else none
def St.nextId :St->Nat×St
 | ⟨env,mem,next,orc,ob⟩=>(next,⟨env,mem,next+1,orc,ob⟩)
def IN (P:Program) (S:BC) (Rc:BI):BJ->Option BJ
 | ⟨cx,some (_,_,[]),todo,rnd,rs,st,cs,lps⟩=>some ⟨cx,none,todo,rnd,rs,st,cs,lps⟩
 | ⟨cx,some (ops,i,o::l),todo,rnd,rs,st,cs,lps⟩=>NE P S Rc cx ops i o l todo rnd rs st cs lps
 | ⟨cx,none,todo,rnd,rs,st,cs,lps⟩=>match todo with
  | []=>Ig P rnd rs st cs lps none
  | .code .ret ::_=>Ig P rnd rs st cs lps (some .ret)
  | .code .skip ::k=>some ⟨cx,none,k,rnd,rs,st,cs,lps⟩
  | .code (.label _)::k=>some ⟨cx,none,k,rnd,rs,st,cs,lps⟩
  | .inBlock _::k=>some ⟨cx,none,k,rnd,rs,st,cs,lps⟩
  | .inScope _::k=>some ⟨cx,none,k,rnd,rs,st,cs,lps⟩
  | .code (.seq a b)::k=>some ⟨cx,none,.code a::.code b::k,rnd,rs,st,cs,lps⟩
  | .code (.cond c a b)::k=>match st.eval c with
   | .bool v=>match st.test v with
    | (e,st)=>some ⟨cx,none,.code (bif e then a else b)::k,rnd,rs,st,cs,lps⟩
   | _=>none
  | .code (.block id body)::k=>some ⟨cx,none,.code body::.inBlock id::k,rnd,rs,st,cs,lps⟩
  | .code (.scope body)::k=>some ⟨cx,none,.code body::.inScope body::k,rnd,rs,st,cs,lps⟩
  | .code (.loop body)::k=>some ⟨cx,none,.code body::.inLoop body::k,rnd,rs,st,cs,lps⟩
  | .inLoop body::k=>some ⟨cx,none,.code body::.inLoop body::k,rnd,rs,st,cs,lps⟩
  | .code (.exit id)::k=>match exitTo id k with
   | some k=>some ⟨cx,none,k,rnd,rs,st,cs,lps⟩
   | none=>match rnd with
    | some _=>Ig P rnd rs st cs lps (some (.exit id))
    | none=>none
  | .code (.region _ ops false)::k=>bif Kd ops then some ⟨cx,some (ops,0,ops.toList),k,rnd,rs,st,cs,lps⟩ else none
  | .code (.region _ ops true)::k=>match Nc ops st with
   | some m=>match Hn 0 P S Rc (Xj ops m) cx (Jq (Xj ops m)) [] st with
    | some st=>some ⟨cx,some (ops,m,ops.toList.drop m),k,rnd,rs,st,cs,lps⟩
    | none=>none
   | none=>match NS ops with
    | some z=>match Hn z P S Rc ops cx (Jq ops) [] st with
     | some st=>some ⟨cx,none,k,rnd,rs,st,cs,lps⟩
     | none=>none
    | none=>none
  | .code (.rangeFunc f params assign body)::k=>match st.eval f with
   | .fn g caps=>match st.nextId with
    | (j,st')=>bif JD lps rnd then ID P g (.yld j::caps) ⟨cx,none,.inRangeFunc j::k,rnd,rs,st.env⟩ st' cs (DS lps j (some ⟨.ready,none,cx.n,st.env,params.toList,assign,body⟩)) else none
   | _=>none
  | .beginRound ::k=>match rnd with
   | some j=>match CA lps j with
    | some ⟨.ready,pend,n,env,params,assign,body⟩=>some ⟨cx,none,k,rnd,rs,st,cs,DS lps j (some ⟨.busy,pend,n,env,params,assign,body⟩)⟩
    | _=>none
   | none=>none
  | .endRangeFunc j::k=>match CA lps j with
   | some ⟨.busy,_,_,_,_,_,_⟩=>none
   | some ⟨_,pend,n,env,params,assign,body⟩=>some ⟨cx,none,(pend.map Item.code).toList ++k,rnd,rs,st,cs,DS lps j (some ⟨.exhausted,pend,n,env,params,assign,body⟩)⟩
   | none=>none
  | _=>none
def De :BJ->Bool
 | ⟨_,none,[],none,_,_,[],_⟩=>true
 | ⟨_,none,.code .ret ::_,none,_,_,[],_⟩=>true
 | _=>false
def DG (P:Program) (S:BC) (Rc:BI) (n:Nat):BJ->Option BJ:=
 Nat.rec (motive:=fun _=>BJ->Option BJ) (fun _=>none) (fun _ R C=>bif De C then some C else match IN P S Rc C with
  | some C'=>R C'
  | none=>none) n
def Ub :Item->Bool
 | .code _ | .inBlock _ | .inLoop _ | .inScope _ | .beginRound =>true
 | _=>false
def Ek (P:Program) (S:BC) (n:Nat) (d:Nat):BI:=
 Nat.rec (motive:=fun _=>BI) (fun _ _ _=>none) (fun _ R cx todo st=>bif todo.all Ub&&Nat.ble cx.floor st.next then match DG P S R n ⟨cx,none,todo,none,[],st,[],.leaf⟩ with
  | some C=>bif Nat.beq C.cx.n cx.n then some C.st else none
  | none=>none
  else none) d
section
variable {P:Program}
section ops
variable {b:Frame} {a:Act} {k:List Item} {cs:List Frame} {w:World} {ops:Array Oper}
theorem Mf {i:Nat} {rest:List Nat} {o:Oper} {K:Act->World->Prop} {Q:Exit->Act->World->Prop} (hQ: ∀e a w,Q e a w->e=.normal) (ho:ops[i]? =some o) (hnd: ∀c,o.op≠ .defer c)
  (h:if Region.wanted o (yielded ops a.tmps) then o.wp P a w K Q else K (a.put o.dst undef) w):
  ∃a' w',K a' w'/\Steps P (lone (b.atR a (.inRegion ops (i::rest)::k)) cs w) (lone (b.atR a' (.inRegion ops rest::k)) cs w'):=by
 by_cases hw:Region.wanted o (yielded ops a.tmps)=true
 .rw [AB hw] at h;have hg:=stepGR_op (P:=P) (b:=b) (k:=k) (cs:=cs) (w:=w) (rest:=rest) ho hw;rw [Oper.semAt_eq _ _ _ hnd] at hg;have fin: ∀(a:Act) (v:Value),(b.atR a (.inRegion ops (i::rest)::k)).finish v=b.atR (a.put o.dst v) (.inRegion ops rest::k):=fun a v=>by rw [Frame.finish_atR,ho];rfl
  unfold Oper.wp at h;generalize hr:(execOp a.eval o).run P w=r at h;cases r with
  | ok n w'=>
   cases n <;> simp only [Oper.upon] at h
   case value v=>exact ⟨_,w',h,.one (step_lone_go (by simp_all [stepG.apply]))⟩
   case skip=>exact ⟨_,w',h,.one (step_lone_go (by simp_all [stepG.apply]))⟩
   case defer d=>refine ⟨_,w',h,.one (step_lone_go ?_)⟩;have e:=fin {a with defers:=d::a.defers} undef;simp_all [stepG.apply,Frame.atR]
   case enter f args=>
    obtain ⟨e,w'',fr,hR,cT,_,hleave⟩:=h (b.atR a (.inRegion ops (i::rest)::k)::cs);have dZ:step P (lone (b.atR a (.inRegion ops (i::rest)::k)) cs w)=.next (lone (Frame.enter P f args .normal) (b.atR a (.inRegion ops (i::rest)::k)::cs) w'):=
     step_lone_go (by simp_all [stepG.apply,Frame.atR])
    cases e with
    | returned v=>
     refine ⟨_,w'',hR,.head dZ (cT.trans (.one ?_))⟩
     grind [step_leave_returned]
    | panicked chain=>grind
    | outgrown=>obtain ⟨_,_,hq⟩:=hR;grind
   case row row args=>
    obtain ⟨v,w'',hR,cT⟩:=h (b.atR a (.inRegion ops (i::rest)::k)) cs;have dZ:step P (lone (b.atR a (.inRegion ops (i::rest)::k)) cs w)=.next (lone (Frame.ofRow P row args .normal) (b.atR a (.inRegion ops (i::rest)::k)::cs) w'):=
     step_lone_go (by simp_all [stepG.apply,Frame.atR])
    refine ⟨_,w'',hR,.head dZ ?_⟩
    grind
   all_goals exact h.elim
  | halt x w'=>cases x <;> simp only [Oper.upon] at h <;> first | exact h.elim | grind
 .rw [At hw] at h;have hs:=stepR_op_skip (P:=P) (b:=b) (a:=a) (k:=k) (cs:=cs) (w:=w) (ops:=ops) (i:=i) (rest:=rest) (by grind);rw [ho] at hs;exact ⟨_,w,h,.one hs⟩
theorem Lt {R:Act->World->Prop} {Q:Exit->Act->World->Prop} (hQ: ∀e a w,Q e a w->e=.normal /\R a w) (hnd:Kd ops=true): ∀(l:List Nat) (a:Act) (w:World),wpOps P ops Q l a w->
  ∃a' w',R a' w'/\Steps P (lone (b.atR a (.inRegion ops l::k)) cs w) (lone (b.atR a' k) cs w')
 | [],a,w,h=>⟨a,w,(hQ _ _ _ h).2,.one stepR_region_end⟩
 | i::l,a,w,h=>by
  simp only [wpOps] at h;cases ho:ops[i]? with
  | none=>rw [ho] at h;obtain ⟨a',w',hR,hs⟩:=Lt hQ hnd l a w h;have h1:=stepR_op_skip (P:=P) (b:=b) (a:=a) (k:=k) (cs:=cs) (w:=w) (ops:=ops) (i:=i) (rest:=l) (by simp [ho]);rw [ho] at h1;exact ⟨a',w',hR,.head h1 hs⟩
  | some o=>
   rw [ho] at h;have hno: ∀c,o.op≠ .defer c:=by
    intro c hc;have hm:o∈ops.toList:=(by grind);have:=Az.1 hnd o hm
    grind
   have h':if Region.wanted o (yielded ops a.tmps) then o.wp P a w (wpOps P ops Q l) Q else wpOps P ops Q l (a.put o.dst undef) w:=by
    by_cases hw:Region.wanted o (yielded ops a.tmps)=true
    .simp only [hw,if_true] at h ⊢;rcases h with h | ⟨_,a0,w0,h0⟩;all_goals grind
    grind
   obtain ⟨a1,w1,h1,s1⟩:=Mf (b:=b) (k:=k) (cs:=cs) (rest:=l) (fun e a w q=>(hQ e a w q).1) ho hno h';obtain ⟨a',w',hR,hs⟩:=Lt hQ hnd l a1 w1 h1;exact ⟨a',w',hR,s1.trans hs⟩
end ops
end
section
variable {P:Program}
def Sp (ρ:BD) (w:World) (r:Nat):Prop:=r<w.heap.size/\ρ.fz r=none/\ ∀b l,ρ b=some l->l.blk≠r
theorem Sp.ev {ρ ρ':BD} {floor:Nat} {m m':BH} {n n':Nat} {w w':World} (he:Ev ρ ρ' floor m n m' n' w w') {r:Nat} (hs:Sp ρ w r):Sp ρ' w' r/\w'.heap[r]? =w.heap[r]? :=by
 obtain ⟨h1,h2,h3⟩:=hs;refine ⟨⟨AJ h1 he.size,by rw [he.still r h1];exact h2,fun b l hl=> ?_⟩,?_⟩
 .by_cases hb:b<n
  .rw [he.new b hb] at hl;grind
  .rcases he.fresh b l (by omega) hl with h | ⟨b0,l0,e0,_,g0⟩;all_goals grind
 .have:w.heap[r]? =some w.heap[r]:=by simp [h1]
  rw [this];exact he.frame r _ this fun b l hl _=>h3 b l hl
structure Xn (m:List Nat) (w w':World):Prop where
 size:w'.heap.size=w.heap.size
 other: ∀k,k ∉ m->w'.heap[k]? =w.heap[k]?
 os:w'.os=w.os
 tape:w'.tape=w.tape
 output:w'.output=w.output
theorem Xn.refl (m:List Nat) (w:World):Xn m w w:=⟨rfl,fun _ _=>rfl,rfl,rfl,rfl⟩
theorem Xn.put (w:World) (r:Nat) (o:Obj):Xn [r] w (w.putObj r o):=⟨World.putObj_size,fun k hk=>World.putObj_heap_other (by grind),rfl,rfl,rfl⟩
theorem Xn.trans {m m':List Nat} {a b c:World} (h:Xn m a b) (k:Xn m' b c):Xn (m++m') a c:=
 ⟨k.size.trans h.size,fun i hi=>by simp only [List.mem_append,not_or] at hi;exact (k.other i hi.2).trans (h.other i hi.1),k.os.trans h.os,k.tape.trans h.tape,k.output.trans h.output⟩
theorem BF.turned {ρ:BD} {mem:BH} {next:Nat} {w w':World} (h:BF ρ mem next w) {m:List Nat} (hm: ∀r∈m,Sp ρ w r) (ht:Xn m w w'):BF ρ mem next w':=
 ⟨h.dom,h.inj,fun b l ab e g=>(h.blk b l ab e g).world (BD.le_refl ρ) (ht.other _ fun hr=>(hm _ hr).2.2 b l e rfl),fun k o e=>by
  rw [ht.other k fun hr=>by rw [(hm _ hr).2.1] at e;cases e];exact h.old k o e,
  h.sep,fun b l e=>by rw [ht.size];exact h.real b l e,h.bd,h.ldom⟩
theorem Ev.turned {ρ0 ρ:BD} {floor:Nat} {m0 mem:BH} {n0 next:Nat} {w0 w w':World} (h:Ev ρ0 ρ floor m0 n0 mem next w0 w) {m:List Nat} (hm: ∀r∈m,w0.heap.size<=r) (ht:Xn m w w'):Ev ρ0 ρ floor m0 n0 mem next w0 w':=
 ⟨h.ext,h.new,h.nxt,h.unborn,fun k o hk hf=>by
  have hlt:k<w0.heap.size:=(As.1 hk).1;rw [ht.other k fun hr=>by grind];exact h.frame k o hk hf,h.fresh,by rw [ht.size];exact h.size,ht.os.trans h.os,ht.tape.trans h.tape,ht.output.trans h.output,h.still⟩
theorem Sp.turned {ρ:BD} {w w':World} {r:Nat} (h:Sp ρ w r) {m:List Nat} (ht:Xn m w w'):Sp ρ w' r:=⟨by rw [ht.size];exact h.1,h.2.1,h.2.2⟩
theorem BF.grow {ρ:BD} {mem:BH} {next:Nat} {w:World} (h:BF ρ mem next w) (o:Obj):BF ρ mem next (w.alloc o):=by
 have same: ∀k,k<w.heap.size->(w.alloc o).heap[k]? =w.heap[k]? :=fun k hk=>by
  show (w.heap.push o)[k]? =_
  grind
 exact ⟨h.dom,h.inj,fun b l ab e g=>(h.blk b l ab e g).world (BD.le_refl ρ) (same _ (h.real b l e)),fun k ob e=>by
  have:=h.old k ob e
  grind,h.sep,fun b l e=>by
  have:=h.real b l e
  grind,h.bd,h.ldom⟩
theorem Ev.grow {ρ0 ρ:BD} {floor:Nat} {m0 mem:BH} {n0 next:Nat} {w0 w:World} (h:Ev ρ0 ρ floor m0 n0 mem next w0 w) (o:Obj):Ev ρ0 ρ floor m0 n0 mem next w0 (w.alloc o):=
 ⟨h.ext,h.new,h.nxt,h.unborn,fun k ob hk hf=>by
  have:=h.frame k ob hk hf;have hlt:=(As.1 this).1;show (w.heap.push o)[k]? =_
  grind,h.fresh,by
  have:=h.size;show _<=(w.heap.push o).size;simp;omega,h.os,h.tape,h.output,h.still⟩
theorem Sp.grow {ρ:BD} {w:World} {r:Nat} (h:Sp ρ w r) (o:Obj):Sp ρ (w.alloc o) r/\(w.alloc o).heap[r]? =w.heap[r]? :=by
 refine ⟨⟨?_,h.2.1,h.2.2⟩,?_⟩
 .have:=h.1;show r<(w.heap.push o).size;simp;omega
 .show (w.heap.push o)[r]? =_;simp [Bo,AU h.1]
theorem Sp.fresh {ρ:BD} {mem:BH} {next:Nat} {w:World} (h:BF ρ mem next w) (o:Obj):Sp ρ (w.alloc o) w.heap.size:=
 ⟨by simp_all,h.hold _ (Ak _),fun b l e=>AU (h.real b l e)⟩
def lpAdd (ρ:BD) (j l:Nat):BD:=⟨ρ.f,ρ.fz,fun k=>if k=j then some l else ρ.lp k⟩
theorem BF.lp_none {ρ:BD} {mem:BH} {next:Nat} {w:World} (h:BF ρ mem next w):ρ.lp next=none:=by
 cases e:ρ.lp next with
 | none=>rfl
 | some l=>exact absurd (h.ldom.1 _ _ e) (Nat.lt_irrefl _)
theorem Md {ρ:BD} {j l:Nat} (h:ρ.lp j=none):ρ.le (lpAdd ρ j l):=⟨fun _ _ e=>e,fun _ _ e=>e,fun k l' e=>by
 show (if k=j then some l else ρ.lp k)=some l'
 grind⟩
theorem BF.lpAdd {ρ:BD} {mem:BH} {next:Nat} {w:World} (h:BF ρ mem next w) (l:Nat):BF (lpAdd ρ next l) mem (next+1) w:=
 ⟨fun b l' e=>AW (h.dom b l' e),h.inj,fun b l' ab e g=>(h.blk b l' ab e g).world (Md h.lp_none) rfl,h.old,h.sep,h.real,fun b hb=>h.bd b (by omega),⟨fun j l' e=>by
  have e:(if j=next then some l else ρ.lp j)=some l':=e;by_cases hj:j=next
  .omega
  .rw [At hj] at e;exact AW (h.ldom.1 j l' e),h.ldom.2⟩⟩
theorem Ev.lpAdd {ρ0 ρ:BD} {floor:Nat} {m0 mem:BH} {n0 next:Nat} {w0 w:World} (h:Ev ρ0 ρ floor m0 n0 mem next w0 w) (hr:BF ρ mem next w) (l:Nat):Ev ρ0 (lpAdd ρ next l) floor m0 n0 mem (next+1) w0 w:=
 ⟨BD.le_trans h.ext (Md hr.lp_none),h.new,Nat.le_succ_of_le h.nxt,h.unborn,h.frame,h.fresh,h.size,h.os,h.tape,h.output,h.still⟩
inductive Cs (ρ:BD):Item->Item->Prop
 | same (x:Item) (h:Ub x=true):Cs ρ x x
 | inR (j l:Nat) (h:ρ.lp j=some l):Cs ρ (.inRangeFunc j) (.inRangeFunc l)
 | endR (j l:Nat) (h:ρ.lp j=some l):Cs ρ (.endRangeFunc j) (.endRangeFunc l)
abbrev CG (ρ:BD):List Item->List Item->Prop:=Xo (Cs ρ)
theorem Xo.mono {α β:Type} {R R':α->β->Prop} (hr: ∀a b,R a b->R' a b) {l:List α} {m:List β} (h:Xo R l m):Xo R' l m:=by
 induction h with
 | nil=>exact .nil
 | cons h _ ih=>exact .cons (hr _ _ h) ih
theorem Cs.mono {ρ ρ':BD} (h:ρ.le ρ') {x y:Item} (hx:Cs ρ x y):Cs ρ' x y:=by
 cases hx with
 | same x hx=>exact .same x hx
 | inR j l e=>exact .inR j l (h.2.2 _ _ e)
 | endR j l e=>exact .endR j l (h.2.2 _ _ e)
theorem CG.exit {ρ:BD} {k k':List Item} (h:CG ρ k k') (id:Nat):(∀r,exitTo id k=some r-> ∃r',exitTo id k'=some r'/\CG ρ r r')/\(exitTo id k=none->exitTo id k'=none):=by
 induction h with
 | nil=>exact ⟨fun r e=>(by cases e),fun _=>rfl⟩
 | @cons x y l m hx t ih=>
  cases hx with
  | same x hx=>
   cases x with
   | inBlock id'=>
    grind [exitTo]
   | code _=>exact ih
   | inLoop _=>exact ih
   | inScope _=>exact ih
   | beginRound=>exact ih
   | inRegion _ _=>cases hx
   | inRangeFunc _=>cases hx
   | endRangeFunc _=>cases hx
   | call _ _ _ _=>cases hx
   | extern _ _=>cases hx
  | inR j l e=>exact ih
  | endR j l e=>exact ih
def GX (r:Nat):Deferred:={target:=.collected r,args:= #[]}
def Xh (ro:Option BR) (k:List Item):List Item:=match ro with
 | none=>k
 | some (ops,i,_)=>.inRegion ops ((List.range ops.size).drop i)::k
def Ng :Option BR->Prop
 | none=>True
 | some (ops,i,l)=>l=ops.toList.drop i/\Kd ops=true
structure DQ (ρ:BD) (cx:BK) (ro:Option BR) (todo:List Item) (rnd:Option Nat) (env:T BA) (b:Frame) (a:Act) (k:List Item) (ms:List Nat):Prop where
 env:Xm ρ env cx.n a.tmps
 defers:a.defers=ms.map GX
 todo:CG ρ todo k
 ro:Ng ro
 rnd:match rnd with
  | none=>b.roundOf=none
  | some j=>ms=[]/\ ∃l,ρ.lp j=some l/\b.roundOf=some l
theorem DQ.mono {ρ ρ':BD} (h:ρ.le ρ') {cx:BK} {ro:Option BR} {todo:List Item} {rnd:Option Nat} {env:T BA} {b:Frame} {a:Act} {k:List Item} {ms:List Nat} (hf:DQ ρ cx ro todo rnd env b a k ms):DQ ρ' cx ro todo rnd env b a k ms:=
 ⟨hf.env.mono h,hf.defers,hf.todo.mono fun _ _=>Cs.mono h,hf.ro,by
  have:=hf.rnd;cases rnd with
  | none=>exact this
  | some j=>obtain ⟨h0,l,h1,h2⟩:=this;exact ⟨h0,l,h.2.2 _ _ h1,h2⟩⟩
def Ml (P:Program) (rnd:Option Nat) (rs:List ResultVar) (b:Frame):Prop:=b.kind=.normal /\(rnd=none-> ∃fn,P.funcs[b.fn]? =some fn/\fn.results.toList=rs)
inductive DP (P:Program) (ρ:BD):List BW->List Frame->List Nat->Prop
 | nil:DP P ρ [] [] []
 | cons {af:BW} {b:Frame} {a:Act} {k:List Item} {ms:List Nat} {cs:List BW} {css:List Frame} {mss:List Nat} (h:DQ ρ af.cx af.ro af.todo af.rnd af.env b a k ms)
   (hl:cs≠ []->Ml P af.rnd af.rs b) (t:DP P ρ cs css mss):DP P ρ (af::cs) (b.atR a (Xh af.ro k)::css) (ms++mss)
theorem DP.mono {ρ ρ':BD} (h:ρ.le ρ') {cs:List BW} {css:List Frame} {mss:List Nat} (hc:DP P ρ cs css mss):DP P ρ' cs css mss:=by
 induction hc with
 | nil=>exact .nil
 | cons hf hl t ih=>exact .cons (hf.mono h) hl ih
structure IA (base:Nat) (ρ:BD) (w:World) (j:Nat) (L:Bx) (l:Nat):Prop where
 lp:ρ.lp j=some l
 low:base<=l
 sp:Sp ρ w l
 obj: ∃tmps fn d,w.heap[l]? =some (.loop ⟨L.st,L.pend,fn,tmps,L.params.toArray,L.assign,L.body,d⟩)/\Xm ρ L.env L.n tmps
structure CQ (P:Program) (base:Nat) (ρ:BD) (cs:List BW) (lps:BN) (css:List Frame) (w:World) (m0 m1:List Nat):Prop where
 cs:DP P ρ cs css m1
 nodup:(m0++m1).Nodup
 marks: ∀r∈m0++m1,base<=r/\Sp ρ w r/\w.heap[r]? =some (.deferred (some []))
 loops: ∀j L,CA lps j=some L-> ∃l,IA base ρ w j L l
 inj: ∀j j' L L' l,CA lps j=some L->CA lps j'=some L'->ρ.lp j=some l->ρ.lp j'=some l->j=j'
theorem IA.ev {base:Nat} {ρ ρ':BD} {floor:Nat} {m m':BH} {n n':Nat} {w w':World} (he:Ev ρ ρ' floor m n m' n' w w') {j:Nat} {L:Bx} {l:Nat} (h:IA base ρ w j L l):IA base ρ' w' j L l:=by obtain ⟨h1,h2,h3,tmps,fn,d,h4,h5⟩:=h;obtain ⟨s1,s2⟩:=h3.ev he;exact ⟨he.ext.2.2 _ _ h1,h2,s1,tmps,fn,d,by grind,h5.mono he.ext⟩
theorem CQ.ev {base:Nat} {ρ ρ':BD} {floor:Nat} {m m':BH} {n n':Nat} {w w':World} (he:Ev ρ ρ' floor m n m' n' w w') {cs:List BW} {lps:BN} {css:List Frame} {m0 m1:List Nat} (h:CQ P base ρ cs lps css w m0 m1):CQ P base ρ' cs lps css w' m0 m1:=by
 refine ⟨h.cs.mono he.ext,h.nodup,fun r hr=> ?_,fun j L hL=> ?_,fun j j' L L' l hL hL' e e'=> ?_⟩
 .obtain ⟨h1,h2,h3⟩:=h.marks r hr;obtain ⟨s1,s2⟩:=h2.ev he
  grind
 .obtain ⟨l,hl⟩:=h.loops j L hL;exact ⟨l,hl.ev he⟩
 .obtain ⟨l1,hl1⟩:=h.loops j L hL;obtain ⟨l2,hl2⟩:=h.loops j' L' hL';have e1:=he.ext.2.2 _ _ hl1.lp;have e2:=he.ext.2.2 _ _ hl2.lp;rw [e] at e1;rw [e'] at e2;obtain rfl:=Ac e1;obtain rfl:=Ac e2;exact h.inj j j' L L' l hL hL' hl1.lp hl2.lp
theorem CQ.turned {base:Nat} {ρ:BD} {w w':World} {cs:List BW} {lps:BN} {css:List Frame} {m0 m0' m1:List Nat} (h:CQ P base ρ cs lps css w m0 m1) {m:List Nat} (ht:Xn m w w') (hsub:m0'.Sublist m0) (hm: ∀r∈m,r ∉ m0'++m1) (hl: ∀r∈m,∃ds,w.heap[r]? =some (.deferred ds)):
  CQ P base ρ cs lps css w' m0' m1:=by
 refine ⟨h.cs,h.nodup.sublist (hsub.append (List.Sublist.refl _)),fun r hr=> ?_,fun j L hL=> ?_,h.inj⟩
 .obtain ⟨h1,h2,h3⟩:=h.marks r ((hsub.append (List.Sublist.refl m1)).subset hr);exact ⟨h1,h2.turned ht,by rw [ht.other r fun hrm=>hm r hrm hr];exact h3⟩
 .obtain ⟨l,h1,h2,h3,tmps,fn,d,h4,h5⟩:=h.loops j L hL;refine ⟨l,h1,h2,h3.turned ht,tmps,fn,d,?_,h5⟩;rw [ht.other l fun hlm=> ?_];all_goals grind
theorem CQ.record {base:Nat} {ρ:BD} {w w':World} {cs:List BW} {lps:BN} {css:List Frame} {m0 m1:List Nat} (h:CQ P base ρ cs lps css w m0 m1) {j l:Nat} {L L':Bx} (hj:CA lps j=some L) (hl:IA base ρ w j L l)
  (hL:IA base ρ w' j L' l) (ht:Xn [l] w w'):CQ P base ρ cs (DS lps j (some L')) css w' m0 m1:=by
 have eC:=hl.obj;obtain ⟨tmps,fn,d,h4,_⟩:=eC;have get: ∀i,CA (DS lps j (some L')) i=if i=j then some L' else CA lps i:=fun i=>T.get_set none lps j (some L') i
 refine ⟨h.cs,h.nodup,fun r hr=> ?_,fun i M hM=> ?_,fun i i' M M' l' hM hM' e e'=> ?_⟩
 .obtain ⟨h1,h2,h3⟩:=h.marks r hr;refine ⟨h1,h2.turned ht,?_⟩;rw [ht.other r fun hrm=> ?_];all_goals grind
 .rw [get] at hM;by_cases hij:i=j
  .grind
  .rw [At hij] at hM;obtain ⟨l2,q1,q2,q3,tmps2,fn2,d2,q4,q5⟩:=h.loops i M hM;refine ⟨l2,q1,q2,q3.turned ht,tmps2,fn2,d2,?_,q5⟩;rw [ht.other l2 fun hlm=> ?_]
   .exact q4
   .obtain rfl:l2=l:=by grind
    exact hij (h.inj i j M L l2 hM hj q1 hl.lp)
 .rw [get] at hM hM';have old: ∀x N,(if x=j then some L' else CA lps x)=some N-> ∃N',CA lps x=some N':=fun x N hx=>by
   grind
  obtain ⟨N,hN⟩:=old i M hM;obtain ⟨N',hN'⟩:=old i' M' hM';exact h.inj i i' N N' l' hN hN' e e'
end
section
variable {P:Program}
structure GS (P:Program) (base:Nat) (C:BJ) (ρ:BD) (b:Frame) (a:Act) (k:List Item) (css:List Frame) (w:World) (ma mb:List Nat):Prop where
 top:DQ ρ C.cx C.ro C.todo C.rnd C.st.env b a k ma
 lv:C.cs≠ []->Ml P C.rnd C.rs b
 rest:CQ P base ρ C.cs C.lps css w ma mb
 rel:BF ρ C.st.mem C.st.next w
structure Fl (fl:Nat) (C:BJ):Prop where
 cx:C.cx.floor=fl
 cs: ∀af∈C.cs,af.cx.floor=fl
 le:fl<=C.st.next
def GF (b:Frame):List Frame->FuncId×CallKind×Option Nat
 | []=>(b.fn,b.kind,b.roundOf)
 | c::css=>GF c css
def Cz (P:Program) (fl:Nat) (C C':BJ):Prop:=
 ∀(m0:BH) (n0:Nat) (ρ0:BD) (w0:World) (ρ:BD) (b:Frame) (a:Act) (k:List Item) (css:List Frame) (w:World) (ma mb:List Nat),GS P w0.heap.size C ρ b a k css w ma mb->Ev ρ0 ρ fl m0 n0 C.st.mem C.st.next w0 w-> ∀cs0:List Frame,
  ∃ρ' b' a' k' css' w' ma' mb',Steps P (lone (b.atR a (Xh C.ro k)) (css++cs0) w) (lone (b'.atR a' (Xh C'.ro k')) (css'++cs0) w')/\GS P w0.heap.size C' ρ' b' a' k' css' w' ma' mb'/\Ev ρ0 ρ' fl m0 n0 C'.st.mem C'.st.next w0 w'/\GF b' css'=GF b css/\w.heap.size<=w'.heap.size
theorem Cz.refl (fl:Nat) (C:BJ):Cz P fl C C:=fun m0 n0 ρ0 w0 ρ b a k css w ma mb hs he cs0=>⟨ρ,b,a,k,css,w,ma,mb,Steps.refl _ _,hs,he,rfl,Ak _⟩
structure C4 (P:Program) (fl:Nat) (C C':BJ):Prop where
 fls:Fl fl C'
 inv:Yq fl C.st C'.st
 leads:C'.st.ob=true->Cz P fl C C'
theorem C4.move {fl:Nat} {cx:BK} {todo todo':List Item} {rnd:Option Nat} {rs:List ResultVar} {st:St} {cs:List BW} {lps:BN} (hfl:Fl fl ⟨cx,none,todo,rnd,rs,st,cs,lps⟩)
  (hk: ∀(ρ:BD) (k:List Item),CG ρ todo k-> ∃k',CG ρ todo' k'/\ ∀(b:Frame) (a:Act) (css:List Frame) (w:World),step P (lone (b.atR a k) css w)=.next (lone (b.atR a k') css w)):
  C4 P fl ⟨cx,none,todo,rnd,rs,st,cs,lps⟩ ⟨cx,none,todo',rnd,rs,st,cs,lps⟩:=
 ⟨⟨hfl.cx,hfl.cs,hfl.le⟩,Yq.refl _ _,fun ho m0 n0 ρ0 w0 ρ b a k css w ma mb hs he cs0=>by
   obtain ⟨k',ht,dA⟩:=hk ρ k hs.top.todo;exact ⟨ρ,b,a,k',css,w,ma,mb,.one (dA b a _ w),⟨⟨hs.top.env,hs.top.defers,ht,trivial,hs.top.rnd⟩,hs.lv,hs.rest,hs.rel⟩,he,rfl,Ak _⟩⟩
theorem CG.code {ρ:BD} {c:Code} {t k:List Item} (h:CG ρ (.code c::t) k): ∃k',k=.code c::k'/\CG ρ t k':=by
 cases h with
 | cons hx ht=>cases hx;grind
theorem PL {cs:List Frame}: ∀(ms:List Nat) (fr:Frame) (w:World),fr.mode=.returning ->fr.defers=ms.map GX->ms.Nodup->(∀r∈ms,w.heap[r]? =some (.deferred (some [])))->
  ∃w',Steps P (lone fr cs w) (lone {fr with defers:=[]} cs w')/\Xn ms w w'
 | [],fr,w,hm,hd,_,_=>⟨w,by
   have:{fr with defers:=[]}=fr:=by cases fr;grind
   rw [this];exact Steps.refl _ _,Xn.refl _ _⟩
 | r::ms,fr,w,hm,hd,hn,ho=>by
  have hr:=ho r (by simp);have h1:=step_collected (P:=P) (cs:=cs) (fr:=fr) (d:=GX r) (ds:=ms.map GX) (by rw [hm];simp) (by rw [hd];rfl) rfl (run_takeDeferred hr);rw [List.nodup_cons] at hn;obtain ⟨w',hs,ht⟩:=PL (cs:=cs) ms {fr with defers:=ms.map GX} (w.putObj r (.deferred none)) hm rfl hn.2 fun r' hr'=>by
   grind [World.putObj_heap_other]
  exact ⟨w',.head h1 hs,(Xn.put w r _).trans ht⟩
theorem Lj {fl base:Nat} {C:BJ} {ρ:BD} {b:Frame} {a:Act} {k:List Item} {css:List Frame} {w:World} {ma mb:List Nat} (hs:GS P base C ρ b a k css w ma mb) (hro:C.ro=none) (cP:C.rnd=none) (htodo:C.todo=[]\/ ∃t,C.todo=.code .ret ::t)
  {m0:BH} {n0:Nat} {ρ0:BD} {w0:World} (hb:base=w0.heap.size) (he:Ev ρ0 ρ fl m0 n0 C.st.mem C.st.next w0 w) (cs0:List Frame):
  ∃w',Steps P (lone (b.atR a (Xh C.ro k)) cs0 w) (lone {b.atR {a with defers:=[]} k with mode:=.returning} cs0 w')/\Xm ρ C.st.env C.cx.n a.tmps/\BF ρ C.st.mem C.st.next w'/\Ev ρ0 ρ fl m0 n0 C.st.mem C.st.next w0 w'/\CQ P base ρ C.cs C.lps css w' [] mb/\w.heap.size<=w'.heap.size:=by
 have hrn:=hs.top.rnd;rw [cP] at hrn;have h1:step P (lone (b.atR a (Xh C.ro k)) cs0 w)=.next (lone {b.atR a k with mode:=.returning} cs0 w):=by
  rw [hro];have ht:=hs.top.todo;rcases htodo with e | ⟨t,e⟩
  .rw [e] at ht;cases ht;exact stepR_end hrn
  .rw [e] at ht;obtain ⟨k',rfl,_⟩:=ht.code;exact stepR_ret hrn
 have hnd:ma.Nodup:=(List.nodup_append.1 hs.rest.nodup).1;obtain ⟨w',h2,ht⟩:=PL (P:=P) (cs:=cs0) ma {b.atR a k with mode:=.returning} w rfl hs.top.defers hnd fun r hr=>(hs.rest.marks r (by simp [hr])).2.2;refine ⟨w',.head h1 h2,hs.top.env,hs.rel.turned (fun r hr=>(hs.rest.marks r (by simp [hr])).2.1) ht,he.turned (fun r hr=>by rw [<-hb];exact (hs.rest.marks r (by simp [hr])).1) ht,hs.rest.turned ht (List.nil_sublist _) (fun r hr hrm=> ?_) (fun r hr=>⟨_,(hs.rest.marks r (by simp [hr])).2.2⟩),Bv ht.size.symm⟩;rw [Bg] at hrm;exact (List.nodup_append.1 hs.rest.nodup).2.2 r hr r hrm rfl
theorem LC {fl base:Nat} {v:BA} {st:St} {lps:BN} {cs:List BW} {C':BJ} (h:EK v st lps cs=some C') (hcs: ∀af∈cs,af.cx.floor=fl) (hle:fl<=st.next):
  Fl fl C'/\C'.st.mem=st.mem/\C'.st.next=st.next/\C'.st.ob=st.ob/\(cs≠ [])/\ ∀(ρ:BD) (css:List Frame) (w:World) (mb:List Nat) (u:Value),Zb ρ v u->CQ P base ρ cs lps css w [] mb->BF ρ st.mem st.next w->
   ∃c css' b' a' k' ma' mb',css=c::css'/\c.finish u=b'.atR a' (Xh C'.ro k')/\GS P base C' ρ b' a' k' css' w ma' mb'/\GF b' css'=GF c css':=by
 unfold EK at h;split at h
 .rename_i cx ops i o l todo rnd rs env cs';split at h
  .rename_i st' hp;obtain rfl:=Ac h;obtain ⟨p1,p2,p3,p4⟩:=Xp hp;refine ⟨⟨hcs _ (List.mem_cons_self ..),fun af haf=>hcs af (by simp [haf]),by rw [show st'.next=st.next from p2];exact hle⟩,p1,p2,p3,by simp,fun ρ css w mb u hv hr cB=> ?_⟩;obtain ⟨hc,hnd,hmk,hlp,hinj⟩:=hr;cases hc with
   | @cons _ b a k ms _ css' mss hf hl ht=>
    simp only at hf hl;refine ⟨_,css',b,a.put o.dst u,k,ms,mss,rfl,?_,⟨⟨hf.env.put hv ?_,by rw [Act.put_defers'];exact hf.defers,hf.todo,?_,hf.rnd⟩,hl,⟨ht,hnd,hmk,hlp,hinj⟩,?_⟩,by cases css' <;> rfl⟩
    .obtain ⟨hro,_⟩:=hf.ro;have hi:ops.toList[i]? =some o:=by
      have:=Al (·[0]?) hro
      grind
     have hi':ops[i]? =some o:=(by grind);have hlt:i<ops.size:=(As.1 hi').1;have hd:(List.range ops.size).drop i=i::(List.range ops.size).drop (i+1):=by rw [Bk (by grind)];simp
     grind [Xh,Frame.finish_atR]
    .rcases p4 with ⟨e,e2⟩ | ⟨d,e,hlt,e2⟩
     .exact .inl ⟨e,e2⟩
     .exact .inr ⟨d,e,hlt,e2⟩
    .obtain ⟨hro,dB⟩:=hf.ro;refine ⟨?_,dB⟩;have:=Al List.tail hro
     simpa using this
    .show BF ρ st'.mem st'.next w
     rw [show st'.mem=st.mem from p1,show st'.next=st.next from p2];exact cB
  .cases h
 .rename_i cx j k rnd rs env cs';obtain rfl:=Ac h;refine ⟨⟨hcs _ (List.mem_cons_self ..),fun af haf=>hcs af (by simp [haf]),hle⟩,rfl,rfl,rfl,by simp,fun ρ css w mb u hv hr cB=> ?_⟩;obtain ⟨hc,hnd,hmk,hlp,hinj⟩:=hr;cases hc with
  | @cons _ b a k0 ms _ css' mss hf hl ht=>
   simp only at hf hl;have htd:=hf.todo;cases htd with
   | cons hx htl=>
    cases hx with
    | same _ hp=>cases hp
    | inR _ l hlj=>exact ⟨_,css',b,a,_,ms,mss,rfl,finish_atR_inRangeFunc l u,⟨⟨hf.env,hf.defers,.cons (.endR _ l hlj) htl,trivial,hf.rnd⟩,hl,⟨ht,hnd,hmk,hlp,hinj⟩,cB⟩,by cases css' <;> rfl⟩
 .cases h
theorem Y5 {b:Frame} {a:Act} {k:List Item} {cs:List Frame} {w:World} {ops:Array Oper} {i:Nat} {rest:List Nat} {o:Oper} {f:FuncId} {args:Array Value} (ho:ops[i]? =some o) (hnd: ∀c,o.op≠ .defer c) (hw:Region.wanted o (yielded ops a.tmps)=true)
  (hr:(execOp a.eval o).run P w=.ok (.enter f args) w):step P (lone (b.atR a (.inRegion ops (i::rest)::k)) cs w)=.next (lone (Frame.enter P f args .normal) (b.atR a (.inRegion ops (i::rest)::k)::cs) w):=by
 have hg:=stepGR_op (P:=P) (b:=b) (k:=k) (cs:=cs) (w:=w) (rest:=rest) ho hw;rw [Oper.semAt_eq _ _ _ hnd] at hg;exact step_lone_go (by simp_all [stepG.apply,Frame.atR])
theorem Y6 {b:Frame} {a:Act} {k:List Item} {cs:List Frame} {w:World} {ops:Array Oper} {i:Nat} {rest:List Nat} {o:Oper} {l:Nat} {f:FuncId} {tmps:Array Value} {assign body:Code} (ho:ops[i]? =some o) (hnd: ∀c,o.op≠ .defer c) (hw:Region.wanted o (yielded ops a.tmps)=true)
  (hr:(execOp a.eval o).run P w=.ok (.round l f tmps assign body) w):step P (lone (b.atR a (.inRegion ops (i::rest)::k)) cs w)=.next (lone (Frame.round l f tmps assign body .normal) (b.atR a (.inRegion ops (i::rest)::k)::cs) w):=by
 have hg:=stepGR_op (P:=P) (b:=b) (k:=k) (cs:=cs) (w:=w) (rest:=rest) ho hw;rw [Oper.semAt_eq _ _ _ hnd] at hg;exact step_lone_go (by simp_all [stepG.apply])
theorem Kj {ρ:BD} {n:Nat}: ∀{ps:List Tmp} {args:List BA} {env env':T BA} {vals:List Value} {tmps:Array Value},LG n ps args env=some env'->Xm ρ env n tmps->Xo (Zb ρ) args vals->
  ps.length=vals.length/\Xm ρ env' n ((ps.zip vals).foldl (fun t p=>t.setIfInBounds p.1 p.2) tmps)
 | [],[],env,env',vals,tmps,h,he,ha=>by cases ha;obtain rfl:=Ac h;simp_all
 | t::ps,x::args,env,env',vals,tmps,h,he,ha=>by
  cases ha with
  | @cons _ u _ vals hx ha=>
   unfold LG at h;obtain ⟨hc,h⟩:=Zq h;have hlt:=Af hc;have he':Xm ρ (T.set .undef env t x) n (tmps.setIfInBounds t u):=by have:=Xm.put (a:=⟨tmps,[]⟩) (dst:=some t) he hx (.inr ⟨t,rfl,hlt,rfl⟩);exact this
   obtain ⟨h1,h2⟩:=Kj h he' ha;simp_all
 | [],_::_,_,_,_,_,h,_,_=>by cases h
 | _::_,[],_,_,_,_,h,_,_=>by cases h
theorem Fl.enter {fl:Nat} {cx:BK} {ro:Option BR} {todo:List Item} {rnd:Option Nat} {rs:List ResultVar} {st:St} {cs:List BW} {lps lps':BN} (h:Fl fl ⟨cx,ro,todo,rnd,rs,st,cs,lps⟩) {n:Nat} {todo':List Item} {rnd':Option Nat} {rs':List ResultVar} {st':St} {ro':Option BR} {td:List Item} {e:T BA} (hn:st.next<=st'.next):
  Fl fl ⟨⟨n,cx.floor,cx.sym⟩,none,todo',rnd',rs',st',⟨cx,ro',td,rnd,rs,e⟩::cs,lps'⟩:=
 ⟨h.cx,fun af haf=>by
  rcases Be.1 haf with rfl | haf
  .exact h.cx
  .exact h.cs af haf,AE h.le hn⟩
theorem QU {base:Nat} {ρ:BD} {f:FuncId} {args:List BA} {cx:BK} {ro':Option BR} {td:List Item} {rnd:Option Nat} {rs:List ResultVar} {e:T BA} {st:St} {cs:List BW} {lps:BN} {C':BJ} {b:Frame} {a:Act} {k:List Item} {css:List Frame} {w:World} {ma mb:List Nat} {vals:Array Value}
  (h:ID P f args ⟨cx,ro',td,rnd,rs,e⟩ st cs lps=some C') (hf:DQ ρ cx ro' td rnd e b a k ma) (hlv:cs≠ []->Ml P rnd rs b) (hr:CQ P base ρ cs lps css w ma mb) (cB:BF ρ st.mem st.next w) (cD:Xo (Zb ρ) args vals.toList):
  ∃fn body,P.funcs[f]? =some fn/\fn.body=some body/\C'=⟨⟨Nat.max fn.ntmps args.length,cx.floor,cx.sym⟩,none,[.code body],none,fn.results.toList,st.withEnv (DC args 0 .leaf),⟨cx,ro',td,rnd,rs,e⟩::cs,lps⟩/\
   ∃b' a' k',Frame.enter P f vals .normal =b'.atR a' (Xh none k')/\GS P base C' ρ b' a' k' (b.atR a (Xh ro' k)::css) w [] (ma++mb):=by
 unfold ID at h;split at h
 .rename_i fn hfn;split at h
  .rename_i body hb;obtain rfl:=Ac h;refine ⟨fn,body,hfn,hb,rfl,⟨f, #[],[],[],.run,.normal,none⟩,{tmps:=vals++Array.replicate (fn.ntmps - vals.size) undef,defers:=[]},[.code body],?_,⟨⟨Ll cD fn.ntmps,rfl,.cons (.same _ rfl) .nil,trivial,rfl⟩,fun _=>⟨rfl,fun _=>⟨fn,hfn,rfl⟩⟩,?_,cB⟩⟩
   .grind [Frame.enter,Frame.atR,Xh]
   .exact ⟨.cons hf hlv hr.cs,hr.nodup,hr.marks,hr.loops,hr.inj⟩
  .cases h
 .cases h
theorem KZ {ρ:BD} {ops:Array Oper} {o:Oper} {cx:BK} {st st1:St} {e:Bool} (h:Uh ops o cx st=some (e,st1)):st1.mem=st.mem/\st1.next=st.next/\(st1.ob=true->st.ob=true/\ ∀{tmps:Array Value},Xm ρ st.env cx.n tmps->Xm ρ st1.env cx.n tmps/\Region.wanted o (yielded ops tmps)=e):=by obtain ⟨w1,w2,w3⟩:=Xx h;refine ⟨w1,w2,fun ho=>⟨(w3 ho).1,fun {tmps} he=>⟨he.congr fun t=>(w3 ho).2 t,Wu h ho he.size fun d _=>he.get d⟩⟩⟩
theorem M2 {ops:Array Oper} {i:Nat} {o:Oper} {l:List Oper} (h:o::l=ops.toList.drop i):ops[i]? =some o/\l=ops.toList.drop (i+1)/\(List.range ops.size).drop i=i::(List.range ops.size).drop (i+1):=by
 have hi:ops.toList[i]? =some o:=by
  have:=Al (·[0]?) h
  grind
 have hi':ops[i]? =some o:=by grind
 have hlt:i<ops.size:=(As.1 hi').1;refine ⟨hi',?_,?_⟩
 .have:=Al List.tail h
  simpa using this
 .rw [Bk (by grind)];simp
theorem Jv {ops:Array Oper} (h:Kd ops=true) {i:Nat} {o:Oper} (ho:ops[i]? =some o) (c:Call):o.op≠ .defer c:=by
 intro hc;have hm:o∈ops.toList:=by grind
 have:=Az.1 h o hm
 grind
theorem Lh {ρ:BD} {st:St} {n:Nat} {a:Act} (he:Xm ρ st.env n a.tmps) (args:Array Operand):Xo (Zb ρ) (args.toList.map st.eval) (args.map a.eval).toList :=by rw [A0];exact Xo.maps _ _ _ fun x _=>he.eval x
theorem M4 {ops:Array Oper} {m i:Nat} (hm:m<=ops.size) (h:i<m):(Xj ops m)[i]? =ops[i]? :=by
 grind [Xj]
theorem RM {ops:Array Oper} {m i:Nat} (hm:m<=ops.size) (h:m<=i):(Xj ops m)[i]? =(ops[i]?).map Cg:=by
 grind [Xj]
theorem QQ {ops:Array Oper} {m:Nat} (hm:m<=ops.size):(Xj ops m).size =ops.size:=by simp [Xj];omega
theorem MH {ops:Array Oper} {m:Nat} (hm:m<=ops.size) (i:Nat):((Xj ops m)[i]?).map (·.after)=(ops[i]?).map (·.after):=by
 by_cases h:i<m
 .rw [M4 hm h]
 .rw [RM hm (by omega)];cases ops[i]? <;> rfl
theorem Y7 (md:Region.Mode) {ops:Array Oper} {m:Nat} (hm:m<=ops.size) (listed:Array Bool):Region.ready md (Xj ops m) listed=Region.ready md ops listed:=by
 grind [Region.ready,MH,Xj]
theorem Pt (md:Region.Mode) {ops:Array Oper} {m:Nat} (hm:m<=ops.size): ∀(fuel t:Nat) (listed:Array Bool) (acc:List Nat),Region.linearise.go md (Xj ops m) fuel t listed acc=Region.linearise.go md ops fuel t listed acc
 | 0,t,listed,acc=>rfl
 | fuel+1,t,listed,acc=>by
  have e:=Y7 md hm listed;unfold Region.ready at e;simp only [Region.linearise.go];rw [e];split
  .exact Pt md hm fuel _ _ _
  .rfl
theorem Y0 {ops:Array Oper} (dQ: ∀(j:Nat) o,ops[j]? =some o-> ∀e∈o.after.toList,Region.binds .any e=true->e.on<j): ∀listed:Array Bool,listed.size=ops.size-> ∀i,i<ops.size->listed.getD i false=false-> ∃j,j∈Region.ready .any ops listed:=by
 intro listed hsz i
 induction i using Nat.strongRecOn with
 | _ i ih=>
  intro hi hl;by_cases h: ∃e∈(ops[i]).after.toList,Region.binds .any e=true/\listed.getD e.on false=false
  .grind
  .refine ⟨i,mem_ready.2 ⟨?_,ops[i],by simp [hi],fun e he hb=> ?_⟩⟩;all_goals grind
theorem Pb {ops:Array Oper} (dQ: ∀(j:Nat) o,ops[j]? =some o-> ∀e∈o.after.toList,Region.binds .any e=true->e.on<j) (fuel t:Nat) (listed:Array Bool) (hsz:listed.size=ops.size) (hcl:Dk ops (fun i=>listed.getD i false)) {q:Nat} (hq:q<ops.size) (hl:listed.getD q false=false):
  ∃i x t',ops[i]? =some x/\listed.getD i false=false/\Do (fun i=>listed.getD i false) x/\Region.linearise.go .any ops (fuel+1) t listed []=i::Region.linearise.go .any ops fuel t' (listed.setIfInBounds i true) []/\
   (listed.setIfInBounds i true).size =ops.size/\Dk ops (fun q=>(listed.setIfInBounds i true).getD q false)/\ ∀q,(listed.setIfInBounds i true).getD q false=(listed.getD q false||q == i):=by
 obtain ⟨j0,hj0⟩:=Y0 dQ listed hsz q hq hl;have hne:Region.ready .any ops listed≠ []:=fun e=>by grind
 have hlt:t %(Region.ready .any ops listed).length <(Region.ready .any ops listed).length :=A2 _ (List.length_pos_iff.2 hne);have hgo:Region.linearise.go .any ops (fuel+1) t listed []=(match (Region.ready .any ops listed)[t %(Region.ready .any ops listed).length]? with
  | some i=>Region.linearise.go .any ops fuel (t / (Region.ready .any ops listed).length) (listed.setIfInBounds i true) [i]
  | none=>[].reverse):=rfl
 rw [hgo,Ao hlt];simp only;have hi:=AR hlt;generalize (Region.ready .any ops listed)[t %(Region.ready .any ops listed).length]=i at hi;obtain ⟨h1,x,hx,hr⟩:=mem_ready.1 hi;have hil:i<ops.size:=(As.1 hx).1;have hils:i<listed.size:=by omega
 have hif:listed.getD i false=false:=by grind
 rw [linearise_go_acc,List.reverse_singleton,List.singleton_append];have dO: ∀q,(listed.setIfInBounds i true).getD q false=(listed.getD q false||q == i):=fun q=>by
  by_cases hq:q=i
  .simp_all
  .have:(q == i)=false:=by simp [hq]
   rw [this,Bool.or_false];simp [Array.getD_eq_getD_getElem?,Ne.symm hq]
 have cK:Do (fun i=>listed.getD i false) x:=fun e he hb=>hr e (Array.mem_toList_iff.1 he) hb;refine ⟨i,x,_,hx,hif,cK,rfl,by grind,fun j y hy hs e he hb=> ?_,dO⟩;simp only [dO] at hs ⊢;by_cases hji:j=i
 .grind
 .have hs':listed.getD j false=true:=by grind
  have:=hcl j y hy hs' e he hb
  grind
theorem Pc {ops:Array Oper} {m:Nat} (dQ: ∀(j:Nat) o,ops[j]? =some o-> ∀e∈o.after.toList,Region.binds .any e=true->e.on<j) (hf: ∀j x,m<=j->ops[j]? =some x-> ∀i,i<j->E9 ops i x):
  ∀(fuel t j:Nat) (listed:Array Bool),listed.size=ops.size->Dk ops (fun i=>listed.getD i false)->m<=j->j+fuel=ops.size->(∀q,q<j->listed.getD q false=true)->(∀q,j<=q->listed.getD q false=false)->Region.linearise.go .any ops fuel t listed []=(List.range ops.size).drop j
 | 0,t,j,listed,hsz,hcl,hj,hn,h1,h2=>by rw [Ay (by simp;omega)];rfl
 | fuel+1,t,j,listed,hsz,hcl,hj,hn,h1,h2=>by
  obtain ⟨i,x,t',hx,hif,hr,hgo,eB,hcl',dO⟩:=Pb dQ fuel t listed hsz hcl (q:=j) (by omega) (h2 j (Ak _));have hij: ¬i<j:=fun e=>by rw [h1 i e] at hif;cases hif
  have e:i=j:=by
   by_cases h:j<i
   .have:listed.getD j false=true:=hf i x (by omega) hx j h _ hcl hr;rw [h2 j (Ak _)] at this;cases this
   .omega
  subst e;rw [hgo,Pc dQ hf fuel t' (i+1) _ eB hcl' (by omega) (by omega) (fun q hq=>by
   rw [dO];by_cases e:q=i
   .simp [e]
   .rw [h1 q (by omega)];rfl) (fun q hq=>by
   rw [dO,h2 q (by omega)];simp;omega)]
  rw [Bk (show i<(List.range ops.size).length by simp;omega)];simp
theorem w0c {ops:Array Oper} {m:Nat} (dQ: ∀(j:Nat) o,ops[j]? =some o-> ∀e∈o.after.toList,Region.binds .any e=true->e.on<j) (hm:m<ops.size) (hf: ∀j x,m<=j->ops[j]? =some x-> ∀i,i<j->E9 ops i x):
  ∀(fuel t:Nat) (listed:Array Bool),listed.size=ops.size->Dk ops (fun i=>listed.getD i false)->(List.range ops.size).countP (fun i=> !listed.getD i false)=fuel->(∀q,m<=q->listed.getD q false=false)->
   ∃l,Region.linearise.go .any ops fuel t listed []=l++(List.range ops.size).drop m/\ ∀i∈l,i<m:=by
 intro fuel
 induction fuel with
 | zero=>
  intro t listed hsz _ hc hl;have:=List.countP_eq_zero.1 hc m (AM.2 hm)
  grind
 | succ fuel ih=>
  intro t listed hsz hcl hc hl;obtain ⟨i,x,t',hx,hif,hr,hgo,eB,hcl',dO⟩:=Pb dQ fuel t listed hsz hcl hm (hl m (Ak _));have hil:i<ops.size:=(As.1 hx).1;have hc':(List.range ops.size).countP (fun q=> !(listed.setIfInBounds i true).getD q false)=fuel:=by have:=Kr (fun q=> !listed.getD q false) (fun q=> !(listed.setIfInBounds i true).getD q false) i ops.size (fun k hk=>by grind) (by grind) (by grind) hil;omega
  by_cases him:i<m
  .obtain ⟨l,h2,h3⟩:=ih t' (listed.setIfInBounds i true) eB hcl' hc' (fun q hq=>by grind)
   grind
  .have e:i=m:=by
    by_cases h:m<i
    .have:listed.getD m false=true:=hf i x (by omega) hx m h _ hcl hr
     grind
    .omega
   subst e;have dC: ∀q,q<i->listed.getD q false=true:=fun q hq=>hf i x (Ak _) hx q hq _ hcl hr;refine ⟨[],?_,fun q hq=>by cases hq⟩;have hcount:fuel+1+i=ops.size:=by
    rw [<-hc];have key: ∀n,i<=n->n<=ops.size->(List.range n).countP (fun q=> !listed.getD q false)+i=n:=by
     intro n
     induction n with
     | zero=>grind
     | succ n ihn=>
      intro h1 h2;rw [List.range_succ,List.countP_append];by_cases e:i<=n
      .grind
      .have hni:n+1=i:=(by omega);have h0:(List.range n).countP (fun q=> !listed.getD q false)=0:=List.countP_eq_zero.2 fun q hq=>by
        grind
       grind
    grind
   grind [Pc]
theorem Of {b:Frame} {k:List Item} {cs:List Frame} {ops:Array Oper} {Q:Exit->Act->World->Prop} (hQ: ∀e a w,Q e a w->e=.normal) {m:Nat} (hm:m<=ops.size) (hnd:Kd ops=true)
  (hg: ∀i x g,i<m->ops[i]? =some x->x.guard=some g->g.1<m) {r:List Nat} (hr: ∀i∈r,m<=i): ∀(l:List Nat) (a:Act) (w:World),(∀i∈l,i<m)->wpOps P (Xj ops m) Q (l++r) a w->
   ∃a' w',Q .normal a' w'/\Steps P (lone (b.atR a (.inRegion ops (l++r)::k)) cs w) (lone (b.atR a' (.inRegion ops r::k)) cs w')
 | [],a,w,_,h=>by
  refine ⟨a,w,?_,Steps.refl _ _⟩;rw [Bg] at h;clear hg
  induction r with
  | nil=>exact h
  | cons i r ih=>
   refine ih (fun q hq=>hr q (by simp [hq])) ?_;simp only [wpOps] at h;rw [RM hm (hr i (by simp))] at h;cases ho:ops[i]? with
   | none=>grind
   | some o=>
    rw [ho] at h;simp only [Br] at h;have hw:Region.wanted (Cg o) (yielded (Xj ops m) a.tmps)=true:=rfl;rw [AB hw] at h;rcases h with h | ⟨_,a0,w0,h0⟩
    .have h:wpOps P (Xj ops m) Q r (a.put none (a.eval (.const (.bool true)))) w:=h;exact h
    grind
 | i::l,a,w,hl,h=>by
  have him:=hl i (by simp);simp only [List.cons_append,wpOps] at h;rw [M4 hm him] at h;have hil:i<ops.size:=by omega
  obtain ⟨x,hx⟩: ∃x,ops[i]? =some x:=⟨ops[i],by simp [hil]⟩
  rw [hx] at h;simp only at h;have hy:Region.wanted x (yielded (Xj ops m) a.tmps)=Region.wanted x (yielded ops a.tmps):=by
   grind [Region.wanted,yielded,M4]
  rw [hy] at h;have h':if Region.wanted x (yielded ops a.tmps) then x.wp P a w (wpOps P (Xj ops m) Q (l++r)) Q else wpOps P (Xj ops m) Q (l++r) (a.put x.dst undef) w:=by
   by_cases hw:Region.wanted x (yielded ops a.tmps)=true
   .simp only [hw,if_true] at h ⊢;rcases h with h | ⟨_,a0,w0,h0⟩;all_goals grind
   grind
  obtain ⟨a1,w1,h1,s1⟩:=Mf (b:=b) (k:=k) (cs:=cs) (rest:=l++r) hQ hx (Jv hnd hx) h';obtain ⟨a',w',hR,hs⟩:=Of hQ hm hnd hg hr l a1 w1 (fun q hq=>hl q (by simp [hq])) h1;exact ⟨a',w',hR,s1.trans hs⟩
theorem Oj {st:St} {ops:List Oper}: ∀(l:List Oper) (i:Nat) {m:Nat},LI st ops l i=some m->i<=m/\m<i+l.length
 | [],i,m,h=>by cases h
 | o::l,i,m,h=>by
  unfold LI at h;cases hy:Q6 st ops o with
  | true=>grind
  | false=>
   rw [hy] at h;have:=Oj l (i+1) h
   grind
theorem Y8 {ops:Array Oper} {st:St} {m:Nat} (h:Nc ops st=some m):m<ops.size/\Kd ops=true/\Fn 0 (Xj ops m)=true/\(∀j x,m<=j->(Xj ops m)[j]? =some x-> ∀i,i<j->E9 (Xj ops m) i x)/\
  ∀i x g,i<m->ops[i]? =some x->x.guard=some g->g.1<m:=by
 unfold Nc at h;split at h
 .rename_i m' hd;obtain ⟨hc,h⟩:=Zq h;obtain rfl:=Ac h;have hlt:=(Oj _ _ hd).2;rw [Aj,Array.length_toList] at hlt;simp only [SI,Ad] at hc;obtain ⟨hnd,hdr,dC,hgd⟩:=hc;refine ⟨hlt,hnd,hdr,fun j x hj hx i hi=> ?_,fun i x g hi hx hgx=> ?_⟩
  .have hjl:j<ops.size:=by grind [QQ]
   have:=Az.1 dC j (AM.2 hjl);simp only [A9] at this;rcases this with h1 | h1
   .have:=Af h1;omega
   .exact ((MJ hdr).bits j x hx i (Az.1 h1 i (AM.2 hi))).2
  .have h2:=Az.1 hgd i (AM.2 hi);rw [hx] at h2;obtain ⟨dst,op,type,pos,after,guard⟩:=x;simp only at hgx;subst hgx;obtain ⟨j,want⟩:=g;exact Af h2
 .cases h
end
section
variable {P:Program} {ρ:BD}
theorem BF.setObj {mem:BH} {next:Nat} {w:World} (h:BF ρ mem next w) {b:Nat} {l:BS} {ab:BE} {o':Dv} {r':List BA} (hb:ρ b=some l) (hm:Zs mem b=some ab) (hob:ab.isObj=true) (cC:r'.length+1=ab.cells.length)
  (x:Obj) (hx:Dl ρ ab.ty l.blk r' o' (some x)):BF ρ (Yi mem b (some ⟨.obj o'::r',ab.ty,none⟩)) next (w.putObj l.blk x):=by
 have hlt:=h.real b l hb;have hn:l=⟨l.blk,0,r'.length+1,r'.length+1⟩:=by
  have:=(h.blk b l ab hb hm)
  cases this with
  | plain k=>have:=k.noObj;rw [this] at hob;cases hob
  | obj o r ty e1 e2 _=>subst e1;rw [e2];simp only [AY] at cC;rw [cC]
 have iff: ∀c,(Zs (Yi mem b (some ⟨.obj o'::r',ab.ty,none⟩)) c).isSome =(Zs mem c).isSome :=fun c=>by
  rw [Xi];split
  .rename_i e;rw [e,hm];rfl
  .rfl
 refine ⟨h.dom,fun c c' m m' e e' he hs hs'=>h.inj c c' m m' e e' he (by rw [<-iff];exact hs) (by rw [<-iff];exact hs'),fun c m ac e hc=> ?_,fun k o e=> ?_,fun c m e hs=>h.sep c m e (by rw [<-iff];exact hs),fun c m e=>by rw [World.putObj_size];exact h.real c m e,fun c hc=> ?_,h.ldom⟩
 .by_cases hcb:c=b
  .subst hcb;rw [Zd] at hc;obtain rfl:=Ac hc;rw [hb] at e;obtain rfl:=Ac e;exact .obj o' r' ab.ty rfl hn (by rw [World.putObj_heap_same hlt];exact hx)
  .rw [Zx _ _ hcb] at hc;refine (h.blk c m ac e hc).world (BD.le_refl _) (World.putObj_heap_other fun heq=>hcb ?_);exact h.inj c b m l e hb heq (by rw [hc];rfl) (by rw [hm];rfl)
 .rw [World.putObj_heap_other]
  .exact h.old k o e
  .intro heq;have:=h.sep b l hb (by rw [hm];rfl);rw [<-heq,e] at this;cases this
 .have:=h.dom b l hb;rw [Zx _ _ (by omega)];exact h.bd c hc
theorem Ev.ofObj {mem:BH} {next:Nat} {w:World} (h:BF ρ mem next w) {floor b:Nat} {l:BS} (hb:ρ b=some l) (hf:floor<=b) (o:Option BE) (x:Obj):
  Ev ρ ρ floor mem next (Yi mem b o) next w (w.putObj l.blk x) where
 ext:=BD.le_refl _
 new _ _:=rfl
 nxt:=Ak _
 unborn k _ e cs ty hm:=by
  rw [Zx]
  .exact hm
  .intro e';rw [e',hb] at e;cases e
 frame k o hk hfr:=by rw [World.putObj_heap_other fun e=>hfr b l hb hf e.symm];exact hk
 fresh k m hk e:=by have:=h.dom k m e;omega
 size:=by rw [World.putObj_size];exact Ak _
 os:=rfl
 tape:=rfl
 output:=rfl
 still _ _:=rfl
theorem BF.newObj {mem:BH} {next:Nat} {w:World} (h:BF ρ mem next w) (o:Dv) (r:List BA) (ty:TypeId) (x:Obj) (hx:Dl ρ ty w.heap.size r o (some x)):
  BF (Xr ρ next ⟨w.heap.size,0,r.length+1,r.length+1⟩) (Yi mem next (some ⟨.obj o::r,ty,none⟩)) (next+1) (w.alloc x):=by
 have hle:=Vt (l:=⟨w.heap.size,0,r.length+1,r.length+1⟩) h.none_next;have cI: ∀b l,Xr ρ next ⟨w.heap.size,0,r.length+1,r.length+1⟩ b=some l->(b=next/\l=⟨w.heap.size,0,r.length+1,r.length+1⟩)\/(b≠next/\ρ b=some l):=fun b l e=>by
  grind [Ww]
 have hold: ∀k,k<w.heap.size->(w.alloc x).heap[k]? =w.heap[k]? :=fun k hk=>by show (w.heap.push x)[k]? =_;rw [Bo,At (AU hk)]
 have hnew:(w.alloc x).heap[w.heap.size]? =some x:=World.alloc_heap_new w x;have dX:(w.alloc x).heap.size =w.heap.size+1:=Array.size_push _;refine ⟨fun b l e=> ?_,fun b b' l l' e e' hbl hs hs'=> ?_,fun b l ab e hm=> ?_,fun k o e=> ?_,fun b l e hs=> ?_,fun b l e=> ?_,fun b hb=>by rw [Zx _ _ (by omega)];exact h.bd b (by omega),⟨fun j l e=>AW (h.ldom.1 j l e),h.ldom.2⟩⟩
 .rcases cI b l e with ⟨rfl,_⟩ | ⟨_,e⟩
  .omega
  .have:=h.dom b l e;omega
 .rcases cI b l e with ⟨hb,hl⟩ | ⟨hb,e2⟩ <;> rcases cI b' l' e' with ⟨hb',hl'⟩ | ⟨hb',e2'⟩
  .rw [hb,hb']
  .have:=h.real b' l' e2';grind
  .have:=h.real b l e2;grind
  .rw [Zx _ _ hb] at hs;rw [Zx _ _ hb'] at hs';exact h.inj b b' l l' e2 e2' hbl hs hs'
 .rcases cI b l e with ⟨rfl,rfl⟩ | ⟨hb,e⟩
  .rw [Zd] at hm;obtain rfl:=Ac hm;exact .obj o r ty rfl rfl (by rw [hnew];exact hx.mono hle)
  .rw [Zx _ _ hb] at hm;exact (h.blk b l ab e hm).world hle (hold _ (h.real b l e))
 .have hk:=h.old k o e;have hlt:=(As.1 hk).1;rw [hold k hlt];exact hk
 .rcases cI b l e with ⟨rfl,rfl⟩ | ⟨hb,e⟩
  .exact h.hold _ (Ak _)
  .rw [Zx _ _ hb] at hs;exact h.sep b l e hs
 .rw [dX];rcases cI b l e with ⟨rfl,rfl⟩ | ⟨_,e⟩
  .show w.heap.size<_;omega
  .have:=h.real b l e;omega
theorem MN {st:St} {w:World} (h:BF ρ st.mem st.next w) (floor:Nat) (o:Dv) (r:List BA) (ty:TypeId) (x:Obj) (hx:Dl ρ ty w.heap.size r o (some x)) {v:BA} {u:Value}
  (cQ: ∀ρ',ρ' st.next=some ⟨w.heap.size,0,r.length+1,r.length+1⟩->Zb ρ' v u):
  CK ρ floor st (BY st (.obj o::r) ty) v w (Xr ρ st.next ⟨w.heap.size,0,r.length+1,r.length+1⟩) u (w.alloc x):=
 ⟨cQ _ (by simp [Xr]),h.newObj o r ty x hx,Ev.ofNew h floor _ _ _ (Ak _)⟩
theorem U1 {w:World} {k:Nat} {c cs:Array Value} {el:TypeId} {fz:Nat×Nat} (h:w.heap[k]? =some (.cells c el fz)):w.setRow k cs=w.putObj k (.cells cs el fz):=by
 unfold World.setRow World.putObj
 congr 1
 apply Array.ext_getElem?;intro i;rw [A5,Array.getElem?_setIfInBounds];have hlt:=(As.1 h).1;by_cases e:k=i
 .subst e;rw [AB rfl,AB rfl,h];simp [hlt]
 .simp [e]
theorem P4 {w:World} {k:Nat} {s:ByteArray} {p:Nat} (h:w.heap[k]? =some (.stringIter s p)):(getObj k).run P w=.ok (.stringIter s p) w:=by simp [getObj,Sem.run,h]
theorem VW {w:World} {k:Nat} {s:ByteArray} {p:Nat} {o':Obj} (h:w.heap[k]? =some (.stringIter s p)):(setObj k o').run P w=.ok () (w.putObj k o'):=by simp [setObj,Sem.run,h,World.putObj]
theorem Q1 {w:World} {t:TypeId} {m:Array (String×TypeId)} (h:P.underlying t=some (.interface m)) (v:Value) (hv:v=.nilIface \/ ∃d z,v=.iface d z):(Op.equal t v .nilIface).run P w=.ok (match v with | .nilIface =>true | _=>false) w:=by
 have key: ∀d,(Op.equalIn (d+1) t v .nilIface).run P w=.ok (match v with | .nilIface =>true | _=>false) w:=fun d=>by rcases hv with rfl | ⟨d,z,rfl⟩ <;> simp [Op.equalIn,run_underlying h]
 exact key 9999
theorem BF.objAt {mem:BH} {next:Nat} {w:World} (h:BF ρ mem next w) {b:Nat} {l:BS} {o:Dv} {r:List BA} {ty:TypeId} (hb:ρ b=some l) (hm:Zs mem b=some ⟨.obj o::r,ty,none⟩):Dl ρ ty l.blk r o w.heap[l.blk]? :=by
 have:=h.blk b l _ hb hm;cases this with
 | plain k=>have:=k.noObj;cases this
 | obj o' r' ty' e1 e2 h3=>simp only [BE.mk.injEq,Bc,BA.obj.injEq] at e1;obtain ⟨⟨rfl,rfl⟩,rfl,_⟩:=e1;exact h3
theorem BF.objBase {mem:BH} {next:Nat} {w:World} (h:BF ρ mem next w) {b:Nat} {l:BS} {o:Dv} {r:List BA} {ty:TypeId} (hb:ρ b=some l) (hm:Zs mem b=some ⟨.obj o::r,ty,none⟩):l.base=0:=by
 have:=h.blk b l _ hb hm;cases this with
 | plain k=>have:=k.noObj;cases this
 | obj o' r' ty' e1 e2 h3=>rw [e2]
def Cr {α:Type} (vf:α->Value) (es:List MapEntry) (l:List (List UInt8×α)):Prop:=es.map (fun e=>(e.key,e.val))=l.map fun p=>(.string ⟨p.1.toArray⟩,vf p.2)
def DX {α:Type} (vf:α->Value) (k:List UInt8):List (List UInt8×α)->Nat->Option (Nat×Value)
 | [],_=>none
 | p::r,i=>bif k == p.1 then some (i,vf p.2) else DX vf k r (i+1)
theorem bytes_beq (a b:List UInt8):((⟨a.toArray⟩:ByteArray) == ⟨b.toArray⟩)=(a == b):=by rw [Bool.eq_iff_iff,MapKept.bytes_beq,beq_iff_eq];simp
theorem MK {α:Type} (vf:α->Value) (k:List UInt8): ∀(es:List MapEntry) (l:List (List UInt8×α)) (i:Nat),Cr vf es l->Instr.findNow .string (.string ⟨k.toArray⟩) es i=some (DX vf k l i)
 | [],[],_,_=>rfl
 | [],_::_,_,h=>by cases h
 | _::_,[],_,h=>by cases h
 | e::es,p::l,i,h=>by
  unfold Cr at h;simp only [AQ,Bc,Aa] at h;obtain ⟨⟨h1,h2⟩,h3⟩:=h;have ih:=MK vf k es l (i+1) h3;unfold Instr.findNow DX;rw [h1];simp only [Instr.sameNow,bytes_beq];cases hk:(k == p.1) with
  | true=>rw [Ah,h2]
  | false=>rw [Ai];exact ih
theorem P1 {α:Type} (vf:α->Value) (d:α) (k:List UInt8): ∀(l:List (List UInt8×α)) (i:Nat),match DX vf k l i with
  | some (_,v)=>v=vf (Dh d l k)/\GW l k=true
  | none=>Dh d l k=d/\GW l k=false
 | [],_=>⟨rfl,rfl⟩
 | p::l,i=>by
  have ih:=P1 vf d k l (i+1);unfold DX Dh GW;cases hk:(k == p.1) with
  | true=>simp [hk]
  | false=>simpa [hk,GW] using ih
theorem P2 {α:Type} (vf:α->Value) (k:List UInt8) (v:α) (c:Nat): ∀(l:List (List UInt8×α)) (es:List MapEntry) (i:Nat),Cr vf es l->match DX vf k l i with
  | some (j,_)=>i<=j/\(∃e,es[j - i]? =some e/\e.key=.string ⟨k.toArray⟩)/\Cr vf (es.modify (j - i) fun e=>{e with key:=.string ⟨k.toArray⟩,val:=vf v}) (El l k v)
  | none=>Cr vf (es++[⟨.string ⟨k.toArray⟩,vf v,c⟩]) (El l k v)
 | [],es,i,h=>by
  have:es=[]:=by unfold Cr at h;simpa using h
  subst this;simp [DX,El,Cr]
 | p::l,[],i,h=>by cases h
 | p::l,e::es,i,h=>by
  unfold Cr at h;simp only [AQ,Bc,Aa] at h;obtain ⟨⟨h1,h2⟩,h3⟩:=h;have ih:=P2 vf k v c l es (i+1) h3;unfold DX El;cases hk:(k == p.1) with
  | true=>
   have hk':k=p.1:=by simpa using hk
   simp only [Ah,Nat.sub_self];refine ⟨Ak _,⟨e,rfl,by rw [h1,hk']⟩,?_⟩;unfold Cr;simp only [List.modify_zero_cons,AQ,Bc,Aa];exact ⟨⟨by rw [hk'],trivial⟩,h3⟩
  | false=>
   simp only [Ai];cases hf:DX vf k l (i+1) with
   | none=>rw [hf] at ih;unfold Cr at ih ⊢;simp only [List.cons_append,AQ,Bc,Aa];exact ⟨⟨h1,h2⟩,ih⟩
   | some q=>rw [hf] at ih;obtain ⟨j,x⟩:=q;simp only at ih ⊢;obtain ⟨k1,⟨e',k2,k3⟩,k4⟩:=ih;have hj:j - i=(j - (i+1))+1:=(by omega);refine ⟨by omega,⟨e',by rw [hj];exact k2,k3⟩,?_⟩;rw [hj];unfold Cr at k4 ⊢;simp only [List.modify_succ_cons,AQ,Bc,Aa];exact ⟨⟨h1,h2⟩,k4⟩
theorem PW {α:Type} (vf:α->Value) (d:α) {w:World} {t kt et:TypeId} {r clock:Nat} {es:Array MapEntry} {l:List (List UInt8×α)} (hm:P.underlying t=some (.map kt et)) (hk:P.underlying kt=some .string)
  (hz:(zeroValue et).run P w=.ok (vf d) w) (hb:w.heap[r]? =some (.map es clock)) (hes:Cr vf es.toList l) (k:List UInt8) (co:Bool):
  (Instr.lookup t (.map (some r)) (.string ⟨k.toArray⟩) co).run P w=.ok (if co then .tuple #[vf (Dh d l k),.bool (GW l k)] else vf (Dh d l k)) w:=by
 have hf:=MK vf k es.toList l 0 hes;have hc: ∀b,(Instr.checkKey b 10000 kt (.string ⟨k.toArray⟩)).run P w=.ok () w:=fun b=>MapKept.run_checkKey (k:=.string ⟨k.toArray⟩) hk (by simp [MapKept.IsKey]) b 9999;have hg:=P1 vf d k l 0;cases hfk:DX vf k l 0 with
 | none=>rw [hfk] at hf hg;simp only at hg;rw [hg.1,hg.2];simp [Instr.lookup,run_underlying hm,MapKept.run_getObj_map hb,hc,MapKept.run_findKey hk hf,hz,Result.andThen]
 | some q=>obtain ⟨j,v⟩:=q;rw [hfk] at hf hg;simp only at hg;rw [<-hg.1,hg.2];simp [Instr.lookup,run_underlying hm,MapKept.run_getObj_map hb,hc,MapKept.run_findKey hk hf,Result.andThen]
theorem PX {α:Type} (vf:α->Value) {w:World} {t kt et:TypeId} {r clock:Nat} {es:Array MapEntry} {l:List (List UInt8×α)} (hm:P.underlying t=some (.map kt et)) (hk:P.underlying kt=some .string)
  (hb:w.heap[r]? =some (.map es clock)) (hes:Cr vf es.toList l) (k:List UInt8) (v:α):
  ∃es' clock',(Instr.mapUpdate t (.map (some r)) (.string ⟨k.toArray⟩) (vf v)).run P w=.ok () (w.putObj r (.map es' clock'))/\Cr vf es'.toList (El l k v):=by
 have hf:=MK vf k es.toList l 0 hes;have hc: ∀b,(Instr.checkKey b 10000 kt (.string ⟨k.toArray⟩)).run P w=.ok () w:=fun b=>MapKept.run_checkKey (k:=.string ⟨k.toArray⟩) hk (by simp [MapKept.IsKey]) b 9999;have hg:=P2 vf k v clock l es.toList 0 hes;cases hfk:DX vf k l 0 with
 | none=>rw [hfk] at hf hg;simp only at hg;refine ⟨es.push ⟨.string ⟨k.toArray⟩,vf v,clock⟩,clock+1,?_,by simpa using hg⟩;simp [Instr.mapUpdate,run_underlying hm,MapKept.run_getObj_map hb,hc,MapKept.run_findKey hk hf,MapKept.run_setObj_map _ hb,Result.andThen,World.putObj]
 | some q=>
  obtain ⟨j,x⟩:=q;rw [hfk] at hf hg;simp only [Nat.sub_zero] at hg;obtain ⟨_,⟨e,h1,h2⟩,h3⟩:=hg;have h1':es[j]? =some e:=by simpa using h1
  refine ⟨es.modify j fun e=>{e with key:=.string ⟨k.toArray⟩,val:=vf v},clock,?_,by simpa using h3⟩;have hs: ∀w:World,(Instr.keyThatStays (.string ⟨k.toArray⟩) (.string ⟨k.toArray⟩)).run P w=.ok (.string ⟨k.toArray⟩) w:=fun w=>by simp [Instr.keyThatStays,Instr.sameBits,(MapKept.bytes_beq (⟨k.toArray⟩:ByteArray) ⟨k.toArray⟩).2 rfl]
  simp [Instr.mapUpdate,run_underlying hm,MapKept.run_getObj_map hb,hc,MapKept.run_findKey hk hf,MapKept.run_setObj_map _ hb,Result.andThen,World.putObj,h1',h2,hs]
theorem QT {v:BA} {u:Value} (h:Hi v=true) (hr:Zb ρ v u):u=.int .u8 ((Ic v).toNat :Int):=by
 unfold Hi at h;split at h
 .rename_i n;have h:=AA h;cases hr;simp only [Ic]
  congr 1
  have:(UInt8.ofNat n.toNat).toNat =n.toNat:=by rw [UInt8.toNat_ofNat'];omega
  rw [this];omega
 .cases h
def QV (w:World) (el:TypeId) (g o:Nat) (s:List UInt8):Prop:= ∃cs,w.heap[g]? =some (.cells cs el (0,0))/\(s≠ []->o+s.length<=cs.size)/\ ∀j x,s[j]? =some x->cs[o+j]? =some (.int .u8 x.toNat)
theorem MQ {mem:BH} {next:Nat} {w:World} (cB:BF ρ mem next w) {v:BA} {u:Value} {s:List UInt8} (h:Ib mem v=some (s,true)) (hv:Zb ρ v u):
  (u=.slice none 0 0/\s=[])\/ ∃b l g o c el,JG v=some b/\ρ b=some l/\(Zs mem b).isSome =true/\l.blk=g/\u=.slice (some ⟨g,o,none⟩) s.length c/\s.length<=c/\(∀ab,Zs mem b=some ab->el=ab.ty)/\QV w el g o s:=by
 unfold Ib at h;split at h
 .simp only [Ab,Aa] at h;obtain ⟨rfl,_⟩:=h;cases hv;exact .inl ⟨rfl,rfl⟩
 .rename_i b off len cap;split at h
  .rename_i blk hm;obtain ⟨hno,h⟩:=Fk h;split at h
   .rename_i cs hc;simp only [Ab,Aa] at h;obtain ⟨rfl,dC⟩:=h;obtain ⟨k1,k2,k3⟩:=Kn hc;cases hv with
    | sl _ _ _ _ l c hl _ cC=>
     obtain ⟨hty,hn,ht,_,cur,el,h1,h2,h3⟩:=(cB.blk b l blk hl hm).at hno;refine .inr ⟨b,l,l.blk,l.base+off,c,el,rfl,hl,by rw [hm];rfl,rfl,by simp [k2],by simpa [k2] using cC,fun ab e=>by rw [hm] at e;rw [<-Ac e];exact hty _ _ _ h1,cur,h1,?_,fun j x hx=> ?_⟩
     .intro hne;have:len≠0:=fun e=>hne (by rw [List.map_eq_nil_iff];exact Bf (by rw [k2,e]));simp only [List.length_map,k2];omega
     .simp only [Bi,Ag] at hx;obtain ⟨y,hy,rfl⟩:=hx;have hj:j<cs.length:=(AK.1 hy).1;obtain ⟨z,q1,q2⟩:=h3 (off+j) (by omega);have hyz:blk.cells[off+j]'(by omega)=y:=by
       have:cs[j]? =blk.cells[off+j]? :=by rw [k1,List.getElem?_take,AB (by omega),List.getElem?_drop]
       rw [this,Ao (by omega)] at hy;exact Ac hy
      rw [hyz] at q2;have hby:=Az.1 dC y (List.mem_of_getElem? hy);rw [AF,q1,QT hby q2]
   .cases h
  .cases h
 .rename_i b sz off len cap;split at h
  .rename_i blk hm;split at h
   .rename_i A hA;simp only [Ab,Aa,Ad,Au] at h;obtain ⟨rfl,hs1,hs2,cL,hok⟩:=h;obtain rfl:=Ae hs1;have hsz:=Ae hs2;have hok: ∀k,k<len-> ∃v,A.get (off+k)=[v]/\Hi v=true:=Mv (fun h k hk=>by
     have:=Az.1 h k (AM.2 hk);unfold QY at this;split at this
     .rename_i v e;exact ⟨v,e,this⟩
     .cases this) hok
    have hlen0:(Iw len fun k=>A.get (off+k)).length =len:=(by simp [Iw]);cases hv with
    | slan=>exact .inl ⟨rfl,by simp [Iw]⟩
    | sla _ _ _ _ _ l c hl _ cC=>
     obtain ⟨hty,hn,ht,har,cur,el,h1,h2,h3⟩:=(cB.blk b l blk hl hm).rows hA;obtain ⟨a1,a2,a3⟩:=har A hA;have hrl:=Zh A.n a3;rw [<-a1,hsz,Nat.mul_one] at hrl;refine .inr ⟨b,l,l.blk,l.base+off*1,c,el,rfl,hl,by rw [hm];rfl,rfl,by rw [hlen0],by rw [hlen0];exact cC,fun ab e=>by rw [hm] at e;rw [<-Ac e];exact hty _ _ _ h1,cur,h1,?_,fun j x hx=> ?_⟩
     .intro _;rw [hlen0];omega
     .have hj:j<len:=by rw [<-hlen0];exact (AK.1 hx).1
      obtain ⟨v0,e1,e2⟩:=hok j hj;obtain ⟨z,q1,q2⟩:=h3 (off+j) (by omega);have hg:blk.cells[off+j]? =some v0:=by
       have:=Xc A.n a3 (off+j) 0 (by omega) (by omega);rw [hsz] at this;rw [a1]
       simpa [e1] using this
      have hyz:blk.cells[off+j]'(by omega)=v0:=by rw [Ao (by omega)] at hg;exact Ac hg
      rw [hyz] at q2;have hx':x=Ic v0:=by simp only [Iw,Bi,List.getElem?_range hj,Br,Ab] at hx;rw [<-hx,e1];rfl
      rw [Nat.mul_one,AF,q1,QT e2 q2,hx']
   .cases h
  .cases h
 .cases h
theorem W7 {w:World} {g o c:Nat} {el:TypeId} {s:List UInt8} (h:QV w el g o s):(Conv.bytesToString (.slice (some ⟨g,o,none⟩) s.length c)).run P w=.ok (.string ⟨s.toArray⟩) w:=by
 obtain ⟨cs,h1,h2,h3⟩:=h;have hl:(loadCells ⟨g,o,none⟩ s.length).run P w=.ok ((s.map fun x=>(x.toNat:Int)).map (Value.int .u8)).toArray w:=by
  have:=run_loadCells_list (P:=P) w ⟨g,o,none⟩ ((s.map fun x=>(x.toNat:Int)).map (Value.int .u8)) fun j v hv=>by simp only [List.map_map,Bi,Ag] at hv;obtain ⟨x,hx,rfl⟩:=hv;rw [Yf];have:=h3 j x hx;simp [World.cell?,h1,this]
  simpa using this
 rw [run_bytesToString w ⟨g,o,none⟩ s.length c _ hl]
 congr 2
 have: ∀(l:List UInt8) (acc:ByteArray),(l.map fun x=>(x.toNat:Int)).foldl (fun r n=>r.push (UInt8.ofNat n.toNat)) acc=⟨acc.data++l.toArray⟩:=by
  intro l
  induction l with
  | nil=>intro acc;simp
  | cons x l ih=>intro acc;simp only [AQ,List.foldl_cons,ih];simp [ByteArray.push]
 rw [this];simp
theorem M7 :Zb ρ (.tup []) undef:=.tup [] #[] rfl fun j h1 _=>by simp at h1
theorem Ot {floor:Nat} {st st':St} {t:TypeId} {x k v:BA} (h:Hm P floor st t x k v=some st'):Yq floor st st'/\st'.env=st.env:=by
 unfold Hm at h;split at h
 .obtain ⟨hf,h⟩:=Zq h;have hf:=Af hf;split at h
  .rename_i hm _;obtain rfl:=Ac h;exact ⟨Yq.write st _ hf hm,rfl⟩
  .rename_i hm _;obtain rfl:=Ac h;exact ⟨Yq.write st _ hf hm,rfl⟩
  .cases h
 .cases h
theorem Ju {t:TypeId} {kd:Bool} (h:IV P t=some kd): ∃k e,P.underlying t=some (.map k e)/\P.underlying k=some .string /\ ∀w,(zeroValue e).run P w=.ok (bif kd then .int .i64 0 else .bool false) w:=by
 unfold IV at h;split at h
 .rename_i k e hu;refine ⟨k,e,hu,?_⟩;split at h
  .rename_i i h1 h2 h3;split at h
   .rename_i n hz;obtain ⟨hn,h⟩:=Zq h;obtain rfl:=Ac h;obtain rfl:n=0:=by simpa using hn
    exact ⟨h1,fun w=>by simp [zeroValue,run_typeInfo w h3,hz]⟩
   .cases h
  .rename_i i h1 h2 h3;split at h
   .rename_i b hz;cases b with
    | true=>cases h
    | false=>obtain rfl:=Ac h;exact ⟨h1,fun w=>by simp [zeroValue,run_typeInfo w h3,hz]⟩
   .cases h
  .cases h
 .cases h
theorem PN {floor:Nat} {st st':St} {t:TypeId} {x k v:BA} (h:Hm P floor st t x k v=some st') {w:World} (cB:BF ρ st.mem st.next w) {ux uk uv:Value} (hx:Zb ρ x ux) (hk:Zb ρ k uk) (hv:Zb ρ v uv):
  ∃w',(Instr.mapUpdate t ux uk uv).run P w=.ok () w'/\CK ρ floor st st' (.tup []) w ρ undef w':=by
 unfold Hm at h;split at h
 .rename_i b ks;obtain ⟨hf,h⟩:=Zq h;have hf:=Af hf;cases hx with
  | mapr _ l hl=>
  cases hk;split at h
  .rename_i ml ty n hkd hm _;obtain rfl:=Ac h;cases hv;obtain ⟨kt,et,hu,hk,_⟩:=Ju hkd;obtain ⟨_,es,ck,ho,hes⟩:=cB.objAt hl hm;obtain ⟨es',ck',cE,hes'⟩:=PX (P:=P) (fun n:Int=>.int .i64 n) hu hk ho hes ks n;exact ⟨_,cE,M7,cB.setObj hl hm rfl rfl _ ⟨rfl,es',ck',rfl,hes'⟩,Ev.ofObj cB hl hf _ _⟩
  .rename_i ml ty e hkd hm _;obtain rfl:=Ac h;cases hv;obtain ⟨kt,et,hu,hk,_⟩:=Ju hkd;obtain ⟨_,es,ck,ho,hes⟩:=cB.objAt hl hm;obtain ⟨es',ck',cE,hes'⟩:=PX (P:=P) (fun n:Bool=>.bool n) hu hk ho hes ks e;exact ⟨_,cE,M7,cB.setObj hl hm rfl rfl _ ⟨rfl,es',ck',rfl,hes'⟩,Ev.ofObj cB hl hf _ _⟩
  .cases h
 .cases h
theorem Yq.kill {floor:Nat} (st:St) {c:Nat} (hf:floor<=c):Yq floor st (st.withMem (Yi st.mem c none)) where
 nxt:=Ak _
 bd h k hk:=by
  show Zs (Yi st.mem c none) k=none;rw [Xi];split
  .rfl
  .exact h k hk
 low _ k hk:=Zx _ _ (by omega)
 ob h:=h
theorem H7 {floor:Nat} {st st':St} {op:Op} {v:BA} {b:Bool} (h:aX P floor st op=some (v,b,st')):Yq floor st st'/\st'.env=st.env:=by
 have same: ∀{v0:BA} {b0:Bool},some (v0,b0,st)=some (v,b,st')->Yq floor st st'/\st'.env=st.env:=fun e=>by simp only [Ab,Aa] at e;obtain ⟨_,_,rfl⟩:=e;exact ⟨Yq.refl _ _,rfl⟩
 have fresh: ∀{v0:BA} {b0:Bool} {cs:List BA} {ty:TypeId},some (v0,b0,BY st cs ty)=some (v,b,st')->Yq floor st st'/\st'.env=st.env:=fun e=>by simp only [Ab,Aa] at e;obtain ⟨_,_,rfl⟩:=e;exact ⟨Yq.new st _ _,rfl⟩
 unfold aX at h;split at h
 .split at h
  .exact fresh h
  .cases h
 .split at h
  .split at h
   .exact same h
   .exact same h
   .cases h
  .cases h
 .simp only [Ag,Aa] at h;obtain ⟨st1,h1,_,_,rfl⟩:=h;exact Ot h1
 .simp only [Ag,Aa] at h;obtain ⟨st1,h1,_,_,rfl⟩:=h;exact Ot h1
 .split at h
  .exact fresh h
  .cases h
 .split at h
  .obtain ⟨hf,h⟩:=Zq h;split at h
   .rename_i c s pos ty hm;split at h;rename_i e st1 ht;obtain ⟨t1,t2,t3,t4⟩:=Qa ht;simp only [Ab,Aa] at h;obtain ⟨_,_,rfl⟩:=h;have hi:=Yq.same (floor:=floor) t2 t3 fun ho=>(t4 ho).2;cases e with
    | false=>exact ⟨hi,t1⟩
    | true=>exact ⟨hi.trans (Yq.write st1 _ (Af hf) (by rw [t2];exact hm)),t1⟩
   .cases h
  .cases h
 .obtain ⟨_,h⟩:=Zq h;split at h
  .split at h
   .exact fresh h
   .cases h
  .cases h
 .split at h
  .split at h
   .exact same h
   .cases h
  .cases h
 .split at h
  .obtain ⟨hf,h⟩:=Zq h;simp only [Ad] at hf;split at h
   .rename_i hm _;obtain ⟨_,h⟩:=Zq h;simp only [Ab,Aa] at h;obtain ⟨_,_,rfl⟩:=h;exact ⟨Yq.write st _ (Af hf.1) hm,rfl⟩
   .cases h
  .cases h
 .split at h
  .split at h
   .split at h
    .exact same h
    .cases h
   .cases h
  .cases h
 .split at h
  .split at h
   .exact same h
   .exact same h
   .cases h
  .cases h
 .split at h
  .obtain ⟨_,h⟩:=Zq h;split at h
   .obtain ⟨_,h⟩:=Zq h;split at h
    .split at h
     .exact same h
     .rename_i c _;obtain ⟨hc,h⟩:=Zq h;simp only [Ad] at hc;simp only [Ab,Aa] at h;obtain ⟨_,_,rfl⟩:=h;have hc1:=Af hc.1;cases hmc:Zs st.mem c with
      | some ab=>exact ⟨Yq.write st _ hc1 hmc,rfl⟩
      | none=>exact ⟨Yq.kill st hc1,rfl⟩
    .cases h
   .cases h
  .cases h
 .cases h
theorem BF.kept {mem:BH} {next:Nat} {w w':World} (h:BF ρ mem next w) (hs:w.heap.size<=w'.heap.size) {p:Nat->Prop} (hp: ∀b l,ρ b=some l->(Zs mem b).isSome =true->p l.blk) (hz: ∀k o,ρ.fz k=some o->p k)
  (hk: ∀k o,w.heap[k]? =some o->p k->w'.heap[k]? =some o):BF ρ mem next w':=
 ⟨h.dom,h.inj,fun b l ab e hm=>by
  have q:=h.blk b l ab e hm;obtain ⟨o,ho⟩:=q.some;exact q.world (BD.le_refl _) (by rw [ho];exact hk _ _ ho (hp b l e (by rw [hm];rfl))),fun k o e=>hk k o (h.old k o e) (hz k o e),h.sep,fun b l e=>AJ (h.real b l e) hs,h.bd,h.ldom⟩
theorem w1j (hN:CY P) {o:Oper} {floor:Nat} {st st':St} {v:BA} (h:aX P floor st o.op=some (v,true,st')) (hob:st'.ob=true) {a:Act} (hr:Vb ρ st.eval a.eval o.op) {w:World} (cB:BF ρ st.mem st.next w):
  GR P o a w (CK ρ floor st st' v w):=by
 obtain ⟨dst,op,type,pos,after,guard⟩:=o;simp only at h hr;unfold aX at h;split at h
 ·-- makeMap
  rename_i t;split at h
  .rename_i kd hkd;simp only [Ab,Aa] at h;obtain ⟨rfl,_,rfl⟩:=h;refine .inl ⟨_,.map (some w.heap.size),_,?_,MN cB floor _ [] t (.map #[] 0) ?_ fun ρ' hρ'=>.mapr _ _ hρ'⟩
   .have hmk:(Instr.makeMap t none).run P w=.ok (.map (some w.heap.size)) (w.alloc (.map #[] 0)):=rfl;simp [execOp,hmk]
   .cases kd
    .exact ⟨rfl,_,_,rfl,rfl⟩
    .exact ⟨rfl,_,_,rfl,rfl⟩
  .cases h
 ·-- lookup
  rename_i t x i co;have hx:=hr x (by simp [Op.operands]);have hi:=hr i (by simp [Op.operands]);split at h
  .rename_i b ks ex ei;rw [ex] at hx;rw [ei] at hi;generalize hux:a.eval x=ux at hx;generalize hui:a.eval i=ui at hi;cases hx with
   | mapr _ l hl=>
   cases hi;split at h
   .rename_i ml ty hkd hm;obtain ⟨kt,et,hu,hk,hz⟩:=Ju hkd;simp only [Ab,Aa] at h;obtain ⟨rfl,_,rfl⟩:=h;obtain ⟨_,es,ck,ho,hes⟩:=cB.objAt hl hm;have cE:=PW (P:=P) (fun n:Int=>.int .i64 n) 0 hu hk (hz w) ho hes ks co;refine .inl ⟨ρ,_,w,by simp only [execOp,hux,hui];simp only [Sem.run_bind,cE,Result.andThen];rfl,?_,cB,Ev.refl _ _ _ _ _ cB.dom⟩;cases co
    .exact .int _ _
    .exact .tup _ _ rfl fun j h1 h2=>by
      match j with
      | 0=>exact .int _ _
      | 1=>exact .bool _
      | j+2=>simp at h1;omega
   .rename_i ml ty hkd hm;obtain ⟨kt,et,hu,hk,hz⟩:=Ju hkd;simp only [Ab,Aa] at h;obtain ⟨rfl,_,rfl⟩:=h;obtain ⟨_,es,ck,ho,hes⟩:=cB.objAt hl hm;have cE:=PW (P:=P) (fun n:Bool=>.bool n) false hu hk (hz w) ho hes ks co;refine .inl ⟨ρ,_,w,by simp only [execOp,hux,hui];simp only [Sem.run_bind,cE,Result.andThen];rfl,?_,cB,Ev.refl _ _ _ _ _ cB.dom⟩;cases co
    .exact .bool _
    .exact .tup _ _ rfl fun j h1 h2=>by
      match j with
      | 0=>exact .bool _
      | 1=>exact .bool _
      | j+2=>simp at h1;omega
   .cases h
  .cases h
 ·-- mapUpdate
  rename_i t m k x;simp only [Ag,Aa] at h;obtain ⟨st1,h1,rfl,_,rfl⟩:=h;obtain ⟨w',cE,hp⟩:=PN h1 cB (hr m (by simp [Op.operands])) (hr k (by simp [Op.operands])) (hr x (by simp [Op.operands]));exact .inr (.inl ⟨ρ,w',by simp [execOp,cE],hp⟩)
 ·-- insert
  rename_i t m k x;simp only [Ag,Aa] at h;obtain ⟨st1,h1,rfl,_,rfl⟩:=h;obtain ⟨w',cE,hp⟩:=PN h1 cB (hr m (by simp [Op.operands])) (hr k (by simp [Op.operands])) (hr x (by simp [Op.operands]));exact .inr (.inl ⟨ρ,w',by simp [execOp,cE],hp⟩)
 ·-- range
  rename_i t x;have hx:=hr x (by simp [Op.operands]);split at h
  .rename_i s hu ex;rw [ex] at hx;generalize hux:a.eval x=ux at hx;cases hx;simp only [Ab,Aa] at h;obtain ⟨rfl,_,rfl⟩:=h;refine .inl ⟨_,.pointer (some ⟨w.heap.size,0,none⟩),_,?_,MN cB floor (.it s 0) [] t (.stringIter ⟨s.toArray⟩ 0) ⟨rfl,rfl⟩ fun ρ' hρ'=>.ptr _ 0 _ hρ'⟩;simp [execOp,hux,Instr.range,run_underlying hu,Result.andThen]
  .cases h
 ·-- next
  rename_i x;have hx:=hr x (by simp [Op.operands]);split at h
  .rename_i b ex;rw [ex] at hx;generalize hux:a.eval x=ux at hx;obtain ⟨hf,h⟩:=Zq h;have hf:=Af hf;split at h
   .rename_i s pos ty hm;split at h;rename_i e st1 ht;obtain ⟨t1,t2,t3,t4⟩:=Qa ht;simp only [Ab,Aa] at h;obtain ⟨rfl,_,rfl⟩:=h;cases hx with
    | ptr _ _ l hl=>
    have dK:=cB.objBase hl hm;obtain ⟨_,ho⟩:=cB.objAt hl hm;have hsz:(⟨s.toArray⟩:ByteArray).size =s.length:=(by simp [<-ByteArray.size_data]);rw [dK,Aj] at hux;cases e with
    | true=>
     obtain ⟨hlt,_⟩:=t4 hob;have hlt:=AA hlt.symm;refine .inl ⟨ρ,.tuple #[.bool true,goInt pos,.int .i32 (Utf8.decode ⟨s.toArray⟩ pos).1],w.putObj l.blk (.stringIter ⟨s.toArray⟩ (pos+Nq s pos)),?_,?_,?_,?_⟩
     .simp [execOp,hux,Instr.next,P4 ho,VW ho,hsz,hlt,Nq,Result.andThen]
     .exact .tup _ _ rfl fun j h1 h2=>by
       match j with
       | 0=>exact .bool _
       | 1=>exact .int _ _
       | 2=>exact .int _ _
       | j+3=>simp at h1;omega
     .show BF ρ (Yi st1.mem b _) st1.next _
      rw [t2,t3];exact cB.setObj hl hm rfl rfl _ ⟨rfl,rfl⟩
     .show Ev ρ ρ floor st.mem st.next (Yi st1.mem b _) st1.next _ _
      rw [t2,t3];exact Ev.ofObj cB hl hf _ _
    | false=>
     obtain ⟨hlt,_⟩:=t4 hob;have hlt: ¬pos<s.length:=of_decide_eq_false hlt.symm;refine .inl ⟨ρ,.tuple #[.bool false],w,?_,?_,?_,?_⟩
     .simp [execOp,hux,Instr.next,P4 ho,hsz,hlt,Result.andThen]
     .exact .tup _ _ rfl fun j h1 h2=>by
       match j with
       | 0=>exact .bool _
       | j+1=>simp at h1
     .show BF ρ st1.mem st1.next w
      rw [t2,t3];exact cB
     .show Ev ρ ρ floor st.mem st.next st1.mem st1.next w w
      rw [t2,t3];exact Ev.refl _ _ _ _ _ cB.dom
   .cases h
  .cases h
 ·-- alloc
  rename_i t;obtain ⟨ht,h⟩:=Zq h;split at h
  .rename_i i hi;split at h
   .rename_i hz;simp only [Ab,Aa] at h;obtain ⟨rfl,_,rfl⟩:=h;have hzr:(zeroValue t).run P w=.ok (.agg #[.pointer none,.slice none 0 0]) w:=(by simp [zeroValue,run_typeInfo w hi,hz]);refine .inl ⟨_,.pointer (some ⟨w.heap.size,0,none⟩),_,?_,MN cB floor .bld [.nils] t (.cells #[.pointer none,.slice none 0 0] t (0,0)) ⟨.nils,.slice none 0 0,none,rfl,rfl,.nils,.inl rfl⟩ fun ρ' hρ'=>.ptr _ 0 _ hρ'⟩;simp [execOp,Instr.alloc,newVar,newRow,hzr,Value.cells]
   .cases h
  .cases h
 ·-- load
  rename_i t x;have hx:=hr x (by simp [Op.operands]);split at h
  .rename_i b ex;rw [ex] at hx;generalize hux:a.eval x=ux at hx;split at h
   .rename_i buf ty i hm hag hi;simp only [Ab,Aa] at h;obtain ⟨rfl,_,rfl⟩:=h;cases hx with
    | ptr _ _ l hl=>
    have dK:=cB.objBase hl hm;obtain ⟨_,bv,p,e1,ho,hbv,_⟩:=cB.objAt hl hm;obtain rfl:=(List.cons.inj e1).1;rw [dK,Aj] at hux;refine .inl ⟨ρ,bv,w,?_,hbv,cB,Ev.refl _ _ _ _ _ cB.dom⟩;have hc:w.cell? ⟨l.blk,1,none⟩=some bv:=(by simp [World.cell?,ho]);simp [execOp,hux,Instr.loadAt,Instr.sureAddr,loadVar,Jr hag,hc]
   .cases h
  .cases h
 ·-- store
  rename_i t ad x;have hx:=hr ad (by simp [Op.operands]);have hv:=hr x (by simp [Op.operands]);split at h
  .rename_i b ex;rw [ex] at hx;generalize hux:a.eval ad=ux at hx;obtain ⟨hf,h⟩:=Zq h;simp only [Ad] at hf;obtain ⟨hf,hsc⟩:=hf;have hf:=Af hf;split at h
   .rename_i buf ty i hm hi;obtain ⟨hsz,h⟩:=Zq h;have hsz:=Ae hsz;simp only [Ab,Aa] at h;obtain ⟨rfl,_,rfl⟩:=h;cases hx with
    | ptr _ _ l hl=>
    have dK:=cB.objBase hl hm;obtain ⟨_,bv,p,e1,ho,hbv,hp⟩:=cB.objAt hl hm;rw [dK,Aj] at hux;refine .inr (.inl ⟨ρ,w.putObj l.blk (.cells #[.pointer p,a.eval x] ty (0,0)),?_,M7,cB.setObj (o':=.bld) (r':=[st.eval x]) hl hm rfl rfl _ ⟨_,_,p,rfl,rfl,hv,hp⟩,Ev.ofObj cB hl hf _ _⟩);have cR:=hv.oneCell hsc;have hcs:(a.eval x).cells = #[a.eval x]:=by
     cases hz:a.eval x <;> first | rfl | (rw [hz] at cR;cases cR)
    have cE:=run_storeCells_at P l.blk 1 ty [a.eval x] 0 _ w ho (by simp) (by simpa using cR);rw [U1 ho] at cE;simp_all [execOp,Instr.storeAt,Instr.sureAddr,storeVar,Zm]
   .cases h
  .cases h
 ·-- convert
  rename_i src dst x;have hx:=hr x (by simp [Op.operands]);split at h
  .rename_i e hs hd;split at h
   .rename_i he;split at h
    .rename_i s o hby;simp only [Ab,Aa] at h;obtain ⟨rfl,rfl,rfl⟩:=h;refine .inl ⟨ρ,.string ⟨s.toArray⟩,w,?_,.str _,cB,Ev.refl _ _ _ _ _ cB.dom⟩;rcases MQ cB hby hx with ⟨e1,rfl⟩ | ⟨_,_,g,o,c,_,_,_,_,_,e1,_,_,hat⟩
     .simp only [execOp,e1,run_convert_bytes_string w src dst e none 0 0 hs he hd];simp [run_convert_bytes_string w src dst e none 0 0 hs he hd,Conv.bytesToString];rfl
     .simp [execOp,e1,run_convert_bytes_string w src dst e _ _ _ hs he hd,W7 hat]
    .cases h
   .cases h
  .cases h
 ·-- e == nil
  rename_i bop t x y yt;have hx:=hr x (by simp [Op.operands]);split at h
  .rename_i e m ex hu;rw [ex] at hx;generalize hux:a.eval x=ux at hx;have hy:a.eval (.const .nilIface)=.nilIface :=rfl;split at h
   .simp only [Ab,Aa] at h;obtain ⟨rfl,_,rfl⟩:=h;refine .inl ⟨ρ,.bool e,w,?_,.bool _,cB,Ev.refl _ _ _ _ _ cB.dom⟩;cases hx <;> simp [execOp,hux,hy,eqGuard,binOp,run_underlying hu,Q1 hu]
   .simp only [Ab,Aa] at h;obtain ⟨rfl,_,rfl⟩:=h;refine .inl ⟨ρ,.bool !e,w,?_,.bool _,cB,Ev.refl _ _ _ _ _ cB.dom⟩;cases hx <;> simp [execOp,hux,hy,eqGuard,binOp,run_underlying hu,Q1 hu]
   .cases h
  .cases h
 ·-- String
  rename_i f args argTypes;have hf:=hr f (by simp [Op.operands,Call.operands]);have cD:Xo (Zb ρ) (args.toList.map st.eval) (args.map a.eval).toList :=by rw [A0];exact Xo.maps _ _ _ fun x hx=>hr x (by grind [Op.operands,Call.operands])
  split at h
  .rename_i g b eg ea;rw [eg] at hf;rw [ea] at cD;obtain ⟨hg,h'⟩:=Zq h;clear h;simp only [Ad] at hg;obtain ⟨hg,hbody⟩:=hg;obtain rfl:=Ae hg;obtain ⟨fn,hfn,hb⟩: ∃fn,P.funcs[G1]? =some fn/\fn.body.isSome=true:=by
    cases e:P.funcs[G1]? with
    | none=>rw [e] at hbody;cases hbody
    | some fn=>rw [e] at hbody;exact ⟨fn,rfl,hbody⟩
   generalize dE:args.map a.eval=vals at cD;obtain ⟨vals⟩:=vals;generalize hw:a.eval f=u at hf;cases hf with
   | fn _ _ cvs hl hh=>
   obtain rfl:cvs= #[]:=Array.eq_empty_of_size_eq_zero (by rw [<-hl];rfl);cases cD with
   | cons h1 h2=>
   cases h2;cases h1 with
   | ptr _ _ l hl'=>
   split at h'
   .rename_i buf ty hm;obtain ⟨hty,h⟩:=Zq h';clear h';obtain rfl:=Ae hty;split at h
    .rename_i s o hby0;have dK:=cB.objBase hl' hm;obtain ⟨_,bv,p,e1,ho,hbv,_⟩:=cB.objAt hl' hm;obtain rfl:=(List.cons.inj e1).1;have hexec:(execOp a.eval ⟨dst,.call ⟨.value f,args,argTypes⟩,type,pos,after,guard⟩).run P w=.ok (.enter G1 #[.pointer (some ⟨l.blk,0,none⟩)]) w:=by have cE:=Ug hN hfn hb #[.pointer (some ⟨l.blk,0,none⟩)] w;rw [dK] at dE;simp [execOp,resolve,hw,Deferred.ofValue,dE,invoke,cE]
     refine .inr (.inr ⟨G1,_,hexec,?_⟩);have hstr:=fun cC=>hN.2 (by rw [hfn];rfl) l.blk _ bv w s cC ho;split at h
     .rename_i hrf;simp only [Ab,Aa,Ad,Au] at h;obtain ⟨rfl,⟨cC,rfl⟩,rfl⟩:=h;have hby:=hby0;have hstr:=hstr cC;rcases MQ cB hby hbv with ⟨k1,k2⟩ | ⟨b',_,_,_,_,_,k1,_⟩
      .refine (hstr (.inl ⟨k1,k2⟩)).mono fun e w' ⟨q1,q2,q3,q4,q5,q6⟩=>⟨ρ,_,q1,.str _,?_,?_⟩
       .exact cB.kept q2 (p:=fun _=>True) (fun _ _ _ _=>trivial) (fun _ _ _=>trivial) fun k o hk _=>q3 k o hk fun g o n c e=>by rw [k1] at e;cases e
       .exact ⟨BD.le_refl _,fun _ _=>rfl,Ak _,fun _ _ _ _ _ h=>h,fun k o hk _=>q3 k o hk fun g o n c e=>(by rw [k1] at e;cases e),fun k m hk e=>(by have:=cB.dom k m e;omega),q2,q4,q5,q6,fun _ _=>rfl⟩
      .rw [hrf] at k1;cases k1
     .rename_i c hrf;obtain ⟨hc,h⟩:=Zq h;simp only [Ad] at hc;obtain ⟨hc1,hc2⟩:=hc;have hc1:=Af hc1;simp only [Ab,Aa,Ad,Au] at h;obtain ⟨rfl,⟨cC,rfl⟩,rfl⟩:=h;have hby:=hby0;have hstr:=hstr cC;rcases MQ cB hby hbv with ⟨k1,k2⟩ | ⟨b',lc,g,o,cc,el,k1,k2,k3,k4,k5,k6,k7,cur,k8,k9,k10⟩
      .have hkill:=cB.kill c;refine (hstr (.inl ⟨k1,k2⟩)).mono fun e w' ⟨q1,q2,q3,q4,q5,q6⟩=>⟨ρ,_,q1,.str _,?_,?_⟩
       .exact hkill.kept q2 (p:=fun _=>True) (fun _ _ _ _=>trivial) (fun _ _ _=>trivial) fun k o hk _=>q3 k o hk fun g o n c e=>by rw [k1] at e;cases e
       .refine ⟨BD.le_refl _,fun _ _=>rfl,Ak _,fun k hk e cs ty hm'=> ?_,fun k o hk _=>q3 k o hk fun g o n c e=>(by rw [k1] at e;cases e),fun k m hk e=>(by have:=cB.dom k m e;omega),q2,q4,q5,q6,fun _ _=>rfl⟩;show Zs (Yi st.mem c none) k=_;rw [Zx]
        .exact hm'
        .intro e';subst e';rw [k1] at hbv;unfold Ib at hby;cases hbv <;> first | (cases hrf;done) | skip
         all_goals (have hrf:=Ac hrf;subst hrf;simp [hm'] at hby)
      .rw [hrf] at k1;obtain rfl:=Ac k1;subst k4;obtain ⟨ab,hab⟩:=Bm.1 k3;have hel:=k7 ab hab;have hbt:ab.ty=H3:=by unfold En at hc2;rw [hab] at hc2;exact Ae hc2
       rw [hel,hbt] at k8;have hkill:=cB.kill c;have hne: ∀k,lc.blk≠k-> ∀g o n c,bv=.slice (some ⟨g,o,none⟩) n c->g≠k:=fun k hk g o n c e=>by rw [k5] at e;cases e;exact hk
       refine (hstr (.inr ⟨lc.blk,o,cc,cur,k5,k6,k8,k9,k10⟩)).mono fun e w' ⟨q1,q2,q3,q4,q5,q6⟩=>⟨ρ,_,q1,.str _,?_,?_⟩
       .refine hkill.kept q2 (p:=fun k=>lc.blk≠k) (fun b2 l2 e2 hs2 heq=> ?_) (fun k o hk heq=> ?_) fun k o hk hp=>q3 k o hk (hne k hp)
        .by_cases hbc:b2=c
         .rw [hbc,Zd] at hs2;cases hs2
         .rw [Zx _ _ hbc] at hs2;exact hbc (cB.inj b2 c l2 lc e2 k2 heq.symm hs2 k3)
        .have:=cB.sep c lc k2 k3;rw [heq,hk] at this;cases this
       .refine ⟨BD.le_refl _,fun _ _=>rfl,Ak _,fun k hk e cs ty hm'=> ?_,fun k o hk hfr=>q3 k o hk (hne k (hfr c lc k2 hc1)),fun k m hk e=>(by have:=cB.dom k m e;omega),q2,q4,q5,q6,fun _ _=>rfl⟩;show Zs (Yi st.mem c none) k=_;rw [Zx]
        .exact hm'
        .intro e';rw [e',k2] at e;cases e
    .cases h
   .cases h'
  .cases h
 .cases h
structure NJ (P:Program) (ops:Array Oper) (cx:BK) (o:Oper) (st st':St):Prop where
 inv:Yq cx.floor st st'
 slot: ∀d,o.dst=some d->d<cx.n
 other:st'.ob=true-> ∀t,o.dst≠some t->st'.tmp t=st.tmp t
 does:st'.ob=true-> ∀(ρ:BD) (a:Act) (w:World),a.tmps.size=cx.n->(∀d,Wm ops o=some d->Zb ρ (st.tmp d) (a.tmps.getD d undef))->Vb ρ st.eval a.eval o.op->BF ρ st.mem st.next w->
  ∀(K:Act->World->Prop) (Q:Exit->Act->World->Prop),(∀ρ' u w',(∀d,o.dst=some d->Zb ρ' (st'.tmp d) u)->BF ρ' st'.mem st'.next w'->Ev ρ ρ' cx.floor st.mem st.next st'.mem st'.next w w'->K (a.put o.dst u) w')->
   if Region.wanted o (yielded ops a.tmps) then o.wp P a w K Q else K (a.put o.dst undef) w
theorem NI.two {S:BC} {ops:Array Oper} {cx:BK} {x:Bool×Oper} {st st':St} (s:NI S P ops cx x st st'):NJ P ops cx x.2 st st':=
 ⟨s.inv,s.slot,s.other,fun ho ρ a w h1 h2 h3 h4 K Q hK=>s.does ho ρ a w st.eval h1 (fun _ _=>rfl) h2 h3 h4 K Q fun ρ' u w' q1 q2 q3 _=>hK ρ' u w' q1 q2 q3⟩
theorem XG (hN:CY P) {ops:Array Oper} {cx:BK} {o:Oper} {st st1 st2 st3 st':St} {v:BA} {b:Bool} (hw:Uh ops o cx st=some (true,st1)) (hx:aX P cx.floor st1 o.op=some (v,b,st2)) (how:st2.owe cx b=some st3) (hp:st3.put cx o.dst v=some st'):NJ P ops cx o st st':=by
 obtain ⟨w1,w2,w3⟩:=Xx hw;obtain ⟨dP,cF⟩:=H7 hx;obtain ⟨e1,e2,e3,e4⟩:=Yn how;obtain ⟨p1,p2,p3,p4⟩:=Xp hp;have dJ: ∀d,o.dst=some d->st'.tmp d=v:=fun d hd=>by
  rcases p4 with ⟨e,_⟩ | ⟨d',e,_,he⟩
  .rw [hd] at e;cases e
  .rw [hd] at e;obtain rfl:=Ac e;show T.get .undef st'.env d=v;rw [he,T.get_set,AB rfl]
 have hi1:Yq cx.floor st st1:=Yq.same w1 w2 fun ho=>(w3 ho).1;have hi2:Yq cx.floor st2 st':=Yq.same (p1.trans e2) (p2.trans e3) fun ho=>(e4 (by rw [<-p3];exact ho)).2;have hob:st'.ob=true->b=true/\st2.ob=true/\st1.ob=true:=fun ho=>by obtain ⟨h1,h2⟩:=e4 (by rw [<-p3];exact ho);exact ⟨h1,h2,dP.ob h2⟩
 refine ⟨(hi1.trans dP).trans hi2,fun d hd=> ?_,fun ho t ht=> ?_,fun ho ρ a w hsz hgr hr cB K Q hK=> ?_⟩
 .rcases p4 with ⟨e,_⟩ | ⟨d',e,hlt,_⟩
  .rw [hd] at e;cases e
  .rw [hd] at e;obtain rfl:=Ac e;exact hlt
 .obtain ⟨_,_,ho1⟩:=hob ho;rw [<-(w3 ho1).2 t];show T.get .undef st'.env t=T.get .undef st1.env t;rcases p4 with ⟨_,he⟩ | ⟨d',e,_,he⟩
  .rw [he,e1,cF]
  .rw [he,T.get_set,At (fun h=>ht (by rw [e,h])),e1,cF]
 .obtain ⟨rfl,ho2,ho1⟩:=hob ho;have cM:=(w3 ho1).2;have dM: ∀y,st1.eval y=st.eval y:=fun y=>by cases y <;> first | rfl | exact cM _
  rw [Wu hw ho1 hsz hgr,AB rfl];have hr':Vb ρ st1.eval a.eval o.op:=fun y hy=>by rw [dM y];exact hr y hy
  refine (w1j hN hx ho2 hr' (by rw [w1,w2];exact cB)).wp fun ρ' u w' hpost=> ?_;have he:=hpost.ev;rw [w1,w2] at he;refine hK ρ' u w' (fun d hd=>by rw [dJ d hd];exact hpost.val) (by rw [p1,p2,e2,e3];exact hpost.rel) (by rw [p1,p2,e2,e3];exact he)
end
section
variable {P:Program}
theorem Y3 {S:BC} {Rc:BI} (hN:CY P) (hS:Zu P S) (hCI:Ct Rc) (hC:D8 P Rc) {fl:Nat} {cx:BK} {ops:Array Oper} {i:Nat} {o:Oper} {l:List Oper} {todo:List Item} {rnd:Option Nat} {rs:List ResultVar} {st:St} {cs:List BW} {lps:BN} {C':BJ}
  (hfl:Fl fl ⟨cx,some (ops,i,o::l),todo,rnd,rs,st,cs,lps⟩) (h:NE P S Rc cx ops i o l todo rnd rs st cs lps=some C'):C4 P fl ⟨cx,some (ops,i,o::l),todo,rnd,rs,st,cs,lps⟩ C':=by
 have plain2: ∀st2,NJ P ops cx o st st2->C4 P fl ⟨cx,some (ops,i,o::l),todo,rnd,rs,st,cs,lps⟩ ⟨cx,some (ops,i+1,l),todo,rnd,rs,st2,cs,lps⟩:=by
  intro st2 s1;have e:=hfl.cx;simp only at e;refine ⟨⟨e,hfl.cs,AE hfl.le s1.inv.nxt⟩,by rw [<-e];exact s1.inv,fun ho m0 n0 ρ0 w0 ρ b a k css w ma mb hs he cs0=> ?_⟩;obtain ⟨cF,hdf,htd,⟨hro,dB⟩,cP⟩:=hs.top;simp only at cF hdf htd hro cP;obtain ⟨ho_i,hl',hdrop⟩:=M2 hro;have key:=s1.does ho ρ a w cF.size (fun d _=>cF.get d) (fun y _=>cF.eval y) hs.rel
   (fun a' w'=> ∃ρ',a'.defers=a.defers/\Xm ρ' st2.env cx.n a'.tmps/\BF ρ' st2.mem st2.next w'/\Ev ρ ρ' cx.floor st.mem st.next st2.mem st2.next w w') (fun e _ _=>e=.normal) (fun ρ' u w' cQ cV hev=>by
    refine ⟨ρ',Act.put_defers' _ _ _,?_,cV,hev⟩;cases hdst:o.dst with
    | none=>exact ((cF.mono hev.ext).congr fun t=>s1.other ho t (by grind))
    | some d=>
     refine ((cF.mono hev.ext).put (cQ d hdst) (.inr ⟨d,rfl,s1.slot d hdst,rfl⟩)).congr fun t=> ?_;rw [T.get_set];split
     .rename_i e;subst e;rfl
     .rename_i e;exact s1.other ho t (by grind))
  obtain ⟨a',w',⟨ρ',hd',he',hr',hev⟩,cT⟩:=Mf (b:=b) (k:=k) (cs:=css++cs0) (rest:=(List.range ops.size).drop (i+1)) (fun e a w h=>h) ho_i (Jv dB ho_i) key;refine ⟨ρ',b,a',k,css,w',ma,mb,by rw [Xh,hdrop];exact cT,⟨⟨he',by grind,htd.mono fun _ _=>Cs.mono hev.ext,⟨hl',dB⟩,?_⟩,hs.lv,hs.rest.ev hev,hr'⟩,he.trans (by grind),rfl,hev.size⟩;exact ((⟨cF,hdf,htd,⟨hro,dB⟩,cP⟩:DQ ρ cx (some (ops,i,o::l)) todo rnd st.env b a k ma).mono hev.ext).rnd
 have hcx:cx.floor<=st.next:=by have:=hfl.le;have e:=hfl.cx;grind
 have plain: ∀st2,Dt P S Rc ops cx (false,o) st=some st2->C4 P fl ⟨cx,some (ops,i,o::l),todo,rnd,rs,st,cs,lps⟩ ⟨cx,some (ops,i+1,l),todo,rnd,rs,st2,cs,lps⟩:=fun st2 h1=>plain2 st2 (Od hN hS hCI hC hcx h1).two;unfold NE at h;split at h
 .rename_i st1 hw;split at h
  ·-- an operation that only such a region has
   rename_i v b st2 hx;split at h
   .rename_i st3 how;split at h
    .rename_i st4 hp;obtain rfl:=Ac h;exact plain2 st4 (XG hN hw hx how hp)
    .cases h
   .cases h
  rename_i hx;split at h
  ·-- a function is entered
   rename_i g args cX;obtain ⟨w1,w2,w3⟩:=KZ (ρ:=⟨fun _=>none,fun _=>none,fun _=>none⟩) hw;have hCeq: ∃fn body,P.funcs[g]? =some fn/\fn.body=some body/\C'=⟨⟨Nat.max fn.ntmps args.length,cx.floor,cx.sym⟩,none,[.code body],none,fn.results.toList,st1.withEnv (DC args 0 .leaf),⟨cx,some (ops,i,o::l),todo,rnd,rs,st1.env⟩::cs,lps⟩:=by
    grind [ID]
   obtain ⟨fn,body,hfn,hb,hCe⟩:=hCeq;have hmem:C'.st.mem=st.mem:=by rw [hCe];exact w1
   have hnext:C'.st.next=st.next:=by rw [hCe];exact w2
   refine ⟨by rw [hCe];exact hfl.enter (Bv w2.symm),Yq.same hmem hnext fun ho=>(w3 (by rw [hCe] at ho;exact ho)).1,fun ho m0 n0 ρ0 w0 ρ b a k css w ma mb hs he cs0=> ?_⟩;have ho1:st1.ob=true:=by rw [hCe] at ho;exact ho
   obtain ⟨cF,hdf,htd,⟨hro,dB⟩,cP⟩:=hs.top;simp only at cF hdf htd hro cP;obtain ⟨ho_i,hl',hdrop⟩:=M2 hro;obtain ⟨_,_,w3'⟩:=KZ (ρ:=ρ) hw;obtain ⟨eA,hwt⟩:=(w3' ho1).2 cF;have hexec: ∃vals,(execOp a.eval o).run P w=.ok (.enter g vals) w/\Xo (Zb ρ) args vals.toList:=by
    obtain ⟨dst,op,type,pos,after,guard⟩:=o;simp only at cX ⊢;unfold callee at cX;split at cX
    .rename_i f cargs argTypes;split at cX
     .rename_i g' caps hg;split at cX
      .cases cX
      .simp only [Ab,Sum.inl.injEq,Aa] at cX;obtain ⟨rfl,rfl⟩:=cX;have hf:=eA.eval f;rw [hg] at hf;generalize hw':a.eval f=u at hf;cases hf with
       | fn _ _ cvs hl hh=>
        have:=Ug hN hfn (by rw [hb];rfl) (cargs.map a.eval++cvs) w
        grind [execOp,resolve,Deferred.ofValue,invoke,Xo.append,Lh,Xo.of]
     .rename_i g' first hg
      split at cX
      .cases cX
      .simp only [Ab,Sum.inl.injEq,Aa] at cX;obtain ⟨rfl,rfl⟩:=cX;have hf:=eA.eval f;rw [hg] at hf;generalize hw':a.eval f=u at hf;cases hf with
       | fnb _ _ cvs hl hh=>
        have:=Ug hN hfn (by rw [hb];rfl) (cvs++cargs.map a.eval) w
        grind [execOp,resolve,Deferred.ofValue,invoke,Xo.append,Xo.of,Lh]
     all_goals grind
    .cases cX
   obtain ⟨vals,hex,cD⟩:=hexec;have dA:=Y5 (b:=b) (k:=k) (cs:=css++cs0) (rest:=(List.range ops.size).drop (i+1)) ho_i (Jv dB ho_i) hwt hex;obtain ⟨_,_,_,_,_,b',a',k',hen,hsr⟩:=QU h (⟨eA,hdf,htd,⟨hro,dB⟩,cP⟩) hs.lv hs.rest (by rw [w1,w2];exact hs.rel) cD;refine ⟨ρ,b',a',k',_,w,_,_,.one ?_,hsr,by grind,by cases css <;> rfl,Ak _⟩
   grind [Xh]
  ·-- a round is entered
   rename_i j args cX;obtain ⟨w1,w2,w3⟩:=KZ (ρ:=⟨fun _=>none,fun _=>none,fun _=>none⟩) hw;unfold Rq at h;split at h
   .rename_i B8 lpend ln lenv lparams lassign lbody hlg;split at h
    .rename_i env' hsa;obtain rfl:=Ac h;refine ⟨hfl.enter (Bv w2.symm),Yq.same w1 w2 fun ho=>(w3 ho).1,fun ho m0 n0 ρ0 w0 ρ b a k css w ma mb hs he cs0=> ?_⟩;have ho1:st1.ob=true:=ho;obtain ⟨cF,hdf,htd,⟨hro,dB⟩,cP⟩:=hs.top;simp only at cF hdf htd hro cP;obtain ⟨ho_i,hl',hdrop⟩:=M2 hro;obtain ⟨_,_,w3'⟩:=KZ (ρ:=ρ) hw;obtain ⟨eA,hwt⟩:=(w3' ho1).2 cF;obtain ⟨lr,hlp,hlow,hsp,ltmps,lfn,ld,eC,dL⟩:=hs.rest.loops j _ hlg;simp only at eC dL;have hexec: ∃vals:Array Value,Xo (Zb ρ) args vals.toList/\(execOp a.eval o).run P w=.ok (.round lr lfn ((lparams.toArray.zip vals).foldl (fun tmps (t,x)=>tmps.setIfInBounds t x) ltmps) lassign lbody) w:=by
      obtain ⟨dst,op,type,pos,after,guard⟩:=o;simp only at cX ⊢;unfold callee at cX;split at cX
      .rename_i f cargs argTypes;split at cX
       .grind
       .grind
       .rename_i j' hg;simp only [Ab,Sum.inr.injEq,Aa] at cX;obtain ⟨rfl,rfl⟩:=cX;have hf:=eA.eval f;rw [hg] at hf;generalize hw':a.eval f=u at hf;cases hf with
        | yld _ l' hl'=>rw [hlp] at hl';obtain rfl:=Ac hl';have hca:=Lh eA cargs;obtain ⟨cC,_⟩:=Kj hsa dL hca;refine ⟨cargs.map a.eval,hca,?_⟩;simp_all [run_yield,execOp,resolve,Deferred.ofValue,invoke]
       .cases cX
      .cases cX
     obtain ⟨vals,cD,hex⟩:=hexec;obtain ⟨_,henv'⟩:=Kj hsa dL cD;have dA:=Y6 (b:=b) (k:=k) (cs:=css++cs0) (rest:=(List.range ops.size).drop (i+1)) ho_i (Jv dB ho_i) hwt hex;refine ⟨ρ,⟨lfn, #[],[],[],.run,.normal,some lr⟩,{tmps:=(lparams.toArray.zip vals).foldl (fun tmps (t,x)=>tmps.setIfInBounds t x) ltmps,defers:=[]},[.code lassign,.beginRound,.code lbody],b.atR a (Xh (some (ops,i,o::l)) k)::css,w,[],ma++mb,.one ?_,⟨⟨?_,rfl,.cons (.same _ rfl) (.cons (.same _ rfl) (.cons (.same _ rfl) .nil)),trivial,⟨rfl,lr,hlp,rfl⟩⟩,fun _=>⟨rfl,fun h0=>by cases h0⟩,?_,by rw [show (st1.withEnv env').mem =st.mem from w1,show (st1.withEnv env').next =st.next from w2];exact hs.rel⟩,by rw [show (st1.withEnv env').mem =st.mem from w1,show (st1.withEnv env').next =st.next from w2];exact he,by cases css <;> rfl,Ak _⟩
     .simp only [Xh,hdrop];exact dA
     .have:(lparams.toArray.zip vals).foldl (fun tmps (t,x)=>tmps.setIfInBounds t x) ltmps=(lparams.zip vals.toList).foldl (fun t p=>t.setIfInBounds p.1 p.2) ltmps:=by rw [<-Array.foldl_toList];simp
      simp only [this];exact henv'
     .exact ⟨.cons ⟨eA,hdf,htd,⟨hro,dB⟩,cP⟩ hs.lv hs.rest.cs,hs.rest.nodup,hs.rest.marks,hs.rest.loops,hs.rest.inj⟩
    .cases h
   .cases h
  clear plain2
  grind [Dt]
 all_goals (clear plain2;grind [Dt])
end
section
variable {P:Program}
theorem QR {ops:Array Oper} {z:Nat}: ∀{l:List Nat},Dy ops l=some z->Fn z ops=true
 | [],h=>by cases h
 | x::l,h=>by
  unfold Dy at h;rcases Wv h with ⟨h1,h⟩ | ⟨_,h⟩
  .obtain rfl:=Ac h;exact h1
  .exact QR h
theorem YF {ops:Array Oper} {z:Nat} (h:NS ops=some z):Fn z ops=true/\Kd ops=true:=by unfold NS at h;obtain ⟨hn,h⟩:=Zq h;exact ⟨QR h,hn⟩
theorem CG.item {ρ:BD} {x:Item} {t k:List Item} (hx:Ub x=true) (h:CG ρ (x::t) k): ∃k',k=x::k'/\CG ρ t k':=by
 cases h with
 | cons h ht=>
  cases h with
  | same _ _=>grind
  | inR j l e=>cases hx
  | endR j l e=>cases hx
theorem Lq {fl:Nat} {cx:BK} {todo:List Item} {rnd:Option Nat} {rs:List ResultVar} {st:St} {cs:List BW} {lps:BN} {jump:Option Code} {C':BJ} (hfl:Fl fl ⟨cx,none,todo,rnd,rs,st,cs,lps⟩)
  (h:Ig P rnd rs st cs lps jump=some C') (hj:(todo=[]/\jump=none)\/(∃t,todo=.code .ret ::t/\jump=some .ret)\/(∃id t,todo=.code (.exit id)::t/\exitTo id t=none/\jump=some (.exit id)/\rnd.isSome=true)):
  C4 P fl ⟨cx,none,todo,rnd,rs,st,cs,lps⟩ C':=by
 unfold Ig at h;split at h
 .split at h
  .rename_i vs hvs;obtain ⟨hfl',hm,hn,hob,hne,key⟩:=LC (P:=P) (base:=0) h hfl.cs hfl.le;refine ⟨hfl',Yq.same hm hn fun ho=>by grind,fun ho m0 n0 ρ0 w0 ρ b a k css w ma mb hs he cs0=> ?_⟩;obtain ⟨_,_,_,_,_,key⟩:=LC (P:=P) (base:=w0.heap.size) h hfl.cs hfl.le;have htd:todo=[]\/ ∃t,todo=.code .ret ::t:=by
    grind
   obtain ⟨w',cT,cF,cB,hev,cU,hsz⟩:=Lj hs rfl rfl htd rfl he (css++cs0);obtain ⟨hk,hfn⟩:=hs.lv hne;obtain ⟨fn,hfn,hrs⟩:=hfn rfl;simp only at hrs hfn;obtain ⟨u,hu,hres⟩:=Kg (fn:=fn) cF cB (by rw [hrs];exact hvs);obtain ⟨c,css',b',a',k',ma',mb',rfl,hfin,hsr,hbot⟩:=key ρ css w' mb u hu cU cB;refine ⟨ρ,b',a',k',css',w',ma',mb',cT.trans (.one ?_),hsr,by grind,by rw [hbot];rfl,hsz⟩;rw [<-hfin];exact step_leave_returned (fr:={b.atR {a with defers:=[]} k with mode:=.returning}) ⟨rfl,rfl,hk,fn,hfn,hres⟩
  .cases h
 .rename_i j;split at h
  .rename_i B8 lpend ln lenv lparams lassign lbody hlg;obtain ⟨hfl',hm,hn,hob,hne,_⟩:=LC (P:=P) (base:=0) h hfl.cs hfl.le;refine ⟨hfl',Yq.same hm hn fun ho=>by grind,fun ho m0 n0 ρ0 w0 ρ b a k css w ma mb hs he cs0=> ?_⟩;obtain ⟨_,_,_,_,_,key⟩:=LC (P:=P) (base:=w0.heap.size) h hfl.cs hfl.le;obtain ⟨rfl,lr0,hlp0,hro⟩:=hs.top.rnd;obtain ⟨lr,hla⟩:=hs.rest.loops j _ hlg;have hla':=hla;obtain ⟨hlp,hlow,hsp,ltmps,lfn,ld,eC,dL⟩:=hla;rw [hlp] at hlp0;obtain rfl:=Ac hlp0;have cE:=run_endRound (P:=P) jump eC;have hlst:(if jump.isNone then LoopState.ready else LoopState.done)=If jump:=by cases jump <;> rfl
   rw [hlst] at cE;have cU:=hs.rest.record (w':=w.putObj lr (.loop ⟨If jump,jump,lfn,ltmps,lparams.toArray,lassign,lbody,ld⟩)) hlg hla' (L':=⟨If jump,jump,ln,lenv,lparams,lassign,lbody⟩)
    ⟨hlp,hlow,hsp.turned (Xn.put _ _ _),ltmps,lfn,ld,World.putObj_heap_same hsp.1,dL⟩ (Xn.put _ _ _)
   obtain ⟨c,css',b',a',k',ma',mb',rfl,hfin,hsr,hbot⟩:=key ρ css _ mb (.bool jump.isNone) (.bool _) cU (hs.rel.turned (fun r hr=>by grind) (Xn.put _ _ _));have hev:=he.turned (m:=[lr]) (fun r hr=>by grind) (Xn.put w lr (.loop ⟨If jump,jump,lfn,ltmps,lparams.toArray,lassign,lbody,ld⟩));refine ⟨ρ,b',a',k',css',_,ma',mb',.one ?_,hsr,by grind,by rw [hbot];rfl,Bv (Xn.put _ _ _).size.symm⟩;obtain ⟨hk,_⟩:=hs.lv hne;rw [<-hfin];have htd:=hs.top.todo;rcases hj with ⟨rfl,rfl⟩ | ⟨t,rfl,rfl⟩ | ⟨id,t,rfl,hx,rfl,_⟩
   .cases htd;exact stepR_round_end hro hk cE
   .obtain ⟨k',rfl,_⟩:=htd.code;exact stepR_round_ret hro hk cE
   .obtain ⟨k',rfl,ht⟩:=htd.code;exact stepR_round_exit hro hk ((ht.exit id).2 hx) cE
  .cases h
theorem QP {S:BC} {Rc:BI} (hN:CY P) (hmx:P.follows .mixedOrders =true) (hS:Zu P S) (hCI:Ct Rc) (hC:D8 P Rc) {fl:Nat} {C C':BJ} (hfl:Fl fl C) (h:IN P S Rc C=some C'):C4 P fl C C':=by
 unfold IN at h;split at h
 ·-- a region's end
  rename_i ops i todo rnd rs st cs lps;obtain rfl:=Ac h;refine ⟨⟨hfl.cx,hfl.cs,hfl.le⟩,Yq.refl _ _,fun ho m0 n0 ρ0 w0 ρ b a k css w ma mb hs he cs0=> ?_⟩;obtain ⟨cF,hdf,htd,⟨hro,dB⟩,cP⟩:=hs.top;refine ⟨ρ,b,a,k,css,w,ma,mb,.one ?_,⟨⟨cF,hdf,htd,trivial,cP⟩,hs.lv,hs.rest,hs.rel⟩,he,rfl,Ak _⟩;have hge:ops.size<=i:=by simp_all
  have:(List.range ops.size).drop i=[]:=Ay (by grind)
  grind [Xh,stepR_region_end]
 .exact Y3 hN hS hCI hC hfl h
 .rename_i cx todo rnd rs st cs lps;split at h
  .grind [Lq]
  .grind [Lq]
  .obtain rfl:=Ac h;exact C4.move hfl fun ρ k hk=>by obtain ⟨k',rfl,ht⟩:=hk.code;grind [stepR_skip]
  .obtain rfl:=Ac h;exact C4.move hfl fun ρ k hk=>by obtain ⟨k',rfl,ht⟩:=hk.code;grind [stepR_label]
  .obtain rfl:=Ac h;exact C4.move hfl fun ρ k hk=>by obtain ⟨k',rfl,ht⟩:=CG.item rfl hk;grind [stepR_inBlock]
  .obtain rfl:=Ac h;exact C4.move hfl fun ρ k hk=>by obtain ⟨k',rfl,ht⟩:=CG.item rfl hk;exact ⟨k',ht,fun b a css w=>step_lone_go (by simp [stepG,stepG.exec,Frame.atR])⟩
  .obtain rfl:=Ac h;exact C4.move hfl fun ρ k hk=>by obtain ⟨k',rfl,ht⟩:=hk.code;exact ⟨_,.cons (.same _ rfl) (.cons (.same _ rfl) ht),fun b a css w=>stepR_seq⟩
  ·-- a test
   rename_i c x y k0;split at h
   .rename_i v hv;split at h;rename_i e st1 ht;obtain rfl:=Ac h;obtain ⟨t1,t2,t3,t4⟩:=Qa ht;refine ⟨⟨hfl.cx,hfl.cs,by have:=hfl.le;grind⟩,Yq.same t2 t3 fun ho=>(t4 ho).2,fun ho m0 n0 ρ0 w0 ρ b a k css w ma mb hs he cs0=> ?_⟩;obtain ⟨rfl,_⟩:=t4 ho;obtain ⟨cF,hdf,htd,hro,cP⟩:=hs.top;obtain ⟨k',rfl,htl⟩:=htd.code;have hc:=cF.eval c;rw [hv] at hc;have hev:a.eval c=.bool e:=by generalize a.eval c=u at hc;cases hc;rfl
    refine ⟨ρ,b,a,_,css,w,ma,mb,.one (stepR_cond hev),⟨⟨by grind,hdf,.cons ?_ htl,trivial,cP⟩,hs.lv,hs.rest,by rw [t2,t3];exact hs.rel⟩,by grind,rfl,Ak _⟩;cases e <;> exact .same _ rfl
   .cases h
  .obtain rfl:=Ac h;exact C4.move hfl fun ρ k hk=>by obtain ⟨k',rfl,ht⟩:=hk.code;exact ⟨_,.cons (.same _ rfl) (.cons (.same _ rfl) ht),fun b a css w=>stepR_block⟩
  .obtain rfl:=Ac h;exact C4.move hfl fun ρ k hk=>by obtain ⟨k',rfl,ht⟩:=hk.code;exact ⟨_,.cons (.same _ rfl) (.cons (.same _ rfl) ht),fun b a css w=>step_lone_go (by simp [stepG,stepG.exec,Frame.atR])⟩
  .obtain rfl:=Ac h;exact C4.move hfl fun ρ k hk=>by obtain ⟨k',rfl,ht⟩:=hk.code;exact ⟨_,.cons (.same _ rfl) (.cons (.same _ rfl) ht),fun b a css w=>stepR_loop⟩
  .obtain rfl:=Ac h;exact C4.move hfl fun ρ k hk=>by obtain ⟨k',rfl,ht⟩:=CG.item rfl hk;exact ⟨_,.cons (.same _ rfl) (.cons (.same _ rfl) ht),fun b a css w=>stepR_inLoop⟩
  ·-- an exit
   rename_i id k0;split at h
   .rename_i k1 hx;obtain rfl:=Ac h;exact C4.move hfl fun ρ k hk=>by
     obtain ⟨k',rfl,ht⟩:=hk.code;obtain ⟨r',h1,h2⟩:=(ht.exit id).1 _ hx
     grind [stepR_exit]
   grind [Lq]
  ·-- a region in the order of the text
   rename_i id ops k0;obtain ⟨dB,h⟩:=Zq h;obtain rfl:=Ac h;refine ⟨⟨hfl.cx,hfl.cs,hfl.le⟩,Yq.refl _ _,fun ho m0 n0 ρ0 w0 ρ b a k css w ma mb hs he cs0=> ?_⟩;obtain ⟨cF,hdf,htd,hro,cP⟩:=hs.top;obtain ⟨k',rfl,htl⟩:=htd.code;exact ⟨ρ,b,a,k',css,w,ma,mb,.one stepR_region,⟨⟨cF,hdf,htl,⟨rfl,dB⟩,cP⟩,hs.lv,hs.rest,hs.rel⟩,he,rfl,Ak _⟩
  ·-- a region that draws its order
   rename_i id ops k0;split at h
   ·-- it hands out a round
    rename_i m hty;split at h
    .rename_i st1 hop;obtain rfl:=Ac h;obtain ⟨hm,dB,cW,hfor,hgd⟩:=Y8 hty;have hm':=Nat.le_of_lt hm;have hi:=PD hCI _ _ _ _ hop;have e:=hfl.cx;simp only at e;have hcx:cx.floor<=st.next:=by have:=hfl.le;grind
     refine ⟨⟨e,hfl.cs,AE hfl.le hi.nxt⟩,by grind,fun ho m0 n0 ρ0 w0 ρ b a k css w ma mb hs he cs0=> ?_⟩;obtain ⟨cF,hdf,htd,hro,cP⟩:=hs.top;obtain ⟨k',rfl,htl⟩:=htd.code;have hw:=PR hN hS hCI hC hcx cW hop ho hdf cF (hs.rel.drawn (w.drawn+1));have hw2:=wpAny_sound (Xj ops m).size (w.tape w.drawn (.order b.fn id)) _ a _ hw;rw [Pt _ hm',QQ hm'] at hw2;have back: ∀(j:Nat) x,ops[j]? =some x-> ∃y,(Xj ops m)[j]? =some y/\y.after=x.after:=fun j x hx=>by
      grind [MH]
     have dQ: ∀(j:Nat) x,ops[j]? =some x-> ∀e∈x.after.toList,Region.binds .any e=true->e.on<j:=fun j x hx e he hb=>by obtain ⟨y,hy,hya⟩:=back j x hx;exact (MJ cW).ord j y hy e (by grind) hb
     have hcl0: ∀S,Dk ops S->Dk (Xj ops m) S:=fun S hc j y hy hS e he hb=>by
      have hsa:=MH hm' j;rw [hy] at hsa;cases hsx:ops[j]? with
      | none=>grind
      | some x=>rw [hsx] at hsa;simp only [Br,Ab] at hsa;exact hc j x hsx hS e (by grind) hb
     have hfor': ∀j x,m<=j->ops[j]? =some x-> ∀i,i<j->E9 ops i x:=fun j x hj hx i hij S hc hr=>by obtain ⟨y,hy,hya⟩:=back j x hx;exact hfor j y hj hy i hij S (hcl0 S hc) fun e he hb=>hr e (by grind) hb
     have dG: ∀i,(Array.replicate ops.size false).getD i false=false:=fun i=>by by_cases hi:i<ops.size <;> simp [hi]
     obtain ⟨l,hl,hlm⟩:=w0c dQ hm hfor' ops.size (w.tape w.drawn (.order b.fn id)) (Array.replicate ops.size false) (by simp) (fun j x hx hS=>by grind) (by
      simp_all) (fun q _=>dG q)
     rw [hl] at hw2;obtain ⟨a',w',⟨_,hd',ρ',q1,q2,q3⟩,cT⟩:=Of (b:=b) (k:=k') (cs:=css++cs0) (fun e a w hq=>hq.1) hm' dB hgd (r:=(List.range ops.size).drop m) (fun i hi=>by
      obtain ⟨n,hn,rfl⟩:=Bn hi;simp) l a _ hlm hw2
     have hev:=q3.drawn;refine ⟨ρ',b,a',k',css,w',ma,mb,.head stepR_region_draw ?_,⟨⟨q1,hd',htl.mono fun _ _=>Cs.mono hev.ext,⟨rfl,dB⟩,?_⟩,hs.lv,hs.rest.ev hev,q2⟩,he.trans (by grind),rfl,hev.size⟩
     .grind [Region.schedule,Xh,Region.linearise]
     .exact ((⟨cF,hdf,htd,hro,cP⟩:DQ ρ cx none _ rnd st.env b a _ ma).mono hev.ext).rnd
    .cases h
   split at h;rename_i z hlz;obtain ⟨cW,dB⟩:=YF hlz;split at h
   .rename_i st1 hop;obtain rfl:=Ac h;have hi:=PD hCI _ _ _ _ hop;have e:=hfl.cx;simp only at e;have hcx:cx.floor<=st.next:=by have:=hfl.le;grind
    refine ⟨⟨e,hfl.cs,AE hfl.le hi.nxt⟩,by grind,fun ho m0 n0 ρ0 w0 ρ b a k css w ma mb hs he cs0=> ?_⟩;obtain ⟨cF,hdf,htd,hro,cP⟩:=hs.top;obtain ⟨k',rfl,htl⟩:=htd.code;have hw:=PR hN hS hCI hC hcx cW hop ho hdf cF (hs.rel.drawn (w.drawn+1));have hw2:=wpAny_sound ops.size (w.tape w.drawn (.order b.fn id)) _ a _ hw;obtain ⟨a',w',⟨hd',ρ',q1,q2,q3⟩,cT⟩:=Lt (b:=b) (k:=k') (cs:=css++cs0) (fun e a w hq=>hq) dB _ _ _ hw2;have hev:=q3.drawn;refine ⟨ρ',b,a',k',css,w',ma,mb,.head stepR_region_draw ?_,⟨⟨q1,hd',htl.mono fun _ _=>Cs.mono hev.ext,trivial,?_⟩,hs.lv,hs.rest.ev hev,q2⟩,he.trans (by grind),rfl,hev.size⟩
    .simp only [Region.schedule,hmx,Bool.true_or,if_true];exact cT
    .exact ((⟨cF,hdf,htd,hro,cP⟩:DQ ρ cx none _ rnd st.env b a _ ma).mono hev.ext).rnd
   all_goals grind
  ·-- a loop over a function
   rename_i f params assign body k0;split at h
   .rename_i g caps hg;obtain ⟨env,mem,next,orc,ob⟩:=st;simp only [St.nextId] at h;obtain ⟨hrk,h⟩:=Zq h;have hCeq: ∃fn fbody,P.funcs[g]? =some fn/\fn.body=some fbody/\C'=⟨⟨Nat.max fn.ntmps (BA.yld next::caps).length,cx.floor,cx.sym⟩,none,[.code fbody],none,fn.results.toList,St.withEnv ⟨env,mem,next+1,orc,ob⟩ (DC (BA.yld next::caps) 0 .leaf),⟨cx,none,.inRangeFunc next::k0,rnd,rs,env⟩::cs,DS lps next (some ⟨.ready,none,cx.n,env,params.toList,assign,body⟩)⟩:=by
     grind [ID]
    obtain ⟨fn,fbody,hfn,hb,hCe⟩:=hCeq;refine ⟨by rw [hCe];exact hfl.enter (Bt _),?_,fun ho m0 n0 ρ0 w0 ρ b a k css w ma mb hs he cs0=> ?_⟩
    .rw [hCe];exact ⟨Bt _,fun hbd x hx=>hbd x (Nat.le_of_succ_le hx),fun _ _ _=>rfl,fun ho=>ho⟩
    obtain ⟨cF,hdf,htd,hro,cP⟩:=hs.top;obtain ⟨k',rfl,htl⟩:=htd.code;have cB:=hs.rel;simp only at cF cB he cP hdf htl;have lay: ∃l mk w1 d,(Instr.enterLoop b.fn a.tmps params assign body b.roundOf).run P w=.ok (l,(mk:List Nat).map GX) w1/\w1.heap[l]? =some (.loop ⟨.ready,none,b.fn,a.tmps,params,assign,body,d⟩)/\w0.heap.size<=l/\Sp ρ w1 l/\BF ρ mem next w1/\Ev ρ0 ρ fl m0 n0 mem next w0 w1/\(rnd.isSome=true->mk=[])/\
      CQ P w0.heap.size ρ cs lps css w1 (mk++ma) mb/\(∀j L l',CA lps j=some L->ρ.lp j=some l'->l'≠l)/\w.heap.size<=w1.heap.size:=by
     have gr: ∀(w1:World) (o:Obj) (mk:List Nat),CQ P w0.heap.size ρ cs lps css w1 mk mb->CQ P w0.heap.size ρ cs lps css (w1.alloc o) mk mb:=fun w1 o mk hr=>
      ⟨hr.cs,hr.nodup,fun r hx=>by obtain ⟨q1,q2,q3⟩:=hr.marks r hx;exact ⟨q1,(q2.grow o).1,by rw [(q2.grow o).2];exact q3⟩,fun j L hL=>by
       obtain ⟨l,q1,q2,q3,tm,fn',d,q4,q5⟩:=hr.loops j L hL;exact ⟨l,q1,q2,(q3.grow o).1,tm,fn',d,by rw [(q3.grow o).2];exact q4,q5⟩,hr.inj⟩
     have far: ∀(w1:World),CQ P w0.heap.size ρ cs lps css w1 ma mb-> ∀j L l',CA lps j=some L->ρ.lp j=some l'->l'<w1.heap.size:=fun w1 hr j L l' hL e=>by obtain ⟨l2,q⟩:=hr.loops j L hL;have:=q.lp;rw [e] at this;obtain rfl:=Ac this;exact q.sp.1
     cases hr:b.roundOf with
     | none=>
      have hrn:rnd=none:=by
       grind
      subst hrn;have hs1:Sp ρ (w.alloc (.deferred (some []))) w.heap.size:=Sp.fresh cB _;have cZ:=cB.grow (.deferred (some []));have hsz1:(w.alloc (.deferred (some []))).heap.size =w.heap.size+1:=(by simp_all);have dI:CQ P w0.heap.size ρ cs lps css (w.alloc (.deferred (some []))) ([w.heap.size]++ma) mb:=by
       have hr1:=gr w (.deferred (some [])) ma hs.rest;have hnin:w.heap.size ∉ ma++mb:=fun hin=>by have:=(hs.rest.marks _ hin).2.1.1;omega
       refine ⟨hr1.cs,by rw [AG];exact List.nodup_cons.2 ⟨hnin,hr1.nodup⟩,fun r hx=> ?_,hr1.loops,hr1.inj⟩;simp only [List.cons_append,Bg,Be] at hx;rcases hx with rfl | hx
       .exact ⟨he.size,hs1,by show (w.heap.push _)[w.heap.size]? =_;simp⟩
       .exact hr1.marks r hx
      refine ⟨w.heap.size+1,[w.heap.size],_,w.heap.size,run_enterLoop_outer _ _ _ _ _,?_,by have:=he.size;omega,?_,cZ.grow _,(he.grow _).grow _,(fun e=>by cases e),gr _ _ _ dI,fun j L l' hL e=> ?_,?_⟩
      .grind [World.alloc_heap_new]
      .grind [Sp.fresh]
      .have:=far w hs.rest j L l' hL e;omega
      .show _<=((w.heap.push _).push _).size
       grind
     | some l0=>
      obtain ⟨j0,rfl⟩: ∃j0,rnd=some j0:=by
       grind
      obtain ⟨hma,l1,hlp1,e2⟩:=cP;rw [hr] at e2;obtain rfl:=Ac e2;subst hma;have dY: ∃L0,CA lps j0=some L0:=Bm.1 hrk;obtain ⟨L0,hL0⟩:=dY;obtain ⟨l2,q1,q2,q3,tm,fn',d,q4,q5⟩:=hs.rest.loops j0 L0 hL0;rw [hlp1] at q1;obtain rfl:=Ac q1;refine ⟨w.heap.size,[],_,_,run_enterLoop_inner q4 _ _ _ _ _,World.alloc_heap_new _ _,he.size,Sp.fresh cB _,cB.grow _,he.grow _,(fun _=>rfl),gr _ _ _ hs.rest,fun j L l' hL e=> ?_,?_⟩
      .have:=far w hs.rest j L l' hL e;omega
      simp_all
    obtain ⟨l,mk,w1,d,hen,eC,hlow,hsp,cZ,hev1,hmk,dI,hne,hsz⟩:=lay;have hle:ρ.le (lpAdd ρ next l):=Md cZ.lp_none;have hlpj:(lpAdd ρ next l).lp next=some l:=AB rfl
    have get: ∀i L,CA (DS lps next (some L)) i=if i=next then some L else CA lps i:=fun i L=>T.get_set none lps next (some L) i
    have hlps: ∀j L l',CA lps j=some L->(lpAdd ρ next l).lp j=some l'->j≠next->ρ.lp j=some l':=fun j L l' _ e hj=>by
     have e:(if j=next then some l else ρ.lp j)=some l':=e
     grind
    have hrest2:CQ P w0.heap.size (lpAdd ρ next l) cs (DS lps next (some ⟨.ready,none,cx.n,env,params.toList,assign,body⟩)) css w1 (mk++ma) mb:=by
     refine ⟨dI.cs.mono hle,dI.nodup,dI.marks,fun j L hL=> ?_,fun j j' L L' l' hL hL' e e'=> ?_⟩
     .rw [get] at hL;by_cases hj:j=next
      .subst hj;rw [AB rfl] at hL;obtain rfl:=Ac hL;exact ⟨l,hlpj,hlow,hsp,a.tmps,b.fn,d,by simp_all,cF.mono hle⟩
      .rw [At hj] at hL;obtain ⟨l2,q1,q2,q3,tm,fn',d',q4,q5⟩:=dI.loops j L hL;exact ⟨l2,hle.2.2 _ _ q1,q2,q3,tm,fn',d',q4,q5.mono hle⟩
     .rw [get] at hL hL';by_cases hj:j=next <;> by_cases hj':j'=next
      .rw [hj,hj']
      .grind
      .grind
      .rw [At hj] at hL;rw [At hj'] at hL';exact dI.inj j j' L L' l' hL hL' (hlps _ _ _ hL e hj) (hlps _ _ _ hL' e' hj')
    have hf:=(show Xm ρ (St.env ⟨env,mem,next,orc,ob⟩) cx.n a.tmps from cF).eval f;rw [hg] at hf;generalize hw':a.eval f=u at hf;cases hf with
    | fn _ _ cvs hl hh=>
     have cD:Xo (Zb (lpAdd ρ next l)) (BA.yld next::caps) (#[Value.func (.yield l) #[] #[]]++cvs).toList :=by rw [Array.toList_append];exact .cons (.yld _ _ hlpj) (Xo.of (by simp_all) fun i h1 h2=>by simpa using (hh i h1 (by grind)).mono hle)
     have cO:=Ug hN hfn (by rw [hb];rfl) (#[Value.func (.yield l) #[] #[]]++cvs) w1;have dA:=stepR_rangeFunc (P:=P) (b:=b) (a:=a) (k:=k') (cs:=css++cs0) (g:=f) (d:=⟨.fn (.func g) cvs, #[Value.func (.yield l) #[] #[]]⟩) (w₁':=w1) hen
      (by simp_all [resolve,Deferred.ofValue,Act.eval]) (by simp only [invoke];exact cO)
     have hfr:DQ (lpAdd ρ next l) cx none (.inRangeFunc next::k0) rnd env b {a with defers:=mk.map GX++a.defers} (.inRangeFunc l::k') (mk++ma):=
      ⟨cF.mono hle,by grind,.cons (.inR _ _ hlpj) (htl.mono fun _ _=>Cs.mono hle),trivial,by
       cases rnd with
       | none=>exact cP
       | some j=>
        obtain ⟨h0,l',h1,h2⟩:=cP;exact ⟨by grind,l',hle.2.2 _ _ h1,h2⟩⟩
     obtain ⟨_,_,_,_,_,b',a',k2,hent,hsr⟩:=QU h hfr hs.lv hrest2 (show BF _ mem (next+1) w1 from cZ.lpAdd l) cD;refine ⟨lpAdd ρ next l,b',a',k2,_,w1,_,_,.one ?_,hsr,?_,by cases css <;> rfl,hsz⟩
     .rw [show C'.ro=none by rw [hCe],<-hent];exact dA
     .rw [hCe];exact hev1.lpAdd cZ l
   .cases h
  ·-- a round begins
   rename_i k0;split at h
   .rename_i j;split at h
    .rename_i pend n env params assign body hlg;obtain rfl:=Ac h;refine ⟨⟨hfl.cx,hfl.cs,hfl.le⟩,Yq.refl _ _,fun ho m0 n0 ρ0 w0 ρ b a k css w ma mb hs he cs0=> ?_⟩;obtain ⟨cF,hdf,htd,hro,cP⟩:=hs.top;obtain ⟨rfl,lr0,hlp0,hrb⟩:=cP;obtain ⟨k',rfl,htl⟩:=CG.item rfl htd;obtain ⟨lr,hla⟩:=hs.rest.loops j _ hlg;have hla':=hla;obtain ⟨hlp,hlow,hsp,ltmps,lfn,ld,eC,dL⟩:=hla;rw [hlp] at hlp0;obtain rfl:=Ac hlp0;have cE:=run_beginRound (P:=P) eC rfl;have cU:=hs.rest.record (w':=w.putObj lr (.loop ⟨.busy,pend,lfn,ltmps,params.toArray,assign,body,ld⟩)) hlg hla' (L':=⟨.busy,pend,n,env,params,assign,body⟩)
      ⟨hlp,hlow,hsp.turned (Xn.put _ _ _),ltmps,lfn,ld,World.putObj_heap_same hsp.1,dL⟩ (Xn.put _ _ _)
     refine ⟨ρ,b,a,k',css,_,[],mb,.one (stepR_beginRound hrb cE),⟨⟨cF,hdf,htl,trivial,⟨rfl,lr,hlp,hrb⟩⟩,hs.lv,cU,hs.rel.turned (fun r hr=>by grind) (Xn.put _ _ _)⟩,he.turned (m:=[lr]) (fun r hr=>by grind) (Xn.put _ _ _),rfl,Bv (Xn.put _ _ _).size.symm⟩
    .cases h
   .cases h
  ·-- a loop's end
   rename_i j k0;split at h
   .cases h
   .rename_i B8 pend n env params assign body hnb hlg;obtain rfl:=Ac h;refine ⟨⟨hfl.cx,hfl.cs,hfl.le⟩,Yq.refl _ _,fun ho m0 n0 ρ0 w0 ρ b a k css w ma mb hs he cs0=> ?_⟩;obtain ⟨cF,hdf,htd,hro,cP⟩:=hs.top;obtain ⟨lr,hla⟩:=hs.rest.loops j _ hlg;have hla':=hla;obtain ⟨hlp,hlow,hsp,ltmps,lfn,ld,eC,dL⟩:=hla;cases htd with
    | @cons _ y _ k' hx htl=>
     cases hx with
     | same _ hp=>cases hp
     | endR _ l hl =>
      rw [hlp] at hl;obtain rfl:=Ac hl;have hb:B8≠ .busy :=fun e=>by grind
      have cE:=run_endLoop (P:=P) eC hb;have cU:=hs.rest.record (w':=w.putObj lr (.loop ⟨.exhausted,pend,lfn,ltmps,params.toArray,assign,body,ld⟩)) hlg hla' (L':=⟨.exhausted,pend,n,env,params,assign,body⟩)
       ⟨hlp,hlow,hsp.turned (Xn.put _ _ _),ltmps,lfn,ld,World.putObj_heap_same hsp.1,dL⟩ (Xn.put _ _ _)
      refine ⟨ρ,b,a,_,css,_,ma,mb,.one (stepR_endRangeFunc cE),⟨⟨cF,hdf,?_,trivial,cP⟩,hs.lv,cU,hs.rel.turned (fun r hr=>by grind) (Xn.put _ _ _)⟩,he.turned (m:=[lr]) (fun r hr=>by grind) (Xn.put _ _ _),rfl,Bv (Xn.put _ _ _).size.symm⟩;cases pend with
      | none=>exact htl
      | some c=>exact .cons (.same _ rfl) htl
   .cases h
  .cases h
theorem W6 {S:BC} {Rc:BI} {n:Nat} {C:BJ}:DG P S Rc (n+1) C=(bif De C then some C else match IN P S Rc C with
  | some C'=>DG P S Rc n C'
  | none=>none):=rfl
theorem Ow {C:BJ} (h:De C=true):C.ro=none/\C.rnd=none/\C.cs=[]/\(C.todo=[]\/ ∃t,C.todo=.code .ret ::t):=by
 unfold De at h
 grind
theorem Cz.trans {fl:Nat} {A B C:BJ} (h:Cz P fl A B) (k:Cz P fl B C):Cz P fl A C:=by intro m0 n0 ρ0 w0 ρ b a t css w ma mb hs he cs0;obtain ⟨ρ1,b1,a1,t1,css1,w1,ma1,mb1,s1,r1,e1,q1,z1⟩:=h m0 n0 ρ0 w0 ρ b a t css w ma mb hs he cs0;obtain ⟨ρ2,b2,a2,t2,css2,w2,ma2,mb2,s2,r2,e2,q2,z2⟩:=k m0 n0 ρ0 w0 ρ1 b1 a1 t1 css1 w1 ma1 mb1 r1 e1 cs0;exact ⟨ρ2,b2,a2,t2,css2,w2,ma2,mb2,s1.trans s2,r2,e2,q2.trans q1,AE z1 z2⟩
theorem Mi {S:BC} {Rc:BI} (hN:CY P) (hmx:P.follows .mixedOrders =true) (hS:Zu P S) (hCI:Ct Rc) (hC:D8 P Rc) {fl:Nat}: ∀(n:Nat) (C C':BJ),Fl fl C->DG P S Rc n C=some C'->De C'=true/\Yq fl C.st C'.st/\(C'.st.ob=true->Cz P fl C C')
 | 0,C,st',_,h=>by cases h
 | n+1,C,C',hfl,h=>by
  rw [W6] at h;cases hf:De C with
  | true=>rw [hf] at h;obtain rfl:=Ac h;exact ⟨hf,Yq.refl _ _,fun _=>Cz.refl fl C⟩
  | false=>
   rw [hf,Ai] at h;split at h
   .rename_i C1 h1;have s1:=QP hN hmx hS hCI hC hfl h1;obtain ⟨f1,f4,f5⟩:=Mi hN hmx hS hCI hC n C1 C' s1.fls h;exact ⟨f1,s1.inv.trans f4,fun ho=>(s1.leads (f4.ob ho)).trans (f5 ho)⟩
   .cases h
theorem CG.refl_plain {ρ:BD}: ∀(k:List Item),k.all Ub=true->CG ρ k k
 | [],_=>.nil
 | x::k,h=>by simp only [List.all_cons,Ad] at h;exact .cons (.same x h.1) (CG.refl_plain k h.2)
theorem Oc (base:Nat) (ρ:BD) (w:World):CQ P base ρ [] .leaf [] w [] []:=
 ⟨.nil,List.nodup_nil,(fun r hr=>by cases hr),(fun j L hL=>by cases hL),(fun j j' L L' l hL=>by cases hL)⟩
theorem M3 (hN:CY P) (hmx:P.follows .mixedOrders =true) {S:BC} (hS:Zu P S) (n:Nat): ∀d,Ct (Ek P S n d)/\D8 P (Ek P S n d)
 | 0=>⟨(fun cx todo st st' h=>by cases h),(fun cx todo st st' _ h=>by cases h)⟩
 | d+1=>by
  obtain ⟨hCI,hC⟩:=M3 hN hmx hS n d;have key: ∀{cx todo st st'},Ek P S n (d+1) cx todo st=some st'->todo.all Ub=true/\Fl cx.floor ⟨cx,none,todo,none,[],st,[],.leaf⟩/\ ∃C',DG P S (Ek P S n d) n ⟨cx,none,todo,none,[],st,[],.leaf⟩=some C'/\C'.cx.n=cx.n/\C'.st=st':=by
   intro cx todo st st' h;have h:(bif todo.all Ub&&Nat.ble cx.floor st.next then match DG P S (Ek P S n d) n ⟨cx,none,todo,none,[],st,[],.leaf⟩ with
    | some C=>bif Nat.beq C.cx.n cx.n then some C.st else none
    | none=>none
    else none)=some st':=h
   obtain ⟨hp,h⟩:=Zq h;simp only [Ad] at hp;refine ⟨hp.1,⟨rfl,fun af haf=>(by cases haf),Af hp.2⟩,?_⟩;split at h
   .rename_i C' hr;obtain ⟨hn,h⟩:=Zq h;simp_all
   .cases h
  refine ⟨fun cx todo st st' h=> ?_,fun cx todo st st' hcx h ho ρ a w b cs hd cF cB=> ?_⟩
  .obtain ⟨_,hfl,C',hr,_,rfl⟩:=key h;exact (Mi hN hmx hS hCI hC n _ C' hfl hr).2.1
  .obtain ⟨hpl,hfl,C',hr,hn,rfl⟩:=key h;obtain ⟨f1,f2,f3⟩:=Mi hN hmx hS hCI hC n _ C' hfl hr;obtain ⟨e1,e2,e3,e4⟩:=Ow f1;obtain ⟨ρ',b',a',k',css',w',ma',mb',s1,r1,v1,q1,_⟩:=f3 ho st.mem st.next ρ w ρ {b with roundOf:=none} a todo [] w [] []
    ⟨⟨cF,hd,CG.refl_plain todo hpl,trivial,rfl⟩,fun h=>absurd rfl h,Oc _ _ _,cB⟩ (Ev.refl _ _ _ _ _ cB.dom) cs
   have hcs:=r1.rest.cs;rw [e3] at hcs;cases hcs;obtain ⟨w2,s2,henv',cV,dM,_,_⟩:=Lj r1 e1 e2 e4 rfl v1 cs;refine ⟨ρ',{a' with defers:=[]},k',w2,?_,rfl,by grind,cV,dM⟩;have hb:b.at a todo=Frame.atR {b with roundOf:=none} a (Xh none todo):=rfl;have hb':Frame.atR b' {a' with defers:=[]} k'=b.at {a' with defers:=[]} k':=by
    have q:(b'.fn,b'.kind,b'.roundOf)=(b.fn,b.kind,none):=q1
    grind [Frame.atR,Frame.at]
   rw [hb,<-hb'];exact s1.trans s2
end
structure B1 where
 keep:List Nat
 frz:List Nat
 slots:List (Option (List Nat))
 lslots:List (Option (List Nat)):=[]
def DN (b:Nat):List Nat->Nat->Option Nat
 | [],_=>none
 | x::l,i=>bif Nat.beq x b then some i else DN b l (i+1)
def hasN (b:Nat):List Nat->Bool
 | []=>false
 | x::l=>bif Nat.beq x b then true else hasN b l
def La (cells:List BA) (off sz:Nat):Nat->List BA:=fun k=>(cells.drop (off+k*sz)).take sz
def EV (P:Program) (blk:BE):BA->BA
 | .ptr _ o=>.dptr (blk.cells.drop o)
 | .sl _ off len _=>match P.info? blk.ty with
  | some i=>bif Nat.ble (off+len*i.size) blk.cells.length then .dat len (La blk.cells off i.size) else .undef
  | none=>.undef
 | .sla _ sz off len _=>match blk.arr with
  | some A=>bif Nat.beq A.sz sz&&Nat.ble (off+len) A.n then .dat len (fun k=>A.get (off+k)) else .undef
  | none=>.undef
 | _=>.undef
def DH (P:Program) (mem:BH) (N:B1) (b:Nat) (v:BA) (f:Nat->BA):BA:=
 match DN b N.keep 0 with
 | some b'=>f b'
 | none=>bif hasN b N.frz then match Zs mem b with
   | some blk=>EV P blk v
   | none=>.undef
  else .undef
def BX (P:Program) (mem:BH) (N:B1):Nat->BA->BA
 | 0,_=>.undef
 | d+1,v=>match v with
  | .ptr b o=>DH P mem N b (.ptr b o) fun b'=>.ptr b' o
  | .sl b off len cap=>DH P mem N b (.sl b off len cap) fun b'=>.sl b' off len cap
  | .sla b sz off len cap=>DH P mem N b (.sla b sz off len cap) fun b'=>.sla b' sz off len cap
  | .epa b sz i fo=>DH P mem N b (.epa b sz i fo) fun b'=>.epa b' sz i fo
  | .yld j=>match DN j N.keep 0 with
   | some j'=>.yld j'
   | none=>.undef
  | .slv b sz off len=>match DN b N.keep 0 with
   | some b'=>.slv b' sz off len
   | none=>.undef
  | .mapr b=>match DN b N.keep 0 with
   | some b'=>.mapr b'
   | none=>.undef
  | .agg cs=>.agg (cs.map (BX P mem N d))
  | .tup cs=>.tup (cs.map (BX P mem N d))
  | .fn f cs=>.fn f (cs.map (BX P mem N d))
  | .fnb f cs=>.fnb f (cs.map (BX P mem N d))
  | .ifc t v=>.ifc t (BX P mem N d v)
  | v=>v
def T.map (f:BA->BA) (t:T BA):T BA:=
 T.rec (motive:=fun _=>T BA) .leaf (fun v _ _ l r=>.node (f v) l r) t
def Fo (f:BA->BA) (env:T BA):List Nat->T BA
 | []=>.leaf
 | t::l=>T.set .undef (Fo f env l) t (f (T.get .undef env t))
def Eh (f:BA->BA) (env:T BA):Option (List Nat)->T BA
 | none=>T.map f env
 | some l=>Fo f env l
def Cm (f:BA->BA):B0->B0
 | .flat g=>.flat g
 | .one r cs b=>.one r (cs.map f) (Cm f b)
 | .alt c a b=>.alt c (Cm f a) (Cm f b)
def Hl (P:Program) (mem:BH) (N:B1):BE->BE
 | ⟨cells,ty,none⟩=>⟨cells.map (BX P mem N 6),ty,none⟩
 | ⟨_,ty,some A⟩=>⟨rows A.n (Cm (BX P mem N 6) A.rw).get,ty,some ⟨A.sz,A.n,Cm (BX P mem N 6) A.rw⟩⟩
def Hh :B0->Bool
 | .flat g=>pd (∀i,(g i).all (pf 6)=true)
 | .one _ _ b=>Hh b
 | .alt _ a b=>Hh a&&Hh b
def Lc (blk:BE):Bool:=match blk.arr with
 | none=>true
 | some A=>Hh A.rw
def Cl (P:Program) (mem:BH) (N:B1):List Nat->Nat->BH×Bool
 | [],_=>(.leaf,true)
 | b::l,i=>match Cl P mem N l (i+1) with
  | (m,o)=>match Zs mem b with
   | none=>(m,o)
   | some blk=>(Yi m i (some (Hl P mem N blk)),Lc blk&&o)
def Ci (mem:BH):List Nat->Bool
 | []=>true
 | b::l=>match Zs mem b with
  | none=>Ci mem l
  | some blk=>(match blk.arr with
   | none=>blk.cells.all (pf 6)
   | some A=>pd (∀i,(A.get i).all (pf 6)=true))&&Ci mem l
def GK (f:BA->BA) (lps:BN):List Nat->Nat->List (Option (List Nat))->BN
 | [],_,_=>.leaf
 | b::l,i,sl=>match CA lps b with
  | none=>GK f lps l (i+1) sl.tail
  | some ⟨st,pend,n,env,params,assign,body⟩=>DS (GK f lps l (i+1) sl.tail) i (some ⟨st,pend,n,Eh f env (sl.headD none),params,assign,body⟩)
def Ho (keep:List Nat):Item->Option Item
 | .inRangeFunc j=>(DN j keep 0).map .inRangeFunc
 | .endRangeFunc j=>(DN j keep 0).map .endRangeFunc
 | x=>bif Ub x then some x else none
def Hw (keep:List Nat):List Item->Option (List Item)
 | []=>some []
 | x::l=>match Ho keep x,Hw keep l with
  | some y,some m=>some (y::m)
  | _,_=>none
def Ij (keep:List Nat):Option Nat->Option (Option Nat)
 | none=>some none
 | some j=>(DN j keep 0).map some
def IM (f:BA->BA) (keep:List Nat):List BW->List (Option (List Nat))->Option (List BW)
 | [],_=>some []
 | ⟨cx,ro,todo,rnd,rs,env⟩::cs,sl=>match Hw keep todo,Ij keep rnd,IM f keep cs sl.tail with
  | some todo',some rnd',some cs'=>some (⟨cx,ro,todo',rnd',rs,Eh f env (sl.headD none)⟩::cs')
  | _,_,_=>none
def D3 :List Nat->List Nat->Bool
 | [],_=>true
 | b::l,frz=> !hasN b frz&&(!hasN b l&&D3 l frz)
def Is (P:Program) (N:B1):BJ->Option BJ
 | ⟨cx,ro,todo,rnd,rs,⟨env,mem,next,orc,ob⟩,cs,lps⟩=>
  match Hw N.keep todo,Ij N.keep rnd,IM (BX P mem N 6) N.keep cs N.slots.tail with
  | some todo',some rnd',some cs'=>
   bif D3 N.keep N.frz then
    match Cl P mem N N.keep 0 with
    | (mem',o)=>some ⟨cx,ro,todo',rnd',rs,⟨Eh (BX P mem N 6) env (N.slots.headD none),mem',N.keep.length,[],o&&(Ci mem N.frz&&ob)⟩,cs',GK (BX P mem N 6) lps N.keep 0 N.lslots⟩
   else none
  | _,_,_=>none
def D7 :Code->List Nat->List Item->Code×List Item
 | c,[],k=>(c,k)
 | .seq a b,0::p,k=>D7 a p (.code b::k)
 | .seq _ b,_::p,k=>D7 b p k
 | .block id c,_::p,k=>D7 c p (.inBlock id::k)
 | .loop c,_::p,k=>D7 c p (.inLoop c::k)
 | .scope c,_::p,k=>D7 c p (.inScope c::k)
 | .cond _ a _,0::p,k=>D7 a p k
 | .cond _ _ b,_::p,k=>D7 b p k
 | .rangeFunc _ _ a b,0::p,_=>D7 a p [.beginRound,.code b]
 | .rangeFunc _ _ _ b,_::p,_=>D7 b p []
 | c,_::_,k=>(c,k)
def Zk (P:Program) (f:FuncId) (p:List Nat) (j:Nat):List Item:=match D7 (RP P f) p [] with
 | (c,k)=>(.code c::k).drop j
def Wy (P:Program) (f:FuncId) (p:List Nat):Code:=(D7 (RP P f) p []).1
def Xv (P:Program) (f:FuncId) (p:List Nat) (i:Nat):Option BR:=match Wy P f p with
 | .region _ ops _=>some (ops,i,ops.toList.drop i)
 | _=>none
def Ir (P:Program) (S:BC) (Rc:BI) (n:Nat):BJ->Option BJ:=
 Nat.rec (motive:=fun _=>BJ->Option BJ) (fun C=>some C) (fun _ R C=>match IN P S Rc C with
  | some C'=>R C'
  | none=>none) n
section
variable {P:Program}
theorem Wr {p:Prop} (h:pd p=true):p:= @AA p (Classical.propDecidable p) h
theorem Ya {p:Prop} (h:p):pd p=true:= @Aq p (Classical.propDecidable p) h
theorem O1 {b:Nat}: ∀{l:List Nat} {i j:Nat},DN b l i=some j->i<=j/\l[j - i]? =some b
 | [],i,j,h=>by cases h
 | x::l,i,j,h=>by
  unfold DN at h;rcases Wv h with ⟨hx,h⟩ | ⟨_,h⟩
  .simp_all
  .obtain ⟨h1,h2⟩:=O1 h
   grind
theorem J8 {b:Nat}: ∀{l:List Nat},hasN b l=true↔b∈l
 | []=>by simp [hasN]
 | x::l=>by
  unfold hasN;cases hx:Nat.beq x b with
  | true=>simp [Ae hx]
  | false=>
   have:x≠b:=fun e=>by rw [e,Nat.beq_refl] at hx;cases hx
   rw [Ai,J8,Be];exact ⟨.inr,fun h=>h.resolve_left fun e=>this e.symm⟩
theorem Li : ∀{l frz:List Nat},D3 l frz=true->l.Nodup/\ ∀b∈l,b ∉ frz
 | [],_,_=>⟨List.nodup_nil,fun b hb=>by cases hb⟩
 | x::l,frz,h=>by
  unfold D3 at h;simp only [Ad,AO] at h;obtain ⟨h1,h2,h3⟩:=h;obtain ⟨i1,i2⟩:=Li h3;have n1:x ∉ frz:=fun hm=>by rw [J8.2 hm] at h1;cases h1
  have n2:x ∉ l:=fun hm=>by rw [J8.2 hm] at h2;cases h2
  exact ⟨List.nodup_cons.2 ⟨n2,i1⟩,fun b hb=>by
   rcases Be.1 hb with rfl | hb
   .exact n1
   .exact i2 b hb⟩
def Fz (ρ:BD) (mem:BH) (N:B1) (k:Nat):Prop:= ∃b l,b∈N.frz/\ρ b=some l/\(Zs mem b).isSome =true/\l.blk=k
def CE (ρ:BD) (mem:BH) (N:B1) (w:World):BD:=
 ⟨fun b'=>(N.keep[b']?).bind fun b=>ρ b,fun k=> @ite _ (Fz ρ mem N k) (Classical.propDecidable _) (w.heap[k]?) (ρ.fz k),fun j'=>(N.keep[j']?).bind fun j=>ρ.lp j⟩
theorem Je {ρ:BD} {mem:BH} {next:Nat} {w:World} (h:BF ρ mem next w) (N:B1) {k:Nat} {o:Obj} (e:ρ.fz k=some o):(CE ρ mem N w).fz k=some o:=by
 show @ite _ (Fz ρ mem N k) (Classical.propDecidable _) (w.heap[k]?) (ρ.fz k)=some o;by_cases hf:Fz ρ mem N k
 .obtain ⟨b,l,_,hb,hm,rfl⟩:=hf;have:=h.sep b l hb hm
  grind
 grind
theorem T0 {ρ:BD} {mem:BH} {w:World} {N:B1} {b:Nat} {l:BS} (hb:b∈N.frz) (hl:ρ b=some l) (hm:(Zs mem b).isSome =true):(CE ρ mem N w).fz l.blk=w.heap[l.blk]? :=
 AB ⟨b,l,hb,hl,hm,rfl⟩
theorem Qd {ρ:BD} {mem:BH} {next:Nat} {w:World} (h:BF ρ mem next w) (N:B1):ρ.bare.le (CE ρ mem N w).bare :=⟨fun _ _ e=>(by cases e),fun _ _ e=>Je h N e,fun _ _ e=>(by cases e)⟩
theorem Ws {ρ:BD} {mem:BH} {w:World} {N:B1} {b b':Nat} (h:DN b N.keep 0=some b'):(CE ρ mem N w) b'=ρ b/\(CE ρ mem N w).lp b'=ρ.lp b:=by
 obtain ⟨_,h2⟩:=O1 h;rw [Nat.sub_zero] at h2;constructor
 .show (N.keep[b']?).bind _=_;rw [h2];rfl
 .show (N.keep[b']?).bind _=_;rw [h2];rfl
theorem K0 {mem:BH}: ∀{frz:List Nat},Ci mem frz=true-> ∀b∈frz,∀blk,Zs mem b=some blk->(match blk.arr with | none=>blk.cells.all (pf 6)=true | some A=> ∀i,(A.get i).all (pf 6)=true)
 | [],_,b,hb,_,_=>by cases hb
 | x::l,h,b,hb,blk,hm=>by
  unfold Ci at h;rcases Be.1 hb with rfl | hb
  .rw [hm] at h;simp only [Ad] at h;cases hA:blk.arr with
   | none=>have:=h.1;rw [hA] at this;exact this
   | some A=>have:=h.1;rw [hA] at this;exact Wr this
  .cases hx:Zs mem x with
   | none=>rw [hx] at h;exact K0 h b hb blk hm
   | some blk'=>rw [hx] at h;simp only [Ad] at h;exact K0 h.2 b hb blk hm
theorem Lm {mem:BH} {next:Nat} {w:World} {ρ:BD} (h:BF ρ mem next w) {N:B1} (ho:Ci mem N.frz=true) {b:Nat} (hb:b∈N.frz) {blk:BE} (hm:Zs mem b=some blk) {l:BS} (hl:ρ b=some l):
  ∃val:Nat->Value,∀(i:Nat) (hi:i<blk.cells.length),Zb (CE ρ mem N w).bare blk.cells[i] (val i)/\Dn (CE ρ mem N w).fz l.blk (l.base+i) (val i):=by
 have hno:blk.isObj=false:=by
  cases hx:blk.isObj with
  | false=>rfl
  | true=>
   have hq:=K0 ho b hb blk hm;obtain ⟨cells,ty,arr⟩:=blk;unfold BE.isObj at hx;split at hx
   .rename_i e;simp only [BE.mk.injEq] at e;obtain ⟨rfl,_,rfl⟩:=e;simp [pf] at hq
   .cases hx
 obtain ⟨_,hn,ht,har,cs,el,h1,h2,h3⟩:=(h.blk b l blk hl hm).at hno;refine ⟨fun i=>(cs[l.base+i]?).getD undef,fun i hi=> ?_⟩;obtain ⟨v,e1,e2⟩:=h3 i hi;have hpf:pf 6 blk.cells[i]=true:=by
  have:=K0 ho b hb blk hm;cases hA:blk.arr with
  | none=>grind
  | some A=>
   rw [hA] at this;obtain ⟨q1,_,_⟩:=har A hA;have hmem:blk.cells[i]∈rows A.n A.get:=by grind
   grind [rows]
 dsimp only;rw [e1];refine ⟨(Wd 6 _ _ hpf e2).mono (Qd h N),cs,el,(0,0),?_,e1⟩
 grind [T0]
theorem X6 {mem:BH} {next:Nat} {w:World} {ρ:BD} (h:BF ρ mem next w) {N:B1} (ho:Ci mem N.frz=true) {b:Nat} (hb:b∈N.frz) {blk:BE} (hm:Zs mem b=some blk) {v:BA} {u:Value} (hv:Zb ρ v u)
  (hvb:(∃o,v=.ptr b o)\/(∃off len cap,v=.sl b off len cap)\/(∃sz off len cap,v=.sla b sz off len cap)\/ ∃sz i fo,v=.epa b sz i fo):Zb (CE ρ mem N w) (EV P blk v) u:=by
 rcases hvb with ⟨o,rfl⟩ | ⟨off,len,cap,rfl⟩ | ⟨sz,off,len,cap,rfl⟩ | ⟨sz,i,fo,rfl⟩
 .cases hv with
  | ptr _ _ l hl=>
   obtain ⟨val,cQ⟩:=Lm h ho hb hm hl;refine .dptr _ _ _ (fun j=>val (o+j)) (fun j hj=> ?_) (fun j hj=> ?_);all_goals grind
 .simp only [EV];split
  .rename_i i hi;cases hc:Nat.ble (off+len*i.size) blk.cells.length with
   | false=>exact .undef _
   | true=>
    rw [Ah];have hle:=Af hc;cases hv with
    | sl _ _ _ _ l c hl _ cC=>
     obtain ⟨val,cQ⟩:=Lm h ho hb hm hl;have hin: ∀k,k<len->k*i.size+i.size<=len*i.size:=fun k hk=>by
      have:=Av i.size (show k+1<=len from hk)
      grind
     refine .dat len _ l.blk (l.base+off) i.size c (fun k j=>val (off+(k*i.size+j))) cC (fun k hk=> ?_) (fun k j hk hj=> ?_) (fun k j hk hj=> ?_);all_goals grind [La]
  .exact .undef _
 .simp only [EV];split
  .rename_i A hA;cases hc:(Nat.beq A.sz sz&&Nat.ble (off+len) A.n) with
   | false=>exact .undef _
   | true=>
    rw [Ah];simp only [Ad] at hc;obtain rfl:=Ae hc.1;have hle:=Af hc.2;cases hv with
    | slan=>exact .datn _
    | sla _ _ _ _ _ l c hl _ cC=>
     obtain ⟨val,cQ⟩:=Lm h ho hb hm hl;obtain ⟨q1,q2,q3⟩:=(h.blk b l blk hl hm).arr A hA;have dS:=Zh A.n q3;have eD: ∀k j,k<len->j<A.sz-> ∃hi:(off+k)*A.sz+j<blk.cells.length,blk.cells[(off+k)*A.sz+j]? =(A.get (off+k))[j]? :=fun k j hk hj=>by
      grind [Xc]
     refine .dat len _ l.blk (l.base+off*A.sz) A.sz c (fun k j=>val ((off+k)*A.sz+j)) cC (fun k hk=>q3 _ (by omega)) (fun k j hk hj=> ?_) (fun k j hk hj=> ?_);all_goals grind
  .exact .undef _
 .exact .undef _
theorem Ji {mem:BH} {next:Nat} {w:World} {ρ:BD} (h:BF ρ mem next w) {N:B1} (ho:Ci mem N.frz=true) {b:Nat} {v:BA} {u:Value} {f:Nat->BA} (hv:Zb ρ v u)
  (hvb:(∃o,v=.ptr b o)\/(∃off len cap,v=.sl b off len cap)\/(∃sz off len cap,v=.sla b sz off len cap)\/ ∃sz i fo,v=.epa b sz i fo)
  (hf: ∀b',DN b N.keep 0=some b'->Zb (CE ρ mem N w) (f b') u):Zb (CE ρ mem N w) (DH P mem N b v f) u:=by
 unfold DH;split
 .grind
 .cases hc:hasN b N.frz with
  | false=>exact .undef _
  | true=>
   rw [Ah];split
   .grind [X6,J8]
   .exact .undef _
theorem Jh {mem:BH} {next:Nat} {w:World} {ρ:BD} (h:BF ρ mem next w) {N:B1} (ho:Ci mem N.frz=true): ∀(d:Nat) (v:BA) (u:Value),Zb ρ v u->Zb (CE ρ mem N w) (BX P mem N d v) u
 | 0,_,_,_=>.undef _
 | d+1,v,u,hv=>by
  have ih:=fun v u=>Jh h ho (N:=N) d v u;have list: ∀{cs:List BA} {vs:Array Value},cs.length=vs.size->(∀(i:Nat) (h1:i<cs.length) (h2:i<vs.size),Zb ρ cs[i] vs[i])->
    (cs.map (BX P mem N d)).length =vs.size/\ ∀(i:Nat) (h1:i<(cs.map (BX P mem N d)).length) (h2:i<vs.size),Zb (CE ρ mem N w) (cs.map (BX P mem N d))[i] vs[i]:=fun hl hh=>
   ⟨by simpa using hl,fun i h1 h2=>by simpa using ih _ _ (hh i (by simpa using h1) h2)⟩
  unfold BX;cases hv with
  | undef=>exact .undef _
  | bool b=>exact .bool b
  | int k n=>exact .int k n
  | str s=>exact .str s
  | agg cs vs hl hh=>exact .agg _ _ (list hl hh).1 (list hl hh).2
  | tup cs vs hl hh=>exact .tup _ _ (list hl hh).1 (list hl hh).2
  | fn f cs vs hl hh=>exact .fn f _ _ (list hl hh).1 (list hl hh).2
  | fnb f cs vs hl hh=>exact .fnb f _ _ (list hl hh).1 (list hl hh).2
  | ptr b o l hl=>exact Ji h ho (.ptr b o l hl) (.inl ⟨o,rfl⟩) fun b' hb'=>.ptr b' o l (by rw [(Ws hb').1];exact hl)
  | nilp=>exact .nilp
  | sl b off len cap l c hl hc cC=>exact Ji h ho (.sl b off len cap l c hl hc cC) (.inr (.inl ⟨off,len,cap,rfl⟩)) fun b' hb'=>.sl b' off len cap l c (by rw [(Ws hb').1];exact hl) hc cC
  | nils=>exact .nils
  | sla b sz off len cap l c hl hc cC=>exact Ji h ho (.sla b sz off len cap l c hl hc cC) (.inr (.inr (.inl ⟨sz,off,len,cap,rfl⟩))) fun b' hb'=>.sla b' sz off len cap l c (by rw [(Ws hb').1];exact hl) hc cC
  | slan b sz off cap=>exact Ji h ho (.slan b sz off cap) (.inr (.inr (.inl ⟨sz,off,0,cap,rfl⟩))) fun b' hb'=>.slan b' sz off cap
  | epa b sz i fo l hl=>exact Ji h ho (.epa b sz i fo l hl) (.inr (.inr (.inr ⟨sz,i,fo,rfl⟩))) fun b' hb'=>.epa b' sz i fo l (by rw [(Ws hb').1];exact hl)
  | nilf=>exact .nilf
  | yld j l hl=>
   simp only;split
   .rename_i j' hj';exact .yld j' l (by rw [(Ws hj').2];exact hl)
   .exact .undef _
  | slv b sz off len l c hl cC=>
   simp only;split
   .rename_i j' hj';exact .slv j' sz off len l c (by rw [(Ws hj').1];exact hl) cC
   .exact .undef _
  | slve b sz off blk base c=>
   simp only;split
   .exact .slve _ sz off blk base c
   .exact .undef _
  | slvn b sz off=>
   simp only;split
   .exact .slvn _ sz off
   .exact .undef _
  | ifc t a v hv=>exact .ifc t _ _ (ih _ _ hv)
  | nili=>exact .nili
  | mapr b l hl=>
   simp only;split
   .rename_i j' hj';exact .mapr j' l (by rw [(Ws hj').1];exact hl)
   .exact .undef _
  | ifbt=>exact .ifbt
  | ifbf t v=>exact .ifbf t v
  | dat len get blk base sz cap val cJ hsz hv hh=>refine .dat len get blk base sz cap val cJ hsz (fun i j hi hj=>(hv i j hi hj).mono (Qd h N)) (fun i j hi hj=> ?_);obtain ⟨cs,el,fz,e1,e2⟩:=hh i j hi hj;exact ⟨cs,el,fz,Je h N e1,e2⟩
  | datn get=>exact .datn get
  | datz get a c=>exact .datz get a c
  | nnl len get a c hd=>exact .nnl len get a c ((Wd 1 _ _ rfl hd).mono (BD.le_trans (Qd h N) (IS _)))
  | dptr cs blk base val hv hh=>refine .dptr cs blk base val (fun j hj=>(hv j hj).mono (Qd h N)) (fun j hj=> ?_);obtain ⟨cs',el,fz,e1,e2⟩:=hh j hj;exact ⟨cs',el,fz,Je h N e1,e2⟩
theorem T.get_map {f:BA->BA} (hf:f .undef =.undef): ∀(t:T BA) (i:Nat),T.get .undef (T.map f t) i=f (T.get .undef t i)
 | .leaf,i=>hf.symm
 | .node v l r,0=>rfl
 | .node v l r,i+1=>by
  show T.get .undef (.node (f v) (T.map f l) (T.map f r)) (i+1)=_;rw [T.get_succ,T.get_succ];split
  .exact T.get_map hf l _
  .exact T.get_map hf r _
theorem MD {f:BA->BA} (env:T BA): ∀(L:List Nat) (t:Nat),T.get .undef (Fo f env L) t=if t∈L then f (T.get .undef env t) else .undef
 | [],t=>by simp [Fo]
 | x::L,t=>by
  unfold Fo;rw [T.get_set,MD env L t];by_cases h:t=x
  .subst h;simp
  .simp [h]
theorem Pk {mem:BH} {next:Nat} {w:World} {ρ:BD} (h:BF ρ mem next w) {N:B1} (ho:Ci mem N.frz=true) {env:T BA} {n:Nat} {tmps:Array Value} (he:Xm ρ env n tmps): ∀(L:Option (List Nat)),Xm (CE ρ mem N w) (Eh (BX P mem N 6) env L) n tmps
 | none=>by
  refine ⟨he.size,fun i=> ?_,fun i hi=> ?_⟩
  .show Zb _ (T.get .undef (T.map (BX P mem N 6) env) i) _;rw [T.get_map rfl];exact Jh h ho 6 _ _ (he.get i)
  .show T.get .undef (T.map (BX P mem N 6) env) i=_;rw [T.get_map rfl,he.out i hi];rfl
 | some L=>by
  refine ⟨he.size,fun i=> ?_,fun i hi=> ?_⟩
  .show Zb _ (T.get .undef (Fo (BX P mem N 6) env L) i) _;rw [MD];split
   .exact Jh h ho 6 _ _ (he.get i)
   .exact .undef _
  .show T.get .undef (Fo (BX P mem N 6) env L) i=_;rw [MD,he.out i hi];split <;> rfl
theorem QE {mem:BH} {N:B1}: ∀(l:List Nat) (i j:Nat),Zs (Cl P mem N l i).1 j=if i<=j then (l[j - i]?).bind fun b=>(Zs mem b).map (Hl P mem N) else none
 | [],i,j=>by simp [Cl,Zs]
 | b::l,i,j=>by
  unfold Cl;have ih:=QE (mem:=mem) (N:=N) l (i+1);have tail:i<j->(b::l)[j - i]? =l[j - (i+1)]? :=fun h=>by rw [show j - i=(j - (i+1))+1 by omega];rfl
  cases hm:Zs mem b with
  | none=>
   show Zs (Cl P mem N l (i+1)).1 j=_;rw [ih];rcases A3 i j with h | h | h
   .rw [AB (by omega),AB (by omega),tail h]
   .subst h;rw [At (by omega),AB (by omega)];simp [hm]
   .rw [At (by omega),At (by omega)]
  | some blk=>
   show Zs (Yi (Cl P mem N l (i+1)).1 i (some (Hl P mem N blk))) j=_;rw [Xi,ih];rcases A3 i j with h | h | h
   .rw [At (by omega),AB (by omega),AB (by omega),tail h]
   .subst h;rw [AB rfl,AB (by omega)];simp [hm]
   .rw [At (by omega),At (by omega),At (by omega)]
theorem ME {mem:BH} {N:B1}: ∀(l:List Nat) (i:Nat),(Cl P mem N l i).2=true-> ∀b∈l,∀blk,Zs mem b=some blk->Lc blk=true
 | [],i,_,b,hb,_,_=>by cases hb
 | x::l,i,h,b,hb,blk,hm=>by
  unfold Cl at h;cases hx:Zs mem x with
  | none=>
   rw [hx] at h;rcases Be.1 hb with rfl | hb
   .rw [hx] at hm;cases hm
   .exact ME l (i+1) h b hb blk hm
  | some blk'=>
   rw [hx] at h;have h:(Lc blk'&&(Cl P mem N l (i+1)).2)=true:=h;simp only [Ad] at h;rcases Be.1 hb with rfl | hb
   .rw [hx] at hm;obtain rfl:=Ac hm;exact h.1
   .exact ME l (i+1) h.2 b hb blk hm
theorem Qr {f:BA->BA} {lps:BN}: ∀(l:List Nat) (i:Nat) (sl:List (Option (List Nat))) (j:Nat) (L:Bx),CA (GK f lps l i sl) j=some L->i<=j/\ ∃b L0 x,l[j - i]? =some b/\CA lps b=some L0/\L=⟨L0.st,L0.pend,L0.n,Eh f L0.env x,L0.params,L0.assign,L0.body⟩
 | [],i,sl,j,L,h=>by cases h
 | b::l,i,sl,j,L,h=>by
  unfold GK at h;split at h
  .obtain ⟨h1,b',L0,x,h2,h3,h4⟩:=Qr l (i+1) _ j L h
   grind
  .rename_i st pend n env params assign body hb;rw [show CA (DS (GK f lps l (i+1) sl.tail) i (some ⟨st,pend,n,Eh f env (sl.headD none),params,assign,body⟩)) j=if j=i then some ⟨st,pend,n,Eh f env (sl.headD none),params,assign,body⟩ else CA (GK f lps l (i+1) sl.tail) j from T.get_set none _ i _ j] at h;by_cases hj:j=i
   .subst hj;rw [AB rfl] at h;obtain rfl:=Ac h;exact ⟨Ak _,b,_,_,by simp,hb,rfl⟩
   .rw [At hj] at h;obtain ⟨h1,b',L0,x,h2,h3,h4⟩:=Qr l (i+1) _ j L h
    grind
theorem TW {mem:BH} {w:World} {ρ:BD} {N:B1} {x x' y:Item} (h:Ho N.keep x=some x') (hx:Cs ρ x y):Cs (CE ρ mem N w) x' y:=by
 cases hx with
 | inR j l e=>simp only [Ho,Ag] at h;obtain ⟨j',hj,rfl⟩:=h;exact .inR j' l (by rw [(Ws hj).2];exact e)
 | endR j l e=>simp only [Ho,Ag] at h;obtain ⟨j',hj,rfl⟩:=h;exact .endR j' l (by rw [(Ws hj).2];exact e)
 | same x hp=>
  have:Ho N.keep x=some x:=by
   unfold Ho;split
   .cases hp
   .cases hp
   grind
  rw [this] at h;obtain rfl:=Ac h;exact .same _ hp
theorem PK {mem:BH} {w:World} {ρ:BD} {N:B1}: ∀{l l' m:List Item},Hw N.keep l=some l'->CG ρ l m->CG (CE ρ mem N w) l' m
 | [],l',m,h,ht=>by cases ht;obtain rfl:=Ac h;exact .nil
 | x::l,l',m,h,ht=>by
  cases ht with
  | cons hx ht=>
   unfold Hw at h;split at h
   .rename_i y k hy hk;obtain rfl:=Ac h;exact .cons (TW hy hx) (PK hk ht)
   .cases h
theorem Pl {mem:BH} {next:Nat} {w:World} {ρ:BD} (h:BF ρ mem next w) {N:B1} (ho:Ci mem N.frz=true) {cx:BK} {ro:Option BR} {todo todo':List Item} {rnd rnd':Option Nat} {env:T BA} {b:Frame} {a:Act} {k:List Item} {ms:List Nat} (ht:Hw N.keep todo=some todo') (hr:Ij N.keep rnd=some rnd')
  (hf:DQ ρ cx ro todo rnd env b a k ms) (L:Option (List Nat)):DQ (CE ρ mem N w) cx ro todo' rnd' (Eh (BX P mem N 6) env L) b a k ms/\(rnd'=none->rnd=none):=by
 refine ⟨⟨Pk h ho hf.env L,hf.defers,PK ht hf.todo,hf.ro,?_⟩,fun e=> ?_⟩
 .have hrn:=hf.rnd;cases rnd with
  | none=>obtain rfl:=Ac hr;exact hrn
  | some j=>simp only [Ij,Ag] at hr;obtain ⟨j',hj,rfl⟩:=hr;obtain ⟨h0,l,h1,h2⟩:=hrn;exact ⟨h0,l,by rw [(Ws hj).2];exact h1,h2⟩
 .cases rnd with
  | none=>rfl
  | some j=>simp_all [Ij]
theorem QL {mem:BH} {next:Nat} {w:World} {ρ:BD} (h:BF ρ mem next w) {N:B1} (ho:Ci mem N.frz=true): ∀{cs cs':List BW} {sl:List (Option (List Nat))} {css:List Frame} {mss:List Nat},IM (BX P mem N 6) N.keep cs sl=some cs'->DP P ρ cs css mss->DP P (CE ρ mem N w) cs' css mss/\(cs'≠ []->cs≠ [])
 | [],cs',sl,css,mss,hc,hr=>by cases hr;obtain rfl:=Ac hc;exact ⟨.nil,id⟩
 | af::cs,cs',sl,css,mss,hc,hr=>by
  cases hr with
  | cons hf hl ht=>
   unfold IM at hc;split at hc
   .rename_i todo' rnd' cs'' h1 h2 h3;obtain rfl:=Ac hc;obtain ⟨i1,i2⟩:=QL h ho h3 ht;obtain ⟨f1,f2⟩:=Pl (P:=P) h ho h1 h2 hf (sl.headD none);exact ⟨.cons f1 (fun hne=>⟨(hl (i2 hne)).1,fun e=>(hl (i2 hne)).2 (f2 e)⟩) i1,fun _=>by simp⟩
   .cases hc
def Fe (ρ ρ':BD) (L L':List BA):Prop:=L'.length=L.length/\ ∀(j:Nat) (h1:j<L.length) (h2:j<L'.length) (v:Value),Zb ρ L[j] v->Zb ρ' L'[j] v
theorem KT {mem:BH} {next:Nat} {w:World} {ρ:BD} (h:BF ρ mem next w) {N:B1} (ho:Ci mem N.frz=true): ∀(rw1:B0),Hh rw1=true-> ∀k,Fe ρ (CE ρ mem N w) (rw1.get k) ((Cm (BX P mem N 6) rw1).get k)
 | .flat g,hf,k=>by refine ⟨rfl,fun j h1 h2 v hv=> ?_⟩;have dC: ∀i,(g i).all (pf 6)=true:=Wr hf;exact ((Wd 6 _ _ (Az.1 (dC k) _ (AR h1)) hv).mono (Qd h N)).mono (IS _)
 | .one r cs b,hf,k=>by
  have ih:=KT h ho (N:=N) b hf k;have hc:Fe ρ (CE ρ mem N w) cs (cs.map (BX P mem N 6)):=⟨by simp,fun j h1 h2 v hv=>by simpa using Jh h ho 6 _ _ hv⟩
  simp only [Cm,B0.get];cases Nat.beq k r with
  | true=>exact hc
  | false=>exact ih
 | .alt c a b,hf,k=>by
  simp only [Hh,Ad] at hf;have iha:=KT h ho (N:=N) a hf.1 k;have ihb:=KT h ho (N:=N) b hf.2 k;simp only [Cm,B0.get];cases c k with
  | true=>exact iha
  | false=>exact ihb
theorem YK {mem:BH} {next:Nat} {w:World} {ρ:BD} (h:BF ρ mem next w) {N:B1} (ho:Ci mem N.frz=true) (hd:D3 N.keep N.frz=true) (hfl:(Cl P mem N N.keep 0).2=true):BF (CE ρ mem N w) (Cl P mem N N.keep 0).1 N.keep.length w:=by
 obtain ⟨hnd,hdj⟩:=Li hd;have get: ∀j,Zs (Cl P mem N N.keep 0).1 j=(N.keep[j]?).bind fun b=>(Zs mem b).map (Hl P mem N):=fun j=>by
  grind [QE]
 have blk: ∀{b' l},(CE ρ mem N w) b'=some l-> ∃b,N.keep[b']? =some b/\ρ b=some l:=fun {b' l} e=>by
  have e:(N.keep[b']?).bind (fun b=>ρ b)=some l:=e
  grind
 have live: ∀{b' b},N.keep[b']? =some b->(Zs (Cl P mem N N.keep 0).1 b').isSome =true->(Zs mem b).isSome =true:=fun {b' b} e hs=>by
  grind
 refine ⟨fun b' l e=> ?_,fun b' b'' l l' e e' hbl hs hs'=> ?_,fun b' l ab e hm=> ?_,fun k o e=> ?_,fun b' l e hs=> ?_,fun b' l e=> ?_,fun b' hb=> ?_,fun j l e=> ?_,h.ldom.2.mono fun k o e=>Je h N e⟩
 .grind
 .obtain ⟨b,e1,e2⟩:=blk e;obtain ⟨c,e3,e4⟩:=blk e';have:=h.inj b c l l' e2 e4 hbl (live e1 hs) (live e3 hs');subst this;exact (List.getElem?_inj (AK.1 e1).1 hnd).1 (e1.trans e3.symm)
 .obtain ⟨b,e1,e2⟩:=blk e;rw [get,e1] at hm;simp only [Option.bind_some,Ag] at hm;obtain ⟨ab0,hm0,rfl⟩:=hm;cases h.blk b l ab0 e2 hm0 with
  | obj o r ty hab hn hh=>
   subst hab;refine .obj o (r.map (BX P mem N 6)) ty rfl (by rw [hn];simp) ?_;cases o with
   | mi ml=>obtain ⟨rfl,k⟩:=hh;exact ⟨rfl,k⟩
   | mb ml=>obtain ⟨rfl,k⟩:=hh;exact ⟨rfl,k⟩
   | it s pos=>obtain ⟨rfl,k⟩:=hh;exact ⟨rfl,k⟩
   | bld=>obtain ⟨buf,v,p,rfl,k1,k2,k3⟩:=hh;exact ⟨_,v,p,rfl,k1,Jh h ho 6 _ _ k2,k3⟩
  | plain hpl=>
  obtain ⟨hty,hn,ht,har,cs,el,g1,g2,g3⟩:=hpl;obtain ⟨cells,ty,arr⟩:=ab0;cases arr with
  | none=>
   refine .plain ⟨hty,by simpa [Hl] using hn,ht,(fun A hA=>by cases hA),cs,el,g1,g2,fun i hi=> ?_⟩
   grind [Hl,Jh]
  | some A=>
   obtain ⟨a1,a2,a3⟩:=har A rfl;simp only at a1;have hfb:Lc ⟨cells,ty,some A⟩=true:=ME N.keep 0 hfl b (List.mem_of_getElem? e1) _ hm0;have eD:=KT (P:=P) h ho (N:=N) A.rw hfb;have hl': ∀i,i<A.n->((Cm (BX P mem N 6) A.rw).get i).length =A.sz:=fun i hi=>by rw [(eD i).1];exact a3 i hi
   have k1:=Zh A.n a3;have k2:=Zh A.n hl';refine .plain ⟨hty,by show l.n=(rows A.n _).length;grind,ht,(fun B hB=>by obtain rfl:=Ac hB;exact ⟨rfl,a2,hl'⟩),cs,el,g1,g2,fun i hi=> ?_⟩;have hi':i<A.n*A.sz:=by rw [<-k2];exact hi
   have hj:i %A.sz<A.sz:=A2 _ a2;have hq:i / A.sz<A.n:=AP (by grind);have e:i / A.sz*A.sz+i %A.sz=i:=by rw [Ba];exact A4 i A.sz
   have hic:i<cells.length:=by grind
   have r1:=Xc A.n a3 (i / A.sz) (i %A.sz) hq hj;have r2:=Xc A.n hl' (i / A.sz) (i %A.sz) hq hj;rw [e] at r1 r2;have hi2:i<(rows A.n (Cm (BX P mem N 6) A.rw).get).length :=hi;have j1:i %A.sz<(A.rw.get (i / A.sz)).length :=by rw [show A.rw.get=A.get from rfl,a3 _ hq];exact hj
   have j2:i %A.sz<((Cm (BX P mem N 6) A.rw).get (i / A.sz)).length :=by grind
   obtain ⟨v,q1,q2⟩:=g3 i hic;have s1:cells[i]=(A.rw.get (i / A.sz))[i %A.sz]:=by
    have:cells[i]? =some (A.rw.get (i / A.sz))[i %A.sz]:=by rw [a1,r1,show A.get=A.rw.get from rfl,Ao j1]
    grind
   have s2:(rows A.n (Cm (BX P mem N 6) A.rw).get)[i]'hi2=((Cm (BX P mem N 6) A.rw).get (i / A.sz))[i %A.sz]:=by
    grind
   refine ⟨v,q1,?_⟩;show Zb _ ((rows A.n (Cm (BX P mem N 6) A.rw).get)[i]'hi2) v;rw [s2];refine (eD _).2 _ j1 j2 v ?_
   grind
 .have e: @ite _ (Fz ρ mem N k) (Classical.propDecidable _) (w.heap[k]?) (ρ.fz k)=some o:=e;by_cases hf:Fz ρ mem N k
  .grind
  .rw [At hf] at e;exact h.old k o e
 .obtain ⟨b,e1,e2⟩:=blk e;have hs0:=live e1 hs;have hnf: ¬Fz ρ mem N l.blk:=fun ⟨c,l',c1,c2,c3,c4⟩=>by
   have:=h.inj c b l' l c2 e2 c4 c3 hs0
   grind
  show @ite _ (Fz ρ mem N l.blk) (Classical.propDecidable _) (w.heap[l.blk]?) (ρ.fz l.blk)=none;rw [At hnf];exact h.sep b l e2 hs0
 .obtain ⟨b,_,e2⟩:=blk e;exact h.real b l e2
 .grind
 .have e:(N.keep[j]?).bind (fun b=>ρ.lp b)=some l:=e;have:=h.ldom.1
  grind
theorem JF {H:CX} {mem:BH} {next:Nat} {w0 w:World} {ρ:BD} (h:BF ρ mem next w) {N:B1} (he:Ev (Km H) ρ 0 .leaf 0 mem next w0 w) (mem':BH) (next':Nat):Ev (Km H) (CE ρ mem N w) 0 .leaf 0 mem' next' w0 w:=
 ⟨⟨fun b l e=>(by cases e),fun k o e=>Je h N (he.ext.2.1 k o e),fun j l e=>(by cases e)⟩,fun b hb=>absurd hb (AC _),AD _,fun b hb=>absurd hb (AC _),he.frame,fun b l _ e=>by
   have e:(N.keep[b]?).bind (fun b=>ρ b)=some l:=e;rw [Bq] at e;obtain ⟨c,_,e2⟩:=e;exact he.fresh c l (AD _) e2,he.size,he.os,he.tape,he.output,fun k hk=>by
   have hnf: ¬Fz ρ mem N k:=fun ⟨b,l,_,e2,_,e4⟩=>by
    rcases he.fresh b l (AD _) e2 with h1 | ⟨b0,l0,e0,_⟩
    .omega
    .cases e0
   show @ite _ (Fz ρ mem N k) (Classical.propDecidable _) (w.heap[k]?) (ρ.fz k)=_;rw [At hnf];exact he.still k hk⟩
def Ua (P:Program) (C C':BJ):Prop:=
 ∀(H:CX) (w0:World) (ρ:BD) (b:Frame) (a:Act) (k:List Item) (css:List Frame) (w:World) (ma mb:List Nat),GS P w0.heap.size C ρ b a k css w ma mb->Ev (Km H) ρ 0 .leaf 0 C.st.mem C.st.next w0 w-> ∀cs0:List Frame,
  ∃ρ' b' a' k' css' w' ma' mb',Steps P (lone (b.atR a (Xh C.ro k)) (css++cs0) w) (lone (b'.atR a' (Xh C'.ro k')) (css'++cs0) w')/\GS P w0.heap.size C' ρ' b' a' k' css' w' ma' mb'/\Ev (Km H) ρ' 0 .leaf 0 C'.st.mem C'.st.next w0 w'/\GF b' css'=GF b css/\w.heap.size<=w'.heap.size
theorem Ua.refl (C:BJ):Ua P C C:=fun H w0 ρ b a k css w ma mb hs he cs0=>⟨ρ,b,a,k,css,w,ma,mb,Steps.refl _ _,hs,he,rfl,Ak _⟩
theorem Ua.trans {A B C:BJ} (h:Ua P A B) (k:Ua P B C):Ua P A C:=by intro H w0 ρ b a t css w ma mb hs he cs0;obtain ⟨ρ1,b1,a1,t1,css1,w1,ma1,mb1,s1,r1,e1,q1,z1⟩:=h H w0 ρ b a t css w ma mb hs he cs0;obtain ⟨ρ2,b2,a2,t2,css2,w2,ma2,mb2,s2,r2,e2,q2,z2⟩:=k H w0 ρ1 b1 a1 t1 css1 w1 ma1 mb1 r1 e1 cs0;exact ⟨ρ2,b2,a2,t2,css2,w2,ma2,mb2,s1.trans s2,r2,e2,q2.trans q1,AE z1 z2⟩
theorem Cz.goes {C C':BJ} (h:Cz P 0 C C'):Ua P C C':=fun H w0 ρ b a k css w ma mb hs he cs0=>h .leaf 0 (Km H) w0 ρ b a k css w ma mb hs he cs0
def IR (C:BJ):Bool:=Nat.beq C.cx.floor 0&&C.cs.all fun af=>Nat.beq af.cx.floor 0
theorem PZ {C:BJ} (h:IR C=true):Fl 0 C:=by unfold IR at h;simp only [Ad] at h;exact ⟨Ae h.1,fun af haf=>Ae (Az.1 h.2 af haf),AD _⟩
theorem PF {f:BA->BA} {keep:List Nat} {fl:Nat}: ∀{cs cs':List BW} {sl:List (Option (List Nat))},IM f keep cs sl=some cs'->(∀af∈cs,af.cx.floor=fl)-> ∀af∈cs',af.cx.floor=fl
 | [],cs',sl,h,_,af,haf=>by obtain rfl:=Ac h;cases haf
 | a0::cs,cs',sl,h,hcs,af,haf=>by
  unfold IM at h;split at h
  .rename_i t1 r1 c1 g1 g2 g3;obtain rfl:=Ac h;rcases Be.1 haf with rfl | haf
   .grind
   .exact PF g3 (fun x hx=>hcs x (List.mem_cons_of_mem _ hx)) af haf
  .cases h
theorem O8 {N:B1} {C C':BJ} (h:Is P N C=some C') (ho:C'.st.ob=true):C.st.ob=true/\Ua P C C'/\(Fl 0 C->Fl 0 C'):=by
 obtain ⟨cx,ro,todo,rnd,rs,⟨env,mem,next,orc,ob⟩,cs,lps⟩:=C;simp only [Is] at h;split at h
 .rename_i todo' rnd' cs' h1 h2 h3;obtain ⟨hd,h⟩:=Zq h;obtain rfl:=Ac h;simp only [Ad] at ho;obtain ⟨hkm,ho2,ho3⟩:=ho;refine ⟨ho3,fun H w0 ρ b a k css w ma mb hs he cs0=> ?_,fun hfl=>⟨hfl.cx,fun af haf=> ?_,AD _⟩⟩
  .have cB:=hs.rel;simp only at cB he;obtain ⟨f1,f2⟩:=Pl (P:=P) cB ho2 h1 h2 hs.top (N.slots.headD none);obtain ⟨c1,c2⟩:=QL (P:=P) cB ho2 h3 hs.rest.cs;refine ⟨CE ρ mem N w,b,a,k,css,w,ma,mb,Steps.refl _ _,⟨f1,fun hne=>⟨(hs.lv (c2 hne)).1,fun e=>(hs.lv (c2 hne)).2 (f2 e)⟩,⟨c1,hs.rest.nodup,fun r hr=> ?_,fun j L hL=> ?_,fun j j' L L' l hL hL' e e'=> ?_⟩,?_⟩,JF cB he _ _,rfl,Ak _⟩
   .obtain ⟨q1,⟨q2,q3,q4⟩,q5⟩:=hs.rest.marks r hr;refine ⟨q1,⟨q2,?_,fun b' l e=> ?_⟩,q5⟩
    .show @ite _ (Fz ρ mem N r) (Classical.propDecidable _) (w.heap[r]?) (ρ.fz r)=none;rw [At fun ⟨c,l,_,e2,_,e4⟩=>q4 c l e2 e4];exact q3
    .have e:(N.keep[b']?).bind (fun b=>ρ b)=some l:=e
     grind
   .obtain ⟨_,c,L0,x,e1,e2,rfl⟩:=Qr N.keep 0 _ j L hL;rw [Nat.sub_zero] at e1;obtain ⟨l,q1,q2,⟨q3,q4,q5⟩,tm,fn',d,q6,q7⟩:=hs.rest.loops c L0 e2;refine ⟨l,?_,q2,⟨q3,?_,fun b' l' e=> ?_⟩,tm,fn',d,q6,Pk (P:=P) cB ho2 q7 x⟩
    .show (N.keep[j]?).bind (fun b=>ρ.lp b)=some l
     grind
    .show @ite _ (Fz ρ mem N l) (Classical.propDecidable _) (w.heap[l]?) (ρ.fz l)=none;rw [At fun ⟨c,l,_,e2,_,e4⟩=>q5 c l e2 e4];exact q4
    .have e:(N.keep[b']?).bind (fun b=>ρ b)=some l':=e
     grind
   .obtain ⟨_,c,L0,x,e1,e2,rfl⟩:=Qr N.keep 0 _ j L hL;obtain ⟨_,c',L0',x',e1',e2',rfl⟩:=Qr N.keep 0 _ j' L' hL';rw [Nat.sub_zero] at e1 e1';have e:(N.keep[j]?).bind (fun b=>ρ.lp b)=some l:=e;have e':(N.keep[j']?).bind (fun b=>ρ.lp b)=some l:=e';rw [e1] at e;rw [e1'] at e';have:=hs.rest.inj c c' L0 L0' l e2 e2' e e';subst this;exact (List.getElem?_inj (AK.1 e1).1 (Li hd).1).1 (e1.trans e1'.symm)
   .exact YK cB ho2 hd hkm
  .exact PF h3 hfl.cs af haf
 .cases h
theorem Lo {S:BC} {Rc:BI} (hN:CY P) (hmx:P.follows .mixedOrders =true) (hS:Zu P S) (hCI:Ct Rc) (hC:D8 P Rc) {fl:Nat}: ∀(n:Nat) (C C':BJ),Fl fl C->Ir P S Rc n C=some C'->Fl fl C'/\Yq fl C.st C'.st/\(C'.st.ob=true->Cz P fl C C')
 | 0,C,C',hfl,h=>by
  obtain rfl:=Ac h
  grind [Yq.refl,Cz.refl]
 | n+1,C,C',hfl,h=>by
  have h:(match IN P S Rc C with
   | some C'=>Ir P S Rc n C'
   | none=>none)=some C':=h
  split at h
  .rename_i C1 h1;have s1:=QP hN hmx hS hCI hC hfl h1;obtain ⟨f1,f4,f5⟩:=Lo hN hmx hS hCI hC n C1 C' s1.fls h;exact ⟨f1,s1.inv.trans f4,fun ho=>(s1.leads (f4.ob ho)).trans (f5 ho)⟩
  .cases h
theorem Wb {S:BC} (hN:CY P) (hmx:P.follows .mixedOrders =true) (hS:Zu P S) {n m d:Nat} {N:B1} {C C':BJ} (h:(Ir P S (Ek P S m d) n C).bind (Is P N)=some C') (ho:C'.st.ob=true) (hfl:IR C=true):Ua P C C'/\C.st.ob=true:=by rw [Bq] at h;obtain ⟨C1,h1,h2⟩:=h;obtain ⟨hCI,hC⟩:=M3 hN hmx hS m d;obtain ⟨f1,f2,f3⟩:=Lo hN hmx hS hCI hC n C C1 (PZ hfl) h1;obtain ⟨g1,g2,_⟩:=O8 h2 ho;exact ⟨(f3 g1).goes.trans g2,f2.ob g1⟩
def startC (P:Program) (f:FuncId) (args:List BA) (sym:Bool) (orc:List Bool):BJ:=
 match P.funcs[f]? with
 | some fn=>⟨⟨Nat.max fn.ntmps args.length,0,sym⟩,none,[.code (fn.body.getD .ret)],none,fn.results.toList,⟨DC args 0 .leaf,.leaf,0,orc,true⟩,[],.leaf⟩
 | none=>⟨⟨0,0,sym⟩,none,[],none,[],⟨.leaf,.leaf,0,[],true⟩,[],.leaf⟩
theorem goes_call {f:FuncId} {args:List BA} {sym:Bool} {orc:List Bool} {C':BJ} {vs:List BA} {H:CX} (hf:(P.funcs[f]?).any (fun fn=>fn.body.isSome)=true) (h:Ua P (startC P f args sym orc) C') (hfin:De C'=true) (hob:(aResults P C'.st (startC P f args sym orc).rs)=some vs)
  {vals:Array Value} {w:World} (cD:Xo (Zb (Km H)) args vals.toList) (hH: ∀k o,H k=some o->w.heap[k]? =some o) (hG:Glob H):
  Calls P f vals w fun e w'=> ∃ρ u,e=.returned u/\SR H w ρ (Ud vs) u w':=by
 cases hfn:P.funcs[f]? with
 | none=>grind
 | some fn=>
  rw [hfn] at hf;have hf:fn.body.isSome=true:=hf;obtain ⟨body,hb⟩:=Bm.1 hf;have hstart:startC P f args sym orc=⟨⟨Nat.max fn.ntmps args.length,0,sym⟩,none,[.code body],none,fn.results.toList,⟨DC args 0 .leaf,.leaf,0,orc,true⟩,[],.leaf⟩:=by unfold startC;grind
  rw [hstart] at h hob;simp only at hob;intro cs;obtain ⟨ρ',b',a',k',css',w',ma',mb',s1,r1,v1,q1,_⟩:=h H w (Km H) ⟨f, #[],[],[],.run,.normal,none⟩ {tmps:=vals++Array.replicate (fn.ntmps - vals.size) undef,defers:=[]} [.code body] [] w [] []
   ⟨⟨Ll cD fn.ntmps,rfl,.cons (.same _ rfl) .nil,trivial,rfl⟩,fun h=>absurd rfl h,Oc _ _ _,QK hH hG⟩ (Ev.refl _ _ _ _ _ (QK hH hG).dom) cs
  obtain ⟨e1,e2,e3,e4⟩:=Ow hfin;have hcs:=r1.rest.cs;rw [e3] at hcs;cases hcs;obtain ⟨w2,s2,henv',cV,dM,_,_⟩:=Lj r1 e1 e2 e4 rfl v1 cs;obtain ⟨u,hu,hres⟩:=Kg (fn:=fn) henv' cV hob;have q:(b'.fn,b'.kind,b'.roundOf)=(f,CallKind.normal,none):=q1;simp only [Aa] at q;have hen:Frame.enter P f vals .normal =Frame.atR ⟨f, #[],[],[],.run,.normal,none⟩ {tmps:=vals++Array.replicate (fn.ntmps - vals.size) undef,defers:=[]} (Xh none [.code body]):=by
   grind [Frame.enter,Frame.atR,Xh]
  refine ⟨.returned u,w2,{b'.atR {a' with defers:=[]} k' with mode:=.returning},⟨ρ',u,rfl,Gm hu cV dM⟩,?_,q.1,rfl,rfl,q.2.1,fn,by show P.funcs[b'.fn]? =_;grind,hres⟩;rw [hen];exact s1.trans s2
end
def Kf :List BE->Nat->BH
 | [],_=>.leaf
 | b::l,i=>Yi (Kf l (i+1)) i (some b)
def CN (c:Nat->Int):Nat->List BA:=fun i=>[.int .i64 (c i)]
def BJ.withO :BJ->List Bool->BJ
 | ⟨cx,ro,todo,rnd,rs,⟨env,mem,next,_,_⟩,cs,lps⟩,o=>⟨cx,ro,todo,rnd,rs,⟨env,mem,next,o,true⟩,cs,lps⟩
def BJ.withB :BJ->Bool->BJ
 | ⟨cx,ro,todo,rnd,rs,⟨env,mem,next,_,_⟩,cs,lps⟩,b=>⟨cx,ro,todo,rnd,rs,⟨env,mem,next,[],b⟩,cs,lps⟩
inductive Wn (σ:Type) where
 | stuck
 | ret (vs:List BA)
 | to (s:σ)
def BV (P:Program) (rs:List ResultVar) (C:BJ) (vs:List BA):Prop:= ∃C',Ua P C C'/\De C'=true/\aResults P C'.st rs=some vs
def Wi (P:Program) (rs:List ResultVar) {σ:Type} (cfg:σ->BJ) (C:BJ):Wn σ->Prop
 | .stuck =>True
 | .ret vs=>BV P rs C vs
 | .to s=>Ua P C (cfg s)
section
variable {P:Program} {rs:List ResultVar} {σ:Type} {cfg:σ->BJ} {C:BJ}
theorem P8 {c:Bool} {a b:Wn σ} (ha:c=true->Wi P rs cfg C a) (hb:c=false->Wi P rs cfg C b):Wi P rs cfg C (bif c then a else b):=by grind
theorem w0g {c:Bool} {a:Wn σ} (ha:c=true->Wi P rs cfg C a):Wi P rs cfg C (bif c then a else .stuck):=P8 ha fun _=>trivial
theorem w0f {vs:List BA} (C':BJ) (h:Ua P C C') (hf:De C'=true) (hr:aResults P C'.st rs=some vs):Wi P rs cfg C (.ret vs):=⟨C',h,hf,hr⟩
end
def Yr {σ:Type} (step:σ->Wn σ):Nat->Wn σ->Wn σ
 | 0,o=>o
 | n+1,.to s=>Yr step n (step s)
 | _+1,o=>o
theorem Yy {P:Program} {rs:List ResultVar} {σ:Type} {cfg:σ->BJ} {step:σ->Wn σ} (dA: ∀s,Wi P rs cfg (cfg s) (step s)) {C:BJ}: ∀(n:Nat) (o:Wn σ),Wi P rs cfg C o->Wi P rs cfg C (Yr step n o)
 | 0,o,h=>h
 | n+1,.stuck,h=>h
 | n+1,.ret vs,h=>h
 | n+1,.to s,h=>Yy dA n (step s) (match step s,dA s with
  | .stuck,_=>trivial
  | .ret vs,⟨C',g,hf,hr⟩=>⟨C',Ua.trans h g,hf,hr⟩
  | .to s',g=>Ua.trans h g)
theorem Zc {σ:Type} (step:σ->Wn σ) (n:Nat) (vs:List BA):Yr step n (.ret vs)=.ret vs:=by cases n <;> rfl
theorem Zj {σ:Type} (step:σ->Wn σ) (n:Nat) (s:σ):Yr step (n+1) (.to s)=Yr step n (step s):=rfl
theorem Hk {a b:Bool} (ha:a=true) (hb:b=true):(a&&b)=true:=by grind
theorem Mu {a b:Bool} (h:a=b):(a == b)=true:=by grind
def BC.with (S:BC) (f:FuncId) (F:List BA->Option (BA×Bool)):BC:=fun g=>bif Nat.beq g f then some (.val F) else S g
theorem QO {P:Program} {f:FuncId} {args:List BA} {sym:Bool} {orc:List Bool}:(startC P f args sym orc).rs =Zy P f:=by
 grind [startC,Zy]
theorem XL {P:Program} {S:BC} (hS:Zu P S) {f:FuncId} {F:List BA->Option (BA×Bool)} (hf:(P.funcs[f]?).any (fun fn=>fn.body.isSome)=true)
  (hF: ∀args v,F args=some (v,true)-> ∃vs,Ud vs=v/\BV P (Zy P f) (startC P f args true []) vs/\ ∃d,pf d v=true):Zu P (S.with f F):=by
 intro g G hg;unfold BC.with at hg;cases hgf:Nat.beq g f with
 | false=>rw [hgf] at hg;exact hS g G hg
 | true=>
  rw [hgf] at hg;obtain rfl:GT.val F=G:=Ac hg;obtain rfl:g=f:=Ae hgf;refine ⟨?_,fun args v hv H vals w cD hH hG=> ?_⟩
  .grind
  .obtain ⟨vs,rfl,⟨C',g1,g2,g3⟩,d,hp⟩:=hF args v hv;exact (goes_call hf g1 g2 (by rw [QO];exact g3) cD hH hG).mono fun e w' ⟨ρ,u,he,ho⟩=>⟨ρ.fz,u,ho.le,ho.old,ho.same,he,Wd d _ u hp ho.val,ho.below⟩
def BU (get:Nat->List BA) (i:Nat):Int:=match get i with
 | .int _ n::_=>n
 | _=>0
def F4 (get:Nat->List BA):Bool:=pd (get=CN (BU get))
theorem P5 {get:Nat->List BA} (h:F4 get=true): ∃c,get=CN c:=⟨_,Wr h⟩
theorem U5 (x:Int):(x != x)=false:=by simp
theorem w0z (x:Int):(x == x)=true:=by simp
theorem WU (x:Int):(!(x != x))=true:=by simp
theorem WT (x:Int):(!(x == x))=false:=by simp
theorem Z0 (n:Int):IntKind.i64.wrap n=(n+9223372036854775808) %18446744073709551616 - 9223372036854775808:=by rw [IntKind.wrap_i64]
theorem NF {n:Int} (h: -9223372036854775808<=n) (h':n<=9223372036854775807):IntKind.i64.wrap n=n:=by simp only [Z0];omega
theorem Dc {α:Type} {c:Bool} {a b:α} (h:c=true):(bif c then a else b)=a:=by rw [h];rfl
inductive CI :BA->BA->Prop
 | refl (v:BA):CI v v
 | undef (v:BA):CI v .undef
 | nils (b sz off:Nat) (cap:DD):CI .nils (.sla b sz off 0 cap)
 | sl (b sz q len:Nat) (cap:DD):CI (.sl b (q*sz) len cap) (.sla b sz q len cap)
 | nild (g:Nat->List BA):CI .nils (.dat 0 g)
 | dat (n:Nat) (g g':Nat->List BA) (h: ∀i,i<n->g i=g' i):CI (.dat n g) (.dat n g')
 | dptr (cs cs':List BA) (hl:cs.length=cs'.length) (h: ∀(ρ:BD) (i:Nat) (h1:i<cs.length) (h2:i<cs'.length) (v:Value),Zb ρ cs[i] v->Zb ρ cs'[i] v):CI (.dptr cs) (.dptr cs')
theorem CI.sound {ρ:BD} {a a':BA} {v:Value} (h:CI a a') (hv:Zb ρ a v):Zb ρ a' v:=by
 cases h with
 | refl=>exact hv
 | undef=>exact .undef _
 | nils b sz off cap=>cases hv;exact .slan b sz off cap
 | sl b sz q len cap=>cases hv with | sl _ _ _ _ l c h hc cC=>exact .sla b sz q len cap l c h hc cC
 | nild g=>cases hv;exact .datn _
 | dptr cs cs' hl h=>cases hv with
  | dptr _ blk base val q1 q2=>exact .dptr cs' blk base val (fun j hj=>h _ j (by omega) hj _ (q1 j (by omega))) fun j hj=>q2 j (by omega)
 | dat n g g' hg=>
  cases hv with
  | datn=>exact .datn _
  | datz=>exact .datz _ _ _
  | dat _ _ blk base sz cap val cJ hsz hv hh=>
   refine .dat n g' blk base sz cap val cJ (fun i hi=>by grind) (fun i j hi hj=> ?_) hh
   grind
theorem CI.of_undef {a:BA} (h:CI .undef a):a=.undef :=by cases h <;> rfl
inductive B9 :List BA->List BA->Prop
 | nil:B9 [] []
 | cons {a b:BA} {l m:List BA} (h:CI a b) (t:B9 l m):B9 (a::l) (b::m)
theorem B9.refl : ∀l:List BA,B9 l l
 | []=>.nil
 | a::l=>.cons (.refl a) (B9.refl l)
theorem B9.len {l m:List BA} (h:B9 l m):l.length=m.length:=by
 induction h with
 | nil=>rfl
 | cons _ _ ih=>simp [ih]
theorem B9.get {l m:List BA} (h:B9 l m): ∀(i:Nat) (h1:i<l.length) (h2:i<m.length),CI l[i] m[i]:=by
 induction h with
 | nil=>grind
 | cons h _ ih=>
  grind
inductive E8 :Option BE->Option BE->Prop
 | refl (b:Option BE):E8 b b
 | drop (b:Option BE):E8 b none
 | rowed (cells:List BA) (ty:TypeId) (a:Option CJ) (sz n:Nat) (g:Nat->List BA) (ho:(⟨cells,ty,a⟩:BE).isObj =false) (hc:cells=rows n g) (h1:1<=sz) (hl: ∀i,i<n->(g i).length =sz):E8 (some ⟨cells,ty,a⟩) (some ⟨rows n g,ty,some ⟨sz,n,g⟩⟩)
 | rws (ty:TypeId) (sz n:Nat) (a a':B0) (h: ∀k,k<n->B9 (a.get k) (a'.get k)):E8 (some ⟨rows n a.get,ty,some ⟨sz,n,a⟩⟩) (some ⟨rows n a'.get,ty,some ⟨sz,n,a'⟩⟩)
theorem E8.sound {ρ:BD} {w:World} {a a':BE} {l:BS} (h:E8 (some a) (some a')) (hb:Xu ρ w a l):Xu ρ w a' l:=by
 cases h with
 | refl=>exact hb
 | rowed cells ty a sz n g ho hc h1 hl=>subst hc;have hb:=hb.at ho;refine .plain ⟨hb.typ,hb.n,hb.tot,fun A hA=> ?_,hb.cells⟩;obtain rfl:=Ac hA;exact ⟨rfl,h1,hl⟩
 | rws ty sz n a a' h=>
  have hb:=hb.rows rfl;obtain ⟨_,h1,hl⟩:=hb.arr _ rfl;have h1:1<=sz:=h1;have hl: ∀k,k<n->(a.get k).length =sz:=hl;have hl': ∀k,k<n->(a'.get k).length =sz:=fun k hk=>by rw [<-(h k hk).len];exact hl k hk
  have k1:=Zh n hl;have k2:=Zh n hl';obtain ⟨cs,el,g1,g2,g3⟩:=hb.cells;refine .plain ⟨hb.typ,by rw [hb.n];show (rows n a.get).length =(rows n a'.get).length;rw [k1,k2],hb.tot,fun A hA=> ?_,cs,el,g1,g2,fun i hi=> ?_⟩
  .obtain rfl:=Ac hA;exact ⟨rfl,h1,hl'⟩
  .have hi2:i<(rows n a'.get).length :=hi;have hi':i<n*sz:=by rw [<-k2];exact hi
   have hj:i %sz<sz:=A2 _ h1;have hq:i / sz<n:=AP (by rw [Ba];exact hi');have e:i / sz*sz+i %sz=i:=by rw [Ba];exact A4 i sz
   have hic:i<(rows n a.get).length :=by rw [k1];exact hi'
   have r1:=Xc n hl (i / sz) (i %sz) hq hj;have r2:=Xc n hl' (i / sz) (i %sz) hq hj;rw [e] at r1 r2;have j1:i %sz<(a.get (i / sz)).length :=by rw [hl _ hq];exact hj
   have j2:i %sz<(a'.get (i / sz)).length :=by rw [hl' _ hq];exact hj
   obtain ⟨v,q1,q2⟩:=g3 i hic;have q2:Zb ρ ((rows n a.get)[i]'hic) v:=q2;refine ⟨v,q1,?_⟩;show Zb ρ ((rows n a'.get)[i]'hi2) v;rw [Ao hic,Ao j1] at r1;rw [Ao hi2,Ao j2] at r2;rw [Ac r1] at q2;rw [Ac r2];exact ((h _ hq).get _ j1 j2).sound q2
theorem MG {g h:Nat->List BA}: ∀(n:Nat),(∀i,i<n->g i=h i)->rows n g=rows n h
 | 0,_=>rfl
 | n+1,e=>by rw [KX,KX,MG n fun i hi=>e i (by omega),e n (by omega)]
theorem O7 {n:Nat} {g:Nat->List BA} (h: ∀k,∀v∈g k,B4 v=true) (ty:TypeId) (a:Option CJ):(⟨Go.Am.rows n g,ty,a⟩:BE).isObj =false:=
 Qi (ρ:=⟨fun _=>none,fun _=>none,fun _=>none⟩) (fun v hv=>by obtain ⟨k,_,hk⟩:=Po hv;exact .inr (h k v hk)) _ _
theorem K1 {n:Nat} {c:Nat->Int} (ty:TypeId) (a:Option CJ):(⟨Go.Am.rows n (CN c),ty,a⟩:BE).isObj =false:=O7 (fun k v hv=>by obtain rfl:=List.mem_singleton.1 hv;rfl) _ _
def C5 (l:List Int):Nat->Int:=fun k=>l.getD k 0
def C7 (asz sz off len n:Nat) (get:Nat->List BA):BA:=bif Nat.beq asz sz&&Nat.ble (off+len) n then .dat len (fun k=>get (off+k)) else .undef
theorem Z1 (sz n:Nat) (g:Nat->List BA):C7 sz sz 0 n n g=.dat n g:=by
 unfold C7;rw [show (Nat.beq sz sz&&Nat.ble (0+n) n)=true by simp_all,Ah]
 grind
def Jb (g:Nat->List BA):Bool:=pd (∀i,(g i).all (pf 6)=true)
theorem w1h {p:BA->Bool} {l:List BA} (h:l.all p=true) (n:Nat):(l.take n).all p=true:=
 by grind
theorem w1i {p:BA->Bool} {l:List BA} (h:l.all p=true) (n:Nat):(l.drop n).all p=true:=
 by grind
theorem WG {g:Nat->List BA} {off len sz:Nat} {new:List BA} (h:Jb g=true) (hn:new.all (pf 6)=true):Jb (Zn g off len sz new)=true:=Ya fun i=>by
 unfold Zn;cases Nat.ble len i with
 | true=>grind
 | false=>exact Wr h _
theorem WJ {g:Nat->List BA} {r fo:Nat} {cs:List BA} (h:Jb g=true) (hn:cs.all (pf 6)=true):Jb (Xa g r fo cs)=true:=Ya fun i=>by
 unfold Xa;cases Nat.beq i r with
 | true=>rw [Ah,List.all_append,List.all_append,w1h (Wr h r),hn,w1i (Wr h r)];rfl
 | false=>exact Wr h _
theorem ZA {P:Program} {S:BC} (hS:Zu P S) {f:FuncId} {F:List BA->Option (BA×Bool)} (hf:(P.funcs[f]?).any (fun fn=>fn.body.isSome)=true)
  (hF: ∀args v,F args=some (v,true)-> ∃vs,(∀(ρ:BD) (u:Value),Zb ρ (Ud vs) u->Zb ρ v u)/\BV P (Zy P f) (startC P f args true []) vs/\ ∃d,pf d (Ud vs)=true):Zu P (S.with f F):=by
 intro g G hg;unfold BC.with at hg;cases hgf:Nat.beq g f with
 | false=>rw [hgf] at hg;exact hS g G hg
 | true=>
  rw [hgf] at hg;obtain rfl:GT.val F=G:=Ac hg;obtain rfl:g=f:=Ae hgf;refine ⟨?_,fun args v hv H vals w cD hH hG=> ?_⟩
  .grind
  .obtain ⟨vs,hw,⟨C',g1,g2,g3⟩,d,hp⟩:=hF args v hv;exact (goes_call hf g1 g2 (by rw [QO];exact g3) cD hH hG).mono fun e w' ⟨ρ,u,he,ho⟩=>⟨ρ.fz,u,ho.le,ho.old,ho.same,he,hw _ _ (Wd d _ u hp ho.val),ho.below⟩
theorem X4 :Jb (fun _=>[])=true:=Ya fun _=>rfl
theorem TE (s t:Nat):Jb (fun k=>(([]:List BA).drop (k*s)).take t)=true:=Ya fun i=>by simp
theorem Ox {g:Nat->List BA} {o:Nat} (h:Jb g=true):Jb (fun k=>g (o+k))=true:=Ya fun i=>Wr h (o+i)
theorem WH {g h:Nat->List BA} {len:Nat} (p:Jb g=true) (q:Jb h=true):Jb (Vd g len h)=true:=Ya fun i=>by
 unfold Vd;cases Nat.ble len i with
 | true=>exact Wr q _
 | false=>exact Wr p _
open Go.Sort Go.RowKit
variable {P:Program} {ρ:BD}
theorem BF.rewritten {mem:BH} {next:Nat} {w w':World} (h:BF ρ mem next w) {b:Nat} {l:BS} {ab:BE} (hb:ρ b=some l) (hm:Zs mem b=some ab) {cs:List BA}
  (cC:cs.length=ab.cells.length) (cM: ∀k,k<w.heap.size->k≠l.blk->w'.heap[k]? =w.heap[k]?) (dX:w.heap.size<=w'.heap.size)
  (hno:ab.isObj=false) (hnew: ∃cur el,w'.heap[l.blk]? =some (.cells cur el (0,0))/\(∀cur0 z,w.heap[l.blk]? =some (.cells cur0 ab.ty z)->el=ab.ty)/\l.base+l.tot<=cur.size/\ ∀(i:Nat) (hi:i<cs.length),∃v,cur[l.base+i]? =some v/\Zb ρ cs[i] v):
  BF ρ (Yi mem b (some ⟨cs,ab.ty,none⟩)) next w':=by
 have hbk:=(h.blk b l ab hb hm).at hno;refine ⟨h.dom,fun c c' m m' e e' he hs hs'=> ?_,fun c m ac e hc=> ?_,fun k o e=> ?_,fun c m e hs=>h.sep c m e (by
  grind [Zx]),fun c m e=>AJ (h.real c m e) dX,fun c hc=>by have:=h.dom b l hb;rw [Zx _ _ (by omega)];exact h.bd c hc,h.ldom⟩
 .refine h.inj c c' m m' e e' he ?_ ?_;all_goals grind [Zx]
 .by_cases hcb:c=b
  .subst hcb;rw [Zd] at hc;obtain rfl:=Ac hc;rw [hb] at e;obtain rfl:=Ac e;obtain ⟨cur,el,n1,n2,n3,n4⟩:=hnew;obtain ⟨cur0,el0,o1,_⟩:=hbk.cells;have hel:=hbk.typ _ _ _ o1;subst hel;have:=n2 _ _ o1;exact .plain ⟨by rw [n1];grind,by rw [cC];exact hbk.n,hbk.tot,(fun A e=>by cases e),cur,el,n1,n3,n4⟩
  .rw [Zx _ _ hcb] at hc;refine (h.blk c m ac e hc).world (BD.le_refl _) (cM m.blk (h.real c m e) fun heq=>hcb ?_);exact h.inj c b m l e hb heq (by rw [hc];rfl) (by rw [hm];rfl)
 .have hk:=h.old k o e;rw [cM k ?_ ?_]
  .exact hk
  .grind
  .intro heq;have:=h.sep b l hb (by rw [hm];rfl)
   grind
def Yx (n:Nat) (c:Nat->Int):List Int:=(List.range n).map c
def EX (srt:List Int->List Int) (args:List BA) (mem:BH):Option (BA×Nat×BE×Bool):=match args with
 | [.sla b sz off n cap]=>match Zs mem b with
  | some ⟨_,ty,some A⟩=>some (.tup [],b,⟨rows A.n (CN (C5 (srt (Yx n (BU A.get))))),ty,some ⟨1,A.n,CN (C5 (srt (Yx n (BU A.get))))⟩⟩,
    Nat.beq sz 1&&(Nat.beq A.sz 1&&(Nat.beq off 0&&(decide (n=A.n)&&(F4 A.get&&decide (n<4611686018427387904))))))
  | _=>none
 | _=>none
theorem Uw (n:Nat) (c:Nat->Int) (i:Nat) (h:i<n):(rows n (CN c))[i]? =some (.int .i64 (c i)):=by
 have:=Xc (get:=CN c) (sz:=1) n (fun _ _=>rfl) i 0 h Nat.one_pos
 simpa [CN] using this
theorem Wo (n:Nat) (c:Nat->Int):(rows n (CN c)).length =n:=by rw [Zh (sz:=1) n fun _ _=>rfl,Nat.mul_one]
theorem Hs (w:World) (n blk off:Nat) (d:Array Int) (os:Array Obj) (k:Nat) (hk:k<w.heap.size):
  (grow (putRow (Value.int .i64) (Go.Sort.ahead w n) blk off d) os).heap[k]? =if k=blk then (w.heap[k]?).map (onCells (putCells (Value.int .i64) off d)) else w.heap[k]? :=by
 show (((Go.Sort.ahead w n).heap.modify blk (onCells (putCells (Value.int .i64) off d)))++os)[k]? =_;rw [Array.getElem?_append_left (by simp_all),A5];show (if blk=k then _ else _)=_;by_cases h:k=blk
 .simp_all
 .rw [At (fun e=>h e.symm),At h];rfl
theorem Ev.rewritten {mem:BH} {next floor:Nat} {w w':World} (h:BF ρ mem next w) {b:Nat} (o:Option BE) (hb: ∀l,ρ b=some l->floor<=b) (hnone:ρ b=none-> ∀cs ty,Zs mem b≠some ⟨cs,ty,none⟩)
  (cM: ∀k,k<w.heap.size->(∀l,ρ b=some l->k≠l.blk)->w'.heap[k]? =w.heap[k]?) (dX:w.heap.size<=w'.heap.size) (h1:w'.os=w.os) (h2:w'.tape=w.tape) (h3:w'.output=w.output):
  Ev ρ ρ floor mem next (Yi mem b o) next w w' where
 ext:=BD.le_refl _
 new _ _:=rfl
 nxt:=Ak _
 unborn k _ e cs ty hm:=by
  grind [Zx]
 frame k o hk hfr:=by
  grind
 fresh k m hk e:=by have:=h.dom k m e;omega
 size:=dX
 os:=h1
 tape:=h2
 output:=h3
 still _ _:=rfl
theorem BF.unbornSet {mem:BH} {next:Nat} {w:World} (h:BF ρ mem next w) {b:Nat} (hb:ρ b=none) (hlt:b<next) (o:Option BE):BF ρ (Yi mem b o) next w:=by
 have ne: ∀c l,ρ c=some l->c≠b:=fun c l e he=>by grind
 refine ⟨h.dom,fun c c' m m' e e' he hs hs'=> ?_,fun c m ac e hc=> ?_,h.old,fun c m e hs=> ?_,h.real,fun c hc=> ?_,h.ldom⟩
 .rw [Zx _ _ (ne _ _ e)] at hs;rw [Zx _ _ (ne _ _ e')] at hs';exact h.inj c c' m m' e e' he hs hs'
 .rw [Zx _ _ (ne _ _ e)] at hc;exact h.blk c m ac e hc
 .rw [Zx _ _ (ne _ _ e)] at hs;exact h.sep c m e hs
 .rw [Zx _ _ (by omega)];exact h.bd c hc
theorem ZI {f:FuncId} {srt:List Int->List Int} (hsl: ∀zs,(srt zs).length =zs.length)
  (hC: ∀(blk off cap:Nat) (zs:List Int) (w:World),Holds (Value.int .i64) w blk off zs.toArray->blk<w.heap.size->zs.length<4611686018427387904->
   Calls P f #[.slice (some ⟨blk,off,none⟩) zs.length cap] w fun e w'=>e=.returned (.tuple #[])/\ ∃n os,w'=grow (putRow (Value.int .i64) (Go.Sort.ahead w n) blk off (srt zs).toArray) os)
  (hN: ∀(p:Option Addr) (cap:Nat) (w:World),Calls P f #[.slice p 0 cap] w fun e w'=>e=.returned (.tuple #[])/\w'=w):Db P f (EX srt):=by
 intro args mem v b blk h dY ρ next floor vals w hfl cD cB
 unfold EX at h;split at h
 .rename_i b0 sz off n cap;split at h
  .rename_i cells ty A hm;obtain ⟨asz,an,get⟩:=A;simp only [Ab,Aa,Ad] at h;obtain ⟨rfl,rfl,rfl,h1,h2,h3,h4,h5,h6⟩:=h;have g1:=Ae h1;have g2:=Ae h2;have g3:=Ae h3;have g4:n=an:=AA h4;have h6:n<4611686018427387904:=AA h6;subst g1;subst g2;subst g3;subst g4;obtain ⟨c,hcg⟩:=P5 h5;have e0:BU (CN c)=c:=rfl;simp only [hcg,e0];obtain ⟨u,hu,dE⟩: ∃u,Zb ρ (.sla b0 1 0 n cap) u/\vals= #[u]:=by
    obtain ⟨vl⟩:=vals;cases cD with
    | cons h1 h2=>cases h2;grind
   subst dE;have hlt:b0<next:=by
    rcases AS b0 next with h | h
    .exact h
    .have:=cB.bd b0 h;grind
   generalize hL:srt (Yx n c)=L;have hLl:L.length=n:=by grind [Yx]
   have hnn:ρ b0=none-> ∀cs ty',Zs mem b0≠some ⟨cs,ty',none⟩:=fun _ cs ty' e=>by grind
   cases hu with
   | sla _ _ _ _ _ l cc e hc cC=>
    have hbk:=(cB.blk b0 l _ e hm).rows rfl;obtain ⟨har,_,_⟩:=hbk.arr _ rfl;simp only [hcg] at har;subst har;obtain ⟨cur,el,hh,hsz,cG⟩:=hbk.cells;simp only [Wo] at cG;have dD: ∀i,i<n->cur[l.base+i]? =some (.int .i64 (c i)):=fun i hi=>by obtain ⟨v,e1,e2⟩:=cG i hi;rw [show (rows n (CN c))[i]'(by grind)=.int .i64 (c i) from Ac (by rw [<-Ao,Uw n c i hi])] at e2;cases e2;exact e1
    have dH:=cB.real b0 l e;have hzs:(Yx n c).length =n:=(by grind);have hH:Holds (Value.int .i64) w l.blk (l.base+0*1) (Yx n c).toArray :=fun j hj=>by
     grind [World.cell?,Yx,World.frozen?]
    have cO:=hC l.blk (l.base+0*1) cc (Yx n c) w hH dH (by omega);rw [hzs,hL] at cO;refine cO.mono fun e' w' ⟨he,q,os,hw'⟩=>⟨_,he,?_,?_,?_⟩
    .exact .tup [] #[] rfl fun i h1 h2=>absurd h1 (AC _)
    .subst hw';refine BF.setArr ?_ ⟨1,n,CN (C5 L)⟩ (K1 _ _) rfl (Ak 1) fun _ _=>rfl;refine BF.rewritten cB e hm (by simp only [Wo]) (fun k hk hne=> ?_) ?_ hbk.noObj ?_
     .grind [Hs]
     .simp_all
     .refine ⟨putCells (Value.int .i64) (l.base+0*1) L.toArray cur,el,?_,fun _ _ _=>hbk.typ _ _ _ hh,?_,fun i hi=> ?_⟩
      .rw [Hs _ _ _ _ _ _ _ dH,AB rfl,hh];rfl
      .grind [putCells]
      .rw [Wo] at hi;refine ⟨.int .i64 (C5 L i),?_,?_⟩
       .grind [putCells,C5]
       .rw [show (rows n (CN (C5 L)))[i]'(by grind)=.int .i64 (C5 L i) from Ac (by rw [<-Ao,Uw n _ i hi])];exact .int _ _
    .subst hw';refine Ev.rewritten cB _ (fun l' _=>hfl) hnn (fun k hk hne=> ?_) ?_ rfl rfl rfl
     .grind [Hs]
     simp_all
   | slan=>
    refine (hN none 0 w).mono fun e' w' ⟨he,hw'⟩=>⟨_,he,?_,?_,?_⟩
    .exact .tup [] #[] rfl fun i h1 h2=>absurd h1 (AC _)
    .subst hw';refine BF.setArr ?_ ⟨1,0,CN (C5 L)⟩ (K1 _ _) rfl (Ak 1) fun _ _=>rfl;cases e:ρ b0 with
     | none=>exact BF.unbornSet cB e hlt _
     | some l=>have hbk:=(cB.blk b0 l _ e hm).rows rfl;obtain ⟨har,_,_⟩:=hbk.arr _ rfl;simp only [hcg] at har;subst har;obtain ⟨cur,el,hh,hsz,cG⟩:=hbk.cells;exact BF.rewritten cB e hm rfl (fun _ _ _=>rfl) (Ak _) hbk.noObj ⟨cur,el,hh,fun _ _ _=>hbk.typ _ _ _ hh,hsz,fun i hi=>absurd hi (AC _)⟩
    grind [Ev.rewritten]
  .cases h
 .cases h
def EZ (srt:List Int->List Int) (res:List Int->Nat) (args:List BA) (mem:BH):Option (BA×Nat×BE×Bool):=match args with
 | [.sla b sz off n cap]=>match Zs mem b with
  | some ⟨_,ty,some A⟩=>some (.sla b 1 0 (res (Yx n (BU A.get))) cap,b,⟨rows A.n (CN (C5 (srt (Yx n (BU A.get))))),ty,some ⟨1,A.n,CN (C5 (srt (Yx n (BU A.get))))⟩⟩,
    Nat.beq sz 1&&(Nat.beq A.sz 1&&(Nat.beq off 0&&(decide (n=A.n)&&(F4 A.get&&decide (n<4611686018427387904))))))
  | _=>none
 | _=>none
theorem ZH {f:FuncId} {srt:List Int->List Int} {res:List Int->Nat} (hsl: ∀zs,(srt zs).length =zs.length) (hres: ∀zs,res zs<=zs.length)
  (hC: ∀(blk off cap:Nat) (zs:List Int) (w:World),Holds (Value.int .i64) w blk off zs.toArray->blk<w.heap.size->zs.length<4611686018427387904->zs.length<=cap->
   Calls P f #[.slice (some ⟨blk,off,none⟩) zs.length cap] w fun e w'=>e=.returned (.slice (some ⟨blk,off,none⟩) (res zs) cap)/\ ∃n os,w'=grow (putRow (Value.int .i64) (Go.Sort.ahead w n) blk off (srt zs).toArray) os)
  (hN: ∀(p:Option Addr) (cap:Nat) (w:World),Calls P f #[.slice p 0 cap] w fun e w'=>e=.returned (.slice p 0 cap)/\w'=w):Db P f (EZ srt res):=by
 intro args mem v b blk h dY ρ next floor vals w hfl cD cB
 unfold EZ at h;split at h
 .rename_i b0 sz off n cap;split at h
  .rename_i cells ty A hm;obtain ⟨asz,an,get⟩:=A;simp only [Ab,Aa,Ad] at h;obtain ⟨rfl,rfl,rfl,h1,h2,h3,h4,h5,h6⟩:=h;have g1:=Ae h1;have g2:=Ae h2;have g3:=Ae h3;have g4:n=an:=AA h4;have h6:n<4611686018427387904:=AA h6;subst g1;subst g2;subst g3;subst g4;obtain ⟨c,hcg⟩:=P5 h5;have e0:BU (CN c)=c:=rfl;simp only [hcg,e0];obtain ⟨u,hu,dE⟩: ∃u,Zb ρ (.sla b0 1 0 n cap) u/\vals= #[u]:=by
    obtain ⟨vl⟩:=vals;cases cD with
    | cons h1 h2=>cases h2;grind
   subst dE;have hlt:b0<next:=by
    rcases AS b0 next with h | h
    .exact h
    .have:=cB.bd b0 h;grind
   generalize hL:srt (Yx n c)=L;have hLl:L.length=n:=by grind [Yx]
   have hnn:ρ b0=none-> ∀cs ty',Zs mem b0≠some ⟨cs,ty',none⟩:=fun _ cs ty' e=>by grind
   cases hu with
   | sla _ _ _ _ _ l cc e hc cC=>
    have hbk:=(cB.blk b0 l _ e hm).rows rfl;obtain ⟨har,_,_⟩:=hbk.arr _ rfl;simp only [hcg] at har;subst har;obtain ⟨cur,el,hh,hsz,cG⟩:=hbk.cells;simp only [Wo] at cG;have dD: ∀i,i<n->cur[l.base+i]? =some (.int .i64 (c i)):=fun i hi=>by obtain ⟨v,e1,e2⟩:=cG i hi;rw [show (rows n (CN c))[i]'(by grind)=.int .i64 (c i) from Ac (by rw [<-Ao,Uw n c i hi])] at e2;cases e2;exact e1
    have dH:=cB.real b0 l e;have hzs:(Yx n c).length =n:=(by grind);have hH:Holds (Value.int .i64) w l.blk (l.base+0*1) (Yx n c).toArray :=fun j hj=>by
     grind [World.cell?,Yx,World.frozen?]
    have cO:=hC l.blk (l.base+0*1) cc (Yx n c) w hH dH (by omega) (by omega);rw [hzs,hL] at cO;refine cO.mono fun e' w' ⟨he,q,os,hw'⟩=>⟨_,he,?_,?_,?_⟩
    .exact .sla _ _ _ _ _ l cc e hc (AE (hres _) (by omega))
    .subst hw';refine BF.setArr ?_ ⟨1,n,CN (C5 L)⟩ (K1 _ _) rfl (Ak 1) fun _ _=>rfl;refine BF.rewritten cB e hm (by simp only [Wo]) (fun k hk hne=> ?_) ?_ hbk.noObj ?_
     .grind [Hs]
     .simp_all
     .refine ⟨putCells (Value.int .i64) (l.base+0*1) L.toArray cur,el,?_,fun _ _ _=>hbk.typ _ _ _ hh,?_,fun i hi=> ?_⟩
      .rw [Hs _ _ _ _ _ _ _ dH,AB rfl,hh];rfl
      .grind [putCells]
      .rw [Wo] at hi;refine ⟨.int .i64 (C5 L i),?_,?_⟩
       .grind [putCells,C5]
       .rw [show (rows n (CN (C5 L)))[i]'(by grind)=.int .i64 (C5 L i) from Ac (by rw [<-Ao,Uw n _ i hi])];exact .int _ _
    .subst hw';refine Ev.rewritten cB _ (fun l' _=>hfl) hnn (fun k hk hne=> ?_) ?_ rfl rfl rfl
     .grind [Hs]
     simp_all
   | slan=>
    refine (hN none 0 w).mono fun e' w' ⟨he,hw'⟩=>⟨_,he,?_,?_,?_⟩
    .rw [show res (Yx 0 c)=0 from Nat.le_zero.1 (hres _)];exact .slan _ _ _ _
    .subst hw';refine BF.setArr ?_ ⟨1,0,CN (C5 L)⟩ (K1 _ _) rfl (Ak 1) fun _ _=>rfl;cases e:ρ b0 with
     | none=>exact BF.unbornSet cB e hlt _
     | some l=>have hbk:=(cB.blk b0 l _ e hm).rows rfl;obtain ⟨har,_,_⟩:=hbk.arr _ rfl;simp only [hcg] at har;subst har;obtain ⟨cur,el,hh,hsz,cG⟩:=hbk.cells;exact BF.rewritten cB e hm rfl (fun _ _ _=>rfl) (Ak _) hbk.noObj ⟨cur,el,hh,fun _ _ _=>hbk.typ _ _ _ hh,hsz,fun i hi=>absurd hi (AC _)⟩
    grind [Ev.rewritten]
  .cases h
 .cases h
def q4 (f:Nat->Nat->Int):Nat->List BA:=fun k=>[.int .i64 (f k 0),.int .i64 (f k 1),.int .i64 (f k 2),.int .i64 (f k 3)]
theorem UH (a:Nat):(Nat.beq a a == true)=true:=by simp_all
inductive VP where
 | keep
 | drop
  | grow (b sz:Nat)
  | list (n:Nat) (g:Nat->List BA)
  | len (n:Nat)
  | frz (n n':Nat) (a g:Nat->List BA)
def Vp (n:Nat) (a g:Nat->List BA):Bool:=pd (∀i,i<n->a i=g i)
def RH (cells:List BA) (sz n:Nat) (g:Nat->List BA):Bool:=pd (cells=rows n g/\1<=sz/\ ∀i,i<n->(g i).length =sz)
def JE (n:Nat) (a g:Nat->List BA):Bool:=pd (∀i,i<n->B9 (a i) (g i))
def Dr (a b:Nat):Bool:=pd (a=b)
theorem Jj {a b:Nat} (h:a=b):Dr a b=true:=Ya h
def Iq (v:BA) (n:Nat) (a:Nat->List BA):Bool:=pd (v=.dat n a)
theorem w0n (sz n:Nat) (g:Nat->List BA):Iq (C7 sz sz 0 n n g) n g=true:=Ya (Z1 sz n g)
theorem WK (n:Nat) (g:Nat->List BA):Iq (.dat n g) n g=true:=Ya rfl
def Ee :VP->BA->Bool->BA×Bool
 | .keep,v,ob=>(v,ob)
 | .drop,_,ob=>(.undef,ob)
 | .grow b sz,v,ob=>match v with
  | .nils =>(.sla b sz 0 0 (.un sz),ob)
  | .sl b o len cap=>(.sla b sz 0 len cap,Nat.beq o 0&&ob)
  | v=>(v,ob)
 | .list n' g,v,ob=>match v with
  | .nils =>(.dat 0 g,ob)
  | .dat n a=>(.dat n' g,Dr n n'&&(Vp n a g&&ob))
  | v=>(v,ob)
 | .len n',v,ob=>match v with
  | .sla b sz off n cap=>(.sla b sz off n' cap,Dr n n'&&ob)
  | v=>(v,ob)
 | .frz n n' a g,v,ob=>(.dat n' g,Iq v n a&&(Dr n n'&&(Vp n a g&&ob)))
theorem Pa {p:VP} {v:BA} {ob:Bool} (h:(Ee p v ob).2=true):CI v (Ee p v ob).1/\ob=true:=by
 cases p with
 | keep=>exact ⟨.refl _,h⟩
 | drop=>exact ⟨.undef _,h⟩
 | grow b sz=>
  cases v with
  | nils=>exact ⟨.nils _ _ _ _,h⟩
  | sl b' o len cap=>simp only [Ee,Ad] at h;have e:=Ae h.1;subst e;have:=CI.sl b' sz 0 len cap;rw [Nat.zero_mul] at this;exact ⟨this,h.2⟩
  | _=>exact ⟨.refl _,h⟩
 | list n' g=>
  cases v with
  | nils=>exact ⟨.nild _,h⟩
  | dat n a=>simp only [Ee,Ad] at h;obtain rfl:=Wr h.1;exact ⟨.dat _ _ _ (Wr h.2.1),h.2.2⟩
  | _=>exact ⟨.refl _,h⟩
 | len n'=>
  cases v with
  | sla b sz off n cap=>simp only [Ee,Ad] at h;obtain rfl:=Wr h.1;exact ⟨.refl _,h.2⟩
  | _=>exact ⟨.refl _,h⟩
 | frz n n' a g=>simp only [Ee,Ad] at h;obtain rfl:=Wr h.1;obtain rfl:=Wr h.2.1;exact ⟨.dat _ _ _ (Wr h.2.2.1),h.2.2.2⟩
def Hj :List VP->List BA->Bool->List BA×Bool
 | _,[],ob=>([],ob)
 | [],l,ob=>(l,ob)
 | p::ps,v::l,ob=>match Hj ps l ob with
  | (l',ob)=>match Ee p v ob with
   | (v',ob)=>(v'::l',ob)
theorem Lr : ∀{ps:List VP} {l:List BA} {ob:Bool},(Hj ps l ob).2=true->B9 l (Hj ps l ob).1/\ob=true
 | [],[],_,h=>⟨.nil,h⟩
 | _::_,[],_,h=>⟨.nil,h⟩
 | [],a::l,_,h=>⟨B9.refl _,h⟩
 | p::ps,v::l,ob,h=>by simp only [Hj] at h ⊢;obtain ⟨h1,h2⟩:=Pa h;obtain ⟨h3,h4⟩:=Lr h2;exact ⟨.cons h1 h3,h4⟩
inductive BP where
 | keep
 | drop
 | cells (ps:List VP)
 | rowed (sz n:Nat) (g:Nat->List BA)
 | rws (a:B0)
  | rowo (sz n:Nat) (a:B0)
def Gd (cells:List BA) (sz n:Nat) (a:B0):Bool:=pd (B9 cells (rows n a.get)/\1<=sz/\ ∀i,i<n->(a.get i).length =sz)
def NR :List BA->List BA->TypeId->Option BE
 | .obj o::_,_::r,ty=>some ⟨.obj o::r,ty,none⟩
 | .obj _::_,[],_=>none
 | _,cs,ty=>some ⟨cs,ty,none⟩
def NQ (cells:List BA):List BA->TypeId->Option BE
 | .dat n g::r,ty=>some ⟨.dat n g::r,ty,none⟩
 | cs,ty=>NR cells cs ty
def DO :BP->Option BE->Bool->Option BE×Bool
 | .keep,o,ob=>(o,ob)
 | .drop,_,ob=>(none,ob)
 | .cells ps,o,ob=>match o with
  | some ⟨cells,ty,none⟩=>match Hj ps cells ob with
   | (cs,ob)=>(NQ cells cs ty,ob)
  | o=>(o,ob)
 | .rowed sz n g,o,ob=>match o with
  | some ⟨cells,ty,none⟩=>(bif (⟨cells,ty,none⟩:BE).isObj then none else some ⟨rows n g,ty,some ⟨sz,n,.flat g⟩⟩,RH cells sz n g&&ob)
  | some ⟨_,ty,some ⟨sz',n',a⟩⟩=>(some ⟨rows n g,ty,some ⟨sz',n,.flat g⟩⟩,Dr n' n&&(Vp n' a.get g&&ob))
  | o=>(o,ob)
 | .rws a',o,ob=>match o with
  | some ⟨_,ty,some ⟨sz,n,a⟩⟩=>(some ⟨rows n a'.get,ty,some ⟨sz,n,a'⟩⟩,JE n a.get a'.get&&ob)
  | o=>(o,ob)
 | .rowo sz n a',o,ob=>match o with
  | some ⟨cells,ty,none⟩=>(bif (⟨cells,ty,none⟩:BE).isObj then none else some ⟨rows n a'.get,ty,some ⟨sz,n,a'⟩⟩,Gd cells sz n a'&&ob)
  | o=>(o,ob)
theorem B9.sound {ρ:BD} {l m:List BA} (h:B9 l m) (i:Nat) (h1:i<l.length) (h2:i<m.length) {v:Value} (hv:Zb ρ l[i] v):Zb ρ m[i] v:=(h.get i h1 h2).sound hv
theorem WV (cells:List BA) (ty:TypeId) (A:CJ):(⟨cells,ty,some A⟩:BE).isObj =false:=by
 unfold BE.isObj;split
 .rename_i e;cases e
 .rfl
theorem TK {p:BP} {o:Option BE} {ob:Bool} {x':BE} (h:(DO p o ob).2=true) (hx:(DO p o ob).1=some x'):ob=true/\ ∃x,o=some x/\ ∀(ρ:BD) (w:World) (l:BS),Xu ρ w x l->Xu ρ w x' l:=by
 cases p with
 | keep=>exact ⟨h,x',hx,fun _ _ _ q=>q⟩
 | drop=>cases hx
 | cells ps=>
  rcases o with _ | ⟨cells,ty,_ | A⟩
  .cases hx
  .simp only [DO] at h hx;obtain ⟨h1,h2⟩:=Lr h;refine ⟨h2,_,rfl,fun ρ w l hb=> ?_⟩;generalize (Hj ps cells ob).1=cs' at hx h1;cases hb with
   | obj o r ty' e1 e2 e3=>
    simp only [BE.mk.injEq] at e1;obtain ⟨rfl,rfl,_⟩:=e1;cases h1 with
    | cons ha hr=>
    rename_i c0 r';have hx:NR (.obj o::r) (c0::r') ty=some x':=by
     unfold NQ at hx;split at hx
     .rename_i e;rw [Bc] at e;obtain ⟨rfl,_⟩:=e;cases ha
     .exact hx
    obtain rfl:=Ac hx;refine .obj o r' ty rfl (by rw [e2,B9.len hr]) ?_;cases o with
    | mi ml=>obtain ⟨rfl,k⟩:=e3;cases hr;exact ⟨rfl,k⟩
    | mb ml=>obtain ⟨rfl,k⟩:=e3;cases hr;exact ⟨rfl,k⟩
    | it s pos=>obtain ⟨rfl,k⟩:=e3;cases hr;exact ⟨rfl,k⟩
    | bld=>
     obtain ⟨buf,v,p,rfl,k1,k2,k3⟩:=e3;cases hr with
     | cons hb0 hr0=>
     cases hr0;exact ⟨_,v,p,rfl,k1,hb0.sound k2,k3⟩
   | plain hb=>
   have hno:=hb.noObj;have hx:some (⟨cs',ty,none⟩:BE)=some x':=by
    unfold NQ at hx;split at hx
    .exact hx
    .unfold NR at hx;split at hx
     .cases hno
     .cases hno
     .exact hx
   obtain rfl:=Ac hx;obtain ⟨cs,el,g1,g2,g3⟩:=hb.cells;refine .plain ⟨hb.typ,by rw [hb.n];exact h1.len,hb.tot,(fun A hA=>by cases hA),cs,el,g1,g2,fun i hi=> ?_⟩;have hi0:i<cells.length:=by rw [h1.len];exact hi
   obtain ⟨v,q1,q2⟩:=g3 i hi0;exact ⟨v,q1,h1.sound i hi0 hi q2⟩
  .exact ⟨h,_,rfl,fun ρ w l hb=>by obtain rfl:=Ac hx;exact hb⟩
 | rowed sz n g=>
  rcases o with _ | ⟨cells,ty,_ | ⟨sz',n',a⟩⟩
  .cases hx
  .simp only [DO,Ad] at h hx;obtain ⟨hno,hx⟩:=Fk hx;obtain rfl:=Ac hx;obtain ⟨h1,h2,h3⟩:=Wr h.1;exact ⟨h.2,_,rfl,fun ρ w l hb=>(E8.rowed cells ty none sz n g hno h1 h2 h3).sound hb⟩
  .simp only [DO,Ad] at h hx;obtain rfl:=Ac hx;obtain rfl:=Wr h.1;have h1:=Wr h.2.1;refine ⟨h.2.2,_,rfl,fun ρ w l hb=> ?_⟩;obtain ⟨q1,q2,q3⟩:=hb.arr _ rfl;exact (E8.rowed cells ty _ sz' n' g (WV _ _ _) (q1.trans (MG _ h1)) q2 fun i hi=>by rw [<-h1 i hi];exact q3 i hi).sound hb
 | rws a'=>
  rcases o with _ | ⟨cells,ty,_ | ⟨sz',n',a⟩⟩
  .cases hx
  .exact ⟨h,_,rfl,fun ρ w l hb=>by obtain rfl:=Ac hx;exact hb⟩
  .simp only [DO,Ad] at h hx;obtain rfl:=Ac hx;refine ⟨h.2,_,rfl,fun ρ w l hb=> ?_⟩;obtain ⟨q1,_,_⟩:=hb.arr _ rfl;have q1:cells=rows n' a.get:=q1;subst q1;exact (E8.rws ty sz' n' a a' (Wr h.1)).sound hb
 | rowo sz n a'=>
  rcases o with _ | ⟨cells,ty,_ | A⟩
  .cases hx
  .simp only [DO,Ad] at h hx;obtain ⟨hno,hx⟩:=Fk hx;obtain rfl:=Ac hx;obtain ⟨h1,h2,h3⟩:=Wr h.1;refine ⟨h.2,_,rfl,fun ρ w l hb=> ?_⟩;have hb:=hb.at hno;obtain ⟨cs,el,g1,g2,g3⟩:=hb.cells;refine .plain ⟨hb.typ,by rw [hb.n];exact h1.len,hb.tot,fun A hA=>by obtain rfl:=Ac hA;exact ⟨rfl,h2,h3⟩,cs,el,g1,g2,fun i hi=> ?_⟩;have hi0:i<cells.length:=by rw [h1.len];exact hi
   obtain ⟨v,q1,q2⟩:=g3 i hi0;exact ⟨v,q1,h1.sound i hi0 hi q2⟩
  .exact ⟨h,_,rfl,fun ρ w l hb=>by obtain rfl:=Ac hx;exact hb⟩
def IK :List (Nat×VP)->T BA->Bool->T BA×Bool
 | [],env,ob=>(env,ob)
 | (t,p)::l,env,ob=>match IK l env ob with
  | (e,ob)=>match Ee p (T.get .undef e t) ob with
   | (v,ob)=>(T.set .undef e t v,ob)
def Da (e e':T BA):Prop:= ∀t,(∀(ρ:BD) (v:Value),Zb ρ (T.get .undef e t) v->Zb ρ (T.get .undef e' t) v)/\(T.get .undef e t=.undef ->T.get .undef e' t=.undef)
theorem Da.refl (e:T BA):Da e e:=fun _=>⟨fun _ _ h=>h,fun h=>h⟩
theorem Mc : ∀{l:List (Nat×VP)} {env:T BA} {ob:Bool},(IK l env ob).2=true->Da env (IK l env ob).1/\ob=true
 | [],_,_,h=>⟨Da.refl _,h⟩
 | (t,p)::l,env,ob,h=>by
  simp only [IK] at h ⊢;obtain ⟨h1,h2⟩:=Pa h;obtain ⟨h3,h4⟩:=Mc h2;refine ⟨fun s=> ?_,h4⟩;rw [T.get_set];by_cases e:s=t
  .subst e;rw [AB rfl];exact ⟨fun ρ v hv=>h1.sound ((h3 s).1 ρ v hv),fun hu=>by have e:=(h3 s).2 hu;rw [e] at h1 ⊢;exact h1.of_undef⟩
  .rw [At e];exact h3 s
def GN :List BP->Nat->BH->Bool->BH×Bool
 | [],_,m,ob=>(m,ob)
 | p::ps,i,m,ob=>match GN ps (i+1) m ob with
  | (m',ob)=>match DO p (Zs m i) ob with
   | (x,ob)=>(Yi m' i x,ob)
theorem w0d {p:BP} {o:Option BE} {ob:Bool} (h:(DO p o ob).2=true):ob=true:=by
 cases p with
 | keep=>exact h
 | drop=>exact h
 | cells ps=>
  rcases o with _ | ⟨cells,ty,_ | A⟩
  .exact h
  .exact (Lr h).2
  .exact h
 | rowed sz n g=>
  rcases o with _ | ⟨cells,ty,_ | A⟩;all_goals simp_all [DO]
 | rws a=>
  rcases o with _ | ⟨cells,ty,_ | A⟩;all_goals simp_all [DO]
 | rowo sz n a=>
  rcases o with _ | ⟨cells,ty,_ | A⟩;all_goals simp_all [DO]
theorem O5 : ∀{ps:List BP} {i:Nat} {m:BH} {ob:Bool},(GN ps i m ob).2=true->ob=true/\ ∀b x',Zs (GN ps i m ob).1 b=some x'-> ∃x,Zs m b=some x/\ ∀(ρ:BD) (w:World) (l:BS),Xu ρ w x l->Xu ρ w x' l
 | [],_,_,_,h=>⟨h,fun b x' hb=>⟨x',hb,fun _ _ _ q=>q⟩⟩
 | p::ps,i,m,ob,h=>by
  simp only [GN] at h ⊢;have hob:(GN ps (i+1) m ob).2=true:=w0d h;obtain ⟨h1,h2⟩:=O5 hob;refine ⟨h1,fun b x' hb=> ?_⟩;rw [Xi] at hb;by_cases e:b=i
  .subst e;rw [AB rfl] at hb;exact (TK h hb).2
  .rw [At e] at hb;exact h2 b x' hb
def IL :List (List (Nat×VP))->List BW->Bool->List BW×Bool
 | _,[],ob=>([],ob)
 | [],l,ob=>(l,ob)
 | p::ps,⟨cx,ro,todo,rnd,rs,env⟩::l,ob=>match IL ps l ob with
  | (l',ob)=>match IK p env ob with
   | (e,ob)=>(⟨cx,ro,todo,rnd,rs,e⟩::l',ob)
def Hc (a a':BW):Prop:=a.cx=a'.cx/\a.ro=a'.ro/\a.todo=a'.todo/\a.rnd=a'.rnd/\a.rs=a'.rs/\Da a.env a'.env
theorem Hc.refl (a:BW):Hc a a:=⟨rfl,rfl,rfl,rfl,rfl,Da.refl _⟩
theorem Xo.refl' : ∀l:List BW,Xo Hc l l
 | []=>.nil
 | a::l=>.cons (Hc.refl a) (Xo.refl' l)
theorem P9 : ∀{ps:List (List (Nat×VP))} {l:List BW} {ob:Bool},(IL ps l ob).2=true->Xo Hc l (IL ps l ob).1/\ob=true
 | [],[],_,h=>⟨.nil,h⟩
 | _::_,[],_,h=>⟨.nil,h⟩
 | [],a::l,_,h=>⟨Xo.refl' _,h⟩
 | p::ps,⟨cx,ro,todo,rnd,rs,env⟩::l,ob,h=>by simp only [IL] at h ⊢;obtain ⟨h1,h2⟩:=Mc h;obtain ⟨h3,h4⟩:=P9 h2;exact ⟨.cons ⟨rfl,rfl,rfl,rfl,rfl,h1⟩ h3,h4⟩
structure D9 where
 slots:List (Nat×VP):=[]
 blks:List BP:=[]
 cs:List (List (Nat×VP)):=[]
def IJ (L:D9):BJ->BJ
 | ⟨cx,ro,todo,rnd,rs,⟨env,mem,next,orc,ob⟩,cs,lps⟩=>match IL L.cs cs ob with
  | (cs',ob)=>match GN L.blks 0 mem ob with
   | (mem',ob)=>match IK L.slots env ob with
    | (env',ob)=>⟨cx,ro,todo,rnd,rs,⟨env',mem',next,orc,ob⟩,cs',lps⟩
def Ie :List (TypeId×Nat×(Nat->List BA))->Nat->BH->BH
 | [],_,m=>m
 | (ty,sz,g)::l,i,m=>Yi (Ie l (i+1) m) i (some ⟨[],ty,some ⟨sz,0,.flat g⟩⟩)
def K6 (gs:List (TypeId×Nat×(Nat->List BA))):BJ->BJ
 | ⟨cx,ro,todo,rnd,rs,⟨env,mem,next,orc,ob⟩,cs,lps⟩=>⟨cx,ro,todo,rnd,rs,⟨env,Ie gs next mem,next+gs.length,orc,ob⟩,cs,lps⟩
theorem MB : ∀(gs:List (TypeId×Nat×(Nat->List BA))) (i:Nat) (m:BH) (b:Nat),(b<i->Zs (Ie gs i m) b=Zs m b)/\(i+gs.length<=b->Zs (Ie gs i m) b=Zs m b)
 | [],i,m,b=>⟨fun _=>rfl,fun _=>rfl⟩
 | (ty,sz,g)::l,i,m,b=>by obtain ⟨h1,h2⟩:=MB l (i+1) m b;simp only [Ie,Xi,AY];exact ⟨fun h=>by rw [At (by omega)];exact h1 (by omega),fun h=>by rw [At (by omega)];exact h2 (by omega)⟩
theorem DP.less {P:Program} {ρ:BD} {cs:List BW} {css:List Frame} {mss:List Nat} (h:DP P ρ cs css mss): ∀{cs':List BW},Xo Hc cs cs'->DP P ρ cs' css mss:=by
 induction h with
 | nil=>intro cs' h;cases h;exact .nil
 | @cons af b a k ms cs css mss hf hl t ih=>
  intro cs' h;cases h with
  | @cons _ af' _ cs'' h1 h2=>
   obtain ⟨e1,e2,e3,e4,e5,e6⟩:=h1;have hne:cs''≠ []->cs≠ []:=fun hn he=>by subst he;cases h2;exact hn rfl
   rw [show Xh af.ro k=Xh af'.ro k by rw [e2]];exact .cons ⟨by rw [<-e1];exact ⟨hf.env.size,fun t=>(e6 t).1 _ _ (hf.env.get t),fun t ht=>(e6 t).2 (hf.env.out t ht)⟩,hf.defers,by rw [<-e3];exact hf.todo,by rw [<-e2];exact hf.ro,by rw [<-e4];exact hf.rnd⟩
    (fun hn=>by grind) (ih h2)
theorem MC {P:Program} {cx:BK} {ro:Option BR} {todo:List Item} {rnd:Option Nat} {rs:List ResultVar} {env env':T BA} {mem mem':BH} {k k':Nat} {o o':List Bool} {b0 b0':Bool} {cs cs':List BW} {lps:BN}
  (hE:Da env env') (hC:Xo Hc cs cs') (hM: ∀b x',b<k->Zs mem' b=some x'-> ∃x,Zs mem b=some x/\ ∀(ρ:BD) (w:World) (l:BS),Xu ρ w x l->Xu ρ w x' l) (hk:k<=k') (hbd:(∀b,k<=b->Zs mem b=none)-> ∀b,k'<=b->Zs mem' b=none):
  Ua P ⟨cx,ro,todo,rnd,rs,⟨env,mem,k,o,b0⟩,cs,lps⟩ ⟨cx,ro,todo,rnd,rs,⟨env',mem',k',o',b0'⟩,cs',lps⟩:=
 fun H w0 ρ b a t css w ma mb hs he cs0=>by
  have hr:=hs.rel;simp only at hr he;have hne:cs'≠ []->cs≠ []:=fun hn e=>by subst e;cases hC;exact hn rfl
  refine ⟨ρ,b,a,t,css,w,ma,mb,Steps.refl _ _,⟨⟨?_,hs.top.defers,hs.top.todo,hs.top.ro,hs.top.rnd⟩,fun hn=>hs.lv (hne hn),⟨hs.rest.cs.less hC,hs.rest.nodup,hs.rest.marks,hs.rest.loops,hs.rest.inj⟩,?_⟩,?_,rfl,Ak _⟩
  .exact ⟨hs.top.env.size,fun t=>(hE t).1 _ _ (hs.top.env.get t),fun t ht=>(hE t).2 (hs.top.env.out t ht)⟩
  .have lift: ∀c l,ρ c=some l->(Zs mem' c).isSome =true->(Zs mem c).isSome =true:=fun c l hc h=>by obtain ⟨x,hx⟩:=Bm.1 h;obtain ⟨y,hy,_⟩:=hM c x (hr.dom c l hc) hx;rw [hy];rfl
   refine ⟨fun c l hc=>AJ (hr.dom c l hc) hk,fun c c' l l' hc hc' hl h1 h2=>hr.inj c c' l l' hc hc' hl (lift c l hc h1) (lift c' l' hc' h2),fun c l ab hc h1=> ?_,hr.old,fun c l hc h1=>hr.sep c l hc (lift c l hc h1),hr.real,hbd hr.bd,fun j l hj=>AJ (hr.ldom.1 j l hj) hk,hr.ldom.2⟩;obtain ⟨y,hy,h2⟩:=hM c ab (hr.dom c l hc) h1;exact h2 _ _ _ (hr.blk c l y hc hy)
  .exact ⟨he.ext,fun _ hb=>absurd hb (AC _),AD _,fun _ hb=>absurd hb (AC _),he.frame,he.fresh,he.size,he.os,he.tape,he.output,he.still⟩
theorem YE {P:Program} {L:D9} {C:BJ} (ho:(IJ L C).st.ob =true):C.st.ob=true/\Ua P C (IJ L C):=by
 obtain ⟨cx,ro,todo,rnd,rs,⟨env,mem,next,orc,ob⟩,cs,lps⟩:=C;simp only [IJ] at ho ⊢;obtain ⟨h1,h2⟩:=Mc ho;obtain ⟨h3,h4⟩:=O5 h2;obtain ⟨h5,h6⟩:=P9 h3;refine ⟨h6,MC h1 h5 (fun b x' _ hb=>h4 b x' hb) (Ak _) fun hbd b hb=> ?_⟩;cases hq:Zs (GN L.blks 0 mem (IL L.cs cs ob).2).1 b with
 | none=>rfl
 | some x'=>
  grind
theorem TH {P:Program} (gs:List (TypeId×Nat×(Nat->List BA))) (C:BJ):Ua P C (K6 gs C)/\(K6 gs C).st.ob =C.st.ob:=by
 obtain ⟨cx,ro,todo,rnd,rs,⟨env,mem,next,orc,ob⟩,cs,lps⟩:=C;exact ⟨MC (Da.refl _) (Xo.refl' _) (fun b x' hb h=>⟨x',by grind [MB],fun _ _ _ q=>q⟩) (Nat.le_add_right _ _) fun hbd b hb=>by
  rw [(MB gs next mem b).2 hb];grind,rfl⟩
theorem X8 {P:Program} {C C':BJ} {orc:List Bool} {ob:Bool} (g:Ua P (C.withO orc) (C'.withB ob)):Ua P C C':=by
 obtain ⟨cx,ro,todo,rnd,rs,⟨env,mem,next,o,b⟩,cs,lps⟩:=C;obtain ⟨cx',ro',todo',rnd',rs',⟨env',mem',next',o',b'⟩,cs',lps'⟩:=C';exact fun H w0 ρ b a k css w ma mb hs he cs0=>by obtain ⟨ρ',b',a',k',css',w',ma',mb',h1,h2,h3,h4⟩:=g H w0 ρ b a k css w ma mb ⟨hs.top,hs.lv,hs.rest,hs.rel⟩ he cs0;exact ⟨ρ',b',a',k',css',w',ma',mb',h1,⟨h2.top,h2.lv,h2.rest,h2.rel⟩,h3,h4⟩
theorem VY {P:Program} {S:BC} (hN:CY P) (hmx:P.follows .mixedOrders =true) (hS:Zu P S) {n m d:Nat} {C C':BJ} (gs:List (TypeId×Nat×(Nat->List BA))) (N:B1) (L:D9) (orc:List Bool) (ob:Bool)
  (h:(((Ir P S (Ek P S m d) n (C.withO orc)).map (K6 gs)).bind (Is P N)).map (IJ L)=some (C'.withB ob)) (ho:ob=true) (hfl:IR C=true):Ua P C C':=by
 rw [Ag] at h;obtain ⟨C2,h1,h2⟩:=h;rw [Bq] at h1;obtain ⟨C1,h3,h4⟩:=h1;rw [Ag] at h3;obtain ⟨C0,h5,rfl⟩:=h3;have hfo:IR (C.withO orc)=true:=by obtain ⟨cx,ro,todo,rnd,rs,⟨env,mem,next,o,b⟩,cs,lps⟩:=C;exact hfl
 obtain ⟨hCI,hC⟩:=M3 hN hmx hS m d;obtain ⟨f1,f2,f3⟩:=Lo hN hmx hS hCI hC n (C.withO orc) C0 (PZ hfo) h5;have hob:(IJ L C2).st.ob =true:=by rw [h2];obtain ⟨cx,ro,todo,rnd,rs,⟨env,mem,next,o,b⟩,cs,lps⟩:=C';exact ho
 obtain ⟨l1,l2⟩:=YE (P:=P) hob;obtain ⟨g1,g2,_⟩:=O8 h4 l1;obtain ⟨q1,q2⟩:=TH (P:=P) gs C0;rw [q2] at g1;have:=(((f3 g1).goes.trans q1).trans g2).trans l2;rw [h2] at this;exact X8 this
theorem Mj (n:Nat) (g:Nat->List BA):Vp n g g=true:=Ya fun _ _=>rfl
theorem XB (a g:Nat->List BA):Vp 0 a g=true:=Ya fun _ h=>absurd h (AC _)
theorem L7 {a b:Nat} (h: ¬a<=b):Nat.ble a b=false:=AT.2 fun e=>h (Af e)
theorem L8 {a b:Nat} (h:a<=b):Nat.ble a b=true:=by simp_all
theorem W8 {n N sz:Nat} {G H H':Nat->List BA} {cells:List BA} (m:Nat) (h:Vp n G H=true) (hN:N=n+m) (h0: ∀i,i<n->H' i=H i) (h1: ∀i,i<m->(cells.drop (i*sz)).take sz=H' (n+i)):Vp N (Zn G 0 n sz cells) H'=true:=Ya fun i hi=>by
 unfold Zn;by_cases e:n<=i
 .grind [L8]
 .rw [L7 e,Ai,Aj,Wr h i (by omega),h0 i (by omega)]
theorem Lz {α:Type} {sz:Nat}: ∀(l:List (List α)) (i:Nat),(∀x∈l,x.length=sz)->i<l.length->(l.flatten.drop (i*sz)).take sz=l.getD i []
 | [],i,_,h=>absurd h (AC _)
 | x::l,0,hl,_=>by
  grind
 | x::l,i+1,hl,h=>by have hx:=hl x (by simp);rw [List.flatten_cons,List.getD_cons_succ,<-Lz l i (fun y hy=>hl y (by simp [hy])) (by simpa using h)];rw [List.drop_append,hx,show (i+1)*sz - sz=i*sz by rw [AH,Bu];omega,Ay (by rw [hx,AH,Bu];omega),Bg]
theorem W9 {m N:Nat} {G H H':Nat->List BA} (h':Vp m H H'=true) (hN:N=0+m):Vp N (Vd G 0 H) H'=true:=Ya fun i hi=>Wr h' i (by omega)
theorem Tj {n:Nat} {G H:Nat->List BA} (h:Vp n G H=true):Vp n (fun k=>G (0+k)) H=true:=by grind
theorem VJ {cells:List BA} {sz n:Nat} {g:Nat->List BA} (h:cells=rows n g) (h1:Nat.ble 1 sz=true) (h2: ∀i,(g i).length =sz):RH cells sz n g=true:=Ya ⟨h,Af h1,fun i _=>h2 i⟩
def DT :List (Nat×BE)->BH
 | []=>.leaf
 | (i,b)::l=>Yi (DT l) i (some b)
def DR :List (Nat×Bx)->BN
 | []=>.leaf
 | (i,b)::l=>DS (DR l) i (some b)
class Yc (α:Type) where
 w:Nat
 d:α
 cells:α->List BA
 of:List BA->α
 len: ∀a,(cells a).length =w
 pos:1<=w
 flat: ∀a,(cells a).all (pf 6)=true
 sc: ∀a,(cells a).all B4=true
 back: ∀a,of (cells a)=a
def CZ :BA->Int
 | .int _ n=>n
 | _=>0
def oOf :BA->Bool
 | .bool b=>b
 | _=>false
instance : Yc Int where
 w:=1
 d:=0
 cells x:=[.int .i64 x]
 of l:=CZ (l.getD 0 .undef)
 len _:=rfl
 pos:=Ak 1
 flat _:=rfl
 sc _:=rfl
 back _:=rfl
instance : Yc Bool where
 w:=1
 d:=false
 cells x:=[.bool x]
 of l:=oOf (l.getD 0 .undef)
 len _:=rfl
 pos:=Ak 1
 flat _:=rfl
 sc _:=rfl
 back _:=rfl
structure R2 where
 (a b:Int)
 deriving DecidableEq
structure R3 where
 (a b c:Int)
 deriving DecidableEq
structure R4 where
 (a b c d:Int)
 deriving DecidableEq
structure R6 where
 (a b c d e f:Int)
 deriving DecidableEq
instance : Yc R2 where
 w:=2
 d:=⟨0,0⟩
 cells x:=[.int .i64 x.a,.int .i64 x.b]
 of l:=⟨CZ (l.getD 0 .undef),CZ (l.getD 1 .undef)⟩
 len _:=rfl
 pos:=by decide
 flat _:=rfl
 sc _:=rfl
 back _:=rfl
instance : Yc R3 where
 w:=3
 d:=⟨0,0,0⟩
 cells x:=[.int .i64 x.a,.int .i64 x.b,.int .i64 x.c]
 of l:=⟨CZ (l.getD 0 .undef),CZ (l.getD 1 .undef),CZ (l.getD 2 .undef)⟩
 len _:=rfl
 pos:=by decide
 flat _:=rfl
 sc _:=rfl
 back _:=rfl
instance : Yc R4 where
 w:=4
 d:=⟨0,0,0,0⟩
 cells x:=[.int .i64 x.a,.int .i64 x.b,.int .i64 x.c,.int .i64 x.d]
 of l:=⟨CZ (l.getD 0 .undef),CZ (l.getD 1 .undef),CZ (l.getD 2 .undef),CZ (l.getD 3 .undef)⟩
 len _:=rfl
 pos:=by decide
 flat _:=rfl
 sc _:=rfl
 back _:=rfl
instance : Yc R6 where
 w:=6
 d:=⟨0,0,0,0,0,0⟩
 cells x:=[.int .i64 x.a,.int .i64 x.b,.int .i64 x.c,.int .i64 x.d,.int .i64 x.e,.int .i64 x.f]
 of l:=⟨CZ (l.getD 0 .undef),CZ (l.getD 1 .undef),CZ (l.getD 2 .undef),CZ (l.getD 3 .undef),CZ (l.getD 4 .undef),CZ (l.getD 5 .undef)⟩
 len _:=rfl
 pos:=by decide
 flat _:=rfl
 sc _:=rfl
 back _:=rfl
section
variable {α:Type} [Yc α]
def rd (L:List α) (k:Nat):α:=L.getD k Yc.d
def Zz (L:List α):Nat->List BA:=fun k=>Yc.cells (rd L k)
def B8 (α:Type) [Yc α] (n:Nat) (g:Nat->List BA):List α:=(List.range n).map fun k=>Yc.of (g k)
def BT (α:Type) [Yc α] (n:Nat) (g:Nat->List BA):Bool:=pd (∀i,i<n->g i=Yc.cells (Yc.of (g i):α))
theorem Vm {L:List α} {k:Nat} (h:k<L.length):rd L k=L[k]:=by grind [rd]
theorem SV {L M:List α} {k:Nat} (h:k<L.length):rd (L++M) k=rd L k:=by
 grind [rd]
theorem S6 {L M:List α} {k:Nat} (h:L.length<=k):rd (L++M) k=rd M (k - L.length):=by
 grind [rd]
theorem Ze (L:List α):B8 α L.length (Zz L)=L:=by
 apply Bl;all_goals grind [B8,Zz,Yc.back,Vm]
def BB (L:List α):List α:=B8 α L.length (Zz L)
theorem Zt (L:List α):BB L=L:=Ze L
theorem O6 (n:Nat) (g:Nat->List BA):(B8 α n g).length =n:=by simp [B8]
theorem Jl (L:List α) (n:Nat):BT α n (Zz L)=true:=Ya fun i _=>by simp only [Zz];rw [Yc.back]
theorem QD (L:List α) (off n:Nat):BT α n (fun k=>Zz L (off+k))=true:=Ya fun i _=>by simp only [Zz];rw [Yc.back]
theorem P7 (g:Nat->List BA):BT α 0 g=true:=Ya fun i h=>absurd h (AC _)
theorem w0j (g:Nat->List BA) (h0:g 0=Yc.cells (Yc.of (g 0):α)):BT α 1 g=true:=Ya fun i h=>by
 grind
theorem w0i (g:Nat->List BA) (h0:g 0=Yc.cells (Yc.of (g 0):α)) (h1:g 1=Yc.cells (Yc.of (g 1):α)):BT α 2 g=true:=Ya fun i h=>by
 grind
theorem P6 {n:Nat} {g:Nat->List BA} (h:BT α n g=true): ∀i,i<n->g i=Zz (B8 α n g) i:=fun i hi=>by
 rw [Wr h i hi]
 grind [Zz,Vm,B8]
theorem Yo (L:List α):Jb (Zz L)=true:=Ya fun _=>Yc.flat _
theorem XX {sz:Nat} (L:List α) (n:Nat) (h:sz=Yc.w α):C9 sz n (Zz L)=true:=Hu fun _ _=>⟨by rw [h];exact Yc.len _,Yc.sc _⟩
theorem XW {sz:Nat} (L:List α) (off n:Nat) (h:sz=Yc.w α):C9 sz n (fun k=>Zz L (off+k))=true:=Hu fun _ _=>⟨by rw [h];exact Yc.len _,Yc.sc _⟩
theorem Sy {sz N off m:Nat} {G:Nat->List BA} (h:C9 sz N G=true) (hb:decide (off+m<=N)=true):C9 sz m (fun k=>G (off+k))=true:=Hu fun i hi=>by have hb:=AA hb;exact Ht h (off+i) (by omega)
theorem V8 {sz n N m:Nat} {G:Nat->List BA} {cells:List BA} (h:C9 sz n G=true) (hN:N=n+m) (hc:cells.length=m*sz) (hs:cells.all B4=true):C9 sz N (Zn G 0 n sz cells)=true:=Hu fun i hi=>by
 unfold Zn;by_cases e:n<=i
 .rw [L8 e,Ah];have:(i - n)*sz+sz<=m*sz:=by
   have:=Av sz (show i - n+1<=m by omega)
   grind
  grind
 .rw [L7 e,Ai,Aj];exact Ht h i (by omega)
theorem Pr {L M:List α} {n N sz:Nat} {G:Nat->List BA} {cells:List BA} (h:Vp n G (Zz L)=true) (hn:n=L.length) (hN:N=n+M.length) (hsz:sz=Yc.w α) (hc:cells=(M.map Yc.cells).flatten):Vp N (Zn G 0 n sz cells) (Zz (L++M))=true:=by
 grind [W8,Zz,Lz,Yc.len,Vm]
theorem Rj {L:List α} {r k:Nat} {y:α} (hk:k<L.length):rd (L.set r y) k=if k=r then y else rd L k:=by
 grind [Vm]
theorem Ps {L:List α} {n r fo:Nat} {G:Nat->List BA} {cs:List BA} {y:α} (h:Vp n G (Zz L)=true) (hn:n=L.length) (hy:Yc.cells y=(Yc.cells (rd L r)).take fo++cs++(Yc.cells (rd L r)).drop (fo+cs.length)):Vp n (Xa G r fo cs) (Zz (L.set r y))=true:=by
 subst hn;refine Ya fun i hi=> ?_;unfold Xa;simp only [Zz];rw [Rj hi];cases e:Nat.beq i r with
 | true=>have:=Ae e;subst this;rw [Ah,AB rfl,Wr h i hi,hy];rfl
 | false=>
  have:i≠r:=fun q=>by simp_all
  rw [Ai,At this,Wr h i hi];rfl
theorem VT {n:Nat} {cs:List BA} {y:α} {G:Nat->List BA} (hG:G=fun _=>cs) (hy:Yc.cells y=cs):Vp n G (Zz (List.replicate n y))=true:=Ya fun i hi=>by
 grind [Zz,Vm]
theorem Wl {L M:List α} {n m N:Nat} {G H:Nat->List BA} (h:Vp n G (Zz L)=true) (hn:n=L.length) (h':Vp m H (Zz M)=true) (hN:N=n+m):Vp N (Vd G n H) (Zz (L++M))=true:=by
 subst hn;refine Ya fun i hi=> ?_;unfold Vd;by_cases e:L.length<=i
 .rw [L8 e,Ah,Wr h' _ (by omega)];grind [Zz,S6]
 .rw [L7 e,Ai,Wr h i (by omega)];grind [Zz,SV]
theorem WS {sz:Nat} (L:List α) (n:Nat) (h:sz=Yc.w α):EP n (Zz L) sz=true:=Hu fun _ _=>by rw [h];exact Yc.len _
theorem YD {sz n:Nat} {L:List α} {off:Nat} (h:sz=Yc.w α):EP n (fun k=>Zz L (off+k)) sz=true:=Hu fun _ _=>by rw [h];exact Yc.len _
def Uc (L:List α) (off n:Nat):List α:=(List.range n).map fun k=>rd L (off+k)
theorem PJ (L:List α) (off n:Nat):(Uc L off n).length =n:=by simp [Uc]
theorem Mg {L:List α} {off n k:Nat} (h:k<n):rd (Uc L off n) k=rd L (off+k):=by
 grind [Vm,Uc]
theorem YV {L:List α} {N off n:Nat} {G:Nat->List BA} (h:Vp N G (Zz L)=true) (hb:decide (off+n<=N)=true):Vp n (fun k=>G (off+k)) (Zz (Uc L off n))=true:=Ya fun i hi=>by have hb:=AA hb;simp only [Zz];rw [Mg hi,Wr h _ (by omega)];rfl
theorem YW {L:List α} {off n:Nat}:Vp n (fun k=>Zz L (off+k)) (Zz (Uc L off n))=true:=Ya fun i hi=>by simp only [Zz];rw [Mg hi]
theorem Wp (L:List α):B8 α L.length (fun k=>Zz L (0+k))=L:=by
 grind [Ze]
theorem w0k (L:List Int):F4 (Zz L)=true:=Ya rfl
theorem ML (L:List Int):Yx L.length (BU (Zz L))=L:=Ze L
def C8 (L:List α) (off n:Nat) (M:List α):List α:=(List.range L.length).map fun k=>bif Nat.ble off k&&Nat.ble (k+1) (off+n) then rd M (k - off) else rd L k
theorem Ko (L:List α) (off n:Nat) (M:List α):(C8 L off n M).length =L.length:=by simp [C8]
theorem RD {L M:List α} {off n k:Nat} (h:k<L.length):rd (C8 L off n M) k=bif Nat.ble off k&&Nat.ble (k+1) (off+n) then rd M (k - off) else rd L k:=by
 grind [Vm,C8]
theorem VR {L M:List α} {N off n m:Nat} {G H:Nat->List BA} (h:Vp N G (Zz L)=true) (hN:N=L.length) (h':Vp m H (Zz M)=true) (hm:n<=m):Vp N (Wg G off n H) (Zz (C8 L off n M))=true:=by
 subst hN;refine Ya fun i hi=> ?_;unfold Wg;simp only [Zz];rw [RD hi];cases e:(Nat.ble off i&&Nat.ble (i+1) (off+n)) with
 | true=>simp only [Ad] at e;have e1:=Af e.1;have e2:=Af e.2;rw [Ah,Ah,Wr h' _ (by omega)];rfl
 | false=>rw [Ai,Ai,Wr h i hi];rfl
theorem XA (z g:Nat->List BA) (n:Nat):Vp n (Wg z 0 (Nat.min n n) g) g=true:=Ya fun i hi=>by unfold Wg;rw [show Nat.min n n=n from Nat.min_self n,Aj,AI (AD i),AI hi];rfl
theorem WI {g h:Nat->List BA} {off n:Nat} (p:Jb g=true) (q:Jb h=true):Jb (Wg g off n h)=true:=Ya fun i=>by
 unfold Wg;cases (Nat.ble off i&&Nat.ble (i+1) (off+n)) with
 | true=>exact Wr q _
 | false=>exact Wr p _
end
theorem Jo {P:Program} {rs:List ResultVar} {σ:Type} {cfg:σ->BJ} {C C':BJ} (g:Ua P C C'): ∀{o:Wn σ},Wi P rs cfg C' o->Wi P rs cfg C o
 | .stuck,_=>trivial
 | .ret _,⟨D,h,h2,h3⟩=>⟨D,g.trans h,h2,h3⟩
 | .to _,h=>g.trans h
theorem RN : ∀{az bs:List BA} (i:Nat) {t u:T BA},Xo CI az bs->Da t u->Da (DC az i t) (DC bs i u)
 | _,_,i,t,u,.nil,h=>h
 | _,_,i,t,u,.cons (a:=a) (b:=b) h1 h2,h=>by
  refine RN (i+1) h2 fun s=> ?_;rw [T.get_set,T.get_set];by_cases e:s=i
  .rw [AB e,AB e];exact ⟨fun ρ v hv=>h1.sound hv,fun q=>by subst q;exact h1.of_undef⟩
  .rw [At e,At e];exact h s
theorem Px {P:Program} {f:FuncId} {az bs:List BA} {vs:List BA} (h:Xo CI az bs) (k:BV P (Zy P f) (startC P f bs true []) vs):BV P (Zy P f) (startC P f az true []) vs:=by
 obtain ⟨C',g,h2,h3⟩:=k;refine ⟨C',Ua.trans ?_ g,h2,h3⟩;unfold startC;cases P.funcs[f]? with
 | none=>exact Ua.refl _
 | some fn=>simp only;rw [h.length];exact MC (RN 0 h (Da.refl _)) .nil (fun b x' hb=>absurd hb (AC _)) (Ak _) fun hbd b hb=>hbd b hb
theorem ZB {P:Program} {S:BC} (hS:Zu P S) {f:FuncId} {F:List BA->Option (BA×Bool)} (hf:(P.funcs[f]?).any (fun fn=>fn.body.isSome)=true)
  (hF: ∀args v,F args=some (v,true)-> ∃bs vs,Xo CI args bs/\Ud vs=v/\BV P (Zy P f) (startC P f bs true []) vs/\ ∃d,pf d v=true):Zu P (S.with f F):=
 XL hS hf fun args v h=>by obtain ⟨bs,vs,h1,h2,h3,d,h4⟩:=hF args v h;exact ⟨vs,h2,Px h1 h3,d,h4⟩
def B2 (α:Type) [Yc α]:BA->Option (List α×(Nat->List BA)×Nat)
 | .nils =>some ([],fun _=>[],0)
 | .dat n g=>some (B8 α n g,g,n)
 | _=>none
theorem Xb {α:Type} [Yc α] {v:BA} {L:List α} {g:Nat->List BA} {n:Nat} (h:B2 α v=some (L,g,n)) (ho:BT α n g=true):CI v (.dat L.length (Zz L)):=by
 unfold B2 at h;split at h
 .simp only [Ab,Aa] at h;obtain ⟨rfl,_,_⟩:=h;exact .nild _
 .simp only [Ab,Aa] at h;obtain ⟨rfl,rfl,rfl⟩:=h;rw [O6];exact .dat _ _ _ (P6 ho)
 .cases h
open Go.ChangeShapes Go.WideShapes Go.Deep
end Go.Am
namespace Go.Proofs
open Go.Shelf Go.RowKit Go.Lib
variable {P:Program} {ρ:Ren}
theorem w4g {e:TypeId} (hc:P.cellsOf e=1) (count o n:Nat) (hn:o+n<=count):liesAt P P.depth e count o e n=true:=by have hd:P.depth=(2*(P.types.size+Made.depth)+1)+1:=rfl;rw [hd];simp only [liesAt,Bool.or_eq_true];left;rw [hd];simp [rowAt,hc,sameLayout];omega
theorem S7 (w:World) (pt it ty e:TypeId) (hp:P.underlying pt=some (.pointer e)) (hc:P.cellsOf e=1) (g o cells:Nat) (hsh:w.shape? g=some (e,cells)) (l:List UInt8) (h0:l≠ []) (hn:o+l.length<=cells) (h63:l.length<=9223372036854775807)
  (dD: ∀j x,l[j]? =some x->w.cell? ((⟨g,o,none⟩:Addr).add j)=some (.int .u8 x.toNat)):
  (Builtin.unsafeString_ #[pt,it] ty #[.pointer (some ⟨g,o,none⟩),.int .i64 l.length]).run P w=.ok (.string ⟨l.toArray⟩) (w.freeze ⟨g,o,none⟩ l.length):=by
 have hl:l.length≠0:=by simpa using h0
 have hlb:=run_loadBytes (P:=P) w l ⟨g,o,none⟩ .empty dD;have hlies:=w4g (P:=P) hc (cells / P.cellsOf e) o l.length (by rw [hc];simpa using hn);have h63': ¬(9223372036854775807:Int)<(l.length:Int):=by omega
 have hmax:IntKind.i64.max=9223372036854775807:=rfl;obtain ⟨e1,e2,e3,hdef⟩: ∃e1 e2 e3,Builtin.unsafeString_ #[pt,it] ty #[.pointer (some ⟨g,o,none⟩),.int .i64 l.length]=
   (do
    let n<-asInt (.int .i64 l.length)
    if n<0 then runtimePanic e1
    if n>IntKind.i64.max then unsupported e2
    if n=0 then pure (.string .empty)
    else if<-variablesAt ⟨g,o,none⟩ (<-elemOf pt) n.toNat then do
     let s<-loadBytes ⟨g,o,none⟩ .empty n.toNat
     freeze ⟨g,o,none⟩ n.toNat
     pure (.string s)
    else unsupported e3):=⟨_,_,_,rfl⟩
 rw [hdef];have hneg: ¬(l.length:Int)<0:=by omega
 simp [asInt,asIntOf,hmax,h63',hneg,hl,variablesAt,hsh,elemOf,run_underlying hp,hlies,hlb]
theorem XC (w:World) (g o n k:Nat) (h:g≠k):(w.freeze ⟨g,o,none⟩ n).heap[k]? =w.heap[k]? :=by
 unfold World.freeze;split
 .rfl
 .simp only [Array.getElem?_modify];rw [if_neg h]
theorem SY (w:World) (p:Addr) (n:Nat):(w.freeze p n).heap.size =w.heap.size/\(w.freeze p n).os =w.os/\(w.freeze p n).tape =w.tape/\(w.freeze p n).output =w.output:=by unfold World.freeze;split <;> simp
set_option maxHeartbeats 4000000 in
set_option maxRecDepth 100000 in
theorem U0 (L:Lays.n169 P ρ) (X:Builder.Extra P ρ) (b:Nat) (p:Value) (w:World) (hbk:w.heap[b]? =some (.cells #[p,Value.slice none 0 0] (ρ.t 72) (0,0))):
  Calls P (ρ.f 169) #[.pointer (some ⟨b,0,none⟩)] w fun e w'=>e=.returned (.string ⟨#[]⟩)/\w'=w.drew:=by
 have c1:w.drew.cell? ⟨b,1,none⟩=some (Value.slice none 0 0):=by have:w.drew.heap[b]? =some (.cells #[p,Value.slice none 0 0] (ρ.t 72) (0,0)):=hbk;rw [Lib.cell_of_heap this];rfl
 have hUS: ∀(W:World) (q:Option Addr),(Builtin.unsafeString_ #[(ρ.t 127),(ρ.t 3)] (ρ.t 9) #[.pointer q,.int .i64 0]).run P W=.ok (.string .empty) W:=fun W q=>Lib.run_unsafeString_none W _ _ _ q;have hSD:(Builtin.unsafeSliceData_ #[(ρ.t 37)] (ρ.t 127) #[.slice none 0 0]).run P w.drew=.ok (.pointer none) w.drew:=rfl;have mixed:=L.mixed;have t72:=L.t72;have a72:=L.a72;have z72:=L.z72;have v72:=L.v72;have u72:=run_underlying L.t72;have t70:=L.t70;have a70:=L.a70;have z70:=L.z70;have v70:=L.v70;have u70:=run_underlying L.t70;have t37:=L.t37;have a37:=L.a37;have z37:=L.z37;have v37:=L.v37;have u37:=run_underlying L.t37;have t127:=L.t127;have a127:=L.a127;have z127:=L.z127;have v127:=L.v127;have u127:=run_underlying L.t127;have t3:=L.t3;have a3:=L.a3;have z3:=L.z3;have v3:=L.v3;have u3:=run_underlying L.t3;have t9:=L.t9;have a9:=L.a9;have z9:=L.z9;have v9:=L.v9;have u9:=run_underlying L.t9;have t5:=X.t5;have a5:=X.a5;have z5:=X.z5;have v5:=X.v5;have u5:=run_underlying X.t5
 go_enter L.f169,Body.n169_ntmps ρ
 go_wp2
 go_region_o
 all_goals (go_wp2;go_ret;exact ⟨rfl,rfl⟩)
set_option maxHeartbeats 4000000 in
set_option maxRecDepth 100000 in
theorem QqW (L:Lays.n169 P ρ) (X:Builder.Extra P ρ) (b:Nat) (p:Value) (w:World) (g o cap:Nat) (hc0:cap≠0) (hbk:w.heap[b]? =some (.cells #[p,Value.slice (some ⟨g,o,none⟩) 0 cap] (ρ.t 72) (0,0))):
  Calls P (ρ.f 169) #[.pointer (some ⟨b,0,none⟩)] w fun e w'=>e=.returned (.string ⟨#[]⟩)/\w'=w.drew:=by
 have c1:w.drew.cell? ⟨b,1,none⟩=some (Value.slice (some ⟨g,o,none⟩) 0 cap):=by have:w.drew.heap[b]? =some (.cells #[p,Value.slice (some ⟨g,o,none⟩) 0 cap] (ρ.t 72) (0,0)):=hbk;rw [Lib.cell_of_heap this];rfl
 have hUS: ∀(W:World) (q:Option Addr),(Builtin.unsafeString_ #[(ρ.t 127),(ρ.t 3)] (ρ.t 9) #[.pointer q,.int .i64 0]).run P W=.ok (.string .empty) W:=fun W q=>Lib.run_unsafeString_none W _ _ _ q;have hSD:(Builtin.unsafeSliceData_ #[(ρ.t 37)] (ρ.t 127) #[.slice (some ⟨g,o,none⟩) 0 cap]).run P w.drew=.ok (.pointer (some ⟨g,o,none⟩)) w.drew:=Lib.run_unsafeSliceData_row _ _ _ _ _ _ hc0;clear hc0;have mixed:=L.mixed;have t72:=L.t72;have a72:=L.a72;have z72:=L.z72;have v72:=L.v72;have u72:=run_underlying L.t72;have t70:=L.t70;have a70:=L.a70;have z70:=L.z70;have v70:=L.v70;have u70:=run_underlying L.t70;have t37:=L.t37;have a37:=L.a37;have z37:=L.z37;have v37:=L.v37;have u37:=run_underlying L.t37;have t127:=L.t127;have a127:=L.a127;have z127:=L.z127;have v127:=L.v127;have u127:=run_underlying L.t127;have t3:=L.t3;have a3:=L.a3;have z3:=L.z3;have v3:=L.v3;have u3:=run_underlying L.t3;have t9:=L.t9;have a9:=L.a9;have z9:=L.z9;have v9:=L.v9;have u9:=run_underlying L.t9;have t5:=X.t5;have a5:=X.a5;have z5:=X.z5;have v5:=X.v5;have u5:=run_underlying X.t5
 go_enter L.f169,Body.n169_ntmps ρ
 go_wp2
 go_region_o
 all_goals (go_wp2;go_ret;exact ⟨rfl,rfl⟩)
set_option maxHeartbeats 4000000 in
set_option maxRecDepth 100000 in
theorem Sc (L:Lays.n169 P ρ) (X:Builder.Extra P ρ) (b:Nat) (p:Value) (w:World) (g o:Nat) (cur:Array Value) (hbk:w.heap[b]? =some (.cells #[p,Value.slice (some ⟨g,o,none⟩) 0 0] (ρ.t 72) (0,0))) (hg:w.heap[g]? =some (.cells cur (ρ.t 5) (0,0))):
  Calls P (ρ.f 169) #[.pointer (some ⟨b,0,none⟩)] w fun e w'=>e=.returned (.string ⟨#[]⟩)/\w'=w.drew.alloc (.view ⟨g,o,none⟩ (ρ.t 5)):=by
 have c1:w.drew.cell? ⟨b,1,none⟩=some (Value.slice (some ⟨g,o,none⟩) 0 0):=by have:w.drew.heap[b]? =some (.cells #[p,Value.slice (some ⟨g,o,none⟩) 0 0] (ρ.t 72) (0,0)):=hbk;rw [Lib.cell_of_heap this];rfl
 have hUS: ∀(W:World) (q:Option Addr),(Builtin.unsafeString_ #[(ρ.t 127),(ρ.t 3)] (ρ.t 9) #[.pointer q,.int .i64 0]).run P W=.ok (.string .empty) W:=fun W q=>Lib.run_unsafeString_none W _ _ _ q;have hlt:b<w.heap.size:=(Array.getElem?_eq_some_iff.1 hbk).1;have hSD:(Builtin.unsafeSliceData_ #[(ρ.t 37)] (ρ.t 127) #[.slice (some ⟨g,o,none⟩) 0 0]).run P w.drew=.ok (.pointer (some ⟨w.drew.heap.size,0,none⟩)) (w.drew.alloc (.view ⟨g,o,none⟩ (ρ.t 5))):=
  Lib.run_unsafeSliceData_zero w.drew _ _ (ρ.t 5) L.t127 ⟨g,o,none⟩ 0 ((ρ.t 5),cur.size) (by have hg':w.drew.heap[g]? =some (.cells cur (ρ.t 5) (0,0)):=hg;simp [World.shape?,hg'])
 have c2:(w.drew.alloc (.view ⟨g,o,none⟩ (ρ.t 5))).cell? ⟨b,1,none⟩=some (.slice (some ⟨g,o,none⟩) 0 0):=by have:(w.drew.alloc (.view ⟨g,o,none⟩ (ρ.t 5))).heap[b]? =_:=(Lib.alloc_old w.drew _ b hlt).trans hbk;rw [Lib.cell_of_heap this];rfl
 have c3:(w.alloc (.view ⟨g,o,none⟩ (ρ.t 5))).drew.cell? ⟨b,1,none⟩=some (.slice (some ⟨g,o,none⟩) 0 0):=c2;have c0:w.cell? ⟨b,1,none⟩=some (.slice (some ⟨g,o,none⟩) 0 0):=c1;have mixed:=L.mixed;have t72:=L.t72;have a72:=L.a72;have z72:=L.z72;have v72:=L.v72;have u72:=run_underlying L.t72;have t70:=L.t70;have a70:=L.a70;have z70:=L.z70;have v70:=L.v70;have u70:=run_underlying L.t70;have t37:=L.t37;have a37:=L.a37;have z37:=L.z37;have v37:=L.v37;have u37:=run_underlying L.t37;have t127:=L.t127;have a127:=L.a127;have z127:=L.z127;have v127:=L.v127;have u127:=run_underlying L.t127;have t3:=L.t3;have a3:=L.a3;have z3:=L.z3;have v3:=L.v3;have u3:=run_underlying L.t3;have t9:=L.t9;have a9:=L.a9;have z9:=L.z9;have v9:=L.v9;have u9:=run_underlying L.t9;have t5:=X.t5;have a5:=X.a5;have z5:=X.z5;have v5:=X.v5;have u5:=run_underlying X.t5
 go_enter L.f169,Body.n169_ntmps ρ
 go_wp2
 go_region_o
 all_goals (go_wp2;go_ret;exact ⟨rfl,rfl⟩)
set_option maxHeartbeats 4000000 in
set_option maxRecDepth 100000 in
theorem SX (L:Lays.n169 P ρ) (X:Builder.Extra P ρ) (b:Nat) (p:Value) (w:World) (g o cap:Nat) (cur:Array Value) (l:List UInt8) (h0:l≠ []) (cJ:l.length<=cap) (h63:l.length<=9223372036854775807) (hbk:w.heap[b]? =some (.cells #[p,Value.slice (some ⟨g,o,none⟩) l.length cap] (ρ.t 72) (0,0))) (hg:w.heap[g]? =some (.cells cur (ρ.t 5) (0,0))) (hn:o+l.length<=cur.size) (hc: ∀j x,l[j]? =some x->cur[o+j]? =some (.int .u8 x.toNat)):
  Calls P (ρ.f 169) #[.pointer (some ⟨b,0,none⟩)] w fun e w'=>e=.returned (.string ⟨l.toArray⟩)/\w'=w.drew.freeze ⟨g,o,none⟩ l.length:=by
 have c1:w.drew.cell? ⟨b,1,none⟩=some (Value.slice (some ⟨g,o,none⟩) l.length cap):=by have:w.drew.heap[b]? =some (.cells #[p,Value.slice (some ⟨g,o,none⟩) l.length cap] (ρ.t 72) (0,0)):=hbk;rw [Lib.cell_of_heap this];rfl
 have hl0:l.length≠0:=by simpa using h0
 have hSD:(Builtin.unsafeSliceData_ #[(ρ.t 37)] (ρ.t 127) #[.slice (some ⟨g,o,none⟩) l.length cap]).run P w.drew=.ok (.pointer (some ⟨g,o,none⟩)) w.drew:=
  Lib.run_unsafeSliceData_row _ _ _ _ _ _ (by omega)
 have hUS:(Builtin.unsafeString_ #[(ρ.t 127),(ρ.t 3)] (ρ.t 9) #[.pointer (some ⟨g,o,none⟩),.int .i64 l.length]).run P w.drew=.ok (.string ⟨l.toArray⟩) (w.drew.freeze ⟨g,o,none⟩ l.length):=by
  have hg':w.drew.heap[g]? =some (.cells cur (ρ.t 5) (0,0)):=hg;refine S7 w.drew (ρ.t 127) (ρ.t 3) (ρ.t 9) (ρ.t 5) L.t127 X.cellsByte g o cur.size (by simp [World.shape?,hg']) l h0 hn h63 ?_;intro j x hx;have:=hc j x hx;have e:(⟨g,o,none⟩:Addr).add j=⟨g,o+j,none⟩:=by
   unfold Addr.add;by_cases hj:j=0
   .subst hj;simp
   .simp [hj]
  rw [e];simp [World.cell?,hg',this]
 clear hn hc hg cJ;have mixed:=L.mixed;have t72:=L.t72;have a72:=L.a72;have z72:=L.z72;have v72:=L.v72;have u72:=run_underlying L.t72;have t70:=L.t70;have a70:=L.a70;have z70:=L.z70;have v70:=L.v70;have u70:=run_underlying L.t70;have t37:=L.t37;have a37:=L.a37;have z37:=L.z37;have v37:=L.v37;have u37:=run_underlying L.t37;have t127:=L.t127;have a127:=L.a127;have z127:=L.z127;have v127:=L.v127;have u127:=run_underlying L.t127;have t3:=L.t3;have a3:=L.a3;have z3:=L.z3;have v3:=L.v3;have u3:=run_underlying L.t3;have t9:=L.t9;have a9:=L.a9;have z9:=L.z9;have v9:=L.v9;have u9:=run_underlying L.t9;have t5:=X.t5;have a5:=X.a5;have z5:=X.z5;have v5:=X.v5;have u5:=run_underlying X.t5
 go_enter L.f169,Body.n169_ntmps ρ
 go_wp2
 go_region_o
 all_goals (go_wp2;go_ret;exact ⟨rfl,rfl⟩)
set_option maxHeartbeats 1000000 in
theorem VU (L:Lays.n146 P ρ) (hi9:(P.info? (ρ.t 9)).map (fun i=>(i.zero,i.size,i.bytes))=some (some (.string ByteArray.empty),1,16)) (s:ByteArray) (b:UInt8) (w:World) (hs:s.size<4294967281):
  Calls P (ρ.f 146) #[.string s,.string ⟨#[b]⟩] w fun e w'=>
   e=.returned (.slice (some ⟨w.heap.size,0,none⟩) (Lib.countB s ⟨#[b]⟩+1) (Lib.countB s ⟨#[b]⟩+1))/\w'=w.alloc (.cells ((Lib.splitB ⟨#[b]⟩ 0 (Lib.countB s ⟨#[b]⟩) s).map Value.string).toArray (ρ.t 9)):=by
 have h1:1<=(⟨#[b]⟩:ByteArray).size :=Nat.le_refl 1;have hle:=Lib.countB_le ⟨#[b]⟩ h1 s.size s (Nat.le_refl _);have cC:=Lib.splitB_all ⟨#[b]⟩ h1 0 _ s rfl;have c:=Any.strings_genSplit_core {L with} hi9 s ⟨#[b]⟩ 0 (-1) (Lib.countB s ⟨#[b]⟩+1) w hs h1 (Nat.zero_le _)
  (fun x c hx=>(Any.strings_Index_one {L with} x b _).mono fun e w' ⟨he,hw⟩=>⟨by rw [he];show _=Ending.returned (Value.int .i64 (Lib.index x.data.toList [b]));rw [Lib.index_one],hw⟩)
  ((Any.strings_Count_one {L with} s b w).mono fun e w' ⟨he,hw⟩=>⟨by rw [he];show _=Ending.returned (Value.int .i64 ((Lib.count s.data.toList [b]:Nat):Int));rw [Lib.count_one];rfl,hw⟩) (by decide) (by decide) (by rw [if_pos (by decide)];omega)
 rw [Nat.add_sub_cancel,cC] at c;have e2:Lib.cellsOf (Lib.splitB ⟨#[b]⟩ 0 (Lib.countB s ⟨#[b]⟩) s) (Lib.countB s ⟨#[b]⟩+1)=((Lib.splitB ⟨#[b]⟩ 0 (Lib.countB s ⟨#[b]⟩) s).map Value.string).toArray :=by rw [<-cC];exact Lib.cellsOf_full _
 rw [e2] at c;have t3:=L.t3;have t9:=L.t9;have t31:=L.t31;have a3:=L.a3;have a9:=L.a9;have a31:=L.a31;have z3:=L.z3;have v3:=L.v3;have z9:=L.z9;have v9:=L.v9;have z31:=L.z31;have v31:=L.v31;have e221: ∀args w,(callFunc (ρ.f 221) args).run P w=.ok (.enter (ρ.f 221) args) w:=enters_of L.f221 (by kernel_rfl) rfl
 go_enter L.f146,Body.n146_ntmps ρ
 go_wp2_with (go_at_fn (ρ.f 221);refine c.mono ?_;rintro e w' ⟨rfl,hw⟩;rw [hw])
 go_ret
 exact ⟨rfl,rfl⟩
end Go.Proofs
end
