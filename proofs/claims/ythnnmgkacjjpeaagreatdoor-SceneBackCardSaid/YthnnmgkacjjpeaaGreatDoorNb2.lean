/- A part of a proof: several texts in one. -/
import Derived.Test.YthnnmgkacjjpeaaGreatDoorNb1
import Derived.AtR
import Derived.RangeFuncRecord
import Derived.RangeFuncNested
import Derived.Laws.BytesString
import Derived.Lib.UnsafeStr
import Derived.MapKept
import Derived.Sort.Grow
import Derived.Deep.Slices
import Derived.Deep.Fields
import Derived.ChangeSame
import Derived.OpenShut
import Derived.Shelf.Strings.Builder1
import Derived.Shelf.Strings.Split
set_option maxRecDepth 1000000
set_option maxHeartbeats 8000000
set_option linter.unusedVariables false
set_option linter.unusedSimpArgs false
noncomputable section
namespace Go.Am
open IntKind (wrap)
abbrev CQ :=Array Oper×Nat×List Oper
structure CZ where
 cx:CI
 ro:Option CQ
 todo:List Item
 rnd:Option Nat
 rs:List ResultVar
 env:T B3
structure Cu where
 st:LoopState
 pend:Option Code
 n:Nat
 env:T B3
 params:List Tmp
 assign:Code
 body:Code
abbrev CL :=T (Option Cu)
def DE (m:CL) (b:Nat):Option Cu:=T.get none m b
def Fg (m:CL) (b:Nat) (o:Option Cu):CL:=T.set none m b o
structure CG where
 cx:CI
 ro:Option CQ
 todo:List Item
 rnd:Option Nat
 rs:List ResultVar
 st:St
 cs:List CZ
 lps:CL
def Hm (v:B3) (st:St) (lps:CL):List CZ->Option CG
 | ⟨cx,some (ops,i,o::l),todo,rnd,rs,env⟩::cs=>match (st.withEnv env).put cx o.dst v with
  | some st'=>some ⟨cx,some (ops,i+1,l),todo,rnd,rs,st',cs,lps⟩
  | none=>none
 | ⟨cx,none,.inRangeFunc j::k,rnd,rs,env⟩::cs=>some ⟨cx,none,.endRangeFunc j::k,rnd,rs,st.withEnv env,cs,lps⟩
 | _=>none
def Rb :Option Code->LoopState
 | none=>.ready
 | some _=>.done
def S0 (lps:CL):Option Nat->Bool
 | none=>true
 | some j=>(DE lps j).isSome
def Rd (P:Program) (rnd:Option Nat) (rs:List ResultVar) (st:St) (cs:List CZ) (lps:CL) (jump:Option Code):Option CG:=
 match rnd with
 | none=>match Qx P st rs with
  | some vs=>Hm (Js vs) st lps cs
  | none=>none
 | some j=>match DE lps j with
  | some ⟨_,_,n,env,params,assign,body⟩=>
   Hm (.bool jump.isNone) st (Fg lps j (some ⟨Rb jump,jump,n,env,params,assign,body⟩)) cs
  | none=>none
def WS (n:Nat):List Tmp->List B3->T B3->Option (T B3)
 | [],[],env=>some env
 | t::ts,a::l,env=>bif Nat.ble (t+1) n then WS n ts l (T.set .undef env t a) else none
 | _,_,_=>none
def Pb (P:Program) (f:FuncId) (args:List B3) (fr:CZ) (st:St) (cs:List CZ) (lps:CL):Option CG:=
 match P.funcs[f]? with
 | some fn=>match fn.body with
  | some body=>some ⟨⟨Nat.max fn.ntmps args.length,fr.cx.floor,fr.cx.sym⟩,none,[.code body],none,fn.results.toList,st.withEnv (Ey args 0 .leaf),fr::cs,lps⟩
  | none=>none
 | none=>none
def u6q (j:Nat) (args:List B3) (fr:CZ) (st:St) (cs:List CZ) (lps:CL):Option CG:=
 match DE lps j with
 | some ⟨_,_,n,env,params,assign,body⟩=>match WS n params args env with
  | some env'=>some ⟨⟨n,fr.cx.floor,fr.cx.sym⟩,none,[.code assign,.beginRound,.code body],some j,[],st.withEnv env',fr::cs,lps⟩
  | none=>none
 | none=>none
def callee (S:B6) (st:St) (op:Op):Option ((FuncId×List B3) ⊕ (Nat×List B3)):=
 match op with
 | .call {callee:=.value f,args,argTypes:=_}=>match st.eval f with
  | .fn g caps=>match S g with
   | some _=>none
   | none=>some (.inl (g,args.toList.map st.eval++caps))
  | .fnb g first=>match S g with
   | some _=>none
   | none=>some (.inl (g,first++args.toList.map st.eval))
  | .yld j=>some (.inr (j,args.toList.map st.eval))
  | _=>none
 | _=>none
def RH (P:Program) (t:TypeId):Option Bool:=match P.underlying t with
 | some (.map k e)=>match P.underlying k,P.underlying e,P.info? e with
  | some .string,some (.int .i64),some i=>match i.zero with
   | some (.int .i64 n)=>bif n == 0 then some true else none
   | _=>none
  | some .string,some .bool,some i=>match i.zero with
   | some (.bool b)=>bif b then none else some false
   | _=>none
  | _,_,_=>none
 | _=>none
def Cr {α:Type} (l:List (List UInt8×α)) (k:List UInt8):Bool:=l.any fun p=>k == p.1
def getK {α:Type} (d:α):List (List UInt8×α)->List UInt8->α
 | [],_=>d
 | p::r,k=>bif k == p.1 then p.2 else getK d r k
def Cs {α:Type}:List (List UInt8×α)->List UInt8->α->List (List UInt8×α)
 | [],k,v=>[(k,v)]
 | p::r,k,v=>bif k == p.1 then (p.1,v)::r else p::Cs r k v
def Dm (s:List UInt8) (pos:Nat):Int:=((Utf8.decode ⟨s.toArray⟩ pos).1:Int)
def Fo (s:List UInt8) (pos:Nat):Nat:=(Utf8.decode ⟨s.toArray⟩ pos).2
def Lh :B3->UInt8
 | .int _ n=>UInt8.ofNat n.toNat
 | _=>0
def Ll :B3->Bool
 | .int .u8 n=>decide (0<=n/\n<256)
 | _=>false
def Fa (n:Nat) (g:Nat->List B3):List UInt8:=(List.range n).map fun k=>Lh ((g k).getD 0 .undef)
def RD (n:Nat) (g:Nat->List B3):Bool:=pd (∀k,k<n-> ∃v,g k=[v]/\Ll v=true)
def R8 (m:CD):B3->Option (List UInt8×Bool)
 | .nils =>some ([],true)
 | .sl b off len _=>match Yi m b with
  | some blk=>bif blk.isObj then none else match cut blk.cells off len with
   | some cs=>some (cs.map Lh,cs.all Ll)
   | none=>none
  | none=>none
 | .sla b sz off len _=>match Yi m b with
  | some blk=>match blk.arr with
   | some A=>some (Fa len fun k=>A.get (off+k),Nat.beq sz 1&&(Nat.beq A.sz 1&&(decide (off+len<=A.n)&&RD len fun k=>A.get (off+k))))
   | none=>none
  | none=>none
 | _=>none
def S5 :B3->Option Nat
 | .sl b _ _ _=>some b
 | .sla b _ _ _ _=>some b
 | _=>none
def PY (P:Program) (floor:Nat) (st:St) (t:TypeId) (x k v:B3):Option St:=match x,k with
 | .mapr b,.str k=>bif Nat.ble floor b then match RH P t,Yi st.mem b,v with
  | some true,some ⟨[.obj (.mi l)],ty,none⟩,.int .i64 n=>some (st.withMem (Wx st.mem b (some ⟨[.obj (.mi (Cs l k n))],ty,none⟩)))
  | some false,some ⟨[.obj (.mb l)],ty,none⟩,.bool e=>some (st.withMem (Wx st.mem b (some ⟨[.obj (.mb (Cs l k e))],ty,none⟩)))
  | _,_,_=>none
  else none
 | _,_=>none
def aX (P:Program) (floor:Nat) (st:St):Op->Option (B3×Bool×St)
 | .makeMap t none=>match RH P t with
  | some k=>some (.mapr st.next,true,Cj st [.obj (bif k then .mi [] else .mb [])] t)
  | none=>none
 | .lookup t x i co=>match st.eval x,st.eval i with
  | .mapr b,.str k=>match RH P t,Yi st.mem b with
   | some true,some ⟨[.obj (.mi l)],_,none⟩=>some (bif co then .tup [.int .i64 (getK 0 l k),.bool (Cr l k)] else .int .i64 (getK 0 l k),true,st)
   | some false,some ⟨[.obj (.mb l)],_,none⟩=>some (bif co then .tup [.bool (getK false l k),.bool (Cr l k)] else .bool (getK false l k),true,st)
   | _,_=>none
  | _,_=>none
 | .mapUpdate t m k v=>(PY P floor st t (st.eval m) (st.eval k) (st.eval v)).map fun st'=>(.tup [],true,st')
 | .insert t m k v=>(PY P floor st t (st.eval m) (st.eval k) (st.eval v)).map fun st'=>(.tup [],true,st')
 | .range t x=>match P.underlying t,st.eval x with
  | some .string,.str s=>some (.ptr st.next 0,true,Cj st [.obj (.it s 0)] t)
  | _,_=>none
 | .next x true=>match st.eval x with
  | .ptr b 0=>bif Nat.ble floor b then match Yi st.mem b with
   | some ⟨[.obj (.it s pos)],ty,none⟩=>match st.test (decide (pos<s.length)) with
    | (e,st1)=>some (bif e then .tup [.bool true,.int .i64 pos,.int .i32 (Dm s pos)] else .tup [.bool false],true,
      bif e then st1.withMem (Wx st1.mem b (some ⟨[.obj (.it s (pos+Fo s pos))],ty,none⟩)) else st1)
   | _=>none
   else none
  | _=>none
 | .alloc t=>bif Nat.beq t DK then match P.info? t with
   | some i=>match i.zero with
    | some (.agg ⟨[.pointer none,.slice none 0 0]⟩)=>some (.ptr st.next 0,true,Cj st [.obj .bld,.nils] t)
    | _=>none
   | none=>none
  else none
 | .load t x=>match st.eval x with
  | .ptr b 1=>match Yi st.mem b,WY P t,P.info? t with
   | some ⟨[.obj .bld,buf],_,none⟩,some false,some _=>some (buf,true,st)
   | _,_,_=>none
  | _=>none
 | .store t a x=>match st.eval a with
  | .ptr b 1=>bif Nat.ble floor b&&Cg (st.eval x) then match Yi st.mem b,P.info? t with
   | some ⟨[.obj .bld,_],ty,none⟩,some i=>bif Nat.beq i.size 1 then some (.tup [],true,st.withMem (Wx st.mem b (some ⟨[.obj .bld,st.eval x],ty,none⟩))) else none
   | _,_=>none
   else none
  | _=>none
 | .convert src dst x=>match P.underlying src,P.underlying dst with
  | some (.slice e),some .string =>match P.underlying e with
   | some (.int .u8)=>match R8 st.mem (st.eval x) with
    | some (s,o)=>some (.str s,o,st)
    | none=>none
   | _=>none
  | _,_=>none
 | .binOp op t x y _=>match st.eval x,y,P.underlying t with
  | .ifb b,.const .nilIface,some (.interface _)=>match op with
   | .eql =>some (.bool b,true,st)
   | .neq =>some (.bool !b,true,st)
   | _=>none
  | _,_,_=>none
 | .call {callee:=.value f,args,argTypes:=_}=>match st.eval f,args.toList.map st.eval with
  | .fn g [],[.ptr b 0]=>bif Nat.beq g MJ&&(P.funcs[g]?).any (fun fn=>fn.body.isSome) then match Yi st.mem b with
    | some ⟨[.obj .bld,buf],ty,none⟩=>bif Nat.beq ty DK then match R8 st.mem buf with
     | some (s,o)=>match S5 buf with
      | none=>some (.str s,decide (s.length<=9223372036854775807)&&o,st)
      | some c=>bif Nat.ble floor c&&Iw st.mem Oj c then some (.str s,decide (s.length<=9223372036854775807)&&o,st.withMem (Wx st.mem c none)) else none
     | none=>none
     else none
    | _=>none
   else none
  | _,_=>none
 | _=>none
def v3h (P:Program) (S:B6) (Rc:CF) (cx:CI) (ops:Array Oper) (i:Nat) (o:Oper) (l:List Oper) (todo:List Item) (rnd:Option Nat) (rs:List ResultVar) (st:St) (cs:List CZ) (lps:CL):Option CG:=
 match Fs ops o cx st with
 | some (true,st)=>match aX P cx.floor st o.op with
  | some (v,b,st1)=>match st1.owe cx b with
   | some st2=>match st2.put cx o.dst v with
    | some st3=>some ⟨cx,some (ops,i+1,l),todo,rnd,rs,st3,cs,lps⟩
    | none=>none
   | none=>none
  | none=>match callee S st o.op with
  | some (.inl (g,args))=>Pb P g args ⟨cx,some (ops,i,o::l),todo,rnd,rs,st.env⟩ st cs lps
  | some (.inr (j,args))=>u6q j args ⟨cx,some (ops,i,o::l),todo,rnd,rs,st.env⟩ st cs lps
  | none=>match Ln P S Rc false o cx st with
   | some st=>some ⟨cx,some (ops,i+1,l),todo,rnd,rs,st,cs,lps⟩
   | none=>none
 | some (false,st)=>match st.put cx o.dst (.tup []) with
  | some st=>some ⟨cx,some (ops,i+1,l),todo,rnd,rs,st,cs,lps⟩
  | none=>none
 | none=>none
def Gw (ops:Array Oper):Bool:=ops.toList.all fun o=>match o.op with
 | .defer _=>false
 | _=>true
def EZ (o:Oper):Oper:=⟨none,.move (.const (.bool true)),o.type,o.pos,o.after,none⟩
def Vz (ops:Array Oper) (m:Nat):Array Oper:=⟨ops.toList.take m++(ops.toList.drop m).map EZ⟩
def u5p (ops:Array Oper) (m:Nat):Bool:=
 Gw ops&&(Lj 0 (Vz ops m)&&(((List.range ops.size).all fun j=>Nat.ble (j+1) m||(List.range j).all fun i=>((FE (Vz ops m).toList []).getD j 0).testBit i)&&((List.range m).all fun i=>match ops[i]? with
  | some ⟨_,_,_,_,_,some (j,_)⟩=>Nat.ble (j+1) m
  | _=>true)))
def u9r (f:Operand):List Oper->Operand
 | []=>f
 | ⟨some d,.move x,_,_,_,_⟩::l=>match f with
  | .tmp t=>bif Nat.beq t d then x else u9r f l
  | _=>f
 | _::l=>u9r f l
def v6x (st:St) (ops:List Oper):Oper->Bool
 | ⟨_,.call ⟨.value f,_,_⟩,_,_,_,_⟩=>match st.eval (u9r f ops) with
  | .yld _=>true
  | _=>false
 | _=>false
def WU (st:St) (ops:List Oper):List Oper->Nat->Option Nat
 | [],_=>none
 | o::l,i=>bif v6x st ops o then some i else WU st ops l (i+1)
def u9n (ops:Array Oper) (st:St):Option Nat:=
 match WU st ops.toList ops.toList 0 with
 | some m=>bif u5p ops m then some m else none
 | none=>none
def H0 (ops:Array Oper):List Nat->Option Nat
 | []=>none
 | z::l=>bif Lj z ops then some z else H0 ops l
def Nj (ops:Array Oper):Bool:=ops.toList.any fun o=>match o.op with
 | .call {callee:=.builtin .append,.. }=>true
 | _=>false
def j2x (ops:Array Oper):Bool:=ops.toList.any fun o=>match o.op,o.dst with
 | .buildSlice _ _ _,some d=>ops.toList.any fun p=>match p.op with
  | .call {callee:=.value _,args,argTypes:=_}=>args.toList.any fun a=>match a with
   | .tmp t=>Nat.beq t d
   | _=>false
  | _=>false
 | _,_=>false
def j2w (ops:Array Oper):Option Nat:=bif Gw ops then H0 ops (bif j2x ops then [1,0,2] else bif Nj ops then [0,2,3,1] else [0,1,2]) else none
def St.nextId :St->Nat×St
 | ⟨env,mem,next,orc,ob⟩=>(next,⟨env,mem,next+1,orc,ob⟩)
def Pp (P:Program) (S:B6) (Rc:CF):CG->Option CG
 | ⟨cx,some (_,_,[]),todo,rnd,rs,st,cs,lps⟩=>some ⟨cx,none,todo,rnd,rs,st,cs,lps⟩
 | ⟨cx,some (ops,i,o::l),todo,rnd,rs,st,cs,lps⟩=>v3h P S Rc cx ops i o l todo rnd rs st cs lps
 | ⟨cx,none,todo,rnd,rs,st,cs,lps⟩=>match todo with
  | []=>Rd P rnd rs st cs lps none
  | .code .ret ::_=>Rd P rnd rs st cs lps (some .ret)
  | .code .skip ::k=>some ⟨cx,none,k,rnd,rs,st,cs,lps⟩
  | .code (.label _)::k=>some ⟨cx,none,k,rnd,rs,st,cs,lps⟩
  | .inBlock _::k=>some ⟨cx,none,k,rnd,rs,st,cs,lps⟩
  | .inScope _::k=>some ⟨cx,none,k,rnd,rs,st,cs,lps⟩
  | .code (.seq a b)::k=>some ⟨cx,none,.code a::.code b::k,rnd,rs,st,cs,lps⟩
  | .code (.cond c a b)::k=>match st.eval c with
   | .bool v=>match st.test v with
    | (e,st)=>some ⟨cx,none,.code (bif e then a else b)::k,rnd,rs,st,cs,lps⟩
   | _=>none
  | .code (.block id body)::k=>some ⟨cx,none,.code body::.inBlock id::k,rnd,rs,st,cs,lps⟩
  | .code (.scope body)::k=>some ⟨cx,none,.code body::.inScope body::k,rnd,rs,st,cs,lps⟩
  | .code (.loop body)::k=>some ⟨cx,none,.code body::.inLoop body::k,rnd,rs,st,cs,lps⟩
  | .inLoop body::k=>some ⟨cx,none,.code body::.inLoop body::k,rnd,rs,st,cs,lps⟩
  | .code (.exit id)::k=>match exitTo id k with
   | some k=>some ⟨cx,none,k,rnd,rs,st,cs,lps⟩
   | none=>match rnd with
    | some _=>Rd P rnd rs st cs lps (some (.exit id))
    | none=>none
  | .code (.region _ ops false)::k=>bif Gw ops then some ⟨cx,some (ops,0,ops.toList),k,rnd,rs,st,cs,lps⟩ else none
  | .code (.region _ ops true)::k=>match u9n ops st with
   | some m=>match P0 0 P S Rc (Vz ops m) cx (I5 (Vz ops m)) [] st with
    | some st=>some ⟨cx,some (ops,m,ops.toList.drop m),k,rnd,rs,st,cs,lps⟩
    | none=>none
   | none=>match j2w ops with
    | some z=>match P0 z P S Rc ops cx (I5 ops) [] st with
     | some st=>some ⟨cx,none,k,rnd,rs,st,cs,lps⟩
     | none=>none
    | none=>none
  | .code (.rangeFunc f params assign body)::k=>match st.eval f with
   | .fn g caps=>match st.nextId with
    | (j,st')=>bif S0 lps rnd then Pb P g (.yld j::caps) ⟨cx,none,.inRangeFunc j::k,rnd,rs,st.env⟩ st' cs (Fg lps j (some ⟨.ready,none,cx.n,st.env,params.toList,assign,body⟩)) else none
   | _=>none
  | .beginRound ::k=>match rnd with
   | some j=>match DE lps j with
    | some ⟨.ready,pend,n,env,params,assign,body⟩=>some ⟨cx,none,k,rnd,rs,st,cs,Fg lps j (some ⟨.busy,pend,n,env,params,assign,body⟩)⟩
    | _=>none
   | none=>none
  | .endRangeFunc j::k=>match DE lps j with
   | some ⟨.busy,_,_,_,_,_,_⟩=>none
   | some ⟨_,pend,n,env,params,assign,body⟩=>some ⟨cx,none,(pend.map Item.code).toList ++k,rnd,rs,st,cs,Fg lps j (some ⟨.exhausted,pend,n,env,params,assign,body⟩)⟩
   | none=>none
  | _=>none
def G1 :CG->Bool
 | ⟨_,none,[],none,_,_,[],_⟩=>true
 | ⟨_,none,.code .ret ::_,none,_,_,[],_⟩=>true
 | _=>false
def FM (P:Program) (S:B6) (Rc:CF) (n:Nat):CG->Option CG:=
 Nat.rec (motive:=fun _=>CG->Option CG) (fun _=>none) (fun _ R C=>bif G1 C then some C else match Pp P S Rc C with
  | some C'=>R C'
  | none=>none) n
def L9 :Item->Bool
 | .code _ | .inBlock _ | .inLoop _ | .inScope _ | .beginRound =>true
 | _=>false
def Ng (P:Program) (S:B6) (n:Nat) (d:Nat):CF:=
 Nat.rec (motive:=fun _=>CF) (fun _ _ _=>none) (fun _ R cx todo st=>bif todo.all L9&&Nat.ble cx.floor st.next then match FM P S R n ⟨cx,none,todo,none,[],st,[],.leaf⟩ with
  | some C=>bif Nat.beq C.cx.n cx.n then some C.st else none
  | none=>none
  else none) d
section
variable {P:Program}
section ops
variable {b:Frame} {a:Act} {k:List Item} {cs:List Frame} {w:World} {ops:Array Oper}
theorem x3s {i:Nat} {rest:List Nat} {o:Oper} {K:Act->World->Prop} {Q:Exit->Act->World->Prop} (hQ: ∀e a w,Q e a w->e=.normal) (ho:ops[i]? =some o) (hnd: ∀c,o.op≠ .defer c)
  (h:if Region.wanted o (yielded ops a.tmps) then o.wp P a w K Q else K (a.put o.dst undef) w):
  ∃a' w',K a' w'/\Steps P (lone (b.atR a (.inRegion ops (i::rest)::k)) cs w) (lone (b.atR a' (.inRegion ops rest::k)) cs w'):=by
 by_cases hw:Region.wanted o (yielded ops a.tmps)=true
 .rw [AG hw] at h;have hg:=stepGR_op (P:=P) (b:=b) (k:=k) (cs:=cs) (w:=w) (rest:=rest) ho hw;rw [Oper.semAt_eq _ _ _ hnd] at hg;have fin: ∀(a:Act) (v:Value),(b.atR a (.inRegion ops (i::rest)::k)).finish v=b.atR (a.put o.dst v) (.inRegion ops rest::k):=fun a v=>by rw [Frame.finish_atR,ho];rfl
  unfold Oper.wp at h;generalize hr:(execOp a.eval o).run P w=r at h;cases r with
  | ok n w'=>
   cases n <;> simp only [Oper.upon] at h
   case value v=>exact ⟨_,w',h,.one (step_lone_go (by simp_all [stepG.apply]))⟩
   case skip=>exact ⟨_,w',h,.one (step_lone_go (by simp_all [stepG.apply]))⟩
   case defer d=>refine ⟨_,w',h,.one (step_lone_go ?_)⟩;have e:=fin {a with defers:=d::a.defers} undef;simp_all [stepG.apply,Frame.atR]
   case enter f args=>
    obtain ⟨e,w'',fr,hR,eX,_,hleave⟩:=h (b.atR a (.inRegion ops (i::rest)::k)::cs);have gE:step P (lone (b.atR a (.inRegion ops (i::rest)::k)) cs w)=.next (lone (Frame.enter P f args .normal) (b.atR a (.inRegion ops (i::rest)::k)::cs) w'):=
     step_lone_go (by simp_all [stepG.apply,Frame.atR])
    cases e with
    | returned v=>
     refine ⟨_,w'',hR,.head gE (eX.trans (.one ?_))⟩
     grind [step_leave_returned]
    | panicked chain=>grind
    | outgrown=>obtain ⟨_,_,hq⟩:=hR;grind
   case row row args=>
    obtain ⟨v,w'',hR,eX⟩:=h (b.atR a (.inRegion ops (i::rest)::k)) cs;have gE:step P (lone (b.atR a (.inRegion ops (i::rest)::k)) cs w)=.next (lone (Frame.ofRow P row args .normal) (b.atR a (.inRegion ops (i::rest)::k)::cs) w'):=
     step_lone_go (by simp_all [stepG.apply,Frame.atR])
    refine ⟨_,w'',hR,.head gE ?_⟩
    grind
   all_goals exact h.elim
  | halt x w'=>cases x <;> simp only [Oper.upon] at h <;> first | exact h.elim | grind
 .rw [Az hw] at h;have hs:=stepR_op_skip (P:=P) (b:=b) (a:=a) (k:=k) (cs:=cs) (w:=w) (ops:=ops) (i:=i) (rest:=rest) (by grind);rw [ho] at hs;exact ⟨_,w,h,.one hs⟩
theorem ZE {R:Act->World->Prop} {Q:Exit->Act->World->Prop} (hQ: ∀e a w,Q e a w->e=.normal /\R a w) (hnd:Gw ops=true): ∀(l:List Nat) (a:Act) (w:World),wpOps P ops Q l a w->
  ∃a' w',R a' w'/\Steps P (lone (b.atR a (.inRegion ops l::k)) cs w) (lone (b.atR a' k) cs w')
 | [],a,w,h=>⟨a,w,(hQ _ _ _ h).2,.one stepR_region_end⟩
 | i::l,a,w,h=>by
  simp only [wpOps] at h;cases ho:ops[i]? with
  | none=>rw [ho] at h;obtain ⟨a',w',hR,hs⟩:=ZE hQ hnd l a w h;have h1:=stepR_op_skip (P:=P) (b:=b) (a:=a) (k:=k) (cs:=cs) (w:=w) (ops:=ops) (i:=i) (rest:=l) (by simp [ho]);rw [ho] at h1;exact ⟨a',w',hR,.head h1 hs⟩
  | some o=>
   rw [ho] at h;have hno: ∀c,o.op≠ .defer c:=by
    intro c hc;have hm:o∈ops.toList:=(by grind);have:=Ax.1 hnd o hm
    grind
   have h':if Region.wanted o (yielded ops a.tmps) then o.wp P a w (wpOps P ops Q l) Q else wpOps P ops Q l (a.put o.dst undef) w:=by
    by_cases hw:Region.wanted o (yielded ops a.tmps)=true
    .simp only [hw,if_true] at h ⊢;rcases h with h | ⟨_,a0,w0,h0⟩;all_goals grind
    grind
   obtain ⟨a1,w1,h1,s1⟩:=x3s (b:=b) (k:=k) (cs:=cs) (rest:=l) (fun e a w q=>(hQ e a w q).1) ho hno h';obtain ⟨a',w',hR,hs⟩:=ZE hQ hnd l a1 w1 h1;exact ⟨a',w',hR,s1.trans hs⟩
end ops
end
section
variable {P:Program}
def Sp (ρ:B7) (w:World) (r:Nat):Prop:=r<w.heap.size/\ρ.fz r=none/\ ∀b l,ρ b=some l->l.blk≠r
theorem Sp.ev {ρ ρ':B7} {floor:Nat} {m m':CD} {n n':Nat} {w w':World} (he:Ev ρ ρ' floor m n m' n' w w') {r:Nat} (hs:Sp ρ w r):Sp ρ' w' r/\w'.heap[r]? =w.heap[r]? :=by
 obtain ⟨h1,h2,h3⟩:=hs;refine ⟨⟨A4 h1 he.size,by rw [he.still r h1];exact h2,fun b l hl=> ?_⟩,?_⟩
 .by_cases hb:b<n
  .rw [he.new b hb] at hl;grind
  .rcases he.fresh b l (by omega) hl with h | ⟨b0,l0,e0,_,g0⟩;all_goals grind
 .have:w.heap[r]? =some w.heap[r]:=by simp [h1]
  rw [this];exact he.frame r _ this fun b l hl _=>h3 b l hl
structure Vn (m:List Nat) (w w':World):Prop where
 size:w'.heap.size=w.heap.size
 other: ∀k,k ∉ m->w'.heap[k]? =w.heap[k]?
 os:w'.os=w.os
 tape:w'.tape=w.tape
 output:w'.output=w.output
theorem Vn.refl (m:List Nat) (w:World):Vn m w w:=⟨rfl,fun _ _=>rfl,rfl,rfl,rfl⟩
theorem Vn.put (w:World) (r:Nat) (o:Obj):Vn [r] w (w.putObj r o):=⟨World.putObj_size,fun k hk=>World.putObj_heap_other (by grind),rfl,rfl,rfl⟩
theorem Vn.trans {m m':List Nat} {a b c:World} (h:Vn m a b) (k:Vn m' b c):Vn (m++m') a c:=
 ⟨k.size.trans h.size,fun i hi=>by simp only [AM,not_or] at hi;exact (k.other i hi.2).trans (h.other i hi.1),k.os.trans h.os,k.tape.trans h.tape,k.output.trans h.output⟩
theorem B9.turned {ρ:B7} {mem:CD} {next:Nat} {w w':World} (h:B9 ρ mem next w) {m:List Nat} (hm: ∀r∈m,Sp ρ w r) (ht:Vn m w w'):B9 ρ mem next w':=
 ⟨h.dom,h.inj,fun b l ab e g=>(h.blk b l ab e g).world (B7.le_refl ρ) (ht.other _ fun hr=>(hm _ hr).2.2 b l e rfl),fun k o e=>by
  rw [ht.other k fun hr=>by rw [(hm _ hr).2.1] at e;cases e];exact h.old k o e,
  h.sep,fun b l e=>by rw [ht.size];exact h.real b l e,h.bd,h.ldom⟩
theorem Ev.turned {ρ0 ρ:B7} {floor:Nat} {m0 mem:CD} {n0 next:Nat} {w0 w w':World} (h:Ev ρ0 ρ floor m0 n0 mem next w0 w) {m:List Nat} (hm: ∀r∈m,w0.heap.size<=r) (ht:Vn m w w'):Ev ρ0 ρ floor m0 n0 mem next w0 w':=
 ⟨h.ext,h.new,h.nxt,h.unborn,fun k o hk hf=>by
  have hlt:k<w0.heap.size:=(AB.1 hk).1;rw [ht.other k fun hr=>by grind];exact h.frame k o hk hf,h.fresh,by rw [ht.size];exact h.size,ht.os.trans h.os,ht.tape.trans h.tape,ht.output.trans h.output,h.still⟩
theorem Sp.turned {ρ:B7} {w w':World} {r:Nat} (h:Sp ρ w r) {m:List Nat} (ht:Vn m w w'):Sp ρ w' r:=⟨by rw [ht.size];exact h.1,h.2.1,h.2.2⟩
theorem B9.grow {ρ:B7} {mem:CD} {next:Nat} {w:World} (h:B9 ρ mem next w) (o:Obj):B9 ρ mem next (w.alloc o):=by
 have same: ∀k,k<w.heap.size->(w.alloc o).heap[k]? =w.heap[k]? :=fun k hk=>by
  show (w.heap.push o)[k]? =_
  grind
 exact ⟨h.dom,h.inj,fun b l ab e g=>(h.blk b l ab e g).world (B7.le_refl ρ) (same _ (h.real b l e)),fun k ob e=>by
  have:=h.old k ob e
  grind,h.sep,fun b l e=>by
  have:=h.real b l e
  grind,h.bd,h.ldom⟩
theorem Ev.grow {ρ0 ρ:B7} {floor:Nat} {m0 mem:CD} {n0 next:Nat} {w0 w:World} (h:Ev ρ0 ρ floor m0 n0 mem next w0 w) (o:Obj):Ev ρ0 ρ floor m0 n0 mem next w0 (w.alloc o):=
 ⟨h.ext,h.new,h.nxt,h.unborn,fun k ob hk hf=>by
  have:=h.frame k ob hk hf;have hlt:=(AB.1 this).1;show (w.heap.push o)[k]? =_
  grind,h.fresh,by
  have:=h.size;show _<=(w.heap.push o).size;simp;omega,h.os,h.tape,h.output,h.still⟩
theorem Sp.grow {ρ:B7} {w:World} {r:Nat} (h:Sp ρ w r) (o:Obj):Sp ρ (w.alloc o) r/\(w.alloc o).heap[r]? =w.heap[r]? :=by
 refine ⟨⟨?_,h.2.1,h.2.2⟩,?_⟩
 .have:=h.1;show r<(w.heap.push o).size;simp;omega
 .show (w.heap.push o)[r]? =_;simp [BS,Bi h.1]
theorem Sp.fresh {ρ:B7} {mem:CD} {next:Nat} {w:World} (h:B9 ρ mem next w) (o:Obj):Sp ρ (w.alloc o) w.heap.size:=
 ⟨by simp_all,h.hold _ (An _),fun b l e=>Bi (h.real b l e)⟩
def lpAdd (ρ:B7) (j l:Nat):B7:=⟨ρ.f,ρ.fz,fun k=>if k=j then some l else ρ.lp k⟩
theorem B9.lp_none {ρ:B7} {mem:CD} {next:Nat} {w:World} (h:B9 ρ mem next w):ρ.lp next=none:=by
 cases e:ρ.lp next with
 | none=>rfl
 | some l=>exact absurd (h.ldom.1 _ _ e) (Nat.lt_irrefl _)
theorem x3w {ρ:B7} {j l:Nat} (h:ρ.lp j=none):ρ.le (lpAdd ρ j l):=⟨fun _ _ e=>e,fun _ _ e=>e,fun k l' e=>by
 show (if k=j then some l else ρ.lp k)=some l'
 grind⟩
theorem B9.lpAdd {ρ:B7} {mem:CD} {next:Nat} {w:World} (h:B9 ρ mem next w) (l:Nat):B9 (lpAdd ρ next l) mem (next+1) w:=
 ⟨fun b l' e=>Bm (h.dom b l' e),h.inj,fun b l' ab e g=>(h.blk b l' ab e g).world (x3w h.lp_none) rfl,h.old,h.sep,h.real,fun b hb=>h.bd b (by omega),⟨fun j l' e=>by
  have e:(if j=next then some l else ρ.lp j)=some l':=e;by_cases hj:j=next
  .omega
  .rw [Az hj] at e;exact Bm (h.ldom.1 j l' e),h.ldom.2⟩⟩
theorem Ev.lpAdd {ρ0 ρ:B7} {floor:Nat} {m0 mem:CD} {n0 next:Nat} {w0 w:World} (h:Ev ρ0 ρ floor m0 n0 mem next w0 w) (hr:B9 ρ mem next w) (l:Nat):Ev ρ0 (lpAdd ρ next l) floor m0 n0 mem (next+1) w0 w:=
 ⟨B7.le_trans h.ext (x3w hr.lp_none),h.new,Nat.le_succ_of_le h.nxt,h.unborn,h.frame,h.fresh,h.size,h.os,h.tape,h.output,h.still⟩
inductive Ee (ρ:B7):Item->Item->Prop
 | same (x:Item) (h:L9 x=true):Ee ρ x x
 | inR (j l:Nat) (h:ρ.lp j=some l):Ee ρ (.inRangeFunc j) (.inRangeFunc l)
 | endR (j l:Nat) (h:ρ.lp j=some l):Ee ρ (.endRangeFunc j) (.endRangeFunc l)
abbrev DP (ρ:B7):List Item->List Item->Prop:=Vo (Ee ρ)
theorem Vo.mono {α β:Type} {R R':α->β->Prop} (hr: ∀a b,R a b->R' a b) {l:List α} {m:List β} (h:Vo R l m):Vo R' l m:=by
 induction h with
 | nil=>exact .nil
 | cons h _ ih=>exact .cons (hr _ _ h) ih
theorem Ee.mono {ρ ρ':B7} (h:ρ.le ρ') {x y:Item} (hx:Ee ρ x y):Ee ρ' x y:=by
 cases hx with
 | same x hx=>exact .same x hx
 | inR j l e=>exact .inR j l (h.2.2 _ _ e)
 | endR j l e=>exact .endR j l (h.2.2 _ _ e)
theorem DP.exit {ρ:B7} {k k':List Item} (h:DP ρ k k') (id:Nat):(∀r,exitTo id k=some r-> ∃r',exitTo id k'=some r'/\DP ρ r r')/\(exitTo id k=none->exitTo id k'=none):=by
 induction h with
 | nil=>exact ⟨fun r e=>(by cases e),fun _=>rfl⟩
 | @cons x y l m hx t ih=>
  cases hx with
  | same x hx=>
   cases x with
   | inBlock id'=>
    grind [exitTo]
   | code _=>exact ih
   | inLoop _=>exact ih
   | inScope _=>exact ih
   | beginRound=>exact ih
   | inRegion _ _=>cases hx
   | inRangeFunc _=>cases hx
   | endRangeFunc _=>cases hx
   | call _ _ _ _=>cases hx
   | extern _ _=>cases hx
  | inR j l e=>exact ih
  | endR j l e=>exact ih
def Nb (r:Nat):Deferred:={target:=.collected r,args:= #[]}
def Vh (ro:Option CQ) (k:List Item):List Item:=match ro with
 | none=>k
 | some (ops,i,_)=>.inRegion ops ((List.range ops.size).drop i)::k
def roOk :Option CQ->Prop
 | none=>True
 | some (ops,i,l)=>l=ops.toList.drop i/\Gw ops=true
structure Fc (ρ:B7) (cx:CI) (ro:Option CQ) (todo:List Item) (rnd:Option Nat) (env:T B3) (b:Frame) (a:Act) (k:List Item) (ms:List Nat):Prop where
 env:Vk ρ env cx.n a.tmps
 defers:a.defers=ms.map Nb
 todo:DP ρ todo k
 ro:roOk ro
 rnd:match rnd with
  | none=>b.roundOf=none
  | some j=>ms=[]/\ ∃l,ρ.lp j=some l/\b.roundOf=some l
theorem Fc.mono {ρ ρ':B7} (h:ρ.le ρ') {cx:CI} {ro:Option CQ} {todo:List Item} {rnd:Option Nat} {env:T B3} {b:Frame} {a:Act} {k:List Item} {ms:List Nat} (hf:Fc ρ cx ro todo rnd env b a k ms):Fc ρ' cx ro todo rnd env b a k ms:=
 ⟨hf.env.mono h,hf.defers,hf.todo.mono fun _ _=>Ee.mono h,hf.ro,by
  have:=hf.rnd;cases rnd with
  | none=>exact this
  | some j=>obtain ⟨h0,l,h1,h2⟩:=this;exact ⟨h0,l,h.2.2 _ _ h1,h2⟩⟩
def v9a (P:Program) (rnd:Option Nat) (rs:List ResultVar) (b:Frame):Prop:=b.kind=.normal /\(rnd=none-> ∃fn,P.funcs[b.fn]? =some fn/\fn.results.toList=rs)
inductive Fb (P:Program) (ρ:B7):List CZ->List Frame->List Nat->Prop
 | nil:Fb P ρ [] [] []
 | cons {af:CZ} {b:Frame} {a:Act} {k:List Item} {ms:List Nat} {cs:List CZ} {css:List Frame} {mss:List Nat} (h:Fc ρ af.cx af.ro af.todo af.rnd af.env b a k ms)
   (hl:cs≠ []->v9a P af.rnd af.rs b) (t:Fb P ρ cs css mss):Fb P ρ (af::cs) (b.atR a (Vh af.ro k)::css) (ms++mss)
theorem Fb.mono {ρ ρ':B7} (h:ρ.le ρ') {cs:List CZ} {css:List Frame} {mss:List Nat} (hc:Fb P ρ cs css mss):Fb P ρ' cs css mss:=by
 induction hc with
 | nil=>exact .nil
 | cons hf hl t ih=>exact .cons (hf.mono h) hl ih
structure P7 (base:Nat) (ρ:B7) (w:World) (j:Nat) (L:Cu) (l:Nat):Prop where
 lp:ρ.lp j=some l
 low:base<=l
 sp:Sp ρ w l
 obj: ∃tmps fn d,w.heap[l]? =some (.loop ⟨L.st,L.pend,fn,tmps,L.params.toArray,L.assign,L.body,d⟩)/\Vk ρ L.env L.n tmps
structure D3 (P:Program) (base:Nat) (ρ:B7) (cs:List CZ) (lps:CL) (css:List Frame) (w:World) (m0 m1:List Nat):Prop where
 cs:Fb P ρ cs css m1
 nodup:(m0++m1).Nodup
 marks: ∀r∈m0++m1,base<=r/\Sp ρ w r/\w.heap[r]? =some (.deferred (some []))
 loops: ∀j L,DE lps j=some L-> ∃l,P7 base ρ w j L l
 inj: ∀j j' L L' l,DE lps j=some L->DE lps j'=some L'->ρ.lp j=some l->ρ.lp j'=some l->j=j'
theorem P7.ev {base:Nat} {ρ ρ':B7} {floor:Nat} {m m':CD} {n n':Nat} {w w':World} (he:Ev ρ ρ' floor m n m' n' w w') {j:Nat} {L:Cu} {l:Nat} (h:P7 base ρ w j L l):P7 base ρ' w' j L l:=by obtain ⟨h1,h2,h3,tmps,fn,d,h4,h5⟩:=h;obtain ⟨s1,s2⟩:=h3.ev he;exact ⟨he.ext.2.2 _ _ h1,h2,s1,tmps,fn,d,by grind,h5.mono he.ext⟩
theorem D3.ev {base:Nat} {ρ ρ':B7} {floor:Nat} {m m':CD} {n n':Nat} {w w':World} (he:Ev ρ ρ' floor m n m' n' w w') {cs:List CZ} {lps:CL} {css:List Frame} {m0 m1:List Nat} (h:D3 P base ρ cs lps css w m0 m1):D3 P base ρ' cs lps css w' m0 m1:=by
 refine ⟨h.cs.mono he.ext,h.nodup,fun r hr=> ?_,fun j L hL=> ?_,fun j j' L L' l hL hL' e e'=> ?_⟩
 .obtain ⟨h1,h2,h3⟩:=h.marks r hr;obtain ⟨s1,s2⟩:=h2.ev he
  grind
 .obtain ⟨l,hl⟩:=h.loops j L hL;exact ⟨l,hl.ev he⟩
 .obtain ⟨l1,hl1⟩:=h.loops j L hL;obtain ⟨l2,hl2⟩:=h.loops j' L' hL';have e1:=he.ext.2.2 _ _ hl1.lp;have e2:=he.ext.2.2 _ _ hl2.lp;rw [e] at e1;rw [e'] at e2;obtain rfl:=Ag e1;obtain rfl:=Ag e2;exact h.inj j j' L L' l hL hL' hl1.lp hl2.lp
theorem D3.turned {base:Nat} {ρ:B7} {w w':World} {cs:List CZ} {lps:CL} {css:List Frame} {m0 m0' m1:List Nat} (h:D3 P base ρ cs lps css w m0 m1) {m:List Nat} (ht:Vn m w w') (hsub:m0'.Sublist m0) (hm: ∀r∈m,r ∉ m0'++m1) (hl: ∀r∈m,∃ds,w.heap[r]? =some (.deferred ds)):
  D3 P base ρ cs lps css w' m0' m1:=by
 refine ⟨h.cs,h.nodup.sublist (hsub.append (List.Sublist.refl _)),fun r hr=> ?_,fun j L hL=> ?_,h.inj⟩
 .obtain ⟨h1,h2,h3⟩:=h.marks r ((hsub.append (List.Sublist.refl m1)).subset hr);exact ⟨h1,h2.turned ht,by rw [ht.other r fun hrm=>hm r hrm hr];exact h3⟩
 .obtain ⟨l,h1,h2,h3,tmps,fn,d,h4,h5⟩:=h.loops j L hL;refine ⟨l,h1,h2,h3.turned ht,tmps,fn,d,?_,h5⟩;rw [ht.other l fun hlm=> ?_];all_goals grind
theorem D3.record {base:Nat} {ρ:B7} {w w':World} {cs:List CZ} {lps:CL} {css:List Frame} {m0 m1:List Nat} (h:D3 P base ρ cs lps css w m0 m1) {j l:Nat} {L L':Cu} (hj:DE lps j=some L) (hl:P7 base ρ w j L l)
  (hL:P7 base ρ w' j L' l) (ht:Vn [l] w w'):D3 P base ρ cs (Fg lps j (some L')) css w' m0 m1:=by
 have gI:=hl.obj;obtain ⟨tmps,fn,d,h4,_⟩:=gI;have get: ∀i,DE (Fg lps j (some L')) i=if i=j then some L' else DE lps i:=fun i=>T.get_set none lps j (some L') i
 refine ⟨h.cs,h.nodup,fun r hr=> ?_,fun i M hM=> ?_,fun i i' M M' l' hM hM' e e'=> ?_⟩
 .obtain ⟨h1,h2,h3⟩:=h.marks r hr;refine ⟨h1,h2.turned ht,?_⟩;rw [ht.other r fun hrm=> ?_];all_goals grind
 .rw [get] at hM;by_cases hij:i=j
  .grind
  .rw [Az hij] at hM;obtain ⟨l2,q1,q2,q3,tmps2,fn2,d2,q4,q5⟩:=h.loops i M hM;refine ⟨l2,q1,q2,q3.turned ht,tmps2,fn2,d2,?_,q5⟩;rw [ht.other l2 fun hlm=> ?_]
   .exact q4
   .obtain rfl:l2=l:=by grind
    exact hij (h.inj i j M L l2 hM hj q1 hl.lp)
 .rw [get] at hM hM';have old: ∀x N,(if x=j then some L' else DE lps x)=some N-> ∃N',DE lps x=some N':=fun x N hx=>by
   grind
  obtain ⟨N,hN⟩:=old i M hM;obtain ⟨N',hN'⟩:=old i' M' hM';exact h.inj i i' N N' l' hN hN' e e'
end
section
variable {P:Program}
structure N6 (P:Program) (base:Nat) (C:CG) (ρ:B7) (b:Frame) (a:Act) (k:List Item) (css:List Frame) (w:World) (ma mb:List Nat):Prop where
 top:Fc ρ C.cx C.ro C.todo C.rnd C.st.env b a k ma
 lv:C.cs≠ []->v9a P C.rnd C.rs b
 rest:D3 P base ρ C.cs C.lps css w ma mb
 rel:B9 ρ C.st.mem C.st.next w
structure Fl (fl:Nat) (C:CG):Prop where
 cx:C.cx.floor=fl
 cs: ∀af∈C.cs,af.cx.floor=fl
 le:fl<=C.st.next
def Ly (b:Frame):List Frame->FuncId×CallKind×Option Nat
 | []=>(b.fn,b.kind,b.roundOf)
 | c::css=>Ly c css
def Eu (P:Program) (fl:Nat) (C C':CG):Prop:=
 ∀(m0:CD) (n0:Nat) (ρ0:B7) (w0:World) (ρ:B7) (b:Frame) (a:Act) (k:List Item) (css:List Frame) (w:World) (ma mb:List Nat),N6 P w0.heap.size C ρ b a k css w ma mb->Ev ρ0 ρ fl m0 n0 C.st.mem C.st.next w0 w-> ∀cs0:List Frame,
  ∃ρ' b' a' k' css' w' ma' mb',Steps P (lone (b.atR a (Vh C.ro k)) (css++cs0) w) (lone (b'.atR a' (Vh C'.ro k')) (css'++cs0) w')/\N6 P w0.heap.size C' ρ' b' a' k' css' w' ma' mb'/\Ev ρ0 ρ' fl m0 n0 C'.st.mem C'.st.next w0 w'/\Ly b' css'=Ly b css/\w.heap.size<=w'.heap.size
theorem Eu.refl (fl:Nat) (C:CG):Eu P fl C C:=fun m0 n0 ρ0 w0 ρ b a k css w ma mb hs he cs0=>⟨ρ,b,a,k,css,w,ma,mb,Steps.refl _ _,hs,he,rfl,An _⟩
structure EI (P:Program) (fl:Nat) (C C':CG):Prop where
 fls:Fl fl C'
 inv:Xm fl C.st C'.st
 leads:C'.st.ob=true->Eu P fl C C'
theorem EI.move {fl:Nat} {cx:CI} {todo todo':List Item} {rnd:Option Nat} {rs:List ResultVar} {st:St} {cs:List CZ} {lps:CL} (hfl:Fl fl ⟨cx,none,todo,rnd,rs,st,cs,lps⟩)
  (hk: ∀(ρ:B7) (k:List Item),DP ρ todo k-> ∃k',DP ρ todo' k'/\ ∀(b:Frame) (a:Act) (css:List Frame) (w:World),step P (lone (b.atR a k) css w)=.next (lone (b.atR a k') css w)):
  EI P fl ⟨cx,none,todo,rnd,rs,st,cs,lps⟩ ⟨cx,none,todo',rnd,rs,st,cs,lps⟩:=
 ⟨⟨hfl.cx,hfl.cs,hfl.le⟩,Xm.refl _ _,fun ho m0 n0 ρ0 w0 ρ b a k css w ma mb hs he cs0=>by
   obtain ⟨k',ht,fF⟩:=hk ρ k hs.top.todo;exact ⟨ρ,b,a,k',css,w,ma,mb,.one (fF b a _ w),⟨⟨hs.top.env,hs.top.defers,ht,trivial,hs.top.rnd⟩,hs.lv,hs.rest,hs.rel⟩,he,rfl,An _⟩⟩
theorem DP.code {ρ:B7} {c:Code} {t k:List Item} (h:DP ρ (.code c::t) k): ∃k',k=.code c::k'/\DP ρ t k':=by
 cases h with
 | cons hx ht=>cases hx;grind
theorem y3h {cs:List Frame}: ∀(ms:List Nat) (fr:Frame) (w:World),fr.mode=.returning ->fr.defers=ms.map Nb->ms.Nodup->(∀r∈ms,w.heap[r]? =some (.deferred (some [])))->
  ∃w',Steps P (lone fr cs w) (lone {fr with defers:=[]} cs w')/\Vn ms w w'
 | [],fr,w,hm,hd,_,_=>⟨w,by
   have:{fr with defers:=[]}=fr:=by cases fr;grind
   rw [this];exact Steps.refl _ _,Vn.refl _ _⟩
 | r::ms,fr,w,hm,hd,hn,ho=>by
  have hr:=ho r (by simp);have h1:=step_collected (P:=P) (cs:=cs) (fr:=fr) (d:=Nb r) (ds:=ms.map Nb) (by rw [hm];simp) (by rw [hd];rfl) rfl (run_takeDeferred hr);rw [List.nodup_cons] at hn;obtain ⟨w',hs,ht⟩:=y3h (cs:=cs) ms {fr with defers:=ms.map Nb} (w.putObj r (.deferred none)) hm rfl hn.2 fun r' hr'=>by
   grind [World.putObj_heap_other]
  exact ⟨w',.head h1 hs,(Vn.put w r _).trans ht⟩
theorem Y0 {fl base:Nat} {C:CG} {ρ:B7} {b:Frame} {a:Act} {k:List Item} {css:List Frame} {w:World} {ma mb:List Nat} (hs:N6 P base C ρ b a k css w ma mb) (hro:C.ro=none) (eT:C.rnd=none) (htodo:C.todo=[]\/ ∃t,C.todo=.code .ret ::t)
  {m0:CD} {n0:Nat} {ρ0:B7} {w0:World} (hb:base=w0.heap.size) (he:Ev ρ0 ρ fl m0 n0 C.st.mem C.st.next w0 w) (cs0:List Frame):
  ∃w',Steps P (lone (b.atR a (Vh C.ro k)) cs0 w) (lone {b.atR {a with defers:=[]} k with mode:=.returning} cs0 w')/\Vk ρ C.st.env C.cx.n a.tmps/\B9 ρ C.st.mem C.st.next w'/\Ev ρ0 ρ fl m0 n0 C.st.mem C.st.next w0 w'/\D3 P base ρ C.cs C.lps css w' [] mb/\w.heap.size<=w'.heap.size:=by
 have hrn:=hs.top.rnd;rw [eT] at hrn;have h1:step P (lone (b.atR a (Vh C.ro k)) cs0 w)=.next (lone {b.atR a k with mode:=.returning} cs0 w):=by
  rw [hro];have ht:=hs.top.todo;rcases htodo with e | ⟨t,e⟩
  .rw [e] at ht;cases ht;exact stepR_end hrn
  .rw [e] at ht;obtain ⟨k',rfl,_⟩:=ht.code;exact stepR_ret hrn
 have hnd:ma.Nodup:=(List.nodup_append.1 hs.rest.nodup).1;obtain ⟨w',h2,ht⟩:=y3h (P:=P) (cs:=cs0) ma {b.atR a k with mode:=.returning} w rfl hs.top.defers hnd fun r hr=>(hs.rest.marks r (by simp [hr])).2.2;refine ⟨w',.head h1 h2,hs.top.env,hs.rel.turned (fun r hr=>(hs.rest.marks r (by simp [hr])).2.1) ht,he.turned (fun r hr=>by rw [<-hb];exact (hs.rest.marks r (by simp [hr])).1) ht,hs.rest.turned ht (List.nil_sublist _) (fun r hr hrm=> ?_) (fun r hr=>⟨_,(hs.rest.marks r (by simp [hr])).2.2⟩),BZ ht.size.symm⟩;rw [A1] at hrm;exact (List.nodup_append.1 hs.rest.nodup).2.2 r hr r hrm rfl
theorem WF {fl base:Nat} {v:B3} {st:St} {lps:CL} {cs:List CZ} {C':CG} (h:Hm v st lps cs=some C') (hcs: ∀af∈cs,af.cx.floor=fl) (hle:fl<=st.next):
  Fl fl C'/\C'.st.mem=st.mem/\C'.st.next=st.next/\C'.st.ob=st.ob/\(cs≠ [])/\ ∀(ρ:B7) (css:List Frame) (w:World) (mb:List Nat) (u:Value),Zr ρ v u->D3 P base ρ cs lps css w [] mb->B9 ρ st.mem st.next w->
   ∃c css' b' a' k' ma' mb',css=c::css'/\c.finish u=b'.atR a' (Vh C'.ro k')/\N6 P base C' ρ b' a' k' css' w ma' mb'/\Ly b' css'=Ly c css':=by
 unfold Hm at h;split at h
 .rename_i cx ops i o l todo rnd rs env cs';split at h
  .rename_i st' hp;obtain rfl:=Ag h;obtain ⟨p1,p2,p3,p4⟩:=Vj hp;refine ⟨⟨hcs _ (AQ ..),fun af haf=>hcs af (by simp [haf]),by rw [show st'.next=st.next from p2];exact hle⟩,p1,p2,p3,by simp,fun ρ css w mb u hv hr eD=> ?_⟩;obtain ⟨hc,hnd,hmk,hlp,hinj⟩:=hr;cases hc with
   | @cons _ b a k ms _ css' mss hf hl ht=>
    simp only at hf hl;refine ⟨_,css',b,a.put o.dst u,k,ms,mss,rfl,?_,⟨⟨hf.env.put hv ?_,by rw [Act.put_defers'];exact hf.defers,hf.todo,?_,hf.rnd⟩,hl,⟨ht,hnd,hmk,hlp,hinj⟩,?_⟩,by cases css' <;> rfl⟩
    .obtain ⟨hro,_⟩:=hf.ro;have hi:ops.toList[i]? =some o:=by
      have:=Au (·[0]?) hro
      grind
     have hi':ops[i]? =some o:=(by grind);have hlt:i<ops.size:=(AB.1 hi').1;have hd:(List.range ops.size).drop i=i::(List.range ops.size).drop (i+1):=by rw [AW (by grind)];simp
     grind [Vh,Frame.finish_atR]
    .rcases p4 with ⟨e,e2⟩ | ⟨d,e,hlt,e2⟩
     .exact .inl ⟨e,e2⟩
     .exact .inr ⟨d,e,hlt,e2⟩
    .obtain ⟨hro,fG⟩:=hf.ro;refine ⟨?_,fG⟩;have:=Au List.tail hro
     simpa using this
    .show B9 ρ st'.mem st'.next w
     rw [show st'.mem=st.mem from p1,show st'.next=st.next from p2];exact eD
  .cases h
 .rename_i cx j k rnd rs env cs';obtain rfl:=Ag h;refine ⟨⟨hcs _ (AQ ..),fun af haf=>hcs af (by simp [haf]),hle⟩,rfl,rfl,rfl,by simp,fun ρ css w mb u hv hr eD=> ?_⟩;obtain ⟨hc,hnd,hmk,hlp,hinj⟩:=hr;cases hc with
  | @cons _ b a k0 ms _ css' mss hf hl ht=>
   simp only at hf hl;have htd:=hf.todo;cases htd with
   | cons hx htl=>
    cases hx with
    | same _ hp=>cases hp
    | inR _ l hlj=>exact ⟨_,css',b,a,_,ms,mss,rfl,finish_atR_inRangeFunc l u,⟨⟨hf.env,hf.defers,.cons (.endR _ l hlj) htl,trivial,hf.rnd⟩,hl,⟨ht,hnd,hmk,hlp,hinj⟩,eD⟩,by cases css' <;> rfl⟩
 .cases h
theorem w8c {b:Frame} {a:Act} {k:List Item} {cs:List Frame} {w:World} {ops:Array Oper} {i:Nat} {rest:List Nat} {o:Oper} {f:FuncId} {args:Array Value} (ho:ops[i]? =some o) (hnd: ∀c,o.op≠ .defer c) (hw:Region.wanted o (yielded ops a.tmps)=true)
  (hr:(execOp a.eval o).run P w=.ok (.enter f args) w):step P (lone (b.atR a (.inRegion ops (i::rest)::k)) cs w)=.next (lone (Frame.enter P f args .normal) (b.atR a (.inRegion ops (i::rest)::k)::cs) w):=by
 have hg:=stepGR_op (P:=P) (b:=b) (k:=k) (cs:=cs) (w:=w) (rest:=rest) ho hw;rw [Oper.semAt_eq _ _ _ hnd] at hg;exact step_lone_go (by simp_all [stepG.apply,Frame.atR])
theorem w8b {b:Frame} {a:Act} {k:List Item} {cs:List Frame} {w:World} {ops:Array Oper} {i:Nat} {rest:List Nat} {o:Oper} {l:Nat} {f:FuncId} {tmps:Array Value} {assign body:Code} (ho:ops[i]? =some o) (hnd: ∀c,o.op≠ .defer c) (hw:Region.wanted o (yielded ops a.tmps)=true)
  (hr:(execOp a.eval o).run P w=.ok (.round l f tmps assign body) w):step P (lone (b.atR a (.inRegion ops (i::rest)::k)) cs w)=.next (lone (Frame.round l f tmps assign body .normal) (b.atR a (.inRegion ops (i::rest)::k)::cs) w):=by
 have hg:=stepGR_op (P:=P) (b:=b) (k:=k) (cs:=cs) (w:=w) (rest:=rest) ho hw;rw [Oper.semAt_eq _ _ _ hnd] at hg;exact step_lone_go (by simp_all [stepG.apply])
theorem YJ {ρ:B7} {n:Nat}: ∀{ps:List Tmp} {args:List B3} {env env':T B3} {vals:List Value} {tmps:Array Value},WS n ps args env=some env'->Vk ρ env n tmps->Vo (Zr ρ) args vals->
  ps.length=vals.length/\Vk ρ env' n ((ps.zip vals).foldl (fun t p=>t.setIfInBounds p.1 p.2) tmps)
 | [],[],env,env',vals,tmps,h,he,ha=>by cases ha;obtain rfl:=Ag h;simp_all
 | t::ps,x::args,env,env',vals,tmps,h,he,ha=>by
  cases ha with
  | @cons _ u _ vals hx ha=>
   unfold WS at h;obtain ⟨hc,h⟩:=Zd h;have hlt:=Aj hc;have he':Vk ρ (T.set .undef env t x) n (tmps.setIfInBounds t u):=by have:=Vk.put (a:=⟨tmps,[]⟩) (dst:=some t) he hx (.inr ⟨t,rfl,hlt,rfl⟩);exact this
   obtain ⟨h1,h2⟩:=YJ h he' ha;simp_all
 | [],_::_,_,_,_,_,h,_,_=>by cases h
 | _::_,[],_,_,_,_,h,_,_=>by cases h
theorem Fl.enter {fl:Nat} {cx:CI} {ro:Option CQ} {todo:List Item} {rnd:Option Nat} {rs:List ResultVar} {st:St} {cs:List CZ} {lps lps':CL} (h:Fl fl ⟨cx,ro,todo,rnd,rs,st,cs,lps⟩) {n:Nat} {todo':List Item} {rnd':Option Nat} {rs':List ResultVar} {st':St} {ro':Option CQ} {td:List Item} {e:T B3} (hn:st.next<=st'.next):
  Fl fl ⟨⟨n,cx.floor,cx.sym⟩,none,todo',rnd',rs',st',⟨cx,ro',td,rnd,rs,e⟩::cs,lps'⟩:=
 ⟨h.cx,fun af haf=>by
  rcases AP.1 haf with rfl | haf
  .exact h.cx
  .exact h.cs af haf,AN h.le hn⟩
theorem x1z {base:Nat} {ρ:B7} {f:FuncId} {args:List B3} {cx:CI} {ro':Option CQ} {td:List Item} {rnd:Option Nat} {rs:List ResultVar} {e:T B3} {st:St} {cs:List CZ} {lps:CL} {C':CG} {b:Frame} {a:Act} {k:List Item} {css:List Frame} {w:World} {ma mb:List Nat} {vals:Array Value}
  (h:Pb P f args ⟨cx,ro',td,rnd,rs,e⟩ st cs lps=some C') (hf:Fc ρ cx ro' td rnd e b a k ma) (hlv:cs≠ []->v9a P rnd rs b) (hr:D3 P base ρ cs lps css w ma mb) (eD:B9 ρ st.mem st.next w) (eG:Vo (Zr ρ) args vals.toList):
  ∃fn body,P.funcs[f]? =some fn/\fn.body=some body/\C'=⟨⟨Nat.max fn.ntmps args.length,cx.floor,cx.sym⟩,none,[.code body],none,fn.results.toList,st.withEnv (Ey args 0 .leaf),⟨cx,ro',td,rnd,rs,e⟩::cs,lps⟩/\
   ∃b' a' k',Frame.enter P f vals .normal =b'.atR a' (Vh none k')/\N6 P base C' ρ b' a' k' (b.atR a (Vh ro' k)::css) w [] (ma++mb):=by
 unfold Pb at h;split at h
 .rename_i fn hfn;split at h
  .rename_i body hb;obtain rfl:=Ag h;refine ⟨fn,body,hfn,hb,rfl,⟨f, #[],[],[],.run,.normal,none⟩,{tmps:=vals++Array.replicate (fn.ntmps - vals.size) undef,defers:=[]},[.code body],?_,⟨⟨Y4 eG fn.ntmps,rfl,.cons (.same _ rfl) .nil,trivial,rfl⟩,fun _=>⟨rfl,fun _=>⟨fn,hfn,rfl⟩⟩,?_,eD⟩⟩
   .grind [Frame.enter,Frame.atR,Vh]
   .exact ⟨.cons hf hlv hr.cs,hr.nodup,hr.marks,hr.loops,hr.inj⟩
  .cases h
 .cases h
theorem UH {ρ:B7} {ops:Array Oper} {o:Oper} {cx:CI} {st st1:St} {e:Bool} (h:Fs ops o cx st=some (e,st1)):st1.mem=st.mem/\st1.next=st.next/\(st1.ob=true->st.ob=true/\ ∀{tmps:Array Value},Vk ρ st.env cx.n tmps->Vk ρ st1.env cx.n tmps/\Region.wanted o (yielded ops tmps)=e):=by obtain ⟨w1,w2,w3⟩:=Wf h;refine ⟨w1,w2,fun ho=>⟨(w3 ho).1,fun {tmps} he=>⟨he.congr fun t=>(w3 ho).2 t,Ub h ho he.size fun d _=>he.get d⟩⟩⟩
theorem w0n {ops:Array Oper} {i:Nat} {o:Oper} {l:List Oper} (h:o::l=ops.toList.drop i):ops[i]? =some o/\l=ops.toList.drop (i+1)/\(List.range ops.size).drop i=i::(List.range ops.size).drop (i+1):=by
 have hi:ops.toList[i]? =some o:=by
  have:=Au (·[0]?) h
  grind
 have hi':ops[i]? =some o:=by grind
 have hlt:i<ops.size:=(AB.1 hi').1;refine ⟨hi',?_,?_⟩
 .have:=Au List.tail h
  simpa using this
 .rw [AW (by grind)];simp
theorem UW {ops:Array Oper} (h:Gw ops=true) {i:Nat} {o:Oper} (ho:ops[i]? =some o) (c:Call):o.op≠ .defer c:=by
 intro hc;have hm:o∈ops.toList:=by grind
 have:=Ax.1 h o hm
 grind
theorem YT {ρ:B7} {st:St} {n:Nat} {a:Act} (he:Vk ρ st.env n a.tmps) (args:Array Operand):Vo (Zr ρ) (args.toList.map st.eval) (args.map a.eval).toList :=by rw [Bu];exact Vo.maps _ _ _ fun x _=>he.eval x
theorem x9o {ops:Array Oper} {m i:Nat} (hm:m<=ops.size) (h:i<m):(Vz ops m)[i]? =ops[i]? :=by
 grind [Vz]
theorem v3e {ops:Array Oper} {m i:Nat} (hm:m<=ops.size) (h:m<=i):(Vz ops m)[i]? =(ops[i]?).map EZ:=by
 grind [Vz]
theorem x5u {ops:Array Oper} {m:Nat} (hm:m<=ops.size):(Vz ops m).size =ops.size:=by simp [Vz];omega
theorem Z8 {ops:Array Oper} {m:Nat} (hm:m<=ops.size) (i:Nat):((Vz ops m)[i]?).map (·.after)=(ops[i]?).map (·.after):=by
 by_cases h:i<m
 .rw [x9o hm h]
 .rw [v3e hm (by omega)];cases ops[i]? <;> rfl
theorem w7z (md:Region.Mode) {ops:Array Oper} {m:Nat} (hm:m<=ops.size) (listed:Array Bool):Region.ready md (Vz ops m) listed=Region.ready md ops listed:=by
 grind [Region.ready,Z8,Vz]
theorem w5b (md:Region.Mode) {ops:Array Oper} {m:Nat} (hm:m<=ops.size): ∀(fuel t:Nat) (listed:Array Bool) (acc:List Nat),Region.linearise.go md (Vz ops m) fuel t listed acc=Region.linearise.go md ops fuel t listed acc
 | 0,t,listed,acc=>rfl
 | fuel+1,t,listed,acc=>by
  have e:=w7z md hm listed;unfold Region.ready at e;simp only [Region.linearise.go];rw [e];split
  .exact w5b md hm fuel _ _ _
  .rfl
theorem w8i {ops:Array Oper} (fV: ∀(j:Nat) o,ops[j]? =some o-> ∀e∈o.after.toList,Region.binds .any e=true->e.on<j): ∀listed:Array Bool,listed.size=ops.size-> ∀i,i<ops.size->listed.getD i false=false-> ∃j,j∈Region.ready .any ops listed:=by
 intro listed hsz i
 induction i using Nat.strongRecOn with
 | _ i ih=>
  intro hi hl;by_cases h: ∃e∈(ops[i]).after.toList,Region.binds .any e=true/\listed.getD e.on false=false
  .grind
  .refine ⟨i,mem_ready.2 ⟨?_,ops[i],by simp [hi],fun e he hb=> ?_⟩⟩;all_goals grind
theorem w6p {ops:Array Oper} (fV: ∀(j:Nat) o,ops[j]? =some o-> ∀e∈o.after.toList,Region.binds .any e=true->e.on<j) (fuel t:Nat) (listed:Array Bool) (hsz:listed.size=ops.size) (hcl:HD ops (fun i=>listed.getD i false)) {q:Nat} (hq:q<ops.size) (hl:listed.getD q false=false):
  ∃i x t',ops[i]? =some x/\listed.getD i false=false/\HK (fun i=>listed.getD i false) x/\Region.linearise.go .any ops (fuel+1) t listed []=i::Region.linearise.go .any ops fuel t' (listed.setIfInBounds i true) []/\
   (listed.setIfInBounds i true).size =ops.size/\HD ops (fun q=>(listed.setIfInBounds i true).getD q false)/\ ∀q,(listed.setIfInBounds i true).getD q false=(listed.getD q false||q == i):=by
 obtain ⟨j0,hj0⟩:=w8i fV listed hsz q hq hl;have hne:Region.ready .any ops listed≠ []:=fun e=>by grind
 have hlt:t %(Region.ready .any ops listed).length <(Region.ready .any ops listed).length :=Bw _ (BT.2 hne);have hgo:Region.linearise.go .any ops (fuel+1) t listed []=(match (Region.ready .any ops listed)[t %(Region.ready .any ops listed).length]? with
  | some i=>Region.linearise.go .any ops fuel (t / (Region.ready .any ops listed).length) (listed.setIfInBounds i true) [i]
  | none=>[].reverse):=rfl
 rw [hgo,As hlt];simp only;have hi:=A3 hlt;generalize (Region.ready .any ops listed)[t %(Region.ready .any ops listed).length]=i at hi;obtain ⟨h1,x,hx,hr⟩:=mem_ready.1 hi;have hil:i<ops.size:=(AB.1 hx).1;have hils:i<listed.size:=by omega
 have hif:listed.getD i false=false:=by grind
 rw [linearise_go_acc,List.reverse_singleton,List.singleton_append];have fT: ∀q,(listed.setIfInBounds i true).getD q false=(listed.getD q false||q == i):=fun q=>by
  by_cases hq:q=i
  .simp_all
  .have:(q == i)=false:=by simp [hq]
   rw [this,Bool.or_false];simp [Array.getD_eq_getD_getElem?,Ne.symm hq]
 have eN:HK (fun i=>listed.getD i false) x:=fun e he hb=>hr e (Array.mem_toList_iff.1 he) hb;refine ⟨i,x,_,hx,hif,eN,rfl,by grind,fun j y hy hs e he hb=> ?_,fT⟩;simp only [fT] at hs ⊢;by_cases hji:j=i
 .grind
 .have hs':listed.getD j false=true:=by grind
  have:=hcl j y hy hs' e he hb
  grind
theorem w6o {ops:Array Oper} {m:Nat} (fV: ∀(j:Nat) o,ops[j]? =some o-> ∀e∈o.after.toList,Region.binds .any e=true->e.on<j) (hf: ∀j x,m<=j->ops[j]? =some x-> ∀i,i<j->Id ops i x):
  ∀(fuel t j:Nat) (listed:Array Bool),listed.size=ops.size->HD ops (fun i=>listed.getD i false)->m<=j->j+fuel=ops.size->(∀q,q<j->listed.getD q false=true)->(∀q,j<=q->listed.getD q false=false)->Region.linearise.go .any ops fuel t listed []=(List.range ops.size).drop j
 | 0,t,j,listed,hsz,hcl,hj,hn,h1,h2=>by rw [Aw (by simp;omega)];rfl
 | fuel+1,t,j,listed,hsz,hcl,hj,hn,h1,h2=>by
  obtain ⟨i,x,t',hx,hif,hr,hgo,gG,hcl',fT⟩:=w6p fV fuel t listed hsz hcl (q:=j) (by omega) (h2 j (An _));have hij: ¬i<j:=fun e=>by rw [h1 i e] at hif;cases hif
  have e:i=j:=by
   by_cases h:j<i
   .have:listed.getD j false=true:=hf i x (by omega) hx j h _ hcl hr;rw [h2 j (An _)] at this;cases this
   .omega
  subst e;rw [hgo,w6o fV hf fuel t' (i+1) _ gG hcl' (by omega) (by omega) (fun q hq=>by
   rw [fT];by_cases e:q=i
   .simp [e]
   .rw [h1 q (by omega)];rfl) (fun q hq=>by
   rw [fT,h2 q (by omega)];simp;omega)]
  rw [AW (show i<(List.range ops.size).length by simp;omega)];simp
theorem u3h {ops:Array Oper} {m:Nat} (fV: ∀(j:Nat) o,ops[j]? =some o-> ∀e∈o.after.toList,Region.binds .any e=true->e.on<j) (hm:m<ops.size) (hf: ∀j x,m<=j->ops[j]? =some x-> ∀i,i<j->Id ops i x):
  ∀(fuel t:Nat) (listed:Array Bool),listed.size=ops.size->HD ops (fun i=>listed.getD i false)->(List.range ops.size).countP (fun i=> !listed.getD i false)=fuel->(∀q,m<=q->listed.getD q false=false)->
   ∃l,Region.linearise.go .any ops fuel t listed []=l++(List.range ops.size).drop m/\ ∀i∈l,i<m:=by
 intro fuel
 induction fuel with
 | zero=>
  intro t listed hsz _ hc hl;have:=List.countP_eq_zero.1 hc m (A2.2 hm)
  grind
 | succ fuel ih=>
  intro t listed hsz hcl hc hl;obtain ⟨i,x,t',hx,hif,hr,hgo,gG,hcl',fT⟩:=w6p fV fuel t listed hsz hcl hm (hl m (An _));have hil:i<ops.size:=(AB.1 hx).1;have hc':(List.range ops.size).countP (fun q=> !(listed.setIfInBounds i true).getD q false)=fuel:=by have:=YF (fun q=> !listed.getD q false) (fun q=> !(listed.setIfInBounds i true).getD q false) i ops.size (fun k hk=>by grind) (by grind) (by grind) hil;omega
  by_cases him:i<m
  .obtain ⟨l,h2,h3⟩:=ih t' (listed.setIfInBounds i true) gG hcl' hc' (fun q hq=>by grind)
   grind
  .have e:i=m:=by
    by_cases h:m<i
    .have:listed.getD m false=true:=hf i x (by omega) hx m h _ hcl hr
     grind
    .omega
   subst e;have fB: ∀q,q<i->listed.getD q false=true:=fun q hq=>hf i x (An _) hx q hq _ hcl hr;refine ⟨[],?_,fun q hq=>by cases hq⟩;have hcount:fuel+1+i=ops.size:=by
    rw [<-hc];have key: ∀n,i<=n->n<=ops.size->(List.range n).countP (fun q=> !listed.getD q false)+i=n:=by
     intro n
     induction n with
     | zero=>grind
     | succ n ihn=>
      intro h1 h2;rw [List.range_succ,List.countP_append];by_cases e:i<=n
      .grind
      .have hni:n+1=i:=(by omega);have h0:(List.range n).countP (fun q=> !listed.getD q false)=0:=List.countP_eq_zero.2 fun q hq=>by
        grind
       grind
    grind
   grind [w6o]
theorem x0x {b:Frame} {k:List Item} {cs:List Frame} {ops:Array Oper} {Q:Exit->Act->World->Prop} (hQ: ∀e a w,Q e a w->e=.normal) {m:Nat} (hm:m<=ops.size) (hnd:Gw ops=true)
  (hg: ∀i x g,i<m->ops[i]? =some x->x.guard=some g->g.1<m) {r:List Nat} (hr: ∀i∈r,m<=i): ∀(l:List Nat) (a:Act) (w:World),(∀i∈l,i<m)->wpOps P (Vz ops m) Q (l++r) a w->
   ∃a' w',Q .normal a' w'/\Steps P (lone (b.atR a (.inRegion ops (l++r)::k)) cs w) (lone (b.atR a' (.inRegion ops r::k)) cs w')
 | [],a,w,_,h=>by
  refine ⟨a,w,?_,Steps.refl _ _⟩;rw [A1] at h;clear hg
  induction r with
  | nil=>exact h
  | cons i r ih=>
   refine ih (fun q hq=>hr q (by simp [hq])) ?_;simp only [wpOps] at h;rw [v3e hm (hr i (by simp))] at h;cases ho:ops[i]? with
   | none=>grind
   | some o=>
    rw [ho] at h;simp only [BU] at h;have hw:Region.wanted (EZ o) (yielded (Vz ops m) a.tmps)=true:=rfl;rw [AG hw] at h;rcases h with h | ⟨_,a0,w0,h0⟩
    .have h:wpOps P (Vz ops m) Q r (a.put none (a.eval (.const (.bool true)))) w:=h;exact h
    grind
 | i::l,a,w,hl,h=>by
  have him:=hl i (by simp);simp only [AZ,wpOps] at h;rw [x9o hm him] at h;have hil:i<ops.size:=by omega
  obtain ⟨x,hx⟩: ∃x,ops[i]? =some x:=⟨ops[i],by simp [hil]⟩
  rw [hx] at h;simp only at h;have hy:Region.wanted x (yielded (Vz ops m) a.tmps)=Region.wanted x (yielded ops a.tmps):=by
   grind [Region.wanted,yielded,x9o]
  rw [hy] at h;have h':if Region.wanted x (yielded ops a.tmps) then x.wp P a w (wpOps P (Vz ops m) Q (l++r)) Q else wpOps P (Vz ops m) Q (l++r) (a.put x.dst undef) w:=by
   by_cases hw:Region.wanted x (yielded ops a.tmps)=true
   .simp only [hw,if_true] at h ⊢;rcases h with h | ⟨_,a0,w0,h0⟩;all_goals grind
   grind
  obtain ⟨a1,w1,h1,s1⟩:=x3s (b:=b) (k:=k) (cs:=cs) (rest:=l++r) hQ hx (UW hnd hx) h';obtain ⟨a',w',hR,hs⟩:=x0x hQ hm hnd hg hr l a1 w1 (fun q hq=>hl q (by simp [hq])) h1;exact ⟨a',w',hR,s1.trans hs⟩
theorem x0o {st:St} {ops:List Oper}: ∀(l:List Oper) (i:Nat) {m:Nat},WU st ops l i=some m->i<=m/\m<i+l.length
 | [],i,m,h=>by cases h
 | o::l,i,m,h=>by
  unfold WU at h;cases hy:v6x st ops o with
  | true=>grind
  | false=>
   rw [hy] at h;have:=x0o l (i+1) h
   grind
theorem w7y {ops:Array Oper} {st:St} {m:Nat} (h:u9n ops st=some m):m<ops.size/\Gw ops=true/\Lj 0 (Vz ops m)=true/\(∀j x,m<=j->(Vz ops m)[j]? =some x-> ∀i,i<j->Id (Vz ops m) i x)/\
  ∀i x g,i<m->ops[i]? =some x->x.guard=some g->g.1<m:=by
 unfold u9n at h;split at h
 .rename_i m' hd;obtain ⟨hc,h⟩:=Zd h;obtain rfl:=Ag h;have hlt:=(x0o _ _ hd).2;rw [Al,Array.length_toList] at hlt;simp only [u5p,Ad] at hc;obtain ⟨hnd,hdr,fB,hgd⟩:=hc;refine ⟨hlt,hnd,hdr,fun j x hj hx i hi=> ?_,fun i x g hi hx hgx=> ?_⟩
  .have hjl:j<ops.size:=by grind [x5u]
   have:=Ax.1 fB j (A2.2 hjl);simp only [Bz] at this;rcases this with h1 | h1
   .have:=Aj h1;omega
   .exact ((X3 hdr).bits j x hx i (Ax.1 h1 i (A2.2 hi))).2
  .have h2:=Ax.1 hgd i (A2.2 hi);rw [hx] at h2;obtain ⟨dst,op,type,pos,after,guard⟩:=x;simp only at hgx;subst hgx;obtain ⟨j,want⟩:=g;exact Aj h2
 .cases h
end
section
variable {P:Program} {ρ:B7}
theorem B9.setObj {mem:CD} {next:Nat} {w:World} (h:B9 ρ mem next w) {b:Nat} {l:CR} {ab:B8} {o':HU} {r':List B3} (hb:ρ b=some l) (hm:Yi mem b=some ab) (hob:ab.isObj=true) (eE:r'.length+1=ab.cells.length)
  (x:Obj) (hx:HE ρ ab.ty l.blk r' o' (some x)):B9 ρ (Wx mem b (some ⟨.obj o'::r',ab.ty,none⟩)) next (w.putObj l.blk x):=by
 have hlt:=h.real b l hb;have hn:l=⟨l.blk,0,r'.length+1,r'.length+1⟩:=by
  have:=(h.blk b l ab hb hm)
  cases this with
  | plain k=>have:=k.noObj;rw [this] at hob;cases hob
  | obj o r ty e1 e2 _=>subst e1;rw [e2];simp only [At] at eE;rw [eE]
 have iff: ∀c,(Yi (Wx mem b (some ⟨.obj o'::r',ab.ty,none⟩)) c).isSome =(Yi mem c).isSome :=fun c=>by
  rw [Vi];split
  .rename_i e;rw [e,hm];rfl
  .rfl
 refine ⟨h.dom,fun c c' m m' e e' he hs hs'=>h.inj c c' m m' e e' he (by rw [<-iff];exact hs) (by rw [<-iff];exact hs'),fun c m ac e hc=> ?_,fun k o e=> ?_,fun c m e hs=>h.sep c m e (by rw [<-iff];exact hs),fun c m e=>by rw [World.putObj_size];exact h.real c m e,fun c hc=> ?_,h.ldom⟩
 .by_cases hcb:c=b
  .subst hcb;rw [Yz] at hc;obtain rfl:=Ag hc;rw [hb] at e;obtain rfl:=Ag e;exact .obj o' r' ab.ty rfl hn (by rw [World.putObj_heap_same hlt];exact hx)
  .rw [Zx _ _ hcb] at hc;refine (h.blk c m ac e hc).world (B7.le_refl _) (World.putObj_heap_other fun heq=>hcb ?_);exact h.inj c b m l e hb heq (by rw [hc];rfl) (by rw [hm];rfl)
 .rw [World.putObj_heap_other]
  .exact h.old k o e
  .intro heq;have:=h.sep b l hb (by rw [hm];rfl);rw [<-heq,e] at this;cases this
 .have:=h.dom b l hb;rw [Zx _ _ (by omega)];exact h.bd c hc
theorem Ev.ofObj {mem:CD} {next:Nat} {w:World} (h:B9 ρ mem next w) {floor b:Nat} {l:CR} (hb:ρ b=some l) (hf:floor<=b) (o:Option B8) (x:Obj):
  Ev ρ ρ floor mem next (Wx mem b o) next w (w.putObj l.blk x) where
 ext:=B7.le_refl _
 new _ _:=rfl
 nxt:=An _
 unborn k _ e cs ty hm:=by
  rw [Zx]
  .exact hm
  .intro e';rw [e',hb] at e;cases e
 frame k o hk hfr:=by rw [World.putObj_heap_other fun e=>hfr b l hb hf e.symm];exact hk
 fresh k m hk e:=by have:=h.dom k m e;omega
 size:=by rw [World.putObj_size];exact An _
 os:=rfl
 tape:=rfl
 output:=rfl
 still _ _:=rfl
theorem B9.newObj {mem:CD} {next:Nat} {w:World} (h:B9 ρ mem next w) (o:HU) (r:List B3) (ty:TypeId) (x:Obj) (hx:HE ρ ty w.heap.size r o (some x)):
  B9 (Ux ρ next ⟨w.heap.size,0,r.length+1,r.length+1⟩) (Wx mem next (some ⟨.obj o::r,ty,none⟩)) (next+1) (w.alloc x):=by
 have hle:=Ib (l:=⟨w.heap.size,0,r.length+1,r.length+1⟩) h.none_next;have eL: ∀b l,Ux ρ next ⟨w.heap.size,0,r.length+1,r.length+1⟩ b=some l->(b=next/\l=⟨w.heap.size,0,r.length+1,r.length+1⟩)\/(b≠next/\ρ b=some l):=fun b l e=>by
  grind [Uq]
 have hold: ∀k,k<w.heap.size->(w.alloc x).heap[k]? =w.heap[k]? :=fun k hk=>by show (w.heap.push x)[k]? =_;rw [BS,Az (Bi hk)]
 have hnew:(w.alloc x).heap[w.heap.size]? =some x:=World.alloc_heap_new w x;have gC:(w.alloc x).heap.size =w.heap.size+1:=Array.size_push _;refine ⟨fun b l e=> ?_,fun b b' l l' e e' hbl hs hs'=> ?_,fun b l ab e hm=> ?_,fun k o e=> ?_,fun b l e hs=> ?_,fun b l e=> ?_,fun b hb=>by rw [Zx _ _ (by omega)];exact h.bd b (by omega),⟨fun j l e=>Bm (h.ldom.1 j l e),h.ldom.2⟩⟩
 .rcases eL b l e with ⟨rfl,_⟩ | ⟨_,e⟩
  .omega
  .have:=h.dom b l e;omega
 .rcases eL b l e with ⟨hb,hl⟩ | ⟨hb,e2⟩ <;> rcases eL b' l' e' with ⟨hb',hl'⟩ | ⟨hb',e2'⟩
  .rw [hb,hb']
  .have:=h.real b' l' e2';grind
  .have:=h.real b l e2;grind
  .rw [Zx _ _ hb] at hs;rw [Zx _ _ hb'] at hs';exact h.inj b b' l l' e2 e2' hbl hs hs'
 .rcases eL b l e with ⟨rfl,rfl⟩ | ⟨hb,e⟩
  .rw [Yz] at hm;obtain rfl:=Ag hm;exact .obj o r ty rfl rfl (by rw [hnew];exact hx.mono hle)
  .rw [Zx _ _ hb] at hm;exact (h.blk b l ab e hm).world hle (hold _ (h.real b l e))
 .have hk:=h.old k o e;have hlt:=(AB.1 hk).1;rw [hold k hlt];exact hk
 .rcases eL b l e with ⟨rfl,rfl⟩ | ⟨hb,e⟩
  .exact h.hold _ (An _)
  .rw [Zx _ _ hb] at hs;exact h.sep b l e hs
 .rw [gC];rcases eL b l e with ⟨rfl,rfl⟩ | ⟨_,e⟩
  .show w.heap.size<_;omega
  .have:=h.real b l e;omega
theorem X7 {st:St} {w:World} (h:B9 ρ st.mem st.next w) (floor:Nat) (o:HU) (r:List B3) (ty:TypeId) (x:Obj) (hx:HE ρ ty w.heap.size r o (some x)) {v:B3} {u:Value}
  (eV: ∀ρ',ρ' st.next=some ⟨w.heap.size,0,r.length+1,r.length+1⟩->Zr ρ' v u):
  DX ρ floor st (Cj st (.obj o::r) ty) v w (Ux ρ st.next ⟨w.heap.size,0,r.length+1,r.length+1⟩) u (w.alloc x):=
 ⟨eV _ (by simp [Ux]),h.newObj o r ty x hx,Ev.ofNew h floor _ _ _ (An _)⟩
theorem x2s {w:World} {k:Nat} {c cs:Array Value} {el:TypeId} {fz:Nat×Nat} (h:w.heap[k]? =some (.cells c el fz)):w.setRow k cs=w.putObj k (.cells cs el fz):=by
 unfold World.setRow World.putObj
 congr 1
 apply Array.ext_getElem?;intro i;rw [BE,Array.getElem?_setIfInBounds];have hlt:=(AB.1 h).1;by_cases e:k=i
 .subst e;rw [AG rfl,AG rfl,h];simp [hlt]
 .simp [e]
theorem w7a {w:World} {k:Nat} {s:ByteArray} {p:Nat} (h:w.heap[k]? =some (.stringIter s p)):(getObj k).run P w=.ok (.stringIter s p) w:=by simp [getObj,Sem.run,h]
theorem v9v {w:World} {k:Nat} {s:ByteArray} {p:Nat} {o':Obj} (h:w.heap[k]? =some (.stringIter s p)):(setObj k o').run P w=.ok () (w.putObj k o'):=by simp [setObj,Sem.run,h,World.putObj]
theorem v7t {w:World} {t:TypeId} {m:Array (String×TypeId)} (h:P.underlying t=some (.interface m)) (v:Value) (hv:v=.nilIface \/ ∃d z,v=.iface d z):(Op.equal t v .nilIface).run P w=.ok (match v with | .nilIface =>true | _=>false) w:=by
 have key: ∀d,(Op.equalIn (d+1) t v .nilIface).run P w=.ok (match v with | .nilIface =>true | _=>false) w:=fun d=>by rcases hv with rfl | ⟨d,z,rfl⟩ <;> simp [Op.equalIn,run_underlying h]
 exact key 9999
theorem B9.objAt {mem:CD} {next:Nat} {w:World} (h:B9 ρ mem next w) {b:Nat} {l:CR} {o:HU} {r:List B3} {ty:TypeId} (hb:ρ b=some l) (hm:Yi mem b=some ⟨.obj o::r,ty,none⟩):HE ρ ty l.blk r o w.heap[l.blk]? :=by
 have:=h.blk b l _ hb hm;cases this with
 | plain k=>have:=k.noObj;cases this
 | obj o' r' ty' e1 e2 h3=>simp only [B8.mk.injEq,Bj,B3.obj.injEq] at e1;obtain ⟨⟨rfl,rfl⟩,rfl,_⟩:=e1;exact h3
theorem B9.objBase {mem:CD} {next:Nat} {w:World} (h:B9 ρ mem next w) {b:Nat} {l:CR} {o:HU} {r:List B3} {ty:TypeId} (hb:ρ b=some l) (hm:Yi mem b=some ⟨.obj o::r,ty,none⟩):l.base=0:=by
 have:=h.blk b l _ hb hm;cases this with
 | plain k=>have:=k.noObj;cases this
 | obj o' r' ty' e1 e2 h3=>rw [e2]
def Ed {α:Type} (vf:α->Value) (es:List MapEntry) (l:List (List UInt8×α)):Prop:=es.map (fun e=>(e.key,e.val))=l.map fun p=>(.string ⟨p.1.toArray⟩,vf p.2)
def GD {α:Type} (vf:α->Value) (k:List UInt8):List (List UInt8×α)->Nat->Option (Nat×Value)
 | [],_=>none
 | p::r,i=>bif k == p.1 then some (i,vf p.2) else GD vf k r (i+1)
theorem bytes_beq (a b:List UInt8):((⟨a.toArray⟩:ByteArray) == ⟨b.toArray⟩)=(a == b):=by rw [AS,MapKept.bytes_beq,AU];simp
theorem X4 {α:Type} (vf:α->Value) (k:List UInt8): ∀(es:List MapEntry) (l:List (List UInt8×α)) (i:Nat),Ed vf es l->Instr.findNow .string (.string ⟨k.toArray⟩) es i=some (GD vf k l i)
 | [],[],_,_=>rfl
 | [],_::_,_,h=>by cases h
 | _::_,[],_,h=>by cases h
 | e::es,p::l,i,h=>by
  unfold Ed at h;simp only [A5,Bj,Ac] at h;obtain ⟨⟨h1,h2⟩,h3⟩:=h;have ih:=X4 vf k es l (i+1) h3;unfold Instr.findNow GD;rw [h1];simp only [Instr.sameNow,bytes_beq];cases hk:(k == p.1) with
  | true=>rw [Af,h2]
  | false=>rw [Ab];exact ih
theorem w7f {α:Type} (vf:α->Value) (d:α) (k:List UInt8): ∀(l:List (List UInt8×α)) (i:Nat),match GD vf k l i with
  | some (_,v)=>v=vf (getK d l k)/\Cr l k=true
  | none=>getK d l k=d/\Cr l k=false
 | [],_=>⟨rfl,rfl⟩
 | p::l,i=>by
  have ih:=w7f vf d k l (i+1);unfold GD getK Cr;cases hk:(k == p.1) with
  | true=>simp [hk]
  | false=>simpa [hk,Cr] using ih
theorem w7e {α:Type} (vf:α->Value) (k:List UInt8) (v:α) (c:Nat): ∀(l:List (List UInt8×α)) (es:List MapEntry) (i:Nat),Ed vf es l->match GD vf k l i with
  | some (j,_)=>i<=j/\(∃e,es[j - i]? =some e/\e.key=.string ⟨k.toArray⟩)/\Ed vf (es.modify (j - i) fun e=>{e with key:=.string ⟨k.toArray⟩,val:=vf v}) (Cs l k v)
  | none=>Ed vf (es++[⟨.string ⟨k.toArray⟩,vf v,c⟩]) (Cs l k v)
 | [],es,i,h=>by
  have:es=[]:=by unfold Ed at h;simpa using h
  subst this;simp [GD,Cs,Ed]
 | p::l,[],i,h=>by cases h
 | p::l,e::es,i,h=>by
  unfold Ed at h;simp only [A5,Bj,Ac] at h;obtain ⟨⟨h1,h2⟩,h3⟩:=h;have ih:=w7e vf k v c l es (i+1) h3;unfold GD Cs;cases hk:(k == p.1) with
  | true=>
   have hk':k=p.1:=by simpa using hk
   simp only [Af,Nat.sub_self];refine ⟨An _,⟨e,rfl,by rw [h1,hk']⟩,?_⟩;unfold Ed;simp only [List.modify_zero_cons,A5,Bj,Ac];exact ⟨⟨by rw [hk'],trivial⟩,h3⟩
  | false=>
   simp only [Ab];cases hf:GD vf k l (i+1) with
   | none=>rw [hf] at ih;unfold Ed at ih ⊢;simp only [AZ,A5,Bj,Ac];exact ⟨⟨h1,h2⟩,ih⟩
   | some q=>rw [hf] at ih;obtain ⟨j,x⟩:=q;simp only at ih ⊢;obtain ⟨k1,⟨e',k2,k3⟩,k4⟩:=ih;have hj:j - i=(j - (i+1))+1:=(by omega);refine ⟨by omega,⟨e',by rw [hj];exact k2,k3⟩,?_⟩;rw [hj];unfold Ed at k4 ⊢;simp only [List.modify_succ_cons,A5,Bj,Ac];exact ⟨⟨h1,h2⟩,k4⟩
theorem z7e {α:Type} (vf:α->Value) (d:α) {w:World} {t kt et:TypeId} {r clock:Nat} {es:Array MapEntry} {l:List (List UInt8×α)} (hm:P.underlying t=some (.map kt et)) (hk:P.underlying kt=some .string)
  (hz:(zeroValue et).run P w=.ok (vf d) w) (hb:w.heap[r]? =some (.map es clock)) (hes:Ed vf es.toList l) (k:List UInt8) (co:Bool):
  (Instr.lookup t (.map (some r)) (.string ⟨k.toArray⟩) co).run P w=.ok (if co then .tuple #[vf (getK d l k),.bool (Cr l k)] else vf (getK d l k)) w:=by
 have hf:=X4 vf k es.toList l 0 hes;have hc: ∀b,(Instr.checkKey b 10000 kt (.string ⟨k.toArray⟩)).run P w=.ok () w:=fun b=>MapKept.run_checkKey (k:=.string ⟨k.toArray⟩) hk (by simp [MapKept.IsKey]) b 9999;have hg:=w7f vf d k l 0;cases hfk:GD vf k l 0 with
 | none=>rw [hfk] at hf hg;simp only at hg;rw [hg.1,hg.2];simp [Instr.lookup,run_underlying hm,MapKept.run_getObj_map hb,hc,MapKept.run_findKey hk hf,hz,Result.andThen]
 | some q=>obtain ⟨j,v⟩:=q;rw [hfk] at hf hg;simp only at hg;rw [<-hg.1,hg.2];simp [Instr.lookup,run_underlying hm,MapKept.run_getObj_map hb,hc,MapKept.run_findKey hk hf,Result.andThen]
theorem z7d {α:Type} (vf:α->Value) {w:World} {t kt et:TypeId} {r clock:Nat} {es:Array MapEntry} {l:List (List UInt8×α)} (hm:P.underlying t=some (.map kt et)) (hk:P.underlying kt=some .string)
  (hb:w.heap[r]? =some (.map es clock)) (hes:Ed vf es.toList l) (k:List UInt8) (v:α):
  ∃es' clock',(Instr.mapUpdate t (.map (some r)) (.string ⟨k.toArray⟩) (vf v)).run P w=.ok () (w.putObj r (.map es' clock'))/\Ed vf es'.toList (Cs l k v):=by
 have hf:=X4 vf k es.toList l 0 hes;have hc: ∀b,(Instr.checkKey b 10000 kt (.string ⟨k.toArray⟩)).run P w=.ok () w:=fun b=>MapKept.run_checkKey (k:=.string ⟨k.toArray⟩) hk (by simp [MapKept.IsKey]) b 9999;have hg:=w7e vf k v clock l es.toList 0 hes;cases hfk:GD vf k l 0 with
 | none=>rw [hfk] at hf hg;simp only at hg;refine ⟨es.push ⟨.string ⟨k.toArray⟩,vf v,clock⟩,clock+1,?_,by simpa using hg⟩;simp [Instr.mapUpdate,run_underlying hm,MapKept.run_getObj_map hb,hc,MapKept.run_findKey hk hf,MapKept.run_setObj_map _ hb,Result.andThen,World.putObj]
 | some q=>
  obtain ⟨j,x⟩:=q;rw [hfk] at hf hg;simp only [Nat.sub_zero] at hg;obtain ⟨_,⟨e,h1,h2⟩,h3⟩:=hg;have h1':es[j]? =some e:=by simpa using h1
  refine ⟨es.modify j fun e=>{e with key:=.string ⟨k.toArray⟩,val:=vf v},clock,?_,by simpa using h3⟩;have hs: ∀w:World,(Instr.keyThatStays (.string ⟨k.toArray⟩) (.string ⟨k.toArray⟩)).run P w=.ok (.string ⟨k.toArray⟩) w:=fun w=>by simp [Instr.keyThatStays,Instr.sameBits,(MapKept.bytes_beq (⟨k.toArray⟩:ByteArray) ⟨k.toArray⟩).2 rfl]
  simp [Instr.mapUpdate,run_underlying hm,MapKept.run_getObj_map hb,hc,MapKept.run_findKey hk hf,MapKept.run_setObj_map _ hb,Result.andThen,World.putObj,h1',h2,hs]
theorem x2c {v:B3} {u:Value} (h:Ll v=true) (hr:Zr ρ v u):u=.int .u8 ((Lh v).toNat :Int):=by
 unfold Ll at h;split at h
 .rename_i n;have h:=Av h;cases hr;simp only [Lh]
  congr 1
  have:(UInt8.ofNat n.toNat).toNat =n.toNat:=by rw [UInt8.toNat_ofNat'];omega
  rw [this];omega
 .cases h
def v9d (w:World) (el:TypeId) (g o:Nat) (s:List UInt8):Prop:= ∃cs,w.heap[g]? =some (.cells cs el (0,0))/\(s≠ []->o+s.length<=cs.size)/\ ∀j x,s[j]? =some x->cs[o+j]? =some (.int .u8 x.toNat)
theorem Xl {mem:CD} {next:Nat} {w:World} (eD:B9 ρ mem next w) {v:B3} {u:Value} {s:List UInt8} (h:R8 mem v=some (s,true)) (hv:Zr ρ v u):
  (u=.slice none 0 0/\s=[])\/ ∃b l g o c el,S5 v=some b/\ρ b=some l/\(Yi mem b).isSome =true/\l.blk=g/\u=.slice (some ⟨g,o,none⟩) s.length c/\s.length<=c/\(∀ab,Yi mem b=some ab->el=ab.ty)/\v9d w el g o s:=by
 unfold R8 at h;split at h
 .simp only [Ae,Ac] at h;obtain ⟨rfl,_⟩:=h;cases hv;exact .inl ⟨rfl,rfl⟩
 .rename_i b off len cap;split at h
  .rename_i blk hm;obtain ⟨hno,h⟩:=Lg h;split at h
   .rename_i cs hc;simp only [Ae,Ac] at h;obtain ⟨rfl,fB⟩:=h;obtain ⟨k1,k2,k3⟩:=L4 hc;cases hv with
    | sl _ _ _ _ l c hl _ eE=>
     obtain ⟨hty,hn,ht,_,cur,el,h1,h2,h3⟩:=(eD.blk b l blk hl hm).at hno;refine .inr ⟨b,l,l.blk,l.base+off,c,el,rfl,hl,by rw [hm];rfl,rfl,by simp [k2],by simpa [k2] using eE,fun ab e=>by rw [hm] at e;rw [<-Ag e];exact hty _ _ _ h1,cur,h1,?_,fun j x hx=> ?_⟩
     .intro hne;have:len≠0:=fun e=>hne (by rw [List.map_eq_nil_iff];exact Bt (by rw [k2,e]));simp only [Bs,k2];omega
     .simp only [BM,Ao] at hx;obtain ⟨y,hy,rfl⟩:=hx;have hj:j<cs.length:=(Bd.1 hy).1;obtain ⟨z,q1,q2⟩:=h3 (off+j) (by omega);have hyz:blk.cells[off+j]'(by omega)=y:=by
       have:cs[j]? =blk.cells[off+j]? :=by rw [k1,List.getElem?_take,AG (by omega),List.getElem?_drop]
       rw [this,As (by omega)] at hy;exact Ag hy
      rw [hyz] at q2;have hby:=Ax.1 fB y (List.mem_of_getElem? hy);rw [AO,q1,x2c hby q2]
   .cases h
  .cases h
 .rename_i b sz off len cap;split at h
  .rename_i blk hm;split at h
   .rename_i A hA;simp only [Ae,Ac,Ad,Ak] at h;obtain ⟨rfl,hs1,hs2,eO,hok⟩:=h;obtain rfl:=Ah hs1;have hsz:=Ah hs2;have hok: ∀k,k<len-> ∃v,A.get (off+k)=[v]/\Ll v=true:= @Av _ (Classical.propDecidable _) hok;have hlen0:(Fa len fun k=>A.get (off+k)).length =len:=(by simp [Fa]);cases hv with
    | slan=>exact .inl ⟨rfl,by simp [Fa]⟩
    | sla _ _ _ _ _ l c hl _ eE=>
     obtain ⟨hty,hn,ht,har,cur,el,h1,h2,h3⟩:=(eD.blk b l blk hl hm).rows hA;obtain ⟨a1,a2,a3⟩:=har A hA;have hrl:=Yq A.n a3;rw [<-a1,hsz,Nat.mul_one] at hrl;refine .inr ⟨b,l,l.blk,l.base+off*1,c,el,rfl,hl,by rw [hm];rfl,rfl,by rw [hlen0],by rw [hlen0];exact eE,fun ab e=>by rw [hm] at e;rw [<-Ag e];exact hty _ _ _ h1,cur,h1,?_,fun j x hx=> ?_⟩
     .intro _;rw [hlen0];omega
     .have hj:j<len:=by rw [<-hlen0];exact (Bd.1 hx).1
      obtain ⟨v0,e1,e2⟩:=hok j hj;obtain ⟨z,q1,q2⟩:=h3 (off+j) (by omega);have hg:blk.cells[off+j]? =some v0:=by
       have:=Va A.n a3 (off+j) 0 (by omega) (by omega);rw [hsz] at this;rw [a1]
       simpa [e1] using this
      have hyz:blk.cells[off+j]'(by omega)=v0:=by rw [As (by omega)] at hg;exact Ag hg
      rw [hyz] at q2;have hx':x=Lh v0:=by simp only [Fa,BM,List.getElem?_range hj,BU,Ae] at hx;rw [<-hx,e1];rfl
      rw [Nat.mul_one,AO,q1,x2c e2 q2,hx']
   .cases h
  .cases h
 .cases h
theorem v4b {w:World} {g o c:Nat} {el:TypeId} {s:List UInt8} (h:v9d w el g o s):(Conv.bytesToString (.slice (some ⟨g,o,none⟩) s.length c)).run P w=.ok (.string ⟨s.toArray⟩) w:=by
 obtain ⟨cs,h1,h2,h3⟩:=h;have hl:(loadCells ⟨g,o,none⟩ s.length).run P w=.ok ((s.map fun x=>(x.toNat:Int)).map (Value.int .u8)).toArray w:=by
  have:=run_loadCells_list (P:=P) w ⟨g,o,none⟩ ((s.map fun x=>(x.toNat:Int)).map (Value.int .u8)) fun j v hv=>by simp only [List.map_map,BM,Ao] at hv;obtain ⟨x,hx,rfl⟩:=hv;rw [Xa];have:=h3 j x hx;simp [World.cell?,h1,this]
  simpa using this
 rw [run_bytesToString w ⟨g,o,none⟩ s.length c _ hl]
 congr 2
 have: ∀(l:List UInt8) (acc:ByteArray),(l.map fun x=>(x.toNat:Int)).foldl (fun r n=>r.push (UInt8.ofNat n.toNat)) acc=⟨acc.data++l.toArray⟩:=by
  intro l
  induction l with
  | nil=>intro acc;simp
  | cons x l ih=>intro acc;simp only [A5,List.foldl_cons,ih];simp [ByteArray.push]
 rw [this];simp
theorem x9f :Zr ρ (.tup []) undef:=.tup [] #[] rfl fun j h1 _=>by simp at h1
theorem y9h {floor:Nat} {st st':St} {t:TypeId} {x k v:B3} (h:PY P floor st t x k v=some st'):Xm floor st st'/\st'.env=st.env:=by
 unfold PY at h;split at h
 .obtain ⟨hf,h⟩:=Zd h;have hf:=Aj hf;split at h
  .rename_i hm _;obtain rfl:=Ag h;exact ⟨Xm.write st _ hf hm,rfl⟩
  .rename_i hm _;obtain rfl:=Ag h;exact ⟨Xm.write st _ hf hm,rfl⟩
  .cases h
 .cases h
theorem UV {t:TypeId} {kd:Bool} (h:RH P t=some kd): ∃k e,P.underlying t=some (.map k e)/\P.underlying k=some .string /\ ∀w,(zeroValue e).run P w=.ok (bif kd then .int .i64 0 else .bool false) w:=by
 unfold RH at h;split at h
 .rename_i k e hu;refine ⟨k,e,hu,?_⟩;split at h
  .rename_i i h1 h2 h3;split at h
   .rename_i n hz;obtain ⟨hn,h⟩:=Zd h;obtain rfl:=Ag h;obtain rfl:n=0:=by simpa using hn
    exact ⟨h1,fun w=>by simp [zeroValue,run_typeInfo w h3,hz]⟩
   .cases h
  .rename_i i h1 h2 h3;split at h
   .rename_i b hz;cases b with
    | true=>cases h
    | false=>obtain rfl:=Ag h;exact ⟨h1,fun w=>by simp [zeroValue,run_typeInfo w h3,hz]⟩
   .cases h
  .cases h
 .cases h
theorem y1f {floor:Nat} {st st':St} {t:TypeId} {x k v:B3} (h:PY P floor st t x k v=some st') {w:World} (eD:B9 ρ st.mem st.next w) {ux uk uv:Value} (hx:Zr ρ x ux) (hk:Zr ρ k uk) (hv:Zr ρ v uv):
  ∃w',(Instr.mapUpdate t ux uk uv).run P w=.ok () w'/\DX ρ floor st st' (.tup []) w ρ undef w':=by
 unfold PY at h;split at h
 .rename_i b ks;obtain ⟨hf,h⟩:=Zd h;have hf:=Aj hf;cases hx with
  | mapr _ l hl=>
  cases hk;split at h
  .rename_i ml ty n hkd hm _;obtain rfl:=Ag h;cases hv;obtain ⟨kt,et,hu,hk,_⟩:=UV hkd;obtain ⟨_,es,ck,ho,hes⟩:=eD.objAt hl hm;obtain ⟨es',ck',eH,hes'⟩:=z7d (P:=P) (fun n:Int=>.int .i64 n) hu hk ho hes ks n;exact ⟨_,eH,x9f,eD.setObj hl hm rfl rfl _ ⟨rfl,es',ck',rfl,hes'⟩,Ev.ofObj eD hl hf _ _⟩
  .rename_i ml ty e hkd hm _;obtain rfl:=Ag h;cases hv;obtain ⟨kt,et,hu,hk,_⟩:=UV hkd;obtain ⟨_,es,ck,ho,hes⟩:=eD.objAt hl hm;obtain ⟨es',ck',eH,hes'⟩:=z7d (P:=P) (fun n:Bool=>.bool n) hu hk ho hes ks e;exact ⟨_,eH,x9f,eD.setObj hl hm rfl rfl _ ⟨rfl,es',ck',rfl,hes'⟩,Ev.ofObj eD hl hf _ _⟩
  .cases h
 .cases h
theorem Xm.kill {floor:Nat} (st:St) {c:Nat} (hf:floor<=c):Xm floor st (st.withMem (Wx st.mem c none)) where
 nxt:=An _
 bd h k hk:=by
  show Yi (Wx st.mem c none) k=none;rw [Vi];split
  .rfl
  .exact h k hk
 low _ k hk:=Zx _ _ (by omega)
 ob h:=h
theorem Oo {floor:Nat} {st st':St} {op:Op} {v:B3} {b:Bool} (h:aX P floor st op=some (v,b,st')):Xm floor st st'/\st'.env=st.env:=by
 have same: ∀{v0:B3} {b0:Bool},some (v0,b0,st)=some (v,b,st')->Xm floor st st'/\st'.env=st.env:=fun e=>by simp only [Ae,Ac] at e;obtain ⟨_,_,rfl⟩:=e;exact ⟨Xm.refl _ _,rfl⟩
 have fresh: ∀{v0:B3} {b0:Bool} {cs:List B3} {ty:TypeId},some (v0,b0,Cj st cs ty)=some (v,b,st')->Xm floor st st'/\st'.env=st.env:=fun e=>by simp only [Ae,Ac] at e;obtain ⟨_,_,rfl⟩:=e;exact ⟨Xm.new st _ _,rfl⟩
 unfold aX at h;split at h
 .split at h
  .exact fresh h
  .cases h
 .split at h
  .split at h
   .exact same h
   .exact same h
   .cases h
  .cases h
 .simp only [Ao,Ac] at h;obtain ⟨st1,h1,_,_,rfl⟩:=h;exact y9h h1
 .simp only [Ao,Ac] at h;obtain ⟨st1,h1,_,_,rfl⟩:=h;exact y9h h1
 .split at h
  .exact fresh h
  .cases h
 .split at h
  .obtain ⟨hf,h⟩:=Zd h;split at h
   .rename_i c s pos ty hm;split at h;rename_i e st1 ht;obtain ⟨t1,t2,t3,t4⟩:=QV ht;simp only [Ae,Ac] at h;obtain ⟨_,_,rfl⟩:=h;have hi:=Xm.same (floor:=floor) t2 t3 fun ho=>(t4 ho).2;cases e with
    | false=>exact ⟨hi,t1⟩
    | true=>exact ⟨hi.trans (Xm.write st1 _ (Aj hf) (by rw [t2];exact hm)),t1⟩
   .cases h
  .cases h
 .obtain ⟨_,h⟩:=Zd h;split at h
  .split at h
   .exact fresh h
   .cases h
  .cases h
 .split at h
  .split at h
   .exact same h
   .cases h
  .cases h
 .split at h
  .obtain ⟨hf,h⟩:=Zd h;simp only [Ad] at hf;split at h
   .rename_i hm _;obtain ⟨_,h⟩:=Zd h;simp only [Ae,Ac] at h;obtain ⟨_,_,rfl⟩:=h;exact ⟨Xm.write st _ (Aj hf.1) hm,rfl⟩
   .cases h
  .cases h
 .split at h
  .split at h
   .split at h
    .exact same h
    .cases h
   .cases h
  .cases h
 .split at h
  .split at h
   .exact same h
   .exact same h
   .cases h
  .cases h
 .split at h
  .obtain ⟨_,h⟩:=Zd h;split at h
   .obtain ⟨_,h⟩:=Zd h;split at h
    .split at h
     .exact same h
     .rename_i c _;obtain ⟨hc,h⟩:=Zd h;simp only [Ad] at hc;simp only [Ae,Ac] at h;obtain ⟨_,_,rfl⟩:=h;have hc1:=Aj hc.1;cases hmc:Yi st.mem c with
      | some ab=>exact ⟨Xm.write st _ hc1 hmc,rfl⟩
      | none=>exact ⟨Xm.kill st hc1,rfl⟩
    .cases h
   .cases h
  .cases h
 .cases h
theorem B9.kept {mem:CD} {next:Nat} {w w':World} (h:B9 ρ mem next w) (hs:w.heap.size<=w'.heap.size) {p:Nat->Prop} (hp: ∀b l,ρ b=some l->(Yi mem b).isSome =true->p l.blk) (hz: ∀k o,ρ.fz k=some o->p k)
  (hk: ∀k o,w.heap[k]? =some o->p k->w'.heap[k]? =some o):B9 ρ mem next w':=
 ⟨h.dom,h.inj,fun b l ab e hm=>by
  have q:=h.blk b l ab e hm;obtain ⟨o,ho⟩:=q.some;exact q.world (B7.le_refl _) (by rw [ho];exact hk _ _ ho (hp b l e (by rw [hm];rfl))),fun k o e=>hk k o (h.old k o e) (hz k o e),h.sep,fun b l e=>A4 (h.real b l e) hs,h.bd,h.ldom⟩
theorem u5f (hN:EJ P) {o:Oper} {floor:Nat} {st st':St} {v:B3} (h:aX P floor st o.op=some (v,true,st')) (hob:st'.ob=true) {a:Act} (hr:Qv ρ st.eval a.eval o.op) {w:World} (eD:B9 ρ st.mem st.next w):
  N5 P o a w (DX ρ floor st st' v w):=by
 obtain ⟨dst,op,type,pos,after,guard⟩:=o;simp only at h hr;unfold aX at h;split at h
 ·-- makeMap
  rename_i t;split at h
  .rename_i kd hkd;simp only [Ae,Ac] at h;obtain ⟨rfl,_,rfl⟩:=h;refine .inl ⟨_,.map (some w.heap.size),_,?_,X7 eD floor _ [] t (.map #[] 0) ?_ fun ρ' hρ'=>.mapr _ _ hρ'⟩
   .have hmk:(Instr.makeMap t none).run P w=.ok (.map (some w.heap.size)) (w.alloc (.map #[] 0)):=rfl;simp [execOp,hmk]
   .cases kd
    .exact ⟨rfl,_,_,rfl,rfl⟩
    .exact ⟨rfl,_,_,rfl,rfl⟩
  .cases h
 ·-- lookup
  rename_i t x i co;have hx:=hr x (by simp [Op.operands]);have hi:=hr i (by simp [Op.operands]);split at h
  .rename_i b ks ex ei;rw [ex] at hx;rw [ei] at hi;generalize hux:a.eval x=ux at hx;generalize hui:a.eval i=ui at hi;cases hx with
   | mapr _ l hl=>
   cases hi;split at h
   .rename_i ml ty hkd hm;obtain ⟨kt,et,hu,hk,hz⟩:=UV hkd;simp only [Ae,Ac] at h;obtain ⟨rfl,_,rfl⟩:=h;obtain ⟨_,es,ck,ho,hes⟩:=eD.objAt hl hm;have eH:=z7e (P:=P) (fun n:Int=>.int .i64 n) 0 hu hk (hz w) ho hes ks co;refine .inl ⟨ρ,_,w,by simp only [execOp,hux,hui];simp only [Sem.run_bind,eH,Result.andThen];rfl,?_,eD,Ev.refl _ _ _ _ _ eD.dom⟩;cases co
    .exact .int _ _
    .exact .tup _ _ rfl fun j h1 h2=>by
      match j with
      | 0=>exact .int _ _
      | 1=>exact .bool _
      | j+2=>simp at h1;omega
   .rename_i ml ty hkd hm;obtain ⟨kt,et,hu,hk,hz⟩:=UV hkd;simp only [Ae,Ac] at h;obtain ⟨rfl,_,rfl⟩:=h;obtain ⟨_,es,ck,ho,hes⟩:=eD.objAt hl hm;have eH:=z7e (P:=P) (fun n:Bool=>.bool n) false hu hk (hz w) ho hes ks co;refine .inl ⟨ρ,_,w,by simp only [execOp,hux,hui];simp only [Sem.run_bind,eH,Result.andThen];rfl,?_,eD,Ev.refl _ _ _ _ _ eD.dom⟩;cases co
    .exact .bool _
    .exact .tup _ _ rfl fun j h1 h2=>by
      match j with
      | 0=>exact .bool _
      | 1=>exact .bool _
      | j+2=>simp at h1;omega
   .cases h
  .cases h
 ·-- mapUpdate
  rename_i t m k x;simp only [Ao,Ac] at h;obtain ⟨st1,h1,rfl,_,rfl⟩:=h;obtain ⟨w',eH,hp⟩:=y1f h1 eD (hr m (by simp [Op.operands])) (hr k (by simp [Op.operands])) (hr x (by simp [Op.operands]));exact .inr (.inl ⟨ρ,w',by simp [execOp,eH],hp⟩)
 ·-- insert
  rename_i t m k x;simp only [Ao,Ac] at h;obtain ⟨st1,h1,rfl,_,rfl⟩:=h;obtain ⟨w',eH,hp⟩:=y1f h1 eD (hr m (by simp [Op.operands])) (hr k (by simp [Op.operands])) (hr x (by simp [Op.operands]));exact .inr (.inl ⟨ρ,w',by simp [execOp,eH],hp⟩)
 ·-- range
  rename_i t x;have hx:=hr x (by simp [Op.operands]);split at h
  .rename_i s hu ex;rw [ex] at hx;generalize hux:a.eval x=ux at hx;cases hx;simp only [Ae,Ac] at h;obtain ⟨rfl,_,rfl⟩:=h;refine .inl ⟨_,.pointer (some ⟨w.heap.size,0,none⟩),_,?_,X7 eD floor (.it s 0) [] t (.stringIter ⟨s.toArray⟩ 0) ⟨rfl,rfl⟩ fun ρ' hρ'=>.ptr _ 0 _ hρ'⟩;simp [execOp,hux,Instr.range,run_underlying hu,Result.andThen]
  .cases h
 ·-- next
  rename_i x;have hx:=hr x (by simp [Op.operands]);split at h
  .rename_i b ex;rw [ex] at hx;generalize hux:a.eval x=ux at hx;obtain ⟨hf,h⟩:=Zd h;have hf:=Aj hf;split at h
   .rename_i s pos ty hm;split at h;rename_i e st1 ht;obtain ⟨t1,t2,t3,t4⟩:=QV ht;simp only [Ae,Ac] at h;obtain ⟨rfl,_,rfl⟩:=h;cases hx with
    | ptr _ _ l hl=>
    have fP:=eD.objBase hl hm;obtain ⟨_,ho⟩:=eD.objAt hl hm;have hsz:(⟨s.toArray⟩:ByteArray).size =s.length:=(by simp [<-ByteArray.size_data]);rw [fP,Al] at hux;cases e with
    | true=>
     obtain ⟨hlt,_⟩:=t4 hob;have hlt:=Av hlt.symm;refine .inl ⟨ρ,.tuple #[.bool true,goInt pos,.int .i32 (Utf8.decode ⟨s.toArray⟩ pos).1],w.putObj l.blk (.stringIter ⟨s.toArray⟩ (pos+Fo s pos)),?_,?_,?_,?_⟩
     .simp [execOp,hux,Instr.next,w7a ho,v9v ho,hsz,hlt,Fo,Result.andThen]
     .exact .tup _ _ rfl fun j h1 h2=>by
       match j with
       | 0=>exact .bool _
       | 1=>exact .int _ _
       | 2=>exact .int _ _
       | j+3=>simp at h1;omega
     .show B9 ρ (Wx st1.mem b _) st1.next _
      rw [t2,t3];exact eD.setObj hl hm rfl rfl _ ⟨rfl,rfl⟩
     .show Ev ρ ρ floor st.mem st.next (Wx st1.mem b _) st1.next _ _
      rw [t2,t3];exact Ev.ofObj eD hl hf _ _
    | false=>
     obtain ⟨hlt,_⟩:=t4 hob;have hlt: ¬pos<s.length:=of_decide_eq_false hlt.symm;refine .inl ⟨ρ,.tuple #[.bool false],w,?_,?_,?_,?_⟩
     .simp [execOp,hux,Instr.next,w7a ho,hsz,hlt,Result.andThen]
     .exact .tup _ _ rfl fun j h1 h2=>by
       match j with
       | 0=>exact .bool _
       | j+1=>simp at h1
     .show B9 ρ st1.mem st1.next w
      rw [t2,t3];exact eD
     .show Ev ρ ρ floor st.mem st.next st1.mem st1.next w w
      rw [t2,t3];exact Ev.refl _ _ _ _ _ eD.dom
   .cases h
  .cases h
 ·-- alloc
  rename_i t;obtain ⟨ht,h⟩:=Zd h;split at h
  .rename_i i hi;split at h
   .rename_i hz;simp only [Ae,Ac] at h;obtain ⟨rfl,_,rfl⟩:=h;have hzr:(zeroValue t).run P w=.ok (.agg #[.pointer none,.slice none 0 0]) w:=(by simp [zeroValue,run_typeInfo w hi,hz]);refine .inl ⟨_,.pointer (some ⟨w.heap.size,0,none⟩),_,?_,X7 eD floor .bld [.nils] t (.cells #[.pointer none,.slice none 0 0] t (0,0)) ⟨.nils,.slice none 0 0,none,rfl,rfl,.nils,.inl rfl⟩ fun ρ' hρ'=>.ptr _ 0 _ hρ'⟩;simp [execOp,Instr.alloc,newVar,newRow,hzr,Value.cells]
   .cases h
  .cases h
 ·-- load
  rename_i t x;have hx:=hr x (by simp [Op.operands]);split at h
  .rename_i b ex;rw [ex] at hx;generalize hux:a.eval x=ux at hx;split at h
   .rename_i buf ty i hm hag hi;simp only [Ae,Ac] at h;obtain ⟨rfl,_,rfl⟩:=h;cases hx with
    | ptr _ _ l hl=>
    have fP:=eD.objBase hl hm;obtain ⟨_,bv,p,e1,ho,hbv,_⟩:=eD.objAt hl hm;obtain rfl:=(List.cons.inj e1).1;rw [fP,Al] at hux;refine .inl ⟨ρ,bv,w,?_,hbv,eD,Ev.refl _ _ _ _ _ eD.dom⟩;have hc:w.cell? ⟨l.blk,1,none⟩=some bv:=(by simp [World.cell?,ho]);simp [execOp,hux,Instr.loadAt,Instr.sureAddr,loadVar,QZ hag,hc]
   .cases h
  .cases h
 ·-- store
  rename_i t ad x;have hx:=hr ad (by simp [Op.operands]);have hv:=hr x (by simp [Op.operands]);split at h
  .rename_i b ex;rw [ex] at hx;generalize hux:a.eval ad=ux at hx;obtain ⟨hf,h⟩:=Zd h;simp only [Ad] at hf;obtain ⟨hf,hsc⟩:=hf;have hf:=Aj hf;split at h
   .rename_i buf ty i hm hi;obtain ⟨hsz,h⟩:=Zd h;have hsz:=Ah hsz;simp only [Ae,Ac] at h;obtain ⟨rfl,_,rfl⟩:=h;cases hx with
    | ptr _ _ l hl=>
    have fP:=eD.objBase hl hm;obtain ⟨_,bv,p,e1,ho,hbv,hp⟩:=eD.objAt hl hm;rw [fP,Al] at hux;refine .inr (.inl ⟨ρ,w.putObj l.blk (.cells #[.pointer p,a.eval x] ty (0,0)),?_,x9f,eD.setObj (o':=.bld) (r':=[st.eval x]) hl hm rfl rfl _ ⟨_,_,p,rfl,rfl,hv,hp⟩,Ev.ofObj eD hl hf _ _⟩);have eU:=hv.oneCell hsc;have hcs:(a.eval x).cells = #[a.eval x]:=by
     cases hz:a.eval x <;> first | rfl | (rw [hz] at eU;cases eU)
    have eH:=run_storeCells_at P l.blk 1 ty [a.eval x] 0 _ w ho (by simp) (by simpa using eU);rw [x2s ho] at eH;simp_all [execOp,Instr.storeAt,Instr.sureAddr,storeVar,Zn]
   .cases h
  .cases h
 ·-- convert
  rename_i src dst x;have hx:=hr x (by simp [Op.operands]);split at h
  .rename_i e hs hd;split at h
   .rename_i he;split at h
    .rename_i s o hby;simp only [Ae,Ac] at h;obtain ⟨rfl,rfl,rfl⟩:=h;refine .inl ⟨ρ,.string ⟨s.toArray⟩,w,?_,.str _,eD,Ev.refl _ _ _ _ _ eD.dom⟩;rcases Xl eD hby hx with ⟨e1,rfl⟩ | ⟨_,_,g,o,c,_,_,_,_,_,e1,_,_,hat⟩
     .simp only [execOp,e1,run_convert_bytes_string w src dst e none 0 0 hs he hd];simp [run_convert_bytes_string w src dst e none 0 0 hs he hd,Conv.bytesToString];rfl
     .simp [execOp,e1,run_convert_bytes_string w src dst e _ _ _ hs he hd,v4b hat]
    .cases h
   .cases h
  .cases h
 ·-- e == nil
  rename_i bop t x y yt;have hx:=hr x (by simp [Op.operands]);split at h
  .rename_i e m ex hu;rw [ex] at hx;generalize hux:a.eval x=ux at hx;have hy:a.eval (.const .nilIface)=.nilIface :=rfl;split at h
   .simp only [Ae,Ac] at h;obtain ⟨rfl,_,rfl⟩:=h;refine .inl ⟨ρ,.bool e,w,?_,.bool _,eD,Ev.refl _ _ _ _ _ eD.dom⟩;cases hx <;> simp [execOp,hux,hy,eqGuard,binOp,run_underlying hu,v7t hu]
   .simp only [Ae,Ac] at h;obtain ⟨rfl,_,rfl⟩:=h;refine .inl ⟨ρ,.bool !e,w,?_,.bool _,eD,Ev.refl _ _ _ _ _ eD.dom⟩;cases hx <;> simp [execOp,hux,hy,eqGuard,binOp,run_underlying hu,v7t hu]
   .cases h
  .cases h
 ·-- String
  rename_i f args argTypes;have hf:=hr f (by simp [Op.operands,Call.operands]);have eG:Vo (Zr ρ) (args.toList.map st.eval) (args.map a.eval).toList :=by rw [Bu];exact Vo.maps _ _ _ fun x hx=>hr x (by grind [Op.operands,Call.operands])
  split at h
  .rename_i g b eg ea;rw [eg] at hf;rw [ea] at eG;obtain ⟨hg,h'⟩:=Zd h;clear h;simp only [Ad] at hg;obtain ⟨hg,hbody⟩:=hg;obtain rfl:=Ah hg;obtain ⟨fn,hfn,hb⟩: ∃fn,P.funcs[MJ]? =some fn/\fn.body.isSome=true:=by
    cases e:P.funcs[MJ]? with
    | none=>rw [e] at hbody;cases hbody
    | some fn=>rw [e] at hbody;exact ⟨fn,rfl,hbody⟩
   generalize fH:args.map a.eval=vals at eG;obtain ⟨vals⟩:=vals;generalize hw:a.eval f=u at hf;cases hf with
   | fn _ _ cvs hl hh=>
   obtain rfl:cvs= #[]:=Array.eq_empty_of_size_eq_zero (by rw [<-hl];rfl);cases eG with
   | cons h1 h2=>
   cases h2;cases h1 with
   | ptr _ _ l hl'=>
   split at h'
   .rename_i buf ty hm;obtain ⟨hty,h⟩:=Zd h';clear h';obtain rfl:=Ah hty;split at h
    .rename_i s o hby0;have fP:=eD.objBase hl' hm;obtain ⟨_,bv,p,e1,ho,hbv,_⟩:=eD.objAt hl' hm;obtain rfl:=(List.cons.inj e1).1;have hexec:(execOp a.eval ⟨dst,.call ⟨.value f,args,argTypes⟩,type,pos,after,guard⟩).run P w=.ok (.enter MJ #[.pointer (some ⟨l.blk,0,none⟩)]) w:=by have eH:=PU hN hfn hb #[.pointer (some ⟨l.blk,0,none⟩)] w;rw [fP] at fH;simp [execOp,resolve,hw,Deferred.ofValue,fH,invoke,eH]
     refine .inr (.inr ⟨MJ,_,hexec,?_⟩);have hstr:=fun eE=>hN.2 (by rw [hfn];rfl) l.blk _ bv w s eE ho;split at h
     .rename_i hrf;simp only [Ae,Ac,Ad,Ak] at h;obtain ⟨rfl,⟨eE,rfl⟩,rfl⟩:=h;have hby:=hby0;have hstr:=hstr eE;rcases Xl eD hby hbv with ⟨k1,k2⟩ | ⟨b',_,_,_,_,_,k1,_⟩
      .refine (hstr (.inl ⟨k1,k2⟩)).mono fun e w' ⟨q1,q2,q3,q4,q5,q6⟩=>⟨ρ,_,q1,.str _,?_,?_⟩
       .exact eD.kept q2 (p:=fun _=>True) (fun _ _ _ _=>trivial) (fun _ _ _=>trivial) fun k o hk _=>q3 k o hk fun g o n c e=>by rw [k1] at e;cases e
       .exact ⟨B7.le_refl _,fun _ _=>rfl,An _,fun _ _ _ _ _ h=>h,fun k o hk _=>q3 k o hk fun g o n c e=>(by rw [k1] at e;cases e),fun k m hk e=>(by have:=eD.dom k m e;omega),q2,q4,q5,q6,fun _ _=>rfl⟩
      .rw [hrf] at k1;cases k1
     .rename_i c hrf;obtain ⟨hc,h⟩:=Zd h;simp only [Ad] at hc;obtain ⟨hc1,hc2⟩:=hc;have hc1:=Aj hc1;simp only [Ae,Ac,Ad,Ak] at h;obtain ⟨rfl,⟨eE,rfl⟩,rfl⟩:=h;have hby:=hby0;have hstr:=hstr eE;rcases Xl eD hby hbv with ⟨k1,k2⟩ | ⟨b',lc,g,o,cc,el,k1,k2,k3,k4,k5,k6,k7,cur,k8,k9,k10⟩
      .have hkill:=eD.kill c;refine (hstr (.inl ⟨k1,k2⟩)).mono fun e w' ⟨q1,q2,q3,q4,q5,q6⟩=>⟨ρ,_,q1,.str _,?_,?_⟩
       .exact hkill.kept q2 (p:=fun _=>True) (fun _ _ _ _=>trivial) (fun _ _ _=>trivial) fun k o hk _=>q3 k o hk fun g o n c e=>by rw [k1] at e;cases e
       .refine ⟨B7.le_refl _,fun _ _=>rfl,An _,fun k hk e cs ty hm'=> ?_,fun k o hk _=>q3 k o hk fun g o n c e=>(by rw [k1] at e;cases e),fun k m hk e=>(by have:=eD.dom k m e;omega),q2,q4,q5,q6,fun _ _=>rfl⟩;show Yi (Wx st.mem c none) k=_;rw [Zx]
        .exact hm'
        .intro e';subst e';rw [k1] at hbv;unfold R8 at hby;cases hbv <;> first | (cases hrf;done) | skip
         all_goals (have hrf:=Ag hrf;subst hrf;simp [hm'] at hby)
      .rw [hrf] at k1;obtain rfl:=Ag k1;subst k4;obtain ⟨ab,hab⟩:=BQ.1 k3;have hel:=k7 ab hab;have hbt:ab.ty=Oj:=by unfold Iw at hc2;rw [hab] at hc2;exact Ah hc2
       rw [hel,hbt] at k8;have hkill:=eD.kill c;have hne: ∀k,lc.blk≠k-> ∀g o n c,bv=.slice (some ⟨g,o,none⟩) n c->g≠k:=fun k hk g o n c e=>by rw [k5] at e;cases e;exact hk
       refine (hstr (.inr ⟨lc.blk,o,cc,cur,k5,k6,k8,k9,k10⟩)).mono fun e w' ⟨q1,q2,q3,q4,q5,q6⟩=>⟨ρ,_,q1,.str _,?_,?_⟩
       .refine hkill.kept q2 (p:=fun k=>lc.blk≠k) (fun b2 l2 e2 hs2 heq=> ?_) (fun k o hk heq=> ?_) fun k o hk hp=>q3 k o hk (hne k hp)
        .by_cases hbc:b2=c
         .rw [hbc,Yz] at hs2;cases hs2
         .rw [Zx _ _ hbc] at hs2;exact hbc (eD.inj b2 c l2 lc e2 k2 heq.symm hs2 k3)
        .have:=eD.sep c lc k2 k3;rw [heq,hk] at this;cases this
       .refine ⟨B7.le_refl _,fun _ _=>rfl,An _,fun k hk e cs ty hm'=> ?_,fun k o hk hfr=>q3 k o hk (hne k (hfr c lc k2 hc1)),fun k m hk e=>(by have:=eD.dom k m e;omega),q2,q4,q5,q6,fun _ _=>rfl⟩;show Yi (Wx st.mem c none) k=_;rw [Zx]
        .exact hm'
        .intro e';rw [e',k2] at e;cases e
    .cases h
   .cases h'
  .cases h
 .cases h
structure j6g (P:Program) (ops:Array Oper) (cx:CI) (o:Oper) (st st':St):Prop where
 inv:Xm cx.floor st st'
 slot: ∀d,o.dst=some d->d<cx.n
 other:st'.ob=true-> ∀t,o.dst≠some t->st'.tmp t=st.tmp t
 does:st'.ob=true-> ∀(ρ:B7) (a:Act) (w:World),a.tmps.size=cx.n->(∀d,Us ops o=some d->Zr ρ (st.tmp d) (a.tmps.getD d undef))->Qv ρ st.eval a.eval o.op->B9 ρ st.mem st.next w->
  ∀(K:Act->World->Prop) (Q:Exit->Act->World->Prop),(∀ρ' u w',(∀d,o.dst=some d->Zr ρ' (st'.tmp d) u)->B9 ρ' st'.mem st'.next w'->Ev ρ ρ' cx.floor st.mem st.next st'.mem st'.next w w'->K (a.put o.dst u) w')->
   if Region.wanted o (yielded ops a.tmps) then o.wp P a w K Q else K (a.put o.dst undef) w
theorem j6h.two {S:B6} {ops:Array Oper} {cx:CI} {x:Bool×Oper} {st st':St} (s:j6h S P ops cx x st st'):j6g P ops cx x.2 st st':=
 ⟨s.inv,s.slot,s.other,fun ho ρ a w h1 h2 h3 h4 K Q hK=>s.does ho ρ a w st.eval h1 (fun _ _=>rfl) h2 h3 h4 K Q fun ρ' u w' q1 q2 q3 _=>hK ρ' u w' q1 q2 q3⟩
theorem v3g (hN:EJ P) {ops:Array Oper} {cx:CI} {o:Oper} {st st1 st2 st3 st':St} {v:B3} {b:Bool} (hw:Fs ops o cx st=some (true,st1)) (hx:aX P cx.floor st1 o.op=some (v,b,st2)) (how:st2.owe cx b=some st3) (hp:st3.put cx o.dst v=some st'):j6g P ops cx o st st':=by
 obtain ⟨w1,w2,w3⟩:=Wf hw;obtain ⟨fU,eI⟩:=Oo hx;obtain ⟨e1,e2,e3,e4⟩:=Ww how;obtain ⟨p1,p2,p3,p4⟩:=Vj hp;have fO: ∀d,o.dst=some d->st'.tmp d=v:=fun d hd=>by
  rcases p4 with ⟨e,_⟩ | ⟨d',e,_,he⟩
  .rw [hd] at e;cases e
  .rw [hd] at e;obtain rfl:=Ag e;show T.get .undef st'.env d=v;rw [he,T.get_set,AG rfl]
 have hi1:Xm cx.floor st st1:=Xm.same w1 w2 fun ho=>(w3 ho).1;have hi2:Xm cx.floor st2 st':=Xm.same (p1.trans e2) (p2.trans e3) fun ho=>(e4 (by rw [<-p3];exact ho)).2;have hob:st'.ob=true->b=true/\st2.ob=true/\st1.ob=true:=fun ho=>by obtain ⟨h1,h2⟩:=e4 (by rw [<-p3];exact ho);exact ⟨h1,h2,fU.ob h2⟩
 refine ⟨(hi1.trans fU).trans hi2,fun d hd=> ?_,fun ho t ht=> ?_,fun ho ρ a w hsz hgr hr eD K Q hK=> ?_⟩
 .rcases p4 with ⟨e,_⟩ | ⟨d',e,hlt,_⟩
  .rw [hd] at e;cases e
  .rw [hd] at e;obtain rfl:=Ag e;exact hlt
 .obtain ⟨_,_,ho1⟩:=hob ho;rw [<-(w3 ho1).2 t];show T.get .undef st'.env t=T.get .undef st1.env t;rcases p4 with ⟨_,he⟩ | ⟨d',e,_,he⟩
  .rw [he,e1,eI]
  .rw [he,T.get_set,Az (fun h=>ht (by rw [e,h])),e1,eI]
 .obtain ⟨rfl,ho2,ho1⟩:=hob ho;have eQ:=(w3 ho1).2;have fR: ∀y,st1.eval y=st.eval y:=fun y=>by cases y <;> first | rfl | exact eQ _
  rw [Ub hw ho1 hsz hgr,AG rfl];have hr':Qv ρ st1.eval a.eval o.op:=fun y hy=>by rw [fR y];exact hr y hy
  refine (u5f hN hx ho2 hr' (by rw [w1,w2];exact eD)).wp fun ρ' u w' hpost=> ?_;have he:=hpost.ev;rw [w1,w2] at he;refine hK ρ' u w' (fun d hd=>by rw [fO d hd];exact hpost.val) (by rw [p1,p2,e2,e3];exact hpost.rel) (by rw [p1,p2,e2,e3];exact he)
end
section
variable {P:Program}
theorem w8f {S:B6} {Rc:CF} (hN:EJ P) (hS:Zv P S) (hCI:Ef Rc) (hC:GX P Rc) {fl:Nat} {cx:CI} {ops:Array Oper} {i:Nat} {o:Oper} {l:List Oper} {todo:List Item} {rnd:Option Nat} {rs:List ResultVar} {st:St} {cs:List CZ} {lps:CL} {C':CG}
  (hfl:Fl fl ⟨cx,some (ops,i,o::l),todo,rnd,rs,st,cs,lps⟩) (h:v3h P S Rc cx ops i o l todo rnd rs st cs lps=some C'):EI P fl ⟨cx,some (ops,i,o::l),todo,rnd,rs,st,cs,lps⟩ C':=by
 have plain2: ∀st2,j6g P ops cx o st st2->EI P fl ⟨cx,some (ops,i,o::l),todo,rnd,rs,st,cs,lps⟩ ⟨cx,some (ops,i+1,l),todo,rnd,rs,st2,cs,lps⟩:=by
  intro st2 s1;have e:=hfl.cx;simp only at e;refine ⟨⟨e,hfl.cs,AN hfl.le s1.inv.nxt⟩,by rw [<-e];exact s1.inv,fun ho m0 n0 ρ0 w0 ρ b a k css w ma mb hs he cs0=> ?_⟩;obtain ⟨eI,hdf,htd,⟨hro,fG⟩,eT⟩:=hs.top;simp only at eI hdf htd hro eT;obtain ⟨ho_i,hl',hdrop⟩:=w0n hro;have key:=s1.does ho ρ a w eI.size (fun d _=>eI.get d) (fun y _=>eI.eval y) hs.rel
   (fun a' w'=> ∃ρ',a'.defers=a.defers/\Vk ρ' st2.env cx.n a'.tmps/\B9 ρ' st2.mem st2.next w'/\Ev ρ ρ' cx.floor st.mem st.next st2.mem st2.next w w') (fun e _ _=>e=.normal) (fun ρ' u w' eV eZ hev=>by
    refine ⟨ρ',Act.put_defers' _ _ _,?_,eZ,hev⟩;cases hdst:o.dst with
    | none=>exact ((eI.mono hev.ext).congr fun t=>s1.other ho t (by grind))
    | some d=>
     refine ((eI.mono hev.ext).put (eV d hdst) (.inr ⟨d,rfl,s1.slot d hdst,rfl⟩)).congr fun t=> ?_;rw [T.get_set];split
     .rename_i e;subst e;rfl
     .rename_i e;exact s1.other ho t (by grind))
  obtain ⟨a',w',⟨ρ',hd',he',hr',hev⟩,eX⟩:=x3s (b:=b) (k:=k) (cs:=css++cs0) (rest:=(List.range ops.size).drop (i+1)) (fun e a w h=>h) ho_i (UW fG ho_i) key;refine ⟨ρ',b,a',k,css,w',ma,mb,by rw [Vh,hdrop];exact eX,⟨⟨he',by grind,htd.mono fun _ _=>Ee.mono hev.ext,⟨hl',fG⟩,?_⟩,hs.lv,hs.rest.ev hev,hr'⟩,he.trans (by grind),rfl,hev.size⟩;exact ((⟨eI,hdf,htd,⟨hro,fG⟩,eT⟩:Fc ρ cx (some (ops,i,o::l)) todo rnd st.env b a k ma).mono hev.ext).rnd
 have hcx:cx.floor<=st.next:=by have:=hfl.le;have e:=hfl.cx;grind
 have plain: ∀st2,HP P S Rc ops cx (false,o) st=some st2->EI P fl ⟨cx,some (ops,i,o::l),todo,rnd,rs,st,cs,lps⟩ ⟨cx,some (ops,i+1,l),todo,rnd,rs,st2,cs,lps⟩:=fun st2 h1=>plain2 st2 (x0z hN hS hCI hC hcx h1).two;unfold v3h at h;split at h
 .rename_i st1 hw;split at h
  ·-- an operation that only such a region has
   rename_i v b st2 hx;split at h
   .rename_i st3 how;split at h
    .rename_i st4 hp;obtain rfl:=Ag h;exact plain2 st4 (v3g hN hw hx how hp)
    .cases h
   .cases h
  rename_i hx;split at h
  ·-- a function is entered
   rename_i g args fC;obtain ⟨w1,w2,w3⟩:=UH (ρ:=⟨fun _=>none,fun _=>none,fun _=>none⟩) hw;have hCeq: ∃fn body,P.funcs[g]? =some fn/\fn.body=some body/\C'=⟨⟨Nat.max fn.ntmps args.length,cx.floor,cx.sym⟩,none,[.code body],none,fn.results.toList,st1.withEnv (Ey args 0 .leaf),⟨cx,some (ops,i,o::l),todo,rnd,rs,st1.env⟩::cs,lps⟩:=by
    grind [Pb]
   obtain ⟨fn,body,hfn,hb,hCe⟩:=hCeq;have hmem:C'.st.mem=st.mem:=by rw [hCe];exact w1
   have hnext:C'.st.next=st.next:=by rw [hCe];exact w2
   refine ⟨by rw [hCe];exact hfl.enter (BZ w2.symm),Xm.same hmem hnext fun ho=>(w3 (by rw [hCe] at ho;exact ho)).1,fun ho m0 n0 ρ0 w0 ρ b a k css w ma mb hs he cs0=> ?_⟩;have ho1:st1.ob=true:=by rw [hCe] at ho;exact ho
   obtain ⟨eI,hdf,htd,⟨hro,fG⟩,eT⟩:=hs.top;simp only at eI hdf htd hro eT;obtain ⟨ho_i,hl',hdrop⟩:=w0n hro;obtain ⟨_,_,w3'⟩:=UH (ρ:=ρ) hw;obtain ⟨gF,hwt⟩:=(w3' ho1).2 eI;have hexec: ∃vals,(execOp a.eval o).run P w=.ok (.enter g vals) w/\Vo (Zr ρ) args vals.toList:=by
    obtain ⟨dst,op,type,pos,after,guard⟩:=o;simp only at fC ⊢;unfold callee at fC;split at fC
    .rename_i f cargs argTypes;split at fC
     .rename_i g' caps hg;split at fC
      .cases fC
      .simp only [Ae,Sum.inl.injEq,Ac] at fC;obtain ⟨rfl,rfl⟩:=fC;have hf:=gF.eval f;rw [hg] at hf;generalize hw':a.eval f=u at hf;cases hf with
       | fn _ _ cvs hl hh=>
        have:=PU hN hfn (by rw [hb];rfl) (cargs.map a.eval++cvs) w
        grind [execOp,resolve,Deferred.ofValue,invoke,Vo.append,YT,Vo.of]
     .rename_i g' first hg
      split at fC
      .cases fC
      .simp only [Ae,Sum.inl.injEq,Ac] at fC;obtain ⟨rfl,rfl⟩:=fC;have hf:=gF.eval f;rw [hg] at hf;generalize hw':a.eval f=u at hf;cases hf with
       | fnb _ _ cvs hl hh=>
        have:=PU hN hfn (by rw [hb];rfl) (cvs++cargs.map a.eval) w
        grind [execOp,resolve,Deferred.ofValue,invoke,Vo.append,Vo.of,YT]
     all_goals grind
    .cases fC
   obtain ⟨vals,hex,eG⟩:=hexec;have fF:=w8c (b:=b) (k:=k) (cs:=css++cs0) (rest:=(List.range ops.size).drop (i+1)) ho_i (UW fG ho_i) hwt hex;obtain ⟨_,_,_,_,_,b',a',k',hen,hsr⟩:=x1z h (⟨gF,hdf,htd,⟨hro,fG⟩,eT⟩) hs.lv hs.rest (by rw [w1,w2];exact hs.rel) eG;refine ⟨ρ,b',a',k',_,w,_,_,.one ?_,hsr,by grind,by cases css <;> rfl,An _⟩
   grind [Vh]
  ·-- a round is entered
   rename_i j args fC;obtain ⟨w1,w2,w3⟩:=UH (ρ:=⟨fun _=>none,fun _=>none,fun _=>none⟩) hw;unfold u6q at h;split at h
   .rename_i Cf lpend ln lenv lparams lassign lbody hlg;split at h
    .rename_i env' hsa;obtain rfl:=Ag h;refine ⟨hfl.enter (BZ w2.symm),Xm.same w1 w2 fun ho=>(w3 ho).1,fun ho m0 n0 ρ0 w0 ρ b a k css w ma mb hs he cs0=> ?_⟩;have ho1:st1.ob=true:=ho;obtain ⟨eI,hdf,htd,⟨hro,fG⟩,eT⟩:=hs.top;simp only at eI hdf htd hro eT;obtain ⟨ho_i,hl',hdrop⟩:=w0n hro;obtain ⟨_,_,w3'⟩:=UH (ρ:=ρ) hw;obtain ⟨gF,hwt⟩:=(w3' ho1).2 eI;obtain ⟨lr,hlp,hlow,hsp,ltmps,lfn,ld,gI,fQ⟩:=hs.rest.loops j _ hlg;simp only at gI fQ;have hexec: ∃vals:Array Value,Vo (Zr ρ) args vals.toList/\(execOp a.eval o).run P w=.ok (.round lr lfn ((lparams.toArray.zip vals).foldl (fun tmps (t,x)=>tmps.setIfInBounds t x) ltmps) lassign lbody) w:=by
      obtain ⟨dst,op,type,pos,after,guard⟩:=o;simp only at fC ⊢;unfold callee at fC;split at fC
      .rename_i f cargs argTypes;split at fC
       .grind
       .grind
       .rename_i j' hg;simp only [Ae,Sum.inr.injEq,Ac] at fC;obtain ⟨rfl,rfl⟩:=fC;have hf:=gF.eval f;rw [hg] at hf;generalize hw':a.eval f=u at hf;cases hf with
        | yld _ l' hl'=>rw [hlp] at hl';obtain rfl:=Ag hl';have hca:=YT gF cargs;obtain ⟨eE,_⟩:=YJ hsa fQ hca;refine ⟨cargs.map a.eval,hca,?_⟩;simp_all [run_yield,execOp,resolve,Deferred.ofValue,invoke]
       .cases fC
      .cases fC
     obtain ⟨vals,eG,hex⟩:=hexec;obtain ⟨_,henv'⟩:=YJ hsa fQ eG;have fF:=w8b (b:=b) (k:=k) (cs:=css++cs0) (rest:=(List.range ops.size).drop (i+1)) ho_i (UW fG ho_i) hwt hex;refine ⟨ρ,⟨lfn, #[],[],[],.run,.normal,some lr⟩,{tmps:=(lparams.toArray.zip vals).foldl (fun tmps (t,x)=>tmps.setIfInBounds t x) ltmps,defers:=[]},[.code lassign,.beginRound,.code lbody],b.atR a (Vh (some (ops,i,o::l)) k)::css,w,[],ma++mb,.one ?_,⟨⟨?_,rfl,.cons (.same _ rfl) (.cons (.same _ rfl) (.cons (.same _ rfl) .nil)),trivial,⟨rfl,lr,hlp,rfl⟩⟩,fun _=>⟨rfl,fun h0=>by cases h0⟩,?_,by rw [show (st1.withEnv env').mem =st.mem from w1,show (st1.withEnv env').next =st.next from w2];exact hs.rel⟩,by rw [show (st1.withEnv env').mem =st.mem from w1,show (st1.withEnv env').next =st.next from w2];exact he,by cases css <;> rfl,An _⟩
     .simp only [Vh,hdrop];exact fF
     .have:(lparams.toArray.zip vals).foldl (fun tmps (t,x)=>tmps.setIfInBounds t x) ltmps=(lparams.zip vals.toList).foldl (fun t p=>t.setIfInBounds p.1 p.2) ltmps:=by rw [<-Array.foldl_toList];simp
      simp only [this];exact henv'
     .exact ⟨.cons ⟨gF,hdf,htd,⟨hro,fG⟩,eT⟩ hs.lv hs.rest.cs,hs.rest.nodup,hs.rest.marks,hs.rest.loops,hs.rest.inj⟩
    .cases h
   .cases h
  clear plain2
  grind [HP]
 all_goals (clear plain2;grind [HP])
end
section
variable {P:Program}
theorem x5r {ops:Array Oper} {z:Nat}: ∀{l:List Nat},H0 ops l=some z->Lj z ops=true
 | [],h=>by cases h
 | x::l,h=>by
  unfold H0 at h;rcases Ua h with ⟨h1,h⟩ | ⟨_,h⟩
  .obtain rfl:=Ag h;exact h1
  .exact x5r h
theorem v0f {ops:Array Oper} {z:Nat} (h:j2w ops=some z):Lj z ops=true/\Gw ops=true:=by unfold j2w at h;obtain ⟨hn,h⟩:=Zd h;exact ⟨x5r h,hn⟩
theorem DP.item {ρ:B7} {x:Item} {t k:List Item} (hx:L9 x=true) (h:DP ρ (x::t) k): ∃k',k=x::k'/\DP ρ t k':=by
 cases h with
 | cons h ht=>
  cases h with
  | same _ _=>grind
  | inR j l e=>cases hx
  | endR j l e=>cases hx
theorem Y8 {fl:Nat} {cx:CI} {todo:List Item} {rnd:Option Nat} {rs:List ResultVar} {st:St} {cs:List CZ} {lps:CL} {jump:Option Code} {C':CG} (hfl:Fl fl ⟨cx,none,todo,rnd,rs,st,cs,lps⟩)
  (h:Rd P rnd rs st cs lps jump=some C') (hj:(todo=[]/\jump=none)\/(∃t,todo=.code .ret ::t/\jump=some .ret)\/(∃id t,todo=.code (.exit id)::t/\exitTo id t=none/\jump=some (.exit id)/\rnd.isSome=true)):
  EI P fl ⟨cx,none,todo,rnd,rs,st,cs,lps⟩ C':=by
 unfold Rd at h;split at h
 .split at h
  .rename_i vs hvs;obtain ⟨hfl',hm,hn,hob,hne,key⟩:=WF (P:=P) (base:=0) h hfl.cs hfl.le;refine ⟨hfl',Xm.same hm hn fun ho=>by grind,fun ho m0 n0 ρ0 w0 ρ b a k css w ma mb hs he cs0=> ?_⟩;obtain ⟨_,_,_,_,_,key⟩:=WF (P:=P) (base:=w0.heap.size) h hfl.cs hfl.le;have htd:todo=[]\/ ∃t,todo=.code .ret ::t:=by
    grind
   obtain ⟨w',eX,eI,eD,hev,eP,hsz⟩:=Y0 hs rfl rfl htd rfl he (css++cs0);obtain ⟨hk,hfn⟩:=hs.lv hne;obtain ⟨fn,hfn,hrs⟩:=hfn rfl;simp only at hrs hfn;obtain ⟨u,hu,gH⟩:=YH (fn:=fn) eI eD (by rw [hrs];exact hvs);obtain ⟨c,css',b',a',k',ma',mb',rfl,hfin,hsr,hbot⟩:=key ρ css w' mb u hu eP eD;refine ⟨ρ,b',a',k',css',w',ma',mb',eX.trans (.one ?_),hsr,by grind,by rw [hbot];rfl,hsz⟩;rw [<-hfin];exact step_leave_returned (fr:={b.atR {a with defers:=[]} k with mode:=.returning}) ⟨rfl,rfl,hk,fn,hfn,gH⟩
  .cases h
 .rename_i j;split at h
  .rename_i Cf lpend ln lenv lparams lassign lbody hlg;obtain ⟨hfl',hm,hn,hob,hne,_⟩:=WF (P:=P) (base:=0) h hfl.cs hfl.le;refine ⟨hfl',Xm.same hm hn fun ho=>by grind,fun ho m0 n0 ρ0 w0 ρ b a k css w ma mb hs he cs0=> ?_⟩;obtain ⟨_,_,_,_,_,key⟩:=WF (P:=P) (base:=w0.heap.size) h hfl.cs hfl.le;obtain ⟨rfl,lr0,hlp0,hro⟩:=hs.top.rnd;obtain ⟨lr,hla⟩:=hs.rest.loops j _ hlg;have hla':=hla;obtain ⟨hlp,hlow,hsp,ltmps,lfn,ld,gI,fQ⟩:=hla;rw [hlp] at hlp0;obtain rfl:=Ag hlp0;have eH:=run_endRound (P:=P) jump gI;have hlst:(if jump.isNone then LoopState.ready else LoopState.done)=Rb jump:=by cases jump <;> rfl
   rw [hlst] at eH;have eP:=hs.rest.record (w':=w.putObj lr (.loop ⟨Rb jump,jump,lfn,ltmps,lparams.toArray,lassign,lbody,ld⟩)) hlg hla' (L':=⟨Rb jump,jump,ln,lenv,lparams,lassign,lbody⟩)
    ⟨hlp,hlow,hsp.turned (Vn.put _ _ _),ltmps,lfn,ld,World.putObj_heap_same hsp.1,fQ⟩ (Vn.put _ _ _)
   obtain ⟨c,css',b',a',k',ma',mb',rfl,hfin,hsr,hbot⟩:=key ρ css _ mb (.bool jump.isNone) (.bool _) eP (hs.rel.turned (fun r hr=>by grind) (Vn.put _ _ _));have hev:=he.turned (m:=[lr]) (fun r hr=>by grind) (Vn.put w lr (.loop ⟨Rb jump,jump,lfn,ltmps,lparams.toArray,lassign,lbody,ld⟩));refine ⟨ρ,b',a',k',css',_,ma',mb',.one ?_,hsr,by grind,by rw [hbot];rfl,BZ (Vn.put _ _ _).size.symm⟩;obtain ⟨hk,_⟩:=hs.lv hne;rw [<-hfin];have htd:=hs.top.todo;rcases hj with ⟨rfl,rfl⟩ | ⟨t,rfl,rfl⟩ | ⟨id,t,rfl,hx,rfl,_⟩
   .cases htd;exact stepR_round_end hro hk eH
   .obtain ⟨k',rfl,_⟩:=htd.code;exact stepR_round_ret hro hk eH
   .obtain ⟨k',rfl,ht⟩:=htd.code;exact stepR_round_exit hro hk ((ht.exit id).2 hx) eH
  .cases h
theorem x5v {S:B6} {Rc:CF} (hN:EJ P) (hmx:P.follows .mixedOrders =true) (hS:Zv P S) (hCI:Ef Rc) (hC:GX P Rc) {fl:Nat} {C C':CG} (hfl:Fl fl C) (h:Pp P S Rc C=some C'):EI P fl C C':=by
 unfold Pp at h;split at h
 ·-- a region's end
  rename_i ops i todo rnd rs st cs lps;obtain rfl:=Ag h;refine ⟨⟨hfl.cx,hfl.cs,hfl.le⟩,Xm.refl _ _,fun ho m0 n0 ρ0 w0 ρ b a k css w ma mb hs he cs0=> ?_⟩;obtain ⟨eI,hdf,htd,⟨hro,fG⟩,eT⟩:=hs.top;refine ⟨ρ,b,a,k,css,w,ma,mb,.one ?_,⟨⟨eI,hdf,htd,trivial,eT⟩,hs.lv,hs.rest,hs.rel⟩,he,rfl,An _⟩;have hge:ops.size<=i:=by simp_all
  have:(List.range ops.size).drop i=[]:=Aw (by grind)
  grind [Vh,stepR_region_end]
 .exact w8f hN hS hCI hC hfl h
 .rename_i cx todo rnd rs st cs lps;split at h
  .grind [Y8]
  .grind [Y8]
  .obtain rfl:=Ag h;exact EI.move hfl fun ρ k hk=>by obtain ⟨k',rfl,ht⟩:=hk.code;grind [stepR_skip]
  .obtain rfl:=Ag h;exact EI.move hfl fun ρ k hk=>by obtain ⟨k',rfl,ht⟩:=hk.code;grind [stepR_label]
  .obtain rfl:=Ag h;exact EI.move hfl fun ρ k hk=>by obtain ⟨k',rfl,ht⟩:=DP.item rfl hk;grind [stepR_inBlock]
  .obtain rfl:=Ag h;exact EI.move hfl fun ρ k hk=>by obtain ⟨k',rfl,ht⟩:=DP.item rfl hk;exact ⟨k',ht,fun b a css w=>step_lone_go (by simp [stepG,stepG.exec,Frame.atR])⟩
  .obtain rfl:=Ag h;exact EI.move hfl fun ρ k hk=>by obtain ⟨k',rfl,ht⟩:=hk.code;exact ⟨_,.cons (.same _ rfl) (.cons (.same _ rfl) ht),fun b a css w=>stepR_seq⟩
  ·-- a test
   rename_i c x y k0;split at h
   .rename_i v hv;split at h;rename_i e st1 ht;obtain rfl:=Ag h;obtain ⟨t1,t2,t3,t4⟩:=QV ht;refine ⟨⟨hfl.cx,hfl.cs,by have:=hfl.le;grind⟩,Xm.same t2 t3 fun ho=>(t4 ho).2,fun ho m0 n0 ρ0 w0 ρ b a k css w ma mb hs he cs0=> ?_⟩;obtain ⟨rfl,_⟩:=t4 ho;obtain ⟨eI,hdf,htd,hro,eT⟩:=hs.top;obtain ⟨k',rfl,htl⟩:=htd.code;have hc:=eI.eval c;rw [hv] at hc;have hev:a.eval c=.bool e:=by generalize a.eval c=u at hc;cases hc;rfl
    refine ⟨ρ,b,a,_,css,w,ma,mb,.one (stepR_cond hev),⟨⟨by grind,hdf,.cons ?_ htl,trivial,eT⟩,hs.lv,hs.rest,by rw [t2,t3];exact hs.rel⟩,by grind,rfl,An _⟩;cases e <;> exact .same _ rfl
   .cases h
  .obtain rfl:=Ag h;exact EI.move hfl fun ρ k hk=>by obtain ⟨k',rfl,ht⟩:=hk.code;exact ⟨_,.cons (.same _ rfl) (.cons (.same _ rfl) ht),fun b a css w=>stepR_block⟩
  .obtain rfl:=Ag h;exact EI.move hfl fun ρ k hk=>by obtain ⟨k',rfl,ht⟩:=hk.code;exact ⟨_,.cons (.same _ rfl) (.cons (.same _ rfl) ht),fun b a css w=>step_lone_go (by simp [stepG,stepG.exec,Frame.atR])⟩
  .obtain rfl:=Ag h;exact EI.move hfl fun ρ k hk=>by obtain ⟨k',rfl,ht⟩:=hk.code;exact ⟨_,.cons (.same _ rfl) (.cons (.same _ rfl) ht),fun b a css w=>stepR_loop⟩
  .obtain rfl:=Ag h;exact EI.move hfl fun ρ k hk=>by obtain ⟨k',rfl,ht⟩:=DP.item rfl hk;exact ⟨_,.cons (.same _ rfl) (.cons (.same _ rfl) ht),fun b a css w=>stepR_inLoop⟩
  ·-- an exit
   rename_i id k0;split at h
   .rename_i k1 hx;obtain rfl:=Ag h;exact EI.move hfl fun ρ k hk=>by
     obtain ⟨k',rfl,ht⟩:=hk.code;obtain ⟨r',h1,h2⟩:=(ht.exit id).1 _ hx
     grind [stepR_exit]
   grind [Y8]
  ·-- a region in the order of the text
   rename_i id ops k0;obtain ⟨fG,h⟩:=Zd h;obtain rfl:=Ag h;refine ⟨⟨hfl.cx,hfl.cs,hfl.le⟩,Xm.refl _ _,fun ho m0 n0 ρ0 w0 ρ b a k css w ma mb hs he cs0=> ?_⟩;obtain ⟨eI,hdf,htd,hro,eT⟩:=hs.top;obtain ⟨k',rfl,htl⟩:=htd.code;exact ⟨ρ,b,a,k',css,w,ma,mb,.one stepR_region,⟨⟨eI,hdf,htl,⟨rfl,fG⟩,eT⟩,hs.lv,hs.rest,hs.rel⟩,he,rfl,An _⟩
  ·-- a region that draws its order
   rename_i id ops k0;split at h
   ·-- it hands out a round
    rename_i m hty;split at h
    .rename_i st1 hop;obtain rfl:=Ag h;obtain ⟨hm,fG,fA,hfor,hgd⟩:=w7y hty;have hm':=Nat.le_of_lt hm;have hi:=y6y hCI _ _ _ _ hop;have e:=hfl.cx;simp only at e;have hcx:cx.floor<=st.next:=by have:=hfl.le;grind
     refine ⟨⟨e,hfl.cs,AN hfl.le hi.nxt⟩,by grind,fun ho m0 n0 ρ0 w0 ρ b a k css w ma mb hs he cs0=> ?_⟩;obtain ⟨eI,hdf,htd,hro,eT⟩:=hs.top;obtain ⟨k',rfl,htl⟩:=htd.code;have hw:=y0c hN hS hCI hC hcx fA hop ho hdf eI (hs.rel.drawn (w.drawn+1));have hw2:=wpAny_sound (Vz ops m).size (w.tape w.drawn (.order b.fn id)) _ a _ hw;rw [w5b _ hm',x5u hm'] at hw2;have back: ∀(j:Nat) x,ops[j]? =some x-> ∃y,(Vz ops m)[j]? =some y/\y.after=x.after:=fun j x hx=>by
      grind [Z8]
     have fV: ∀(j:Nat) x,ops[j]? =some x-> ∀e∈x.after.toList,Region.binds .any e=true->e.on<j:=fun j x hx e he hb=>by obtain ⟨y,hy,hya⟩:=back j x hx;exact (X3 fA).ord j y hy e (by grind) hb
     have hcl0: ∀S,HD ops S->HD (Vz ops m) S:=fun S hc j y hy hS e he hb=>by
      have hsa:=Z8 hm' j;rw [hy] at hsa;cases hsx:ops[j]? with
      | none=>grind
      | some x=>rw [hsx] at hsa;simp only [BU,Ae] at hsa;exact hc j x hsx hS e (by grind) hb
     have hfor': ∀j x,m<=j->ops[j]? =some x-> ∀i,i<j->Id ops i x:=fun j x hj hx i hij S hc hr=>by obtain ⟨y,hy,hya⟩:=back j x hx;exact hfor j y hj hy i hij S (hcl0 S hc) fun e he hb=>hr e (by grind) hb
     have fL: ∀i,(Array.replicate ops.size false).getD i false=false:=fun i=>by by_cases hi:i<ops.size <;> simp [hi]
     obtain ⟨l,hl,hlm⟩:=u3h fV hm hfor' ops.size (w.tape w.drawn (.order b.fn id)) (Array.replicate ops.size false) (by simp) (fun j x hx hS=>by grind) (by
      simp_all) (fun q _=>fL q)
     rw [hl] at hw2;obtain ⟨a',w',⟨_,hd',ρ',q1,q2,q3⟩,eX⟩:=x0x (b:=b) (k:=k') (cs:=css++cs0) (fun e a w hq=>hq.1) hm' fG hgd (r:=(List.range ops.size).drop m) (fun i hi=>by
      obtain ⟨n,hn,rfl⟩:=A6 hi;simp) l a _ hlm hw2
     have hev:=q3.drawn;refine ⟨ρ',b,a',k',css,w',ma,mb,.head stepR_region_draw ?_,⟨⟨q1,hd',htl.mono fun _ _=>Ee.mono hev.ext,⟨rfl,fG⟩,?_⟩,hs.lv,hs.rest.ev hev,q2⟩,he.trans (by grind),rfl,hev.size⟩
     .grind [Region.schedule,Vh,Region.linearise]
     .exact ((⟨eI,hdf,htd,hro,eT⟩:Fc ρ cx none _ rnd st.env b a _ ma).mono hev.ext).rnd
    .cases h
   split at h;rename_i z hlz;obtain ⟨fA,fG⟩:=v0f hlz;split at h
   .rename_i st1 hop;obtain rfl:=Ag h;have hi:=y6y hCI _ _ _ _ hop;have e:=hfl.cx;simp only at e;have hcx:cx.floor<=st.next:=by have:=hfl.le;grind
    refine ⟨⟨e,hfl.cs,AN hfl.le hi.nxt⟩,by grind,fun ho m0 n0 ρ0 w0 ρ b a k css w ma mb hs he cs0=> ?_⟩;obtain ⟨eI,hdf,htd,hro,eT⟩:=hs.top;obtain ⟨k',rfl,htl⟩:=htd.code;have hw:=y0c hN hS hCI hC hcx fA hop ho hdf eI (hs.rel.drawn (w.drawn+1));have hw2:=wpAny_sound ops.size (w.tape w.drawn (.order b.fn id)) _ a _ hw;obtain ⟨a',w',⟨hd',ρ',q1,q2,q3⟩,eX⟩:=ZE (b:=b) (k:=k') (cs:=css++cs0) (fun e a w hq=>hq) fG _ _ _ hw2;have hev:=q3.drawn;refine ⟨ρ',b,a',k',css,w',ma,mb,.head stepR_region_draw ?_,⟨⟨q1,hd',htl.mono fun _ _=>Ee.mono hev.ext,trivial,?_⟩,hs.lv,hs.rest.ev hev,q2⟩,he.trans (by grind),rfl,hev.size⟩
    .simp only [Region.schedule,hmx,Bool.true_or,if_true];exact eX
    .exact ((⟨eI,hdf,htd,hro,eT⟩:Fc ρ cx none _ rnd st.env b a _ ma).mono hev.ext).rnd
   all_goals grind
  ·-- a loop over a function
   rename_i f params assign body k0;split at h
   .rename_i g caps hg;obtain ⟨env,mem,next,orc,ob⟩:=st;simp only [St.nextId] at h;obtain ⟨hrk,h⟩:=Zd h;have hCeq: ∃fn fbody,P.funcs[g]? =some fn/\fn.body=some fbody/\C'=⟨⟨Nat.max fn.ntmps (B3.yld next::caps).length,cx.floor,cx.sym⟩,none,[.code fbody],none,fn.results.toList,St.withEnv ⟨env,mem,next+1,orc,ob⟩ (Ey (B3.yld next::caps) 0 .leaf),⟨cx,none,.inRangeFunc next::k0,rnd,rs,env⟩::cs,Fg lps next (some ⟨.ready,none,cx.n,env,params.toList,assign,body⟩)⟩:=by
     grind [Pb]
    obtain ⟨fn,fbody,hfn,hb,hCe⟩:=hCeq;refine ⟨by rw [hCe];exact hfl.enter (BW _),?_,fun ho m0 n0 ρ0 w0 ρ b a k css w ma mb hs he cs0=> ?_⟩
    .rw [hCe];exact ⟨BW _,fun hbd x hx=>hbd x (Nat.le_of_succ_le hx),fun _ _ _=>rfl,fun ho=>ho⟩
    obtain ⟨eI,hdf,htd,hro,eT⟩:=hs.top;obtain ⟨k',rfl,htl⟩:=htd.code;have eD:=hs.rel;simp only at eI eD he eT hdf htl;have lay: ∃l mk w1 d,(Instr.enterLoop b.fn a.tmps params assign body b.roundOf).run P w=.ok (l,(mk:List Nat).map Nb) w1/\w1.heap[l]? =some (.loop ⟨.ready,none,b.fn,a.tmps,params,assign,body,d⟩)/\w0.heap.size<=l/\Sp ρ w1 l/\B9 ρ mem next w1/\Ev ρ0 ρ fl m0 n0 mem next w0 w1/\(rnd.isSome=true->mk=[])/\
      D3 P w0.heap.size ρ cs lps css w1 (mk++ma) mb/\(∀j L l',DE lps j=some L->ρ.lp j=some l'->l'≠l)/\w.heap.size<=w1.heap.size:=by
     have gr: ∀(w1:World) (o:Obj) (mk:List Nat),D3 P w0.heap.size ρ cs lps css w1 mk mb->D3 P w0.heap.size ρ cs lps css (w1.alloc o) mk mb:=fun w1 o mk hr=>
      ⟨hr.cs,hr.nodup,fun r hx=>by obtain ⟨q1,q2,q3⟩:=hr.marks r hx;exact ⟨q1,(q2.grow o).1,by rw [(q2.grow o).2];exact q3⟩,fun j L hL=>by
       obtain ⟨l,q1,q2,q3,tm,fn',d,q4,q5⟩:=hr.loops j L hL;exact ⟨l,q1,q2,(q3.grow o).1,tm,fn',d,by rw [(q3.grow o).2];exact q4,q5⟩,hr.inj⟩
     have far: ∀(w1:World),D3 P w0.heap.size ρ cs lps css w1 ma mb-> ∀j L l',DE lps j=some L->ρ.lp j=some l'->l'<w1.heap.size:=fun w1 hr j L l' hL e=>by obtain ⟨l2,q⟩:=hr.loops j L hL;have:=q.lp;rw [e] at this;obtain rfl:=Ag this;exact q.sp.1
     cases hr:b.roundOf with
     | none=>
      have hrn:rnd=none:=by
       grind
      subst hrn;have hs1:Sp ρ (w.alloc (.deferred (some []))) w.heap.size:=Sp.fresh eD _;have fE:=eD.grow (.deferred (some []));have hsz1:(w.alloc (.deferred (some []))).heap.size =w.heap.size+1:=(by simp_all);have fN:D3 P w0.heap.size ρ cs lps css (w.alloc (.deferred (some []))) ([w.heap.size]++ma) mb:=by
       have hr1:=gr w (.deferred (some [])) ma hs.rest;have hnin:w.heap.size ∉ ma++mb:=fun hin=>by have:=(hs.rest.marks _ hin).2.1.1;omega
       refine ⟨hr1.cs,by rw [AH];exact List.nodup_cons.2 ⟨hnin,hr1.nodup⟩,fun r hx=> ?_,hr1.loops,hr1.inj⟩;simp only [AZ,A1,AP] at hx;rcases hx with rfl | hx
       .exact ⟨he.size,hs1,by show (w.heap.push _)[w.heap.size]? =_;simp⟩
       .exact hr1.marks r hx
      refine ⟨w.heap.size+1,[w.heap.size],_,w.heap.size,run_enterLoop_outer _ _ _ _ _,?_,by have:=he.size;omega,?_,fE.grow _,(he.grow _).grow _,(fun e=>by cases e),gr _ _ _ fN,fun j L l' hL e=> ?_,?_⟩
      .grind [World.alloc_heap_new]
      .grind [Sp.fresh]
      .have:=far w hs.rest j L l' hL e;omega
      .show _<=((w.heap.push _).push _).size
       grind
     | some l0=>
      obtain ⟨j0,rfl⟩: ∃j0,rnd=some j0:=by
       grind
      obtain ⟨hma,l1,hlp1,e2⟩:=eT;rw [hr] at e2;obtain rfl:=Ag e2;subst hma;have gD: ∃L0,DE lps j0=some L0:=BQ.1 hrk;obtain ⟨L0,hL0⟩:=gD;obtain ⟨l2,q1,q2,q3,tm,fn',d,q4,q5⟩:=hs.rest.loops j0 L0 hL0;rw [hlp1] at q1;obtain rfl:=Ag q1;refine ⟨w.heap.size,[],_,_,run_enterLoop_inner q4 _ _ _ _ _,World.alloc_heap_new _ _,he.size,Sp.fresh eD _,eD.grow _,he.grow _,(fun _=>rfl),gr _ _ _ hs.rest,fun j L l' hL e=> ?_,?_⟩
      .have:=far w hs.rest j L l' hL e;omega
      simp_all
    obtain ⟨l,mk,w1,d,hen,gI,hlow,hsp,fE,hev1,hmk,fN,hne,hsz⟩:=lay;have hle:ρ.le (lpAdd ρ next l):=x3w fE.lp_none;have hlpj:(lpAdd ρ next l).lp next=some l:=AG rfl
    have get: ∀i L,DE (Fg lps next (some L)) i=if i=next then some L else DE lps i:=fun i L=>T.get_set none lps next (some L) i
    have hlps: ∀j L l',DE lps j=some L->(lpAdd ρ next l).lp j=some l'->j≠next->ρ.lp j=some l':=fun j L l' _ e hj=>by
     have e:(if j=next then some l else ρ.lp j)=some l':=e
     grind
    have hrest2:D3 P w0.heap.size (lpAdd ρ next l) cs (Fg lps next (some ⟨.ready,none,cx.n,env,params.toList,assign,body⟩)) css w1 (mk++ma) mb:=by
     refine ⟨fN.cs.mono hle,fN.nodup,fN.marks,fun j L hL=> ?_,fun j j' L L' l' hL hL' e e'=> ?_⟩
     .rw [get] at hL;by_cases hj:j=next
      .subst hj;rw [AG rfl] at hL;obtain rfl:=Ag hL;exact ⟨l,hlpj,hlow,hsp,a.tmps,b.fn,d,by simp_all,eI.mono hle⟩
      .rw [Az hj] at hL;obtain ⟨l2,q1,q2,q3,tm,fn',d',q4,q5⟩:=fN.loops j L hL;exact ⟨l2,hle.2.2 _ _ q1,q2,q3,tm,fn',d',q4,q5.mono hle⟩
     .rw [get] at hL hL';by_cases hj:j=next <;> by_cases hj':j'=next
      .rw [hj,hj']
      .grind
      .grind
      .rw [Az hj] at hL;rw [Az hj'] at hL';exact fN.inj j j' L L' l' hL hL' (hlps _ _ _ hL e hj) (hlps _ _ _ hL' e' hj')
    have hf:=(show Vk ρ (St.env ⟨env,mem,next,orc,ob⟩) cx.n a.tmps from eI).eval f;rw [hg] at hf;generalize hw':a.eval f=u at hf;cases hf with
    | fn _ _ cvs hl hh=>
     have eG:Vo (Zr (lpAdd ρ next l)) (B3.yld next::caps) (#[Value.func (.yield l) #[] #[]]++cvs).toList :=by rw [Array.toList_append];exact .cons (.yld _ _ hlpj) (Vo.of (by simp_all) fun i h1 h2=>by simpa using (hh i h1 (by grind)).mono hle)
     have eS:=PU hN hfn (by rw [hb];rfl) (#[Value.func (.yield l) #[] #[]]++cvs) w1;have fF:=stepR_rangeFunc (P:=P) (b:=b) (a:=a) (k:=k') (cs:=css++cs0) (g:=f) (d:=⟨.fn (.func g) cvs, #[Value.func (.yield l) #[] #[]]⟩) (w₁':=w1) hen
      (by simp_all [resolve,Deferred.ofValue,Act.eval]) (by simp only [invoke];exact eS)
     have hfr:Fc (lpAdd ρ next l) cx none (.inRangeFunc next::k0) rnd env b {a with defers:=mk.map Nb++a.defers} (.inRangeFunc l::k') (mk++ma):=
      ⟨eI.mono hle,by grind,.cons (.inR _ _ hlpj) (htl.mono fun _ _=>Ee.mono hle),trivial,by
       cases rnd with
       | none=>exact eT
       | some j=>
        obtain ⟨h0,l',h1,h2⟩:=eT;exact ⟨by grind,l',hle.2.2 _ _ h1,h2⟩⟩
     obtain ⟨_,_,_,_,_,b',a',k2,hent,hsr⟩:=x1z h hfr hs.lv hrest2 (show B9 _ mem (next+1) w1 from fE.lpAdd l) eG;refine ⟨lpAdd ρ next l,b',a',k2,_,w1,_,_,.one ?_,hsr,?_,by cases css <;> rfl,hsz⟩
     .rw [show C'.ro=none by rw [hCe],<-hent];exact fF
     .rw [hCe];exact hev1.lpAdd fE l
   .cases h
  ·-- a round begins
   rename_i k0;split at h
   .rename_i j;split at h
    .rename_i pend n env params assign body hlg;obtain rfl:=Ag h;refine ⟨⟨hfl.cx,hfl.cs,hfl.le⟩,Xm.refl _ _,fun ho m0 n0 ρ0 w0 ρ b a k css w ma mb hs he cs0=> ?_⟩;obtain ⟨eI,hdf,htd,hro,eT⟩:=hs.top;obtain ⟨rfl,lr0,hlp0,hrb⟩:=eT;obtain ⟨k',rfl,htl⟩:=DP.item rfl htd;obtain ⟨lr,hla⟩:=hs.rest.loops j _ hlg;have hla':=hla;obtain ⟨hlp,hlow,hsp,ltmps,lfn,ld,gI,fQ⟩:=hla;rw [hlp] at hlp0;obtain rfl:=Ag hlp0;have eH:=run_beginRound (P:=P) gI rfl;have eP:=hs.rest.record (w':=w.putObj lr (.loop ⟨.busy,pend,lfn,ltmps,params.toArray,assign,body,ld⟩)) hlg hla' (L':=⟨.busy,pend,n,env,params,assign,body⟩)
      ⟨hlp,hlow,hsp.turned (Vn.put _ _ _),ltmps,lfn,ld,World.putObj_heap_same hsp.1,fQ⟩ (Vn.put _ _ _)
     refine ⟨ρ,b,a,k',css,_,[],mb,.one (stepR_beginRound hrb eH),⟨⟨eI,hdf,htl,trivial,⟨rfl,lr,hlp,hrb⟩⟩,hs.lv,eP,hs.rel.turned (fun r hr=>by grind) (Vn.put _ _ _)⟩,he.turned (m:=[lr]) (fun r hr=>by grind) (Vn.put _ _ _),rfl,BZ (Vn.put _ _ _).size.symm⟩
    .cases h
   .cases h
  ·-- a loop's end
   rename_i j k0;split at h
   .cases h
   .rename_i Cf pend n env params assign body hnb hlg;obtain rfl:=Ag h;refine ⟨⟨hfl.cx,hfl.cs,hfl.le⟩,Xm.refl _ _,fun ho m0 n0 ρ0 w0 ρ b a k css w ma mb hs he cs0=> ?_⟩;obtain ⟨eI,hdf,htd,hro,eT⟩:=hs.top;obtain ⟨lr,hla⟩:=hs.rest.loops j _ hlg;have hla':=hla;obtain ⟨hlp,hlow,hsp,ltmps,lfn,ld,gI,fQ⟩:=hla;cases htd with
    | @cons _ y _ k' hx htl=>
     cases hx with
     | same _ hp=>cases hp
     | endR _ l hl =>
      rw [hlp] at hl;obtain rfl:=Ag hl;have hb:Cf≠ .busy :=fun e=>by grind
      have eH:=run_endLoop (P:=P) gI hb;have eP:=hs.rest.record (w':=w.putObj lr (.loop ⟨.exhausted,pend,lfn,ltmps,params.toArray,assign,body,ld⟩)) hlg hla' (L':=⟨.exhausted,pend,n,env,params,assign,body⟩)
       ⟨hlp,hlow,hsp.turned (Vn.put _ _ _),ltmps,lfn,ld,World.putObj_heap_same hsp.1,fQ⟩ (Vn.put _ _ _)
      refine ⟨ρ,b,a,_,css,_,ma,mb,.one (stepR_endRangeFunc eH),⟨⟨eI,hdf,?_,trivial,eT⟩,hs.lv,eP,hs.rel.turned (fun r hr=>by grind) (Vn.put _ _ _)⟩,he.turned (m:=[lr]) (fun r hr=>by grind) (Vn.put _ _ _),rfl,BZ (Vn.put _ _ _).size.symm⟩;cases pend with
      | none=>exact htl
      | some c=>exact .cons (.same _ rfl) htl
   .cases h
  .cases h
theorem v4c {S:B6} {Rc:CF} {n:Nat} {C:CG}:FM P S Rc (n+1) C=(bif G1 C then some C else match Pp P S Rc C with
  | some C'=>FM P S Rc n C'
  | none=>none):=rfl
theorem y8f {C:CG} (h:G1 C=true):C.ro=none/\C.rnd=none/\C.cs=[]/\(C.todo=[]\/ ∃t,C.todo=.code .ret ::t):=by
 unfold G1 at h
 grind
theorem Eu.trans {fl:Nat} {A B C:CG} (h:Eu P fl A B) (k:Eu P fl B C):Eu P fl A C:=by intro m0 n0 ρ0 w0 ρ b a t css w ma mb hs he cs0;obtain ⟨ρ1,b1,a1,t1,css1,w1,ma1,mb1,s1,r1,e1,q1,z1⟩:=h m0 n0 ρ0 w0 ρ b a t css w ma mb hs he cs0;obtain ⟨ρ2,b2,a2,t2,css2,w2,ma2,mb2,s2,r2,e2,q2,z2⟩:=k m0 n0 ρ0 w0 ρ1 b1 a1 t1 css1 w1 ma1 mb1 r1 e1 cs0;exact ⟨ρ2,b2,a2,t2,css2,w2,ma2,mb2,s1.trans s2,r2,e2,q2.trans q1,AN z1 z2⟩
theorem x2w {S:B6} {Rc:CF} (hN:EJ P) (hmx:P.follows .mixedOrders =true) (hS:Zv P S) (hCI:Ef Rc) (hC:GX P Rc) {fl:Nat}: ∀(n:Nat) (C C':CG),Fl fl C->FM P S Rc n C=some C'->G1 C'=true/\Xm fl C.st C'.st/\(C'.st.ob=true->Eu P fl C C')
 | 0,C,st',_,h=>by cases h
 | n+1,C,C',hfl,h=>by
  rw [v4c] at h;cases hf:G1 C with
  | true=>rw [hf] at h;obtain rfl:=Ag h;exact ⟨hf,Xm.refl _ _,fun _=>Eu.refl fl C⟩
  | false=>
   rw [hf,Ab] at h;split at h
   .rename_i C1 h1;have s1:=x5v hN hmx hS hCI hC hfl h1;obtain ⟨f1,f4,f5⟩:=x2w hN hmx hS hCI hC n C1 C' s1.fls h;exact ⟨f1,s1.inv.trans f4,fun ho=>(s1.leads (f4.ob ho)).trans (f5 ho)⟩
   .cases h
theorem DP.refl_plain {ρ:B7}: ∀(k:List Item),k.all L9=true->DP ρ k k
 | [],_=>.nil
 | x::k,h=>by simp only [List.all_cons,Ad] at h;exact .cons (.same x h.1) (DP.refl_plain k h.2)
theorem x1c (base:Nat) (ρ:B7) (w:World):D3 P base ρ [] .leaf [] w [] []:=
 ⟨.nil,List.nodup_nil,(fun r hr=>by cases hr),(fun j L hL=>by cases hL),(fun j j' L L' l hL=>by cases hL)⟩
theorem v4d (hN:EJ P) (hmx:P.follows .mixedOrders =true) {S:B6} (hS:Zv P S) (n:Nat): ∀d,Ef (Ng P S n d)/\GX P (Ng P S n d)
 | 0=>⟨(fun cx todo st st' h=>by cases h),(fun cx todo st st' _ h=>by cases h)⟩
 | d+1=>by
  obtain ⟨hCI,hC⟩:=v4d hN hmx hS n d;have key: ∀{cx todo st st'},Ng P S n (d+1) cx todo st=some st'->todo.all L9=true/\Fl cx.floor ⟨cx,none,todo,none,[],st,[],.leaf⟩/\ ∃C',FM P S (Ng P S n d) n ⟨cx,none,todo,none,[],st,[],.leaf⟩=some C'/\C'.cx.n=cx.n/\C'.st=st':=by
   intro cx todo st st' h;have h:(bif todo.all L9&&Nat.ble cx.floor st.next then match FM P S (Ng P S n d) n ⟨cx,none,todo,none,[],st,[],.leaf⟩ with
    | some C=>bif Nat.beq C.cx.n cx.n then some C.st else none
    | none=>none
    else none)=some st':=h
   obtain ⟨hp,h⟩:=Zd h;simp only [Ad] at hp;refine ⟨hp.1,⟨rfl,fun af haf=>(by cases haf),Aj hp.2⟩,?_⟩;split at h
   .rename_i C' hr;obtain ⟨hn,h⟩:=Zd h;simp_all
   .cases h
  refine ⟨fun cx todo st st' h=> ?_,fun cx todo st st' hcx h ho ρ a w b cs hd eI eD=> ?_⟩
  .obtain ⟨_,hfl,C',hr,_,rfl⟩:=key h;exact (x2w hN hmx hS hCI hC n _ C' hfl hr).2.1
  .obtain ⟨hpl,hfl,C',hr,hn,rfl⟩:=key h;obtain ⟨f1,f2,f3⟩:=x2w hN hmx hS hCI hC n _ C' hfl hr;obtain ⟨e1,e2,e3,e4⟩:=y8f f1;obtain ⟨ρ',b',a',k',css',w',ma',mb',s1,r1,v1,q1,_⟩:=f3 ho st.mem st.next ρ w ρ {b with roundOf:=none} a todo [] w [] []
    ⟨⟨eI,hd,DP.refl_plain todo hpl,trivial,rfl⟩,fun h=>absurd rfl h,x1c _ _ _,eD⟩ (Ev.refl _ _ _ _ _ eD.dom) cs
   have hcs:=r1.rest.cs;rw [e3] at hcs;cases hcs;obtain ⟨w2,s2,henv',eZ,fR,_,_⟩:=Y0 r1 e1 e2 e4 rfl v1 cs;refine ⟨ρ',{a' with defers:=[]},k',w2,?_,rfl,by grind,eZ,fR⟩;have hb:b.at a todo=Frame.atR {b with roundOf:=none} a (Vh none todo):=rfl;have hb':Frame.atR b' {a' with defers:=[]} k'=b.at {a' with defers:=[]} k':=by
    have q:(b'.fn,b'.kind,b'.roundOf)=(b.fn,b.kind,none):=q1
    grind [Frame.atR,Frame.at]
   rw [hb,<-hb'];exact s1.trans s2
end
structure Cl where
 keep:List Nat
 frz:List Nat
 slots:List (Option (List Nat))
 lslots:List (Option (List Nat)):=[]
def F7 (b:Nat):List Nat->Nat->Option Nat
 | [],_=>none
 | x::l,i=>bif Nat.beq x b then some i else F7 b l (i+1)
def hasN (b:Nat):List Nat->Bool
 | []=>false
 | x::l=>bif Nat.beq x b then true else hasN b l
def Jk (cells:List B3) (off sz:Nat):Nat->List B3:=fun k=>(cells.drop (off+k*sz)).take sz
def ID (P:Program) (blk:B8):B3->B3
 | .ptr _ o=>.dptr (blk.cells.drop o)
 | .sl _ off len _=>match P.info? blk.ty with
  | some i=>bif Nat.ble (off+len*i.size) blk.cells.length then .dat len (Jk blk.cells off i.size) else .undef
  | none=>.undef
 | .sla _ sz off len _=>match blk.arr with
  | some A=>bif Nat.beq A.sz sz&&Nat.ble (off+len) A.n then .dat len (fun k=>A.get (off+k)) else .undef
  | none=>.undef
 | _=>.undef
def FN (P:Program) (mem:CD) (N:Cl) (b:Nat) (v:B3) (f:Nat->B3):B3:=
 match F7 b N.keep 0 with
 | some b'=>f b'
 | none=>bif hasN b N.frz then match Yi mem b with
   | some blk=>ID P blk v
   | none=>.undef
  else .undef
def Ch (P:Program) (mem:CD) (N:Cl):Nat->B3->B3
 | 0,_=>.undef
 | d+1,v=>match v with
  | .ptr b o=>FN P mem N b (.ptr b o) fun b'=>.ptr b' o
  | .sl b off len cap=>FN P mem N b (.sl b off len cap) fun b'=>.sl b' off len cap
  | .sla b sz off len cap=>FN P mem N b (.sla b sz off len cap) fun b'=>.sla b' sz off len cap
  | .epa b sz i fo=>FN P mem N b (.epa b sz i fo) fun b'=>.epa b' sz i fo
  | .yld j=>match F7 j N.keep 0 with
   | some j'=>.yld j'
   | none=>.undef
  | .slv b sz off len=>match F7 b N.keep 0 with
   | some b'=>.slv b' sz off len
   | none=>.undef
  | .mapr b=>match F7 b N.keep 0 with
   | some b'=>.mapr b'
   | none=>.undef
  | .agg cs=>.agg (cs.map (Ch P mem N d))
  | .tup cs=>.tup (cs.map (Ch P mem N d))
  | .fn f cs=>.fn f (cs.map (Ch P mem N d))
  | .fnb f cs=>.fnb f (cs.map (Ch P mem N d))
  | .ifc t v=>.ifc t (Ch P mem N d v)
  | v=>v
def T.map (f:B3->B3) (t:T B3):T B3:=
 T.rec (motive:=fun _=>T B3) .leaf (fun v _ _ l r=>.node (f v) l r) t
def Lm (f:B3->B3) (env:T B3):List Nat->T B3
 | []=>.leaf
 | t::l=>T.set .undef (Lm f env l) t (f (T.get .undef env t))
def Is (f:B3->B3) (env:T B3):Option (List Nat)->T B3
 | none=>T.map f env
 | some l=>Lm f env l
def E0 (f:B3->B3):CK->CK
 | .flat g=>.flat g
 | .one r cs b=>.one r (cs.map f) (E0 f b)
 | .alt c a b=>.alt c (E0 f a) (E0 f b)
def Pi (P:Program) (mem:CD) (N:Cl):B8->B8
 | ⟨cells,ty,none⟩=>⟨cells.map (Ch P mem N 6),ty,none⟩
 | ⟨_,ty,some A⟩=>⟨rows A.n (E0 (Ch P mem N 6) A.rw).get,ty,some ⟨A.sz,A.n,E0 (Ch P mem N 6) A.rw⟩⟩
def Pf :CK->Bool
 | .flat g=>pd (∀i,(g i).all (pf 6)=true)
 | .one _ _ b=>Pf b
 | .alt _ a b=>Pf a&&Pf b
def XB (blk:B8):Bool:=match blk.arr with
 | none=>true
 | some A=>Pf A.rw
def Eb (P:Program) (mem:CD) (N:Cl):List Nat->Nat->CD×Bool
 | [],_=>(.leaf,true)
 | b::l,i=>match Eb P mem N l (i+1) with
  | (m,o)=>match Yi mem b with
   | none=>(m,o)
   | some blk=>(Wx m i (some (Pi P mem N blk)),XB blk&&o)
def E8 (mem:CD):List Nat->Bool
 | []=>true
 | b::l=>match Yi mem b with
  | none=>E8 mem l
  | some blk=>(match blk.arr with
   | none=>blk.cells.all (pf 6)
   | some A=>pd (∀i,(A.get i).all (pf 6)=true))&&E8 mem l
def MC (f:B3->B3) (lps:CL):List Nat->Nat->List (Option (List Nat))->CL
 | [],_,_=>.leaf
 | b::l,i,sl=>match DE lps b with
  | none=>MC f lps l (i+1) sl.tail
  | some ⟨st,pend,n,env,params,assign,body⟩=>Fg (MC f lps l (i+1) sl.tail) i (some ⟨st,pend,n,Is f env (sl.headD none),params,assign,body⟩)
def P2 (keep:List Nat):Item->Option Item
 | .inRangeFunc j=>(F7 j keep 0).map .inRangeFunc
 | .endRangeFunc j=>(F7 j keep 0).map .endRangeFunc
 | x=>bif L9 x then some x else none
def PK (keep:List Nat):List Item->Option (List Item)
 | []=>some []
 | x::l=>match P2 keep x,PK keep l with
  | some y,some m=>some (y::m)
  | _,_=>none
def Rm (keep:List Nat):Option Nat->Option (Option Nat)
 | none=>some none
 | some j=>(F7 j keep 0).map some
def Pm (f:B3->B3) (keep:List Nat):List CZ->List (Option (List Nat))->Option (List CZ)
 | [],_=>some []
 | ⟨cx,ro,todo,rnd,rs,env⟩::cs,sl=>match PK keep todo,Rm keep rnd,Pm f keep cs sl.tail with
  | some todo',some rnd',some cs'=>some (⟨cx,ro,todo',rnd',rs,Is f env (sl.headD none)⟩::cs')
  | _,_,_=>none
def GU :List Nat->List Nat->Bool
 | [],_=>true
 | b::l,frz=> !hasN b frz&&(!hasN b l&&GU l frz)
def XH (P:Program) (N:Cl):CG->Option CG
 | ⟨cx,ro,todo,rnd,rs,⟨env,mem,next,orc,ob⟩,cs,lps⟩=>
  match PK N.keep todo,Rm N.keep rnd,Pm (Ch P mem N 6) N.keep cs N.slots.tail with
  | some todo',some rnd',some cs'=>
   bif GU N.keep N.frz then
    match Eb P mem N N.keep 0 with
    | (mem',o)=>some ⟨cx,ro,todo',rnd',rs,⟨Is (Ch P mem N 6) env (N.slots.headD none),mem',N.keep.length,[],o&&(E8 mem N.frz&&ob)⟩,cs',MC (Ch P mem N 6) lps N.keep 0 N.lslots⟩
   else none
  | _,_,_=>none
def GW :Code->List Nat->List Item->Code×List Item
 | c,[],k=>(c,k)
 | .seq a b,0::p,k=>GW a p (.code b::k)
 | .seq _ b,_::p,k=>GW b p k
 | .block id c,_::p,k=>GW c p (.inBlock id::k)
 | .loop c,_::p,k=>GW c p (.inLoop c::k)
 | .scope c,_::p,k=>GW c p (.inScope c::k)
 | .cond _ a _,0::p,k=>GW a p k
 | .cond _ _ b,_::p,k=>GW b p k
 | .rangeFunc _ _ a b,0::p,_=>GW a p [.beginRound,.code b]
 | .rangeFunc _ _ _ b,_::p,_=>GW b p []
 | c,_::_,k=>(c,k)
def Zf (P:Program) (f:FuncId) (p:List Nat) (j:Nat):List Item:=match GW (u8u P f) p [] with
 | (c,k)=>(.code c::k).drop j
def DI (P:Program) (f:FuncId) (p:List Nat):Code:=(GW (u8u P f) p []).1
def CV (P:Program) (f:FuncId) (p:List Nat) (i:Nat):Option CQ:=match DI P f p with
 | .region _ ops _=>some (ops,i,ops.toList.drop i)
 | _=>none
def XC (P:Program) (S:B6) (Rc:CF) (n:Nat):CG->Option CG:=
 Nat.rec (motive:=fun _=>CG->Option CG) (fun C=>some C) (fun _ R C=>match Pp P S Rc C with
  | some C'=>R C'
  | none=>none) n
section
variable {P:Program}
theorem Jj {p:Prop} (h:pd p=true):p:= @Av p (Classical.propDecidable p) h
theorem Yh {p:Prop} (h:p):pd p=true:= @Aa p (Classical.propDecidable p) h
theorem x1s {b:Nat}: ∀{l:List Nat} {i j:Nat},F7 b l i=some j->i<=j/\l[j - i]? =some b
 | [],i,j,h=>by cases h
 | x::l,i,j,h=>by
  unfold F7 at h;rcases Ua h with ⟨hx,h⟩ | ⟨_,h⟩
  .simp_all
  .obtain ⟨h1,h2⟩:=x1s h
   grind
theorem U8 {b:Nat}: ∀{l:List Nat},hasN b l=true↔b∈l
 | []=>by simp [hasN]
 | x::l=>by
  unfold hasN;cases hx:Nat.beq x b with
  | true=>simp [Ah hx]
  | false=>
   have:x≠b:=fun e=>by rw [e,BC] at hx;cases hx
   rw [Ab,U8,AP];exact ⟨.inr,fun h=>h.resolve_left fun e=>this e.symm⟩
theorem YZ : ∀{l frz:List Nat},GU l frz=true->l.Nodup/\ ∀b∈l,b ∉ frz
 | [],_,_=>⟨List.nodup_nil,fun b hb=>by cases hb⟩
 | x::l,frz,h=>by
  unfold GU at h;simp only [Ad,Be] at h;obtain ⟨h1,h2,h3⟩:=h;obtain ⟨i1,i2⟩:=YZ h3;have n1:x ∉ frz:=fun hm=>by rw [U8.2 hm] at h1;cases h1
  have n2:x ∉ l:=fun hm=>by rw [U8.2 hm] at h2;cases h2
  exact ⟨List.nodup_cons.2 ⟨n2,i1⟩,fun b hb=>by
   rcases AP.1 hb with rfl | hb
   .exact n1
   .exact i2 b hb⟩
def Fz (ρ:B7) (mem:CD) (N:Cl) (k:Nat):Prop:= ∃b l,b∈N.frz/\ρ b=some l/\(Yi mem b).isSome =true/\l.blk=k
def DJ (ρ:B7) (mem:CD) (N:Cl) (w:World):B7:=
 ⟨fun b'=>(N.keep[b']?).bind fun b=>ρ b,fun k=> @ite _ (Fz ρ mem N k) (Classical.propDecidable _) (w.heap[k]?) (ρ.fz k),fun j'=>(N.keep[j']?).bind fun j=>ρ.lp j⟩
theorem Q3 {ρ:B7} {mem:CD} {next:Nat} {w:World} (h:B9 ρ mem next w) (N:Cl) {k:Nat} {o:Obj} (e:ρ.fz k=some o):(DJ ρ mem N w).fz k=some o:=by
 show @ite _ (Fz ρ mem N k) (Classical.propDecidable _) (w.heap[k]?) (ρ.fz k)=some o;by_cases hf:Fz ρ mem N k
 .obtain ⟨b,l,_,hb,hm,rfl⟩:=hf;have:=h.sep b l hb hm
  grind
 grind
theorem w0t {ρ:B7} {mem:CD} {w:World} {N:Cl} {b:Nat} {l:CR} (hb:b∈N.frz) (hl:ρ b=some l) (hm:(Yi mem b).isSome =true):(DJ ρ mem N w).fz l.blk=w.heap[l.blk]? :=
 AG ⟨b,l,hb,hl,hm,rfl⟩
theorem QR {ρ:B7} {mem:CD} {next:Nat} {w:World} (h:B9 ρ mem next w) (N:Cl):ρ.bare.le (DJ ρ mem N w).bare :=⟨fun _ _ e=>(by cases e),fun _ _ e=>Q3 h N e,fun _ _ e=>(by cases e)⟩
theorem Jo {ρ:B7} {mem:CD} {w:World} {N:Cl} {b b':Nat} (h:F7 b N.keep 0=some b'):(DJ ρ mem N w) b'=ρ b/\(DJ ρ mem N w).lp b'=ρ.lp b:=by
 obtain ⟨_,h2⟩:=x1s h;rw [Nat.sub_zero] at h2;constructor
 .show (N.keep[b']?).bind _=_;rw [h2];rfl
 .show (N.keep[b']?).bind _=_;rw [h2];rfl
theorem UL {mem:CD}: ∀{frz:List Nat},E8 mem frz=true-> ∀b∈frz,∀blk,Yi mem b=some blk->(match blk.arr with | none=>blk.cells.all (pf 6)=true | some A=> ∀i,(A.get i).all (pf 6)=true)
 | [],_,b,hb,_,_=>by cases hb
 | x::l,h,b,hb,blk,hm=>by
  unfold E8 at h;rcases AP.1 hb with rfl | hb
  .rw [hm] at h;simp only [Ad] at h;cases hA:blk.arr with
   | none=>have:=h.1;rw [hA] at this;exact this
   | some A=>have:=h.1;rw [hA] at this;exact Jj this
  .cases hx:Yi mem x with
   | none=>rw [hx] at h;exact UL h b hb blk hm
   | some blk'=>rw [hx] at h;simp only [Ad] at h;exact UL h.2 b hb blk hm
theorem Y5 {mem:CD} {next:Nat} {w:World} {ρ:B7} (h:B9 ρ mem next w) {N:Cl} (ho:E8 mem N.frz=true) {b:Nat} (hb:b∈N.frz) {blk:B8} (hm:Yi mem b=some blk) {l:CR} (hl:ρ b=some l):
  ∃val:Nat->Value,∀(i:Nat) (hi:i<blk.cells.length),Zr (DJ ρ mem N w).bare blk.cells[i] (val i)/\HJ (DJ ρ mem N w).fz l.blk (l.base+i) (val i):=by
 have hno:blk.isObj=false:=by
  cases hx:blk.isObj with
  | false=>rfl
  | true=>
   have hq:=UL ho b hb blk hm;obtain ⟨cells,ty,arr⟩:=blk;unfold B8.isObj at hx;split at hx
   .rename_i e;simp only [B8.mk.injEq] at e;obtain ⟨rfl,_,rfl⟩:=e;simp [pf] at hq
   .cases hx
 obtain ⟨_,hn,ht,har,cs,el,h1,h2,h3⟩:=(h.blk b l blk hl hm).at hno;refine ⟨fun i=>(cs[l.base+i]?).getD undef,fun i hi=> ?_⟩;obtain ⟨v,e1,e2⟩:=h3 i hi;have hpf:pf 6 blk.cells[i]=true:=by
  have:=UL ho b hb blk hm;cases hA:blk.arr with
  | none=>grind
  | some A=>
   rw [hA] at this;obtain ⟨q1,_,_⟩:=har A hA;have hmem:blk.cells[i]∈rows A.n A.get:=by grind
   grind [rows]
 dsimp only;rw [e1];refine ⟨(Kz 6 _ _ hpf e2).mono (QR h N),cs,el,(0,0),?_,e1⟩
 grind [w0t]
theorem v1c {mem:CD} {next:Nat} {w:World} {ρ:B7} (h:B9 ρ mem next w) {N:Cl} (ho:E8 mem N.frz=true) {b:Nat} (hb:b∈N.frz) {blk:B8} (hm:Yi mem b=some blk) {v:B3} {u:Value} (hv:Zr ρ v u)
  (hvb:(∃o,v=.ptr b o)\/(∃off len cap,v=.sl b off len cap)\/(∃sz off len cap,v=.sla b sz off len cap)\/ ∃sz i fo,v=.epa b sz i fo):Zr (DJ ρ mem N w) (ID P blk v) u:=by
 rcases hvb with ⟨o,rfl⟩ | ⟨off,len,cap,rfl⟩ | ⟨sz,off,len,cap,rfl⟩ | ⟨sz,i,fo,rfl⟩
 .cases hv with
  | ptr _ _ l hl=>
   obtain ⟨val,eV⟩:=Y5 h ho hb hm hl;refine .dptr _ _ _ (fun j=>val (o+j)) (fun j hj=> ?_) (fun j hj=> ?_);all_goals grind
 .simp only [ID];split
  .rename_i i hi;cases hc:Nat.ble (off+len*i.size) blk.cells.length with
   | false=>exact .undef _
   | true=>
    rw [Af];have hle:=Aj hc;cases hv with
    | sl _ _ _ _ l c hl _ eE=>
     obtain ⟨val,eV⟩:=Y5 h ho hb hm hl;have hin: ∀k,k<len->k*i.size+i.size<=len*i.size:=fun k hk=>by
      have:=AE i.size (show k+1<=len from hk)
      grind
     refine .dat len _ l.blk (l.base+off) i.size c (fun k j=>val (off+(k*i.size+j))) eE (fun k hk=> ?_) (fun k j hk hj=> ?_) (fun k j hk hj=> ?_);all_goals grind [Jk]
  .exact .undef _
 .simp only [ID];split
  .rename_i A hA;cases hc:(Nat.beq A.sz sz&&Nat.ble (off+len) A.n) with
   | false=>exact .undef _
   | true=>
    rw [Af];simp only [Ad] at hc;obtain rfl:=Ah hc.1;have hle:=Aj hc.2;cases hv with
    | slan=>exact .datn _
    | sla _ _ _ _ _ l c hl _ eE=>
     obtain ⟨val,eV⟩:=Y5 h ho hb hm hl;obtain ⟨q1,q2,q3⟩:=(h.blk b l blk hl hm).arr A hA;have fX:=Yq A.n q3;have fI: ∀k j,k<len->j<A.sz-> ∃hi:(off+k)*A.sz+j<blk.cells.length,blk.cells[(off+k)*A.sz+j]? =(A.get (off+k))[j]? :=fun k j hk hj=>by
      grind [Va]
     refine .dat len _ l.blk (l.base+off*A.sz) A.sz c (fun k j=>val ((off+k)*A.sz+j)) eE (fun k hk=>q3 _ (by omega)) (fun k j hk hj=> ?_) (fun k j hk hj=> ?_);all_goals grind
  .exact .undef _
 .exact .undef _
theorem Q1 {mem:CD} {next:Nat} {w:World} {ρ:B7} (h:B9 ρ mem next w) {N:Cl} (ho:E8 mem N.frz=true) {b:Nat} {v:B3} {u:Value} {f:Nat->B3} (hv:Zr ρ v u)
  (hvb:(∃o,v=.ptr b o)\/(∃off len cap,v=.sl b off len cap)\/(∃sz off len cap,v=.sla b sz off len cap)\/ ∃sz i fo,v=.epa b sz i fo)
  (hf: ∀b',F7 b N.keep 0=some b'->Zr (DJ ρ mem N w) (f b') u):Zr (DJ ρ mem N w) (FN P mem N b v f) u:=by
 unfold FN;split
 .grind
 .cases hc:hasN b N.frz with
  | false=>exact .undef _
  | true=>
   rw [Af];split
   .grind [v1c,U8]
   .exact .undef _
theorem PR {mem:CD} {next:Nat} {w:World} {ρ:B7} (h:B9 ρ mem next w) {N:Cl} (ho:E8 mem N.frz=true): ∀(d:Nat) (v:B3) (u:Value),Zr ρ v u->Zr (DJ ρ mem N w) (Ch P mem N d v) u
 | 0,_,_,_=>.undef _
 | d+1,v,u,hv=>by
  have ih:=fun v u=>PR h ho (N:=N) d v u;have list: ∀{cs:List B3} {vs:Array Value},cs.length=vs.size->(∀(i:Nat) (h1:i<cs.length) (h2:i<vs.size),Zr ρ cs[i] vs[i])->
    (cs.map (Ch P mem N d)).length =vs.size/\ ∀(i:Nat) (h1:i<(cs.map (Ch P mem N d)).length) (h2:i<vs.size),Zr (DJ ρ mem N w) (cs.map (Ch P mem N d))[i] vs[i]:=fun hl hh=>
   ⟨by simpa using hl,fun i h1 h2=>by simpa using ih _ _ (hh i (by simpa using h1) h2)⟩
  unfold Ch;cases hv with
  | undef=>exact .undef _
  | bool b=>exact .bool b
  | int k n=>exact .int k n
  | str s=>exact .str s
  | agg cs vs hl hh=>exact .agg _ _ (list hl hh).1 (list hl hh).2
  | tup cs vs hl hh=>exact .tup _ _ (list hl hh).1 (list hl hh).2
  | fn f cs vs hl hh=>exact .fn f _ _ (list hl hh).1 (list hl hh).2
  | fnb f cs vs hl hh=>exact .fnb f _ _ (list hl hh).1 (list hl hh).2
  | ptr b o l hl=>exact Q1 h ho (.ptr b o l hl) (.inl ⟨o,rfl⟩) fun b' hb'=>.ptr b' o l (by rw [(Jo hb').1];exact hl)
  | nilp=>exact .nilp
  | sl b off len cap l c hl hc eE=>exact Q1 h ho (.sl b off len cap l c hl hc eE) (.inr (.inl ⟨off,len,cap,rfl⟩)) fun b' hb'=>.sl b' off len cap l c (by rw [(Jo hb').1];exact hl) hc eE
  | nils=>exact .nils
  | sla b sz off len cap l c hl hc eE=>exact Q1 h ho (.sla b sz off len cap l c hl hc eE) (.inr (.inr (.inl ⟨sz,off,len,cap,rfl⟩))) fun b' hb'=>.sla b' sz off len cap l c (by rw [(Jo hb').1];exact hl) hc eE
  | slan b sz off cap=>exact Q1 h ho (.slan b sz off cap) (.inr (.inr (.inl ⟨sz,off,0,cap,rfl⟩))) fun b' hb'=>.slan b' sz off cap
  | epa b sz i fo l hl=>exact Q1 h ho (.epa b sz i fo l hl) (.inr (.inr (.inr ⟨sz,i,fo,rfl⟩))) fun b' hb'=>.epa b' sz i fo l (by rw [(Jo hb').1];exact hl)
  | nilf=>exact .nilf
  | yld j l hl=>
   simp only;split
   .rename_i j' hj';exact .yld j' l (by rw [(Jo hj').2];exact hl)
   .exact .undef _
  | slv b sz off len l c hl eE=>
   simp only;split
   .rename_i j' hj';exact .slv j' sz off len l c (by rw [(Jo hj').1];exact hl) eE
   .exact .undef _
  | slve b sz off blk base c=>
   simp only;split
   .exact .slve _ sz off blk base c
   .exact .undef _
  | slvn b sz off=>
   simp only;split
   .exact .slvn _ sz off
   .exact .undef _
  | ifc t a v hv=>exact .ifc t _ _ (ih _ _ hv)
  | nili=>exact .nili
  | mapr b l hl=>
   simp only;split
   .rename_i j' hj';exact .mapr j' l (by rw [(Jo hj').1];exact hl)
   .exact .undef _
  | ifbt=>exact .ifbt
  | ifbf t v=>exact .ifbf t v
  | dat len get blk base sz cap val eM hsz hv hh=>refine .dat len get blk base sz cap val eM hsz (fun i j hi hj=>(hv i j hi hj).mono (QR h N)) (fun i j hi hj=> ?_);obtain ⟨cs,el,fz,e1,e2⟩:=hh i j hi hj;exact ⟨cs,el,fz,Q3 h N e1,e2⟩
  | datn get=>exact .datn get
  | datz get a c=>exact .datz get a c
  | nnl len get a c hd=>exact .nnl len get a c ((Kz 1 _ _ rfl hd).mono (B7.le_trans (QR h N) (RB _)))
  | dptr cs blk base val hv hh=>refine .dptr cs blk base val (fun j hj=>(hv j hj).mono (QR h N)) (fun j hj=> ?_);obtain ⟨cs',el,fz,e1,e2⟩:=hh j hj;exact ⟨cs',el,fz,Q3 h N e1,e2⟩
theorem T.get_map {f:B3->B3} (hf:f .undef =.undef): ∀(t:T B3) (i:Nat),T.get .undef (T.map f t) i=f (T.get .undef t i)
 | .leaf,i=>hf.symm
 | .node v l r,0=>rfl
 | .node v l r,i+1=>by
  show T.get .undef (.node (f v) (T.map f l) (T.map f r)) (i+1)=_;rw [T.get_succ,T.get_succ];split
  .exact T.get_map hf l _
  .exact T.get_map hf r _
theorem ZQ {f:B3->B3} (env:T B3): ∀(L:List Nat) (t:Nat),T.get .undef (Lm f env L) t=if t∈L then f (T.get .undef env t) else .undef
 | [],t=>by simp [Lm]
 | x::L,t=>by
  unfold Lm;rw [T.get_set,ZQ env L t];by_cases h:t=x
  .subst h;simp
  .simp [h]
theorem w5o {mem:CD} {next:Nat} {w:World} {ρ:B7} (h:B9 ρ mem next w) {N:Cl} (ho:E8 mem N.frz=true) {env:T B3} {n:Nat} {tmps:Array Value} (he:Vk ρ env n tmps): ∀(L:Option (List Nat)),Vk (DJ ρ mem N w) (Is (Ch P mem N 6) env L) n tmps
 | none=>by
  refine ⟨he.size,fun i=> ?_,fun i hi=> ?_⟩
  .show Zr _ (T.get .undef (T.map (Ch P mem N 6) env) i) _;rw [T.get_map rfl];exact PR h ho 6 _ _ (he.get i)
  .show T.get .undef (T.map (Ch P mem N 6) env) i=_;rw [T.get_map rfl,he.out i hi];rfl
 | some L=>by
  refine ⟨he.size,fun i=> ?_,fun i hi=> ?_⟩
  .show Zr _ (T.get .undef (Lm (Ch P mem N 6) env L) i) _;rw [ZQ];split
   .exact PR h ho 6 _ _ (he.get i)
   .exact .undef _
  .show T.get .undef (Lm (Ch P mem N 6) env L) i=_;rw [ZQ,he.out i hi];split <;> rfl
theorem x7r {mem:CD} {N:Cl}: ∀(l:List Nat) (i j:Nat),Yi (Eb P mem N l i).1 j=if i<=j then (l[j - i]?).bind fun b=>(Yi mem b).map (Pi P mem N) else none
 | [],i,j=>by simp [Eb,Yi]
 | b::l,i,j=>by
  unfold Eb;have ih:=x7r (mem:=mem) (N:=N) l (i+1);have tail:i<j->(b::l)[j - i]? =l[j - (i+1)]? :=fun h=>by rw [show j - i=(j - (i+1))+1 by omega];rfl
  cases hm:Yi mem b with
  | none=>
   show Yi (Eb P mem N l (i+1)).1 j=_;rw [ih];rcases Bq i j with h | h | h
   .rw [AG (by omega),AG (by omega),tail h]
   .subst h;rw [Az (by omega),AG (by omega)];simp [hm]
   .rw [Az (by omega),Az (by omega)]
  | some blk=>
   show Yi (Wx (Eb P mem N l (i+1)).1 i (some (Pi P mem N blk))) j=_;rw [Vi,ih];rcases Bq i j with h | h | h
   .rw [Az (by omega),AG (by omega),AG (by omega),tail h]
   .subst h;rw [AG rfl,AG (by omega)];simp [hm]
   .rw [Az (by omega),Az (by omega),Az (by omega)]
theorem ZR {mem:CD} {N:Cl}: ∀(l:List Nat) (i:Nat),(Eb P mem N l i).2=true-> ∀b∈l,∀blk,Yi mem b=some blk->XB blk=true
 | [],i,_,b,hb,_,_=>by cases hb
 | x::l,i,h,b,hb,blk,hm=>by
  unfold Eb at h;cases hx:Yi mem x with
  | none=>
   rw [hx] at h;rcases AP.1 hb with rfl | hb
   .rw [hx] at hm;cases hm
   .exact ZR l (i+1) h b hb blk hm
  | some blk'=>
   rw [hx] at h;have h:(XB blk'&&(Eb P mem N l (i+1)).2)=true:=h;simp only [Ad] at h;rcases AP.1 hb with rfl | hb
   .rw [hx] at hm;obtain rfl:=Ag hm;exact h.1
   .exact ZR l (i+1) h.2 b hb blk hm
theorem QN {f:B3->B3} {lps:CL}: ∀(l:List Nat) (i:Nat) (sl:List (Option (List Nat))) (j:Nat) (L:Cu),DE (MC f lps l i sl) j=some L->i<=j/\ ∃b L0 x,l[j - i]? =some b/\DE lps b=some L0/\L=⟨L0.st,L0.pend,L0.n,Is f L0.env x,L0.params,L0.assign,L0.body⟩
 | [],i,sl,j,L,h=>by cases h
 | b::l,i,sl,j,L,h=>by
  unfold MC at h;split at h
  .obtain ⟨h1,b',L0,x,h2,h3,h4⟩:=QN l (i+1) _ j L h
   grind
  .rename_i st pend n env params assign body hb;rw [show DE (Fg (MC f lps l (i+1) sl.tail) i (some ⟨st,pend,n,Is f env (sl.headD none),params,assign,body⟩)) j=if j=i then some ⟨st,pend,n,Is f env (sl.headD none),params,assign,body⟩ else DE (MC f lps l (i+1) sl.tail) j from T.get_set none _ i _ j] at h;by_cases hj:j=i
   .subst hj;rw [AG rfl] at h;obtain rfl:=Ag h;exact ⟨An _,b,_,_,by simp,hb,rfl⟩
   .rw [Az hj] at h;obtain ⟨h1,b',L0,x,h2,h3,h4⟩:=QN l (i+1) _ j L h
    grind
theorem w0z {mem:CD} {w:World} {ρ:B7} {N:Cl} {x x' y:Item} (h:P2 N.keep x=some x') (hx:Ee ρ x y):Ee (DJ ρ mem N w) x' y:=by
 cases hx with
 | inR j l e=>simp only [P2,Ao] at h;obtain ⟨j',hj,rfl⟩:=h;exact .inR j' l (by rw [(Jo hj).2];exact e)
 | endR j l e=>simp only [P2,Ao] at h;obtain ⟨j',hj,rfl⟩:=h;exact .endR j' l (by rw [(Jo hj).2];exact e)
 | same x hp=>
  have:P2 N.keep x=some x:=by
   unfold P2;split
   .cases hp
   .cases hp
   grind
  rw [this] at h;obtain rfl:=Ag h;exact .same _ hp
theorem y3k {mem:CD} {w:World} {ρ:B7} {N:Cl}: ∀{l l' m:List Item},PK N.keep l=some l'->DP ρ l m->DP (DJ ρ mem N w) l' m
 | [],l',m,h,ht=>by cases ht;obtain rfl:=Ag h;exact .nil
 | x::l,l',m,h,ht=>by
  cases ht with
  | cons hx ht=>
   unfold PK at h;split at h
   .rename_i y k hy hk;obtain rfl:=Ag h;exact .cons (w0z hy hx) (y3k hk ht)
   .cases h
theorem w5n {mem:CD} {next:Nat} {w:World} {ρ:B7} (h:B9 ρ mem next w) {N:Cl} (ho:E8 mem N.frz=true) {cx:CI} {ro:Option CQ} {todo todo':List Item} {rnd rnd':Option Nat} {env:T B3} {b:Frame} {a:Act} {k:List Item} {ms:List Nat} (ht:PK N.keep todo=some todo') (hr:Rm N.keep rnd=some rnd')
  (hf:Fc ρ cx ro todo rnd env b a k ms) (L:Option (List Nat)):Fc (DJ ρ mem N w) cx ro todo' rnd' (Is (Ch P mem N 6) env L) b a k ms/\(rnd'=none->rnd=none):=by
 refine ⟨⟨w5o h ho hf.env L,hf.defers,y3k ht hf.todo,hf.ro,?_⟩,fun e=> ?_⟩
 .have hrn:=hf.rnd;cases rnd with
  | none=>obtain rfl:=Ag hr;exact hrn
  | some j=>simp only [Rm,Ao] at hr;obtain ⟨j',hj,rfl⟩:=hr;obtain ⟨h0,l,h1,h2⟩:=hrn;exact ⟨h0,l,by rw [(Jo hj).2];exact h1,h2⟩
 .cases rnd with
  | none=>rfl
  | some j=>simp_all [Rm]
theorem x6o {mem:CD} {next:Nat} {w:World} {ρ:B7} (h:B9 ρ mem next w) {N:Cl} (ho:E8 mem N.frz=true): ∀{cs cs':List CZ} {sl:List (Option (List Nat))} {css:List Frame} {mss:List Nat},Pm (Ch P mem N 6) N.keep cs sl=some cs'->Fb P ρ cs css mss->Fb P (DJ ρ mem N w) cs' css mss/\(cs'≠ []->cs≠ [])
 | [],cs',sl,css,mss,hc,hr=>by cases hr;obtain rfl:=Ag hc;exact ⟨.nil,id⟩
 | af::cs,cs',sl,css,mss,hc,hr=>by
  cases hr with
  | cons hf hl ht=>
   unfold Pm at hc;split at hc
   .rename_i todo' rnd' cs'' h1 h2 h3;obtain rfl:=Ag hc;obtain ⟨i1,i2⟩:=x6o h ho h3 ht;obtain ⟨f1,f2⟩:=w5n (P:=P) h ho h1 h2 hf (sl.headD none);exact ⟨.cons f1 (fun hne=>⟨(hl (i2 hne)).1,fun e=>(hl (i2 hne)).2 (f2 e)⟩) i1,fun _=>by simp⟩
   .cases hc
def LF (ρ ρ':B7) (L L':List B3):Prop:=L'.length=L.length/\ ∀(j:Nat) (h1:j<L.length) (h2:j<L'.length) (v:Value),Zr ρ L[j] v->Zr ρ' L'[j] v
theorem UB {mem:CD} {next:Nat} {w:World} {ρ:B7} (h:B9 ρ mem next w) {N:Cl} (ho:E8 mem N.frz=true): ∀(rw1:CK),Pf rw1=true-> ∀k,LF ρ (DJ ρ mem N w) (rw1.get k) ((E0 (Ch P mem N 6) rw1).get k)
 | .flat g,hf,k=>by refine ⟨rfl,fun j h1 h2 v hv=> ?_⟩;have fB: ∀i,(g i).all (pf 6)=true:=Jj hf;exact ((Kz 6 _ _ (Ax.1 (fB k) _ (A3 h1)) hv).mono (QR h N)).mono (RB _)
 | .one r cs b,hf,k=>by
  have ih:=UB h ho (N:=N) b hf k;have hc:LF ρ (DJ ρ mem N w) cs (cs.map (Ch P mem N 6)):=⟨by simp,fun j h1 h2 v hv=>by simpa using PR h ho 6 _ _ hv⟩
  simp only [E0,CK.get];cases Nat.beq k r with
  | true=>exact hc
  | false=>exact ih
 | .alt c a b,hf,k=>by
  simp only [Pf,Ad] at hf;have iha:=UB h ho (N:=N) a hf.1 k;have ihb:=UB h ho (N:=N) b hf.2 k;simp only [E0,CK.get];cases c k with
  | true=>exact iha
  | false=>exact ihb
theorem w9k {mem:CD} {next:Nat} {w:World} {ρ:B7} (h:B9 ρ mem next w) {N:Cl} (ho:E8 mem N.frz=true) (hd:GU N.keep N.frz=true) (hfl:(Eb P mem N N.keep 0).2=true):B9 (DJ ρ mem N w) (Eb P mem N N.keep 0).1 N.keep.length w:=by
 obtain ⟨hnd,hdj⟩:=YZ hd;have get: ∀j,Yi (Eb P mem N N.keep 0).1 j=(N.keep[j]?).bind fun b=>(Yi mem b).map (Pi P mem N):=fun j=>by
  grind [x7r]
 have blk: ∀{b' l},(DJ ρ mem N w) b'=some l-> ∃b,N.keep[b']? =some b/\ρ b=some l:=fun {b' l} e=>by
  have e:(N.keep[b']?).bind (fun b=>ρ b)=some l:=e
  grind
 have live: ∀{b' b},N.keep[b']? =some b->(Yi (Eb P mem N N.keep 0).1 b').isSome =true->(Yi mem b).isSome =true:=fun {b' b} e hs=>by
  grind
 refine ⟨fun b' l e=> ?_,fun b' b'' l l' e e' hbl hs hs'=> ?_,fun b' l ab e hm=> ?_,fun k o e=> ?_,fun b' l e hs=> ?_,fun b' l e=> ?_,fun b' hb=> ?_,fun j l e=> ?_,h.ldom.2.mono fun k o e=>Q3 h N e⟩
 .grind
 .obtain ⟨b,e1,e2⟩:=blk e;obtain ⟨c,e3,e4⟩:=blk e';have:=h.inj b c l l' e2 e4 hbl (live e1 hs) (live e3 hs');subst this;exact (List.getElem?_inj (Bd.1 e1).1 hnd).1 (e1.trans e3.symm)
 .obtain ⟨b,e1,e2⟩:=blk e;rw [get,e1] at hm;simp only [Option.bind_some,Ao] at hm;obtain ⟨ab0,hm0,rfl⟩:=hm;cases h.blk b l ab0 e2 hm0 with
  | obj o r ty hab hn hh=>
   subst hab;refine .obj o (r.map (Ch P mem N 6)) ty rfl (by rw [hn];simp) ?_;cases o with
   | mi ml=>obtain ⟨rfl,k⟩:=hh;exact ⟨rfl,k⟩
   | mb ml=>obtain ⟨rfl,k⟩:=hh;exact ⟨rfl,k⟩
   | it s pos=>obtain ⟨rfl,k⟩:=hh;exact ⟨rfl,k⟩
   | bld=>obtain ⟨buf,v,p,rfl,k1,k2,k3⟩:=hh;exact ⟨_,v,p,rfl,k1,PR h ho 6 _ _ k2,k3⟩
  | plain hpl=>
  obtain ⟨hty,hn,ht,har,cs,el,g1,g2,g3⟩:=hpl;obtain ⟨cells,ty,arr⟩:=ab0;cases arr with
  | none=>
   refine .plain ⟨hty,by simpa [Pi] using hn,ht,(fun A hA=>by cases hA),cs,el,g1,g2,fun i hi=> ?_⟩
   grind [Pi,PR]
  | some A=>
   obtain ⟨a1,a2,a3⟩:=har A rfl;simp only at a1;have hfb:XB ⟨cells,ty,some A⟩=true:=ZR N.keep 0 hfl b (List.mem_of_getElem? e1) _ hm0;have fI:=UB (P:=P) h ho (N:=N) A.rw hfb;have hl': ∀i,i<A.n->((E0 (Ch P mem N 6) A.rw).get i).length =A.sz:=fun i hi=>by rw [(fI i).1];exact a3 i hi
   have k1:=Yq A.n a3;have k2:=Yq A.n hl';refine .plain ⟨hty,by show l.n=(rows A.n _).length;grind,ht,(fun B hB=>by obtain rfl:=Ag hB;exact ⟨rfl,a2,hl'⟩),cs,el,g1,g2,fun i hi=> ?_⟩;have hi':i<A.n*A.sz:=by rw [<-k2];exact hi
   have hj:i %A.sz<A.sz:=Bw _ a2;have hq:i / A.sz<A.n:=Bf (by grind);have e:i / A.sz*A.sz+i %A.sz=i:=by rw [BH];exact BA i A.sz
   have hic:i<cells.length:=by grind
   have r1:=Va A.n a3 (i / A.sz) (i %A.sz) hq hj;have r2:=Va A.n hl' (i / A.sz) (i %A.sz) hq hj;rw [e] at r1 r2;have hi2:i<(rows A.n (E0 (Ch P mem N 6) A.rw).get).length :=hi;have j1:i %A.sz<(A.rw.get (i / A.sz)).length :=by rw [show A.rw.get=A.get from rfl,a3 _ hq];exact hj
   have j2:i %A.sz<((E0 (Ch P mem N 6) A.rw).get (i / A.sz)).length :=by grind
   obtain ⟨v,q1,q2⟩:=g3 i hic;have s1:cells[i]=(A.rw.get (i / A.sz))[i %A.sz]:=by
    have:cells[i]? =some (A.rw.get (i / A.sz))[i %A.sz]:=by rw [a1,r1,show A.get=A.rw.get from rfl,As j1]
    grind
   have s2:(rows A.n (E0 (Ch P mem N 6) A.rw).get)[i]'hi2=((E0 (Ch P mem N 6) A.rw).get (i / A.sz))[i %A.sz]:=by
    grind
   refine ⟨v,q1,?_⟩;show Zr _ ((rows A.n (E0 (Ch P mem N 6) A.rw).get)[i]'hi2) v;rw [s2];refine (fI _).2 _ j1 j2 v ?_
   grind
 .have e: @ite _ (Fz ρ mem N k) (Classical.propDecidable _) (w.heap[k]?) (ρ.fz k)=some o:=e;by_cases hf:Fz ρ mem N k
  .grind
  .rw [Az hf] at e;exact h.old k o e
 .obtain ⟨b,e1,e2⟩:=blk e;have hs0:=live e1 hs;have hnf: ¬Fz ρ mem N l.blk:=fun ⟨c,l',c1,c2,c3,c4⟩=>by
   have:=h.inj c b l' l c2 e2 c4 c3 hs0
   grind
  show @ite _ (Fz ρ mem N l.blk) (Classical.propDecidable _) (w.heap[l.blk]?) (ρ.fz l.blk)=none;rw [Az hnf];exact h.sep b l e2 hs0
 .obtain ⟨b,_,e2⟩:=blk e;exact h.real b l e2
 .grind
 .have e:(N.keep[j]?).bind (fun b=>ρ.lp b)=some l:=e;have:=h.ldom.1
  grind
theorem S4 {H:Dv} {mem:CD} {next:Nat} {w0 w:World} {ρ:B7} (h:B9 ρ mem next w) {N:Cl} (he:Ev (DD H) ρ 0 .leaf 0 mem next w0 w) (mem':CD) (next':Nat):Ev (DD H) (DJ ρ mem N w) 0 .leaf 0 mem' next' w0 w:=
 ⟨⟨fun b l e=>(by cases e),fun k o e=>Q3 h N (he.ext.2.1 k o e),fun j l e=>(by cases e)⟩,fun b hb=>absurd hb (AC _),AF _,fun b hb=>absurd hb (AC _),he.frame,fun b l _ e=>by
   have e:(N.keep[b]?).bind (fun b=>ρ b)=some l:=e;rw [Option.bind_eq_some_iff] at e;obtain ⟨c,_,e2⟩:=e;exact he.fresh c l (AF _) e2,he.size,he.os,he.tape,he.output,fun k hk=>by
   have hnf: ¬Fz ρ mem N k:=fun ⟨b,l,_,e2,_,e4⟩=>by
    rcases he.fresh b l (AF _) e2 with h1 | ⟨b0,l0,e0,_⟩
    .omega
    .cases e0
   show @ite _ (Fz ρ mem N k) (Classical.propDecidable _) (w.heap[k]?) (ρ.fz k)=_;rw [Az hnf];exact he.still k hk⟩
def Cw (P:Program) (C C':CG):Prop:=
 ∀(H:Dv) (w0:World) (ρ:B7) (b:Frame) (a:Act) (k:List Item) (css:List Frame) (w:World) (ma mb:List Nat),N6 P w0.heap.size C ρ b a k css w ma mb->Ev (DD H) ρ 0 .leaf 0 C.st.mem C.st.next w0 w-> ∀cs0:List Frame,
  ∃ρ' b' a' k' css' w' ma' mb',Steps P (lone (b.atR a (Vh C.ro k)) (css++cs0) w) (lone (b'.atR a' (Vh C'.ro k')) (css'++cs0) w')/\N6 P w0.heap.size C' ρ' b' a' k' css' w' ma' mb'/\Ev (DD H) ρ' 0 .leaf 0 C'.st.mem C'.st.next w0 w'/\Ly b' css'=Ly b css/\w.heap.size<=w'.heap.size
theorem Cw.refl (C:CG):Cw P C C:=fun H w0 ρ b a k css w ma mb hs he cs0=>⟨ρ,b,a,k,css,w,ma,mb,Steps.refl _ _,hs,he,rfl,An _⟩
theorem Cw.trans {A B C:CG} (h:Cw P A B) (k:Cw P B C):Cw P A C:=by intro H w0 ρ b a t css w ma mb hs he cs0;obtain ⟨ρ1,b1,a1,t1,css1,w1,ma1,mb1,s1,r1,e1,q1,z1⟩:=h H w0 ρ b a t css w ma mb hs he cs0;obtain ⟨ρ2,b2,a2,t2,css2,w2,ma2,mb2,s2,r2,e2,q2,z2⟩:=k H w0 ρ1 b1 a1 t1 css1 w1 ma1 mb1 r1 e1 cs0;exact ⟨ρ2,b2,a2,t2,css2,w2,ma2,mb2,s1.trans s2,r2,e2,q2.trans q1,AN z1 z2⟩
theorem Eu.goes {C C':CG} (h:Eu P 0 C C'):Cw P C C':=fun H w0 ρ b a k css w ma mb hs he cs0=>h .leaf 0 (DD H) w0 ρ b a k css w ma mb hs he cs0
def TX (C:CG):Bool:=Nat.beq C.cx.floor 0&&C.cs.all fun af=>Nat.beq af.cx.floor 0
theorem u4d {C:CG} (h:TX C=true):Fl 0 C:=by unfold TX at h;simp only [Ad] at h;exact ⟨Ah h.1,fun af haf=>Ah (Ax.1 h.2 af haf),AF _⟩
theorem y6p {f:B3->B3} {keep:List Nat} {fl:Nat}: ∀{cs cs':List CZ} {sl:List (Option (List Nat))},Pm f keep cs sl=some cs'->(∀af∈cs,af.cx.floor=fl)-> ∀af∈cs',af.cx.floor=fl
 | [],cs',sl,h,_,af,haf=>by obtain rfl:=Ag h;cases haf
 | a0::cs,cs',sl,h,hcs,af,haf=>by
  unfold Pm at h;split at h
  .rename_i t1 r1 c1 g1 g2 g3;obtain rfl:=Ag h;rcases AP.1 haf with rfl | haf
   .grind
   .exact y6p g3 (fun x hx=>hcs x (AK _ hx)) af haf
  .cases h
theorem w9v {N:Cl} {C C':CG} (h:XH P N C=some C') (ho:C'.st.ob=true):C.st.ob=true/\Cw P C C'/\(Fl 0 C->Fl 0 C'):=by
 obtain ⟨cx,ro,todo,rnd,rs,⟨env,mem,next,orc,ob⟩,cs,lps⟩:=C;simp only [XH] at h;split at h
 .rename_i todo' rnd' cs' h1 h2 h3;obtain ⟨hd,h⟩:=Zd h;obtain rfl:=Ag h;simp only [Ad] at ho;obtain ⟨hkm,ho2,ho3⟩:=ho;refine ⟨ho3,fun H w0 ρ b a k css w ma mb hs he cs0=> ?_,fun hfl=>⟨hfl.cx,fun af haf=> ?_,AF _⟩⟩
  .have eD:=hs.rel;simp only at eD he;obtain ⟨f1,f2⟩:=w5n (P:=P) eD ho2 h1 h2 hs.top (N.slots.headD none);obtain ⟨c1,c2⟩:=x6o (P:=P) eD ho2 h3 hs.rest.cs;refine ⟨DJ ρ mem N w,b,a,k,css,w,ma,mb,Steps.refl _ _,⟨f1,fun hne=>⟨(hs.lv (c2 hne)).1,fun e=>(hs.lv (c2 hne)).2 (f2 e)⟩,⟨c1,hs.rest.nodup,fun r hr=> ?_,fun j L hL=> ?_,fun j j' L L' l hL hL' e e'=> ?_⟩,?_⟩,S4 eD he _ _,rfl,An _⟩
   .obtain ⟨q1,⟨q2,q3,q4⟩,q5⟩:=hs.rest.marks r hr;refine ⟨q1,⟨q2,?_,fun b' l e=> ?_⟩,q5⟩
    .show @ite _ (Fz ρ mem N r) (Classical.propDecidable _) (w.heap[r]?) (ρ.fz r)=none;rw [Az fun ⟨c,l,_,e2,_,e4⟩=>q4 c l e2 e4];exact q3
    .have e:(N.keep[b']?).bind (fun b=>ρ b)=some l:=e
     grind
   .obtain ⟨_,c,L0,x,e1,e2,rfl⟩:=QN N.keep 0 _ j L hL;rw [Nat.sub_zero] at e1;obtain ⟨l,q1,q2,⟨q3,q4,q5⟩,tm,fn',d,q6,q7⟩:=hs.rest.loops c L0 e2;refine ⟨l,?_,q2,⟨q3,?_,fun b' l' e=> ?_⟩,tm,fn',d,q6,w5o (P:=P) eD ho2 q7 x⟩
    .show (N.keep[j]?).bind (fun b=>ρ.lp b)=some l
     grind
    .show @ite _ (Fz ρ mem N l) (Classical.propDecidable _) (w.heap[l]?) (ρ.fz l)=none;rw [Az fun ⟨c,l,_,e2,_,e4⟩=>q5 c l e2 e4];exact q4
    .have e:(N.keep[b']?).bind (fun b=>ρ b)=some l':=e
     grind
   .obtain ⟨_,c,L0,x,e1,e2,rfl⟩:=QN N.keep 0 _ j L hL;obtain ⟨_,c',L0',x',e1',e2',rfl⟩:=QN N.keep 0 _ j' L' hL';rw [Nat.sub_zero] at e1 e1';have e:(N.keep[j]?).bind (fun b=>ρ.lp b)=some l:=e;have e':(N.keep[j']?).bind (fun b=>ρ.lp b)=some l:=e';rw [e1] at e;rw [e1'] at e';have:=hs.rest.inj c c' L0 L0' l e2 e2' e e';subst this;exact (List.getElem?_inj (Bd.1 e1).1 (YZ hd).1).1 (e1.trans e1'.symm)
   .exact w9k eD ho2 hd hkm
  .exact y6p h3 hfl.cs af haf
 .cases h
theorem x7v {S:B6} {Rc:CF} (hN:EJ P) (hmx:P.follows .mixedOrders =true) (hS:Zv P S) (hCI:Ef Rc) (hC:GX P Rc) {fl:Nat}: ∀(n:Nat) (C C':CG),Fl fl C->XC P S Rc n C=some C'->Fl fl C'/\Xm fl C.st C'.st/\(C'.st.ob=true->Eu P fl C C')
 | 0,C,C',hfl,h=>by
  obtain rfl:=Ag h
  grind [Xm.refl,Eu.refl]
 | n+1,C,C',hfl,h=>by
  have h:(match Pp P S Rc C with
   | some C'=>XC P S Rc n C'
   | none=>none)=some C':=h
  split at h
  .rename_i C1 h1;have s1:=x5v hN hmx hS hCI hC hfl h1;obtain ⟨f1,f4,f5⟩:=x7v hN hmx hS hCI hC n C1 C' s1.fls h;exact ⟨f1,s1.inv.trans f4,fun ho=>(s1.leads (f4.ob ho)).trans (f5 ho)⟩
  .cases h
def Zg (P:Program) (f:FuncId) (args:List B3) (sym:Bool) (orc:List Bool):CG:=
 match P.funcs[f]? with
 | some fn=>⟨⟨Nat.max fn.ntmps args.length,0,sym⟩,none,[.code (fn.body.getD .ret)],none,fn.results.toList,⟨Ey args 0 .leaf,.leaf,0,orc,true⟩,[],.leaf⟩
 | none=>⟨⟨0,0,sym⟩,none,[],none,[],⟨.leaf,.leaf,0,[],true⟩,[],.leaf⟩
theorem goes_call {f:FuncId} {args:List B3} {sym:Bool} {orc:List Bool} {C':CG} {vs:List B3} {H:Dv} (hf:(P.funcs[f]?).any (fun fn=>fn.body.isSome)=true) (h:Cw P (Zg P f args sym orc) C') (hfin:G1 C'=true) (hob:(Qx P C'.st (Zg P f args sym orc).rs)=some vs)
  {vals:Array Value} {w:World} (eG:Vo (Zr (DD H)) args vals.toList) (hH: ∀k o,H k=some o->w.heap[k]? =some o) (hG:Glob H):
  Calls P f vals w fun e w'=> ∃ρ u,e=.returned u/\Out H w ρ (Js vs) u w':=by
 cases hfn:P.funcs[f]? with
 | none=>grind
 | some fn=>
  rw [hfn] at hf;have hf:fn.body.isSome=true:=hf;obtain ⟨body,hb⟩:=BQ.1 hf;have hstart:Zg P f args sym orc=⟨⟨Nat.max fn.ntmps args.length,0,sym⟩,none,[.code body],none,fn.results.toList,⟨Ey args 0 .leaf,.leaf,0,orc,true⟩,[],.leaf⟩:=by unfold Zg;grind
  rw [hstart] at h hob;simp only at hob;intro cs;obtain ⟨ρ',b',a',k',css',w',ma',mb',s1,r1,v1,q1,_⟩:=h H w (DD H) ⟨f, #[],[],[],.run,.normal,none⟩ {tmps:=vals++Array.replicate (fn.ntmps - vals.size) undef,defers:=[]} [.code body] [] w [] []
   ⟨⟨Y4 eG fn.ntmps,rfl,.cons (.same _ rfl) .nil,trivial,rfl⟩,fun h=>absurd rfl h,x1c _ _ _,x6p hH hG⟩ (Ev.refl _ _ _ _ _ (x6p hH hG).dom) cs
  obtain ⟨e1,e2,e3,e4⟩:=y8f hfin;have hcs:=r1.rest.cs;rw [e3] at hcs;cases hcs;obtain ⟨w2,s2,henv',eZ,fR,_,_⟩:=Y0 r1 e1 e2 e4 rfl v1 cs;obtain ⟨u,hu,gH⟩:=YH (fn:=fn) henv' eZ hob;have q:(b'.fn,b'.kind,b'.roundOf)=(f,CallKind.normal,none):=q1;simp only [Ac] at q;have hen:Frame.enter P f vals .normal =Frame.atR ⟨f, #[],[],[],.run,.normal,none⟩ {tmps:=vals++Array.replicate (fn.ntmps - vals.size) undef,defers:=[]} (Vh none [.code body]):=by
   grind [Frame.enter,Frame.atR,Vh]
  refine ⟨.returned u,w2,{b'.atR {a' with defers:=[]} k' with mode:=.returning},⟨ρ',u,rfl,NO hu eZ fR⟩,?_,q.1,rfl,rfl,q.2.1,fn,by show P.funcs[b'.fn]? =_;grind,gH⟩;rw [hen];exact s1.trans s2
end
def Xs :List B8->Nat->CD
 | [],_=>.leaf
 | b::l,i=>Wx (Xs l (i+1)) i (some b)
def DZ (c:Nat->Int):Nat->List B3:=fun i=>[.int .i64 (c i)]
def CG.withO :CG->List Bool->CG
 | ⟨cx,ro,todo,rnd,rs,⟨env,mem,next,_,_⟩,cs,lps⟩,o=>⟨cx,ro,todo,rnd,rs,⟨env,mem,next,o,true⟩,cs,lps⟩
def CG.withB :CG->Bool->CG
 | ⟨cx,ro,todo,rnd,rs,⟨env,mem,next,_,_⟩,cs,lps⟩,b=>⟨cx,ro,todo,rnd,rs,⟨env,mem,next,[],b⟩,cs,lps⟩
inductive Xj (σ:Type) where
 | stuck
 | ret (vs:List B3)
 | to (s:σ)
def Kj (P:Program) (rs:List ResultVar) (C:CG) (vs:List B3):Prop:= ∃C',Cw P C C'/\G1 C'=true/\Qx P C'.st rs=some vs
def Wp (P:Program) (rs:List ResultVar) {σ:Type} (cfg:σ->CG) (C:CG):Xj σ->Prop
 | .stuck =>True
 | .ret vs=>Kj P rs C vs
 | .to s=>Cw P C (cfg s)
section
variable {P:Program} {rs:List ResultVar} {σ:Type} {cfg:σ->CG} {C:CG}
theorem w6s {c:Bool} {a b:Xj σ} (ha:c=true->Wp P rs cfg C a) (hb:c=false->Wp P rs cfg C b):Wp P rs cfg C (bif c then a else b):=by grind
theorem u3j {c:Bool} {a:Xj σ} (ha:c=true->Wp P rs cfg C a):Wp P rs cfg C (bif c then a else .stuck):=w6s ha fun _=>trivial
theorem Ys {vs:List B3} (C':CG) (h:Cw P C C') (hf:G1 C'=true) (hr:Qx P C'.st rs=some vs):Wp P rs cfg C (.ret vs):=⟨C',h,hf,hr⟩
end
def Yw {σ:Type} (step:σ->Xj σ):Nat->Xj σ->Xj σ
 | 0,o=>o
 | n+1,.to s=>Yw step n (step s)
 | _+1,o=>o
theorem Ze {P:Program} {rs:List ResultVar} {σ:Type} {cfg:σ->CG} {step:σ->Xj σ} (fF: ∀s,Wp P rs cfg (cfg s) (step s)) {C:CG}: ∀(n:Nat) (o:Xj σ),Wp P rs cfg C o->Wp P rs cfg C (Yw step n o)
 | 0,o,h=>h
 | n+1,.stuck,h=>h
 | n+1,.ret vs,h=>h
 | n+1,.to s,h=>Ze fF n (step s) (match step s,fF s with
  | .stuck,_=>trivial
  | .ret vs,⟨C',g,hf,hr⟩=>⟨C',Cw.trans h g,hf,hr⟩
  | .to s',g=>Cw.trans h g)
theorem Zh {σ:Type} (step:σ->Xj σ) (n:Nat) (vs:List B3):Yw step n (.ret vs)=.ret vs:=by cases n <;> rfl
theorem Zw {σ:Type} (step:σ->Xj σ) (n:Nat) (s:σ):Yw step (n+1) (.to s)=Yw step n (step s):=rfl
theorem Ph {a b:Bool} (ha:a=true) (hb:b=true):(a&&b)=true:=by grind
theorem v5s {a b:Bool} (h:a=b):(a == b)=true:=by grind
def B6.with (S:B6) (f:FuncId) (F:List B3->Option (B3×Bool)):B6:=fun g=>bif Nat.beq g f then some (.val F) else S g
theorem x5w {P:Program} {f:FuncId} {args:List B3} {sym:Bool} {orc:List Bool}:(Zg P f args sym orc).rs =Zy P f:=by
 grind [Zg,Zy]
theorem v2t {P:Program} {S:B6} (hS:Zv P S) {f:FuncId} {F:List B3->Option (B3×Bool)} (hf:(P.funcs[f]?).any (fun fn=>fn.body.isSome)=true)
  (hF: ∀args v,F args=some (v,true)-> ∃vs,Js vs=v/\Kj P (Zy P f) (Zg P f args true []) vs/\ ∃d,pf d v=true):Zv P (S.with f F):=by
 intro g G hg;unfold B6.with at hg;cases hgf:Nat.beq g f with
 | false=>rw [hgf] at hg;exact hS g G hg
 | true=>
  rw [hgf] at hg;obtain rfl:N7.val F=G:=Ag hg;obtain rfl:g=f:=Ah hgf;refine ⟨?_,fun args v hv H vals w eG hH hG=> ?_⟩
  .grind
  .obtain ⟨vs,rfl,⟨C',g1,g2,g3⟩,d,hp⟩:=hF args v hv;exact (goes_call hf g1 g2 (by rw [x5w];exact g3) eG hH hG).mono fun e w' ⟨ρ,u,he,ho⟩=>⟨ρ.fz,u,ho.le,ho.old,ho.same,he,Kz d _ u hp ho.val,ho.below⟩
def DG (get:Nat->List B3) (i:Nat):Int:=match get i with
 | .int _ n::_=>n
 | _=>0
def K3 (get:Nat->List B3):Bool:=pd (get=DZ (DG get))
theorem w6x {get:Nat->List B3} (h:K3 get=true): ∃c,get=DZ c:=⟨_,Jj h⟩
theorem u2v (x:Int):(x != x)=false:=by simp
theorem u4p (x:Int):(x == x)=true:=by simp
theorem v6d (x:Int):(!(x != x))=true:=by simp
theorem v6e (x:Int):(!(x == x))=false:=by simp
theorem w64 (n:Int):IntKind.i64.wrap n=(n+9223372036854775808) %18446744073709551616 - 9223372036854775808:=by rw [IntKind.wrap_i64]
theorem w_in {n:Int} (h: -9223372036854775808<=n) (h':n<=9223372036854775807):IntKind.i64.wrap n=n:=by simp only [w64];omega
theorem RF (x y:Int):Cz x y=min x y:=by unfold Cz;grind
theorem RE (x y:Int):Cy x y=max x y:=by unfold Cy;grind
theorem Zp {α:Type} {c:Bool} {a b:α} (h:c=true):(bif c then a else b)=a:=by rw [h];rfl
inductive DL :B3->B3->Prop
 | refl (v:B3):DL v v
 | undef (v:B3):DL v .undef
 | nils (b sz off:Nat) (cap:Ec):DL .nils (.sla b sz off 0 cap)
 | sl (b sz q len:Nat) (cap:Ec):DL (.sl b (q*sz) len cap) (.sla b sz q len cap)
 | nild (g:Nat->List B3):DL .nils (.dat 0 g)
 | dat (n:Nat) (g g':Nat->List B3) (h: ∀i,i<n->g i=g' i):DL (.dat n g) (.dat n g')
 | dptr (cs cs':List B3) (hl:cs.length=cs'.length) (h: ∀(ρ:B7) (i:Nat) (h1:i<cs.length) (h2:i<cs'.length) (v:Value),Zr ρ cs[i] v->Zr ρ cs'[i] v):DL (.dptr cs) (.dptr cs')
theorem DL.sound {ρ:B7} {a a':B3} {v:Value} (h:DL a a') (hv:Zr ρ a v):Zr ρ a' v:=by
 cases h with
 | refl=>exact hv
 | undef=>exact .undef _
 | nils b sz off cap=>cases hv;exact .slan b sz off cap
 | sl b sz q len cap=>cases hv with | sl _ _ _ _ l c h hc eE=>exact .sla b sz q len cap l c h hc eE
 | nild g=>cases hv;exact .datn _
 | dptr cs cs' hl h=>cases hv with
  | dptr _ blk base val q1 q2=>exact .dptr cs' blk base val (fun j hj=>h _ j (by omega) hj _ (q1 j (by omega))) fun j hj=>q2 j (by omega)
 | dat n g g' hg=>
  cases hv with
  | datn=>exact .datn _
  | datz=>exact .datz _ _ _
  | dat _ _ blk base sz cap val eM hsz hv hh=>
   refine .dat n g' blk base sz cap val eM (fun i hi=>by grind) (fun i j hi hj=> ?_) hh
   grind
theorem DL.of_undef {a:B3} (h:DL .undef a):a=.undef :=by cases h <;> rfl
inductive Ci :List B3->List B3->Prop
 | nil:Ci [] []
 | cons {a b:B3} {l m:List B3} (h:DL a b) (t:Ci l m):Ci (a::l) (b::m)
theorem Ci.refl : ∀l:List B3,Ci l l
 | []=>.nil
 | a::l=>.cons (.refl a) (Ci.refl l)
theorem Ci.len {l m:List B3} (h:Ci l m):l.length=m.length:=by
 induction h with
 | nil=>rfl
 | cons _ _ ih=>simp [ih]
theorem Ci.get {l m:List B3} (h:Ci l m): ∀(i:Nat) (h1:i<l.length) (h2:i<m.length),DL l[i] m[i]:=by
 induction h with
 | nil=>grind
 | cons h _ ih=>
  grind
inductive IW :Option B8->Option B8->Prop
 | refl (b:Option B8):IW b b
 | drop (b:Option B8):IW b none
 | rowed (cells:List B3) (ty:TypeId) (a:Option DR) (sz n:Nat) (g:Nat->List B3) (ho:(⟨cells,ty,a⟩:B8).isObj =false) (hc:cells=rows n g) (h1:1<=sz) (hl: ∀i,i<n->(g i).length =sz):IW (some ⟨cells,ty,a⟩) (some ⟨rows n g,ty,some ⟨sz,n,g⟩⟩)
 | rws (ty:TypeId) (sz n:Nat) (a a':CK) (h: ∀k,k<n->Ci (a.get k) (a'.get k)):IW (some ⟨rows n a.get,ty,some ⟨sz,n,a⟩⟩) (some ⟨rows n a'.get,ty,some ⟨sz,n,a'⟩⟩)
theorem IW.sound {ρ:B7} {w:World} {a a':B8} {l:CR} (h:IW (some a) (some a')) (hb:Wt ρ w a l):Wt ρ w a' l:=by
 cases h with
 | refl=>exact hb
 | rowed cells ty a sz n g ho hc h1 hl=>subst hc;have hb:=hb.at ho;refine .plain ⟨hb.typ,hb.n,hb.tot,fun A hA=> ?_,hb.cells⟩;obtain rfl:=Ag hA;exact ⟨rfl,h1,hl⟩
 | rws ty sz n a a' h=>
  have hb:=hb.rows rfl;obtain ⟨_,h1,hl⟩:=hb.arr _ rfl;have h1:1<=sz:=h1;have hl: ∀k,k<n->(a.get k).length =sz:=hl;have hl': ∀k,k<n->(a'.get k).length =sz:=fun k hk=>by rw [<-(h k hk).len];exact hl k hk
  have k1:=Yq n hl;have k2:=Yq n hl';obtain ⟨cs,el,g1,g2,g3⟩:=hb.cells;refine .plain ⟨hb.typ,by rw [hb.n];show (rows n a.get).length =(rows n a'.get).length;rw [k1,k2],hb.tot,fun A hA=> ?_,cs,el,g1,g2,fun i hi=> ?_⟩
  .obtain rfl:=Ag hA;exact ⟨rfl,h1,hl'⟩
  .have hi2:i<(rows n a'.get).length :=hi;have hi':i<n*sz:=by rw [<-k2];exact hi
   have hj:i %sz<sz:=Bw _ h1;have hq:i / sz<n:=Bf (by rw [BH];exact hi');have e:i / sz*sz+i %sz=i:=by rw [BH];exact BA i sz
   have hic:i<(rows n a.get).length :=by rw [k1];exact hi'
   have r1:=Va n hl (i / sz) (i %sz) hq hj;have r2:=Va n hl' (i / sz) (i %sz) hq hj;rw [e] at r1 r2;have j1:i %sz<(a.get (i / sz)).length :=by rw [hl _ hq];exact hj
   have j2:i %sz<(a'.get (i / sz)).length :=by rw [hl' _ hq];exact hj
   obtain ⟨v,q1,q2⟩:=g3 i hic;have q2:Zr ρ ((rows n a.get)[i]'hic) v:=q2;refine ⟨v,q1,?_⟩;show Zr ρ ((rows n a'.get)[i]'hi2) v;rw [As hic,As j1] at r1;rw [As hi2,As j2] at r2;rw [Ag r1] at q2;rw [Ag r2];exact ((h _ hq).get _ j1 j2).sound q2
theorem Z1 {g h:Nat->List B3}: ∀(n:Nat),(∀i,i<n->g i=h i)->rows n g=rows n h
 | 0,_=>rfl
 | n+1,e=>by rw [UF,UF,Z1 n fun i hi=>e i (by omega),e n (by omega)]
theorem x1j {n:Nat} {g:Nat->List B3} (h: ∀k,∀v∈g k,Cg v=true) (ty:TypeId) (a:Option DR):(⟨Go.Am.rows n g,ty,a⟩:B8).isObj =false:=
 QP (ρ:=⟨fun _=>none,fun _=>none,fun _=>none⟩) (fun v hv=>by obtain ⟨k,_,hk⟩:=w5k hv;exact .inr (h k v hk)) _ _
theorem UM {n:Nat} {c:Nat->Int} (ty:TypeId) (a:Option DR):(⟨Go.Am.rows n (DZ c),ty,a⟩:B8).isObj =false:=x1j (fun k v hv=>by obtain rfl:=AX.1 hv;rfl) _ _
def EL (l:List Int):Nat->Int:=fun k=>l.getD k 0
def DW (asz sz off len n:Nat) (get:Nat->List B3):B3:=bif Nat.beq asz sz&&Nat.ble (off+len) n then .dat len (fun k=>get (off+k)) else .undef
theorem v7e (sz n:Nat) (g:Nat->List B3):DW sz sz 0 n n g=.dat n g:=by
 unfold DW;rw [show (Nat.beq sz sz&&Nat.ble (0+n) n)=true by simp_all,Af]
 grind
def DB (g:Nat->List B3):Bool:=pd (∀i,(g i).all (pf 6)=true)
theorem u5b {p:B3->Bool} {l:List B3} (h:l.all p=true) (n:Nat):(l.take n).all p=true:=
 by grind
theorem u5c {p:B3->Bool} {l:List B3} (h:l.all p=true) (n:Nat):(l.drop n).all p=true:=
 by grind
theorem v7n {g:Nat->List B3} {off len sz:Nat} {new:List B3} (h:DB g=true) (hn:new.all (pf 6)=true):DB (Zo g off len sz new)=true:=Yh fun i=>by
 unfold Zo;cases Nat.ble len i with
 | true=>grind
 | false=>exact Jj h _
theorem v7k {g:Nat->List B3} {r fo:Nat} {cs:List B3} (h:DB g=true) (hn:cs.all (pf 6)=true):DB (Xw g r fo cs)=true:=Yh fun i=>by
 unfold Xw;cases Nat.beq i r with
 | true=>rw [Af,List.all_append,List.all_append,u5b (Jj h r),hn,u5c (Jj h r)];rfl
 | false=>exact Jj h _
theorem x0s {P:Program} {S:B6} (hS:Zv P S) {f:FuncId} {F:List B3->Option (B3×Bool)} (hf:(P.funcs[f]?).any (fun fn=>fn.body.isSome)=true)
  (hF: ∀args v,F args=some (v,true)-> ∃vs,(∀(ρ:B7) (u:Value),Zr ρ (Js vs) u->Zr ρ v u)/\Kj P (Zy P f) (Zg P f args true []) vs/\ ∃d,pf d (Js vs)=true):Zv P (S.with f F):=by
 intro g G hg;unfold B6.with at hg;cases hgf:Nat.beq g f with
 | false=>rw [hgf] at hg;exact hS g G hg
 | true=>
  rw [hgf] at hg;obtain rfl:N7.val F=G:=Ag hg;obtain rfl:g=f:=Ah hgf;refine ⟨?_,fun args v hv H vals w eG hH hG=> ?_⟩
  .grind
  .obtain ⟨vs,hw,⟨C',g1,g2,g3⟩,d,hp⟩:=hF args v hv;exact (goes_call hf g1 g2 (by rw [x5w];exact g3) eG hH hG).mono fun e w' ⟨ρ,u,he,ho⟩=>⟨ρ.fz,u,ho.le,ho.old,ho.same,he,hw _ _ (Kz d _ u hp ho.val),ho.below⟩
theorem v1f :DB (fun _=>[])=true:=Yh fun _=>rfl
theorem w3i (s t:Nat):DB (fun k=>(([]:List B3).drop (k*s)).take t)=true:=Yh fun i=>by simp
theorem y8c {g:Nat->List B3} {o:Nat} (h:DB g=true):DB (fun k=>g (o+k))=true:=Yh fun i=>Jj h (o+i)
theorem v7m {g h:Nat->List B3} {len:Nat} (p:DB g=true) (q:DB h=true):DB (Yx g len h)=true:=Yh fun i=>by
 unfold Yx;cases Nat.ble len i with
 | true=>exact Jj q _
 | false=>exact Jj p _
def Kt (sz n:Nat) (g:Nat->List B3):Bool:=pd (∀i,i<n->(g i).length =sz/\(g i).all Cg=true)
open Go.Sort Go.RowKit
variable {P:Program} {ρ:B7}
theorem B9.rewritten {mem:CD} {next:Nat} {w w':World} (h:B9 ρ mem next w) {b:Nat} {l:CR} {ab:B8} (hb:ρ b=some l) (hm:Yi mem b=some ab) {cs:List B3}
  (eE:cs.length=ab.cells.length) (eQ: ∀k,k<w.heap.size->k≠l.blk->w'.heap[k]? =w.heap[k]?) (gC:w.heap.size<=w'.heap.size)
  (hno:ab.isObj=false) (hnew: ∃cur el,w'.heap[l.blk]? =some (.cells cur el (0,0))/\(∀cur0 z,w.heap[l.blk]? =some (.cells cur0 ab.ty z)->el=ab.ty)/\l.base+l.tot<=cur.size/\ ∀(i:Nat) (hi:i<cs.length),∃v,cur[l.base+i]? =some v/\Zr ρ cs[i] v):
  B9 ρ (Wx mem b (some ⟨cs,ab.ty,none⟩)) next w':=by
 have hbk:=(h.blk b l ab hb hm).at hno;refine ⟨h.dom,fun c c' m m' e e' he hs hs'=> ?_,fun c m ac e hc=> ?_,fun k o e=> ?_,fun c m e hs=>h.sep c m e (by
  grind [Zx]),fun c m e=>A4 (h.real c m e) gC,fun c hc=>by have:=h.dom b l hb;rw [Zx _ _ (by omega)];exact h.bd c hc,h.ldom⟩
 .refine h.inj c c' m m' e e' he ?_ ?_;all_goals grind [Zx]
 .by_cases hcb:c=b
  .subst hcb;rw [Yz] at hc;obtain rfl:=Ag hc;rw [hb] at e;obtain rfl:=Ag e;obtain ⟨cur,el,n1,n2,n3,n4⟩:=hnew;obtain ⟨cur0,el0,o1,_⟩:=hbk.cells;have hel:=hbk.typ _ _ _ o1;subst hel;have:=n2 _ _ o1;exact .plain ⟨by rw [n1];grind,by rw [eE];exact hbk.n,hbk.tot,(fun A e=>by cases e),cur,el,n1,n3,n4⟩
  .rw [Zx _ _ hcb] at hc;refine (h.blk c m ac e hc).world (B7.le_refl _) (eQ m.blk (h.real c m e) fun heq=>hcb ?_);exact h.inj c b m l e hb heq (by rw [hc];rfl) (by rw [hm];rfl)
 .have hk:=h.old k o e;rw [eQ k ?_ ?_]
  .exact hk
  .grind
  .intro heq;have:=h.sep b l hb (by rw [hm];rfl)
   grind
def Ws (n:Nat) (c:Nat->Int):List Int:=(List.range n).map c
def IK (srt:List Int->List Int) (args:List B3) (mem:CD):Option (B3×Nat×B8×Bool):=match args with
 | [.sla b sz off n cap]=>match Yi mem b with
  | some ⟨_,ty,some A⟩=>some (.tup [],b,⟨rows A.n (DZ (EL (srt (Ws n (DG A.get))))),ty,some ⟨1,A.n,DZ (EL (srt (Ws n (DG A.get))))⟩⟩,
    Nat.beq sz 1&&(Nat.beq A.sz 1&&(Nat.beq off 0&&(decide (n=A.n)&&(K3 A.get&&decide (n<4611686018427387904))))))
  | _=>none
 | _=>none
theorem U0 (n:Nat) (c:Nat->Int) (i:Nat) (h:i<n):(rows n (DZ c))[i]? =some (.int .i64 (c i)):=by
 have:=Va (get:=DZ c) (sz:=1) n (fun _ _=>rfl) i 0 h Nat.one_pos
 simpa [DZ] using this
theorem Jc (n:Nat) (c:Nat->Int):(rows n (DZ c)).length =n:=by rw [Yq (sz:=1) n fun _ _=>rfl,Nat.mul_one]
theorem PH (w:World) (n blk off:Nat) (d:Array Int) (os:Array Obj) (k:Nat) (hk:k<w.heap.size):
  (grow (putRow (Value.int .i64) (Go.Sort.ahead w n) blk off d) os).heap[k]? =if k=blk then (w.heap[k]?).map (onCells (putCells (Value.int .i64) off d)) else w.heap[k]? :=by
 show (((Go.Sort.ahead w n).heap.modify blk (onCells (putCells (Value.int .i64) off d)))++os)[k]? =_;rw [Array.getElem?_append_left (by simp_all),BE];show (if blk=k then _ else _)=_;by_cases h:k=blk
 .simp_all
 .rw [Az (fun e=>h e.symm),Az h];rfl
theorem Ev.rewritten {mem:CD} {next floor:Nat} {w w':World} (h:B9 ρ mem next w) {b:Nat} (o:Option B8) (hb: ∀l,ρ b=some l->floor<=b) (hnone:ρ b=none-> ∀cs ty,Yi mem b≠some ⟨cs,ty,none⟩)
  (eQ: ∀k,k<w.heap.size->(∀l,ρ b=some l->k≠l.blk)->w'.heap[k]? =w.heap[k]?) (gC:w.heap.size<=w'.heap.size) (h1:w'.os=w.os) (h2:w'.tape=w.tape) (h3:w'.output=w.output):
  Ev ρ ρ floor mem next (Wx mem b o) next w w' where
 ext:=B7.le_refl _
 new _ _:=rfl
 nxt:=An _
 unborn k _ e cs ty hm:=by
  grind [Zx]
 frame k o hk hfr:=by
  grind
 fresh k m hk e:=by have:=h.dom k m e;omega
 size:=gC
 os:=h1
 tape:=h2
 output:=h3
 still _ _:=rfl
theorem B9.unbornSet {mem:CD} {next:Nat} {w:World} (h:B9 ρ mem next w) {b:Nat} (hb:ρ b=none) (hlt:b<next) (o:Option B8):B9 ρ (Wx mem b o) next w:=by
 have ne: ∀c l,ρ c=some l->c≠b:=fun c l e he=>by grind
 refine ⟨h.dom,fun c c' m m' e e' he hs hs'=> ?_,fun c m ac e hc=> ?_,h.old,fun c m e hs=> ?_,h.real,fun c hc=> ?_,h.ldom⟩
 .rw [Zx _ _ (ne _ _ e)] at hs;rw [Zx _ _ (ne _ _ e')] at hs';exact h.inj c c' m m' e e' he hs hs'
 .rw [Zx _ _ (ne _ _ e)] at hc;exact h.blk c m ac e hc
 .rw [Zx _ _ (ne _ _ e)] at hs;exact h.sep c m e hs
 .rw [Zx _ _ (by omega)];exact h.bd c hc
theorem j5s {f:FuncId} {srt:List Int->List Int} (hsl: ∀zs,(srt zs).length =zs.length)
  (hC: ∀(blk off cap:Nat) (zs:List Int) (w:World),Holds (Value.int .i64) w blk off zs.toArray->blk<w.heap.size->zs.length<4611686018427387904->
   Calls P f #[.slice (some ⟨blk,off,none⟩) zs.length cap] w fun e w'=>e=.returned (.tuple #[])/\ ∃n os,w'=grow (putRow (Value.int .i64) (Go.Sort.ahead w n) blk off (srt zs).toArray) os)
  (hN: ∀(p:Option Addr) (cap:Nat) (w:World),Calls P f #[.slice p 0 cap] w fun e w'=>e=.returned (.tuple #[])/\w'=w):Gd P f (IK srt):=by
 intro args mem v b blk h gD ρ next floor vals w hfl eG eD
 unfold IK at h;split at h
 .rename_i b0 sz off n cap;split at h
  .rename_i cells ty A hm;obtain ⟨asz,an,get⟩:=A;simp only [Ae,Ac,Ad] at h;obtain ⟨rfl,rfl,rfl,h1,h2,h3,h4,h5,h6⟩:=h;have g1:=Ah h1;have g2:=Ah h2;have g3:=Ah h3;have g4:n=an:=Av h4;have h6:n<4611686018427387904:=Av h6;subst g1;subst g2;subst g3;subst g4;obtain ⟨c,hcg⟩:=w6x h5;have e0:DG (DZ c)=c:=rfl;simp only [hcg,e0];obtain ⟨u,hu,fH⟩: ∃u,Zr ρ (.sla b0 1 0 n cap) u/\vals= #[u]:=by
    obtain ⟨vl⟩:=vals;cases eG with
    | cons h1 h2=>cases h2;grind
   subst fH;have hlt:b0<next:=by
    rcases Ba b0 next with h | h
    .exact h
    .have:=eD.bd b0 h;grind
   generalize hL:srt (Ws n c)=L;have hLl:L.length=n:=by grind [Ws]
   have hnn:ρ b0=none-> ∀cs ty',Yi mem b0≠some ⟨cs,ty',none⟩:=fun _ cs ty' e=>by grind
   cases hu with
   | sla _ _ _ _ _ l cc e hc eE=>
    have hbk:=(eD.blk b0 l _ e hm).rows rfl;obtain ⟨har,_,_⟩:=hbk.arr _ rfl;simp only [hcg] at har;subst har;obtain ⟨cur,el,hh,hsz,eJ⟩:=hbk.cells;simp only [Jc] at eJ;have eY: ∀i,i<n->cur[l.base+i]? =some (.int .i64 (c i)):=fun i hi=>by obtain ⟨v,e1,e2⟩:=eJ i hi;rw [show (rows n (DZ c))[i]'(by grind)=.int .i64 (c i) from Ag (by rw [<-As,U0 n c i hi])] at e2;cases e2;exact e1
    have fM:=eD.real b0 l e;have hzs:(Ws n c).length =n:=(by grind);have hH:Holds (Value.int .i64) w l.blk (l.base+0*1) (Ws n c).toArray :=fun j hj=>by
     grind [World.cell?,Ws,World.frozen?]
    have eS:=hC l.blk (l.base+0*1) cc (Ws n c) w hH fM (by omega);rw [hzs,hL] at eS;refine eS.mono fun e' w' ⟨he,q,os,hw'⟩=>⟨_,he,?_,?_,?_⟩
    .exact .tup [] #[] rfl fun i h1 h2=>absurd h1 (AC _)
    .subst hw';refine B9.setArr ?_ ⟨1,n,DZ (EL L)⟩ (UM _ _) rfl (An 1) fun _ _=>rfl;refine B9.rewritten eD e hm (by simp only [Jc]) (fun k hk hne=> ?_) ?_ hbk.noObj ?_
     .grind [PH]
     .simp_all
     .refine ⟨putCells (Value.int .i64) (l.base+0*1) L.toArray cur,el,?_,fun _ _ _=>hbk.typ _ _ _ hh,?_,fun i hi=> ?_⟩
      .rw [PH _ _ _ _ _ _ _ fM,AG rfl,hh];rfl
      .grind [putCells]
      .rw [Jc] at hi;refine ⟨.int .i64 (EL L i),?_,?_⟩
       .grind [putCells,EL]
       .rw [show (rows n (DZ (EL L)))[i]'(by grind)=.int .i64 (EL L i) from Ag (by rw [<-As,U0 n _ i hi])];exact .int _ _
    .subst hw';refine Ev.rewritten eD _ (fun l' _=>hfl) hnn (fun k hk hne=> ?_) ?_ rfl rfl rfl
     .grind [PH]
     simp_all
   | slan=>
    refine (hN none 0 w).mono fun e' w' ⟨he,hw'⟩=>⟨_,he,?_,?_,?_⟩
    .exact .tup [] #[] rfl fun i h1 h2=>absurd h1 (AC _)
    .subst hw';refine B9.setArr ?_ ⟨1,0,DZ (EL L)⟩ (UM _ _) rfl (An 1) fun _ _=>rfl;cases e:ρ b0 with
     | none=>exact B9.unbornSet eD e hlt _
     | some l=>have hbk:=(eD.blk b0 l _ e hm).rows rfl;obtain ⟨har,_,_⟩:=hbk.arr _ rfl;simp only [hcg] at har;subst har;obtain ⟨cur,el,hh,hsz,eJ⟩:=hbk.cells;exact B9.rewritten eD e hm rfl (fun _ _ _=>rfl) (An _) hbk.noObj ⟨cur,el,hh,fun _ _ _=>hbk.typ _ _ _ hh,hsz,fun i hi=>absurd hi (AC _)⟩
    grind [Ev.rewritten]
  .cases h
 .cases h
def IL (srt:List Int->List Int) (res:List Int->Nat) (args:List B3) (mem:CD):Option (B3×Nat×B8×Bool):=match args with
 | [.sla b sz off n cap]=>match Yi mem b with
  | some ⟨_,ty,some A⟩=>some (.sla b 1 0 (res (Ws n (DG A.get))) cap,b,⟨rows A.n (DZ (EL (srt (Ws n (DG A.get))))),ty,some ⟨1,A.n,DZ (EL (srt (Ws n (DG A.get))))⟩⟩,
    Nat.beq sz 1&&(Nat.beq A.sz 1&&(Nat.beq off 0&&(decide (n=A.n)&&(K3 A.get&&decide (n<4611686018427387904))))))
  | _=>none
 | _=>none
theorem j5t {f:FuncId} {srt:List Int->List Int} {res:List Int->Nat} (hsl: ∀zs,(srt zs).length =zs.length) (gH: ∀zs,res zs<=zs.length)
  (hC: ∀(blk off cap:Nat) (zs:List Int) (w:World),Holds (Value.int .i64) w blk off zs.toArray->blk<w.heap.size->zs.length<4611686018427387904->zs.length<=cap->
   Calls P f #[.slice (some ⟨blk,off,none⟩) zs.length cap] w fun e w'=>e=.returned (.slice (some ⟨blk,off,none⟩) (res zs) cap)/\ ∃n os,w'=grow (putRow (Value.int .i64) (Go.Sort.ahead w n) blk off (srt zs).toArray) os)
  (hN: ∀(p:Option Addr) (cap:Nat) (w:World),Calls P f #[.slice p 0 cap] w fun e w'=>e=.returned (.slice p 0 cap)/\w'=w):Gd P f (IL srt res):=by
 intro args mem v b blk h gD ρ next floor vals w hfl eG eD
 unfold IL at h;split at h
 .rename_i b0 sz off n cap;split at h
  .rename_i cells ty A hm;obtain ⟨asz,an,get⟩:=A;simp only [Ae,Ac,Ad] at h;obtain ⟨rfl,rfl,rfl,h1,h2,h3,h4,h5,h6⟩:=h;have g1:=Ah h1;have g2:=Ah h2;have g3:=Ah h3;have g4:n=an:=Av h4;have h6:n<4611686018427387904:=Av h6;subst g1;subst g2;subst g3;subst g4;obtain ⟨c,hcg⟩:=w6x h5;have e0:DG (DZ c)=c:=rfl;simp only [hcg,e0];obtain ⟨u,hu,fH⟩: ∃u,Zr ρ (.sla b0 1 0 n cap) u/\vals= #[u]:=by
    obtain ⟨vl⟩:=vals;cases eG with
    | cons h1 h2=>cases h2;grind
   subst fH;have hlt:b0<next:=by
    rcases Ba b0 next with h | h
    .exact h
    .have:=eD.bd b0 h;grind
   generalize hL:srt (Ws n c)=L;have hLl:L.length=n:=by grind [Ws]
   have hnn:ρ b0=none-> ∀cs ty',Yi mem b0≠some ⟨cs,ty',none⟩:=fun _ cs ty' e=>by grind
   cases hu with
   | sla _ _ _ _ _ l cc e hc eE=>
    have hbk:=(eD.blk b0 l _ e hm).rows rfl;obtain ⟨har,_,_⟩:=hbk.arr _ rfl;simp only [hcg] at har;subst har;obtain ⟨cur,el,hh,hsz,eJ⟩:=hbk.cells;simp only [Jc] at eJ;have eY: ∀i,i<n->cur[l.base+i]? =some (.int .i64 (c i)):=fun i hi=>by obtain ⟨v,e1,e2⟩:=eJ i hi;rw [show (rows n (DZ c))[i]'(by grind)=.int .i64 (c i) from Ag (by rw [<-As,U0 n c i hi])] at e2;cases e2;exact e1
    have fM:=eD.real b0 l e;have hzs:(Ws n c).length =n:=(by grind);have hH:Holds (Value.int .i64) w l.blk (l.base+0*1) (Ws n c).toArray :=fun j hj=>by
     grind [World.cell?,Ws,World.frozen?]
    have eS:=hC l.blk (l.base+0*1) cc (Ws n c) w hH fM (by omega) (by omega);rw [hzs,hL] at eS;refine eS.mono fun e' w' ⟨he,q,os,hw'⟩=>⟨_,he,?_,?_,?_⟩
    .exact .sla _ _ _ _ _ l cc e hc (AN (gH _) (by omega))
    .subst hw';refine B9.setArr ?_ ⟨1,n,DZ (EL L)⟩ (UM _ _) rfl (An 1) fun _ _=>rfl;refine B9.rewritten eD e hm (by simp only [Jc]) (fun k hk hne=> ?_) ?_ hbk.noObj ?_
     .grind [PH]
     .simp_all
     .refine ⟨putCells (Value.int .i64) (l.base+0*1) L.toArray cur,el,?_,fun _ _ _=>hbk.typ _ _ _ hh,?_,fun i hi=> ?_⟩
      .rw [PH _ _ _ _ _ _ _ fM,AG rfl,hh];rfl
      .grind [putCells]
      .rw [Jc] at hi;refine ⟨.int .i64 (EL L i),?_,?_⟩
       .grind [putCells,EL]
       .rw [show (rows n (DZ (EL L)))[i]'(by grind)=.int .i64 (EL L i) from Ag (by rw [<-As,U0 n _ i hi])];exact .int _ _
    .subst hw';refine Ev.rewritten eD _ (fun l' _=>hfl) hnn (fun k hk hne=> ?_) ?_ rfl rfl rfl
     .grind [PH]
     simp_all
   | slan=>
    refine (hN none 0 w).mono fun e' w' ⟨he,hw'⟩=>⟨_,he,?_,?_,?_⟩
    .rw [show res (Ws 0 c)=0 from Nat.le_zero.1 (gH _)];exact .slan _ _ _ _
    .subst hw';refine B9.setArr ?_ ⟨1,0,DZ (EL L)⟩ (UM _ _) rfl (An 1) fun _ _=>rfl;cases e:ρ b0 with
     | none=>exact B9.unbornSet eD e hlt _
     | some l=>have hbk:=(eD.blk b0 l _ e hm).rows rfl;obtain ⟨har,_,_⟩:=hbk.arr _ rfl;simp only [hcg] at har;subst har;obtain ⟨cur,el,hh,hsz,eJ⟩:=hbk.cells;exact B9.rewritten eD e hm rfl (fun _ _ _=>rfl) (An _) hbk.noObj ⟨cur,el,hh,fun _ _ _=>hbk.typ _ _ _ hh,hsz,fun i hi=>absurd hi (AC _)⟩
    grind [Ev.rewritten]
  .cases h
 .cases h
def q4 (f:Nat->Nat->Int):Nat->List B3:=fun k=>[.int .i64 (f k 0),.int .i64 (f k 1),.int .i64 (f k 2),.int .i64 (f k 3)]
theorem x7i (a:Nat):(Nat.beq a a == true)=true:=by simp_all
inductive VP where
 | keep
 | drop
  | grow (b sz:Nat)
  | list (n:Nat) (g:Nat->List B3)
  | len (n:Nat)
  | frz (n n':Nat) (a g:Nat->List B3)
def Ue (n:Nat) (a g:Nat->List B3):Bool:=pd (∀i,i<n->a i=g i)
def v4l (cells:List B3) (sz n:Nat) (g:Nat->List B3):Bool:=pd (cells=rows n g/\1<=sz/\ ∀i,i<n->(g i).length =sz)
def DT (n:Nat) (a g:Nat->List B3):Bool:=pd (∀i,i<n->Ci (a i) (g i))
def HN (a b:Nat):Bool:=pd (a=b)
theorem Yc {a b:Nat} (h:a=b):HN a b=true:=Yh h
def Rs (v:B3) (n:Nat) (a:Nat->List B3):Bool:=pd (v=.dat n a)
theorem u3z (sz n:Nat) (g:Nat->List B3):Rs (DW sz sz 0 n n g) n g=true:=Yh (v7e sz n g)
theorem v7f (n:Nat) (g:Nat->List B3):Rs (.dat n g) n g=true:=Yh rfl
def Io :VP->B3->Bool->B3×Bool
 | .keep,v,ob=>(v,ob)
 | .drop,_,ob=>(.undef,ob)
 | .grow b sz,v,ob=>match v with
  | .nils =>(.sla b sz 0 0 (.un sz),ob)
  | .sl b o len cap=>(.sla b sz 0 len cap,Nat.beq o 0&&ob)
  | v=>(v,ob)
 | .list n' g,v,ob=>match v with
  | .nils =>(.dat 0 g,ob)
  | .dat n a=>(.dat n' g,HN n n'&&(Ue n a g&&ob))
  | v=>(v,ob)
 | .len n',v,ob=>match v with
  | .sla b sz off n cap=>(.sla b sz off n' cap,HN n n'&&ob)
  | v=>(v,ob)
 | .frz n n' a g,v,ob=>(.dat n' g,Rs v n a&&(HN n n'&&(Ue n a g&&ob)))
theorem w6q {p:VP} {v:B3} {ob:Bool} (h:(Io p v ob).2=true):DL v (Io p v ob).1/\ob=true:=by
 cases p with
 | keep=>exact ⟨.refl _,h⟩
 | drop=>exact ⟨.undef _,h⟩
 | grow b sz=>
  cases v with
  | nils=>exact ⟨.nils _ _ _ _,h⟩
  | sl b' o len cap=>simp only [Io,Ad] at h;have e:=Ah h.1;subst e;have:=DL.sl b' sz 0 len cap;rw [Nat.zero_mul] at this;exact ⟨this,h.2⟩
  | _=>exact ⟨.refl _,h⟩
 | list n' g=>
  cases v with
  | nils=>exact ⟨.nild _,h⟩
  | dat n a=>simp only [Io,Ad] at h;obtain rfl:=Jj h.1;exact ⟨.dat _ _ _ (Jj h.2.1),h.2.2⟩
  | _=>exact ⟨.refl _,h⟩
 | len n'=>
  cases v with
  | sla b sz off n cap=>simp only [Io,Ad] at h;obtain rfl:=Jj h.1;exact ⟨.refl _,h.2⟩
  | _=>exact ⟨.refl _,h⟩
 | frz n n' a g=>simp only [Io,Ad] at h;obtain rfl:=Jj h.1;obtain rfl:=Jj h.2.1;exact ⟨.dat _ _ _ (Jj h.2.2.1),h.2.2.2⟩
def Pg :List VP->List B3->Bool->List B3×Bool
 | _,[],ob=>([],ob)
 | [],l,ob=>(l,ob)
 | p::ps,v::l,ob=>match Pg ps l ob with
  | (l',ob)=>match Io p v ob with
   | (v',ob)=>(v'::l',ob)
theorem Y9 : ∀{ps:List VP} {l:List B3} {ob:Bool},(Pg ps l ob).2=true->Ci l (Pg ps l ob).1/\ob=true
 | [],[],_,h=>⟨.nil,h⟩
 | _::_,[],_,h=>⟨.nil,h⟩
 | [],a::l,_,h=>⟨Ci.refl _,h⟩
 | p::ps,v::l,ob,h=>by simp only [Pg] at h ⊢;obtain ⟨h1,h2⟩:=w6q h;obtain ⟨h3,h4⟩:=Y9 h2;exact ⟨.cons h1 h3,h4⟩
inductive BP where
 | keep
 | drop
 | cells (ps:List VP)
 | rowed (sz n:Nat) (g:Nat->List B3)
 | rws (a:CK)
  | rowo (sz n:Nat) (a:CK)
def M2 (cells:List B3) (sz n:Nat) (a:CK):Bool:=pd (Ci cells (rows n a.get)/\1<=sz/\ ∀i,i<n->(a.get i).length =sz)
def j2y :List B3->List B3->TypeId->Option B8
 | .obj o::_,_::r,ty=>some ⟨.obj o::r,ty,none⟩
 | .obj _::_,[],_=>none
 | _,cs,ty=>some ⟨cs,ty,none⟩
def j2z (cells:List B3):List B3->TypeId->Option B8
 | .dat n g::r,ty=>some ⟨.dat n g::r,ty,none⟩
 | cs,ty=>j2y cells cs ty
def F8 :BP->Option B8->Bool->Option B8×Bool
 | .keep,o,ob=>(o,ob)
 | .drop,_,ob=>(none,ob)
 | .cells ps,o,ob=>match o with
  | some ⟨cells,ty,none⟩=>match Pg ps cells ob with
   | (cs,ob)=>(j2z cells cs ty,ob)
  | o=>(o,ob)
 | .rowed sz n g,o,ob=>match o with
  | some ⟨cells,ty,none⟩=>(bif (⟨cells,ty,none⟩:B8).isObj then none else some ⟨rows n g,ty,some ⟨sz,n,.flat g⟩⟩,v4l cells sz n g&&ob)
  | some ⟨_,ty,some ⟨sz',n',a⟩⟩=>(some ⟨rows n g,ty,some ⟨sz',n,.flat g⟩⟩,HN n' n&&(Ue n' a.get g&&ob))
  | o=>(o,ob)
 | .rws a',o,ob=>match o with
  | some ⟨_,ty,some ⟨sz,n,a⟩⟩=>(some ⟨rows n a'.get,ty,some ⟨sz,n,a'⟩⟩,DT n a.get a'.get&&ob)
  | o=>(o,ob)
 | .rowo sz n a',o,ob=>match o with
  | some ⟨cells,ty,none⟩=>(bif (⟨cells,ty,none⟩:B8).isObj then none else some ⟨rows n a'.get,ty,some ⟨sz,n,a'⟩⟩,M2 cells sz n a'&&ob)
  | o=>(o,ob)
theorem Ci.sound {ρ:B7} {l m:List B3} (h:Ci l m) (i:Nat) (h1:i<l.length) (h2:i<m.length) {v:Value} (hv:Zr ρ l[i] v):Zr ρ m[i] v:=(h.get i h1 h2).sound hv
theorem v6b (cells:List B3) (ty:TypeId) (A:DR):(⟨cells,ty,some A⟩:B8).isObj =false:=by
 unfold B8.isObj;split
 .rename_i e;cases e
 .rfl
theorem w2e {p:BP} {o:Option B8} {ob:Bool} {x':B8} (h:(F8 p o ob).2=true) (hx:(F8 p o ob).1=some x'):ob=true/\ ∃x,o=some x/\ ∀(ρ:B7) (w:World) (l:CR),Wt ρ w x l->Wt ρ w x' l:=by
 cases p with
 | keep=>exact ⟨h,x',hx,fun _ _ _ q=>q⟩
 | drop=>cases hx
 | cells ps=>
  rcases o with _ | ⟨cells,ty,_ | A⟩
  .cases hx
  .simp only [F8] at h hx;obtain ⟨h1,h2⟩:=Y9 h;refine ⟨h2,_,rfl,fun ρ w l hb=> ?_⟩;generalize (Pg ps cells ob).1=cs' at hx h1;cases hb with
   | obj o r ty' e1 e2 e3=>
    simp only [B8.mk.injEq] at e1;obtain ⟨rfl,rfl,_⟩:=e1;cases h1 with
    | cons ha hr=>
    rename_i c0 r';have hx:j2y (.obj o::r) (c0::r') ty=some x':=by
     unfold j2z at hx;split at hx
     .rename_i e;rw [Bj] at e;obtain ⟨rfl,_⟩:=e;cases ha
     .exact hx
    obtain rfl:=Ag hx;refine .obj o r' ty rfl (by rw [e2,Ci.len hr]) ?_;cases o with
    | mi ml=>obtain ⟨rfl,k⟩:=e3;cases hr;exact ⟨rfl,k⟩
    | mb ml=>obtain ⟨rfl,k⟩:=e3;cases hr;exact ⟨rfl,k⟩
    | it s pos=>obtain ⟨rfl,k⟩:=e3;cases hr;exact ⟨rfl,k⟩
    | bld=>
     obtain ⟨buf,v,p,rfl,k1,k2,k3⟩:=e3;cases hr with
     | cons hb0 hr0=>
     cases hr0;exact ⟨_,v,p,rfl,k1,hb0.sound k2,k3⟩
   | plain hb=>
   have hno:=hb.noObj;have hx:some (⟨cs',ty,none⟩:B8)=some x':=by
    unfold j2z at hx;split at hx
    .exact hx
    .unfold j2y at hx;split at hx
     .cases hno
     .cases hno
     .exact hx
   obtain rfl:=Ag hx;obtain ⟨cs,el,g1,g2,g3⟩:=hb.cells;refine .plain ⟨hb.typ,by rw [hb.n];exact h1.len,hb.tot,(fun A hA=>by cases hA),cs,el,g1,g2,fun i hi=> ?_⟩;have hi0:i<cells.length:=by rw [h1.len];exact hi
   obtain ⟨v,q1,q2⟩:=g3 i hi0;exact ⟨v,q1,h1.sound i hi0 hi q2⟩
  .exact ⟨h,_,rfl,fun ρ w l hb=>by obtain rfl:=Ag hx;exact hb⟩
 | rowed sz n g=>
  rcases o with _ | ⟨cells,ty,_ | ⟨sz',n',a⟩⟩
  .cases hx
  .simp only [F8,Ad] at h hx;obtain ⟨hno,hx⟩:=Lg hx;obtain rfl:=Ag hx;obtain ⟨h1,h2,h3⟩:=Jj h.1;exact ⟨h.2,_,rfl,fun ρ w l hb=>(IW.rowed cells ty none sz n g hno h1 h2 h3).sound hb⟩
  .simp only [F8,Ad] at h hx;obtain rfl:=Ag hx;obtain rfl:=Jj h.1;have h1:=Jj h.2.1;refine ⟨h.2.2,_,rfl,fun ρ w l hb=> ?_⟩;obtain ⟨q1,q2,q3⟩:=hb.arr _ rfl;exact (IW.rowed cells ty _ sz' n' g (v6b _ _ _) (q1.trans (Z1 _ h1)) q2 fun i hi=>by rw [<-h1 i hi];exact q3 i hi).sound hb
 | rws a'=>
  rcases o with _ | ⟨cells,ty,_ | ⟨sz',n',a⟩⟩
  .cases hx
  .exact ⟨h,_,rfl,fun ρ w l hb=>by obtain rfl:=Ag hx;exact hb⟩
  .simp only [F8,Ad] at h hx;obtain rfl:=Ag hx;refine ⟨h.2,_,rfl,fun ρ w l hb=> ?_⟩;obtain ⟨q1,_,_⟩:=hb.arr _ rfl;have q1:cells=rows n' a.get:=q1;subst q1;exact (IW.rws ty sz' n' a a' (Jj h.1)).sound hb
 | rowo sz n a'=>
  rcases o with _ | ⟨cells,ty,_ | A⟩
  .cases hx
  .simp only [F8,Ad] at h hx;obtain ⟨hno,hx⟩:=Lg hx;obtain rfl:=Ag hx;obtain ⟨h1,h2,h3⟩:=Jj h.1;refine ⟨h.2,_,rfl,fun ρ w l hb=> ?_⟩;have hb:=hb.at hno;obtain ⟨cs,el,g1,g2,g3⟩:=hb.cells;refine .plain ⟨hb.typ,by rw [hb.n];exact h1.len,hb.tot,fun A hA=>by obtain rfl:=Ag hA;exact ⟨rfl,h2,h3⟩,cs,el,g1,g2,fun i hi=> ?_⟩;have hi0:i<cells.length:=by rw [h1.len];exact hi
   obtain ⟨v,q1,q2⟩:=g3 i hi0;exact ⟨v,q1,h1.sound i hi0 hi q2⟩
  .exact ⟨h,_,rfl,fun ρ w l hb=>by obtain rfl:=Ag hx;exact hb⟩
def Pu :List (Nat×VP)->T B3->Bool->T B3×Bool
 | [],env,ob=>(env,ob)
 | (t,p)::l,env,ob=>match Pu l env ob with
  | (e,ob)=>match Io p (T.get .undef e t) ob with
   | (v,ob)=>(T.set .undef e t v,ob)
def GZ (e e':T B3):Prop:= ∀t,(∀(ρ:B7) (v:Value),Zr ρ (T.get .undef e t) v->Zr ρ (T.get .undef e' t) v)/\(T.get .undef e t=.undef ->T.get .undef e' t=.undef)
theorem GZ.refl (e:T B3):GZ e e:=fun _=>⟨fun _ _ h=>h,fun h=>h⟩
theorem x3y : ∀{l:List (Nat×VP)} {env:T B3} {ob:Bool},(Pu l env ob).2=true->GZ env (Pu l env ob).1/\ob=true
 | [],_,_,h=>⟨GZ.refl _,h⟩
 | (t,p)::l,env,ob,h=>by
  simp only [Pu] at h ⊢;obtain ⟨h1,h2⟩:=w6q h;obtain ⟨h3,h4⟩:=x3y h2;refine ⟨fun s=> ?_,h4⟩;rw [T.get_set];by_cases e:s=t
  .subst e;rw [AG rfl];exact ⟨fun ρ v hv=>h1.sound ((h3 s).1 ρ v hv),fun hu=>by have e:=(h3 s).2 hu;rw [e] at h1 ⊢;exact h1.of_undef⟩
  .rw [Az e];exact h3 s
def MF :List BP->Nat->CD->Bool->CD×Bool
 | [],_,m,ob=>(m,ob)
 | p::ps,i,m,ob=>match MF ps (i+1) m ob with
  | (m',ob)=>match F8 p (Yi m i) ob with
   | (x,ob)=>(Wx m' i x,ob)
theorem u3i {p:BP} {o:Option B8} {ob:Bool} (h:(F8 p o ob).2=true):ob=true:=by
 cases p with
 | keep=>exact h
 | drop=>exact h
 | cells ps=>
  rcases o with _ | ⟨cells,ty,_ | A⟩
  .exact h
  .exact (Y9 h).2
  .exact h
 | rowed sz n g=>
  rcases o with _ | ⟨cells,ty,_ | A⟩;all_goals simp_all [F8]
 | rws a=>
  rcases o with _ | ⟨cells,ty,_ | A⟩;all_goals simp_all [F8]
 | rowo sz n a=>
  rcases o with _ | ⟨cells,ty,_ | A⟩;all_goals simp_all [F8]
theorem x1n : ∀{ps:List BP} {i:Nat} {m:CD} {ob:Bool},(MF ps i m ob).2=true->ob=true/\ ∀b x',Yi (MF ps i m ob).1 b=some x'-> ∃x,Yi m b=some x/\ ∀(ρ:B7) (w:World) (l:CR),Wt ρ w x l->Wt ρ w x' l
 | [],_,_,_,h=>⟨h,fun b x' hb=>⟨x',hb,fun _ _ _ q=>q⟩⟩
 | p::ps,i,m,ob,h=>by
  simp only [MF] at h ⊢;have hob:(MF ps (i+1) m ob).2=true:=u3i h;obtain ⟨h1,h2⟩:=x1n hob;refine ⟨h1,fun b x' hb=> ?_⟩;rw [Vi] at hb;by_cases e:b=i
  .subst e;rw [AG rfl] at hb;exact (w2e h hb).2
  .rw [Az e] at hb;exact h2 b x' hb
def Pv :List (List (Nat×VP))->List CZ->Bool->List CZ×Bool
 | _,[],ob=>([],ob)
 | [],l,ob=>(l,ob)
 | p::ps,⟨cx,ro,todo,rnd,rs,env⟩::l,ob=>match Pv ps l ob with
  | (l',ob)=>match Pu p env ob with
   | (e,ob)=>(⟨cx,ro,todo,rnd,rs,e⟩::l',ob)
def PA (a a':CZ):Prop:=a.cx=a'.cx/\a.ro=a'.ro/\a.todo=a'.todo/\a.rnd=a'.rnd/\a.rs=a'.rs/\GZ a.env a'.env
theorem PA.refl (a:CZ):PA a a:=⟨rfl,rfl,rfl,rfl,rfl,GZ.refl _⟩
theorem Vo.refl' : ∀l:List CZ,Vo PA l l
 | []=>.nil
 | a::l=>.cons (PA.refl a) (Vo.refl' l)
theorem w6r : ∀{ps:List (List (Nat×VP))} {l:List CZ} {ob:Bool},(Pv ps l ob).2=true->Vo PA l (Pv ps l ob).1/\ob=true
 | [],[],_,h=>⟨.nil,h⟩
 | _::_,[],_,h=>⟨.nil,h⟩
 | [],a::l,_,h=>⟨Vo.refl' _,h⟩
 | p::ps,⟨cx,ro,todo,rnd,rs,env⟩::l,ob,h=>by simp only [Pv] at h ⊢;obtain ⟨h1,h2⟩:=x3y h;obtain ⟨h3,h4⟩:=w6r h2;exact ⟨.cons ⟨rfl,rfl,rfl,rfl,rfl,h1⟩ h3,h4⟩
structure GY where
 slots:List (Nat×VP):=[]
 blks:List BP:=[]
 cs:List (List (Nat×VP)):=[]
def Pt (L:GY):CG->CG
 | ⟨cx,ro,todo,rnd,rs,⟨env,mem,next,orc,ob⟩,cs,lps⟩=>match Pv L.cs cs ob with
  | (cs',ob)=>match MF L.blks 0 mem ob with
   | (mem',ob)=>match Pu L.slots env ob with
    | (env',ob)=>⟨cx,ro,todo,rnd,rs,⟨env',mem',next,orc,ob⟩,cs',lps⟩
def Ra :List (TypeId×Nat×(Nat->List B3))->Nat->CD->CD
 | [],_,m=>m
 | (ty,sz,g)::l,i,m=>Wx (Ra l (i+1) m) i (some ⟨[],ty,some ⟨sz,0,.flat g⟩⟩)
def WX (gs:List (TypeId×Nat×(Nat->List B3))):CG->CG
 | ⟨cx,ro,todo,rnd,rs,⟨env,mem,next,orc,ob⟩,cs,lps⟩=>⟨cx,ro,todo,rnd,rs,⟨env,Ra gs next mem,next+gs.length,orc,ob⟩,cs,lps⟩
theorem ZO : ∀(gs:List (TypeId×Nat×(Nat->List B3))) (i:Nat) (m:CD) (b:Nat),(b<i->Yi (Ra gs i m) b=Yi m b)/\(i+gs.length<=b->Yi (Ra gs i m) b=Yi m b)
 | [],i,m,b=>⟨fun _=>rfl,fun _=>rfl⟩
 | (ty,sz,g)::l,i,m,b=>by obtain ⟨h1,h2⟩:=ZO l (i+1) m b;simp only [Ra,Vi,At];exact ⟨fun h=>by rw [Az (by omega)];exact h1 (by omega),fun h=>by rw [Az (by omega)];exact h2 (by omega)⟩
theorem Fb.less {P:Program} {ρ:B7} {cs:List CZ} {css:List Frame} {mss:List Nat} (h:Fb P ρ cs css mss): ∀{cs':List CZ},Vo PA cs cs'->Fb P ρ cs' css mss:=by
 induction h with
 | nil=>intro cs' h;cases h;exact .nil
 | @cons af b a k ms cs css mss hf hl t ih=>
  intro cs' h;cases h with
  | @cons _ af' _ cs'' h1 h2=>
   obtain ⟨e1,e2,e3,e4,e5,e6⟩:=h1;have hne:cs''≠ []->cs≠ []:=fun hn he=>by subst he;cases h2;exact hn rfl
   rw [show Vh af.ro k=Vh af'.ro k by rw [e2]];exact .cons ⟨by rw [<-e1];exact ⟨hf.env.size,fun t=>(e6 t).1 _ _ (hf.env.get t),fun t ht=>(e6 t).2 (hf.env.out t ht)⟩,hf.defers,by rw [<-e3];exact hf.todo,by rw [<-e2];exact hf.ro,by rw [<-e4];exact hf.rnd⟩
    (fun hn=>by grind) (ih h2)
theorem ZP {P:Program} {cx:CI} {ro:Option CQ} {todo:List Item} {rnd:Option Nat} {rs:List ResultVar} {env env':T B3} {mem mem':CD} {k k':Nat} {o o':List Bool} {b0 b0':Bool} {cs cs':List CZ} {lps:CL}
  (hE:GZ env env') (hC:Vo PA cs cs') (hM: ∀b x',b<k->Yi mem' b=some x'-> ∃x,Yi mem b=some x/\ ∀(ρ:B7) (w:World) (l:CR),Wt ρ w x l->Wt ρ w x' l) (hk:k<=k') (hbd:(∀b,k<=b->Yi mem b=none)-> ∀b,k'<=b->Yi mem' b=none):
  Cw P ⟨cx,ro,todo,rnd,rs,⟨env,mem,k,o,b0⟩,cs,lps⟩ ⟨cx,ro,todo,rnd,rs,⟨env',mem',k',o',b0'⟩,cs',lps⟩:=
 fun H w0 ρ b a t css w ma mb hs he cs0=>by
  have hr:=hs.rel;simp only at hr he;have hne:cs'≠ []->cs≠ []:=fun hn e=>by subst e;cases hC;exact hn rfl
  refine ⟨ρ,b,a,t,css,w,ma,mb,Steps.refl _ _,⟨⟨?_,hs.top.defers,hs.top.todo,hs.top.ro,hs.top.rnd⟩,fun hn=>hs.lv (hne hn),⟨hs.rest.cs.less hC,hs.rest.nodup,hs.rest.marks,hs.rest.loops,hs.rest.inj⟩,?_⟩,?_,rfl,An _⟩
  .exact ⟨hs.top.env.size,fun t=>(hE t).1 _ _ (hs.top.env.get t),fun t ht=>(hE t).2 (hs.top.env.out t ht)⟩
  .have lift: ∀c l,ρ c=some l->(Yi mem' c).isSome =true->(Yi mem c).isSome =true:=fun c l hc h=>by obtain ⟨x,hx⟩:=BQ.1 h;obtain ⟨y,hy,_⟩:=hM c x (hr.dom c l hc) hx;rw [hy];rfl
   refine ⟨fun c l hc=>A4 (hr.dom c l hc) hk,fun c c' l l' hc hc' hl h1 h2=>hr.inj c c' l l' hc hc' hl (lift c l hc h1) (lift c' l' hc' h2),fun c l ab hc h1=> ?_,hr.old,fun c l hc h1=>hr.sep c l hc (lift c l hc h1),hr.real,hbd hr.bd,fun j l hj=>A4 (hr.ldom.1 j l hj) hk,hr.ldom.2⟩;obtain ⟨y,hy,h2⟩:=hM c ab (hr.dom c l hc) h1;exact h2 _ _ _ (hr.blk c l y hc hy)
  .exact ⟨he.ext,fun _ hb=>absurd hb (AC _),AF _,fun _ hb=>absurd hb (AC _),he.frame,he.fresh,he.size,he.os,he.tape,he.output,he.still⟩
theorem v0k {P:Program} {L:GY} {C:CG} (ho:(Pt L C).st.ob =true):C.st.ob=true/\Cw P C (Pt L C):=by
 obtain ⟨cx,ro,todo,rnd,rs,⟨env,mem,next,orc,ob⟩,cs,lps⟩:=C;simp only [Pt] at ho ⊢;obtain ⟨h1,h2⟩:=x3y ho;obtain ⟨h3,h4⟩:=x1n h2;obtain ⟨h5,h6⟩:=w6r h3;refine ⟨h6,ZP h1 h5 (fun b x' _ hb=>h4 b x' hb) (An _) fun hbd b hb=> ?_⟩;cases hq:Yi (MF L.blks 0 mem (Pv L.cs cs ob).2).1 b with
 | none=>rfl
 | some x'=>
  grind
theorem w2z {P:Program} (gs:List (TypeId×Nat×(Nat->List B3))) (C:CG):Cw P C (WX gs C)/\(WX gs C).st.ob =C.st.ob:=by
 obtain ⟨cx,ro,todo,rnd,rs,⟨env,mem,next,orc,ob⟩,cs,lps⟩:=C;exact ⟨ZP (GZ.refl _) (Vo.refl' _) (fun b x' hb h=>⟨x',by grind [ZO],fun _ _ _ q=>q⟩) (Nat.le_add_right _ _) fun hbd b hb=>by
  rw [(ZO gs next mem b).2 hb];grind,rfl⟩
theorem v0y {P:Program} {C C':CG} {orc:List Bool} {ob:Bool} (g:Cw P (C.withO orc) (C'.withB ob)):Cw P C C':=by
 obtain ⟨cx,ro,todo,rnd,rs,⟨env,mem,next,o,b⟩,cs,lps⟩:=C;obtain ⟨cx',ro',todo',rnd',rs',⟨env',mem',next',o',b'⟩,cs',lps'⟩:=C';exact fun H w0 ρ b a k css w ma mb hs he cs0=>by obtain ⟨ρ',b',a',k',css',w',ma',mb',h1,h2,h3,h4⟩:=g H w0 ρ b a k css w ma mb ⟨hs.top,hs.lv,hs.rest,hs.rel⟩ he cs0;exact ⟨ρ',b',a',k',css',w',ma',mb',h1,⟨h2.top,h2.lv,h2.rest,h2.rel⟩,h3,h4⟩
theorem v9p {P:Program} {S:B6} (hN:EJ P) (hmx:P.follows .mixedOrders =true) (hS:Zv P S) {n m d:Nat} {C C':CG} (gs:List (TypeId×Nat×(Nat->List B3))) (N:Cl) (L:GY) (orc:List Bool) (ob:Bool)
  (h:(((XC P S (Ng P S m d) n (C.withO orc)).map (WX gs)).bind (XH P N)).map (Pt L)=some (C'.withB ob)) (ho:ob=true) (hfl:TX C=true):Cw P C C':=by
 rw [Ao] at h;obtain ⟨C2,h1,h2⟩:=h;rw [Option.bind_eq_some_iff] at h1;obtain ⟨C1,h3,h4⟩:=h1;rw [Ao] at h3;obtain ⟨C0,h5,rfl⟩:=h3;have hfo:TX (C.withO orc)=true:=by obtain ⟨cx,ro,todo,rnd,rs,⟨env,mem,next,o,b⟩,cs,lps⟩:=C;exact hfl
 obtain ⟨hCI,hC⟩:=v4d hN hmx hS m d;obtain ⟨f1,f2,f3⟩:=x7v hN hmx hS hCI hC n (C.withO orc) C0 (u4d hfo) h5;have hob:(Pt L C2).st.ob =true:=by rw [h2];obtain ⟨cx,ro,todo,rnd,rs,⟨env,mem,next,o,b⟩,cs,lps⟩:=C';exact ho
 obtain ⟨l1,l2⟩:=v0k (P:=P) hob;obtain ⟨g1,g2,_⟩:=w9v h4 l1;obtain ⟨q1,q2⟩:=w2z (P:=P) gs C0;rw [q2] at g1;have:=(((f3 g1).goes.trans q1).trans g2).trans l2;rw [h2] at this;exact v0y this
theorem Vg (n:Nat) (g:Nat->List B3):Ue n g g=true:=Yh fun _ _=>rfl
theorem v3x (a g:Nat->List B3):Ue 0 a g=true:=Yh fun _ h=>absurd h (AC _)
theorem W9 {a b:Nat} (h: ¬a<=b):Nat.ble a b=false:=A8.2 fun e=>h (Aj e)
theorem Wl {a b:Nat} (h:a<=b):Nat.ble a b=true:=by simp_all
theorem v3z {n N sz:Nat} {G H H':Nat->List B3} {cells:List B3} (m:Nat) (h:Ue n G H=true) (hN:N=n+m) (h0: ∀i,i<n->H' i=H i) (h1: ∀i,i<m->(cells.drop (i*sz)).take sz=H' (n+i)):Ue N (Zo G 0 n sz cells) H'=true:=Yh fun i hi=>by
 unfold Zo;by_cases e:n<=i
 .grind [Wl]
 .rw [W9 e,Ab,Al,Jj h i (by omega),h0 i (by omega)]
theorem ZM {α:Type} {sz:Nat}: ∀(l:List (List α)) (i:Nat),(∀x∈l,x.length=sz)->i<l.length->(l.flatten.drop (i*sz)).take sz=l.getD i []
 | [],i,_,h=>absurd h (AC _)
 | x::l,0,hl,_=>by
  grind
 | x::l,i+1,hl,h=>by have hx:=hl x (by simp);rw [List.flatten_cons,List.getD_cons_succ,<-ZM l i (fun y hy=>hl y (by simp [hy])) (by simpa using h)];rw [List.drop_append,hx,show (i+1)*sz - sz=i*sz by rw [AV,BX];omega,Aw (by rw [hx,AV,BX];omega),A1]
theorem Ke {m N:Nat} {G H H':Nat->List B3} (h':Ue m H H'=true) (hN:N=0+m):Ue N (Yx G 0 H) H'=true:=Yh fun i hi=>Jj h' i (by omega)
theorem Ud {n:Nat} {G H:Nat->List B3} (h:Ue n G H=true):Ue n (fun k=>G (0+k)) H=true:=by grind
theorem u0x {cells:List B3} {sz n:Nat} {g:Nat->List B3} (h:cells=rows n g) (h1:Nat.ble 1 sz=true) (h2: ∀i,(g i).length =sz):v4l cells sz n g=true:=Yh ⟨h,Aj h1,fun i _=>h2 i⟩
def Eh :List (Nat×B8)->CD
 | []=>.leaf
 | (i,b)::l=>Wx (Eh l) i (some b)
def Ff :List (Nat×Cu)->CL
 | []=>.leaf
 | (i,b)::l=>Fg (Ff l) i (some b)
class Xu (α:Type) where
 w:Nat
 d:α
 cells:α->List B3
 of:List B3->α
 len: ∀a,(cells a).length =w
 pos:1<=w
 flat: ∀a,(cells a).all (pf 6)=true
 sc: ∀a,(cells a).all Cg=true
 back: ∀a,of (cells a)=a
def Cn :B3->Int
 | .int _ n=>n
 | _=>0
def oOf :B3->Bool
 | .bool b=>b
 | _=>false
instance : Xu Int where
 w:=1
 d:=0
 cells x:=[.int .i64 x]
 of l:=Cn (l.getD 0 .undef)
 len _:=rfl
 pos:=An 1
 flat _:=rfl
 sc _:=rfl
 back _:=rfl
instance : Xu Bool where
 w:=1
 d:=false
 cells x:=[.bool x]
 of l:=oOf (l.getD 0 .undef)
 len _:=rfl
 pos:=An 1
 flat _:=rfl
 sc _:=rfl
 back _:=rfl
structure R2 where
 (a b:Int)
 deriving DecidableEq
structure R3 where
 (a b c:Int)
 deriving DecidableEq
structure R4 where
 (a b c d:Int)
 deriving DecidableEq
structure R6 where
 (a b c d e f:Int)
 deriving DecidableEq
instance : Xu R2 where
 w:=2
 d:=⟨0,0⟩
 cells x:=[.int .i64 x.a,.int .i64 x.b]
 of l:=⟨Cn (l.getD 0 .undef),Cn (l.getD 1 .undef)⟩
 len _:=rfl
 pos:=by decide
 flat _:=rfl
 sc _:=rfl
 back _:=rfl
instance : Xu R3 where
 w:=3
 d:=⟨0,0,0⟩
 cells x:=[.int .i64 x.a,.int .i64 x.b,.int .i64 x.c]
 of l:=⟨Cn (l.getD 0 .undef),Cn (l.getD 1 .undef),Cn (l.getD 2 .undef)⟩
 len _:=rfl
 pos:=by decide
 flat _:=rfl
 sc _:=rfl
 back _:=rfl
instance : Xu R4 where
 w:=4
 d:=⟨0,0,0,0⟩
 cells x:=[.int .i64 x.a,.int .i64 x.b,.int .i64 x.c,.int .i64 x.d]
 of l:=⟨Cn (l.getD 0 .undef),Cn (l.getD 1 .undef),Cn (l.getD 2 .undef),Cn (l.getD 3 .undef)⟩
 len _:=rfl
 pos:=by decide
 flat _:=rfl
 sc _:=rfl
 back _:=rfl
instance : Xu R6 where
 w:=6
 d:=⟨0,0,0,0,0,0⟩
 cells x:=[.int .i64 x.a,.int .i64 x.b,.int .i64 x.c,.int .i64 x.d,.int .i64 x.e,.int .i64 x.f]
 of l:=⟨Cn (l.getD 0 .undef),Cn (l.getD 1 .undef),Cn (l.getD 2 .undef),Cn (l.getD 3 .undef),Cn (l.getD 4 .undef),Cn (l.getD 5 .undef)⟩
 len _:=rfl
 pos:=by decide
 flat _:=rfl
 sc _:=rfl
 back _:=rfl
section
variable {α:Type} [Xu α]
def rd (L:List α) (k:Nat):α:=L.getD k Xu.d
def Zz (L:List α):Nat->List B3:=fun k=>Xu.cells (rd L k)
def Cf (α:Type) [Xu α] (n:Nat) (g:Nat->List B3):List α:=(List.range n).map fun k=>Xu.of (g k)
def CT (α:Type) [Xu α] (n:Nat) (g:Nat->List B3):Bool:=pd (∀i,i<n->g i=Xu.cells (Xu.of (g i):α))
theorem Wb {L:List α} {k:Nat} (h:k<L.length):rd L k=L[k]:=by grind [rd]
theorem z7f {L M:List α} {k:Nat} (h:k<L.length):rd (L++M) k=rd L k:=by
 grind [rd]
theorem YO {L M:List α} {k:Nat} (h:L.length<=k):rd (L++M) k=rd M (k - L.length):=by
 grind [rd]
theorem Zt (L:List α):Cf α L.length (Zz L)=L:=by
 apply Bo;all_goals grind [Cf,Zz,Xu.back,Wb]
def B4 (L:List α):List α:=Cf α L.length (Zz L)
theorem Yg (L:List α):B4 L=L:=Zt L
theorem x1l (n:Nat) (g:Nat->List B3):(Cf α n g).length =n:=by simp [Cf]
theorem Ul (L:List α) (n:Nat):CT α n (Zz L)=true:=Yh fun i _=>by simp only [Zz];rw [Xu.back]
theorem x7w (L:List α) (off n:Nat):CT α n (fun k=>Zz L (off+k))=true:=Yh fun i _=>by simp only [Zz];rw [Xu.back]
theorem w6v (g:Nat->List B3):CT α 0 g=true:=Yh fun i h=>absurd h (AC _)
theorem u3s (g:Nat->List B3) (h0:g 0=Xu.cells (Xu.of (g 0):α)):CT α 1 g=true:=Yh fun i h=>by
 grind
theorem u3r (g:Nat->List B3) (h0:g 0=Xu.cells (Xu.of (g 0):α)) (h1:g 1=Xu.cells (Xu.of (g 1):α)):CT α 2 g=true:=Yh fun i h=>by
 grind
theorem w6w {n:Nat} {g:Nat->List B3} (h:CT α n g=true): ∀i,i<n->g i=Zz (Cf α n g) i:=fun i hi=>by
 rw [Jj h i hi]
 grind [Zz,Wb,Cf]
theorem Xo (L:List α):DB (Zz L)=true:=Yh fun _=>Xu.flat _
theorem v1r {sz:Nat} (L:List α) (n:Nat) (h:sz=Xu.w α):Kt sz n (Zz L)=true:=Yh fun _ _=>⟨by rw [h];exact Xu.len _,Xu.sc _⟩
theorem v1s {sz:Nat} (L:List α) (off n:Nat) (h:sz=Xu.w α):Kt sz n (fun k=>Zz L (off+k))=true:=Yh fun _ _=>⟨by rw [h];exact Xu.len _,Xu.sc _⟩
theorem w3w {sz N off m:Nat} {G:Nat->List B3} (h:Kt sz N G=true) (hb:decide (off+m<=N)=true):Kt sz m (fun k=>G (off+k))=true:=Yh fun i hi=>by have hb:=Av hb;exact Jj h (off+i) (by omega)
theorem v8b {sz n N m:Nat} {G:Nat->List B3} {cells:List B3} (h:Kt sz n G=true) (hN:N=n+m) (hc:cells.length=m*sz) (hs:cells.all Cg=true):Kt sz N (Zo G 0 n sz cells)=true:=Yh fun i hi=>by
 unfold Zo;by_cases e:n<=i
 .rw [Wl e,Af];have:(i - n)*sz+sz<=m*sz:=by
   have:=AE sz (show i - n+1<=m by omega)
   grind
  grind
 .rw [W9 e,Ab,Al];exact Jj h i (by omega)
theorem Qo {L M:List α} {n N sz:Nat} {G:Nat->List B3} {cells:List B3} (h:Ue n G (Zz L)=true) (hn:n=L.length) (hN:N=n+M.length) (hsz:sz=Xu.w α) (hc:cells=(M.map Xu.cells).flatten):Ue N (Zo G 0 n sz cells) (Zz (L++M))=true:=by
 grind [v3z,Zz,ZM,Xu.len,Wb]
theorem Ij {L:List α} {r k:Nat} {y:α} (hk:k<L.length):rd (L.set r y) k=if k=r then y else rd L k:=by
 grind [Wb]
theorem w5f {L:List α} {n r fo:Nat} {G:Nat->List B3} {cs:List B3} {y:α} (h:Ue n G (Zz L)=true) (hn:n=L.length) (hy:Xu.cells y=(Xu.cells (rd L r)).take fo++cs++(Xu.cells (rd L r)).drop (fo+cs.length)):Ue n (Xw G r fo cs) (Zz (L.set r y))=true:=by
 subst hn;refine Yh fun i hi=> ?_;unfold Xw;simp only [Zz];rw [Ij hi];cases e:Nat.beq i r with
 | true=>have:=Ah e;subst this;rw [Af,AG rfl,Jj h i hi,hy];rfl
 | false=>
  have:i≠r:=fun q=>by simp_all
  rw [Ab,Az this,Jj h i hi];rfl
theorem u0i {n:Nat} {cs:List B3} {y:α} {G:Nat->List B3} (hG:G=fun _=>cs) (hy:Xu.cells y=cs):Ue n G (Zz (List.replicate n y))=true:=Yh fun i hi=>by
 grind [Zz,Wb]
theorem Kd {L M:List α} {n m N:Nat} {G H:Nat->List B3} (h:Ue n G (Zz L)=true) (hn:n=L.length) (h':Ue m H (Zz M)=true) (hN:N=n+m):Ue N (Yx G n H) (Zz (L++M))=true:=by
 subst hn;refine Yh fun i hi=> ?_;unfold Yx;by_cases e:L.length<=i
 .rw [Wl e,Af,Jj h' _ (by omega)];grind [Zz,YO]
 .rw [W9 e,Ab,Jj h i (by omega)];grind [Zz,z7f]
def Gi (n:Nat) (g:Nat->List B3) (sz:Nat):Bool:=pd (∀i,i<n->(g i).length =sz)
theorem v6r {sz:Nat} (L:List α) (n:Nat) (h:sz=Xu.w α):Gi n (Zz L) sz=true:=Yh fun _ _=>by rw [h];exact Xu.len _
theorem v0m {sz n:Nat} {L:List α} {off:Nat} (h:sz=Xu.w α):Gi n (fun k=>Zz L (off+k)) sz=true:=Yh fun _ _=>by rw [h];exact Xu.len _
def Vf (L:List α) (off n:Nat):List α:=(List.range n).map fun k=>rd L (off+k)
theorem Yj (L:List α) (off n:Nat):(Vf L off n).length =n:=by simp [Vf]
theorem VJ {L:List α} {off n k:Nat} (h:k<n):rd (Vf L off n) k=rd L (off+k):=by
 grind [Wb,Vf]
theorem u2m {L:List α} {off n:Nat} (h:off+n<=L.length):Vf L off n=(L.drop off).take n:=by
 apply Bo;all_goals grind [Vf,Wb]
theorem w8q {L:List α} {N off n:Nat} {G:Nat->List B3} (h:Ue N G (Zz L)=true) (hb:decide (off+n<=N)=true):Ue n (fun k=>G (off+k)) (Zz (Vf L off n))=true:=Yh fun i hi=>by have hb:=Av hb;simp only [Zz];rw [VJ hi,Jj h _ (by omega)];rfl
theorem Jb {L:List α} {off n:Nat}:Ue n (fun k=>Zz L (off+k)) (Zz (Vf L off n))=true:=Yh fun i hi=>by simp only [Zz];rw [VJ hi]
theorem Ug (L:List α):Cf α L.length (fun k=>Zz L (0+k))=L:=by
 grind [Zt]
theorem u3t (L:List Int):K3 (Zz L)=true:=Yh rfl
theorem X5 (L:List Int):Ws L.length (DG (Zz L))=L:=Zt L
def GA (L:List α) (off n:Nat) (M:List α):List α:=(List.range L.length).map fun k=>bif Nat.ble off k&&Nat.ble (k+1) (off+n) then rd M (k - off) else rd L k
theorem UQ (L:List α) (off n:Nat) (M:List α):(GA L off n M).length =L.length:=by simp [GA]
theorem v4w {L M:List α} {off n k:Nat} (h:k<L.length):rd (GA L off n M) k=bif Nat.ble off k&&Nat.ble (k+1) (off+n) then rd M (k - off) else rd L k:=by
 grind [Wb,GA]
theorem u0k {L M:List α} {N off n m:Nat} {G H:Nat->List B3} (h:Ue N G (Zz L)=true) (hN:N=L.length) (h':Ue m H (Zz M)=true) (hm:n<=m):Ue N (Ut G off n H) (Zz (GA L off n M))=true:=by
 subst hN;refine Yh fun i hi=> ?_;unfold Ut;simp only [Zz];rw [v4w hi];cases e:(Nat.ble off i&&Nat.ble (i+1) (off+n)) with
 | true=>simp only [Ad] at e;have e1:=Aj e.1;have e2:=Aj e.2;rw [Af,Af,Jj h' _ (by omega)];rfl
 | false=>rw [Ab,Ab,Jj h i hi];rfl
theorem v3y (z g:Nat->List B3) (n:Nat):Ue n (Ut z 0 (Nat.min n n) g) g=true:=Yh fun i hi=>by unfold Ut;rw [show Nat.min n n=n from Nat.min_self n,Al,A0 (AF i),A0 hi];rfl
theorem v7l {g h:Nat->List B3} {off n:Nat} (p:DB g=true) (q:DB h=true):DB (Ut g off n h)=true:=Yh fun i=>by
 unfold Ut;cases (Nat.ble off i&&Nat.ble (i+1) (off+n)) with
 | true=>exact Jj q _
 | false=>exact Jj p _
end
theorem Wj {P:Program} {rs:List ResultVar} {σ:Type} {cfg:σ->CG} {C C':CG} (g:Cw P C C'): ∀{o:Xj σ},Wp P rs cfg C' o->Wp P rs cfg C o
 | .stuck,_=>trivial
 | .ret _,⟨D,h,h2,h3⟩=>⟨D,g.trans h,h2,h3⟩
 | .to _,h=>g.trans h
theorem w7j : ∀{az bs:List B3} (i:Nat) {t u:T B3},Vo DL az bs->GZ t u->GZ (Ey az i t) (Ey bs i u)
 | _,_,i,t,u,.nil,h=>h
 | _,_,i,t,u,.cons (a:=a) (b:=b) h1 h2,h=>by
  refine w7j (i+1) h2 fun s=> ?_;rw [T.get_set,T.get_set];by_cases e:s=i
  .rw [AG e,AG e];exact ⟨fun ρ v hv=>h1.sound hv,fun q=>by subst q;exact h1.of_undef⟩
  .rw [Az e,Az e];exact h s
theorem Y2 {P:Program} {f:FuncId} {az bs:List B3} {vs:List B3} (h:Vo DL az bs) (k:Kj P (Zy P f) (Zg P f bs true []) vs):Kj P (Zy P f) (Zg P f az true []) vs:=by
 obtain ⟨C',g,h2,h3⟩:=k;refine ⟨C',Cw.trans ?_ g,h2,h3⟩;unfold Zg;cases P.funcs[f]? with
 | none=>exact Cw.refl _
 | some fn=>simp only;rw [h.length];exact ZP (w7j 0 h (GZ.refl _)) .nil (fun b x' hb=>absurd hb (AC _)) (An _) fun hbd b hb=>hbd b hb
theorem w7u {P:Program} {S:B6} (hS:Zv P S) {f:FuncId} {F:List B3->Option (B3×Bool)} (hf:(P.funcs[f]?).any (fun fn=>fn.body.isSome)=true)
  (hF: ∀args v,F args=some (v,true)-> ∃bs vs,Vo DL args bs/\Js vs=v/\Kj P (Zy P f) (Zg P f bs true []) vs/\ ∃d,pf d v=true):Zv P (S.with f F):=
 v2t hS hf fun args v h=>by obtain ⟨bs,vs,h1,h2,h3,d,h4⟩:=hF args v h;exact ⟨vs,h2,Y2 h1 h3,d,h4⟩
def Cc (α:Type) [Xu α]:B3->Option (List α×(Nat->List B3)×Nat)
 | .nils =>some ([],fun _=>[],0)
 | .dat n g=>some (Cf α n g,g,n)
 | _=>none
theorem Xh {α:Type} [Xu α] {v:B3} {L:List α} {g:Nat->List B3} {n:Nat} (h:Cc α v=some (L,g,n)) (ho:CT α n g=true):DL v (.dat L.length (Zz L)):=by
 unfold Cc at h;split at h
 .simp only [Ae,Ac] at h;obtain ⟨rfl,_,_⟩:=h;exact .nild _
 .simp only [Ae,Ac] at h;obtain ⟨rfl,rfl,rfl⟩:=h;rw [x1l];exact .dat _ _ _ (w6w ho)
 .cases h
open Go.ChangeShapes Go.WideShapes Go.Deep
section
variable {P:Program}
def WE (P:Program) (rec:TypeId->Option (List IntKind)):List Field->Nat->Option (List IntKind)
 | [],_=>some []
 | f::r,o=>bif Nat.beq f.offset o then match rec f.type with
   | some ks=>bif Nat.beq (P.cellsOf f.type) ks.length then (WE P rec r (o+ks.length)).map (ks++ ·) else none
   | none=>none
  else none
def If (P:Program):Nat->TypeId->Option (List IntKind)
 | 0,_=>none
 | d+1,t=>match P.underlying t with
  | some (.int k)=>some [k]
  | some (.struct fs)=>match WE P (If P d) fs.toList 0 with
   | some ks=>bif Nat.beq (P.cellsOf t) ks.length then some ks else none
   | none=>none
  | _=>none
def HV (ks:List IntKind) (cs:List Value):Prop:= ∃ns:List Int,ns.length=ks.length/\cs=List.zipWith Value.int ks ns/\ ∀p∈List.zip ks ns,p.1.has p.2
theorem HV.append {a b:List IntKind} {x y:List Value} (h:HV a x) (k:HV b y):HV (a++b) (x++y):=by
 obtain ⟨ns,h1,rfl,h3⟩:=h;obtain ⟨ms,k1,rfl,k3⟩:=k;refine ⟨ns++ms,by simp [h1,k1],?_,fun p hp=> ?_⟩;all_goals grind
theorem HV.length {ks:List IntKind} {cs:List Value} (h:HV ks cs):cs.length=ks.length:=by obtain ⟨ns,h1,rfl,_⟩:=h;simp [h1]
variable {HH:Type} {enc:TypeId×Value->HH} {w:World} {base:Nat} {spare:Nat->Bool} {gM:Bool}
theorem y3r {rec:TypeId->Option (List IntKind)} (hr: ∀t ks,rec t=some ks-> ∀fuel cs x,DataW.trod enc P w base spare gM fuel t cs=some x->HV ks cs) (cs:List Value):
  ∀(l:List Field) (o:Nat) (ks:List IntKind),WE P rec l o=some ks->o+ks.length<=cs.length->(∀f∈l,∃fuel x,DataW.trod enc P w base spare gM fuel f.type ((cs.drop f.offset).take (P.cellsOf f.type))=some x)->HV ks ((cs.drop o).take ks.length)
 | [],o,ks,h,_,_=>by obtain rfl:=Ag h;exact ⟨[],rfl,by simp,by simp⟩
 | f::r,o,ks,h,hl,hf=>by
  unfold WE at h;obtain ⟨ho,h⟩:=Zd h;obtain rfl:=Ah ho;split at h
  .rename_i ks1 h1;obtain ⟨hc,h⟩:=Zd h;have hc:=Ah hc;simp only [Ao] at h;obtain ⟨ks2,h2,rfl⟩:=h;obtain ⟨fuel,x,hx⟩:=hf f (by simp);have i1:=hr _ _ h1 _ _ _ hx;rw [hc] at i1;rw [Ap] at hl;have i2:=y3r hr cs r _ ks2 h2 (by omega) fun g hg=>hf g (by simp [hg]);have:(cs.drop f.offset).take (ks1++ks2).length =(cs.drop f.offset).take ks1.length++(cs.drop (f.offset+ks1.length)).take ks2.length:=by rw [Ap,List.take_add,List.drop_drop]
   rw [this];exact i1.append i2
  .cases h
theorem Q5 : ∀(d:Nat) (t:TypeId) (ks:List IntKind),If P d t=some ks-> ∀(fuel:Nat) (cs:List Value) (x:DataW HH×List MemPlace),DataW.trod enc P w base spare gM fuel t cs=some x->HV ks cs
 | 0,_,_,h=>by cases h
 | d +1,t,ks,h=>by
  intro fuel cs x hx;unfold If at h;split at h
  .rename_i k hk;obtain rfl:=Ag h;obtain ⟨m,rfl,_,hw⟩:=DataW.trod_int hk hx;refine ⟨[m],rfl,rfl,fun p hp=> ?_⟩;simp_all [Lit.wf,IntKind.has]
  .rename_i fs hs;split at h
   .rename_i ks1 h1;obtain ⟨hc,h⟩:=Zd h;obtain rfl:=Ag h;have hc:=Ah hc;obtain ⟨xs,n,_,_,hl,eE,hf⟩:=DataW.trod_struct hs hx;have hl:cs.length=ks1.length:=hl.trans hc;have:=y3r (fun t ks ht fuel cs x hx=>Q5 d t ks ht fuel cs x hx) cs fs.toList 0 ks1 h1 (by omega) fun f hf'=>by
     obtain ⟨j,hj,rfl⟩:=A6 hf';have hj2:j<fs.size:=(by grind);have:=hf j fs[j] (by simp [hj2])
     grind
    grind
   .cases h
  .cases h
def Ip (ks:List IntKind) (c:Nat->Int):List B3:=List.zipWith B3.int ks ((List.range ks.length).map c)
theorem v4m (ks:List IntKind) (c:Nat->Int) (j:Nat) (h:j<(Ip ks c).length): ∃hk:j<ks.length,(Ip ks c)[j]=.int ks[j] (c j):=by
 grind [Ip]
theorem u4r {e:TypeId} {ks:List IntKind} (hk:If P 30 e=some ks) {blk off len cap m fl:Nat} {D:Nat->DataW HH} {Pl:Nat->List MemPlace} (hl:len<=cap) (hlm:len<=m)
  (hi: ∀i,i<m-> ∃cs',w.cells? base ((⟨blk,off,none⟩:Addr).add (i*P.cellsOf e)) (P.cellsOf e)=some cs'/\DataW.trod enc P w base spare gM fl e cs'=some (D i,Pl i)):
  ∃c:Nat->Nat->Int,Zr (DD fun k=>w.heap[k]?) (.dat len (fun i=>Ip ks (c i))) (.slice (some ⟨blk,off,none⟩) len cap)/\ ∀i,i<len-> ∀(j:Nat) (k:IntKind),ks[j]? =some k->k.has (c i j):=by
 have key: ∀i,i<len-> ∃ns:List Int,ns.length=ks.length/\(∀j,j<ks.length-> ∃k,ks[j]? =some k/\w.cell? ⟨blk,off+(i*ks.length+j),none⟩=some (.int k (ns.getD j 0))/\k.has (ns.getD j 0)):=by
  intro i hil;obtain ⟨cs',hc',ht'⟩:=hi i (by omega);have I:=Q5 30 e ks hk _ _ _ ht';obtain ⟨_,eE,eY⟩:=World.cells?_some hc';have hce:P.cellsOf e=ks.length:=by rw [<-eE];exact I.length
  obtain ⟨ns,n1,n2,n3⟩:=I;refine ⟨ns,n1,fun j hj=> ?_⟩;have hj2:j<ns.length:=by omega
  refine ⟨ks[j],by simp [hj],?_,?_⟩
  .grind [Xa]
  .have:(ks[j],ns[j])∈List.zip ks ns:=by
    rw [List.mem_iff_getElem]
    grind
   grind
 let c:Nat->Nat->Int:=fun i j=>if hil:i<len then ((key i hil).choose).getD j 0 else 0
 have hcs: ∀i,i<len-> ∀j,j<ks.length-> ∃k,ks[j]? =some k/\w.cell? ⟨blk,off+(i*ks.length+j),none⟩=some (.int k (c i j))/\k.has (c i j):=by
  grind
 refine ⟨c,.dat len _ blk off ks.length cap (fun i j=>.int (ks.getD j .i64) (c i j)) hl (fun i _=>by simp [Ip]) (fun i j hil hj=> ?_) (fun i j hil hj=> ?_),fun i hil j k hkj=> ?_⟩
 .obtain ⟨hk2,e2⟩:=v4m ks (c i) j hj;rw [e2];have:ks.getD j .i64 =ks[j]:=by simp [hk2]
  rw [this];exact .int _ _
 .obtain ⟨k,e1,e2,_⟩:=hcs i hil j hj;have:ks.getD j .i64 =k:=by simp [e1]
  rw [this];unfold World.cell? at e2;split at e2
  .rename_i cl el fz hb2;simp only [Option.isSome_none,Bool.false_eq_true,if_false] at e2;exact ⟨cl,el,fz,hb2,e2⟩
  .cases e2
 grind
end
end Go.Am
namespace Go.Proofs
open Go.Shelf Go.RowKit Go.Lib
variable {P:Program} {ρ:Ren}
theorem j0e {e:TypeId} (hc:P.cellsOf e=1) (count o n:Nat) (hn:o+n<=count):liesAt P P.depth e count o e n=true:=by have hd:P.depth=(2*(P.types.size+Made.depth)+1)+1:=rfl;rw [hd];simp only [liesAt,Bool.or_eq_true];left;rw [hd];simp [rowAt,hc,sameLayout];omega
theorem y6n (w:World) (pt it ty e:TypeId) (hp:P.underlying pt=some (.pointer e)) (hc:P.cellsOf e=1) (g o cells:Nat) (hsh:w.shape? g=some (e,cells)) (l:List UInt8) (h0:l≠ []) (hn:o+l.length<=cells) (h63:l.length<=9223372036854775807)
  (eY: ∀j x,l[j]? =some x->w.cell? ((⟨g,o,none⟩:Addr).add j)=some (.int .u8 x.toNat)):
  (Builtin.unsafeString_ #[pt,it] ty #[.pointer (some ⟨g,o,none⟩),.int .i64 l.length]).run P w=.ok (.string ⟨l.toArray⟩) (w.freeze ⟨g,o,none⟩ l.length):=by
 have hl:l.length≠0:=by simpa using h0
 have hlb:=run_loadBytes (P:=P) w l ⟨g,o,none⟩ .empty eY;have hlies:=j0e (P:=P) hc (cells / P.cellsOf e) o l.length (by rw [hc];simpa using hn);have h63': ¬(9223372036854775807:Int)<(l.length:Int):=by omega
 have hmax:IntKind.i64.max=9223372036854775807:=rfl;obtain ⟨e1,e2,e3,hdef⟩: ∃e1 e2 e3,Builtin.unsafeString_ #[pt,it] ty #[.pointer (some ⟨g,o,none⟩),.int .i64 l.length]=
   (do
    let n<-asInt (.int .i64 l.length)
    if n<0 then runtimePanic e1
    if n>IntKind.i64.max then unsupported e2
    if n=0 then pure (.string .empty)
    else if<-variablesAt ⟨g,o,none⟩ (<-elemOf pt) n.toNat then do
     let s<-loadBytes ⟨g,o,none⟩ .empty n.toNat
     freeze ⟨g,o,none⟩ n.toNat
     pure (.string s)
    else unsupported e3):=⟨_,_,_,rfl⟩
 rw [hdef];have hneg: ¬(l.length:Int)<0:=by omega
 simp [asInt,asIntOf,hmax,h63',hneg,hl,variablesAt,hsh,elemOf,run_underlying hp,hlies,hlb]
theorem v3w (w:World) (g o n k:Nat) (h:g≠k):(w.freeze ⟨g,o,none⟩ n).heap[k]? =w.heap[k]? :=by
 unfold World.freeze;split
 .rfl
 .simp only [Array.getElem?_modify];rw [if_neg h]
theorem y9z (w:World) (p:Addr) (n:Nat):(w.freeze p n).heap.size =w.heap.size/\(w.freeze p n).os =w.os/\(w.freeze p n).tape =w.tape/\(w.freeze p n).output =w.output:=by unfold World.freeze;split <;> simp
set_option maxHeartbeats 4000000 in
set_option maxRecDepth 100000 in
theorem x2v (L:Lays.n169 P ρ) (X:Builder.Extra P ρ) (b:Nat) (p:Value) (w:World) (hbk:w.heap[b]? =some (.cells #[p,Value.slice none 0 0] (ρ.t 72) (0,0))):
  Calls P (ρ.f 169) #[.pointer (some ⟨b,0,none⟩)] w fun e w'=>e=.returned (.string ⟨#[]⟩)/\w'=w.drew:=by
 have c1:w.drew.cell? ⟨b,1,none⟩=some (Value.slice none 0 0):=by have:w.drew.heap[b]? =some (.cells #[p,Value.slice none 0 0] (ρ.t 72) (0,0)):=hbk;rw [Lib.cell_of_heap this];rfl
 have hUS: ∀(W:World) (q:Option Addr),(Builtin.unsafeString_ #[(ρ.t 127),(ρ.t 3)] (ρ.t 9) #[.pointer q,.int .i64 0]).run P W=.ok (.string .empty) W:=fun W q=>Lib.run_unsafeString_none W _ _ _ q;have hSD:(Builtin.unsafeSliceData_ #[(ρ.t 37)] (ρ.t 127) #[.slice none 0 0]).run P w.drew=.ok (.pointer none) w.drew:=rfl;have mixed:=L.mixed;have t72:=L.t72;have a72:=L.a72;have z72:=L.z72;have v72:=L.v72;have u72:=run_underlying L.t72;have t70:=L.t70;have a70:=L.a70;have z70:=L.z70;have v70:=L.v70;have u70:=run_underlying L.t70;have t37:=L.t37;have a37:=L.a37;have z37:=L.z37;have v37:=L.v37;have u37:=run_underlying L.t37;have t127:=L.t127;have a127:=L.a127;have z127:=L.z127;have v127:=L.v127;have u127:=run_underlying L.t127;have t3:=L.t3;have a3:=L.a3;have z3:=L.z3;have v3:=L.v3;have u3:=run_underlying L.t3;have t9:=L.t9;have a9:=L.a9;have z9:=L.z9;have v9:=L.v9;have u9:=run_underlying L.t9;have t5:=X.t5;have a5:=X.a5;have z5:=X.z5;have v5:=X.v5;have u5:=run_underlying X.t5
 go_enter L.f169,Body.n169_ntmps ρ
 go_wp2
 go_region_o
 all_goals (go_wp2;go_ret;exact ⟨rfl,rfl⟩)
set_option maxHeartbeats 4000000 in
set_option maxRecDepth 100000 in
theorem x0b (L:Lays.n169 P ρ) (X:Builder.Extra P ρ) (b:Nat) (p:Value) (w:World) (g o cap:Nat) (hc0:cap≠0) (hbk:w.heap[b]? =some (.cells #[p,Value.slice (some ⟨g,o,none⟩) 0 cap] (ρ.t 72) (0,0))):
  Calls P (ρ.f 169) #[.pointer (some ⟨b,0,none⟩)] w fun e w'=>e=.returned (.string ⟨#[]⟩)/\w'=w.drew:=by
 have c1:w.drew.cell? ⟨b,1,none⟩=some (Value.slice (some ⟨g,o,none⟩) 0 cap):=by have:w.drew.heap[b]? =some (.cells #[p,Value.slice (some ⟨g,o,none⟩) 0 cap] (ρ.t 72) (0,0)):=hbk;rw [Lib.cell_of_heap this];rfl
 have hUS: ∀(W:World) (q:Option Addr),(Builtin.unsafeString_ #[(ρ.t 127),(ρ.t 3)] (ρ.t 9) #[.pointer q,.int .i64 0]).run P W=.ok (.string .empty) W:=fun W q=>Lib.run_unsafeString_none W _ _ _ q;have hSD:(Builtin.unsafeSliceData_ #[(ρ.t 37)] (ρ.t 127) #[.slice (some ⟨g,o,none⟩) 0 cap]).run P w.drew=.ok (.pointer (some ⟨g,o,none⟩)) w.drew:=Lib.run_unsafeSliceData_row _ _ _ _ _ _ hc0;clear hc0;have mixed:=L.mixed;have t72:=L.t72;have a72:=L.a72;have z72:=L.z72;have v72:=L.v72;have u72:=run_underlying L.t72;have t70:=L.t70;have a70:=L.a70;have z70:=L.z70;have v70:=L.v70;have u70:=run_underlying L.t70;have t37:=L.t37;have a37:=L.a37;have z37:=L.z37;have v37:=L.v37;have u37:=run_underlying L.t37;have t127:=L.t127;have a127:=L.a127;have z127:=L.z127;have v127:=L.v127;have u127:=run_underlying L.t127;have t3:=L.t3;have a3:=L.a3;have z3:=L.z3;have v3:=L.v3;have u3:=run_underlying L.t3;have t9:=L.t9;have a9:=L.a9;have z9:=L.z9;have v9:=L.v9;have u9:=run_underlying L.t9;have t5:=X.t5;have a5:=X.a5;have z5:=X.z5;have v5:=X.v5;have u5:=run_underlying X.t5
 go_enter L.f169,Body.n169_ntmps ρ
 go_wp2
 go_region_o
 all_goals (go_wp2;go_ret;exact ⟨rfl,rfl⟩)
set_option maxHeartbeats 4000000 in
set_option maxRecDepth 100000 in
theorem y4b (L:Lays.n169 P ρ) (X:Builder.Extra P ρ) (b:Nat) (p:Value) (w:World) (g o:Nat) (cur:Array Value) (hbk:w.heap[b]? =some (.cells #[p,Value.slice (some ⟨g,o,none⟩) 0 0] (ρ.t 72) (0,0))) (hg:w.heap[g]? =some (.cells cur (ρ.t 5) (0,0))):
  Calls P (ρ.f 169) #[.pointer (some ⟨b,0,none⟩)] w fun e w'=>e=.returned (.string ⟨#[]⟩)/\w'=w.drew.alloc (.view ⟨g,o,none⟩ (ρ.t 5)):=by
 have c1:w.drew.cell? ⟨b,1,none⟩=some (Value.slice (some ⟨g,o,none⟩) 0 0):=by have:w.drew.heap[b]? =some (.cells #[p,Value.slice (some ⟨g,o,none⟩) 0 0] (ρ.t 72) (0,0)):=hbk;rw [Lib.cell_of_heap this];rfl
 have hUS: ∀(W:World) (q:Option Addr),(Builtin.unsafeString_ #[(ρ.t 127),(ρ.t 3)] (ρ.t 9) #[.pointer q,.int .i64 0]).run P W=.ok (.string .empty) W:=fun W q=>Lib.run_unsafeString_none W _ _ _ q;have hlt:b<w.heap.size:=(Array.getElem?_eq_some_iff.1 hbk).1;have hSD:(Builtin.unsafeSliceData_ #[(ρ.t 37)] (ρ.t 127) #[.slice (some ⟨g,o,none⟩) 0 0]).run P w.drew=.ok (.pointer (some ⟨w.drew.heap.size,0,none⟩)) (w.drew.alloc (.view ⟨g,o,none⟩ (ρ.t 5))):=
  Lib.run_unsafeSliceData_zero w.drew _ _ (ρ.t 5) L.t127 ⟨g,o,none⟩ 0 ((ρ.t 5),cur.size) (by have hg':w.drew.heap[g]? =some (.cells cur (ρ.t 5) (0,0)):=hg;simp [World.shape?,hg'])
 have c2:(w.drew.alloc (.view ⟨g,o,none⟩ (ρ.t 5))).cell? ⟨b,1,none⟩=some (.slice (some ⟨g,o,none⟩) 0 0):=by have:(w.drew.alloc (.view ⟨g,o,none⟩ (ρ.t 5))).heap[b]? =_:=(Lib.alloc_old w.drew _ b hlt).trans hbk;rw [Lib.cell_of_heap this];rfl
 have c3:(w.alloc (.view ⟨g,o,none⟩ (ρ.t 5))).drew.cell? ⟨b,1,none⟩=some (.slice (some ⟨g,o,none⟩) 0 0):=c2;have c0:w.cell? ⟨b,1,none⟩=some (.slice (some ⟨g,o,none⟩) 0 0):=c1;have mixed:=L.mixed;have t72:=L.t72;have a72:=L.a72;have z72:=L.z72;have v72:=L.v72;have u72:=run_underlying L.t72;have t70:=L.t70;have a70:=L.a70;have z70:=L.z70;have v70:=L.v70;have u70:=run_underlying L.t70;have t37:=L.t37;have a37:=L.a37;have z37:=L.z37;have v37:=L.v37;have u37:=run_underlying L.t37;have t127:=L.t127;have a127:=L.a127;have z127:=L.z127;have v127:=L.v127;have u127:=run_underlying L.t127;have t3:=L.t3;have a3:=L.a3;have z3:=L.z3;have v3:=L.v3;have u3:=run_underlying L.t3;have t9:=L.t9;have a9:=L.a9;have z9:=L.z9;have v9:=L.v9;have u9:=run_underlying L.t9;have t5:=X.t5;have a5:=X.a5;have z5:=X.z5;have v5:=X.v5;have u5:=run_underlying X.t5
 go_enter L.f169,Body.n169_ntmps ρ
 go_wp2
 go_region_o
 all_goals (go_wp2;go_ret;exact ⟨rfl,rfl⟩)
set_option maxHeartbeats 4000000 in
set_option maxRecDepth 100000 in
theorem x0a (L:Lays.n169 P ρ) (X:Builder.Extra P ρ) (b:Nat) (p:Value) (w:World) (g o cap:Nat) (cur:Array Value) (l:List UInt8) (h0:l≠ []) (eM:l.length<=cap) (h63:l.length<=9223372036854775807) (hbk:w.heap[b]? =some (.cells #[p,Value.slice (some ⟨g,o,none⟩) l.length cap] (ρ.t 72) (0,0))) (hg:w.heap[g]? =some (.cells cur (ρ.t 5) (0,0))) (hn:o+l.length<=cur.size) (hc: ∀j x,l[j]? =some x->cur[o+j]? =some (.int .u8 x.toNat)):
  Calls P (ρ.f 169) #[.pointer (some ⟨b,0,none⟩)] w fun e w'=>e=.returned (.string ⟨l.toArray⟩)/\w'=w.drew.freeze ⟨g,o,none⟩ l.length:=by
 have c1:w.drew.cell? ⟨b,1,none⟩=some (Value.slice (some ⟨g,o,none⟩) l.length cap):=by have:w.drew.heap[b]? =some (.cells #[p,Value.slice (some ⟨g,o,none⟩) l.length cap] (ρ.t 72) (0,0)):=hbk;rw [Lib.cell_of_heap this];rfl
 have hl0:l.length≠0:=by simpa using h0
 have hSD:(Builtin.unsafeSliceData_ #[(ρ.t 37)] (ρ.t 127) #[.slice (some ⟨g,o,none⟩) l.length cap]).run P w.drew=.ok (.pointer (some ⟨g,o,none⟩)) w.drew:=
  Lib.run_unsafeSliceData_row _ _ _ _ _ _ (by omega)
 have hUS:(Builtin.unsafeString_ #[(ρ.t 127),(ρ.t 3)] (ρ.t 9) #[.pointer (some ⟨g,o,none⟩),.int .i64 l.length]).run P w.drew=.ok (.string ⟨l.toArray⟩) (w.drew.freeze ⟨g,o,none⟩ l.length):=by
  have hg':w.drew.heap[g]? =some (.cells cur (ρ.t 5) (0,0)):=hg;refine y6n w.drew (ρ.t 127) (ρ.t 3) (ρ.t 9) (ρ.t 5) L.t127 X.cellsByte g o cur.size (by simp [World.shape?,hg']) l h0 hn h63 ?_;intro j x hx;have:=hc j x hx;have e:(⟨g,o,none⟩:Addr).add j=⟨g,o+j,none⟩:=by
   unfold Addr.add;by_cases hj:j=0
   .subst hj;simp
   .simp [hj]
  rw [e];simp [World.cell?,hg',this]
 clear hn hc hg eM;have mixed:=L.mixed;have t72:=L.t72;have a72:=L.a72;have z72:=L.z72;have v72:=L.v72;have u72:=run_underlying L.t72;have t70:=L.t70;have a70:=L.a70;have z70:=L.z70;have v70:=L.v70;have u70:=run_underlying L.t70;have t37:=L.t37;have a37:=L.a37;have z37:=L.z37;have v37:=L.v37;have u37:=run_underlying L.t37;have t127:=L.t127;have a127:=L.a127;have z127:=L.z127;have v127:=L.v127;have u127:=run_underlying L.t127;have t3:=L.t3;have a3:=L.a3;have z3:=L.z3;have v3:=L.v3;have u3:=run_underlying L.t3;have t9:=L.t9;have a9:=L.a9;have z9:=L.z9;have v9:=L.v9;have u9:=run_underlying L.t9;have t5:=X.t5;have a5:=X.a5;have z5:=X.z5;have v5:=X.v5;have u5:=run_underlying X.t5
 go_enter L.f169,Body.n169_ntmps ρ
 go_wp2
 go_region_o
 all_goals (go_wp2;go_ret;exact ⟨rfl,rfl⟩)
set_option maxHeartbeats 1000000 in
theorem u0h (L:Lays.n146 P ρ) (hi9:(P.info? (ρ.t 9)).map (fun i=>(i.zero,i.size,i.bytes))=some (some (.string ByteArray.empty),1,16)) (s:ByteArray) (b:UInt8) (w:World) (hs:s.size<4294967281):
  Calls P (ρ.f 146) #[.string s,.string ⟨#[b]⟩] w fun e w'=>
   e=.returned (.slice (some ⟨w.heap.size,0,none⟩) (Lib.countB s ⟨#[b]⟩+1) (Lib.countB s ⟨#[b]⟩+1))/\w'=w.alloc (.cells ((Lib.splitB ⟨#[b]⟩ 0 (Lib.countB s ⟨#[b]⟩) s).map Value.string).toArray (ρ.t 9)):=by
 have h1:1<=(⟨#[b]⟩:ByteArray).size :=Nat.le_refl 1;have hle:=Lib.countB_le ⟨#[b]⟩ h1 s.size s (Nat.le_refl _);have eE:=Lib.splitB_all ⟨#[b]⟩ h1 0 _ s rfl;have c:=Any.strings_genSplit_core {L with} hi9 s ⟨#[b]⟩ 0 (-1) (Lib.countB s ⟨#[b]⟩+1) w hs h1 (Nat.zero_le _)
  (fun x c hx=>(Any.strings_Index_one {L with} x b _).mono fun e w' ⟨he,hw⟩=>⟨by rw [he];show _=Ending.returned (Value.int .i64 (Lib.index x.data.toList [b]));rw [Lib.index_one],hw⟩)
  ((Any.strings_Count_one {L with} s b w).mono fun e w' ⟨he,hw⟩=>⟨by rw [he];show _=Ending.returned (Value.int .i64 ((Lib.count s.data.toList [b]:Nat):Int));rw [Lib.count_one];rfl,hw⟩) (by decide) (by decide) (by rw [if_pos (by decide)];omega)
 rw [Nat.add_sub_cancel,eE] at c;have e2:Lib.cellsOf (Lib.splitB ⟨#[b]⟩ 0 (Lib.countB s ⟨#[b]⟩) s) (Lib.countB s ⟨#[b]⟩+1)=((Lib.splitB ⟨#[b]⟩ 0 (Lib.countB s ⟨#[b]⟩) s).map Value.string).toArray :=by rw [<-eE];exact Lib.cellsOf_full _
 rw [e2] at c;have t3:=L.t3;have t9:=L.t9;have t31:=L.t31;have a3:=L.a3;have a9:=L.a9;have a31:=L.a31;have z3:=L.z3;have v3:=L.v3;have z9:=L.z9;have v9:=L.v9;have z31:=L.z31;have v31:=L.v31;have e221: ∀args w,(callFunc (ρ.f 221) args).run P w=.ok (.enter (ρ.f 221) args) w:=enters_of L.f221 (by kernel_rfl) rfl
 go_enter L.f146,Body.n146_ntmps ρ
 go_wp2_with (go_at_fn (ρ.f 221);refine c.mono ?_;rintro e w' ⟨rfl,hw⟩;rw [hw])
 go_ret
 exact ⟨rfl,rfl⟩
end Go.Proofs
end
