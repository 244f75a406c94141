/- A part of a proof: several texts in one. -/
import Derived.Test.YthnnmgkacjjpeaaGreatDoorNe1
import Derived.AtR
import Derived.RangeFuncRecord
import Derived.RangeFuncNested
import Derived.Laws.BytesString
import Derived.Lib.UnsafeStr
import Derived.MapKept
import Derived.Sort.Grow
import Derived.Deep.Slices
import Derived.Deep.Fields
import Derived.ChangeSame
import Derived.OpenShut
import Derived.Shelf.Strings.Builder1
import Derived.Shelf.Strings.Split
set_option maxRecDepth 1000000
set_option maxHeartbeats 8000000
set_option linter.unusedVariables false
set_option linter.unusedSimpArgs false
noncomputable section
namespace Go.Am
open IntKind (wrap)
abbrev CY :=Array Oper×Nat×List Oper
structure Cd where
 cx:CN
 ro:Option CY
 todo:List Item
 rnd:Option Nat
 rs:List ResultVar
 env:T CA
structure DQ where
 st:LoopState
 pend:Option Code
 n:Nat
 env:T CA
 params:List Tmp
 assign:Code
 body:Code
abbrev CO :=T (Option DQ)
def DX (m:CO) (b:Nat):Option DQ:=T.get none m b
def Ft (m:CO) (b:Nat) (o:Option DQ):CO:=T.set none m b o
structure CJ where
 cx:CN
 ro:Option CY
 todo:List Item
 rnd:Option Nat
 rs:List ResultVar
 st:St
 cs:List Cd
 lps:CO
def II (v:CA) (st:St) (lps:CO):List Cd->Option CJ
 | ⟨cx,some (ops,i,o::l),todo,rnd,rs,env⟩::cs=>match (st.withEnv env).put cx o.dst v with
  | some st'=>some ⟨cx,some (ops,i+1,l),todo,rnd,rs,st',cs,lps⟩
  | none=>none
 | ⟨cx,none,.inRangeFunc j::k,rnd,rs,env⟩::cs=>some ⟨cx,none,.endRangeFunc j::k,rnd,rs,st.withEnv env,cs,lps⟩
 | _=>none
def TK :Option Code->LoopState
 | none=>.ready
 | some _=>.done
def Ty (lps:CO):Option Nat->Bool
 | none=>true
 | some j=>(DX lps j).isSome
def TL (P:Program) (rnd:Option Nat) (rs:List ResultVar) (st:St) (cs:List Cd) (lps:CO) (jump:Option Code):Option CJ:=
 match rnd with
 | none=>match Kk P st rs with
  | some vs=>II (Jd vs) st lps cs
  | none=>none
 | some j=>match DX lps j with
  | some ⟨_,_,n,env,params,assign,body⟩=>
   II (.bool jump.isNone) st (Ft lps j (some ⟨TK jump,jump,n,env,params,assign,body⟩)) cs
  | none=>none
def Y3 (n:Nat):List Tmp->zy->T CA->Option (T CA)
 | [],[],env=>some env
 | t::ts,a::l,env=>bif Nat.ble (t+1) n then Y3 n ts l (T.set .undef env t a) else none
 | _,_,_=>none
def RT (P:Program) (f:FuncId) (args:zy) (fr:Cd) (st:St) (cs:List Cd) (lps:CO):Option CJ:=
 match P.funcs[f]? with
 | some fn=>match fn.body with
  | some body=>some ⟨⟨Nat.max fn.ntmps args.length,fr.cx.floor,fr.cx.sym⟩,none,[.code body],none,fn.results.toList,st.withEnv (FO args 0 .leaf),fr::cs,lps⟩
  | none=>none
 | none=>none
def u8w (j:Nat) (args:zy) (fr:Cd) (st:St) (cs:List Cd) (lps:CO):Option CJ:=
 match DX lps j with
 | some ⟨_,_,n,env,params,assign,body⟩=>match Y3 n params args env with
  | some env'=>some ⟨⟨n,fr.cx.floor,fr.cx.sym⟩,none,[.code assign,.beginRound,.code body],some j,[],st.withEnv env',fr::cs,lps⟩
  | none=>none
 | none=>none
def callee (S:CC) (st:St) (op:Op):Option ((FuncId×zy) ⊕ (Nat×zy)):=
 match op with
 | .call {callee:=.value f,args,argTypes:=_}=>match st.eval f with
  | .fn g caps=>match S g with
   | some _=>none
   | none=>some (.inl (g,args.toList.map st.eval++caps))
  | .fnb g first=>match S g with
   | some _=>none
   | none=>some (.inl (g,first++args.toList.map st.eval))
  | .yld j=>some (.inr (j,args.toList.map st.eval))
  | _=>none
 | _=>none
def Sj (P:Program) (t:TypeId):Option Bool:=match P.underlying t with
 | some (.map k e)=>match P.underlying k,P.underlying e,P.info? e with
  | some .string,some (.int .i64),some i=>match i.zero with
   | some (.int .i64 n)=>bif n == 0 then some true else none
   | _=>none
  | some .string,some .bool,some i=>match i.zero with
   | some (.bool b)=>bif b then none else some false
   | _=>none
  | _,_,_=>none
 | _=>none
def GT {α:Type} (l:List (zw×α)) (k:zw):Bool:=l.any fun p=>k == p.1
def getK {α:Type} (d:α):List (zw×α)->zw->α
 | [],_=>d
 | p::r,k=>bif k == p.1 then p.2 else getK d r k
def ER {α:Type}:List (zw×α)->zw->α->List (zw×α)
 | [],k,v=>[(k,v)]
 | p::r,k,v=>bif k == p.1 then (p.1,v)::r else p::ER r k v
def EA (s:zw) (pos:Nat):Int:=((Utf8.decode ⟨s.toArray⟩ pos).1:Int)
def GC (s:zw) (pos:Nat):Nat:=(Utf8.decode ⟨s.toArray⟩ pos).2
def TF :CA->UInt8
 | .int _ n=>UInt8.ofNat n.toNat
 | _=>0
def RY :CA->Bool
 | .int .u8 n=>decide (0<=n/\n<256)
 | _=>false
def Tk (n:Nat) (g:Nat->zy):zw:=(List.range n).map fun k=>TF ((g k).getD 0 .undef)
def v9k :zy->Bool
 | [v]=>RY v
 | _=>false
def j9n (n:Nat) (g:Nat->zy):Bool:=OG ((List.range n).all fun k=>v9k (g k)) (∀k,k<n-> ∃v,g k=[v]/\RY v=true)
def TE (m:CI):CA->Option (zw×Bool)
 | .nils =>some ([],true)
 | .sl b off len _=>match Yi m b with
  | some blk=>bif blk.isObj then none else match cut blk.cells off len with
   | some cs=>some (cs.map TF,cs.all RY)
   | none=>none
  | none=>none
 | .sla b sz off len _=>match Yi m b with
  | some blk=>match blk.arr with
   | some A=>some (Tk len fun k=>A.get (off+k),Nat.beq sz 1&&(Nat.beq A.sz 1&&(decide (off+len<=A.n)&&j9n len fun k=>A.get (off+k))))
   | none=>none
  | none=>none
 | _=>none
def UE :CA->Option Nat
 | .sl b _ _ _=>some b
 | .sla b _ _ _ _=>some b
 | _=>none
def RD (P:Program) (floor:Nat) (st:St) (t:TypeId) (x k v:CA):Option St:=match x,k with
 | .mapr b,.str k=>bif Nat.ble floor b then match Sj P t,Yi st.mem b,v with
  | some true,some ⟨[.obj (.mi l)],ty,none⟩,.int .i64 n=>some (st.withMem (Wv st.mem b (some ⟨[.obj (.mi (ER l k n))],ty,none⟩)))
  | some false,some ⟨[.obj (.mb l)],ty,none⟩,.bool e=>some (st.withMem (Wv st.mem b (some ⟨[.obj (.mb (ER l k e))],ty,none⟩)))
  | _,_,_=>none
  else none
 | _,_=>none
def aX (P:Program) (floor:Nat) (st:St):Op->Option (CA×Bool×St)
 | .makeMap t none=>match Sj P t with
  | some k=>some (.mapr st.next,true,Cy st [.obj (bif k then .mi [] else .mb [])] t)
  | none=>none
 | .lookup t x i co=>match st.eval x,st.eval i with
  | .mapr b,.str k=>match Sj P t,Yi st.mem b with
   | some true,some ⟨[.obj (.mi l)],_,none⟩=>some (bif co then .tup [.int .i64 (getK 0 l k),.bool (GT l k)] else .int .i64 (getK 0 l k),true,st)
   | some false,some ⟨[.obj (.mb l)],_,none⟩=>some (bif co then .tup [.bool (getK false l k),.bool (GT l k)] else .bool (getK false l k),true,st)
   | _,_=>none
  | _,_=>none
 | .mapUpdate t m k v=>(RD P floor st t (st.eval m) (st.eval k) (st.eval v)).map fun st'=>(.tup [],true,st')
 | .insert t m k v=>(RD P floor st t (st.eval m) (st.eval k) (st.eval v)).map fun st'=>(.tup [],true,st')
 | .range t x=>match P.underlying t,st.eval x with
  | some .string,.str s=>some (.ptr st.next 0,true,Cy st [.obj (.it s 0)] t)
  | _,_=>none
 | .next x true=>match st.eval x with
  | .ptr b 0=>bif Nat.ble floor b then match Yi st.mem b with
   | some ⟨[.obj (.it s pos)],ty,none⟩=>match st.test (decide (pos<s.length)) with
    | (e,st1)=>some (bif e then .tup [.bool true,.int .i64 pos,.int .i32 (EA s pos)] else .tup [.bool false],true,
      bif e then st1.withMem (Wv st1.mem b (some ⟨[.obj (.it s (pos+GC s pos))],ty,none⟩)) else st1)
   | _=>none
   else none
  | _=>none
 | .alloc t=>bif Nat.beq t D2 then match P.info? t with
   | some i=>match i.zero with
    | some (.agg ⟨[.pointer none,.slice none 0 0]⟩)=>some (.ptr st.next 0,true,Cy st [.obj .bld,.nils] t)
    | _=>none
   | none=>none
  else none
 | .load t x=>match st.eval x with
  | .ptr b 1=>match Yi st.mem b,ZE P t,P.info? t with
   | some ⟨[.obj .bld,buf],_,none⟩,some false,some _=>some (buf,true,st)
   | _,_,_=>none
  | _=>none
 | .store t a x=>match st.eval a with
  | .ptr b 1=>bif Nat.ble floor b&&DH (st.eval x) then match Yi st.mem b,P.info? t with
   | some ⟨[.obj .bld,_],ty,none⟩,some i=>bif Nat.beq i.size 1 then some (.tup [],true,st.withMem (Wv st.mem b (some ⟨[.obj .bld,st.eval x],ty,none⟩))) else none
   | _,_=>none
   else none
  | _=>none
 | .convert src dst x=>match P.underlying src,P.underlying dst with
  | some (.slice e),some .string =>match P.underlying e with
   | some (.int .u8)=>match TE st.mem (st.eval x) with
    | some (s,o)=>some (.str s,o,st)
    | none=>none
   | _=>none
  | _,_=>none
 | .binOp op t x y _=>match st.eval x,y,P.underlying t with
  | .ifb b,.const .nilIface,some (.interface _)=>match op with
   | .eql =>some (.bool b,true,st)
   | .neq =>some (.bool !b,true,st)
   | _=>none
  | _,_,_=>none
 | .call {callee:=.value f,args,argTypes:=_}=>match st.eval f,args.toList.map st.eval with
  | .fn g [],[.ptr b 0]=>bif Nat.beq g Of&&(P.funcs[g]?).any (fun fn=>fn.body.isSome) then match Yi st.mem b with
    | some ⟨[.obj .bld,buf],ty,none⟩=>bif Nat.beq ty D2 then match TE st.mem buf with
     | some (s,o)=>match UE buf with
      | none=>some (.str s,decide (s.length<=9223372036854775807)&&o,st)
      | some c=>bif Nat.ble floor c&&J3 st.mem Pz c then some (.str s,decide (s.length<=9223372036854775807)&&o,st.withMem (Wv st.mem c none)) else none
     | none=>none
     else none
    | _=>none
   else none
  | _,_=>none
 | _=>none
def v3m (P:Program) (S:CC) (Rc:CK) (cx:CN) (ops:Array Oper) (i:Nat) (o:Oper) (l:List Oper) (todo:List Item) (rnd:Option Nat) (rs:List ResultVar) (st:St) (cs:List Cd) (lps:CO):Option CJ:=
 match GJ ops o cx st with
 | some (true,st)=>match aX P cx.floor st o.op with
  | some (v,b,st1)=>match st1.owe cx b with
   | some st2=>match st2.put cx o.dst v with
    | some st3=>some ⟨cx,some (ops,i+1,l),todo,rnd,rs,st3,cs,lps⟩
    | none=>none
   | none=>none
  | none=>match callee S st o.op with
  | some (.inl (g,args))=>RT P g args ⟨cx,some (ops,i,o::l),todo,rnd,rs,st.env⟩ st cs lps
  | some (.inr (j,args))=>u8w j args ⟨cx,some (ops,i,o::l),todo,rnd,rs,st.env⟩ st cs lps
  | none=>match Mu P S Rc false o cx st with
   | some st=>some ⟨cx,some (ops,i+1,l),todo,rnd,rs,st,cs,lps⟩
   | none=>none
 | some (false,st)=>match st.put cx o.dst (.tup []) with
  | some st=>some ⟨cx,some (ops,i+1,l),todo,rnd,rs,st,cs,lps⟩
  | none=>none
 | none=>none
def HJ (ops:Array Oper):Bool:=ops.toList.all fun o=>match o.op with
 | .defer _=>false
 | _=>true
def Eh (o:Oper):Oper:=⟨none,.move (.const (.bool true)),o.type,o.pos,o.after,none⟩
def Wr (ops:Array Oper) (m:Nat):Array Oper:=⟨ops.toList.take m++(ops.toList.drop m).map Eh⟩
def u6w (ops:Array Oper) (m:Nat):Bool:=
 HJ ops&&(Mq 0 (Wr ops m)&&(((List.range ops.size).all fun j=>Nat.ble (j+1) m||(List.range j).all fun i=>((FR (Wr ops m).toList []).getD j 0).testBit i)&&((List.range m).all fun i=>match ops[i]? with
  | some ⟨_,_,_,_,_,some (j,_)⟩=>Nat.ble (j+1) m
  | _=>true)))
def j2n (f:Operand):List Oper->Operand
 | []=>f
 | ⟨some d,.move x,_,_,_,_⟩::l=>match f with
  | .tmp t=>bif Nat.beq t d then x else j2n f l
  | _=>f
 | _::l=>j2n f l
def v7l (st:St) (ops:List Oper):Oper->Bool
 | ⟨_,.call ⟨.value f,_,_⟩,_,_,_,_⟩=>match st.eval (j2n f ops) with
  | .yld _=>true
  | _=>false
 | _=>false
def Y7 (st:St) (ops:List Oper):List Oper->Nat->Option Nat
 | [],_=>none
 | o::l,i=>bif v7l st ops o then some i else Y7 st ops l (i+1)
def j2g (ops:Array Oper) (st:St):Option Nat:=
 match Y7 st ops.toList ops.toList 0 with
 | some m=>bif u6w ops m then some m else none
 | none=>none
def Hb (ops:Array Oper):zt->Option Nat
 | []=>none
 | z::l=>bif Mq z ops then some z else Hb ops l
def Oo (ops:Array Oper):Bool:=ops.toList.any fun o=>match o.op with
 | .call {callee:=.builtin .append,.. }=>true
 | _=>false
def j6g (ops:Array Oper):Bool:=ops.toList.any fun o=>match o.op,o.dst with
 | .buildSlice _ _ _,some d=>ops.toList.any fun p=>match p.op with
  | .call {callee:=.value _,args,argTypes:=_}=>args.toList.any fun a=>match a with
   | .tmp t=>Nat.beq t d
   | _=>false
  | _=>false
 | _,_=>false
def j6f (ops:Array Oper):Option Nat:=bif HJ ops then Hb ops (bif j6g ops then [1,0,2] else bif Oo ops then [0,2,3,1] else [0,1,2]) else none
def St.nextId :St->Nat×St
 | ⟨env,mem,next,orc,ob⟩=>(next,⟨env,mem,next+1,orc,ob⟩)
def Rf (P:Program) (S:CC) (Rc:CK):CJ->Option CJ
 | ⟨cx,some (_,_,[]),todo,rnd,rs,st,cs,lps⟩=>some ⟨cx,none,todo,rnd,rs,st,cs,lps⟩
 | ⟨cx,some (ops,i,o::l),todo,rnd,rs,st,cs,lps⟩=>v3m P S Rc cx ops i o l todo rnd rs st cs lps
 | ⟨cx,none,todo,rnd,rs,st,cs,lps⟩=>match todo with
  | []=>TL P rnd rs st cs lps none
  | .code .ret ::_=>TL P rnd rs st cs lps (some .ret)
  | .code .skip ::k=>some ⟨cx,none,k,rnd,rs,st,cs,lps⟩
  | .code (.label _)::k=>some ⟨cx,none,k,rnd,rs,st,cs,lps⟩
  | .inBlock _::k=>some ⟨cx,none,k,rnd,rs,st,cs,lps⟩
  | .inScope _::k=>some ⟨cx,none,k,rnd,rs,st,cs,lps⟩
  | .code (.seq a b)::k=>some ⟨cx,none,.code a::.code b::k,rnd,rs,st,cs,lps⟩
  | .code (.cond c a b)::k=>match st.eval c with
   | .bool v=>match st.test v with
    | (e,st)=>some ⟨cx,none,.code (bif e then a else b)::k,rnd,rs,st,cs,lps⟩
   | _=>none
  | .code (.block id body)::k=>some ⟨cx,none,.code body::.inBlock id::k,rnd,rs,st,cs,lps⟩
  | .code (.scope body)::k=>some ⟨cx,none,.code body::.inScope body::k,rnd,rs,st,cs,lps⟩
  | .code (.loop body)::k=>some ⟨cx,none,.code body::.inLoop body::k,rnd,rs,st,cs,lps⟩
  | .inLoop body::k=>some ⟨cx,none,.code body::.inLoop body::k,rnd,rs,st,cs,lps⟩
  | .code (.exit id)::k=>match exitTo id k with
   | some k=>some ⟨cx,none,k,rnd,rs,st,cs,lps⟩
   | none=>match rnd with
    | some _=>TL P rnd rs st cs lps (some (.exit id))
    | none=>none
  | .code (.region _ ops false)::k=>bif HJ ops then some ⟨cx,some (ops,0,ops.toList),k,rnd,rs,st,cs,lps⟩ else none
  | .code (.region _ ops true)::k=>match j2g ops st with
   | some m=>match RJ 0 P S Rc (Wr ops m) cx (JB (Wr ops m)) [] st with
    | some st=>some ⟨cx,some (ops,m,ops.toList.drop m),k,rnd,rs,st,cs,lps⟩
    | none=>none
   | none=>match j6f ops with
    | some z=>match RJ z P S Rc ops cx (JB ops) [] st with
     | some st=>some ⟨cx,none,k,rnd,rs,st,cs,lps⟩
     | none=>none
    | none=>none
  | .code (.rangeFunc f params assign body)::k=>match st.eval f with
   | .fn g caps=>match st.nextId with
    | (j,st')=>bif Ty lps rnd then RT P g (.yld j::caps) ⟨cx,none,.inRangeFunc j::k,rnd,rs,st.env⟩ st' cs (Ft lps j (some ⟨.ready,none,cx.n,st.env,params.toList,assign,body⟩)) else none
   | _=>none
  | .beginRound ::k=>match rnd with
   | some j=>match DX lps j with
    | some ⟨.ready,pend,n,env,params,assign,body⟩=>some ⟨cx,none,k,rnd,rs,st,cs,Ft lps j (some ⟨.busy,pend,n,env,params,assign,body⟩)⟩
    | _=>none
   | none=>none
  | .endRangeFunc j::k=>match DX lps j with
   | some ⟨.busy,_,_,_,_,_,_⟩=>none
   | some ⟨_,pend,n,env,params,assign,body⟩=>some ⟨cx,none,(pend.map Item.code).toList ++k,rnd,rs,st,cs,Ft lps j (some ⟨.exhausted,pend,n,env,params,assign,body⟩)⟩
   | none=>none
  | _=>none
def Gh :CJ->Bool
 | ⟨_,none,[],none,_,_,[],_⟩=>true
 | ⟨_,none,.code .ret ::_,none,_,_,[],_⟩=>true
 | _=>false
def FZ (P:Program) (S:CC) (Rc:CK) (n:Nat):CJ->Option CJ:=
 Nat.rec (motive:=fun _=>CJ->Option CJ) (fun _=>none) (fun _ R C=>bif Gh C then some C else match Rf P S Rc C with
  | some C'=>R C'
  | none=>none) n
def Mf :Item->Bool
 | .code _ | .inBlock _ | .inLoop _ | .inScope _ | .beginRound =>true
 | _=>false
def J2 (P:Program) (S:CC) (n:Nat) (d:Nat):CK:=
 Nat.rec (motive:=fun _=>CK) (fun _ _ _=>none) (fun _ R cx todo st=>bif todo.all Mf&&Nat.ble cx.floor st.next then match FZ P S R n ⟨cx,none,todo,none,[],st,[],.leaf⟩ with
  | some C=>bif Nat.beq C.cx.n cx.n then some C.st else none
  | none=>none
  else none) d
section
variable {P:Program}
section ops
variable {b:Frame} {a:Act} {k:List Item} {cs:List Frame} {w:World} {ops:Array Oper}
theorem x3m {i:Nat} {rest:zt} {o:Oper} {K:Act->World->Prop} {Q:Exit->Act->World->Prop} (hQ: ∀e a w,Q e a w->e=.normal) (ho:ops[i]? =some o) (hnd: ∀c,o.op≠ .defer c)
  (h:if Region.wanted o (yielded ops a.tmps) then o.wp P a w K Q else K (a.put o.dst undef) w):
  ∃a' w',K a' w'/\Steps P (lone (b.atR a (.inRegion ops (i::rest)::k)) cs w) (lone (b.atR a' (.inRegion ops rest::k)) cs w'):=by
 by_cases hw:Region.wanted o (yielded ops a.tmps)=true
 .rw [AF hw] at h;have hg:=stepGR_op (P:=P) (b:=b) (k:=k) (cs:=cs) (w:=w) (rest:=rest) ho hw;rw [Oper.semAt_eq _ _ _ hnd] at hg;have fin: ∀(a:Act) (v:Value),(b.atR a (.inRegion ops (i::rest)::k)).finish v=b.atR (a.put o.dst v) (.inRegion ops rest::k):=fun a v=>by rw [Frame.finish_atR,ho];rfl
  unfold Oper.wp at h;generalize hr:(execOp a.eval o).run P w=r at h;cases r with
  | ok n w'=>
   cases n <;> simp only [Oper.upon] at h
   case value v=>exact ⟨_,w',h,.one (step_lone_go (by simp_all [stepG.apply]))⟩
   case skip=>exact ⟨_,w',h,.one (step_lone_go (by simp_all [stepG.apply]))⟩
   case defer d=>refine ⟨_,w',h,.one (step_lone_go ?_)⟩;have e:=fin {a with defers:=d::a.defers} undef;simp_all [stepG.apply,Frame.atR]
   case enter f args=>
    obtain ⟨e,w'',fr,hR,fE,_,hleave⟩:=h (b.atR a (.inRegion ops (i::rest)::k)::cs);have gM:step P (lone (b.atR a (.inRegion ops (i::rest)::k)) cs w)=.next (lone (Frame.enter P f args .normal) (b.atR a (.inRegion ops (i::rest)::k)::cs) w'):=
     step_lone_go (by simp_all [stepG.apply,Frame.atR])
    cases e with
    | returned v=>
     refine ⟨_,w'',hR,.head gM (fE.trans (.one ?_))⟩
     grind [step_leave_returned]
    | panicked chain=>grind
    | outgrown=>obtain ⟨_,_,hq⟩:=hR;grind
   case row row args=>
    obtain ⟨v,w'',hR,fE⟩:=h (b.atR a (.inRegion ops (i::rest)::k)) cs;have gM:step P (lone (b.atR a (.inRegion ops (i::rest)::k)) cs w)=.next (lone (Frame.ofRow P row args .normal) (b.atR a (.inRegion ops (i::rest)::k)::cs) w'):=
     step_lone_go (by simp_all [stepG.apply,Frame.atR])
    refine ⟨_,w'',hR,.head gM ?_⟩
    grind
   all_goals exact h.elim
  | halt x w'=>cases x <;> simp only [Oper.upon] at h <;> first | exact h.elim | grind
 .rw [Az hw] at h;have hs:=stepR_op_skip (P:=P) (b:=b) (a:=a) (k:=k) (cs:=cs) (w:=w) (ops:=ops) (i:=i) (rest:=rest) (by grind);rw [ho] at hs;exact ⟨_,w,h,.one hs⟩
theorem y6v {R:Act->World->Prop} {Q:Exit->Act->World->Prop} (hQ: ∀e a w,Q e a w->e=.normal /\R a w) (hnd:HJ ops=true): ∀(l:zt) (a:Act) (w:World),wpOps P ops Q l a w->
  ∃a' w',R a' w'/\Steps P (lone (b.atR a (.inRegion ops l::k)) cs w) (lone (b.atR a' k) cs w')
 | [],a,w,h=>⟨a,w,(hQ _ _ _ h).2,.one stepR_region_end⟩
 | i::l,a,w,h=>by
  simp only [wpOps] at h;cases ho:ops[i]? with
  | none=>rw [ho] at h;obtain ⟨a',w',hR,hs⟩:=y6v hQ hnd l a w h;have h1:=stepR_op_skip (P:=P) (b:=b) (a:=a) (k:=k) (cs:=cs) (w:=w) (ops:=ops) (i:=i) (rest:=l) (by simp [ho]);rw [ho] at h1;exact ⟨a',w',hR,.head h1 hs⟩
  | some o=>
   rw [ho] at h;have hno: ∀c,o.op≠ .defer c:=by
    intro c hc;have hm:o∈ops.toList:=(by grind);have:=As.1 hnd o hm
    grind
   have h':if Region.wanted o (yielded ops a.tmps) then o.wp P a w (wpOps P ops Q l) Q else wpOps P ops Q l (a.put o.dst undef) w:=by
    by_cases hw:Region.wanted o (yielded ops a.tmps)=true
    .simp only [hw,if_true] at h ⊢;rcases h with h | ⟨_,a0,w0,h0⟩;all_goals grind
    grind
   obtain ⟨a1,w1,h1,s1⟩:=x3m (b:=b) (k:=k) (cs:=cs) (rest:=l) (fun e a w q=>(hQ e a w q).1) ho hno h';obtain ⟨a',w',hR,hs⟩:=y6v hQ hnd l a1 w1 h1;exact ⟨a',w',hR,s1.trans hs⟩
end ops
end
section
variable {P:Program}
def Sp (ρ:CF) (w:World) (r:Nat):Prop:=r<w.heap.size/\ρ.fz r=none/\ ∀b l,ρ b=some l->l.blk≠r
theorem Sp.ev {ρ ρ':CF} {floor:Nat} {m m':CI} {n n':Nat} {w w':World} (he:Ev ρ ρ' floor m n m' n' w w') {r:Nat} (hs:Sp ρ w r):Sp ρ' w' r/\w'.heap[r]? =w.heap[r]? :=by
 obtain ⟨h1,h2,h3⟩:=hs;refine ⟨⟨AZ h1 he.size,by rw [he.still r h1];exact h2,fun b l hl=> ?_⟩,?_⟩
 .by_cases hb:b<n
  .rw [he.new b hb] at hl;grind
  .rcases he.fresh b l (by omega) hl with h | ⟨b0,l0,e0,_,g0⟩;all_goals grind
 .have:w.heap[r]? =some w.heap[r]:=by simp [h1]
  rw [this];exact he.frame r _ this fun b l hl _=>h3 b l hl
structure Vd (m:zt) (w w':World):Prop where
 size:w'.heap.size=w.heap.size
 other: ∀k,k ∉ m->w'.heap[k]? =w.heap[k]?
 os:w'.os=w.os
 tape:w'.tape=w.tape
 output:w'.output=w.output
theorem Vd.refl (m:zt) (w:World):Vd m w w:=⟨rfl,fun _ _=>rfl,rfl,rfl,rfl⟩
theorem Vd.put (w:World) (r:Nat) (o:Obj):Vd [r] w (w.putObj r o):=⟨World.putObj_size,fun k hk=>World.putObj_heap_other (by grind),rfl,rfl,rfl⟩
theorem Vd.trans {m m':zt} {a b c:World} (h:Vd m a b) (k:Vd m' b c):Vd (m++m') a c:=
 ⟨k.size.trans h.size,fun i hi=>by simp only [AJ,not_or] at hi;exact (k.other i hi.2).trans (h.other i hi.1),k.os.trans h.os,k.tape.trans h.tape,k.output.trans h.output⟩
theorem CH.turned {ρ:CF} {mem:CI} {next:Nat} {w w':World} (h:CH ρ mem next w) {m:zt} (hm: ∀r∈m,Sp ρ w r) (ht:Vd m w w'):CH ρ mem next w':=
 ⟨h.dom,h.inj,fun b l ab e g=>(h.blk b l ab e g).world (CF.le_refl ρ) (ht.other _ fun hr=>(hm _ hr).2.2 b l e rfl),fun k o e=>by
  rw [ht.other k fun hr=>by rw [(hm _ hr).2.1] at e;cases e];exact h.old k o e,
  h.sep,fun b l e=>by rw [ht.size];exact h.real b l e,h.bd,h.ldom⟩
theorem Ev.turned {ρ0 ρ:CF} {floor:Nat} {m0 mem:CI} {n0 next:Nat} {w0 w w':World} (h:Ev ρ0 ρ floor m0 n0 mem next w0 w) {m:zt} (hm: ∀r∈m,w0.heap.size<=r) (ht:Vd m w w'):Ev ρ0 ρ floor m0 n0 mem next w0 w':=
 ⟨h.ext,h.new,h.nxt,h.unborn,fun k o hk hf=>by
  have hlt:k<w0.heap.size:=(AC.1 hk).1;rw [ht.other k fun hr=>by grind];exact h.frame k o hk hf,h.fresh,by rw [ht.size];exact h.size,ht.os.trans h.os,ht.tape.trans h.tape,ht.output.trans h.output,h.still⟩
theorem Sp.turned {ρ:CF} {w w':World} {r:Nat} (h:Sp ρ w r) {m:zt} (ht:Vd m w w'):Sp ρ w' r:=⟨by rw [ht.size];exact h.1,h.2.1,h.2.2⟩
theorem CH.grow {ρ:CF} {mem:CI} {next:Nat} {w:World} (h:CH ρ mem next w) (o:Obj):CH ρ mem next (w.alloc o):=by
 have same: ∀k,k<w.heap.size->(w.alloc o).heap[k]? =w.heap[k]? :=fun k hk=>by
  show (w.heap.push o)[k]? =_
  grind
 exact ⟨h.dom,h.inj,fun b l ab e g=>(h.blk b l ab e g).world (CF.le_refl ρ) (same _ (h.real b l e)),fun k ob e=>by
  have:=h.old k ob e
  grind,h.sep,fun b l e=>by
  have:=h.real b l e
  grind,h.bd,h.ldom⟩
theorem Ev.grow {ρ0 ρ:CF} {floor:Nat} {m0 mem:CI} {n0 next:Nat} {w0 w:World} (h:Ev ρ0 ρ floor m0 n0 mem next w0 w) (o:Obj):Ev ρ0 ρ floor m0 n0 mem next w0 (w.alloc o):=
 ⟨h.ext,h.new,h.nxt,h.unborn,fun k ob hk hf=>by
  have:=h.frame k ob hk hf;have hlt:=(AC.1 this).1;show (w.heap.push o)[k]? =_
  grind,h.fresh,by
  have:=h.size;show _<=(w.heap.push o).size;simp;omega,h.os,h.tape,h.output,h.still⟩
theorem Sp.grow {ρ:CF} {w:World} {r:Nat} (h:Sp ρ w r) (o:Obj):Sp ρ (w.alloc o) r/\(w.alloc o).heap[r]? =w.heap[r]? :=by
 refine ⟨⟨?_,h.2.1,h.2.2⟩,?_⟩
 .have:=h.1;show r<(w.heap.push o).size;simp;omega
 .show (w.heap.push o)[r]? =_;simp [BY,Bp h.1]
theorem Sp.fresh {ρ:CF} {mem:CI} {next:Nat} {w:World} (h:CH ρ mem next w) (o:Obj):Sp ρ (w.alloc o) w.heap.size:=
 ⟨by simp_all,h.hold _ (Aq _),fun b l e=>Bp (h.real b l e)⟩
def lpAdd (ρ:CF) (j l:Nat):CF:=⟨ρ.f,ρ.fz,fun k=>if k=j then some l else ρ.lp k⟩
theorem CH.lp_none {ρ:CF} {mem:CI} {next:Nat} {w:World} (h:CH ρ mem next w):ρ.lp next=none:=by
 cases e:ρ.lp next with
 | none=>rfl
 | some l=>exact absurd (h.ldom.1 _ _ e) (B1 _)
theorem x3q {ρ:CF} {j l:Nat} (h:ρ.lp j=none):ρ.le (lpAdd ρ j l):=⟨fun _ _ e=>e,fun _ _ e=>e,fun k l' e=>by
 show (if k=j then some l else ρ.lp k)=some l'
 grind⟩
theorem CH.lpAdd {ρ:CF} {mem:CI} {next:Nat} {w:World} (h:CH ρ mem next w) (l:Nat):CH (lpAdd ρ next l) mem (next+1) w:=
 ⟨fun b l' e=>Bs (h.dom b l' e),h.inj,fun b l' ab e g=>(h.blk b l' ab e g).world (x3q h.lp_none) rfl,h.old,h.sep,h.real,fun b hb=>h.bd b (by omega),⟨fun j l' e=>by
  have e:(if j=next then some l else ρ.lp j)=some l':=e;by_cases hj:j=next
  .omega
  .rw [Az hj] at e;exact Bs (h.ldom.1 j l' e),h.ldom.2⟩⟩
theorem Ev.lpAdd {ρ0 ρ:CF} {floor:Nat} {m0 mem:CI} {n0 next:Nat} {w0 w:World} (h:Ev ρ0 ρ floor m0 n0 mem next w0 w) (hr:CH ρ mem next w) (l:Nat):Ev ρ0 (lpAdd ρ next l) floor m0 n0 mem (next+1) w0 w:=
 ⟨CF.le_trans h.ext (x3q hr.lp_none),h.new,Nat.le_succ_of_le h.nxt,h.unborn,h.frame,h.fresh,h.size,h.os,h.tape,h.output,h.still⟩
inductive Es (ρ:CF):Item->Item->Prop
 | same (x:Item) (h:Mf x=true):Es ρ x x
 | inR (j l:Nat) (h:ρ.lp j=some l):Es ρ (.inRangeFunc j) (.inRangeFunc l)
 | endR (j l:Nat) (h:ρ.lp j=some l):Es ρ (.endRangeFunc j) (.endRangeFunc l)
abbrev D9 (ρ:CF):List Item->List Item->Prop:=Vf (Es ρ)
theorem Vf.mono {α β:Type} {R R':α->β->Prop} (hr: ∀a b,R a b->R' a b) {l:List α} {m:List β} (h:Vf R l m):Vf R' l m:=by
 induction h with
 | nil=>exact .nil
 | cons h _ ih=>exact .cons (hr _ _ h) ih
theorem Es.mono {ρ ρ':CF} (h:ρ.le ρ') {x y:Item} (hx:Es ρ x y):Es ρ' x y:=by
 cases hx with
 | same x hx=>exact .same x hx
 | inR j l e=>exact .inR j l (h.2.2 _ _ e)
 | endR j l e=>exact .endR j l (h.2.2 _ _ e)
theorem D9.exit {ρ:CF} {k k':List Item} (h:D9 ρ k k') (id:Nat):(∀r,exitTo id k=some r-> ∃r',exitTo id k'=some r'/\D9 ρ r r')/\(exitTo id k=none->exitTo id k'=none):=by
 induction h with
 | nil=>exact ⟨fun r e=>(by cases e),fun _=>rfl⟩
 | @cons x y l m hx t ih=>
  cases hx with
  | same x hx=>
   cases x with
   | inBlock id'=>
    grind [exitTo]
   | code _=>exact ih
   | inLoop _=>exact ih
   | inScope _=>exact ih
   | beginRound=>exact ih
   | inRegion _ _=>cases hx
   | inRangeFunc _=>cases hx
   | endRangeFunc _=>cases hx
   | call _ _ _ _=>cases hx
   | extern _ _=>cases hx
  | inR j l e=>exact ih
  | endR j l e=>exact ih
def Oc (r:Nat):Deferred:={target:=.collected r,args:= #[]}
def Va (ro:Option CY) (k:List Item):List Item:=match ro with
 | none=>k
 | some (ops,i,_)=>.inRegion ops ((List.range ops.size).drop i)::k
def roOk :Option CY->Prop
 | none=>True
 | some (ops,i,l)=>l=ops.toList.drop i/\HJ ops=true
structure Fr (ρ:CF) (cx:CN) (ro:Option CY) (todo:List Item) (rnd:Option Nat) (env:T CA) (b:Frame) (a:Act) (k:List Item) (ms:zt):Prop where
 env:Vx ρ env cx.n a.tmps
 defers:a.defers=ms.map Oc
 todo:D9 ρ todo k
 ro:roOk ro
 rnd:match rnd with
  | none=>b.roundOf=none
  | some j=>ms=[]/\ ∃l,ρ.lp j=some l/\b.roundOf=some l
theorem Fr.mono {ρ ρ':CF} (h:ρ.le ρ') {cx:CN} {ro:Option CY} {todo:List Item} {rnd:Option Nat} {env:T CA} {b:Frame} {a:Act} {k:List Item} {ms:zt} (hf:Fr ρ cx ro todo rnd env b a k ms):Fr ρ' cx ro todo rnd env b a k ms:=
 ⟨hf.env.mono h,hf.defers,hf.todo.mono fun _ _=>Es.mono h,hf.ro,by
  have:=hf.rnd;cases rnd with
  | none=>exact this
  | some j=>obtain ⟨h0,l,h1,h2⟩:=this;exact ⟨h0,l,h.2.2 _ _ h1,h2⟩⟩
def v9x (P:Program) (rnd:Option Nat) (rs:List ResultVar) (b:Frame):Prop:=b.kind=.normal /\(rnd=none-> ∃fn,P.funcs[b.fn]? =some fn/\fn.results.toList=rs)
inductive Fq (P:Program) (ρ:CF):List Cd->List Frame->zt->Prop
 | nil:Fq P ρ [] [] []
 | cons {af:Cd} {b:Frame} {a:Act} {k:List Item} {ms:zt} {cs:List Cd} {css:List Frame} {mss:zt} (h:Fr ρ af.cx af.ro af.todo af.rnd af.env b a k ms)
   (hl:cs≠ []->v9x P af.rnd af.rs b) (t:Fq P ρ cs css mss):Fq P ρ (af::cs) (b.atR a (Va af.ro k)::css) (ms++mss)
theorem Fq.mono {ρ ρ':CF} (h:ρ.le ρ') {cs:List Cd} {css:List Frame} {mss:zt} (hc:Fq P ρ cs css mss):Fq P ρ' cs css mss:=by
 induction hc with
 | nil=>exact .nil
 | cons hf hl t ih=>exact .cons (hf.mono h) hl ih
structure RR (base:Nat) (ρ:CF) (w:World) (j:Nat) (L:DQ) (l:Nat):Prop where
 lp:ρ.lp j=some l
 low:base<=l
 sp:Sp ρ w l
 obj: ∃tmps fn d,w.heap[l]? =some (.loop ⟨L.st,L.pend,fn,tmps,L.params.toArray,L.assign,L.body,d⟩)/\Vx ρ L.env L.n tmps
structure Dm (P:Program) (base:Nat) (ρ:CF) (cs:List Cd) (lps:CO) (css:List Frame) (w:World) (m0 m1:zt):Prop where
 cs:Fq P ρ cs css m1
 nodup:(m0++m1).Nodup
 marks: ∀r∈m0++m1,base<=r/\Sp ρ w r/\w.heap[r]? =some (.deferred (some []))
 loops: ∀j L,DX lps j=some L-> ∃l,RR base ρ w j L l
 inj: ∀j j' L L' l,DX lps j=some L->DX lps j'=some L'->ρ.lp j=some l->ρ.lp j'=some l->j=j'
theorem RR.ev {base:Nat} {ρ ρ':CF} {floor:Nat} {m m':CI} {n n':Nat} {w w':World} (he:Ev ρ ρ' floor m n m' n' w w') {j:Nat} {L:DQ} {l:Nat} (h:RR base ρ w j L l):RR base ρ' w' j L l:=by obtain ⟨h1,h2,h3,tmps,fn,d,h4,h5⟩:=h;obtain ⟨s1,s2⟩:=h3.ev he;exact ⟨he.ext.2.2 _ _ h1,h2,s1,tmps,fn,d,by grind,h5.mono he.ext⟩
theorem Dm.ev {base:Nat} {ρ ρ':CF} {floor:Nat} {m m':CI} {n n':Nat} {w w':World} (he:Ev ρ ρ' floor m n m' n' w w') {cs:List Cd} {lps:CO} {css:List Frame} {m0 m1:zt} (h:Dm P base ρ cs lps css w m0 m1):Dm P base ρ' cs lps css w' m0 m1:=by
 refine ⟨h.cs.mono he.ext,h.nodup,fun r hr=> ?_,fun j L hL=> ?_,fun j j' L L' l hL hL' e e'=> ?_⟩
 .obtain ⟨h1,h2,h3⟩:=h.marks r hr;obtain ⟨s1,s2⟩:=h2.ev he
  grind
 .obtain ⟨l,hl⟩:=h.loops j L hL;exact ⟨l,hl.ev he⟩
 .obtain ⟨l1,hl1⟩:=h.loops j L hL;obtain ⟨l2,hl2⟩:=h.loops j' L' hL';have e1:=he.ext.2.2 _ _ hl1.lp;have e2:=he.ext.2.2 _ _ hl2.lp;rw [e] at e1;rw [e'] at e2;obtain rfl:=Ag e1;obtain rfl:=Ag e2;exact h.inj j j' L L' l hL hL' hl1.lp hl2.lp
theorem Dm.turned {base:Nat} {ρ:CF} {w w':World} {cs:List Cd} {lps:CO} {css:List Frame} {m0 m0' m1:zt} (h:Dm P base ρ cs lps css w m0 m1) {m:zt} (ht:Vd m w w') (hsub:m0'.Sublist m0) (hm: ∀r∈m,r ∉ m0'++m1) (hl: ∀r∈m,∃ds,w.heap[r]? =some (.deferred ds)):
  Dm P base ρ cs lps css w' m0' m1:=by
 refine ⟨h.cs,h.nodup.sublist (hsub.append (List.Sublist.refl _)),fun r hr=> ?_,fun j L hL=> ?_,h.inj⟩
 .obtain ⟨h1,h2,h3⟩:=h.marks r ((hsub.append (List.Sublist.refl m1)).subset hr);exact ⟨h1,h2.turned ht,by rw [ht.other r fun hrm=>hm r hrm hr];exact h3⟩
 .obtain ⟨l,h1,h2,h3,tmps,fn,d,h4,h5⟩:=h.loops j L hL;refine ⟨l,h1,h2,h3.turned ht,tmps,fn,d,?_,h5⟩;rw [ht.other l fun hlm=> ?_];all_goals grind
theorem Dm.record {base:Nat} {ρ:CF} {w w':World} {cs:List Cd} {lps:CO} {css:List Frame} {m0 m1:zt} (h:Dm P base ρ cs lps css w m0 m1) {j l:Nat} {L L':DQ} (hj:DX lps j=some L) (hl:RR base ρ w j L l)
  (hL:RR base ρ w' j L' l) (ht:Vd [l] w w'):Dm P base ρ cs (Ft lps j (some L')) css w' m0 m1:=by
 have gR:=hl.obj;obtain ⟨tmps,fn,d,h4,_⟩:=gR;have get: ∀i,DX (Ft lps j (some L')) i=if i=j then some L' else DX lps i:=fun i=>T.get_set none lps j (some L') i
 refine ⟨h.cs,h.nodup,fun r hr=> ?_,fun i M hM=> ?_,fun i i' M M' l' hM hM' e e'=> ?_⟩
 .obtain ⟨h1,h2,h3⟩:=h.marks r hr;refine ⟨h1,h2.turned ht,?_⟩;rw [ht.other r fun hrm=> ?_];all_goals grind
 .rw [get] at hM;by_cases hij:i=j
  .grind
  .rw [Az hij] at hM;obtain ⟨l2,q1,q2,q3,tmps2,fn2,d2,q4,q5⟩:=h.loops i M hM;refine ⟨l2,q1,q2,q3.turned ht,tmps2,fn2,d2,?_,q5⟩;rw [ht.other l2 fun hlm=> ?_]
   .exact q4
   .obtain rfl:l2=l:=by grind
    exact hij (h.inj i j M L l2 hM hj q1 hl.lp)
 .rw [get] at hM hM';have old: ∀x N,(if x=j then some L' else DX lps x)=some N-> ∃N',DX lps x=some N':=fun x N hx=>by
   grind
  obtain ⟨N,hN⟩:=old i M hM;obtain ⟨N',hN'⟩:=old i' M' hM';exact h.inj i i' N N' l' hN hN' e e'
end
section
variable {P:Program}
structure O7 (P:Program) (base:Nat) (C:CJ) (ρ:CF) (b:Frame) (a:Act) (k:List Item) (css:List Frame) (w:World) (ma mb:zt):Prop where
 top:Fr ρ C.cx C.ro C.todo C.rnd C.st.env b a k ma
 lv:C.cs≠ []->v9x P C.rnd C.rs b
 rest:Dm P base ρ C.cs C.lps css w ma mb
 rel:CH ρ C.st.mem C.st.next w
structure Fl (fl:Nat) (C:CJ):Prop where
 cx:C.cx.floor=fl
 cs: ∀af∈C.cs,af.cx.floor=fl
 le:fl<=C.st.next
def NF (b:Frame):List Frame->FuncId×CallKind×Option Nat
 | []=>(b.fn,b.kind,b.roundOf)
 | c::css=>NF c css
def FK (P:Program) (fl:Nat) (C C':CJ):Prop:=
 ∀(m0:CI) (n0:Nat) (ρ0:CF) (w0:World) (ρ:CF) (b:Frame) (a:Act) (k:List Item) (css:List Frame) (w:World) (ma mb:zt),O7 P w0.heap.size C ρ b a k css w ma mb->Ev ρ0 ρ fl m0 n0 C.st.mem C.st.next w0 w-> ∀cs0:List Frame,
  ∃ρ' b' a' k' css' w' ma' mb',Steps P (lone (b.atR a (Va C.ro k)) (css++cs0) w) (lone (b'.atR a' (Va C'.ro k')) (css'++cs0) w')/\O7 P w0.heap.size C' ρ' b' a' k' css' w' ma' mb'/\Ev ρ0 ρ' fl m0 n0 C'.st.mem C'.st.next w0 w'/\NF b' css'=NF b css/\w.heap.size<=w'.heap.size
theorem FK.refl (fl:Nat) (C:CJ):FK P fl C C:=fun m0 n0 ρ0 w0 ρ b a k css w ma mb hs he cs0=>⟨ρ,b,a,k,css,w,ma,mb,Steps.refl _ _,hs,he,rfl,Aq _⟩
structure EW (P:Program) (fl:Nat) (C C':CJ):Prop where
 fls:Fl fl C'
 inv:Xd fl C.st C'.st
 leads:C'.st.ob=true->FK P fl C C'
theorem EW.move {fl:Nat} {cx:CN} {todo todo':List Item} {rnd:Option Nat} {rs:List ResultVar} {st:St} {cs:List Cd} {lps:CO} (hfl:Fl fl ⟨cx,none,todo,rnd,rs,st,cs,lps⟩)
  (hk: ∀(ρ:CF) (k:List Item),D9 ρ todo k-> ∃k',D9 ρ todo' k'/\ ∀(b:Frame) (a:Act) (css:List Frame) (w:World),step P (lone (b.atR a k) css w)=.next (lone (b.atR a k') css w)):
  EW P fl ⟨cx,none,todo,rnd,rs,st,cs,lps⟩ ⟨cx,none,todo',rnd,rs,st,cs,lps⟩:=
 ⟨⟨hfl.cx,hfl.cs,hfl.le⟩,Xd.refl _ _,fun ho m0 n0 ρ0 w0 ρ b a k css w ma mb hs he cs0=>by
   obtain ⟨k',ht,fN⟩:=hk ρ k hs.top.todo;exact ⟨ρ,b,a,k',css,w,ma,mb,.one (fN b a _ w),⟨⟨hs.top.env,hs.top.defers,ht,trivial,hs.top.rnd⟩,hs.lv,hs.rest,hs.rel⟩,he,rfl,Aq _⟩⟩
theorem D9.code {ρ:CF} {c:Code} {t k:List Item} (h:D9 ρ (.code c::t) k): ∃k',k=.code c::k'/\D9 ρ t k':=by
 cases h with
 | cons hx ht=>cases hx;grind
theorem y3e {cs:List Frame}: ∀(ms:zt) (fr:Frame) (w:World),fr.mode=.returning ->fr.defers=ms.map Oc->ms.Nodup->(∀r∈ms,w.heap[r]? =some (.deferred (some [])))->
  ∃w',Steps P (lone fr cs w) (lone {fr with defers:=[]} cs w')/\Vd ms w w'
 | [],fr,w,hm,hd,_,_=>⟨w,by
   have:{fr with defers:=[]}=fr:=by cases fr;grind
   rw [this];exact Steps.refl _ _,Vd.refl _ _⟩
 | r::ms,fr,w,hm,hd,hn,ho=>by
  have hr:=ho r (by simp);have h1:=step_collected (P:=P) (cs:=cs) (fr:=fr) (d:=Oc r) (ds:=ms.map Oc) (by rw [hm];simp) (by rw [hd];rfl) rfl (run_takeDeferred hr);rw [List.nodup_cons] at hn;obtain ⟨w',hs,ht⟩:=y3e (cs:=cs) ms {fr with defers:=ms.map Oc} (w.putObj r (.deferred none)) hm rfl hn.2 fun r' hr'=>by
   grind [World.putObj_heap_other]
  exact ⟨w',.head h1 hs,(Vd.put w r _).trans ht⟩
theorem y8b {fl base:Nat} {C:CJ} {ρ:CF} {b:Frame} {a:Act} {k:List Item} {css:List Frame} {w:World} {ma mb:zt} (hs:O7 P base C ρ b a k css w ma mb) (hro:C.ro=none) (fA:C.rnd=none) (htodo:C.todo=[]\/ ∃t,C.todo=.code .ret ::t)
  {m0:CI} {n0:Nat} {ρ0:CF} {w0:World} (hb:base=w0.heap.size) (he:Ev ρ0 ρ fl m0 n0 C.st.mem C.st.next w0 w) (cs0:List Frame):
  ∃w',Steps P (lone (b.atR a (Va C.ro k)) cs0 w) (lone {b.atR {a with defers:=[]} k with mode:=.returning} cs0 w')/\Vx ρ C.st.env C.cx.n a.tmps/\CH ρ C.st.mem C.st.next w'/\Ev ρ0 ρ fl m0 n0 C.st.mem C.st.next w0 w'/\Dm P base ρ C.cs C.lps css w' [] mb/\w.heap.size<=w'.heap.size:=by
 have hrn:=hs.top.rnd;rw [fA] at hrn;have h1:step P (lone (b.atR a (Va C.ro k)) cs0 w)=.next (lone {b.atR a k with mode:=.returning} cs0 w):=by
  rw [hro];have ht:=hs.top.todo;rcases htodo with e | ⟨t,e⟩
  .rw [e] at ht;cases ht;exact stepR_end hrn
  .rw [e] at ht;obtain ⟨k',rfl,_⟩:=ht.code;exact stepR_ret hrn
 have hnd:ma.Nodup:=(List.nodup_append.1 hs.rest.nodup).1;obtain ⟨w',h2,ht⟩:=y3e (P:=P) (cs:=cs0) ma {b.atR a k with mode:=.returning} w rfl hs.top.defers hnd fun r hr=>(hs.rest.marks r (by simp [hr])).2.2;refine ⟨w',.head h1 h2,hs.top.env,hs.rel.turned (fun r hr=>(hs.rest.marks r (by simp [hr])).2.1) ht,he.turned (fun r hr=>by rw [<-hb];exact (hs.rest.marks r (by simp [hr])).1) ht,hs.rest.turned ht (List.nil_sublist _) (fun r hr hrm=> ?_) (fun r hr=>⟨_,(hs.rest.marks r (by simp [hr])).2.2⟩),B6 ht.size.symm⟩;rw [A0] at hrm;exact (List.nodup_append.1 hs.rest.nodup).2.2 r hr r hrm rfl
theorem YT {fl base:Nat} {v:CA} {st:St} {lps:CO} {cs:List Cd} {C':CJ} (h:II v st lps cs=some C') (hcs: ∀af∈cs,af.cx.floor=fl) (hle:fl<=st.next):
  Fl fl C'/\C'.st.mem=st.mem/\C'.st.next=st.next/\C'.st.ob=st.ob/\(cs≠ [])/\ ∀(ρ:CF) (css:List Frame) (w:World) (mb:zt) (u:Value),VRel ρ v u->Dm P base ρ cs lps css w [] mb->CH ρ st.mem st.next w->
   ∃c css' b' a' k' ma' mb',css=c::css'/\c.finish u=b'.atR a' (Va C'.ro k')/\O7 P base C' ρ b' a' k' css' w ma' mb'/\NF b' css'=NF c css':=by
 unfold II at h;split at h
 .rename_i cx ops i o l todo rnd rs env cs';split at h
  .rename_i st' hp;obtain rfl:=Ag h;obtain ⟨p1,p2,p3,p4⟩:=Vz hp;refine ⟨⟨hcs _ (Bc ..),fun af haf=>hcs af (by simp [haf]),by rw [show st'.next=st.next from p2];exact hle⟩,p1,p2,p3,by simp,fun ρ css w mb u hv hr eI=> ?_⟩;obtain ⟨hc,hnd,hmk,hlp,hinj⟩:=hr;cases hc with
   | @cons _ b a k ms _ css' mss hf hl ht=>
    simp only at hf hl;refine ⟨_,css',b,a.put o.dst u,k,ms,mss,rfl,?_,⟨⟨hf.env.put hv ?_,by rw [Act.put_defers'];exact hf.defers,hf.todo,?_,hf.rnd⟩,hl,⟨ht,hnd,hmk,hlp,hinj⟩,?_⟩,by cases css' <;> rfl⟩
    .obtain ⟨hro,_⟩:=hf.ro;have hi:ops.toList[i]? =some o:=by
      have:=Av (·[0]?) hro
      grind
     have hi':ops[i]? =some o:=(by grind);have hlt:i<ops.size:=(AC.1 hi').1;have hd:(List.range ops.size).drop i=i::(List.range ops.size).drop (i+1):=by rw [AW (by grind)];simp
     grind [Va,Frame.finish_atR]
    .rcases p4 with ⟨e,e2⟩ | ⟨d,e,hlt,e2⟩
     .exact .inl ⟨e,e2⟩
     .exact .inr ⟨d,e,hlt,e2⟩
    .obtain ⟨hro,fO⟩:=hf.ro;refine ⟨?_,fO⟩;have:=Av List.tail hro
     simpa using this
    .show CH ρ st'.mem st'.next w
     rw [show st'.mem=st.mem from p1,show st'.next=st.next from p2];exact eI
  .cases h
 .rename_i cx j k rnd rs env cs';obtain rfl:=Ag h;refine ⟨⟨hcs _ (Bc ..),fun af haf=>hcs af (by simp [haf]),hle⟩,rfl,rfl,rfl,by simp,fun ρ css w mb u hv hr eI=> ?_⟩;obtain ⟨hc,hnd,hmk,hlp,hinj⟩:=hr;cases hc with
  | @cons _ b a k0 ms _ css' mss hf hl ht=>
   simp only at hf hl;have htd:=hf.todo;cases htd with
   | cons hx htl=>
    cases hx with
    | same _ hp=>cases hp
    | inR _ l hlj=>exact ⟨_,css',b,a,_,ms,mss,rfl,finish_atR_inRangeFunc l u,⟨⟨hf.env,hf.defers,.cons (.endR _ l hlj) htl,trivial,hf.rnd⟩,hl,⟨ht,hnd,hmk,hlp,hinj⟩,eI⟩,by cases css' <;> rfl⟩
 .cases h
theorem w8a {b:Frame} {a:Act} {k:List Item} {cs:List Frame} {w:World} {ops:Array Oper} {i:Nat} {rest:zt} {o:Oper} {f:FuncId} {args:Array Value} (ho:ops[i]? =some o) (hnd: ∀c,o.op≠ .defer c) (hw:Region.wanted o (yielded ops a.tmps)=true)
  (hr:(execOp a.eval o).run P w=.ok (.enter f args) w):step P (lone (b.atR a (.inRegion ops (i::rest)::k)) cs w)=.next (lone (Frame.enter P f args .normal) (b.atR a (.inRegion ops (i::rest)::k)::cs) w):=by
 have hg:=stepGR_op (P:=P) (b:=b) (k:=k) (cs:=cs) (w:=w) (rest:=rest) ho hw;rw [Oper.semAt_eq _ _ _ hnd] at hg;exact step_lone_go (by simp_all [stepG.apply,Frame.atR])
theorem w7z {b:Frame} {a:Act} {k:List Item} {cs:List Frame} {w:World} {ops:Array Oper} {i:Nat} {rest:zt} {o:Oper} {l:Nat} {f:FuncId} {tmps:Array Value} {assign body:Code} (ho:ops[i]? =some o) (hnd: ∀c,o.op≠ .defer c) (hw:Region.wanted o (yielded ops a.tmps)=true)
  (hr:(execOp a.eval o).run P w=.ok (.round l f tmps assign body) w):step P (lone (b.atR a (.inRegion ops (i::rest)::k)) cs w)=.next (lone (Frame.round l f tmps assign body .normal) (b.atR a (.inRegion ops (i::rest)::k)::cs) w):=by
 have hg:=stepGR_op (P:=P) (b:=b) (k:=k) (cs:=cs) (w:=w) (rest:=rest) ho hw;rw [Oper.semAt_eq _ _ _ hnd] at hg;exact step_lone_go (by simp_all [stepG.apply])
theorem z3c {ρ:CF} {n:Nat}: ∀{ps:List Tmp} {args:zy} {env env':T CA} {vals:List Value} {tmps:Array Value},Y3 n ps args env=some env'->Vx ρ env n tmps->Vf (VRel ρ) args vals->
  ps.length=vals.length/\Vx ρ env' n ((ps.zip vals).foldl (fun t p=>t.setIfInBounds p.1 p.2) tmps)
 | [],[],env,env',vals,tmps,h,he,ha=>by cases ha;obtain rfl:=Ag h;simp_all
 | t::ps,x::args,env,env',vals,tmps,h,he,ha=>by
  cases ha with
  | @cons _ u _ vals hx ha=>
   unfold Y3 at h;obtain ⟨hc,h⟩:=Zi h;have hlt:=Ak hc;have he':Vx ρ (T.set .undef env t x) n (tmps.setIfInBounds t u):=by have:=Vx.put (a:=⟨tmps,[]⟩) (dst:=some t) he hx (.inr ⟨t,rfl,hlt,rfl⟩);exact this
   obtain ⟨h1,h2⟩:=z3c h he' ha;simp_all
 | [],_::_,_,_,_,_,h,_,_=>by cases h
 | _::_,[],_,_,_,_,h,_,_=>by cases h
theorem Fl.enter {fl:Nat} {cx:CN} {ro:Option CY} {todo:List Item} {rnd:Option Nat} {rs:List ResultVar} {st:St} {cs:List Cd} {lps lps':CO} (h:Fl fl ⟨cx,ro,todo,rnd,rs,st,cs,lps⟩) {n:Nat} {todo':List Item} {rnd':Option Nat} {rs':List ResultVar} {st':St} {ro':Option CY} {td:List Item} {e:T CA} (hn:st.next<=st'.next):
  Fl fl ⟨⟨n,cx.floor,cx.sym⟩,none,todo',rnd',rs',st',⟨cx,ro',td,rnd,rs,e⟩::cs,lps'⟩:=
 ⟨h.cx,fun af haf=>by
  rcases AN.1 haf with rfl | haf
  .exact h.cx
  .exact h.cs af haf,AI h.le hn⟩
theorem x1s {base:Nat} {ρ:CF} {f:FuncId} {args:zy} {cx:CN} {ro':Option CY} {td:List Item} {rnd:Option Nat} {rs:List ResultVar} {e:T CA} {st:St} {cs:List Cd} {lps:CO} {C':CJ} {b:Frame} {a:Act} {k:List Item} {css:List Frame} {w:World} {ma mb:zt} {vals:Array Value}
  (h:RT P f args ⟨cx,ro',td,rnd,rs,e⟩ st cs lps=some C') (hf:Fr ρ cx ro' td rnd e b a k ma) (hlv:cs≠ []->v9x P rnd rs b) (hr:Dm P base ρ cs lps css w ma mb) (eI:CH ρ st.mem st.next w) (eN:Vf (VRel ρ) args vals.toList):
  ∃fn body,P.funcs[f]? =some fn/\fn.body=some body/\C'=⟨⟨Nat.max fn.ntmps args.length,cx.floor,cx.sym⟩,none,[.code body],none,fn.results.toList,st.withEnv (FO args 0 .leaf),⟨cx,ro',td,rnd,rs,e⟩::cs,lps⟩/\
   ∃b' a' k',Frame.enter P f vals .normal =b'.atR a' (Va none k')/\O7 P base C' ρ b' a' k' (b.atR a (Va ro' k)::css) w [] (ma++mb):=by
 unfold RT at h;split at h
 .rename_i fn hfn;split at h
  .rename_i body hb;obtain rfl:=Ag h;refine ⟨fn,body,hfn,hb,rfl,⟨f, #[],[],[],.run,.normal,none⟩,{tmps:=vals++Array.replicate (fn.ntmps - vals.size) undef,defers:=[]},[.code body],?_,⟨⟨y7x eN fn.ntmps,rfl,.cons (.same _ rfl) .nil,trivial,rfl⟩,fun _=>⟨rfl,fun _=>⟨fn,hfn,rfl⟩⟩,?_,eI⟩⟩
   .grind [Frame.enter,Frame.atR,Va]
   .exact ⟨.cons hf hlv hr.cs,hr.nodup,hr.marks,hr.loops,hr.inj⟩
  .cases h
 .cases h
theorem WN {ρ:CF} {ops:Array Oper} {o:Oper} {cx:CN} {st st1:St} {e:Bool} (h:GJ ops o cx st=some (e,st1)):st1.mem=st.mem/\st1.next=st.next/\(st1.ob=true->st.ob=true/\ ∀{tmps:Array Value},Vx ρ st.env cx.n tmps->Vx ρ st1.env cx.n tmps/\Region.wanted o (yielded ops tmps)=e):=by obtain ⟨w1,w2,w3⟩:=Wd h;refine ⟨w1,w2,fun ho=>⟨(w3 ho).1,fun {tmps} he=>⟨he.congr fun t=>(w3 ho).2 t,Up h ho he.size fun d _=>he.get d⟩⟩⟩
theorem x9z {ops:Array Oper} {i:Nat} {o:Oper} {l:List Oper} (h:o::l=ops.toList.drop i):ops[i]? =some o/\l=ops.toList.drop (i+1)/\(List.range ops.size).drop i=i::(List.range ops.size).drop (i+1):=by
 have hi:ops.toList[i]? =some o:=by
  have:=Av (·[0]?) h
  grind
 have hi':ops[i]? =some o:=by grind
 have hlt:i<ops.size:=(AC.1 hi').1;refine ⟨hi',?_,?_⟩
 .have:=Av List.tail h
  simpa using this
 .rw [AW (by grind)];simp
theorem W2 {ops:Array Oper} (h:HJ ops=true) {i:Nat} {o:Oper} (ho:ops[i]? =some o) (c:Call):o.op≠ .defer c:=by
 intro hc;have hm:o∈ops.toList:=by grind
 have:=As.1 h o hm
 grind
theorem y8j {ρ:CF} {st:St} {n:Nat} {a:Act} (he:Vx ρ st.env n a.tmps) (args:Array Operand):Vf (VRel ρ) (args.toList.map st.eval) (args.map a.eval).toList :=by rw [Bx];exact Vf.maps _ _ _ fun x _=>he.eval x
theorem x8v {ops:Array Oper} {m i:Nat} (hm:m<=ops.size) (h:i<m):(Wr ops m)[i]? =ops[i]? :=by
 grind [Wr]
theorem v3i {ops:Array Oper} {m i:Nat} (hm:m<=ops.size) (h:m<=i):(Wr ops m)[i]? =(ops[i]?).map Eh:=by
 grind [Wr]
theorem x5g {ops:Array Oper} {m:Nat} (hm:m<=ops.size):(Wr ops m).size =ops.size:=by simp [Wr];omega
theorem y1e {ops:Array Oper} {m:Nat} (hm:m<=ops.size) (i:Nat):((Wr ops m)[i]?).map (·.after)=(ops[i]?).map (·.after):=by
 by_cases h:i<m
 .rw [x8v hm h]
 .rw [v3i hm (by omega)];cases ops[i]? <;> rfl
theorem w7y (md:Region.Mode) {ops:Array Oper} {m:Nat} (hm:m<=ops.size) (listed:Array Bool):Region.ready md (Wr ops m) listed=Region.ready md ops listed:=by
 grind [Region.ready,y1e,Wr]
theorem w4w (md:Region.Mode) {ops:Array Oper} {m:Nat} (hm:m<=ops.size): ∀(fuel t:Nat) (listed:Array Bool) (acc:zt),Region.linearise.go md (Wr ops m) fuel t listed acc=Region.linearise.go md ops fuel t listed acc
 | 0,t,listed,acc=>rfl
 | fuel+1,t,listed,acc=>by
  have e:=w7y md hm listed;unfold Region.ready at e;simp only [Region.linearise.go];rw [e];split
  .exact w4w md hm fuel _ _ _
  .rfl
theorem w8k {ops:Array Oper} (gD: ∀(j:Nat) o,ops[j]? =some o-> ∀e∈o.after.toList,Region.binds .any e=true->e.on<j): ∀listed:Array Bool,listed.size=ops.size-> ∀i,i<ops.size->listed.getD i false=false-> ∃j,j∈Region.ready .any ops listed:=by
 intro listed hsz i
 induction i using Nat.strongRecOn with
 | _ i ih=>
  intro hi hl;by_cases h: ∃e∈(ops[i]).after.toList,Region.binds .any e=true/\listed.getD e.on false=false
  .grind
  .refine ⟨i,mem_ready.2 ⟨?_,ops[i],by simp [hi],fun e he hb=> ?_⟩⟩;all_goals grind
theorem w6k {ops:Array Oper} (gD: ∀(j:Nat) o,ops[j]? =some o-> ∀e∈o.after.toList,Region.binds .any e=true->e.on<j) (fuel t:Nat) (listed:Array Bool) (hsz:listed.size=ops.size) (hcl:HT ops (fun i=>listed.getD i false)) {q:Nat} (hq:q<ops.size) (hl:listed.getD q false=false):
  ∃i x t',ops[i]? =some x/\listed.getD i false=false/\HY (fun i=>listed.getD i false) x/\Region.linearise.go .any ops (fuel+1) t listed []=i::Region.linearise.go .any ops fuel t' (listed.setIfInBounds i true) []/\
   (listed.setIfInBounds i true).size =ops.size/\HT ops (fun q=>(listed.setIfInBounds i true).getD q false)/\ ∀q,(listed.setIfInBounds i true).getD q false=(listed.getD q false||q == i):=by
 obtain ⟨j0,hj0⟩:=w8k gD listed hsz q hq hl;have hne:Region.ready .any ops listed≠ []:=fun e=>by grind
 have hlt:t %(Region.ready .any ops listed).length <(Region.ready .any ops listed).length :=BA _ (List.length_pos_iff.2 hne);have hgo:Region.linearise.go .any ops (fuel+1) t listed []=(match (Region.ready .any ops listed)[t %(Region.ready .any ops listed).length]? with
  | some i=>Region.linearise.go .any ops fuel (t / (Region.ready .any ops listed).length) (listed.setIfInBounds i true) [i]
  | none=>[].reverse):=rfl
 rw [hgo,At hlt];simp only;have hi:=AU hlt;generalize (Region.ready .any ops listed)[t %(Region.ready .any ops listed).length]=i at hi;obtain ⟨h1,x,hx,hr⟩:=mem_ready.1 hi;have hil:i<ops.size:=(AC.1 hx).1;have hils:i<listed.size:=by omega
 have hif:listed.getD i false=false:=by grind
 rw [linearise_go_acc,List.reverse_singleton,List.singleton_append];have gB: ∀q,(listed.setIfInBounds i true).getD q false=(listed.getD q false||q == i):=fun q=>by
  by_cases hq:q=i
  .simp_all
  .have:(q == i)=false:=by simp [hq]
   rw [this,Bool.or_false];simp [Array.getD_eq_getD_getElem?,Ne.symm hq]
 have eV:HY (fun i=>listed.getD i false) x:=fun e he hb=>hr e (Array.mem_toList_iff.1 he) hb;refine ⟨i,x,_,hx,hif,eV,rfl,by grind,fun j y hy hs e he hb=> ?_,gB⟩;simp only [gB] at hs ⊢;by_cases hji:j=i
 .grind
 .have hs':listed.getD j false=true:=by grind
  have:=hcl j y hy hs' e he hb
  grind
theorem w6j {ops:Array Oper} {m:Nat} (gD: ∀(j:Nat) o,ops[j]? =some o-> ∀e∈o.after.toList,Region.binds .any e=true->e.on<j) (hf: ∀j x,m<=j->ops[j]? =some x-> ∀i,i<j->JI ops i x):
  ∀(fuel t j:Nat) (listed:Array Bool),listed.size=ops.size->HT ops (fun i=>listed.getD i false)->m<=j->j+fuel=ops.size->(∀q,q<j->listed.getD q false=true)->(∀q,j<=q->listed.getD q false=false)->Region.linearise.go .any ops fuel t listed []=(List.range ops.size).drop j
 | 0,t,j,listed,hsz,hcl,hj,hn,h1,h2=>by rw [Aw (by simp;omega)];rfl
 | fuel+1,t,j,listed,hsz,hcl,hj,hn,h1,h2=>by
  obtain ⟨i,x,t',hx,hif,hr,hgo,gO,hcl',gB⟩:=w6k gD fuel t listed hsz hcl (q:=j) (by omega) (h2 j (Aq _));have hij: ¬i<j:=fun e=>by rw [h1 i e] at hif;cases hif
  have e:i=j:=by
   by_cases h:j<i
   .have:listed.getD j false=true:=hf i x (by omega) hx j h _ hcl hr;rw [h2 j (Aq _)] at this;cases this
   .omega
  subst e;rw [hgo,w6j gD hf fuel t' (i+1) _ gO hcl' (by omega) (by omega) (fun q hq=>by
   rw [gB];by_cases e:q=i
   .simp [e]
   .rw [h1 q (by omega)];rfl) (fun q hq=>by
   rw [gB,h2 q (by omega)];simp;omega)]
  rw [AW (show i<(List.range ops.size).length by simp;omega)];simp
theorem u4k {ops:Array Oper} {m:Nat} (gD: ∀(j:Nat) o,ops[j]? =some o-> ∀e∈o.after.toList,Region.binds .any e=true->e.on<j) (hm:m<ops.size) (hf: ∀j x,m<=j->ops[j]? =some x-> ∀i,i<j->JI ops i x):
  ∀(fuel t:Nat) (listed:Array Bool),listed.size=ops.size->HT ops (fun i=>listed.getD i false)->(List.range ops.size).countP (fun i=> !listed.getD i false)=fuel->(∀q,m<=q->listed.getD q false=false)->
   ∃l,Region.linearise.go .any ops fuel t listed []=l++(List.range ops.size).drop m/\ ∀i∈l,i<m:=by
 intro fuel
 induction fuel with
 | zero=>
  intro t listed hsz _ hc hl;have:=List.countP_eq_zero.1 hc m (AL.2 hm)
  grind
 | succ fuel ih=>
  intro t listed hsz hcl hc hl;obtain ⟨i,x,t',hx,hif,hr,hgo,gO,hcl',gB⟩:=w6k gD fuel t listed hsz hcl hm (hl m (Aq _));have hil:i<ops.size:=(AC.1 hx).1;have hc':(List.range ops.size).countP (fun q=> !(listed.setIfInBounds i true).getD q false)=fuel:=by have:=z3v (fun q=> !listed.getD q false) (fun q=> !(listed.setIfInBounds i true).getD q false) i ops.size (fun k hk=>by grind) (by grind) (by grind) hil;omega
  by_cases him:i<m
  .obtain ⟨l,h2,h3⟩:=ih t' (listed.setIfInBounds i true) gO hcl' hc' (fun q hq=>by grind)
   grind
  .have e:i=m:=by
    by_cases h:m<i
    .have:listed.getD m false=true:=hf i x (by omega) hx m h _ hcl hr
     grind
    .omega
   subst e;have fJ: ∀q,q<i->listed.getD q false=true:=fun q hq=>hf i x (Aq _) hx q hq _ hcl hr;refine ⟨[],?_,fun q hq=>by cases hq⟩;have hcount:fuel+1+i=ops.size:=by
    rw [<-hc];have key: ∀n,i<=n->n<=ops.size->(List.range n).countP (fun q=> !listed.getD q false)+i=n:=by
     intro n
     induction n with
     | zero=>grind
     | succ n ihn=>
      intro h1 h2;rw [Bw,List.countP_append];by_cases e:i<=n
      .grind
      .have hni:n+1=i:=(by omega);have h0:(List.range n).countP (fun q=> !listed.getD q false)=0:=List.countP_eq_zero.2 fun q hq=>by
        grind
       grind
    grind
   grind [w6j]
theorem x0m {b:Frame} {k:List Item} {cs:List Frame} {ops:Array Oper} {Q:Exit->Act->World->Prop} (hQ: ∀e a w,Q e a w->e=.normal) {m:Nat} (hm:m<=ops.size) (hnd:HJ ops=true)
  (hg: ∀i x g,i<m->ops[i]? =some x->x.guard=some g->g.1<m) {r:zt} (hr: ∀i∈r,m<=i): ∀(l:zt) (a:Act) (w:World),(∀i∈l,i<m)->wpOps P (Wr ops m) Q (l++r) a w->
   ∃a' w',Q .normal a' w'/\Steps P (lone (b.atR a (.inRegion ops (l++r)::k)) cs w) (lone (b.atR a' (.inRegion ops r::k)) cs w')
 | [],a,w,_,h=>by
  refine ⟨a,w,?_,Steps.refl _ _⟩;rw [A0] at h;clear hg
  induction r with
  | nil=>exact h
  | cons i r ih=>
   refine ih (fun q hq=>hr q (by simp [hq])) ?_;simp only [wpOps] at h;rw [v3i hm (hr i (by simp))] at h;cases ho:ops[i]? with
   | none=>grind
   | some o=>
    rw [ho] at h;simp only [B2] at h;have hw:Region.wanted (Eh o) (yielded (Wr ops m) a.tmps)=true:=rfl;rw [AF hw] at h;rcases h with h | ⟨_,a0,w0,h0⟩
    .have h:wpOps P (Wr ops m) Q r (a.put none (a.eval (.const (.bool true)))) w:=h;exact h
    grind
 | i::l,a,w,hl,h=>by
  have him:=hl i (by simp);simp only [BD,wpOps] at h;rw [x8v hm him] at h;have hil:i<ops.size:=by omega
  obtain ⟨x,hx⟩: ∃x,ops[i]? =some x:=⟨ops[i],by simp [hil]⟩
  rw [hx] at h;simp only at h;have hy:Region.wanted x (yielded (Wr ops m) a.tmps)=Region.wanted x (yielded ops a.tmps):=by
   grind [Region.wanted,yielded,x8v]
  rw [hy] at h;have h':if Region.wanted x (yielded ops a.tmps) then x.wp P a w (wpOps P (Wr ops m) Q (l++r)) Q else wpOps P (Wr ops m) Q (l++r) (a.put x.dst undef) w:=by
   by_cases hw:Region.wanted x (yielded ops a.tmps)=true
   .simp only [hw,if_true] at h ⊢;rcases h with h | ⟨_,a0,w0,h0⟩;all_goals grind
   grind
  obtain ⟨a1,w1,h1,s1⟩:=x3m (b:=b) (k:=k) (cs:=cs) (rest:=l++r) hQ hx (W2 hnd hx) h';obtain ⟨a',w',hR,hs⟩:=x0m hQ hm hnd hg hr l a1 w1 (fun q hq=>hl q (by simp [hq])) h1;exact ⟨a',w',hR,s1.trans hs⟩
theorem x0h {st:St} {ops:List Oper}: ∀(l:List Oper) (i:Nat) {m:Nat},Y7 st ops l i=some m->i<=m/\m<i+l.length
 | [],i,m,h=>by cases h
 | o::l,i,m,h=>by
  unfold Y7 at h;cases hy:v7l st ops o with
  | true=>grind
  | false=>
   rw [hy] at h;have:=x0h l (i+1) h
   grind
theorem w7w {ops:Array Oper} {st:St} {m:Nat} (h:j2g ops st=some m):m<ops.size/\HJ ops=true/\Mq 0 (Wr ops m)=true/\(∀j x,m<=j->(Wr ops m)[j]? =some x-> ∀i,i<j->JI (Wr ops m) i x)/\
  ∀i x g,i<m->ops[i]? =some x->x.guard=some g->g.1<m:=by
 unfold j2g at h;split at h
 .rename_i m' hd;obtain ⟨hc,h⟩:=Zi h;obtain rfl:=Ag h;have hlt:=(x0h _ _ hd).2;rw [Ah,Array.length_toList] at hlt;simp only [u6w,Ac] at hc;obtain ⟨hnd,hdr,fJ,hgd⟩:=hc;refine ⟨hlt,hnd,hdr,fun j x hj hx i hi=> ?_,fun i x g hi hx hgx=> ?_⟩
  .have hjl:j<ops.size:=by grind [x5g]
   have:=As.1 fJ j (AL.2 hjl);simp only [Bv] at this;rcases this with h1 | h1
   .have:=Ak h1;omega
   .exact ((z8k hdr).bits j x hx i (As.1 h1 i (AL.2 hi))).2
  .have h2:=As.1 hgd i (AL.2 hi);rw [hx] at h2;obtain ⟨dst,op,type,pos,after,guard⟩:=x;simp only at hgx;subst hgx;obtain ⟨j,want⟩:=g;exact Ak h2
 .cases h
end
section
variable {P:Program} {ρ:CF}
theorem CH.setObj {mem:CI} {next:Nat} {w:World} (h:CH ρ mem next w) {b:Nat} {l:CZ} {ab:CG} {o':H7} {r':zy} (hb:ρ b=some l) (hm:Yi mem b=some ab) (hob:ab.isObj=true) (eK:r'.length+1=ab.cells.length)
  (x:Obj) (hx:HU ρ ab.ty l.blk r' o' (some x)):CH ρ (Wv mem b (some ⟨.obj o'::r',ab.ty,none⟩)) next (w.putObj l.blk x):=by
 have hlt:=h.real b l hb;have hn:l=⟨l.blk,0,r'.length+1,r'.length+1⟩:=by
  have:=(h.blk b l ab hb hm)
  cases this with
  | plain k=>have:=k.noObj;rw [this] at hob;cases hob
  | obj o r ty e1 e2 _=>subst e1;rw [e2];simp only [Ba] at eK;rw [eK]
 have iff: ∀c,(Yi (Wv mem b (some ⟨.obj o'::r',ab.ty,none⟩)) c).isSome =(Yi mem c).isSome :=fun c=>by
  rw [Vc];split
  .rename_i e;rw [e,hm];rfl
  .rfl
 refine ⟨h.dom,fun c c' m m' e e' he hs hs'=>h.inj c c' m m' e e' he (by rw [<-iff];exact hs) (by rw [<-iff];exact hs'),fun c m ac e hc=> ?_,fun k o e=> ?_,fun c m e hs=>h.sep c m e (by rw [<-iff];exact hs),fun c m e=>by rw [World.putObj_size];exact h.real c m e,fun c hc=> ?_,h.ldom⟩
 .by_cases hcb:c=b
  .subst hcb;rw [Yw] at hc;obtain rfl:=Ag hc;rw [hb] at e;obtain rfl:=Ag e;exact .obj o' r' ab.ty rfl hn (by rw [World.putObj_heap_same hlt];exact hx)
  .rw [Zw _ _ hcb] at hc;refine (h.blk c m ac e hc).world (CF.le_refl _) (World.putObj_heap_other fun heq=>hcb ?_);exact h.inj c b m l e hb heq (by rw [hc];rfl) (by rw [hm];rfl)
 .rw [World.putObj_heap_other]
  .exact h.old k o e
  .intro heq;have:=h.sep b l hb (by rw [hm];rfl);rw [<-heq,e] at this;cases this
 .have:=h.dom b l hb;rw [Zw _ _ (by omega)];exact h.bd c hc
theorem Ev.ofObj {mem:CI} {next:Nat} {w:World} (h:CH ρ mem next w) {floor b:Nat} {l:CZ} (hb:ρ b=some l) (hf:floor<=b) (o:Option CG) (x:Obj):
  Ev ρ ρ floor mem next (Wv mem b o) next w (w.putObj l.blk x) where
 ext:=CF.le_refl _
 new _ _:=rfl
 nxt:=Aq _
 unborn k _ e cs ty hm:=by
  rw [Zw]
  .exact hm
  .intro e';rw [e',hb] at e;cases e
 frame k o hk hfr:=by rw [World.putObj_heap_other fun e=>hfr b l hb hf e.symm];exact hk
 fresh k m hk e:=by have:=h.dom k m e;omega
 size:=by rw [World.putObj_size];exact Aq _
 os:=rfl
 tape:=rfl
 output:=rfl
 still _ _:=rfl
theorem CH.newObj {mem:CI} {next:Nat} {w:World} (h:CH ρ mem next w) (o:H7) (r:zy) (ty:TypeId) (x:Obj) (hx:HU ρ ty w.heap.size r o (some x)):
  CH (Vn ρ next ⟨w.heap.size,0,r.length+1,r.length+1⟩) (Wv mem next (some ⟨.obj o::r,ty,none⟩)) (next+1) (w.alloc x):=by
 have hle:=Qs (l:=⟨w.heap.size,0,r.length+1,r.length+1⟩) h.none_next;have eU: ∀b l,Vn ρ next ⟨w.heap.size,0,r.length+1,r.length+1⟩ b=some l->(b=next/\l=⟨w.heap.size,0,r.length+1,r.length+1⟩)\/(b≠next/\ρ b=some l):=fun b l e=>by
  grind [Uv]
 have hold: ∀k,k<w.heap.size->(w.alloc x).heap[k]? =w.heap[k]? :=fun k hk=>by show (w.heap.push x)[k]? =_;rw [BY,Az (Bp hk)]
 have hnew:(w.alloc x).heap[w.heap.size]? =some x:=World.alloc_heap_new w x;have gK:(w.alloc x).heap.size =w.heap.size+1:=Array.size_push _;refine ⟨fun b l e=> ?_,fun b b' l l' e e' hbl hs hs'=> ?_,fun b l ab e hm=> ?_,fun k o e=> ?_,fun b l e hs=> ?_,fun b l e=> ?_,fun b hb=>by rw [Zw _ _ (by omega)];exact h.bd b (by omega),⟨fun j l e=>Bs (h.ldom.1 j l e),h.ldom.2⟩⟩
 .rcases eU b l e with ⟨rfl,_⟩ | ⟨_,e⟩
  .omega
  .have:=h.dom b l e;omega
 .rcases eU b l e with ⟨hb,hl⟩ | ⟨hb,e2⟩ <;> rcases eU b' l' e' with ⟨hb',hl'⟩ | ⟨hb',e2'⟩
  .rw [hb,hb']
  .have:=h.real b' l' e2';grind
  .have:=h.real b l e2;grind
  .rw [Zw _ _ hb] at hs;rw [Zw _ _ hb'] at hs';exact h.inj b b' l l' e2 e2' hbl hs hs'
 .rcases eU b l e with ⟨rfl,rfl⟩ | ⟨hb,e⟩
  .rw [Yw] at hm;obtain rfl:=Ag hm;exact .obj o r ty rfl rfl (by rw [hnew];exact hx.mono hle)
  .rw [Zw _ _ hb] at hm;exact (h.blk b l ab e hm).world hle (hold _ (h.real b l e))
 .have hk:=h.old k o e;have hlt:=(AC.1 hk).1;rw [hold k hlt];exact hk
 .rcases eU b l e with ⟨rfl,rfl⟩ | ⟨hb,e⟩
  .exact h.hold _ (Aq _)
  .rw [Zw _ _ hb] at hs;exact h.sep b l e hs
 .rw [gK];rcases eU b l e with ⟨rfl,rfl⟩ | ⟨_,e⟩
  .show w.heap.size<_;omega
  .have:=h.real b l e;omega
theorem z7w {st:St} {w:World} (h:CH ρ st.mem st.next w) (floor:Nat) (o:H7) (r:zy) (ty:TypeId) (x:Obj) (hx:HU ρ ty w.heap.size r o (some x)) {v:CA} {u:Value}
  (fB: ∀ρ',ρ' st.next=some ⟨w.heap.size,0,r.length+1,r.length+1⟩->VRel ρ' v u):
  Dg ρ floor st (Cy st (.obj o::r) ty) v w (Vn ρ st.next ⟨w.heap.size,0,r.length+1,r.length+1⟩) u (w.alloc x):=
 ⟨fB _ (by simp [Vn]),h.newObj o r ty x hx,Ev.ofNew h floor _ _ _ (Aq _)⟩
theorem x2o {w:World} {k:Nat} {c cs:Array Value} {el:TypeId} {fz:Nat×Nat} (h:w.heap[k]? =some (.cells c el fz)):w.setRow k cs=w.putObj k (.cells cs el fz):=by
 unfold World.setRow World.putObj
 congr 1
 apply Array.ext_getElem?;intro i;rw [BE,Array.getElem?_setIfInBounds];have hlt:=(AC.1 h).1;by_cases e:k=i
 .subst e;rw [AF rfl,AF rfl,h];simp [hlt]
 .simp [e]
theorem w6v {w:World} {k:Nat} {s:ByteArray} {p:Nat} (h:w.heap[k]? =some (.stringIter s p)):(getObj k).run P w=.ok (.stringIter s p) w:=by simp [getObj,Sem.run,h]
theorem u1g {w:World} {k:Nat} {s:ByteArray} {p:Nat} {o':Obj} (h:w.heap[k]? =some (.stringIter s p)):(setObj k o').run P w=.ok () (w.putObj k o'):=by simp [setObj,Sem.run,h,World.putObj]
theorem v8s {w:World} {t:TypeId} {m:Array (String×TypeId)} (h:P.underlying t=some (.interface m)) (v:Value) (hv:v=.nilIface \/ ∃d z,v=.iface d z):(Op.equal t v .nilIface).run P w=.ok (match v with | .nilIface =>true | _=>false) w:=by
 have key: ∀d,(Op.equalIn (d+1) t v .nilIface).run P w=.ok (match v with | .nilIface =>true | _=>false) w:=fun d=>by rcases hv with rfl | ⟨d,z,rfl⟩ <;> simp [Op.equalIn,run_underlying h]
 exact key 9999
theorem CH.objAt {mem:CI} {next:Nat} {w:World} (h:CH ρ mem next w) {b:Nat} {l:CZ} {o:H7} {r:zy} {ty:TypeId} (hb:ρ b=some l) (hm:Yi mem b=some ⟨.obj o::r,ty,none⟩):HU ρ ty l.blk r o w.heap[l.blk]? :=by
 have:=h.blk b l _ hb hm;cases this with
 | plain k=>have:=k.noObj;cases this
 | obj o' r' ty' e1 e2 h3=>simp only [CG.mk.injEq,Bn,CA.obj.injEq] at e1;obtain ⟨⟨rfl,rfl⟩,rfl,_⟩:=e1;exact h3
theorem CH.objBase {mem:CI} {next:Nat} {w:World} (h:CH ρ mem next w) {b:Nat} {l:CZ} {o:H7} {r:zy} {ty:TypeId} (hb:ρ b=some l) (hm:Yi mem b=some ⟨.obj o::r,ty,none⟩):l.base=0:=by
 have:=h.blk b l _ hb hm;cases this with
 | plain k=>have:=k.noObj;cases this
 | obj o' r' ty' e1 e2 h3=>rw [e2]
def Er {α:Type} (vf:α->Value) (es:List MapEntry) (l:List (zw×α)):Prop:=es.map (fun e=>(e.key,e.val))=l.map fun p=>(.string ⟨p.1.toArray⟩,vf p.2)
def GS {α:Type} (vf:α->Value) (k:zw):List (zw×α)->Nat->Option (Nat×Value)
 | [],_=>none
 | p::r,i=>bif k == p.1 then some (i,vf p.2) else GS vf k r (i+1)
theorem bytes_beq (a b:zw):((⟨a.toArray⟩:ByteArray) == ⟨b.toArray⟩)=(a == b):=by rw [AV,MapKept.bytes_beq,Bi];simp
theorem z8g {α:Type} (vf:α->Value) (k:zw): ∀(es:List MapEntry) (l:List (zw×α)) (i:Nat),Er vf es l->Instr.findNow .string (.string ⟨k.toArray⟩) es i=some (GS vf k l i)
 | [],[],_,_=>rfl
 | [],_::_,_,h=>by cases h
 | _::_,[],_,h=>by cases h
 | e::es,p::l,i,h=>by
  unfold Er at h;simp only [AT,Bn,Ad] at h;obtain ⟨⟨h1,h2⟩,h3⟩:=h;have ih:=z8g vf k es l (i+1) h3;unfold Instr.findNow GS;rw [h1];simp only [Instr.sameNow,bytes_beq];cases hk:(k == p.1) with
  | true=>rw [Ab,h2]
  | false=>rw [Aa];exact ih
theorem w7a {α:Type} (vf:α->Value) (d:α) (k:zw): ∀(l:List (zw×α)) (i:Nat),match GS vf k l i with
  | some (_,v)=>v=vf (getK d l k)/\GT l k=true
  | none=>getK d l k=d/\GT l k=false
 | [],_=>⟨rfl,rfl⟩
 | p::l,i=>by
  have ih:=w7a vf d k l (i+1);unfold GS getK GT;cases hk:(k == p.1) with
  | true=>simp [hk]
  | false=>simpa [hk,GT] using ih
theorem w6z {α:Type} (vf:α->Value) (k:zw) (v:α) (c:Nat): ∀(l:List (zw×α)) (es:List MapEntry) (i:Nat),Er vf es l->match GS vf k l i with
  | some (j,_)=>i<=j/\(∃e,es[j - i]? =some e/\e.key=.string ⟨k.toArray⟩)/\Er vf (es.modify (j - i) fun e=>{e with key:=.string ⟨k.toArray⟩,val:=vf v}) (ER l k v)
  | none=>Er vf (es++[⟨.string ⟨k.toArray⟩,vf v,c⟩]) (ER l k v)
 | [],es,i,h=>by
  have:es=[]:=by unfold Er at h;simpa using h
  subst this;simp [GS,ER,Er]
 | p::l,[],i,h=>by cases h
 | p::l,e::es,i,h=>by
  unfold Er at h;simp only [AT,Bn,Ad] at h;obtain ⟨⟨h1,h2⟩,h3⟩:=h;have ih:=w6z vf k v c l es (i+1) h3;unfold GS ER;cases hk:(k == p.1) with
  | true=>
   have hk':k=p.1:=by simpa using hk
   simp only [Ab,Nat.sub_self];refine ⟨Aq _,⟨e,rfl,by rw [h1,hk']⟩,?_⟩;unfold Er;simp only [List.modify_zero_cons,AT,Bn,Ad];exact ⟨⟨by rw [hk'],trivial⟩,h3⟩
  | false=>
   simp only [Aa];cases hf:GS vf k l (i+1) with
   | none=>rw [hf] at ih;unfold Er at ih ⊢;simp only [BD,AT,Bn,Ad];exact ⟨⟨h1,h2⟩,ih⟩
   | some q=>rw [hf] at ih;obtain ⟨j,x⟩:=q;simp only at ih ⊢;obtain ⟨k1,⟨e',k2,k3⟩,k4⟩:=ih;have hj:j - i=(j - (i+1))+1:=(by omega);refine ⟨by omega,⟨e',by rw [hj];exact k2,k3⟩,?_⟩;rw [hj];unfold Er at k4 ⊢;simp only [List.modify_succ_cons,AT,Bn,Ad];exact ⟨⟨h1,h2⟩,k4⟩
theorem z7b {α:Type} (vf:α->Value) (d:α) {w:World} {t kt et:TypeId} {r clock:Nat} {es:Array MapEntry} {l:List (zw×α)} (hm:P.underlying t=some (.map kt et)) (hk:P.underlying kt=some .string)
  (hz:(zeroValue et).run P w=.ok (vf d) w) (hb:w.heap[r]? =some (.map es clock)) (hes:Er vf es.toList l) (k:zw) (co:Bool):
  (Instr.lookup t (.map (some r)) (.string ⟨k.toArray⟩) co).run P w=.ok (if co then .tuple #[vf (getK d l k),.bool (GT l k)] else vf (getK d l k)) w:=by
 have hf:=z8g vf k es.toList l 0 hes;have hc: ∀b,(Instr.checkKey b 10000 kt (.string ⟨k.toArray⟩)).run P w=.ok () w:=fun b=>MapKept.run_checkKey (k:=.string ⟨k.toArray⟩) hk (by simp [MapKept.IsKey]) b 9999;have hg:=w7a vf d k l 0;cases hfk:GS vf k l 0 with
 | none=>rw [hfk] at hf hg;simp only at hg;rw [hg.1,hg.2];simp [Instr.lookup,run_underlying hm,MapKept.run_getObj_map hb,hc,MapKept.run_findKey hk hf,hz,Result.andThen]
 | some q=>obtain ⟨j,v⟩:=q;rw [hfk] at hf hg;simp only at hg;rw [<-hg.1,hg.2];simp [Instr.lookup,run_underlying hm,MapKept.run_getObj_map hb,hc,MapKept.run_findKey hk hf,Result.andThen]
theorem z7a {α:Type} (vf:α->Value) {w:World} {t kt et:TypeId} {r clock:Nat} {es:Array MapEntry} {l:List (zw×α)} (hm:P.underlying t=some (.map kt et)) (hk:P.underlying kt=some .string)
  (hb:w.heap[r]? =some (.map es clock)) (hes:Er vf es.toList l) (k:zw) (v:α):
  ∃es' clock',(Instr.mapUpdate t (.map (some r)) (.string ⟨k.toArray⟩) (vf v)).run P w=.ok () (w.putObj r (.map es' clock'))/\Er vf es'.toList (ER l k v):=by
 have hf:=z8g vf k es.toList l 0 hes;have hc: ∀b,(Instr.checkKey b 10000 kt (.string ⟨k.toArray⟩)).run P w=.ok () w:=fun b=>MapKept.run_checkKey (k:=.string ⟨k.toArray⟩) hk (by simp [MapKept.IsKey]) b 9999;have hg:=w6z vf k v clock l es.toList 0 hes;cases hfk:GS vf k l 0 with
 | none=>rw [hfk] at hf hg;simp only at hg;refine ⟨es.push ⟨.string ⟨k.toArray⟩,vf v,clock⟩,clock+1,?_,by simpa using hg⟩;simp [Instr.mapUpdate,run_underlying hm,MapKept.run_getObj_map hb,hc,MapKept.run_findKey hk hf,MapKept.run_setObj_map _ hb,Result.andThen,World.putObj]
 | some q=>
  obtain ⟨j,x⟩:=q;rw [hfk] at hf hg;simp only [Nat.sub_zero] at hg;obtain ⟨_,⟨e,h1,h2⟩,h3⟩:=hg;have h1':es[j]? =some e:=by simpa using h1
  refine ⟨es.modify j fun e=>{e with key:=.string ⟨k.toArray⟩,val:=vf v},clock,?_,by simpa using h3⟩;have hs: ∀w:World,(Instr.keyThatStays (.string ⟨k.toArray⟩) (.string ⟨k.toArray⟩)).run P w=.ok (.string ⟨k.toArray⟩) w:=fun w=>by simp [Instr.keyThatStays,Instr.sameBits,(MapKept.bytes_beq (⟨k.toArray⟩:ByteArray) ⟨k.toArray⟩).2 rfl]
  simp [Instr.mapUpdate,run_underlying hm,MapKept.run_getObj_map hb,hc,MapKept.run_findKey hk hf,MapKept.run_setObj_map _ hb,Result.andThen,World.putObj,h1',h2,hs]
theorem x1w {v:CA} {u:Value} (h:RY v=true) (hr:VRel ρ v u):u=.int .u8 ((TF v).toNat :Int):=by
 unfold RY at h;split at h
 .rename_i n;have h:=Ay h;cases hr;simp only [TF]
  congr 1
  have:(UInt8.ofNat n.toNat).toNat =n.toNat:=by rw [UInt8.toNat_ofNat'];omega
  rw [this];omega
 .cases h
def u0a (w:World) (el:TypeId) (g o:Nat) (s:zw):Prop:= ∃cs,w.heap[g]? =some (.cells cs el (0,0))/\(s≠ []->o+s.length<=cs.size)/\ ∀j x,s[j]? =some x->cs[o+j]? =some (.int .u8 x.toNat)
theorem z5u {mem:CI} {next:Nat} {w:World} (eI:CH ρ mem next w) {v:CA} {u:Value} {s:zw} (h:TE mem v=some (s,true)) (hv:VRel ρ v u):
  (u=.slice none 0 0/\s=[])\/ ∃b l g o c el,UE v=some b/\ρ b=some l/\(Yi mem b).isSome =true/\l.blk=g/\u=.slice (some ⟨g,o,none⟩) s.length c/\s.length<=c/\(∀ab,Yi mem b=some ab->el=ab.ty)/\u0a w el g o s:=by
 unfold TE at h;split at h
 .simp only [Ae,Ad] at h;obtain ⟨rfl,_⟩:=h;cases hv;exact .inl ⟨rfl,rfl⟩
 .rename_i b off len cap;split at h
  .rename_i blk hm;obtain ⟨hno,h⟩:=Mp h;split at h
   .rename_i cs hc;simp only [Ae,Ad] at h;obtain ⟨rfl,fJ⟩:=h;obtain ⟨k1,k2,k3⟩:=Mb hc;cases hv with
    | sl _ _ _ _ l c hl _ eK=>
     obtain ⟨hty,hn,ht,_,cur,el,h1,h2,h3⟩:=(eI.blk b l blk hl hm).at hno;refine .inr ⟨b,l,l.blk,l.base+off,c,el,rfl,hl,by rw [hm];rfl,rfl,by simp [k2],by simpa [k2] using eK,fun ab e=>by rw [hm] at e;rw [<-Ag e];exact hty _ _ _ h1,cur,h1,?_,fun j x hx=> ?_⟩
     .intro hne;have:len≠0:=fun e=>hne (by rw [List.map_eq_nil_iff];exact BN (by rw [k2,e]));simp only [B3,k2];omega
     .simp only [BU,Ar] at hx;obtain ⟨y,hy,rfl⟩:=hx;have hj:j<cs.length:=(Bf.1 hy).1;obtain ⟨z,q1,q2⟩:=h3 (off+j) (by omega);have hyz:blk.cells[off+j]'(by omega)=y:=by
       have:cs[j]? =blk.cells[off+j]? :=by rw [k1,List.getElem?_take,AF (by omega),List.getElem?_drop]
       rw [this,At (by omega)] at hy;exact Ag hy
      rw [hyz] at q2;have hby:=As.1 fJ y (List.mem_of_getElem? hy);rw [AK,q1,x1w hby q2]
   .cases h
  .cases h
 .rename_i b sz off len cap;split at h
  .rename_i blk hm;split at h
   .rename_i A hA;simp only [Ae,Ad,Ac,Ao] at h;obtain ⟨rfl,hs1,hs2,eW,hok⟩:=h;obtain rfl:=Ai hs1;have hsz:=Ai hs2;have hok: ∀k,k<len-> ∃v,A.get (off+k)=[v]/\RY v=true:=v6e (fun h k hk=>by
     have:=As.1 h k (AL.2 hk);unfold v9k at this;split at this
     .rename_i v e;exact ⟨v,e,this⟩
     .cases this) hok
    have hlen0:(Tk len fun k=>A.get (off+k)).length =len:=(by simp [Tk]);cases hv with
    | slan=>exact .inl ⟨rfl,by simp [Tk]⟩
    | sla _ _ _ _ _ l c hl _ eK=>
     obtain ⟨hty,hn,ht,har,cur,el,h1,h2,h3⟩:=(eI.blk b l blk hl hm).rows hA;obtain ⟨a1,a2,a3⟩:=har A hA;have hrl:=Ym A.n a3;rw [<-a1,hsz,Nat.mul_one] at hrl;refine .inr ⟨b,l,l.blk,l.base+off*1,c,el,rfl,hl,by rw [hm];rfl,rfl,by rw [hlen0],by rw [hlen0];exact eK,fun ab e=>by rw [hm] at e;rw [<-Ag e];exact hty _ _ _ h1,cur,h1,?_,fun j x hx=> ?_⟩
     .intro _;rw [hlen0];omega
     .have hj:j<len:=by rw [<-hlen0];exact (Bf.1 hx).1
      obtain ⟨v0,e1,e2⟩:=hok j hj;obtain ⟨z,q1,q2⟩:=h3 (off+j) (by omega);have hg:blk.cells[off+j]? =some v0:=by
       have:=Vk A.n a3 (off+j) 0 (by omega) (by omega);rw [hsz] at this;rw [a1]
       simpa [e1] using this
      have hyz:blk.cells[off+j]'(by omega)=v0:=by rw [At (by omega)] at hg;exact Ag hg
      rw [hyz] at q2;have hx':x=TF v0:=by simp only [Tk,BU,List.getElem?_range hj,B2,Ae] at hx;rw [<-hx,e1];rfl
      rw [Nat.mul_one,AK,q1,x1w e2 q2,hx']
   .cases h
  .cases h
 .cases h
theorem v4o {w:World} {g o c:Nat} {el:TypeId} {s:zw} (h:u0a w el g o s):(Conv.bytesToString (.slice (some ⟨g,o,none⟩) s.length c)).run P w=.ok (.string ⟨s.toArray⟩) w:=by
 obtain ⟨cs,h1,h2,h3⟩:=h;have hl:(loadCells ⟨g,o,none⟩ s.length).run P w=.ok ((s.map fun x=>(x.toNat:Int)).map (Value.int .u8)).toArray w:=by
  have:=run_loadCells_list (P:=P) w ⟨g,o,none⟩ ((s.map fun x=>(x.toNat:Int)).map (Value.int .u8)) fun j v hv=>by simp only [BW,BU,Ar] at hv;obtain ⟨x,hx,rfl⟩:=hv;rw [Xf];have:=h3 j x hx;simp [World.cell?,h1,this]
  simpa using this
 rw [run_bytesToString w ⟨g,o,none⟩ s.length c _ hl]
 congr 2
 have: ∀(l:zw) (acc:ByteArray),(l.map fun x=>(x.toNat:Int)).foldl (fun r n=>r.push (UInt8.ofNat n.toNat)) acc=⟨acc.data++l.toArray⟩:=by
  intro l
  induction l with
  | nil=>intro acc;simp
  | cons x l ih=>intro acc;simp only [AT,List.foldl_cons,ih];simp [ByteArray.push]
 rw [this];simp
theorem x8i :VRel ρ (.tup []) undef:=.tup [] #[] rfl fun j h1 _=>by simp at h1
theorem y8w {floor:Nat} {st st':St} {t:TypeId} {x k v:CA} (h:RD P floor st t x k v=some st'):Xd floor st st'/\st'.env=st.env:=by
 unfold RD at h;split at h
 .obtain ⟨hf,h⟩:=Zi h;have hf:=Ak hf;split at h
  .rename_i hm _;obtain rfl:=Ag h;exact ⟨Xd.write st _ hf hm,rfl⟩
  .rename_i hm _;obtain rfl:=Ag h;exact ⟨Xd.write st _ hf hm,rfl⟩
  .cases h
 .cases h
theorem W1 {t:TypeId} {kd:Bool} (h:Sj P t=some kd): ∃k e,P.underlying t=some (.map k e)/\P.underlying k=some .string /\ ∀w,(zeroValue e).run P w=.ok (bif kd then .int .i64 0 else .bool false) w:=by
 unfold Sj at h;split at h
 .rename_i k e hu;refine ⟨k,e,hu,?_⟩;split at h
  .rename_i i h1 h2 h3;split at h
   .rename_i n hz;obtain ⟨hn,h⟩:=Zi h;obtain rfl:=Ag h;obtain rfl:n=0:=by simpa using hn
    exact ⟨h1,fun w=>by simp [zeroValue,run_typeInfo w h3,hz]⟩
   .cases h
  .rename_i i h1 h2 h3;split at h
   .rename_i b hz;cases b with
    | true=>cases h
    | false=>obtain rfl:=Ag h;exact ⟨h1,fun w=>by simp [zeroValue,run_typeInfo w h3,hz]⟩
   .cases h
  .cases h
 .cases h
theorem y0v {floor:Nat} {st st':St} {t:TypeId} {x k v:CA} (h:RD P floor st t x k v=some st') {w:World} (eI:CH ρ st.mem st.next w) {ux uk uv:Value} (hx:VRel ρ x ux) (hk:VRel ρ k uk) (hv:VRel ρ v uv):
  ∃w',(Instr.mapUpdate t ux uk uv).run P w=.ok () w'/\Dg ρ floor st st' (.tup []) w ρ undef w':=by
 unfold RD at h;split at h
 .rename_i b ks;obtain ⟨hf,h⟩:=Zi h;have hf:=Ak hf;cases hx with
  | mapr _ l hl=>
  cases hk;split at h
  .rename_i ml ty n hkd hm _;obtain rfl:=Ag h;cases hv;obtain ⟨kt,et,hu,hk,_⟩:=W1 hkd;obtain ⟨_,es,ck,ho,hes⟩:=eI.objAt hl hm;obtain ⟨es',ck',eO,hes'⟩:=z7a (P:=P) (fun n:Int=>.int .i64 n) hu hk ho hes ks n;exact ⟨_,eO,x8i,eI.setObj hl hm rfl rfl _ ⟨rfl,es',ck',rfl,hes'⟩,Ev.ofObj eI hl hf _ _⟩
  .rename_i ml ty e hkd hm _;obtain rfl:=Ag h;cases hv;obtain ⟨kt,et,hu,hk,_⟩:=W1 hkd;obtain ⟨_,es,ck,ho,hes⟩:=eI.objAt hl hm;obtain ⟨es',ck',eO,hes'⟩:=z7a (P:=P) (fun n:Bool=>.bool n) hu hk ho hes ks e;exact ⟨_,eO,x8i,eI.setObj hl hm rfl rfl _ ⟨rfl,es',ck',rfl,hes'⟩,Ev.ofObj eI hl hf _ _⟩
  .cases h
 .cases h
theorem Xd.kill {floor:Nat} (st:St) {c:Nat} (hf:floor<=c):Xd floor st (st.withMem (Wv st.mem c none)) where
 nxt:=Aq _
 bd h k hk:=by
  show Yi (Wv st.mem c none) k=none;rw [Vc];split
  .rfl
  .exact h k hk
 low _ k hk:=Zw _ _ (by omega)
 ob h:=h
theorem QE {floor:Nat} {st st':St} {op:Op} {v:CA} {b:Bool} (h:aX P floor st op=some (v,b,st')):Xd floor st st'/\st'.env=st.env:=by
 have same: ∀{v0:CA} {b0:Bool},some (v0,b0,st)=some (v,b,st')->Xd floor st st'/\st'.env=st.env:=fun e=>by simp only [Ae,Ad] at e;obtain ⟨_,_,rfl⟩:=e;exact ⟨Xd.refl _ _,rfl⟩
 have fresh: ∀{v0:CA} {b0:Bool} {cs:zy} {ty:TypeId},some (v0,b0,Cy st cs ty)=some (v,b,st')->Xd floor st st'/\st'.env=st.env:=fun e=>by simp only [Ae,Ad] at e;obtain ⟨_,_,rfl⟩:=e;exact ⟨Xd.new st _ _,rfl⟩
 unfold aX at h;split at h
 .split at h
  .exact fresh h
  .cases h
 .split at h
  .split at h
   .exact same h
   .exact same h
   .cases h
  .cases h
 .simp only [Ar,Ad] at h;obtain ⟨st1,h1,_,_,rfl⟩:=h;exact y8w h1
 .simp only [Ar,Ad] at h;obtain ⟨st1,h1,_,_,rfl⟩:=h;exact y8w h1
 .split at h
  .exact fresh h
  .cases h
 .split at h
  .obtain ⟨hf,h⟩:=Zi h;split at h
   .rename_i c s pos ty hm;split at h;rename_i e st1 ht;obtain ⟨t1,t2,t3,t4⟩:=SY ht;simp only [Ae,Ad] at h;obtain ⟨_,_,rfl⟩:=h;have hi:=Xd.same (floor:=floor) t2 t3 fun ho=>(t4 ho).2;cases e with
    | false=>exact ⟨hi,t1⟩
    | true=>exact ⟨hi.trans (Xd.write st1 _ (Ak hf) (by rw [t2];exact hm)),t1⟩
   .cases h
  .cases h
 .obtain ⟨_,h⟩:=Zi h;split at h
  .split at h
   .exact fresh h
   .cases h
  .cases h
 .split at h
  .split at h
   .exact same h
   .cases h
  .cases h
 .split at h
  .obtain ⟨hf,h⟩:=Zi h;simp only [Ac] at hf;split at h
   .rename_i hm _;obtain ⟨_,h⟩:=Zi h;simp only [Ae,Ad] at h;obtain ⟨_,_,rfl⟩:=h;exact ⟨Xd.write st _ (Ak hf.1) hm,rfl⟩
   .cases h
  .cases h
 .split at h
  .split at h
   .split at h
    .exact same h
    .cases h
   .cases h
  .cases h
 .split at h
  .split at h
   .exact same h
   .exact same h
   .cases h
  .cases h
 .split at h
  .obtain ⟨_,h⟩:=Zi h;split at h
   .obtain ⟨_,h⟩:=Zi h;split at h
    .split at h
     .exact same h
     .rename_i c _;obtain ⟨hc,h⟩:=Zi h;simp only [Ac] at hc;simp only [Ae,Ad] at h;obtain ⟨_,_,rfl⟩:=h;have hc1:=Ak hc.1;cases hmc:Yi st.mem c with
      | some ab=>exact ⟨Xd.write st _ hc1 hmc,rfl⟩
      | none=>exact ⟨Xd.kill st hc1,rfl⟩
    .cases h
   .cases h
  .cases h
 .cases h
theorem CH.kept {mem:CI} {next:Nat} {w w':World} (h:CH ρ mem next w) (hs:w.heap.size<=w'.heap.size) {p:Nat->Prop} (hp: ∀b l,ρ b=some l->(Yi mem b).isSome =true->p l.blk) (hz: ∀k o,ρ.fz k=some o->p k)
  (hk: ∀k o,w.heap[k]? =some o->p k->w'.heap[k]? =some o):CH ρ mem next w':=
 ⟨h.dom,h.inj,fun b l ab e hm=>by
  have q:=h.blk b l ab e hm;obtain ⟨o,ho⟩:=q.some;exact q.world (CF.le_refl _) (by rw [ho];exact hk _ _ ho (hp b l e (by rw [hm];rfl))),fun k o e=>hk k o (h.old k o e) (hz k o e),h.sep,fun b l e=>AZ (h.real b l e) hs,h.bd,h.ldom⟩
theorem u6m (hN:EL P) {o:Oper} {floor:Nat} {st st':St} {v:CA} (h:aX P floor st o.op=some (v,true,st')) (hob:st'.ob=true) {a:Act} (hr:Qz ρ st.eval a.eval o.op) {w:World} (eI:CH ρ st.mem st.next w):
  O6 P o a w (Dg ρ floor st st' v w):=by
 obtain ⟨dst,op,type,pos,after,guard⟩:=o;simp only at h hr;unfold aX at h;split at h
 ·-- makeMap
  rename_i t;split at h
  .rename_i kd hkd;simp only [Ae,Ad] at h;obtain ⟨rfl,_,rfl⟩:=h;refine .inl ⟨_,.map (some w.heap.size),_,?_,z7w eI floor _ [] t (.map #[] 0) ?_ fun ρ' hρ'=>.mapr _ _ hρ'⟩
   .have hmk:(Instr.makeMap t none).run P w=.ok (.map (some w.heap.size)) (w.alloc (.map #[] 0)):=rfl;simp [execOp,hmk]
   .cases kd
    .exact ⟨rfl,_,_,rfl,rfl⟩
    .exact ⟨rfl,_,_,rfl,rfl⟩
  .cases h
 ·-- lookup
  rename_i t x i co;have hx:=hr x (by simp [Op.operands]);have hi:=hr i (by simp [Op.operands]);split at h
  .rename_i b ks ex ei;rw [ex] at hx;rw [ei] at hi;generalize hux:a.eval x=ux at hx;generalize hui:a.eval i=ui at hi;cases hx with
   | mapr _ l hl=>
   cases hi;split at h
   .rename_i ml ty hkd hm;obtain ⟨kt,et,hu,hk,hz⟩:=W1 hkd;simp only [Ae,Ad] at h;obtain ⟨rfl,_,rfl⟩:=h;obtain ⟨_,es,ck,ho,hes⟩:=eI.objAt hl hm;have eO:=z7b (P:=P) (fun n:Int=>.int .i64 n) 0 hu hk (hz w) ho hes ks co;refine .inl ⟨ρ,_,w,by simp only [execOp,hux,hui];simp only [Sem.run_bind,eO,Result.andThen];rfl,?_,eI,Ev.refl _ _ _ _ _ eI.dom⟩;cases co
    .exact .int _ _
    .exact .tup _ _ rfl fun j h1 h2=>by
      match j with
      | 0=>exact .int _ _
      | 1=>exact .bool _
      | j+2=>simp at h1;omega
   .rename_i ml ty hkd hm;obtain ⟨kt,et,hu,hk,hz⟩:=W1 hkd;simp only [Ae,Ad] at h;obtain ⟨rfl,_,rfl⟩:=h;obtain ⟨_,es,ck,ho,hes⟩:=eI.objAt hl hm;have eO:=z7b (P:=P) (fun n:Bool=>.bool n) false hu hk (hz w) ho hes ks co;refine .inl ⟨ρ,_,w,by simp only [execOp,hux,hui];simp only [Sem.run_bind,eO,Result.andThen];rfl,?_,eI,Ev.refl _ _ _ _ _ eI.dom⟩;cases co
    .exact .bool _
    .exact .tup _ _ rfl fun j h1 h2=>by
      match j with
      | 0=>exact .bool _
      | 1=>exact .bool _
      | j+2=>simp at h1;omega
   .cases h
  .cases h
 ·-- mapUpdate
  rename_i t m k x;simp only [Ar,Ad] at h;obtain ⟨st1,h1,rfl,_,rfl⟩:=h;obtain ⟨w',eO,hp⟩:=y0v h1 eI (hr m (by simp [Op.operands])) (hr k (by simp [Op.operands])) (hr x (by simp [Op.operands]));exact .inr (.inl ⟨ρ,w',by simp [execOp,eO],hp⟩)
 ·-- insert
  rename_i t m k x;simp only [Ar,Ad] at h;obtain ⟨st1,h1,rfl,_,rfl⟩:=h;obtain ⟨w',eO,hp⟩:=y0v h1 eI (hr m (by simp [Op.operands])) (hr k (by simp [Op.operands])) (hr x (by simp [Op.operands]));exact .inr (.inl ⟨ρ,w',by simp [execOp,eO],hp⟩)
 ·-- range
  rename_i t x;have hx:=hr x (by simp [Op.operands]);split at h
  .rename_i s hu ex;rw [ex] at hx;generalize hux:a.eval x=ux at hx;cases hx;simp only [Ae,Ad] at h;obtain ⟨rfl,_,rfl⟩:=h;refine .inl ⟨_,.pointer (some ⟨w.heap.size,0,none⟩),_,?_,z7w eI floor (.it s 0) [] t (.stringIter ⟨s.toArray⟩ 0) ⟨rfl,rfl⟩ fun ρ' hρ'=>.ptr _ 0 _ hρ'⟩;simp [execOp,hux,Instr.range,run_underlying hu,Result.andThen]
  .cases h
 ·-- next
  rename_i x;have hx:=hr x (by simp [Op.operands]);split at h
  .rename_i b ex;rw [ex] at hx;generalize hux:a.eval x=ux at hx;obtain ⟨hf,h⟩:=Zi h;have hf:=Ak hf;split at h
   .rename_i s pos ty hm;split at h;rename_i e st1 ht;obtain ⟨t1,t2,t3,t4⟩:=SY ht;simp only [Ae,Ad] at h;obtain ⟨rfl,_,rfl⟩:=h;cases hx with
    | ptr _ _ l hl=>
    have fX:=eI.objBase hl hm;obtain ⟨_,ho⟩:=eI.objAt hl hm;have hsz:(⟨s.toArray⟩:ByteArray).size =s.length:=(by simp [<-ByteArray.size_data]);rw [fX,Ah] at hux;cases e with
    | true=>
     obtain ⟨hlt,_⟩:=t4 hob;have hlt:=Ay hlt.symm;refine .inl ⟨ρ,.tuple #[.bool true,goInt pos,.int .i32 (Utf8.decode ⟨s.toArray⟩ pos).1],w.putObj l.blk (.stringIter ⟨s.toArray⟩ (pos+GC s pos)),?_,?_,?_,?_⟩
     .simp [execOp,hux,Instr.next,w6v ho,u1g ho,hsz,hlt,GC,Result.andThen]
     .exact .tup _ _ rfl fun j h1 h2=>by
       match j with
       | 0=>exact .bool _
       | 1=>exact .int _ _
       | 2=>exact .int _ _
       | j+3=>simp at h1;omega
     .show CH ρ (Wv st1.mem b _) st1.next _
      rw [t2,t3];exact eI.setObj hl hm rfl rfl _ ⟨rfl,rfl⟩
     .show Ev ρ ρ floor st.mem st.next (Wv st1.mem b _) st1.next _ _
      rw [t2,t3];exact Ev.ofObj eI hl hf _ _
    | false=>
     obtain ⟨hlt,_⟩:=t4 hob;have hlt: ¬pos<s.length:=BF hlt.symm;refine .inl ⟨ρ,.tuple #[.bool false],w,?_,?_,?_,?_⟩
     .simp [execOp,hux,Instr.next,w6v ho,hsz,hlt,Result.andThen]
     .exact .tup _ _ rfl fun j h1 h2=>by
       match j with
       | 0=>exact .bool _
       | j+1=>simp at h1
     .show CH ρ st1.mem st1.next w
      rw [t2,t3];exact eI
     .show Ev ρ ρ floor st.mem st.next st1.mem st1.next w w
      rw [t2,t3];exact Ev.refl _ _ _ _ _ eI.dom
   .cases h
  .cases h
 ·-- alloc
  rename_i t;obtain ⟨ht,h⟩:=Zi h;split at h
  .rename_i i hi;split at h
   .rename_i hz;simp only [Ae,Ad] at h;obtain ⟨rfl,_,rfl⟩:=h;have hzr:(zeroValue t).run P w=.ok (.agg #[.pointer none,.slice none 0 0]) w:=(by simp [zeroValue,run_typeInfo w hi,hz]);refine .inl ⟨_,.pointer (some ⟨w.heap.size,0,none⟩),_,?_,z7w eI floor .bld [.nils] t (.cells #[.pointer none,.slice none 0 0] t (0,0)) ⟨.nils,.slice none 0 0,none,rfl,rfl,.nils,.inl rfl⟩ fun ρ' hρ'=>.ptr _ 0 _ hρ'⟩;simp [execOp,Instr.alloc,newVar,newRow,hzr,Value.cells]
   .cases h
  .cases h
 ·-- load
  rename_i t x;have hx:=hr x (by simp [Op.operands]);split at h
  .rename_i b ex;rw [ex] at hx;generalize hux:a.eval x=ux at hx;split at h
   .rename_i buf ty i hm hag hi;simp only [Ae,Ad] at h;obtain ⟨rfl,_,rfl⟩:=h;cases hx with
    | ptr _ _ l hl=>
    have fX:=eI.objBase hl hm;obtain ⟨_,bv,p,e1,ho,hbv,_⟩:=eI.objAt hl hm;obtain rfl:=(List.cons.inj e1).1;rw [fX,Ah] at hux;refine .inl ⟨ρ,bv,w,?_,hbv,eI,Ev.refl _ _ _ _ _ eI.dom⟩;have hc:w.cell? ⟨l.blk,1,none⟩=some bv:=(by simp [World.cell?,ho]);simp [execOp,hux,Instr.loadAt,Instr.sureAddr,loadVar,S1 hag,hc]
   .cases h
  .cases h
 ·-- store
  rename_i t ad x;have hx:=hr ad (by simp [Op.operands]);have hv:=hr x (by simp [Op.operands]);split at h
  .rename_i b ex;rw [ex] at hx;generalize hux:a.eval ad=ux at hx;obtain ⟨hf,h⟩:=Zi h;simp only [Ac] at hf;obtain ⟨hf,hsc⟩:=hf;have hf:=Ak hf;split at h
   .rename_i buf ty i hm hi;obtain ⟨hsz,h⟩:=Zi h;have hsz:=Ai hsz;simp only [Ae,Ad] at h;obtain ⟨rfl,_,rfl⟩:=h;cases hx with
    | ptr _ _ l hl=>
    have fX:=eI.objBase hl hm;obtain ⟨_,bv,p,e1,ho,hbv,hp⟩:=eI.objAt hl hm;rw [fX,Ah] at hux;refine .inr (.inl ⟨ρ,w.putObj l.blk (.cells #[.pointer p,a.eval x] ty (0,0)),?_,x8i,eI.setObj (o':=.bld) (r':=[st.eval x]) hl hm rfl rfl _ ⟨_,_,p,rfl,rfl,hv,hp⟩,Ev.ofObj eI hl hf _ _⟩);have fC:=hv.oneCell hsc;have hcs:(a.eval x).cells = #[a.eval x]:=by
     cases hz:a.eval x <;> first | rfl | (rw [hz] at fC;cases fC)
    have eO:=run_storeCells_at P l.blk 1 ty [a.eval x] 0 _ w ho (by simp) (by simpa using fC);rw [x2o ho] at eO;simp_all [execOp,Instr.storeAt,Instr.sureAddr,storeVar,Yz]
   .cases h
  .cases h
 ·-- convert
  rename_i src dst x;have hx:=hr x (by simp [Op.operands]);split at h
  .rename_i e hs hd;split at h
   .rename_i he;split at h
    .rename_i s o hby;simp only [Ae,Ad] at h;obtain ⟨rfl,rfl,rfl⟩:=h;refine .inl ⟨ρ,.string ⟨s.toArray⟩,w,?_,.str _,eI,Ev.refl _ _ _ _ _ eI.dom⟩;rcases z5u eI hby hx with ⟨e1,rfl⟩ | ⟨_,_,g,o,c,_,_,_,_,_,e1,_,_,Dz⟩
     .simp only [execOp,e1,run_convert_bytes_string w src dst e none 0 0 hs he hd];simp [run_convert_bytes_string w src dst e none 0 0 hs he hd,Conv.bytesToString];rfl
     .simp [execOp,e1,run_convert_bytes_string w src dst e _ _ _ hs he hd,v4o Dz]
    .cases h
   .cases h
  .cases h
 ·-- e == nil
  rename_i bop t x y yt;have hx:=hr x (by simp [Op.operands]);split at h
  .rename_i e m ex hu;rw [ex] at hx;generalize hux:a.eval x=ux at hx;have hy:a.eval (.const .nilIface)=.nilIface :=rfl;split at h
   .simp only [Ae,Ad] at h;obtain ⟨rfl,_,rfl⟩:=h;refine .inl ⟨ρ,.bool e,w,?_,.bool _,eI,Ev.refl _ _ _ _ _ eI.dom⟩;cases hx <;> simp [execOp,hux,hy,eqGuard,binOp,run_underlying hu,v8s hu]
   .simp only [Ae,Ad] at h;obtain ⟨rfl,_,rfl⟩:=h;refine .inl ⟨ρ,.bool !e,w,?_,.bool _,eI,Ev.refl _ _ _ _ _ eI.dom⟩;cases hx <;> simp [execOp,hux,hy,eqGuard,binOp,run_underlying hu,v8s hu]
   .cases h
  .cases h
 ·-- String
  rename_i f args argTypes;have hf:=hr f (by simp [Op.operands,Call.operands]);have eN:Vf (VRel ρ) (args.toList.map st.eval) (args.map a.eval).toList :=by rw [Bx];exact Vf.maps _ _ _ fun x hx=>hr x (by grind [Op.operands,Call.operands])
  split at h
  .rename_i g b eg ea;rw [eg] at hf;rw [ea] at eN;obtain ⟨hg,h'⟩:=Zi h;clear h;simp only [Ac] at hg;obtain ⟨hg,hbody⟩:=hg;obtain rfl:=Ai hg;obtain ⟨fn,hfn,hb⟩: ∃fn,P.funcs[Of]? =some fn/\fn.body.isSome=true:=by
    cases e:P.funcs[Of]? with
    | none=>rw [e] at hbody;cases hbody
    | some fn=>rw [e] at hbody;exact ⟨fn,rfl,hbody⟩
   generalize fP:args.map a.eval=vals at eN;obtain ⟨vals⟩:=vals;generalize hw:a.eval f=u at hf;cases hf with
   | fn _ _ cvs hl hh=>
   obtain rfl:cvs= #[]:=Array.eq_empty_of_size_eq_zero (by rw [<-hl];rfl);cases eN with
   | cons h1 h2=>
   cases h2;cases h1 with
   | ptr _ _ l hl'=>
   split at h'
   .rename_i buf ty hm;obtain ⟨hty,h⟩:=Zi h';clear h';obtain rfl:=Ai hty;split at h
    .rename_i s o hby0;have fX:=eI.objBase hl' hm;obtain ⟨_,bv,p,e1,ho,hbv,_⟩:=eI.objAt hl' hm;obtain rfl:=(List.cons.inj e1).1;have hexec:(execOp a.eval ⟨dst,.call ⟨.value f,args,argTypes⟩,type,pos,after,guard⟩).run P w=.ok (.enter Of #[.pointer (some ⟨l.blk,0,none⟩)]) w:=by have eO:=RA hN hfn hb #[.pointer (some ⟨l.blk,0,none⟩)] w;rw [fX] at fP;simp [execOp,resolve,hw,Deferred.ofValue,fP,invoke,eO]
     refine .inr (.inr ⟨Of,_,hexec,?_⟩);have hstr:=fun eK=>hN.2 (by rw [hfn];rfl) l.blk _ bv w s eK ho;split at h
     .rename_i hrf;simp only [Ae,Ad,Ac,Ao] at h;obtain ⟨rfl,⟨eK,rfl⟩,rfl⟩:=h;have hby:=hby0;have hstr:=hstr eK;rcases z5u eI hby hbv with ⟨k1,k2⟩ | ⟨b',_,_,_,_,_,k1,_⟩
      .refine (hstr (.inl ⟨k1,k2⟩)).mono fun e w' ⟨q1,q2,q3,q4,q5,q6⟩=>⟨ρ,_,q1,.str _,?_,?_⟩
       .exact eI.kept q2 (p:=fun _=>True) (fun _ _ _ _=>trivial) (fun _ _ _=>trivial) fun k o hk _=>q3 k o hk fun g o n c e=>by rw [k1] at e;cases e
       .exact ⟨CF.le_refl _,fun _ _=>rfl,Aq _,fun _ _ _ _ _ h=>h,fun k o hk _=>q3 k o hk fun g o n c e=>(by rw [k1] at e;cases e),fun k m hk e=>(by have:=eI.dom k m e;omega),q2,q4,q5,q6,fun _ _=>rfl⟩
      .rw [hrf] at k1;cases k1
     .rename_i c hrf;obtain ⟨hc,h⟩:=Zi h;simp only [Ac] at hc;obtain ⟨hc1,hc2⟩:=hc;have hc1:=Ak hc1;simp only [Ae,Ad,Ac,Ao] at h;obtain ⟨rfl,⟨eK,rfl⟩,rfl⟩:=h;have hby:=hby0;have hstr:=hstr eK;rcases z5u eI hby hbv with ⟨k1,k2⟩ | ⟨b',lc,g,o,cc,el,k1,k2,k3,k4,k5,k6,k7,cur,k8,k9,k10⟩
      .have hkill:=eI.kill c;refine (hstr (.inl ⟨k1,k2⟩)).mono fun e w' ⟨q1,q2,q3,q4,q5,q6⟩=>⟨ρ,_,q1,.str _,?_,?_⟩
       .exact hkill.kept q2 (p:=fun _=>True) (fun _ _ _ _=>trivial) (fun _ _ _=>trivial) fun k o hk _=>q3 k o hk fun g o n c e=>by rw [k1] at e;cases e
       .refine ⟨CF.le_refl _,fun _ _=>rfl,Aq _,fun k hk e cs ty hm'=> ?_,fun k o hk _=>q3 k o hk fun g o n c e=>(by rw [k1] at e;cases e),fun k m hk e=>(by have:=eI.dom k m e;omega),q2,q4,q5,q6,fun _ _=>rfl⟩;show Yi (Wv st.mem c none) k=_;rw [Zw]
        .exact hm'
        .intro e';subst e';rw [k1] at hbv;unfold TE at hby;cases hbv <;> first | (cases hrf;done) | skip
         all_goals (have hrf:=Ag hrf;subst hrf;simp [hm'] at hby)
      .rw [hrf] at k1;obtain rfl:=Ag k1;subst k4;obtain ⟨ab,hab⟩:=BX.1 k3;have hel:=k7 ab hab;have hbt:ab.ty=Pz:=by unfold J3 at hc2;rw [hab] at hc2;exact Ai hc2
       rw [hel,hbt] at k8;have hkill:=eI.kill c;have hne: ∀k,lc.blk≠k-> ∀g o n c,bv=.slice (some ⟨g,o,none⟩) n c->g≠k:=fun k hk g o n c e=>by rw [k5] at e;cases e;exact hk
       refine (hstr (.inr ⟨lc.blk,o,cc,cur,k5,k6,k8,k9,k10⟩)).mono fun e w' ⟨q1,q2,q3,q4,q5,q6⟩=>⟨ρ,_,q1,.str _,?_,?_⟩
       .refine hkill.kept q2 (p:=fun k=>lc.blk≠k) (fun b2 l2 e2 hs2 heq=> ?_) (fun k o hk heq=> ?_) fun k o hk hp=>q3 k o hk (hne k hp)
        .by_cases hbc:b2=c
         .rw [hbc,Yw] at hs2;cases hs2
         .rw [Zw _ _ hbc] at hs2;exact hbc (eI.inj b2 c l2 lc e2 k2 heq.symm hs2 k3)
        .have:=eI.sep c lc k2 k3;rw [heq,hk] at this;cases this
       .refine ⟨CF.le_refl _,fun _ _=>rfl,Aq _,fun k hk e cs ty hm'=> ?_,fun k o hk hfr=>q3 k o hk (hne k (hfr c lc k2 hc1)),fun k m hk e=>(by have:=eI.dom k m e;omega),q2,q4,q5,q6,fun _ _=>rfl⟩;show Yi (Wv st.mem c none) k=_;rw [Zw]
        .exact hm'
        .intro e';rw [e',k2] at e;cases e
    .cases h
   .cases h'
  .cases h
 .cases h
structure j9s (P:Program) (ops:Array Oper) (cx:CN) (o:Oper) (st st':St):Prop where
 inv:Xd cx.floor st st'
 slot: ∀d,o.dst=some d->d<cx.n
 other:st'.ob=true-> ∀t,o.dst≠some t->st'.tmp t=st.tmp t
 does:st'.ob=true-> ∀(ρ:CF) (a:Act) (w:World),a.tmps.size=cx.n->(∀d,Uo ops o=some d->VRel ρ (st.tmp d) (a.tmps.getD d undef))->Qz ρ st.eval a.eval o.op->CH ρ st.mem st.next w->
  ∀(K:Act->World->Prop) (Q:Exit->Act->World->Prop),(∀ρ' u w',(∀d,o.dst=some d->VRel ρ' (st'.tmp d) u)->CH ρ' st'.mem st'.next w'->Ev ρ ρ' cx.floor st.mem st.next st'.mem st'.next w w'->K (a.put o.dst u) w')->
   if Region.wanted o (yielded ops a.tmps) then o.wp P a w K Q else K (a.put o.dst undef) w
theorem j9t.two {S:CC} {ops:Array Oper} {cx:CN} {x:Bool×Oper} {st st':St} (s:j9t S P ops cx x st st'):j9s P ops cx x.2 st st':=
 ⟨s.inv,s.slot,s.other,fun ho ρ a w h1 h2 h3 h4 K Q hK=>s.does ho ρ a w st.eval h1 (fun _ _=>rfl) h2 h3 h4 K Q fun ρ' u w' q1 q2 q3 _=>hK ρ' u w' q1 q2 q3⟩
theorem v3l (hN:EL P) {ops:Array Oper} {cx:CN} {o:Oper} {st st1 st2 st3 st':St} {v:CA} {b:Bool} (hw:GJ ops o cx st=some (true,st1)) (hx:aX P cx.floor st1 o.op=some (v,b,st2)) (how:st2.owe cx b=some st3) (hp:st3.put cx o.dst v=some st'):j9s P ops cx o st st':=by
 obtain ⟨w1,w2,w3⟩:=Wd hw;obtain ⟨gC,eP⟩:=QE hx;obtain ⟨e1,e2,e3,e4⟩:=Wu how;obtain ⟨p1,p2,p3,p4⟩:=Vz hp;have fW: ∀d,o.dst=some d->st'.tmp d=v:=fun d hd=>by
  rcases p4 with ⟨e,_⟩ | ⟨d',e,_,he⟩
  .rw [hd] at e;cases e
  .rw [hd] at e;obtain rfl:=Ag e;show T.get .undef st'.env d=v;rw [he,T.get_set,AF rfl]
 have hi1:Xd cx.floor st st1:=Xd.same w1 w2 fun ho=>(w3 ho).1;have hi2:Xd cx.floor st2 st':=Xd.same (p1.trans e2) (p2.trans e3) fun ho=>(e4 (by rw [<-p3];exact ho)).2;have hob:st'.ob=true->b=true/\st2.ob=true/\st1.ob=true:=fun ho=>by obtain ⟨h1,h2⟩:=e4 (by rw [<-p3];exact ho);exact ⟨h1,h2,gC.ob h2⟩
 refine ⟨(hi1.trans gC).trans hi2,fun d hd=> ?_,fun ho t ht=> ?_,fun ho ρ a w hsz hgr hr eI K Q hK=> ?_⟩
 .rcases p4 with ⟨e,_⟩ | ⟨d',e,hlt,_⟩
  .rw [hd] at e;cases e
  .rw [hd] at e;obtain rfl:=Ag e;exact hlt
 .obtain ⟨_,_,ho1⟩:=hob ho;rw [<-(w3 ho1).2 t];show T.get .undef st'.env t=T.get .undef st1.env t;rcases p4 with ⟨_,he⟩ | ⟨d',e,_,he⟩
  .rw [he,e1,eP]
  .rw [he,T.get_set,Az (fun h=>ht (by rw [e,h])),e1,eP]
 .obtain ⟨rfl,ho2,ho1⟩:=hob ho;have eX:=(w3 ho1).2;have fZ: ∀y,st1.eval y=st.eval y:=fun y=>by cases y <;> first | rfl | exact eX _
  rw [Up hw ho1 hsz hgr,AF rfl];have hr':Qz ρ st1.eval a.eval o.op:=fun y hy=>by rw [fZ y];exact hr y hy
  refine (u6m hN hx ho2 hr' (by rw [w1,w2];exact eI)).wp fun ρ' u w' hpost=> ?_;have he:=hpost.ev;rw [w1,w2] at he;refine hK ρ' u w' (fun d hd=>by rw [fW d hd];exact hpost.val) (by rw [p1,p2,e2,e3];exact hpost.rel) (by rw [p1,p2,e2,e3];exact he)
end
section
variable {P:Program}
theorem w8d {S:CC} {Rc:CK} (hN:EL P) (hS:Zu P S) (hCI:Et Rc) (hC:Gd P Rc) {fl:Nat} {cx:CN} {ops:Array Oper} {i:Nat} {o:Oper} {l:List Oper} {todo:List Item} {rnd:Option Nat} {rs:List ResultVar} {st:St} {cs:List Cd} {lps:CO} {C':CJ}
  (hfl:Fl fl ⟨cx,some (ops,i,o::l),todo,rnd,rs,st,cs,lps⟩) (h:v3m P S Rc cx ops i o l todo rnd rs st cs lps=some C'):EW P fl ⟨cx,some (ops,i,o::l),todo,rnd,rs,st,cs,lps⟩ C':=by
 have plain2: ∀st2,j9s P ops cx o st st2->EW P fl ⟨cx,some (ops,i,o::l),todo,rnd,rs,st,cs,lps⟩ ⟨cx,some (ops,i+1,l),todo,rnd,rs,st2,cs,lps⟩:=by
  intro st2 s1;have e:=hfl.cx;simp only at e;refine ⟨⟨e,hfl.cs,AI hfl.le s1.inv.nxt⟩,by rw [<-e];exact s1.inv,fun ho m0 n0 ρ0 w0 ρ b a k css w ma mb hs he cs0=> ?_⟩;obtain ⟨eP,hdf,htd,⟨hro,fO⟩,fA⟩:=hs.top;simp only at eP hdf htd hro fA;obtain ⟨ho_i,hl',hdrop⟩:=x9z hro;have key:=s1.does ho ρ a w eP.size (fun d _=>eP.get d) (fun y _=>eP.eval y) hs.rel
   (fun a' w'=> ∃ρ',a'.defers=a.defers/\Vx ρ' st2.env cx.n a'.tmps/\CH ρ' st2.mem st2.next w'/\Ev ρ ρ' cx.floor st.mem st.next st2.mem st2.next w w') (fun e _ _=>e=.normal) (fun ρ' u w' fB fH hev=>by
    refine ⟨ρ',Act.put_defers' _ _ _,?_,fH,hev⟩;cases hdst:o.dst with
    | none=>exact ((eP.mono hev.ext).congr fun t=>s1.other ho t (by grind))
    | some d=>
     refine ((eP.mono hev.ext).put (fB d hdst) (.inr ⟨d,rfl,s1.slot d hdst,rfl⟩)).congr fun t=> ?_;rw [T.get_set];split
     .rename_i e;subst e;rfl
     .rename_i e;exact s1.other ho t (by grind))
  obtain ⟨a',w',⟨ρ',hd',he',hr',hev⟩,fE⟩:=x3m (b:=b) (k:=k) (cs:=css++cs0) (rest:=(List.range ops.size).drop (i+1)) (fun e a w h=>h) ho_i (W2 fO ho_i) key;refine ⟨ρ',b,a',k,css,w',ma,mb,by rw [Va,hdrop];exact fE,⟨⟨he',by grind,htd.mono fun _ _=>Es.mono hev.ext,⟨hl',fO⟩,?_⟩,hs.lv,hs.rest.ev hev,hr'⟩,he.trans (by grind),rfl,hev.size⟩;exact ((⟨eP,hdf,htd,⟨hro,fO⟩,fA⟩:Fr ρ cx (some (ops,i,o::l)) todo rnd st.env b a k ma).mono hev.ext).rnd
 have hcx:cx.floor<=st.next:=by have:=hfl.le;have e:=hfl.cx;grind
 have plain: ∀st2,H3 P S Rc ops cx (false,o) st=some st2->EW P fl ⟨cx,some (ops,i,o::l),todo,rnd,rs,st,cs,lps⟩ ⟨cx,some (ops,i+1,l),todo,rnd,rs,st2,cs,lps⟩:=fun st2 h1=>plain2 st2 (x0o hN hS hCI hC hcx h1).two;unfold v3m at h;split at h
 .rename_i st1 hw;split at h
  ·-- an operation that only such a region has
   rename_i v b st2 hx;split at h
   .rename_i st3 how;split at h
    .rename_i st4 hp;obtain rfl:=Ag h;exact plain2 st4 (v3l hN hw hx how hp)
    .cases h
   .cases h
  rename_i hx;split at h
  ·-- a function is entered
   rename_i g args fK;obtain ⟨w1,w2,w3⟩:=WN (ρ:=⟨fun _=>none,fun _=>none,fun _=>none⟩) hw;have hCeq: ∃fn body,P.funcs[g]? =some fn/\fn.body=some body/\C'=⟨⟨Nat.max fn.ntmps args.length,cx.floor,cx.sym⟩,none,[.code body],none,fn.results.toList,st1.withEnv (FO args 0 .leaf),⟨cx,some (ops,i,o::l),todo,rnd,rs,st1.env⟩::cs,lps⟩:=by
    grind [RT]
   obtain ⟨fn,body,hfn,hb,hCe⟩:=hCeq;have hmem:C'.st.mem=st.mem:=by rw [hCe];exact w1
   have hnext:C'.st.next=st.next:=by rw [hCe];exact w2
   refine ⟨by rw [hCe];exact hfl.enter (B6 w2.symm),Xd.same hmem hnext fun ho=>(w3 (by rw [hCe] at ho;exact ho)).1,fun ho m0 n0 ρ0 w0 ρ b a k css w ma mb hs he cs0=> ?_⟩;have ho1:st1.ob=true:=by rw [hCe] at ho;exact ho
   obtain ⟨eP,hdf,htd,⟨hro,fO⟩,fA⟩:=hs.top;simp only at eP hdf htd hro fA;obtain ⟨ho_i,hl',hdrop⟩:=x9z hro;obtain ⟨_,_,w3'⟩:=WN (ρ:=ρ) hw;obtain ⟨gN,hwt⟩:=(w3' ho1).2 eP;have hexec: ∃vals,(execOp a.eval o).run P w=.ok (.enter g vals) w/\Vf (VRel ρ) args vals.toList:=by
    obtain ⟨dst,op,type,pos,after,guard⟩:=o;simp only at fK ⊢;unfold callee at fK;split at fK
    .rename_i f cargs argTypes;split at fK
     .rename_i g' caps hg;split at fK
      .cases fK
      .simp only [Ae,Sum.inl.injEq,Ad] at fK;obtain ⟨rfl,rfl⟩:=fK;have hf:=gN.eval f;rw [hg] at hf;generalize hw':a.eval f=u at hf;cases hf with
       | fn _ _ cvs hl hh=>
        have:=RA hN hfn (by rw [hb];rfl) (cargs.map a.eval++cvs) w
        grind [execOp,resolve,Deferred.ofValue,invoke,Vf.append,y8j,Vf.of]
     .rename_i g' first hg
      split at fK
      .cases fK
      .simp only [Ae,Sum.inl.injEq,Ad] at fK;obtain ⟨rfl,rfl⟩:=fK;have hf:=gN.eval f;rw [hg] at hf;generalize hw':a.eval f=u at hf;cases hf with
       | fnb _ _ cvs hl hh=>
        have:=RA hN hfn (by rw [hb];rfl) (cvs++cargs.map a.eval) w
        grind [execOp,resolve,Deferred.ofValue,invoke,Vf.append,Vf.of,y8j]
     all_goals grind
    .cases fK
   obtain ⟨vals,hex,eN⟩:=hexec;have fN:=w8a (b:=b) (k:=k) (cs:=css++cs0) (rest:=(List.range ops.size).drop (i+1)) ho_i (W2 fO ho_i) hwt hex;obtain ⟨_,_,_,_,_,b',a',k',hen,hsr⟩:=x1s h (⟨gN,hdf,htd,⟨hro,fO⟩,fA⟩) hs.lv hs.rest (by rw [w1,w2];exact hs.rel) eN;refine ⟨ρ,b',a',k',_,w,_,_,.one ?_,hsr,by grind,by cases css <;> rfl,Aq _⟩
   grind [Va]
  ·-- a round is entered
   rename_i j args fK;obtain ⟨w1,w2,w3⟩:=WN (ρ:=⟨fun _=>none,fun _=>none,fun _=>none⟩) hw;unfold u8w at h;split at h
   .rename_i Cl lpend ln lenv lparams lassign lbody hlg;split at h
    .rename_i env' hsa;obtain rfl:=Ag h;refine ⟨hfl.enter (B6 w2.symm),Xd.same w1 w2 fun ho=>(w3 ho).1,fun ho m0 n0 ρ0 w0 ρ b a k css w ma mb hs he cs0=> ?_⟩;have ho1:st1.ob=true:=ho;obtain ⟨eP,hdf,htd,⟨hro,fO⟩,fA⟩:=hs.top;simp only at eP hdf htd hro fA;obtain ⟨ho_i,hl',hdrop⟩:=x9z hro;obtain ⟨_,_,w3'⟩:=WN (ρ:=ρ) hw;obtain ⟨gN,hwt⟩:=(w3' ho1).2 eP;obtain ⟨lr,hlp,hlow,hsp,ltmps,lfn,ld,gR,fY⟩:=hs.rest.loops j _ hlg;simp only at gR fY;have hexec: ∃vals:Array Value,Vf (VRel ρ) args vals.toList/\(execOp a.eval o).run P w=.ok (.round lr lfn ((lparams.toArray.zip vals).foldl (fun tmps (t,x)=>tmps.setIfInBounds t x) ltmps) lassign lbody) w:=by
      obtain ⟨dst,op,type,pos,after,guard⟩:=o;simp only at fK ⊢;unfold callee at fK;split at fK
      .rename_i f cargs argTypes;split at fK
       .grind
       .grind
       .rename_i j' hg;simp only [Ae,Sum.inr.injEq,Ad] at fK;obtain ⟨rfl,rfl⟩:=fK;have hf:=gN.eval f;rw [hg] at hf;generalize hw':a.eval f=u at hf;cases hf with
        | yld _ l' hl'=>rw [hlp] at hl';obtain rfl:=Ag hl';have hca:=y8j gN cargs;obtain ⟨eK,_⟩:=z3c hsa fY hca;refine ⟨cargs.map a.eval,hca,?_⟩;simp_all [run_yield,execOp,resolve,Deferred.ofValue,invoke]
       .cases fK
      .cases fK
     obtain ⟨vals,eN,hex⟩:=hexec;obtain ⟨_,henv'⟩:=z3c hsa fY eN;have fN:=w7z (b:=b) (k:=k) (cs:=css++cs0) (rest:=(List.range ops.size).drop (i+1)) ho_i (W2 fO ho_i) hwt hex;refine ⟨ρ,⟨lfn, #[],[],[],.run,.normal,some lr⟩,{tmps:=(lparams.toArray.zip vals).foldl (fun tmps (t,x)=>tmps.setIfInBounds t x) ltmps,defers:=[]},[.code lassign,.beginRound,.code lbody],b.atR a (Va (some (ops,i,o::l)) k)::css,w,[],ma++mb,.one ?_,⟨⟨?_,rfl,.cons (.same _ rfl) (.cons (.same _ rfl) (.cons (.same _ rfl) .nil)),trivial,⟨rfl,lr,hlp,rfl⟩⟩,fun _=>⟨rfl,fun h0=>by cases h0⟩,?_,by rw [show (st1.withEnv env').mem =st.mem from w1,show (st1.withEnv env').next =st.next from w2];exact hs.rel⟩,by rw [show (st1.withEnv env').mem =st.mem from w1,show (st1.withEnv env').next =st.next from w2];exact he,by cases css <;> rfl,Aq _⟩
     .simp only [Va,hdrop];exact fN
     .have:(lparams.toArray.zip vals).foldl (fun tmps (t,x)=>tmps.setIfInBounds t x) ltmps=(lparams.zip vals.toList).foldl (fun t p=>t.setIfInBounds p.1 p.2) ltmps:=by rw [<-Array.foldl_toList];simp
      simp only [this];exact henv'
     .exact ⟨.cons ⟨gN,hdf,htd,⟨hro,fO⟩,fA⟩ hs.lv hs.rest.cs,hs.rest.nodup,hs.rest.marks,hs.rest.loops,hs.rest.inj⟩
    .cases h
   .cases h
  clear plain2
  grind [H3]
 all_goals (clear plain2;grind [H3])
end
section
variable {P:Program}
theorem x5e {ops:Array Oper} {z:Nat}: ∀{l:zt},Hb ops l=some z->Mq z ops=true
 | [],h=>by cases h
 | x::l,h=>by
  unfold Hb at h;rcases Uk h with ⟨h1,h⟩ | ⟨_,h⟩
  .obtain rfl:=Ag h;exact h1
  .exact x5e h
theorem v0k {ops:Array Oper} {z:Nat} (h:j6f ops=some z):Mq z ops=true/\HJ ops=true:=by unfold j6f at h;obtain ⟨hn,h⟩:=Zi h;exact ⟨x5e h,hn⟩
theorem D9.item {ρ:CF} {x:Item} {t k:List Item} (hx:Mf x=true) (h:D9 ρ (x::t) k): ∃k',k=x::k'/\D9 ρ t k':=by
 cases h with
 | cons h ht=>
  cases h with
  | same _ _=>grind
  | inR j l e=>cases hx
  | endR j l e=>cases hx
theorem y7k {fl:Nat} {cx:CN} {todo:List Item} {rnd:Option Nat} {rs:List ResultVar} {st:St} {cs:List Cd} {lps:CO} {jump:Option Code} {C':CJ} (hfl:Fl fl ⟨cx,none,todo,rnd,rs,st,cs,lps⟩)
  (h:TL P rnd rs st cs lps jump=some C') (hj:(todo=[]/\jump=none)\/(∃t,todo=.code .ret ::t/\jump=some .ret)\/(∃id t,todo=.code (.exit id)::t/\exitTo id t=none/\jump=some (.exit id)/\rnd.isSome=true)):
  EW P fl ⟨cx,none,todo,rnd,rs,st,cs,lps⟩ C':=by
 unfold TL at h;split at h
 .split at h
  .rename_i vs hvs;obtain ⟨hfl',hm,hn,hob,hne,key⟩:=YT (P:=P) (base:=0) h hfl.cs hfl.le;refine ⟨hfl',Xd.same hm hn fun ho=>by grind,fun ho m0 n0 ρ0 w0 ρ b a k css w ma mb hs he cs0=> ?_⟩;obtain ⟨_,_,_,_,_,key⟩:=YT (P:=P) (base:=w0.heap.size) h hfl.cs hfl.le;have htd:todo=[]\/ ∃t,todo=.code .ret ::t:=by
    grind
   obtain ⟨w',fE,eP,eI,hev,fF,hsz⟩:=y8b hs rfl rfl htd rfl he (css++cs0);obtain ⟨hk,hfn⟩:=hs.lv hne;obtain ⟨fn,hfn,hrs⟩:=hfn rfl;simp only at hrs hfn;obtain ⟨u,hu,gP⟩:=z3h (fn:=fn) eP eI (by rw [hrs];exact hvs);obtain ⟨c,css',b',a',k',ma',mb',rfl,hfin,hsr,hbot⟩:=key ρ css w' mb u hu fF eI;refine ⟨ρ,b',a',k',css',w',ma',mb',fE.trans (.one ?_),hsr,by grind,by rw [hbot];rfl,hsz⟩;rw [<-hfin];exact step_leave_returned (fr:={b.atR {a with defers:=[]} k with mode:=.returning}) ⟨rfl,rfl,hk,fn,hfn,gP⟩
  .cases h
 .rename_i j;split at h
  .rename_i Cl lpend ln lenv lparams lassign lbody hlg;obtain ⟨hfl',hm,hn,hob,hne,_⟩:=YT (P:=P) (base:=0) h hfl.cs hfl.le;refine ⟨hfl',Xd.same hm hn fun ho=>by grind,fun ho m0 n0 ρ0 w0 ρ b a k css w ma mb hs he cs0=> ?_⟩;obtain ⟨_,_,_,_,_,key⟩:=YT (P:=P) (base:=w0.heap.size) h hfl.cs hfl.le;obtain ⟨rfl,lr0,hlp0,hro⟩:=hs.top.rnd;obtain ⟨lr,hla⟩:=hs.rest.loops j _ hlg;have hla':=hla;obtain ⟨hlp,hlow,hsp,ltmps,lfn,ld,gR,fY⟩:=hla;rw [hlp] at hlp0;obtain rfl:=Ag hlp0;have eO:=run_endRound (P:=P) jump gR;have hlst:(if jump.isNone then LoopState.ready else LoopState.done)=TK jump:=by cases jump <;> rfl
   rw [hlst] at eO;have fF:=hs.rest.record (w':=w.putObj lr (.loop ⟨TK jump,jump,lfn,ltmps,lparams.toArray,lassign,lbody,ld⟩)) hlg hla' (L':=⟨TK jump,jump,ln,lenv,lparams,lassign,lbody⟩)
    ⟨hlp,hlow,hsp.turned (Vd.put _ _ _),ltmps,lfn,ld,World.putObj_heap_same hsp.1,fY⟩ (Vd.put _ _ _)
   obtain ⟨c,css',b',a',k',ma',mb',rfl,hfin,hsr,hbot⟩:=key ρ css _ mb (.bool jump.isNone) (.bool _) fF (hs.rel.turned (fun r hr=>by grind) (Vd.put _ _ _));have hev:=he.turned (m:=[lr]) (fun r hr=>by grind) (Vd.put w lr (.loop ⟨TK jump,jump,lfn,ltmps,lparams.toArray,lassign,lbody,ld⟩));refine ⟨ρ,b',a',k',css',_,ma',mb',.one ?_,hsr,by grind,by rw [hbot];rfl,B6 (Vd.put _ _ _).size.symm⟩;obtain ⟨hk,_⟩:=hs.lv hne;rw [<-hfin];have htd:=hs.top.todo;rcases hj with ⟨rfl,rfl⟩ | ⟨t,rfl,rfl⟩ | ⟨id,t,rfl,hx,rfl,_⟩
   .cases htd;exact stepR_round_end hro hk eO
   .obtain ⟨k',rfl,_⟩:=htd.code;exact stepR_round_ret hro hk eO
   .obtain ⟨k',rfl,ht⟩:=htd.code;exact stepR_round_exit hro hk ((ht.exit id).2 hx) eO
  .cases h
theorem x5h {S:CC} {Rc:CK} (hN:EL P) (hmx:P.follows .mixedOrders =true) (hS:Zu P S) (hCI:Et Rc) (hC:Gd P Rc) {fl:Nat} {C C':CJ} (hfl:Fl fl C) (h:Rf P S Rc C=some C'):EW P fl C C':=by
 unfold Rf at h;split at h
 ·-- a region's end
  rename_i ops i todo rnd rs st cs lps;obtain rfl:=Ag h;refine ⟨⟨hfl.cx,hfl.cs,hfl.le⟩,Xd.refl _ _,fun ho m0 n0 ρ0 w0 ρ b a k css w ma mb hs he cs0=> ?_⟩;obtain ⟨eP,hdf,htd,⟨hro,fO⟩,fA⟩:=hs.top;refine ⟨ρ,b,a,k,css,w,ma,mb,.one ?_,⟨⟨eP,hdf,htd,trivial,fA⟩,hs.lv,hs.rest,hs.rel⟩,he,rfl,Aq _⟩;have hge:ops.size<=i:=by simp_all
  have:(List.range ops.size).drop i=[]:=Aw (by grind)
  grind [Va,stepR_region_end]
 .exact w8d hN hS hCI hC hfl h
 .rename_i cx todo rnd rs st cs lps;split at h
  .grind [y7k]
  .grind [y7k]
  .obtain rfl:=Ag h;exact EW.move hfl fun ρ k hk=>by obtain ⟨k',rfl,ht⟩:=hk.code;grind [stepR_skip]
  .obtain rfl:=Ag h;exact EW.move hfl fun ρ k hk=>by obtain ⟨k',rfl,ht⟩:=hk.code;grind [stepR_label]
  .obtain rfl:=Ag h;exact EW.move hfl fun ρ k hk=>by obtain ⟨k',rfl,ht⟩:=D9.item rfl hk;grind [stepR_inBlock]
  .obtain rfl:=Ag h;exact EW.move hfl fun ρ k hk=>by obtain ⟨k',rfl,ht⟩:=D9.item rfl hk;exact ⟨k',ht,fun b a css w=>step_lone_go (by simp [stepG,stepG.exec,Frame.atR])⟩
  .obtain rfl:=Ag h;exact EW.move hfl fun ρ k hk=>by obtain ⟨k',rfl,ht⟩:=hk.code;exact ⟨_,.cons (.same _ rfl) (.cons (.same _ rfl) ht),fun b a css w=>stepR_seq⟩
  ·-- a test
   rename_i c x y k0;split at h
   .rename_i v hv;split at h;rename_i e st1 ht;obtain rfl:=Ag h;obtain ⟨t1,t2,t3,t4⟩:=SY ht;refine ⟨⟨hfl.cx,hfl.cs,by have:=hfl.le;grind⟩,Xd.same t2 t3 fun ho=>(t4 ho).2,fun ho m0 n0 ρ0 w0 ρ b a k css w ma mb hs he cs0=> ?_⟩;obtain ⟨rfl,_⟩:=t4 ho;obtain ⟨eP,hdf,htd,hro,fA⟩:=hs.top;obtain ⟨k',rfl,htl⟩:=htd.code;have hc:=eP.eval c;rw [hv] at hc;have hev:a.eval c=.bool e:=by generalize a.eval c=u at hc;cases hc;rfl
    refine ⟨ρ,b,a,_,css,w,ma,mb,.one (stepR_cond hev),⟨⟨by grind,hdf,.cons ?_ htl,trivial,fA⟩,hs.lv,hs.rest,by rw [t2,t3];exact hs.rel⟩,by grind,rfl,Aq _⟩;cases e <;> exact .same _ rfl
   .cases h
  .obtain rfl:=Ag h;exact EW.move hfl fun ρ k hk=>by obtain ⟨k',rfl,ht⟩:=hk.code;exact ⟨_,.cons (.same _ rfl) (.cons (.same _ rfl) ht),fun b a css w=>stepR_block⟩
  .obtain rfl:=Ag h;exact EW.move hfl fun ρ k hk=>by obtain ⟨k',rfl,ht⟩:=hk.code;exact ⟨_,.cons (.same _ rfl) (.cons (.same _ rfl) ht),fun b a css w=>step_lone_go (by simp [stepG,stepG.exec,Frame.atR])⟩
  .obtain rfl:=Ag h;exact EW.move hfl fun ρ k hk=>by obtain ⟨k',rfl,ht⟩:=hk.code;exact ⟨_,.cons (.same _ rfl) (.cons (.same _ rfl) ht),fun b a css w=>stepR_loop⟩
  .obtain rfl:=Ag h;exact EW.move hfl fun ρ k hk=>by obtain ⟨k',rfl,ht⟩:=D9.item rfl hk;exact ⟨_,.cons (.same _ rfl) (.cons (.same _ rfl) ht),fun b a css w=>stepR_inLoop⟩
  ·-- an exit
   rename_i id k0;split at h
   .rename_i k1 hx;obtain rfl:=Ag h;exact EW.move hfl fun ρ k hk=>by
     obtain ⟨k',rfl,ht⟩:=hk.code;obtain ⟨r',h1,h2⟩:=(ht.exit id).1 _ hx
     grind [stepR_exit]
   grind [y7k]
  ·-- a region in the order of the text
   rename_i id ops k0;obtain ⟨fO,h⟩:=Zi h;obtain rfl:=Ag h;refine ⟨⟨hfl.cx,hfl.cs,hfl.le⟩,Xd.refl _ _,fun ho m0 n0 ρ0 w0 ρ b a k css w ma mb hs he cs0=> ?_⟩;obtain ⟨eP,hdf,htd,hro,fA⟩:=hs.top;obtain ⟨k',rfl,htl⟩:=htd.code;exact ⟨ρ,b,a,k',css,w,ma,mb,.one stepR_region,⟨⟨eP,hdf,htl,⟨rfl,fO⟩,fA⟩,hs.lv,hs.rest,hs.rel⟩,he,rfl,Aq _⟩
  ·-- a region that draws its order
   rename_i id ops k0;split at h
   ·-- it hands out a round
    rename_i m hty;split at h
    .rename_i st1 hop;obtain rfl:=Ag h;obtain ⟨hm,fO,fI,hfor,hgd⟩:=w7w hty;have hm':=Nat.le_of_lt hm;have hi:=y6x hCI _ _ _ _ hop;have e:=hfl.cx;simp only at e;have hcx:cx.floor<=st.next:=by have:=hfl.le;grind
     refine ⟨⟨e,hfl.cs,AI hfl.le hi.nxt⟩,by grind,fun ho m0 n0 ρ0 w0 ρ b a k css w ma mb hs he cs0=> ?_⟩;obtain ⟨eP,hdf,htd,hro,fA⟩:=hs.top;obtain ⟨k',rfl,htl⟩:=htd.code;have hw:=z9t hN hS hCI hC hcx fI hop ho hdf eP (hs.rel.drawn (w.drawn+1));have hw2:=wpAny_sound (Wr ops m).size (w.tape w.drawn (.order b.fn id)) _ a _ hw;rw [w4w _ hm',x5g hm'] at hw2;have back: ∀(j:Nat) x,ops[j]? =some x-> ∃y,(Wr ops m)[j]? =some y/\y.after=x.after:=fun j x hx=>by
      grind [y1e]
     have gD: ∀(j:Nat) x,ops[j]? =some x-> ∀e∈x.after.toList,Region.binds .any e=true->e.on<j:=fun j x hx e he hb=>by obtain ⟨y,hy,hya⟩:=back j x hx;exact (z8k fI).ord j y hy e (by grind) hb
     have hcl0: ∀S,HT ops S->HT (Wr ops m) S:=fun S hc j y hy hS e he hb=>by
      have hsa:=y1e hm' j;rw [hy] at hsa;cases hsx:ops[j]? with
      | none=>grind
      | some x=>rw [hsx] at hsa;simp only [B2,Ae] at hsa;exact hc j x hsx hS e (by grind) hb
     have hfor': ∀j x,m<=j->ops[j]? =some x-> ∀i,i<j->JI ops i x:=fun j x hj hx i hij S hc hr=>by obtain ⟨y,hy,hya⟩:=back j x hx;exact hfor j y hj hy i hij S (hcl0 S hc) fun e he hb=>hr e (by grind) hb
     have fT: ∀i,(Array.replicate ops.size false).getD i false=false:=fun i=>by by_cases hi:i<ops.size <;> simp [hi]
     obtain ⟨l,hl,hlm⟩:=u4k gD hm hfor' ops.size (w.tape w.drawn (.order b.fn id)) (Array.replicate ops.size false) (by simp) (fun j x hx hS=>by grind) (by
      simp_all) (fun q _=>fT q)
     rw [hl] at hw2;obtain ⟨a',w',⟨_,hd',ρ',q1,q2,q3⟩,fE⟩:=x0m (b:=b) (k:=k') (cs:=css++cs0) (fun e a w hq=>hq.1) hm' fO hgd (r:=(List.range ops.size).drop m) (fun i hi=>by
      obtain ⟨n,hn,rfl⟩:=AQ hi;simp) l a _ hlm hw2
     have hev:=q3.drawn;refine ⟨ρ',b,a',k',css,w',ma,mb,.head stepR_region_draw ?_,⟨⟨q1,hd',htl.mono fun _ _=>Es.mono hev.ext,⟨rfl,fO⟩,?_⟩,hs.lv,hs.rest.ev hev,q2⟩,he.trans (by grind),rfl,hev.size⟩
     .grind [Region.schedule,Va,Region.linearise]
     .exact ((⟨eP,hdf,htd,hro,fA⟩:Fr ρ cx none _ rnd st.env b a _ ma).mono hev.ext).rnd
    .cases h
   split at h;rename_i z hlz;obtain ⟨fI,fO⟩:=v0k hlz;split at h
   .rename_i st1 hop;obtain rfl:=Ag h;have hi:=y6x hCI _ _ _ _ hop;have e:=hfl.cx;simp only at e;have hcx:cx.floor<=st.next:=by have:=hfl.le;grind
    refine ⟨⟨e,hfl.cs,AI hfl.le hi.nxt⟩,by grind,fun ho m0 n0 ρ0 w0 ρ b a k css w ma mb hs he cs0=> ?_⟩;obtain ⟨eP,hdf,htd,hro,fA⟩:=hs.top;obtain ⟨k',rfl,htl⟩:=htd.code;have hw:=z9t hN hS hCI hC hcx fI hop ho hdf eP (hs.rel.drawn (w.drawn+1));have hw2:=wpAny_sound ops.size (w.tape w.drawn (.order b.fn id)) _ a _ hw;obtain ⟨a',w',⟨hd',ρ',q1,q2,q3⟩,fE⟩:=y6v (b:=b) (k:=k') (cs:=css++cs0) (fun e a w hq=>hq) fO _ _ _ hw2;have hev:=q3.drawn;refine ⟨ρ',b,a',k',css,w',ma,mb,.head stepR_region_draw ?_,⟨⟨q1,hd',htl.mono fun _ _=>Es.mono hev.ext,trivial,?_⟩,hs.lv,hs.rest.ev hev,q2⟩,he.trans (by grind),rfl,hev.size⟩
    .simp only [Region.schedule,hmx,Bool.true_or,if_true];exact fE
    .exact ((⟨eP,hdf,htd,hro,fA⟩:Fr ρ cx none _ rnd st.env b a _ ma).mono hev.ext).rnd
   all_goals grind
  ·-- a loop over a function
   rename_i f params assign body k0;split at h
   .rename_i g caps hg;obtain ⟨env,mem,next,orc,ob⟩:=st;simp only [St.nextId] at h;obtain ⟨hrk,h⟩:=Zi h;have hCeq: ∃fn fbody,P.funcs[g]? =some fn/\fn.body=some fbody/\C'=⟨⟨Nat.max fn.ntmps (CA.yld next::caps).length,cx.floor,cx.sym⟩,none,[.code fbody],none,fn.results.toList,St.withEnv ⟨env,mem,next+1,orc,ob⟩ (FO (CA.yld next::caps) 0 .leaf),⟨cx,none,.inRangeFunc next::k0,rnd,rs,env⟩::cs,Ft lps next (some ⟨.ready,none,cx.n,env,params.toList,assign,body⟩)⟩:=by
     grind [RT]
    obtain ⟨fn,fbody,hfn,hb,hCe⟩:=hCeq;refine ⟨by rw [hCe];exact hfl.enter (B4 _),?_,fun ho m0 n0 ρ0 w0 ρ b a k css w ma mb hs he cs0=> ?_⟩
    .rw [hCe];exact ⟨B4 _,fun hbd x hx=>hbd x (Nat.le_of_succ_le hx),fun _ _ _=>rfl,fun ho=>ho⟩
    obtain ⟨eP,hdf,htd,hro,fA⟩:=hs.top;obtain ⟨k',rfl,htl⟩:=htd.code;have eI:=hs.rel;simp only at eP eI he fA hdf htl;have lay: ∃l mk w1 d,(Instr.enterLoop b.fn a.tmps params assign body b.roundOf).run P w=.ok (l,(mk:zt).map Oc) w1/\w1.heap[l]? =some (.loop ⟨.ready,none,b.fn,a.tmps,params,assign,body,d⟩)/\w0.heap.size<=l/\Sp ρ w1 l/\CH ρ mem next w1/\Ev ρ0 ρ fl m0 n0 mem next w0 w1/\(rnd.isSome=true->mk=[])/\
      Dm P w0.heap.size ρ cs lps css w1 (mk++ma) mb/\(∀j L l',DX lps j=some L->ρ.lp j=some l'->l'≠l)/\w.heap.size<=w1.heap.size:=by
     have gr: ∀(w1:World) (o:Obj) (mk:zt),Dm P w0.heap.size ρ cs lps css w1 mk mb->Dm P w0.heap.size ρ cs lps css (w1.alloc o) mk mb:=fun w1 o mk hr=>
      ⟨hr.cs,hr.nodup,fun r hx=>by obtain ⟨q1,q2,q3⟩:=hr.marks r hx;exact ⟨q1,(q2.grow o).1,by rw [(q2.grow o).2];exact q3⟩,fun j L hL=>by
       obtain ⟨l,q1,q2,q3,tm,fn',d,q4,q5⟩:=hr.loops j L hL;exact ⟨l,q1,q2,(q3.grow o).1,tm,fn',d,by rw [(q3.grow o).2];exact q4,q5⟩,hr.inj⟩
     have far: ∀(w1:World),Dm P w0.heap.size ρ cs lps css w1 ma mb-> ∀j L l',DX lps j=some L->ρ.lp j=some l'->l'<w1.heap.size:=fun w1 hr j L l' hL e=>by obtain ⟨l2,q⟩:=hr.loops j L hL;have:=q.lp;rw [e] at this;obtain rfl:=Ag this;exact q.sp.1
     cases hr:b.roundOf with
     | none=>
      have hrn:rnd=none:=by
       grind
      subst hrn;have hs1:Sp ρ (w.alloc (.deferred (some []))) w.heap.size:=Sp.fresh eI _;have fM:=eI.grow (.deferred (some []));have hsz1:(w.alloc (.deferred (some []))).heap.size =w.heap.size+1:=(by simp_all);have fV:Dm P w0.heap.size ρ cs lps css (w.alloc (.deferred (some []))) ([w.heap.size]++ma) mb:=by
       have hr1:=gr w (.deferred (some [])) ma hs.rest;have hnin:w.heap.size ∉ ma++mb:=fun hin=>by have:=(hs.rest.marks _ hin).2.1.1;omega
       refine ⟨hr1.cs,by rw [AH];exact List.nodup_cons.2 ⟨hnin,hr1.nodup⟩,fun r hx=> ?_,hr1.loops,hr1.inj⟩;simp only [BD,A0,AN] at hx;rcases hx with rfl | hx
       .exact ⟨he.size,hs1,by show (w.heap.push _)[w.heap.size]? =_;simp⟩
       .exact hr1.marks r hx
      refine ⟨w.heap.size+1,[w.heap.size],_,w.heap.size,run_enterLoop_outer _ _ _ _ _,?_,by have:=he.size;omega,?_,fM.grow _,(he.grow _).grow _,(fun e=>by cases e),gr _ _ _ fV,fun j L l' hL e=> ?_,?_⟩
      .grind [World.alloc_heap_new]
      .grind [Sp.fresh]
      .have:=far w hs.rest j L l' hL e;omega
      .show _<=((w.heap.push _).push _).size
       grind
     | some l0=>
      obtain ⟨j0,rfl⟩: ∃j0,rnd=some j0:=by
       grind
      obtain ⟨hma,l1,hlp1,e2⟩:=fA;rw [hr] at e2;obtain rfl:=Ag e2;subst hma;have gL: ∃L0,DX lps j0=some L0:=BX.1 hrk;obtain ⟨L0,hL0⟩:=gL;obtain ⟨l2,q1,q2,q3,tm,fn',d,q4,q5⟩:=hs.rest.loops j0 L0 hL0;rw [hlp1] at q1;obtain rfl:=Ag q1;refine ⟨w.heap.size,[],_,_,run_enterLoop_inner q4 _ _ _ _ _,World.alloc_heap_new _ _,he.size,Sp.fresh eI _,eI.grow _,he.grow _,(fun _=>rfl),gr _ _ _ hs.rest,fun j L l' hL e=> ?_,?_⟩
      .have:=far w hs.rest j L l' hL e;omega
      simp_all
    obtain ⟨l,mk,w1,d,hen,gR,hlow,hsp,fM,hev1,hmk,fV,hne,hsz⟩:=lay;have hle:ρ.le (lpAdd ρ next l):=x3q fM.lp_none;have hlpj:(lpAdd ρ next l).lp next=some l:=AF rfl
    have get: ∀i L,DX (Ft lps next (some L)) i=if i=next then some L else DX lps i:=fun i L=>T.get_set none lps next (some L) i
    have hlps: ∀j L l',DX lps j=some L->(lpAdd ρ next l).lp j=some l'->j≠next->ρ.lp j=some l':=fun j L l' _ e hj=>by
     have e:(if j=next then some l else ρ.lp j)=some l':=e
     grind
    have hrest2:Dm P w0.heap.size (lpAdd ρ next l) cs (Ft lps next (some ⟨.ready,none,cx.n,env,params.toList,assign,body⟩)) css w1 (mk++ma) mb:=by
     refine ⟨fV.cs.mono hle,fV.nodup,fV.marks,fun j L hL=> ?_,fun j j' L L' l' hL hL' e e'=> ?_⟩
     .rw [get] at hL;by_cases hj:j=next
      .subst hj;rw [AF rfl] at hL;obtain rfl:=Ag hL;exact ⟨l,hlpj,hlow,hsp,a.tmps,b.fn,d,by simp_all,eP.mono hle⟩
      .rw [Az hj] at hL;obtain ⟨l2,q1,q2,q3,tm,fn',d',q4,q5⟩:=fV.loops j L hL;exact ⟨l2,hle.2.2 _ _ q1,q2,q3,tm,fn',d',q4,q5.mono hle⟩
     .rw [get] at hL hL';by_cases hj:j=next <;> by_cases hj':j'=next
      .rw [hj,hj']
      .grind
      .grind
      .rw [Az hj] at hL;rw [Az hj'] at hL';exact fV.inj j j' L L' l' hL hL' (hlps _ _ _ hL e hj) (hlps _ _ _ hL' e' hj')
    have hf:=(show Vx ρ (St.env ⟨env,mem,next,orc,ob⟩) cx.n a.tmps from eP).eval f;rw [hg] at hf;generalize hw':a.eval f=u at hf;cases hf with
    | fn _ _ cvs hl hh=>
     have eN:Vf (VRel (lpAdd ρ next l)) (CA.yld next::caps) (#[Value.func (.yield l) #[] #[]]++cvs).toList :=by rw [Array.toList_append];exact .cons (.yld _ _ hlpj) (Vf.of (by simp_all) fun i h1 h2=>by simpa using (hh i h1 (by grind)).mono hle)
     have eZ:=RA hN hfn (by rw [hb];rfl) (#[Value.func (.yield l) #[] #[]]++cvs) w1;have fN:=stepR_rangeFunc (P:=P) (b:=b) (a:=a) (k:=k') (cs:=css++cs0) (g:=f) (d:=⟨.fn (.func g) cvs, #[Value.func (.yield l) #[] #[]]⟩) (w₁':=w1) hen
      (by simp_all [resolve,Deferred.ofValue,Act.eval]) (by simp only [invoke];exact eZ)
     have hfr:Fr (lpAdd ρ next l) cx none (.inRangeFunc next::k0) rnd env b {a with defers:=mk.map Oc++a.defers} (.inRangeFunc l::k') (mk++ma):=
      ⟨eP.mono hle,by grind,.cons (.inR _ _ hlpj) (htl.mono fun _ _=>Es.mono hle),trivial,by
       cases rnd with
       | none=>exact fA
       | some j=>
        obtain ⟨h0,l',h1,h2⟩:=fA;exact ⟨by grind,l',hle.2.2 _ _ h1,h2⟩⟩
     obtain ⟨_,_,_,_,_,b',a',k2,hent,hsr⟩:=x1s h hfr hs.lv hrest2 (show CH _ mem (next+1) w1 from fM.lpAdd l) eN;refine ⟨lpAdd ρ next l,b',a',k2,_,w1,_,_,.one ?_,hsr,?_,by cases css <;> rfl,hsz⟩
     .rw [show C'.ro=none by rw [hCe],<-hent];exact fN
     .rw [hCe];exact hev1.lpAdd fM l
   .cases h
  ·-- a round begins
   rename_i k0;split at h
   .rename_i j;split at h
    .rename_i pend n env params assign body hlg;obtain rfl:=Ag h;refine ⟨⟨hfl.cx,hfl.cs,hfl.le⟩,Xd.refl _ _,fun ho m0 n0 ρ0 w0 ρ b a k css w ma mb hs he cs0=> ?_⟩;obtain ⟨eP,hdf,htd,hro,fA⟩:=hs.top;obtain ⟨rfl,lr0,hlp0,hrb⟩:=fA;obtain ⟨k',rfl,htl⟩:=D9.item rfl htd;obtain ⟨lr,hla⟩:=hs.rest.loops j _ hlg;have hla':=hla;obtain ⟨hlp,hlow,hsp,ltmps,lfn,ld,gR,fY⟩:=hla;rw [hlp] at hlp0;obtain rfl:=Ag hlp0;have eO:=run_beginRound (P:=P) gR rfl;have fF:=hs.rest.record (w':=w.putObj lr (.loop ⟨.busy,pend,lfn,ltmps,params.toArray,assign,body,ld⟩)) hlg hla' (L':=⟨.busy,pend,n,env,params,assign,body⟩)
      ⟨hlp,hlow,hsp.turned (Vd.put _ _ _),ltmps,lfn,ld,World.putObj_heap_same hsp.1,fY⟩ (Vd.put _ _ _)
     refine ⟨ρ,b,a,k',css,_,[],mb,.one (stepR_beginRound hrb eO),⟨⟨eP,hdf,htl,trivial,⟨rfl,lr,hlp,hrb⟩⟩,hs.lv,fF,hs.rel.turned (fun r hr=>by grind) (Vd.put _ _ _)⟩,he.turned (m:=[lr]) (fun r hr=>by grind) (Vd.put _ _ _),rfl,B6 (Vd.put _ _ _).size.symm⟩
    .cases h
   .cases h
  ·-- a loop's end
   rename_i j k0;split at h
   .cases h
   .rename_i Cl pend n env params assign body hnb hlg;obtain rfl:=Ag h;refine ⟨⟨hfl.cx,hfl.cs,hfl.le⟩,Xd.refl _ _,fun ho m0 n0 ρ0 w0 ρ b a k css w ma mb hs he cs0=> ?_⟩;obtain ⟨eP,hdf,htd,hro,fA⟩:=hs.top;obtain ⟨lr,hla⟩:=hs.rest.loops j _ hlg;have hla':=hla;obtain ⟨hlp,hlow,hsp,ltmps,lfn,ld,gR,fY⟩:=hla;cases htd with
    | @cons _ y _ k' hx htl=>
     cases hx with
     | same _ hp=>cases hp
     | endR _ l hl =>
      rw [hlp] at hl;obtain rfl:=Ag hl;have hb:Cl≠ .busy :=fun e=>by grind
      have eO:=run_endLoop (P:=P) gR hb;have fF:=hs.rest.record (w':=w.putObj lr (.loop ⟨.exhausted,pend,lfn,ltmps,params.toArray,assign,body,ld⟩)) hlg hla' (L':=⟨.exhausted,pend,n,env,params,assign,body⟩)
       ⟨hlp,hlow,hsp.turned (Vd.put _ _ _),ltmps,lfn,ld,World.putObj_heap_same hsp.1,fY⟩ (Vd.put _ _ _)
      refine ⟨ρ,b,a,_,css,_,ma,mb,.one (stepR_endRangeFunc eO),⟨⟨eP,hdf,?_,trivial,fA⟩,hs.lv,fF,hs.rel.turned (fun r hr=>by grind) (Vd.put _ _ _)⟩,he.turned (m:=[lr]) (fun r hr=>by grind) (Vd.put _ _ _),rfl,B6 (Vd.put _ _ _).size.symm⟩;cases pend with
      | none=>exact htl
      | some c=>exact .cons (.same _ rfl) htl
   .cases h
  .cases h
theorem v4p {S:CC} {Rc:CK} {n:Nat} {C:CJ}:FZ P S Rc (n+1) C=(bif Gh C then some C else match Rf P S Rc C with
  | some C'=>FZ P S Rc n C'
  | none=>none):=rfl
theorem y7w {C:CJ} (h:Gh C=true):C.ro=none/\C.rnd=none/\C.cs=[]/\(C.todo=[]\/ ∃t,C.todo=.code .ret ::t):=by
 unfold Gh at h
 grind
theorem FK.trans {fl:Nat} {A B C:CJ} (h:FK P fl A B) (k:FK P fl B C):FK P fl A C:=by intro m0 n0 ρ0 w0 ρ b a t css w ma mb hs he cs0;obtain ⟨ρ1,b1,a1,t1,css1,w1,ma1,mb1,s1,r1,e1,q1,z1⟩:=h m0 n0 ρ0 w0 ρ b a t css w ma mb hs he cs0;obtain ⟨ρ2,b2,a2,t2,css2,w2,ma2,mb2,s2,r2,e2,q2,z2⟩:=k m0 n0 ρ0 w0 ρ1 b1 a1 t1 css1 w1 ma1 mb1 r1 e1 cs0;exact ⟨ρ2,b2,a2,t2,css2,w2,ma2,mb2,s1.trans s2,r2,e2,q2.trans q1,AI z1 z2⟩
theorem x2t {S:CC} {Rc:CK} (hN:EL P) (hmx:P.follows .mixedOrders =true) (hS:Zu P S) (hCI:Et Rc) (hC:Gd P Rc) {fl:Nat}: ∀(n:Nat) (C C':CJ),Fl fl C->FZ P S Rc n C=some C'->Gh C'=true/\Xd fl C.st C'.st/\(C'.st.ob=true->FK P fl C C')
 | 0,C,st',_,h=>by cases h
 | n+1,C,C',hfl,h=>by
  rw [v4p] at h;cases hf:Gh C with
  | true=>rw [hf] at h;obtain rfl:=Ag h;exact ⟨hf,Xd.refl _ _,fun _=>FK.refl fl C⟩
  | false=>
   rw [hf,Aa] at h;split at h
   .rename_i C1 h1;have s1:=x5h hN hmx hS hCI hC hfl h1;obtain ⟨f1,f4,f5⟩:=x2t hN hmx hS hCI hC n C1 C' s1.fls h;exact ⟨f1,s1.inv.trans f4,fun ho=>(s1.leads (f4.ob ho)).trans (f5 ho)⟩
   .cases h
theorem D9.refl_plain {ρ:CF}: ∀(k:List Item),k.all Mf=true->D9 ρ k k
 | [],_=>.nil
 | x::k,h=>by simp only [List.all_cons,Ac] at h;exact .cons (.same x h.1) (D9.refl_plain k h.2)
theorem x0t (base:Nat) (ρ:CF) (w:World):Dm P base ρ [] .leaf [] w [] []:=
 ⟨.nil,List.nodup_nil,(fun r hr=>by cases hr),(fun j L hL=>by cases hL),(fun j j' L L' l hL=>by cases hL)⟩
theorem x9r (hN:EL P) (hmx:P.follows .mixedOrders =true) {S:CC} (hS:Zu P S) (n:Nat): ∀d,Et (J2 P S n d)/\Gd P (J2 P S n d)
 | 0=>⟨(fun cx todo st st' h=>by cases h),(fun cx todo st st' _ h=>by cases h)⟩
 | d+1=>by
  obtain ⟨hCI,hC⟩:=x9r hN hmx hS n d;have key: ∀{cx todo st st'},J2 P S n (d+1) cx todo st=some st'->todo.all Mf=true/\Fl cx.floor ⟨cx,none,todo,none,[],st,[],.leaf⟩/\ ∃C',FZ P S (J2 P S n d) n ⟨cx,none,todo,none,[],st,[],.leaf⟩=some C'/\C'.cx.n=cx.n/\C'.st=st':=by
   intro cx todo st st' h;have h:(bif todo.all Mf&&Nat.ble cx.floor st.next then match FZ P S (J2 P S n d) n ⟨cx,none,todo,none,[],st,[],.leaf⟩ with
    | some C=>bif Nat.beq C.cx.n cx.n then some C.st else none
    | none=>none
    else none)=some st':=h
   obtain ⟨hp,h⟩:=Zi h;simp only [Ac] at hp;refine ⟨hp.1,⟨rfl,fun af haf=>(by cases haf),Ak hp.2⟩,?_⟩;split at h
   .rename_i C' hr;obtain ⟨hn,h⟩:=Zi h;simp_all
   .cases h
  refine ⟨fun cx todo st st' h=> ?_,fun cx todo st st' hcx h ho ρ a w b cs hd eP eI=> ?_⟩
  .obtain ⟨_,hfl,C',hr,_,rfl⟩:=key h;exact (x2t hN hmx hS hCI hC n _ C' hfl hr).2.1
  .obtain ⟨hpl,hfl,C',hr,hn,rfl⟩:=key h;obtain ⟨f1,f2,f3⟩:=x2t hN hmx hS hCI hC n _ C' hfl hr;obtain ⟨e1,e2,e3,e4⟩:=y7w f1;obtain ⟨ρ',b',a',k',css',w',ma',mb',s1,r1,v1,q1,_⟩:=f3 ho st.mem st.next ρ w ρ {b with roundOf:=none} a todo [] w [] []
    ⟨⟨eP,hd,D9.refl_plain todo hpl,trivial,rfl⟩,fun h=>absurd rfl h,x0t _ _ _,eI⟩ (Ev.refl _ _ _ _ _ eI.dom) cs
   have hcs:=r1.rest.cs;rw [e3] at hcs;cases hcs;obtain ⟨w2,s2,henv',fH,fZ,_,_⟩:=y8b r1 e1 e2 e4 rfl v1 cs;refine ⟨ρ',{a' with defers:=[]},k',w2,?_,rfl,by grind,fH,fZ⟩;have hb:b.at a todo=Frame.atR {b with roundOf:=none} a (Va none todo):=rfl;have hb':Frame.atR b' {a' with defers:=[]} k'=b.at {a' with defers:=[]} k':=by
    have q:(b'.fn,b'.kind,b'.roundOf)=(b.fn,b.kind,none):=q1
    grind [Frame.atR,Frame.at]
   rw [hb,<-hb'];exact s1.trans s2
end
structure DB where
 keep:zt
 frz:zt
 slots:List (Option zt)
 lslots:List (Option zt):=[]
def Fm (b:Nat):zt->Nat->Option Nat
 | [],_=>none
 | x::l,i=>bif Nat.beq x b then some i else Fm b l (i+1)
def hasN (b:Nat):zt->Bool
 | []=>false
 | x::l=>bif Nat.beq x b then true else hasN b l
def ZR (cells:zy) (off sz:Nat):Nat->zy:=fun k=>(cells.drop (off+k*sz)).take sz
def I4 (P:Program) (blk:CG):CA->CA
 | .ptr _ o=>.dptr (blk.cells.drop o)
 | .sl _ off len _=>match P.info? blk.ty with
  | some i=>bif Nat.ble (off+len*i.size) blk.cells.length then .dat len (ZR blk.cells off i.size) else .undef
  | none=>.undef
 | .sla _ sz off len _=>match blk.arr with
  | some A=>bif Nat.beq A.sz sz&&Nat.ble (off+len) A.n then .dat len (fun k=>A.get (off+k)) else .undef
  | none=>.undef
 | _=>.undef
def F0 (P:Program) (mem:CI) (N:DB) (b:Nat) (v:CA) (f:Nat->CA):CA:=
 match Fm b N.keep 0 with
 | some b'=>f b'
 | none=>bif hasN b N.frz then match Yi mem b with
   | some blk=>I4 P blk v
   | none=>.undef
  else .undef
def Cx (P:Program) (mem:CI) (N:DB):Nat->CA->CA
 | 0,_=>.undef
 | d+1,v=>match v with
  | .ptr b o=>F0 P mem N b (.ptr b o) fun b'=>.ptr b' o
  | .sl b off len cap=>F0 P mem N b (.sl b off len cap) fun b'=>.sl b' off len cap
  | .sla b sz off len cap=>F0 P mem N b (.sla b sz off len cap) fun b'=>.sla b' sz off len cap
  | .epa b sz i fo=>F0 P mem N b (.epa b sz i fo) fun b'=>.epa b' sz i fo
  | .yld j=>match Fm j N.keep 0 with
   | some j'=>.yld j'
   | none=>.undef
  | .slv b sz off len=>match Fm b N.keep 0 with
   | some b'=>.slv b' sz off len
   | none=>.undef
  | .mapr b=>match Fm b N.keep 0 with
   | some b'=>.mapr b'
   | none=>.undef
  | .agg cs=>.agg (cs.map (Cx P mem N d))
  | .tup cs=>.tup (cs.map (Cx P mem N d))
  | .fn f cs=>.fn f (cs.map (Cx P mem N d))
  | .fnb f cs=>.fnb f (cs.map (Cx P mem N d))
  | .ifc t v=>.ifc t (Cx P mem N d v)
  | v=>v
def T.map (f:CA->CA) (t:T CA):T CA:=
 T.rec (motive:=fun _=>T CA) .leaf (fun v _ _ l r=>.node (f v) l r) t
def Ms (f:CA->CA) (env:T CA):zt->T CA
 | []=>.leaf
 | t::l=>T.set .undef (Ms f env l) t (f (T.get .undef env t))
def J0 (f:CA->CA) (env:T CA):Option zt->T CA
 | none=>T.map f env
 | some l=>Ms f env l
def Em (f:CA->CA):Cz->Cz
 | .flat g=>.flat g
 | .one r cs b=>.one r (cs.map f) (Em f b)
 | .alt c a b=>.alt c (Em f a) (Em f b)
def R0 (P:Program) (mem:CI) (N:DB):CG->CG
 | ⟨cells,ty,none⟩=>⟨cells.map (Cx P mem N 6),ty,none⟩
 | ⟨_,ty,some A⟩=>⟨rows A.n (Em (Cx P mem N 6) A.rw).get,ty,some ⟨A.sz,A.n,Em (Cx P mem N 6) A.rw⟩⟩
def RX :Cz->Bool
 | .flat g=>pd (∀i,(g i).all (pf 6)=true)
 | .one _ _ b=>RX b
 | .alt _ a b=>RX a&&RX b
def ZT (blk:CG):Bool:=match blk.arr with
 | none=>true
 | some A=>RX A.rw
def El (P:Program) (mem:CI) (N:DB):zt->Nat->CI×Bool
 | [],_=>(.leaf,true)
 | b::l,i=>match El P mem N l (i+1) with
  | (m,o)=>match Yi mem b with
   | none=>(m,o)
   | some blk=>(Wv m i (some (R0 P mem N blk)),ZT blk&&o)
def Eo (mem:CI):zt->Bool
 | []=>true
 | b::l=>match Yi mem b with
  | none=>Eo mem l
  | some blk=>(match blk.arr with
   | none=>blk.cells.all (pf 6)
   | some A=>pd (∀i,(A.get i).all (pf 6)=true))&&Eo mem l
def NJ (f:CA->CA) (lps:CO):zt->Nat->List (Option zt)->CO
 | [],_,_=>.leaf
 | b::l,i,sl=>match DX lps b with
  | none=>NJ f lps l (i+1) sl.tail
  | some ⟨st,pend,n,env,params,assign,body⟩=>Ft (NJ f lps l (i+1) sl.tail) i (some ⟨st,pend,n,J0 f env (sl.headD none),params,assign,body⟩)
def RL (keep:zt):Item->Option Item
 | .inRangeFunc j=>(Fm j keep 0).map .inRangeFunc
 | .endRangeFunc j=>(Fm j keep 0).map .endRangeFunc
 | x=>bif Mf x then some x else none
def Q0 (keep:zt):List Item->Option (List Item)
 | []=>some []
 | x::l=>match RL keep x,Q0 keep l with
  | some y,some m=>some (y::m)
  | _,_=>none
def TP (keep:zt):Option Nat->Option (Option Nat)
 | none=>some none
 | some j=>(Fm j keep 0).map some
def R8 (f:CA->CA) (keep:zt):List Cd->List (Option zt)->Option (List Cd)
 | [],_=>some []
 | ⟨cx,ro,todo,rnd,rs,env⟩::cs,sl=>match Q0 keep todo,TP keep rnd,R8 f keep cs sl.tail with
  | some todo',some rnd',some cs'=>some (⟨cx,ro,todo',rnd',rs,J0 f env (sl.headD none)⟩::cs')
  | _,_,_=>none
def Ga :zt->zt->Bool
 | [],_=>true
 | b::l,frz=> !hasN b frz&&(!hasN b l&&Ga l frz)
def Tf (P:Program) (N:DB):CJ->Option CJ
 | ⟨cx,ro,todo,rnd,rs,⟨env,mem,next,orc,ob⟩,cs,lps⟩=>
  match Q0 N.keep todo,TP N.keep rnd,R8 (Cx P mem N 6) N.keep cs N.slots.tail with
  | some todo',some rnd',some cs'=>
   bif Ga N.keep N.frz then
    match El P mem N N.keep 0 with
    | (mem',o)=>some ⟨cx,ro,todo',rnd',rs,⟨J0 (Cx P mem N 6) env (N.slots.headD none),mem',N.keep.length,[],o&&(Eo mem N.frz&&ob)⟩,cs',NJ (Cx P mem N 6) lps N.keep 0 N.lslots⟩
   else none
  | _,_,_=>none
def Gc :Code->zt->List Item->Code×List Item
 | c,[],k=>(c,k)
 | .seq a b,0::p,k=>Gc a p (.code b::k)
 | .seq _ b,_::p,k=>Gc b p k
 | .block id c,_::p,k=>Gc c p (.inBlock id::k)
 | .loop c,_::p,k=>Gc c p (.inLoop c::k)
 | .scope c,_::p,k=>Gc c p (.inScope c::k)
 | .cond _ a _,0::p,k=>Gc a p k
 | .cond _ _ b,_::p,k=>Gc b p k
 | .rangeFunc _ _ a b,0::p,_=>Gc a p [.beginRound,.code b]
 | .rangeFunc _ _ _ b,_::p,_=>Gc b p []
 | c,_::_,k=>(c,k)
def Zk (P:Program) (f:FuncId) (p:zt) (j:Nat):List Item:=match Gc (j1n P f) p [] with
 | (c,k)=>(.code c::k).drop j
def Xt (P:Program) (f:FuncId) (p:zt):Code:=(Gc (j1n P f) p []).1
def Wz (P:Program) (f:FuncId) (p:zt) (i:Nat):Option CY:=match Xt P f p with
 | .region _ ops _=>some (ops,i,ops.toList.drop i)
 | _=>none
def Td (P:Program) (S:CC) (Rc:CK) (n:Nat):CJ->Option CJ:=
 Nat.rec (motive:=fun _=>CJ->Option CJ) (fun C=>some C) (fun _ R C=>match Rf P S Rc C with
  | some C'=>R C'
  | none=>none) n
section
variable {P:Program}
theorem Jo {p:Prop} (h:pd p=true):p:= @Ay p (Classical.propDecidable p) h
theorem Xo {p:Prop} (h:p):pd p=true:= @Af p (Classical.propDecidable p) h
theorem x1l {b:Nat}: ∀{l:zt} {i j:Nat},Fm b l i=some j->i<=j/\l[j - i]? =some b
 | [],i,j,h=>by cases h
 | x::l,i,j,h=>by
  unfold Fm at h;rcases Uk h with ⟨hx,h⟩ | ⟨_,h⟩
  .simp_all
  .obtain ⟨h1,h2⟩:=x1l h
   grind
theorem XC {b:Nat}: ∀{l:zt},hasN b l=true↔b∈l
 | []=>by simp [hasN]
 | x::l=>by
  unfold hasN;cases hx:Nat.beq x b with
  | true=>simp [Ai hx]
  | false=>
   have:x≠b:=fun e=>by rw [e,BR] at hx;cases hx
   rw [Aa,XC,AN];exact ⟨.inr,fun h=>h.resolve_left fun e=>this e.symm⟩
theorem y8d : ∀{l frz:zt},Ga l frz=true->l.Nodup/\ ∀b∈l,b ∉ frz
 | [],_,_=>⟨List.nodup_nil,fun b hb=>by cases hb⟩
 | x::l,frz,h=>by
  unfold Ga at h;simp only [Ac,Bh] at h;obtain ⟨h1,h2,h3⟩:=h;obtain ⟨i1,i2⟩:=y8d h3;have n1:x ∉ frz:=fun hm=>by rw [XC.2 hm] at h1;cases h1
  have n2:x ∉ l:=fun hm=>by rw [XC.2 hm] at h2;cases h2
  exact ⟨List.nodup_cons.2 ⟨n2,i1⟩,fun b hb=>by
   rcases AN.1 hb with rfl | hb
   .exact n1
   .exact i2 b hb⟩
def Fz (ρ:CF) (mem:CI) (N:DB) (k:Nat):Prop:= ∃b l,b∈N.frz/\ρ b=some l/\(Yi mem b).isSome =true/\l.blk=k
def D1 (ρ:CF) (mem:CI) (N:DB) (w:World):CF:=
 ⟨fun b'=>(N.keep[b']?).bind fun b=>ρ b,fun k=> @ite _ (Fz ρ mem N k) (Classical.propDecidable _) (w.heap[k]?) (ρ.fz k),fun j'=>(N.keep[j']?).bind fun j=>ρ.lp j⟩
theorem S4 {ρ:CF} {mem:CI} {next:Nat} {w:World} (h:CH ρ mem next w) (N:DB) {k:Nat} {o:Obj} (e:ρ.fz k=some o):(D1 ρ mem N w).fz k=some o:=by
 show @ite _ (Fz ρ mem N k) (Classical.propDecidable _) (w.heap[k]?) (ρ.fz k)=some o;by_cases hf:Fz ρ mem N k
 .obtain ⟨b,l,_,hb,hm,rfl⟩:=hf;have:=h.sep b l hb hm
  grind
 grind
theorem w0f {ρ:CF} {mem:CI} {w:World} {N:DB} {b:Nat} {l:CZ} (hb:b∈N.frz) (hl:ρ b=some l) (hm:(Yi mem b).isSome =true):(D1 ρ mem N w).fz l.blk=w.heap[l.blk]? :=
 AF ⟨b,l,hb,hl,hm,rfl⟩
theorem SU {ρ:CF} {mem:CI} {next:Nat} {w:World} (h:CH ρ mem next w) (N:DB):ρ.bare.le (D1 ρ mem N w).bare :=⟨fun _ _ e=>(by cases e),fun _ _ e=>S4 h N e,fun _ _ e=>(by cases e)⟩
theorem Kw {ρ:CF} {mem:CI} {w:World} {N:DB} {b b':Nat} (h:Fm b N.keep 0=some b'):(D1 ρ mem N w) b'=ρ b/\(D1 ρ mem N w).lp b'=ρ.lp b:=by
 obtain ⟨_,h2⟩:=x1l h;rw [Nat.sub_zero] at h2;constructor
 .show (N.keep[b']?).bind _=_;rw [h2];rfl
 .show (N.keep[b']?).bind _=_;rw [h2];rfl
theorem WR {mem:CI}: ∀{frz:zt},Eo mem frz=true-> ∀b∈frz,∀blk,Yi mem b=some blk->(match blk.arr with | none=>blk.cells.all (pf 6)=true | some A=> ∀i,(A.get i).all (pf 6)=true)
 | [],_,b,hb,_,_=>by cases hb
 | x::l,h,b,hb,blk,hm=>by
  unfold Eo at h;rcases AN.1 hb with rfl | hb
  .rw [hm] at h;simp only [Ac] at h;cases hA:blk.arr with
   | none=>have:=h.1;rw [hA] at this;exact this
   | some A=>have:=h.1;rw [hA] at this;exact Jo this
  .cases hx:Yi mem x with
   | none=>rw [hx] at h;exact WR h b hb blk hm
   | some blk'=>rw [hx] at h;simp only [Ac] at h;exact WR h.2 b hb blk hm
theorem y7t {mem:CI} {next:Nat} {w:World} {ρ:CF} (h:CH ρ mem next w) {N:DB} (ho:Eo mem N.frz=true) {b:Nat} (hb:b∈N.frz) {blk:CG} (hm:Yi mem b=some blk) {l:CZ} (hl:ρ b=some l):
  ∃val:Nat->Value,∀(i:Nat) (hi:i<blk.cells.length),VRel (D1 ρ mem N w).bare blk.cells[i] (val i)/\HX (D1 ρ mem N w).fz l.blk (l.base+i) (val i):=by
 have hno:blk.isObj=false:=by
  cases hx:blk.isObj with
  | false=>rfl
  | true=>
   have hq:=WR ho b hb blk hm;obtain ⟨cells,ty,arr⟩:=blk;unfold CG.isObj at hx;split at hx
   .rename_i e;simp only [CG.mk.injEq] at e;obtain ⟨rfl,_,rfl⟩:=e;simp [pf] at hq
   .cases hx
 obtain ⟨_,hn,ht,har,cs,el,h1,h2,h3⟩:=(h.blk b l blk hl hm).at hno;refine ⟨fun i=>(cs[l.base+i]?).getD undef,fun i hi=> ?_⟩;obtain ⟨v,e1,e2⟩:=h3 i hi;have hpf:pf 6 blk.cells[i]=true:=by
  have:=WR ho b hb blk hm;cases hA:blk.arr with
  | none=>grind
  | some A=>
   rw [hA] at this;obtain ⟨q1,_,_⟩:=har A hA;have hmem:blk.cells[i]∈rows A.n A.get:=by grind
   grind [rows]
 dsimp only;rw [e1];refine ⟨(Jv 6 _ _ hpf e2).mono (SU h N),cs,el,(0,0),?_,e1⟩
 grind [w0f]
theorem v1d {mem:CI} {next:Nat} {w:World} {ρ:CF} (h:CH ρ mem next w) {N:DB} (ho:Eo mem N.frz=true) {b:Nat} (hb:b∈N.frz) {blk:CG} (hm:Yi mem b=some blk) {v:CA} {u:Value} (hv:VRel ρ v u)
  (hvb:(∃o,v=.ptr b o)\/(∃off len cap,v=.sl b off len cap)\/(∃sz off len cap,v=.sla b sz off len cap)\/ ∃sz i fo,v=.epa b sz i fo):VRel (D1 ρ mem N w) (I4 P blk v) u:=by
 rcases hvb with ⟨o,rfl⟩ | ⟨off,len,cap,rfl⟩ | ⟨sz,off,len,cap,rfl⟩ | ⟨sz,i,fo,rfl⟩
 .cases hv with
  | ptr _ _ l hl=>
   obtain ⟨val,fB⟩:=y7t h ho hb hm hl;refine .dptr _ _ _ (fun j=>val (o+j)) (fun j hj=> ?_) (fun j hj=> ?_);all_goals grind
 .simp only [I4];split
  .rename_i i hi;cases hc:Nat.ble (off+len*i.size) blk.cells.length with
   | false=>exact .undef _
   | true=>
    rw [Ab];have hle:=Ak hc;cases hv with
    | sl _ _ _ _ l c hl _ eK=>
     obtain ⟨val,fB⟩:=y7t h ho hb hm hl;have hin: ∀k,k<len->k*i.size+i.size<=len*i.size:=fun k hk=>by
      have:=AE i.size (show k+1<=len from hk)
      grind
     refine .dat len _ l.blk (l.base+off) i.size c (fun k j=>val (off+(k*i.size+j))) eK (fun k hk=> ?_) (fun k j hk hj=> ?_) (fun k j hk hj=> ?_);all_goals grind [ZR]
  .exact .undef _
 .simp only [I4];split
  .rename_i A hA;cases hc:(Nat.beq A.sz sz&&Nat.ble (off+len) A.n) with
   | false=>exact .undef _
   | true=>
    rw [Ab];simp only [Ac] at hc;obtain rfl:=Ai hc.1;have hle:=Ak hc.2;cases hv with
    | slan=>exact .datn _
    | sla _ _ _ _ _ l c hl _ eK=>
     obtain ⟨val,fB⟩:=y7t h ho hb hm hl;obtain ⟨q1,q2,q3⟩:=(h.blk b l blk hl hm).arr A hA;have gF:=Ym A.n q3;have fR: ∀k j,k<len->j<A.sz-> ∃hi:(off+k)*A.sz+j<blk.cells.length,blk.cells[(off+k)*A.sz+j]? =(A.get (off+k))[j]? :=fun k j hk hj=>by
      grind [Vk]
     refine .dat len _ l.blk (l.base+off*A.sz) A.sz c (fun k j=>val ((off+k)*A.sz+j)) eK (fun k hk=>q3 _ (by omega)) (fun k j hk hj=> ?_) (fun k j hk hj=> ?_);all_goals grind
  .exact .undef _
 .exact .undef _
theorem S2 {mem:CI} {next:Nat} {w:World} {ρ:CF} (h:CH ρ mem next w) {N:DB} (ho:Eo mem N.frz=true) {b:Nat} {v:CA} {u:Value} {f:Nat->CA} (hv:VRel ρ v u)
  (hvb:(∃o,v=.ptr b o)\/(∃off len cap,v=.sl b off len cap)\/(∃sz off len cap,v=.sla b sz off len cap)\/ ∃sz i fo,v=.epa b sz i fo)
  (hf: ∀b',Fm b N.keep 0=some b'->VRel (D1 ρ mem N w) (f b') u):VRel (D1 ρ mem N w) (F0 P mem N b v f) u:=by
 unfold F0;split
 .grind
 .cases hc:hasN b N.frz with
  | false=>exact .undef _
  | true=>
   rw [Ab];split
   .grind [v1d,XC]
   .exact .undef _
theorem Q8 {mem:CI} {next:Nat} {w:World} {ρ:CF} (h:CH ρ mem next w) {N:DB} (ho:Eo mem N.frz=true): ∀(d:Nat) (v:CA) (u:Value),VRel ρ v u->VRel (D1 ρ mem N w) (Cx P mem N d v) u
 | 0,_,_,_=>.undef _
 | d+1,v,u,hv=>by
  have ih:=fun v u=>Q8 h ho (N:=N) d v u;have list: ∀{cs:zy} {vs:Array Value},cs.length=vs.size->(∀(i:Nat) (h1:i<cs.length) (h2:i<vs.size),VRel ρ cs[i] vs[i])->
    (cs.map (Cx P mem N d)).length =vs.size/\ ∀(i:Nat) (h1:i<(cs.map (Cx P mem N d)).length) (h2:i<vs.size),VRel (D1 ρ mem N w) (cs.map (Cx P mem N d))[i] vs[i]:=fun hl hh=>
   ⟨by simpa using hl,fun i h1 h2=>by simpa using ih _ _ (hh i (by simpa using h1) h2)⟩
  unfold Cx;cases hv with
  | undef=>exact .undef _
  | bool b=>exact .bool b
  | int k n=>exact .int k n
  | str s=>exact .str s
  | agg cs vs hl hh=>exact .agg _ _ (list hl hh).1 (list hl hh).2
  | tup cs vs hl hh=>exact .tup _ _ (list hl hh).1 (list hl hh).2
  | fn f cs vs hl hh=>exact .fn f _ _ (list hl hh).1 (list hl hh).2
  | fnb f cs vs hl hh=>exact .fnb f _ _ (list hl hh).1 (list hl hh).2
  | ptr b o l hl=>exact S2 h ho (.ptr b o l hl) (.inl ⟨o,rfl⟩) fun b' hb'=>.ptr b' o l (by rw [(Kw hb').1];exact hl)
  | nilp=>exact .nilp
  | sl b off len cap l c hl hc eK=>exact S2 h ho (.sl b off len cap l c hl hc eK) (.inr (.inl ⟨off,len,cap,rfl⟩)) fun b' hb'=>.sl b' off len cap l c (by rw [(Kw hb').1];exact hl) hc eK
  | nils=>exact .nils
  | sla b sz off len cap l c hl hc eK=>exact S2 h ho (.sla b sz off len cap l c hl hc eK) (.inr (.inr (.inl ⟨sz,off,len,cap,rfl⟩))) fun b' hb'=>.sla b' sz off len cap l c (by rw [(Kw hb').1];exact hl) hc eK
  | slan b sz off cap=>exact S2 h ho (.slan b sz off cap) (.inr (.inr (.inl ⟨sz,off,0,cap,rfl⟩))) fun b' hb'=>.slan b' sz off cap
  | epa b sz i fo l hl=>exact S2 h ho (.epa b sz i fo l hl) (.inr (.inr (.inr ⟨sz,i,fo,rfl⟩))) fun b' hb'=>.epa b' sz i fo l (by rw [(Kw hb').1];exact hl)
  | nilf=>exact .nilf
  | yld j l hl=>
   simp only;split
   .rename_i j' hj';exact .yld j' l (by rw [(Kw hj').2];exact hl)
   .exact .undef _
  | slv b sz off len l c hl eK=>
   simp only;split
   .rename_i j' hj';exact .slv j' sz off len l c (by rw [(Kw hj').1];exact hl) eK
   .exact .undef _
  | slve b sz off blk base c=>
   simp only;split
   .exact .slve _ sz off blk base c
   .exact .undef _
  | slvn b sz off=>
   simp only;split
   .exact .slvn _ sz off
   .exact .undef _
  | ifc t a v hv=>exact .ifc t _ _ (ih _ _ hv)
  | nili=>exact .nili
  | mapr b l hl=>
   simp only;split
   .rename_i j' hj';exact .mapr j' l (by rw [(Kw hj').1];exact hl)
   .exact .undef _
  | ifbt=>exact .ifbt
  | ifbf t v=>exact .ifbf t v
  | dat len get blk base sz cap val eT hsz hv hh=>refine .dat len get blk base sz cap val eT hsz (fun i j hi hj=>(hv i j hi hj).mono (SU h N)) (fun i j hi hj=> ?_);obtain ⟨cs,el,fz,e1,e2⟩:=hh i j hi hj;exact ⟨cs,el,fz,S4 h N e1,e2⟩
  | datn get=>exact .datn get
  | datz get a c=>exact .datz get a c
  | nnl len get a c hd=>exact .nnl len get a c ((Jv 1 _ _ rfl hd).mono (CF.le_trans (SU h N) (Sd _)))
  | dptr cs blk base val hv hh=>refine .dptr cs blk base val (fun j hj=>(hv j hj).mono (SU h N)) (fun j hj=> ?_);obtain ⟨cs',el,fz,e1,e2⟩:=hh j hj;exact ⟨cs',el,fz,S4 h N e1,e2⟩
theorem T.get_map {f:CA->CA} (hf:f .undef =.undef): ∀(t:T CA) (i:Nat),T.get .undef (T.map f t) i=f (T.get .undef t i)
 | .leaf,i=>hf.symm
 | .node v l r,0=>rfl
 | .node v l r,i+1=>by
  show T.get .undef (.node (f v) (T.map f l) (T.map f r)) (i+1)=_;rw [T.get_succ,T.get_succ];split
  .exact T.get_map hf l _
  .exact T.get_map hf r _
theorem y2g {f:CA->CA} (env:T CA): ∀(L:zt) (t:Nat),T.get .undef (Ms f env L) t=if t∈L then f (T.get .undef env t) else .undef
 | [],t=>by simp [Ms]
 | x::L,t=>by
  unfold Ms;rw [T.get_set,y2g env L t];by_cases h:t=x
  .subst h;simp
  .simp [h]
theorem w5r {mem:CI} {next:Nat} {w:World} {ρ:CF} (h:CH ρ mem next w) {N:DB} (ho:Eo mem N.frz=true) {env:T CA} {n:Nat} {tmps:Array Value} (he:Vx ρ env n tmps): ∀(L:Option zt),Vx (D1 ρ mem N w) (J0 (Cx P mem N 6) env L) n tmps
 | none=>by
  refine ⟨he.size,fun i=> ?_,fun i hi=> ?_⟩
  .show VRel _ (T.get .undef (T.map (Cx P mem N 6) env) i) _;rw [T.get_map rfl];exact Q8 h ho 6 _ _ (he.get i)
  .show T.get .undef (T.map (Cx P mem N 6) env) i=_;rw [T.get_map rfl,he.out i hi];rfl
 | some L=>by
  refine ⟨he.size,fun i=> ?_,fun i hi=> ?_⟩
  .show VRel _ (T.get .undef (Ms (Cx P mem N 6) env L) i) _;rw [y2g];split
   .exact Q8 h ho 6 _ _ (he.get i)
   .exact .undef _
  .show T.get .undef (Ms (Cx P mem N 6) env L) i=_;rw [y2g,he.out i hi];split <;> rfl
theorem x6s {mem:CI} {N:DB}: ∀(l:zt) (i j:Nat),Yi (El P mem N l i).1 j=if i<=j then (l[j - i]?).bind fun b=>(Yi mem b).map (R0 P mem N) else none
 | [],i,j=>by simp [El,Yi]
 | b::l,i,j=>by
  unfold El;have ih:=x6s (mem:=mem) (N:=N) l (i+1);have tail:i<j->(b::l)[j - i]? =l[j - (i+1)]? :=fun h=>by rw [show j - i=(j - (i+1))+1 by omega];rfl
  cases hm:Yi mem b with
  | none=>
   show Yi (El P mem N l (i+1)).1 j=_;rw [ih];rcases Bu i j with h | h | h
   .rw [AF (by omega),AF (by omega),tail h]
   .subst h;rw [Az (by omega),AF (by omega)];simp [hm]
   .rw [Az (by omega),Az (by omega)]
  | some blk=>
   show Yi (Wv (El P mem N l (i+1)).1 i (some (R0 P mem N blk))) j=_;rw [Vc,ih];rcases Bu i j with h | h | h
   .rw [Az (by omega),AF (by omega),AF (by omega),tail h]
   .subst h;rw [AF rfl,AF (by omega)];simp [hm]
   .rw [Az (by omega),Az (by omega),Az (by omega)]
theorem y2f {mem:CI} {N:DB}: ∀(l:zt) (i:Nat),(El P mem N l i).2=true-> ∀b∈l,∀blk,Yi mem b=some blk->ZT blk=true
 | [],i,_,b,hb,_,_=>by cases hb
 | x::l,i,h,b,hb,blk,hm=>by
  unfold El at h;cases hx:Yi mem x with
  | none=>
   rw [hx] at h;rcases AN.1 hb with rfl | hb
   .rw [hx] at hm;cases hm
   .exact y2f l (i+1) h b hb blk hm
  | some blk'=>
   rw [hx] at h;have h:(ZT blk'&&(El P mem N l (i+1)).2)=true:=h;simp only [Ac] at h;rcases AN.1 hb with rfl | hb
   .rw [hx] at hm;obtain rfl:=Ag hm;exact h.1
   .exact y2f l (i+1) h.2 b hb blk hm
theorem SP {f:CA->CA} {lps:CO}: ∀(l:zt) (i:Nat) (sl:List (Option zt)) (j:Nat) (L:DQ),DX (NJ f lps l i sl) j=some L->i<=j/\ ∃b L0 x,l[j - i]? =some b/\DX lps b=some L0/\L=⟨L0.st,L0.pend,L0.n,J0 f L0.env x,L0.params,L0.assign,L0.body⟩
 | [],i,sl,j,L,h=>by cases h
 | b::l,i,sl,j,L,h=>by
  unfold NJ at h;split at h
  .obtain ⟨h1,b',L0,x,h2,h3,h4⟩:=SP l (i+1) _ j L h
   grind
  .rename_i st pend n env params assign body hb;rw [show DX (Ft (NJ f lps l (i+1) sl.tail) i (some ⟨st,pend,n,J0 f env (sl.headD none),params,assign,body⟩)) j=if j=i then some ⟨st,pend,n,J0 f env (sl.headD none),params,assign,body⟩ else DX (NJ f lps l (i+1) sl.tail) j from T.get_set none _ i _ j] at h;by_cases hj:j=i
   .subst hj;rw [AF rfl] at h;obtain rfl:=Ag h;exact ⟨Aq _,b,_,_,by simp,hb,rfl⟩
   .rw [Az hj] at h;obtain ⟨h1,b',L0,x,h2,h3,h4⟩:=SP l (i+1) _ j L h
    grind
theorem w0n {mem:CI} {w:World} {ρ:CF} {N:DB} {x x' y:Item} (h:RL N.keep x=some x') (hx:Es ρ x y):Es (D1 ρ mem N w) x' y:=by
 cases hx with
 | inR j l e=>simp only [RL,Ar] at h;obtain ⟨j',hj,rfl⟩:=h;exact .inR j' l (by rw [(Kw hj).2];exact e)
 | endR j l e=>simp only [RL,Ar] at h;obtain ⟨j',hj,rfl⟩:=h;exact .endR j' l (by rw [(Kw hj).2];exact e)
 | same x hp=>
  have:RL N.keep x=some x:=by
   unfold RL;split
   .cases hp
   .cases hp
   grind
  rw [this] at h;obtain rfl:=Ag h;exact .same _ hp
theorem y3f {mem:CI} {w:World} {ρ:CF} {N:DB}: ∀{l l' m:List Item},Q0 N.keep l=some l'->D9 ρ l m->D9 (D1 ρ mem N w) l' m
 | [],l',m,h,ht=>by cases ht;obtain rfl:=Ag h;exact .nil
 | x::l,l',m,h,ht=>by
  cases ht with
  | cons hx ht=>
   unfold Q0 at h;split at h
   .rename_i y k hy hk;obtain rfl:=Ag h;exact .cons (w0n hy hx) (y3f hk ht)
   .cases h
theorem w5q {mem:CI} {next:Nat} {w:World} {ρ:CF} (h:CH ρ mem next w) {N:DB} (ho:Eo mem N.frz=true) {cx:CN} {ro:Option CY} {todo todo':List Item} {rnd rnd':Option Nat} {env:T CA} {b:Frame} {a:Act} {k:List Item} {ms:zt} (ht:Q0 N.keep todo=some todo') (hr:TP N.keep rnd=some rnd')
  (hf:Fr ρ cx ro todo rnd env b a k ms) (L:Option zt):Fr (D1 ρ mem N w) cx ro todo' rnd' (J0 (Cx P mem N 6) env L) b a k ms/\(rnd'=none->rnd=none):=by
 refine ⟨⟨w5r h ho hf.env L,hf.defers,y3f ht hf.todo,hf.ro,?_⟩,fun e=> ?_⟩
 .have hrn:=hf.rnd;cases rnd with
  | none=>obtain rfl:=Ag hr;exact hrn
  | some j=>simp only [TP,Ar] at hr;obtain ⟨j',hj,rfl⟩:=hr;obtain ⟨h0,l,h1,h2⟩:=hrn;exact ⟨h0,l,by rw [(Kw hj).2];exact h1,h2⟩
 .cases rnd with
  | none=>rfl
  | some j=>simp_all [TP]
theorem x5y {mem:CI} {next:Nat} {w:World} {ρ:CF} (h:CH ρ mem next w) {N:DB} (ho:Eo mem N.frz=true): ∀{cs cs':List Cd} {sl:List (Option zt)} {css:List Frame} {mss:zt},R8 (Cx P mem N 6) N.keep cs sl=some cs'->Fq P ρ cs css mss->Fq P (D1 ρ mem N w) cs' css mss/\(cs'≠ []->cs≠ [])
 | [],cs',sl,css,mss,hc,hr=>by cases hr;obtain rfl:=Ag hc;exact ⟨.nil,id⟩
 | af::cs,cs',sl,css,mss,hc,hr=>by
  cases hr with
  | cons hf hl ht=>
   unfold R8 at hc;split at hc
   .rename_i todo' rnd' cs'' h1 h2 h3;obtain rfl:=Ag hc;obtain ⟨i1,i2⟩:=x5y h ho h3 ht;obtain ⟨f1,f2⟩:=w5q (P:=P) h ho h1 h2 hf (sl.headD none);exact ⟨.cons f1 (fun hne=>⟨(hl (i2 hne)).1,fun e=>(hl (i2 hne)).2 (f2 e)⟩) i1,fun _=>by simp⟩
   .cases hc
def MK (ρ ρ':CF) (L L':zy):Prop:=L'.length=L.length/\ ∀(j:Nat) (h1:j<L.length) (h2:j<L'.length) (v:Value),VRel ρ L[j] v->VRel ρ' L'[j] v
theorem WG {mem:CI} {next:Nat} {w:World} {ρ:CF} (h:CH ρ mem next w) {N:DB} (ho:Eo mem N.frz=true): ∀(rw1:Cz),RX rw1=true-> ∀k,MK ρ (D1 ρ mem N w) (rw1.get k) ((Em (Cx P mem N 6) rw1).get k)
 | .flat g,hf,k=>by refine ⟨rfl,fun j h1 h2 v hv=> ?_⟩;have fJ: ∀i,(g i).all (pf 6)=true:=Jo hf;exact ((Jv 6 _ _ (As.1 (fJ k) _ (AU h1)) hv).mono (SU h N)).mono (Sd _)
 | .one r cs b,hf,k=>by
  have ih:=WG h ho (N:=N) b hf k;have hc:MK ρ (D1 ρ mem N w) cs (cs.map (Cx P mem N 6)):=⟨by simp,fun j h1 h2 v hv=>by simpa using Q8 h ho 6 _ _ hv⟩
  simp only [Em,Cz.get];cases Nat.beq k r with
  | true=>exact hc
  | false=>exact ih
 | .alt c a b,hf,k=>by
  simp only [RX,Ac] at hf;have iha:=WG h ho (N:=N) a hf.1 k;have ihb:=WG h ho (N:=N) b hf.2 k;simp only [Em,Cz.get];cases c k with
  | true=>exact iha
  | false=>exact ihb
theorem w9r {mem:CI} {next:Nat} {w:World} {ρ:CF} (h:CH ρ mem next w) {N:DB} (ho:Eo mem N.frz=true) (hd:Ga N.keep N.frz=true) (hfl:(El P mem N N.keep 0).2=true):CH (D1 ρ mem N w) (El P mem N N.keep 0).1 N.keep.length w:=by
 obtain ⟨hnd,hdj⟩:=y8d hd;have get: ∀j,Yi (El P mem N N.keep 0).1 j=(N.keep[j]?).bind fun b=>(Yi mem b).map (R0 P mem N):=fun j=>by
  grind [x6s]
 have blk: ∀{b' l},(D1 ρ mem N w) b'=some l-> ∃b,N.keep[b']? =some b/\ρ b=some l:=fun {b' l} e=>by
  have e:(N.keep[b']?).bind (fun b=>ρ b)=some l:=e
  grind
 have live: ∀{b' b},N.keep[b']? =some b->(Yi (El P mem N N.keep 0).1 b').isSome =true->(Yi mem b).isSome =true:=fun {b' b} e hs=>by
  grind
 refine ⟨fun b' l e=> ?_,fun b' b'' l l' e e' hbl hs hs'=> ?_,fun b' l ab e hm=> ?_,fun k o e=> ?_,fun b' l e hs=> ?_,fun b' l e=> ?_,fun b' hb=> ?_,fun j l e=> ?_,h.ldom.2.mono fun k o e=>S4 h N e⟩
 .grind
 .obtain ⟨b,e1,e2⟩:=blk e;obtain ⟨c,e3,e4⟩:=blk e';have:=h.inj b c l l' e2 e4 hbl (live e1 hs) (live e3 hs');subst this;exact (List.getElem?_inj (Bf.1 e1).1 hnd).1 (e1.trans e3.symm)
 .obtain ⟨b,e1,e2⟩:=blk e;rw [get,e1] at hm;simp only [Option.bind_some,Ar] at hm;obtain ⟨ab0,hm0,rfl⟩:=hm;cases h.blk b l ab0 e2 hm0 with
  | obj o r ty hab hn hh=>
   subst hab;refine .obj o (r.map (Cx P mem N 6)) ty rfl (by rw [hn];simp) ?_;cases o with
   | mi ml=>obtain ⟨rfl,k⟩:=hh;exact ⟨rfl,k⟩
   | mb ml=>obtain ⟨rfl,k⟩:=hh;exact ⟨rfl,k⟩
   | it s pos=>obtain ⟨rfl,k⟩:=hh;exact ⟨rfl,k⟩
   | bld=>obtain ⟨buf,v,p,rfl,k1,k2,k3⟩:=hh;exact ⟨_,v,p,rfl,k1,Q8 h ho 6 _ _ k2,k3⟩
  | plain hpl=>
  obtain ⟨hty,hn,ht,har,cs,el,g1,g2,g3⟩:=hpl;obtain ⟨cells,ty,arr⟩:=ab0;cases arr with
  | none=>
   refine .plain ⟨hty,by simpa [R0] using hn,ht,(fun A hA=>by cases hA),cs,el,g1,g2,fun i hi=> ?_⟩
   grind [R0,Q8]
  | some A=>
   obtain ⟨a1,a2,a3⟩:=har A rfl;simp only at a1;have hfb:ZT ⟨cells,ty,some A⟩=true:=y2f N.keep 0 hfl b (List.mem_of_getElem? e1) _ hm0;have fR:=WG (P:=P) h ho (N:=N) A.rw hfb;have hl': ∀i,i<A.n->((Em (Cx P mem N 6) A.rw).get i).length =A.sz:=fun i hi=>by rw [(fR i).1];exact a3 i hi
   have k1:=Ym A.n a3;have k2:=Ym A.n hl';refine .plain ⟨hty,by show l.n=(rows A.n _).length;grind,ht,(fun B hB=>by obtain rfl:=Ag hB;exact ⟨rfl,a2,hl'⟩),cs,el,g1,g2,fun i hi=> ?_⟩;have hi':i<A.n*A.sz:=by rw [<-k2];exact hi
   have hj:i %A.sz<A.sz:=BA _ a2;have hq:i / A.sz<A.n:=Bl (by grind);have e:i / A.sz*A.sz+i %A.sz=i:=by rw [BJ];exact BB i A.sz
   have hic:i<cells.length:=by grind
   have r1:=Vk A.n a3 (i / A.sz) (i %A.sz) hq hj;have r2:=Vk A.n hl' (i / A.sz) (i %A.sz) hq hj;rw [e] at r1 r2;have hi2:i<(rows A.n (Em (Cx P mem N 6) A.rw).get).length :=hi;have j1:i %A.sz<(A.rw.get (i / A.sz)).length :=by rw [show A.rw.get=A.get from rfl,a3 _ hq];exact hj
   have j2:i %A.sz<((Em (Cx P mem N 6) A.rw).get (i / A.sz)).length :=by grind
   obtain ⟨v,q1,q2⟩:=g3 i hic;have s1:cells[i]=(A.rw.get (i / A.sz))[i %A.sz]:=by
    have:cells[i]? =some (A.rw.get (i / A.sz))[i %A.sz]:=by rw [a1,r1,show A.get=A.rw.get from rfl,At j1]
    grind
   have s2:(rows A.n (Em (Cx P mem N 6) A.rw).get)[i]'hi2=((Em (Cx P mem N 6) A.rw).get (i / A.sz))[i %A.sz]:=by
    grind
   refine ⟨v,q1,?_⟩;show VRel _ ((rows A.n (Em (Cx P mem N 6) A.rw).get)[i]'hi2) v;rw [s2];refine (fR _).2 _ j1 j2 v ?_
   grind
 .have e: @ite _ (Fz ρ mem N k) (Classical.propDecidable _) (w.heap[k]?) (ρ.fz k)=some o:=e;by_cases hf:Fz ρ mem N k
  .grind
  .rw [Az hf] at e;exact h.old k o e
 .obtain ⟨b,e1,e2⟩:=blk e;have hs0:=live e1 hs;have hnf: ¬Fz ρ mem N l.blk:=fun ⟨c,l',c1,c2,c3,c4⟩=>by
   have:=h.inj c b l' l c2 e2 c4 c3 hs0
   grind
  show @ite _ (Fz ρ mem N l.blk) (Classical.propDecidable _) (w.heap[l.blk]?) (ρ.fz l.blk)=none;rw [Az hnf];exact h.sep b l e2 hs0
 .obtain ⟨b,_,e2⟩:=blk e;exact h.real b l e2
 .grind
 .have e:(N.keep[j]?).bind (fun b=>ρ.lp b)=some l:=e;have:=h.ldom.1
  grind
theorem UD {H:EK} {mem:CI} {next:Nat} {w0 w:World} {ρ:CF} (h:CH ρ mem next w) {N:DB} (he:Ev (rhoOf H) ρ 0 .leaf 0 mem next w0 w) (mem':CI) (next':Nat):Ev (rhoOf H) (D1 ρ mem N w) 0 .leaf 0 mem' next' w0 w:=
 ⟨⟨fun b l e=>(by cases e),fun k o e=>S4 h N (he.ext.2.1 k o e),fun j l e=>(by cases e)⟩,fun b hb=>absurd hb (AD _),AA _,fun b hb=>absurd hb (AD _),he.frame,fun b l _ e=>by
   have e:(N.keep[b]?).bind (fun b=>ρ b)=some l:=e;rw [B0] at e;obtain ⟨c,_,e2⟩:=e;exact he.fresh c l (AA _) e2,he.size,he.os,he.tape,he.output,fun k hk=>by
   have hnf: ¬Fz ρ mem N k:=fun ⟨b,l,_,e2,_,e4⟩=>by
    rcases he.fresh b l (AA _) e2 with h1 | ⟨b0,l0,e0,_⟩
    .omega
    .cases e0
   show @ite _ (Fz ρ mem N k) (Classical.propDecidable _) (w.heap[k]?) (ρ.fz k)=_;rw [Az hnf];exact he.still k hk⟩
def Cn (P:Program) (C C':CJ):Prop:=
 ∀(H:EK) (w0:World) (ρ:CF) (b:Frame) (a:Act) (k:List Item) (css:List Frame) (w:World) (ma mb:zt),O7 P w0.heap.size C ρ b a k css w ma mb->Ev (rhoOf H) ρ 0 .leaf 0 C.st.mem C.st.next w0 w-> ∀cs0:List Frame,
  ∃ρ' b' a' k' css' w' ma' mb',Steps P (lone (b.atR a (Va C.ro k)) (css++cs0) w) (lone (b'.atR a' (Va C'.ro k')) (css'++cs0) w')/\O7 P w0.heap.size C' ρ' b' a' k' css' w' ma' mb'/\Ev (rhoOf H) ρ' 0 .leaf 0 C'.st.mem C'.st.next w0 w'/\NF b' css'=NF b css/\w.heap.size<=w'.heap.size
theorem Cn.refl (C:CJ):Cn P C C:=fun H w0 ρ b a k css w ma mb hs he cs0=>⟨ρ,b,a,k,css,w,ma,mb,Steps.refl _ _,hs,he,rfl,Aq _⟩
theorem Cn.trans {A B C:CJ} (h:Cn P A B) (k:Cn P B C):Cn P A C:=by intro H w0 ρ b a t css w ma mb hs he cs0;obtain ⟨ρ1,b1,a1,t1,css1,w1,ma1,mb1,s1,r1,e1,q1,z1⟩:=h H w0 ρ b a t css w ma mb hs he cs0;obtain ⟨ρ2,b2,a2,t2,css2,w2,ma2,mb2,s2,r2,e2,q2,z2⟩:=k H w0 ρ1 b1 a1 t1 css1 w1 ma1 mb1 r1 e1 cs0;exact ⟨ρ2,b2,a2,t2,css2,w2,ma2,mb2,s1.trans s2,r2,e2,q2.trans q1,AI z1 z2⟩
theorem FK.goes {C C':CJ} (h:FK P 0 C C'):Cn P C C':=fun H w0 ρ b a k css w ma mb hs he cs0=>h .leaf 0 (rhoOf H) w0 ρ b a k css w ma mb hs he cs0
def Rq (C:CJ):Bool:=Nat.beq C.cx.floor 0&&C.cs.all fun af=>Nat.beq af.cx.floor 0
theorem w7c {C:CJ} (h:Rq C=true):Fl 0 C:=by unfold Rq at h;simp only [Ac] at h;exact ⟨Ai h.1,fun af haf=>Ai (As.1 h.2 af haf),AA _⟩
theorem y6r {f:CA->CA} {keep:zt} {fl:Nat}: ∀{cs cs':List Cd} {sl:List (Option zt)},R8 f keep cs sl=some cs'->(∀af∈cs,af.cx.floor=fl)-> ∀af∈cs',af.cx.floor=fl
 | [],cs',sl,h,_,af,haf=>by obtain rfl:=Ag h;cases haf
 | a0::cs,cs',sl,h,hcs,af,haf=>by
  unfold R8 at h;split at h
  .rename_i t1 r1 c1 g1 g2 g3;obtain rfl:=Ag h;rcases AN.1 haf with rfl | haf
   .grind
   .exact y6r g3 (fun x hx=>hcs x (Bb _ hx)) af haf
  .cases h
theorem x0z {N:DB} {C C':CJ} (h:Tf P N C=some C') (ho:C'.st.ob=true):C.st.ob=true/\Cn P C C'/\(Fl 0 C->Fl 0 C'):=by
 obtain ⟨cx,ro,todo,rnd,rs,⟨env,mem,next,orc,ob⟩,cs,lps⟩:=C;simp only [Tf] at h;split at h
 .rename_i todo' rnd' cs' h1 h2 h3;obtain ⟨hd,h⟩:=Zi h;obtain rfl:=Ag h;simp only [Ac] at ho;obtain ⟨hkm,ho2,ho3⟩:=ho;refine ⟨ho3,fun H w0 ρ b a k css w ma mb hs he cs0=> ?_,fun hfl=>⟨hfl.cx,fun af haf=> ?_,AA _⟩⟩
  .have eI:=hs.rel;simp only at eI he;obtain ⟨f1,f2⟩:=w5q (P:=P) eI ho2 h1 h2 hs.top (N.slots.headD none);obtain ⟨c1,c2⟩:=x5y (P:=P) eI ho2 h3 hs.rest.cs;refine ⟨D1 ρ mem N w,b,a,k,css,w,ma,mb,Steps.refl _ _,⟨f1,fun hne=>⟨(hs.lv (c2 hne)).1,fun e=>(hs.lv (c2 hne)).2 (f2 e)⟩,⟨c1,hs.rest.nodup,fun r hr=> ?_,fun j L hL=> ?_,fun j j' L L' l hL hL' e e'=> ?_⟩,?_⟩,UD eI he _ _,rfl,Aq _⟩
   .obtain ⟨q1,⟨q2,q3,q4⟩,q5⟩:=hs.rest.marks r hr;refine ⟨q1,⟨q2,?_,fun b' l e=> ?_⟩,q5⟩
    .show @ite _ (Fz ρ mem N r) (Classical.propDecidable _) (w.heap[r]?) (ρ.fz r)=none;rw [Az fun ⟨c,l,_,e2,_,e4⟩=>q4 c l e2 e4];exact q3
    .have e:(N.keep[b']?).bind (fun b=>ρ b)=some l:=e
     grind
   .obtain ⟨_,c,L0,x,e1,e2,rfl⟩:=SP N.keep 0 _ j L hL;rw [Nat.sub_zero] at e1;obtain ⟨l,q1,q2,⟨q3,q4,q5⟩,tm,fn',d,q6,q7⟩:=hs.rest.loops c L0 e2;refine ⟨l,?_,q2,⟨q3,?_,fun b' l' e=> ?_⟩,tm,fn',d,q6,w5r (P:=P) eI ho2 q7 x⟩
    .show (N.keep[j]?).bind (fun b=>ρ.lp b)=some l
     grind
    .show @ite _ (Fz ρ mem N l) (Classical.propDecidable _) (w.heap[l]?) (ρ.fz l)=none;rw [Az fun ⟨c,l,_,e2,_,e4⟩=>q5 c l e2 e4];exact q4
    .have e:(N.keep[b']?).bind (fun b=>ρ b)=some l':=e
     grind
   .obtain ⟨_,c,L0,x,e1,e2,rfl⟩:=SP N.keep 0 _ j L hL;obtain ⟨_,c',L0',x',e1',e2',rfl⟩:=SP N.keep 0 _ j' L' hL';rw [Nat.sub_zero] at e1 e1';have e:(N.keep[j]?).bind (fun b=>ρ.lp b)=some l:=e;have e':(N.keep[j']?).bind (fun b=>ρ.lp b)=some l:=e';rw [e1] at e;rw [e1'] at e';have:=hs.rest.inj c c' L0 L0' l e2 e2' e e';subst this;exact (List.getElem?_inj (Bf.1 e1).1 (y8d hd).1).1 (e1.trans e1'.symm)
   .exact w9r eI ho2 hd hkm
  .exact y6r h3 hfl.cs af haf
 .cases h
theorem y7n {S:CC} {Rc:CK} (hN:EL P) (hmx:P.follows .mixedOrders =true) (hS:Zu P S) (hCI:Et Rc) (hC:Gd P Rc) {fl:Nat}: ∀(n:Nat) (C C':CJ),Fl fl C->Td P S Rc n C=some C'->Fl fl C'/\Xd fl C.st C'.st/\(C'.st.ob=true->FK P fl C C')
 | 0,C,C',hfl,h=>by
  obtain rfl:=Ag h
  grind [Xd.refl,FK.refl]
 | n+1,C,C',hfl,h=>by
  have h:(match Rf P S Rc C with
   | some C'=>Td P S Rc n C'
   | none=>none)=some C':=h
  split at h
  .rename_i C1 h1;have s1:=x5h hN hmx hS hCI hC hfl h1;obtain ⟨f1,f4,f5⟩:=y7n hN hmx hS hCI hC n C1 C' s1.fls h;exact ⟨f1,s1.inv.trans f4,fun ho=>(s1.leads (f4.ob ho)).trans (f5 ho)⟩
  .cases h
theorem stretch {S:CC} (hN:EL P) (hmx:P.follows .mixedOrders =true) (hS:Zu P S) {n m d:Nat} {N:DB} {C C':CJ} (h:(Td P S (J2 P S m d) n C).bind (Tf P N)=some C') (ho:C'.st.ob=true) (hfl:Rq C=true):Cn P C C'/\C.st.ob=true:=by rw [B0] at h;obtain ⟨C1,h1,h2⟩:=h;obtain ⟨hCI,hC⟩:=x9r hN hmx hS m d;obtain ⟨f1,f2,f3⟩:=y7n hN hmx hS hCI hC n C C1 (w7c hfl) h1;obtain ⟨g1,g2,_⟩:=x0z h2 ho;exact ⟨(f3 g1).goes.trans g2,f2.ob g1⟩
def Zb (P:Program) (f:FuncId) (args:zy) (sym:Bool) (orc:List Bool):CJ:=
 match P.funcs[f]? with
 | some fn=>⟨⟨Nat.max fn.ntmps args.length,0,sym⟩,none,[.code (fn.body.getD .ret)],none,fn.results.toList,⟨FO args 0 .leaf,.leaf,0,orc,true⟩,[],.leaf⟩
 | none=>⟨⟨0,0,sym⟩,none,[],none,[],⟨.leaf,.leaf,0,[],true⟩,[],.leaf⟩
theorem goes_call {f:FuncId} {args:zy} {sym:Bool} {orc:List Bool} {C':CJ} {vs:zy} {H:EK} (hf:(P.funcs[f]?).any (fun fn=>fn.body.isSome)=true) (h:Cn P (Zb P f args sym orc) C') (hfin:Gh C'=true) (hob:(Kk P C'.st (Zb P f args sym orc).rs)=some vs)
  {vals:Array Value} {w:World} (eN:Vf (VRel (rhoOf H)) args vals.toList) (hH: ∀k o,H k=some o->w.heap[k]? =some o) (hG:Glob H):
  Calls P f vals w fun e w'=> ∃ρ u,e=.returned u/\Out H w ρ (Jd vs) u w':=by
 cases hfn:P.funcs[f]? with
 | none=>grind
 | some fn=>
  rw [hfn] at hf;have hf:fn.body.isSome=true:=hf;obtain ⟨body,hb⟩:=BX.1 hf;have hstart:Zb P f args sym orc=⟨⟨Nat.max fn.ntmps args.length,0,sym⟩,none,[.code body],none,fn.results.toList,⟨FO args 0 .leaf,.leaf,0,orc,true⟩,[],.leaf⟩:=by unfold Zb;grind
  rw [hstart] at h hob;simp only at hob;intro cs;obtain ⟨ρ',b',a',k',css',w',ma',mb',s1,r1,v1,q1,_⟩:=h H w (rhoOf H) ⟨f, #[],[],[],.run,.normal,none⟩ {tmps:=vals++Array.replicate (fn.ntmps - vals.size) undef,defers:=[]} [.code body] [] w [] []
   ⟨⟨y7x eN fn.ntmps,rfl,.cons (.same _ rfl) .nil,trivial,rfl⟩,fun h=>absurd rfl h,x0t _ _ _,x5z hH hG⟩ (Ev.refl _ _ _ _ _ (x5z hH hG).dom) cs
  obtain ⟨e1,e2,e3,e4⟩:=y7w hfin;have hcs:=r1.rest.cs;rw [e3] at hcs;cases hcs;obtain ⟨w2,s2,henv',fH,fZ,_,_⟩:=y8b r1 e1 e2 e4 rfl v1 cs;obtain ⟨u,hu,gP⟩:=z3h (fn:=fn) henv' fH hob;have q:(b'.fn,b'.kind,b'.roundOf)=(f,CallKind.normal,none):=q1;simp only [Ad] at q;have hen:Frame.enter P f vals .normal =Frame.atR ⟨f, #[],[],[],.run,.normal,none⟩ {tmps:=vals++Array.replicate (fn.ntmps - vals.size) undef,defers:=[]} (Va none [.code body]):=by
   grind [Frame.enter,Frame.atR,Va]
  refine ⟨.returned u,w2,{b'.atR {a' with defers:=[]} k' with mode:=.returning},⟨ρ',u,rfl,OJ hu fH fZ⟩,?_,q.1,rfl,rfl,q.2.1,fn,by show P.funcs[b'.fn]? =_;grind,gP⟩;rw [hen];exact s1.trans s2
end
def Wf :List CG->Nat->CI
 | [],_=>.leaf
 | b::l,i=>Wv (Wf l (i+1)) i (some b)
def Dd (c:Nat->Int):Nat->zy:=fun i=>[.int .i64 (c i)]
def CJ.withO :CJ->List Bool->CJ
 | ⟨cx,ro,todo,rnd,rs,⟨env,mem,next,_,_⟩,cs,lps⟩,o=>⟨cx,ro,todo,rnd,rs,⟨env,mem,next,o,true⟩,cs,lps⟩
def CJ.withB :CJ->Bool->CJ
 | ⟨cx,ro,todo,rnd,rs,⟨env,mem,next,_,_⟩,cs,lps⟩,b=>⟨cx,ro,todo,rnd,rs,⟨env,mem,next,[],b⟩,cs,lps⟩
inductive Xk (σ:Type) where
 | stuck
 | ret (vs:zy)
 | to (s:σ)
def Ji (P:Program) (rs:List ResultVar) (C:CJ) (vs:zy):Prop:= ∃C',Cn P C C'/\Gh C'=true/\Kk P C'.st rs=some vs
def Xh (P:Program) (rs:List ResultVar) {σ:Type} (cfg:σ->CJ) (C:CJ):Xk σ->Prop
 | .stuck =>True
 | .ret vs=>Ji P rs C vs
 | .to s=>Cn P C (cfg s)
section
variable {P:Program} {rs:List ResultVar} {σ:Type} {cfg:σ->CJ} {C:CJ}
theorem w6n {c:Bool} {a b:Xk σ} (ha:c=true->Xh P rs cfg C a) (hb:c=false->Xh P rs cfg C b):Xh P rs cfg C (bif c then a else b):=by grind
theorem u4m {c:Bool} {a:Xk σ} (ha:c=true->Xh P rs cfg C a):Xh P rs cfg C (bif c then a else .stuck):=w6n ha fun _=>trivial
theorem Yh {vs:zy} (C':CJ) (h:Cn P C C') (hf:Gh C'=true) (hr:Kk P C'.st rs=some vs):Xh P rs cfg C (.ret vs):=⟨C',h,hf,hr⟩
end
def Yj {σ:Type} (step:σ->Xk σ):Nat->Xk σ->Xk σ
 | 0,o=>o
 | n+1,.to s=>Yj step n (step s)
 | _+1,o=>o
theorem Zf {P:Program} {rs:List ResultVar} {σ:Type} {cfg:σ->CJ} {step:σ->Xk σ} (fN: ∀s,Xh P rs cfg (cfg s) (step s)) {C:CJ}: ∀(n:Nat) (o:Xk σ),Xh P rs cfg C o->Xh P rs cfg C (Yj step n o)
 | 0,o,h=>h
 | n+1,.stuck,h=>h
 | n+1,.ret vs,h=>h
 | n+1,.to s,h=>Zf fN n (step s) (match step s,fN s with
  | .stuck,_=>trivial
  | .ret vs,⟨C',g,hf,hr⟩=>⟨C',Cn.trans h g,hf,hr⟩
  | .to s',g=>Cn.trans h g)
theorem Zc {σ:Type} (step:σ->Xk σ) (n:Nat) (vs:zy):Yj step n (.ret vs)=.ret vs:=by cases n <;> rfl
theorem Zx {σ:Type} (step:σ->Xk σ) (n:Nat) (s:σ):Yj step (n+1) (.to s)=Yj step n (step s):=rfl
theorem Mt {a b:Bool} (ha:a=true) (hb:b=true):(a&&b)=true:=by grind
theorem v6f {a b:Bool} (h:a=b):(a == b)=true:=by grind
def CC.with (S:CC) (f:FuncId) (F:zy->Option (CA×Bool)):CC:=fun g=>bif Nat.beq g f then some (.val F) else S g
theorem x5i {P:Program} {f:FuncId} {args:zy} {sym:Bool} {orc:List Bool}:(Zb P f args sym orc).rs =Zy P f:=by
 grind [Zb,Zy]
theorem v2t {P:Program} {S:CC} (hS:Zu P S) {f:FuncId} {F:zy->Option (CA×Bool)} (hf:(P.funcs[f]?).any (fun fn=>fn.body.isSome)=true)
  (hF: ∀args v,F args=some (v,true)-> ∃vs,Jd vs=v/\Ji P (Zy P f) (Zb P f args true []) vs/\ ∃d,pf d v=true):Zu P (S.with f F):=by
 intro g G hg;unfold CC.with at hg;cases hgf:Nat.beq g f with
 | false=>rw [hgf] at hg;exact hS g G hg
 | true=>
  rw [hgf] at hg;obtain rfl:O8.val F=G:=Ag hg;obtain rfl:g=f:=Ai hgf;refine ⟨?_,fun args v hv H vals w eN hH hG=> ?_⟩
  .grind
  .obtain ⟨vs,rfl,⟨C',g1,g2,g3⟩,d,hp⟩:=hF args v hv;exact (goes_call hf g1 g2 (by rw [x5i];exact g3) eN hH hG).mono fun e w' ⟨ρ,u,he,ho⟩=>⟨ρ.fz,u,ho.le,ho.old,ho.same,he,Jv d _ u hp ho.val,ho.below⟩
def CS (get:Nat->zy) (i:Nat):Int:=match get i with
 | .int _ n::_=>n
 | _=>0
def FG (get:Nat->zy):Bool:=pd (get=Dd (CS get))
theorem w6q {get:Nat->zy} (h:FG get=true): ∃c,get=Dd c:=⟨_,Jo h⟩
theorem u3y (x:Int):(x != x)=false:=by simp
theorem u5v (x:Int):(x == x)=true:=by simp
theorem v6k (x:Int):(!(x != x))=true:=by simp
theorem v6n (x:Int):(!(x == x))=false:=by simp
theorem JY (n:Int):IntKind.i64.wrap n=(n+9223372036854775808) %18446744073709551616 - 9223372036854775808:=by rw [IntKind.wrap_i64]
theorem w_in {n:Int} (h: -9223372036854775808<=n) (h':n<=9223372036854775807):IntKind.i64.wrap n=n:=by simp only [JY];omega
theorem HI (x y:Int):Kz x y=min x y:=by unfold Kz;grind
theorem HG (x y:Int):Ky x y=max x y:=by unfold Ky;grind
theorem Yk {α:Type} {c:Bool} {a b:α} (h:c=true):(bif c then a else b)=a:=by rw [h];rfl
inductive D3 :CA->CA->Prop
 | refl (v:CA):D3 v v
 | undef (v:CA):D3 v .undef
 | nils (b sz off:Nat) (cap:FQ):D3 .nils (.sla b sz off 0 cap)
 | sl (b sz q len:Nat) (cap:FQ):D3 (.sl b (q*sz) len cap) (.sla b sz q len cap)
 | nild (g:Nat->zy):D3 .nils (.dat 0 g)
 | dat (n:Nat) (g g':Nat->zy) (h: ∀i,i<n->g i=g' i):D3 (.dat n g) (.dat n g')
 | dptr (cs cs':zy) (hl:cs.length=cs'.length) (h: ∀(ρ:CF) (i:Nat) (h1:i<cs.length) (h2:i<cs'.length) (v:Value),VRel ρ cs[i] v->VRel ρ cs'[i] v):D3 (.dptr cs) (.dptr cs')
theorem D3.sound {ρ:CF} {a a':CA} {v:Value} (h:D3 a a') (hv:VRel ρ a v):VRel ρ a' v:=by
 cases h with
 | refl=>exact hv
 | undef=>exact .undef _
 | nils b sz off cap=>cases hv;exact .slan b sz off cap
 | sl b sz q len cap=>cases hv with | sl _ _ _ _ l c h hc eK=>exact .sla b sz q len cap l c h hc eK
 | nild g=>cases hv;exact .datn _
 | dptr cs cs' hl h=>cases hv with
  | dptr _ blk base val q1 q2=>exact .dptr cs' blk base val (fun j hj=>h _ j (by omega) hj _ (q1 j (by omega))) fun j hj=>q2 j (by omega)
 | dat n g g' hg=>
  cases hv with
  | datn=>exact .datn _
  | datz=>exact .datz _ _ _
  | dat _ _ blk base sz cap val eT hsz hv hh=>
   refine .dat n g' blk base sz cap val eT (fun i hi=>by grind) (fun i j hi hj=> ?_) hh
   grind
theorem D3.of_undef {a:CA} (h:D3 .undef a):a=.undef :=by cases h <;> rfl
inductive DJ :zy->zy->Prop
 | nil:DJ [] []
 | cons {a b:CA} {l m:zy} (h:D3 a b) (t:DJ l m):DJ (a::l) (b::m)
theorem DJ.refl : ∀l:zy,DJ l l
 | []=>.nil
 | a::l=>.cons (.refl a) (DJ.refl l)
theorem DJ.len {l m:zy} (h:DJ l m):l.length=m.length:=by
 induction h with
 | nil=>rfl
 | cons _ _ ih=>simp [ih]
theorem DJ.get {l m:zy} (h:DJ l m): ∀(i:Nat) (h1:i<l.length) (h2:i<m.length),D3 l[i] m[i]:=by
 induction h with
 | nil=>grind
 | cons h _ ih=>
  grind
inductive Iq :Option CG->Option CG->Prop
 | refl (b:Option CG):Iq b b
 | drop (b:Option CG):Iq b none
 | rowed (cells:zy) (ty:TypeId) (a:Option Da) (sz n:Nat) (g:Nat->zy) (ho:(⟨cells,ty,a⟩:CG).isObj =false) (hc:cells=rows n g) (h1:1<=sz) (hl: ∀i,i<n->(g i).length =sz):Iq (some ⟨cells,ty,a⟩) (some ⟨rows n g,ty,some ⟨sz,n,g⟩⟩)
 | rws (ty:TypeId) (sz n:Nat) (a a':Cz) (h: ∀k,k<n->DJ (a.get k) (a'.get k)):Iq (some ⟨rows n a.get,ty,some ⟨sz,n,a⟩⟩) (some ⟨rows n a'.get,ty,some ⟨sz,n,a'⟩⟩)
theorem Iq.sound {ρ:CF} {w:World} {a a':CG} {l:CZ} (h:Iq (some a) (some a')) (hb:Wn ρ w a l):Wn ρ w a' l:=by
 cases h with
 | refl=>exact hb
 | rowed cells ty a sz n g ho hc h1 hl=>subst hc;have hb:=hb.at ho;refine .plain ⟨hb.typ,hb.n,hb.tot,fun A hA=> ?_,hb.cells⟩;obtain rfl:=Ag hA;exact ⟨rfl,h1,hl⟩
 | rws ty sz n a a' h=>
  have hb:=hb.rows rfl;obtain ⟨_,h1,hl⟩:=hb.arr _ rfl;have h1:1<=sz:=h1;have hl: ∀k,k<n->(a.get k).length =sz:=hl;have hl': ∀k,k<n->(a'.get k).length =sz:=fun k hk=>by rw [<-(h k hk).len];exact hl k hk
  have k1:=Ym n hl;have k2:=Ym n hl';obtain ⟨cs,el,g1,g2,g3⟩:=hb.cells;refine .plain ⟨hb.typ,by rw [hb.n];show (rows n a.get).length =(rows n a'.get).length;rw [k1,k2],hb.tot,fun A hA=> ?_,cs,el,g1,g2,fun i hi=> ?_⟩
  .obtain rfl:=Ag hA;exact ⟨rfl,h1,hl'⟩
  .have hi2:i<(rows n a'.get).length :=hi;have hi':i<n*sz:=by rw [<-k2];exact hi
   have hj:i %sz<sz:=BA _ h1;have hq:i / sz<n:=Bl (by rw [BJ];exact hi');have e:i / sz*sz+i %sz=i:=by rw [BJ];exact BB i sz
   have hic:i<(rows n a.get).length :=by rw [k1];exact hi'
   have r1:=Vk n hl (i / sz) (i %sz) hq hj;have r2:=Vk n hl' (i / sz) (i %sz) hq hj;rw [e] at r1 r2;have j1:i %sz<(a.get (i / sz)).length :=by rw [hl _ hq];exact hj
   have j2:i %sz<(a'.get (i / sz)).length :=by rw [hl' _ hq];exact hj
   obtain ⟨v,q1,q2⟩:=g3 i hic;have q2:VRel ρ ((rows n a.get)[i]'hic) v:=q2;refine ⟨v,q1,?_⟩;show VRel ρ ((rows n a'.get)[i]'hi2) v;rw [At hic,At j1] at r1;rw [At hi2,At j2] at r2;rw [Ag r1] at q2;rw [Ag r2];exact ((h _ hq).get _ j1 j2).sound q2
theorem y1m {g h:Nat->zy}: ∀(n:Nat),(∀i,i<n->g i=h i)->rows n g=rows n h
 | 0,_=>rfl
 | n+1,e=>by rw [WJ,WJ,y1m n fun i hi=>e i (by omega),e n (by omega)]
theorem x1a {n:Nat} {g:Nat->zy} (h: ∀k,∀v∈g k,DH v=true) (ty:TypeId) (a:Option Da):(⟨Go.Am.rows n g,ty,a⟩:CG).isObj =false:=
 SR (ρ:=⟨fun _=>none,fun _=>none,fun _=>none⟩) (fun v hv=>by obtain ⟨k,_,hk⟩:=w5j hv;exact .inr (h k v hk)) _ _
theorem WS {n:Nat} {c:Nat->Int} (ty:TypeId) (a:Option Da):(⟨Go.Am.rows n (Dd c),ty,a⟩:CG).isObj =false:=x1a (fun k v hv=>by obtain rfl:=BG.1 hv;rfl) _ _
def E0 (l:zq):Nat->Int:=fun k=>l.getD k 0
def DE (asz sz off len n:Nat) (get:Nat->zy):CA:=bif Nat.beq asz sz&&Nat.ble (off+len) n then .dat len (fun k=>get (off+k)) else .undef
theorem j6y (sz n:Nat) (g:Nat->zy):DE sz sz 0 n n g=.dat n g:=by
 unfold DE;rw [show (Nat.beq sz sz&&Nat.ble (0+n) n)=true by simp_all,Ab]
 grind
def DR (g:Nat->zy):Bool:=pd (∀i,(g i).all (pf 6)=true)
theorem u6k {p:CA->Bool} {l:zy} (h:l.all p=true) (n:Nat):(l.take n).all p=true:=
 by grind
theorem u6l {p:CA->Bool} {l:zy} (h:l.all p=true) (n:Nat):(l.drop n).all p=true:=
 by grind
theorem v8e {g:Nat->zy} {off len sz:Nat} {new:zy} (h:DR g=true) (hn:new.all (pf 6)=true):DR (Zr g off len sz new)=true:=Xo fun i=>by
 unfold Zr;cases Nat.ble len i with
 | true=>grind
 | false=>exact Jo h _
theorem v8b {g:Nat->zy} {r fo:Nat} {cs:zy} (h:DR g=true) (hn:cs.all (pf 6)=true):DR (Xg g r fo cs)=true:=Xo fun i=>by
 unfold Xg;cases Nat.beq i r with
 | true=>rw [Ab,List.all_append,List.all_append,u6k (Jo h r),hn,u6l (Jo h r)];rfl
 | false=>exact Jo h _
theorem x0l {P:Program} {S:CC} (hS:Zu P S) {f:FuncId} {F:zy->Option (CA×Bool)} (hf:(P.funcs[f]?).any (fun fn=>fn.body.isSome)=true)
  (hF: ∀args v,F args=some (v,true)-> ∃vs,(∀(ρ:CF) (u:Value),VRel ρ (Jd vs) u->VRel ρ v u)/\Ji P (Zy P f) (Zb P f args true []) vs/\ ∃d,pf d (Jd vs)=true):Zu P (S.with f F):=by
 intro g G hg;unfold CC.with at hg;cases hgf:Nat.beq g f with
 | false=>rw [hgf] at hg;exact hS g G hg
 | true=>
  rw [hgf] at hg;obtain rfl:O8.val F=G:=Ag hg;obtain rfl:g=f:=Ai hgf;refine ⟨?_,fun args v hv H vals w eN hH hG=> ?_⟩
  .grind
  .obtain ⟨vs,hw,⟨C',g1,g2,g3⟩,d,hp⟩:=hF args v hv;exact (goes_call hf g1 g2 (by rw [x5i];exact g3) eN hH hG).mono fun e w' ⟨ρ,u,he,ho⟩=>⟨ρ.fz,u,ho.le,ho.old,ho.same,he,hw _ _ (Jv d _ u hp ho.val),ho.below⟩
theorem v1g :DR (fun _=>[])=true:=Xo fun _=>rfl
theorem w2w (s t:Nat):DR (fun k=>(([]:zy).drop (k*s)).take t)=true:=Xo fun i=>by simp
theorem y7u {g:Nat->zy} {o:Nat} (h:DR g=true):DR (fun k=>g (o+k))=true:=Xo fun i=>Jo h (o+i)
theorem v8d {g h:Nat->zy} {len:Nat} (p:DR g=true) (q:DR h=true):DR (Jf g len h)=true:=Xo fun i=>by
 unfold Jf;cases Nat.ble len i with
 | true=>exact Jo q _
 | false=>exact Jo p _
open Go.Sort Go.RowKit
variable {P:Program} {ρ:CF}
theorem CH.rewritten {mem:CI} {next:Nat} {w w':World} (h:CH ρ mem next w) {b:Nat} {l:CZ} {ab:CG} (hb:ρ b=some l) (hm:Yi mem b=some ab) {cs:zy}
  (eK:cs.length=ab.cells.length) (eX: ∀k,k<w.heap.size->k≠l.blk->w'.heap[k]? =w.heap[k]?) (gK:w.heap.size<=w'.heap.size)
  (hno:ab.isObj=false) (hnew: ∃cur el,w'.heap[l.blk]? =some (.cells cur el (0,0))/\(∀cur0 z,w.heap[l.blk]? =some (.cells cur0 ab.ty z)->el=ab.ty)/\l.base+l.tot<=cur.size/\ ∀(i:Nat) (hi:i<cs.length),∃v,cur[l.base+i]? =some v/\VRel ρ cs[i] v):
  CH ρ (Wv mem b (some ⟨cs,ab.ty,none⟩)) next w':=by
 have hbk:=(h.blk b l ab hb hm).at hno;refine ⟨h.dom,fun c c' m m' e e' he hs hs'=> ?_,fun c m ac e hc=> ?_,fun k o e=> ?_,fun c m e hs=>h.sep c m e (by
  grind [Zw]),fun c m e=>AZ (h.real c m e) gK,fun c hc=>by have:=h.dom b l hb;rw [Zw _ _ (by omega)];exact h.bd c hc,h.ldom⟩
 .refine h.inj c c' m m' e e' he ?_ ?_;all_goals grind [Zw]
 .by_cases hcb:c=b
  .subst hcb;rw [Yw] at hc;obtain rfl:=Ag hc;rw [hb] at e;obtain rfl:=Ag e;obtain ⟨cur,el,n1,n2,n3,n4⟩:=hnew;obtain ⟨cur0,el0,o1,_⟩:=hbk.cells;have hel:=hbk.typ _ _ _ o1;subst hel;have:=n2 _ _ o1;exact .plain ⟨by rw [n1];grind,by rw [eK];exact hbk.n,hbk.tot,(fun A e=>by cases e),cur,el,n1,n3,n4⟩
  .rw [Zw _ _ hcb] at hc;refine (h.blk c m ac e hc).world (CF.le_refl _) (eX m.blk (h.real c m e) fun heq=>hcb ?_);exact h.inj c b m l e hb heq (by rw [hc];rfl) (by rw [hm];rfl)
 .have hk:=h.old k o e;rw [eX k ?_ ?_]
  .exact hk
  .grind
  .intro heq;have:=h.sep b l hb (by rw [hm];rfl)
   grind
def Yq (n:Nat) (c:Nat->Int):zq:=(List.range n).map c
def Ic (srt:zq->zq) (args:zy) (mem:CI):Option (CA×Nat×CG×Bool):=match args with
 | [.sla b sz off n cap]=>match Yi mem b with
  | some ⟨_,ty,some A⟩=>some (.tup [],b,⟨rows A.n (Dd (E0 (srt (Yq n (CS A.get))))),ty,some ⟨1,A.n,Dd (E0 (srt (Yq n (CS A.get))))⟩⟩,
    Nat.beq sz 1&&(Nat.beq A.sz 1&&(Nat.beq off 0&&(decide (n=A.n)&&(FG A.get&&decide (n<4611686018427387904))))))
  | _=>none
 | _=>none
theorem W6 (n:Nat) (c:Nat->Int) (i:Nat) (h:i<n):(rows n (Dd c))[i]? =some (.int .i64 (c i)):=by
 have:=Vk (get:=Dd c) (sz:=1) n (fun _ _=>rfl) i 0 h Nat.one_pos
 simpa [Dd] using this
theorem Jn (n:Nat) (c:Nat->Int):(rows n (Dd c)).length =n:=by rw [Ym (sz:=1) n fun _ _=>rfl,Nat.mul_one]
theorem QV (w:World) (n blk off:Nat) (d:Array Int) (os:Array Obj) (k:Nat) (hk:k<w.heap.size):
  (grow (putRow (Value.int .i64) (Go.Sort.ahead w n) blk off d) os).heap[k]? =if k=blk then (w.heap[k]?).map (onCells (putCells (Value.int .i64) off d)) else w.heap[k]? :=by
 show (((Go.Sort.ahead w n).heap.modify blk (onCells (putCells (Value.int .i64) off d)))++os)[k]? =_;rw [Array.getElem?_append_left (by simp_all),BE];show (if blk=k then _ else _)=_;by_cases h:k=blk
 .simp_all
 .rw [Az (fun e=>h e.symm),Az h];rfl
theorem Ev.rewritten {mem:CI} {next floor:Nat} {w w':World} (h:CH ρ mem next w) {b:Nat} (o:Option CG) (hb: ∀l,ρ b=some l->floor<=b) (hnone:ρ b=none-> ∀cs ty,Yi mem b≠some ⟨cs,ty,none⟩)
  (eX: ∀k,k<w.heap.size->(∀l,ρ b=some l->k≠l.blk)->w'.heap[k]? =w.heap[k]?) (gK:w.heap.size<=w'.heap.size) (h1:w'.os=w.os) (h2:w'.tape=w.tape) (h3:w'.output=w.output):
  Ev ρ ρ floor mem next (Wv mem b o) next w w' where
 ext:=CF.le_refl _
 new _ _:=rfl
 nxt:=Aq _
 unborn k _ e cs ty hm:=by
  grind [Zw]
 frame k o hk hfr:=by
  grind
 fresh k m hk e:=by have:=h.dom k m e;omega
 size:=gK
 os:=h1
 tape:=h2
 output:=h3
 still _ _:=rfl
theorem CH.unbornSet {mem:CI} {next:Nat} {w:World} (h:CH ρ mem next w) {b:Nat} (hb:ρ b=none) (hlt:b<next) (o:Option CG):CH ρ (Wv mem b o) next w:=by
 have ne: ∀c l,ρ c=some l->c≠b:=fun c l e he=>by grind
 refine ⟨h.dom,fun c c' m m' e e' he hs hs'=> ?_,fun c m ac e hc=> ?_,h.old,fun c m e hs=> ?_,h.real,fun c hc=> ?_,h.ldom⟩
 .rw [Zw _ _ (ne _ _ e)] at hs;rw [Zw _ _ (ne _ _ e')] at hs';exact h.inj c c' m m' e e' he hs hs'
 .rw [Zw _ _ (ne _ _ e)] at hc;exact h.blk c m ac e hc
 .rw [Zw _ _ (ne _ _ e)] at hs;exact h.sep c m e hs
 .rw [Zw _ _ (by omega)];exact h.bd c hc
theorem j9d {f:FuncId} {srt:zq->zq} (hsl: ∀zs,(srt zs).length =zs.length)
  (hC: ∀(blk off cap:Nat) (zs:zq) (w:World),Holds (Value.int .i64) w blk off zs.toArray->blk<w.heap.size->zs.length<4611686018427387904->
   Calls P f #[.slice (some ⟨blk,off,none⟩) zs.length cap] w fun e w'=>e=.returned (.tuple #[])/\ ∃n os,w'=grow (putRow (Value.int .i64) (Go.Sort.ahead w n) blk off (srt zs).toArray) os)
  (hN: ∀(p:Option Addr) (cap:Nat) (w:World),Calls P f #[.slice p 0 cap] w fun e w'=>e=.returned (.tuple #[])/\w'=w):Gt P f (Ic srt):=by
 intro args mem v b blk h gL ρ next floor vals w hfl eN eI
 unfold Ic at h;split at h
 .rename_i b0 sz off n cap;split at h
  .rename_i cells ty A hm;obtain ⟨asz,an,get⟩:=A;simp only [Ae,Ad,Ac] at h;obtain ⟨rfl,rfl,rfl,h1,h2,h3,h4,h5,h6⟩:=h;have g1:=Ai h1;have g2:=Ai h2;have g3:=Ai h3;have g4:n=an:=Ay h4;have h6:n<4611686018427387904:=Ay h6;subst g1;subst g2;subst g3;subst g4;obtain ⟨c,hcg⟩:=w6q h5;have e0:CS (Dd c)=c:=rfl;simp only [hcg,e0];obtain ⟨u,hu,fP⟩: ∃u,VRel ρ (.sla b0 1 0 n cap) u/\vals= #[u]:=by
    obtain ⟨vl⟩:=vals;cases eN with
    | cons h1 h2=>cases h2;grind
   subst fP;have hlt:b0<next:=by
    rcases A8 b0 next with h | h
    .exact h
    .have:=eI.bd b0 h;grind
   generalize hL:srt (Yq n c)=L;have hLl:L.length=n:=by grind [Yq]
   have hnn:ρ b0=none-> ∀cs ty',Yi mem b0≠some ⟨cs,ty',none⟩:=fun _ cs ty' e=>by grind
   cases hu with
   | sla _ _ _ _ _ l cc e hc eK=>
    have hbk:=(eI.blk b0 l _ e hm).rows rfl;obtain ⟨har,_,_⟩:=hbk.arr _ rfl;simp only [hcg] at har;subst har;obtain ⟨cur,el,hh,hsz,eQ⟩:=hbk.cells;simp only [Jn] at eQ;have fG: ∀i,i<n->cur[l.base+i]? =some (.int .i64 (c i)):=fun i hi=>by obtain ⟨v,e1,e2⟩:=eQ i hi;rw [show (rows n (Dd c))[i]'(by grind)=.int .i64 (c i) from Ag (by rw [<-At,W6 n c i hi])] at e2;cases e2;exact e1
    have fU:=eI.real b0 l e;have hzs:(Yq n c).length =n:=(by grind);have hH:Holds (Value.int .i64) w l.blk (l.base+0*1) (Yq n c).toArray :=fun j hj=>by
     grind [World.cell?,Yq,World.frozen?]
    have eZ:=hC l.blk (l.base+0*1) cc (Yq n c) w hH fU (by omega);rw [hzs,hL] at eZ;refine eZ.mono fun e' w' ⟨he,q,os,hw'⟩=>⟨_,he,?_,?_,?_⟩
    .exact .tup [] #[] rfl fun i h1 h2=>absurd h1 (AD _)
    .subst hw';refine CH.setArr ?_ ⟨1,n,Dd (E0 L)⟩ (WS _ _) rfl (Aq 1) fun _ _=>rfl;refine CH.rewritten eI e hm (by simp only [Jn]) (fun k hk hne=> ?_) ?_ hbk.noObj ?_
     .grind [QV]
     .simp_all
     .refine ⟨putCells (Value.int .i64) (l.base+0*1) L.toArray cur,el,?_,fun _ _ _=>hbk.typ _ _ _ hh,?_,fun i hi=> ?_⟩
      .rw [QV _ _ _ _ _ _ _ fU,AF rfl,hh];rfl
      .grind [putCells]
      .rw [Jn] at hi;refine ⟨.int .i64 (E0 L i),?_,?_⟩
       .grind [putCells,E0]
       .rw [show (rows n (Dd (E0 L)))[i]'(by grind)=.int .i64 (E0 L i) from Ag (by rw [<-At,W6 n _ i hi])];exact .int _ _
    .subst hw';refine Ev.rewritten eI _ (fun l' _=>hfl) hnn (fun k hk hne=> ?_) ?_ rfl rfl rfl
     .grind [QV]
     simp_all
   | slan=>
    refine (hN none 0 w).mono fun e' w' ⟨he,hw'⟩=>⟨_,he,?_,?_,?_⟩
    .exact .tup [] #[] rfl fun i h1 h2=>absurd h1 (AD _)
    .subst hw';refine CH.setArr ?_ ⟨1,0,Dd (E0 L)⟩ (WS _ _) rfl (Aq 1) fun _ _=>rfl;cases e:ρ b0 with
     | none=>exact CH.unbornSet eI e hlt _
     | some l=>have hbk:=(eI.blk b0 l _ e hm).rows rfl;obtain ⟨har,_,_⟩:=hbk.arr _ rfl;simp only [hcg] at har;subst har;obtain ⟨cur,el,hh,hsz,eQ⟩:=hbk.cells;exact CH.rewritten eI e hm rfl (fun _ _ _=>rfl) (Aq _) hbk.noObj ⟨cur,el,hh,fun _ _ _=>hbk.typ _ _ _ hh,hsz,fun i hi=>absurd hi (AD _)⟩
    grind [Ev.rewritten]
  .cases h
 .cases h
def Ig (srt:zq->zq) (res:zq->Nat) (args:zy) (mem:CI):Option (CA×Nat×CG×Bool):=match args with
 | [.sla b sz off n cap]=>match Yi mem b with
  | some ⟨_,ty,some A⟩=>some (.sla b 1 0 (res (Yq n (CS A.get))) cap,b,⟨rows A.n (Dd (E0 (srt (Yq n (CS A.get))))),ty,some ⟨1,A.n,Dd (E0 (srt (Yq n (CS A.get))))⟩⟩,
    Nat.beq sz 1&&(Nat.beq A.sz 1&&(Nat.beq off 0&&(decide (n=A.n)&&(FG A.get&&decide (n<4611686018427387904))))))
  | _=>none
 | _=>none
theorem j9e {f:FuncId} {srt:zq->zq} {res:zq->Nat} (hsl: ∀zs,(srt zs).length =zs.length) (gP: ∀zs,res zs<=zs.length)
  (hC: ∀(blk off cap:Nat) (zs:zq) (w:World),Holds (Value.int .i64) w blk off zs.toArray->blk<w.heap.size->zs.length<4611686018427387904->zs.length<=cap->
   Calls P f #[.slice (some ⟨blk,off,none⟩) zs.length cap] w fun e w'=>e=.returned (.slice (some ⟨blk,off,none⟩) (res zs) cap)/\ ∃n os,w'=grow (putRow (Value.int .i64) (Go.Sort.ahead w n) blk off (srt zs).toArray) os)
  (hN: ∀(p:Option Addr) (cap:Nat) (w:World),Calls P f #[.slice p 0 cap] w fun e w'=>e=.returned (.slice p 0 cap)/\w'=w):Gt P f (Ig srt res):=by
 intro args mem v b blk h gL ρ next floor vals w hfl eN eI
 unfold Ig at h;split at h
 .rename_i b0 sz off n cap;split at h
  .rename_i cells ty A hm;obtain ⟨asz,an,get⟩:=A;simp only [Ae,Ad,Ac] at h;obtain ⟨rfl,rfl,rfl,h1,h2,h3,h4,h5,h6⟩:=h;have g1:=Ai h1;have g2:=Ai h2;have g3:=Ai h3;have g4:n=an:=Ay h4;have h6:n<4611686018427387904:=Ay h6;subst g1;subst g2;subst g3;subst g4;obtain ⟨c,hcg⟩:=w6q h5;have e0:CS (Dd c)=c:=rfl;simp only [hcg,e0];obtain ⟨u,hu,fP⟩: ∃u,VRel ρ (.sla b0 1 0 n cap) u/\vals= #[u]:=by
    obtain ⟨vl⟩:=vals;cases eN with
    | cons h1 h2=>cases h2;grind
   subst fP;have hlt:b0<next:=by
    rcases A8 b0 next with h | h
    .exact h
    .have:=eI.bd b0 h;grind
   generalize hL:srt (Yq n c)=L;have hLl:L.length=n:=by grind [Yq]
   have hnn:ρ b0=none-> ∀cs ty',Yi mem b0≠some ⟨cs,ty',none⟩:=fun _ cs ty' e=>by grind
   cases hu with
   | sla _ _ _ _ _ l cc e hc eK=>
    have hbk:=(eI.blk b0 l _ e hm).rows rfl;obtain ⟨har,_,_⟩:=hbk.arr _ rfl;simp only [hcg] at har;subst har;obtain ⟨cur,el,hh,hsz,eQ⟩:=hbk.cells;simp only [Jn] at eQ;have fG: ∀i,i<n->cur[l.base+i]? =some (.int .i64 (c i)):=fun i hi=>by obtain ⟨v,e1,e2⟩:=eQ i hi;rw [show (rows n (Dd c))[i]'(by grind)=.int .i64 (c i) from Ag (by rw [<-At,W6 n c i hi])] at e2;cases e2;exact e1
    have fU:=eI.real b0 l e;have hzs:(Yq n c).length =n:=(by grind);have hH:Holds (Value.int .i64) w l.blk (l.base+0*1) (Yq n c).toArray :=fun j hj=>by
     grind [World.cell?,Yq,World.frozen?]
    have eZ:=hC l.blk (l.base+0*1) cc (Yq n c) w hH fU (by omega) (by omega);rw [hzs,hL] at eZ;refine eZ.mono fun e' w' ⟨he,q,os,hw'⟩=>⟨_,he,?_,?_,?_⟩
    .exact .sla _ _ _ _ _ l cc e hc (AI (gP _) (by omega))
    .subst hw';refine CH.setArr ?_ ⟨1,n,Dd (E0 L)⟩ (WS _ _) rfl (Aq 1) fun _ _=>rfl;refine CH.rewritten eI e hm (by simp only [Jn]) (fun k hk hne=> ?_) ?_ hbk.noObj ?_
     .grind [QV]
     .simp_all
     .refine ⟨putCells (Value.int .i64) (l.base+0*1) L.toArray cur,el,?_,fun _ _ _=>hbk.typ _ _ _ hh,?_,fun i hi=> ?_⟩
      .rw [QV _ _ _ _ _ _ _ fU,AF rfl,hh];rfl
      .grind [putCells]
      .rw [Jn] at hi;refine ⟨.int .i64 (E0 L i),?_,?_⟩
       .grind [putCells,E0]
       .rw [show (rows n (Dd (E0 L)))[i]'(by grind)=.int .i64 (E0 L i) from Ag (by rw [<-At,W6 n _ i hi])];exact .int _ _
    .subst hw';refine Ev.rewritten eI _ (fun l' _=>hfl) hnn (fun k hk hne=> ?_) ?_ rfl rfl rfl
     .grind [QV]
     simp_all
   | slan=>
    refine (hN none 0 w).mono fun e' w' ⟨he,hw'⟩=>⟨_,he,?_,?_,?_⟩
    .rw [show res (Yq 0 c)=0 from Nat.le_zero.1 (gP _)];exact .slan _ _ _ _
    .subst hw';refine CH.setArr ?_ ⟨1,0,Dd (E0 L)⟩ (WS _ _) rfl (Aq 1) fun _ _=>rfl;cases e:ρ b0 with
     | none=>exact CH.unbornSet eI e hlt _
     | some l=>have hbk:=(eI.blk b0 l _ e hm).rows rfl;obtain ⟨har,_,_⟩:=hbk.arr _ rfl;simp only [hcg] at har;subst har;obtain ⟨cur,el,hh,hsz,eQ⟩:=hbk.cells;exact CH.rewritten eI e hm rfl (fun _ _ _=>rfl) (Aq _) hbk.noObj ⟨cur,el,hh,fun _ _ _=>hbk.typ _ _ _ hh,hsz,fun i hi=>absurd hi (AD _)⟩
    grind [Ev.rewritten]
  .cases h
 .cases h
def q4 (f:Nat->Nat->Int):Nat->zy:=fun k=>[.int .i64 (f k 0),.int .i64 (f k 1),.int .i64 (f k 2),.int .i64 (f k 3)]
theorem x6l (a:Nat):(Nat.beq a a == true)=true:=by simp_all
inductive VP where
 | keep
 | drop
  | grow (b sz:Nat)
  | list (n:Nat) (g:Nat->zy)
  | len (n:Nat)
  | frz (n n':Nat) (a g:Nat->zy)
def Kh (n:Nat) (a g:Nat->zy):Bool:=pd (∀i,i<n->a i=g i)
def YZ (cells:zy) (sz n:Nat) (g:Nat->zy):Bool:=pd (cells=rows n g/\1<=sz/\ ∀i,i<n->(g i).length =sz)
def UA (n:Nat) (a g:Nat->zy):Bool:=pd (∀i,i<n->DJ (a i) (g i))
def H0 (a b:Nat):Bool:=pd (a=b)
theorem Jj {a b:Nat} (h:a=b):H0 a b=true:=Xo h
def Tc (v:CA) (n:Nat) (a:Nat->zy):Bool:=pd (v=.dat n a)
theorem u5d (sz n:Nat) (g:Nat->zy):Tc (DE sz sz 0 n n g) n g=true:=Xo (j6y sz n g)
theorem v7w (n:Nat) (g:Nat->zy):Tc (.dat n g) n g=true:=Xo rfl
def JR :VP->CA->Bool->CA×Bool
 | .keep,v,ob=>(v,ob)
 | .drop,_,ob=>(.undef,ob)
 | .grow b sz,v,ob=>match v with
  | .nils =>(.sla b sz 0 0 (.un sz),ob)
  | .sl b o len cap=>(.sla b sz 0 len cap,Nat.beq o 0&&ob)
  | v=>(v,ob)
 | .list n' g,v,ob=>match v with
  | .nils =>(.dat 0 g,ob)
  | .dat n a=>(.dat n' g,H0 n n'&&(Kh n a g&&ob))
  | v=>(v,ob)
 | .len n',v,ob=>match v with
  | .sla b sz off n cap=>(.sla b sz off n' cap,H0 n n'&&ob)
  | v=>(v,ob)
 | .frz n n' a g,v,ob=>(.dat n' g,Tc v n a&&(H0 n n'&&(Kh n a g&&ob)))
theorem w6l {p:VP} {v:CA} {ob:Bool} (h:(JR p v ob).2=true):D3 v (JR p v ob).1/\ob=true:=by
 cases p with
 | keep=>exact ⟨.refl _,h⟩
 | drop=>exact ⟨.undef _,h⟩
 | grow b sz=>
  cases v with
  | nils=>exact ⟨.nils _ _ _ _,h⟩
  | sl b' o len cap=>simp only [JR,Ac] at h;have e:=Ai h.1;subst e;have:=D3.sl b' sz 0 len cap;rw [Nat.zero_mul] at this;exact ⟨this,h.2⟩
  | _=>exact ⟨.refl _,h⟩
 | list n' g=>
  cases v with
  | nils=>exact ⟨.nild _,h⟩
  | dat n a=>simp only [JR,Ac] at h;obtain rfl:=Jo h.1;exact ⟨.dat _ _ _ (Jo h.2.1),h.2.2⟩
  | _=>exact ⟨.refl _,h⟩
 | len n'=>
  cases v with
  | sla b sz off n cap=>simp only [JR,Ac] at h;obtain rfl:=Jo h.1;exact ⟨.refl _,h.2⟩
  | _=>exact ⟨.refl _,h⟩
 | frz n n' a g=>simp only [JR,Ac] at h;obtain rfl:=Jo h.1;obtain rfl:=Jo h.2.1;exact ⟨.dat _ _ _ (Jo h.2.2.1),h.2.2.2⟩
def RZ :List VP->zy->Bool->zy×Bool
 | _,[],ob=>([],ob)
 | [],l,ob=>(l,ob)
 | p::ps,v::l,ob=>match RZ ps l ob with
  | (l',ob)=>match JR p v ob with
   | (v',ob)=>(v'::l',ob)
theorem y7j : ∀{ps:List VP} {l:zy} {ob:Bool},(RZ ps l ob).2=true->DJ l (RZ ps l ob).1/\ob=true
 | [],[],_,h=>⟨.nil,h⟩
 | _::_,[],_,h=>⟨.nil,h⟩
 | [],a::l,_,h=>⟨DJ.refl _,h⟩
 | p::ps,v::l,ob,h=>by simp only [RZ] at h ⊢;obtain ⟨h1,h2⟩:=w6l h;obtain ⟨h3,h4⟩:=y7j h2;exact ⟨.cons h1 h3,h4⟩
inductive BP where
 | keep
 | drop
 | cells (ps:List VP)
 | rowed (sz n:Nat) (g:Nat->zy)
 | rws (a:Cz)
  | rowo (sz n:Nat) (a:Cz)
def Ni (cells:zy) (sz n:Nat) (a:Cz):Bool:=pd (DJ cells (rows n a.get)/\1<=sz/\ ∀i,i<n->(a.get i).length =sz)
def j6h :zy->zy->TypeId->Option CG
 | .obj o::_,_::r,ty=>some ⟨.obj o::r,ty,none⟩
 | .obj _::_,[],_=>none
 | _,cs,ty=>some ⟨cs,ty,none⟩
def j6i (cells:zy):zy->TypeId->Option CG
 | .dat n g::r,ty=>some ⟨.dat n g::r,ty,none⟩
 | cs,ty=>j6h cells cs ty
def Fn :BP->Option CG->Bool->Option CG×Bool
 | .keep,o,ob=>(o,ob)
 | .drop,_,ob=>(none,ob)
 | .cells ps,o,ob=>match o with
  | some ⟨cells,ty,none⟩=>match RZ ps cells ob with
   | (cs,ob)=>(j6i cells cs ty,ob)
  | o=>(o,ob)
 | .rowed sz n g,o,ob=>match o with
  | some ⟨cells,ty,none⟩=>(bif (⟨cells,ty,none⟩:CG).isObj then none else some ⟨rows n g,ty,some ⟨sz,n,.flat g⟩⟩,YZ cells sz n g&&ob)
  | some ⟨_,ty,some ⟨sz',n',a⟩⟩=>(some ⟨rows n g,ty,some ⟨sz',n,.flat g⟩⟩,H0 n' n&&(Kh n' a.get g&&ob))
  | o=>(o,ob)
 | .rws a',o,ob=>match o with
  | some ⟨_,ty,some ⟨sz,n,a⟩⟩=>(some ⟨rows n a'.get,ty,some ⟨sz,n,a'⟩⟩,UA n a.get a'.get&&ob)
  | o=>(o,ob)
 | .rowo sz n a',o,ob=>match o with
  | some ⟨cells,ty,none⟩=>(bif (⟨cells,ty,none⟩:CG).isObj then none else some ⟨rows n a'.get,ty,some ⟨sz,n,a'⟩⟩,Ni cells sz n a'&&ob)
  | o=>(o,ob)
theorem DJ.sound {ρ:CF} {l m:zy} (h:DJ l m) (i:Nat) (h1:i<l.length) (h2:i<m.length) {v:Value} (hv:VRel ρ l[i] v):VRel ρ m[i] v:=(h.get i h1 h2).sound hv
theorem v6j (cells:zy) (ty:TypeId) (A:Da):(⟨cells,ty,some A⟩:CG).isObj =false:=by
 unfold CG.isObj;split
 .rename_i e;cases e
 .rfl
theorem w1u {p:BP} {o:Option CG} {ob:Bool} {x':CG} (h:(Fn p o ob).2=true) (hx:(Fn p o ob).1=some x'):ob=true/\ ∃x,o=some x/\ ∀(ρ:CF) (w:World) (l:CZ),Wn ρ w x l->Wn ρ w x' l:=by
 cases p with
 | keep=>exact ⟨h,x',hx,fun _ _ _ q=>q⟩
 | drop=>cases hx
 | cells ps=>
  rcases o with _ | ⟨cells,ty,_ | A⟩
  .cases hx
  .simp only [Fn] at h hx;obtain ⟨h1,h2⟩:=y7j h;refine ⟨h2,_,rfl,fun ρ w l hb=> ?_⟩;generalize (RZ ps cells ob).1=cs' at hx h1;cases hb with
   | obj o r ty' e1 e2 e3=>
    simp only [CG.mk.injEq] at e1;obtain ⟨rfl,rfl,_⟩:=e1;cases h1 with
    | cons ha hr=>
    rename_i c0 r';have hx:j6h (.obj o::r) (c0::r') ty=some x':=by
     unfold j6i at hx;split at hx
     .rename_i e;rw [Bn] at e;obtain ⟨rfl,_⟩:=e;cases ha
     .exact hx
    obtain rfl:=Ag hx;refine .obj o r' ty rfl (by rw [e2,DJ.len hr]) ?_;cases o with
    | mi ml=>obtain ⟨rfl,k⟩:=e3;cases hr;exact ⟨rfl,k⟩
    | mb ml=>obtain ⟨rfl,k⟩:=e3;cases hr;exact ⟨rfl,k⟩
    | it s pos=>obtain ⟨rfl,k⟩:=e3;cases hr;exact ⟨rfl,k⟩
    | bld=>
     obtain ⟨buf,v,p,rfl,k1,k2,k3⟩:=e3;cases hr with
     | cons hb0 hr0=>
     cases hr0;exact ⟨_,v,p,rfl,k1,hb0.sound k2,k3⟩
   | plain hb=>
   have hno:=hb.noObj;have hx:some (⟨cs',ty,none⟩:CG)=some x':=by
    unfold j6i at hx;split at hx
    .exact hx
    .unfold j6h at hx;split at hx
     .cases hno
     .cases hno
     .exact hx
   obtain rfl:=Ag hx;obtain ⟨cs,el,g1,g2,g3⟩:=hb.cells;refine .plain ⟨hb.typ,by rw [hb.n];exact h1.len,hb.tot,(fun A hA=>by cases hA),cs,el,g1,g2,fun i hi=> ?_⟩;have hi0:i<cells.length:=by rw [h1.len];exact hi
   obtain ⟨v,q1,q2⟩:=g3 i hi0;exact ⟨v,q1,h1.sound i hi0 hi q2⟩
  .exact ⟨h,_,rfl,fun ρ w l hb=>by obtain rfl:=Ag hx;exact hb⟩
 | rowed sz n g=>
  rcases o with _ | ⟨cells,ty,_ | ⟨sz',n',a⟩⟩
  .cases hx
  .simp only [Fn,Ac] at h hx;obtain ⟨hno,hx⟩:=Mp hx;obtain rfl:=Ag hx;obtain ⟨h1,h2,h3⟩:=Jo h.1;exact ⟨h.2,_,rfl,fun ρ w l hb=>(Iq.rowed cells ty none sz n g hno h1 h2 h3).sound hb⟩
  .simp only [Fn,Ac] at h hx;obtain rfl:=Ag hx;obtain rfl:=Jo h.1;have h1:=Jo h.2.1;refine ⟨h.2.2,_,rfl,fun ρ w l hb=> ?_⟩;obtain ⟨q1,q2,q3⟩:=hb.arr _ rfl;exact (Iq.rowed cells ty _ sz' n' g (v6j _ _ _) (q1.trans (y1m _ h1)) q2 fun i hi=>by rw [<-h1 i hi];exact q3 i hi).sound hb
 | rws a'=>
  rcases o with _ | ⟨cells,ty,_ | ⟨sz',n',a⟩⟩
  .cases hx
  .exact ⟨h,_,rfl,fun ρ w l hb=>by obtain rfl:=Ag hx;exact hb⟩
  .simp only [Fn,Ac] at h hx;obtain rfl:=Ag hx;refine ⟨h.2,_,rfl,fun ρ w l hb=> ?_⟩;obtain ⟨q1,_,_⟩:=hb.arr _ rfl;have q1:cells=rows n' a.get:=q1;subst q1;exact (Iq.rws ty sz' n' a a' (Jo h.1)).sound hb
 | rowo sz n a'=>
  rcases o with _ | ⟨cells,ty,_ | A⟩
  .cases hx
  .simp only [Fn,Ac] at h hx;obtain ⟨hno,hx⟩:=Mp hx;obtain rfl:=Ag hx;obtain ⟨h1,h2,h3⟩:=Jo h.1;refine ⟨h.2,_,rfl,fun ρ w l hb=> ?_⟩;have hb:=hb.at hno;obtain ⟨cs,el,g1,g2,g3⟩:=hb.cells;refine .plain ⟨hb.typ,by rw [hb.n];exact h1.len,hb.tot,fun A hA=>by obtain rfl:=Ag hA;exact ⟨rfl,h2,h3⟩,cs,el,g1,g2,fun i hi=> ?_⟩;have hi0:i<cells.length:=by rw [h1.len];exact hi
   obtain ⟨v,q1,q2⟩:=g3 i hi0;exact ⟨v,q1,h1.sound i hi0 hi q2⟩
  .exact ⟨h,_,rfl,fun ρ w l hb=>by obtain rfl:=Ag hx;exact hb⟩
def Rl :List (Nat×VP)->T CA->Bool->T CA×Bool
 | [],env,ob=>(env,ob)
 | (t,p)::l,env,ob=>match Rl l env ob with
  | (e,ob)=>match JR p (T.get .undef e t) ob with
   | (v,ob)=>(T.set .undef e t v,ob)
def Gg (e e':T CA):Prop:= ∀t,(∀(ρ:CF) (v:Value),VRel ρ (T.get .undef e t) v->VRel ρ (T.get .undef e' t) v)/\(T.get .undef e t=.undef ->T.get .undef e' t=.undef)
theorem Gg.refl (e:T CA):Gg e e:=fun _=>⟨fun _ _ h=>h,fun h=>h⟩
theorem x3s : ∀{l:List (Nat×VP)} {env:T CA} {ob:Bool},(Rl l env ob).2=true->Gg env (Rl l env ob).1/\ob=true
 | [],_,_,h=>⟨Gg.refl _,h⟩
 | (t,p)::l,env,ob,h=>by
  simp only [Rl] at h ⊢;obtain ⟨h1,h2⟩:=w6l h;obtain ⟨h3,h4⟩:=x3s h2;refine ⟨fun s=> ?_,h4⟩;rw [T.get_set];by_cases e:s=t
  .subst e;rw [AF rfl];exact ⟨fun ρ v hv=>h1.sound ((h3 s).1 ρ v hv),fun hu=>by have e:=(h3 s).2 hu;rw [e] at h1 ⊢;exact h1.of_undef⟩
  .rw [Az e];exact h3 s
def NM :List BP->Nat->CI->Bool->CI×Bool
 | [],_,m,ob=>(m,ob)
 | p::ps,i,m,ob=>match NM ps (i+1) m ob with
  | (m',ob)=>match Fn p (Yi m i) ob with
   | (x,ob)=>(Wv m' i x,ob)
theorem u4l {p:BP} {o:Option CG} {ob:Bool} (h:(Fn p o ob).2=true):ob=true:=by
 cases p with
 | keep=>exact h
 | drop=>exact h
 | cells ps=>
  rcases o with _ | ⟨cells,ty,_ | A⟩
  .exact h
  .exact (y7j h).2
  .exact h
 | rowed sz n g=>
  rcases o with _ | ⟨cells,ty,_ | A⟩;all_goals simp_all [Fn]
 | rws a=>
  rcases o with _ | ⟨cells,ty,_ | A⟩;all_goals simp_all [Fn]
 | rowo sz n a=>
  rcases o with _ | ⟨cells,ty,_ | A⟩;all_goals simp_all [Fn]
theorem x1f : ∀{ps:List BP} {i:Nat} {m:CI} {ob:Bool},(NM ps i m ob).2=true->ob=true/\ ∀b x',Yi (NM ps i m ob).1 b=some x'-> ∃x,Yi m b=some x/\ ∀(ρ:CF) (w:World) (l:CZ),Wn ρ w x l->Wn ρ w x' l
 | [],_,_,_,h=>⟨h,fun b x' hb=>⟨x',hb,fun _ _ _ q=>q⟩⟩
 | p::ps,i,m,ob,h=>by
  simp only [NM] at h ⊢;have hob:(NM ps (i+1) m ob).2=true:=u4l h;obtain ⟨h1,h2⟩:=x1f hob;refine ⟨h1,fun b x' hb=> ?_⟩;rw [Vc] at hb;by_cases e:b=i
  .subst e;rw [AF rfl] at hb;exact (w1u h hb).2
  .rw [Az e] at hb;exact h2 b x' hb
def Rm :List (List (Nat×VP))->List Cd->Bool->List Cd×Bool
 | _,[],ob=>([],ob)
 | [],l,ob=>(l,ob)
 | p::ps,⟨cx,ro,todo,rnd,rs,env⟩::l,ob=>match Rm ps l ob with
  | (l',ob)=>match Rl p env ob with
   | (e,ob)=>(⟨cx,ro,todo,rnd,rs,e⟩::l',ob)
def QP (a a':Cd):Prop:=a.cx=a'.cx/\a.ro=a'.ro/\a.todo=a'.todo/\a.rnd=a'.rnd/\a.rs=a'.rs/\Gg a.env a'.env
theorem QP.refl (a:Cd):QP a a:=⟨rfl,rfl,rfl,rfl,rfl,Gg.refl _⟩
theorem Vf.refl' : ∀l:List Cd,Vf QP l l
 | []=>.nil
 | a::l=>.cons (QP.refl a) (Vf.refl' l)
theorem w6m : ∀{ps:List (List (Nat×VP))} {l:List Cd} {ob:Bool},(Rm ps l ob).2=true->Vf QP l (Rm ps l ob).1/\ob=true
 | [],[],_,h=>⟨.nil,h⟩
 | _::_,[],_,h=>⟨.nil,h⟩
 | [],a::l,_,h=>⟨Vf.refl' _,h⟩
 | p::ps,⟨cx,ro,todo,rnd,rs,env⟩::l,ob,h=>by simp only [Rm] at h ⊢;obtain ⟨h1,h2⟩:=x3s h;obtain ⟨h3,h4⟩:=w6m h2;exact ⟨.cons ⟨rfl,rfl,rfl,rfl,rfl,h1⟩ h3,h4⟩
structure Ge where
 slots:List (Nat×VP):=[]
 blks:List BP:=[]
 cs:List (List (Nat×VP)):=[]
def Rk (L:Ge):CJ->CJ
 | ⟨cx,ro,todo,rnd,rs,⟨env,mem,next,orc,ob⟩,cs,lps⟩=>match Rm L.cs cs ob with
  | (cs',ob)=>match NM L.blks 0 mem ob with
   | (mem',ob)=>match Rl L.slots env ob with
    | (env',ob)=>⟨cx,ro,todo,rnd,rs,⟨env',mem',next,orc,ob⟩,cs',lps⟩
def TI :List (TypeId×Nat×(Nat->zy))->Nat->CI->CI
 | [],_,m=>m
 | (ty,sz,g)::l,i,m=>Wv (TI l (i+1) m) i (some ⟨[],ty,some ⟨sz,0,.flat g⟩⟩)
def ZC (gs:List (TypeId×Nat×(Nat->zy))):CJ->CJ
 | ⟨cx,ro,todo,rnd,rs,⟨env,mem,next,orc,ob⟩,cs,lps⟩=>⟨cx,ro,todo,rnd,rs,⟨env,TI gs next mem,next+gs.length,orc,ob⟩,cs,lps⟩
theorem y2k : ∀(gs:List (TypeId×Nat×(Nat->zy))) (i:Nat) (m:CI) (b:Nat),(b<i->Yi (TI gs i m) b=Yi m b)/\(i+gs.length<=b->Yi (TI gs i m) b=Yi m b)
 | [],i,m,b=>⟨fun _=>rfl,fun _=>rfl⟩
 | (ty,sz,g)::l,i,m,b=>by obtain ⟨h1,h2⟩:=y2k l (i+1) m b;simp only [TI,Vc,Ba];exact ⟨fun h=>by rw [Az (by omega)];exact h1 (by omega),fun h=>by rw [Az (by omega)];exact h2 (by omega)⟩
theorem Fq.less {P:Program} {ρ:CF} {cs:List Cd} {css:List Frame} {mss:zt} (h:Fq P ρ cs css mss): ∀{cs':List Cd},Vf QP cs cs'->Fq P ρ cs' css mss:=by
 induction h with
 | nil=>intro cs' h;cases h;exact .nil
 | @cons af b a k ms cs css mss hf hl t ih=>
  intro cs' h;cases h with
  | @cons _ af' _ cs'' h1 h2=>
   obtain ⟨e1,e2,e3,e4,e5,e6⟩:=h1;have hne:cs''≠ []->cs≠ []:=fun hn he=>by subst he;cases h2;exact hn rfl
   rw [show Va af.ro k=Va af'.ro k by rw [e2]];exact .cons ⟨by rw [<-e1];exact ⟨hf.env.size,fun t=>(e6 t).1 _ _ (hf.env.get t),fun t ht=>(e6 t).2 (hf.env.out t ht)⟩,hf.defers,by rw [<-e3];exact hf.todo,by rw [<-e2];exact hf.ro,by rw [<-e4];exact hf.rnd⟩
    (fun hn=>by grind) (ih h2)
theorem y2j {P:Program} {cx:CN} {ro:Option CY} {todo:List Item} {rnd:Option Nat} {rs:List ResultVar} {env env':T CA} {mem mem':CI} {k k':Nat} {o o':List Bool} {b0 b0':Bool} {cs cs':List Cd} {lps:CO}
  (hE:Gg env env') (hC:Vf QP cs cs') (hM: ∀b x',b<k->Yi mem' b=some x'-> ∃x,Yi mem b=some x/\ ∀(ρ:CF) (w:World) (l:CZ),Wn ρ w x l->Wn ρ w x' l) (hk:k<=k') (hbd:(∀b,k<=b->Yi mem b=none)-> ∀b,k'<=b->Yi mem' b=none):
  Cn P ⟨cx,ro,todo,rnd,rs,⟨env,mem,k,o,b0⟩,cs,lps⟩ ⟨cx,ro,todo,rnd,rs,⟨env',mem',k',o',b0'⟩,cs',lps⟩:=
 fun H w0 ρ b a t css w ma mb hs he cs0=>by
  have hr:=hs.rel;simp only at hr he;have hne:cs'≠ []->cs≠ []:=fun hn e=>by subst e;cases hC;exact hn rfl
  refine ⟨ρ,b,a,t,css,w,ma,mb,Steps.refl _ _,⟨⟨?_,hs.top.defers,hs.top.todo,hs.top.ro,hs.top.rnd⟩,fun hn=>hs.lv (hne hn),⟨hs.rest.cs.less hC,hs.rest.nodup,hs.rest.marks,hs.rest.loops,hs.rest.inj⟩,?_⟩,?_,rfl,Aq _⟩
  .exact ⟨hs.top.env.size,fun t=>(hE t).1 _ _ (hs.top.env.get t),fun t ht=>(hE t).2 (hs.top.env.out t ht)⟩
  .have lift: ∀c l,ρ c=some l->(Yi mem' c).isSome =true->(Yi mem c).isSome =true:=fun c l hc h=>by obtain ⟨x,hx⟩:=BX.1 h;obtain ⟨y,hy,_⟩:=hM c x (hr.dom c l hc) hx;rw [hy];rfl
   refine ⟨fun c l hc=>AZ (hr.dom c l hc) hk,fun c c' l l' hc hc' hl h1 h2=>hr.inj c c' l l' hc hc' hl (lift c l hc h1) (lift c' l' hc' h2),fun c l ab hc h1=> ?_,hr.old,fun c l hc h1=>hr.sep c l hc (lift c l hc h1),hr.real,hbd hr.bd,fun j l hj=>AZ (hr.ldom.1 j l hj) hk,hr.ldom.2⟩;obtain ⟨y,hy,h2⟩:=hM c ab (hr.dom c l hc) h1;exact h2 _ _ _ (hr.blk c l y hc hy)
  .exact ⟨he.ext,fun _ hb=>absurd hb (AD _),AA _,fun _ hb=>absurd hb (AD _),he.frame,he.fresh,he.size,he.os,he.tape,he.output,he.still⟩
theorem v0n {P:Program} {L:Ge} {C:CJ} (ho:(Rk L C).st.ob =true):C.st.ob=true/\Cn P C (Rk L C):=by
 obtain ⟨cx,ro,todo,rnd,rs,⟨env,mem,next,orc,ob⟩,cs,lps⟩:=C;simp only [Rk] at ho ⊢;obtain ⟨h1,h2⟩:=x3s ho;obtain ⟨h3,h4⟩:=x1f h2;obtain ⟨h5,h6⟩:=w6m h3;refine ⟨h6,y2j h1 h5 (fun b x' _ hb=>h4 b x' hb) (Aq _) fun hbd b hb=> ?_⟩;cases hq:Yi (NM L.blks 0 mem (Rm L.cs cs ob).2).1 b with
 | none=>rfl
 | some x'=>
  grind
theorem w2l {P:Program} (gs:List (TypeId×Nat×(Nat->zy))) (C:CJ):Cn P C (ZC gs C)/\(ZC gs C).st.ob =C.st.ob:=by
 obtain ⟨cx,ro,todo,rnd,rs,⟨env,mem,next,orc,ob⟩,cs,lps⟩:=C;exact ⟨y2j (Gg.refl _) (Vf.refl' _) (fun b x' hb h=>⟨x',by grind [y2k],fun _ _ _ q=>q⟩) (B8 _ _) fun hbd b hb=>by
  rw [(y2k gs next mem b).2 hb];grind,rfl⟩
theorem v0z {P:Program} {C C':CJ} {orc:List Bool} {ob:Bool} (g:Cn P (C.withO orc) (C'.withB ob)):Cn P C C':=by
 obtain ⟨cx,ro,todo,rnd,rs,⟨env,mem,next,o,b⟩,cs,lps⟩:=C;obtain ⟨cx',ro',todo',rnd',rs',⟨env',mem',next',o',b'⟩,cs',lps'⟩:=C';exact fun H w0 ρ b a k css w ma mb hs he cs0=>by obtain ⟨ρ',b',a',k',css',w',ma',mb',h1,h2,h3,h4⟩:=g H w0 ρ b a k css w ma mb ⟨hs.top,hs.lv,hs.rest,hs.rel⟩ he cs0;exact ⟨ρ',b',a',k',css',w',ma',mb',h1,⟨h2.top,h2.lv,h2.rest,h2.rel⟩,h3,h4⟩
theorem u0m {P:Program} {S:CC} (hN:EL P) (hmx:P.follows .mixedOrders =true) (hS:Zu P S) {n m d:Nat} {C C':CJ} (gs:List (TypeId×Nat×(Nat->zy))) (N:DB) (L:Ge) (orc:List Bool) (ob:Bool)
  (h:(((Td P S (J2 P S m d) n (C.withO orc)).map (ZC gs)).bind (Tf P N)).map (Rk L)=some (C'.withB ob)) (ho:ob=true) (hfl:Rq C=true):Cn P C C':=by
 rw [Ar] at h;obtain ⟨C2,h1,h2⟩:=h;rw [B0] at h1;obtain ⟨C1,h3,h4⟩:=h1;rw [Ar] at h3;obtain ⟨C0,h5,rfl⟩:=h3;have hfo:Rq (C.withO orc)=true:=by obtain ⟨cx,ro,todo,rnd,rs,⟨env,mem,next,o,b⟩,cs,lps⟩:=C;exact hfl
 obtain ⟨hCI,hC⟩:=x9r hN hmx hS m d;obtain ⟨f1,f2,f3⟩:=y7n hN hmx hS hCI hC n (C.withO orc) C0 (w7c hfo) h5;have hob:(Rk L C2).st.ob =true:=by rw [h2];obtain ⟨cx,ro,todo,rnd,rs,⟨env,mem,next,o,b⟩,cs,lps⟩:=C';exact ho
 obtain ⟨l1,l2⟩:=v0n (P:=P) hob;obtain ⟨g1,g2,_⟩:=x0z h4 l1;obtain ⟨q1,q2⟩:=w2l (P:=P) gs C0;rw [q2] at g1;have:=(((f3 g1).goes.trans q1).trans g2).trans l2;rw [h2] at this;exact v0z this
theorem x2s (n:Nat) (g:Nat->zy):Kh n g g=true:=Xo fun _ _=>rfl
theorem v4j (a g:Nat->zy):Kh 0 a g=true:=Xo fun _ h=>absurd h (AD _)
theorem ZO {a b:Nat} (h: ¬a<=b):Nat.ble a b=false:=A7.2 fun e=>h (Ak e)
theorem ZP {a b:Nat} (h:a<=b):Nat.ble a b=true:=by simp_all
theorem v4n {n N sz:Nat} {G H H':Nat->zy} {cells:zy} (m:Nat) (h:Kh n G H=true) (hN:N=n+m) (h0: ∀i,i<n->H' i=H i) (h1: ∀i,i<m->(cells.drop (i*sz)).take sz=H' (n+i)):Kh N (Zr G 0 n sz cells) H'=true:=Xo fun i hi=>by
 unfold Zr;by_cases e:n<=i
 .grind [ZP]
 .rw [ZO e,Aa,Ah,Jo h i (by omega),h0 i (by omega)]
theorem y2q {α:Type} {sz:Nat}: ∀(l:List (List α)) (i:Nat),(∀x∈l,x.length=sz)->i<l.length->(l.flatten.drop (i*sz)).take sz=l.getD i []
 | [],i,_,h=>absurd h (AD _)
 | x::l,0,hl,_=>by
  grind
 | x::l,i+1,hl,h=>by have hx:=hl x (by simp);rw [List.flatten_cons,List.getD_cons_succ,<-y2q l i (fun y hy=>hl y (by simp [hy])) (by simpa using h)];rw [List.drop_append,hx,show (i+1)*sz - sz=i*sz by rw [AS,B5];omega,Aw (by rw [hx,AS,B5];omega),A0]
theorem v4m {m N:Nat} {G H H':Nat->zy} (h':Kh m H H'=true) (hN:N=0+m):Kh N (Jf G 0 H) H'=true:=Xo fun i hi=>Jo h' i (by omega)
theorem x9n {n:Nat} {G H:Nat->zy} (h:Kh n G H=true):Kh n (fun k=>G (0+k)) H=true:=by grind
theorem u2f {cells:zy} {sz n:Nat} {g:Nat->zy} (h:cells=rows n g) (h1:Nat.ble 1 sz=true) (h2: ∀i,(g i).length =sz):YZ cells sz n g=true:=Xo ⟨h,Ak h1,fun i _=>h2 i⟩
def Cs :List (Nat×CG)->CI
 | []=>.leaf
 | (i,b)::l=>Wv (Cs l) i (some b)
def DA :List (Nat×DQ)->CO
 | []=>.leaf
 | (i,b)::l=>Ft (DA l) i (some b)
class Xp (α:Type) where
 w:Nat
 d:α
 cells:α->zy
 of:zy->α
 len: ∀a,(cells a).length =w
 pos:1<=w
 flat: ∀a,(cells a).all (pf 6)=true
 sc: ∀a,(cells a).all DH=true
 back: ∀a,of (cells a)=a
def DG :CA->Int
 | .int _ n=>n
 | _=>0
def oOf :CA->Bool
 | .bool b=>b
 | _=>false
instance : Xp Int where
 w:=1
 d:=0
 cells x:=[.int .i64 x]
 of l:=DG (l.getD 0 .undef)
 len _:=rfl
 pos:=Aq 1
 flat _:=rfl
 sc _:=rfl
 back _:=rfl
instance : Xp Bool where
 w:=1
 d:=false
 cells x:=[.bool x]
 of l:=oOf (l.getD 0 .undef)
 len _:=rfl
 pos:=Aq 1
 flat _:=rfl
 sc _:=rfl
 back _:=rfl
structure R2 where
 (a b:Int)
 deriving DecidableEq
abbrev zp:=List R2
structure R3 where
 (a b c:Int)
 deriving DecidableEq
abbrev zo:=List R3
structure R4 where
 (a b c d:Int)
 deriving DecidableEq
abbrev zu:=List R4
structure R6 where
 (a b c d e f:Int)
 deriving DecidableEq
abbrev zx:=List R6
instance : Xp R2 where
 w:=2
 d:=⟨0,0⟩
 cells x:=[.int .i64 x.a,.int .i64 x.b]
 of l:=⟨DG (l.getD 0 .undef),DG (l.getD 1 .undef)⟩
 len _:=rfl
 pos:=by decide
 flat _:=rfl
 sc _:=rfl
 back _:=rfl
instance : Xp R3 where
 w:=3
 d:=⟨0,0,0⟩
 cells x:=[.int .i64 x.a,.int .i64 x.b,.int .i64 x.c]
 of l:=⟨DG (l.getD 0 .undef),DG (l.getD 1 .undef),DG (l.getD 2 .undef)⟩
 len _:=rfl
 pos:=by decide
 flat _:=rfl
 sc _:=rfl
 back _:=rfl
instance : Xp R4 where
 w:=4
 d:=⟨0,0,0,0⟩
 cells x:=[.int .i64 x.a,.int .i64 x.b,.int .i64 x.c,.int .i64 x.d]
 of l:=⟨DG (l.getD 0 .undef),DG (l.getD 1 .undef),DG (l.getD 2 .undef),DG (l.getD 3 .undef)⟩
 len _:=rfl
 pos:=by decide
 flat _:=rfl
 sc _:=rfl
 back _:=rfl
instance : Xp R6 where
 w:=6
 d:=⟨0,0,0,0,0,0⟩
 cells x:=[.int .i64 x.a,.int .i64 x.b,.int .i64 x.c,.int .i64 x.d,.int .i64 x.e,.int .i64 x.f]
 of l:=⟨DG (l.getD 0 .undef),DG (l.getD 1 .undef),DG (l.getD 2 .undef),DG (l.getD 3 .undef),DG (l.getD 4 .undef),DG (l.getD 5 .undef)⟩
 len _:=rfl
 pos:=by decide
 flat _:=rfl
 sc _:=rfl
 back _:=rfl
section
variable {α:Type} [Xp α]
def rd (L:List α) (k:Nat):α:=L.getD k Xp.d
def Zz (L:List α):Nat->zy:=fun k=>Xp.cells (rd L k)
abbrev dt (l:List α):CA:=.dat l.length (Zz l)
abbrev rz (l:List α) (t w:Nat):CG:=⟨rows l.length (Zz l),t,some ⟨w,l.length,Zz l⟩⟩
def Cl (α:Type) [Xp α] (n:Nat) (g:Nat->zy):List α:=(List.range n).map fun k=>Xp.of (g k)
def CU (α:Type) [Xp α] (n:Nat) (g:Nat->zy):Bool:=pd (∀i,i<n->g i=Xp.cells (Xp.of (g i):α))
theorem Xm {L:List α} {k:Nat} (h:k<L.length):rd L k=L[k]:=by grind [rd]
theorem y9t {L M:List α} {k:Nat} (h:k<L.length):rd (L++M) k=rd L k:=by
 grind [rd]
theorem y6t {L M:List α} {k:Nat} (h:L.length<=k):rd (L++M) k=rd M (k - L.length):=by
 grind [rd]
theorem Zp (L:List α):Cl α L.length (Zz L)=L:=by
 apply BO;all_goals grind [Cl,Zz,Xp.back,Xm]
def CB (L:List α):List α:=Cl α L.length (Zz L)
theorem Zd (L:List α):CB L=L:=Zp L
theorem x1d (n:Nat) (g:Nat->zy):(Cl α n g).length =n:=by simp [Cl]
theorem XF (L:List α) (n:Nat):CU α n (Zz L)=true:=Xo fun i _=>by simp only [Zz];rw [Xp.back]
theorem x6v (L:List α) (off n:Nat):CU α n (fun k=>Zz L (off+k))=true:=Xo fun i _=>by simp only [Zz];rw [Xp.back]
theorem w6o (g:Nat->zy):CU α 0 g=true:=Xo fun i h=>absurd h (AD _)
theorem u4u (g:Nat->zy) (h0:g 0=Xp.cells (Xp.of (g 0):α)):CU α 1 g=true:=Xo fun i h=>by
 grind
theorem u4t (g:Nat->zy) (h0:g 0=Xp.cells (Xp.of (g 0):α)) (h1:g 1=Xp.cells (Xp.of (g 1):α)):CU α 2 g=true:=Xo fun i h=>by
 grind
theorem w6p {n:Nat} {g:Nat->zy} (h:CU α n g=true): ∀i,i<n->g i=Zz (Cl α n g) i:=fun i hi=>by
 rw [Jo h i hi]
 grind [Zz,Xm,Cl]
theorem Xc (L:List α):DR (Zz L)=true:=Xo fun _=>Xp.flat _
theorem v1t {sz:Nat} (L:List α) (n:Nat) (h:sz=Xp.w α):EY sz n (Zz L)=true:=QY fun _ _=>⟨by rw [h];exact Xp.len _,Xp.sc _⟩
theorem v1u {sz:Nat} (L:List α) (off n:Nat) (h:sz=Xp.w α):EY sz n (fun k=>Zz L (off+k))=true:=QY fun _ _=>⟨by rw [h];exact Xp.len _,Xp.sc _⟩
theorem w3n {sz N off m:Nat} {G:Nat->zy} (h:EY sz N G=true) (hb:decide (off+m<=N)=true):EY sz m (fun k=>G (off+k))=true:=QY fun i hi=>by have hb:=Ay hb;exact QX h (off+i) (by omega)
theorem v8z {sz n N m:Nat} {G:Nat->zy} {cells:zy} (h:EY sz n G=true) (hN:N=n+m) (hc:cells.length=m*sz) (hs:cells.all DH=true):EY sz N (Zr G 0 n sz cells)=true:=QY fun i hi=>by
 unfold Zr;by_cases e:n<=i
 .rw [ZP e,Ab];have:(i - n)*sz+sz<=m*sz:=by
   have:=AE sz (show i - n+1<=m by omega)
   grind
  grind
 .rw [ZO e,Aa,Ah];exact QX h i (by omega)
theorem w5f {L M:List α} {n N sz:Nat} {G:Nat->zy} {cells:zy} (h:Kh n G (Zz L)=true) (hn:n=L.length) (hN:N=n+M.length) (hsz:sz=Xp.w α) (hc:cells=(M.map Xp.cells).flatten):Kh N (Zr G 0 n sz cells) (Zz (L++M))=true:=by
 grind [v4n,Zz,y2q,Xp.len,Xm]
theorem v5n {L:List α} {r k:Nat} {y:α} (hk:k<L.length):rd (L.set r y) k=if k=r then y else rd L k:=by
 grind [Xm]
theorem w5e {L:List α} {n r fo:Nat} {G:Nat->zy} {cs:zy} {y:α} (h:Kh n G (Zz L)=true) (hn:n=L.length) (hy:Xp.cells y=(Xp.cells (rd L r)).take fo++cs++(Xp.cells (rd L r)).drop (fo+cs.length)):Kh n (Xg G r fo cs) (Zz (L.set r y))=true:=by
 subst hn;refine Xo fun i hi=> ?_;unfold Xg;simp only [Zz];rw [v5n hi];cases e:Nat.beq i r with
 | true=>have:=Ai e;subst this;rw [Ab,AF rfl,Jo h i hi,hy];rfl
 | false=>
  have:i≠r:=fun q=>by simp_all
  rw [Aa,Az this,Jo h i hi];rfl
theorem u1s {n:Nat} {cs:zy} {y:α} {G:Nat->zy} (hG:G=fun _=>cs) (hy:Xp.cells y=cs):Kh n G (Zz (List.replicate n y))=true:=Xo fun i hi=>by
 grind [Zz,Xm]
theorem v4l {L M:List α} {n m N:Nat} {G H:Nat->zy} (h:Kh n G (Zz L)=true) (hn:n=L.length) (h':Kh m H (Zz M)=true) (hN:N=n+m):Kh N (Jf G n H) (Zz (L++M))=true:=by
 subst hn;refine Xo fun i hi=> ?_;unfold Jf;by_cases e:L.length<=i
 .rw [ZP e,Ab,Jo h' _ (by omega)];grind [Zz,y6t]
 .rw [ZO e,Aa,Jo h i (by omega)];grind [Zz,y9t]
theorem v7d {sz:Nat} (L:List α) (n:Nat) (h:sz=Xp.w α):IV n (Zz L) sz=true:=QY fun _ _=>by rw [h];exact Xp.len _
theorem v0p {sz n:Nat} {L:List α} {off:Nat} (h:sz=Xp.w α):IV n (fun k=>Zz L (off+k)) sz=true:=QY fun _ _=>by rw [h];exact Xp.len _
def Dl (L:List α) (off n:Nat):List α:=(List.range n).map fun k=>rd L (off+k)
theorem y3i (L:List α) (off n:Nat):(Dl L off n).length =n:=by simp [Dl]
theorem x3f {L:List α} {off n k:Nat} (h:k<n):rd (Dl L off n) k=rd L (off+k):=by
 grind [Xm,Dl]
theorem w8v {L:List α} {N off n:Nat} {G:Nat->zy} (h:Kh N G (Zz L)=true) (hb:decide (off+n<=N)=true):Kh n (fun k=>G (off+k)) (Zz (Dl L off n))=true:=Xo fun i hi=>by have hb:=Ay hb;simp only [Zz];rw [x3f hi,Jo h _ (by omega)];rfl
theorem w8u {L:List α} {off n:Nat}:Kh n (fun k=>Zz L (off+k)) (Zz (Dl L off n))=true:=Xo fun i hi=>by simp only [Zz];rw [x3f hi]
theorem Uj (L:List α):Cl α L.length (fun k=>Zz L (0+k))=L:=by
 grind [Zp]
theorem u4v (L:zq):FG (Zz L)=true:=Xo rfl
theorem Qm (L:zq):Yq L.length (CS (Zz L))=L:=Zp L
def GP (L:List α) (off n:Nat) (M:List α):List α:=(List.range L.length).map fun k=>bif Nat.ble off k&&Nat.ble (k+1) (off+n) then rd M (k - off) else rd L k
theorem WY (L:List α) (off n:Nat) (M:List α):(GP L off n M).length =L.length:=by simp [GP]
theorem v5o {L M:List α} {off n k:Nat} (h:k<L.length):rd (GP L off n M) k=bif Nat.ble off k&&Nat.ble (k+1) (off+n) then rd M (k - off) else rd L k:=by
 grind [Xm,GP]
theorem u1u {L M:List α} {N off n m:Nat} {G H:Nat->zy} (h:Kh N G (Zz L)=true) (hN:N=L.length) (h':Kh m H (Zz M)=true) (hm:n<=m):Kh N (Ur G off n H) (Zz (GP L off n M))=true:=by
 subst hN;refine Xo fun i hi=> ?_;unfold Ur;simp only [Zz];rw [v5o hi];cases e:(Nat.ble off i&&Nat.ble (i+1) (off+n)) with
 | true=>simp only [Ac] at e;have e1:=Ak e.1;have e2:=Ak e.2;rw [Ab,Ab,Jo h' _ (by omega)];rfl
 | false=>rw [Aa,Aa,Jo h i hi];rfl
theorem v4k (z g:Nat->zy) (n:Nat):Kh n (Ur z 0 (Nat.min n n) g) g=true:=Xo fun i hi=>by unfold Ur;rw [show Nat.min n n=n from Nat.min_self n,Ah,AX (AA i),AX hi];rfl
theorem v8c {g h:Nat->zy} {off n:Nat} (p:DR g=true) (q:DR h=true):DR (Ur g off n h)=true:=Xo fun i=>by
 unfold Ur;cases (Nat.ble off i&&Nat.ble (i+1) (off+n)) with
 | true=>exact Jo q _
 | false=>exact Jo p _
end
theorem Un {P:Program} {rs:List ResultVar} {σ:Type} {cfg:σ->CJ} {C C':CJ} (g:Cn P C C'): ∀{o:Xk σ},Xh P rs cfg C' o->Xh P rs cfg C o
 | .stuck,_=>trivial
 | .ret _,⟨D,h,h2,h3⟩=>⟨D,g.trans h,h2,h3⟩
 | .to _,h=>g.trans h
theorem w7g : ∀{az bs:zy} (i:Nat) {t u:T CA},Vf D3 az bs->Gg t u->Gg (FO az i t) (FO bs i u)
 | _,_,i,t,u,.nil,h=>h
 | _,_,i,t,u,.cons (a:=a) (b:=b) h1 h2,h=>by
  refine w7g (i+1) h2 fun s=> ?_;rw [T.get_set,T.get_set];by_cases e:s=i
  .rw [AF e,AF e];exact ⟨fun ρ v hv=>h1.sound hv,fun q=>by subst q;exact h1.of_undef⟩
  .rw [Az e,Az e];exact h s
theorem y7z {P:Program} {f:FuncId} {az bs:zy} {vs:zy} (h:Vf D3 az bs) (k:Ji P (Zy P f) (Zb P f bs true []) vs):Ji P (Zy P f) (Zb P f az true []) vs:=by
 obtain ⟨C',g,h2,h3⟩:=k;refine ⟨C',Cn.trans ?_ g,h2,h3⟩;unfold Zb;cases P.funcs[f]? with
 | none=>exact Cn.refl _
 | some fn=>simp only;rw [h.length];exact y2j (w7g 0 h (Gg.refl _)) .nil (fun b x' hb=>absurd hb (AD _)) (Aq _) fun hbd b hb=>hbd b hb
theorem w7r {P:Program} {S:CC} (hS:Zu P S) {f:FuncId} {F:zy->Option (CA×Bool)} (hf:(P.funcs[f]?).any (fun fn=>fn.body.isSome)=true)
  (hF: ∀args v,F args=some (v,true)-> ∃bs vs,Vf D3 args bs/\Jd vs=v/\Ji P (Zy P f) (Zb P f bs true []) vs/\ ∃d,pf d v=true):Zu P (S.with f F):=
 v2t hS hf fun args v h=>by obtain ⟨bs,vs,h1,h2,h3,d,h4⟩:=hF args v h;exact ⟨vs,h2,y7z h1 h3,d,h4⟩
def C4 (α:Type) [Xp α]:CA->Option (List α×(Nat->zy)×Nat)
 | .nils =>some ([],fun _=>[],0)
 | .dat n g=>some (Cl α n g,g,n)
 | _=>none
theorem Xy {α:Type} [Xp α] {v:CA} {L:List α} {g:Nat->zy} {n:Nat} (h:C4 α v=some (L,g,n)) (ho:CU α n g=true):D3 v (.dat L.length (Zz L)):=by
 unfold C4 at h;split at h
 .simp only [Ae,Ad] at h;obtain ⟨rfl,_,_⟩:=h;exact .nild _
 .simp only [Ae,Ad] at h;obtain ⟨rfl,rfl,rfl⟩:=h;rw [x1d];exact .dat _ _ _ (w6p ho)
 .cases h
open Go.ChangeShapes Go.WideShapes Go.Deep
section
variable {P:Program}
def YS (P:Program) (rec:TypeId->Option (List IntKind)):List Field->Nat->Option (List IntKind)
 | [],_=>some []
 | f::r,o=>bif Nat.beq f.offset o then match rec f.type with
   | some ks=>bif Nat.beq (P.cellsOf f.type) ks.length then (YS P rec r (o+ks.length)).map (ks++ ·) else none
   | none=>none
  else none
def JK (P:Program):Nat->TypeId->Option (List IntKind)
 | 0,_=>none
 | d+1,t=>match P.underlying t with
  | some (.int k)=>some [k]
  | some (.struct fs)=>match YS P (JK P d) fs.toList 0 with
   | some ks=>bif Nat.beq (P.cellsOf t) ks.length then some ks else none
   | none=>none
  | _=>none
def H8 (ks:List IntKind) (cs:List Value):Prop:= ∃ns:zq,ns.length=ks.length/\cs=List.zipWith Value.int ks ns/\ ∀p∈List.zip ks ns,p.1.has p.2
theorem H8.append {a b:List IntKind} {x y:List Value} (h:H8 a x) (k:H8 b y):H8 (a++b) (x++y):=by
 obtain ⟨ns,h1,rfl,h3⟩:=h;obtain ⟨ms,k1,rfl,k3⟩:=k;refine ⟨ns++ms,by simp [h1,k1],?_,fun p hp=> ?_⟩;all_goals grind
theorem H8.length {ks:List IntKind} {cs:List Value} (h:H8 ks cs):cs.length=ks.length:=by obtain ⟨ns,h1,rfl,_⟩:=h;simp [h1]
variable {HH:Type} {enc:TypeId×Value->HH} {w:World} {base:Nat} {spare:Nat->Bool} {gT:Bool}
theorem y3k {rec:TypeId->Option (List IntKind)} (hr: ∀t ks,rec t=some ks-> ∀fuel cs x,DataW.trod enc P w base spare gT fuel t cs=some x->H8 ks cs) (cs:List Value):
  ∀(l:List Field) (o:Nat) (ks:List IntKind),YS P rec l o=some ks->o+ks.length<=cs.length->(∀f∈l,∃fuel x,DataW.trod enc P w base spare gT fuel f.type ((cs.drop f.offset).take (P.cellsOf f.type))=some x)->H8 ks ((cs.drop o).take ks.length)
 | [],o,ks,h,_,_=>by obtain rfl:=Ag h;exact ⟨[],rfl,by simp,by simp⟩
 | f::r,o,ks,h,hl,hf=>by
  unfold YS at h;obtain ⟨ho,h⟩:=Zi h;obtain rfl:=Ai ho;split at h
  .rename_i ks1 h1;obtain ⟨hc,h⟩:=Zi h;have hc:=Ai hc;simp only [Ar] at h;obtain ⟨ks2,h2,rfl⟩:=h;obtain ⟨fuel,x,hx⟩:=hf f (by simp);have i1:=hr _ _ h1 _ _ _ hx;rw [hc] at i1;rw [AO] at hl;have i2:=y3k hr cs r _ ks2 h2 (by omega) fun g hg=>hf g (by simp [hg]);have:(cs.drop f.offset).take (ks1++ks2).length =(cs.drop f.offset).take ks1.length++(cs.drop (f.offset+ks1.length)).take ks2.length:=by rw [AO,List.take_add,List.drop_drop]
   rw [this];exact i1.append i2
  .cases h
theorem S5 : ∀(d:Nat) (t:TypeId) (ks:List IntKind),JK P d t=some ks-> ∀(fuel:Nat) (cs:List Value) (x:DataW HH×List MemPlace),DataW.trod enc P w base spare gT fuel t cs=some x->H8 ks cs
 | 0,_,_,h=>by cases h
 | d +1,t,ks,h=>by
  intro fuel cs x hx;unfold JK at h;split at h
  .rename_i k hk;obtain rfl:=Ag h;obtain ⟨m,rfl,_,hw⟩:=DataW.trod_int hk hx;refine ⟨[m],rfl,rfl,fun p hp=> ?_⟩;simp_all [Lit.wf,IntKind.has]
  .rename_i fs hs;split at h
   .rename_i ks1 h1;obtain ⟨hc,h⟩:=Zi h;obtain rfl:=Ag h;have hc:=Ai hc;obtain ⟨xs,n,_,_,hl,eK,hf⟩:=DataW.trod_struct hs hx;have hl:cs.length=ks1.length:=hl.trans hc;have:=y3k (fun t ks ht fuel cs x hx=>S5 d t ks ht fuel cs x hx) cs fs.toList 0 ks1 h1 (by omega) fun f hf'=>by
     obtain ⟨j,hj,rfl⟩:=AQ hf';have hj2:j<fs.size:=(by grind);have:=hf j fs[j] (by simp [hj2])
     grind
    grind
   .cases h
  .cases h
def JS (ks:List IntKind) (c:Nat->Int):zy:=List.zipWith CA.int ks ((List.range ks.length).map c)
theorem v4x (ks:List IntKind) (c:Nat->Int) (j:Nat) (h:j<(JS ks c).length): ∃hk:j<ks.length,(JS ks c)[j]=.int ks[j] (c j):=by
 grind [JS]
theorem u5x {e:TypeId} {ks:List IntKind} (hk:JK P 30 e=some ks) {blk off len cap m fl:Nat} {D:Nat->DataW HH} {Pl:Nat->List MemPlace} (hl:len<=cap) (hlm:len<=m)
  (hi: ∀i,i<m-> ∃cs',w.cells? base ((⟨blk,off,none⟩:Addr).add (i*P.cellsOf e)) (P.cellsOf e)=some cs'/\DataW.trod enc P w base spare gT fl e cs'=some (D i,Pl i)):
  ∃c:Nat->Nat->Int,VRel (rhoOf fun k=>w.heap[k]?) (.dat len (fun i=>JS ks (c i))) (.slice (some ⟨blk,off,none⟩) len cap)/\ ∀i,i<len-> ∀(j:Nat) (k:IntKind),ks[j]? =some k->k.has (c i j):=by
 have key: ∀i,i<len-> ∃ns:zq,ns.length=ks.length/\(∀j,j<ks.length-> ∃k,ks[j]? =some k/\w.cell? ⟨blk,off+(i*ks.length+j),none⟩=some (.int k (ns.getD j 0))/\k.has (ns.getD j 0)):=by
  intro i hil;obtain ⟨cs',hc',ht'⟩:=hi i (by omega);have I:=S5 30 e ks hk _ _ _ ht';obtain ⟨_,eK,fG⟩:=World.cells?_some hc';have hce:P.cellsOf e=ks.length:=by rw [<-eK];exact I.length
  obtain ⟨ns,n1,n2,n3⟩:=I;refine ⟨ns,n1,fun j hj=> ?_⟩;have hj2:j<ns.length:=by omega
  refine ⟨ks[j],by simp [hj],?_,?_⟩
  .grind [Xf]
  .have:(ks[j],ns[j])∈List.zip ks ns:=by
    rw [List.mem_iff_getElem]
    grind
   grind
 let c:Nat->Nat->Int:=fun i j=>if hil:i<len then ((key i hil).choose).getD j 0 else 0
 have hcs: ∀i,i<len-> ∀j,j<ks.length-> ∃k,ks[j]? =some k/\w.cell? ⟨blk,off+(i*ks.length+j),none⟩=some (.int k (c i j))/\k.has (c i j):=by
  grind
 refine ⟨c,.dat len _ blk off ks.length cap (fun i j=>.int (ks.getD j .i64) (c i j)) hl (fun i _=>by simp [JS]) (fun i j hil hj=> ?_) (fun i j hil hj=> ?_),fun i hil j k hkj=> ?_⟩
 .obtain ⟨hk2,e2⟩:=v4x ks (c i) j hj;rw [e2];have:ks.getD j .i64 =ks[j]:=by simp [hk2]
  rw [this];exact .int _ _
 .obtain ⟨k,e1,e2,_⟩:=hcs i hil j hj;have:ks.getD j .i64 =k:=by simp [e1]
  rw [this];unfold World.cell? at e2;split at e2
  .rename_i cl el fz hb2;simp only [Option.isSome_none,Bool.false_eq_true,if_false] at e2;exact ⟨cl,el,fz,hb2,e2⟩
  .cases e2
 grind
end
end Go.Am
namespace Go.Proofs
open Go.Shelf Go.RowKit Go.Lib
variable {P:Program} {ρ:Ren}
theorem j3r {e:TypeId} (hc:P.cellsOf e=1) (count o n:Nat) (hn:o+n<=count):liesAt P P.depth e count o e n=true:=by have hd:P.depth=(2*(P.types.size+Made.depth)+1)+1:=rfl;rw [hd];simp only [liesAt,Bool.or_eq_true];left;rw [hd];simp [rowAt,hc,sameLayout];omega
theorem y6n (w:World) (pt it ty e:TypeId) (hp:P.underlying pt=some (.pointer e)) (hc:P.cellsOf e=1) (g o cells:Nat) (hsh:w.shape? g=some (e,cells)) (l:List UInt8) (h0:l≠ []) (hn:o+l.length<=cells) (h63:l.length<=9223372036854775807)
  (fG: ∀j x,l[j]? =some x->w.cell? ((⟨g,o,none⟩:Addr).add j)=some (.int .u8 x.toNat)):
  (Builtin.unsafeString_ #[pt,it] ty #[.pointer (some ⟨g,o,none⟩),.int .i64 l.length]).run P w=.ok (.string ⟨l.toArray⟩) (w.freeze ⟨g,o,none⟩ l.length):=by
 have hl:l.length≠0:=by simpa using h0
 have hlb:=run_loadBytes (P:=P) w l ⟨g,o,none⟩ .empty fG;have hlies:=j3r (P:=P) hc (cells / P.cellsOf e) o l.length (by rw [hc];simpa using hn);have h63': ¬(9223372036854775807:Int)<(l.length:Int):=by omega
 have hmax:IntKind.i64.max=9223372036854775807:=rfl;obtain ⟨e1,e2,e3,hdef⟩: ∃e1 e2 e3,Builtin.unsafeString_ #[pt,it] ty #[.pointer (some ⟨g,o,none⟩),.int .i64 l.length]=
   (do
    let n<-asInt (.int .i64 l.length)
    if n<0 then runtimePanic e1
    if n>IntKind.i64.max then unsupported e2
    if n=0 then pure (.string .empty)
    else if<-variablesAt ⟨g,o,none⟩ (<-elemOf pt) n.toNat then do
     let s<-loadBytes ⟨g,o,none⟩ .empty n.toNat
     freeze ⟨g,o,none⟩ n.toNat
     pure (.string s)
    else unsupported e3):=⟨_,_,_,rfl⟩
 rw [hdef];have hneg: ¬(l.length:Int)<0:=by omega
 simp [asInt,asIntOf,hmax,h63',hneg,hl,variablesAt,hsh,elemOf,run_underlying hp,hlies,hlb]
theorem v4i (w:World) (g o n k:Nat) (h:g≠k):(w.freeze ⟨g,o,none⟩ n).heap[k]? =w.heap[k]? :=by
 unfold World.freeze;split
 .rfl
 .simp only [Array.getElem?_modify];rw [if_neg h]
theorem y9p (w:World) (p:Addr) (n:Nat):(w.freeze p n).heap.size =w.heap.size/\(w.freeze p n).os =w.os/\(w.freeze p n).tape =w.tape/\(w.freeze p n).output =w.output:=by unfold World.freeze;split <;> simp
set_option maxHeartbeats 4000000 in
set_option maxRecDepth 100000 in
theorem x2r (L:Lays.n169 P ρ) (X:Builder.Extra P ρ) (b:Nat) (p:Value) (w:World) (hbk:w.heap[b]? =some (.cells #[p,Value.slice none 0 0] (ρ.t 72) (0,0))):
  Calls P (ρ.f 169) #[.pointer (some ⟨b,0,none⟩)] w fun e w'=>e=.returned (.string ⟨#[]⟩)/\w'=w.drew:=by
 have c1:w.drew.cell? ⟨b,1,none⟩=some (Value.slice none 0 0):=by have:w.drew.heap[b]? =some (.cells #[p,Value.slice none 0 0] (ρ.t 72) (0,0)):=hbk;rw [Lib.cell_of_heap this];rfl
 have hUS: ∀(W:World) (q:Option Addr),(Builtin.unsafeString_ #[(ρ.t 127),(ρ.t 3)] (ρ.t 9) #[.pointer q,.int .i64 0]).run P W=.ok (.string .empty) W:=fun W q=>Lib.run_unsafeString_none W _ _ _ q;have hSD:(Builtin.unsafeSliceData_ #[(ρ.t 37)] (ρ.t 127) #[.slice none 0 0]).run P w.drew=.ok (.pointer none) w.drew:=rfl;have mixed:=L.mixed;have t72:=L.t72;have a72:=L.a72;have z72:=L.z72;have v72:=L.v72;have u72:=run_underlying L.t72;have t70:=L.t70;have a70:=L.a70;have z70:=L.z70;have v70:=L.v70;have u70:=run_underlying L.t70;have t37:=L.t37;have a37:=L.a37;have z37:=L.z37;have v37:=L.v37;have u37:=run_underlying L.t37;have t127:=L.t127;have a127:=L.a127;have z127:=L.z127;have v127:=L.v127;have u127:=run_underlying L.t127;have t3:=L.t3;have a3:=L.a3;have z3:=L.z3;have v3:=L.v3;have u3:=run_underlying L.t3;have t9:=L.t9;have a9:=L.a9;have z9:=L.z9;have v9:=L.v9;have u9:=run_underlying L.t9;have t5:=X.t5;have a5:=X.a5;have z5:=X.z5;have v5:=X.v5;have u5:=run_underlying X.t5
 go_enter L.f169,Body.n169_ntmps ρ
 go_wp2
 go_region_o
 all_goals (go_wp2;go_ret;exact ⟨rfl,rfl⟩)
set_option maxHeartbeats 4000000 in
set_option maxRecDepth 100000 in
theorem y9r (L:Lays.n169 P ρ) (X:Builder.Extra P ρ) (b:Nat) (p:Value) (w:World) (g o cap:Nat) (hc0:cap≠0) (hbk:w.heap[b]? =some (.cells #[p,Value.slice (some ⟨g,o,none⟩) 0 cap] (ρ.t 72) (0,0))):
  Calls P (ρ.f 169) #[.pointer (some ⟨b,0,none⟩)] w fun e w'=>e=.returned (.string ⟨#[]⟩)/\w'=w.drew:=by
 have c1:w.drew.cell? ⟨b,1,none⟩=some (Value.slice (some ⟨g,o,none⟩) 0 cap):=by have:w.drew.heap[b]? =some (.cells #[p,Value.slice (some ⟨g,o,none⟩) 0 cap] (ρ.t 72) (0,0)):=hbk;rw [Lib.cell_of_heap this];rfl
 have hUS: ∀(W:World) (q:Option Addr),(Builtin.unsafeString_ #[(ρ.t 127),(ρ.t 3)] (ρ.t 9) #[.pointer q,.int .i64 0]).run P W=.ok (.string .empty) W:=fun W q=>Lib.run_unsafeString_none W _ _ _ q;have hSD:(Builtin.unsafeSliceData_ #[(ρ.t 37)] (ρ.t 127) #[.slice (some ⟨g,o,none⟩) 0 cap]).run P w.drew=.ok (.pointer (some ⟨g,o,none⟩)) w.drew:=Lib.run_unsafeSliceData_row _ _ _ _ _ _ hc0;clear hc0;have mixed:=L.mixed;have t72:=L.t72;have a72:=L.a72;have z72:=L.z72;have v72:=L.v72;have u72:=run_underlying L.t72;have t70:=L.t70;have a70:=L.a70;have z70:=L.z70;have v70:=L.v70;have u70:=run_underlying L.t70;have t37:=L.t37;have a37:=L.a37;have z37:=L.z37;have v37:=L.v37;have u37:=run_underlying L.t37;have t127:=L.t127;have a127:=L.a127;have z127:=L.z127;have v127:=L.v127;have u127:=run_underlying L.t127;have t3:=L.t3;have a3:=L.a3;have z3:=L.z3;have v3:=L.v3;have u3:=run_underlying L.t3;have t9:=L.t9;have a9:=L.a9;have z9:=L.z9;have v9:=L.v9;have u9:=run_underlying L.t9;have t5:=X.t5;have a5:=X.a5;have z5:=X.z5;have v5:=X.v5;have u5:=run_underlying X.t5
 go_enter L.f169,Body.n169_ntmps ρ
 go_wp2
 go_region_o
 all_goals (go_wp2;go_ret;exact ⟨rfl,rfl⟩)
set_option maxHeartbeats 4000000 in
set_option maxRecDepth 100000 in
theorem y3v (L:Lays.n169 P ρ) (X:Builder.Extra P ρ) (b:Nat) (p:Value) (w:World) (g o:Nat) (cur:Array Value) (hbk:w.heap[b]? =some (.cells #[p,Value.slice (some ⟨g,o,none⟩) 0 0] (ρ.t 72) (0,0))) (hg:w.heap[g]? =some (.cells cur (ρ.t 5) (0,0))):
  Calls P (ρ.f 169) #[.pointer (some ⟨b,0,none⟩)] w fun e w'=>e=.returned (.string ⟨#[]⟩)/\w'=w.drew.alloc (.view ⟨g,o,none⟩ (ρ.t 5)):=by
 have c1:w.drew.cell? ⟨b,1,none⟩=some (Value.slice (some ⟨g,o,none⟩) 0 0):=by have:w.drew.heap[b]? =some (.cells #[p,Value.slice (some ⟨g,o,none⟩) 0 0] (ρ.t 72) (0,0)):=hbk;rw [Lib.cell_of_heap this];rfl
 have hUS: ∀(W:World) (q:Option Addr),(Builtin.unsafeString_ #[(ρ.t 127),(ρ.t 3)] (ρ.t 9) #[.pointer q,.int .i64 0]).run P W=.ok (.string .empty) W:=fun W q=>Lib.run_unsafeString_none W _ _ _ q;have hlt:b<w.heap.size:=(Array.getElem?_eq_some_iff.1 hbk).1;have hSD:(Builtin.unsafeSliceData_ #[(ρ.t 37)] (ρ.t 127) #[.slice (some ⟨g,o,none⟩) 0 0]).run P w.drew=.ok (.pointer (some ⟨w.drew.heap.size,0,none⟩)) (w.drew.alloc (.view ⟨g,o,none⟩ (ρ.t 5))):=
  Lib.run_unsafeSliceData_zero w.drew _ _ (ρ.t 5) L.t127 ⟨g,o,none⟩ 0 ((ρ.t 5),cur.size) (by have hg':w.drew.heap[g]? =some (.cells cur (ρ.t 5) (0,0)):=hg;simp [World.shape?,hg'])
 have c2:(w.drew.alloc (.view ⟨g,o,none⟩ (ρ.t 5))).cell? ⟨b,1,none⟩=some (.slice (some ⟨g,o,none⟩) 0 0):=by have:(w.drew.alloc (.view ⟨g,o,none⟩ (ρ.t 5))).heap[b]? =_:=(Lib.alloc_old w.drew _ b hlt).trans hbk;rw [Lib.cell_of_heap this];rfl
 have c3:(w.alloc (.view ⟨g,o,none⟩ (ρ.t 5))).drew.cell? ⟨b,1,none⟩=some (.slice (some ⟨g,o,none⟩) 0 0):=c2;have c0:w.cell? ⟨b,1,none⟩=some (.slice (some ⟨g,o,none⟩) 0 0):=c1;have mixed:=L.mixed;have t72:=L.t72;have a72:=L.a72;have z72:=L.z72;have v72:=L.v72;have u72:=run_underlying L.t72;have t70:=L.t70;have a70:=L.a70;have z70:=L.z70;have v70:=L.v70;have u70:=run_underlying L.t70;have t37:=L.t37;have a37:=L.a37;have z37:=L.z37;have v37:=L.v37;have u37:=run_underlying L.t37;have t127:=L.t127;have a127:=L.a127;have z127:=L.z127;have v127:=L.v127;have u127:=run_underlying L.t127;have t3:=L.t3;have a3:=L.a3;have z3:=L.z3;have v3:=L.v3;have u3:=run_underlying L.t3;have t9:=L.t9;have a9:=L.a9;have z9:=L.z9;have v9:=L.v9;have u9:=run_underlying L.t9;have t5:=X.t5;have a5:=X.a5;have z5:=X.z5;have v5:=X.v5;have u5:=run_underlying X.t5
 go_enter L.f169,Body.n169_ntmps ρ
 go_wp2
 go_region_o
 all_goals (go_wp2;go_ret;exact ⟨rfl,rfl⟩)
set_option maxHeartbeats 4000000 in
set_option maxRecDepth 100000 in
theorem y9q (L:Lays.n169 P ρ) (X:Builder.Extra P ρ) (b:Nat) (p:Value) (w:World) (g o cap:Nat) (cur:Array Value) (l:List UInt8) (h0:l≠ []) (eT:l.length<=cap) (h63:l.length<=9223372036854775807) (hbk:w.heap[b]? =some (.cells #[p,Value.slice (some ⟨g,o,none⟩) l.length cap] (ρ.t 72) (0,0))) (hg:w.heap[g]? =some (.cells cur (ρ.t 5) (0,0))) (hn:o+l.length<=cur.size) (hc: ∀j x,l[j]? =some x->cur[o+j]? =some (.int .u8 x.toNat)):
  Calls P (ρ.f 169) #[.pointer (some ⟨b,0,none⟩)] w fun e w'=>e=.returned (.string ⟨l.toArray⟩)/\w'=w.drew.freeze ⟨g,o,none⟩ l.length:=by
 have c1:w.drew.cell? ⟨b,1,none⟩=some (Value.slice (some ⟨g,o,none⟩) l.length cap):=by have:w.drew.heap[b]? =some (.cells #[p,Value.slice (some ⟨g,o,none⟩) l.length cap] (ρ.t 72) (0,0)):=hbk;rw [Lib.cell_of_heap this];rfl
 have hl0:l.length≠0:=by simpa using h0
 have hSD:(Builtin.unsafeSliceData_ #[(ρ.t 37)] (ρ.t 127) #[.slice (some ⟨g,o,none⟩) l.length cap]).run P w.drew=.ok (.pointer (some ⟨g,o,none⟩)) w.drew:=
  Lib.run_unsafeSliceData_row _ _ _ _ _ _ (by omega)
 have hUS:(Builtin.unsafeString_ #[(ρ.t 127),(ρ.t 3)] (ρ.t 9) #[.pointer (some ⟨g,o,none⟩),.int .i64 l.length]).run P w.drew=.ok (.string ⟨l.toArray⟩) (w.drew.freeze ⟨g,o,none⟩ l.length):=by
  have hg':w.drew.heap[g]? =some (.cells cur (ρ.t 5) (0,0)):=hg;refine y6n w.drew (ρ.t 127) (ρ.t 3) (ρ.t 9) (ρ.t 5) L.t127 X.cellsByte g o cur.size (by simp [World.shape?,hg']) l h0 hn h63 ?_;intro j x hx;have:=hc j x hx;have e:(⟨g,o,none⟩:Addr).add j=⟨g,o+j,none⟩:=by
   unfold Addr.add;by_cases hj:j=0
   .subst hj;simp
   .simp [hj]
  rw [e];simp [World.cell?,hg',this]
 clear hn hc hg eT;have mixed:=L.mixed;have t72:=L.t72;have a72:=L.a72;have z72:=L.z72;have v72:=L.v72;have u72:=run_underlying L.t72;have t70:=L.t70;have a70:=L.a70;have z70:=L.z70;have v70:=L.v70;have u70:=run_underlying L.t70;have t37:=L.t37;have a37:=L.a37;have z37:=L.z37;have v37:=L.v37;have u37:=run_underlying L.t37;have t127:=L.t127;have a127:=L.a127;have z127:=L.z127;have v127:=L.v127;have u127:=run_underlying L.t127;have t3:=L.t3;have a3:=L.a3;have z3:=L.z3;have v3:=L.v3;have u3:=run_underlying L.t3;have t9:=L.t9;have a9:=L.a9;have z9:=L.z9;have v9:=L.v9;have u9:=run_underlying L.t9;have t5:=X.t5;have a5:=X.a5;have z5:=X.z5;have v5:=X.v5;have u5:=run_underlying X.t5
 go_enter L.f169,Body.n169_ntmps ρ
 go_wp2
 go_region_o
 all_goals (go_wp2;go_ret;exact ⟨rfl,rfl⟩)
set_option maxHeartbeats 1000000 in
theorem u1r (L:Lays.n146 P ρ) (hi9:(P.info? (ρ.t 9)).map (fun i=>(i.zero,i.size,i.bytes))=some (some (.string ByteArray.empty),1,16)) (s:ByteArray) (b:UInt8) (w:World) (hs:s.size<4294967281):
  Calls P (ρ.f 146) #[.string s,.string ⟨#[b]⟩] w fun e w'=>
   e=.returned (.slice (some ⟨w.heap.size,0,none⟩) (Lib.countB s ⟨#[b]⟩+1) (Lib.countB s ⟨#[b]⟩+1))/\w'=w.alloc (.cells ((Lib.splitB ⟨#[b]⟩ 0 (Lib.countB s ⟨#[b]⟩) s).map Value.string).toArray (ρ.t 9)):=by
 have h1:1<=(⟨#[b]⟩:ByteArray).size :=Nat.le_refl 1;have hle:=Lib.countB_le ⟨#[b]⟩ h1 s.size s (Nat.le_refl _);have eK:=Lib.splitB_all ⟨#[b]⟩ h1 0 _ s rfl;have c:=Any.strings_genSplit_core {L with} hi9 s ⟨#[b]⟩ 0 (-1) (Lib.countB s ⟨#[b]⟩+1) w hs h1 (Nat.zero_le _)
  (fun x c hx=>(Any.strings_Index_one {L with} x b _).mono fun e w' ⟨he,hw⟩=>⟨by rw [he];show _=Ending.returned (Value.int .i64 (Lib.index x.data.toList [b]));rw [Lib.index_one],hw⟩)
  ((Any.strings_Count_one {L with} s b w).mono fun e w' ⟨he,hw⟩=>⟨by rw [he];show _=Ending.returned (Value.int .i64 ((Lib.count s.data.toList [b]:Nat):Int));rw [Lib.count_one];rfl,hw⟩) (by decide) (by decide) (by rw [if_pos (by decide)];omega)
 rw [Nat.add_sub_cancel,eK] at c;have e2:Lib.cellsOf (Lib.splitB ⟨#[b]⟩ 0 (Lib.countB s ⟨#[b]⟩) s) (Lib.countB s ⟨#[b]⟩+1)=((Lib.splitB ⟨#[b]⟩ 0 (Lib.countB s ⟨#[b]⟩) s).map Value.string).toArray :=by rw [<-eK];exact Lib.cellsOf_full _
 rw [e2] at c;have t3:=L.t3;have t9:=L.t9;have t31:=L.t31;have a3:=L.a3;have a9:=L.a9;have a31:=L.a31;have z3:=L.z3;have v3:=L.v3;have z9:=L.z9;have v9:=L.v9;have z31:=L.z31;have v31:=L.v31;have e221: ∀args w,(callFunc (ρ.f 221) args).run P w=.ok (.enter (ρ.f 221) args) w:=enters_of L.f221 (by kernel_rfl) rfl
 go_enter L.f146,Body.n146_ntmps ρ
 go_wp2_with (go_at_fn (ρ.f 221);refine c.mono ?_;rintro e w' ⟨rfl,hw⟩;rw [hw])
 go_ret
 exact ⟨rfl,rfl⟩
end Go.Proofs
end
