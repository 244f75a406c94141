/- A part of a proof: several texts in one. -/
import Derived.Test.YtaccilioelkedaaNi1
import Derived.AtR
import Derived.RangeFuncRecord
import Derived.RangeFuncNested
import Derived.Maps.RangeRun
import Derived.Laws.BytesString
import Derived.Lib.UnsafeStr
import Derived.MapKept
import Derived.Deep.Slices
import Derived.Deep.Fields
import Derived.ChangeSame
import Derived.OpenShut
import Derived.Test.YtaccilioelkedaaProg
set_option maxRecDepth 1000000
set_option maxHeartbeats 8000000
set_option linter.unusedVariables false
set_option linter.unusedSimpArgs false
noncomputable section
namespace Go.Am
open IntKind (wrap)
abbrev BN :=Array Oper×Nat×List Oper
structure BR where
 cx:BK
 ro:Option BN
 todo:List Item
 rnd:Option Nat
 rs:List ResultVar
 env:T BA
structure BT where
 st:LoopState
 pend:Option Code
 n:Nat
 env:T BA
 params:List Tmp
 assign:Code
 body:Code
abbrev BL :=T (Option BT)
def Kh (m:BL) (b:Nat):Option BT:=T.get none m b
def Bl (m:BL) (b:Nat) (o:Option BT):BL:=T.set none m b o
structure BJ where
 cx:BK
 ro:Option BN
 todo:List Item
 rnd:Option Nat
 rs:List ResultVar
 st:St
 cs:List BR
 lps:BL
def CA (v:BA) (st:St) (lps:BL):List BR->Option BJ
 | ⟨cx,some (ops,i,o::l),todo,rnd,rs,env⟩::cs=>match (st.withEnv env).put cx o.dst v with
  | some st'=>some ⟨cx,some (ops,i+1,l),todo,rnd,rs,st',cs,lps⟩
  | none=>none
 | ⟨cx,none,.inRangeFunc j::k,rnd,rs,env⟩::cs=>some ⟨cx,none,.endRangeFunc j::k,rnd,rs,st.withEnv env,cs,lps⟩
 | _=>none
def DK :Option Code->LoopState
 | none=>.ready
 | some _=>.done
def DR (lps:BL):Option Nat->Bool
 | none=>true
 | some j=>(Kh lps j).isSome
def DL (P:Program) (rnd:Option Nat) (rs:List ResultVar) (st:St) (cs:List BR) (lps:BL) (jump:Option Code):Option BJ:=
 match rnd with
 | none=>match aResults P st rs with
  | some vs=>CA (DA vs) st lps cs
  | none=>none
 | some j=>match Kh lps j with
  | some ⟨_,_,n,env,params,assign,body⟩=>
   CA (.bool jump.isNone) st (Bl lps j (some ⟨DK jump,jump,n,env,params,assign,body⟩)) cs
  | none=>none
def Fd (n:Nat):List Tmp->List BA->T BA->Option (T BA)
 | [],[],env=>some env
 | t::ts,a::l,env=>bif Nat.ble (t+1) n then Fd n ts l (T.set .undef env t a) else none
 | _,_,_=>none
def Cx (P:Program) (f:FuncId) (args:List BA) (fr:BR) (st:St) (cs:List BR) (lps:BL):Option BJ:=
 match P.funcs[f]? with
 | some fn=>match fn.body with
  | some body=>some ⟨⟨Nat.max fn.ntmps args.length,fr.cx.floor,fr.cx.sym⟩,none,[.code body],none,fn.results.toList,st.withEnv (Qn args 0 .leaf),fr::cs,lps⟩
  | none=>none
 | none=>none
def Ho (j:Nat) (args:List BA) (fr:BR) (st:St) (cs:List BR) (lps:BL):Option BJ:=
 match Kh lps j with
 | some ⟨_,_,n,env,params,assign,body⟩=>match Fd n params args env with
  | some env'=>some ⟨⟨n,fr.cx.floor,fr.cx.sym⟩,none,[.code assign,.beginRound,.code body],some j,[],st.withEnv env',fr::cs,lps⟩
  | none=>none
 | none=>none
def callee (S:BD) (st:St) (op:Op):Option ((FuncId×List BA) ⊕ (Nat×List BA)):=
 match op with
 | .call {callee:=.value f,args,argTypes:=_}=>match st.eval f with
  | .fn g caps=>match S g with
   | some _=>none
   | none=>some (.inl (g,args.toList.map st.eval++caps))
  | .fnb g first=>match S g with
   | some _=>none
   | none=>some (.inl (g,first++args.toList.map st.eval))
  | .yld j=>some (.inr (j,args.toList.map st.eval))
  | _=>none
 | _=>none
def Qp (P:Program) (t:TypeId):Option Bool:=match P.underlying t with
 | some (.map k e)=>match P.underlying k,P.underlying e,P.info? e with
  | some .string,some (.int .i64),some i=>match i.zero with
   | some (.int .i64 n)=>bif n == 0 then some true else none
   | _=>none
  | some .string,some .bool,some i=>match i.zero with
   | some (.bool b)=>bif b then none else some false
   | _=>none
  | _,_,_=>none
 | _=>none
def Ca {α:Type} (l:List (List UInt8×α)) (k:List UInt8):Bool:=l.any fun p=>k == p.1
def Bq {α:Type} (d:α):List (List UInt8×α)->List UInt8->α
 | [],_=>d
 | p::r,k=>bif k == p.1 then p.2 else Bq d r k
def CJ {α:Type}:List (List UInt8×α)->List UInt8->α->List (List UInt8×α)
 | [],k,v=>[(k,v)]
 | p::r,k,v=>bif k == p.1 then (p.1,v)::r else p::CJ r k v
def KK (s:List UInt8) (pos:Nat):Int:=((Utf8.decode ⟨s.toArray⟩ pos).1:Int)
def GY (s:List UInt8) (pos:Nat):Nat:=(Utf8.decode ⟨s.toArray⟩ pos).2
def DJ :BA->UInt8
 | .int _ n=>UInt8.ofNat n.toNat
 | _=>0
def Cz :BA->Bool
 | .int .u8 n=>decide (0<=n/\n<256)
 | _=>false
def DE (n:Nat) (g:Nat->List BA):List UInt8:=(List.range n).map fun k=>DJ ((g k).getD 0 .undef)
def Gp :List BA->Bool
 | [v]=>Cz v
 | _=>false
def J9 (n:Nat) (g:Nat->List BA):Bool:=DU ((List.range n).all fun k=>Gp (g k)) (∀k,k<n-> ∃v,g k=[v]/\Cz v=true)
def DH (m:BI):BA->Option (List UInt8×Bool)
 | .nils =>some ([],true)
 | .sl b off len _=>match Zb m b with
  | some blk=>bif blk.isObj then none else match cut blk.cells off len with
   | some cs=>some (cs.map DJ,cs.all Cz)
   | none=>none
  | none=>none
 | .sla b sz off len _=>match Zb m b with
  | some blk=>match blk.arr with
   | some A=>some (DE len fun k=>A.get (off+k),Nat.beq sz 1&&(Nat.beq A.sz 1&&(decide (off+len<=A.n)&&J9 len fun k=>A.get (off+k))))
   | none=>none
  | none=>none
 | _=>none
def DT :BA->Option Nat
 | .sl b _ _ _=>some b
 | .sla b _ _ _ _=>some b
 | _=>none
def Ji (P:Program) (floor:Nat) (st:St) (t:TypeId) (x k v:BA):Option St:=match x,k with
 | .mapr b,.str k=>bif Nat.ble floor b then match Qp P t,Zb st.mem b,v with
  | some true,some ⟨[.obj (.mi l)],ty,none⟩,.int .i64 n=>some (st.withMem (Zt st.mem b (some ⟨[.obj (.mi (CJ l k n))],ty,none⟩)))
  | some false,some ⟨[.obj (.mb l)],ty,none⟩,.bool e=>some (st.withMem (Zt st.mem b (some ⟨[.obj (.mb (CJ l k e))],ty,none⟩)))
  | _,_,_=>none
  else none
 | _,_=>none
def aX (P:Program) (floor:Nat) (st:St):Op->Option (BA×Bool×St)
 | .makeMap t none=>match Qp P t with
  | some k=>some (.mapr st.next,true,Um st [.obj (bif k then .mi [] else .mb [])] t)
  | none=>none
 | .lookup t x i co=>match st.eval x,st.eval i with
  | .mapr b,.str k=>match Qp P t,Zb st.mem b with
   | some true,some ⟨[.obj (.mi l)],_,none⟩=>some (bif co then .tup [.int .i64 (Bq 0 l k),.bool (Ca l k)] else .int .i64 (Bq 0 l k),true,st)
   | some false,some ⟨[.obj (.mb l)],_,none⟩=>some (bif co then .tup [.bool (Bq false l k),.bool (Ca l k)] else .bool (Bq false l k),true,st)
   | _,_=>none
  | _,_=>none
 | .mapUpdate t m k v=>(Ji P floor st t (st.eval m) (st.eval k) (st.eval v)).map fun st'=>(.tup [],true,st')
 | .insert t m k v=>(Ji P floor st t (st.eval m) (st.eval k) (st.eval v)).map fun st'=>(.tup [],true,st')
 | .range t x=>match P.underlying t,st.eval x with
  | some .string,.str s=>some (.ptr st.next 0,true,Um st [.obj (.it s 0)] t)
  | some (.map _ _),.mapr b=>match Zb st.mem b with
   | some ⟨[.obj (.mb l)],_,none⟩=>some (.ptr st.next 0,true,Um st [.obj (.mit l.length [] l.length),.mapr b] t)
   | _=>none
  | _,_=>none
 | .next x true=>match st.eval x with
  | .ptr b 0=>bif Nat.ble floor b then match Zb st.mem b with
   | some ⟨[.obj (.it s pos)],ty,none⟩=>match st.test (decide (pos<s.length)) with
    | (e,st1)=>some (bif e then .tup [.bool true,.int .i64 pos,.int .i32 (KK s pos)] else .tup [.bool false],true,
      bif e then st1.withMem (Zt st1.mem b (some ⟨[.obj (.it s (pos+GY s pos))],ty,none⟩)) else st1)
   | _=>none
   else none
  | _=>none
 | .next x false=>match st.eval x with
  | .ptr b 0=>match Zb st.mem b with
   | some ⟨[.obj (.mit since seen last),.mapr m],_,none⟩=>match Zb st.mem m with
    | some ⟨[.obj (.mb l)],_,none⟩=>bif Nat.beq last l.length&&(Nat.beq since l.length&&(List.range l.length).all fun i=>seen.contains i) then some (.tup [.bool false],true,st) else none
    | _=>none
   | _=>none
  | _=>none
 | .entry x=>match st.eval x with
  | .ptr b 0=>match Zb st.mem b with
   | some ⟨[.obj (.mit since seen last),.mapr m],_,none⟩=>match Zb st.mem m with
    | some ⟨[.obj (.mb l)],_,none⟩=>match seen.getLast? with
     | some i=>match l[i]? with
      | some p=>bif Nat.beq last l.length then some (.tup [.str p.1,.bool p.2],true,st) else none
      | none=>none
     | none=>none
    | _=>none
   | _=>none
  | _=>none
 | .alloc t=>bif Nat.beq t Cl then match P.info? t with
   | some i=>match i.zero with
    | some (.agg ⟨[.pointer none,.slice none 0 0]⟩)=>some (.ptr st.next 0,true,Um st [.obj .bld,.nils] t)
    | _=>none
   | none=>none
  else none
 | .load t x=>match st.eval x with
  | .ptr b 1=>match Zb st.mem b,F5 P t,P.info? t with
   | some ⟨[.obj .bld,buf],_,none⟩,some false,some _=>some (buf,true,st)
   | _,_,_=>none
  | _=>none
 | .store t a x=>match st.eval a with
  | .ptr b 1=>bif Nat.ble floor b&&Kp (st.eval x) then match Zb st.mem b,P.info? t with
   | some ⟨[.obj .bld,_],ty,none⟩,some i=>bif Nat.beq i.size 1 then some (.tup [],true,st.withMem (Zt st.mem b (some ⟨[.obj .bld,st.eval x],ty,none⟩))) else none
   | _,_=>none
   else none
  | _=>none
 | .convert src dst x=>match P.underlying src,P.underlying dst with
  | some (.slice e),some .string =>match P.underlying e with
   | some (.int .u8)=>match DH st.mem (st.eval x) with
    | some (s,o)=>some (.str s,o,st)
    | none=>none
   | _=>none
  | _,_=>none
 | .binOp op t x y _=>match st.eval x,y,P.underlying t with
  | .ifb b,.const .nilIface,some (.interface _)=>match op with
   | .eql =>some (.bool b,true,st)
   | .neq =>some (.bool !b,true,st)
   | _=>none
  | _,_,_=>none
 | .call {callee:=.value f,args,argTypes:=_}=>match st.eval f,args.toList.map st.eval with
  | .fn g [],[.ptr b 0]=>bif Nat.beq g CK&&(P.funcs[g]?).any (fun fn=>fn.body.isSome) then match Zb st.mem b with
    | some ⟨[.obj .bld,buf],ty,none⟩=>bif Nat.beq ty Cl then match DH st.mem buf with
     | some (s,o)=>match DT buf with
      | none=>some (.str s,decide (s.length<=9223372036854775807)&&o,st)
      | some c=>bif Nat.ble floor c&&CL st.mem Cj c then some (.str s,decide (s.length<=9223372036854775807)&&o,st.withMem (Zt st.mem c none)) else none
     | none=>none
     else none
    | _=>none
   else none
  | _,_=>none
 | _=>none
def Fv (P:Program) (S:BD) (Rc:BF) (cx:BK) (ops:Array Oper) (i:Nat) (o:Oper) (l:List Oper) (todo:List Item) (rnd:Option Nat) (rs:List ResultVar) (st:St) (cs:List BR) (lps:BL):Option BJ:=
 match Wy ops o cx st with
 | some (true,st)=>match aX P cx.floor st o.op with
  | some (v,b,st1)=>match st1.owe cx b with
   | some st2=>match st2.put cx o.dst v with
    | some st3=>some ⟨cx,some (ops,i+1,l),todo,rnd,rs,st3,cs,lps⟩
    | none=>none
   | none=>none
  | none=>match callee S st o.op with
  | some (.inl (g,args))=>Cx P g args ⟨cx,some (ops,i,o::l),todo,rnd,rs,st.env⟩ st cs lps
  | some (.inr (j,args))=>Ho j args ⟨cx,some (ops,i,o::l),todo,rnd,rs,st.env⟩ st cs lps
  | none=>match Qw P S Rc false o cx st with
   | some st=>some ⟨cx,some (ops,i+1,l),todo,rnd,rs,st,cs,lps⟩
   | none=>none
 | some (false,st)=>match st.put cx o.dst (.tup []) with
  | some st=>some ⟨cx,some (ops,i+1,l),todo,rnd,rs,st,cs,lps⟩
  | none=>none
 | none=>none
def Vv (ops:Array Oper):Bool:=ops.toList.all fun o=>match o.op with
 | .defer _=>false
 | _=>true
def B7 (o:Oper):Oper:=⟨none,.move (.const (.bool true)),o.type,o.pos,o.after,none⟩
def Yw (ops:Array Oper) (m:Nat):Array Oper:=⟨ops.toList.take m++(ops.toList.drop m).map B7⟩
def Hp (ops:Array Oper) (m:Nat):Bool:=
 Vv ops&&(Qr 0 (Yw ops m)&&(((List.range ops.size).all fun j=>Nat.ble (j+1) m||(List.range j).all fun i=>((Be (Yw ops m).toList []).getD j 0).testBit i)&&((List.range m).all fun i=>match ops[i]? with
  | some ⟨_,_,_,_,_,some (j,_)⟩=>Nat.ble (j+1) m
  | _=>true)))
def GT (f:Operand):List Oper->Operand
 | []=>f
 | ⟨some d,.move x,_,_,_,_⟩::l=>match f with
  | .tmp t=>bif Nat.beq t d then x else GT f l
  | _=>f
 | _::l=>GT f l
def Gs (st:St) (ops:List Oper):Oper->Bool
 | ⟨_,.call ⟨.value f,_,_⟩,_,_,_,_⟩=>match st.eval (GT f ops) with
  | .yld _=>true
  | _=>false
 | _=>false
def Ff (st:St) (ops:List Oper):List Oper->Nat->Option Nat
 | [],_=>none
 | o::l,i=>bif Gs st ops o then some i else Ff st ops l (i+1)
def GU (ops:Array Oper) (st:St):Option Nat:=
 match Ff st ops.toList ops.toList 0 with
 | some m=>bif Hp ops m then some m else none
 | none=>none
def By (ops:Array Oper):List Nat->Option Nat
 | []=>none
 | z::l=>bif Qr z ops then some z else By ops l
def Ci (ops:Array Oper):Bool:=ops.toList.any fun o=>match o.op with
 | .call {callee:=.builtin .append,.. }=>true
 | _=>false
def KC (ops:Array Oper):Bool:=ops.toList.any fun o=>match o.op,o.dst with
 | .buildSlice _ _ _,some d=>ops.toList.any fun p=>match p.op with
  | .call {callee:=.value _,args,argTypes:=_}=>args.toList.any fun a=>match a with
   | .tmp t=>Nat.beq t d
   | _=>false
  | _=>false
 | _,_=>false
def GS (ops:Array Oper):Option Nat:=bif Vv ops then By ops (bif KC ops then [1,0,2] else bif Ci ops then [0,2,3,1] else [0,1,2]) else none
def St.nextId :St->Nat×St
 | ⟨env,mem,next,orc,ob⟩=>(next,⟨env,mem,next+1,orc,ob⟩)
def Cu (P:Program) (S:BD) (Rc:BF):BJ->Option BJ
 | ⟨cx,some (_,_,[]),todo,rnd,rs,st,cs,lps⟩=>some ⟨cx,none,todo,rnd,rs,st,cs,lps⟩
 | ⟨cx,some (ops,i,o::l),todo,rnd,rs,st,cs,lps⟩=>Fv P S Rc cx ops i o l todo rnd rs st cs lps
 | ⟨cx,none,todo,rnd,rs,st,cs,lps⟩=>match todo with
  | []=>DL P rnd rs st cs lps none
  | .code .ret ::_=>DL P rnd rs st cs lps (some .ret)
  | .code .skip ::k=>some ⟨cx,none,k,rnd,rs,st,cs,lps⟩
  | .code (.label _)::k=>some ⟨cx,none,k,rnd,rs,st,cs,lps⟩
  | .inBlock _::k=>some ⟨cx,none,k,rnd,rs,st,cs,lps⟩
  | .inScope _::k=>some ⟨cx,none,k,rnd,rs,st,cs,lps⟩
  | .code (.seq a b)::k=>some ⟨cx,none,.code a::.code b::k,rnd,rs,st,cs,lps⟩
  | .code (.cond c a b)::k=>match st.eval c with
   | .bool v=>match st.test v with
    | (e,st)=>some ⟨cx,none,.code (bif e then a else b)::k,rnd,rs,st,cs,lps⟩
   | _=>none
  | .code (.block id body)::k=>some ⟨cx,none,.code body::.inBlock id::k,rnd,rs,st,cs,lps⟩
  | .code (.scope body)::k=>some ⟨cx,none,.code body::.inScope body::k,rnd,rs,st,cs,lps⟩
  | .code (.loop body)::k=>some ⟨cx,none,.code body::.inLoop body::k,rnd,rs,st,cs,lps⟩
  | .inLoop body::k=>some ⟨cx,none,.code body::.inLoop body::k,rnd,rs,st,cs,lps⟩
  | .code (.exit id)::k=>match exitTo id k with
   | some k=>some ⟨cx,none,k,rnd,rs,st,cs,lps⟩
   | none=>match rnd with
    | some _=>DL P rnd rs st cs lps (some (.exit id))
    | none=>none
  | .code (.region _ ops false)::k=>bif Vv ops then some ⟨cx,some (ops,0,ops.toList),k,rnd,rs,st,cs,lps⟩ else none
  | .code (.region _ ops true)::k=>match GU ops st with
   | some m=>match Je 0 P S Rc (Yw ops m) cx (Wk (Yw ops m)) [] st with
    | some st=>some ⟨cx,some (ops,m,ops.toList.drop m),k,rnd,rs,st,cs,lps⟩
    | none=>none
   | none=>match GS ops with
    | some z=>match Je z P S Rc ops cx (Wk ops) [] st with
     | some st=>some ⟨cx,none,k,rnd,rs,st,cs,lps⟩
     | none=>none
    | none=>none
  | .code (.rangeFunc f params assign body)::k=>match st.eval f with
   | .fn g caps=>match st.nextId with
    | (j,st')=>bif DR lps rnd then Cx P g (.yld j::caps) ⟨cx,none,.inRangeFunc j::k,rnd,rs,st.env⟩ st' cs (Bl lps j (some ⟨.ready,none,cx.n,st.env,params.toList,assign,body⟩)) else none
   | _=>none
  | .beginRound ::k=>match rnd with
   | some j=>match Kh lps j with
    | some ⟨.ready,pend,n,env,params,assign,body⟩=>some ⟨cx,none,k,rnd,rs,st,cs,Bl lps j (some ⟨.busy,pend,n,env,params,assign,body⟩)⟩
    | _=>none
   | none=>none
  | .endRangeFunc j::k=>match Kh lps j with
   | some ⟨.busy,_,_,_,_,_,_⟩=>none
   | some ⟨_,pend,n,env,params,assign,body⟩=>some ⟨cx,none,(pend.map Item.code).toList ++k,rnd,rs,st,cs,Bl lps j (some ⟨.exhausted,pend,n,env,params,assign,body⟩)⟩
   | none=>none
  | _=>none
def Qf :BJ->Bool
 | ⟨_,none,[],none,_,_,[],_⟩=>true
 | ⟨_,none,.code .ret ::_,none,_,_,[],_⟩=>true
 | _=>false
def Bf (P:Program) (S:BD) (Rc:BF) (n:Nat):BJ->Option BJ:=
 Nat.rec (motive:=fun _=>BJ->Option BJ) (fun _=>none) (fun _ R C=>bif Qf C then some C else match Cu P S Rc C with
  | some C'=>R C'
  | none=>none) n
def Xs :Item->Bool
 | .code _ | .inBlock _ | .inLoop _ | .inScope _ | .beginRound =>true
 | _=>false
def Bm (P:Program) (S:BD) (n:Nat) (d:Nat):BF:=
 Nat.rec (motive:=fun _=>BF) (fun _ _ _=>none) (fun _ R cx todo st=>bif todo.all Xs&&Nat.ble cx.floor st.next then match Bf P S R n ⟨cx,none,todo,none,[],st,[],.leaf⟩ with
  | some C=>bif Nat.beq C.cx.n cx.n then some C.st else none
  | none=>none
  else none) d
section
variable {P:Program}
section ops
variable {b:Frame} {a:Act} {k:List Item} {cs:List Frame} {w:World} {ops:Array Oper}
theorem Ke {i:Nat} {rest:List Nat} {o:Oper} {K:Act->World->Prop} {Q:Exit->Act->World->Prop} (hQ: ∀e a w,Q e a w->e=.normal) (ho:ops[i]? =some o) (hnd: ∀c,o.op≠ .defer c)
  (h:if Region.wanted o (yielded ops a.tmps) then o.wp P a w K Q else K (a.put o.dst undef) w):
  ∃a' w',K a' w'/\Steps P (lone (b.atR a (.inRegion ops (i::rest)::k)) cs w) (lone (b.atR a' (.inRegion ops rest::k)) cs w'):=by
 by_cases hw:Region.wanted o (yielded ops a.tmps)=true
 .rw [Ap hw] at h;have hg:=stepGR_op (P:=P) (b:=b) (k:=k) (cs:=cs) (w:=w) (rest:=rest) ho hw;rw [Oper.semAt_eq _ _ _ hnd] at hg;have fin: ∀(a:Act) (v:Value),(b.atR a (.inRegion ops (i::rest)::k)).finish v=b.atR (a.put o.dst v) (.inRegion ops rest::k):=fun a v=>by rw [Frame.finish_atR,ho];rfl
  unfold Oper.wp at h;generalize hr:(execOp a.eval o).run P w=r at h;cases r with
  | ok n w'=>
   cases n <;> simp only [Oper.upon] at h
   case value v=>exact ⟨_,w',h,.one (step_lone_go (by simp_all [stepG.apply]))⟩
   case skip=>exact ⟨_,w',h,.one (step_lone_go (by simp_all [stepG.apply]))⟩
   case defer d=>refine ⟨_,w',h,.one (step_lone_go ?_)⟩;have e:=fin {a with defers:=d::a.defers} undef;simp_all [stepG.apply,Frame.atR]
   case enter f args=>
    obtain ⟨e,w'',fr,hR,aN,_,hleave⟩:=h (b.atR a (.inRegion ops (i::rest)::k)::cs);have bU:step P (lone (b.atR a (.inRegion ops (i::rest)::k)) cs w)=.next (lone (Frame.enter P f args .normal) (b.atR a (.inRegion ops (i::rest)::k)::cs) w'):=
     step_lone_go (by simp_all [stepG.apply,Frame.atR])
    cases e with
    | returned v=>
     refine ⟨_,w'',hR,.head bU (aN.trans (.one ?_))⟩
     grind [step_leave_returned]
    | panicked chain=>grind
    | outgrown=>obtain ⟨_,_,hq⟩:=hR;grind
   case row row args=>
    obtain ⟨v,w'',hR,aN⟩:=h (b.atR a (.inRegion ops (i::rest)::k)) cs;have bU:step P (lone (b.atR a (.inRegion ops (i::rest)::k)) cs w)=.next (lone (Frame.ofRow P row args .normal) (b.atR a (.inRegion ops (i::rest)::k)::cs) w'):=
     step_lone_go (by simp_all [stepG.apply,Frame.atR])
    refine ⟨_,w'',hR,.head bU ?_⟩
    grind
   all_goals exact h.elim
  | halt x w'=>cases x <;> simp only [Oper.upon] at h <;> first | exact h.elim | grind
 .rw [Aj hw] at h;have hs:=stepR_op_skip (P:=P) (b:=b) (a:=a) (k:=k) (cs:=cs) (w:=w) (ops:=ops) (i:=i) (rest:=rest) (by grind);rw [ho] at hs;exact ⟨_,w,h,.one hs⟩
theorem Qz {R:Act->World->Prop} {Q:Exit->Act->World->Prop} (hQ: ∀e a w,Q e a w->e=.normal /\R a w) (hnd:Vv ops=true): ∀(l:List Nat) (a:Act) (w:World),wpOps P ops Q l a w->
  ∃a' w',R a' w'/\Steps P (lone (b.atR a (.inRegion ops l::k)) cs w) (lone (b.atR a' k) cs w')
 | [],a,w,h=>⟨a,w,(hQ _ _ _ h).2,.one stepR_region_end⟩
 | i::l,a,w,h=>by
  simp only [wpOps] at h;cases ho:ops[i]? with
  | none=>rw [ho] at h;obtain ⟨a',w',hR,hs⟩:=Qz hQ hnd l a w h;have h1:=stepR_op_skip (P:=P) (b:=b) (a:=a) (k:=k) (cs:=cs) (w:=w) (ops:=ops) (i:=i) (rest:=l) (by simp [ho]);rw [ho] at h1;exact ⟨a',w',hR,.head h1 hs⟩
  | some o=>
   rw [ho] at h;have hno: ∀c,o.op≠ .defer c:=by
    intro c hc;have hm:o∈ops.toList:=(by grind);have:=Ao.1 hnd o hm
    grind
   have h':if Region.wanted o (yielded ops a.tmps) then o.wp P a w (wpOps P ops Q l) Q else wpOps P ops Q l (a.put o.dst undef) w:=by
    by_cases hw:Region.wanted o (yielded ops a.tmps)=true
    .simp only [hw,if_true] at h ⊢;rcases h with h | ⟨_,a0,w0,h0⟩;all_goals grind
    grind
   obtain ⟨a1,w1,h1,s1⟩:=Ke (b:=b) (k:=k) (cs:=cs) (rest:=l) (fun e a w q=>(hQ e a w q).1) ho hno h';obtain ⟨a',w',hR,hs⟩:=Qz hQ hnd l a1 w1 h1;exact ⟨a',w',hR,s1.trans hs⟩
end ops
end
section
variable {P:Program}
def Sp (ρ:BB) (w:World) (r:Nat):Prop:=r<w.heap.size/\ρ.fz r=none/\ ∀b l,ρ b=some l->l.blk≠r
theorem Sp.ev {ρ ρ':BB} {floor:Nat} {m m':BI} {n n':Nat} {w w':World} (he:Ev ρ ρ' floor m n m' n' w w') {r:Nat} (hs:Sp ρ w r):Sp ρ' w' r/\w'.heap[r]? =w.heap[r]? :=by
 obtain ⟨h1,h2,h3⟩:=hs;refine ⟨⟨Av h1 he.size,by rw [he.still r h1];exact h2,fun b l hl=> ?_⟩,?_⟩
 .by_cases hb:b<n
  .rw [he.new b hb] at hl;grind
  .rcases he.fresh b l (by omega) hl with h | ⟨b0,l0,e0,_,g0⟩;all_goals grind
 .have:w.heap[r]? =some w.heap[r]:=by simp [h1]
  rw [this];exact he.frame r _ this fun b l hl _=>h3 b l hl
structure Yj (m:List Nat) (w w':World):Prop where
 size:w'.heap.size=w.heap.size
 other: ∀k,k ∉ m->w'.heap[k]? =w.heap[k]?
 os:w'.os=w.os
 tape:w'.tape=w.tape
 output:w'.output=w.output
theorem Yj.refl (m:List Nat) (w:World):Yj m w w:=⟨rfl,fun _ _=>rfl,rfl,rfl,rfl⟩
theorem Yj.put (w:World) (r:Nat) (o:Obj):Yj [r] w (w.putObj r o):=⟨World.putObj_size,fun k hk=>World.putObj_heap_other (by grind),rfl,rfl,rfl⟩
theorem Yj.trans {m m':List Nat} {a b c:World} (h:Yj m a b) (k:Yj m' b c):Yj (m++m') a c:=
 ⟨k.size.trans h.size,fun i hi=>by simp only [List.mem_append,not_or] at hi;exact (k.other i hi.2).trans (h.other i hi.1),k.os.trans h.os,k.tape.trans h.tape,k.output.trans h.output⟩
theorem BC.turned {ρ:BB} {mem:BI} {next:Nat} {w w':World} (h:BC ρ mem next w) {m:List Nat} (hm: ∀r∈m,Sp ρ w r) (ht:Yj m w w'):BC ρ mem next w':=
 ⟨h.dom,h.inj,fun b l ab e g=>(h.blk b l ab e g).world (BB.le_refl ρ) (ht.other _ fun hr=>(hm _ hr).2.2 b l e rfl),fun k o e=>by
  rw [ht.other k fun hr=>by rw [(hm _ hr).2.1] at e;cases e];exact h.old k o e,
  h.sep,fun b l e=>by rw [ht.size];exact h.real b l e,h.bd,h.ldom⟩
theorem Ev.turned {ρ0 ρ:BB} {floor:Nat} {m0 mem:BI} {n0 next:Nat} {w0 w w':World} (h:Ev ρ0 ρ floor m0 n0 mem next w0 w) {m:List Nat} (hm: ∀r∈m,w0.heap.size<=r) (ht:Yj m w w'):Ev ρ0 ρ floor m0 n0 mem next w0 w':=
 ⟨h.ext,h.new,h.nxt,h.unborn,fun k o hk hf=>by
  have hlt:k<w0.heap.size:=(Al.1 hk).1;rw [ht.other k fun hr=>by grind];exact h.frame k o hk hf,h.fresh,by rw [ht.size];exact h.size,ht.os.trans h.os,ht.tape.trans h.tape,ht.output.trans h.output,h.still⟩
theorem Sp.turned {ρ:BB} {w w':World} {r:Nat} (h:Sp ρ w r) {m:List Nat} (ht:Yj m w w'):Sp ρ w' r:=⟨by rw [ht.size];exact h.1,h.2.1,h.2.2⟩
theorem BC.grow {ρ:BB} {mem:BI} {next:Nat} {w:World} (h:BC ρ mem next w) (o:Obj):BC ρ mem next (w.alloc o):=by
 have same: ∀k,k<w.heap.size->(w.alloc o).heap[k]? =w.heap[k]? :=fun k hk=>by
  show (w.heap.push o)[k]? =_
  grind
 exact ⟨h.dom,h.inj,fun b l ab e g=>(h.blk b l ab e g).world (BB.le_refl ρ) (same _ (h.real b l e)),fun k ob e=>by
  have:=h.old k ob e
  grind,h.sep,fun b l e=>by
  have:=h.real b l e
  grind,h.bd,h.ldom⟩
theorem Ev.grow {ρ0 ρ:BB} {floor:Nat} {m0 mem:BI} {n0 next:Nat} {w0 w:World} (h:Ev ρ0 ρ floor m0 n0 mem next w0 w) (o:Obj):Ev ρ0 ρ floor m0 n0 mem next w0 (w.alloc o):=
 ⟨h.ext,h.new,h.nxt,h.unborn,fun k ob hk hf=>by
  have:=h.frame k ob hk hf;have hlt:=(Al.1 this).1;show (w.heap.push o)[k]? =_
  grind,h.fresh,by
  have:=h.size;show _<=(w.heap.push o).size;simp;omega,h.os,h.tape,h.output,h.still⟩
theorem Sp.grow {ρ:BB} {w:World} {r:Nat} (h:Sp ρ w r) (o:Obj):Sp ρ (w.alloc o) r/\(w.alloc o).heap[r]? =w.heap[r]? :=by
 refine ⟨⟨?_,h.2.1,h.2.2⟩,?_⟩
 .have:=h.1;show r<(w.heap.push o).size;simp;omega
 .show (w.heap.push o)[r]? =_;simp [Array.getElem?_push,AM h.1]
theorem Sp.fresh {ρ:BB} {mem:BI} {next:Nat} {w:World} (h:BC ρ mem next w) (o:Obj):Sp ρ (w.alloc o) w.heap.size:=
 ⟨by simp_all,h.hold _ (Ah _),fun b l e=>AM (h.real b l e)⟩
def lpAdd (ρ:BB) (j l:Nat):BB:=⟨ρ.f,ρ.fz,fun k=>if k=j then some l else ρ.lp k⟩
theorem BC.lp_none {ρ:BB} {mem:BI} {next:Nat} {w:World} (h:BC ρ mem next w):ρ.lp next=none:=by
 cases e:ρ.lp next with
 | none=>rfl
 | some l=>exact absurd (h.ldom.1 _ _ e) (Nat.lt_irrefl _)
theorem GG {ρ:BB} {j l:Nat} (h:ρ.lp j=none):ρ.le (lpAdd ρ j l):=⟨fun _ _ e=>e,fun _ _ e=>e,fun k l' e=>by
 show (if k=j then some l else ρ.lp k)=some l'
 grind⟩
theorem BC.lpAdd {ρ:BB} {mem:BI} {next:Nat} {w:World} (h:BC ρ mem next w) (l:Nat):BC (lpAdd ρ next l) mem (next+1) w:=
 ⟨fun b l' e=>AE (h.dom b l' e),h.inj,fun b l' ab e g=>(h.blk b l' ab e g).world (GG h.lp_none) rfl,h.old,h.sep,h.real,fun b hb=>h.bd b (by omega),⟨fun j l' e=>by
  have e:(if j=next then some l else ρ.lp j)=some l':=e;by_cases hj:j=next
  .omega
  .rw [Aj hj] at e;exact AE (h.ldom.1 j l' e),h.ldom.2⟩⟩
theorem Ev.lpAdd {ρ0 ρ:BB} {floor:Nat} {m0 mem:BI} {n0 next:Nat} {w0 w:World} (h:Ev ρ0 ρ floor m0 n0 mem next w0 w) (hr:BC ρ mem next w) (l:Nat):Ev ρ0 (lpAdd ρ next l) floor m0 n0 mem (next+1) w0 w:=
 ⟨BB.le_trans h.ext (GG hr.lp_none),h.new,Nat.le_succ_of_le h.nxt,h.unborn,h.frame,h.fresh,h.size,h.os,h.tape,h.output,h.still⟩
inductive B3 (ρ:BB):Item->Item->Prop
 | same (x:Item) (h:Xs x=true):B3 ρ x x
 | inR (j l:Nat) (h:ρ.lp j=some l):B3 ρ (.inRangeFunc j) (.inRangeFunc l)
 | endR (j l:Nat) (h:ρ.lp j=some l):B3 ρ (.endRangeFunc j) (.endRangeFunc l)
abbrev BV (ρ:BB):List Item->List Item->Prop:=Yh (B3 ρ)
theorem Yh.mono {α β:Type} {R R':α->β->Prop} (hr: ∀a b,R a b->R' a b) {l:List α} {m:List β} (h:Yh R l m):Yh R' l m:=by
 induction h with
 | nil=>exact .nil
 | cons h _ ih=>exact .cons (hr _ _ h) ih
theorem B3.mono {ρ ρ':BB} (h:ρ.le ρ') {x y:Item} (hx:B3 ρ x y):B3 ρ' x y:=by
 cases hx with
 | same x hx=>exact .same x hx
 | inR j l e=>exact .inR j l (h.2.2 _ _ e)
 | endR j l e=>exact .endR j l (h.2.2 _ _ e)
theorem BV.exit {ρ:BB} {k k':List Item} (h:BV ρ k k') (id:Nat):(∀r,exitTo id k=some r-> ∃r',exitTo id k'=some r'/\BV ρ r r')/\(exitTo id k=none->exitTo id k'=none):=by
 induction h with
 | nil=>exact ⟨fun r e=>(by cases e),fun _=>rfl⟩
 | @cons x y l m hx t ih=>
  cases hx with
  | same x hx=>
   cases x with
   | inBlock id'=>
    grind [exitTo]
   | code _=>exact ih
   | inLoop _=>exact ih
   | inScope _=>exact ih
   | beginRound=>exact ih
   | inRegion _ _=>cases hx
   | inRangeFunc _=>cases hx
   | endRangeFunc _=>cases hx
   | call _ _ _ _=>cases hx
   | extern _ _=>cases hx
  | inR j l e=>exact ih
  | endR j l e=>exact ih
def Cb (r:Nat):Deferred:={target:=.collected r,args:= #[]}
def Yk (ro:Option BN) (k:List Item):List Item:=match ro with
 | none=>k
 | some (ops,i,_)=>.inRegion ops ((List.range ops.size).drop i)::k
def GW :Option BN->Prop
 | none=>True
 | some (ops,i,l)=>l=ops.toList.drop i/\Vv ops=true
structure Bd (ρ:BB) (cx:BK) (ro:Option BN) (todo:List Item) (rnd:Option Nat) (env:T BA) (b:Frame) (a:Act) (k:List Item) (ms:List Nat):Prop where
 env:Yv ρ env cx.n a.tmps
 defers:a.defers=ms.map Cb
 todo:BV ρ todo k
 ro:GW ro
 rnd:match rnd with
  | none=>b.roundOf=none
  | some j=>ms=[]/\ ∃l,ρ.lp j=some l/\b.roundOf=some l
theorem Bd.mono {ρ ρ':BB} (h:ρ.le ρ') {cx:BK} {ro:Option BN} {todo:List Item} {rnd:Option Nat} {env:T BA} {b:Frame} {a:Act} {k:List Item} {ms:List Nat} (hf:Bd ρ cx ro todo rnd env b a k ms):Bd ρ' cx ro todo rnd env b a k ms:=
 ⟨hf.env.mono h,hf.defers,hf.todo.mono fun _ _=>B3.mono h,hf.ro,by
  have:=hf.rnd;cases rnd with
  | none=>exact this
  | some j=>obtain ⟨h0,l,h1,h2⟩:=this;exact ⟨h0,l,h.2.2 _ _ h1,h2⟩⟩
def Fo (P:Program) (rnd:Option Nat) (rs:List ResultVar) (b:Frame):Prop:=b.kind=.normal /\(rnd=none-> ∃fn,P.funcs[b.fn]? =some fn/\fn.results.toList=rs)
inductive Bx (P:Program) (ρ:BB):List BR->List Frame->List Nat->Prop
 | nil:Bx P ρ [] [] []
 | cons {af:BR} {b:Frame} {a:Act} {k:List Item} {ms:List Nat} {cs:List BR} {css:List Frame} {mss:List Nat} (h:Bd ρ af.cx af.ro af.todo af.rnd af.env b a k ms)
   (hl:cs≠ []->Fo P af.rnd af.rs b) (t:Bx P ρ cs css mss):Bx P ρ (af::cs) (b.atR a (Yk af.ro k)::css) (ms++mss)
theorem Bx.mono {ρ ρ':BB} (h:ρ.le ρ') {cs:List BR} {css:List Frame} {mss:List Nat} (hc:Bx P ρ cs css mss):Bx P ρ' cs css mss:=by
 induction hc with
 | nil=>exact .nil
 | cons hf hl t ih=>exact .cons (hf.mono h) hl ih
structure Cv (base:Nat) (ρ:BB) (w:World) (j:Nat) (L:BT) (l:Nat):Prop where
 lp:ρ.lp j=some l
 low:base<=l
 sp:Sp ρ w l
 obj: ∃tmps fn d,w.heap[l]? =some (.loop ⟨L.st,L.pend,fn,tmps,L.params.toArray,L.assign,L.body,d⟩)/\Yv ρ L.env L.n tmps
structure BX (P:Program) (base:Nat) (ρ:BB) (cs:List BR) (lps:BL) (css:List Frame) (w:World) (m0 m1:List Nat):Prop where
 cs:Bx P ρ cs css m1
 nodup:(m0++m1).Nodup
 marks: ∀r∈m0++m1,base<=r/\Sp ρ w r/\w.heap[r]? =some (.deferred (some []))
 loops: ∀j L,Kh lps j=some L-> ∃l,Cv base ρ w j L l
 inj: ∀j j' L L' l,Kh lps j=some L->Kh lps j'=some L'->ρ.lp j=some l->ρ.lp j'=some l->j=j'
theorem Cv.ev {base:Nat} {ρ ρ':BB} {floor:Nat} {m m':BI} {n n':Nat} {w w':World} (he:Ev ρ ρ' floor m n m' n' w w') {j:Nat} {L:BT} {l:Nat} (h:Cv base ρ w j L l):Cv base ρ' w' j L l:=by obtain ⟨h1,h2,h3,tmps,fn,d,h4,h5⟩:=h;obtain ⟨s1,s2⟩:=h3.ev he;exact ⟨he.ext.2.2 _ _ h1,h2,s1,tmps,fn,d,by grind,h5.mono he.ext⟩
theorem BX.ev {base:Nat} {ρ ρ':BB} {floor:Nat} {m m':BI} {n n':Nat} {w w':World} (he:Ev ρ ρ' floor m n m' n' w w') {cs:List BR} {lps:BL} {css:List Frame} {m0 m1:List Nat} (h:BX P base ρ cs lps css w m0 m1):BX P base ρ' cs lps css w' m0 m1:=by
 refine ⟨h.cs.mono he.ext,h.nodup,fun r hr=> ?_,fun j L hL=> ?_,fun j j' L L' l hL hL' e e'=> ?_⟩
 .obtain ⟨h1,h2,h3⟩:=h.marks r hr;obtain ⟨s1,s2⟩:=h2.ev he
  grind
 .obtain ⟨l,hl⟩:=h.loops j L hL;exact ⟨l,hl.ev he⟩
 .obtain ⟨l1,hl1⟩:=h.loops j L hL;obtain ⟨l2,hl2⟩:=h.loops j' L' hL';have e1:=he.ext.2.2 _ _ hl1.lp;have e2:=he.ext.2.2 _ _ hl2.lp;rw [e] at e1;rw [e'] at e2;obtain rfl:=Ab e1;obtain rfl:=Ab e2;exact h.inj j j' L L' l hL hL' hl1.lp hl2.lp
theorem BX.turned {base:Nat} {ρ:BB} {w w':World} {cs:List BR} {lps:BL} {css:List Frame} {m0 m0' m1:List Nat} (h:BX P base ρ cs lps css w m0 m1) {m:List Nat} (ht:Yj m w w') (hsub:m0'.Sublist m0) (hm: ∀r∈m,r ∉ m0'++m1) (hl: ∀r∈m,∃ds,w.heap[r]? =some (.deferred ds)):
  BX P base ρ cs lps css w' m0' m1:=by
 refine ⟨h.cs,h.nodup.sublist (hsub.append (List.Sublist.refl _)),fun r hr=> ?_,fun j L hL=> ?_,h.inj⟩
 .obtain ⟨h1,h2,h3⟩:=h.marks r ((hsub.append (List.Sublist.refl m1)).subset hr);exact ⟨h1,h2.turned ht,by rw [ht.other r fun hrm=>hm r hrm hr];exact h3⟩
 .obtain ⟨l,h1,h2,h3,tmps,fn,d,h4,h5⟩:=h.loops j L hL;refine ⟨l,h1,h2,h3.turned ht,tmps,fn,d,?_,h5⟩;rw [ht.other l fun hlm=> ?_];all_goals grind
theorem BX.record {base:Nat} {ρ:BB} {w w':World} {cs:List BR} {lps:BL} {css:List Frame} {m0 m1:List Nat} (h:BX P base ρ cs lps css w m0 m1) {j l:Nat} {L L':BT} (hj:Kh lps j=some L) (hl:Cv base ρ w j L l)
  (hL:Cv base ρ w' j L' l) (ht:Yj [l] w w'):BX P base ρ cs (Bl lps j (some L')) css w' m0 m1:=by
 have bZ:=hl.obj;obtain ⟨tmps,fn,d,h4,_⟩:=bZ;have get: ∀i,Kh (Bl lps j (some L')) i=if i=j then some L' else Kh lps i:=fun i=>T.get_set none lps j (some L') i
 refine ⟨h.cs,h.nodup,fun r hr=> ?_,fun i M hM=> ?_,fun i i' M M' l' hM hM' e e'=> ?_⟩
 .obtain ⟨h1,h2,h3⟩:=h.marks r hr;refine ⟨h1,h2.turned ht,?_⟩;rw [ht.other r fun hrm=> ?_];all_goals grind
 .rw [get] at hM;by_cases hij:i=j
  .grind
  .rw [Aj hij] at hM;obtain ⟨l2,q1,q2,q3,tmps2,fn2,d2,q4,q5⟩:=h.loops i M hM;refine ⟨l2,q1,q2,q3.turned ht,tmps2,fn2,d2,?_,q5⟩;rw [ht.other l2 fun hlm=> ?_]
   .exact q4
   .obtain rfl:l2=l:=by grind
    exact hij (h.inj i j M L l2 hM hj q1 hl.lp)
 .rw [get] at hM hM';have old: ∀x N,(if x=j then some L' else Kh lps x)=some N-> ∃N',Kh lps x=some N':=fun x N hx=>by
   grind
  obtain ⟨N,hN⟩:=old i M hM;obtain ⟨N',hN'⟩:=old i' M' hM';exact h.inj i i' N N' l' hN hN' e e'
end
section
variable {P:Program}
structure CG (P:Program) (base:Nat) (C:BJ) (ρ:BB) (b:Frame) (a:Act) (k:List Item) (css:List Frame) (w:World) (ma mb:List Nat):Prop where
 top:Bd ρ C.cx C.ro C.todo C.rnd C.st.env b a k ma
 lv:C.cs≠ []->Fo P C.rnd C.rs b
 rest:BX P base ρ C.cs C.lps css w ma mb
 rel:BC ρ C.st.mem C.st.next w
structure Fl (fl:Nat) (C:BJ):Prop where
 cx:C.cx.floor=fl
 cs: ∀af∈C.cs,af.cx.floor=fl
 le:fl<=C.st.next
def CU (b:Frame):List Frame->FuncId×CallKind×Option Nat
 | []=>(b.fn,b.kind,b.roundOf)
 | c::css=>CU c css
def Jt (P:Program) (fl:Nat) (C C':BJ):Prop:=
 ∀(m0:BI) (n0:Nat) (ρ0:BB) (w0:World) (ρ:BB) (b:Frame) (a:Act) (k:List Item) (css:List Frame) (w:World) (ma mb:List Nat),CG P w0.heap.size C ρ b a k css w ma mb->Ev ρ0 ρ fl m0 n0 C.st.mem C.st.next w0 w-> ∀cs0:List Frame,
  ∃ρ' b' a' k' css' w' ma' mb',Steps P (lone (b.atR a (Yk C.ro k)) (css++cs0) w) (lone (b'.atR a' (Yk C'.ro k')) (css'++cs0) w')/\CG P w0.heap.size C' ρ' b' a' k' css' w' ma' mb'/\Ev ρ0 ρ' fl m0 n0 C'.st.mem C'.st.next w0 w'/\CU b' css'=CU b css/\w.heap.size<=w'.heap.size
theorem Jt.refl (fl:Nat) (C:BJ):Jt P fl C C:=fun m0 n0 ρ0 w0 ρ b a k css w ma mb hs he cs0=>⟨ρ,b,a,k,css,w,ma,mb,Steps.refl _ _,hs,he,rfl,Ah _⟩
structure B0 (P:Program) (fl:Nat) (C C':BJ):Prop where
 fls:Fl fl C'
 inv:Zf fl C.st C'.st
 leads:C'.st.ob=true->Jt P fl C C'
theorem B0.move {fl:Nat} {cx:BK} {todo todo':List Item} {rnd:Option Nat} {rs:List ResultVar} {st:St} {cs:List BR} {lps:BL} (hfl:Fl fl ⟨cx,none,todo,rnd,rs,st,cs,lps⟩)
  (hk: ∀(ρ:BB) (k:List Item),BV ρ todo k-> ∃k',BV ρ todo' k'/\ ∀(b:Frame) (a:Act) (css:List Frame) (w:World),step P (lone (b.atR a k) css w)=.next (lone (b.atR a k') css w)):
  B0 P fl ⟨cx,none,todo,rnd,rs,st,cs,lps⟩ ⟨cx,none,todo',rnd,rs,st,cs,lps⟩:=
 ⟨⟨hfl.cx,hfl.cs,hfl.le⟩,Zf.refl _ _,fun ho m0 n0 ρ0 w0 ρ b a k css w ma mb hs he cs0=>by
   obtain ⟨k',ht,bE⟩:=hk ρ k hs.top.todo;exact ⟨ρ,b,a,k',css,w,ma,mb,.one (bE b a _ w),⟨⟨hs.top.env,hs.top.defers,ht,trivial,hs.top.rnd⟩,hs.lv,hs.rest,hs.rel⟩,he,rfl,Ah _⟩⟩
theorem BV.code {ρ:BB} {c:Code} {t k:List Item} (h:BV ρ (.code c::t) k): ∃k',k=.code c::k'/\BV ρ t k':=by
 cases h with
 | cons hx ht=>cases hx;grind
theorem Ky {cs:List Frame}: ∀(ms:List Nat) (fr:Frame) (w:World),fr.mode=.returning ->fr.defers=ms.map Cb->ms.Nodup->(∀r∈ms,w.heap[r]? =some (.deferred (some [])))->
  ∃w',Steps P (lone fr cs w) (lone {fr with defers:=[]} cs w')/\Yj ms w w'
 | [],fr,w,hm,hd,_,_=>⟨w,by
   have:{fr with defers:=[]}=fr:=by cases fr;grind
   rw [this];exact Steps.refl _ _,Yj.refl _ _⟩
 | r::ms,fr,w,hm,hd,hn,ho=>by
  have hr:=ho r (by simp);have h1:=step_collected (P:=P) (cs:=cs) (fr:=fr) (d:=Cb r) (ds:=ms.map Cb) (by rw [hm];simp) (by rw [hd];rfl) rfl (run_takeDeferred hr);rw [List.nodup_cons] at hn;obtain ⟨w',hs,ht⟩:=Ky (cs:=cs) ms {fr with defers:=ms.map Cb} (w.putObj r (.deferred none)) hm rfl hn.2 fun r' hr'=>by
   grind [World.putObj_heap_other]
  exact ⟨w',.head h1 hs,(Yj.put w r _).trans ht⟩
theorem Qo {fl base:Nat} {C:BJ} {ρ:BB} {b:Frame} {a:Act} {k:List Item} {css:List Frame} {w:World} {ma mb:List Nat} (hs:CG P base C ρ b a k css w ma mb) (hro:C.ro=none) (aL:C.rnd=none) (htodo:C.todo=[]\/ ∃t,C.todo=.code .ret ::t)
  {m0:BI} {n0:Nat} {ρ0:BB} {w0:World} (hb:base=w0.heap.size) (he:Ev ρ0 ρ fl m0 n0 C.st.mem C.st.next w0 w) (cs0:List Frame):
  ∃w',Steps P (lone (b.atR a (Yk C.ro k)) cs0 w) (lone {b.atR {a with defers:=[]} k with mode:=.returning} cs0 w')/\Yv ρ C.st.env C.cx.n a.tmps/\BC ρ C.st.mem C.st.next w'/\Ev ρ0 ρ fl m0 n0 C.st.mem C.st.next w0 w'/\BX P base ρ C.cs C.lps css w' [] mb/\w.heap.size<=w'.heap.size:=by
 have hrn:=hs.top.rnd;rw [aL] at hrn;have h1:step P (lone (b.atR a (Yk C.ro k)) cs0 w)=.next (lone {b.atR a k with mode:=.returning} cs0 w):=by
  rw [hro];have ht:=hs.top.todo;rcases htodo with e | ⟨t,e⟩
  .rw [e] at ht;cases ht;exact stepR_end hrn
  .rw [e] at ht;obtain ⟨k',rfl,_⟩:=ht.code;exact stepR_ret hrn
 have hnd:ma.Nodup:=(List.nodup_append.1 hs.rest.nodup).1;obtain ⟨w',h2,ht⟩:=Ky (P:=P) (cs:=cs0) ma {b.atR a k with mode:=.returning} w rfl hs.top.defers hnd fun r hr=>(hs.rest.marks r (by simp [hr])).2.2;refine ⟨w',.head h1 h2,hs.top.env,hs.rel.turned (fun r hr=>(hs.rest.marks r (by simp [hr])).2.1) ht,he.turned (fun r hr=>by rw [<-hb];exact (hs.rest.marks r (by simp [hr])).1) ht,hs.rest.turned ht (List.nil_sublist _) (fun r hr hrm=> ?_) (fun r hr=>⟨_,(hs.rest.marks r (by simp [hr])).2.2⟩),Nat.le_of_eq ht.size.symm⟩;rw [List.nil_append] at hrm;exact (List.nodup_append.1 hs.rest.nodup).2.2 r hr r hrm rfl
theorem Fa {fl base:Nat} {v:BA} {st:St} {lps:BL} {cs:List BR} {C':BJ} (h:CA v st lps cs=some C') (hcs: ∀af∈cs,af.cx.floor=fl) (hle:fl<=st.next):
  Fl fl C'/\C'.st.mem=st.mem/\C'.st.next=st.next/\C'.st.ob=st.ob/\(cs≠ [])/\ ∀(ρ:BB) (css:List Frame) (w:World) (mb:List Nat) (u:Value),Zp ρ v u->BX P base ρ cs lps css w [] mb->BC ρ st.mem st.next w->
   ∃c css' b' a' k' ma' mb',css=c::css'/\c.finish u=b'.atR a' (Yk C'.ro k')/\CG P base C' ρ b' a' k' css' w ma' mb'/\CU b' css'=CU c css':=by
 unfold CA at h;split at h
 .rename_i cx ops i o l todo rnd rs env cs';split at h
  .rename_i st' hp;obtain rfl:=Ab h;obtain ⟨p1,p2,p3,p4⟩:=Yx hp;refine ⟨⟨hcs _ (A2 ..),fun af haf=>hcs af (by simp [haf]),by rw [show st'.next=st.next from p2];exact hle⟩,p1,p2,p3,by simp,fun ρ css w mb u hv hr aA=> ?_⟩;obtain ⟨hc,hnd,hmk,hlp,hinj⟩:=hr;cases hc with
   | @cons _ b a k ms _ css' mss hf hl ht=>
    simp only at hf hl;refine ⟨_,css',b,a.put o.dst u,k,ms,mss,rfl,?_,⟨⟨hf.env.put hv ?_,by rw [Act.put_defers'];exact hf.defers,hf.todo,?_,hf.rnd⟩,hl,⟨ht,hnd,hmk,hlp,hinj⟩,?_⟩,by cases css' <;> rfl⟩
    .obtain ⟨hro,_⟩:=hf.ro;have hi:ops.toList[i]? =some o:=by
      have:=congrArg (·[0]?) hro
      grind
     have hi':ops[i]? =some o:=(by grind);have hlt:i<ops.size:=(Al.1 hi').1;have hd:(List.range ops.size).drop i=i::(List.range ops.size).drop (i+1):=by rw [List.drop_eq_getElem_cons (by grind)];simp
     grind [Yk,Frame.finish_atR]
    .rcases p4 with ⟨e,e2⟩ | ⟨d,e,hlt,e2⟩
     .exact .inl ⟨e,e2⟩
     .exact .inr ⟨d,e,hlt,e2⟩
    .obtain ⟨hro,aV⟩:=hf.ro;refine ⟨?_,aV⟩;have:=congrArg List.tail hro
     simpa using this
    .show BC ρ st'.mem st'.next w
     rw [show st'.mem=st.mem from p1,show st'.next=st.next from p2];exact aA
  .cases h
 .rename_i cx j k rnd rs env cs';obtain rfl:=Ab h;refine ⟨⟨hcs _ (A2 ..),fun af haf=>hcs af (by simp [haf]),hle⟩,rfl,rfl,rfl,by simp,fun ρ css w mb u hv hr aA=> ?_⟩;obtain ⟨hc,hnd,hmk,hlp,hinj⟩:=hr;cases hc with
  | @cons _ b a k0 ms _ css' mss hf hl ht=>
   simp only at hf hl;have htd:=hf.todo;cases htd with
   | cons hx htl=>
    cases hx with
    | same _ hp=>cases hp
    | inR _ l hlj=>exact ⟨_,css',b,a,_,ms,mss,rfl,finish_atR_inRangeFunc l u,⟨⟨hf.env,hf.defers,.cons (.endR _ l hlj) htl,trivial,hf.rnd⟩,hl,⟨ht,hnd,hmk,hlp,hinj⟩,aA⟩,by cases css' <;> rfl⟩
 .cases h
theorem Ic {b:Frame} {a:Act} {k:List Item} {cs:List Frame} {w:World} {ops:Array Oper} {i:Nat} {rest:List Nat} {o:Oper} {f:FuncId} {args:Array Value} (ho:ops[i]? =some o) (hnd: ∀c,o.op≠ .defer c) (hw:Region.wanted o (yielded ops a.tmps)=true)
  (hr:(execOp a.eval o).run P w=.ok (.enter f args) w):step P (lone (b.atR a (.inRegion ops (i::rest)::k)) cs w)=.next (lone (Frame.enter P f args .normal) (b.atR a (.inRegion ops (i::rest)::k)::cs) w):=by
 have hg:=stepGR_op (P:=P) (b:=b) (k:=k) (cs:=cs) (w:=w) (rest:=rest) ho hw;rw [Oper.semAt_eq _ _ _ hnd] at hg;exact step_lone_go (by simp_all [stepG.apply,Frame.atR])
theorem Id {b:Frame} {a:Act} {k:List Item} {cs:List Frame} {w:World} {ops:Array Oper} {i:Nat} {rest:List Nat} {o:Oper} {l:Nat} {f:FuncId} {tmps:Array Value} {assign body:Code} (ho:ops[i]? =some o) (hnd: ∀c,o.op≠ .defer c) (hw:Region.wanted o (yielded ops a.tmps)=true)
  (hr:(execOp a.eval o).run P w=.ok (.round l f tmps assign body) w):step P (lone (b.atR a (.inRegion ops (i::rest)::k)) cs w)=.next (lone (Frame.round l f tmps assign body .normal) (b.atR a (.inRegion ops (i::rest)::k)::cs) w):=by
 have hg:=stepGR_op (P:=P) (b:=b) (k:=k) (cs:=cs) (w:=w) (rest:=rest) ho hw;rw [Oper.semAt_eq _ _ _ hnd] at hg;exact step_lone_go (by simp_all [stepG.apply])
theorem Wr {ρ:BB} {n:Nat}: ∀{ps:List Tmp} {args:List BA} {env env':T BA} {vals:List Value} {tmps:Array Value},Fd n ps args env=some env'->Yv ρ env n tmps->Yh (Zp ρ) args vals->
  ps.length=vals.length/\Yv ρ env' n ((ps.zip vals).foldl (fun t p=>t.setIfInBounds p.1 p.2) tmps)
 | [],[],env,env',vals,tmps,h,he,ha=>by cases ha;obtain rfl:=Ab h;simp_all
 | t::ps,x::args,env,env',vals,tmps,h,he,ha=>by
  cases ha with
  | @cons _ u _ vals hx ha=>
   unfold Fd at h;obtain ⟨hc,h⟩:=Zu h;have hlt:=Ad hc;have he':Yv ρ (T.set .undef env t x) n (tmps.setIfInBounds t u):=by have:=Yv.put (a:=⟨tmps,[]⟩) (dst:=some t) he hx (.inr ⟨t,rfl,hlt,rfl⟩);exact this
   obtain ⟨h1,h2⟩:=Wr h he' ha;simp_all
 | [],_::_,_,_,_,_,h,_,_=>by cases h
 | _::_,[],_,_,_,_,h,_,_=>by cases h
theorem Fl.enter {fl:Nat} {cx:BK} {ro:Option BN} {todo:List Item} {rnd:Option Nat} {rs:List ResultVar} {st:St} {cs:List BR} {lps lps':BL} (h:Fl fl ⟨cx,ro,todo,rnd,rs,st,cs,lps⟩) {n:Nat} {todo':List Item} {rnd':Option Nat} {rs':List ResultVar} {st':St} {ro':Option BN} {td:List Item} {e:T BA} (hn:st.next<=st'.next):
  Fl fl ⟨⟨n,cx.floor,cx.sym⟩,none,todo',rnd',rs',st',⟨cx,ro',td,rnd,rs,e⟩::cs,lps'⟩:=
 ⟨h.cx,fun af haf=>by
  rcases AO.1 haf with rfl | haf
  .exact h.cx
  .exact h.cs af haf,Ay h.le hn⟩
theorem H4 {base:Nat} {ρ:BB} {f:FuncId} {args:List BA} {cx:BK} {ro':Option BN} {td:List Item} {rnd:Option Nat} {rs:List ResultVar} {e:T BA} {st:St} {cs:List BR} {lps:BL} {C':BJ} {b:Frame} {a:Act} {k:List Item} {css:List Frame} {w:World} {ma mb:List Nat} {vals:Array Value}
  (h:Cx P f args ⟨cx,ro',td,rnd,rs,e⟩ st cs lps=some C') (hf:Bd ρ cx ro' td rnd e b a k ma) (hlv:cs≠ []->Fo P rnd rs b) (hr:BX P base ρ cs lps css w ma mb) (aA:BC ρ st.mem st.next w) (aE:Yh (Zp ρ) args vals.toList):
  ∃fn body,P.funcs[f]? =some fn/\fn.body=some body/\C'=⟨⟨Nat.max fn.ntmps args.length,cx.floor,cx.sym⟩,none,[.code body],none,fn.results.toList,st.withEnv (Qn args 0 .leaf),⟨cx,ro',td,rnd,rs,e⟩::cs,lps⟩/\
   ∃b' a' k',Frame.enter P f vals .normal =b'.atR a' (Yk none k')/\CG P base C' ρ b' a' k' (b.atR a (Yk ro' k)::css) w [] (ma++mb):=by
 unfold Cx at h;split at h
 .rename_i fn hfn;split at h
  .rename_i body hb;obtain rfl:=Ab h;refine ⟨fn,body,hfn,hb,rfl,⟨f, #[],[],[],.run,.normal,none⟩,{tmps:=vals++Array.replicate (fn.ntmps - vals.size) undef,defers:=[]},[.code body],?_,⟨⟨Qh aE fn.ntmps,rfl,.cons (.same _ rfl) .nil,trivial,rfl⟩,fun _=>⟨rfl,fun _=>⟨fn,hfn,rfl⟩⟩,?_,aA⟩⟩
   .grind [Frame.enter,Frame.atR,Yk]
   .exact ⟨.cons hf hlv hr.cs,hr.nodup,hr.marks,hr.loops,hr.inj⟩
  .cases h
 .cases h
theorem Un {ρ:BB} {ops:Array Oper} {o:Oper} {cx:BK} {st st1:St} {e:Bool} (h:Wy ops o cx st=some (e,st1)):st1.mem=st.mem/\st1.next=st.next/\(st1.ob=true->st.ob=true/\ ∀{tmps:Array Value},Yv ρ st.env cx.n tmps->Yv ρ st1.env cx.n tmps/\Region.wanted o (yielded ops tmps)=e):=by obtain ⟨w1,w2,w3⟩:=Yz h;refine ⟨w1,w2,fun ho=>⟨(w3 ho).1,fun {tmps} he=>⟨he.congr fun t=>(w3 ho).2 t,Ye h ho he.size fun d _=>he.get d⟩⟩⟩
theorem Fb {ops:Array Oper} {i:Nat} {o:Oper} {l:List Oper} (h:o::l=ops.toList.drop i):ops[i]? =some o/\l=ops.toList.drop (i+1)/\(List.range ops.size).drop i=i::(List.range ops.size).drop (i+1):=by
 have hi:ops.toList[i]? =some o:=by
  have:=congrArg (·[0]?) h
  grind
 have hi':ops[i]? =some o:=by grind
 have hlt:i<ops.size:=(Al.1 hi').1;refine ⟨hi',?_,?_⟩
 .have:=congrArg List.tail h
  simpa using this
 .rw [List.drop_eq_getElem_cons (by grind)];simp
theorem Xc {ops:Array Oper} (h:Vv ops=true) {i:Nat} {o:Oper} (ho:ops[i]? =some o) (c:Call):o.op≠ .defer c:=by
 intro hc;have hm:o∈ops.toList:=by grind
 have:=Ao.1 h o hm
 grind
theorem Qt {ρ:BB} {st:St} {n:Nat} {a:Act} (he:Yv ρ st.env n a.tmps) (args:Array Operand):Yh (Zp ρ) (args.toList.map st.eval) (args.map a.eval).toList :=by rw [AI];exact Yh.maps _ _ _ fun x _=>he.eval x
theorem GB {ops:Array Oper} {m i:Nat} (hm:m<=ops.size) (h:i<m):(Yw ops m)[i]? =ops[i]? :=by
 grind [Yw]
theorem Gx {ops:Array Oper} {m i:Nat} (hm:m<=ops.size) (h:m<=i):(Yw ops m)[i]? =(ops[i]?).map B7:=by
 grind [Yw]
theorem HY {ops:Array Oper} {m:Nat} (hm:m<=ops.size):(Yw ops m).size =ops.size:=by simp [Yw];omega
theorem Jb {ops:Array Oper} {m:Nat} (hm:m<=ops.size) (i:Nat):((Yw ops m)[i]?).map (·.after)=(ops[i]?).map (·.after):=by
 by_cases h:i<m
 .rw [GB hm h]
 .rw [Gx hm (by omega)];cases ops[i]? <;> rfl
theorem Ie (md:Region.Mode) {ops:Array Oper} {m:Nat} (hm:m<=ops.size) (listed:Array Bool):Region.ready md (Yw ops m) listed=Region.ready md ops listed:=by
 grind [Region.ready,Jb,Yw]
theorem HK (md:Region.Mode) {ops:Array Oper} {m:Nat} (hm:m<=ops.size): ∀(fuel t:Nat) (listed:Array Bool) (acc:List Nat),Region.linearise.go md (Yw ops m) fuel t listed acc=Region.linearise.go md ops fuel t listed acc
 | 0,t,listed,acc=>rfl
 | fuel+1,t,listed,acc=>by
  have e:=Ie md hm listed;unfold Region.ready at e;simp only [Region.linearise.go];rw [e];split
  .exact HK md hm fuel _ _ _
  .rfl
theorem I8 {ops:Array Oper} (bO: ∀(j:Nat) o,ops[j]? =some o-> ∀e∈o.after.toList,Region.binds .any e=true->e.on<j): ∀listed:Array Bool,listed.size=ops.size-> ∀i,i<ops.size->listed.getD i false=false-> ∃j,j∈Region.ready .any ops listed:=by
 intro listed hsz i
 induction i using Nat.strongRecOn with
 | _ i ih=>
  intro hi hl;by_cases h: ∃e∈(ops[i]).after.toList,Region.binds .any e=true/\listed.getD e.on false=false
  .grind
  .refine ⟨i,mem_ready.2 ⟨?_,ops[i],by simp [hi],fun e he hb=> ?_⟩⟩;all_goals grind
theorem HD {ops:Array Oper} (bO: ∀(j:Nat) o,ops[j]? =some o-> ∀e∈o.after.toList,Region.binds .any e=true->e.on<j) (fuel t:Nat) (listed:Array Bool) (hsz:listed.size=ops.size) (hcl:Ja ops (fun i=>listed.getD i false)) {q:Nat} (hq:q<ops.size) (hl:listed.getD q false=false):
  ∃i x t',ops[i]? =some x/\listed.getD i false=false/\Bt (fun i=>listed.getD i false) x/\Region.linearise.go .any ops (fuel+1) t listed []=i::Region.linearise.go .any ops fuel t' (listed.setIfInBounds i true) []/\
   (listed.setIfInBounds i true).size =ops.size/\Ja ops (fun q=>(listed.setIfInBounds i true).getD q false)/\ ∀q,(listed.setIfInBounds i true).getD q false=(listed.getD q false||q == i):=by
 obtain ⟨j0,hj0⟩:=I8 bO listed hsz q hq hl;have hne:Region.ready .any ops listed≠ []:=fun e=>by grind
 have hlt:t %(Region.ready .any ops listed).length <(Region.ready .any ops listed).length :=A3 _ (List.length_pos_iff.2 hne);have hgo:Region.linearise.go .any ops (fuel+1) t listed []=(match (Region.ready .any ops listed)[t %(Region.ready .any ops listed).length]? with
  | some i=>Region.linearise.go .any ops fuel (t / (Region.ready .any ops listed).length) (listed.setIfInBounds i true) [i]
  | none=>[].reverse):=rfl
 rw [hgo,Ai hlt];simp only;have hi:=Az hlt;generalize (Region.ready .any ops listed)[t %(Region.ready .any ops listed).length]=i at hi;obtain ⟨h1,x,hx,hr⟩:=mem_ready.1 hi;have hil:i<ops.size:=(Al.1 hx).1;have hils:i<listed.size:=by omega
 have hif:listed.getD i false=false:=by grind
 rw [linearise_go_acc,List.reverse_singleton,List.singleton_append];have bM: ∀q,(listed.setIfInBounds i true).getD q false=(listed.getD q false||q == i):=fun q=>by
  by_cases hq:q=i
  .simp_all
  .have:(q == i)=false:=by simp [hq]
   rw [this,Bool.or_false];simp [Array.getD_eq_getD_getElem?,Ne.symm hq]
 have aI:Bt (fun i=>listed.getD i false) x:=fun e he hb=>hr e (Array.mem_toList_iff.1 he) hb;refine ⟨i,x,_,hx,hif,aI,rfl,by grind,fun j y hy hs e he hb=> ?_,bM⟩;simp only [bM] at hs ⊢;by_cases hji:j=i
 .grind
 .have hs':listed.getD j false=true:=by grind
  have:=hcl j y hy hs' e he hb
  grind
theorem HE {ops:Array Oper} {m:Nat} (bO: ∀(j:Nat) o,ops[j]? =some o-> ∀e∈o.after.toList,Region.binds .any e=true->e.on<j) (hf: ∀j x,m<=j->ops[j]? =some x-> ∀i,i<j->Kq ops i x):
  ∀(fuel t j:Nat) (listed:Array Bool),listed.size=ops.size->Ja ops (fun i=>listed.getD i false)->m<=j->j+fuel=ops.size->(∀q,q<j->listed.getD q false=true)->(∀q,j<=q->listed.getD q false=false)->Region.linearise.go .any ops fuel t listed []=(List.range ops.size).drop j
 | 0,t,j,listed,hsz,hcl,hj,hn,h1,h2=>by rw [List.drop_eq_nil_of_le (by simp;omega)];rfl
 | fuel+1,t,j,listed,hsz,hcl,hj,hn,h1,h2=>by
  obtain ⟨i,x,t',hx,hif,hr,hgo,bY,hcl',bM⟩:=HD bO fuel t listed hsz hcl (q:=j) (by omega) (h2 j (Ah _));have hij: ¬i<j:=fun e=>by rw [h1 i e] at hif;cases hif
  have e:i=j:=by
   by_cases h:j<i
   .have:listed.getD j false=true:=hf i x (by omega) hx j h _ hcl hr;rw [h2 j (Ah _)] at this;cases this
   .omega
  subst e;rw [hgo,HE bO hf fuel t' (i+1) _ bY hcl' (by omega) (by omega) (fun q hq=>by
   rw [bM];by_cases e:q=i
   .simp [e]
   .rw [h1 q (by omega)];rfl) (fun q hq=>by
   rw [bM,h2 q (by omega)];simp;omega)]
  rw [List.drop_eq_getElem_cons (show i<(List.range ops.size).length by simp;omega)];simp
theorem KI {ops:Array Oper} {m:Nat} (bO: ∀(j:Nat) o,ops[j]? =some o-> ∀e∈o.after.toList,Region.binds .any e=true->e.on<j) (hm:m<ops.size) (hf: ∀j x,m<=j->ops[j]? =some x-> ∀i,i<j->Kq ops i x):
  ∀(fuel t:Nat) (listed:Array Bool),listed.size=ops.size->Ja ops (fun i=>listed.getD i false)->(List.range ops.size).countP (fun i=> !listed.getD i false)=fuel->(∀q,m<=q->listed.getD q false=false)->
   ∃l,Region.linearise.go .any ops fuel t listed []=l++(List.range ops.size).drop m/\ ∀i∈l,i<m:=by
 intro fuel
 induction fuel with
 | zero=>
  intro t listed hsz _ hc hl;have:=List.countP_eq_zero.1 hc m (At.2 hm)
  grind
 | succ fuel ih=>
  intro t listed hsz hcl hc hl;obtain ⟨i,x,t',hx,hif,hr,hgo,bY,hcl',bM⟩:=HD bO fuel t listed hsz hcl hm (hl m (Ah _));have hil:i<ops.size:=(Al.1 hx).1;have hc':(List.range ops.size).countP (fun q=> !(listed.setIfInBounds i true).getD q false)=fuel:=by have:=Vq (fun q=> !listed.getD q false) (fun q=> !(listed.setIfInBounds i true).getD q false) i ops.size (fun k hk=>by grind) (by grind) (by grind) hil;omega
  by_cases him:i<m
  .obtain ⟨l,h2,h3⟩:=ih t' (listed.setIfInBounds i true) bY hcl' hc' (fun q hq=>by grind)
   grind
  .have e:i=m:=by
    by_cases h:m<i
    .have:listed.getD m false=true:=hf i x (by omega) hx m h _ hcl hr
     grind
    .omega
   subst e;have bC: ∀q,q<i->listed.getD q false=true:=fun q hq=>hf i x (Ah _) hx q hq _ hcl hr;refine ⟨[],?_,fun q hq=>by cases hq⟩;have hcount:fuel+1+i=ops.size:=by
    rw [<-hc];have key: ∀n,i<=n->n<=ops.size->(List.range n).countP (fun q=> !listed.getD q false)+i=n:=by
     intro n
     induction n with
     | zero=>grind
     | succ n ihn=>
      intro h1 h2;rw [List.range_succ,List.countP_append];by_cases e:i<=n
      .grind
      .have hni:n+1=i:=(by omega);have h0:(List.range n).countP (fun q=> !listed.getD q false)=0:=List.countP_eq_zero.2 fun q hq=>by
        grind
       grind
    grind
   grind [HE]
theorem He {b:Frame} {k:List Item} {cs:List Frame} {ops:Array Oper} {Q:Exit->Act->World->Prop} (hQ: ∀e a w,Q e a w->e=.normal) {m:Nat} (hm:m<=ops.size) (hnd:Vv ops=true)
  (hg: ∀i x g,i<m->ops[i]? =some x->x.guard=some g->g.1<m) {r:List Nat} (hr: ∀i∈r,m<=i): ∀(l:List Nat) (a:Act) (w:World),(∀i∈l,i<m)->wpOps P (Yw ops m) Q (l++r) a w->
   ∃a' w',Q .normal a' w'/\Steps P (lone (b.atR a (.inRegion ops (l++r)::k)) cs w) (lone (b.atR a' (.inRegion ops r::k)) cs w')
 | [],a,w,_,h=>by
  refine ⟨a,w,?_,Steps.refl _ _⟩;rw [List.nil_append] at h;clear hg
  induction r with
  | nil=>exact h
  | cons i r ih=>
   refine ih (fun q hq=>hr q (by simp [hq])) ?_;simp only [wpOps] at h;rw [Gx hm (hr i (by simp))] at h;cases ho:ops[i]? with
   | none=>grind
   | some o=>
    rw [ho] at h;simp only [Option.map_some] at h;have hw:Region.wanted (B7 o) (yielded (Yw ops m) a.tmps)=true:=rfl;rw [Ap hw] at h;rcases h with h | ⟨_,a0,w0,h0⟩
    .have h:wpOps P (Yw ops m) Q r (a.put none (a.eval (.const (.bool true)))) w:=h;exact h
    grind
 | i::l,a,w,hl,h=>by
  have him:=hl i (by simp);simp only [List.cons_append,wpOps] at h;rw [GB hm him] at h;have hil:i<ops.size:=by omega
  obtain ⟨x,hx⟩: ∃x,ops[i]? =some x:=⟨ops[i],by simp [hil]⟩
  rw [hx] at h;simp only at h;have hy:Region.wanted x (yielded (Yw ops m) a.tmps)=Region.wanted x (yielded ops a.tmps):=by
   grind [Region.wanted,yielded,GB]
  rw [hy] at h;have h':if Region.wanted x (yielded ops a.tmps) then x.wp P a w (wpOps P (Yw ops m) Q (l++r)) Q else wpOps P (Yw ops m) Q (l++r) (a.put x.dst undef) w:=by
   by_cases hw:Region.wanted x (yielded ops a.tmps)=true
   .simp only [hw,if_true] at h ⊢;rcases h with h | ⟨_,a0,w0,h0⟩;all_goals grind
   grind
  obtain ⟨a1,w1,h1,s1⟩:=Ke (b:=b) (k:=k) (cs:=cs) (rest:=l++r) hQ hx (Xc hnd hx) h';obtain ⟨a',w',hR,hs⟩:=He hQ hm hnd hg hr l a1 w1 (fun q hq=>hl q (by simp [hq])) h1;exact ⟨a',w',hR,s1.trans hs⟩
theorem Hg {st:St} {ops:List Oper}: ∀(l:List Oper) (i:Nat) {m:Nat},Ff st ops l i=some m->i<=m/\m<i+l.length
 | [],i,m,h=>by cases h
 | o::l,i,m,h=>by
  unfold Ff at h;cases hy:Gs st ops o with
  | true=>grind
  | false=>
   rw [hy] at h;have:=Hg l (i+1) h
   grind
theorem If {ops:Array Oper} {st:St} {m:Nat} (h:GU ops st=some m):m<ops.size/\Vv ops=true/\Qr 0 (Yw ops m)=true/\(∀j x,m<=j->(Yw ops m)[j]? =some x-> ∀i,i<j->Kq (Yw ops m) i x)/\
  ∀i x g,i<m->ops[i]? =some x->x.guard=some g->g.1<m:=by
 unfold GU at h;split at h
 .rename_i m' hd;obtain ⟨hc,h⟩:=Zu h;obtain rfl:=Ab h;have hlt:=(Hg _ _ hd).2;rw [AQ,AC] at hlt;simp only [Hp,Ag] at hc;obtain ⟨hnd,hdr,bC,hgd⟩:=hc;refine ⟨hlt,hnd,hdr,fun j x hj hx i hi=> ?_,fun i x g hi hx hgx=> ?_⟩
  .have hjl:j<ops.size:=by grind [HY]
   have:=Ao.1 bC j (At.2 hjl);simp only [AR] at this;rcases this with h1 | h1
   .have:=Ad h1;omega
   .exact ((Ue hdr).bits j x hx i (Ao.1 h1 i (At.2 hi))).2
  .have h2:=Ao.1 hgd i (At.2 hi);rw [hx] at h2;obtain ⟨dst,op,type,pos,after,guard⟩:=x;simp only at hgx;subst hgx;obtain ⟨j,want⟩:=g;exact Ad h2
 .cases h
end
section
variable {P:Program} {ρ:BB}
theorem BC.setObj {mem:BI} {next:Nat} {w:World} (h:BC ρ mem next w) {b:Nat} {l:BM} {ab:BG} {o':Bw} {r':List BA} (hb:ρ b=some l) (hm:Zb mem b=some ab) (hob:ab.isObj=true) (aC:r'.length+1=ab.cells.length)
  (x:Obj) (hx:Kk ρ ab.ty l.blk r' o' (some x)):BC ρ (Zt mem b (some ⟨.obj o'::r',ab.ty,none⟩)) next (w.putObj l.blk x):=by
 have hlt:=h.real b l hb;have hn:l=⟨l.blk,0,r'.length+1,r'.length+1⟩:=by
  have:=(h.blk b l ab hb hm)
  cases this with
  | plain k=>have:=k.noObj;rw [this] at hob;cases hob
  | obj o r ty e1 e2 _=>subst e1;rw [e2];simp only [List.length_cons] at aC;rw [aC]
 have iff: ∀c,(Zb (Zt mem b (some ⟨.obj o'::r',ab.ty,none⟩)) c).isSome =(Zb mem c).isSome :=fun c=>by
  rw [Yc];split
  .rename_i e;rw [e,hm];rfl
  .rfl
 refine ⟨h.dom,fun c c' m m' e e' he hs hs'=>h.inj c c' m m' e e' he (by rw [<-iff];exact hs) (by rw [<-iff];exact hs'),fun c m ac e hc=> ?_,fun k o e=> ?_,fun c m e hs=>h.sep c m e (by rw [<-iff];exact hs),fun c m e=>by rw [World.putObj_size];exact h.real c m e,fun c hc=> ?_,h.ldom⟩
 .by_cases hcb:c=b
  .subst hcb;rw [Zq] at hc;obtain rfl:=Ab hc;rw [hb] at e;obtain rfl:=Ab e;exact .obj o' r' ab.ty rfl hn (by rw [World.putObj_heap_same hlt];exact hx)
  .rw [Zx _ _ hcb] at hc;refine (h.blk c m ac e hc).world (BB.le_refl _) (World.putObj_heap_other fun heq=>hcb ?_);exact h.inj c b m l e hb heq (by rw [hc];rfl) (by rw [hm];rfl)
 .rw [World.putObj_heap_other]
  .exact h.old k o e
  .intro heq;have:=h.sep b l hb (by rw [hm];rfl);rw [<-heq,e] at this;cases this
 .have:=h.dom b l hb;rw [Zx _ _ (by omega)];exact h.bd c hc
theorem Ev.ofObj {mem:BI} {next:Nat} {w:World} (h:BC ρ mem next w) {floor b:Nat} {l:BM} (hb:ρ b=some l) (hf:floor<=b) (o:Option BG) (x:Obj):
  Ev ρ ρ floor mem next (Zt mem b o) next w (w.putObj l.blk x) where
 ext:=BB.le_refl _
 new _ _:=rfl
 nxt:=Ah _
 unborn k _ e cs ty hm:=by
  rw [Zx]
  .exact hm
  .intro e';rw [e',hb] at e;cases e
 frame k o hk hfr:=by rw [World.putObj_heap_other fun e=>hfr b l hb hf e.symm];exact hk
 fresh k m hk e:=by have:=h.dom k m e;omega
 size:=by rw [World.putObj_size];exact Ah _
 os:=rfl
 tape:=rfl
 output:=rfl
 still _ _:=rfl
theorem BC.newObj {mem:BI} {next:Nat} {w:World} (h:BC ρ mem next w) (o:Bw) (r:List BA) (ty:TypeId) (x:Obj) (hx:Kk ρ ty w.heap.size r o (some x)):
  BC (Yq ρ next ⟨w.heap.size,0,r.length+1,r.length+1⟩) (Zt mem next (some ⟨.obj o::r,ty,none⟩)) (next+1) (w.alloc x):=by
 have hle:=Xb (l:=⟨w.heap.size,0,r.length+1,r.length+1⟩) h.none_next;have aG: ∀b l,Yq ρ next ⟨w.heap.size,0,r.length+1,r.length+1⟩ b=some l->(b=next/\l=⟨w.heap.size,0,r.length+1,r.length+1⟩)\/(b≠next/\ρ b=some l):=fun b l e=>by
  grind [Yb]
 have hold: ∀k,k<w.heap.size->(w.alloc x).heap[k]? =w.heap[k]? :=fun k hk=>by show (w.heap.push x)[k]? =_;rw [Array.getElem?_push,Aj (AM hk)]
 have hnew:(w.alloc x).heap[w.heap.size]? =some x:=World.alloc_heap_new w x;have hsize:(w.alloc x).heap.size =w.heap.size+1:=Array.size_push _;refine ⟨fun b l e=> ?_,fun b b' l l' e e' hbl hs hs'=> ?_,fun b l ab e hm=> ?_,fun k o e=> ?_,fun b l e hs=> ?_,fun b l e=> ?_,fun b hb=>by rw [Zx _ _ (by omega)];exact h.bd b (by omega),⟨fun j l e=>AE (h.ldom.1 j l e),h.ldom.2⟩⟩
 .rcases aG b l e with ⟨rfl,_⟩ | ⟨_,e⟩
  .omega
  .have:=h.dom b l e;omega
 .rcases aG b l e with ⟨hb,hl⟩ | ⟨hb,e2⟩ <;> rcases aG b' l' e' with ⟨hb',hl'⟩ | ⟨hb',e2'⟩
  .rw [hb,hb']
  .have:=h.real b' l' e2';grind
  .have:=h.real b l e2;grind
  .rw [Zx _ _ hb] at hs;rw [Zx _ _ hb'] at hs';exact h.inj b b' l l' e2 e2' hbl hs hs'
 .rcases aG b l e with ⟨rfl,rfl⟩ | ⟨hb,e⟩
  .rw [Zq] at hm;obtain rfl:=Ab hm;exact .obj o r ty rfl rfl (by rw [hnew];exact hx.mono hle)
  .rw [Zx _ _ hb] at hm;exact (h.blk b l ab e hm).world hle (hold _ (h.real b l e))
 .have hk:=h.old k o e;have hlt:=(Al.1 hk).1;rw [hold k hlt];exact hk
 .rcases aG b l e with ⟨rfl,rfl⟩ | ⟨hb,e⟩
  .exact h.hold _ (Ah _)
  .rw [Zx _ _ hb] at hs;exact h.sep b l e hs
 .rw [hsize];rcases aG b l e with ⟨rfl,rfl⟩ | ⟨_,e⟩
  .show w.heap.size<_;omega
  .have:=h.real b l e;omega
theorem Vz {st:St} {w:World} (h:BC ρ st.mem st.next w) (floor:Nat) (o:Bw) (r:List BA) (ty:TypeId) (x:Obj) (hx:Kk ρ ty w.heap.size r o (some x)) {v:BA} {u:Value}
  (aU: ∀ρ',ρ' st.next=some ⟨w.heap.size,0,r.length+1,r.length+1⟩->Zp ρ' v u):
  BU ρ floor st (Um st (.obj o::r) ty) v w (Yq ρ st.next ⟨w.heap.size,0,r.length+1,r.length+1⟩) u (w.alloc x):=
 ⟨aU _ (by simp [Yq]),h.newObj o r ty x hx,Ev.ofNew h floor _ _ _ (Ah _)⟩
theorem J0 {w:World} {k:Nat} {c cs:Array Value} {el:TypeId} {fz:Nat×Nat} (h:w.heap[k]? =some (.cells c el fz)):w.setRow k cs=w.putObj k (.cells cs el fz):=by
 unfold World.setRow World.putObj
 congr 1
 apply Array.ext_getElem?;intro i;rw [Array.getElem?_modify,Array.getElem?_setIfInBounds];have hlt:=(Al.1 h).1;by_cases e:k=i
 .subst e;rw [Ap rfl,Ap rfl,h];simp [hlt]
 .simp [e]
theorem HC {w:World} {k:Nat} {s:ByteArray} {p:Nat} (h:w.heap[k]? =some (.stringIter s p)):(getObj k).run P w=.ok (.stringIter s p) w:=by simp [getObj,Sem.run,h]
theorem Hw {w:World} {k:Nat} {s:ByteArray} {p:Nat} {o':Obj} (h:w.heap[k]? =some (.stringIter s p)):(setObj k o').run P w=.ok () (w.putObj k o'):=by simp [setObj,Sem.run,h,World.putObj]
theorem Gq {w:World} {t:TypeId} {m:Array (String×TypeId)} (h:P.underlying t=some (.interface m)) (v:Value) (hv:v=.nilIface \/ ∃d z,v=.iface d z):(Op.equal t v .nilIface).run P w=.ok (match v with | .nilIface =>true | _=>false) w:=by
 have key: ∀d,(Op.equalIn (d+1) t v .nilIface).run P w=.ok (match v with | .nilIface =>true | _=>false) w:=fun d=>by rcases hv with rfl | ⟨d,z,rfl⟩ <;> simp [Op.equalIn,run_underlying h]
 exact key 9999
theorem BC.objAt {mem:BI} {next:Nat} {w:World} (h:BC ρ mem next w) {b:Nat} {l:BM} {o:Bw} {r:List BA} {ty:TypeId} (hb:ρ b=some l) (hm:Zb mem b=some ⟨.obj o::r,ty,none⟩):Kk ρ ty l.blk r o w.heap[l.blk]? :=by
 have:=h.blk b l _ hb hm;cases this with
 | plain k=>have:=k.noObj;cases this
 | obj o' r' ty' e1 e2 h3=>simp only [BG.mk.injEq,A4,BA.obj.injEq] at e1;obtain ⟨⟨rfl,rfl⟩,rfl,_⟩:=e1;exact h3
theorem BC.objBase {mem:BI} {next:Nat} {w:World} (h:BC ρ mem next w) {b:Nat} {l:BM} {o:Bw} {r:List BA} {ty:TypeId} (hb:ρ b=some l) (hm:Zb mem b=some ⟨.obj o::r,ty,none⟩):l.base=0:=by
 have:=h.blk b l _ hb hm;cases this with
 | plain k=>have:=k.noObj;cases this
 | obj o' r' ty' e1 e2 h3=>rw [e2]
theorem B9.push {es:Array MapEntry} {ck:Nat} (h:B9 es ck) (e:MapEntry) (he:e.born=es.size):B9 (es.push e) (ck+1):=by refine ⟨?_,by rw [Array.size_push,h.2]⟩;rw [Array.toList_push,List.map_append,h.1,Array.size_push,List.range_succ];simp [he]
theorem B9.modify {es:Array MapEntry} {ck:Nat} (h:B9 es ck) (j:Nat) (f:MapEntry->MapEntry) (hf: ∀e,(f e).born =e.born):B9 (es.modify j f) ck:=by
 have e:(es.modify j f).toList.map (·.born)=es.toList.map (·.born):=by
  apply A6;intro i;simp only [AG,Array.getElem?_toList,Array.getElem?_modify];split
  .cases es[i]? with
   | none=>rfl
   | some e=>simp [hf]
  .rfl
 exact ⟨by rw [e,Array.size_modify];exact h.1,by rw [Array.size_modify];exact h.2⟩
def Ba {α:Type} (vf:α->Value) (es:List MapEntry) (l:List (List UInt8×α)):Prop:=es.map (fun e=>(e.key,e.val))=l.map fun p=>(.string ⟨p.1.toArray⟩,vf p.2)
def Bk {α:Type} (vf:α->Value) (k:List UInt8):List (List UInt8×α)->Nat->Option (Nat×Value)
 | [],_=>none
 | p::r,i=>bif k == p.1 then some (i,vf p.2) else Bk vf k r (i+1)
theorem bytes_beq (a b:List UInt8):((⟨a.toArray⟩:ByteArray) == ⟨b.toArray⟩)=(a == b):=by rw [Bool.eq_iff_iff,MapKept.bytes_beq,beq_iff_eq];simp
theorem Ud {α:Type} (vf:α->Value) (k:List UInt8): ∀(es:List MapEntry) (l:List (List UInt8×α)) (i:Nat),Ba vf es l->Instr.findNow .string (.string ⟨k.toArray⟩) es i=some (Bk vf k l i)
 | [],[],_,_=>rfl
 | [],_::_,_,h=>by cases h
 | _::_,[],_,h=>by cases h
 | e::es,p::l,i,h=>by
  unfold Ba at h;simp only [AU,A4,Aa] at h;obtain ⟨⟨h1,h2⟩,h3⟩:=h;have ih:=Ud vf k es l (i+1) h3;unfold Instr.findNow Bk;rw [h1];simp only [Instr.sameNow,bytes_beq];cases hk:(k == p.1) with
  | true=>rw [Aq,h2]
  | false=>rw [Ax];exact ih
theorem Gz {α:Type} (vf:α->Value) (d:α) (k:List UInt8): ∀(l:List (List UInt8×α)) (i:Nat),match Bk vf k l i with
  | some (_,v)=>v=vf (Bq d l k)/\Ca l k=true
  | none=>Bq d l k=d/\Ca l k=false
 | [],_=>⟨rfl,rfl⟩
 | p::l,i=>by
  have ih:=Gz vf d k l (i+1);unfold Bk Bq Ca;cases hk:(k == p.1) with
  | true=>simp [hk]
  | false=>simpa [hk,Ca] using ih
theorem HA {α:Type} (vf:α->Value) (k:List UInt8) (v:α) (c:Nat): ∀(l:List (List UInt8×α)) (es:List MapEntry) (i:Nat),Ba vf es l->match Bk vf k l i with
  | some (j,_)=>i<=j/\(∃e,es[j - i]? =some e/\e.key=.string ⟨k.toArray⟩)/\Ba vf (es.modify (j - i) fun e=>{e with key:=.string ⟨k.toArray⟩,val:=vf v}) (CJ l k v)
  | none=>Ba vf (es++[⟨.string ⟨k.toArray⟩,vf v,c⟩]) (CJ l k v)
 | [],es,i,h=>by
  have:es=[]:=by unfold Ba at h;simpa using h
  subst this;simp [Bk,CJ,Ba]
 | p::l,[],i,h=>by cases h
 | p::l,e::es,i,h=>by
  unfold Ba at h;simp only [AU,A4,Aa] at h;obtain ⟨⟨h1,h2⟩,h3⟩:=h;have ih:=HA vf k v c l es (i+1) h3;unfold Bk CJ;cases hk:(k == p.1) with
  | true=>
   have hk':k=p.1:=by simpa using hk
   simp only [Aq,Nat.sub_self];refine ⟨Ah _,⟨e,rfl,by rw [h1,hk']⟩,?_⟩;unfold Ba;simp only [List.modify_zero_cons,AU,A4,Aa];exact ⟨⟨by rw [hk'],trivial⟩,h3⟩
  | false=>
   simp only [Ax];cases hf:Bk vf k l (i+1) with
   | none=>rw [hf] at ih;unfold Ba at ih ⊢;simp only [List.cons_append,AU,A4,Aa];exact ⟨⟨h1,h2⟩,ih⟩
   | some q=>rw [hf] at ih;obtain ⟨j,x⟩:=q;simp only at ih ⊢;obtain ⟨k1,⟨e',k2,k3⟩,k4⟩:=ih;have hj:j - i=(j - (i+1))+1:=(by omega);refine ⟨by omega,⟨e',by rw [hj];exact k2,k3⟩,?_⟩;rw [hj];unfold Ba at k4 ⊢;simp only [List.modify_succ_cons,AU,A4,Aa];exact ⟨⟨h1,h2⟩,k4⟩
theorem Uk {α:Type} (vf:α->Value) (d:α) {w:World} {t kt et:TypeId} {r clock:Nat} {es:Array MapEntry} {l:List (List UInt8×α)} (hm:P.underlying t=some (.map kt et)) (hk:P.underlying kt=some .string)
  (hz:(zeroValue et).run P w=.ok (vf d) w) (hb:w.heap[r]? =some (.map es clock)) (hes:Ba vf es.toList l) (k:List UInt8) (co:Bool):
  (Instr.lookup t (.map (some r)) (.string ⟨k.toArray⟩) co).run P w=.ok (if co then .tuple #[vf (Bq d l k),.bool (Ca l k)] else vf (Bq d l k)) w:=by
 have hf:=Ud vf k es.toList l 0 hes;have hc: ∀b,(Instr.checkKey b 10000 kt (.string ⟨k.toArray⟩)).run P w=.ok () w:=fun b=>MapKept.run_checkKey (k:=.string ⟨k.toArray⟩) hk (by simp [MapKept.IsKey]) b 9999;have hg:=Gz vf d k l 0;cases hfk:Bk vf k l 0 with
 | none=>rw [hfk] at hf hg;simp only at hg;rw [hg.1,hg.2];simp [Instr.lookup,run_underlying hm,MapKept.run_getObj_map hb,hc,MapKept.run_findKey hk hf,hz,Result.andThen]
 | some q=>obtain ⟨j,v⟩:=q;rw [hfk] at hf hg;simp only at hg;rw [<-hg.1,hg.2];simp [Instr.lookup,run_underlying hm,MapKept.run_getObj_map hb,hc,MapKept.run_findKey hk hf,Result.andThen]
theorem Uj {α:Type} (vf:α->Value) {w:World} {t kt et:TypeId} {r clock:Nat} {es:Array MapEntry} {l:List (List UInt8×α)} (hm:P.underlying t=some (.map kt et)) (hk:P.underlying kt=some .string)
  (hb:w.heap[r]? =some (.map es clock)) (hes:Ba vf es.toList l) (hbr:B9 es clock) (k:List UInt8) (v:α):
  ∃es' clock',(Instr.mapUpdate t (.map (some r)) (.string ⟨k.toArray⟩) (vf v)).run P w=.ok () (w.putObj r (.map es' clock'))/\Ba vf es'.toList (CJ l k v)/\B9 es' clock':=by
 have hf:=Ud vf k es.toList l 0 hes;have hc: ∀b,(Instr.checkKey b 10000 kt (.string ⟨k.toArray⟩)).run P w=.ok () w:=fun b=>MapKept.run_checkKey (k:=.string ⟨k.toArray⟩) hk (by simp [MapKept.IsKey]) b 9999;have hg:=HA vf k v clock l es.toList 0 hes;cases hfk:Bk vf k l 0 with
 | none=>rw [hfk] at hf hg;simp only at hg;refine ⟨es.push ⟨.string ⟨k.toArray⟩,vf v,clock⟩,clock+1,?_,by simpa using hg,hbr.push _ hbr.2⟩;simp [Instr.mapUpdate,run_underlying hm,MapKept.run_getObj_map hb,hc,MapKept.run_findKey hk hf,MapKept.run_setObj_map _ hb,Result.andThen,World.putObj]
 | some q=>
  obtain ⟨j,x⟩:=q;rw [hfk] at hf hg;simp only [Nat.sub_zero] at hg;obtain ⟨_,⟨e,h1,h2⟩,h3⟩:=hg;have h1':es[j]? =some e:=by simpa using h1
  refine ⟨es.modify j fun e=>{e with key:=.string ⟨k.toArray⟩,val:=vf v},clock,?_,by simpa using h3,hbr.modify j _ fun _=>rfl⟩;have hs: ∀w:World,(Instr.keyThatStays (.string ⟨k.toArray⟩) (.string ⟨k.toArray⟩)).run P w=.ok (.string ⟨k.toArray⟩) w:=fun w=>by simp [Instr.keyThatStays,Instr.sameBits,(MapKept.bytes_beq (⟨k.toArray⟩:ByteArray) ⟨k.toArray⟩).2 rfl]
  simp [Instr.mapUpdate,run_underlying hm,MapKept.run_getObj_map hb,hc,MapKept.run_findKey hk hf,MapKept.run_setObj_map _ hb,Result.andThen,World.putObj,h1',h2,hs]
theorem H3 {v:BA} {u:Value} (h:Cz v=true) (hr:Zp ρ v u):u=.int .u8 ((DJ v).toNat :Int):=by
 unfold Cz at h;split at h
 .rename_i n;have h:=AN h;cases hr;simp only [DJ]
  congr 1
  have:(UInt8.ofNat n.toNat).toNat =n.toNat:=by rw [UInt8.toNat_ofNat'];omega
  rw [this];omega
 .cases h
def Gl (w:World) (el:TypeId) (g o:Nat) (s:List UInt8):Prop:= ∃cs,w.heap[g]? =some (.cells cs el (0,0))/\(s≠ []->o+s.length<=cs.size)/\ ∀j x,s[j]? =some x->cs[o+j]? =some (.int .u8 x.toNat)
theorem Vt {mem:BI} {next:Nat} {w:World} (aA:BC ρ mem next w) {v:BA} {u:Value} {s:List UInt8} (h:DH mem v=some (s,true)) (hv:Zp ρ v u):
  (u=.slice none 0 0/\s=[])\/ ∃b l g o c el,DT v=some b/\ρ b=some l/\(Zb mem b).isSome =true/\l.blk=g/\u=.slice (some ⟨g,o,none⟩) s.length c/\s.length<=c/\(∀ab,Zb mem b=some ab->el=ab.ty)/\Gl w el g o s:=by
 unfold DH at h;split at h
 .simp only [Ac,Aa] at h;obtain ⟨rfl,_⟩:=h;cases hv;exact .inl ⟨rfl,rfl⟩
 .rename_i b off len cap;split at h
  .rename_i blk hm;obtain ⟨hno,h⟩:=DI h;split at h
   .rename_i cs hc;simp only [Ac,Aa] at h;obtain ⟨rfl,bC⟩:=h;obtain ⟨k1,k2,k3⟩:=Vk hc;cases hv with
    | sl _ _ _ _ l c hl _ aC=>
     obtain ⟨hty,hn,ht,_,cur,el,h1,h2,h3⟩:=(aA.blk b l blk hl hm).at hno;refine .inr ⟨b,l,l.blk,l.base+off,c,el,rfl,hl,by rw [hm];rfl,rfl,by simp [k2],by simpa [k2] using aC,fun ab e=>by rw [hm] at e;rw [<-Ab e];exact hty _ _ _ h1,cur,h1,?_,fun j x hx=> ?_⟩
     .intro hne;have:len≠0:=fun e=>hne (by rw [List.map_eq_nil_iff];exact List.eq_nil_of_length_eq_zero (by rw [k2,e]));simp only [AT,k2];omega
     .simp only [AG,Af] at hx;obtain ⟨y,hy,rfl⟩:=hx;have hj:j<cs.length:=(Au.1 hy).1;obtain ⟨z,q1,q2⟩:=h3 (off+j) (by omega);have hyz:blk.cells[off+j]'(by omega)=y:=by
       have:cs[j]? =blk.cells[off+j]? :=by rw [k1,List.getElem?_take,Ap (by omega),List.getElem?_drop]
       rw [this,Ai (by omega)] at hy;exact Ab hy
      rw [hyz] at q2;have hby:=Ao.1 bC y (List.mem_of_getElem? hy);rw [AA,q1,H3 hby q2]
   .cases h
  .cases h
 .rename_i b sz off len cap;split at h
  .rename_i blk hm;split at h
   .rename_i A hA;simp only [Ac,Aa,Ag,An] at h;obtain ⟨rfl,hs1,hs2,aJ,hok⟩:=h;obtain rfl:=Ae hs1;have hsz:=Ae hs2;have hok: ∀k,k<len-> ∃v,A.get (off+k)=[v]/\Cz v=true:=Fu (fun h k hk=>by
     have:=Ao.1 h k (At.2 hk);unfold Gp at this;split at this
     .rename_i v e;exact ⟨v,e,this⟩
     .cases this) hok
    have hlen0:(DE len fun k=>A.get (off+k)).length =len:=(by simp [DE]);cases hv with
    | slan=>exact .inl ⟨rfl,by simp [DE]⟩
    | sla _ _ _ _ _ l c hl _ aC=>
     obtain ⟨hty,hn,ht,har,cur,el,h1,h2,h3⟩:=(aA.blk b l blk hl hm).rows hA;obtain ⟨a1,a2,a3⟩:=har A hA;have hrl:=Za A.n a3;rw [<-a1,hsz,Nat.mul_one] at hrl;refine .inr ⟨b,l,l.blk,l.base+off*1,c,el,rfl,hl,by rw [hm];rfl,rfl,by rw [hlen0],by rw [hlen0];exact aC,fun ab e=>by rw [hm] at e;rw [<-Ab e];exact hty _ _ _ h1,cur,h1,?_,fun j x hx=> ?_⟩
     .intro _;rw [hlen0];omega
     .have hj:j<len:=by rw [<-hlen0];exact (Au.1 hx).1
      obtain ⟨v0,e1,e2⟩:=hok j hj;obtain ⟨z,q1,q2⟩:=h3 (off+j) (by omega);have hg:blk.cells[off+j]? =some v0:=by
       have:=Yf A.n a3 (off+j) 0 (by omega) (by omega);rw [hsz] at this;rw [a1]
       simpa [e1] using this
      have hyz:blk.cells[off+j]'(by omega)=v0:=by rw [Ai (by omega)] at hg;exact Ab hg
      rw [hyz] at q2;have hx':x=DJ v0:=by simp only [DE,AG,List.getElem?_range hj,Option.map_some,Ac] at hx;rw [<-hx,e1];rfl
      rw [Nat.mul_one,AA,q1,H3 e2 q2,hx']
   .cases h
  .cases h
 .cases h
theorem IN {w:World} {g o c:Nat} {el:TypeId} {s:List UInt8} (h:Gl w el g o s):(Conv.bytesToString (.slice (some ⟨g,o,none⟩) s.length c)).run P w=.ok (.string ⟨s.toArray⟩) w:=by
 obtain ⟨cs,h1,h2,h3⟩:=h;have hl:(loadCells ⟨g,o,none⟩ s.length).run P w=.ok ((s.map fun x=>(x.toNat:Int)).map (Value.int .u8)).toArray w:=by
  have:=run_loadCells_list (P:=P) w ⟨g,o,none⟩ ((s.map fun x=>(x.toNat:Int)).map (Value.int .u8)) fun j v hv=>by simp only [List.map_map,AG,Af] at hv;obtain ⟨x,hx,rfl⟩:=hv;rw [Zr];have:=h3 j x hx;simp [World.cell?,h1,this]
  simpa using this
 rw [run_bytesToString w ⟨g,o,none⟩ s.length c _ hl]
 congr 2
 have: ∀(l:List UInt8) (acc:ByteArray),(l.map fun x=>(x.toNat:Int)).foldl (fun r n=>r.push (UInt8.ofNat n.toNat)) acc=⟨acc.data++l.toArray⟩:=by
  intro l
  induction l with
  | nil=>intro acc;simp
  | cons x l ih=>intro acc;simp only [AU,List.foldl_cons,ih];simp [ByteArray.push]
 rw [this];simp
theorem GC :Zp ρ (.tup []) undef:=.tup [] #[] rfl fun j h1 _=>by simp at h1
theorem Hl {floor:Nat} {st st':St} {t:TypeId} {x k v:BA} (h:Ji P floor st t x k v=some st'):Zf floor st st'/\st'.env=st.env:=by
 unfold Ji at h;split at h
 .obtain ⟨hf,h⟩:=Zu h;have hf:=Ad hf;split at h
  .rename_i hm _;obtain rfl:=Ab h;exact ⟨Zf.write st _ hf hm,rfl⟩
  .rename_i hm _;obtain rfl:=Ab h;exact ⟨Zf.write st _ hf hm,rfl⟩
  .cases h
 .cases h
theorem Wj {t:TypeId} {kd:Bool} (h:Qp P t=some kd): ∃k e,P.underlying t=some (.map k e)/\P.underlying k=some .string /\ ∀w,(zeroValue e).run P w=.ok (bif kd then .int .i64 0 else .bool false) w:=by
 unfold Qp at h;split at h
 .rename_i k e hu;refine ⟨k,e,hu,?_⟩;split at h
  .rename_i i h1 h2 h3;split at h
   .rename_i n hz;obtain ⟨hn,h⟩:=Zu h;obtain rfl:=Ab h;obtain rfl:n=0:=by simpa using hn
    exact ⟨h1,fun w=>by simp [zeroValue,run_typeInfo w h3,hz]⟩
   .cases h
  .rename_i i h1 h2 h3;split at h
   .rename_i b hz;cases b with
    | true=>cases h
    | false=>obtain rfl:=Ab h;exact ⟨h1,fun w=>by simp [zeroValue,run_typeInfo w h3,hz]⟩
   .cases h
  .cases h
 .cases h
theorem Jm {floor:Nat} {st st':St} {t:TypeId} {x k v:BA} (h:Ji P floor st t x k v=some st') {w:World} (aA:BC ρ st.mem st.next w) {ux uk uv:Value} (hx:Zp ρ x ux) (hk:Zp ρ k uk) (hv:Zp ρ v uv):
  ∃w',(Instr.mapUpdate t ux uk uv).run P w=.ok () w'/\BU ρ floor st st' (.tup []) w ρ undef w':=by
 unfold Ji at h;split at h
 .rename_i b ks;obtain ⟨hf,h⟩:=Zu h;have hf:=Ad hf;cases hx with
  | mapr _ l hl=>
  cases hk;split at h
  .rename_i ml ty n hkd hm _;obtain rfl:=Ab h;cases hv;obtain ⟨kt,et,hu,hk,_⟩:=Wj hkd;obtain ⟨_,es,ck,ho,hes,hbr⟩:=aA.objAt hl hm;obtain ⟨es',ck',aB,hes',hbr'⟩:=Uj (P:=P) (fun n:Int=>.int .i64 n) hu hk ho hes hbr ks n;exact ⟨_,aB,GC,aA.setObj hl hm rfl rfl _ ⟨rfl,es',ck',rfl,hes',hbr'⟩,Ev.ofObj aA hl hf _ _⟩
  .rename_i ml ty e hkd hm _;obtain rfl:=Ab h;cases hv;obtain ⟨kt,et,hu,hk,_⟩:=Wj hkd;obtain ⟨_,es,ck,ho,hes,hbr⟩:=aA.objAt hl hm;obtain ⟨es',ck',aB,hes',hbr'⟩:=Uj (P:=P) (fun n:Bool=>.bool n) hu hk ho hes hbr ks e;exact ⟨_,aB,GC,aA.setObj hl hm rfl rfl _ ⟨rfl,es',ck',rfl,hes',hbr'⟩,Ev.ofObj aA hl hf _ _⟩
  .cases h
 .cases h
theorem Zf.kill {floor:Nat} (st:St) {c:Nat} (hf:floor<=c):Zf floor st (st.withMem (Zt st.mem c none)) where
 nxt:=Ah _
 bd h k hk:=by
  show Zb (Zt st.mem c none) k=none;rw [Yc];split
  .rfl
  .exact h k hk
 low _ k hk:=Zx _ _ (by omega)
 ob h:=h
theorem Cm {floor:Nat} {st st':St} {op:Op} {v:BA} {b:Bool} (h:aX P floor st op=some (v,b,st')):Zf floor st st'/\st'.env=st.env:=by
 have same: ∀{v0:BA} {b0:Bool},some (v0,b0,st)=some (v,b,st')->Zf floor st st'/\st'.env=st.env:=fun e=>by simp only [Ac,Aa] at e;obtain ⟨_,_,rfl⟩:=e;exact ⟨Zf.refl _ _,rfl⟩
 have fresh: ∀{v0:BA} {b0:Bool} {cs:List BA} {ty:TypeId},some (v0,b0,Um st cs ty)=some (v,b,st')->Zf floor st st'/\st'.env=st.env:=fun e=>by simp only [Ac,Aa] at e;obtain ⟨_,_,rfl⟩:=e;exact ⟨Zf.new st _ _,rfl⟩
 unfold aX at h;split at h
 .split at h
  .exact fresh h
  .cases h
 .split at h
  .split at h
   .exact same h
   .exact same h
   .cases h
  .cases h
 .simp only [Af,Aa] at h;obtain ⟨st1,h1,_,_,rfl⟩:=h;exact Hl h1
 .simp only [Af,Aa] at h;obtain ⟨st1,h1,_,_,rfl⟩:=h;exact Hl h1
 .split at h
  .exact fresh h
  .split at h
   .exact fresh h
   .cases h
  .cases h
 .split at h
  .obtain ⟨hf,h⟩:=Zu h;split at h
   .rename_i c s pos ty hm;split at h;rename_i e st1 ht;obtain ⟨t1,t2,t3,t4⟩:=Vd ht;simp only [Ac,Aa] at h;obtain ⟨_,_,rfl⟩:=h;have hi:=Zf.same (floor:=floor) t2 t3 fun ho=>(t4 ho).2;cases e with
    | false=>exact ⟨hi,t1⟩
    | true=>exact ⟨hi.trans (Zf.write st1 _ (Ad hf) (by rw [t2];exact hm)),t1⟩
   .cases h
  .cases h
 .split at h
  .split at h
   .split at h
    .obtain ⟨_,h⟩:=Zu h;exact same h
    .cases h
   .cases h
  .cases h
 .split at h
  .split at h
   .split at h
    .split at h
     .split at h
      .obtain ⟨_,h⟩:=Zu h;exact same h
      .cases h
     .cases h
    .cases h
   .cases h
  .cases h
 .obtain ⟨_,h⟩:=Zu h;split at h
  .split at h
   .exact fresh h
   .cases h
  .cases h
 .split at h
  .split at h
   .exact same h
   .cases h
  .cases h
 .split at h
  .obtain ⟨hf,h⟩:=Zu h;simp only [Ag] at hf;split at h
   .rename_i hm _;obtain ⟨_,h⟩:=Zu h;simp only [Ac,Aa] at h;obtain ⟨_,_,rfl⟩:=h;exact ⟨Zf.write st _ (Ad hf.1) hm,rfl⟩
   .cases h
  .cases h
 .split at h
  .split at h
   .split at h
    .exact same h
    .cases h
   .cases h
  .cases h
 .split at h
  .split at h
   .exact same h
   .exact same h
   .cases h
  .cases h
 .split at h
  .obtain ⟨_,h⟩:=Zu h;split at h
   .obtain ⟨_,h⟩:=Zu h;split at h
    .split at h
     .exact same h
     .rename_i c _;obtain ⟨hc,h⟩:=Zu h;simp only [Ag] at hc;simp only [Ac,Aa] at h;obtain ⟨_,_,rfl⟩:=h;have hc1:=Ad hc.1;cases hmc:Zb st.mem c with
      | some ab=>exact ⟨Zf.write st _ hc1 hmc,rfl⟩
      | none=>exact ⟨Zf.kill st hc1,rfl⟩
    .cases h
   .cases h
  .cases h
 .cases h
theorem BC.kept {mem:BI} {next:Nat} {w w':World} (h:BC ρ mem next w) (hs:w.heap.size<=w'.heap.size) {p:Nat->Prop} (hp: ∀b l,ρ b=some l->(Zb mem b).isSome =true->p l.blk) (hz: ∀k o,ρ.fz k=some o->p k)
  (hk: ∀k o,w.heap[k]? =some o->p k->w'.heap[k]? =some o):BC ρ mem next w':=
 ⟨h.dom,h.inj,fun b l ab e hm=>by
  have q:=h.blk b l ab e hm;obtain ⟨o,ho⟩:=q.some;exact q.world (BB.le_refl _) (by rw [ho];exact hk _ _ ho (hp b l e (by rw [hm];rfl))),fun k o e=>hk k o (h.old k o e) (hz k o e),h.sep,fun b l e=>Av (h.real b l e) hs,h.bd,h.ldom⟩
theorem B9.lt {es:Array MapEntry} {ck:Nat} (h:B9 es ck) {e:MapEntry} (he:e∈es.toList):e.born<es.size:=
 At.1 (h.1 ▸ List.mem_map_of_mem (f:=fun e:MapEntry=>e.born) he)
theorem B9.at {es:Array MapEntry} {ck:Nat} (h:B9 es ck) {e:MapEntry} {i:Nat} (he:es.toList[i]? =some e):e.born=i:=by
 have:(es.toList.map (·.born))[i]? =some e.born:=by rw [AG,he];rfl
 have hi:i<es.size:=by rw [<-AC];exact (Au.1 he).1
 rw [h.1,List.getElem?_range hi] at this;exact (Ab this).symm
theorem BC.mitAt {mem:BI} {next:Nat} {w:World} (h:BC ρ mem next w) {b m:Nat} {l:BM} {since last:Nat} {seen:List Nat} {ty ty2 a:TypeId} {ml:List (List UInt8×Bool)} (hb:ρ b=some l)
  (hm:Zb mem b=some ⟨[.obj (.mit since seen last),.mapr m],ty,none⟩) (hm2:Zb mem m=some ⟨[.obj (.mb ml)],ty2,none⟩) (h1:Nat.beq last ml.length=true) (h2:Nat.beq since ml.length=true):
  ∃es:Array MapEntry,(((leftOf es ⟨seen⟩).size =0/\(Instr.next (.pointer (some ⟨l.blk,0,none⟩)) false a).run P w=.ok (.tuple #[.bool false]) w)\/
   ∃e∈(leftOf es ⟨seen⟩).toList,∃w1:World,(w1=w\/w1=w.drew)/\(Instr.next (.pointer (some ⟨l.blk,0,none⟩)) false a).run P w=.ok (.tuple #[.bool true,e.key,e.val]) (w1.putObj l.blk (.mapIter (some ((ρ m).elim 0 BM.blk)) since ((⟨seen⟩:Array Nat).push e.born) last)))/\
   es.size=ml.length/\B9 es last/\es.toList.map (fun e=>(e.key,e.val))=(ml.map fun p=>(.string ⟨p.1.toArray⟩,.bool p.2))/\w.heap[l.blk]? =some (.mapIter (some ((ρ m).elim 0 BM.blk)) since ⟨seen⟩ last)/\ ∃lm,ρ m=some lm:=by
 have h1:=Ae h1;have h2:=Ae h2;subst h1 h2;obtain ⟨m',mb,e1,hv,ho⟩:=h.objAt hb hm;obtain rfl:BA.mapr m=m':=by simpa using e1
 cases hv with
 | mapr _ lm hlm=>
 obtain ⟨_,es,ck,hom,hes,hbr⟩:=h.objAt hlm hm2;have hsz:es.size=ml.length:=by rw [<-AC,<-AT (f:=fun e:MapEntry=>(e.key,e.val)),hes,AT]
 obtain rfl:ck=ml.length:=hbr.2.trans hsz;have k:=run_next_at (P:=P) w a l.blk lm.blk ml.length ml.length ⟨seen⟩ es ml.length ho hom (fun x hx=>by rw [<-hsz];exact hbr.lt hx) (Ah _);rw [hlm];exact ⟨es,k,hsz,hbr,hes,ho,lm,rfl⟩
theorem BC.entAt {mem:BI} {next:Nat} {w:World} (h:BC ρ mem next w) {b m:Nat} {l:BM} {since last i:Nat} {seen:List Nat} {ty ty2:TypeId} {ml:List (List UInt8×Bool)} {p:List UInt8×Bool} (hb:ρ b=some l)
  (hm:Zb mem b=some ⟨[.obj (.mit since seen last),.mapr m],ty,none⟩) (hm2:Zb mem m=some ⟨[.obj (.mb ml)],ty2,none⟩) (h1:Nat.beq last ml.length=true) (hi:seen.getLast? =some i) (hp:ml[i]? =some p):
  ∃e:MapEntry,True/\e.key=.string ⟨p.1.toArray⟩/\e.val=.bool p.2/\(Instr.entry (.pointer (some ⟨l.blk,0,none⟩))).run P w=.ok (.tuple #[.string ⟨p.1.toArray⟩,.bool p.2]) w:=by
 have h1:=Ae h1;subst h1;obtain ⟨m',mb,e1,hv,ho⟩:=h.objAt hb hm;obtain rfl:BA.mapr m=m':=by simpa using e1
 cases hv with
 | mapr _ lm hlm=>
 obtain ⟨_,es,ck,hom,hes,hbr⟩:=h.objAt hlm hm2;have hsz:es.size=ml.length:=by rw [<-AC,<-AT (f:=fun e:MapEntry=>(e.key,e.val)),hes,AT]
 obtain rfl:ck=ml.length:=hbr.2.trans hsz;have hlt:i<es.toList.length:=by rw [AC,hsz];exact (Au.1 hp).1
 have he:es.toList[i]? =some es.toList[i]:=Ai hlt;have hkv:(es.toList[i].key,es.toList[i].val)=((.string ⟨p.1.toArray⟩:Value),(.bool p.2:Value)):=by
  have:(es.toList.map (fun e=>(e.key,e.val)))[i]? =some (es.toList[i].key,es.toList[i].val):=by rw [AG,he];rfl
  rw [hes,AG,hp] at this;exact (Ab this).symm
 simp only [Aa] at hkv;have cB:=hbr.at he;obtain ⟨s0,rfl⟩: ∃s0,seen=s0++[i]:=by rw [List.getLast?_eq_some_iff] at hi;exact hi
 have ho':w.heap[l.blk]? =some (.mapIter (some lm.blk) since ((⟨s0⟩:Array Nat).push es.toList[i].born) ml.length):=by rw [ho,cB];simp
 have k:=run_entry_at (P:=P) w l.blk lm.blk since ⟨s0⟩ es ml.length es.toList[i] ho' hom (Az hlt) (by rw [hbr.1];exact List.nodup_range);rw [hkv.1,hkv.2] at k;exact ⟨es.toList[i],trivial,hkv.1,hkv.2,k⟩
theorem KE (hN:Va P) {o:Oper} {floor:Nat} {st st':St} {v:BA} (h:aX P floor st o.op=some (v,true,st')) (hob:st'.ob=true) {a:Act} (hr:Xk ρ st.eval a.eval o.op) {w:World} (aA:BC ρ st.mem st.next w):
  C8 P o a w (BU ρ floor st st' v w):=by
 obtain ⟨dst,op,type,pos,after,guard⟩:=o;simp only at h hr;unfold aX at h;split at h
 ·-- makeMap
  rename_i t;split at h
  .rename_i kd hkd;simp only [Ac,Aa] at h;obtain ⟨rfl,_,rfl⟩:=h;refine .inl ⟨_,.map (some w.heap.size),_,?_,Vz aA floor _ [] t (.map #[] 0) ?_ fun ρ' hρ'=>.mapr _ _ hρ'⟩
   .have hmk:(Instr.makeMap t none).run P w=.ok (.map (some w.heap.size)) (w.alloc (.map #[] 0)):=rfl;simp [execOp,hmk]
   .cases kd
    .exact ⟨rfl,_,_,rfl,rfl,rfl,rfl⟩
    .exact ⟨rfl,_,_,rfl,rfl,rfl,rfl⟩
  .cases h
 ·-- lookup
  rename_i t x i co;have hx:=hr x (by simp [Op.operands]);have hi:=hr i (by simp [Op.operands]);split at h
  .rename_i b ks ex ei;rw [ex] at hx;rw [ei] at hi;generalize hux:a.eval x=ux at hx;generalize hui:a.eval i=ui at hi;cases hx with
   | mapr _ l hl=>
   cases hi;split at h
   .rename_i ml ty hkd hm;obtain ⟨kt,et,hu,hk,hz⟩:=Wj hkd;simp only [Ac,Aa] at h;obtain ⟨rfl,_,rfl⟩:=h;obtain ⟨_,es,ck,ho,hes,_⟩:=aA.objAt hl hm;have aB:=Uk (P:=P) (fun n:Int=>.int .i64 n) 0 hu hk (hz w) ho hes ks co;refine .inl ⟨ρ,_,w,by simp only [execOp,hux,hui];simp only [Sem.run_bind,aB,Result.andThen];rfl,?_,aA,Ev.refl _ _ _ _ _ aA.dom⟩;cases co
    .exact .int _ _
    .exact .tup _ _ rfl fun j h1 h2=>by
      match j with
      | 0=>exact .int _ _
      | 1=>exact .bool _
      | j+2=>simp at h1;omega
   .rename_i ml ty hkd hm;obtain ⟨kt,et,hu,hk,hz⟩:=Wj hkd;simp only [Ac,Aa] at h;obtain ⟨rfl,_,rfl⟩:=h;obtain ⟨_,es,ck,ho,hes,_⟩:=aA.objAt hl hm;have aB:=Uk (P:=P) (fun n:Bool=>.bool n) false hu hk (hz w) ho hes ks co;refine .inl ⟨ρ,_,w,by simp only [execOp,hux,hui];simp only [Sem.run_bind,aB,Result.andThen];rfl,?_,aA,Ev.refl _ _ _ _ _ aA.dom⟩;cases co
    .exact .bool _
    .exact .tup _ _ rfl fun j h1 h2=>by
      match j with
      | 0=>exact .bool _
      | 1=>exact .bool _
      | j+2=>simp at h1;omega
   .cases h
  .cases h
 ·-- mapUpdate
  rename_i t m k x;simp only [Af,Aa] at h;obtain ⟨st1,h1,rfl,_,rfl⟩:=h;obtain ⟨w',aB,hp⟩:=Jm h1 aA (hr m (by simp [Op.operands])) (hr k (by simp [Op.operands])) (hr x (by simp [Op.operands]));exact .inr (.inl ⟨ρ,w',by simp [execOp,aB],hp⟩)
 ·-- insert
  rename_i t m k x;simp only [Af,Aa] at h;obtain ⟨st1,h1,rfl,_,rfl⟩:=h;obtain ⟨w',aB,hp⟩:=Jm h1 aA (hr m (by simp [Op.operands])) (hr k (by simp [Op.operands])) (hr x (by simp [Op.operands]));exact .inr (.inl ⟨ρ,w',by simp [execOp,aB],hp⟩)
 ·-- range
  rename_i t x;have hx:=hr x (by simp [Op.operands]);split at h
  .rename_i s hu ex;rw [ex] at hx;generalize hux:a.eval x=ux at hx;cases hx;simp only [Ac,Aa] at h;obtain ⟨rfl,_,rfl⟩:=h;refine .inl ⟨_,.pointer (some ⟨w.heap.size,0,none⟩),_,?_,Vz aA floor (.it s 0) [] t (.stringIter ⟨s.toArray⟩ 0) ⟨rfl,rfl⟩ fun ρ' hρ'=>.ptr _ 0 _ hρ'⟩;simp [execOp,hux,Instr.range,run_underlying hu,Result.andThen]
  .rename_i k e b hu ex;rw [ex] at hx;generalize hux:a.eval x=ux at hx;cases hx with
   | mapr _ l hl=>
   split at h
   .rename_i ml ty hm;simp only [Ac,Aa] at h;obtain ⟨rfl,_,rfl⟩:=h;obtain ⟨_,es,ck,ho,hes,hbr⟩:=aA.objAt hl hm;have hsz:ck=ml.length:=by rw [hbr.2,<-AC,<-AT (f:=fun e:MapEntry=>(e.key,e.val)),hes,AT]
    refine .inl ⟨_,.pointer (some ⟨w.heap.size,0,none⟩),_,?_,Vz aA floor (.mit ml.length [] ml.length) [.mapr b] t (.mapIter (some l.blk) ml.length #[] ml.length) ⟨.mapr b,l.blk,rfl,.mapr _ _ hl,rfl⟩ fun ρ' hρ'=>.ptr _ 0 _ hρ'⟩;simp [execOp,hux,Instr.range,run_underlying hu,MapKept.run_getObj_map ho,Result.andThen,hsz]
   .cases h
  .cases h
 ·-- next
  rename_i x;have hx:=hr x (by simp [Op.operands]);split at h
  .rename_i b ex;rw [ex] at hx;generalize hux:a.eval x=ux at hx;obtain ⟨hf,h⟩:=Zu h;have hf:=Ad hf;split at h
   .rename_i s pos ty hm;split at h;rename_i e st1 ht;obtain ⟨t1,t2,t3,t4⟩:=Vd ht;simp only [Ac,Aa] at h;obtain ⟨rfl,_,rfl⟩:=h;cases hx with
    | ptr _ _ l hl=>
    have bA:=aA.objBase hl hm;obtain ⟨_,ho⟩:=aA.objAt hl hm;have hsz:(⟨s.toArray⟩:ByteArray).size =s.length:=(by simp [<-ByteArray.size_data]);rw [bA,AQ] at hux;cases e with
    | true=>
     obtain ⟨hlt,_⟩:=t4 hob;have hlt:=AN hlt.symm;refine .inl ⟨ρ,.tuple #[.bool true,goInt pos,.int .i32 (Utf8.decode ⟨s.toArray⟩ pos).1],w.putObj l.blk (.stringIter ⟨s.toArray⟩ (pos+GY s pos)),?_,?_,?_,?_⟩
     .simp [execOp,hux,Instr.next,HC ho,Hw ho,hsz,hlt,GY,Result.andThen]
     .exact .tup _ _ rfl fun j h1 h2=>by
       match j with
       | 0=>exact .bool _
       | 1=>exact .int _ _
       | 2=>exact .int _ _
       | j+3=>simp at h1;omega
     .show BC ρ (Zt st1.mem b _) st1.next _
      rw [t2,t3];exact aA.setObj hl hm rfl rfl _ ⟨rfl,rfl⟩
     .show Ev ρ ρ floor st.mem st.next (Zt st1.mem b _) st1.next _ _
      rw [t2,t3];exact Ev.ofObj aA hl hf _ _
    | false=>
     obtain ⟨hlt,_⟩:=t4 hob;have hlt: ¬pos<s.length:=of_decide_eq_false hlt.symm;refine .inl ⟨ρ,.tuple #[.bool false],w,?_,?_,?_,?_⟩
     .simp [execOp,hux,Instr.next,HC ho,hsz,hlt,Result.andThen]
     .exact .tup _ _ rfl fun j h1 h2=>by
       match j with
       | 0=>exact .bool _
       | j+1=>simp at h1
     .show BC ρ st1.mem st1.next w
      rw [t2,t3];exact aA
     .show Ev ρ ρ floor st.mem st.next st1.mem st1.next w w
      rw [t2,t3];exact Ev.refl _ _ _ _ _ aA.dom
   .cases h
  .cases h
 ·-- next of a map:all have been seen
  rename_i x;have hx:=hr x (by simp [Op.operands]);split at h
  .rename_i b ex;rw [ex] at hx;generalize hux:a.eval x=ux at hx;split at h
   .rename_i since seen last m ty hm;split at h
    .rename_i ml ty2 hm2;obtain ⟨hc,h⟩:=Zu h;simp only [Ag] at hc;obtain ⟨hc1,hc2,hc3⟩:=hc;simp only [Ac,Aa] at h;obtain ⟨rfl,_,rfl⟩:=h;cases hx with
     | ptr _ _ l hl=>
     have bA:=aA.objBase hl hm;rw [bA,AQ] at hux;obtain ⟨es,aB,hse,hbr,_⟩:=aA.mitAt (P:=P) (a:=type) hl hm hm2 hc1 hc2;rcases aB with ⟨_,aB⟩ | ⟨e,he,_⟩
     .exact .inl ⟨ρ,.tuple #[.bool false],w,by simp only [execOp,hux];simp only [Sem.run_bind,aB,Result.andThen];rfl,.tup _ _ rfl fun j h1 h2=>(by
       match j with
       | 0=>exact .bool _
       | j+1=>simp at h1),aA,Ev.refl _ _ _ _ _ aA.dom⟩
     .exfalso;rw [leftOf,Array.toList_filter,AH] at he;obtain ⟨he1,he2⟩:=he;have hb:=hbr.lt he1;have:=Ao.1 hc3 e.born (At.2 (by rw [<-hse];exact hb));simp at he2 this;exact he2 this
    .cases h
   .cases h
  .cases h
 ·-- entry
  rename_i x;have hx:=hr x (by simp [Op.operands]);split at h
  .rename_i b ex;rw [ex] at hx;generalize hux:a.eval x=ux at hx;split at h
   .rename_i since seen last m ty hm;split at h
    .rename_i ml ty2 hm2;split at h
     .rename_i i hi;split at h
      .rename_i p hp;obtain ⟨hc1,h⟩:=Zu h;simp only [Ac,Aa] at h;obtain ⟨rfl,_,rfl⟩:=h;cases hx with
       | ptr _ _ l hl=>
       have bA:=aA.objBase hl hm;rw [bA,AQ] at hux;obtain ⟨e,he,hk,hv,aB⟩:=aA.entAt (P:=P) hl hm hm2 hc1 hi hp;exact .inl ⟨ρ,.tuple #[.string ⟨p.1.toArray⟩,.bool p.2],w,by simp only [execOp,hux];simp only [Sem.run_bind,aB,Result.andThen];rfl,.tup _ _ rfl fun j h1 h2=>(by
        match j with
        | 0=>exact .str _
        | 1=>exact .bool _
        | j+2=>simp at h1;omega),aA,Ev.refl _ _ _ _ _ aA.dom⟩
      .cases h
     .cases h
    .cases h
   .cases h
  .cases h
 ·-- alloc
  rename_i t;obtain ⟨ht,h⟩:=Zu h;split at h
  .rename_i i hi;split at h
   .rename_i hz;simp only [Ac,Aa] at h;obtain ⟨rfl,_,rfl⟩:=h;have hzr:(zeroValue t).run P w=.ok (.agg #[.pointer none,.slice none 0 0]) w:=(by simp [zeroValue,run_typeInfo w hi,hz]);refine .inl ⟨_,.pointer (some ⟨w.heap.size,0,none⟩),_,?_,Vz aA floor .bld [.nils] t (.cells #[.pointer none,.slice none 0 0] t (0,0)) ⟨.nils,.slice none 0 0,none,rfl,rfl,.nils,.inl rfl⟩ fun ρ' hρ'=>.ptr _ 0 _ hρ'⟩;simp [execOp,Instr.alloc,newVar,newRow,hzr,Value.cells]
   .cases h
  .cases h
 ·-- load
  rename_i t x;have hx:=hr x (by simp [Op.operands]);split at h
  .rename_i b ex;rw [ex] at hx;generalize hux:a.eval x=ux at hx;split at h
   .rename_i buf ty i hm hag hi;simp only [Ac,Aa] at h;obtain ⟨rfl,_,rfl⟩:=h;cases hx with
    | ptr _ _ l hl=>
    have bA:=aA.objBase hl hm;obtain ⟨_,bv,p,e1,ho,hbv,_⟩:=aA.objAt hl hm;obtain rfl:=(List.cons.inj e1).1;rw [bA,AQ] at hux;refine .inl ⟨ρ,bv,w,?_,hbv,aA,Ev.refl _ _ _ _ _ aA.dom⟩;have hc:w.cell? ⟨l.blk,1,none⟩=some bv:=(by simp [World.cell?,ho]);simp [execOp,hux,Instr.loadAt,Instr.sureAddr,loadVar,Wf hag,hc]
   .cases h
  .cases h
 ·-- store
  rename_i t ad x;have hx:=hr ad (by simp [Op.operands]);have hv:=hr x (by simp [Op.operands]);split at h
  .rename_i b ex;rw [ex] at hx;generalize hux:a.eval ad=ux at hx;obtain ⟨hf,h⟩:=Zu h;simp only [Ag] at hf;obtain ⟨hf,hsc⟩:=hf;have hf:=Ad hf;split at h
   .rename_i buf ty i hm hi;obtain ⟨hsz,h⟩:=Zu h;have hsz:=Ae hsz;simp only [Ac,Aa] at h;obtain ⟨rfl,_,rfl⟩:=h;cases hx with
    | ptr _ _ l hl=>
    have bA:=aA.objBase hl hm;obtain ⟨_,bv,p,e1,ho,hbv,hp⟩:=aA.objAt hl hm;rw [bA,AQ] at hux;refine .inr (.inl ⟨ρ,w.putObj l.blk (.cells #[.pointer p,a.eval x] ty (0,0)),?_,GC,aA.setObj (o':=.bld) (r':=[st.eval x]) hl hm rfl rfl _ ⟨_,_,p,rfl,rfl,hv,hp⟩,Ev.ofObj aA hl hf _ _⟩);have aP:=hv.oneCell hsc;have hcs:(a.eval x).cells = #[a.eval x]:=by
     cases hz:a.eval x <;> first | rfl | (rw [hz] at aP;cases aP)
    have aB:=run_storeCells_at P l.blk 1 ty [a.eval x] 0 _ w ho (by simp) (by simpa using aP);rw [J0 ho] at aB;simp_all [execOp,Instr.storeAt,Instr.sureAddr,storeVar,Zj]
   .cases h
  .cases h
 ·-- convert
  rename_i src dst x;have hx:=hr x (by simp [Op.operands]);split at h
  .rename_i e hs hd;split at h
   .rename_i he;split at h
    .rename_i s o hby;simp only [Ac,Aa] at h;obtain ⟨rfl,rfl,rfl⟩:=h;refine .inl ⟨ρ,.string ⟨s.toArray⟩,w,?_,.str _,aA,Ev.refl _ _ _ _ _ aA.dom⟩;rcases Vt aA hby hx with ⟨e1,rfl⟩ | ⟨_,_,g,o,c,_,_,_,_,_,e1,_,_,hat⟩
     .simp only [execOp,e1,run_convert_bytes_string w src dst e none 0 0 hs he hd];simp [run_convert_bytes_string w src dst e none 0 0 hs he hd,Conv.bytesToString];rfl
     .simp [execOp,e1,run_convert_bytes_string w src dst e _ _ _ hs he hd,IN hat]
    .cases h
   .cases h
  .cases h
 ·-- e == nil
  rename_i bop t x y yt;have hx:=hr x (by simp [Op.operands]);split at h
  .rename_i e m ex hu;rw [ex] at hx;generalize hux:a.eval x=ux at hx;have hy:a.eval (.const .nilIface)=.nilIface :=rfl;split at h
   .simp only [Ac,Aa] at h;obtain ⟨rfl,_,rfl⟩:=h;refine .inl ⟨ρ,.bool e,w,?_,.bool _,aA,Ev.refl _ _ _ _ _ aA.dom⟩;cases hx <;> simp [execOp,hux,hy,eqGuard,binOp,run_underlying hu,Gq hu]
   .simp only [Ac,Aa] at h;obtain ⟨rfl,_,rfl⟩:=h;refine .inl ⟨ρ,.bool !e,w,?_,.bool _,aA,Ev.refl _ _ _ _ _ aA.dom⟩;cases hx <;> simp [execOp,hux,hy,eqGuard,binOp,run_underlying hu,Gq hu]
   .cases h
  .cases h
 ·-- String
  rename_i f args argTypes;have hf:=hr f (by simp [Op.operands,Call.operands]);have aE:Yh (Zp ρ) (args.toList.map st.eval) (args.map a.eval).toList :=by rw [AI];exact Yh.maps _ _ _ fun x hx=>hr x (by grind [Op.operands,Call.operands])
  split at h
  .rename_i g b eg ea;rw [eg] at hf;rw [ea] at aE;obtain ⟨hg,h'⟩:=Zu h;clear h;simp only [Ag] at hg;obtain ⟨hg,hbody⟩:=hg;obtain rfl:=Ae hg;obtain ⟨fn,hfn,hb⟩: ∃fn,P.funcs[CK]? =some fn/\fn.body.isSome=true:=by
    cases e:P.funcs[CK]? with
    | none=>rw [e] at hbody;cases hbody
    | some fn=>rw [e] at hbody;exact ⟨fn,rfl,hbody⟩
   generalize hvals:args.map a.eval=vals at aE;obtain ⟨vals⟩:=vals;generalize hw:a.eval f=u at hf;cases hf with
   | fn _ _ cvs hl hh=>
   obtain rfl:cvs= #[]:=Array.eq_empty_of_size_eq_zero (by rw [<-hl];rfl);cases aE with
   | cons h1 h2=>
   cases h2;cases h1 with
   | ptr _ _ l hl'=>
   split at h'
   .rename_i buf ty hm;obtain ⟨hty,h⟩:=Zu h';clear h';obtain rfl:=Ae hty;split at h
    .rename_i s o hby0;have bA:=aA.objBase hl' hm;obtain ⟨_,bv,p,e1,ho,hbv,_⟩:=aA.objAt hl' hm;obtain rfl:=(List.cons.inj e1).1;have hexec:(execOp a.eval ⟨dst,.call ⟨.value f,args,argTypes⟩,type,pos,after,guard⟩).run P w=.ok (.enter CK #[.pointer (some ⟨l.blk,0,none⟩)]) w:=by have aB:=Xo hN hfn hb #[.pointer (some ⟨l.blk,0,none⟩)] w;rw [bA] at hvals;simp [execOp,resolve,hw,Deferred.ofValue,hvals,invoke,aB]
     refine .inr (.inr ⟨CK,_,hexec,?_⟩);have hstr:=fun aC=>hN.2 (by rw [hfn];rfl) l.blk _ bv w s aC ho;split at h
     .rename_i hrf;simp only [Ac,Aa,Ag,An] at h;obtain ⟨rfl,⟨aC,rfl⟩,rfl⟩:=h;have hby:=hby0;have hstr:=hstr aC;rcases Vt aA hby hbv with ⟨k1,k2⟩ | ⟨b',_,_,_,_,_,k1,_⟩
      .refine (hstr (.inl ⟨k1,k2⟩)).mono fun e w' ⟨q1,q2,q3,q4,q5,q6⟩=>⟨ρ,_,q1,.str _,?_,?_⟩
       .exact aA.kept q2 (p:=fun _=>True) (fun _ _ _ _=>trivial) (fun _ _ _=>trivial) fun k o hk _=>q3 k o hk fun g o n c e=>by rw [k1] at e;cases e
       .exact ⟨BB.le_refl _,fun _ _=>rfl,Ah _,fun _ _ _ _ _ h=>h,fun k o hk _=>q3 k o hk fun g o n c e=>(by rw [k1] at e;cases e),fun k m hk e=>(by have:=aA.dom k m e;omega),q2,q4,q5,q6,fun _ _=>rfl⟩
      .rw [hrf] at k1;cases k1
     .rename_i c hrf;obtain ⟨hc,h⟩:=Zu h;simp only [Ag] at hc;obtain ⟨hc1,hc2⟩:=hc;have hc1:=Ad hc1;simp only [Ac,Aa,Ag,An] at h;obtain ⟨rfl,⟨aC,rfl⟩,rfl⟩:=h;have hby:=hby0;have hstr:=hstr aC;rcases Vt aA hby hbv with ⟨k1,k2⟩ | ⟨b',lc,g,o,cc,el,k1,k2,k3,k4,k5,k6,k7,cur,k8,k9,k10⟩
      .have hkill:=aA.kill c;refine (hstr (.inl ⟨k1,k2⟩)).mono fun e w' ⟨q1,q2,q3,q4,q5,q6⟩=>⟨ρ,_,q1,.str _,?_,?_⟩
       .exact hkill.kept q2 (p:=fun _=>True) (fun _ _ _ _=>trivial) (fun _ _ _=>trivial) fun k o hk _=>q3 k o hk fun g o n c e=>by rw [k1] at e;cases e
       .refine ⟨BB.le_refl _,fun _ _=>rfl,Ah _,fun k hk e cs ty hm'=> ?_,fun k o hk _=>q3 k o hk fun g o n c e=>(by rw [k1] at e;cases e),fun k m hk e=>(by have:=aA.dom k m e;omega),q2,q4,q5,q6,fun _ _=>rfl⟩;show Zb (Zt st.mem c none) k=_;rw [Zx]
        .exact hm'
        .intro e';subst e';rw [k1] at hbv;unfold DH at hby;cases hbv <;> first | (cases hrf;done) | skip
         all_goals (have hrf:=Ab hrf;subst hrf;simp [hm'] at hby)
      .rw [hrf] at k1;obtain rfl:=Ab k1;subst k4;obtain ⟨ab,hab⟩:=Option.isSome_iff_exists.1 k3;have hel:=k7 ab hab;have hbt:ab.ty=Cj:=by unfold CL at hc2;rw [hab] at hc2;exact Ae hc2
       rw [hel,hbt] at k8;have hkill:=aA.kill c;have hne: ∀k,lc.blk≠k-> ∀g o n c,bv=.slice (some ⟨g,o,none⟩) n c->g≠k:=fun k hk g o n c e=>by rw [k5] at e;cases e;exact hk
       refine (hstr (.inr ⟨lc.blk,o,cc,cur,k5,k6,k8,k9,k10⟩)).mono fun e w' ⟨q1,q2,q3,q4,q5,q6⟩=>⟨ρ,_,q1,.str _,?_,?_⟩
       .refine hkill.kept q2 (p:=fun k=>lc.blk≠k) (fun b2 l2 e2 hs2 heq=> ?_) (fun k o hk heq=> ?_) fun k o hk hp=>q3 k o hk (hne k hp)
        .by_cases hbc:b2=c
         .rw [hbc,Zq] at hs2;cases hs2
         .rw [Zx _ _ hbc] at hs2;exact hbc (aA.inj b2 c l2 lc e2 k2 heq.symm hs2 k3)
        .have:=aA.sep c lc k2 k3;rw [heq,hk] at this;cases this
       .refine ⟨BB.le_refl _,fun _ _=>rfl,Ah _,fun k hk e cs ty hm'=> ?_,fun k o hk hfr=>q3 k o hk (hne k (hfr c lc k2 hc1)),fun k m hk e=>(by have:=aA.dom k m e;omega),q2,q4,q5,q6,fun _ _=>rfl⟩;show Zb (Zt st.mem c none) k=_;rw [Zx]
        .exact hm'
        .intro e';rw [e',k2] at e;cases e
    .cases h
   .cases h'
  .cases h
 .cases h
structure GN (P:Program) (ops:Array Oper) (cx:BK) (o:Oper) (st st':St):Prop where
 inv:Zf cx.floor st st'
 slot: ∀d,o.dst=some d->d<cx.n
 other:st'.ob=true-> ∀t,o.dst≠some t->st'.tmp t=st.tmp t
 does:st'.ob=true-> ∀(ρ:BB) (a:Act) (w:World),a.tmps.size=cx.n->(∀d,Yi ops o=some d->Zp ρ (st.tmp d) (a.tmps.getD d undef))->Xk ρ st.eval a.eval o.op->BC ρ st.mem st.next w->
  ∀(K:Act->World->Prop) (Q:Exit->Act->World->Prop),(∀ρ' u w',(∀d,o.dst=some d->Zp ρ' (st'.tmp d) u)->BC ρ' st'.mem st'.next w'->Ev ρ ρ' cx.floor st.mem st.next st'.mem st'.next w w'->K (a.put o.dst u) w')->
   if Region.wanted o (yielded ops a.tmps) then o.wp P a w K Q else K (a.put o.dst undef) w
theorem GM.two {S:BD} {ops:Array Oper} {cx:BK} {x:Bool×Oper} {st st':St} (s:GM S P ops cx x st st'):GN P ops cx x.2 st st':=
 ⟨s.inv,s.slot,s.other,fun ho ρ a w h1 h2 h3 h4 K Q hK=>s.does ho ρ a w st.eval h1 (fun _ _=>rfl) h2 h3 h4 K Q fun ρ' u w' q1 q2 q3 _=>hK ρ' u w' q1 q2 q3⟩
theorem IP (hN:Va P) {ops:Array Oper} {cx:BK} {o:Oper} {st st1 st2 st3 st':St} {v:BA} {b:Bool} (hw:Wy ops o cx st=some (true,st1)) (hx:aX P cx.floor st1 o.op=some (v,b,st2)) (how:st2.owe cx b=some st3) (hp:st3.put cx o.dst v=some st'):GN P ops cx o st st':=by
 obtain ⟨w1,w2,w3⟩:=Yz hw;obtain ⟨bN,aD⟩:=Cm hx;obtain ⟨e1,e2,e3,e4⟩:=Zs how;obtain ⟨p1,p2,p3,p4⟩:=Yx hp;have bH: ∀d,o.dst=some d->st'.tmp d=v:=fun d hd=>by
  rcases p4 with ⟨e,_⟩ | ⟨d',e,_,he⟩
  .rw [hd] at e;cases e
  .rw [hd] at e;obtain rfl:=Ab e;show T.get .undef st'.env d=v;rw [he,T.get_set,Ap rfl]
 have hi1:Zf cx.floor st st1:=Zf.same w1 w2 fun ho=>(w3 ho).1;have hi2:Zf cx.floor st2 st':=Zf.same (p1.trans e2) (p2.trans e3) fun ho=>(e4 (by rw [<-p3];exact ho)).2;have hob:st'.ob=true->b=true/\st2.ob=true/\st1.ob=true:=fun ho=>by obtain ⟨h1,h2⟩:=e4 (by rw [<-p3];exact ho);exact ⟨h1,h2,bN.ob h2⟩
 refine ⟨(hi1.trans bN).trans hi2,fun d hd=> ?_,fun ho t ht=> ?_,fun ho ρ a w hsz hgr hr aA K Q hK=> ?_⟩
 .rcases p4 with ⟨e,_⟩ | ⟨d',e,hlt,_⟩
  .rw [hd] at e;cases e
  .rw [hd] at e;obtain rfl:=Ab e;exact hlt
 .obtain ⟨_,_,ho1⟩:=hob ho;rw [<-(w3 ho1).2 t];show T.get .undef st'.env t=T.get .undef st1.env t;rcases p4 with ⟨_,he⟩ | ⟨d',e,_,he⟩
  .rw [he,e1,aD]
  .rw [he,T.get_set,Aj (fun h=>ht (by rw [e,h])),e1,aD]
 .obtain ⟨rfl,ho2,ho1⟩:=hob ho;have aS:=(w3 ho1).2;have bK: ∀y,st1.eval y=st.eval y:=fun y=>by cases y <;> first | rfl | exact aS _
  rw [Ye hw ho1 hsz hgr,Ap rfl];have hr':Xk ρ st1.eval a.eval o.op:=fun y hy=>by rw [bK y];exact hr y hy
  refine (KE hN hx ho2 hr' (by rw [w1,w2];exact aA)).wp fun ρ' u w' bB=> ?_;have he:=bB.ev;rw [w1,w2] at he;refine hK ρ' u w' (fun d hd=>by rw [bH d hd];exact bB.val) (by rw [p1,p2,e2,e3];exact bB.rel) (by rw [p1,p2,e2,e3];exact he)
end
section
variable {P:Program}
theorem Ia {S:BD} {Rc:BF} (hN:Va P) (hS:Ys P S) (hCI:Bb Rc) (hC:Bp P Rc) {fl:Nat} {cx:BK} {ops:Array Oper} {i:Nat} {o:Oper} {l:List Oper} {todo:List Item} {rnd:Option Nat} {rs:List ResultVar} {st:St} {cs:List BR} {lps:BL} {C':BJ}
  (hfl:Fl fl ⟨cx,some (ops,i,o::l),todo,rnd,rs,st,cs,lps⟩) (h:Fv P S Rc cx ops i o l todo rnd rs st cs lps=some C'):B0 P fl ⟨cx,some (ops,i,o::l),todo,rnd,rs,st,cs,lps⟩ C':=by
 have plain2: ∀st2,GN P ops cx o st st2->B0 P fl ⟨cx,some (ops,i,o::l),todo,rnd,rs,st,cs,lps⟩ ⟨cx,some (ops,i+1,l),todo,rnd,rs,st2,cs,lps⟩:=by
  intro st2 s1;have e:=hfl.cx;simp only at e;refine ⟨⟨e,hfl.cs,Ay hfl.le s1.inv.nxt⟩,by rw [<-e];exact s1.inv,fun ho m0 n0 ρ0 w0 ρ b a k css w ma mb hs he cs0=> ?_⟩;obtain ⟨aD,hdf,htd,⟨hro,aV⟩,aL⟩:=hs.top;simp only at aD hdf htd hro aL;obtain ⟨bV,hl',cC⟩:=Fb hro;have key:=s1.does ho ρ a w aD.size (fun d _=>aD.get d) (fun y _=>aD.eval y) hs.rel
   (fun a' w'=> ∃ρ',a'.defers=a.defers/\Yv ρ' st2.env cx.n a'.tmps/\BC ρ' st2.mem st2.next w'/\Ev ρ ρ' cx.floor st.mem st.next st2.mem st2.next w w') (fun e _ _=>e=.normal) (fun ρ' u w' aU aT hev=>by
    refine ⟨ρ',Act.put_defers' _ _ _,?_,aT,hev⟩;cases hdst:o.dst with
    | none=>exact ((aD.mono hev.ext).congr fun t=>s1.other ho t (by grind))
    | some d=>
     refine ((aD.mono hev.ext).put (aU d hdst) (.inr ⟨d,rfl,s1.slot d hdst,rfl⟩)).congr fun t=> ?_;rw [T.get_set];split
     .rename_i e;subst e;rfl
     .rename_i e;exact s1.other ho t (by grind))
  obtain ⟨a',w',⟨ρ',hd',he',hr',hev⟩,aN⟩:=Ke (b:=b) (k:=k) (cs:=css++cs0) (rest:=(List.range ops.size).drop (i+1)) (fun e a w h=>h) bV (Xc aV bV) key;refine ⟨ρ',b,a',k,css,w',ma,mb,by rw [Yk,cC];exact aN,⟨⟨he',by grind,htd.mono fun _ _=>B3.mono hev.ext,⟨hl',aV⟩,?_⟩,hs.lv,hs.rest.ev hev,hr'⟩,he.trans (by grind),rfl,hev.size⟩;exact ((⟨aD,hdf,htd,⟨hro,aV⟩,aL⟩:Bd ρ cx (some (ops,i,o::l)) todo rnd st.env b a k ma).mono hev.ext).rnd
 have hcx:cx.floor<=st.next:=by have:=hfl.le;have e:=hfl.cx;grind
 have plain: ∀st2,Bv P S Rc ops cx (false,o) st=some st2->B0 P fl ⟨cx,some (ops,i,o::l),todo,rnd,rs,st,cs,lps⟩ ⟨cx,some (ops,i+1,l),todo,rnd,rs,st2,cs,lps⟩:=fun st2 h1=>plain2 st2 (Hd hN hS hCI hC hcx h1).two;unfold Fv at h;split at h
 .rename_i st1 hw;split at h
  ·-- an operation that only such a region has
   rename_i v b st2 hx;split at h
   .rename_i st3 how;split at h
    .rename_i st4 hp;obtain rfl:=Ab h;exact plain2 st4 (IP hN hw hx how hp)
    .cases h
   .cases h
  rename_i hx;split at h
  ·-- a function is entered
   rename_i g args aY;obtain ⟨w1,w2,w3⟩:=Un (ρ:=⟨fun _=>none,fun _=>none,fun _=>none⟩) hw;have hCeq: ∃fn body,P.funcs[g]? =some fn/\fn.body=some body/\C'=⟨⟨Nat.max fn.ntmps args.length,cx.floor,cx.sym⟩,none,[.code body],none,fn.results.toList,st1.withEnv (Qn args 0 .leaf),⟨cx,some (ops,i,o::l),todo,rnd,rs,st1.env⟩::cs,lps⟩:=by
    grind [Cx]
   obtain ⟨fn,body,hfn,hb,hCe⟩:=hCeq;have hmem:C'.st.mem=st.mem:=by rw [hCe];exact w1
   have hnext:C'.st.next=st.next:=by rw [hCe];exact w2
   refine ⟨by rw [hCe];exact hfl.enter (Nat.le_of_eq w2.symm),Zf.same hmem hnext fun ho=>(w3 (by rw [hCe] at ho;exact ho)).1,fun ho m0 n0 ρ0 w0 ρ b a k css w ma mb hs he cs0=> ?_⟩;have ho1:st1.ob=true:=by rw [hCe] at ho;exact ho
   obtain ⟨aD,hdf,htd,⟨hro,aV⟩,aL⟩:=hs.top;simp only at aD hdf htd hro aL;obtain ⟨bV,hl',cC⟩:=Fb hro;obtain ⟨_,_,w3'⟩:=Un (ρ:=ρ) hw;obtain ⟨bW,hwt⟩:=(w3' ho1).2 aD;have hexec: ∃vals,(execOp a.eval o).run P w=.ok (.enter g vals) w/\Yh (Zp ρ) args vals.toList:=by
    obtain ⟨dst,op,type,pos,after,guard⟩:=o;simp only at aY ⊢;unfold callee at aY;split at aY
    .rename_i f cargs argTypes;split at aY
     .rename_i g' caps hg;split at aY
      .cases aY
      .simp only [Ac,Sum.inl.injEq,Aa] at aY;obtain ⟨rfl,rfl⟩:=aY;have hf:=bW.eval f;rw [hg] at hf;generalize hw':a.eval f=u at hf;cases hf with
       | fn _ _ cvs hl hh=>
        have:=Xo hN hfn (by rw [hb];rfl) (cargs.map a.eval++cvs) w
        grind [execOp,resolve,Deferred.ofValue,invoke,Yh.append,Qt,Yh.of]
     .rename_i g' first hg
      split at aY
      .cases aY
      .simp only [Ac,Sum.inl.injEq,Aa] at aY;obtain ⟨rfl,rfl⟩:=aY;have hf:=bW.eval f;rw [hg] at hf;generalize hw':a.eval f=u at hf;cases hf with
       | fnb _ _ cvs hl hh=>
        have:=Xo hN hfn (by rw [hb];rfl) (cvs++cargs.map a.eval) w
        grind [execOp,resolve,Deferred.ofValue,invoke,Yh.append,Yh.of,Qt]
     all_goals grind
    .cases aY
   obtain ⟨vals,hex,aE⟩:=hexec;have bE:=Ic (b:=b) (k:=k) (cs:=css++cs0) (rest:=(List.range ops.size).drop (i+1)) bV (Xc aV bV) hwt hex;obtain ⟨_,_,_,_,_,b',a',k',hen,hsr⟩:=H4 h (⟨bW,hdf,htd,⟨hro,aV⟩,aL⟩) hs.lv hs.rest (by rw [w1,w2];exact hs.rel) aE;refine ⟨ρ,b',a',k',_,w,_,_,.one ?_,hsr,by grind,by cases css <;> rfl,Ah _⟩
   grind [Yk]
  ·-- a round is entered
   rename_i j args aY;obtain ⟨w1,w2,w3⟩:=Un (ρ:=⟨fun _=>none,fun _=>none,fun _=>none⟩) hw;unfold Ho at h;split at h
   .rename_i lst lpend ln lenv lparams lassign lbody hlg;split at h
    .rename_i env' hsa;obtain rfl:=Ab h;refine ⟨hfl.enter (Nat.le_of_eq w2.symm),Zf.same w1 w2 fun ho=>(w3 ho).1,fun ho m0 n0 ρ0 w0 ρ b a k css w ma mb hs he cs0=> ?_⟩;have ho1:st1.ob=true:=ho;obtain ⟨aD,hdf,htd,⟨hro,aV⟩,aL⟩:=hs.top;simp only at aD hdf htd hro aL;obtain ⟨bV,hl',cC⟩:=Fb hro;obtain ⟨_,_,w3'⟩:=Un (ρ:=ρ) hw;obtain ⟨bW,hwt⟩:=(w3' ho1).2 aD;obtain ⟨lr,hlp,hlow,hsp,ltmps,lfn,ld,bZ,bJ⟩:=hs.rest.loops j _ hlg;simp only at bZ bJ;have hexec: ∃vals:Array Value,Yh (Zp ρ) args vals.toList/\(execOp a.eval o).run P w=.ok (.round lr lfn ((lparams.toArray.zip vals).foldl (fun tmps (t,x)=>tmps.setIfInBounds t x) ltmps) lassign lbody) w:=by
      obtain ⟨dst,op,type,pos,after,guard⟩:=o;simp only at aY ⊢;unfold callee at aY;split at aY
      .rename_i f cargs argTypes;split at aY
       .grind
       .grind
       .rename_i j' hg;simp only [Ac,Sum.inr.injEq,Aa] at aY;obtain ⟨rfl,rfl⟩:=aY;have hf:=bW.eval f;rw [hg] at hf;generalize hw':a.eval f=u at hf;cases hf with
        | yld _ l' hl'=>rw [hlp] at hl';obtain rfl:=Ab hl';have hca:=Qt bW cargs;obtain ⟨aC,_⟩:=Wr hsa bJ hca;refine ⟨cargs.map a.eval,hca,?_⟩;simp_all [run_yield,execOp,resolve,Deferred.ofValue,invoke]
       .cases aY
      .cases aY
     obtain ⟨vals,aE,hex⟩:=hexec;obtain ⟨_,henv'⟩:=Wr hsa bJ aE;have bE:=Id (b:=b) (k:=k) (cs:=css++cs0) (rest:=(List.range ops.size).drop (i+1)) bV (Xc aV bV) hwt hex;refine ⟨ρ,⟨lfn, #[],[],[],.run,.normal,some lr⟩,{tmps:=(lparams.toArray.zip vals).foldl (fun tmps (t,x)=>tmps.setIfInBounds t x) ltmps,defers:=[]},[.code lassign,.beginRound,.code lbody],b.atR a (Yk (some (ops,i,o::l)) k)::css,w,[],ma++mb,.one ?_,⟨⟨?_,rfl,.cons (.same _ rfl) (.cons (.same _ rfl) (.cons (.same _ rfl) .nil)),trivial,⟨rfl,lr,hlp,rfl⟩⟩,fun _=>⟨rfl,fun h0=>by cases h0⟩,?_,by rw [show (st1.withEnv env').mem =st.mem from w1,show (st1.withEnv env').next =st.next from w2];exact hs.rel⟩,by rw [show (st1.withEnv env').mem =st.mem from w1,show (st1.withEnv env').next =st.next from w2];exact he,by cases css <;> rfl,Ah _⟩
     .simp only [Yk,cC];exact bE
     .have:(lparams.toArray.zip vals).foldl (fun tmps (t,x)=>tmps.setIfInBounds t x) ltmps=(lparams.zip vals.toList).foldl (fun t p=>t.setIfInBounds p.1 p.2) ltmps:=by rw [<-Array.foldl_toList];simp
      simp only [this];exact henv'
     .exact ⟨.cons ⟨bW,hdf,htd,⟨hro,aV⟩,aL⟩ hs.lv hs.rest.cs,hs.rest.nodup,hs.rest.marks,hs.rest.loops,hs.rest.inj⟩
    .cases h
   .cases h
  clear plain2
  grind [Bv]
 all_goals (clear plain2;grind [Bv])
end
section
variable {P:Program}
theorem H0 {ops:Array Oper} {z:Nat}: ∀{l:List Nat},By ops l=some z->Qr z ops=true
 | [],h=>by cases h
 | x::l,h=>by
  unfold By at h;rcases Yd h with ⟨h1,h⟩ | ⟨_,h⟩
  .obtain rfl:=Ab h;exact h1
  .exact H0 h
theorem I3 {ops:Array Oper} {z:Nat} (h:GS ops=some z):Qr z ops=true/\Vv ops=true:=by unfold GS at h;obtain ⟨hn,h⟩:=Zu h;exact ⟨H0 h,hn⟩
theorem BV.item {ρ:BB} {x:Item} {t k:List Item} (hx:Xs x=true) (h:BV ρ (x::t) k): ∃k',k=x::k'/\BV ρ t k':=by
 cases h with
 | cons h ht=>
  cases h with
  | same _ _=>grind
  | inR j l e=>cases hx
  | endR j l e=>cases hx
theorem Qg {fl:Nat} {cx:BK} {todo:List Item} {rnd:Option Nat} {rs:List ResultVar} {st:St} {cs:List BR} {lps:BL} {jump:Option Code} {C':BJ} (hfl:Fl fl ⟨cx,none,todo,rnd,rs,st,cs,lps⟩)
  (h:DL P rnd rs st cs lps jump=some C') (hj:(todo=[]/\jump=none)\/(∃t,todo=.code .ret ::t/\jump=some .ret)\/(∃id t,todo=.code (.exit id)::t/\exitTo id t=none/\jump=some (.exit id)/\rnd.isSome=true)):
  B0 P fl ⟨cx,none,todo,rnd,rs,st,cs,lps⟩ C':=by
 unfold DL at h;split at h
 .split at h
  .rename_i vs hvs;obtain ⟨hfl',hm,hn,hob,hne,key⟩:=Fa (P:=P) (base:=0) h hfl.cs hfl.le;refine ⟨hfl',Zf.same hm hn fun ho=>by grind,fun ho m0 n0 ρ0 w0 ρ b a k css w ma mb hs he cs0=> ?_⟩;obtain ⟨_,_,_,_,_,key⟩:=Fa (P:=P) (base:=w0.heap.size) h hfl.cs hfl.le;have htd:todo=[]\/ ∃t,todo=.code .ret ::t:=by
    grind
   obtain ⟨w',aN,aD,aA,hev,aR,hsz⟩:=Qo hs rfl rfl htd rfl he (css++cs0);obtain ⟨hk,hfn⟩:=hs.lv hne;obtain ⟨fn,hfn,hrs⟩:=hfn rfl;simp only at hrs hfn;obtain ⟨u,hu,hres⟩:=Wt (fn:=fn) aD aA (by rw [hrs];exact hvs);obtain ⟨c,css',b',a',k',ma',mb',rfl,hfin,hsr,hbot⟩:=key ρ css w' mb u hu aR aA;refine ⟨ρ,b',a',k',css',w',ma',mb',aN.trans (.one ?_),hsr,by grind,by rw [hbot];rfl,hsz⟩;rw [<-hfin];exact step_leave_returned (fr:={b.atR {a with defers:=[]} k with mode:=.returning}) ⟨rfl,rfl,hk,fn,hfn,hres⟩
  .cases h
 .rename_i j;split at h
  .rename_i lst lpend ln lenv lparams lassign lbody hlg;obtain ⟨hfl',hm,hn,hob,hne,_⟩:=Fa (P:=P) (base:=0) h hfl.cs hfl.le;refine ⟨hfl',Zf.same hm hn fun ho=>by grind,fun ho m0 n0 ρ0 w0 ρ b a k css w ma mb hs he cs0=> ?_⟩;obtain ⟨_,_,_,_,_,key⟩:=Fa (P:=P) (base:=w0.heap.size) h hfl.cs hfl.le;obtain ⟨rfl,lr0,hlp0,hro⟩:=hs.top.rnd;obtain ⟨lr,hla⟩:=hs.rest.loops j _ hlg;have hla':=hla;obtain ⟨hlp,hlow,hsp,ltmps,lfn,ld,bZ,bJ⟩:=hla;rw [hlp] at hlp0;obtain rfl:=Ab hlp0;have aB:=run_endRound (P:=P) jump bZ;have hlst:(if jump.isNone then LoopState.ready else LoopState.done)=DK jump:=by cases jump <;> rfl
   rw [hlst] at aB;have aR:=hs.rest.record (w':=w.putObj lr (.loop ⟨DK jump,jump,lfn,ltmps,lparams.toArray,lassign,lbody,ld⟩)) hlg hla' (L':=⟨DK jump,jump,ln,lenv,lparams,lassign,lbody⟩)
    ⟨hlp,hlow,hsp.turned (Yj.put _ _ _),ltmps,lfn,ld,World.putObj_heap_same hsp.1,bJ⟩ (Yj.put _ _ _)
   obtain ⟨c,css',b',a',k',ma',mb',rfl,hfin,hsr,hbot⟩:=key ρ css _ mb (.bool jump.isNone) (.bool _) aR (hs.rel.turned (fun r hr=>by grind) (Yj.put _ _ _));have hev:=he.turned (m:=[lr]) (fun r hr=>by grind) (Yj.put w lr (.loop ⟨DK jump,jump,lfn,ltmps,lparams.toArray,lassign,lbody,ld⟩));refine ⟨ρ,b',a',k',css',_,ma',mb',.one ?_,hsr,by grind,by rw [hbot];rfl,Nat.le_of_eq (Yj.put _ _ _).size.symm⟩;obtain ⟨hk,_⟩:=hs.lv hne;rw [<-hfin];have htd:=hs.top.todo;rcases hj with ⟨rfl,rfl⟩ | ⟨t,rfl,rfl⟩ | ⟨id,t,rfl,hx,rfl,_⟩
   .cases htd;exact stepR_round_end hro hk aB
   .obtain ⟨k',rfl,_⟩:=htd.code;exact stepR_round_ret hro hk aB
   .obtain ⟨k',rfl,ht⟩:=htd.code;exact stepR_round_exit hro hk ((ht.exit id).2 hx) aB
  .cases h
theorem HX {S:BD} {Rc:BF} (hN:Va P) (hmx:P.follows .mixedOrders =true) (hS:Ys P S) (hCI:Bb Rc) (hC:Bp P Rc) {fl:Nat} {C C':BJ} (hfl:Fl fl C) (h:Cu P S Rc C=some C'):B0 P fl C C':=by
 unfold Cu at h;split at h
 ·-- a region's end
  rename_i ops i todo rnd rs st cs lps;obtain rfl:=Ab h;refine ⟨⟨hfl.cx,hfl.cs,hfl.le⟩,Zf.refl _ _,fun ho m0 n0 ρ0 w0 ρ b a k css w ma mb hs he cs0=> ?_⟩;obtain ⟨aD,hdf,htd,⟨hro,aV⟩,aL⟩:=hs.top;refine ⟨ρ,b,a,k,css,w,ma,mb,.one ?_,⟨⟨aD,hdf,htd,trivial,aL⟩,hs.lv,hs.rest,hs.rel⟩,he,rfl,Ah _⟩;have hge:ops.size<=i:=by simp_all
  have:(List.range ops.size).drop i=[]:=List.drop_eq_nil_of_le (by grind)
  grind [Yk,stepR_region_end]
 .exact Ia hN hS hCI hC hfl h
 .rename_i cx todo rnd rs st cs lps;split at h
  .grind [Qg]
  .grind [Qg]
  .obtain rfl:=Ab h;exact B0.move hfl fun ρ k hk=>by obtain ⟨k',rfl,ht⟩:=hk.code;grind [stepR_skip]
  .obtain rfl:=Ab h;exact B0.move hfl fun ρ k hk=>by obtain ⟨k',rfl,ht⟩:=hk.code;grind [stepR_label]
  .obtain rfl:=Ab h;exact B0.move hfl fun ρ k hk=>by obtain ⟨k',rfl,ht⟩:=BV.item rfl hk;grind [stepR_inBlock]
  .obtain rfl:=Ab h;exact B0.move hfl fun ρ k hk=>by obtain ⟨k',rfl,ht⟩:=BV.item rfl hk;exact ⟨k',ht,fun b a css w=>step_lone_go (by simp [stepG,stepG.exec,Frame.atR])⟩
  .obtain rfl:=Ab h;exact B0.move hfl fun ρ k hk=>by obtain ⟨k',rfl,ht⟩:=hk.code;exact ⟨_,.cons (.same _ rfl) (.cons (.same _ rfl) ht),fun b a css w=>stepR_seq⟩
  ·-- a test
   rename_i c x y k0;split at h
   .rename_i v hv;split at h;rename_i e st1 ht;obtain rfl:=Ab h;obtain ⟨t1,t2,t3,t4⟩:=Vd ht;refine ⟨⟨hfl.cx,hfl.cs,by have:=hfl.le;grind⟩,Zf.same t2 t3 fun ho=>(t4 ho).2,fun ho m0 n0 ρ0 w0 ρ b a k css w ma mb hs he cs0=> ?_⟩;obtain ⟨rfl,_⟩:=t4 ho;obtain ⟨aD,hdf,htd,hro,aL⟩:=hs.top;obtain ⟨k',rfl,htl⟩:=htd.code;have hc:=aD.eval c;rw [hv] at hc;have hev:a.eval c=.bool e:=by generalize a.eval c=u at hc;cases hc;rfl
    refine ⟨ρ,b,a,_,css,w,ma,mb,.one (stepR_cond hev),⟨⟨by grind,hdf,.cons ?_ htl,trivial,aL⟩,hs.lv,hs.rest,by rw [t2,t3];exact hs.rel⟩,by grind,rfl,Ah _⟩;cases e <;> exact .same _ rfl
   .cases h
  .obtain rfl:=Ab h;exact B0.move hfl fun ρ k hk=>by obtain ⟨k',rfl,ht⟩:=hk.code;exact ⟨_,.cons (.same _ rfl) (.cons (.same _ rfl) ht),fun b a css w=>stepR_block⟩
  .obtain rfl:=Ab h;exact B0.move hfl fun ρ k hk=>by obtain ⟨k',rfl,ht⟩:=hk.code;exact ⟨_,.cons (.same _ rfl) (.cons (.same _ rfl) ht),fun b a css w=>step_lone_go (by simp [stepG,stepG.exec,Frame.atR])⟩
  .obtain rfl:=Ab h;exact B0.move hfl fun ρ k hk=>by obtain ⟨k',rfl,ht⟩:=hk.code;exact ⟨_,.cons (.same _ rfl) (.cons (.same _ rfl) ht),fun b a css w=>stepR_loop⟩
  .obtain rfl:=Ab h;exact B0.move hfl fun ρ k hk=>by obtain ⟨k',rfl,ht⟩:=BV.item rfl hk;exact ⟨_,.cons (.same _ rfl) (.cons (.same _ rfl) ht),fun b a css w=>stepR_inLoop⟩
  ·-- an exit
   rename_i id k0;split at h
   .rename_i k1 hx;obtain rfl:=Ab h;exact B0.move hfl fun ρ k hk=>by
     obtain ⟨k',rfl,ht⟩:=hk.code;obtain ⟨r',h1,h2⟩:=(ht.exit id).1 _ hx
     grind [stepR_exit]
   grind [Qg]
  ·-- a region in the order of the text
   rename_i id ops k0;obtain ⟨aV,h⟩:=Zu h;obtain rfl:=Ab h;refine ⟨⟨hfl.cx,hfl.cs,hfl.le⟩,Zf.refl _ _,fun ho m0 n0 ρ0 w0 ρ b a k css w ma mb hs he cs0=> ?_⟩;obtain ⟨aD,hdf,htd,hro,aL⟩:=hs.top;obtain ⟨k',rfl,htl⟩:=htd.code;exact ⟨ρ,b,a,k',css,w,ma,mb,.one stepR_region,⟨⟨aD,hdf,htl,⟨rfl,aV⟩,aL⟩,hs.lv,hs.rest,hs.rel⟩,he,rfl,Ah _⟩
  ·-- a region that draws its order
   rename_i id ops k0;split at h
   ·-- it hands out a round
    rename_i m hty;split at h
    .rename_i st1 hop;obtain rfl:=Ab h;obtain ⟨hm,aV,aW,hfor,hgd⟩:=If hty;have hm':=Nat.le_of_lt hm;have hi:=Qx hCI _ _ _ _ hop;have e:=hfl.cx;simp only at e;have hcx:cx.floor<=st.next:=by have:=hfl.le;grind
     refine ⟨⟨e,hfl.cs,Ay hfl.le hi.nxt⟩,by grind,fun ho m0 n0 ρ0 w0 ρ b a k css w ma mb hs he cs0=> ?_⟩;obtain ⟨aD,hdf,htd,hro,aL⟩:=hs.top;obtain ⟨k',rfl,htl⟩:=htd.code;have hw:=Jz hN hS hCI hC hcx aW hop ho hdf aD (hs.rel.drawn (w.drawn+1));have hw2:=wpAny_sound (Yw ops m).size (w.tape w.drawn (.order b.fn id)) _ a _ hw;rw [HK _ hm',HY hm'] at hw2;have back: ∀(j:Nat) x,ops[j]? =some x-> ∃y,(Yw ops m)[j]? =some y/\y.after=x.after:=fun j x hx=>by
      grind [Jb]
     have bO: ∀(j:Nat) x,ops[j]? =some x-> ∀e∈x.after.toList,Region.binds .any e=true->e.on<j:=fun j x hx e he hb=>by obtain ⟨y,hy,hya⟩:=back j x hx;exact (Ue aW).ord j y hy e (by grind) hb
     have hcl0: ∀S,Ja ops S->Ja (Yw ops m) S:=fun S hc j y hy hS e he hb=>by
      have hsa:=Jb hm' j;rw [hy] at hsa;cases hsx:ops[j]? with
      | none=>grind
      | some x=>rw [hsx] at hsa;simp only [Option.map_some,Ac] at hsa;exact hc j x hsx hS e (by grind) hb
     have hfor': ∀j x,m<=j->ops[j]? =some x-> ∀i,i<j->Kq ops i x:=fun j x hj hx i hij S hc hr=>by obtain ⟨y,hy,hya⟩:=back j x hx;exact hfor j y hj hy i hij S (hcl0 S hc) fun e he hb=>hr e (by grind) hb
     have bG: ∀i,(Array.replicate ops.size false).getD i false=false:=fun i=>by by_cases hi:i<ops.size <;> simp [hi]
     obtain ⟨l,hl,hlm⟩:=KI bO hm hfor' ops.size (w.tape w.drawn (.order b.fn id)) (Array.replicate ops.size false) (by simp) (fun j x hx hS=>by grind) (by
      simp_all) (fun q _=>bG q)
     rw [hl] at hw2;obtain ⟨a',w',⟨_,hd',ρ',q1,q2,q3⟩,aN⟩:=He (b:=b) (k:=k') (cs:=css++cs0) (fun e a w hq=>hq.1) hm' aV hgd (r:=(List.range ops.size).drop m) (fun i hi=>by
      obtain ⟨n,hn,rfl⟩:=AP hi;simp) l a _ hlm hw2
     have hev:=q3.drawn;refine ⟨ρ',b,a',k',css,w',ma,mb,.head stepR_region_draw ?_,⟨⟨q1,hd',htl.mono fun _ _=>B3.mono hev.ext,⟨rfl,aV⟩,?_⟩,hs.lv,hs.rest.ev hev,q2⟩,he.trans (by grind),rfl,hev.size⟩
     .grind [Region.schedule,Yk,Region.linearise]
     .exact ((⟨aD,hdf,htd,hro,aL⟩:Bd ρ cx none _ rnd st.env b a _ ma).mono hev.ext).rnd
    .cases h
   split at h;rename_i z hlz;obtain ⟨aW,aV⟩:=I3 hlz;split at h
   .rename_i st1 hop;obtain rfl:=Ab h;have hi:=Qx hCI _ _ _ _ hop;have e:=hfl.cx;simp only at e;have hcx:cx.floor<=st.next:=by have:=hfl.le;grind
    refine ⟨⟨e,hfl.cs,Ay hfl.le hi.nxt⟩,by grind,fun ho m0 n0 ρ0 w0 ρ b a k css w ma mb hs he cs0=> ?_⟩;obtain ⟨aD,hdf,htd,hro,aL⟩:=hs.top;obtain ⟨k',rfl,htl⟩:=htd.code;have hw:=Jz hN hS hCI hC hcx aW hop ho hdf aD (hs.rel.drawn (w.drawn+1));have hw2:=wpAny_sound ops.size (w.tape w.drawn (.order b.fn id)) _ a _ hw;obtain ⟨a',w',⟨hd',ρ',q1,q2,q3⟩,aN⟩:=Qz (b:=b) (k:=k') (cs:=css++cs0) (fun e a w hq=>hq) aV _ _ _ hw2;have hev:=q3.drawn;refine ⟨ρ',b,a',k',css,w',ma,mb,.head stepR_region_draw ?_,⟨⟨q1,hd',htl.mono fun _ _=>B3.mono hev.ext,trivial,?_⟩,hs.lv,hs.rest.ev hev,q2⟩,he.trans (by grind),rfl,hev.size⟩
    .simp only [Region.schedule,hmx,Bool.true_or,if_true];exact aN
    .exact ((⟨aD,hdf,htd,hro,aL⟩:Bd ρ cx none _ rnd st.env b a _ ma).mono hev.ext).rnd
   all_goals grind
  ·-- a loop over a function
   rename_i f params assign body k0;split at h
   .rename_i g caps hg;obtain ⟨env,mem,next,orc,ob⟩:=st;simp only [St.nextId] at h;obtain ⟨hrk,h⟩:=Zu h;have hCeq: ∃fn fbody,P.funcs[g]? =some fn/\fn.body=some fbody/\C'=⟨⟨Nat.max fn.ntmps (BA.yld next::caps).length,cx.floor,cx.sym⟩,none,[.code fbody],none,fn.results.toList,St.withEnv ⟨env,mem,next+1,orc,ob⟩ (Qn (BA.yld next::caps) 0 .leaf),⟨cx,none,.inRangeFunc next::k0,rnd,rs,env⟩::cs,Bl lps next (some ⟨.ready,none,cx.n,env,params.toList,assign,body⟩)⟩:=by
     grind [Cx]
    obtain ⟨fn,fbody,hfn,hb,hCe⟩:=hCeq;refine ⟨by rw [hCe];exact hfl.enter (A9 _),?_,fun ho m0 n0 ρ0 w0 ρ b a k css w ma mb hs he cs0=> ?_⟩
    .rw [hCe];exact ⟨A9 _,fun hbd x hx=>hbd x (Nat.le_of_succ_le hx),fun _ _ _=>rfl,fun ho=>ho⟩
    obtain ⟨aD,hdf,htd,hro,aL⟩:=hs.top;obtain ⟨k',rfl,htl⟩:=htd.code;have aA:=hs.rel;simp only at aD aA he aL hdf htl;have lay: ∃l mk w1 d,(Instr.enterLoop b.fn a.tmps params assign body b.roundOf).run P w=.ok (l,(mk:List Nat).map Cb) w1/\w1.heap[l]? =some (.loop ⟨.ready,none,b.fn,a.tmps,params,assign,body,d⟩)/\w0.heap.size<=l/\Sp ρ w1 l/\BC ρ mem next w1/\Ev ρ0 ρ fl m0 n0 mem next w0 w1/\(rnd.isSome=true->mk=[])/\
      BX P w0.heap.size ρ cs lps css w1 (mk++ma) mb/\(∀j L l',Kh lps j=some L->ρ.lp j=some l'->l'≠l)/\w.heap.size<=w1.heap.size:=by
     have gr: ∀(w1:World) (o:Obj) (mk:List Nat),BX P w0.heap.size ρ cs lps css w1 mk mb->BX P w0.heap.size ρ cs lps css (w1.alloc o) mk mb:=fun w1 o mk hr=>
      ⟨hr.cs,hr.nodup,fun r hx=>by obtain ⟨q1,q2,q3⟩:=hr.marks r hx;exact ⟨q1,(q2.grow o).1,by rw [(q2.grow o).2];exact q3⟩,fun j L hL=>by
       obtain ⟨l,q1,q2,q3,tm,fn',d,q4,q5⟩:=hr.loops j L hL;exact ⟨l,q1,q2,(q3.grow o).1,tm,fn',d,by rw [(q3.grow o).2];exact q4,q5⟩,hr.inj⟩
     have far: ∀(w1:World),BX P w0.heap.size ρ cs lps css w1 ma mb-> ∀j L l',Kh lps j=some L->ρ.lp j=some l'->l'<w1.heap.size:=fun w1 hr j L l' hL e=>by obtain ⟨l2,q⟩:=hr.loops j L hL;have:=q.lp;rw [e] at this;obtain rfl:=Ab this;exact q.sp.1
     cases hr:b.roundOf with
     | none=>
      have hrn:rnd=none:=by
       grind
      subst hrn;have hs1:Sp ρ (w.alloc (.deferred (some []))) w.heap.size:=Sp.fresh aA _;have aO:=aA.grow (.deferred (some []));have hsz1:(w.alloc (.deferred (some []))).heap.size =w.heap.size+1:=(by simp_all);have bI:BX P w0.heap.size ρ cs lps css (w.alloc (.deferred (some []))) ([w.heap.size]++ma) mb:=by
       have hr1:=gr w (.deferred (some [])) ma hs.rest;have hnin:w.heap.size ∉ ma++mb:=fun hin=>by have:=(hs.rest.marks _ hin).2.1.1;omega
       refine ⟨hr1.cs,by rw [List.append_assoc];exact List.nodup_cons.2 ⟨hnin,hr1.nodup⟩,fun r hx=> ?_,hr1.loops,hr1.inj⟩;simp only [List.cons_append,List.nil_append,AO] at hx;rcases hx with rfl | hx
       .exact ⟨he.size,hs1,by show (w.heap.push _)[w.heap.size]? =_;simp⟩
       .exact hr1.marks r hx
      refine ⟨w.heap.size+1,[w.heap.size],_,w.heap.size,run_enterLoop_outer _ _ _ _ _,?_,by have:=he.size;omega,?_,aO.grow _,(he.grow _).grow _,(fun e=>by cases e),gr _ _ _ bI,fun j L l' hL e=> ?_,?_⟩
      .grind [World.alloc_heap_new]
      .grind [Sp.fresh]
      .have:=far w hs.rest j L l' hL e;omega
      .show _<=((w.heap.push _).push _).size
       grind
     | some l0=>
      obtain ⟨j0,rfl⟩: ∃j0,rnd=some j0:=by
       grind
      obtain ⟨hma,l1,hlp1,e2⟩:=aL;rw [hr] at e2;obtain rfl:=Ab e2;subst hma;have hsome: ∃L0,Kh lps j0=some L0:=Option.isSome_iff_exists.1 hrk;obtain ⟨L0,hL0⟩:=hsome;obtain ⟨l2,q1,q2,q3,tm,fn',d,q4,q5⟩:=hs.rest.loops j0 L0 hL0;rw [hlp1] at q1;obtain rfl:=Ab q1;refine ⟨w.heap.size,[],_,_,run_enterLoop_inner q4 _ _ _ _ _,World.alloc_heap_new _ _,he.size,Sp.fresh aA _,aA.grow _,he.grow _,(fun _=>rfl),gr _ _ _ hs.rest,fun j L l' hL e=> ?_,?_⟩
      .have:=far w hs.rest j L l' hL e;omega
      simp_all
    obtain ⟨l,mk,w1,d,hen,bZ,hlow,hsp,aO,hev1,hmk,bI,hne,hsz⟩:=lay;have hle:ρ.le (lpAdd ρ next l):=GG aO.lp_none;have hlpj:(lpAdd ρ next l).lp next=some l:=Ap rfl
    have get: ∀i L,Kh (Bl lps next (some L)) i=if i=next then some L else Kh lps i:=fun i L=>T.get_set none lps next (some L) i
    have hlps: ∀j L l',Kh lps j=some L->(lpAdd ρ next l).lp j=some l'->j≠next->ρ.lp j=some l':=fun j L l' _ e hj=>by
     have e:(if j=next then some l else ρ.lp j)=some l':=e
     grind
    have hrest2:BX P w0.heap.size (lpAdd ρ next l) cs (Bl lps next (some ⟨.ready,none,cx.n,env,params.toList,assign,body⟩)) css w1 (mk++ma) mb:=by
     refine ⟨bI.cs.mono hle,bI.nodup,bI.marks,fun j L hL=> ?_,fun j j' L L' l' hL hL' e e'=> ?_⟩
     .rw [get] at hL;by_cases hj:j=next
      .subst hj;rw [Ap rfl] at hL;obtain rfl:=Ab hL;exact ⟨l,hlpj,hlow,hsp,a.tmps,b.fn,d,by simp_all,aD.mono hle⟩
      .rw [Aj hj] at hL;obtain ⟨l2,q1,q2,q3,tm,fn',d',q4,q5⟩:=bI.loops j L hL;exact ⟨l2,hle.2.2 _ _ q1,q2,q3,tm,fn',d',q4,q5.mono hle⟩
     .rw [get] at hL hL';by_cases hj:j=next <;> by_cases hj':j'=next
      .rw [hj,hj']
      .grind
      .grind
      .rw [Aj hj] at hL;rw [Aj hj'] at hL';exact bI.inj j j' L L' l' hL hL' (hlps _ _ _ hL e hj) (hlps _ _ _ hL' e' hj')
    have hf:=(show Yv ρ (St.env ⟨env,mem,next,orc,ob⟩) cx.n a.tmps from aD).eval f;rw [hg] at hf;generalize hw':a.eval f=u at hf;cases hf with
    | fn _ _ cvs hl hh=>
     have aE:Yh (Zp (lpAdd ρ next l)) (BA.yld next::caps) (#[Value.func (.yield l) #[] #[]]++cvs).toList :=by rw [Array.toList_append];exact .cons (.yld _ _ hlpj) (Yh.of (by simp_all) fun i h1 h2=>by simpa using (hh i h1 (by grind)).mono hle)
     have bD:=Xo hN hfn (by rw [hb];rfl) (#[Value.func (.yield l) #[] #[]]++cvs) w1;have bE:=stepR_rangeFunc (P:=P) (b:=b) (a:=a) (k:=k') (cs:=css++cs0) (g:=f) (d:=⟨.fn (.func g) cvs, #[Value.func (.yield l) #[] #[]]⟩) (w₁':=w1) hen
      (by simp_all [resolve,Deferred.ofValue,Act.eval]) (by simp only [invoke];exact bD)
     have hfr:Bd (lpAdd ρ next l) cx none (.inRangeFunc next::k0) rnd env b {a with defers:=mk.map Cb++a.defers} (.inRangeFunc l::k') (mk++ma):=
      ⟨aD.mono hle,by grind,.cons (.inR _ _ hlpj) (htl.mono fun _ _=>B3.mono hle),trivial,by
       cases rnd with
       | none=>exact aL
       | some j=>
        obtain ⟨h0,l',h1,h2⟩:=aL;exact ⟨by grind,l',hle.2.2 _ _ h1,h2⟩⟩
     obtain ⟨_,_,_,_,_,b',a',k2,hent,hsr⟩:=H4 h hfr hs.lv hrest2 (show BC _ mem (next+1) w1 from aO.lpAdd l) aE;refine ⟨lpAdd ρ next l,b',a',k2,_,w1,_,_,.one ?_,hsr,?_,by cases css <;> rfl,hsz⟩
     .rw [show C'.ro=none by rw [hCe],<-hent];exact bE
     .rw [hCe];exact hev1.lpAdd aO l
   .cases h
  ·-- a round begins
   rename_i k0;split at h
   .rename_i j;split at h
    .rename_i pend n env params assign body hlg;obtain rfl:=Ab h;refine ⟨⟨hfl.cx,hfl.cs,hfl.le⟩,Zf.refl _ _,fun ho m0 n0 ρ0 w0 ρ b a k css w ma mb hs he cs0=> ?_⟩;obtain ⟨aD,hdf,htd,hro,aL⟩:=hs.top;obtain ⟨rfl,lr0,hlp0,hrb⟩:=aL;obtain ⟨k',rfl,htl⟩:=BV.item rfl htd;obtain ⟨lr,hla⟩:=hs.rest.loops j _ hlg;have hla':=hla;obtain ⟨hlp,hlow,hsp,ltmps,lfn,ld,bZ,bJ⟩:=hla;rw [hlp] at hlp0;obtain rfl:=Ab hlp0;have aB:=run_beginRound (P:=P) bZ rfl;have aR:=hs.rest.record (w':=w.putObj lr (.loop ⟨.busy,pend,lfn,ltmps,params.toArray,assign,body,ld⟩)) hlg hla' (L':=⟨.busy,pend,n,env,params,assign,body⟩)
      ⟨hlp,hlow,hsp.turned (Yj.put _ _ _),ltmps,lfn,ld,World.putObj_heap_same hsp.1,bJ⟩ (Yj.put _ _ _)
     refine ⟨ρ,b,a,k',css,_,[],mb,.one (stepR_beginRound hrb aB),⟨⟨aD,hdf,htl,trivial,⟨rfl,lr,hlp,hrb⟩⟩,hs.lv,aR,hs.rel.turned (fun r hr=>by grind) (Yj.put _ _ _)⟩,he.turned (m:=[lr]) (fun r hr=>by grind) (Yj.put _ _ _),rfl,Nat.le_of_eq (Yj.put _ _ _).size.symm⟩
    .cases h
   .cases h
  ·-- a loop's end
   rename_i j k0;split at h
   .cases h
   .rename_i lst pend n env params assign body hnb hlg;obtain rfl:=Ab h;refine ⟨⟨hfl.cx,hfl.cs,hfl.le⟩,Zf.refl _ _,fun ho m0 n0 ρ0 w0 ρ b a k css w ma mb hs he cs0=> ?_⟩;obtain ⟨aD,hdf,htd,hro,aL⟩:=hs.top;obtain ⟨lr,hla⟩:=hs.rest.loops j _ hlg;have hla':=hla;obtain ⟨hlp,hlow,hsp,ltmps,lfn,ld,bZ,bJ⟩:=hla;cases htd with
    | @cons _ y _ k' hx htl=>
     cases hx with
     | same _ hp=>cases hp
     | endR _ l hl =>
      rw [hlp] at hl;obtain rfl:=Ab hl;have hb:lst≠ .busy :=fun e=>by grind
      have aB:=run_endLoop (P:=P) bZ hb;have aR:=hs.rest.record (w':=w.putObj lr (.loop ⟨.exhausted,pend,lfn,ltmps,params.toArray,assign,body,ld⟩)) hlg hla' (L':=⟨.exhausted,pend,n,env,params,assign,body⟩)
       ⟨hlp,hlow,hsp.turned (Yj.put _ _ _),ltmps,lfn,ld,World.putObj_heap_same hsp.1,bJ⟩ (Yj.put _ _ _)
      refine ⟨ρ,b,a,_,css,_,ma,mb,.one (stepR_endRangeFunc aB),⟨⟨aD,hdf,?_,trivial,aL⟩,hs.lv,aR,hs.rel.turned (fun r hr=>by grind) (Yj.put _ _ _)⟩,he.turned (m:=[lr]) (fun r hr=>by grind) (Yj.put _ _ _),rfl,Nat.le_of_eq (Yj.put _ _ _).size.symm⟩;cases pend with
      | none=>exact htl
      | some c=>exact .cons (.same _ rfl) htl
   .cases h
  .cases h
theorem IM {S:BD} {Rc:BF} {n:Nat} {C:BJ}:Bf P S Rc (n+1) C=(bif Qf C then some C else match Cu P S Rc C with
  | some C'=>Bf P S Rc n C'
  | none=>none):=rfl
theorem Qe {C:BJ} (h:Qf C=true):C.ro=none/\C.rnd=none/\C.cs=[]/\(C.todo=[]\/ ∃t,C.todo=.code .ret ::t):=by
 unfold Qf at h
 grind
theorem Jt.trans {fl:Nat} {A B C:BJ} (h:Jt P fl A B) (k:Jt P fl B C):Jt P fl A C:=by intro m0 n0 ρ0 w0 ρ b a t css w ma mb hs he cs0;obtain ⟨ρ1,b1,a1,t1,css1,w1,ma1,mb1,s1,r1,e1,q1,z1⟩:=h m0 n0 ρ0 w0 ρ b a t css w ma mb hs he cs0;obtain ⟨ρ2,b2,a2,t2,css2,w2,ma2,mb2,s2,r2,e2,q2,z2⟩:=k m0 n0 ρ0 w0 ρ1 b1 a1 t1 css1 w1 ma1 mb1 r1 e1 cs0;exact ⟨ρ2,b2,a2,t2,css2,w2,ma2,mb2,s1.trans s2,r2,e2,q2.trans q1,Ay z1 z2⟩
theorem GI {S:BD} {Rc:BF} (hN:Va P) (hmx:P.follows .mixedOrders =true) (hS:Ys P S) (hCI:Bb Rc) (hC:Bp P Rc) {fl:Nat}: ∀(n:Nat) (C C':BJ),Fl fl C->Bf P S Rc n C=some C'->Qf C'=true/\Zf fl C.st C'.st/\(C'.st.ob=true->Jt P fl C C')
 | 0,C,st',_,h=>by cases h
 | n+1,C,C',hfl,h=>by
  rw [IM] at h;cases hf:Qf C with
  | true=>rw [hf] at h;obtain rfl:=Ab h;exact ⟨hf,Zf.refl _ _,fun _=>Jt.refl fl C⟩
  | false=>
   rw [hf,Ax] at h;split at h
   .rename_i C1 h1;have s1:=HX hN hmx hS hCI hC hfl h1;obtain ⟨f1,f4,f5⟩:=GI hN hmx hS hCI hC n C1 C' s1.fls h;exact ⟨f1,s1.inv.trans f4,fun ho=>(s1.leads (f4.ob ho)).trans (f5 ho)⟩
   .cases h
theorem BV.refl_plain {ρ:BB}: ∀(k:List Item),k.all Xs=true->BV ρ k k
 | [],_=>.nil
 | x::k,h=>by simp only [List.all_cons,Ag] at h;exact .cons (.same x h.1) (BV.refl_plain k h.2)
theorem Hc (base:Nat) (ρ:BB) (w:World):BX P base ρ [] .leaf [] w [] []:=
 ⟨.nil,List.nodup_nil,(fun r hr=>by cases hr),(fun j L hL=>by cases hL),(fun j j' L L' l hL=>by cases hL)⟩
theorem Fc (hN:Va P) (hmx:P.follows .mixedOrders =true) {S:BD} (hS:Ys P S) (n:Nat): ∀d,Bb (Bm P S n d)/\Bp P (Bm P S n d)
 | 0=>⟨(fun cx todo st st' h=>by cases h),(fun cx todo st st' _ h=>by cases h)⟩
 | d+1=>by
  obtain ⟨hCI,hC⟩:=Fc hN hmx hS n d;have key: ∀{cx todo st st'},Bm P S n (d+1) cx todo st=some st'->todo.all Xs=true/\Fl cx.floor ⟨cx,none,todo,none,[],st,[],.leaf⟩/\ ∃C',Bf P S (Bm P S n d) n ⟨cx,none,todo,none,[],st,[],.leaf⟩=some C'/\C'.cx.n=cx.n/\C'.st=st':=by
   intro cx todo st st' h;have h:(bif todo.all Xs&&Nat.ble cx.floor st.next then match Bf P S (Bm P S n d) n ⟨cx,none,todo,none,[],st,[],.leaf⟩ with
    | some C=>bif Nat.beq C.cx.n cx.n then some C.st else none
    | none=>none
    else none)=some st':=h
   obtain ⟨hp,h⟩:=Zu h;simp only [Ag] at hp;refine ⟨hp.1,⟨rfl,fun af haf=>(by cases haf),Ad hp.2⟩,?_⟩;split at h
   .rename_i C' hr;obtain ⟨hn,h⟩:=Zu h;simp_all
   .cases h
  refine ⟨fun cx todo st st' h=> ?_,fun cx todo st st' hcx h ho ρ a w b cs hd aD aA=> ?_⟩
  .obtain ⟨_,hfl,C',hr,_,rfl⟩:=key h;exact (GI hN hmx hS hCI hC n _ C' hfl hr).2.1
  .obtain ⟨hpl,hfl,C',hr,hn,rfl⟩:=key h;obtain ⟨f1,f2,f3⟩:=GI hN hmx hS hCI hC n _ C' hfl hr;obtain ⟨e1,e2,e3,e4⟩:=Qe f1;obtain ⟨ρ',b',a',k',css',w',ma',mb',s1,r1,v1,q1,_⟩:=f3 ho st.mem st.next ρ w ρ {b with roundOf:=none} a todo [] w [] []
    ⟨⟨aD,hd,BV.refl_plain todo hpl,trivial,rfl⟩,fun h=>absurd rfl h,Hc _ _ _,aA⟩ (Ev.refl _ _ _ _ _ aA.dom) cs
   have hcs:=r1.rest.cs;rw [e3] at hcs;cases hcs;obtain ⟨w2,s2,henv',aT,bK,_,_⟩:=Qo r1 e1 e2 e4 rfl v1 cs;refine ⟨ρ',{a' with defers:=[]},k',w2,?_,rfl,by grind,aT,bK⟩;have hb:b.at a todo=Frame.atR {b with roundOf:=none} a (Yk none todo):=rfl;have hb':Frame.atR b' {a' with defers:=[]} k'=b.at {a' with defers:=[]} k':=by
    have q:(b'.fn,b'.kind,b'.roundOf)=(b.fn,b.kind,none):=q1
    grind [Frame.atR,Frame.at]
   rw [hb,<-hb'];exact s1.trans s2
end
structure Uh where
 keep:List Nat
 frz:List Nat
 slots:List (Option (List Nat))
 lslots:List (Option (List Nat)):=[]
def Km (b:Nat):List Nat->Nat->Option Nat
 | [],_=>none
 | x::l,i=>bif Nat.beq x b then some i else Km b l (i+1)
def hasN (b:Nat):List Nat->Bool
 | []=>false
 | x::l=>bif Nat.beq x b then true else hasN b l
def CO (cells:List BA) (off sz:Nat):Nat->List BA:=fun k=>(cells.drop (off+k*sz)).take sz
def CD (P:Program) (blk:BG):BA->BA
 | .ptr _ o=>.dptr (blk.cells.drop o)
 | .sl _ off len _=>match P.info? blk.ty with
  | some i=>bif Nat.ble (off+len*i.size) blk.cells.length then .dat len (CO blk.cells off i.size) else .undef
  | none=>.undef
 | .sla _ sz off len _=>match blk.arr with
  | some A=>bif Nat.beq A.sz sz&&Nat.ble (off+len) A.n then .dat len (fun k=>A.get (off+k)) else .undef
  | none=>.undef
 | _=>.undef
def Bg (P:Program) (mem:BI) (N:Uh) (b:Nat) (v:BA) (f:Nat->BA):BA:=
 match Km b N.keep 0 with
 | some b'=>f b'
 | none=>bif hasN b N.frz then match Zb mem b with
   | some blk=>CD P blk v
   | none=>.undef
  else .undef
def BO (P:Program) (mem:BI) (N:Uh):Nat->BA->BA
 | 0,_=>.undef
 | d+1,v=>match v with
  | .ptr b o=>Bg P mem N b (.ptr b o) fun b'=>.ptr b' o
  | .sl b off len cap=>Bg P mem N b (.sl b off len cap) fun b'=>.sl b' off len cap
  | .sla b sz off len cap=>Bg P mem N b (.sla b sz off len cap) fun b'=>.sla b' sz off len cap
  | .epa b sz i fo=>Bg P mem N b (.epa b sz i fo) fun b'=>.epa b' sz i fo
  | .yld j=>match Km j N.keep 0 with
   | some j'=>.yld j'
   | none=>.undef
  | .slv b sz off len=>match Km b N.keep 0 with
   | some b'=>.slv b' sz off len
   | none=>.undef
  | .mapr b=>match Km b N.keep 0 with
   | some b'=>.mapr b'
   | none=>.undef
  | .agg cs=>.agg (cs.map (BO P mem N d))
  | .tup cs=>.tup (cs.map (BO P mem N d))
  | .fn f cs=>.fn f (cs.map (BO P mem N d))
  | .fnb f cs=>.fnb f (cs.map (BO P mem N d))
  | .ifc t v=>.ifc t (BO P mem N d v)
  | v=>v
def T.map (f:BA->BA) (t:T BA):T BA:=
 T.rec (motive:=fun _=>T BA) .leaf (fun v _ _ l r=>.node (f v) l r) t
def Qb (f:BA->BA) (env:T BA):List Nat->T BA
 | []=>.leaf
 | t::l=>T.set .undef (Qb f env l) t (f (T.get .undef env t))
def CH (f:BA->BA) (env:T BA):Option (List Nat)->T BA
 | none=>T.map f env
 | some l=>Qb f env l
def Us (f:BA->BA):BQ->BQ
 | .flat g=>.flat g
 | .one r cs b=>.one r (cs.map f) (Us f b)
 | .alt c a b=>.alt c (Us f a) (Us f b)
def DB (P:Program) (mem:BI) (N:Uh):BG->BG
 | ⟨cells,ty,none⟩=>⟨cells.map (BO P mem N 6),ty,none⟩
 | ⟨_,ty,some A⟩=>⟨rows A.n (Us (BO P mem N 6) A.rw).get,ty,some ⟨A.sz,A.n,Us (BO P mem N 6) A.rw⟩⟩
def Cy :BQ->Bool
 | .flat g=>pd (∀i,(g i).all (pf 6)=true)
 | .one _ _ b=>Cy b
 | .alt _ a b=>Cy a&&Cy b
def Fm (blk:BG):Bool:=match blk.arr with
 | none=>true
 | some A=>Cy A.rw
def Jx (P:Program) (mem:BI) (N:Uh):List Nat->Nat->BI×Bool
 | [],_=>(.leaf,true)
 | b::l,i=>match Jx P mem N l (i+1) with
  | (m,o)=>match Zb mem b with
   | none=>(m,o)
   | some blk=>(Zt m i (some (DB P mem N blk)),Fm blk&&o)
def Ju (mem:BI):List Nat->Bool
 | []=>true
 | b::l=>match Zb mem b with
  | none=>Ju mem l
  | some blk=>(match blk.arr with
   | none=>blk.cells.all (pf 6)
   | some A=>pd (∀i,(A.get i).all (pf 6)=true))&&Ju mem l
def CX (f:BA->BA) (lps:BL):List Nat->Nat->List (Option (List Nat))->BL
 | [],_,_=>.leaf
 | b::l,i,sl=>match Kh lps b with
  | none=>CX f lps l (i+1) sl.tail
  | some ⟨st,pend,n,env,params,assign,body⟩=>Bl (CX f lps l (i+1) sl.tail) i (some ⟨st,pend,n,CH f env (sl.headD none),params,assign,body⟩)
def Jd (keep:List Nat):Item->Option Item
 | .inRangeFunc j=>(Km j keep 0).map .inRangeFunc
 | .endRangeFunc j=>(Km j keep 0).map .endRangeFunc
 | x=>bif Xs x then some x else none
def Ux (keep:List Nat):List Item->Option (List Item)
 | []=>some []
 | x::l=>match Jd keep x,Ux keep l with
  | some y,some m=>some (y::m)
  | _,_=>none
def DM (keep:List Nat):Option Nat->Option (Option Nat)
 | none=>some none
 | some j=>(Km j keep 0).map some
def Ct (f:BA->BA) (keep:List Nat):List BR->List (Option (List Nat))->Option (List BR)
 | [],_=>some []
 | ⟨cx,ro,todo,rnd,rs,env⟩::cs,sl=>match Ux keep todo,DM keep rnd,Ct f keep cs sl.tail with
  | some todo',some rnd',some cs'=>some (⟨cx,ro,todo',rnd',rs,CH f env (sl.headD none)⟩::cs')
  | _,_,_=>none
def Bn :List Nat->List Nat->Bool
 | [],_=>true
 | b::l,frz=> !hasN b frz&&(!hasN b l&&Bn l frz)
def Cs (P:Program) (N:Uh):BJ->Option BJ
 | ⟨cx,ro,todo,rnd,rs,⟨env,mem,next,orc,ob⟩,cs,lps⟩=>
  match Ux N.keep todo,DM N.keep rnd,Ct (BO P mem N 6) N.keep cs N.slots.tail with
  | some todo',some rnd',some cs'=>
   bif Bn N.keep N.frz then
    match Jx P mem N N.keep 0 with
    | (mem',o)=>some ⟨cx,ro,todo',rnd',rs,⟨CH (BO P mem N 6) env (N.slots.headD none),mem',N.keep.length,[],o&&(Ju mem N.frz&&ob)⟩,cs',CX (BO P mem N 6) lps N.keep 0 N.lslots⟩
   else none
  | _,_,_=>none
def Bo :Code->List Nat->List Item->Code×List Item
 | c,[],k=>(c,k)
 | .seq a b,0::p,k=>Bo a p (.code b::k)
 | .seq _ b,_::p,k=>Bo b p k
 | .block id c,_::p,k=>Bo c p (.inBlock id::k)
 | .loop c,_::p,k=>Bo c p (.inLoop c::k)
 | .scope c,_::p,k=>Bo c p (.inScope c::k)
 | .cond _ a _,0::p,k=>Bo a p k
 | .cond _ _ b,_::p,k=>Bo b p k
 | .rangeFunc _ _ a b,0::p,_=>Bo a p [.beginRound,.code b]
 | .rangeFunc _ _ _ b,_::p,_=>Bo b p []
 | c,_::_,k=>(c,k)
def Zy (P:Program) (f:FuncId) (p:List Nat) (j:Nat):List Item:=match Bo (Hn P f) p [] with
 | (c,k)=>(.code c::k).drop j
def GR (P:Program) (f:FuncId) (p:List Nat):Code:=(Bo (Hn P f) p []).1
def Zv (P:Program) (f:FuncId) (p:List Nat) (i:Nat):Option BN:=match GR P f p with
 | .region _ ops _=>some (ops,i,ops.toList.drop i)
 | _=>none
def CF (P:Program) (S:BD) (Rc:BF) (n:Nat):BJ->Option BJ:=
 Nat.rec (motive:=fun _=>BJ->Option BJ) (fun C=>some C) (fun _ R C=>match Cu P S Rc C with
  | some C'=>R C'
  | none=>none) n
section
variable {P:Program}
theorem CN {p:Prop} (h:pd p=true):p:= @AN p (Classical.propDecidable p) h
theorem H5 {b:Nat}: ∀{l:List Nat} {i j:Nat},Km b l i=some j->i<=j/\l[j - i]? =some b
 | [],i,j,h=>by cases h
 | x::l,i,j,h=>by
  unfold Km at h;rcases Yd h with ⟨hx,h⟩ | ⟨_,h⟩
  .simp_all
  .obtain ⟨h1,h2⟩:=H5 h
   grind
theorem Ki {b:Nat}: ∀{l:List Nat},hasN b l=true↔b∈l
 | []=>by simp [hasN]
 | x::l=>by
  unfold hasN;cases hx:Nat.beq x b with
  | true=>simp [Ae hx]
  | false=>
   have:x≠b:=fun e=>by rw [e,Nat.beq_refl] at hx;cases hx
   rw [Ax,Ki,AO];exact ⟨.inr,fun h=>h.resolve_left fun e=>this e.symm⟩
theorem Qs : ∀{l frz:List Nat},Bn l frz=true->l.Nodup/\ ∀b∈l,b ∉ frz
 | [],_,_=>⟨List.nodup_nil,fun b hb=>by cases hb⟩
 | x::l,frz,h=>by
  unfold Bn at h;simp only [Ag,AB] at h;obtain ⟨h1,h2,h3⟩:=h;obtain ⟨i1,i2⟩:=Qs h3;have n1:x ∉ frz:=fun hm=>by rw [Ki.2 hm] at h1;cases h1
  have n2:x ∉ l:=fun hm=>by rw [Ki.2 hm] at h2;cases h2
  exact ⟨List.nodup_cons.2 ⟨n2,i1⟩,fun b hb=>by
   rcases AO.1 hb with rfl | hb
   .exact n1
   .exact i2 b hb⟩
def Fz (ρ:BB) (mem:BI) (N:Uh) (k:Nat):Prop:= ∃b l,b∈N.frz/\ρ b=some l/\(Zb mem b).isSome =true/\l.blk=k
def Ks (ρ:BB) (mem:BI) (N:Uh) (w:World):BB:=
 ⟨fun b'=>(N.keep[b']?).bind fun b=>ρ b,fun k=> @ite _ (Fz ρ mem N k) (Classical.propDecidable _) (w.heap[k]?) (ρ.fz k),fun j'=>(N.keep[j']?).bind fun j=>ρ.lp j⟩
theorem Wb {ρ:BB} {mem:BI} {next:Nat} {w:World} (h:BC ρ mem next w) (N:Uh) {k:Nat} {o:Obj} (e:ρ.fz k=some o):(Ks ρ mem N w).fz k=some o:=by
 show @ite _ (Fz ρ mem N k) (Classical.propDecidable _) (w.heap[k]?) (ρ.fz k)=some o;by_cases hf:Fz ρ mem N k
 .obtain ⟨b,l,_,hb,hm,rfl⟩:=hf;have:=h.sep b l hb hm
  grind
 grind
theorem Ix {ρ:BB} {mem:BI} {w:World} {N:Uh} {b:Nat} {l:BM} (hb:b∈N.frz) (hl:ρ b=some l) (hm:(Zb mem b).isSome =true):(Ks ρ mem N w).fz l.blk=w.heap[l.blk]? :=
 Ap ⟨b,l,hb,hl,hm,rfl⟩
theorem Vf {ρ:BB} {mem:BI} {next:Nat} {w:World} (h:BC ρ mem next w) (N:Uh):ρ.bare.le (Ks ρ mem N w).bare :=⟨fun _ _ e=>(by cases e),fun _ _ e=>Wb h N e,fun _ _ e=>(by cases e)⟩
theorem Yt {ρ:BB} {mem:BI} {w:World} {N:Uh} {b b':Nat} (h:Km b N.keep 0=some b'):(Ks ρ mem N w) b'=ρ b/\(Ks ρ mem N w).lp b'=ρ.lp b:=by
 obtain ⟨_,h2⟩:=H5 h;rw [Nat.sub_zero] at h2;constructor
 .show (N.keep[b']?).bind _=_;rw [h2];rfl
 .show (N.keep[b']?).bind _=_;rw [h2];rfl
theorem Uu {mem:BI}: ∀{frz:List Nat},Ju mem frz=true-> ∀b∈frz,∀blk,Zb mem b=some blk->(match blk.arr with | none=>blk.cells.all (pf 6)=true | some A=> ∀i,(A.get i).all (pf 6)=true)
 | [],_,b,hb,_,_=>by cases hb
 | x::l,h,b,hb,blk,hm=>by
  unfold Ju at h;rcases AO.1 hb with rfl | hb
  .rw [hm] at h;simp only [Ag] at h;cases hA:blk.arr with
   | none=>have:=h.1;rw [hA] at this;exact this
   | some A=>have:=h.1;rw [hA] at this;exact CN this
  .cases hx:Zb mem x with
   | none=>rw [hx] at h;exact Uu h b hb blk hm
   | some blk'=>rw [hx] at h;simp only [Ag] at h;exact Uu h.2 b hb blk hm
theorem Qd {mem:BI} {next:Nat} {w:World} {ρ:BB} (h:BC ρ mem next w) {N:Uh} (ho:Ju mem N.frz=true) {b:Nat} (hb:b∈N.frz) {blk:BG} (hm:Zb mem b=some blk) {l:BM} (hl:ρ b=some l):
  ∃val:Nat->Value,∀(i:Nat) (hi:i<blk.cells.length),Zp (Ks ρ mem N w).bare blk.cells[i] (val i)/\Bs (Ks ρ mem N w).fz l.blk (l.base+i) (val i):=by
 have hno:blk.isObj=false:=by
  cases hx:blk.isObj with
  | false=>rfl
  | true=>
   have hq:=Uu ho b hb blk hm;obtain ⟨cells,ty,arr⟩:=blk;unfold BG.isObj at hx;split at hx
   .rename_i e;simp only [BG.mk.injEq] at e;obtain ⟨rfl,_,rfl⟩:=e;simp [pf] at hq
   .cases hx
 obtain ⟨_,hn,ht,har,cs,el,h1,h2,h3⟩:=(h.blk b l blk hl hm).at hno;refine ⟨fun i=>(cs[l.base+i]?).getD undef,fun i hi=> ?_⟩;obtain ⟨v,e1,e2⟩:=h3 i hi;have hpf:pf 6 blk.cells[i]=true:=by
  have:=Uu ho b hb blk hm;cases hA:blk.arr with
  | none=>grind
  | some A=>
   rw [hA] at this;obtain ⟨q1,_,_⟩:=har A hA;have hmem:blk.cells[i]∈rows A.n A.get:=by grind
   grind [rows]
 dsimp only;rw [e1];refine ⟨(Xq 6 _ _ hpf e2).mono (Vf h N),cs,el,(0,0),?_,e1⟩
 grind [Ix]
theorem IZ {mem:BI} {next:Nat} {w:World} {ρ:BB} (h:BC ρ mem next w) {N:Uh} (ho:Ju mem N.frz=true) {b:Nat} (hb:b∈N.frz) {blk:BG} (hm:Zb mem b=some blk) {v:BA} {u:Value} (hv:Zp ρ v u)
  (hvb:(∃o,v=.ptr b o)\/(∃off len cap,v=.sl b off len cap)\/(∃sz off len cap,v=.sla b sz off len cap)\/ ∃sz i fo,v=.epa b sz i fo):Zp (Ks ρ mem N w) (CD P blk v) u:=by
 rcases hvb with ⟨o,rfl⟩ | ⟨off,len,cap,rfl⟩ | ⟨sz,off,len,cap,rfl⟩ | ⟨sz,i,fo,rfl⟩
 .cases hv with
  | ptr _ _ l hl=>
   obtain ⟨val,aU⟩:=Qd h ho hb hm hl;refine .dptr _ _ _ (fun j=>val (o+j)) (fun j hj=> ?_) (fun j hj=> ?_);all_goals grind
 .simp only [CD];split
  .rename_i i hi;cases hc:Nat.ble (off+len*i.size) blk.cells.length with
   | false=>exact .undef _
   | true=>
    rw [Aq];have hle:=Ad hc;cases hv with
    | sl _ _ _ _ l c hl _ aC=>
     obtain ⟨val,aU⟩:=Qd h ho hb hm hl;have hin: ∀k,k<len->k*i.size+i.size<=len*i.size:=fun k hk=>by
      have:=Ak i.size (show k+1<=len from hk)
      grind
     refine .dat len _ l.blk (l.base+off) i.size c (fun k j=>val (off+(k*i.size+j))) aC (fun k hk=> ?_) (fun k j hk hj=> ?_) (fun k j hk hj=> ?_);all_goals grind [CO]
  .exact .undef _
 .simp only [CD];split
  .rename_i A hA;cases hc:(Nat.beq A.sz sz&&Nat.ble (off+len) A.n) with
   | false=>exact .undef _
   | true=>
    rw [Aq];simp only [Ag] at hc;obtain rfl:=Ae hc.1;have hle:=Ad hc.2;cases hv with
    | slan=>exact .datn _
    | sla _ _ _ _ _ l c hl _ aC=>
     obtain ⟨val,aU⟩:=Qd h ho hb hm hl;obtain ⟨q1,q2,q3⟩:=(h.blk b l blk hl hm).arr A hA;have bQ:=Za A.n q3;have hrow: ∀k j,k<len->j<A.sz-> ∃hi:(off+k)*A.sz+j<blk.cells.length,blk.cells[(off+k)*A.sz+j]? =(A.get (off+k))[j]? :=fun k j hk hj=>by
      grind [Yf]
     refine .dat len _ l.blk (l.base+off*A.sz) A.sz c (fun k j=>val ((off+k)*A.sz+j)) aC (fun k hk=>q3 _ (by omega)) (fun k j hk hj=> ?_) (fun k j hk hj=> ?_);all_goals grind
  .exact .undef _
 .exact .undef _
theorem Wd {mem:BI} {next:Nat} {w:World} {ρ:BB} (h:BC ρ mem next w) {N:Uh} (ho:Ju mem N.frz=true) {b:Nat} {v:BA} {u:Value} {f:Nat->BA} (hv:Zp ρ v u)
  (hvb:(∃o,v=.ptr b o)\/(∃off len cap,v=.sl b off len cap)\/(∃sz off len cap,v=.sla b sz off len cap)\/ ∃sz i fo,v=.epa b sz i fo)
  (hf: ∀b',Km b N.keep 0=some b'->Zp (Ks ρ mem N w) (f b') u):Zp (Ks ρ mem N w) (Bg P mem N b v f) u:=by
 unfold Bg;split
 .grind
 .cases hc:hasN b N.frz with
  | false=>exact .undef _
  | true=>
   rw [Aq];split
   .grind [IZ,Ki]
   .exact .undef _
theorem Xr {mem:BI} {next:Nat} {w:World} {ρ:BB} (h:BC ρ mem next w) {N:Uh} (ho:Ju mem N.frz=true): ∀(d:Nat) (v:BA) (u:Value),Zp ρ v u->Zp (Ks ρ mem N w) (BO P mem N d v) u
 | 0,_,_,_=>.undef _
 | d+1,v,u,hv=>by
  have ih:=fun v u=>Xr h ho (N:=N) d v u;have list: ∀{cs:List BA} {vs:Array Value},cs.length=vs.size->(∀(i:Nat) (h1:i<cs.length) (h2:i<vs.size),Zp ρ cs[i] vs[i])->
    (cs.map (BO P mem N d)).length =vs.size/\ ∀(i:Nat) (h1:i<(cs.map (BO P mem N d)).length) (h2:i<vs.size),Zp (Ks ρ mem N w) (cs.map (BO P mem N d))[i] vs[i]:=fun hl hh=>
   ⟨by simpa using hl,fun i h1 h2=>by simpa using ih _ _ (hh i (by simpa using h1) h2)⟩
  unfold BO;cases hv with
  | undef=>exact .undef _
  | bool b=>exact .bool b
  | int k n=>exact .int k n
  | str s=>exact .str s
  | agg cs vs hl hh=>exact .agg _ _ (list hl hh).1 (list hl hh).2
  | tup cs vs hl hh=>exact .tup _ _ (list hl hh).1 (list hl hh).2
  | fn f cs vs hl hh=>exact .fn f _ _ (list hl hh).1 (list hl hh).2
  | fnb f cs vs hl hh=>exact .fnb f _ _ (list hl hh).1 (list hl hh).2
  | ptr b o l hl=>exact Wd h ho (.ptr b o l hl) (.inl ⟨o,rfl⟩) fun b' hb'=>.ptr b' o l (by rw [(Yt hb').1];exact hl)
  | nilp=>exact .nilp
  | sl b off len cap l c hl hc aC=>exact Wd h ho (.sl b off len cap l c hl hc aC) (.inr (.inl ⟨off,len,cap,rfl⟩)) fun b' hb'=>.sl b' off len cap l c (by rw [(Yt hb').1];exact hl) hc aC
  | nils=>exact .nils
  | sla b sz off len cap l c hl hc aC=>exact Wd h ho (.sla b sz off len cap l c hl hc aC) (.inr (.inr (.inl ⟨sz,off,len,cap,rfl⟩))) fun b' hb'=>.sla b' sz off len cap l c (by rw [(Yt hb').1];exact hl) hc aC
  | slan b sz off cap=>exact Wd h ho (.slan b sz off cap) (.inr (.inr (.inl ⟨sz,off,0,cap,rfl⟩))) fun b' hb'=>.slan b' sz off cap
  | epa b sz i fo l hl=>exact Wd h ho (.epa b sz i fo l hl) (.inr (.inr (.inr ⟨sz,i,fo,rfl⟩))) fun b' hb'=>.epa b' sz i fo l (by rw [(Yt hb').1];exact hl)
  | nilf=>exact .nilf
  | yld j l hl=>
   simp only;split
   .rename_i j' hj';exact .yld j' l (by rw [(Yt hj').2];exact hl)
   .exact .undef _
  | slv b sz off len l c hl aC=>
   simp only;split
   .rename_i j' hj';exact .slv j' sz off len l c (by rw [(Yt hj').1];exact hl) aC
   .exact .undef _
  | slve b sz off blk base c=>
   simp only;split
   .exact .slve _ sz off blk base c
   .exact .undef _
  | slvn b sz off=>
   simp only;split
   .exact .slvn _ sz off
   .exact .undef _
  | ifc t a v hv=>exact .ifc t _ _ (ih _ _ hv)
  | nili=>exact .nili
  | mapr b l hl=>
   simp only;split
   .rename_i j' hj';exact .mapr j' l (by rw [(Yt hj').1];exact hl)
   .exact .undef _
  | ifbt=>exact .ifbt
  | ifbf t v=>exact .ifbf t v
  | dat len get blk base sz cap val aH hsz hv hh=>refine .dat len get blk base sz cap val aH hsz (fun i j hi hj=>(hv i j hi hj).mono (Vf h N)) (fun i j hi hj=> ?_);obtain ⟨cs,el,fz,e1,e2⟩:=hh i j hi hj;exact ⟨cs,el,fz,Wb h N e1,e2⟩
  | datn get=>exact .datn get
  | datz get a c=>exact .datz get a c
  | nnl len get a c hd=>exact .nnl len get a c ((Xq 1 _ _ rfl hd).mono (BB.le_trans (Vf h N) (DO _)))
  | dptr cs blk base val hv hh=>refine .dptr cs blk base val (fun j hj=>(hv j hj).mono (Vf h N)) (fun j hj=> ?_);obtain ⟨cs',el,fz,e1,e2⟩:=hh j hj;exact ⟨cs',el,fz,Wb h N e1,e2⟩
theorem T.get_map {f:BA->BA} (hf:f .undef =.undef): ∀(t:T BA) (i:Nat),T.get .undef (T.map f t) i=f (T.get .undef t i)
 | .leaf,i=>hf.symm
 | .node v l r,0=>rfl
 | .node v l r,i+1=>by
  show T.get .undef (.node (f v) (T.map f l) (T.map f r)) (i+1)=_;rw [T.get_succ,T.get_succ];split
  .exact T.get_map hf l _
  .exact T.get_map hf r _
theorem Jh {f:BA->BA} (env:T BA): ∀(L:List Nat) (t:Nat),T.get .undef (Qb f env L) t=if t∈L then f (T.get .undef env t) else .undef
 | [],t=>by simp [Qb]
 | x::L,t=>by
  unfold Qb;rw [T.get_set,Jh env L t];by_cases h:t=x
  .subst h;simp
  .simp [h]
theorem HF {mem:BI} {next:Nat} {w:World} {ρ:BB} (h:BC ρ mem next w) {N:Uh} (ho:Ju mem N.frz=true) {env:T BA} {n:Nat} {tmps:Array Value} (he:Yv ρ env n tmps): ∀(L:Option (List Nat)),Yv (Ks ρ mem N w) (CH (BO P mem N 6) env L) n tmps
 | none=>by
  refine ⟨he.size,fun i=> ?_,fun i hi=> ?_⟩
  .show Zp _ (T.get .undef (T.map (BO P mem N 6) env) i) _;rw [T.get_map rfl];exact Xr h ho 6 _ _ (he.get i)
  .show T.get .undef (T.map (BO P mem N 6) env) i=_;rw [T.get_map rfl,he.out i hi];rfl
 | some L=>by
  refine ⟨he.size,fun i=> ?_,fun i hi=> ?_⟩
  .show Zp _ (T.get .undef (Qb (BO P mem N 6) env L) i) _;rw [Jh];split
   .exact Xr h ho 6 _ _ (he.get i)
   .exact .undef _
  .show T.get .undef (Qb (BO P mem N 6) env L) i=_;rw [Jh,he.out i hi];split <;> rfl
theorem HQ {mem:BI} {N:Uh}: ∀(l:List Nat) (i j:Nat),Zb (Jx P mem N l i).1 j=if i<=j then (l[j - i]?).bind fun b=>(Zb mem b).map (DB P mem N) else none
 | [],i,j=>by simp [Jx,Zb]
 | b::l,i,j=>by
  unfold Jx;have ih:=HQ (mem:=mem) (N:=N) l (i+1);have tail:i<j->(b::l)[j - i]? =l[j - (i+1)]? :=fun h=>by rw [show j - i=(j - (i+1))+1 by omega];rfl
  cases hm:Zb mem b with
  | none=>
   show Zb (Jx P mem N l (i+1)).1 j=_;rw [ih];rcases AK i j with h | h | h
   .rw [Ap (by omega),Ap (by omega),tail h]
   .subst h;rw [Aj (by omega),Ap (by omega)];simp [hm]
   .rw [Aj (by omega),Aj (by omega)]
  | some blk=>
   show Zb (Zt (Jx P mem N l (i+1)).1 i (some (DB P mem N blk))) j=_;rw [Yc,ih];rcases AK i j with h | h | h
   .rw [Aj (by omega),Ap (by omega),Ap (by omega),tail h]
   .subst h;rw [Ap rfl,Ap (by omega)];simp [hm]
   .rw [Aj (by omega),Aj (by omega),Aj (by omega)]
theorem Jf {mem:BI} {N:Uh}: ∀(l:List Nat) (i:Nat),(Jx P mem N l i).2=true-> ∀b∈l,∀blk,Zb mem b=some blk->Fm blk=true
 | [],i,_,b,hb,_,_=>by cases hb
 | x::l,i,h,b,hb,blk,hm=>by
  unfold Jx at h;cases hx:Zb mem x with
  | none=>
   rw [hx] at h;rcases AO.1 hb with rfl | hb
   .rw [hx] at hm;cases hm
   .exact Jf l (i+1) h b hb blk hm
  | some blk'=>
   rw [hx] at h;have h:(Fm blk'&&(Jx P mem N l (i+1)).2)=true:=h;simp only [Ag] at h;rcases AO.1 hb with rfl | hb
   .rw [hx] at hm;obtain rfl:=Ab hm;exact h.1
   .exact Jf l (i+1) h.2 b hb blk hm
theorem Vn {f:BA->BA} {lps:BL}: ∀(l:List Nat) (i:Nat) (sl:List (Option (List Nat))) (j:Nat) (L:BT),Kh (CX f lps l i sl) j=some L->i<=j/\ ∃b L0 x,l[j - i]? =some b/\Kh lps b=some L0/\L=⟨L0.st,L0.pend,L0.n,CH f L0.env x,L0.params,L0.assign,L0.body⟩
 | [],i,sl,j,L,h=>by cases h
 | b::l,i,sl,j,L,h=>by
  unfold CX at h;split at h
  .obtain ⟨h1,b',L0,x,h2,h3,h4⟩:=Vn l (i+1) _ j L h
   grind
  .rename_i st pend n env params assign body hb;rw [show Kh (Bl (CX f lps l (i+1) sl.tail) i (some ⟨st,pend,n,CH f env (sl.headD none),params,assign,body⟩)) j=if j=i then some ⟨st,pend,n,CH f env (sl.headD none),params,assign,body⟩ else Kh (CX f lps l (i+1) sl.tail) j from T.get_set none _ i _ j] at h;by_cases hj:j=i
   .subst hj;rw [Ap rfl] at h;obtain rfl:=Ab h;exact ⟨Ah _,b,_,_,by simp,hb,rfl⟩
   .rw [Aj hj] at h;obtain ⟨h1,b',L0,x,h2,h3,h4⟩:=Vn l (i+1) _ j L h
    grind
theorem Iw {mem:BI} {w:World} {ρ:BB} {N:Uh} {x x' y:Item} (h:Jd N.keep x=some x') (hx:B3 ρ x y):B3 (Ks ρ mem N w) x' y:=by
 cases hx with
 | inR j l e=>simp only [Jd,Af] at h;obtain ⟨j',hj,rfl⟩:=h;exact .inR j' l (by rw [(Yt hj).2];exact e)
 | endR j l e=>simp only [Jd,Af] at h;obtain ⟨j',hj,rfl⟩:=h;exact .endR j' l (by rw [(Yt hj).2];exact e)
 | same x hp=>
  have:Jd N.keep x=some x:=by
   unfold Jd;split
   .cases hp
   .cases hp
   grind
  rw [this] at h;obtain rfl:=Ab h;exact .same _ hp
theorem Kx {mem:BI} {w:World} {ρ:BB} {N:Uh}: ∀{l l' m:List Item},Ux N.keep l=some l'->BV ρ l m->BV (Ks ρ mem N w) l' m
 | [],l',m,h,ht=>by cases ht;obtain rfl:=Ab h;exact .nil
 | x::l,l',m,h,ht=>by
  cases ht with
  | cons hx ht=>
   unfold Ux at h;split at h
   .rename_i y k hy hk;obtain rfl:=Ab h;exact .cons (Iw hy hx) (Kx hk ht)
   .cases h
theorem HG {mem:BI} {next:Nat} {w:World} {ρ:BB} (h:BC ρ mem next w) {N:Uh} (ho:Ju mem N.frz=true) {cx:BK} {ro:Option BN} {todo todo':List Item} {rnd rnd':Option Nat} {env:T BA} {b:Frame} {a:Act} {k:List Item} {ms:List Nat} (ht:Ux N.keep todo=some todo') (hr:DM N.keep rnd=some rnd')
  (hf:Bd ρ cx ro todo rnd env b a k ms) (L:Option (List Nat)):Bd (Ks ρ mem N w) cx ro todo' rnd' (CH (BO P mem N 6) env L) b a k ms/\(rnd'=none->rnd=none):=by
 refine ⟨⟨HF h ho hf.env L,hf.defers,Kx ht hf.todo,hf.ro,?_⟩,fun e=> ?_⟩
 .have hrn:=hf.rnd;cases rnd with
  | none=>obtain rfl:=Ab hr;exact hrn
  | some j=>simp only [DM,Af] at hr;obtain ⟨j',hj,rfl⟩:=hr;obtain ⟨h0,l,h1,h2⟩:=hrn;exact ⟨h0,l,by rw [(Yt hj).2];exact h1,h2⟩
 .cases rnd with
  | none=>rfl
  | some j=>simp_all [DM]
theorem HU {mem:BI} {next:Nat} {w:World} {ρ:BB} (h:BC ρ mem next w) {N:Uh} (ho:Ju mem N.frz=true): ∀{cs cs':List BR} {sl:List (Option (List Nat))} {css:List Frame} {mss:List Nat},Ct (BO P mem N 6) N.keep cs sl=some cs'->Bx P ρ cs css mss->Bx P (Ks ρ mem N w) cs' css mss/\(cs'≠ []->cs≠ [])
 | [],cs',sl,css,mss,hc,hr=>by cases hr;obtain rfl:=Ab hc;exact ⟨.nil,id⟩
 | af::cs,cs',sl,css,mss,hc,hr=>by
  cases hr with
  | cons hf hl ht=>
   unfold Ct at hc;split at hc
   .rename_i todo' rnd' cs'' h1 h2 h3;obtain rfl:=Ab hc;obtain ⟨i1,i2⟩:=HU h ho h3 ht;obtain ⟨f1,f2⟩:=HG (P:=P) h ho h1 h2 hf (sl.headD none);exact ⟨.cons f1 (fun hne=>⟨(hl (i2 hne)).1,fun e=>(hl (i2 hne)).2 (f2 e)⟩) i1,fun _=>by simp⟩
   .cases hc
def CQ (ρ ρ':BB) (L L':List BA):Prop:=L'.length=L.length/\ ∀(j:Nat) (h1:j<L.length) (h2:j<L'.length) (v:Value),Zp ρ L[j] v->Zp ρ' L'[j] v
theorem Ur {mem:BI} {next:Nat} {w:World} {ρ:BB} (h:BC ρ mem next w) {N:Uh} (ho:Ju mem N.frz=true): ∀(rw1:BQ),Cy rw1=true-> ∀k,CQ ρ (Ks ρ mem N w) (rw1.get k) ((Us (BO P mem N 6) rw1).get k)
 | .flat g,hf,k=>by refine ⟨rfl,fun j h1 h2 v hv=> ?_⟩;have bC: ∀i,(g i).all (pf 6)=true:=CN hf;exact ((Xq 6 _ _ (Ao.1 (bC k) _ (Az h1)) hv).mono (Vf h N)).mono (DO _)
 | .one r cs b,hf,k=>by
  have ih:=Ur h ho (N:=N) b hf k;have hc:CQ ρ (Ks ρ mem N w) cs (cs.map (BO P mem N 6)):=⟨by simp,fun j h1 h2 v hv=>by simpa using Xr h ho 6 _ _ hv⟩
  simp only [Us,BQ.get];cases Nat.beq k r with
  | true=>exact hc
  | false=>exact ih
 | .alt c a b,hf,k=>by
  simp only [Cy,Ag] at hf;have iha:=Ur h ho (N:=N) a hf.1 k;have ihb:=Ur h ho (N:=N) b hf.2 k;simp only [Us,BQ.get];cases c k with
  | true=>exact iha
  | false=>exact ihb
theorem I4 {mem:BI} {next:Nat} {w:World} {ρ:BB} (h:BC ρ mem next w) {N:Uh} (ho:Ju mem N.frz=true) (hd:Bn N.keep N.frz=true) (hfl:(Jx P mem N N.keep 0).2=true):BC (Ks ρ mem N w) (Jx P mem N N.keep 0).1 N.keep.length w:=by
 obtain ⟨hnd,hdj⟩:=Qs hd;have get: ∀j,Zb (Jx P mem N N.keep 0).1 j=(N.keep[j]?).bind fun b=>(Zb mem b).map (DB P mem N):=fun j=>by
  grind [HQ]
 have blk: ∀{b' l},(Ks ρ mem N w) b'=some l-> ∃b,N.keep[b']? =some b/\ρ b=some l:=fun {b' l} e=>by
  have e:(N.keep[b']?).bind (fun b=>ρ b)=some l:=e
  grind
 have live: ∀{b' b},N.keep[b']? =some b->(Zb (Jx P mem N N.keep 0).1 b').isSome =true->(Zb mem b).isSome =true:=fun {b' b} e hs=>by
  grind
 refine ⟨fun b' l e=> ?_,fun b' b'' l l' e e' hbl hs hs'=> ?_,fun b' l ab e hm=> ?_,fun k o e=> ?_,fun b' l e hs=> ?_,fun b' l e=> ?_,fun b' hb=> ?_,fun j l e=> ?_,h.ldom.2.mono fun k o e=>Wb h N e⟩
 .grind
 .obtain ⟨b,e1,e2⟩:=blk e;obtain ⟨c,e3,e4⟩:=blk e';have:=h.inj b c l l' e2 e4 hbl (live e1 hs) (live e3 hs');subst this;exact (List.getElem?_inj (Au.1 e1).1 hnd).1 (e1.trans e3.symm)
 .obtain ⟨b,e1,e2⟩:=blk e;rw [get,e1] at hm;simp only [Option.bind_some,Af] at hm;obtain ⟨ab0,hm0,rfl⟩:=hm;cases h.blk b l ab0 e2 hm0 with
  | obj o r ty hab hn hh=>
   subst hab;refine .obj o (r.map (BO P mem N 6)) ty rfl (by rw [hn];simp) ?_;cases o with
   | mi ml=>obtain ⟨rfl,k⟩:=hh;exact ⟨rfl,k⟩
   | mb ml=>obtain ⟨rfl,k⟩:=hh;exact ⟨rfl,k⟩
   | it s pos=>obtain ⟨rfl,k⟩:=hh;exact ⟨rfl,k⟩
   | bld=>obtain ⟨buf,v,p,rfl,k1,k2,k3⟩:=hh;exact ⟨_,v,p,rfl,k1,Xr h ho 6 _ _ k2,k3⟩
   | mit a b c=>obtain ⟨m,mb,rfl,k1,k2⟩:=hh;exact ⟨_,mb,rfl,Xr h ho 6 _ _ k1,k2⟩
  | plain hpl=>
  obtain ⟨hty,hn,ht,har,cs,el,g1,g2,g3⟩:=hpl;obtain ⟨cells,ty,arr⟩:=ab0;cases arr with
  | none=>
   refine .plain ⟨hty,by simpa [DB] using hn,ht,(fun A hA=>by cases hA),cs,el,g1,g2,fun i hi=> ?_⟩
   grind [DB,Xr]
  | some A=>
   obtain ⟨a1,a2,a3⟩:=har A rfl;simp only at a1;have hfb:Fm ⟨cells,ty,some A⟩=true:=Jf N.keep 0 hfl b (List.mem_of_getElem? e1) _ hm0;have hrow:=Ur (P:=P) h ho (N:=N) A.rw hfb;have hl': ∀i,i<A.n->((Us (BO P mem N 6) A.rw).get i).length =A.sz:=fun i hi=>by rw [(hrow i).1];exact a3 i hi
   have k1:=Za A.n a3;have k2:=Za A.n hl';refine .plain ⟨hty,by show l.n=(rows A.n _).length;grind,ht,(fun B hB=>by obtain rfl:=Ab hB;exact ⟨rfl,a2,hl'⟩),cs,el,g1,g2,fun i hi=> ?_⟩;have hi':i<A.n*A.sz:=by rw [<-k2];exact hi
   have hj:i %A.sz<A.sz:=A3 _ a2;have hq:i / A.sz<A.n:=AJ (by grind);have e:i / A.sz*A.sz+i %A.sz=i:=by rw [A7];exact AS i A.sz
   have hic:i<cells.length:=by grind
   have r1:=Yf A.n a3 (i / A.sz) (i %A.sz) hq hj;have r2:=Yf A.n hl' (i / A.sz) (i %A.sz) hq hj;rw [e] at r1 r2;have hi2:i<(rows A.n (Us (BO P mem N 6) A.rw).get).length :=hi;have j1:i %A.sz<(A.rw.get (i / A.sz)).length :=by rw [show A.rw.get=A.get from rfl,a3 _ hq];exact hj
   have j2:i %A.sz<((Us (BO P mem N 6) A.rw).get (i / A.sz)).length :=by grind
   obtain ⟨v,q1,q2⟩:=g3 i hic;have s1:cells[i]=(A.rw.get (i / A.sz))[i %A.sz]:=by
    have:cells[i]? =some (A.rw.get (i / A.sz))[i %A.sz]:=by rw [a1,r1,show A.get=A.rw.get from rfl,Ai j1]
    grind
   have s2:(rows A.n (Us (BO P mem N 6) A.rw).get)[i]'hi2=((Us (BO P mem N 6) A.rw).get (i / A.sz))[i %A.sz]:=by
    grind
   refine ⟨v,q1,?_⟩;show Zp _ ((rows A.n (Us (BO P mem N 6) A.rw).get)[i]'hi2) v;rw [s2];refine (hrow _).2 _ j1 j2 v ?_
   grind
 .have e: @ite _ (Fz ρ mem N k) (Classical.propDecidable _) (w.heap[k]?) (ρ.fz k)=some o:=e;by_cases hf:Fz ρ mem N k
  .grind
  .rw [Aj hf] at e;exact h.old k o e
 .obtain ⟨b,e1,e2⟩:=blk e;have hs0:=live e1 hs;have hnf: ¬Fz ρ mem N l.blk:=fun ⟨c,l',c1,c2,c3,c4⟩=>by
   have:=h.inj c b l' l c2 e2 c4 c3 hs0
   grind
  show @ite _ (Fz ρ mem N l.blk) (Classical.propDecidable _) (w.heap[l.blk]?) (ρ.fz l.blk)=none;rw [Aj hnf];exact h.sep b l e2 hs0
 .obtain ⟨b,_,e2⟩:=blk e;exact h.real b l e2
 .grind
 .have e:(N.keep[j]?).bind (fun b=>ρ.lp b)=some l:=e;have:=h.ldom.1
  grind
theorem DS {H:B8} {mem:BI} {next:Nat} {w0 w:World} {ρ:BB} (h:BC ρ mem next w) {N:Uh} (he:Ev (Uc H) ρ 0 .leaf 0 mem next w0 w) (mem':BI) (next':Nat):Ev (Uc H) (Ks ρ mem N w) 0 .leaf 0 mem' next' w0 w:=
 ⟨⟨fun b l e=>(by cases e),fun k o e=>Wb h N (he.ext.2.1 k o e),fun j l e=>(by cases e)⟩,fun b hb=>absurd hb (Ar _),AD _,fun b hb=>absurd hb (Ar _),he.frame,fun b l _ e=>by
   have e:(N.keep[b]?).bind (fun b=>ρ b)=some l:=e;rw [A1] at e;obtain ⟨c,_,e2⟩:=e;exact he.fresh c l (AD _) e2,he.size,he.os,he.tape,he.output,fun k hk=>by
   have hnf: ¬Fz ρ mem N k:=fun ⟨b,l,_,e2,_,e4⟩=>by
    rcases he.fresh b l (AD _) e2 with h1 | ⟨b0,l0,e0,_⟩
    .omega
    .cases e0
   show @ite _ (Fz ρ mem N k) (Classical.propDecidable _) (w.heap[k]?) (ρ.fz k)=_;rw [Aj hnf];exact he.still k hk⟩
def Ym (P:Program) (C C':BJ):Prop:=
 ∀(H:B8) (w0:World) (ρ:BB) (b:Frame) (a:Act) (k:List Item) (css:List Frame) (w:World) (ma mb:List Nat),CG P w0.heap.size C ρ b a k css w ma mb->Ev (Uc H) ρ 0 .leaf 0 C.st.mem C.st.next w0 w-> ∀cs0:List Frame,
  ∃ρ' b' a' k' css' w' ma' mb',Steps P (lone (b.atR a (Yk C.ro k)) (css++cs0) w) (lone (b'.atR a' (Yk C'.ro k')) (css'++cs0) w')/\CG P w0.heap.size C' ρ' b' a' k' css' w' ma' mb'/\Ev (Uc H) ρ' 0 .leaf 0 C'.st.mem C'.st.next w0 w'/\CU b' css'=CU b css/\w.heap.size<=w'.heap.size
theorem Ym.refl (C:BJ):Ym P C C:=fun H w0 ρ b a k css w ma mb hs he cs0=>⟨ρ,b,a,k,css,w,ma,mb,Steps.refl _ _,hs,he,rfl,Ah _⟩
theorem Ym.trans {A B C:BJ} (h:Ym P A B) (k:Ym P B C):Ym P A C:=by intro H w0 ρ b a t css w ma mb hs he cs0;obtain ⟨ρ1,b1,a1,t1,css1,w1,ma1,mb1,s1,r1,e1,q1,z1⟩:=h H w0 ρ b a t css w ma mb hs he cs0;obtain ⟨ρ2,b2,a2,t2,css2,w2,ma2,mb2,s2,r2,e2,q2,z2⟩:=k H w0 ρ1 b1 a1 t1 css1 w1 ma1 mb1 r1 e1 cs0;exact ⟨ρ2,b2,a2,t2,css2,w2,ma2,mb2,s1.trans s2,r2,e2,q2.trans q1,Ay z1 z2⟩
theorem Jt.goes {C C':BJ} (h:Jt P 0 C C'):Ym P C C':=fun H w0 ρ b a k css w ma mb hs he cs0=>h .leaf 0 (Uc H) w0 ρ b a k css w ma mb hs he cs0
def Fn (C:BJ):Bool:=Nat.beq C.cx.floor 0&&C.cs.all fun af=>Nat.beq af.cx.floor 0
theorem Gy {C:BJ} (h:Fn C=true):Fl 0 C:=by unfold Fn at h;simp only [Ag] at h;exact ⟨Ae h.1,fun af haf=>Ae (Ao.1 h.2 af haf),AD _⟩
theorem Kt {f:BA->BA} {keep:List Nat} {fl:Nat}: ∀{cs cs':List BR} {sl:List (Option (List Nat))},Ct f keep cs sl=some cs'->(∀af∈cs,af.cx.floor=fl)-> ∀af∈cs',af.cx.floor=fl
 | [],cs',sl,h,_,af,haf=>by obtain rfl:=Ab h;cases haf
 | a0::cs,cs',sl,h,hcs,af,haf=>by
  unfold Ct at h;split at h
  .rename_i t1 r1 c1 g1 g2 g3;obtain rfl:=Ab h;rcases AO.1 haf with rfl | haf
   .grind
   .exact Kt g3 (fun x hx=>hcs x (List.mem_cons_of_mem _ hx)) af haf
  .cases h
theorem H8 {N:Uh} {C C':BJ} (h:Cs P N C=some C') (ho:C'.st.ob=true):C.st.ob=true/\Ym P C C'/\(Fl 0 C->Fl 0 C'):=by
 obtain ⟨cx,ro,todo,rnd,rs,⟨env,mem,next,orc,ob⟩,cs,lps⟩:=C;simp only [Cs] at h;split at h
 .rename_i todo' rnd' cs' h1 h2 h3;obtain ⟨hd,h⟩:=Zu h;obtain rfl:=Ab h;simp only [Ag] at ho;obtain ⟨hkm,ho2,ho3⟩:=ho;refine ⟨ho3,fun H w0 ρ b a k css w ma mb hs he cs0=> ?_,fun hfl=>⟨hfl.cx,fun af haf=> ?_,AD _⟩⟩
  .have aA:=hs.rel;simp only at aA he;obtain ⟨f1,f2⟩:=HG (P:=P) aA ho2 h1 h2 hs.top (N.slots.headD none);obtain ⟨c1,c2⟩:=HU (P:=P) aA ho2 h3 hs.rest.cs;refine ⟨Ks ρ mem N w,b,a,k,css,w,ma,mb,Steps.refl _ _,⟨f1,fun hne=>⟨(hs.lv (c2 hne)).1,fun e=>(hs.lv (c2 hne)).2 (f2 e)⟩,⟨c1,hs.rest.nodup,fun r hr=> ?_,fun j L hL=> ?_,fun j j' L L' l hL hL' e e'=> ?_⟩,?_⟩,DS aA he _ _,rfl,Ah _⟩
   .obtain ⟨q1,⟨q2,q3,q4⟩,q5⟩:=hs.rest.marks r hr;refine ⟨q1,⟨q2,?_,fun b' l e=> ?_⟩,q5⟩
    .show @ite _ (Fz ρ mem N r) (Classical.propDecidable _) (w.heap[r]?) (ρ.fz r)=none;rw [Aj fun ⟨c,l,_,e2,_,e4⟩=>q4 c l e2 e4];exact q3
    .have e:(N.keep[b']?).bind (fun b=>ρ b)=some l:=e
     grind
   .obtain ⟨_,c,L0,x,e1,e2,rfl⟩:=Vn N.keep 0 _ j L hL;rw [Nat.sub_zero] at e1;obtain ⟨l,q1,q2,⟨q3,q4,q5⟩,tm,fn',d,q6,q7⟩:=hs.rest.loops c L0 e2;refine ⟨l,?_,q2,⟨q3,?_,fun b' l' e=> ?_⟩,tm,fn',d,q6,HF (P:=P) aA ho2 q7 x⟩
    .show (N.keep[j]?).bind (fun b=>ρ.lp b)=some l
     grind
    .show @ite _ (Fz ρ mem N l) (Classical.propDecidable _) (w.heap[l]?) (ρ.fz l)=none;rw [Aj fun ⟨c,l,_,e2,_,e4⟩=>q5 c l e2 e4];exact q4
    .have e:(N.keep[b']?).bind (fun b=>ρ b)=some l':=e
     grind
   .obtain ⟨_,c,L0,x,e1,e2,rfl⟩:=Vn N.keep 0 _ j L hL;obtain ⟨_,c',L0',x',e1',e2',rfl⟩:=Vn N.keep 0 _ j' L' hL';rw [Nat.sub_zero] at e1 e1';have e:(N.keep[j]?).bind (fun b=>ρ.lp b)=some l:=e;have e':(N.keep[j']?).bind (fun b=>ρ.lp b)=some l:=e';rw [e1] at e;rw [e1'] at e';have:=hs.rest.inj c c' L0 L0' l e2 e2' e e';subst this;exact (List.getElem?_inj (Au.1 e1).1 (Qs hd).1).1 (e1.trans e1'.symm)
   .exact I4 aA ho2 hd hkm
  .exact Kt h3 hfl.cs af haf
 .cases h
theorem Jw {S:BD} {Rc:BF} (hN:Va P) (hmx:P.follows .mixedOrders =true) (hS:Ys P S) (hCI:Bb Rc) (hC:Bp P Rc) {fl:Nat}: ∀(n:Nat) (C C':BJ),Fl fl C->CF P S Rc n C=some C'->Fl fl C'/\Zf fl C.st C'.st/\(C'.st.ob=true->Jt P fl C C')
 | 0,C,C',hfl,h=>by
  obtain rfl:=Ab h
  grind [Zf.refl,Jt.refl]
 | n+1,C,C',hfl,h=>by
  have h:(match Cu P S Rc C with
   | some C'=>CF P S Rc n C'
   | none=>none)=some C':=h
  split at h
  .rename_i C1 h1;have s1:=HX hN hmx hS hCI hC hfl h1;obtain ⟨f1,f4,f5⟩:=Jw hN hmx hS hCI hC n C1 C' s1.fls h;exact ⟨f1,s1.inv.trans f4,fun ho=>(s1.leads (f4.ob ho)).trans (f5 ho)⟩
  .cases h
theorem Zk {S:BD} (hN:Va P) (hmx:P.follows .mixedOrders =true) (hS:Ys P S) {n m d:Nat} {N:Uh} {C C':BJ} (h:(CF P S (Bm P S m d) n C).bind (Cs P N)=some C') (ho:C'.st.ob=true) (hfl:Fn C=true):Ym P C C'/\C.st.ob=true:=by rw [A1] at h;obtain ⟨C1,h1,h2⟩:=h;obtain ⟨hCI,hC⟩:=Fc hN hmx hS m d;obtain ⟨f1,f2,f3⟩:=Jw hN hmx hS hCI hC n C C1 (Gy hfl) h1;obtain ⟨g1,g2,_⟩:=H8 h2 ho;exact ⟨(f3 g1).goes.trans g2,f2.ob g1⟩
def startC (P:Program) (f:FuncId) (args:List BA) (sym:Bool) (orc:List Bool):BJ:=
 match P.funcs[f]? with
 | some fn=>⟨⟨Nat.max fn.ntmps args.length,0,sym⟩,none,[.code (fn.body.getD .ret)],none,fn.results.toList,⟨Qn args 0 .leaf,.leaf,0,orc,true⟩,[],.leaf⟩
 | none=>⟨⟨0,0,sym⟩,none,[],none,[],⟨.leaf,.leaf,0,[],true⟩,[],.leaf⟩
theorem goes_call {f:FuncId} {args:List BA} {sym:Bool} {orc:List Bool} {C':BJ} {vs:List BA} {H:B8} (hf:(P.funcs[f]?).any (fun fn=>fn.body.isSome)=true) (h:Ym P (startC P f args sym orc) C') (hfin:Qf C'=true) (hob:(aResults P C'.st (startC P f args sym orc).rs)=some vs)
  {vals:Array Value} {w:World} (aE:Yh (Zp (Uc H)) args vals.toList) (hH: ∀k o,H k=some o->w.heap[k]? =some o) (hG:C9 H):
  Calls P f vals w fun e w'=> ∃ρ u,e=.returned u/\Hq H w ρ (DA vs) u w':=by
 cases hfn:P.funcs[f]? with
 | none=>grind
 | some fn=>
  rw [hfn] at hf;have hf:fn.body.isSome=true:=hf;obtain ⟨body,hb⟩:=Option.isSome_iff_exists.1 hf;have hstart:startC P f args sym orc=⟨⟨Nat.max fn.ntmps args.length,0,sym⟩,none,[.code body],none,fn.results.toList,⟨Qn args 0 .leaf,.leaf,0,orc,true⟩,[],.leaf⟩:=by unfold startC;grind
  rw [hstart] at h hob;simp only at hob;intro cs;obtain ⟨ρ',b',a',k',css',w',ma',mb',s1,r1,v1,q1,_⟩:=h H w (Uc H) ⟨f, #[],[],[],.run,.normal,none⟩ {tmps:=vals++Array.replicate (fn.ntmps - vals.size) undef,defers:=[]} [.code body] [] w [] []
   ⟨⟨Qh aE fn.ntmps,rfl,.cons (.same _ rfl) .nil,trivial,rfl⟩,fun h=>absurd rfl h,Hc _ _ _,HT hH hG⟩ (Ev.refl _ _ _ _ _ (HT hH hG).dom) cs
  obtain ⟨e1,e2,e3,e4⟩:=Qe hfin;have hcs:=r1.rest.cs;rw [e3] at hcs;cases hcs;obtain ⟨w2,s2,henv',aT,bK,_,_⟩:=Qo r1 e1 e2 e4 rfl v1 cs;obtain ⟨u,hu,hres⟩:=Wt (fn:=fn) henv' aT hob;have q:(b'.fn,b'.kind,b'.roundOf)=(f,CallKind.normal,none):=q1;simp only [Aa] at q;have hen:Frame.enter P f vals .normal =Frame.atR ⟨f, #[],[],[],.run,.normal,none⟩ {tmps:=vals++Array.replicate (fn.ntmps - vals.size) undef,defers:=[]} (Yk none [.code body]):=by
   grind [Frame.enter,Frame.atR,Yk]
  refine ⟨.returned u,w2,{b'.atR {a' with defers:=[]} k' with mode:=.returning},⟨ρ',u,rfl,Ce hu aT bK⟩,?_,q.1,rfl,rfl,q.2.1,fn,by show P.funcs[b'.fn]? =_;grind,hres⟩;rw [hen];exact s1.trans s2
end
open Go.ChangeShapes Go.WideShapes Go.Deep
open Go.Proofs.Try
open Go.Proofs
theorem DQ :GO prog:=fun h=>by
 have:(prog.funcs[CK]?).isSome =false:=by kernel_rfl
 rw [this] at h;cases h
def Cg (P:Program):Bool:=P.funcs.toList.all fun fn=>fn.body.isNone|| !(fn.name == "runtime.NumGoroutine")
theorem KJ {P:Program} (h:Cg P=true) (hs:GO P):Va P:=by
 refine ⟨fun f fn hf hb=> ?_,hs⟩;have hm:fn∈P.funcs.toList:=by rw [Array.mem_toList_iff];exact Array.mem_of_getElem? hf
 have:=Ao.mp h fn hm;cases hbb:fn.body with
 | none=>rw [hbb] at hb;cases hb
 | some b=>simpa [hbb] using this
theorem Zi :Va prog:=KJ (by kernel_rfl) DQ
theorem Zn :prog.follows .mixedOrders =true:=by kernel_rfl
end Go.Am
namespace Go.Am
open IntKind (wrap)
section
variable {P:Program}
def GZ (floor:Nat) (st:St):Op->Option (List (BA×St))
 | .next x false=>match st.eval x with
  | .ptr b 0=>bif Nat.ble floor b then match Zb st.mem b with
   | some ⟨[.obj (.mit since seen last),.mapr m],ty,none⟩=>match Zb st.mem m with
    | some ⟨[.obj (.mb l)],_,none⟩=>bif Nat.beq last l.length&&(Nat.beq since l.length&& !((List.range l.length).all fun i=>seen.contains i)) then
      some (((List.range l.length).filter fun i=> !seen.contains i).map fun i=>(.tup [.bool true,.str (l.getD i ([],false)).1,.bool (l.getD i ([],false)).2],st.withMem (Zt st.mem b (some ⟨[.obj (.mit since (seen++[i]) last),.mapr m],ty,none⟩))))
     else none
    | _=>none
   | _=>none
   else none
  | _=>none
 | _=>none
theorem IB {ρ:BB} {o:Oper} {floor:Nat} {st:St} {L:List (BA×St)} (h:GZ floor st o.op=some L) {a:Act} (hr:Xk ρ st.eval a.eval o.op) {w:World} (aA:BC ρ st.mem st.next w):
  ∃p∈L,p.2.env=st.env/\p.2.ob=st.ob/\ ∃u w',(execOp a.eval o).run P w=.ok (.value u) w'/\BU ρ floor st p.2 p.1 w ρ u w':=by
 obtain ⟨dst,op,type,pos,after,guard⟩:=o;simp only at h hr;unfold GZ at h;split at h
 .rename_i x;have hx:=hr x (by simp [Op.operands]);split at h
  .rename_i b ex;obtain ⟨hf,h⟩:=Zu h;have hf:=Ad hf;rw [ex] at hx;generalize hux:a.eval x=ux at hx;split at h
   .rename_i since seen last m ty hm;split at h
    .rename_i ml ty2 hm2;obtain ⟨hc,h⟩:=Zu h;simp only [Ag] at hc;obtain ⟨hc1,hc2,hc3⟩:=hc;obtain rfl:=Ab h;cases hx with
     | ptr _ _ l hl=>
     have bA:=aA.objBase hl hm;rw [bA,AQ] at hux;obtain ⟨es,aB,hse,hbr,hes,ho,lm,hlm⟩:=aA.mitAt (P:=P) (a:=type) hl hm hm2 hc1 hc2;have aC:es.toList.length=ml.length:=(by rw [AC,hse]);rcases aB with ⟨h0,_⟩ | ⟨e,he,w1,hw1,aB⟩
     .exfalso;obtain ⟨i,hi,hns⟩: ∃i,i<ml.length/\seen.contains i=false:=by simp only [AB,List.all_eq_false,At] at hc3;obtain ⟨i,hi,hs⟩:=hc3;exact ⟨i,hi,by simpa using hs⟩
      have hat:es.toList[i]? =some (es.toList[i]'(by omega)):=Ai (by omega);have:es.toList[i]'(by omega)∈(leftOf es ⟨seen⟩).toList :=by
       rw [leftOf,Array.toList_filter,AH];refine ⟨Az _,?_⟩;rw [hbr.at hat]
       simpa using hns
      have:=List.length_pos_of_mem this;rw [AC] at this;omega
     .rw [leftOf,Array.toList_filter,AH] at he;obtain ⟨he1,he2⟩:=he;obtain ⟨i,hi,hei⟩:=AP he1;have hat:es.toList[i]? =some e:=(by rw [Ai hi,hei]);have cB:=hbr.at hat;have hns:seen.contains i=false:=by rw [<-cB];simpa using he2
      have hkv:((e.key,e.val):Value×Value)=(.string ⟨(ml.getD i ([],false)).1.toArray⟩,.bool (ml.getD i ([],false)).2):=by
       have h1:(es.toList.map (fun e=>(e.key,e.val)))[i]? =some (e.key,e.val):=by rw [AG,hat];rfl
       have h2:ml[i]? =some (ml.getD i ([],false)):=by rw [List.getD_eq_getElem?_getD,Ai (by omega)];rfl
       rw [hes,AG,h2] at h1;exact (Ab h1).symm
      simp only [Aa] at hkv;rw [hkv.1,hkv.2,cB] at aB;have aO:BC ρ st.mem st.next w1:=by
       rcases hw1 with rfl | rfl
       .exact aA
       .exact aA.drawn _
      refine ⟨_,List.mem_map_of_mem (a:=i) (AH.2 ⟨At.2 (by omega),by simpa using hns⟩),rfl,rfl,_,_,by simp only [execOp,hux];simp only [Sem.run_bind,aB,Result.andThen];rfl,?_,?_,?_⟩
      .exact .tup _ _ rfl fun j h1 h2=>by
        match j with
        | 0=>exact .bool _
        | 1=>exact .str _
        | 2=>exact .bool _
        | j+3=>simp at h1;omega
      .exact aO.setObj (o':=.mit since (seen++[i]) last) (r':=[.mapr m]) hl hm rfl rfl _ ⟨.mapr m,lm.blk,rfl,.mapr _ _ hlm,by rw [hlm];simp⟩
      .rcases hw1 with rfl | rfl
       .exact Ev.ofObj aO hl hf _ _
       .exact Ev.drawn (Ev.ofObj aO hl hf _ _)
    .cases h
   .cases h
  .cases h
 .cases h
def DC :BJ->Option (List (Option BJ))
 | ⟨cx,some (ops,i,⟨dst,op,t,p,a,none⟩::l),todo,rnd,rs,st,cs,lps⟩=>(GZ cx.floor st op).map fun L=>L.map fun q=>(q.2.put cx dst q.1).map fun st3=>⟨cx,some (ops,i+1,l),todo,rnd,rs,st3,cs,lps⟩
 | _=>none
theorem KF {C D:BJ} {L:List (Option BJ)} (hfl:Fl 0 C) (h:DC C=some L) (hD: ∀x∈L,∃C',x=some C'/\Ym P C' D):Ym P C D:=by
 unfold DC at h;split at h
 .rename_i cx ops i dst op t p aft l todo rnd rs st cs lps;simp only [Af] at h;obtain ⟨L0,hL0,rfl⟩:=h;intro H w0 ρ b a k css w ma mb hs he cs0;obtain ⟨aD,hdf,htd,⟨hro,aV⟩,aL⟩:=hs.top;simp only at aD hdf htd hro aL;obtain ⟨bV,hl',cC⟩:=Fb hro;have aA:=hs.rel;simp only at aA;obtain ⟨q,hq,q1,q2,u,w',aB,bB⟩:=IB (P:=P) (o:=⟨dst,op,t,p,aft,none⟩) hL0 (a:=a) (fun y _=>aD.eval y) aA;obtain ⟨C',hC',hgo⟩:=hD _ (List.mem_map_of_mem hq);obtain ⟨st3,bH,rfl⟩:=Af.1 hC';obtain ⟨p1,p2,p3,p4⟩:=Yx bH;have hev:Ev ρ ρ cx.floor st.mem st.next st3.mem st3.next w w':=by rw [p1,p2];exact bB.ev
  have hw:Region.wanted (⟨dst,op,t,p,aft,none⟩:Oper) (yielded ops a.tmps)=true:=rfl;obtain ⟨a',w2,⟨hd',he',hr',hev2⟩,aN⟩:=Ke (P:=P) (b:=b) (k:=k) (cs:=css++cs0) (rest:=(List.range ops.size).drop (i+1)) (o:=⟨dst,op,t,p,aft,none⟩) (a:=a) (w:=w)
   (K:=fun a' w2=>a'.defers=a.defers/\Yv ρ st3.env cx.n a'.tmps/\BC ρ st3.mem st3.next w2/\Ev ρ ρ cx.floor st.mem st.next st3.mem st3.next w w2) (Q:=fun e _ _=>e=.normal) (fun e a w h=>h) bV (Xc aV bV) (by
    rw [Ap hw];unfold Oper.wp;rw [aB];refine ⟨Act.put_defers' _ _ _,?_,by rw [p1,p2];exact bB.rel,hev⟩;rcases p4 with ⟨e,he2⟩ | ⟨d',e,hlt,he2⟩
    .subst e;rw [he2,q1];exact aD
    .subst e;rw [he2,q1];exact aD.put bB.val (.inr ⟨d',rfl,hlt,rfl⟩))
  have e0:cx.floor=0:=hfl.cx;rw [e0] at hev2;have hs':CG P w0.heap.size ⟨cx,some (ops,i+1,l),todo,rnd,rs,st3,cs,lps⟩ ρ b a' k css w2 ma mb:=
   ⟨⟨he',by rw [hd'];exact hdf,htd.mono fun _ _=>B3.mono hev2.ext,⟨hl',aV⟩,((⟨aD,hdf,htd,⟨hro,aV⟩,aL⟩:Bd ρ cx (some (ops,i,⟨dst,op,t,p,aft,none⟩::l)) todo rnd st.env b a k ma).mono hev2.ext).rnd⟩,hs.lv,hs.rest.ev hev2,hr'⟩
  obtain ⟨ρ2,b2,a2,k2,css2,w3,ma2,mb2,s2,r2,v2,t2,z2⟩:=hgo H w0 ρ b a' k css w2 ma mb hs' (he.trans hev2) cs0;exact ⟨ρ2,b2,a2,k2,css2,w3,ma2,mb2,Steps.trans (by rw [Yk,cC];exact aN) s2,r2,v2,t2,Ay hev2.size z2⟩
 .cases h
def Bz (P:Program) (S:BD) (R:BF):List Nat->BJ->List (Option BJ)
 | [],C=>[some C]
 | n::ns,C=>match CF P S R n C with
  | some C1=>match bif C1.st.ob then DC C1 else none with
   | some L=>L.flatMap fun x=>match x with
    | some C2=>Bz P S R ns C2
    | none=>[none]
   | none=>[none]
  | none=>[none]
def Br (P:Program) (S:BD) (R:BF):List (Option BJ)->List (Nat×Uh)->Option (List BJ)
 | [],[]=>some []
 | some C::xs,q::ps=>match (CF P S R q.1 C).bind (Cs P q.2),Br P S R xs ps with
  | some C',some l=>some (C'::l)
  | _,_=>none
 | _,_=>none
theorem H2 {S:BD} {R:BF}: ∀{xs:List (Option BJ)} {ps:List (Nat×Uh)} {l:List BJ},Br P S R xs ps=some l-> ∀x∈xs,∃C n N C',x=some C/\(CF P S R n C).bind (Cs P N)=some C'/\C'∈l
 | [],_,_,_,x,hx=>by cases hx
 | none::xs,[],l,h,x,hx=>by cases h
 | none::xs,_::_,l,h,x,hx=>by cases h
 | some C::xs,[],l,h,x,hx=>by cases h
 | some C::xs,q::ps,l,h,x,hx=>by
  unfold Br at h;split at h
  .rename_i C' l' h1 h2;obtain rfl:=Ab h;rcases AO.1 hx with rfl | hx
   .exact ⟨C,q.1,q.2,C',rfl,h1,A2 ..⟩
   .obtain ⟨C2,n,N,C3,e1,e2,e3⟩:=H2 h2 x hx;exact ⟨C2,n,N,C3,e1,e2,List.mem_cons_of_mem _ e3⟩
  .cases h
theorem Hx {S:BD} (hN:Va P) (hmx:P.follows .mixedOrders =true) (hS:Ys P S) {n m d:Nat} {N:Uh} {C C':BJ} (h:(CF P S (Bm P S m d) n C).bind (Cs P N)=some C') (ho:C'.st.ob=true) (hfl:Fl 0 C):Ym P C C'/\C.st.ob=true:=by rw [A1] at h;obtain ⟨C1,h1,h2⟩:=h;obtain ⟨hCI,hC⟩:=Fc hN hmx hS m d;obtain ⟨f1,f2,f3⟩:=Jw hN hmx hS hCI hC n C C1 hfl h1;obtain ⟨g1,g2,_⟩:=H8 h2 ho;exact ⟨(f3 g1).goes.trans g2,f2.ob g1⟩
theorem Ck {C:BJ} {L:List (Option BJ)} (hfl:Fl 0 C) (h:DC C=some L) {C':BJ} (hC:some C'∈L):Fl 0 C':=by
 unfold DC at h;split at h
 .simp only [Af] at h;obtain ⟨L0,hL0,rfl⟩:=h;obtain ⟨q,hq,e⟩:=List.mem_map.1 hC;obtain ⟨st3,bH,rfl⟩:=Af.1 e;exact ⟨hfl.cx,hfl.cs,AD _⟩
 .cases h
theorem HZ {S:BD} (hN:Va P) (hmx:P.follows .mixedOrders =true) (hS:Ys P S) {m d:Nat} {D:BJ}: ∀(ns:List Nat) (C:BJ),Fl 0 C->(∀x∈Bz P S (Bm P S m d) ns C,∃C',x=some C'/\(Fl 0 C'->Ym P C' D/\C'.st.ob=true))->Ym P C D/\C.st.ob=true
 | [],C,hfl,h=>by obtain ⟨C',e,h2⟩:=h (some C) (A5.2 rfl);obtain rfl:=Ab e;exact h2 hfl
 | n ::ns,C,hfl,h=>by
  unfold Bz at h;cases h1:CF P S (Bm P S m d) n C with
  | none=>rw [h1] at h;obtain ⟨C',e,_⟩:=h none (A5.2 rfl);cases e
  | some C1=>
   rw [h1] at h;simp only at h;obtain ⟨hCI,hC⟩:=Fc hN hmx hS m d;obtain ⟨f1,f2,f3⟩:=Jw hN hmx hS hCI hC n C C1 hfl h1;cases hob:C1.st.ob with
   | false=>rw [hob,Ax] at h;obtain ⟨C',e,_⟩:=h none (A5.2 rfl);cases e
   | true=>
    rw [hob,Aq] at h;cases h2:DC C1 with
    | none=>rw [h2] at h;obtain ⟨C',e,_⟩:=h none (A5.2 rfl);cases e
    | some L=>
     rw [h2] at h;refine ⟨(f3 hob).goes.trans (KF f1 h2 fun x hx=> ?_),f2.ob hob⟩;cases x with
     | none=>obtain ⟨C',e,_⟩:=h none (List.mem_flatMap.2 ⟨none,hx,A5.2 rfl⟩);cases e
     | some C2=>exact ⟨C2,rfl,(HZ hN hmx hS ns C2 (Ck f1 h2 hx) fun y hy=>h y (List.mem_flatMap.2 ⟨some C2,hx,hy⟩)).1⟩
theorem HJ {S:BD} (hN:Va P) (hmx:P.follows .mixedOrders =true) (hS:Ys P S) {ns:List Nat} {ps:List (Nat×Uh)} {k m d:Nat} {C D:BJ} (h:Br P S (Bm P S m d) (Bz P S (Bm P S m d) ns C) ps=some (List.replicate k D)) (ho:D.st.ob=true) (hfl:Fn C=true):Ym P C D/\C.st.ob=true:=
 HZ hN hmx hS ns C (Gy hfl) fun x hx=>by obtain ⟨C1,n,N,C',e1,e2,e3⟩:=H2 h x hx;obtain rfl:=(List.mem_replicate.1 e3).2;exact ⟨C1,e1,fun hf=>Hx hN hmx hS e2 ho hf⟩
end
def BA.z (n:Int):BA:=.int .i64 n
def zs (l:List Int):List BA:=l.map BA.z
def bz (l:List Int) (t:TypeId):Option BG:=some ⟨zs l,t,none⟩
def bk (l:List BA) (t:TypeId):Option BG:=some ⟨l,t,none⟩
def T.u :T BA:=.node .undef .leaf .leaf
def T.k (l r:T BA):T BA:=.node .undef l r
def T.kl (r:T BA):T BA:=.node .undef .leaf r
def T.kr (l:T BA):T BA:=.node .undef l .leaf
def T.o (v:BA):T BA:=.node v .leaf .leaf
def T.m (v:Option BG):T (Option BG):=.node v .leaf .leaf
open Go.Proofs.Try
open Go.Proofs
def BH :BJ:=startC prog 3 [] false []
theorem Ga :Ym prog BH BH:=Ym.refl _
def Gj :BJ:=⟨⟨44,0,false⟩,(Zv prog 21 [1,1,0,1,0,0,1,1,0,1,1,0] 12),(Zy prog 21 [1,1,0,1,0,0,1,1,0,1,1,0] 1),none,(Zz prog 9),⟨(.k (.k (.kr (.kr (.node (.ptr 16 0) (.o (.tup [])) .leaf))) (.kl (.kr (.kr (.o (.tup [])))))) (.k (.node (.int .i32 111) .leaf (.kl (.o (.bool false)))) (.kr (.kr (.kr (.o (.tup []))))))),(.node (bk [(.str [104,111,117,115,101]),(.str [115,116,114,101,101,116])] 9) (.node (bk [(.int .u8 1),(.int .u8 0),(.str [104,111,117,115,101,45,114]),.nils,.nils] 60) (.node (bk [(.str [116,111,119,110,45,114]),.nils,(.sl 2 0 1 (.ex 1))] 37) (.node (bk [(.str [104,111,117,115,101,45,114]),.nils,(.sl 6 0 1 (.ex 1))] 37) (.m (bk [(.str [104,111,117,115,101,45,114]),.nils,(.sl 6 0 1 (.ex 1))] 37)) .leaf) (.m (bk [(.str [116,111,119,110]),(.sl 0 0 2 (.ex 2)),.nils,(.sl 3 0 1 (.ex 1)),(.str [104,111,117,115,101]),(.sl 4 0 1 (.ex 1)),.nils,(.sl 7 0 1 (.ex 1)),(.str [115,116,114,101,101,116]),(.sl 8 0 1 (.ex 1)),.nils,(.sl 9 0 1 (.ex 1)),(.str [119,97,108,108]),.nils,.nils,(.sl 10 0 1 (.ex 1))] 33))) (.node (bk [(.int .u8 1),(.int .u8 0),(.str [119,97,108,108,45,114]),.nils,.nils] 60) (.m (bk [(.str [115,116,114,101,101,116,45,114]),.nils,.nils] 37)) (.m (bk [(.str [104,111,117,115,101]),(.sl 4 0 1 (.ex 1)),.nils,(.sl 7 0 1 (.ex 1))] 33)))) (.node (bk [(.z 1),(.int .u8 1),(.int .u8 2),(.z 0),(.z 0),(.bool true),(.str []),.nils,(.str []),.nils,(.sl 1 0 1 (.ex 1))] 63) (.node (bk [(.str [119,97,108,108])] 9) (.node (bk [(.str [119,97,108,108])] 9) (.m (bk [(.obj (.it [104,111,117,115,101,45,114] 2))] 9)) .leaf) (.m (bk [(.sl 11 0 4 (.ex 4))] 22))) (.node (bk [(.z 1),(.int .u8 1),(.int .u8 2),(.z 0),(.z 0),(.bool true),(.str []),.nils,(.str []),.nils,(.sl 5 0 1 (.ex 1))] 63) (.m (bk [(.str [119,97,108,108,45,114]),.nils,.nils] 37)) (.m (bk [.nils,(.sl 7 0 1 (.ex 1))] 31))))),17,[],true⟩,[⟨⟨11,0,false⟩,(Zv prog 61 [1,0] 1),(Zy prog 61 [1,0] 1),none,(Zz prog 9),(.node (.str [104,111,117,115,101,45,114]) (.kr (.o (.str [104,111,117,115,101,45,114]))) .leaf)⟩,⟨⟨79,0,false⟩,(Zv prog 33 [1,1,0,1,0,0,1,1,0,0,1,0,0] 2),(Zy prog 33 [1,1,0,1,0,0,1,1,0,0,1,0,0] 1),none,(Zz prog 9),(.k (.k (.kr (.kr (.kr (.o (.z 1))))) (.kl (.kr (.kr (.o (.str [104,111,117,115,101,45,114])))))) (.k (.kr (.kr (.kr (.o (.z 0))))) (.node (.ptr 15 0) .leaf (.kl (.o (.sl 7 0 1 (.ex 1)))))))⟩,⟨⟨170,0,false⟩,(Zv prog 18 [1,1,0,0] 1),(Zy prog 18 [1,1,0,0] 1),none,(Zz prog 9),(.kr (.node (.ptr 14 0) (.kl (.kl (.o (.agg [.nils,(.sl 7 0 1 (.ex 1))])))) .leaf))⟩,⟨⟨72,0,false⟩,(Zv prog 9 [1,1,0,1,0,0,1,1,0,0,1,1,0,0] 2),(Zy prog 9 [1,1,0,1,0,0,1,1,0,0,1,1,0,0] 1),none,(Zz prog 9),(.k (.node (.ptr 12 0) (.kr (.kr (.o (.z 4)))) (.kr (.kl (.o (.agg [.nils,(.sl 7 0 1 (.ex 1))]))))) (.k (.node (.ptr 13 0) (.kr (.o (.z 1))) .leaf) (.kl (.o (.sl 11 0 4 (.ex 4))))))⟩,⟨⟨27,0,false⟩,(Zv prog 5 [1,0,0] 1),(Zy prog 5 [1,0,0] 1),none,(Zz prog 5),(.node (.sl 11 0 4 (.ex 4)) (.node (.str [116,111,119,101,114]) .leaf (.kr (.o (.sl 11 0 4 (.ex 4))))) .leaf)⟩,⟨⟨232,0,false⟩,(Zv prog 3 [1,1,0] 1),(Zy prog 3 [1,1,0] 1),none,(Zz prog 3),(.kr (.node (.sl 11 0 4 (.ex 4)) (.kl (.kr (.kr (.o (.sl 11 0 4 (.ex 4)))))) .leaf))⟩],.leaf⟩
theorem G9 :Ym prog BH Gj:=Ga.trans (Zk Zi Zn Zw (n:=5000) (m:=100000) (d:=4) (N:=⟨[0,4,5,6,7,11,12,13,14,18,22,23,24,85,87,93,94],[],[some [4,15,28,31,34,37],some [0,3],some [6,30,31,32,37],some [1,27],some [1,4,14,15,16,25],some [0,1,9],some [1,35]],[none,none,none,none,none,none,none,none,none,none,none,none,none,none,none,none,none]⟩) (by kernel_rfl) rfl (by kernel_rfl)).1
def Gi :BJ:=⟨⟨44,0,false⟩,none,(Zy prog 21 [1,0,0] 0),none,(Zz prog 9),⟨(.o (.str [119,97,108,108])),(.node (bk [(.str [104,111,117,115,101]),(.str [115,116,114,101,101,116])] 9) (.node (bk [(.int .u8 1),(.int .u8 0),(.str [104,111,117,115,101,45,114]),.nils,.nils] 60) (.node (bk [(.str [116,111,119,110,45,114]),.nils,(.sl 2 0 1 (.ex 1))] 37) (.m (bk [(.str [104,111,117,115,101,45,114]),.nils,(.sl 6 0 1 (.ex 1))] 37)) (.m (bk [(.str [116,111,119,110]),(.sl 0 0 2 (.ex 2)),.nils,(.sl 3 0 1 (.ex 1)),(.str [104,111,117,115,101]),(.sl 4 0 1 (.ex 1)),.nils,(.sl 7 0 1 (.ex 1)),(.str [115,116,114,101,101,116]),(.sl 8 0 1 (.ex 1)),.nils,(.sl 9 0 1 (.ex 1)),(.str [119,97,108,108]),.nils,.nils,(.sl 10 0 1 (.ex 1))] 33))) (.node (bk [(.int .u8 1),(.int .u8 0),(.str [119,97,108,108,45,114]),.nils,.nils] 60) (.m (bk [(.str [115,116,114,101,101,116,45,114]),.nils,.nils] 37)) (.m (bk [(.str [119,97,108,108]),.nils,.nils,(.sl 10 0 1 (.ex 1))] 33)))) (.node (bk [(.z 1),(.int .u8 1),(.int .u8 2),(.z 0),(.z 0),(.bool true),(.str []),.nils,(.str []),.nils,(.sl 1 0 1 (.ex 1))] 63) (.node (bk [(.str [119,97,108,108])] 9) (.m (bk [(.str [119,97,108,108])] 9)) (.m (bk [(.sl 11 0 4 (.ex 4))] 22))) (.node (bk [(.z 1),(.int .u8 1),(.int .u8 2),(.z 0),(.z 0),(.bool true),(.str []),.nils,(.str []),.nils,(.sl 5 0 1 (.ex 1))] 63) (.m (bk [(.str [119,97,108,108,45,114]),.nils,.nils] 37)) .leaf))),14,[],true⟩,[⟨⟨72,0,false⟩,(Zv prog 9 [1,1,0,1,0,0,1,1,0,0,1,0,0] 2),(Zy prog 9 [1,1,0,1,0,0,1,1,0,0,1,0,0] 1),none,(Zz prog 9),(.k (.node (.ptr 12 0) (.kr (.kr (.o (.z 4)))) (.kl (.kr (.o (.str [119,97,108,108]))))) (.k (.node (.ptr 13 0) (.kr (.o (.z 3))) .leaf) (.kl (.o (.sl 11 0 4 (.ex 4))))))⟩,⟨⟨27,0,false⟩,(Zv prog 5 [1,0,0] 1),(Zy prog 5 [1,0,0] 1),none,(Zz prog 5),(.node (.sl 11 0 4 (.ex 4)) (.node (.str [116,111,119,101,114]) .leaf (.kr (.o (.sl 11 0 4 (.ex 4))))) .leaf)⟩,⟨⟨232,0,false⟩,(Zv prog 3 [1,1,0] 1),(Zy prog 3 [1,1,0] 1),none,(Zz prog 3),(.kr (.node (.sl 11 0 4 (.ex 4)) (.kl (.kr (.kr (.o (.sl 11 0 4 (.ex 4)))))) .leaf))⟩],.leaf⟩
theorem G8 :Ym prog BH Gi:=G9.trans (Zk Zi Zn Zw (n:=5000) (m:=100000) (d:=4) (N:=⟨[0,1,2,3,4,5,6,7,8,9,10,11,12,85],[],[some [0],some [1,4,14,15,16,21],some [0,1,9],some [1,35]],[none,none,none,none,none,none,none,none,none,none,none,none,none,none]⟩) (by kernel_rfl) rfl (by kernel_rfl)).1
def Gh :BJ:=⟨⟨30,0,false⟩,(Zv prog 81 [1,1,0,1,0,0,0,0,0,0,0,0,0,0,0,0,0,1,1,1,0,0,1,1,1,1] 2),(Zy prog 81 [1,1,0,1,0,0,0,0,0,0,0,0,0,0,0,0,0,1,1,1,0,0,1,1,1,1] 1),none,(Zz prog 9),⟨(.k (.kr (.o (.z (-2)))) (.kr (.node (.int .u8 1) .leaf (.kr (.o (.bool false)))))),(.node (bk [(.str [104,111,117,115,101]),(.str [115,116,114,101,101,116])] 9) (.node (bk [(.int .u8 1),(.int .u8 0),(.str [104,111,117,115,101,45,114]),.nils,.nils] 60) (.node (bk [(.str [116,111,119,110,45,114]),.nils,(.sl 2 0 1 (.ex 1))] 37) (.node (bk [(.str [104,111,117,115,101,45,114]),.nils,(.sl 6 0 1 (.ex 1))] 37) (.m (bk [(.z 1),(.int .u8 1),(.int .u8 2),(.z 0),(.z 0),(.bool true),(.str []),.nils,(.str []),.nils,(.sl 1 0 1 (.ex 1))] 63)) .leaf) (.m (bk [(.str [116,111,119,110]),(.sl 0 0 2 (.ex 2)),.nils,(.sl 3 0 1 (.ex 1)),(.str [104,111,117,115,101]),(.sl 4 0 1 (.ex 1)),.nils,(.sl 7 0 1 (.ex 1)),(.str [115,116,114,101,101,116]),(.sl 8 0 1 (.ex 1)),.nils,(.sl 9 0 1 (.ex 1)),(.str [119,97,108,108]),.nils,.nils,(.sl 10 0 1 (.ex 1))] 33))) (.node (bk [(.int .u8 1),(.int .u8 0),(.str [119,97,108,108,45,114]),.nils,.nils] 60) (.m (bk [(.str [115,116,114,101,101,116,45,114]),.nils,.nils] 37)) (.m (bk [(.str [116,111,119,110]),(.sl 0 0 2 (.ex 2)),.nils,(.sl 3 0 1 (.ex 1))] 33)))) (.node (bk [(.z 1),(.int .u8 1),(.int .u8 2),(.z 0),(.z 0),(.bool true),(.str []),.nils,(.str []),.nils,(.sl 1 0 1 (.ex 1))] 63) (.node (bk [(.str [119,97,108,108])] 9) (.node (bk [(.str [119,97,108,108])] 9) (.m (bk [(.int .u8 1),(.int .u8 2),(.z 0),(.z 0),(.bool true),(.str []),.nils,(.str []),.nils] 57)) .leaf) (.m (bk [(.sl 11 0 4 (.ex 4))] 22))) (.node (bk [(.z 1),(.int .u8 1),(.int .u8 2),(.z 0),(.z 0),(.bool true),(.str []),.nils,(.str []),.nils,(.sl 5 0 1 (.ex 1))] 63) (.m (bk [(.str [119,97,108,108,45,114]),.nils,.nils] 37)) (.m (bk [.nils,(.sl 3 0 1 (.ex 1))] 31))))),17,[],true⟩,[⟨⟨66,0,false⟩,(Zv prog 79 [1,0,0] 2),(Zy prog 79 [1,0,0] 1),none,(Zz prog 9),(.kr (.node (.ptr 16 0) .leaf (.o (.int .u8 1))))⟩,⟨⟨19,0,false⟩,(Zv prog 62 [1,1,0,0] 1),(Zy prog 62 [1,1,0,0] 1),none,(Zz prog 9),(.kl (.kr (.kr (.kr (.o (.agg [(.int .u8 1),(.int .u8 2),(.z 0),(.z 0),(.bool true),(.str []),.nils,(.str []),.nils]))))))⟩,⟨⟨79,0,false⟩,(Zv prog 33 [1,1,0,1,0,0,1,1,0,0,1,1,1,0,0,1,1,0,0,1,0,0] 11),(Zy prog 33 [1,1,0,1,0,0,1,1,0,0,1,1,1,0,0,1,1,0,0,1,0,0] 1),none,(Zz prog 9),(.k (.kr (.kr (.kr (.k (.o (.z 1)) (.o (.z 1)))))) (.k (.k (.node (.ptr 15 0) (.k (.o (.z 0)) (.o (.z 0))) .leaf) (.kl (.kl (.o (.bool false))))) (.kl (.kl (.node (.sl 3 0 1 (.ex 1)) (.o (.sl 2 0 1 (.ex 1))) (.o (.agg [(.int .u8 1),(.int .u8 2),(.z 0),(.z 0),(.bool true),(.str []),.nils,(.str []),.nils])))))))⟩,⟨⟨170,0,false⟩,(Zv prog 18 [1,1,0,0] 1),(Zy prog 18 [1,1,0,0] 1),none,(Zz prog 9),(.kr (.node (.ptr 14 0) (.kl (.kl (.o (.agg [.nils,(.sl 3 0 1 (.ex 1))])))) .leaf))⟩,⟨⟨72,0,false⟩,(Zv prog 9 [1,1,0,1,0,0,1,1,0,0,1,1,0,0] 2),(Zy prog 9 [1,1,0,1,0,0,1,1,0,0,1,1,0,0] 1),none,(Zz prog 9),(.k (.node (.ptr 12 0) (.kr (.kr (.o (.z 4)))) (.kr (.kl (.o (.agg [.nils,(.sl 3 0 1 (.ex 1))]))))) (.k (.node (.ptr 13 0) (.kr (.o (.z 0))) .leaf) (.kl (.o (.sl 11 0 4 (.ex 4))))))⟩,⟨⟨56,0,false⟩,(Zv prog 6 [1,0,0] 1),(Zy prog 6 [1,0,0] 1),none,(Zz prog 5),(.node (.sl 11 0 4 (.ex 4)) (.o (.str [116,111,119,101,114])) (.kr (.kl (.o (.sl 11 0 4 (.ex 4))))))⟩,⟨⟨232,0,false⟩,(Zv prog 3 [1,1,1,0] 1),(Zy prog 3 [1,1,1,0] 1),none,(Zz prog 3),(.k (.node (.sl 11 0 4 (.ex 4)) (.o (.z 6)) .leaf) (.kr (.kr (.kl (.kr (.o (.sl 11 0 4 (.ex 4))))))))⟩],.leaf⟩
theorem G7 :Ym prog BH Gh:=G8.trans (Zk Zi Zn Zw (n:=5000) (m:=100000) (d:=4) (N:=⟨[0,1,2,3,4,5,6,7,8,9,10,11,75,76,78,87,90],[],[some [3,4,20],some [1,5],some [16],some [8,30,31,32,46,47,48,60,62],some [1,27],some [1,4,14,15,16,25],some [0,1,12],some [1,3,40]],[none,none,none,none,none,none,none,none,none,none,none,none,none,none,none,none,none]⟩) (by kernel_rfl) rfl (by kernel_rfl)).1
def Gg :BJ:=⟨⟨19,0,false⟩,none,(Zy prog 22 [1,0,1,0,0,1,1,0,0,1,0] 0),none,(Zz prog 4),⟨(.node (.sl 16 0 5 (.ex 5)) (.node (.str [119,97,108,108,45,114]) (.kr (.o (.z 5))) (.o (.z 4))) (.kr (.kr (.o (.z 4))))),(.node (bk [(.str [104,111,117,115,101]),(.str [115,116,114,101,101,116])] 9) (.node (bk [(.int .u8 1),(.int .u8 0),(.str [104,111,117,115,101,45,114]),.nils,.nils] 60) (.node (bk [(.str [116,111,119,110,45,114]),.nils,(.sl 2 0 1 (.ex 1))] 37) (.node (bk [(.str [104,111,117,115,101,45,114]),.nils,(.sl 6 0 1 (.ex 1))] 37) (.m (bk [(.int .u8 1),(.int .u8 0),(.str [119,97,108,108,45,114]),.nils,.nils] 60)) .leaf) (.m (bk [(.str [116,111,119,110]),(.sl 0 0 2 (.ex 2)),.nils,(.sl 3 0 1 (.ex 1)),(.str [104,111,117,115,101]),(.sl 4 0 1 (.ex 1)),.nils,(.sl 7 0 1 (.ex 1)),(.str [115,116,114,101,101,116]),(.sl 8 0 1 (.ex 1)),.nils,(.sl 9 0 1 (.ex 1)),(.str [119,97,108,108]),.nils,.nils,(.sl 10 0 1 (.ex 1))] 33))) (.node (bk [(.int .u8 1),(.int .u8 0),(.str [119,97,108,108,45,114]),.nils,.nils] 60) (.m (bk [(.str [115,116,114,101,101,116,45,114]),.nils,.nils] 37)) (.m (bk [(.str [104,111,117,115,101]),(.sl 4 0 1 (.ex 1)),.nils,(.sl 7 0 1 (.ex 1))] 33)))) (.node (bk [(.z 1),(.int .u8 1),(.int .u8 2),(.z 0),(.z 0),(.bool true),(.str []),.nils,(.str []),.nils,(.sl 1 0 1 (.ex 1))] 63) (.node (bk [(.str [119,97,108,108])] 9) (.node (bk [(.str [119,97,108,108])] 9) (.m (bk [(.str [116,114,117,101]),(.str [102,97,108,115,101]),(.str [115,120]),(.str [115,121]),(.str [115,122])] 9)) .leaf) (.m (bk [(.sl 11 0 4 (.ex 4))] 22))) (.node (bk [(.z 1),(.int .u8 1),(.int .u8 2),(.z 0),(.z 0),(.bool true),(.str []),.nils,(.str []),.nils,(.sl 5 0 1 (.ex 1))] 63) (.m (bk [(.str [119,97,108,108,45,114]),.nils,.nils] 37)) (.m (bk [.nils,(.sl 7 0 1 (.ex 1))] 31))))),17,[],true⟩,[⟨⟨9,0,false⟩,(Zv prog 43 [1,0] 2),(Zy prog 43 [1,0] 1),none,(Zz prog 4),(.k (.kl (.o (.sl 16 0 5 (.ex 5)))) (.kl (.o (.str [119,97,108,108,45,114]))))⟩,⟨⟨11,0,false⟩,(Zv prog 61 [1,0] 5),(Zy prog 61 [1,0] 1),none,(Zz prog 9),(.k (.k (.kr (.o (.str [119,97,108,108,45,114]))) (.o (.bool true))) (.kl (.o (.sl 16 0 5 (.ex 5)))))⟩,⟨⟨125,0,false⟩,(Zv prog 64 [1,1,1,1,0,0,1,1,0] 3),(Zy prog 64 [1,1,1,1,0,0,1,1,0] 1),none,(Zz prog 9),(.kr (.node (.ptr 15 0) (.node (.bool true) (.kl (.kr (.o (.bool true)))) .leaf) (.kr (.kl (.kr (.o (.str [119,97,108,108,45,114])))))))⟩,⟨⟨79,0,false⟩,(Zv prog 33 [1,1,0,1,0,0,1,1,0,0,1,1,1,0,0,1,1,0,0,1,1,1,0,0,1,1,0,0,1,0] 1),(Zy prog 33 [1,1,0,1,0,0,1,1,0,0,1,1,1,0,0,1,1,0,0,1,1,1,0,0,1,1,0,0,1,0] 1),none,(Zz prog 9),(.k (.k (.k (.kr (.k (.o (.z 1)) (.o (.z 1)))) (.kr (.kr (.kr (.o (.sl 5 0 1 (.ex 1))))))) (.k (.kl (.kr (.kr (.o (.agg [(.int .u8 1),(.int .u8 0),(.str [119,97,108,108,45,114]),.nils,.nils]))))) (.kr (.kr (.kr (.o (.z 0))))))) (.k (.k (.kr (.k (.o (.z 0)) (.o (.z 0)))) (.kr (.kr (.kr (.o (.z 1)))))) (.kl (.kl (.node (.sl 7 0 1 (.ex 1)) (.o (.sl 6 0 1 (.ex 1))) .leaf)))))⟩,⟨⟨170,0,false⟩,(Zv prog 18 [1,1,0,0] 1),(Zy prog 18 [1,1,0,0] 1),none,(Zz prog 9),(.kr (.node (.ptr 14 0) (.kl (.kl (.o (.agg [.nils,(.sl 7 0 1 (.ex 1))])))) .leaf))⟩,⟨⟨72,0,false⟩,(Zv prog 9 [1,1,0,1,0,0,1,1,0,0,1,1,0,0] 2),(Zy prog 9 [1,1,0,1,0,0,1,1,0,0,1,1,0,0] 1),none,(Zz prog 9),(.k (.node (.ptr 12 0) (.kr (.kr (.o (.z 4)))) (.kr (.kl (.o (.agg [.nils,(.sl 7 0 1 (.ex 1))]))))) (.k (.node (.ptr 13 0) (.kr (.o (.z 1))) .leaf) (.kl (.o (.sl 11 0 4 (.ex 4))))))⟩,⟨⟨56,0,false⟩,(Zv prog 6 [1,0,0] 1),(Zy prog 6 [1,0,0] 1),none,(Zz prog 5),(.node (.sl 11 0 4 (.ex 4)) (.o (.str [116,111,119,101,114])) (.kr (.kl (.o (.sl 11 0 4 (.ex 4))))))⟩,⟨⟨232,0,false⟩,(Zv prog 3 [1,1,1,0] 1),(Zy prog 3 [1,1,1,0] 1),none,(Zz prog 3),(.k (.node (.sl 11 0 4 (.ex 4)) (.o (.z 6)) .leaf) (.kr (.kr (.kl (.kr (.o (.sl 11 0 4 (.ex 4))))))))⟩],.leaf⟩
theorem G6 :Ym prog BH Gg:=G7.trans (Zk Zi Zn Zw (n:=5000) (m:=100000) (d:=4) (N:=⟨[0,1,2,3,4,5,6,7,8,9,10,11,12,62,64,82,84],[],[some [0,1,5,7,8],some [5,6],some [5,6,7],some [1,3,39,41],some [30,31,32,46,47,48,67,68,69,73],some [1,27],some [1,4,14,15,16,25],some [0,1,12],some [1,3,40]],[none,none,none,none,none,none,none,none,none,none,none,none,none,none,none,none,none]⟩) (by kernel_rfl) rfl (by kernel_rfl)).1
def Gf :BJ:=⟨⟨19,0,false⟩,none,(Zy prog 24 [1,0,1,0,0,1,1,0,0] 1),none,(Zz prog 4),⟨(.node (.sl 11 0 4 (.ex 4)) (.node (.fn 25 [(.ptr 13 0)]) (.kr (.o (.z 4))) .leaf) (.kr (.kr (.o (.z 0))))),(.node (bk [(.str [104,111,117,115,101]),(.str [115,116,114,101,101,116])] 9) (.node (bk [(.int .u8 1),(.int .u8 0),(.str [104,111,117,115,101,45,114]),.nils,.nils] 60) (.node (bk [(.str [116,111,119,110,45,114]),.nils,(.sl 2 0 1 (.ex 1))] 37) (.m (bk [(.str [104,111,117,115,101,45,114]),.nils,(.sl 6 0 1 (.ex 1))] 37)) (.m (bk [(.str [116,111,119,110]),(.sl 0 0 2 (.ex 2)),.nils,(.sl 3 0 1 (.ex 1)),(.str [104,111,117,115,101]),(.sl 4 0 1 (.ex 1)),.nils,(.sl 7 0 1 (.ex 1)),(.str [115,116,114,101,101,116]),(.sl 8 0 1 (.ex 1)),.nils,(.sl 9 0 1 (.ex 1)),(.str [119,97,108,108]),.nils,.nils,(.sl 10 0 1 (.ex 1))] 33))) (.node (bk [(.int .u8 1),(.int .u8 0),(.str [119,97,108,108,45,114]),.nils,.nils] 60) (.m (bk [(.str [115,116,114,101,101,116,45,114]),.nils,.nils] 37)) (.m (bk [(.str [104,111,117,115,101])] 9)))) (.node (bk [(.z 1),(.int .u8 1),(.int .u8 2),(.z 0),(.z 0),(.bool true),(.str []),.nils,(.str []),.nils,(.sl 1 0 1 (.ex 1))] 63) (.node (bk [(.str [119,97,108,108])] 9) (.m (bk [(.str [119,97,108,108])] 9)) (.m (bk [(.sl 11 0 4 (.ex 4))] 22))) (.node (bk [(.z 1),(.int .u8 1),(.int .u8 2),(.z 0),(.z 0),(.bool true),(.str []),.nils,(.str []),.nils,(.sl 5 0 1 (.ex 1))] 63) (.m (bk [(.str [119,97,108,108,45,114]),.nils,.nils] 37)) .leaf))),14,[],true⟩,[⟨⟨8,0,false⟩,(Zv prog 12 [1,0] 2),(Zy prog 12 [1,0] 1),none,(Zz prog 4),(.k (.kl (.o (.sl 11 0 4 (.ex 4)))) (.kl (.o (.fn 25 [(.ptr 13 0)]))))⟩,⟨⟨72,0,false⟩,(Zv prog 9 [1,1,1,0,1,0,0,1,1,0,0,1,0] 3),(Zy prog 9 [1,1,1,0,1,0,0,1,1,0,0,1,0] 1),none,(Zz prog 9),(.k (.node (.ptr 12 0) (.kr (.node (.z 1) (.kl (.o (.sl 11 0 4 (.ex 4)))) .leaf)) (.kr (.kr (.kl (.o (.z 1)))))) (.k (.kr (.k (.kl (.o (.z 4))) (.kl (.o (.str [104,111,117,115,101]))))) (.kl (.kr (.kl (.o (.sl 11 0 4 (.ex 4))))))))⟩,⟨⟨56,0,false⟩,(Zv prog 6 [1,0,0] 1),(Zy prog 6 [1,0,0] 1),none,(Zz prog 5),(.node (.sl 11 0 4 (.ex 4)) (.o (.str [116,111,119,101,114])) (.kr (.kl (.o (.sl 11 0 4 (.ex 4))))))⟩,⟨⟨232,0,false⟩,(Zv prog 3 [1,1,1,0] 1),(Zy prog 3 [1,1,1,0] 1),none,(Zz prog 3),(.k (.node (.sl 11 0 4 (.ex 4)) (.o (.z 6)) .leaf) (.kr (.kr (.kl (.kr (.o (.sl 11 0 4 (.ex 4))))))))⟩],.leaf⟩
theorem G5 :Ym prog BH Gf:=G6.trans (Zk Zi Zn Zw (n:=5000) (m:=100000) (d:=4) (N:=⟨[0,1,2,3,4,5,6,7,8,9,10,11,12,94],[],[some [0,1,7,8],some [5,6],some [1,7,47,48,49,54,56],some [0,1,12],some [1,3,40]],[none,none,none,none,none,none,none,none,none,none,none,none,none,none]⟩) (by kernel_rfl) rfl (by kernel_rfl)).1
def Ge :BJ:=⟨⟨30,0,false⟩,none,(Zy prog 81 [1,1,0,1,0,0,0,0,0,0,0,0,0,0,0,0,0,1,0,0,1,1,1,1,1,1,1,1,0] 0),none,(Zz prog 9),⟨(.k (.kr (.o (.z (-2)))) (.kr (.o (.int .u8 1)))),(.node (bk [(.str [104,111,117,115,101]),(.str [115,116,114,101,101,116])] 9) (.node (bk [(.int .u8 1),(.int .u8 0),(.str [104,111,117,115,101,45,114]),.nils,.nils] 60) (.node (bk [(.str [116,111,119,110,45,114]),.nils,(.sl 2 0 1 (.ex 1))] 37) (.node (bk [(.str [104,111,117,115,101,45,114]),.nils,(.sl 6 0 1 (.ex 1))] 37) (.m (bk [(.str [116,111,119,110]),(.sl 0 0 2 (.ex 2)),.nils,(.sl 3 0 1 (.ex 1))] 33)) (.m (bk [(.mapr 20)] 46))) (.node (bk [(.str [116,111,119,110]),(.sl 0 0 2 (.ex 2)),.nils,(.sl 3 0 1 (.ex 1)),(.str [104,111,117,115,101]),(.sl 4 0 1 (.ex 1)),.nils,(.sl 7 0 1 (.ex 1)),(.str [115,116,114,101,101,116]),(.sl 8 0 1 (.ex 1)),.nils,(.sl 9 0 1 (.ex 1)),(.str [119,97,108,108]),.nils,.nils,(.sl 10 0 1 (.ex 1))] 33) (.m (bk [(.str [116,111,119,110,45,114]),.nils,(.sl 2 0 1 (.ex 1))] 37)) .leaf)) (.node (bk [(.int .u8 1),(.int .u8 0),(.str [119,97,108,108,45,114]),.nils,.nils] 60) (.node (bk [(.str [115,116,114,101,101,116,45,114]),.nils,.nils] 37) (.m (bk [(.obj (.mb []))] 46)) (.m (bk [(.int .u8 1),(.int .u8 2),(.z 0),(.z 0),(.bool true),(.str []),.nils,(.str []),.nils] 57))) (.node (bk [(.str [116,111,119,110]),(.sl 0 0 2 (.ex 2)),.nils,(.sl 3 0 1 (.ex 1)),(.str [104,111,117,115,101]),(.sl 4 0 1 (.ex 1)),.nils,(.sl 7 0 1 (.ex 1)),(.str [115,116,114,101,101,116]),(.sl 8 0 1 (.ex 1)),.nils,(.sl 9 0 1 (.ex 1)),(.str [119,97,108,108]),.nils,.nils,(.sl 10 0 1 (.ex 1)),(.str [116,111,119,110]),.nils,.nils,(.sl 12 0 1 (.ex 1))] 33) (.m (bk [(.mapr 20)] 46)) .leaf))) (.node (bk [(.z 1),(.int .u8 1),(.int .u8 2),(.z 0),(.z 0),(.bool true),(.str []),.nils,(.str []),.nils,(.sl 1 0 1 (.ex 1))] 63) (.node (bk [(.str [119,97,108,108])] 9) (.node (bk [(.str [119,97,108,108])] 9) (.m (bk [.nils,(.sl 3 0 1 (.ex 1))] 31)) (.m (bk [(.int .u8 1),(.int .u8 2),(.z 0),(.z 0),(.bool true),(.str []),.nils,(.str []),.nils] 57))) (.node (bk [(.str [116,111,119,110,45,114]),.nils,.nils] 37) (.m (bk [(.obj (.mb [([115,120],true),([115,121],true),([115,122],true)]))] 46)) .leaf)) (.node (bk [(.z 1),(.int .u8 1),(.int .u8 2),(.z 0),(.z 0),(.bool true),(.str []),.nils,(.str []),.nils,(.sl 5 0 1 (.ex 1))] 63) (.node (bk [(.str [119,97,108,108,45,114]),.nils,.nils] 37) (.m (bk [(.obj (.mi [([116,111,119,110,45,114],0)]))] 72)) .leaf) (.node (bk [(.sl 13 0 5 (.un 4))] 22) (.m (bk [(.int .u8 1),(.int .u8 2),(.z 0),(.z 0),(.bool true),(.str []),.nils,(.str []),.nils] 57)) .leaf)))),26,[],true⟩,[⟨⟨66,0,false⟩,(Zv prog 79 [1,0,0] 2),(Zy prog 79 [1,0,0] 1),none,(Zz prog 9),(.kr (.node (.ptr 25 0) .leaf (.o (.int .u8 1))))⟩,⟨⟨19,0,false⟩,(Zv prog 62 [1,1,0,0] 1),(Zy prog 62 [1,1,0,0] 1),none,(Zz prog 9),(.kl (.kr (.kr (.kr (.o (.agg [(.int .u8 1),(.int .u8 2),(.z 0),(.z 0),(.bool true),(.str []),.nils,(.str []),.nils]))))))⟩,⟨⟨16,0,false⟩,(Zv prog 41 [1,0,0] 1),(Zy prog 41 [1,0,0] 1),none,(Zz prog 41),(.k (.o (.ptr 24 0)) (.kl (.o (.agg [(.int .u8 1),(.int .u8 2),(.z 0),(.z 0),(.bool true),(.str []),.nils,(.str []),.nils]))))⟩,⟨⟨15,0,false⟩,(Zv prog 34 [1,0] 1),(Zy prog 34 [1,0] 1),none,(Zz prog 4),(.k (.kr (.o (.ptr 23 0))) (.kr (.kr (.o (.agg [(.int .u8 1),(.int .u8 2),(.z 0),(.z 0),(.bool true),(.str []),.nils,(.str []),.nils])))))⟩,⟨⟨7,0,false⟩,(Zv prog 37 [1,0] 2),(Zy prog 37 [1,0] 1),none,(Zz prog 15),(.k (.kl (.o (.mapr 20))) (.kr (.o (.agg [(.int .u8 1),(.int .u8 2),(.z 0),(.z 0),(.bool true),(.str []),.nils,(.str []),.nils]))))⟩,⟨⟨19,0,false⟩,(Zv prog 66 [1,0,1,0,0,1,1,0,0,1,0] 5),(Zy prog 66 [1,0,1,0,0,1,1,0,0,1,0] 1),none,(Zz prog 4),(.node (.sl 22 0 1 (.un 9)) (.node (.fn 37 [(.ptr 21 0)]) (.k (.node (.z 1) (.o (.agg [(.int .u8 1),(.int .u8 2),(.z 0),(.z 0),(.bool true),(.str []),.nils,(.str []),.nils])) .leaf) (.o (.fn 37 [(.ptr 21 0)]))) (.o (.z 0))) (.kr (.kr (.o (.z 0)))))⟩,⟨⟨9,0,false⟩,(Zv prog 35 [1,0] 2),(Zy prog 35 [1,0] 1),none,(Zz prog 4),(.k (.kl (.o (.sl 22 0 1 (.un 9)))) (.kl (.o (.fn 37 [(.ptr 21 0)]))))⟩,⟨⟨170,0,false⟩,(Zv prog 18 [1,1,1,1,1,1,1,1,0,1,0,0,1,1,0,0,1,1,1,1,0] 5),(Zy prog 18 [1,1,1,1,1,1,1,1,0,1,0,0,1,1,0,0,1,1,1,1,0] 1),none,(Zz prog 9),(.k (.node (.ptr 16 0) (.node (.mapr 17) .leaf (.kl (.kl (.kl (.o (.bool false)))))) (.k (.kr (.kr (.kl (.o (.z 1))))) (.kl (.kl (.kl (.o (.sl 22 0 1 (.un 9)))))))) (.k (.node (.mapr 18) (.kr (.node (.ptr 19 0) (.kl (.o (.sl 3 0 1 (.ex 1)))) .leaf)) .leaf) (.k (.kr (.kr (.kl (.o (.z 0))))) (.node (.bool false) .leaf (.kl (.kl (.o (.fn 37 [(.ptr 21 0)]))))))))⟩,⟨⟨72,0,false⟩,(Zv prog 9 [1,1,0,1,0,0,1,1,0,0,1,1,0,0] 2),(Zy prog 9 [1,1,0,1,0,0,1,1,0,0,1,1,0,0] 1),none,(Zz prog 9),(.k (.node (.ptr 14 0) (.kr (.kr (.o (.z 5)))) (.kr (.kl (.o (.agg [.nils,(.sl 3 0 1 (.ex 1))]))))) (.k (.node (.ptr 15 0) (.kr (.o (.z 0))) .leaf) (.kl (.o (.sl 13 0 5 (.un 4))))))⟩,⟨⟨27,0,false⟩,(Zv prog 5 [1,0,0] 1),(Zy prog 5 [1,0,0] 1),none,(Zz prog 5),(.node (.sl 13 0 5 (.un 4)) (.node (.str [119,97,108,108]) .leaf (.kr (.o (.sl 13 0 5 (.un 4))))) .leaf)⟩,⟨⟨232,0,false⟩,(Zv prog 3 [1,1,1,1,0] 4),(Zy prog 3 [1,1,1,1,0] 1),none,(Zz prog 3),(.k (.node (.sl 11 0 4 (.ex 4)) (.o (.z 6)) (.o (.z 6))) (.kr (.kr (.kr (.kl (.o (.sl 13 0 5 (.un 4))))))))⟩],.leaf⟩
theorem G4 :Ym prog BH Ge:=G5.trans (Zk Zi Zn Zw (n:=5000) (m:=100000) (d:=4) (N:=⟨[0,1,2,3,4,5,6,7,8,9,10,11,55,57,58,59,61,88,89,91,92,93,98,102,103,106],[],[some [3,4],some [1,5],some [16],some [1,6],some [3,8],some [4,5],some [0,1,5,7,8,11,15],some [5,6],some [1,3,4,14,16,96,97,98,123,125,126],some [1,4,14,15,16,25],some [0,1,9],some [1,3,5,48]],[none,none,none,none,none,none,none,none,none,none,none,none,none,none,none,none,none,none,none,none,none,none,none,none,none,none]⟩) (by kernel_rfl) rfl (by kernel_rfl)).1
def Gd :BJ:=⟨⟨44,0,false⟩,none,(Zy prog 21 [0] 1),none,(Zz prog 9),⟨(.o (.str [115,116,114,101,101,116])),(.node (bk [(.str [104,111,117,115,101]),(.str [115,116,114,101,101,116])] 9) (.node (bk [(.int .u8 1),(.int .u8 0),(.str [104,111,117,115,101,45,114]),.nils,.nils] 60) (.node (bk [(.str [116,111,119,110,45,114]),.nils,(.sl 2 0 1 (.ex 1))] 37) (.node (bk [(.str [104,111,117,115,101,45,114]),.nils,(.sl 6 0 1 (.ex 1))] 37) (.m (bk [(.str [115,116,114,101,101,116]),(.sl 8 0 1 (.ex 1)),.nils,(.sl 9 0 1 (.ex 1))] 33)) .leaf) (.m (bk [(.str [116,111,119,110]),(.sl 0 0 2 (.ex 2)),.nils,(.sl 3 0 1 (.ex 1)),(.str [104,111,117,115,101]),(.sl 4 0 1 (.ex 1)),.nils,(.sl 7 0 1 (.ex 1)),(.str [115,116,114,101,101,116]),(.sl 8 0 1 (.ex 1)),.nils,(.sl 9 0 1 (.ex 1)),(.str [119,97,108,108]),.nils,.nils,(.sl 10 0 1 (.ex 1))] 33))) (.node (bk [(.int .u8 1),(.int .u8 0),(.str [119,97,108,108,45,114]),.nils,.nils] 60) (.m (bk [(.str [115,116,114,101,101,116,45,114]),.nils,.nils] 37)) (.m (bk [(.str [116,111,119,110]),(.sl 0 0 2 (.ex 2)),.nils,(.sl 3 0 1 (.ex 1)),(.str [104,111,117,115,101]),(.sl 4 0 1 (.ex 1)),.nils,(.sl 7 0 1 (.ex 1)),(.str [115,116,114,101,101,116]),(.sl 8 0 1 (.ex 1)),.nils,(.sl 9 0 1 (.ex 1)),(.str [119,97,108,108]),.nils,.nils,(.sl 10 0 1 (.ex 1)),(.str [116,111,119,110]),.nils,.nils,(.sl 12 0 1 (.ex 1))] 33)))) (.node (bk [(.z 1),(.int .u8 1),(.int .u8 2),(.z 0),(.z 0),(.bool true),(.str []),.nils,(.str []),.nils,(.sl 1 0 1 (.ex 1))] 63) (.node (bk [(.str [119,97,108,108])] 9) (.m (bk [(.str [119,97,108,108])] 9)) (.m (bk [(.str [116,111,119,110,45,114]),.nils,.nils] 37))) (.node (bk [(.z 1),(.int .u8 1),(.int .u8 2),(.z 0),(.z 0),(.bool true),(.str []),.nils,(.str []),.nils,(.sl 5 0 1 (.ex 1))] 63) (.m (bk [(.str [119,97,108,108,45,114]),.nils,.nils] 37)) (.m (bk [(.sl 13 0 5 (.un 4))] 22))))),16,[],true⟩,[⟨⟨72,0,false⟩,(Zv prog 9 [1,1,0,1,0,0,1,1,0,0,1,0,0] 2),(Zy prog 9 [1,1,0,1,0,0,1,1,0,0,1,0,0] 1),none,(Zz prog 9),(.k (.node (.ptr 14 0) (.kr (.kr (.o (.z 5)))) (.kl (.kr (.o (.str [115,116,114,101,101,116]))))) (.k (.node (.ptr 15 0) (.kr (.o (.z 2))) .leaf) (.kl (.o (.sl 13 0 5 (.un 4))))))⟩,⟨⟨27,0,false⟩,(Zv prog 5 [1,0,0] 1),(Zy prog 5 [1,0,0] 1),none,(Zz prog 5),(.node (.sl 13 0 5 (.un 4)) (.node (.str [119,97,108,108]) .leaf (.kr (.o (.sl 13 0 5 (.un 4))))) .leaf)⟩,⟨⟨232,0,false⟩,(Zv prog 3 [1,1,1,1,0] 4),(Zy prog 3 [1,1,1,1,0] 1),none,(Zz prog 3),(.k (.node (.sl 11 0 4 (.ex 4)) (.o (.z 6)) (.o (.z 6))) (.kr (.kr (.kr (.kl (.o (.sl 13 0 5 (.un 4))))))))⟩],.leaf⟩
theorem G3 :Ym prog BH Gd:=G4.trans (Zk Zi Zn Zw (n:=5000) (m:=100000) (d:=4) (N:=⟨[0,1,2,3,4,5,6,7,8,9,10,11,12,13,14,98],[],[some [0],some [1,4,14,15,16,21],some [0,1,9],some [1,3,5,48]],[none,none,none,none,none,none,none,none,none,none,none,none,none,none,none,none]⟩) (by kernel_rfl) rfl (by kernel_rfl)).1
def Gc :BJ:=⟨⟨8,0,false⟩,(Zv prog 25 [0] 2),(Zy prog 25 [0] 1),none,(Zz prog 15),⟨(.k (.o (.ptr 15 0)) (.o (.ptr 16 0))),(.node (bk [(.str [104,111,117,115,101]),(.str [115,116,114,101,101,116])] 9) (.node (bk [(.int .u8 1),(.int .u8 0),(.str [104,111,117,115,101,45,114]),.nils,.nils] 60) (.node (bk [(.str [116,111,119,110,45,114]),.nils,(.sl 2 0 1 (.ex 1))] 37) (.node (bk [(.str [104,111,117,115,101,45,114]),.nils,(.sl 6 0 1 (.ex 1))] 37) (.m (bk [(.str [115,116,114,101,101,116])] 9)) .leaf) (.m (bk [(.str [116,111,119,110]),(.sl 0 0 2 (.ex 2)),.nils,(.sl 3 0 1 (.ex 1)),(.str [104,111,117,115,101]),(.sl 4 0 1 (.ex 1)),.nils,(.sl 7 0 1 (.ex 1)),(.str [115,116,114,101,101,116]),(.sl 8 0 1 (.ex 1)),.nils,(.sl 9 0 1 (.ex 1)),(.str [119,97,108,108]),.nils,.nils,(.sl 10 0 1 (.ex 1))] 33))) (.node (bk [(.int .u8 1),(.int .u8 0),(.str [119,97,108,108,45,114]),.nils,.nils] 60) (.m (bk [(.str [115,116,114,101,101,116,45,114]),.nils,.nils] 37)) (.m (bk [(.str [116,111,119,110]),(.sl 0 0 2 (.ex 2)),.nils,(.sl 3 0 1 (.ex 1)),(.str [104,111,117,115,101]),(.sl 4 0 1 (.ex 1)),.nils,(.sl 7 0 1 (.ex 1)),(.str [115,116,114,101,101,116]),(.sl 8 0 1 (.ex 1)),.nils,(.sl 9 0 1 (.ex 1)),(.str [119,97,108,108]),.nils,.nils,(.sl 10 0 1 (.ex 1)),(.str [116,111,119,110]),.nils,.nils,(.sl 12 0 1 (.ex 1))] 33)))) (.node (bk [(.z 1),(.int .u8 1),(.int .u8 2),(.z 0),(.z 0),(.bool true),(.str []),.nils,(.str []),.nils,(.sl 1 0 1 (.ex 1))] 63) (.node (bk [(.str [119,97,108,108])] 9) (.node (bk [(.str [119,97,108,108])] 9) (.m (bk [(.str [116,111,119,110]),(.sl 0 0 2 (.ex 2)),.nils,(.sl 3 0 1 (.ex 1))] 33)) .leaf) (.m (bk [(.str [116,111,119,110,45,114]),.nils,.nils] 37))) (.node (bk [(.z 1),(.int .u8 1),(.int .u8 2),(.z 0),(.z 0),(.bool true),(.str []),.nils,(.str []),.nils,(.sl 5 0 1 (.ex 1))] 63) (.m (bk [(.str [119,97,108,108,45,114]),.nils,.nils] 37)) (.m (bk [(.sl 13 0 5 (.un 4))] 22))))),17,[],true⟩,[⟨⟨19,0,false⟩,(Zv prog 24 [1,0,1,0,0,1,1,0,0,1,0] 5),(Zy prog 24 [1,0,1,0,0,1,1,0,0,1,0] 1),none,(Zz prog 4),(.node (.sl 13 0 5 (.un 4)) (.node (.fn 25 [(.ptr 15 0)]) (.k (.node (.z 5) (.o (.agg [(.str [116,111,119,110]),(.sl 0 0 2 (.ex 2)),.nils,(.sl 3 0 1 (.ex 1))])) .leaf) (.o (.fn 25 [(.ptr 15 0)]))) (.o (.z 0))) (.kr (.kr (.o (.z 0)))))⟩,⟨⟨8,0,false⟩,(Zv prog 12 [1,0] 2),(Zy prog 12 [1,0] 1),none,(Zz prog 4),(.k (.kl (.o (.sl 13 0 5 (.un 4)))) (.kl (.o (.fn 25 [(.ptr 15 0)]))))⟩,⟨⟨72,0,false⟩,(Zv prog 9 [1,1,1,0,1,0,0,1,1,0,0,1,0] 3),(Zy prog 9 [1,1,1,0,1,0,0,1,1,0,0,1,0] 1),none,(Zz prog 9),(.k (.node (.ptr 14 0) (.kr (.node (.z 2) (.kl (.o (.sl 13 0 5 (.un 4)))) .leaf)) (.kr (.kr (.kl (.o (.z 2)))))) (.k (.kr (.k (.kl (.o (.z 5))) (.kl (.o (.str [115,116,114,101,101,116]))))) (.kl (.kr (.kl (.o (.sl 13 0 5 (.un 4))))))))⟩,⟨⟨27,0,false⟩,(Zv prog 5 [1,0,0] 1),(Zy prog 5 [1,0,0] 1),none,(Zz prog 5),(.node (.sl 13 0 5 (.un 4)) (.node (.str [119,97,108,108]) .leaf (.kr (.o (.sl 13 0 5 (.un 4))))) .leaf)⟩,⟨⟨232,0,false⟩,(Zv prog 3 [1,1,1,1,0] 4),(Zy prog 3 [1,1,1,1,0] 1),none,(Zz prog 3),(.k (.node (.sl 11 0 4 (.ex 4)) (.o (.z 6)) (.o (.z 6))) (.kr (.kr (.kr (.kl (.o (.sl 13 0 5 (.un 4))))))))⟩],.leaf⟩
theorem G2 :Ym prog BH Gc:=G3.trans (Zk Zi Zn Zw (n:=5000) (m:=100000) (d:=4) (N:=⟨[0,1,2,3,4,5,6,7,8,9,10,11,12,13,14,77,78],[],[some [1,2],some [0,1,5,7,8,11,15],some [5,6],some [1,7,47,48,49,54,56],some [0,1,9],some [1,3,5,48]],[none,none,none,none,none,none,none,none,none,none,none,none,none,none,none,none,none]⟩) (by kernel_rfl) rfl (by kernel_rfl)).1
def Gb :BJ:=⟨⟨52,0,false⟩,none,(Zy prog 32 [1,1,0,1,0,0,1,1,0,0,1,1,1,0,0,1,0,0] 0),none,(Zz prog 9),⟨(.k (.k (.kl (.kr (.node (.z 1) (.o (.sl 6 0 1 (.ex 1))) .leaf))) (.kl (.kr (.kr (.o (.z 0)))))) (.k (.kl (.kr (.node (.z 0) (.o (.z 1)) .leaf))) (.kr (.kr (.o (.sl 7 0 1 (.ex 1))))))),(.node (bk [(.str [104,111,117,115,101]),(.str [115,116,114,101,101,116])] 9) (.node (bk [(.int .u8 1),(.int .u8 0),(.str [104,111,117,115,101,45,114]),.nils,.nils] 60) (.node (bk [(.str [116,111,119,110,45,114]),.nils,(.sl 2 0 1 (.ex 1))] 37) (.node (bk [(.str [104,111,117,115,101,45,114]),.nils,(.sl 6 0 1 (.ex 1))] 37) (.m (bk [(.sl 14 0 5 (.un 4))] 22)) .leaf) (.m (bk [(.str [116,111,119,110]),(.sl 0 0 2 (.ex 2)),.nils,(.sl 3 0 1 (.ex 1)),(.str [104,111,117,115,101]),(.sl 4 0 1 (.ex 1)),.nils,(.sl 7 0 1 (.ex 1)),(.str [115,116,114,101,101,116]),(.sl 8 0 1 (.ex 1)),.nils,(.sl 9 0 1 (.ex 1)),(.str [119,97,108,108]),.nils,.nils,(.sl 10 0 1 (.ex 1))] 33))) (.node (bk [(.int .u8 1),(.int .u8 0),(.str [119,97,108,108,45,114]),.nils,.nils] 60) (.node (bk [(.str [115,116,114,101,101,116,45,114]),.nils,.nils] 37) (.m (bk [.nils,(.sl 7 0 1 (.ex 1))] 31)) .leaf) (.m (bk [(.str [115,101,108,102,45,114]),.nils,.nils] 37)))) (.node (bk [(.z 1),(.int .u8 1),(.int .u8 2),(.z 0),(.z 0),(.bool true),(.str []),.nils,(.str []),.nils,(.sl 1 0 1 (.ex 1))] 63) (.node (bk [(.str [119,97,108,108])] 9) (.node (bk [(.str [119,97,108,108])] 9) (.m (bk [(.str [104,111,117,115,101]),(.sl 4 0 1 (.ex 1)),.nils,(.sl 7 0 1 (.ex 1))] 33)) .leaf) (.m (bk [(.str [115,101,108,102])] 9))) (.node (bk [(.z 1),(.int .u8 1),(.int .u8 2),(.z 0),(.z 0),(.bool true),(.str []),.nils,(.str []),.nils,(.sl 5 0 1 (.ex 1))] 63) (.m (bk [(.str [119,97,108,108,45,114]),.nils,.nils] 37)) (.m (bk [(.str [116,111,119,110]),(.sl 0 0 2 (.ex 2)),.nils,(.sl 3 0 1 (.ex 1)),(.str [104,111,117,115,101]),(.sl 4 0 1 (.ex 1)),.nils,(.sl 7 0 1 (.ex 1)),(.str [115,116,114,101,101,116]),(.sl 8 0 1 (.ex 1)),.nils,(.sl 9 0 1 (.ex 1)),(.str [119,97,108,108]),.nils,.nils,(.sl 10 0 1 (.ex 1)),(.str [115,101,108,102]),(.sl 12 0 1 (.ex 1)),.nils,(.sl 13 0 1 (.ex 1))] 33))))),18,[],true⟩,[⟨⟨170,0,false⟩,(Zv prog 18 [1,0,0] 1),(Zy prog 18 [1,0,0] 1),none,(Zz prog 9),(.kr (.node (.ptr 17 0) .leaf (.kr (.kl (.o (.agg [.nils,(.sl 7 0 1 (.ex 1))]))))))⟩,⟨⟨72,0,false⟩,(Zv prog 9 [1,1,0,1,0,0,1,1,0,0,1,1,0,0] 2),(Zy prog 9 [1,1,0,1,0,0,1,1,0,0,1,1,0,0] 1),none,(Zz prog 9),(.k (.node (.ptr 15 0) (.kr (.kr (.o (.z 5)))) (.kr (.kl (.o (.agg [.nils,(.sl 7 0 1 (.ex 1))]))))) (.k (.node (.ptr 16 0) (.kr (.o (.z 1))) .leaf) (.kl (.o (.sl 14 0 5 (.un 4))))))⟩,⟨⟨27,0,false⟩,(Zv prog 5 [1,0,0] 1),(Zy prog 5 [1,0,0] 1),none,(Zz prog 5),(.node (.sl 14 0 5 (.un 4)) (.node (.str [119,97,108,108]) .leaf (.kr (.o (.sl 14 0 5 (.un 4))))) .leaf)⟩,⟨⟨232,0,false⟩,(Zv prog 3 [1,1,1,1,1,0] 5),(Zy prog 3 [1,1,1,1,1,0] 1),none,(Zz prog 3),(.kr (.node (.sl 11 0 4 (.ex 4)) (.node (.z 6) (.o (.z 14)) .leaf) (.node (.z 6) (.kl (.kl (.o (.sl 14 0 5 (.un 4))))) .leaf)))⟩],.leaf⟩
theorem G1 :Ym prog BH Gb:=G2.trans (Zk Zi Zn Zw (n:=5000) (m:=100000) (d:=4) (N:=⟨[0,1,2,3,4,5,6,7,8,9,10,11,28,32,34,35,96,98],[],[some [18,19,20,35,36,37],some [1,25],some [1,4,14,15,16,25],some [0,1,9],some [1,3,5,7,57]],[none,none,none,none,none,none,none,none,none,none,none,none,none,none,none,none,none,none]⟩) (by kernel_rfl) rfl (by kernel_rfl)).1
def FZ :BJ:=⟨⟨170,0,false⟩,(Zv prog 18 [1,1,1,1,1,1,1,1,0,1,0,0,1,1,0,0,1,1,0,1,0,0,0] 1),(Zy prog 18 [1,1,1,1,1,1,1,1,0,1,0,0,1,1,0,0,1,1,0,1,0,0,0] 1),none,(Zz prog 9),⟨(.k (.node (.ptr 17 0) (.o (.mapr 18)) (.node (.bool false) (.k (.node (.ptr 22 0) (.kl (.o (.z 1))) .leaf) (.kr (.kl (.o (.ptr 23 0))))) .leaf)) (.k (.node (.mapr 19) (.kr (.node (.ptr 20 0) (.kl (.o (.sl 9 0 1 (.ex 1)))) .leaf)) .leaf) (.k (.k (.kr (.kl (.o (.z 0)))) (.kr (.kl (.o (.tup [(.bool false)]))))) (.o (.bool false))))),(.node (bk [(.str [104,111,117,115,101]),(.str [115,116,114,101,101,116])] 9) (.node (bk [(.int .u8 1),(.int .u8 0),(.str [104,111,117,115,101,45,114]),.nils,.nils] 60) (.node (bk [(.str [116,111,119,110,45,114]),.nils,(.sl 2 0 1 (.ex 1))] 37) (.node (bk [(.str [104,111,117,115,101,45,114]),.nils,(.sl 6 0 1 (.ex 1))] 37) (.m (bk [(.sl 14 0 5 (.un 4))] 22)) (.m (bk [(.obj (.mit 0 [] 0)),(.mapr 18)] 46))) (.node (bk [(.str [116,111,119,110]),(.sl 0 0 2 (.ex 2)),.nils,(.sl 3 0 1 (.ex 1)),(.str [104,111,117,115,101]),(.sl 4 0 1 (.ex 1)),.nils,(.sl 7 0 1 (.ex 1)),(.str [115,116,114,101,101,116]),(.sl 8 0 1 (.ex 1)),.nils,(.sl 9 0 1 (.ex 1)),(.str [119,97,108,108]),.nils,.nils,(.sl 10 0 1 (.ex 1))] 33) (.m (bk [(.obj (.mi [([115,116,114,101,101,116,45,114],0)]))] 72)) .leaf)) (.node (bk [(.int .u8 1),(.int .u8 0),(.str [119,97,108,108,45,114]),.nils,.nils] 60) (.node (bk [(.str [115,116,114,101,101,116,45,114]),.nils,.nils] 37) (.m (bk [.nils,(.sl 9 0 1 (.ex 1))] 31)) .leaf) (.node (bk [(.str [115,101,108,102,45,114]),.nils,.nils] 37) (.m (bk [(.obj (.mb [([115,120],true),([115,121],true),([115,122],true)]))] 46)) .leaf))) (.node (bk [(.z 1),(.int .u8 1),(.int .u8 2),(.z 0),(.z 0),(.bool true),(.str []),.nils,(.str []),.nils,(.sl 1 0 1 (.ex 1))] 63) (.node (bk [(.str [119,97,108,108])] 9) (.node (bk [(.str [119,97,108,108])] 9) (.m (bk [(.str [115,116,114,101,101,116]),(.sl 8 0 1 (.ex 1)),.nils,(.sl 9 0 1 (.ex 1))] 33)) .leaf) (.node (bk [(.str [115,101,108,102])] 9) (.m (bk [(.str [115,116,114,101,101,116,45,114]),.nils,.nils] 37)) .leaf)) (.node (bk [(.z 1),(.int .u8 1),(.int .u8 2),(.z 0),(.z 0),(.bool true),(.str []),.nils,(.str []),.nils,(.sl 5 0 1 (.ex 1))] 63) (.node (bk [(.str [119,97,108,108,45,114]),.nils,.nils] 37) (.m (bk [(.obj (.mb []))] 46)) .leaf) (.node (bk [(.str [116,111,119,110]),(.sl 0 0 2 (.ex 2)),.nils,(.sl 3 0 1 (.ex 1)),(.str [104,111,117,115,101]),(.sl 4 0 1 (.ex 1)),.nils,(.sl 7 0 1 (.ex 1)),(.str [115,116,114,101,101,116]),(.sl 8 0 1 (.ex 1)),.nils,(.sl 9 0 1 (.ex 1)),(.str [119,97,108,108]),.nils,.nils,(.sl 10 0 1 (.ex 1)),(.str [115,101,108,102]),(.sl 12 0 1 (.ex 1)),.nils,(.sl 13 0 1 (.ex 1))] 33) (.m (bk [(.mapr 21)] 46)) .leaf)))),24,[],true⟩,[⟨⟨72,0,false⟩,(Zv prog 9 [1,1,0,1,0,0,1,1,0,0,1,1,0,0] 2),(Zy prog 9 [1,1,0,1,0,0,1,1,0,0,1,1,0,0] 1),none,(Zz prog 9),(.k (.node (.ptr 15 0) (.kr (.kr (.o (.z 5)))) (.kr (.kl (.o (.agg [.nils,(.sl 9 0 1 (.ex 1))]))))) (.k (.node (.ptr 16 0) (.kr (.o (.z 2))) .leaf) (.kl (.o (.sl 14 0 5 (.un 4))))))⟩,⟨⟨27,0,false⟩,(Zv prog 5 [1,0,0] 1),(Zy prog 5 [1,0,0] 1),none,(Zz prog 5),(.node (.sl 14 0 5 (.un 4)) (.node (.str [119,97,108,108]) .leaf (.kr (.o (.sl 14 0 5 (.un 4))))) .leaf)⟩,⟨⟨232,0,false⟩,(Zv prog 3 [1,1,1,1,1,0] 5),(Zy prog 3 [1,1,1,1,1,0] 1),none,(Zz prog 3),(.kr (.node (.sl 11 0 4 (.ex 4)) (.node (.z 6) (.o (.z 14)) .leaf) (.node (.z 6) (.kl (.kl (.o (.sl 14 0 5 (.un 4))))) .leaf)))⟩],.leaf⟩
theorem EZ :Ym prog BH FZ:=G1.trans (Zk Zi Zn Zw (n:=5000) (m:=100000) (d:=4) (N:=⟨[0,1,2,3,4,5,6,7,8,9,10,11,12,13,14,15,73,75,82,83,85,86,87,88],[],[some [1,3,4,5,14,16,17,96,97,98,105,106],some [1,4,14,15,16,25],some [0,1,9],some [1,3,5,7,57]],[none,none,none,none,none,none,none,none,none,none,none,none,none,none,none,none,none,none,none,none,none,none,none,none]⟩) (by kernel_rfl) rfl (by kernel_rfl)).1
def FY :BJ:=⟨⟨19,0,false⟩,(Zv prog 24 [1,0,1,0,0,1,1,0,0,1,0] 4),(Zy prog 24 [1,0,1,0,0,1,1,0,0,1,0] 1),none,(Zz prog 4),⟨(.node (.sl 14 0 5 (.un 4)) (.node (.fn 25 [(.ptr 16 0)]) (.k (.o (.z 5)) (.o (.fn 25 [(.ptr 16 0)]))) (.o (.z 3))) (.k (.kr (.o (.z 3))) (.kl (.o (.ptr 14 12))))),(.node (bk [(.str [104,111,117,115,101]),(.str [115,116,114,101,101,116])] 9) (.node (bk [(.int .u8 1),(.int .u8 0),(.str [104,111,117,115,101,45,114]),.nils,.nils] 60) (.node (bk [(.str [116,111,119,110,45,114]),.nils,(.sl 2 0 1 (.ex 1))] 37) (.node (bk [(.str [104,111,117,115,101,45,114]),.nils,(.sl 6 0 1 (.ex 1))] 37) (.m (bk [(.sl 14 0 5 (.un 4))] 22)) .leaf) (.m (bk [(.str [116,111,119,110]),(.sl 0 0 2 (.ex 2)),.nils,(.sl 3 0 1 (.ex 1)),(.str [104,111,117,115,101]),(.sl 4 0 1 (.ex 1)),.nils,(.sl 7 0 1 (.ex 1)),(.str [115,116,114,101,101,116]),(.sl 8 0 1 (.ex 1)),.nils,(.sl 9 0 1 (.ex 1)),(.str [119,97,108,108]),.nils,.nils,(.sl 10 0 1 (.ex 1))] 33))) (.node (bk [(.int .u8 1),(.int .u8 0),(.str [119,97,108,108,45,114]),.nils,.nils] 60) (.m (bk [(.str [115,116,114,101,101,116,45,114]),.nils,.nils] 37)) (.m (bk [(.str [115,101,108,102,45,114]),.nils,.nils] 37)))) (.node (bk [(.z 1),(.int .u8 1),(.int .u8 2),(.z 0),(.z 0),(.bool true),(.str []),.nils,(.str []),.nils,(.sl 1 0 1 (.ex 1))] 63) (.node (bk [(.str [119,97,108,108])] 9) (.node (bk [(.str [119,97,108,108])] 9) (.m (bk [(.str [119,97,108,108])] 9)) .leaf) (.m (bk [(.str [115,101,108,102])] 9))) (.node (bk [(.z 1),(.int .u8 1),(.int .u8 2),(.z 0),(.z 0),(.bool true),(.str []),.nils,(.str []),.nils,(.sl 5 0 1 (.ex 1))] 63) (.m (bk [(.str [119,97,108,108,45,114]),.nils,.nils] 37)) (.m (bk [(.str [116,111,119,110]),(.sl 0 0 2 (.ex 2)),.nils,(.sl 3 0 1 (.ex 1)),(.str [104,111,117,115,101]),(.sl 4 0 1 (.ex 1)),.nils,(.sl 7 0 1 (.ex 1)),(.str [115,116,114,101,101,116]),(.sl 8 0 1 (.ex 1)),.nils,(.sl 9 0 1 (.ex 1)),(.str [119,97,108,108]),.nils,.nils,(.sl 10 0 1 (.ex 1)),(.str [115,101,108,102]),(.sl 12 0 1 (.ex 1)),.nils,(.sl 13 0 1 (.ex 1))] 33))))),17,[],true⟩,[⟨⟨8,0,false⟩,(Zv prog 12 [1,0] 2),(Zy prog 12 [1,0] 1),none,(Zz prog 4),(.k (.kl (.o (.sl 14 0 5 (.un 4)))) (.kl (.o (.fn 25 [(.ptr 16 0)]))))⟩,⟨⟨8,0,false⟩,(Zv prog 23 [1,0] 2),(Zy prog 23 [1,0] 1),none,(Zz prog 15),(.k (.kl (.o (.str [119,97,108,108]))) (.kr (.o (.sl 14 0 5 (.un 4)))))⟩,⟨⟨19,0,false⟩,(Zv prog 26 [1,0,1,0,0,1,1,0,0,1,0] 5),(Zy prog 26 [1,0,1,0,0,1,1,0,0,1,0] 1),none,(Zz prog 4),(.node (.sl 4 0 1 (.ex 1)) (.node (.fn 23 [(.ptr 15 0)]) (.k (.node (.z 1) (.o (.str [119,97,108,108])) .leaf) (.o (.fn 23 [(.ptr 15 0)]))) (.o (.z 0))) (.kr (.kr (.o (.z 0)))))⟩,⟨⟨9,0,false⟩,(Zv prog 14 [1,0] 2),(Zy prog 14 [1,0] 1),none,(Zz prog 4),(.k (.kl (.o (.sl 4 0 1 (.ex 1)))) (.kl (.o (.fn 23 [(.ptr 15 0)]))))⟩,⟨⟨72,0,false⟩,(Zv prog 9 [1,1,1,1,0,1,0,0,1,1,0,0,1,0] 3),(Zy prog 9 [1,1,1,1,0,1,0,0,1,1,0,0,1,0] 1),none,(Zz prog 9),(.k (.node (.ptr 15 0) (.kr (.kr (.kr (.kr (.o (.z 1)))))) (.kl (.k (.kr (.kr (.o (.fn 23 [(.ptr 15 0)])))) (.kl (.o (.sl 14 0 5 (.un 4))))))) (.k (.kl (.kr (.kr (.kr (.o (.sl 4 0 1 (.ex 1))))))) (.kl (.kl (.kl (.o (.z 5)))))))⟩,⟨⟨27,0,false⟩,(Zv prog 5 [1,0,0] 1),(Zy prog 5 [1,0,0] 1),none,(Zz prog 5),(.node (.sl 14 0 5 (.un 4)) (.node (.str [119,97,108,108]) .leaf (.kr (.o (.sl 14 0 5 (.un 4))))) .leaf)⟩,⟨⟨232,0,false⟩,(Zv prog 3 [1,1,1,1,1,0] 5),(Zy prog 3 [1,1,1,1,1,0] 1),none,(Zz prog 3),(.kr (.node (.sl 11 0 4 (.ex 4)) (.node (.z 6) (.o (.z 14)) .leaf) (.node (.z 6) (.kl (.kl (.o (.sl 14 0 5 (.un 4))))) .leaf)))⟩],.leaf⟩
theorem EY :Ym prog BH FY:=EZ.trans (Zk Zi Zn Zw (n:=5000) (m:=100000) (d:=4) (N:=⟨[0,1,2,3,4,5,6,7,8,9,10,11,12,13,14,15,96],[],[some [0,1,5,7,8,11,14],some [5,6],some [4,5],some [0,1,5,7,8,11,15],some [5,6],some [1,61,62,63,68,69],some [0,1,9],some [1,3,5,7,57]],[none,none,none,none,none,none,none,none,none,none,none,none,none,none,none,none,none]⟩) (by kernel_rfl) rfl (by kernel_rfl)).1
def FX :BJ:=⟨⟨9,0,false⟩,(Zv prog 14 [0] 0),(Zy prog 14 [0] 1),none,(Zz prog 4),⟨(.node .nils (.o (.fn 65 [(.ptr 24 0)])) .leaf),(.node (bk [(.str [104,111,117,115,101]),(.str [115,116,114,101,101,116])] 9) (.node (bk [(.int .u8 1),(.int .u8 0),(.str [104,111,117,115,101,45,114]),.nils,.nils] 60) (.node (bk [(.str [116,111,119,110,45,114]),.nils,(.sl 2 0 1 (.ex 1))] 37) (.node (bk [(.str [104,111,117,115,101,45,114]),.nils,(.sl 6 0 1 (.ex 1))] 37) (.m (bk [(.sl 14 0 5 (.un 4))] 22)) (.m (bk [(.int .u8 1),(.int .u8 2),(.z 0),(.z 0),(.bool true),(.str []),.nils,(.str []),.nils] 57))) (.node (bk [(.str [116,111,119,110]),(.sl 0 0 2 (.ex 2)),.nils,(.sl 3 0 1 (.ex 1)),(.str [104,111,117,115,101]),(.sl 4 0 1 (.ex 1)),.nils,(.sl 7 0 1 (.ex 1)),(.str [115,116,114,101,101,116]),(.sl 8 0 1 (.ex 1)),.nils,(.sl 9 0 1 (.ex 1)),(.str [119,97,108,108]),.nils,.nils,(.sl 10 0 1 (.ex 1))] 33) (.m (bk [(.obj (.mi [([116,111,119,110,45,114],0)]))] 72)) .leaf)) (.node (bk [(.int .u8 1),(.int .u8 0),(.str [119,97,108,108,45,114]),.nils,.nils] 60) (.node (bk [(.str [115,116,114,101,101,116,45,114]),.nils,.nils] 37) (.m (bk [.nils,(.sl 3 0 1 (.ex 1))] 31)) .leaf) (.node (bk [(.str [115,101,108,102,45,114]),.nils,.nils] 37) (.m (bk [(.obj (.mb [([115,120],true),([115,121],true),([115,122],true)]))] 46)) .leaf))) (.node (bk [(.z 1),(.int .u8 1),(.int .u8 2),(.z 0),(.z 0),(.bool true),(.str []),.nils,(.str []),.nils,(.sl 1 0 1 (.ex 1))] 63) (.node (bk [(.str [119,97,108,108])] 9) (.node (bk [(.str [119,97,108,108])] 9) (.m (bk [(.str [116,111,119,110]),(.sl 0 0 2 (.ex 2)),.nils,(.sl 3 0 1 (.ex 1))] 33)) (.m (bk [(.mapr 21)] 46))) (.node (bk [(.str [115,101,108,102])] 9) (.m (bk [(.str [116,111,119,110,45,114]),.nils,(.sl 2 0 1 (.ex 1))] 37)) .leaf)) (.node (bk [(.z 1),(.int .u8 1),(.int .u8 2),(.z 0),(.z 0),(.bool true),(.str []),.nils,(.str []),.nils,(.sl 5 0 1 (.ex 1))] 63) (.node (bk [(.str [119,97,108,108,45,114]),.nils,.nils] 37) (.m (bk [(.obj (.mb []))] 46)) .leaf) (.node (bk [(.str [116,111,119,110]),(.sl 0 0 2 (.ex 2)),.nils,(.sl 3 0 1 (.ex 1)),(.str [104,111,117,115,101]),(.sl 4 0 1 (.ex 1)),.nils,(.sl 7 0 1 (.ex 1)),(.str [115,116,114,101,101,116]),(.sl 8 0 1 (.ex 1)),.nils,(.sl 9 0 1 (.ex 1)),(.str [119,97,108,108]),.nils,.nils,(.sl 10 0 1 (.ex 1)),(.str [115,101,108,102]),(.sl 12 0 1 (.ex 1)),.nils,(.sl 13 0 1 (.ex 1))] 33) (.m (bk [(.mapr 21)] 46)) .leaf)))),25,[],true⟩,[⟨⟨15,0,false⟩,(Zv prog 34 [1,1,0] 2),(Zy prog 34 [1,1,0] 1),none,(Zz prog 4),(.k (.kl (.kl (.o (.fn 65 [(.ptr 24 0)])))) (.kr (.kl (.o .nils))))⟩,⟨⟨7,0,false⟩,(Zv prog 37 [1,0] 2),(Zy prog 37 [1,0] 1),none,(Zz prog 15),(.k (.kl (.o (.mapr 21))) (.kr (.o (.agg [(.int .u8 1),(.int .u8 2),(.z 0),(.z 0),(.bool true),(.str []),.nils,(.str []),.nils]))))⟩,⟨⟨19,0,false⟩,(Zv prog 66 [1,0,1,0,0,1,1,0,0,1,0] 5),(Zy prog 66 [1,0,1,0,0,1,1,0,0,1,0] 1),none,(Zz prog 4),(.node (.sl 23 0 1 (.un 9)) (.node (.fn 37 [(.ptr 22 0)]) (.k (.node (.z 1) (.o (.agg [(.int .u8 1),(.int .u8 2),(.z 0),(.z 0),(.bool true),(.str []),.nils,(.str []),.nils])) .leaf) (.o (.fn 37 [(.ptr 22 0)]))) (.o (.z 0))) (.kr (.kr (.o (.z 0)))))⟩,⟨⟨9,0,false⟩,(Zv prog 35 [1,0] 2),(Zy prog 35 [1,0] 1),none,(Zz prog 4),(.k (.kl (.o (.sl 23 0 1 (.un 9)))) (.kl (.o (.fn 37 [(.ptr 22 0)]))))⟩,⟨⟨170,0,false⟩,(Zv prog 18 [1,1,1,1,1,1,1,1,0,1,0,0,1,1,0,0,1,1,1,1,0] 5),(Zy prog 18 [1,1,1,1,1,1,1,1,0,1,0,0,1,1,0,0,1,1,1,1,0] 1),none,(Zz prog 9),(.k (.node (.ptr 17 0) (.node (.mapr 18) .leaf (.kl (.kl (.kl (.o (.bool false)))))) (.k (.kr (.kr (.kl (.o (.z 1))))) (.kl (.kl (.kl (.o (.sl 23 0 1 (.un 9)))))))) (.k (.node (.mapr 19) (.kr (.node (.ptr 20 0) (.kl (.o (.sl 3 0 1 (.ex 1)))) .leaf)) .leaf) (.k (.kr (.kr (.kl (.o (.z 0))))) (.node (.bool false) .leaf (.kl (.kl (.o (.fn 37 [(.ptr 22 0)]))))))))⟩,⟨⟨72,0,false⟩,(Zv prog 9 [1,1,0,1,0,0,1,1,0,0,1,1,0,0] 2),(Zy prog 9 [1,1,0,1,0,0,1,1,0,0,1,1,0,0] 1),none,(Zz prog 9),(.k (.node (.ptr 15 0) (.kr (.kr (.o (.z 5)))) (.kr (.kl (.o (.agg [.nils,(.sl 3 0 1 (.ex 1))]))))) (.k (.node (.ptr 16 0) (.kr (.o (.z 0))) .leaf) (.kl (.o (.sl 14 0 5 (.un 4))))))⟩,⟨⟨27,0,false⟩,(Zv prog 5 [1,0,0] 1),(Zy prog 5 [1,0,0] 1),none,(Zz prog 5),(.node (.sl 14 0 5 (.un 4)) (.node (.str [115,101,108,102]) .leaf (.kr (.o (.sl 14 0 5 (.un 4))))) .leaf)⟩,⟨⟨232,0,false⟩,(Zv prog 3 [1,1,1,1,1,1,0] 5),(Zy prog 3 [1,1,1,1,1,1,0] 1),none,(Zz prog 3),(.k (.node (.sl 11 0 4 (.ex 4)) (.node (.z 6) (.o (.z 14)) .leaf) (.node (.z 6) (.o (.z 0)) .leaf)) (.kl (.kr (.kr (.kr (.kr (.o (.sl 14 0 5 (.un 4)))))))))⟩],.leaf⟩
theorem EX :Ym prog BH FX:=EY.trans (Zk Zi Zn Zw (n:=5000) (m:=100000) (d:=4) (N:=⟨[0,1,2,3,4,5,6,7,8,9,10,11,48,52,54,55,56,58,85,86,88,89,90,95,99],[],[some [0,1],some [12,13],some [4,5],some [0,1,5,7,8,11,15],some [5,6],some [1,3,4,14,16,96,97,98,123,125,126],some [1,4,14,15,16,25],some [0,1,9],some [1,3,5,7,9,66]],[none,none,none,none,none,none,none,none,none,none,none,none,none,none,none,none,none,none,none,none,none,none,none,none,none]⟩) (by kernel_rfl) rfl (by kernel_rfl)).1
end Go.Am
end
