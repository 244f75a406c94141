/- A part of a proof: several texts in one. -/
import Derived.Test.YthnnmgkacjjpeaaGreatDoorNd1
import Derived.AtR
import Derived.RangeFuncRecord
import Derived.RangeFuncNested
import Derived.Laws.BytesString
import Derived.Lib.UnsafeStr
import Derived.MapKept
import Derived.Sort.Grow
import Derived.Deep.Slices
import Derived.Deep.Fields
import Derived.ChangeSame
import Derived.OpenShut
import Derived.Shelf.Strings.Builder1
import Derived.Shelf.Strings.Split
set_option maxRecDepth 1000000
set_option maxHeartbeats 8000000
set_option linter.unusedVariables false
set_option linter.unusedSimpArgs false
noncomputable section
namespace Go.Am
open IntKind (wrap)
abbrev BQ :=Array Oper×Nat×List Oper
structure BS where
 cx:BK
 ro:Option BQ
 todo:List Item
 rnd:Option Nat
 rs:List ResultVar
 env:T BA
structure Bw where
 st:LoopState
 pend:Option Code
 n:Nat
 env:T BA
 params:List Tmp
 assign:Code
 body:Code
abbrev BL :=T (Option Bw)
def B6 (m:BL) (b:Nat):Option Bw:=T.get none m b
def DE (m:BL) (b:Nat) (o:Option Bw):BL:=T.set none m b o
structure BJ where
 cx:BK
 ro:Option BQ
 todo:List Item
 rnd:Option Nat
 rs:List ResultVar
 st:St
 cs:List BS
 lps:BL
def Du (v:BA) (st:St) (lps:BL):List BS->Option BJ
 | ⟨cx,some (ops,i,o::l),todo,rnd,rs,env⟩::cs=>match (st.withEnv env).put cx o.dst v with
  | some st'=>some ⟨cx,some (ops,i+1,l),todo,rnd,rs,st',cs,lps⟩
  | none=>none
 | ⟨cx,none,.inRangeFunc j::k,rnd,rs,env⟩::cs=>some ⟨cx,none,.endRangeFunc j::k,rnd,rs,st.withEnv env,cs,lps⟩
 | _=>none
def Ho :Option Code->LoopState
 | none=>.ready
 | some _=>.done
def II (lps:BL):Option Nat->Bool
 | none=>true
 | some j=>(B6 lps j).isSome
def Hq (P:Program) (rnd:Option Nat) (rs:List ResultVar) (st:St) (cs:List BS) (lps:BL) (jump:Option Code):Option BJ:=
 match rnd with
 | none=>match Wg P st rs with
  | some vs=>Du (Uz vs) st lps cs
  | none=>none
 | some j=>match B6 lps j with
  | some ⟨_,_,n,env,params,assign,body⟩=>
   Du (.bool jump.isNone) st (DE lps j (some ⟨Ho jump,jump,n,env,params,assign,body⟩)) cs
  | none=>none
def JS (n:Nat):List Tmp->List BA->T BA->Option (T BA)
 | [],[],env=>some env
 | t::ts,a::l,env=>bif Nat.ble (t+1) n then JS n ts l (T.set .undef env t a) else none
 | _,_,_=>none
def HI (P:Program) (f:FuncId) (args:List BA) (fr:BS) (st:St) (cs:List BS) (lps:BL):Option BJ:=
 match P.funcs[f]? with
 | some fn=>match fn.body with
  | some body=>some ⟨⟨Nat.max fn.ntmps args.length,fr.cx.floor,fr.cx.sym⟩,none,[.code body],none,fn.results.toList,st.withEnv (Cf args 0 .leaf),fr::cs,lps⟩
  | none=>none
 | none=>none
def P8 (j:Nat) (args:List BA) (fr:BS) (st:St) (cs:List BS) (lps:BL):Option BJ:=
 match B6 lps j with
 | some ⟨_,_,n,env,params,assign,body⟩=>match JS n params args env with
  | some env'=>some ⟨⟨n,fr.cx.floor,fr.cx.sym⟩,none,[.code assign,.beginRound,.code body],some j,[],st.withEnv env',fr::cs,lps⟩
  | none=>none
 | none=>none
def callee (S:BB) (st:St) (op:Op):Option ((FuncId×List BA) ⊕ (Nat×List BA)):=
 match op with
 | .call {callee:=.value f,args,argTypes:=_}=>match st.eval f with
  | .fn g caps=>match S g with
   | some _=>none
   | none=>some (.inl (g,args.toList.map st.eval++caps))
  | .fnb g first=>match S g with
   | some _=>none
   | none=>some (.inl (g,first++args.toList.map st.eval))
  | .yld j=>some (.inr (j,args.toList.map st.eval))
  | _=>none
 | _=>none
def Hc (P:Program) (t:TypeId):Option Bool:=match P.underlying t with
 | some (.map k e)=>match P.underlying k,P.underlying e,P.info? e with
  | some .string,some (.int .i64),some i=>match i.zero with
   | some (.int .i64 n)=>bif n == 0 then some true else none
   | _=>none
  | some .string,some .bool,some i=>match i.zero with
   | some (.bool b)=>bif b then none else some false
   | _=>none
  | _,_,_=>none
 | _=>none
def DD {α:Type} (l:List (List UInt8×α)) (k:List UInt8):Bool:=l.any fun p=>k == p.1
def Ku {α:Type} (d:α):List (List UInt8×α)->List UInt8->α
 | [],_=>d
 | p::r,k=>bif k == p.1 then p.2 else Ku d r k
def DH {α:Type}:List (List UInt8×α)->List UInt8->α->List (List UInt8×α)
 | [],k,v=>[(k,v)]
 | p::r,k,v=>bif k == p.1 then (p.1,v)::r else p::DH r k v
def X2 (s:List UInt8) (pos:Nat):Int:=((Utf8.decode ⟨s.toArray⟩ pos).1:Int)
def NM (s:List UInt8) (pos:Nat):Nat:=(Utf8.decode ⟨s.toArray⟩ pos).2
def FC :BA->UInt8
 | .int _ n=>UInt8.ofNat n.toNat
 | _=>0
def EP :BA->Bool
 | .int .u8 n=>decide (0<=n/\n<256)
 | _=>false
def Cy (n:Nat) (g:Nat->List BA):List UInt8:=(List.range n).map fun k=>FC ((g k).getD 0 .undef)
def Pm :List BA->Bool
 | [v]=>EP v
 | _=>false
def Hb (n:Nat) (g:Nat->List BA):Bool:=GQ ((List.range n).all fun k=>Pm (g k)) (∀k,k<n-> ∃v,g k=[v]/\EP v=true)
def Hm (m:BG):BA->Option (List UInt8×Bool)
 | .nils =>some ([],true)
 | .sl b off len _=>match Zf m b with
  | some blk=>bif blk.isObj then none else match cut blk.cells off len with
   | some cs=>some (cs.map FC,cs.all EP)
   | none=>none
  | none=>none
 | .sla b sz off len _=>match Zf m b with
  | some blk=>match blk.arr with
   | some A=>some (Cy len fun k=>A.get (off+k),Nat.beq sz 1&&(Nat.beq A.sz 1&&(decide (off+len<=A.n)&&Hb len fun k=>A.get (off+k))))
   | none=>none
  | none=>none
 | _=>none
def IL :BA->Option Nat
 | .sl b _ _ _=>some b
 | .sla b _ _ _ _=>some b
 | _=>none
def HO (P:Program) (floor:Nat) (st:St) (t:TypeId) (x k v:BA):Option St:=match x,k with
 | .mapr b,.str k=>bif Nat.ble floor b then match Hc P t,Zf st.mem b,v with
  | some true,some ⟨[.obj (.mi l)],ty,none⟩,.int .i64 n=>some (st.withMem (Ym st.mem b (some ⟨[.obj (.mi (DH l k n))],ty,none⟩)))
  | some false,some ⟨[.obj (.mb l)],ty,none⟩,.bool e=>some (st.withMem (Ym st.mem b (some ⟨[.obj (.mb (DH l k e))],ty,none⟩)))
  | _,_,_=>none
  else none
 | _,_=>none
def aX (P:Program) (floor:Nat) (st:St):Op->Option (BA×Bool×St)
 | .makeMap t none=>match Hc P t with
  | some k=>some (.mapr st.next,true,BU st [.obj (bif k then .mi [] else .mb [])] t)
  | none=>none
 | .lookup t x i co=>match st.eval x,st.eval i with
  | .mapr b,.str k=>match Hc P t,Zf st.mem b with
   | some true,some ⟨[.obj (.mi l)],_,none⟩=>some (bif co then .tup [.int .i64 (Ku 0 l k),.bool (DD l k)] else .int .i64 (Ku 0 l k),true,st)
   | some false,some ⟨[.obj (.mb l)],_,none⟩=>some (bif co then .tup [.bool (Ku false l k),.bool (DD l k)] else .bool (Ku false l k),true,st)
   | _,_=>none
  | _,_=>none
 | .mapUpdate t m k v=>(HO P floor st t (st.eval m) (st.eval k) (st.eval v)).map fun st'=>(.tup [],true,st')
 | .insert t m k v=>(HO P floor st t (st.eval m) (st.eval k) (st.eval v)).map fun st'=>(.tup [],true,st')
 | .range t x=>match P.underlying t,st.eval x with
  | some .string,.str s=>some (.ptr st.next 0,true,BU st [.obj (.it s 0)] t)
  | _,_=>none
 | .next x true=>match st.eval x with
  | .ptr b 0=>bif Nat.ble floor b then match Zf st.mem b with
   | some ⟨[.obj (.it s pos)],ty,none⟩=>match st.test (decide (pos<s.length)) with
    | (e,st1)=>some (bif e then .tup [.bool true,.int .i64 pos,.int .i32 (X2 s pos)] else .tup [.bool false],true,
      bif e then st1.withMem (Ym st1.mem b (some ⟨[.obj (.it s (pos+NM s pos))],ty,none⟩)) else st1)
   | _=>none
   else none
  | _=>none
 | .alloc t=>bif Nat.beq t Bv then match P.info? t with
   | some i=>match i.zero with
    | some (.agg ⟨[.pointer none,.slice none 0 0]⟩)=>some (.ptr st.next 0,true,BU st [.obj .bld,.nils] t)
    | _=>none
   | none=>none
  else none
 | .load t x=>match st.eval x with
  | .ptr b 1=>match Zf st.mem b,KR P t,P.info? t with
   | some ⟨[.obj .bld,buf],_,none⟩,some false,some _=>some (buf,true,st)
   | _,_,_=>none
  | _=>none
 | .store t a x=>match st.eval a with
  | .ptr b 1=>bif Nat.ble floor b&&B1 (st.eval x) then match Zf st.mem b,P.info? t with
   | some ⟨[.obj .bld,_],ty,none⟩,some i=>bif Nat.beq i.size 1 then some (.tup [],true,st.withMem (Ym st.mem b (some ⟨[.obj .bld,st.eval x],ty,none⟩))) else none
   | _,_=>none
   else none
  | _=>none
 | .convert src dst x=>match P.underlying src,P.underlying dst with
  | some (.slice e),some .string =>match P.underlying e with
   | some (.int .u8)=>match Hm st.mem (st.eval x) with
    | some (s,o)=>some (.str s,o,st)
    | none=>none
   | _=>none
  | _,_=>none
 | .binOp op t x y _=>match st.eval x,y,P.underlying t with
  | .ifb b,.const .nilIface,some (.interface _)=>match op with
   | .eql =>some (.bool b,true,st)
   | .neq =>some (.bool !b,true,st)
   | _=>none
  | _,_,_=>none
 | .call {callee:=.value f,args,argTypes:=_}=>match st.eval f,args.toList.map st.eval with
  | .fn g [],[.ptr b 0]=>bif Nat.beq g F8&&(P.funcs[g]?).any (fun fn=>fn.body.isSome) then match Zf st.mem b with
    | some ⟨[.obj .bld,buf],ty,none⟩=>bif Nat.beq ty Bv then match Hm st.mem buf with
     | some (s,o)=>match IL buf with
      | none=>some (.str s,decide (s.length<=9223372036854775807)&&o,st)
      | some c=>bif Nat.ble floor c&&E6 st.mem Gw c then some (.str s,decide (s.length<=9223372036854775807)&&o,st.withMem (Ym st.mem c none)) else none
     | none=>none
     else none
    | _=>none
   else none
  | _,_=>none
 | _=>none
def Me (P:Program) (S:BB) (Rc:BH) (cx:BK) (ops:Array Oper) (i:Nat) (o:Oper) (l:List Oper) (todo:List Item) (rnd:Option Nat) (rs:List ResultVar) (st:St) (cs:List BS) (lps:BL):Option BJ:=
 match Uw ops o cx st with
 | some (true,st)=>match aX P cx.floor st o.op with
  | some (v,b,st1)=>match st1.owe cx b with
   | some st2=>match st2.put cx o.dst v with
    | some st3=>some ⟨cx,some (ops,i+1,l),todo,rnd,rs,st3,cs,lps⟩
    | none=>none
   | none=>none
  | none=>match callee S st o.op with
  | some (.inl (g,args))=>HI P g args ⟨cx,some (ops,i,o::l),todo,rnd,rs,st.env⟩ st cs lps
  | some (.inr (j,args))=>P8 j args ⟨cx,some (ops,i,o::l),todo,rnd,rs,st.env⟩ st cs lps
  | none=>match FF P S Rc false o cx st with
   | some st=>some ⟨cx,some (ops,i+1,l),todo,rnd,rs,st,cs,lps⟩
   | none=>none
 | some (false,st)=>match st.put cx o.dst (.tup []) with
  | some st=>some ⟨cx,some (ops,i+1,l),todo,rnd,rs,st,cs,lps⟩
  | none=>none
 | none=>none
def Jn (ops:Array Oper):Bool:=ops.toList.all fun o=>match o.op with
 | .defer _=>false
 | _=>true
def CV (o:Oper):Oper:=⟨none,.move (.const (.bool true)),o.type,o.pos,o.after,none⟩
def Yi (ops:Array Oper) (m:Nat):Array Oper:=⟨ops.toList.take m++(ops.toList.drop m).map CV⟩
def Pe (ops:Array Oper) (m:Nat):Bool:=
 Jn ops&&(FD 0 (Yi ops m)&&(((List.range ops.size).all fun j=>Nat.ble (j+1) m||(List.range j).all fun i=>((Ch (Yi ops m).toList []).getD j 0).testBit i)&&((List.range m).all fun i=>match ops[i]? with
  | some ⟨_,_,_,_,_,some (j,_)⟩=>Nat.ble (j+1) m
  | _=>true)))
def MW (f:Operand):List Oper->Operand
 | []=>f
 | ⟨some d,.move x,_,_,_,_⟩::l=>match f with
  | .tmp t=>bif Nat.beq t d then x else MW f l
  | _=>f
 | _::l=>MW f l
def Py (st:St) (ops:List Oper):Oper->Bool
 | ⟨_,.call ⟨.value f,_,_⟩,_,_,_,_⟩=>match st.eval (MW f ops) with
  | .yld _=>true
  | _=>false
 | _=>false
def JU (st:St) (ops:List Oper):List Oper->Nat->Option Nat
 | [],_=>none
 | o::l,i=>bif Py st ops o then some i else JU st ops l (i+1)
def MX (ops:Array Oper) (st:St):Option Nat:=
 match JU st ops.toList ops.toList 0 with
 | some m=>bif Pe ops m then some m else none
 | none=>none
def Dl (ops:Array Oper):List Nat->Option Nat
 | []=>none
 | z::l=>bif FD z ops then some z else Dl ops l
def G6 (ops:Array Oper):Bool:=ops.toList.any fun o=>match o.op with
 | .call {callee:=.builtin .append,.. }=>true
 | _=>false
def T7 (ops:Array Oper):Bool:=ops.toList.any fun o=>match o.op,o.dst with
 | .buildSlice _ _ _,some d=>ops.toList.any fun p=>match p.op with
  | .call {callee:=.value _,args,argTypes:=_}=>args.toList.any fun a=>match a with
   | .tmp t=>Nat.beq t d
   | _=>false
  | _=>false
 | _,_=>false
def MU (ops:Array Oper):Option Nat:=bif Jn ops then Dl ops (bif T7 ops then [1,0,2] else bif G6 ops then [0,2,3,1] else [0,1,2]) else none
def St.nextId :St->Nat×St
 | ⟨env,mem,next,orc,ob⟩=>(next,⟨env,mem,next+1,orc,ob⟩)
def HZ (P:Program) (S:BB) (Rc:BH):BJ->Option BJ
 | ⟨cx,some (_,_,[]),todo,rnd,rs,st,cs,lps⟩=>some ⟨cx,none,todo,rnd,rs,st,cs,lps⟩
 | ⟨cx,some (ops,i,o::l),todo,rnd,rs,st,cs,lps⟩=>Me P S Rc cx ops i o l todo rnd rs st cs lps
 | ⟨cx,none,todo,rnd,rs,st,cs,lps⟩=>match todo with
  | []=>Hq P rnd rs st cs lps none
  | .code .ret ::_=>Hq P rnd rs st cs lps (some .ret)
  | .code .skip ::k=>some ⟨cx,none,k,rnd,rs,st,cs,lps⟩
  | .code (.label _)::k=>some ⟨cx,none,k,rnd,rs,st,cs,lps⟩
  | .inBlock _::k=>some ⟨cx,none,k,rnd,rs,st,cs,lps⟩
  | .inScope _::k=>some ⟨cx,none,k,rnd,rs,st,cs,lps⟩
  | .code (.seq a b)::k=>some ⟨cx,none,.code a::.code b::k,rnd,rs,st,cs,lps⟩
  | .code (.cond c a b)::k=>match st.eval c with
   | .bool v=>match st.test v with
    | (e,st)=>some ⟨cx,none,.code (bif e then a else b)::k,rnd,rs,st,cs,lps⟩
   | _=>none
  | .code (.block id body)::k=>some ⟨cx,none,.code body::.inBlock id::k,rnd,rs,st,cs,lps⟩
  | .code (.scope body)::k=>some ⟨cx,none,.code body::.inScope body::k,rnd,rs,st,cs,lps⟩
  | .code (.loop body)::k=>some ⟨cx,none,.code body::.inLoop body::k,rnd,rs,st,cs,lps⟩
  | .inLoop body::k=>some ⟨cx,none,.code body::.inLoop body::k,rnd,rs,st,cs,lps⟩
  | .code (.exit id)::k=>match exitTo id k with
   | some k=>some ⟨cx,none,k,rnd,rs,st,cs,lps⟩
   | none=>match rnd with
    | some _=>Hq P rnd rs st cs lps (some (.exit id))
    | none=>none
  | .code (.region _ ops false)::k=>bif Jn ops then some ⟨cx,some (ops,0,ops.toList),k,rnd,rs,st,cs,lps⟩ else none
  | .code (.region _ ops true)::k=>match MX ops st with
   | some m=>match HQ 0 P S Rc (Yi ops m) cx (Ud (Yi ops m)) [] st with
    | some st=>some ⟨cx,some (ops,m,ops.toList.drop m),k,rnd,rs,st,cs,lps⟩
    | none=>none
   | none=>match MU ops with
    | some z=>match HQ z P S Rc ops cx (Ud ops) [] st with
     | some st=>some ⟨cx,none,k,rnd,rs,st,cs,lps⟩
     | none=>none
    | none=>none
  | .code (.rangeFunc f params assign body)::k=>match st.eval f with
   | .fn g caps=>match st.nextId with
    | (j,st')=>bif II lps rnd then HI P g (.yld j::caps) ⟨cx,none,.inRangeFunc j::k,rnd,rs,st.env⟩ st' cs (DE lps j (some ⟨.ready,none,cx.n,st.env,params.toList,assign,body⟩)) else none
   | _=>none
  | .beginRound ::k=>match rnd with
   | some j=>match B6 lps j with
    | some ⟨.ready,pend,n,env,params,assign,body⟩=>some ⟨cx,none,k,rnd,rs,st,cs,DE lps j (some ⟨.busy,pend,n,env,params,assign,body⟩)⟩
    | _=>none
   | none=>none
  | .endRangeFunc j::k=>match B6 lps j with
   | some ⟨.busy,_,_,_,_,_,_⟩=>none
   | some ⟨_,pend,n,env,params,assign,body⟩=>some ⟨cx,none,(pend.map Item.code).toList ++k,rnd,rs,st,cs,DE lps j (some ⟨.exhausted,pend,n,env,params,assign,body⟩)⟩
   | none=>none
  | _=>none
def Qd :BJ->Bool
 | ⟨_,none,[],none,_,_,[],_⟩=>true
 | ⟨_,none,.code .ret ::_,none,_,_,[],_⟩=>true
 | _=>false
def Ck (P:Program) (S:BB) (Rc:BH) (n:Nat):BJ->Option BJ:=
 Nat.rec (motive:=fun _=>BJ->Option BJ) (fun _=>none) (fun _ R C=>bif Qd C then some C else match HZ P S Rc C with
  | some C'=>R C'
  | none=>none) n
def Vt :Item->Bool
 | .code _ | .inBlock _ | .inLoop _ | .inScope _ | .beginRound =>true
 | _=>false
def E4 (P:Program) (S:BB) (n:Nat) (d:Nat):BH:=
 Nat.rec (motive:=fun _=>BH) (fun _ _ _=>none) (fun _ R cx todo st=>bif todo.all Vt&&Nat.ble cx.floor st.next then match Ck P S R n ⟨cx,none,todo,none,[],st,[],.leaf⟩ with
  | some C=>bif Nat.beq C.cx.n cx.n then some C.st else none
  | none=>none
  else none) d
section
variable {P:Program}
section ops
variable {b:Frame} {a:Act} {k:List Item} {cs:List Frame} {w:World} {ops:Array Oper}
theorem LK {i:Nat} {rest:List Nat} {o:Oper} {K:Act->World->Prop} {Q:Exit->Act->World->Prop} (hQ: ∀e a w,Q e a w->e=.normal) (ho:ops[i]? =some o) (hnd: ∀c,o.op≠ .defer c)
  (h:if Region.wanted o (yielded ops a.tmps) then o.wp P a w K Q else K (a.put o.dst undef) w):
  ∃a' w',K a' w'/\Steps P (lone (b.atR a (.inRegion ops (i::rest)::k)) cs w) (lone (b.atR a' (.inRegion ops rest::k)) cs w'):=by
 by_cases hw:Region.wanted o (yielded ops a.tmps)=true
 .rw [Aw hw] at h;have hg:=stepGR_op (P:=P) (b:=b) (k:=k) (cs:=cs) (w:=w) (rest:=rest) ho hw;rw [Oper.semAt_eq _ _ _ hnd] at hg;have fin: ∀(a:Act) (v:Value),(b.atR a (.inRegion ops (i::rest)::k)).finish v=b.atR (a.put o.dst v) (.inRegion ops rest::k):=fun a v=>by rw [Frame.finish_atR,ho];rfl
  unfold Oper.wp at h;generalize hr:(execOp a.eval o).run P w=r at h;cases r with
  | ok n w'=>
   cases n <;> simp only [Oper.upon] at h
   case value v=>exact ⟨_,w',h,.one (step_lone_go (by simp_all [stepG.apply]))⟩
   case skip=>exact ⟨_,w',h,.one (step_lone_go (by simp_all [stepG.apply]))⟩
   case defer d=>refine ⟨_,w',h,.one (step_lone_go ?_)⟩;have e:=fin {a with defers:=d::a.defers} undef;simp_all [stepG.apply,Frame.atR]
   case enter f args=>
    obtain ⟨e,w'',fr,hR,dP,_,hleave⟩:=h (b.atR a (.inRegion ops (i::rest)::k)::cs);have eS:step P (lone (b.atR a (.inRegion ops (i::rest)::k)) cs w)=.next (lone (Frame.enter P f args .normal) (b.atR a (.inRegion ops (i::rest)::k)::cs) w'):=
     step_lone_go (by simp_all [stepG.apply,Frame.atR])
    cases e with
    | returned v=>
     refine ⟨_,w'',hR,.head eS (dP.trans (.one ?_))⟩
     grind [step_leave_returned]
    | panicked chain=>grind
    | outgrown=>obtain ⟨_,_,hq⟩:=hR;grind
   case row row args=>
    obtain ⟨v,w'',hR,dP⟩:=h (b.atR a (.inRegion ops (i::rest)::k)) cs;have eS:step P (lone (b.atR a (.inRegion ops (i::rest)::k)) cs w)=.next (lone (Frame.ofRow P row args .normal) (b.atR a (.inRegion ops (i::rest)::k)::cs) w'):=
     step_lone_go (by simp_all [stepG.apply,Frame.atR])
    refine ⟨_,w'',hR,.head eS ?_⟩
    grind
   all_goals exact h.elim
  | halt x w'=>cases x <;> simp only [Oper.upon] at h <;> first | exact h.elim | grind
 .rw [At hw] at h;have hs:=stepR_op_skip (P:=P) (b:=b) (a:=a) (k:=k) (cs:=cs) (w:=w) (ops:=ops) (i:=i) (rest:=rest) (by grind);rw [ho] at hs;exact ⟨_,w,h,.one hs⟩
theorem Lb {R:Act->World->Prop} {Q:Exit->Act->World->Prop} (hQ: ∀e a w,Q e a w->e=.normal /\R a w) (hnd:Jn ops=true): ∀(l:List Nat) (a:Act) (w:World),wpOps P ops Q l a w->
  ∃a' w',R a' w'/\Steps P (lone (b.atR a (.inRegion ops l::k)) cs w) (lone (b.atR a' k) cs w')
 | [],a,w,h=>⟨a,w,(hQ _ _ _ h).2,.one stepR_region_end⟩
 | i::l,a,w,h=>by
  simp only [wpOps] at h;cases ho:ops[i]? with
  | none=>rw [ho] at h;obtain ⟨a',w',hR,hs⟩:=Lb hQ hnd l a w h;have h1:=stepR_op_skip (P:=P) (b:=b) (a:=a) (k:=k) (cs:=cs) (w:=w) (ops:=ops) (i:=i) (rest:=l) (by simp [ho]);rw [ho] at h1;exact ⟨a',w',hR,.head h1 hs⟩
  | some o=>
   rw [ho] at h;have hno: ∀c,o.op≠ .defer c:=by
    intro c hc;have hm:o∈ops.toList:=(by grind);have:=Av.1 hnd o hm
    grind
   have h':if Region.wanted o (yielded ops a.tmps) then o.wp P a w (wpOps P ops Q l) Q else wpOps P ops Q l (a.put o.dst undef) w:=by
    by_cases hw:Region.wanted o (yielded ops a.tmps)=true
    .simp only [hw,if_true] at h ⊢;rcases h with h | ⟨_,a0,w0,h0⟩;all_goals grind
    grind
   obtain ⟨a1,w1,h1,s1⟩:=LK (b:=b) (k:=k) (cs:=cs) (rest:=l) (fun e a w q=>(hQ e a w q).1) ho hno h';obtain ⟨a',w',hR,hs⟩:=Lb hQ hnd l a1 w1 h1;exact ⟨a',w',hR,s1.trans hs⟩
end ops
end
section
variable {P:Program}
def Sp (ρ:BC) (w:World) (r:Nat):Prop:=r<w.heap.size/\ρ.fz r=none/\ ∀b l,ρ b=some l->l.blk≠r
theorem Sp.ev {ρ ρ':BC} {floor:Nat} {m m':BG} {n n':Nat} {w w':World} (he:Ev ρ ρ' floor m n m' n' w w') {r:Nat} (hs:Sp ρ w r):Sp ρ' w' r/\w'.heap[r]? =w.heap[r]? :=by
 obtain ⟨h1,h2,h3⟩:=hs;refine ⟨⟨AF h1 he.size,by rw [he.still r h1];exact h2,fun b l hl=> ?_⟩,?_⟩
 .by_cases hb:b<n
  .rw [he.new b hb] at hl;grind
  .rcases he.fresh b l (by omega) hl with h | ⟨b0,l0,e0,_,g0⟩;all_goals grind
 .have:w.heap[r]? =some w.heap[r]:=by simp [h1]
  rw [this];exact he.frame r _ this fun b l hl _=>h3 b l hl
structure Xk (m:List Nat) (w w':World):Prop where
 size:w'.heap.size=w.heap.size
 other: ∀k,k ∉ m->w'.heap[k]? =w.heap[k]?
 os:w'.os=w.os
 tape:w'.tape=w.tape
 output:w'.output=w.output
theorem Xk.refl (m:List Nat) (w:World):Xk m w w:=⟨rfl,fun _ _=>rfl,rfl,rfl,rfl⟩
theorem Xk.put (w:World) (r:Nat) (o:Obj):Xk [r] w (w.putObj r o):=⟨World.putObj_size,fun k hk=>World.putObj_heap_other (by grind),rfl,rfl,rfl⟩
theorem Xk.trans {m m':List Nat} {a b c:World} (h:Xk m a b) (k:Xk m' b c):Xk (m++m') a c:=
 ⟨k.size.trans h.size,fun i hi=>by simp only [List.mem_append,not_or] at hi;exact (k.other i hi.2).trans (h.other i hi.1),k.os.trans h.os,k.tape.trans h.tape,k.output.trans h.output⟩
theorem BE.turned {ρ:BC} {mem:BG} {next:Nat} {w w':World} (h:BE ρ mem next w) {m:List Nat} (hm: ∀r∈m,Sp ρ w r) (ht:Xk m w w'):BE ρ mem next w':=
 ⟨h.dom,h.inj,fun b l ab e g=>(h.blk b l ab e g).world (BC.le_refl ρ) (ht.other _ fun hr=>(hm _ hr).2.2 b l e rfl),fun k o e=>by
  rw [ht.other k fun hr=>by rw [(hm _ hr).2.1] at e;cases e];exact h.old k o e,
  h.sep,fun b l e=>by rw [ht.size];exact h.real b l e,h.bd,h.ldom⟩
theorem Ev.turned {ρ0 ρ:BC} {floor:Nat} {m0 mem:BG} {n0 next:Nat} {w0 w w':World} (h:Ev ρ0 ρ floor m0 n0 mem next w0 w) {m:List Nat} (hm: ∀r∈m,w0.heap.size<=r) (ht:Xk m w w'):Ev ρ0 ρ floor m0 n0 mem next w0 w':=
 ⟨h.ext,h.new,h.nxt,h.unborn,fun k o hk hf=>by
  have hlt:k<w0.heap.size:=(As.1 hk).1;rw [ht.other k fun hr=>by grind];exact h.frame k o hk hf,h.fresh,by rw [ht.size];exact h.size,ht.os.trans h.os,ht.tape.trans h.tape,ht.output.trans h.output,h.still⟩
theorem Sp.turned {ρ:BC} {w w':World} {r:Nat} (h:Sp ρ w r) {m:List Nat} (ht:Xk m w w'):Sp ρ w' r:=⟨by rw [ht.size];exact h.1,h.2.1,h.2.2⟩
theorem BE.grow {ρ:BC} {mem:BG} {next:Nat} {w:World} (h:BE ρ mem next w) (o:Obj):BE ρ mem next (w.alloc o):=by
 have same: ∀k,k<w.heap.size->(w.alloc o).heap[k]? =w.heap[k]? :=fun k hk=>by
  show (w.heap.push o)[k]? =_
  grind
 exact ⟨h.dom,h.inj,fun b l ab e g=>(h.blk b l ab e g).world (BC.le_refl ρ) (same _ (h.real b l e)),fun k ob e=>by
  have:=h.old k ob e
  grind,h.sep,fun b l e=>by
  have:=h.real b l e
  grind,h.bd,h.ldom⟩
theorem Ev.grow {ρ0 ρ:BC} {floor:Nat} {m0 mem:BG} {n0 next:Nat} {w0 w:World} (h:Ev ρ0 ρ floor m0 n0 mem next w0 w) (o:Obj):Ev ρ0 ρ floor m0 n0 mem next w0 (w.alloc o):=
 ⟨h.ext,h.new,h.nxt,h.unborn,fun k ob hk hf=>by
  have:=h.frame k ob hk hf;have hlt:=(As.1 this).1;show (w.heap.push o)[k]? =_
  grind,h.fresh,by
  have:=h.size;show _<=(w.heap.push o).size;simp;omega,h.os,h.tape,h.output,h.still⟩
theorem Sp.grow {ρ:BC} {w:World} {r:Nat} (h:Sp ρ w r) (o:Obj):Sp ρ (w.alloc o) r/\(w.alloc o).heap[r]? =w.heap[r]? :=by
 refine ⟨⟨?_,h.2.1,h.2.2⟩,?_⟩
 .have:=h.1;show r<(w.heap.push o).size;simp;omega
 .show (w.heap.push o)[r]? =_;simp [Bj,AQ h.1]
theorem Sp.fresh {ρ:BC} {mem:BG} {next:Nat} {w:World} (h:BE ρ mem next w) (o:Obj):Sp ρ (w.alloc o) w.heap.size:=
 ⟨by simp_all,h.hold _ (Ai _),fun b l e=>AQ (h.real b l e)⟩
def lpAdd (ρ:BC) (j l:Nat):BC:=⟨ρ.f,ρ.fz,fun k=>if k=j then some l else ρ.lp k⟩
theorem BE.lp_none {ρ:BC} {mem:BG} {next:Nat} {w:World} (h:BE ρ mem next w):ρ.lp next=none:=by
 cases e:ρ.lp next with
 | none=>rfl
 | some l=>exact absurd (h.ldom.1 _ _ e) (Nat.lt_irrefl _)
theorem LG {ρ:BC} {j l:Nat} (h:ρ.lp j=none):ρ.le (lpAdd ρ j l):=⟨fun _ _ e=>e,fun _ _ e=>e,fun k l' e=>by
 show (if k=j then some l else ρ.lp k)=some l'
 grind⟩
theorem BE.lpAdd {ρ:BC} {mem:BG} {next:Nat} {w:World} (h:BE ρ mem next w) (l:Nat):BE (lpAdd ρ next l) mem (next+1) w:=
 ⟨fun b l' e=>AT (h.dom b l' e),h.inj,fun b l' ab e g=>(h.blk b l' ab e g).world (LG h.lp_none) rfl,h.old,h.sep,h.real,fun b hb=>h.bd b (by omega),⟨fun j l' e=>by
  have e:(if j=next then some l else ρ.lp j)=some l':=e;by_cases hj:j=next
  .omega
  .rw [At hj] at e;exact AT (h.ldom.1 j l' e),h.ldom.2⟩⟩
theorem Ev.lpAdd {ρ0 ρ:BC} {floor:Nat} {m0 mem:BG} {n0 next:Nat} {w0 w:World} (h:Ev ρ0 ρ floor m0 n0 mem next w0 w) (hr:BE ρ mem next w) (l:Nat):Ev ρ0 (lpAdd ρ next l) floor m0 n0 mem (next+1) w0 w:=
 ⟨BC.le_trans h.ext (LG hr.lp_none),h.new,Nat.le_succ_of_le h.nxt,h.unborn,h.frame,h.fresh,h.size,h.os,h.tape,h.output,h.still⟩
inductive C5 (ρ:BC):Item->Item->Prop
 | same (x:Item) (h:Vt x=true):C5 ρ x x
 | inR (j l:Nat) (h:ρ.lp j=some l):C5 ρ (.inRangeFunc j) (.inRangeFunc l)
 | endR (j l:Nat) (h:ρ.lp j=some l):C5 ρ (.endRangeFunc j) (.endRangeFunc l)
abbrev Bx (ρ:BC):List Item->List Item->Prop:=Xq (C5 ρ)
theorem Xq.mono {α β:Type} {R R':α->β->Prop} (hr: ∀a b,R a b->R' a b) {l:List α} {m:List β} (h:Xq R l m):Xq R' l m:=by
 induction h with
 | nil=>exact .nil
 | cons h _ ih=>exact .cons (hr _ _ h) ih
theorem C5.mono {ρ ρ':BC} (h:ρ.le ρ') {x y:Item} (hx:C5 ρ x y):C5 ρ' x y:=by
 cases hx with
 | same x hx=>exact .same x hx
 | inR j l e=>exact .inR j l (h.2.2 _ _ e)
 | endR j l e=>exact .endR j l (h.2.2 _ _ e)
theorem Bx.exit {ρ:BC} {k k':List Item} (h:Bx ρ k k') (id:Nat):(∀r,exitTo id k=some r-> ∃r',exitTo id k'=some r'/\Bx ρ r r')/\(exitTo id k=none->exitTo id k'=none):=by
 induction h with
 | nil=>exact ⟨fun r e=>(by cases e),fun _=>rfl⟩
 | @cons x y l m hx t ih=>
  cases hx with
  | same x hx=>
   cases x with
   | inBlock id'=>
    grind [exitTo]
   | code _=>exact ih
   | inLoop _=>exact ih
   | inScope _=>exact ih
   | beginRound=>exact ih
   | inRegion _ _=>cases hx
   | inRangeFunc _=>cases hx
   | endRangeFunc _=>cases hx
   | call _ _ _ _=>cases hx
   | extern _ _=>cases hx
  | inR j l e=>exact ih
  | endR j l e=>exact ih
def F5 (r:Nat):Deferred:={target:=.collected r,args:= #[]}
def Xv (ro:Option BQ) (k:List Item):List Item:=match ro with
 | none=>k
 | some (ops,i,_)=>.inRegion ops ((List.range ops.size).drop i)::k
def My :Option BQ->Prop
 | none=>True
 | some (ops,i,l)=>l=ops.toList.drop i/\Jn ops=true
structure DA (ρ:BC) (cx:BK) (ro:Option BQ) (todo:List Item) (rnd:Option Nat) (env:T BA) (b:Frame) (a:Act) (k:List Item) (ms:List Nat):Prop where
 env:Yt ρ env cx.n a.tmps
 defers:a.defers=ms.map F5
 todo:Bx ρ todo k
 ro:My ro
 rnd:match rnd with
  | none=>b.roundOf=none
  | some j=>ms=[]/\ ∃l,ρ.lp j=some l/\b.roundOf=some l
theorem DA.mono {ρ ρ':BC} (h:ρ.le ρ') {cx:BK} {ro:Option BQ} {todo:List Item} {rnd:Option Nat} {env:T BA} {b:Frame} {a:Act} {k:List Item} {ms:List Nat} (hf:DA ρ cx ro todo rnd env b a k ms):DA ρ' cx ro todo rnd env b a k ms:=
 ⟨hf.env.mono h,hf.defers,hf.todo.mono fun _ _=>C5.mono h,hf.ro,by
  have:=hf.rnd;cases rnd with
  | none=>exact this
  | some j=>obtain ⟨h0,l,h1,h2⟩:=this;exact ⟨h0,l,h.2.2 _ _ h1,h2⟩⟩
def MZ (P:Program) (rnd:Option Nat) (rs:List ResultVar) (b:Frame):Prop:=b.kind=.normal /\(rnd=none-> ∃fn,P.funcs[b.fn]? =some fn/\fn.results.toList=rs)
inductive Cz (P:Program) (ρ:BC):List BS->List Frame->List Nat->Prop
 | nil:Cz P ρ [] [] []
 | cons {af:BS} {b:Frame} {a:Act} {k:List Item} {ms:List Nat} {cs:List BS} {css:List Frame} {mss:List Nat} (h:DA ρ af.cx af.ro af.todo af.rnd af.env b a k ms)
   (hl:cs≠ []->MZ P af.rnd af.rs b) (t:Cz P ρ cs css mss):Cz P ρ (af::cs) (b.atR a (Xv af.ro k)::css) (ms++mss)
theorem Cz.mono {ρ ρ':BC} (h:ρ.le ρ') {cs:List BS} {css:List Frame} {mss:List Nat} (hc:Cz P ρ cs css mss):Cz P ρ' cs css mss:=by
 induction hc with
 | nil=>exact .nil
 | cons hf hl t ih=>exact .cons (hf.mono h) hl ih
structure HF (base:Nat) (ρ:BC) (w:World) (j:Nat) (L:Bw) (l:Nat):Prop where
 lp:ρ.lp j=some l
 low:base<=l
 sp:Sp ρ w l
 obj: ∃tmps fn d,w.heap[l]? =some (.loop ⟨L.st,L.pend,fn,tmps,L.params.toArray,L.assign,L.body,d⟩)/\Yt ρ L.env L.n tmps
structure CE (P:Program) (base:Nat) (ρ:BC) (cs:List BS) (lps:BL) (css:List Frame) (w:World) (m0 m1:List Nat):Prop where
 cs:Cz P ρ cs css m1
 nodup:(m0++m1).Nodup
 marks: ∀r∈m0++m1,base<=r/\Sp ρ w r/\w.heap[r]? =some (.deferred (some []))
 loops: ∀j L,B6 lps j=some L-> ∃l,HF base ρ w j L l
 inj: ∀j j' L L' l,B6 lps j=some L->B6 lps j'=some L'->ρ.lp j=some l->ρ.lp j'=some l->j=j'
theorem HF.ev {base:Nat} {ρ ρ':BC} {floor:Nat} {m m':BG} {n n':Nat} {w w':World} (he:Ev ρ ρ' floor m n m' n' w w') {j:Nat} {L:Bw} {l:Nat} (h:HF base ρ w j L l):HF base ρ' w' j L l:=by obtain ⟨h1,h2,h3,tmps,fn,d,h4,h5⟩:=h;obtain ⟨s1,s2⟩:=h3.ev he;exact ⟨he.ext.2.2 _ _ h1,h2,s1,tmps,fn,d,by grind,h5.mono he.ext⟩
theorem CE.ev {base:Nat} {ρ ρ':BC} {floor:Nat} {m m':BG} {n n':Nat} {w w':World} (he:Ev ρ ρ' floor m n m' n' w w') {cs:List BS} {lps:BL} {css:List Frame} {m0 m1:List Nat} (h:CE P base ρ cs lps css w m0 m1):CE P base ρ' cs lps css w' m0 m1:=by
 refine ⟨h.cs.mono he.ext,h.nodup,fun r hr=> ?_,fun j L hL=> ?_,fun j j' L L' l hL hL' e e'=> ?_⟩
 .obtain ⟨h1,h2,h3⟩:=h.marks r hr;obtain ⟨s1,s2⟩:=h2.ev he
  grind
 .obtain ⟨l,hl⟩:=h.loops j L hL;exact ⟨l,hl.ev he⟩
 .obtain ⟨l1,hl1⟩:=h.loops j L hL;obtain ⟨l2,hl2⟩:=h.loops j' L' hL';have e1:=he.ext.2.2 _ _ hl1.lp;have e2:=he.ext.2.2 _ _ hl2.lp;rw [e] at e1;rw [e'] at e2;obtain rfl:=Ab e1;obtain rfl:=Ab e2;exact h.inj j j' L L' l hL hL' hl1.lp hl2.lp
theorem CE.turned {base:Nat} {ρ:BC} {w w':World} {cs:List BS} {lps:BL} {css:List Frame} {m0 m0' m1:List Nat} (h:CE P base ρ cs lps css w m0 m1) {m:List Nat} (ht:Xk m w w') (hsub:m0'.Sublist m0) (hm: ∀r∈m,r ∉ m0'++m1) (hl: ∀r∈m,∃ds,w.heap[r]? =some (.deferred ds)):
  CE P base ρ cs lps css w' m0' m1:=by
 refine ⟨h.cs,h.nodup.sublist (hsub.append (List.Sublist.refl _)),fun r hr=> ?_,fun j L hL=> ?_,h.inj⟩
 .obtain ⟨h1,h2,h3⟩:=h.marks r ((hsub.append (List.Sublist.refl m1)).subset hr);exact ⟨h1,h2.turned ht,by rw [ht.other r fun hrm=>hm r hrm hr];exact h3⟩
 .obtain ⟨l,h1,h2,h3,tmps,fn,d,h4,h5⟩:=h.loops j L hL;refine ⟨l,h1,h2,h3.turned ht,tmps,fn,d,?_,h5⟩;rw [ht.other l fun hlm=> ?_];all_goals grind
theorem CE.record {base:Nat} {ρ:BC} {w w':World} {cs:List BS} {lps:BL} {css:List Frame} {m0 m1:List Nat} (h:CE P base ρ cs lps css w m0 m1) {j l:Nat} {L L':Bw} (hj:B6 lps j=some L) (hl:HF base ρ w j L l)
  (hL:HF base ρ w' j L' l) (ht:Xk [l] w w'):CE P base ρ cs (DE lps j (some L')) css w' m0 m1:=by
 have eW:=hl.obj;obtain ⟨tmps,fn,d,h4,_⟩:=eW;have get: ∀i,B6 (DE lps j (some L')) i=if i=j then some L' else B6 lps i:=fun i=>T.get_set none lps j (some L') i
 refine ⟨h.cs,h.nodup,fun r hr=> ?_,fun i M hM=> ?_,fun i i' M M' l' hM hM' e e'=> ?_⟩
 .obtain ⟨h1,h2,h3⟩:=h.marks r hr;refine ⟨h1,h2.turned ht,?_⟩;rw [ht.other r fun hrm=> ?_];all_goals grind
 .rw [get] at hM;by_cases hij:i=j
  .grind
  .rw [At hij] at hM;obtain ⟨l2,q1,q2,q3,tmps2,fn2,d2,q4,q5⟩:=h.loops i M hM;refine ⟨l2,q1,q2,q3.turned ht,tmps2,fn2,d2,?_,q5⟩;rw [ht.other l2 fun hlm=> ?_]
   .exact q4
   .obtain rfl:l2=l:=by grind
    exact hij (h.inj i j M L l2 hM hj q1 hl.lp)
 .rw [get] at hM hM';have old: ∀x N,(if x=j then some L' else B6 lps x)=some N-> ∃N',B6 lps x=some N':=fun x N hx=>by
   grind
  obtain ⟨N,hN⟩:=old i M hM;obtain ⟨N',hN'⟩:=old i' M' hM';exact h.inj i i' N N' l' hN hN' e e'
end
section
variable {P:Program}
structure Fc (P:Program) (base:Nat) (C:BJ) (ρ:BC) (b:Frame) (a:Act) (k:List Item) (css:List Frame) (w:World) (ma mb:List Nat):Prop where
 top:DA ρ C.cx C.ro C.todo C.rnd C.st.env b a k ma
 lv:C.cs≠ []->MZ P C.rnd C.rs b
 rest:CE P base ρ C.cs C.lps css w ma mb
 rel:BE ρ C.st.mem C.st.next w
structure Fl (fl:Nat) (C:BJ):Prop where
 cx:C.cx.floor=fl
 cs: ∀af∈C.cs,af.cx.floor=fl
 le:fl<=C.st.next
def FQ (b:Frame):List Frame->FuncId×CallKind×Option Nat
 | []=>(b.fn,b.kind,b.roundOf)
 | c::css=>FQ c css
def Cd (P:Program) (fl:Nat) (C C':BJ):Prop:=
 ∀(m0:BG) (n0:Nat) (ρ0:BC) (w0:World) (ρ:BC) (b:Frame) (a:Act) (k:List Item) (css:List Frame) (w:World) (ma mb:List Nat),Fc P w0.heap.size C ρ b a k css w ma mb->Ev ρ0 ρ fl m0 n0 C.st.mem C.st.next w0 w-> ∀cs0:List Frame,
  ∃ρ' b' a' k' css' w' ma' mb',Steps P (lone (b.atR a (Xv C.ro k)) (css++cs0) w) (lone (b'.atR a' (Xv C'.ro k')) (css'++cs0) w')/\Fc P w0.heap.size C' ρ' b' a' k' css' w' ma' mb'/\Ev ρ0 ρ' fl m0 n0 C'.st.mem C'.st.next w0 w'/\FQ b' css'=FQ b css/\w.heap.size<=w'.heap.size
theorem Cd.refl (fl:Nat) (C:BJ):Cd P fl C C:=fun m0 n0 ρ0 w0 ρ b a k css w ma mb hs he cs0=>⟨ρ,b,a,k,css,w,ma,mb,Steps.refl _ _,hs,he,rfl,Ai _⟩
structure CP (P:Program) (fl:Nat) (C C':BJ):Prop where
 fls:Fl fl C'
 inv:Yw fl C.st C'.st
 leads:C'.st.ob=true->Cd P fl C C'
theorem CP.move {fl:Nat} {cx:BK} {todo todo':List Item} {rnd:Option Nat} {rs:List ResultVar} {st:St} {cs:List BS} {lps:BL} (hfl:Fl fl ⟨cx,none,todo,rnd,rs,st,cs,lps⟩)
  (hk: ∀(ρ:BC) (k:List Item),Bx ρ todo k-> ∃k',Bx ρ todo' k'/\ ∀(b:Frame) (a:Act) (css:List Frame) (w:World),step P (lone (b.atR a k) css w)=.next (lone (b.atR a k') css w)):
  CP P fl ⟨cx,none,todo,rnd,rs,st,cs,lps⟩ ⟨cx,none,todo',rnd,rs,st,cs,lps⟩:=
 ⟨⟨hfl.cx,hfl.cs,hfl.le⟩,Yw.refl _ _,fun ho m0 n0 ρ0 w0 ρ b a k css w ma mb hs he cs0=>by
   obtain ⟨k',ht,dW⟩:=hk ρ k hs.top.todo;exact ⟨ρ,b,a,k',css,w,ma,mb,.one (dW b a _ w),⟨⟨hs.top.env,hs.top.defers,ht,trivial,hs.top.rnd⟩,hs.lv,hs.rest,hs.rel⟩,he,rfl,Ai _⟩⟩
theorem Bx.code {ρ:BC} {c:Code} {t k:List Item} (h:Bx ρ (.code c::t) k): ∃k',k=.code c::k'/\Bx ρ t k':=by
 cases h with
 | cons hx ht=>cases hx;grind
theorem OT {cs:List Frame}: ∀(ms:List Nat) (fr:Frame) (w:World),fr.mode=.returning ->fr.defers=ms.map F5->ms.Nodup->(∀r∈ms,w.heap[r]? =some (.deferred (some [])))->
  ∃w',Steps P (lone fr cs w) (lone {fr with defers:=[]} cs w')/\Xk ms w w'
 | [],fr,w,hm,hd,_,_=>⟨w,by
   have:{fr with defers:=[]}=fr:=by cases fr;grind
   rw [this];exact Steps.refl _ _,Xk.refl _ _⟩
 | r::ms,fr,w,hm,hd,hn,ho=>by
  have hr:=ho r (by simp);have h1:=step_collected (P:=P) (cs:=cs) (fr:=fr) (d:=F5 r) (ds:=ms.map F5) (by rw [hm];simp) (by rw [hd];rfl) rfl (run_takeDeferred hr);rw [List.nodup_cons] at hn;obtain ⟨w',hs,ht⟩:=OT (cs:=cs) ms {fr with defers:=ms.map F5} (w.putObj r (.deferred none)) hm rfl hn.2 fun r' hr'=>by
   grind [World.putObj_heap_other]
  exact ⟨w',.head h1 hs,(Xk.put w r _).trans ht⟩
theorem L3 {fl base:Nat} {C:BJ} {ρ:BC} {b:Frame} {a:Act} {k:List Item} {css:List Frame} {w:World} {ma mb:List Nat} (hs:Fc P base C ρ b a k css w ma mb) (hro:C.ro=none) (dK:C.rnd=none) (htodo:C.todo=[]\/ ∃t,C.todo=.code .ret ::t)
  {m0:BG} {n0:Nat} {ρ0:BC} {w0:World} (hb:base=w0.heap.size) (he:Ev ρ0 ρ fl m0 n0 C.st.mem C.st.next w0 w) (cs0:List Frame):
  ∃w',Steps P (lone (b.atR a (Xv C.ro k)) cs0 w) (lone {b.atR {a with defers:=[]} k with mode:=.returning} cs0 w')/\Yt ρ C.st.env C.cx.n a.tmps/\BE ρ C.st.mem C.st.next w'/\Ev ρ0 ρ fl m0 n0 C.st.mem C.st.next w0 w'/\CE P base ρ C.cs C.lps css w' [] mb/\w.heap.size<=w'.heap.size:=by
 have hrn:=hs.top.rnd;rw [dK] at hrn;have h1:step P (lone (b.atR a (Xv C.ro k)) cs0 w)=.next (lone {b.atR a k with mode:=.returning} cs0 w):=by
  rw [hro];have ht:=hs.top.todo;rcases htodo with e | ⟨t,e⟩
  .rw [e] at ht;cases ht;exact stepR_end hrn
  .rw [e] at ht;obtain ⟨k',rfl,_⟩:=ht.code;exact stepR_ret hrn
 have hnd:ma.Nodup:=(List.nodup_append.1 hs.rest.nodup).1;obtain ⟨w',h2,ht⟩:=OT (P:=P) (cs:=cs0) ma {b.atR a k with mode:=.returning} w rfl hs.top.defers hnd fun r hr=>(hs.rest.marks r (by simp [hr])).2.2;refine ⟨w',.head h1 h2,hs.top.env,hs.rel.turned (fun r hr=>(hs.rest.marks r (by simp [hr])).2.1) ht,he.turned (fun r hr=>by rw [<-hb];exact (hs.rest.marks r (by simp [hr])).1) ht,hs.rest.turned ht (List.nil_sublist _) (fun r hr hrm=> ?_) (fun r hr=>⟨_,(hs.rest.marks r (by simp [hr])).2.2⟩),Bs ht.size.symm⟩;rw [AU] at hrm;exact (List.nodup_append.1 hs.rest.nodup).2.2 r hr r hrm rfl
theorem JR {fl base:Nat} {v:BA} {st:St} {lps:BL} {cs:List BS} {C':BJ} (h:Du v st lps cs=some C') (hcs: ∀af∈cs,af.cx.floor=fl) (hle:fl<=st.next):
  Fl fl C'/\C'.st.mem=st.mem/\C'.st.next=st.next/\C'.st.ob=st.ob/\(cs≠ [])/\ ∀(ρ:BC) (css:List Frame) (w:World) (mb:List Nat) (u:Value),Zp ρ v u->CE P base ρ cs lps css w [] mb->BE ρ st.mem st.next w->
   ∃c css' b' a' k' ma' mb',css=c::css'/\c.finish u=b'.atR a' (Xv C'.ro k')/\Fc P base C' ρ b' a' k' css' w ma' mb'/\FQ b' css'=FQ c css':=by
 unfold Du at h;split at h
 .rename_i cx ops i o l todo rnd rs env cs';split at h
  .rename_i st' hp;obtain rfl:=Ab h;obtain ⟨p1,p2,p3,p4⟩:=Yr hp;refine ⟨⟨hcs _ (AM ..),fun af haf=>hcs af (by simp [haf]),by rw [show st'.next=st.next from p2];exact hle⟩,p1,p2,p3,by simp,fun ρ css w mb u hv hr cY=> ?_⟩;obtain ⟨hc,hnd,hmk,hlp,hinj⟩:=hr;cases hc with
   | @cons _ b a k ms _ css' mss hf hl ht=>
    simp only at hf hl;refine ⟨_,css',b,a.put o.dst u,k,ms,mss,rfl,?_,⟨⟨hf.env.put hv ?_,by rw [Act.put_defers'];exact hf.defers,hf.todo,?_,hf.rnd⟩,hl,⟨ht,hnd,hmk,hlp,hinj⟩,?_⟩,by cases css' <;> rfl⟩
    .obtain ⟨hro,_⟩:=hf.ro;have hi:ops.toList[i]? =some o:=by
      have:=Ar (·[0]?) hro
      grind
     have hi':ops[i]? =some o:=(by grind);have hlt:i<ops.size:=(As.1 hi').1;have hd:(List.range ops.size).drop i=i::(List.range ops.size).drop (i+1):=by rw [AX (by grind)];simp
     grind [Xv,Frame.finish_atR]
    .rcases p4 with ⟨e,e2⟩ | ⟨d,e,hlt,e2⟩
     .exact .inl ⟨e,e2⟩
     .exact .inr ⟨d,e,hlt,e2⟩
    .obtain ⟨hro,dX⟩:=hf.ro;refine ⟨?_,dX⟩;have:=Ar List.tail hro
     simpa using this
    .show BE ρ st'.mem st'.next w
     rw [show st'.mem=st.mem from p1,show st'.next=st.next from p2];exact cY
  .cases h
 .rename_i cx j k rnd rs env cs';obtain rfl:=Ab h;refine ⟨⟨hcs _ (AM ..),fun af haf=>hcs af (by simp [haf]),hle⟩,rfl,rfl,rfl,by simp,fun ρ css w mb u hv hr cY=> ?_⟩;obtain ⟨hc,hnd,hmk,hlp,hinj⟩:=hr;cases hc with
  | @cons _ b a k0 ms _ css' mss hf hl ht=>
   simp only at hf hl;have htd:=hf.todo;cases htd with
   | cons hx htl=>
    cases hx with
    | same _ hp=>cases hp
    | inR _ l hlj=>exact ⟨_,css',b,a,_,ms,mss,rfl,finish_atR_inRangeFunc l u,⟨⟨hf.env,hf.defers,.cons (.endR _ l hlj) htl,trivial,hf.rnd⟩,hl,⟨ht,hnd,hmk,hlp,hinj⟩,cY⟩,by cases css' <;> rfl⟩
 .cases h
theorem SE {b:Frame} {a:Act} {k:List Item} {cs:List Frame} {w:World} {ops:Array Oper} {i:Nat} {rest:List Nat} {o:Oper} {f:FuncId} {args:Array Value} (ho:ops[i]? =some o) (hnd: ∀c,o.op≠ .defer c) (hw:Region.wanted o (yielded ops a.tmps)=true)
  (hr:(execOp a.eval o).run P w=.ok (.enter f args) w):step P (lone (b.atR a (.inRegion ops (i::rest)::k)) cs w)=.next (lone (Frame.enter P f args .normal) (b.atR a (.inRegion ops (i::rest)::k)::cs) w):=by
 have hg:=stepGR_op (P:=P) (b:=b) (k:=k) (cs:=cs) (w:=w) (rest:=rest) ho hw;rw [Oper.semAt_eq _ _ _ hnd] at hg;exact step_lone_go (by simp_all [stepG.apply,Frame.atR])
theorem SF {b:Frame} {a:Act} {k:List Item} {cs:List Frame} {w:World} {ops:Array Oper} {i:Nat} {rest:List Nat} {o:Oper} {l:Nat} {f:FuncId} {tmps:Array Value} {assign body:Code} (ho:ops[i]? =some o) (hnd: ∀c,o.op≠ .defer c) (hw:Region.wanted o (yielded ops a.tmps)=true)
  (hr:(execOp a.eval o).run P w=.ok (.round l f tmps assign body) w):step P (lone (b.atR a (.inRegion ops (i::rest)::k)) cs w)=.next (lone (Frame.round l f tmps assign body .normal) (b.atR a (.inRegion ops (i::rest)::k)::cs) w):=by
 have hg:=stepGR_op (P:=P) (b:=b) (k:=k) (cs:=cs) (w:=w) (rest:=rest) ho hw;rw [Oper.semAt_eq _ _ _ hnd] at hg;exact step_lone_go (by simp_all [stepG.apply])
theorem Jb {ρ:BC} {n:Nat}: ∀{ps:List Tmp} {args:List BA} {env env':T BA} {vals:List Value} {tmps:Array Value},JS n ps args env=some env'->Yt ρ env n tmps->Xq (Zp ρ) args vals->
  ps.length=vals.length/\Yt ρ env' n ((ps.zip vals).foldl (fun t p=>t.setIfInBounds p.1 p.2) tmps)
 | [],[],env,env',vals,tmps,h,he,ha=>by cases ha;obtain rfl:=Ab h;simp_all
 | t::ps,x::args,env,env',vals,tmps,h,he,ha=>by
  cases ha with
  | @cons _ u _ vals hx ha=>
   unfold JS at h;obtain ⟨hc,h⟩:=Zj h;have hlt:=Ae hc;have he':Yt ρ (T.set .undef env t x) n (tmps.setIfInBounds t u):=by have:=Yt.put (a:=⟨tmps,[]⟩) (dst:=some t) he hx (.inr ⟨t,rfl,hlt,rfl⟩);exact this
   obtain ⟨h1,h2⟩:=Jb h he' ha;simp_all
 | [],_::_,_,_,_,_,h,_,_=>by cases h
 | _::_,[],_,_,_,_,h,_,_=>by cases h
theorem Fl.enter {fl:Nat} {cx:BK} {ro:Option BQ} {todo:List Item} {rnd:Option Nat} {rs:List ResultVar} {st:St} {cs:List BS} {lps lps':BL} (h:Fl fl ⟨cx,ro,todo,rnd,rs,st,cs,lps⟩) {n:Nat} {todo':List Item} {rnd':Option Nat} {rs':List ResultVar} {st':St} {ro':Option BQ} {td:List Item} {e:T BA} (hn:st.next<=st'.next):
  Fl fl ⟨⟨n,cx.floor,cx.sym⟩,none,todo',rnd',rs',st',⟨cx,ro',td,rnd,rs,e⟩::cs,lps'⟩:=
 ⟨h.cx,fun af haf=>by
  rcases AZ.1 haf with rfl | haf
  .exact h.cx
  .exact h.cs af haf,AI h.le hn⟩
theorem Na {base:Nat} {ρ:BC} {f:FuncId} {args:List BA} {cx:BK} {ro':Option BQ} {td:List Item} {rnd:Option Nat} {rs:List ResultVar} {e:T BA} {st:St} {cs:List BS} {lps:BL} {C':BJ} {b:Frame} {a:Act} {k:List Item} {css:List Frame} {w:World} {ma mb:List Nat} {vals:Array Value}
  (h:HI P f args ⟨cx,ro',td,rnd,rs,e⟩ st cs lps=some C') (hf:DA ρ cx ro' td rnd e b a k ma) (hlv:cs≠ []->MZ P rnd rs b) (hr:CE P base ρ cs lps css w ma mb) (cY:BE ρ st.mem st.next w) (dB:Xq (Zp ρ) args vals.toList):
  ∃fn body,P.funcs[f]? =some fn/\fn.body=some body/\C'=⟨⟨Nat.max fn.ntmps args.length,cx.floor,cx.sym⟩,none,[.code body],none,fn.results.toList,st.withEnv (Cf args 0 .leaf),⟨cx,ro',td,rnd,rs,e⟩::cs,lps⟩/\
   ∃b' a' k',Frame.enter P f vals .normal =b'.atR a' (Xv none k')/\Fc P base C' ρ b' a' k' (b.atR a (Xv ro' k)::css) w [] (ma++mb):=by
 unfold HI at h;split at h
 .rename_i fn hfn;split at h
  .rename_i body hb;obtain rfl:=Ab h;refine ⟨fn,body,hfn,hb,rfl,⟨f, #[],[],[],.run,.normal,none⟩,{tmps:=vals++Array.replicate (fn.ntmps - vals.size) undef,defers:=[]},[.code body],?_,⟨⟨L5 dB fn.ntmps,rfl,.cons (.same _ rfl) .nil,trivial,rfl⟩,fun _=>⟨rfl,fun _=>⟨fn,hfn,rfl⟩⟩,?_,cY⟩⟩
   .grind [Frame.enter,Frame.atR,Xv]
   .exact ⟨.cons hf hlv hr.cs,hr.nodup,hr.marks,hr.loops,hr.inj⟩
  .cases h
 .cases h
theorem KM {ρ:BC} {ops:Array Oper} {o:Oper} {cx:BK} {st st1:St} {e:Bool} (h:Uw ops o cx st=some (e,st1)):st1.mem=st.mem/\st1.next=st.next/\(st1.ob=true->st.ob=true/\ ∀{tmps:Array Value},Yt ρ st.env cx.n tmps->Yt ρ st1.env cx.n tmps/\Region.wanted o (yielded ops tmps)=e):=by obtain ⟨w1,w2,w3⟩:=Yc h;refine ⟨w1,w2,fun ho=>⟨(w3 ho).1,fun {tmps} he=>⟨he.congr fun t=>(w3 ho).2 t,Xh h ho he.size fun d _=>he.get d⟩⟩⟩
theorem ML {ops:Array Oper} {i:Nat} {o:Oper} {l:List Oper} (h:o::l=ops.toList.drop i):ops[i]? =some o/\l=ops.toList.drop (i+1)/\(List.range ops.size).drop i=i::(List.range ops.size).drop (i+1):=by
 have hi:ops.toList[i]? =some o:=by
  have:=Ar (·[0]?) h
  grind
 have hi':ops[i]? =some o:=by grind
 have hlt:i<ops.size:=(As.1 hi').1;refine ⟨hi',?_,?_⟩
 .have:=Ar List.tail h
  simpa using this
 .rw [AX (by grind)];simp
theorem Ub {ops:Array Oper} (h:Jn ops=true) {i:Nat} {o:Oper} (ho:ops[i]? =some o) (c:Call):o.op≠ .defer c:=by
 intro hc;have hm:o∈ops.toList:=by grind
 have:=Av.1 h o hm
 grind
theorem LW {ρ:BC} {st:St} {n:Nat} {a:Act} (he:Yt ρ st.env n a.tmps) (args:Array Operand):Xq (Zp ρ) (args.toList.map st.eval) (args.map a.eval).toList :=by rw [AY];exact Xq.maps _ _ _ fun x _=>he.eval x
theorem MO {ops:Array Oper} {m i:Nat} (hm:m<=ops.size) (h:i<m):(Yi ops m)[i]? =ops[i]? :=by
 grind [Yi]
theorem QJ {ops:Array Oper} {m i:Nat} (hm:m<=ops.size) (h:m<=i):(Yi ops m)[i]? =(ops[i]?).map CV:=by
 grind [Yi]
theorem PQ {ops:Array Oper} {m:Nat} (hm:m<=ops.size):(Yi ops m).size =ops.size:=by simp [Yi];omega
theorem Lt {ops:Array Oper} {m:Nat} (hm:m<=ops.size) (i:Nat):((Yi ops m)[i]?).map (·.after)=(ops[i]?).map (·.after):=by
 by_cases h:i<m
 .rw [MO hm h]
 .rw [QJ hm (by omega)];cases ops[i]? <;> rfl
theorem SH (md:Region.Mode) {ops:Array Oper} {m:Nat} (hm:m<=ops.size) (listed:Array Bool):Region.ready md (Yi ops m) listed=Region.ready md ops listed:=by
 grind [Region.ready,Lt,Yi]
theorem Or (md:Region.Mode) {ops:Array Oper} {m:Nat} (hm:m<=ops.size): ∀(fuel t:Nat) (listed:Array Bool) (acc:List Nat),Region.linearise.go md (Yi ops m) fuel t listed acc=Region.linearise.go md ops fuel t listed acc
 | 0,t,listed,acc=>rfl
 | fuel+1,t,listed,acc=>by
  have e:=SH md hm listed;unfold Region.ready at e;simp only [Region.linearise.go];rw [e];split
  .exact Or md hm fuel _ _ _
  .rfl
theorem Ry {ops:Array Oper} (eM: ∀(j:Nat) o,ops[j]? =some o-> ∀e∈o.after.toList,Region.binds .any e=true->e.on<j): ∀listed:Array Bool,listed.size=ops.size-> ∀i,i<ops.size->listed.getD i false=false-> ∃j,j∈Region.ready .any ops listed:=by
 intro listed hsz i
 induction i using Nat.strongRecOn with
 | _ i ih=>
  intro hi hl;by_cases h: ∃e∈(ops[i]).after.toList,Region.binds .any e=true/\listed.getD e.on false=false
  .grind
  .refine ⟨i,mem_ready.2 ⟨?_,ops[i],by simp [hi],fun e he hb=> ?_⟩⟩;all_goals grind
theorem Of {ops:Array Oper} (eM: ∀(j:Nat) o,ops[j]? =some o-> ∀e∈o.after.toList,Region.binds .any e=true->e.on<j) (fuel t:Nat) (listed:Array Bool) (hsz:listed.size=ops.size) (hcl:D5 ops (fun i=>listed.getD i false)) {q:Nat} (hq:q<ops.size) (hl:listed.getD q false=false):
  ∃i x t',ops[i]? =some x/\listed.getD i false=false/\Dc (fun i=>listed.getD i false) x/\Region.linearise.go .any ops (fuel+1) t listed []=i::Region.linearise.go .any ops fuel t' (listed.setIfInBounds i true) []/\
   (listed.setIfInBounds i true).size =ops.size/\D5 ops (fun q=>(listed.setIfInBounds i true).getD q false)/\ ∀q,(listed.setIfInBounds i true).getD q false=(listed.getD q false||q == i):=by
 obtain ⟨j0,hj0⟩:=Ry eM listed hsz q hq hl;have hne:Region.ready .any ops listed≠ []:=fun e=>by grind
 have hlt:t %(Region.ready .any ops listed).length <(Region.ready .any ops listed).length :=Bd _ (List.length_pos_iff.2 hne);have hgo:Region.linearise.go .any ops (fuel+1) t listed []=(match (Region.ready .any ops listed)[t %(Region.ready .any ops listed).length]? with
  | some i=>Region.linearise.go .any ops fuel (t / (Region.ready .any ops listed).length) (listed.setIfInBounds i true) [i]
  | none=>[].reverse):=rfl
 rw [hgo,Ak hlt];simp only;have hi:=AE hlt;generalize (Region.ready .any ops listed)[t %(Region.ready .any ops listed).length]=i at hi;obtain ⟨h1,x,hx,hr⟩:=mem_ready.1 hi;have hil:i<ops.size:=(As.1 hx).1;have hils:i<listed.size:=by omega
 have hif:listed.getD i false=false:=by grind
 rw [linearise_go_acc,List.reverse_singleton,List.singleton_append];have eK: ∀q,(listed.setIfInBounds i true).getD q false=(listed.getD q false||q == i):=fun q=>by
  by_cases hq:q=i
  .simp_all
  .have:(q == i)=false:=by simp [hq]
   rw [this,Bool.or_false];simp [Array.getD_eq_getD_getElem?,Ne.symm hq]
 have dG:Dc (fun i=>listed.getD i false) x:=fun e he hb=>hr e (Array.mem_toList_iff.1 he) hb;refine ⟨i,x,_,hx,hif,dG,rfl,by grind,fun j y hy hs e he hb=> ?_,eK⟩;simp only [eK] at hs ⊢;by_cases hji:j=i
 .grind
 .have hs':listed.getD j false=true:=by grind
  have:=hcl j y hy hs' e he hb
  grind
theorem Og {ops:Array Oper} {m:Nat} (eM: ∀(j:Nat) o,ops[j]? =some o-> ∀e∈o.after.toList,Region.binds .any e=true->e.on<j) (hf: ∀j x,m<=j->ops[j]? =some x-> ∀i,i<j->EN ops i x):
  ∀(fuel t j:Nat) (listed:Array Bool),listed.size=ops.size->D5 ops (fun i=>listed.getD i false)->m<=j->j+fuel=ops.size->(∀q,q<j->listed.getD q false=true)->(∀q,j<=q->listed.getD q false=false)->Region.linearise.go .any ops fuel t listed []=(List.range ops.size).drop j
 | 0,t,j,listed,hsz,hcl,hj,hn,h1,h2=>by rw [AL (by simp;omega)];rfl
 | fuel+1,t,j,listed,hsz,hcl,hj,hn,h1,h2=>by
  obtain ⟨i,x,t',hx,hif,hr,hgo,eV,hcl',eK⟩:=Of eM fuel t listed hsz hcl (q:=j) (by omega) (h2 j (Ai _));have hij: ¬i<j:=fun e=>by rw [h1 i e] at hif;cases hif
  have e:i=j:=by
   by_cases h:j<i
   .have:listed.getD j false=true:=hf i x (by omega) hx j h _ hcl hr;rw [h2 j (Ai _)] at this;cases this
   .omega
  subst e;rw [hgo,Og eM hf fuel t' (i+1) _ eV hcl' (by omega) (by omega) (fun q hq=>by
   rw [eK];by_cases e:q=i
   .simp [e]
   .rw [h1 q (by omega)];rfl) (fun q hq=>by
   rw [eK,h2 q (by omega)];simp;omega)]
  rw [AX (show i<(List.range ops.size).length by simp;omega)];simp
theorem UP {ops:Array Oper} {m:Nat} (eM: ∀(j:Nat) o,ops[j]? =some o-> ∀e∈o.after.toList,Region.binds .any e=true->e.on<j) (hm:m<ops.size) (hf: ∀j x,m<=j->ops[j]? =some x-> ∀i,i<j->EN ops i x):
  ∀(fuel t:Nat) (listed:Array Bool),listed.size=ops.size->D5 ops (fun i=>listed.getD i false)->(List.range ops.size).countP (fun i=> !listed.getD i false)=fuel->(∀q,m<=q->listed.getD q false=false)->
   ∃l,Region.linearise.go .any ops fuel t listed []=l++(List.range ops.size).drop m/\ ∀i∈l,i<m:=by
 intro fuel
 induction fuel with
 | zero=>
  intro t listed hsz _ hc hl;have:=List.countP_eq_zero.1 hc m (AH.2 hm)
  grind
 | succ fuel ih=>
  intro t listed hsz hcl hc hl;obtain ⟨i,x,t',hx,hif,hr,hgo,eV,hcl',eK⟩:=Of eM fuel t listed hsz hcl hm (hl m (Ai _));have hil:i<ops.size:=(As.1 hx).1;have hc':(List.range ops.size).countP (fun q=> !(listed.setIfInBounds i true).getD q false)=fuel:=by have:=Kz (fun q=> !listed.getD q false) (fun q=> !(listed.setIfInBounds i true).getD q false) i ops.size (fun k hk=>by grind) (by grind) (by grind) hil;omega
  by_cases him:i<m
  .obtain ⟨l,h2,h3⟩:=ih t' (listed.setIfInBounds i true) eV hcl' hc' (fun q hq=>by grind)
   grind
  .have e:i=m:=by
    by_cases h:m<i
    .have:listed.getD m false=true:=hf i x (by omega) hx m h _ hcl hr
     grind
    .omega
   subst e;have dY: ∀q,q<i->listed.getD q false=true:=fun q hq=>hf i x (Ai _) hx q hq _ hcl hr;refine ⟨[],?_,fun q hq=>by cases hq⟩;have hcount:fuel+1+i=ops.size:=by
    rw [<-hc];have key: ∀n,i<=n->n<=ops.size->(List.range n).countP (fun q=> !listed.getD q false)+i=n:=by
     intro n
     induction n with
     | zero=>grind
     | succ n ihn=>
      intro h1 h2;rw [List.range_succ,List.countP_append];by_cases e:i<=n
      .grind
      .have hni:n+1=i:=(by omega);have h0:(List.range n).countP (fun q=> !listed.getD q false)=0:=List.countP_eq_zero.2 fun q hq=>by
        grind
       grind
    grind
   grind [Og]
theorem Nr {b:Frame} {k:List Item} {cs:List Frame} {ops:Array Oper} {Q:Exit->Act->World->Prop} (hQ: ∀e a w,Q e a w->e=.normal) {m:Nat} (hm:m<=ops.size) (hnd:Jn ops=true)
  (hg: ∀i x g,i<m->ops[i]? =some x->x.guard=some g->g.1<m) {r:List Nat} (hr: ∀i∈r,m<=i): ∀(l:List Nat) (a:Act) (w:World),(∀i∈l,i<m)->wpOps P (Yi ops m) Q (l++r) a w->
   ∃a' w',Q .normal a' w'/\Steps P (lone (b.atR a (.inRegion ops (l++r)::k)) cs w) (lone (b.atR a' (.inRegion ops r::k)) cs w')
 | [],a,w,_,h=>by
  refine ⟨a,w,?_,Steps.refl _ _⟩;rw [AU] at h;clear hg
  induction r with
  | nil=>exact h
  | cons i r ih=>
   refine ih (fun q hq=>hr q (by simp [hq])) ?_;simp only [wpOps] at h;rw [QJ hm (hr i (by simp))] at h;cases ho:ops[i]? with
   | none=>grind
   | some o=>
    rw [ho] at h;simp only [Option.map_some] at h;have hw:Region.wanted (CV o) (yielded (Yi ops m) a.tmps)=true:=rfl;rw [Aw hw] at h;rcases h with h | ⟨_,a0,w0,h0⟩
    .have h:wpOps P (Yi ops m) Q r (a.put none (a.eval (.const (.bool true)))) w:=h;exact h
    grind
 | i::l,a,w,hl,h=>by
  have him:=hl i (by simp);simp only [A5,wpOps] at h;rw [MO hm him] at h;have hil:i<ops.size:=by omega
  obtain ⟨x,hx⟩: ∃x,ops[i]? =some x:=⟨ops[i],by simp [hil]⟩
  rw [hx] at h;simp only at h;have hy:Region.wanted x (yielded (Yi ops m) a.tmps)=Region.wanted x (yielded ops a.tmps):=by
   grind [Region.wanted,yielded,MO]
  rw [hy] at h;have h':if Region.wanted x (yielded ops a.tmps) then x.wp P a w (wpOps P (Yi ops m) Q (l++r)) Q else wpOps P (Yi ops m) Q (l++r) (a.put x.dst undef) w:=by
   by_cases hw:Region.wanted x (yielded ops a.tmps)=true
   .simp only [hw,if_true] at h ⊢;rcases h with h | ⟨_,a0,w0,h0⟩;all_goals grind
   grind
  obtain ⟨a1,w1,h1,s1⟩:=LK (b:=b) (k:=k) (cs:=cs) (rest:=l++r) hQ hx (Ub hnd hx) h';obtain ⟨a',w',hR,hs⟩:=Nr hQ hm hnd hg hr l a1 w1 (fun q hq=>hl q (by simp [hq])) h1;exact ⟨a',w',hR,s1.trans hs⟩
theorem Nt {st:St} {ops:List Oper}: ∀(l:List Oper) (i:Nat) {m:Nat},JU st ops l i=some m->i<=m/\m<i+l.length
 | [],i,m,h=>by cases h
 | o::l,i,m,h=>by
  unfold JU at h;cases hy:Py st ops o with
  | true=>grind
  | false=>
   rw [hy] at h;have:=Nt l (i+1) h
   grind
theorem SI {ops:Array Oper} {st:St} {m:Nat} (h:MX ops st=some m):m<ops.size/\Jn ops=true/\FD 0 (Yi ops m)=true/\(∀j x,m<=j->(Yi ops m)[j]? =some x-> ∀i,i<j->EN (Yi ops m) i x)/\
  ∀i x g,i<m->ops[i]? =some x->x.guard=some g->g.1<m:=by
 unfold MX at h;split at h
 .rename_i m' hd;obtain ⟨hc,h⟩:=Zj h;obtain rfl:=Ab h;have hlt:=(Nt _ _ hd).2;rw [Az,Array.length_toList] at hlt;simp only [Pe,Ad] at hc;obtain ⟨hnd,hdr,dY,hgd⟩:=hc;refine ⟨hlt,hnd,hdr,fun j x hj hx i hi=> ?_,fun i x g hi hx hgx=> ?_⟩
  .have hjl:j<ops.size:=by grind [PQ]
   have:=Av.1 dY j (AH.2 hjl);simp only [A6] at this;rcases this with h1 | h1
   .have:=Ae h1;omega
   .exact ((Lw hdr).bits j x hx i (Av.1 h1 i (AH.2 hi))).2
  .have h2:=Av.1 hgd i (AH.2 hi);rw [hx] at h2;obtain ⟨dst,op,type,pos,after,guard⟩:=x;simp only at hgx;subst hgx;obtain ⟨j,want⟩:=g;exact Ae h2
 .cases h
end
section
variable {P:Program} {ρ:BC}
theorem BE.setObj {mem:BG} {next:Nat} {w:World} (h:BE ρ mem next w) {b:Nat} {l:BR} {ab:BD} {o':Dg} {r':List BA} (hb:ρ b=some l) (hm:Zf mem b=some ab) (hob:ab.isObj=true) (cZ:r'.length+1=ab.cells.length)
  (x:Obj) (hx:D7 ρ ab.ty l.blk r' o' (some x)):BE ρ (Ym mem b (some ⟨.obj o'::r',ab.ty,none⟩)) next (w.putObj l.blk x):=by
 have hlt:=h.real b l hb;have hn:l=⟨l.blk,0,r'.length+1,r'.length+1⟩:=by
  have:=(h.blk b l ab hb hm)
  cases this with
  | plain k=>have:=k.noObj;rw [this] at hob;cases hob
  | obj o r ty e1 e2 _=>subst e1;rw [e2];simp only [Aq] at cZ;rw [cZ]
 have iff: ∀c,(Zf (Ym mem b (some ⟨.obj o'::r',ab.ty,none⟩)) c).isSome =(Zf mem c).isSome :=fun c=>by
  rw [Xu];split
  .rename_i e;rw [e,hm];rfl
  .rfl
 refine ⟨h.dom,fun c c' m m' e e' he hs hs'=>h.inj c c' m m' e e' he (by rw [<-iff];exact hs) (by rw [<-iff];exact hs'),fun c m ac e hc=> ?_,fun k o e=> ?_,fun c m e hs=>h.sep c m e (by rw [<-iff];exact hs),fun c m e=>by rw [World.putObj_size];exact h.real c m e,fun c hc=> ?_,h.ldom⟩
 .by_cases hcb:c=b
  .subst hcb;rw [Zm] at hc;obtain rfl:=Ab hc;rw [hb] at e;obtain rfl:=Ab e;exact .obj o' r' ab.ty rfl hn (by rw [World.putObj_heap_same hlt];exact hx)
  .rw [Zz _ _ hcb] at hc;refine (h.blk c m ac e hc).world (BC.le_refl _) (World.putObj_heap_other fun heq=>hcb ?_);exact h.inj c b m l e hb heq (by rw [hc];rfl) (by rw [hm];rfl)
 .rw [World.putObj_heap_other]
  .exact h.old k o e
  .intro heq;have:=h.sep b l hb (by rw [hm];rfl);rw [<-heq,e] at this;cases this
 .have:=h.dom b l hb;rw [Zz _ _ (by omega)];exact h.bd c hc
theorem Ev.ofObj {mem:BG} {next:Nat} {w:World} (h:BE ρ mem next w) {floor b:Nat} {l:BR} (hb:ρ b=some l) (hf:floor<=b) (o:Option BD) (x:Obj):
  Ev ρ ρ floor mem next (Ym mem b o) next w (w.putObj l.blk x) where
 ext:=BC.le_refl _
 new _ _:=rfl
 nxt:=Ai _
 unborn k _ e cs ty hm:=by
  rw [Zz]
  .exact hm
  .intro e';rw [e',hb] at e;cases e
 frame k o hk hfr:=by rw [World.putObj_heap_other fun e=>hfr b l hb hf e.symm];exact hk
 fresh k m hk e:=by have:=h.dom k m e;omega
 size:=by rw [World.putObj_size];exact Ai _
 os:=rfl
 tape:=rfl
 output:=rfl
 still _ _:=rfl
theorem BE.newObj {mem:BG} {next:Nat} {w:World} (h:BE ρ mem next w) (o:Dg) (r:List BA) (ty:TypeId) (x:Obj) (hx:D7 ρ ty w.heap.size r o (some x)):
  BE (Xg ρ next ⟨w.heap.size,0,r.length+1,r.length+1⟩) (Ym mem next (some ⟨.obj o::r,ty,none⟩)) (next+1) (w.alloc x):=by
 have hle:=Vg (l:=⟨w.heap.size,0,r.length+1,r.length+1⟩) h.none_next;have dE: ∀b l,Xg ρ next ⟨w.heap.size,0,r.length+1,r.length+1⟩ b=some l->(b=next/\l=⟨w.heap.size,0,r.length+1,r.length+1⟩)\/(b≠next/\ρ b=some l):=fun b l e=>by
  grind [Xc]
 have hold: ∀k,k<w.heap.size->(w.alloc x).heap[k]? =w.heap[k]? :=fun k hk=>by show (w.heap.push x)[k]? =_;rw [Bj,At (AQ hk)]
 have hnew:(w.alloc x).heap[w.heap.size]? =some x:=World.alloc_heap_new w x;have hsize:(w.alloc x).heap.size =w.heap.size+1:=Array.size_push _;refine ⟨fun b l e=> ?_,fun b b' l l' e e' hbl hs hs'=> ?_,fun b l ab e hm=> ?_,fun k o e=> ?_,fun b l e hs=> ?_,fun b l e=> ?_,fun b hb=>by rw [Zz _ _ (by omega)];exact h.bd b (by omega),⟨fun j l e=>AT (h.ldom.1 j l e),h.ldom.2⟩⟩
 .rcases dE b l e with ⟨rfl,_⟩ | ⟨_,e⟩
  .omega
  .have:=h.dom b l e;omega
 .rcases dE b l e with ⟨hb,hl⟩ | ⟨hb,e2⟩ <;> rcases dE b' l' e' with ⟨hb',hl'⟩ | ⟨hb',e2'⟩
  .rw [hb,hb']
  .have:=h.real b' l' e2';grind
  .have:=h.real b l e2;grind
  .rw [Zz _ _ hb] at hs;rw [Zz _ _ hb'] at hs';exact h.inj b b' l l' e2 e2' hbl hs hs'
 .rcases dE b l e with ⟨rfl,rfl⟩ | ⟨hb,e⟩
  .rw [Zm] at hm;obtain rfl:=Ab hm;exact .obj o r ty rfl rfl (by rw [hnew];exact hx.mono hle)
  .rw [Zz _ _ hb] at hm;exact (h.blk b l ab e hm).world hle (hold _ (h.real b l e))
 .have hk:=h.old k o e;have hlt:=(As.1 hk).1;rw [hold k hlt];exact hk
 .rcases dE b l e with ⟨rfl,rfl⟩ | ⟨hb,e⟩
  .exact h.hold _ (Ai _)
  .rw [Zz _ _ hb] at hs;exact h.sep b l e hs
 .rw [hsize];rcases dE b l e with ⟨rfl,rfl⟩ | ⟨_,e⟩
  .show w.heap.size<_;omega
  .have:=h.real b l e;omega
theorem Ly {st:St} {w:World} (h:BE ρ st.mem st.next w) (floor:Nat) (o:Dg) (r:List BA) (ty:TypeId) (x:Obj) (hx:D7 ρ ty w.heap.size r o (some x)) {v:BA} {u:Value}
  (dM: ∀ρ',ρ' st.next=some ⟨w.heap.size,0,r.length+1,r.length+1⟩->Zp ρ' v u):
  CB ρ floor st (BU st (.obj o::r) ty) v w (Xg ρ st.next ⟨w.heap.size,0,r.length+1,r.length+1⟩) u (w.alloc x):=
 ⟨dM _ (by simp [Xg]),h.newObj o r ty x hx,Ev.ofNew h floor _ _ _ (Ai _)⟩
theorem QU {w:World} {k:Nat} {c cs:Array Value} {el:TypeId} {fz:Nat×Nat} (h:w.heap[k]? =some (.cells c el fz)):w.setRow k cs=w.putObj k (.cells cs el fz):=by
 unfold World.setRow World.putObj
 congr 1
 apply Array.ext_getElem?;intro i;rw [Array.getElem?_modify,Array.getElem?_setIfInBounds];have hlt:=(As.1 h).1;by_cases e:k=i
 .subst e;rw [Aw rfl,Aw rfl,h];simp [hlt]
 .simp [e]
theorem Oa {w:World} {k:Nat} {s:ByteArray} {p:Nat} (h:w.heap[k]? =some (.stringIter s p)):(getObj k).run P w=.ok (.stringIter s p) w:=by simp [getObj,Sem.run,h]
theorem VG {w:World} {k:Nat} {s:ByteArray} {p:Nat} {o':Obj} (h:w.heap[k]? =some (.stringIter s p)):(setObj k o').run P w=.ok () (w.putObj k o'):=by simp [setObj,Sem.run,h,World.putObj]
theorem Pq {w:World} {t:TypeId} {m:Array (String×TypeId)} (h:P.underlying t=some (.interface m)) (v:Value) (hv:v=.nilIface \/ ∃d z,v=.iface d z):(Op.equal t v .nilIface).run P w=.ok (match v with | .nilIface =>true | _=>false) w:=by
 have key: ∀d,(Op.equalIn (d+1) t v .nilIface).run P w=.ok (match v with | .nilIface =>true | _=>false) w:=fun d=>by rcases hv with rfl | ⟨d,z,rfl⟩ <;> simp [Op.equalIn,run_underlying h]
 exact key 9999
theorem BE.objAt {mem:BG} {next:Nat} {w:World} (h:BE ρ mem next w) {b:Nat} {l:BR} {o:Dg} {r:List BA} {ty:TypeId} (hb:ρ b=some l) (hm:Zf mem b=some ⟨.obj o::r,ty,none⟩):D7 ρ ty l.blk r o w.heap[l.blk]? :=by
 have:=h.blk b l _ hb hm;cases this with
 | plain k=>have:=k.noObj;cases this
 | obj o' r' ty' e1 e2 h3=>simp only [BD.mk.injEq,A9,BA.obj.injEq] at e1;obtain ⟨⟨rfl,rfl⟩,rfl,_⟩:=e1;exact h3
theorem BE.objBase {mem:BG} {next:Nat} {w:World} (h:BE ρ mem next w) {b:Nat} {l:BR} {o:Dg} {r:List BA} {ty:TypeId} (hb:ρ b=some l) (hm:Zf mem b=some ⟨.obj o::r,ty,none⟩):l.base=0:=by
 have:=h.blk b l _ hb hm;cases this with
 | plain k=>have:=k.noObj;cases this
 | obj o' r' ty' e1 e2 h3=>rw [e2]
def C4 {α:Type} (vf:α->Value) (es:List MapEntry) (l:List (List UInt8×α)):Prop:=es.map (fun e=>(e.key,e.val))=l.map fun p=>(.string ⟨p.1.toArray⟩,vf p.2)
def DC {α:Type} (vf:α->Value) (k:List UInt8):List (List UInt8×α)->Nat->Option (Nat×Value)
 | [],_=>none
 | p::r,i=>bif k == p.1 then some (i,vf p.2) else DC vf k r (i+1)
theorem bytes_beq (a b:List UInt8):((⟨a.toArray⟩:ByteArray) == ⟨b.toArray⟩)=(a == b):=by rw [Ba,MapKept.bytes_beq,Bg];simp
theorem Lx {α:Type} (vf:α->Value) (k:List UInt8): ∀(es:List MapEntry) (l:List (List UInt8×α)) (i:Nat),C4 vf es l->Instr.findNow .string (.string ⟨k.toArray⟩) es i=some (DC vf k l i)
 | [],[],_,_=>rfl
 | [],_::_,_,h=>by cases h
 | _::_,[],_,h=>by cases h
 | e::es,p::l,i,h=>by
  unfold C4 at h;simp only [AO,A9,Aa] at h;obtain ⟨⟨h1,h2⟩,h3⟩:=h;have ih:=Lx vf k es l (i+1) h3;unfold Instr.findNow DC;rw [h1];simp only [Instr.sameNow,bytes_beq];cases hk:(k == p.1) with
  | true=>rw [Ao,h2]
  | false=>rw [Aj];exact ih
theorem O7 {α:Type} (vf:α->Value) (d:α) (k:List UInt8): ∀(l:List (List UInt8×α)) (i:Nat),match DC vf k l i with
  | some (_,v)=>v=vf (Ku d l k)/\DD l k=true
  | none=>Ku d l k=d/\DD l k=false
 | [],_=>⟨rfl,rfl⟩
 | p::l,i=>by
  have ih:=O7 vf d k l (i+1);unfold DC Ku DD;cases hk:(k == p.1) with
  | true=>simp [hk]
  | false=>simpa [hk,DD] using ih
theorem O8 {α:Type} (vf:α->Value) (k:List UInt8) (v:α) (c:Nat): ∀(l:List (List UInt8×α)) (es:List MapEntry) (i:Nat),C4 vf es l->match DC vf k l i with
  | some (j,_)=>i<=j/\(∃e,es[j - i]? =some e/\e.key=.string ⟨k.toArray⟩)/\C4 vf (es.modify (j - i) fun e=>{e with key:=.string ⟨k.toArray⟩,val:=vf v}) (DH l k v)
  | none=>C4 vf (es++[⟨.string ⟨k.toArray⟩,vf v,c⟩]) (DH l k v)
 | [],es,i,h=>by
  have:es=[]:=by unfold C4 at h;simpa using h
  subst this;simp [DC,DH,C4]
 | p::l,[],i,h=>by cases h
 | p::l,e::es,i,h=>by
  unfold C4 at h;simp only [AO,A9,Aa] at h;obtain ⟨⟨h1,h2⟩,h3⟩:=h;have ih:=O8 vf k v c l es (i+1) h3;unfold DC DH;cases hk:(k == p.1) with
  | true=>
   have hk':k=p.1:=by simpa using hk
   simp only [Ao,Nat.sub_self];refine ⟨Ai _,⟨e,rfl,by rw [h1,hk']⟩,?_⟩;unfold C4;simp only [List.modify_zero_cons,AO,A9,Aa];exact ⟨⟨by rw [hk'],trivial⟩,h3⟩
  | false=>
   simp only [Aj];cases hf:DC vf k l (i+1) with
   | none=>rw [hf] at ih;unfold C4 at ih ⊢;simp only [A5,AO,A9,Aa];exact ⟨⟨h1,h2⟩,ih⟩
   | some q=>rw [hf] at ih;obtain ⟨j,x⟩:=q;simp only at ih ⊢;obtain ⟨k1,⟨e',k2,k3⟩,k4⟩:=ih;have hj:j - i=(j - (i+1))+1:=(by omega);refine ⟨by omega,⟨e',by rw [hj];exact k2,k3⟩,?_⟩;rw [hj];unfold C4 at k4 ⊢;simp only [List.modify_succ_cons,AO,A9,Aa];exact ⟨⟨h1,h2⟩,k4⟩
theorem Qb {α:Type} (vf:α->Value) (d:α) {w:World} {t kt et:TypeId} {r clock:Nat} {es:Array MapEntry} {l:List (List UInt8×α)} (hm:P.underlying t=some (.map kt et)) (hk:P.underlying kt=some .string)
  (hz:(zeroValue et).run P w=.ok (vf d) w) (hb:w.heap[r]? =some (.map es clock)) (hes:C4 vf es.toList l) (k:List UInt8) (co:Bool):
  (Instr.lookup t (.map (some r)) (.string ⟨k.toArray⟩) co).run P w=.ok (if co then .tuple #[vf (Ku d l k),.bool (DD l k)] else vf (Ku d l k)) w:=by
 have hf:=Lx vf k es.toList l 0 hes;have hc: ∀b,(Instr.checkKey b 10000 kt (.string ⟨k.toArray⟩)).run P w=.ok () w:=fun b=>MapKept.run_checkKey (k:=.string ⟨k.toArray⟩) hk (by simp [MapKept.IsKey]) b 9999;have hg:=O7 vf d k l 0;cases hfk:DC vf k l 0 with
 | none=>rw [hfk] at hf hg;simp only at hg;rw [hg.1,hg.2];simp [Instr.lookup,run_underlying hm,MapKept.run_getObj_map hb,hc,MapKept.run_findKey hk hf,hz,Result.andThen]
 | some q=>obtain ⟨j,v⟩:=q;rw [hfk] at hf hg;simp only at hg;rw [<-hg.1,hg.2];simp [Instr.lookup,run_underlying hm,MapKept.run_getObj_map hb,hc,MapKept.run_findKey hk hf,Result.andThen]
theorem Qa {α:Type} (vf:α->Value) {w:World} {t kt et:TypeId} {r clock:Nat} {es:Array MapEntry} {l:List (List UInt8×α)} (hm:P.underlying t=some (.map kt et)) (hk:P.underlying kt=some .string)
  (hb:w.heap[r]? =some (.map es clock)) (hes:C4 vf es.toList l) (k:List UInt8) (v:α):
  ∃es' clock',(Instr.mapUpdate t (.map (some r)) (.string ⟨k.toArray⟩) (vf v)).run P w=.ok () (w.putObj r (.map es' clock'))/\C4 vf es'.toList (DH l k v):=by
 have hf:=Lx vf k es.toList l 0 hes;have hc: ∀b,(Instr.checkKey b 10000 kt (.string ⟨k.toArray⟩)).run P w=.ok () w:=fun b=>MapKept.run_checkKey (k:=.string ⟨k.toArray⟩) hk (by simp [MapKept.IsKey]) b 9999;have hg:=O8 vf k v clock l es.toList 0 hes;cases hfk:DC vf k l 0 with
 | none=>rw [hfk] at hf hg;simp only at hg;refine ⟨es.push ⟨.string ⟨k.toArray⟩,vf v,clock⟩,clock+1,?_,by simpa using hg⟩;simp [Instr.mapUpdate,run_underlying hm,MapKept.run_getObj_map hb,hc,MapKept.run_findKey hk hf,MapKept.run_setObj_map _ hb,Result.andThen,World.putObj]
 | some q=>
  obtain ⟨j,x⟩:=q;rw [hfk] at hf hg;simp only [Nat.sub_zero] at hg;obtain ⟨_,⟨e,h1,h2⟩,h3⟩:=hg;have h1':es[j]? =some e:=by simpa using h1
  refine ⟨es.modify j fun e=>{e with key:=.string ⟨k.toArray⟩,val:=vf v},clock,?_,by simpa using h3⟩;have hs: ∀w:World,(Instr.keyThatStays (.string ⟨k.toArray⟩) (.string ⟨k.toArray⟩)).run P w=.ok (.string ⟨k.toArray⟩) w:=fun w=>by simp [Instr.keyThatStays,Instr.sameBits,(MapKept.bytes_beq (⟨k.toArray⟩:ByteArray) ⟨k.toArray⟩).2 rfl]
  simp [Instr.mapUpdate,run_underlying hm,MapKept.run_getObj_map hb,hc,MapKept.run_findKey hk hf,MapKept.run_setObj_map _ hb,Result.andThen,World.putObj,h1',h2,hs]
theorem N9 {v:BA} {u:Value} (h:EP v=true) (hr:Zp ρ v u):u=.int .u8 ((FC v).toNat :Int):=by
 unfold EP at h;split at h
 .rename_i n;have h:=AB h;cases hr;simp only [FC]
  congr 1
  have:(UInt8.ofNat n.toNat).toNat =n.toNat:=by rw [UInt8.toNat_ofNat'];omega
  rw [this];omega
 .cases h
def Ph (w:World) (el:TypeId) (g o:Nat) (s:List UInt8):Prop:= ∃cs,w.heap[g]? =some (.cells cs el (0,0))/\(s≠ []->o+s.length<=cs.size)/\ ∀j x,s[j]? =some x->cs[o+j]? =some (.int .u8 x.toNat)
theorem Ks {mem:BG} {next:Nat} {w:World} (cY:BE ρ mem next w) {v:BA} {u:Value} {s:List UInt8} (h:Hm mem v=some (s,true)) (hv:Zp ρ v u):
  (u=.slice none 0 0/\s=[])\/ ∃b l g o c el,IL v=some b/\ρ b=some l/\(Zf mem b).isSome =true/\l.blk=g/\u=.slice (some ⟨g,o,none⟩) s.length c/\s.length<=c/\(∀ab,Zf mem b=some ab->el=ab.ty)/\Ph w el g o s:=by
 unfold Hm at h;split at h
 .simp only [Ac,Aa] at h;obtain ⟨rfl,_⟩:=h;cases hv;exact .inl ⟨rfl,rfl⟩
 .rename_i b off len cap;split at h
  .rename_i blk hm;obtain ⟨hno,h⟩:=FB h;split at h
   .rename_i cs hc;simp only [Ac,Aa] at h;obtain ⟨rfl,dY⟩:=h;obtain ⟨k1,k2,k3⟩:=Jt hc;cases hv with
    | sl _ _ _ _ l c hl _ cZ=>
     obtain ⟨hty,hn,ht,_,cur,el,h1,h2,h3⟩:=(cY.blk b l blk hl hm).at hno;refine .inr ⟨b,l,l.blk,l.base+off,c,el,rfl,hl,by rw [hm];rfl,rfl,by simp [k2],by simpa [k2] using cZ,fun ab e=>by rw [hm] at e;rw [<-Ab e];exact hty _ _ _ h1,cur,h1,?_,fun j x hx=> ?_⟩
     .intro hne;have:len≠0:=fun e=>hne (by rw [List.map_eq_nil_iff];exact List.eq_nil_of_length_eq_zero (by rw [k2,e]));simp only [List.length_map,k2];omega
     .simp only [Br,Ag] at hx;obtain ⟨y,hy,rfl⟩:=hx;have hj:j<cs.length:=(AJ.1 hy).1;obtain ⟨z,q1,q2⟩:=h3 (off+j) (by omega);have hyz:blk.cells[off+j]'(by omega)=y:=by
       have:cs[j]? =blk.cells[off+j]? :=by rw [k1,List.getElem?_take,Aw (by omega),List.getElem?_drop]
       rw [this,Ak (by omega)] at hy;exact Ab hy
      rw [hyz] at q2;have hby:=Av.1 dY y (List.mem_of_getElem? hy);rw [AK,q1,N9 hby q2]
   .cases h
  .cases h
 .rename_i b sz off len cap;split at h
  .rename_i blk hm;split at h
   .rename_i A hA;simp only [Ac,Aa,Ad,Ap] at h;obtain ⟨rfl,hs1,hs2,dH,hok⟩:=h;obtain rfl:=Af hs1;have hsz:=Af hs2;have hok: ∀k,k<len-> ∃v,A.get (off+k)=[v]/\EP v=true:=Ma (fun h k hk=>by
     have:=Av.1 h k (AH.2 hk);unfold Pm at this;split at this
     .rename_i v e;exact ⟨v,e,this⟩
     .cases this) hok
    have hlen0:(Cy len fun k=>A.get (off+k)).length =len:=(by simp [Cy]);cases hv with
    | slan=>exact .inl ⟨rfl,by simp [Cy]⟩
    | sla _ _ _ _ _ l c hl _ cZ=>
     obtain ⟨hty,hn,ht,har,cur,el,h1,h2,h3⟩:=(cY.blk b l blk hl hm).rows hA;obtain ⟨a1,a2,a3⟩:=har A hA;have hrl:=Zc A.n a3;rw [<-a1,hsz,Nat.mul_one] at hrl;refine .inr ⟨b,l,l.blk,l.base+off*1,c,el,rfl,hl,by rw [hm];rfl,rfl,by rw [hlen0],by rw [hlen0];exact cZ,fun ab e=>by rw [hm] at e;rw [<-Ab e];exact hty _ _ _ h1,cur,h1,?_,fun j x hx=> ?_⟩
     .intro _;rw [hlen0];omega
     .have hj:j<len:=by rw [<-hlen0];exact (AJ.1 hx).1
      obtain ⟨v0,e1,e2⟩:=hok j hj;obtain ⟨z,q1,q2⟩:=h3 (off+j) (by omega);have hg:blk.cells[off+j]? =some v0:=by
       have:=Xm A.n a3 (off+j) 0 (by omega) (by omega);rw [hsz] at this;rw [a1]
       simpa [e1] using this
      have hyz:blk.cells[off+j]'(by omega)=v0:=by rw [Ak (by omega)] at hg;exact Ab hg
      rw [hyz] at q2;have hx':x=FC v0:=by simp only [Cy,Br,List.getElem?_range hj,Option.map_some,Ac] at hx;rw [<-hx,e1];rfl
      rw [Nat.mul_one,AK,q1,N9 e2 q2,hx']
   .cases h
  .cases h
 .cases h
theorem WL {w:World} {g o c:Nat} {el:TypeId} {s:List UInt8} (h:Ph w el g o s):(Conv.bytesToString (.slice (some ⟨g,o,none⟩) s.length c)).run P w=.ok (.string ⟨s.toArray⟩) w:=by
 obtain ⟨cs,h1,h2,h3⟩:=h;have hl:(loadCells ⟨g,o,none⟩ s.length).run P w=.ok ((s.map fun x=>(x.toNat:Int)).map (Value.int .u8)).toArray w:=by
  have:=run_loadCells_list (P:=P) w ⟨g,o,none⟩ ((s.map fun x=>(x.toNat:Int)).map (Value.int .u8)) fun j v hv=>by simp only [List.map_map,Br,Ag] at hv;obtain ⟨x,hx,rfl⟩:=hv;rw [Yj];have:=h3 j x hx;simp [World.cell?,h1,this]
  simpa using this
 rw [run_bytesToString w ⟨g,o,none⟩ s.length c _ hl]
 congr 2
 have: ∀(l:List UInt8) (acc:ByteArray),(l.map fun x=>(x.toNat:Int)).foldl (fun r n=>r.push (UInt8.ofNat n.toNat)) acc=⟨acc.data++l.toArray⟩:=by
  intro l
  induction l with
  | nil=>intro acc;simp
  | cons x l ih=>intro acc;simp only [AO,List.foldl_cons,ih];simp [ByteArray.push]
 rw [this];simp
theorem MP :Zp ρ (.tup []) undef:=.tup [] #[] rfl fun j h1 _=>by simp at h1
theorem Ny {floor:Nat} {st st':St} {t:TypeId} {x k v:BA} (h:HO P floor st t x k v=some st'):Yw floor st st'/\st'.env=st.env:=by
 unfold HO at h;split at h
 .obtain ⟨hf,h⟩:=Zj h;have hf:=Ae hf;split at h
  .rename_i hm _;obtain rfl:=Ab h;exact ⟨Yw.write st _ hf hm,rfl⟩
  .rename_i hm _;obtain rfl:=Ab h;exact ⟨Yw.write st _ hf hm,rfl⟩
  .cases h
 .cases h
theorem Uc {t:TypeId} {kd:Bool} (h:Hc P t=some kd): ∃k e,P.underlying t=some (.map k e)/\P.underlying k=some .string /\ ∀w,(zeroValue e).run P w=.ok (bif kd then .int .i64 0 else .bool false) w:=by
 unfold Hc at h;split at h
 .rename_i k e hu;refine ⟨k,e,hu,?_⟩;split at h
  .rename_i i h1 h2 h3;split at h
   .rename_i n hz;obtain ⟨hn,h⟩:=Zj h;obtain rfl:=Ab h;obtain rfl:n=0:=by simpa using hn
    exact ⟨h1,fun w=>by simp [zeroValue,run_typeInfo w h3,hz]⟩
   .cases h
  .rename_i i h1 h2 h3;split at h
   .rename_i b hz;cases b with
    | true=>cases h
    | false=>obtain rfl:=Ab h;exact ⟨h1,fun w=>by simp [zeroValue,run_typeInfo w h3,hz]⟩
   .cases h
  .cases h
 .cases h
theorem OV {floor:Nat} {st st':St} {t:TypeId} {x k v:BA} (h:HO P floor st t x k v=some st') {w:World} (cY:BE ρ st.mem st.next w) {ux uk uv:Value} (hx:Zp ρ x ux) (hk:Zp ρ k uk) (hv:Zp ρ v uv):
  ∃w',(Instr.mapUpdate t ux uk uv).run P w=.ok () w'/\CB ρ floor st st' (.tup []) w ρ undef w':=by
 unfold HO at h;split at h
 .rename_i b ks;obtain ⟨hf,h⟩:=Zj h;have hf:=Ae hf;cases hx with
  | mapr _ l hl=>
  cases hk;split at h
  .rename_i ml ty n hkd hm _;obtain rfl:=Ab h;cases hv;obtain ⟨kt,et,hu,hk,_⟩:=Uc hkd;obtain ⟨_,es,ck,ho,hes⟩:=cY.objAt hl hm;obtain ⟨es',ck',dA,hes'⟩:=Qa (P:=P) (fun n:Int=>.int .i64 n) hu hk ho hes ks n;exact ⟨_,dA,MP,cY.setObj hl hm rfl rfl _ ⟨rfl,es',ck',rfl,hes'⟩,Ev.ofObj cY hl hf _ _⟩
  .rename_i ml ty e hkd hm _;obtain rfl:=Ab h;cases hv;obtain ⟨kt,et,hu,hk,_⟩:=Uc hkd;obtain ⟨_,es,ck,ho,hes⟩:=cY.objAt hl hm;obtain ⟨es',ck',dA,hes'⟩:=Qa (P:=P) (fun n:Bool=>.bool n) hu hk ho hes ks e;exact ⟨_,dA,MP,cY.setObj hl hm rfl rfl _ ⟨rfl,es',ck',rfl,hes'⟩,Ev.ofObj cY hl hf _ _⟩
  .cases h
 .cases h
theorem Yw.kill {floor:Nat} (st:St) {c:Nat} (hf:floor<=c):Yw floor st (st.withMem (Ym st.mem c none)) where
 nxt:=Ai _
 bd h k hk:=by
  show Zf (Ym st.mem c none) k=none;rw [Xu];split
  .rfl
  .exact h k hk
 low _ k hk:=Zz _ _ (by omega)
 ob h:=h
theorem HA {floor:Nat} {st st':St} {op:Op} {v:BA} {b:Bool} (h:aX P floor st op=some (v,b,st')):Yw floor st st'/\st'.env=st.env:=by
 have same: ∀{v0:BA} {b0:Bool},some (v0,b0,st)=some (v,b,st')->Yw floor st st'/\st'.env=st.env:=fun e=>by simp only [Ac,Aa] at e;obtain ⟨_,_,rfl⟩:=e;exact ⟨Yw.refl _ _,rfl⟩
 have fresh: ∀{v0:BA} {b0:Bool} {cs:List BA} {ty:TypeId},some (v0,b0,BU st cs ty)=some (v,b,st')->Yw floor st st'/\st'.env=st.env:=fun e=>by simp only [Ac,Aa] at e;obtain ⟨_,_,rfl⟩:=e;exact ⟨Yw.new st _ _,rfl⟩
 unfold aX at h;split at h
 .split at h
  .exact fresh h
  .cases h
 .split at h
  .split at h
   .exact same h
   .exact same h
   .cases h
  .cases h
 .simp only [Ag,Aa] at h;obtain ⟨st1,h1,_,_,rfl⟩:=h;exact Ny h1
 .simp only [Ag,Aa] at h;obtain ⟨st1,h1,_,_,rfl⟩:=h;exact Ny h1
 .split at h
  .exact fresh h
  .cases h
 .split at h
  .obtain ⟨hf,h⟩:=Zj h;split at h
   .rename_i c s pos ty hm;split at h;rename_i e st1 ht;obtain ⟨t1,t2,t3,t4⟩:=Kp ht;simp only [Ac,Aa] at h;obtain ⟨_,_,rfl⟩:=h;have hi:=Yw.same (floor:=floor) t2 t3 fun ho=>(t4 ho).2;cases e with
    | false=>exact ⟨hi,t1⟩
    | true=>exact ⟨hi.trans (Yw.write st1 _ (Ae hf) (by rw [t2];exact hm)),t1⟩
   .cases h
  .cases h
 .obtain ⟨_,h⟩:=Zj h;split at h
  .split at h
   .exact fresh h
   .cases h
  .cases h
 .split at h
  .split at h
   .exact same h
   .cases h
  .cases h
 .split at h
  .obtain ⟨hf,h⟩:=Zj h;simp only [Ad] at hf;split at h
   .rename_i hm _;obtain ⟨_,h⟩:=Zj h;simp only [Ac,Aa] at h;obtain ⟨_,_,rfl⟩:=h;exact ⟨Yw.write st _ (Ae hf.1) hm,rfl⟩
   .cases h
  .cases h
 .split at h
  .split at h
   .split at h
    .exact same h
    .cases h
   .cases h
  .cases h
 .split at h
  .split at h
   .exact same h
   .exact same h
   .cases h
  .cases h
 .split at h
  .obtain ⟨_,h⟩:=Zj h;split at h
   .obtain ⟨_,h⟩:=Zj h;split at h
    .split at h
     .exact same h
     .rename_i c _;obtain ⟨hc,h⟩:=Zj h;simp only [Ad] at hc;simp only [Ac,Aa] at h;obtain ⟨_,_,rfl⟩:=h;have hc1:=Ae hc.1;cases hmc:Zf st.mem c with
      | some ab=>exact ⟨Yw.write st _ hc1 hmc,rfl⟩
      | none=>exact ⟨Yw.kill st hc1,rfl⟩
    .cases h
   .cases h
  .cases h
 .cases h
theorem BE.kept {mem:BG} {next:Nat} {w w':World} (h:BE ρ mem next w) (hs:w.heap.size<=w'.heap.size) {p:Nat->Prop} (hp: ∀b l,ρ b=some l->(Zf mem b).isSome =true->p l.blk) (hz: ∀k o,ρ.fz k=some o->p k)
  (hk: ∀k o,w.heap[k]? =some o->p k->w'.heap[k]? =some o):BE ρ mem next w':=
 ⟨h.dom,h.inj,fun b l ab e hm=>by
  have q:=h.blk b l ab e hm;obtain ⟨o,ho⟩:=q.some;exact q.world (BC.le_refl _) (by rw [ho];exact hk _ _ ho (hp b l e (by rw [hm];rfl))),fun k o e=>hk k o (h.old k o e) (hz k o e),h.sep,fun b l e=>AF (h.real b l e) hs,h.bd,h.ldom⟩
theorem Tw (hN:Qy P) {o:Oper} {floor:Nat} {st st':St} {v:BA} (h:aX P floor st o.op=some (v,true,st')) (hob:st'.ob=true) {a:Act} (hr:Vv ρ st.eval a.eval o.op) {w:World} (cY:BE ρ st.mem st.next w):
  Fb P o a w (CB ρ floor st st' v w):=by
 obtain ⟨dst,op,type,pos,after,guard⟩:=o;simp only at h hr;unfold aX at h;split at h
 ·-- makeMap
  rename_i t;split at h
  .rename_i kd hkd;simp only [Ac,Aa] at h;obtain ⟨rfl,_,rfl⟩:=h;refine .inl ⟨_,.map (some w.heap.size),_,?_,Ly cY floor _ [] t (.map #[] 0) ?_ fun ρ' hρ'=>.mapr _ _ hρ'⟩
   .have hmk:(Instr.makeMap t none).run P w=.ok (.map (some w.heap.size)) (w.alloc (.map #[] 0)):=rfl;simp [execOp,hmk]
   .cases kd
    .exact ⟨rfl,_,_,rfl,rfl⟩
    .exact ⟨rfl,_,_,rfl,rfl⟩
  .cases h
 ·-- lookup
  rename_i t x i co;have hx:=hr x (by simp [Op.operands]);have hi:=hr i (by simp [Op.operands]);split at h
  .rename_i b ks ex ei;rw [ex] at hx;rw [ei] at hi;generalize hux:a.eval x=ux at hx;generalize hui:a.eval i=ui at hi;cases hx with
   | mapr _ l hl=>
   cases hi;split at h
   .rename_i ml ty hkd hm;obtain ⟨kt,et,hu,hk,hz⟩:=Uc hkd;simp only [Ac,Aa] at h;obtain ⟨rfl,_,rfl⟩:=h;obtain ⟨_,es,ck,ho,hes⟩:=cY.objAt hl hm;have dA:=Qb (P:=P) (fun n:Int=>.int .i64 n) 0 hu hk (hz w) ho hes ks co;refine .inl ⟨ρ,_,w,by simp only [execOp,hux,hui];simp only [Sem.run_bind,dA,Result.andThen];rfl,?_,cY,Ev.refl _ _ _ _ _ cY.dom⟩;cases co
    .exact .int _ _
    .exact .tup _ _ rfl fun j h1 h2=>by
      match j with
      | 0=>exact .int _ _
      | 1=>exact .bool _
      | j+2=>simp at h1;omega
   .rename_i ml ty hkd hm;obtain ⟨kt,et,hu,hk,hz⟩:=Uc hkd;simp only [Ac,Aa] at h;obtain ⟨rfl,_,rfl⟩:=h;obtain ⟨_,es,ck,ho,hes⟩:=cY.objAt hl hm;have dA:=Qb (P:=P) (fun n:Bool=>.bool n) false hu hk (hz w) ho hes ks co;refine .inl ⟨ρ,_,w,by simp only [execOp,hux,hui];simp only [Sem.run_bind,dA,Result.andThen];rfl,?_,cY,Ev.refl _ _ _ _ _ cY.dom⟩;cases co
    .exact .bool _
    .exact .tup _ _ rfl fun j h1 h2=>by
      match j with
      | 0=>exact .bool _
      | 1=>exact .bool _
      | j+2=>simp at h1;omega
   .cases h
  .cases h
 ·-- mapUpdate
  rename_i t m k x;simp only [Ag,Aa] at h;obtain ⟨st1,h1,rfl,_,rfl⟩:=h;obtain ⟨w',dA,hp⟩:=OV h1 cY (hr m (by simp [Op.operands])) (hr k (by simp [Op.operands])) (hr x (by simp [Op.operands]));exact .inr (.inl ⟨ρ,w',by simp [execOp,dA],hp⟩)
 ·-- insert
  rename_i t m k x;simp only [Ag,Aa] at h;obtain ⟨st1,h1,rfl,_,rfl⟩:=h;obtain ⟨w',dA,hp⟩:=OV h1 cY (hr m (by simp [Op.operands])) (hr k (by simp [Op.operands])) (hr x (by simp [Op.operands]));exact .inr (.inl ⟨ρ,w',by simp [execOp,dA],hp⟩)
 ·-- range
  rename_i t x;have hx:=hr x (by simp [Op.operands]);split at h
  .rename_i s hu ex;rw [ex] at hx;generalize hux:a.eval x=ux at hx;cases hx;simp only [Ac,Aa] at h;obtain ⟨rfl,_,rfl⟩:=h;refine .inl ⟨_,.pointer (some ⟨w.heap.size,0,none⟩),_,?_,Ly cY floor (.it s 0) [] t (.stringIter ⟨s.toArray⟩ 0) ⟨rfl,rfl⟩ fun ρ' hρ'=>.ptr _ 0 _ hρ'⟩;simp [execOp,hux,Instr.range,run_underlying hu,Result.andThen]
  .cases h
 ·-- next
  rename_i x;have hx:=hr x (by simp [Op.operands]);split at h
  .rename_i b ex;rw [ex] at hx;generalize hux:a.eval x=ux at hx;obtain ⟨hf,h⟩:=Zj h;have hf:=Ae hf;split at h
   .rename_i s pos ty hm;split at h;rename_i e st1 ht;obtain ⟨t1,t2,t3,t4⟩:=Kp ht;simp only [Ac,Aa] at h;obtain ⟨rfl,_,rfl⟩:=h;cases hx with
    | ptr _ _ l hl=>
    have eG:=cY.objBase hl hm;obtain ⟨_,ho⟩:=cY.objAt hl hm;have hsz:(⟨s.toArray⟩:ByteArray).size =s.length:=(by simp [<-ByteArray.size_data]);rw [eG,Az] at hux;cases e with
    | true=>
     obtain ⟨hlt,_⟩:=t4 hob;have hlt:=AB hlt.symm;refine .inl ⟨ρ,.tuple #[.bool true,goInt pos,.int .i32 (Utf8.decode ⟨s.toArray⟩ pos).1],w.putObj l.blk (.stringIter ⟨s.toArray⟩ (pos+NM s pos)),?_,?_,?_,?_⟩
     .simp [execOp,hux,Instr.next,Oa ho,VG ho,hsz,hlt,NM,Result.andThen]
     .exact .tup _ _ rfl fun j h1 h2=>by
       match j with
       | 0=>exact .bool _
       | 1=>exact .int _ _
       | 2=>exact .int _ _
       | j+3=>simp at h1;omega
     .show BE ρ (Ym st1.mem b _) st1.next _
      rw [t2,t3];exact cY.setObj hl hm rfl rfl _ ⟨rfl,rfl⟩
     .show Ev ρ ρ floor st.mem st.next (Ym st1.mem b _) st1.next _ _
      rw [t2,t3];exact Ev.ofObj cY hl hf _ _
    | false=>
     obtain ⟨hlt,_⟩:=t4 hob;have hlt: ¬pos<s.length:=of_decide_eq_false hlt.symm;refine .inl ⟨ρ,.tuple #[.bool false],w,?_,?_,?_,?_⟩
     .simp [execOp,hux,Instr.next,Oa ho,hsz,hlt,Result.andThen]
     .exact .tup _ _ rfl fun j h1 h2=>by
       match j with
       | 0=>exact .bool _
       | j+1=>simp at h1
     .show BE ρ st1.mem st1.next w
      rw [t2,t3];exact cY
     .show Ev ρ ρ floor st.mem st.next st1.mem st1.next w w
      rw [t2,t3];exact Ev.refl _ _ _ _ _ cY.dom
   .cases h
  .cases h
 ·-- alloc
  rename_i t;obtain ⟨ht,h⟩:=Zj h;split at h
  .rename_i i hi;split at h
   .rename_i hz;simp only [Ac,Aa] at h;obtain ⟨rfl,_,rfl⟩:=h;have hzr:(zeroValue t).run P w=.ok (.agg #[.pointer none,.slice none 0 0]) w:=(by simp [zeroValue,run_typeInfo w hi,hz]);refine .inl ⟨_,.pointer (some ⟨w.heap.size,0,none⟩),_,?_,Ly cY floor .bld [.nils] t (.cells #[.pointer none,.slice none 0 0] t (0,0)) ⟨.nils,.slice none 0 0,none,rfl,rfl,.nils,.inl rfl⟩ fun ρ' hρ'=>.ptr _ 0 _ hρ'⟩;simp [execOp,Instr.alloc,newVar,newRow,hzr,Value.cells]
   .cases h
  .cases h
 ·-- load
  rename_i t x;have hx:=hr x (by simp [Op.operands]);split at h
  .rename_i b ex;rw [ex] at hx;generalize hux:a.eval x=ux at hx;split at h
   .rename_i buf ty i hm hag hi;simp only [Ac,Aa] at h;obtain ⟨rfl,_,rfl⟩:=h;cases hx with
    | ptr _ _ l hl=>
    have eG:=cY.objBase hl hm;obtain ⟨_,bv,p,e1,ho,hbv,_⟩:=cY.objAt hl hm;obtain rfl:=(List.cons.inj e1).1;rw [eG,Az] at hux;refine .inl ⟨ρ,bv,w,?_,hbv,cY,Ev.refl _ _ _ _ _ cY.dom⟩;have hc:w.cell? ⟨l.blk,1,none⟩=some bv:=(by simp [World.cell?,ho]);simp [execOp,hux,Instr.loadAt,Instr.sureAddr,loadVar,Jk hag,hc]
   .cases h
  .cases h
 ·-- store
  rename_i t ad x;have hx:=hr ad (by simp [Op.operands]);have hv:=hr x (by simp [Op.operands]);split at h
  .rename_i b ex;rw [ex] at hx;generalize hux:a.eval ad=ux at hx;obtain ⟨hf,h⟩:=Zj h;simp only [Ad] at hf;obtain ⟨hf,hsc⟩:=hf;have hf:=Ae hf;split at h
   .rename_i buf ty i hm hi;obtain ⟨hsz,h⟩:=Zj h;have hsz:=Af hsz;simp only [Ac,Aa] at h;obtain ⟨rfl,_,rfl⟩:=h;cases hx with
    | ptr _ _ l hl=>
    have eG:=cY.objBase hl hm;obtain ⟨_,bv,p,e1,ho,hbv,hp⟩:=cY.objAt hl hm;rw [eG,Az] at hux;refine .inr (.inl ⟨ρ,w.putObj l.blk (.cells #[.pointer p,a.eval x] ty (0,0)),?_,MP,cY.setObj (o':=.bld) (r':=[st.eval x]) hl hm rfl rfl _ ⟨_,_,p,rfl,rfl,hv,hp⟩,Ev.ofObj cY hl hf _ _⟩);have dN:=hv.oneCell hsc;have hcs:(a.eval x).cells = #[a.eval x]:=by
     cases hz:a.eval x <;> first | rfl | (rw [hz] at dN;cases dN)
    have dA:=run_storeCells_at P l.blk 1 ty [a.eval x] 0 _ w ho (by simp) (by simpa using dN);rw [QU ho] at dA;simp_all [execOp,Instr.storeAt,Instr.sureAddr,storeVar,Zq]
   .cases h
  .cases h
 ·-- convert
  rename_i src dst x;have hx:=hr x (by simp [Op.operands]);split at h
  .rename_i e hs hd;split at h
   .rename_i he;split at h
    .rename_i s o hby;simp only [Ac,Aa] at h;obtain ⟨rfl,rfl,rfl⟩:=h;refine .inl ⟨ρ,.string ⟨s.toArray⟩,w,?_,.str _,cY,Ev.refl _ _ _ _ _ cY.dom⟩;rcases Ks cY hby hx with ⟨e1,rfl⟩ | ⟨_,_,g,o,c,_,_,_,_,_,e1,_,_,hat⟩
     .simp only [execOp,e1,run_convert_bytes_string w src dst e none 0 0 hs he hd];simp [run_convert_bytes_string w src dst e none 0 0 hs he hd,Conv.bytesToString];rfl
     .simp [execOp,e1,run_convert_bytes_string w src dst e _ _ _ hs he hd,WL hat]
    .cases h
   .cases h
  .cases h
 ·-- e == nil
  rename_i bop t x y yt;have hx:=hr x (by simp [Op.operands]);split at h
  .rename_i e m ex hu;rw [ex] at hx;generalize hux:a.eval x=ux at hx;have hy:a.eval (.const .nilIface)=.nilIface :=rfl;split at h
   .simp only [Ac,Aa] at h;obtain ⟨rfl,_,rfl⟩:=h;refine .inl ⟨ρ,.bool e,w,?_,.bool _,cY,Ev.refl _ _ _ _ _ cY.dom⟩;cases hx <;> simp [execOp,hux,hy,eqGuard,binOp,run_underlying hu,Pq hu]
   .simp only [Ac,Aa] at h;obtain ⟨rfl,_,rfl⟩:=h;refine .inl ⟨ρ,.bool !e,w,?_,.bool _,cY,Ev.refl _ _ _ _ _ cY.dom⟩;cases hx <;> simp [execOp,hux,hy,eqGuard,binOp,run_underlying hu,Pq hu]
   .cases h
  .cases h
 ·-- String
  rename_i f args argTypes;have hf:=hr f (by simp [Op.operands,Call.operands]);have dB:Xq (Zp ρ) (args.toList.map st.eval) (args.map a.eval).toList :=by rw [AY];exact Xq.maps _ _ _ fun x hx=>hr x (by grind [Op.operands,Call.operands])
  split at h
  .rename_i g b eg ea;rw [eg] at hf;rw [ea] at dB;obtain ⟨hg,h'⟩:=Zj h;clear h;simp only [Ad] at hg;obtain ⟨hg,hbody⟩:=hg;obtain rfl:=Af hg;obtain ⟨fn,hfn,hb⟩: ∃fn,P.funcs[F8]? =some fn/\fn.body.isSome=true:=by
    cases e:P.funcs[F8]? with
    | none=>rw [e] at hbody;cases hbody
    | some fn=>rw [e] at hbody;exact ⟨fn,rfl,hbody⟩
   generalize hvals:args.map a.eval=vals at dB;obtain ⟨vals⟩:=vals;generalize hw:a.eval f=u at hf;cases hf with
   | fn _ _ cvs hl hh=>
   obtain rfl:cvs= #[]:=Array.eq_empty_of_size_eq_zero (by rw [<-hl];rfl);cases dB with
   | cons h1 h2=>
   cases h2;cases h1 with
   | ptr _ _ l hl'=>
   split at h'
   .rename_i buf ty hm;obtain ⟨hty,h⟩:=Zj h';clear h';obtain rfl:=Af hty;split at h
    .rename_i s o hby0;have eG:=cY.objBase hl' hm;obtain ⟨_,bv,p,e1,ho,hbv,_⟩:=cY.objAt hl' hm;obtain rfl:=(List.cons.inj e1).1;have hexec:(execOp a.eval ⟨dst,.call ⟨.value f,args,argTypes⟩,type,pos,after,guard⟩).run P w=.ok (.enter F8 #[.pointer (some ⟨l.blk,0,none⟩)]) w:=by have dA:=Vo hN hfn hb #[.pointer (some ⟨l.blk,0,none⟩)] w;rw [eG] at hvals;simp [execOp,resolve,hw,Deferred.ofValue,hvals,invoke,dA]
     refine .inr (.inr ⟨F8,_,hexec,?_⟩);have hstr:=fun cZ=>hN.2 (by rw [hfn];rfl) l.blk _ bv w s cZ ho;split at h
     .rename_i hrf;simp only [Ac,Aa,Ad,Ap] at h;obtain ⟨rfl,⟨cZ,rfl⟩,rfl⟩:=h;have hby:=hby0;have hstr:=hstr cZ;rcases Ks cY hby hbv with ⟨k1,k2⟩ | ⟨b',_,_,_,_,_,k1,_⟩
      .refine (hstr (.inl ⟨k1,k2⟩)).mono fun e w' ⟨q1,q2,q3,q4,q5,q6⟩=>⟨ρ,_,q1,.str _,?_,?_⟩
       .exact cY.kept q2 (p:=fun _=>True) (fun _ _ _ _=>trivial) (fun _ _ _=>trivial) fun k o hk _=>q3 k o hk fun g o n c e=>by rw [k1] at e;cases e
       .exact ⟨BC.le_refl _,fun _ _=>rfl,Ai _,fun _ _ _ _ _ h=>h,fun k o hk _=>q3 k o hk fun g o n c e=>(by rw [k1] at e;cases e),fun k m hk e=>(by have:=cY.dom k m e;omega),q2,q4,q5,q6,fun _ _=>rfl⟩
      .rw [hrf] at k1;cases k1
     .rename_i c hrf;obtain ⟨hc,h⟩:=Zj h;simp only [Ad] at hc;obtain ⟨hc1,hc2⟩:=hc;have hc1:=Ae hc1;simp only [Ac,Aa,Ad,Ap] at h;obtain ⟨rfl,⟨cZ,rfl⟩,rfl⟩:=h;have hby:=hby0;have hstr:=hstr cZ;rcases Ks cY hby hbv with ⟨k1,k2⟩ | ⟨b',lc,g,o,cc,el,k1,k2,k3,k4,k5,k6,k7,cur,k8,k9,k10⟩
      .have hkill:=cY.kill c;refine (hstr (.inl ⟨k1,k2⟩)).mono fun e w' ⟨q1,q2,q3,q4,q5,q6⟩=>⟨ρ,_,q1,.str _,?_,?_⟩
       .exact hkill.kept q2 (p:=fun _=>True) (fun _ _ _ _=>trivial) (fun _ _ _=>trivial) fun k o hk _=>q3 k o hk fun g o n c e=>by rw [k1] at e;cases e
       .refine ⟨BC.le_refl _,fun _ _=>rfl,Ai _,fun k hk e cs ty hm'=> ?_,fun k o hk _=>q3 k o hk fun g o n c e=>(by rw [k1] at e;cases e),fun k m hk e=>(by have:=cY.dom k m e;omega),q2,q4,q5,q6,fun _ _=>rfl⟩;show Zf (Ym st.mem c none) k=_;rw [Zz]
        .exact hm'
        .intro e';subst e';rw [k1] at hbv;unfold Hm at hby;cases hbv <;> first | (cases hrf;done) | skip
         all_goals (have hrf:=Ab hrf;subst hrf;simp [hm'] at hby)
      .rw [hrf] at k1;obtain rfl:=Ab k1;subst k4;obtain ⟨ab,hab⟩:=Bi.1 k3;have hel:=k7 ab hab;have hbt:ab.ty=Gw:=by unfold E6 at hc2;rw [hab] at hc2;exact Af hc2
       rw [hel,hbt] at k8;have hkill:=cY.kill c;have hne: ∀k,lc.blk≠k-> ∀g o n c,bv=.slice (some ⟨g,o,none⟩) n c->g≠k:=fun k hk g o n c e=>by rw [k5] at e;cases e;exact hk
       refine (hstr (.inr ⟨lc.blk,o,cc,cur,k5,k6,k8,k9,k10⟩)).mono fun e w' ⟨q1,q2,q3,q4,q5,q6⟩=>⟨ρ,_,q1,.str _,?_,?_⟩
       .refine hkill.kept q2 (p:=fun k=>lc.blk≠k) (fun b2 l2 e2 hs2 heq=> ?_) (fun k o hk heq=> ?_) fun k o hk hp=>q3 k o hk (hne k hp)
        .by_cases hbc:b2=c
         .rw [hbc,Zm] at hs2;cases hs2
         .rw [Zz _ _ hbc] at hs2;exact hbc (cY.inj b2 c l2 lc e2 k2 heq.symm hs2 k3)
        .have:=cY.sep c lc k2 k3;rw [heq,hk] at this;cases this
       .refine ⟨BC.le_refl _,fun _ _=>rfl,Ai _,fun k hk e cs ty hm'=> ?_,fun k o hk hfr=>q3 k o hk (hne k (hfr c lc k2 hc1)),fun k m hk e=>(by have:=cY.dom k m e;omega),q2,q4,q5,q6,fun _ _=>rfl⟩;show Zf (Ym st.mem c none) k=_;rw [Zz]
        .exact hm'
        .intro e';rw [e',k2] at e;cases e
    .cases h
   .cases h'
  .cases h
 .cases h
structure Mm (P:Program) (ops:Array Oper) (cx:BK) (o:Oper) (st st':St):Prop where
 inv:Yw cx.floor st st'
 slot: ∀d,o.dst=some d->d<cx.n
 other:st'.ob=true-> ∀t,o.dst≠some t->st'.tmp t=st.tmp t
 does:st'.ob=true-> ∀(ρ:BC) (a:Act) (w:World),a.tmps.size=cx.n->(∀d,Xn ops o=some d->Zp ρ (st.tmp d) (a.tmps.getD d undef))->Vv ρ st.eval a.eval o.op->BE ρ st.mem st.next w->
  ∀(K:Act->World->Prop) (Q:Exit->Act->World->Prop),(∀ρ' u w',(∀d,o.dst=some d->Zp ρ' (st'.tmp d) u)->BE ρ' st'.mem st'.next w'->Ev ρ ρ' cx.floor st.mem st.next st'.mem st'.next w w'->K (a.put o.dst u) w')->
   if Region.wanted o (yielded ops a.tmps) then o.wp P a w K Q else K (a.put o.dst undef) w
theorem Ml.two {S:BB} {ops:Array Oper} {cx:BK} {x:Bool×Oper} {st st':St} (s:Ml S P ops cx x st st'):Mm P ops cx x.2 st st':=
 ⟨s.inv,s.slot,s.other,fun ho ρ a w h1 h2 h3 h4 K Q hK=>s.does ho ρ a w st.eval h1 (fun _ _=>rfl) h2 h3 h4 K Q fun ρ' u w' q1 q2 q3 _=>hK ρ' u w' q1 q2 q3⟩
theorem WQ (hN:Qy P) {ops:Array Oper} {cx:BK} {o:Oper} {st st1 st2 st3 st':St} {v:BA} {b:Bool} (hw:Uw ops o cx st=some (true,st1)) (hx:aX P cx.floor st1 o.op=some (v,b,st2)) (how:st2.owe cx b=some st3) (hp:st3.put cx o.dst v=some st'):Mm P ops cx o st st':=by
 obtain ⟨w1,w2,w3⟩:=Yc hw;obtain ⟨eL,dC⟩:=HA hx;obtain ⟨e1,e2,e3,e4⟩:=Yp how;obtain ⟨p1,p2,p3,p4⟩:=Yr hp;have eE: ∀d,o.dst=some d->st'.tmp d=v:=fun d hd=>by
  rcases p4 with ⟨e,_⟩ | ⟨d',e,_,he⟩
  .rw [hd] at e;cases e
  .rw [hd] at e;obtain rfl:=Ab e;show T.get .undef st'.env d=v;rw [he,T.get_set,Aw rfl]
 have hi1:Yw cx.floor st st1:=Yw.same w1 w2 fun ho=>(w3 ho).1;have hi2:Yw cx.floor st2 st':=Yw.same (p1.trans e2) (p2.trans e3) fun ho=>(e4 (by rw [<-p3];exact ho)).2;have hob:st'.ob=true->b=true/\st2.ob=true/\st1.ob=true:=fun ho=>by obtain ⟨h1,h2⟩:=e4 (by rw [<-p3];exact ho);exact ⟨h1,h2,eL.ob h2⟩
 refine ⟨(hi1.trans eL).trans hi2,fun d hd=> ?_,fun ho t ht=> ?_,fun ho ρ a w hsz hgr hr cY K Q hK=> ?_⟩
 .rcases p4 with ⟨e,_⟩ | ⟨d',e,hlt,_⟩
  .rw [hd] at e;cases e
  .rw [hd] at e;obtain rfl:=Ab e;exact hlt
 .obtain ⟨_,_,ho1⟩:=hob ho;rw [<-(w3 ho1).2 t];show T.get .undef st'.env t=T.get .undef st1.env t;rcases p4 with ⟨_,he⟩ | ⟨d',e,_,he⟩
  .rw [he,e1,dC]
  .rw [he,T.get_set,At (fun h=>ht (by rw [e,h])),e1,dC]
 .obtain ⟨rfl,ho2,ho1⟩:=hob ho;have dQ:=(w3 ho1).2;have eI: ∀y,st1.eval y=st.eval y:=fun y=>by cases y <;> first | rfl | exact dQ _
  rw [Xh hw ho1 hsz hgr,Aw rfl];have hr':Vv ρ st1.eval a.eval o.op:=fun y hy=>by rw [eI y];exact hr y hy
  refine (Tw hN hx ho2 hr' (by rw [w1,w2];exact cY)).wp fun ρ' u w' hpost=> ?_;have he:=hpost.ev;rw [w1,w2] at he;refine hK ρ' u w' (fun d hd=>by rw [eE d hd];exact hpost.val) (by rw [p1,p2,e2,e3];exact hpost.rel) (by rw [p1,p2,e2,e3];exact he)
end
section
variable {P:Program}
theorem SA {S:BB} {Rc:BH} (hN:Qy P) (hS:Zk P S) (hCI:C6 Rc) (hC:DW P Rc) {fl:Nat} {cx:BK} {ops:Array Oper} {i:Nat} {o:Oper} {l:List Oper} {todo:List Item} {rnd:Option Nat} {rs:List ResultVar} {st:St} {cs:List BS} {lps:BL} {C':BJ}
  (hfl:Fl fl ⟨cx,some (ops,i,o::l),todo,rnd,rs,st,cs,lps⟩) (h:Me P S Rc cx ops i o l todo rnd rs st cs lps=some C'):CP P fl ⟨cx,some (ops,i,o::l),todo,rnd,rs,st,cs,lps⟩ C':=by
 have plain2: ∀st2,Mm P ops cx o st st2->CP P fl ⟨cx,some (ops,i,o::l),todo,rnd,rs,st,cs,lps⟩ ⟨cx,some (ops,i+1,l),todo,rnd,rs,st2,cs,lps⟩:=by
  intro st2 s1;have e:=hfl.cx;simp only at e;refine ⟨⟨e,hfl.cs,AI hfl.le s1.inv.nxt⟩,by rw [<-e];exact s1.inv,fun ho m0 n0 ρ0 w0 ρ b a k css w ma mb hs he cs0=> ?_⟩;obtain ⟨dC,hdf,htd,⟨hro,dX⟩,dK⟩:=hs.top;simp only at dC hdf htd hro dK;obtain ⟨ho_i,hl',hdrop⟩:=ML hro;have key:=s1.does ho ρ a w dC.size (fun d _=>dC.get d) (fun y _=>dC.eval y) hs.rel
   (fun a' w'=> ∃ρ',a'.defers=a.defers/\Yt ρ' st2.env cx.n a'.tmps/\BE ρ' st2.mem st2.next w'/\Ev ρ ρ' cx.floor st.mem st.next st2.mem st2.next w w') (fun e _ _=>e=.normal) (fun ρ' u w' dM dR hev=>by
    refine ⟨ρ',Act.put_defers' _ _ _,?_,dR,hev⟩;cases hdst:o.dst with
    | none=>exact ((dC.mono hev.ext).congr fun t=>s1.other ho t (by grind))
    | some d=>
     refine ((dC.mono hev.ext).put (dM d hdst) (.inr ⟨d,rfl,s1.slot d hdst,rfl⟩)).congr fun t=> ?_;rw [T.get_set];split
     .rename_i e;subst e;rfl
     .rename_i e;exact s1.other ho t (by grind))
  obtain ⟨a',w',⟨ρ',hd',he',hr',hev⟩,dP⟩:=LK (b:=b) (k:=k) (cs:=css++cs0) (rest:=(List.range ops.size).drop (i+1)) (fun e a w h=>h) ho_i (Ub dX ho_i) key;refine ⟨ρ',b,a',k,css,w',ma,mb,by rw [Xv,hdrop];exact dP,⟨⟨he',by grind,htd.mono fun _ _=>C5.mono hev.ext,⟨hl',dX⟩,?_⟩,hs.lv,hs.rest.ev hev,hr'⟩,he.trans (by grind),rfl,hev.size⟩;exact ((⟨dC,hdf,htd,⟨hro,dX⟩,dK⟩:DA ρ cx (some (ops,i,o::l)) todo rnd st.env b a k ma).mono hev.ext).rnd
 have hcx:cx.floor<=st.next:=by have:=hfl.le;have e:=hfl.cx;grind
 have plain: ∀st2,D3 P S Rc ops cx (false,o) st=some st2->CP P fl ⟨cx,some (ops,i,o::l),todo,rnd,rs,st,cs,lps⟩ ⟨cx,some (ops,i+1,l),todo,rnd,rs,st2,cs,lps⟩:=fun st2 h1=>plain2 st2 (Nq hN hS hCI hC hcx h1).two;unfold Me at h;split at h
 .rename_i st1 hw;split at h
  ·-- an operation that only such a region has
   rename_i v b st2 hx;split at h
   .rename_i st3 how;split at h
    .rename_i st4 hp;obtain rfl:=Ab h;exact plain2 st4 (WQ hN hw hx how hp)
    .cases h
   .cases h
  rename_i hx;split at h
  ·-- a function is entered
   rename_i g args dT;obtain ⟨w1,w2,w3⟩:=KM (ρ:=⟨fun _=>none,fun _=>none,fun _=>none⟩) hw;have hCeq: ∃fn body,P.funcs[g]? =some fn/\fn.body=some body/\C'=⟨⟨Nat.max fn.ntmps args.length,cx.floor,cx.sym⟩,none,[.code body],none,fn.results.toList,st1.withEnv (Cf args 0 .leaf),⟨cx,some (ops,i,o::l),todo,rnd,rs,st1.env⟩::cs,lps⟩:=by
    grind [HI]
   obtain ⟨fn,body,hfn,hb,hCe⟩:=hCeq;have hmem:C'.st.mem=st.mem:=by rw [hCe];exact w1
   have hnext:C'.st.next=st.next:=by rw [hCe];exact w2
   refine ⟨by rw [hCe];exact hfl.enter (Bs w2.symm),Yw.same hmem hnext fun ho=>(w3 (by rw [hCe] at ho;exact ho)).1,fun ho m0 n0 ρ0 w0 ρ b a k css w ma mb hs he cs0=> ?_⟩;have ho1:st1.ob=true:=by rw [hCe] at ho;exact ho
   obtain ⟨dC,hdf,htd,⟨hro,dX⟩,dK⟩:=hs.top;simp only at dC hdf htd hro dK;obtain ⟨ho_i,hl',hdrop⟩:=ML hro;obtain ⟨_,_,w3'⟩:=KM (ρ:=ρ) hw;obtain ⟨eT,hwt⟩:=(w3' ho1).2 dC;have hexec: ∃vals,(execOp a.eval o).run P w=.ok (.enter g vals) w/\Xq (Zp ρ) args vals.toList:=by
    obtain ⟨dst,op,type,pos,after,guard⟩:=o;simp only at dT ⊢;unfold callee at dT;split at dT
    .rename_i f cargs argTypes;split at dT
     .rename_i g' caps hg;split at dT
      .cases dT
      .simp only [Ac,Sum.inl.injEq,Aa] at dT;obtain ⟨rfl,rfl⟩:=dT;have hf:=eT.eval f;rw [hg] at hf;generalize hw':a.eval f=u at hf;cases hf with
       | fn _ _ cvs hl hh=>
        have:=Vo hN hfn (by rw [hb];rfl) (cargs.map a.eval++cvs) w
        grind [execOp,resolve,Deferred.ofValue,invoke,Xq.append,LW,Xq.of]
     .rename_i g' first hg
      split at dT
      .cases dT
      .simp only [Ac,Sum.inl.injEq,Aa] at dT;obtain ⟨rfl,rfl⟩:=dT;have hf:=eT.eval f;rw [hg] at hf;generalize hw':a.eval f=u at hf;cases hf with
       | fnb _ _ cvs hl hh=>
        have:=Vo hN hfn (by rw [hb];rfl) (cvs++cargs.map a.eval) w
        grind [execOp,resolve,Deferred.ofValue,invoke,Xq.append,Xq.of,LW]
     all_goals grind
    .cases dT
   obtain ⟨vals,hex,dB⟩:=hexec;have dW:=SE (b:=b) (k:=k) (cs:=css++cs0) (rest:=(List.range ops.size).drop (i+1)) ho_i (Ub dX ho_i) hwt hex;obtain ⟨_,_,_,_,_,b',a',k',hen,hsr⟩:=Na h (⟨eT,hdf,htd,⟨hro,dX⟩,dK⟩) hs.lv hs.rest (by rw [w1,w2];exact hs.rel) dB;refine ⟨ρ,b',a',k',_,w,_,_,.one ?_,hsr,by grind,by cases css <;> rfl,Ai _⟩
   grind [Xv]
  ·-- a round is entered
   rename_i j args dT;obtain ⟨w1,w2,w3⟩:=KM (ρ:=⟨fun _=>none,fun _=>none,fun _=>none⟩) hw;unfold P8 at h;split at h
   .rename_i lst lpend ln lenv lparams lassign lbody hlg;split at h
    .rename_i env' hsa;obtain rfl:=Ab h;refine ⟨hfl.enter (Bs w2.symm),Yw.same w1 w2 fun ho=>(w3 ho).1,fun ho m0 n0 ρ0 w0 ρ b a k css w ma mb hs he cs0=> ?_⟩;have ho1:st1.ob=true:=ho;obtain ⟨dC,hdf,htd,⟨hro,dX⟩,dK⟩:=hs.top;simp only at dC hdf htd hro dK;obtain ⟨ho_i,hl',hdrop⟩:=ML hro;obtain ⟨_,_,w3'⟩:=KM (ρ:=ρ) hw;obtain ⟨eT,hwt⟩:=(w3' ho1).2 dC;obtain ⟨lr,hlp,hlow,hsp,ltmps,lfn,ld,eW,eH⟩:=hs.rest.loops j _ hlg;simp only at eW eH;have hexec: ∃vals:Array Value,Xq (Zp ρ) args vals.toList/\(execOp a.eval o).run P w=.ok (.round lr lfn ((lparams.toArray.zip vals).foldl (fun tmps (t,x)=>tmps.setIfInBounds t x) ltmps) lassign lbody) w:=by
      obtain ⟨dst,op,type,pos,after,guard⟩:=o;simp only at dT ⊢;unfold callee at dT;split at dT
      .rename_i f cargs argTypes;split at dT
       .grind
       .grind
       .rename_i j' hg;simp only [Ac,Sum.inr.injEq,Aa] at dT;obtain ⟨rfl,rfl⟩:=dT;have hf:=eT.eval f;rw [hg] at hf;generalize hw':a.eval f=u at hf;cases hf with
        | yld _ l' hl'=>rw [hlp] at hl';obtain rfl:=Ab hl';have hca:=LW eT cargs;obtain ⟨cZ,_⟩:=Jb hsa eH hca;refine ⟨cargs.map a.eval,hca,?_⟩;simp_all [run_yield,execOp,resolve,Deferred.ofValue,invoke]
       .cases dT
      .cases dT
     obtain ⟨vals,dB,hex⟩:=hexec;obtain ⟨_,henv'⟩:=Jb hsa eH dB;have dW:=SF (b:=b) (k:=k) (cs:=css++cs0) (rest:=(List.range ops.size).drop (i+1)) ho_i (Ub dX ho_i) hwt hex;refine ⟨ρ,⟨lfn, #[],[],[],.run,.normal,some lr⟩,{tmps:=(lparams.toArray.zip vals).foldl (fun tmps (t,x)=>tmps.setIfInBounds t x) ltmps,defers:=[]},[.code lassign,.beginRound,.code lbody],b.atR a (Xv (some (ops,i,o::l)) k)::css,w,[],ma++mb,.one ?_,⟨⟨?_,rfl,.cons (.same _ rfl) (.cons (.same _ rfl) (.cons (.same _ rfl) .nil)),trivial,⟨rfl,lr,hlp,rfl⟩⟩,fun _=>⟨rfl,fun h0=>by cases h0⟩,?_,by rw [show (st1.withEnv env').mem =st.mem from w1,show (st1.withEnv env').next =st.next from w2];exact hs.rel⟩,by rw [show (st1.withEnv env').mem =st.mem from w1,show (st1.withEnv env').next =st.next from w2];exact he,by cases css <;> rfl,Ai _⟩
     .simp only [Xv,hdrop];exact dW
     .have:(lparams.toArray.zip vals).foldl (fun tmps (t,x)=>tmps.setIfInBounds t x) ltmps=(lparams.zip vals.toList).foldl (fun t p=>t.setIfInBounds p.1 p.2) ltmps:=by rw [<-Array.foldl_toList];simp
      simp only [this];exact henv'
     .exact ⟨.cons ⟨eT,hdf,htd,⟨hro,dX⟩,dK⟩ hs.lv hs.rest.cs,hs.rest.nodup,hs.rest.marks,hs.rest.loops,hs.rest.inj⟩
    .cases h
   .cases h
  clear plain2
  grind [D3]
 all_goals (clear plain2;grind [D3])
end
section
variable {P:Program}
theorem PR {ops:Array Oper} {z:Nat}: ∀{l:List Nat},Dl ops l=some z->FD z ops=true
 | [],h=>by cases h
 | x::l,h=>by
  unfold Dl at h;rcases Xd h with ⟨h1,h⟩ | ⟨_,h⟩
  .obtain rfl:=Ab h;exact h1
  .exact PR h
theorem Rd {ops:Array Oper} {z:Nat} (h:MU ops=some z):FD z ops=true/\Jn ops=true:=by unfold MU at h;obtain ⟨hn,h⟩:=Zj h;exact ⟨PR h,hn⟩
theorem Bx.item {ρ:BC} {x:Item} {t k:List Item} (hx:Vt x=true) (h:Bx ρ (x::t) k): ∃k',k=x::k'/\Bx ρ t k':=by
 cases h with
 | cons h ht=>
  cases h with
  | same _ _=>grind
  | inR j l e=>cases hx
  | endR j l e=>cases hx
theorem L9 {fl:Nat} {cx:BK} {todo:List Item} {rnd:Option Nat} {rs:List ResultVar} {st:St} {cs:List BS} {lps:BL} {jump:Option Code} {C':BJ} (hfl:Fl fl ⟨cx,none,todo,rnd,rs,st,cs,lps⟩)
  (h:Hq P rnd rs st cs lps jump=some C') (hj:(todo=[]/\jump=none)\/(∃t,todo=.code .ret ::t/\jump=some .ret)\/(∃id t,todo=.code (.exit id)::t/\exitTo id t=none/\jump=some (.exit id)/\rnd.isSome=true)):
  CP P fl ⟨cx,none,todo,rnd,rs,st,cs,lps⟩ C':=by
 unfold Hq at h;split at h
 .split at h
  .rename_i vs hvs;obtain ⟨hfl',hm,hn,hob,hne,key⟩:=JR (P:=P) (base:=0) h hfl.cs hfl.le;refine ⟨hfl',Yw.same hm hn fun ho=>by grind,fun ho m0 n0 ρ0 w0 ρ b a k css w ma mb hs he cs0=> ?_⟩;obtain ⟨_,_,_,_,_,key⟩:=JR (P:=P) (base:=w0.heap.size) h hfl.cs hfl.le;have htd:todo=[]\/ ∃t,todo=.code .ret ::t:=by
    grind
   obtain ⟨w',dP,dC,cY,hev,dL,hsz⟩:=L3 hs rfl rfl htd rfl he (css++cs0);obtain ⟨hk,hfn⟩:=hs.lv hne;obtain ⟨fn,hfn,hrs⟩:=hfn rfl;simp only at hrs hfn;obtain ⟨u,hu,hres⟩:=Jd (fn:=fn) dC cY (by rw [hrs];exact hvs);obtain ⟨c,css',b',a',k',ma',mb',rfl,hfin,hsr,hbot⟩:=key ρ css w' mb u hu dL cY;refine ⟨ρ,b',a',k',css',w',ma',mb',dP.trans (.one ?_),hsr,by grind,by rw [hbot];rfl,hsz⟩;rw [<-hfin];exact step_leave_returned (fr:={b.atR {a with defers:=[]} k with mode:=.returning}) ⟨rfl,rfl,hk,fn,hfn,hres⟩
  .cases h
 .rename_i j;split at h
  .rename_i lst lpend ln lenv lparams lassign lbody hlg;obtain ⟨hfl',hm,hn,hob,hne,_⟩:=JR (P:=P) (base:=0) h hfl.cs hfl.le;refine ⟨hfl',Yw.same hm hn fun ho=>by grind,fun ho m0 n0 ρ0 w0 ρ b a k css w ma mb hs he cs0=> ?_⟩;obtain ⟨_,_,_,_,_,key⟩:=JR (P:=P) (base:=w0.heap.size) h hfl.cs hfl.le;obtain ⟨rfl,lr0,hlp0,hro⟩:=hs.top.rnd;obtain ⟨lr,hla⟩:=hs.rest.loops j _ hlg;have hla':=hla;obtain ⟨hlp,hlow,hsp,ltmps,lfn,ld,eW,eH⟩:=hla;rw [hlp] at hlp0;obtain rfl:=Ab hlp0;have dA:=run_endRound (P:=P) jump eW;have hlst:(if jump.isNone then LoopState.ready else LoopState.done)=Ho jump:=by cases jump <;> rfl
   rw [hlst] at dA;have dL:=hs.rest.record (w':=w.putObj lr (.loop ⟨Ho jump,jump,lfn,ltmps,lparams.toArray,lassign,lbody,ld⟩)) hlg hla' (L':=⟨Ho jump,jump,ln,lenv,lparams,lassign,lbody⟩)
    ⟨hlp,hlow,hsp.turned (Xk.put _ _ _),ltmps,lfn,ld,World.putObj_heap_same hsp.1,eH⟩ (Xk.put _ _ _)
   obtain ⟨c,css',b',a',k',ma',mb',rfl,hfin,hsr,hbot⟩:=key ρ css _ mb (.bool jump.isNone) (.bool _) dL (hs.rel.turned (fun r hr=>by grind) (Xk.put _ _ _));have hev:=he.turned (m:=[lr]) (fun r hr=>by grind) (Xk.put w lr (.loop ⟨Ho jump,jump,lfn,ltmps,lparams.toArray,lassign,lbody,ld⟩));refine ⟨ρ,b',a',k',css',_,ma',mb',.one ?_,hsr,by grind,by rw [hbot];rfl,Bs (Xk.put _ _ _).size.symm⟩;obtain ⟨hk,_⟩:=hs.lv hne;rw [<-hfin];have htd:=hs.top.todo;rcases hj with ⟨rfl,rfl⟩ | ⟨t,rfl,rfl⟩ | ⟨id,t,rfl,hx,rfl,_⟩
   .cases htd;exact stepR_round_end hro hk dA
   .obtain ⟨k',rfl,_⟩:=htd.code;exact stepR_round_ret hro hk dA
   .obtain ⟨k',rfl,ht⟩:=htd.code;exact stepR_round_exit hro hk ((ht.exit id).2 hx) dA
  .cases h
theorem PP {S:BB} {Rc:BH} (hN:Qy P) (hmx:P.follows .mixedOrders =true) (hS:Zk P S) (hCI:C6 Rc) (hC:DW P Rc) {fl:Nat} {C C':BJ} (hfl:Fl fl C) (h:HZ P S Rc C=some C'):CP P fl C C':=by
 unfold HZ at h;split at h
 ·-- a region's end
  rename_i ops i todo rnd rs st cs lps;obtain rfl:=Ab h;refine ⟨⟨hfl.cx,hfl.cs,hfl.le⟩,Yw.refl _ _,fun ho m0 n0 ρ0 w0 ρ b a k css w ma mb hs he cs0=> ?_⟩;obtain ⟨dC,hdf,htd,⟨hro,dX⟩,dK⟩:=hs.top;refine ⟨ρ,b,a,k,css,w,ma,mb,.one ?_,⟨⟨dC,hdf,htd,trivial,dK⟩,hs.lv,hs.rest,hs.rel⟩,he,rfl,Ai _⟩;have hge:ops.size<=i:=by simp_all
  have:(List.range ops.size).drop i=[]:=AL (by grind)
  grind [Xv,stepR_region_end]
 .exact SA hN hS hCI hC hfl h
 .rename_i cx todo rnd rs st cs lps;split at h
  .grind [L9]
  .grind [L9]
  .obtain rfl:=Ab h;exact CP.move hfl fun ρ k hk=>by obtain ⟨k',rfl,ht⟩:=hk.code;grind [stepR_skip]
  .obtain rfl:=Ab h;exact CP.move hfl fun ρ k hk=>by obtain ⟨k',rfl,ht⟩:=hk.code;grind [stepR_label]
  .obtain rfl:=Ab h;exact CP.move hfl fun ρ k hk=>by obtain ⟨k',rfl,ht⟩:=Bx.item rfl hk;grind [stepR_inBlock]
  .obtain rfl:=Ab h;exact CP.move hfl fun ρ k hk=>by obtain ⟨k',rfl,ht⟩:=Bx.item rfl hk;exact ⟨k',ht,fun b a css w=>step_lone_go (by simp [stepG,stepG.exec,Frame.atR])⟩
  .obtain rfl:=Ab h;exact CP.move hfl fun ρ k hk=>by obtain ⟨k',rfl,ht⟩:=hk.code;exact ⟨_,.cons (.same _ rfl) (.cons (.same _ rfl) ht),fun b a css w=>stepR_seq⟩
  ·-- a test
   rename_i c x y k0;split at h
   .rename_i v hv;split at h;rename_i e st1 ht;obtain rfl:=Ab h;obtain ⟨t1,t2,t3,t4⟩:=Kp ht;refine ⟨⟨hfl.cx,hfl.cs,by have:=hfl.le;grind⟩,Yw.same t2 t3 fun ho=>(t4 ho).2,fun ho m0 n0 ρ0 w0 ρ b a k css w ma mb hs he cs0=> ?_⟩;obtain ⟨rfl,_⟩:=t4 ho;obtain ⟨dC,hdf,htd,hro,dK⟩:=hs.top;obtain ⟨k',rfl,htl⟩:=htd.code;have hc:=dC.eval c;rw [hv] at hc;have hev:a.eval c=.bool e:=by generalize a.eval c=u at hc;cases hc;rfl
    refine ⟨ρ,b,a,_,css,w,ma,mb,.one (stepR_cond hev),⟨⟨by grind,hdf,.cons ?_ htl,trivial,dK⟩,hs.lv,hs.rest,by rw [t2,t3];exact hs.rel⟩,by grind,rfl,Ai _⟩;cases e <;> exact .same _ rfl
   .cases h
  .obtain rfl:=Ab h;exact CP.move hfl fun ρ k hk=>by obtain ⟨k',rfl,ht⟩:=hk.code;exact ⟨_,.cons (.same _ rfl) (.cons (.same _ rfl) ht),fun b a css w=>stepR_block⟩
  .obtain rfl:=Ab h;exact CP.move hfl fun ρ k hk=>by obtain ⟨k',rfl,ht⟩:=hk.code;exact ⟨_,.cons (.same _ rfl) (.cons (.same _ rfl) ht),fun b a css w=>step_lone_go (by simp [stepG,stepG.exec,Frame.atR])⟩
  .obtain rfl:=Ab h;exact CP.move hfl fun ρ k hk=>by obtain ⟨k',rfl,ht⟩:=hk.code;exact ⟨_,.cons (.same _ rfl) (.cons (.same _ rfl) ht),fun b a css w=>stepR_loop⟩
  .obtain rfl:=Ab h;exact CP.move hfl fun ρ k hk=>by obtain ⟨k',rfl,ht⟩:=Bx.item rfl hk;exact ⟨_,.cons (.same _ rfl) (.cons (.same _ rfl) ht),fun b a css w=>stepR_inLoop⟩
  ·-- an exit
   rename_i id k0;split at h
   .rename_i k1 hx;obtain rfl:=Ab h;exact CP.move hfl fun ρ k hk=>by
     obtain ⟨k',rfl,ht⟩:=hk.code;obtain ⟨r',h1,h2⟩:=(ht.exit id).1 _ hx
     grind [stepR_exit]
   grind [L9]
  ·-- a region in the order of the text
   rename_i id ops k0;obtain ⟨dX,h⟩:=Zj h;obtain rfl:=Ab h;refine ⟨⟨hfl.cx,hfl.cs,hfl.le⟩,Yw.refl _ _,fun ho m0 n0 ρ0 w0 ρ b a k css w ma mb hs he cs0=> ?_⟩;obtain ⟨dC,hdf,htd,hro,dK⟩:=hs.top;obtain ⟨k',rfl,htl⟩:=htd.code;exact ⟨ρ,b,a,k',css,w,ma,mb,.one stepR_region,⟨⟨dC,hdf,htl,⟨rfl,dX⟩,dK⟩,hs.lv,hs.rest,hs.rel⟩,he,rfl,Ai _⟩
  ·-- a region that draws its order
   rename_i id ops k0;split at h
   ·-- it hands out a round
    rename_i m hty;split at h
    .rename_i st1 hop;obtain rfl:=Ab h;obtain ⟨hm,dX,dS,hfor,hgd⟩:=SI hty;have hm':=Nat.le_of_lt hm;have hi:=OK hCI _ _ _ _ hop;have e:=hfl.cx;simp only at e;have hcx:cx.floor<=st.next:=by have:=hfl.le;grind
     refine ⟨⟨e,hfl.cs,AI hfl.le hi.nxt⟩,by grind,fun ho m0 n0 ρ0 w0 ρ b a k css w ma mb hs he cs0=> ?_⟩;obtain ⟨dC,hdf,htd,hro,dK⟩:=hs.top;obtain ⟨k',rfl,htl⟩:=htd.code;have hw:=OZ hN hS hCI hC hcx dS hop ho hdf dC (hs.rel.drawn (w.drawn+1));have hw2:=wpAny_sound (Yi ops m).size (w.tape w.drawn (.order b.fn id)) _ a _ hw;rw [Or _ hm',PQ hm'] at hw2;have back: ∀(j:Nat) x,ops[j]? =some x-> ∃y,(Yi ops m)[j]? =some y/\y.after=x.after:=fun j x hx=>by
      grind [Lt]
     have eM: ∀(j:Nat) x,ops[j]? =some x-> ∀e∈x.after.toList,Region.binds .any e=true->e.on<j:=fun j x hx e he hb=>by obtain ⟨y,hy,hya⟩:=back j x hx;exact (Lw dS).ord j y hy e (by grind) hb
     have hcl0: ∀S,D5 ops S->D5 (Yi ops m) S:=fun S hc j y hy hS e he hb=>by
      have hsa:=Lt hm' j;rw [hy] at hsa;cases hsx:ops[j]? with
      | none=>grind
      | some x=>rw [hsx] at hsa;simp only [Option.map_some,Ac] at hsa;exact hc j x hsx hS e (by grind) hb
     have hfor': ∀j x,m<=j->ops[j]? =some x-> ∀i,i<j->EN ops i x:=fun j x hj hx i hij S hc hr=>by obtain ⟨y,hy,hya⟩:=back j x hx;exact hfor j y hj hy i hij S (hcl0 S hc) fun e he hb=>hr e (by grind) hb
     have eB: ∀i,(Array.replicate ops.size false).getD i false=false:=fun i=>by by_cases hi:i<ops.size <;> simp [hi]
     obtain ⟨l,hl,hlm⟩:=UP eM hm hfor' ops.size (w.tape w.drawn (.order b.fn id)) (Array.replicate ops.size false) (by simp) (fun j x hx hS=>by grind) (by
      simp_all) (fun q _=>eB q)
     rw [hl] at hw2;obtain ⟨a',w',⟨_,hd',ρ',q1,q2,q3⟩,dP⟩:=Nr (b:=b) (k:=k') (cs:=css++cs0) (fun e a w hq=>hq.1) hm' dX hgd (r:=(List.range ops.size).drop m) (fun i hi=>by
      obtain ⟨n,hn,rfl⟩:=Bb hi;simp) l a _ hlm hw2
     have hev:=q3.drawn;refine ⟨ρ',b,a',k',css,w',ma,mb,.head stepR_region_draw ?_,⟨⟨q1,hd',htl.mono fun _ _=>C5.mono hev.ext,⟨rfl,dX⟩,?_⟩,hs.lv,hs.rest.ev hev,q2⟩,he.trans (by grind),rfl,hev.size⟩
     .grind [Region.schedule,Xv,Region.linearise]
     .exact ((⟨dC,hdf,htd,hro,dK⟩:DA ρ cx none _ rnd st.env b a _ ma).mono hev.ext).rnd
    .cases h
   split at h;rename_i z hlz;obtain ⟨dS,dX⟩:=Rd hlz;split at h
   .rename_i st1 hop;obtain rfl:=Ab h;have hi:=OK hCI _ _ _ _ hop;have e:=hfl.cx;simp only at e;have hcx:cx.floor<=st.next:=by have:=hfl.le;grind
    refine ⟨⟨e,hfl.cs,AI hfl.le hi.nxt⟩,by grind,fun ho m0 n0 ρ0 w0 ρ b a k css w ma mb hs he cs0=> ?_⟩;obtain ⟨dC,hdf,htd,hro,dK⟩:=hs.top;obtain ⟨k',rfl,htl⟩:=htd.code;have hw:=OZ hN hS hCI hC hcx dS hop ho hdf dC (hs.rel.drawn (w.drawn+1));have hw2:=wpAny_sound ops.size (w.tape w.drawn (.order b.fn id)) _ a _ hw;obtain ⟨a',w',⟨hd',ρ',q1,q2,q3⟩,dP⟩:=Lb (b:=b) (k:=k') (cs:=css++cs0) (fun e a w hq=>hq) dX _ _ _ hw2;have hev:=q3.drawn;refine ⟨ρ',b,a',k',css,w',ma,mb,.head stepR_region_draw ?_,⟨⟨q1,hd',htl.mono fun _ _=>C5.mono hev.ext,trivial,?_⟩,hs.lv,hs.rest.ev hev,q2⟩,he.trans (by grind),rfl,hev.size⟩
    .simp only [Region.schedule,hmx,Bool.true_or,if_true];exact dP
    .exact ((⟨dC,hdf,htd,hro,dK⟩:DA ρ cx none _ rnd st.env b a _ ma).mono hev.ext).rnd
   all_goals grind
  ·-- a loop over a function
   rename_i f params assign body k0;split at h
   .rename_i g caps hg;obtain ⟨env,mem,next,orc,ob⟩:=st;simp only [St.nextId] at h;obtain ⟨hrk,h⟩:=Zj h;have hCeq: ∃fn fbody,P.funcs[g]? =some fn/\fn.body=some fbody/\C'=⟨⟨Nat.max fn.ntmps (BA.yld next::caps).length,cx.floor,cx.sym⟩,none,[.code fbody],none,fn.results.toList,St.withEnv ⟨env,mem,next+1,orc,ob⟩ (Cf (BA.yld next::caps) 0 .leaf),⟨cx,none,.inRangeFunc next::k0,rnd,rs,env⟩::cs,DE lps next (some ⟨.ready,none,cx.n,env,params.toList,assign,body⟩)⟩:=by
     grind [HI]
    obtain ⟨fn,fbody,hfn,hb,hCe⟩:=hCeq;refine ⟨by rw [hCe];exact hfl.enter (Bp _),?_,fun ho m0 n0 ρ0 w0 ρ b a k css w ma mb hs he cs0=> ?_⟩
    .rw [hCe];exact ⟨Bp _,fun hbd x hx=>hbd x (Nat.le_of_succ_le hx),fun _ _ _=>rfl,fun ho=>ho⟩
    obtain ⟨dC,hdf,htd,hro,dK⟩:=hs.top;obtain ⟨k',rfl,htl⟩:=htd.code;have cY:=hs.rel;simp only at dC cY he dK hdf htl;have lay: ∃l mk w1 d,(Instr.enterLoop b.fn a.tmps params assign body b.roundOf).run P w=.ok (l,(mk:List Nat).map F5) w1/\w1.heap[l]? =some (.loop ⟨.ready,none,b.fn,a.tmps,params,assign,body,d⟩)/\w0.heap.size<=l/\Sp ρ w1 l/\BE ρ mem next w1/\Ev ρ0 ρ fl m0 n0 mem next w0 w1/\(rnd.isSome=true->mk=[])/\
      CE P w0.heap.size ρ cs lps css w1 (mk++ma) mb/\(∀j L l',B6 lps j=some L->ρ.lp j=some l'->l'≠l)/\w.heap.size<=w1.heap.size:=by
     have gr: ∀(w1:World) (o:Obj) (mk:List Nat),CE P w0.heap.size ρ cs lps css w1 mk mb->CE P w0.heap.size ρ cs lps css (w1.alloc o) mk mb:=fun w1 o mk hr=>
      ⟨hr.cs,hr.nodup,fun r hx=>by obtain ⟨q1,q2,q3⟩:=hr.marks r hx;exact ⟨q1,(q2.grow o).1,by rw [(q2.grow o).2];exact q3⟩,fun j L hL=>by
       obtain ⟨l,q1,q2,q3,tm,fn',d,q4,q5⟩:=hr.loops j L hL;exact ⟨l,q1,q2,(q3.grow o).1,tm,fn',d,by rw [(q3.grow o).2];exact q4,q5⟩,hr.inj⟩
     have far: ∀(w1:World),CE P w0.heap.size ρ cs lps css w1 ma mb-> ∀j L l',B6 lps j=some L->ρ.lp j=some l'->l'<w1.heap.size:=fun w1 hr j L l' hL e=>by obtain ⟨l2,q⟩:=hr.loops j L hL;have:=q.lp;rw [e] at this;obtain rfl:=Ab this;exact q.sp.1
     cases hr:b.roundOf with
     | none=>
      have hrn:rnd=none:=by
       grind
      subst hrn;have hs1:Sp ρ (w.alloc (.deferred (some []))) w.heap.size:=Sp.fresh cY _;have dV:=cY.grow (.deferred (some []));have hsz1:(w.alloc (.deferred (some []))).heap.size =w.heap.size+1:=(by simp_all);have eC:CE P w0.heap.size ρ cs lps css (w.alloc (.deferred (some []))) ([w.heap.size]++ma) mb:=by
       have hr1:=gr w (.deferred (some [])) ma hs.rest;have hnin:w.heap.size ∉ ma++mb:=fun hin=>by have:=(hs.rest.marks _ hin).2.1.1;omega
       refine ⟨hr1.cs,by rw [AP];exact List.nodup_cons.2 ⟨hnin,hr1.nodup⟩,fun r hx=> ?_,hr1.loops,hr1.inj⟩;simp only [A5,AU,AZ] at hx;rcases hx with rfl | hx
       .exact ⟨he.size,hs1,by show (w.heap.push _)[w.heap.size]? =_;simp⟩
       .exact hr1.marks r hx
      refine ⟨w.heap.size+1,[w.heap.size],_,w.heap.size,run_enterLoop_outer _ _ _ _ _,?_,by have:=he.size;omega,?_,dV.grow _,(he.grow _).grow _,(fun e=>by cases e),gr _ _ _ eC,fun j L l' hL e=> ?_,?_⟩
      .grind [World.alloc_heap_new]
      .grind [Sp.fresh]
      .have:=far w hs.rest j L l' hL e;omega
      .show _<=((w.heap.push _).push _).size
       grind
     | some l0=>
      obtain ⟨j0,rfl⟩: ∃j0,rnd=some j0:=by
       grind
      obtain ⟨hma,l1,hlp1,e2⟩:=dK;rw [hr] at e2;obtain rfl:=Ab e2;subst hma;have hsome: ∃L0,B6 lps j0=some L0:=Bi.1 hrk;obtain ⟨L0,hL0⟩:=hsome;obtain ⟨l2,q1,q2,q3,tm,fn',d,q4,q5⟩:=hs.rest.loops j0 L0 hL0;rw [hlp1] at q1;obtain rfl:=Ab q1;refine ⟨w.heap.size,[],_,_,run_enterLoop_inner q4 _ _ _ _ _,World.alloc_heap_new _ _,he.size,Sp.fresh cY _,cY.grow _,he.grow _,(fun _=>rfl),gr _ _ _ hs.rest,fun j L l' hL e=> ?_,?_⟩
      .have:=far w hs.rest j L l' hL e;omega
      simp_all
    obtain ⟨l,mk,w1,d,hen,eW,hlow,hsp,dV,hev1,hmk,eC,hne,hsz⟩:=lay;have hle:ρ.le (lpAdd ρ next l):=LG dV.lp_none;have hlpj:(lpAdd ρ next l).lp next=some l:=Aw rfl
    have get: ∀i L,B6 (DE lps next (some L)) i=if i=next then some L else B6 lps i:=fun i L=>T.get_set none lps next (some L) i
    have hlps: ∀j L l',B6 lps j=some L->(lpAdd ρ next l).lp j=some l'->j≠next->ρ.lp j=some l':=fun j L l' _ e hj=>by
     have e:(if j=next then some l else ρ.lp j)=some l':=e
     grind
    have hrest2:CE P w0.heap.size (lpAdd ρ next l) cs (DE lps next (some ⟨.ready,none,cx.n,env,params.toList,assign,body⟩)) css w1 (mk++ma) mb:=by
     refine ⟨eC.cs.mono hle,eC.nodup,eC.marks,fun j L hL=> ?_,fun j j' L L' l' hL hL' e e'=> ?_⟩
     .rw [get] at hL;by_cases hj:j=next
      .subst hj;rw [Aw rfl] at hL;obtain rfl:=Ab hL;exact ⟨l,hlpj,hlow,hsp,a.tmps,b.fn,d,by simp_all,dC.mono hle⟩
      .rw [At hj] at hL;obtain ⟨l2,q1,q2,q3,tm,fn',d',q4,q5⟩:=eC.loops j L hL;exact ⟨l2,hle.2.2 _ _ q1,q2,q3,tm,fn',d',q4,q5.mono hle⟩
     .rw [get] at hL hL';by_cases hj:j=next <;> by_cases hj':j'=next
      .rw [hj,hj']
      .grind
      .grind
      .rw [At hj] at hL;rw [At hj'] at hL';exact eC.inj j j' L L' l' hL hL' (hlps _ _ _ hL e hj) (hlps _ _ _ hL' e' hj')
    have hf:=(show Yt ρ (St.env ⟨env,mem,next,orc,ob⟩) cx.n a.tmps from dC).eval f;rw [hg] at hf;generalize hw':a.eval f=u at hf;cases hf with
    | fn _ _ cvs hl hh=>
     have dB:Xq (Zp (lpAdd ρ next l)) (BA.yld next::caps) (#[Value.func (.yield l) #[] #[]]++cvs).toList :=by rw [Array.toList_append];exact .cons (.yld _ _ hlpj) (Xq.of (by simp_all) fun i h1 h2=>by simpa using (hh i h1 (by grind)).mono hle)
     have dZ:=Vo hN hfn (by rw [hb];rfl) (#[Value.func (.yield l) #[] #[]]++cvs) w1;have dW:=stepR_rangeFunc (P:=P) (b:=b) (a:=a) (k:=k') (cs:=css++cs0) (g:=f) (d:=⟨.fn (.func g) cvs, #[Value.func (.yield l) #[] #[]]⟩) (w₁':=w1) hen
      (by simp_all [resolve,Deferred.ofValue,Act.eval]) (by simp only [invoke];exact dZ)
     have hfr:DA (lpAdd ρ next l) cx none (.inRangeFunc next::k0) rnd env b {a with defers:=mk.map F5++a.defers} (.inRangeFunc l::k') (mk++ma):=
      ⟨dC.mono hle,by grind,.cons (.inR _ _ hlpj) (htl.mono fun _ _=>C5.mono hle),trivial,by
       cases rnd with
       | none=>exact dK
       | some j=>
        obtain ⟨h0,l',h1,h2⟩:=dK;exact ⟨by grind,l',hle.2.2 _ _ h1,h2⟩⟩
     obtain ⟨_,_,_,_,_,b',a',k2,hent,hsr⟩:=Na h hfr hs.lv hrest2 (show BE _ mem (next+1) w1 from dV.lpAdd l) dB;refine ⟨lpAdd ρ next l,b',a',k2,_,w1,_,_,.one ?_,hsr,?_,by cases css <;> rfl,hsz⟩
     .rw [show C'.ro=none by rw [hCe],<-hent];exact dW
     .rw [hCe];exact hev1.lpAdd dV l
   .cases h
  ·-- a round begins
   rename_i k0;split at h
   .rename_i j;split at h
    .rename_i pend n env params assign body hlg;obtain rfl:=Ab h;refine ⟨⟨hfl.cx,hfl.cs,hfl.le⟩,Yw.refl _ _,fun ho m0 n0 ρ0 w0 ρ b a k css w ma mb hs he cs0=> ?_⟩;obtain ⟨dC,hdf,htd,hro,dK⟩:=hs.top;obtain ⟨rfl,lr0,hlp0,hrb⟩:=dK;obtain ⟨k',rfl,htl⟩:=Bx.item rfl htd;obtain ⟨lr,hla⟩:=hs.rest.loops j _ hlg;have hla':=hla;obtain ⟨hlp,hlow,hsp,ltmps,lfn,ld,eW,eH⟩:=hla;rw [hlp] at hlp0;obtain rfl:=Ab hlp0;have dA:=run_beginRound (P:=P) eW rfl;have dL:=hs.rest.record (w':=w.putObj lr (.loop ⟨.busy,pend,lfn,ltmps,params.toArray,assign,body,ld⟩)) hlg hla' (L':=⟨.busy,pend,n,env,params,assign,body⟩)
      ⟨hlp,hlow,hsp.turned (Xk.put _ _ _),ltmps,lfn,ld,World.putObj_heap_same hsp.1,eH⟩ (Xk.put _ _ _)
     refine ⟨ρ,b,a,k',css,_,[],mb,.one (stepR_beginRound hrb dA),⟨⟨dC,hdf,htl,trivial,⟨rfl,lr,hlp,hrb⟩⟩,hs.lv,dL,hs.rel.turned (fun r hr=>by grind) (Xk.put _ _ _)⟩,he.turned (m:=[lr]) (fun r hr=>by grind) (Xk.put _ _ _),rfl,Bs (Xk.put _ _ _).size.symm⟩
    .cases h
   .cases h
  ·-- a loop's end
   rename_i j k0;split at h
   .cases h
   .rename_i lst pend n env params assign body hnb hlg;obtain rfl:=Ab h;refine ⟨⟨hfl.cx,hfl.cs,hfl.le⟩,Yw.refl _ _,fun ho m0 n0 ρ0 w0 ρ b a k css w ma mb hs he cs0=> ?_⟩;obtain ⟨dC,hdf,htd,hro,dK⟩:=hs.top;obtain ⟨lr,hla⟩:=hs.rest.loops j _ hlg;have hla':=hla;obtain ⟨hlp,hlow,hsp,ltmps,lfn,ld,eW,eH⟩:=hla;cases htd with
    | @cons _ y _ k' hx htl=>
     cases hx with
     | same _ hp=>cases hp
     | endR _ l hl =>
      rw [hlp] at hl;obtain rfl:=Ab hl;have hb:lst≠ .busy :=fun e=>by grind
      have dA:=run_endLoop (P:=P) eW hb;have dL:=hs.rest.record (w':=w.putObj lr (.loop ⟨.exhausted,pend,lfn,ltmps,params.toArray,assign,body,ld⟩)) hlg hla' (L':=⟨.exhausted,pend,n,env,params,assign,body⟩)
       ⟨hlp,hlow,hsp.turned (Xk.put _ _ _),ltmps,lfn,ld,World.putObj_heap_same hsp.1,eH⟩ (Xk.put _ _ _)
      refine ⟨ρ,b,a,_,css,_,ma,mb,.one (stepR_endRangeFunc dA),⟨⟨dC,hdf,?_,trivial,dK⟩,hs.lv,dL,hs.rel.turned (fun r hr=>by grind) (Xk.put _ _ _)⟩,he.turned (m:=[lr]) (fun r hr=>by grind) (Xk.put _ _ _),rfl,Bs (Xk.put _ _ _).size.symm⟩;cases pend with
      | none=>exact htl
      | some c=>exact .cons (.same _ rfl) htl
   .cases h
  .cases h
theorem WK {S:BB} {Rc:BH} {n:Nat} {C:BJ}:Ck P S Rc (n+1) C=(bif Qd C then some C else match HZ P S Rc C with
  | some C'=>Ck P S Rc n C'
  | none=>none):=rfl
theorem OA {C:BJ} (h:Qd C=true):C.ro=none/\C.rnd=none/\C.cs=[]/\(C.todo=[]\/ ∃t,C.todo=.code .ret ::t):=by
 unfold Qd at h
 grind
theorem Cd.trans {fl:Nat} {A B C:BJ} (h:Cd P fl A B) (k:Cd P fl B C):Cd P fl A C:=by intro m0 n0 ρ0 w0 ρ b a t css w ma mb hs he cs0;obtain ⟨ρ1,b1,a1,t1,css1,w1,ma1,mb1,s1,r1,e1,q1,z1⟩:=h m0 n0 ρ0 w0 ρ b a t css w ma mb hs he cs0;obtain ⟨ρ2,b2,a2,t2,css2,w2,ma2,mb2,s2,r2,e2,q2,z2⟩:=k m0 n0 ρ0 w0 ρ1 b1 a1 t1 css1 w1 ma1 mb1 r1 e1 cs0;exact ⟨ρ2,b2,a2,t2,css2,w2,ma2,mb2,s1.trans s2,r2,e2,q2.trans q1,AI z1 z2⟩
theorem LO {S:BB} {Rc:BH} (hN:Qy P) (hmx:P.follows .mixedOrders =true) (hS:Zk P S) (hCI:C6 Rc) (hC:DW P Rc) {fl:Nat}: ∀(n:Nat) (C C':BJ),Fl fl C->Ck P S Rc n C=some C'->Qd C'=true/\Yw fl C.st C'.st/\(C'.st.ob=true->Cd P fl C C')
 | 0,C,st',_,h=>by cases h
 | n+1,C,C',hfl,h=>by
  rw [WK] at h;cases hf:Qd C with
  | true=>rw [hf] at h;obtain rfl:=Ab h;exact ⟨hf,Yw.refl _ _,fun _=>Cd.refl fl C⟩
  | false=>
   rw [hf,Aj] at h;split at h
   .rename_i C1 h1;have s1:=PP hN hmx hS hCI hC hfl h1;obtain ⟨f1,f4,f5⟩:=LO hN hmx hS hCI hC n C1 C' s1.fls h;exact ⟨f1,s1.inv.trans f4,fun ho=>(s1.leads (f4.ob ho)).trans (f5 ho)⟩
   .cases h
theorem Bx.refl_plain {ρ:BC}: ∀(k:List Item),k.all Vt=true->Bx ρ k k
 | [],_=>.nil
 | x::k,h=>by simp only [Bl,Ad] at h;exact .cons (.same x h.1) (Bx.refl_plain k h.2)
theorem No (base:Nat) (ρ:BC) (w:World):CE P base ρ [] .leaf [] w [] []:=
 ⟨.nil,List.nodup_nil,(fun r hr=>by cases hr),(fun j L hL=>by cases hL),(fun j j' L L' l hL=>by cases hL)⟩
theorem MM (hN:Qy P) (hmx:P.follows .mixedOrders =true) {S:BB} (hS:Zk P S) (n:Nat): ∀d,C6 (E4 P S n d)/\DW P (E4 P S n d)
 | 0=>⟨(fun cx todo st st' h=>by cases h),(fun cx todo st st' _ h=>by cases h)⟩
 | d+1=>by
  obtain ⟨hCI,hC⟩:=MM hN hmx hS n d;have key: ∀{cx todo st st'},E4 P S n (d+1) cx todo st=some st'->todo.all Vt=true/\Fl cx.floor ⟨cx,none,todo,none,[],st,[],.leaf⟩/\ ∃C',Ck P S (E4 P S n d) n ⟨cx,none,todo,none,[],st,[],.leaf⟩=some C'/\C'.cx.n=cx.n/\C'.st=st':=by
   intro cx todo st st' h;have h:(bif todo.all Vt&&Nat.ble cx.floor st.next then match Ck P S (E4 P S n d) n ⟨cx,none,todo,none,[],st,[],.leaf⟩ with
    | some C=>bif Nat.beq C.cx.n cx.n then some C.st else none
    | none=>none
    else none)=some st':=h
   obtain ⟨hp,h⟩:=Zj h;simp only [Ad] at hp;refine ⟨hp.1,⟨rfl,fun af haf=>(by cases haf),Ae hp.2⟩,?_⟩;split at h
   .rename_i C' hr;obtain ⟨hn,h⟩:=Zj h;simp_all
   .cases h
  refine ⟨fun cx todo st st' h=> ?_,fun cx todo st st' hcx h ho ρ a w b cs hd dC cY=> ?_⟩
  .obtain ⟨_,hfl,C',hr,_,rfl⟩:=key h;exact (LO hN hmx hS hCI hC n _ C' hfl hr).2.1
  .obtain ⟨hpl,hfl,C',hr,hn,rfl⟩:=key h;obtain ⟨f1,f2,f3⟩:=LO hN hmx hS hCI hC n _ C' hfl hr;obtain ⟨e1,e2,e3,e4⟩:=OA f1;obtain ⟨ρ',b',a',k',css',w',ma',mb',s1,r1,v1,q1,_⟩:=f3 ho st.mem st.next ρ w ρ {b with roundOf:=none} a todo [] w [] []
    ⟨⟨dC,hd,Bx.refl_plain todo hpl,trivial,rfl⟩,fun h=>absurd rfl h,No _ _ _,cY⟩ (Ev.refl _ _ _ _ _ cY.dom) cs
   have hcs:=r1.rest.cs;rw [e3] at hcs;cases hcs;obtain ⟨w2,s2,henv',dR,eI,_,_⟩:=L3 r1 e1 e2 e4 rfl v1 cs;refine ⟨ρ',{a' with defers:=[]},k',w2,?_,rfl,by grind,dR,eI⟩;have hb:b.at a todo=Frame.atR {b with roundOf:=none} a (Xv none todo):=rfl;have hb':Frame.atR b' {a' with defers:=[]} k'=b.at {a' with defers:=[]} k':=by
    have q:(b'.fn,b'.kind,b'.roundOf)=(b.fn,b.kind,none):=q1
    grind [Frame.atR,Frame.at]
   rw [hb,<-hb'];exact s1.trans s2
end
structure BY where
 keep:List Nat
 frz:List Nat
 slots:List (Option (List Nat))
 lslots:List (Option (List Nat)):=[]
def Cu (b:Nat):List Nat->Nat->Option Nat
 | [],_=>none
 | x::l,i=>bif Nat.beq x b then some i else Cu b l (i+1)
def hasN (b:Nat):List Nat->Bool
 | []=>false
 | x::l=>bif Nat.beq x b then true else hasN b l
def K2 (cells:List BA) (off sz:Nat):Nat->List BA:=fun k=>(cells.drop (off+k*sz)).take sz
def EA (P:Program) (blk:BD):BA->BA
 | .ptr _ o=>.dptr (blk.cells.drop o)
 | .sl _ off len _=>match P.info? blk.ty with
  | some i=>bif Nat.ble (off+len*i.size) blk.cells.length then .dat len (K2 blk.cells off i.size) else .undef
  | none=>.undef
 | .sla _ sz off len _=>match blk.arr with
  | some A=>bif Nat.beq A.sz sz&&Nat.ble (off+len) A.n then .dat len (fun k=>A.get (off+k)) else .undef
  | none=>.undef
 | _=>.undef
def Cm (P:Program) (mem:BG) (N:BY) (b:Nat) (v:BA) (f:Nat->BA):BA:=
 match Cu b N.keep 0 with
 | some b'=>f b'
 | none=>bif hasN b N.frz then match Zf mem b with
   | some blk=>EA P blk v
   | none=>.undef
  else .undef
def BT (P:Program) (mem:BG) (N:BY):Nat->BA->BA
 | 0,_=>.undef
 | d+1,v=>match v with
  | .ptr b o=>Cm P mem N b (.ptr b o) fun b'=>.ptr b' o
  | .sl b off len cap=>Cm P mem N b (.sl b off len cap) fun b'=>.sl b' off len cap
  | .sla b sz off len cap=>Cm P mem N b (.sla b sz off len cap) fun b'=>.sla b' sz off len cap
  | .epa b sz i fo=>Cm P mem N b (.epa b sz i fo) fun b'=>.epa b' sz i fo
  | .yld j=>match Cu j N.keep 0 with
   | some j'=>.yld j'
   | none=>.undef
  | .slv b sz off len=>match Cu b N.keep 0 with
   | some b'=>.slv b' sz off len
   | none=>.undef
  | .mapr b=>match Cu b N.keep 0 with
   | some b'=>.mapr b'
   | none=>.undef
  | .agg cs=>.agg (cs.map (BT P mem N d))
  | .tup cs=>.tup (cs.map (BT P mem N d))
  | .fn f cs=>.fn f (cs.map (BT P mem N d))
  | .fnb f cs=>.fnb f (cs.map (BT P mem N d))
  | .ifc t v=>.ifc t (BT P mem N d v)
  | v=>v
def T.map (f:BA->BA) (t:T BA):T BA:=
 T.rec (motive:=fun _=>T BA) .leaf (fun v _ _ l r=>.node (f v) l r) t
def FE (f:BA->BA) (env:T BA):List Nat->T BA
 | []=>.leaf
 | t::l=>T.set .undef (FE f env l) t (f (T.get .undef env t))
def E1 (f:BA->BA) (env:T BA):Option (List Nat)->T BA
 | none=>T.map f env
 | some l=>FE f env l
def C3 (f:BA->BA):BX->BX
 | .flat g=>.flat g
 | .one r cs b=>.one r (cs.map f) (C3 f b)
 | .alt c a b=>.alt c (C3 f a) (C3 f b)
def HM (P:Program) (mem:BG) (N:BY):BD->BD
 | ⟨cells,ty,none⟩=>⟨cells.map (BT P mem N 6),ty,none⟩
 | ⟨_,ty,some A⟩=>⟨rows A.n (C3 (BT P mem N 6) A.rw).get,ty,some ⟨A.sz,A.n,C3 (BT P mem N 6) A.rw⟩⟩
def HJ :BX->Bool
 | .flat g=>pd (∀i,(g i).all (pf 6)=true)
 | .one _ _ b=>HJ b
 | .alt _ a b=>HJ a&&HJ b
def K4 (blk:BD):Bool:=match blk.arr with
 | none=>true
 | some A=>HJ A.rw
def CZ (P:Program) (mem:BG) (N:BY):List Nat->Nat->BG×Bool
 | [],_=>(.leaf,true)
 | b::l,i=>match CZ P mem N l (i+1) with
  | (m,o)=>match Zf mem b with
   | none=>(m,o)
   | some blk=>(Ym m i (some (HM P mem N blk)),K4 blk&&o)
def CX (mem:BG):List Nat->Bool
 | []=>true
 | b::l=>match Zf mem b with
  | none=>CX mem l
  | some blk=>(match blk.arr with
   | none=>blk.cells.all (pf 6)
   | some A=>pd (∀i,(A.get i).all (pf 6)=true))&&CX mem l
def FU (f:BA->BA) (lps:BL):List Nat->Nat->List (Option (List Nat))->BL
 | [],_,_=>.leaf
 | b::l,i,sl=>match B6 lps b with
  | none=>FU f lps l (i+1) sl.tail
  | some ⟨st,pend,n,env,params,assign,body⟩=>DE (FU f lps l (i+1) sl.tail) i (some ⟨st,pend,n,E1 f env (sl.headD none),params,assign,body⟩)
def HS (keep:List Nat):Item->Option Item
 | .inRangeFunc j=>(Cu j keep 0).map .inRangeFunc
 | .endRangeFunc j=>(Cu j keep 0).map .endRangeFunc
 | x=>bif Vt x then some x else none
def Qv (keep:List Nat):List Item->Option (List Item)
 | []=>some []
 | x::l=>match HS keep x,Qv keep l with
  | some y,some m=>some (y::m)
  | _,_=>none
def Hs (keep:List Nat):Option Nat->Option (Option Nat)
 | none=>some none
 | some j=>(Cu j keep 0).map some
def HY (f:BA->BA) (keep:List Nat):List BS->List (Option (List Nat))->Option (List BS)
 | [],_=>some []
 | ⟨cx,ro,todo,rnd,rs,env⟩::cs,sl=>match Qv keep todo,Hs keep rnd,HY f keep cs sl.tail with
  | some todo',some rnd',some cs'=>some (⟨cx,ro,todo',rnd',rs,E1 f env (sl.headD none)⟩::cs')
  | _,_,_=>none
def DS :List Nat->List Nat->Bool
 | [],_=>true
 | b::l,frz=> !hasN b frz&&(!hasN b l&&DS l frz)
def Hy (P:Program) (N:BY):BJ->Option BJ
 | ⟨cx,ro,todo,rnd,rs,⟨env,mem,next,orc,ob⟩,cs,lps⟩=>
  match Qv N.keep todo,Hs N.keep rnd,HY (BT P mem N 6) N.keep cs N.slots.tail with
  | some todo',some rnd',some cs'=>
   bif DS N.keep N.frz then
    match CZ P mem N N.keep 0 with
    | (mem',o)=>some ⟨cx,ro,todo',rnd',rs,⟨E1 (BT P mem N 6) env (N.slots.headD none),mem',N.keep.length,[],o&&(CX mem N.frz&&ob)⟩,cs',FU (BT P mem N 6) lps N.keep 0 N.lslots⟩
   else none
  | _,_,_=>none
def DV :Code->List Nat->List Item->Code×List Item
 | c,[],k=>(c,k)
 | .seq a b,0::p,k=>DV a p (.code b::k)
 | .seq _ b,_::p,k=>DV b p k
 | .block id c,_::p,k=>DV c p (.inBlock id::k)
 | .loop c,_::p,k=>DV c p (.inLoop c::k)
 | .scope c,_::p,k=>DV c p (.inScope c::k)
 | .cond _ a _,0::p,k=>DV a p k
 | .cond _ _ b,_::p,k=>DV b p k
 | .rangeFunc _ _ a b,0::p,_=>DV a p [.beginRound,.code b]
 | .rangeFunc _ _ _ b,_::p,_=>DV b p []
 | c,_::_,k=>(c,k)
def Yb (P:Program) (f:FuncId) (p:List Nat) (j:Nat):List Item:=match DV (PT P f) p [] with
 | (c,k)=>(.code c::k).drop j
def De (P:Program) (f:FuncId) (p:List Nat):Code:=(DV (PT P f) p []).1
def Jm (P:Program) (f:FuncId) (p:List Nat) (i:Nat):Option BQ:=match De P f p with
 | .region _ ops _=>some (ops,i,ops.toList.drop i)
 | _=>none
def Hw (P:Program) (S:BB) (Rc:BH) (n:Nat):BJ->Option BJ:=
 Nat.rec (motive:=fun _=>BJ->Option BJ) (fun C=>some C) (fun _ R C=>match HZ P S Rc C with
  | some C'=>R C'
  | none=>none) n
section
variable {P:Program}
theorem Wq {p:Prop} (h:pd p=true):p:= @AB p (Classical.propDecidable p) h
theorem pd_true {p:Prop} (h:p):pd p=true:= @Ah p (Classical.propDecidable p) h
theorem Nb {b:Nat}: ∀{l:List Nat} {i j:Nat},Cu b l i=some j->i<=j/\l[j - i]? =some b
 | [],i,j,h=>by cases h
 | x::l,i,j,h=>by
  unfold Cu at h;rcases Xd h with ⟨hx,h⟩ | ⟨_,h⟩
  .simp_all
  .obtain ⟨h1,h2⟩:=Nb h
   grind
theorem J1 {b:Nat}: ∀{l:List Nat},hasN b l=true↔b∈l
 | []=>by simp [hasN]
 | x::l=>by
  unfold hasN;cases hx:Nat.beq x b with
  | true=>simp [Af hx]
  | false=>
   have:x≠b:=fun e=>by rw [e,Nat.beq_refl] at hx;cases hx
   rw [Aj,J1,AZ];exact ⟨.inr,fun h=>h.resolve_left fun e=>this e.symm⟩
theorem L2 : ∀{l frz:List Nat},DS l frz=true->l.Nodup/\ ∀b∈l,b ∉ frz
 | [],_,_=>⟨List.nodup_nil,fun b hb=>by cases hb⟩
 | x::l,frz,h=>by
  unfold DS at h;simp only [Ad,AN] at h;obtain ⟨h1,h2,h3⟩:=h;obtain ⟨i1,i2⟩:=L2 h3;have n1:x ∉ frz:=fun hm=>by rw [J1.2 hm] at h1;cases h1
  have n2:x ∉ l:=fun hm=>by rw [J1.2 hm] at h2;cases h2
  exact ⟨List.nodup_cons.2 ⟨n2,i1⟩,fun b hb=>by
   rcases AZ.1 hb with rfl | hb
   .exact n1
   .exact i2 b hb⟩
def Fz (ρ:BC) (mem:BG) (N:BY) (k:Nat):Prop:= ∃b l,b∈N.frz/\ρ b=some l/\(Zf mem b).isSome =true/\l.blk=k
def B9 (ρ:BC) (mem:BG) (N:BY) (w:World):BC:=
 ⟨fun b'=>(N.keep[b']?).bind fun b=>ρ b,fun k=> @ite _ (Fz ρ mem N k) (Classical.propDecidable _) (w.heap[k]?) (ρ.fz k),fun j'=>(N.keep[j']?).bind fun j=>ρ.lp j⟩
theorem Jz {ρ:BC} {mem:BG} {next:Nat} {w:World} (h:BE ρ mem next w) (N:BY) {k:Nat} {o:Obj} (e:ρ.fz k=some o):(B9 ρ mem N w).fz k=some o:=by
 show @ite _ (Fz ρ mem N k) (Classical.propDecidable _) (w.heap[k]?) (ρ.fz k)=some o;by_cases hf:Fz ρ mem N k
 .obtain ⟨b,l,_,hb,hm,rfl⟩:=hf;have:=h.sep b l hb hm
  grind
 grind
theorem Ss {ρ:BC} {mem:BG} {w:World} {N:BY} {b:Nat} {l:BR} (hb:b∈N.frz) (hl:ρ b=some l) (hm:(Zf mem b).isSome =true):(B9 ρ mem N w).fz l.blk=w.heap[l.blk]? :=
 Aw ⟨b,l,hb,hl,hm,rfl⟩
theorem Kb {ρ:BC} {mem:BG} {next:Nat} {w:World} (h:BE ρ mem next w) (N:BY):ρ.bare.le (B9 ρ mem N w).bare :=⟨fun _ _ e=>(by cases e),fun _ _ e=>Jz h N e,fun _ _ e=>(by cases e)⟩
theorem Wk {ρ:BC} {mem:BG} {w:World} {N:BY} {b b':Nat} (h:Cu b N.keep 0=some b'):(B9 ρ mem N w) b'=ρ b/\(B9 ρ mem N w).lp b'=ρ.lp b:=by
 obtain ⟨_,h2⟩:=Nb h;rw [Nat.sub_zero] at h2;constructor
 .show (N.keep[b']?).bind _=_;rw [h2];rfl
 .show (N.keep[b']?).bind _=_;rw [h2];rfl
theorem Qp {mem:BG}: ∀{frz:List Nat},CX mem frz=true-> ∀b∈frz,∀blk,Zf mem b=some blk->(match blk.arr with | none=>blk.cells.all (pf 6)=true | some A=> ∀i,(A.get i).all (pf 6)=true)
 | [],_,b,hb,_,_=>by cases hb
 | x::l,h,b,hb,blk,hm=>by
  unfold CX at h;rcases AZ.1 hb with rfl | hb
  .rw [hm] at h;simp only [Ad] at h;cases hA:blk.arr with
   | none=>have:=h.1;rw [hA] at this;exact this
   | some A=>have:=h.1;rw [hA] at this;exact Wq this
  .cases hx:Zf mem x with
   | none=>rw [hx] at h;exact Qp h b hb blk hm
   | some blk'=>rw [hx] at h;simp only [Ad] at h;exact Qp h.2 b hb blk hm
theorem L6 {mem:BG} {next:Nat} {w:World} {ρ:BC} (h:BE ρ mem next w) {N:BY} (ho:CX mem N.frz=true) {b:Nat} (hb:b∈N.frz) {blk:BD} (hm:Zf mem b=some blk) {l:BR} (hl:ρ b=some l):
  ∃val:Nat->Value,∀(i:Nat) (hi:i<blk.cells.length),Zp (B9 ρ mem N w).bare blk.cells[i] (val i)/\Db (B9 ρ mem N w).fz l.blk (l.base+i) (val i):=by
 have hno:blk.isObj=false:=by
  cases hx:blk.isObj with
  | false=>rfl
  | true=>
   have hq:=Qp ho b hb blk hm;obtain ⟨cells,ty,arr⟩:=blk;unfold BD.isObj at hx;split at hx
   .rename_i e;simp only [BD.mk.injEq] at e;obtain ⟨rfl,_,rfl⟩:=e;simp [pf] at hq
   .cases hx
 obtain ⟨_,hn,ht,har,cs,el,h1,h2,h3⟩:=(h.blk b l blk hl hm).at hno;refine ⟨fun i=>(cs[l.base+i]?).getD undef,fun i hi=> ?_⟩;obtain ⟨v,e1,e2⟩:=h3 i hi;have hpf:pf 6 blk.cells[i]=true:=by
  have:=Qp ho b hb blk hm;cases hA:blk.arr with
  | none=>grind
  | some A=>
   rw [hA] at this;obtain ⟨q1,_,_⟩:=har A hA;have hmem:blk.cells[i]∈rows A.n A.get:=by grind
   grind [rows]
 dsimp only;rw [e1];refine ⟨(Xs 6 _ _ hpf e2).mono (Kb h N),cs,el,(0,0),?_,e1⟩
 grind [Ss]
theorem RY {mem:BG} {next:Nat} {w:World} {ρ:BC} (h:BE ρ mem next w) {N:BY} (ho:CX mem N.frz=true) {b:Nat} (hb:b∈N.frz) {blk:BD} (hm:Zf mem b=some blk) {v:BA} {u:Value} (hv:Zp ρ v u)
  (hvb:(∃o,v=.ptr b o)\/(∃off len cap,v=.sl b off len cap)\/(∃sz off len cap,v=.sla b sz off len cap)\/ ∃sz i fo,v=.epa b sz i fo):Zp (B9 ρ mem N w) (EA P blk v) u:=by
 rcases hvb with ⟨o,rfl⟩ | ⟨off,len,cap,rfl⟩ | ⟨sz,off,len,cap,rfl⟩ | ⟨sz,i,fo,rfl⟩
 .cases hv with
  | ptr _ _ l hl=>
   obtain ⟨val,dM⟩:=L6 h ho hb hm hl;refine .dptr _ _ _ (fun j=>val (o+j)) (fun j hj=> ?_) (fun j hj=> ?_);all_goals grind
 .simp only [EA];split
  .rename_i i hi;cases hc:Nat.ble (off+len*i.size) blk.cells.length with
   | false=>exact .undef _
   | true=>
    rw [Ao];have hle:=Ae hc;cases hv with
    | sl _ _ _ _ l c hl _ cZ=>
     obtain ⟨val,dM⟩:=L6 h ho hb hm hl;have hin: ∀k,k<len->k*i.size+i.size<=len*i.size:=fun k hk=>by
      have:=Au i.size (show k+1<=len from hk)
      grind
     refine .dat len _ l.blk (l.base+off) i.size c (fun k j=>val (off+(k*i.size+j))) cZ (fun k hk=> ?_) (fun k j hk hj=> ?_) (fun k j hk hj=> ?_);all_goals grind [K2]
  .exact .undef _
 .simp only [EA];split
  .rename_i A hA;cases hc:(Nat.beq A.sz sz&&Nat.ble (off+len) A.n) with
   | false=>exact .undef _
   | true=>
    rw [Ao];simp only [Ad] at hc;obtain rfl:=Af hc.1;have hle:=Ae hc.2;cases hv with
    | slan=>exact .datn _
    | sla _ _ _ _ _ l c hl _ cZ=>
     obtain ⟨val,dM⟩:=L6 h ho hb hm hl;obtain ⟨q1,q2,q3⟩:=(h.blk b l blk hl hm).arr A hA;have eO:=Zc A.n q3;have eX: ∀k j,k<len->j<A.sz-> ∃hi:(off+k)*A.sz+j<blk.cells.length,blk.cells[(off+k)*A.sz+j]? =(A.get (off+k))[j]? :=fun k j hk hj=>by
      grind [Xm]
     refine .dat len _ l.blk (l.base+off*A.sz) A.sz c (fun k j=>val ((off+k)*A.sz+j)) cZ (fun k hk=>q3 _ (by omega)) (fun k j hk hj=> ?_) (fun k j hk hj=> ?_);all_goals grind
  .exact .undef _
 .exact .undef _
theorem Jw {mem:BG} {next:Nat} {w:World} {ρ:BC} (h:BE ρ mem next w) {N:BY} (ho:CX mem N.frz=true) {b:Nat} {v:BA} {u:Value} {f:Nat->BA} (hv:Zp ρ v u)
  (hvb:(∃o,v=.ptr b o)\/(∃off len cap,v=.sl b off len cap)\/(∃sz off len cap,v=.sla b sz off len cap)\/ ∃sz i fo,v=.epa b sz i fo)
  (hf: ∀b',Cu b N.keep 0=some b'->Zp (B9 ρ mem N w) (f b') u):Zp (B9 ρ mem N w) (Cm P mem N b v f) u:=by
 unfold Cm;split
 .grind
 .cases hc:hasN b N.frz with
  | false=>exact .undef _
  | true=>
   rw [Ao];split
   .grind [RY,J1]
   .exact .undef _
theorem Jx {mem:BG} {next:Nat} {w:World} {ρ:BC} (h:BE ρ mem next w) {N:BY} (ho:CX mem N.frz=true): ∀(d:Nat) (v:BA) (u:Value),Zp ρ v u->Zp (B9 ρ mem N w) (BT P mem N d v) u
 | 0,_,_,_=>.undef _
 | d+1,v,u,hv=>by
  have ih:=fun v u=>Jx h ho (N:=N) d v u;have list: ∀{cs:List BA} {vs:Array Value},cs.length=vs.size->(∀(i:Nat) (h1:i<cs.length) (h2:i<vs.size),Zp ρ cs[i] vs[i])->
    (cs.map (BT P mem N d)).length =vs.size/\ ∀(i:Nat) (h1:i<(cs.map (BT P mem N d)).length) (h2:i<vs.size),Zp (B9 ρ mem N w) (cs.map (BT P mem N d))[i] vs[i]:=fun hl hh=>
   ⟨by simpa using hl,fun i h1 h2=>by simpa using ih _ _ (hh i (by simpa using h1) h2)⟩
  unfold BT;cases hv with
  | undef=>exact .undef _
  | bool b=>exact .bool b
  | int k n=>exact .int k n
  | str s=>exact .str s
  | agg cs vs hl hh=>exact .agg _ _ (list hl hh).1 (list hl hh).2
  | tup cs vs hl hh=>exact .tup _ _ (list hl hh).1 (list hl hh).2
  | fn f cs vs hl hh=>exact .fn f _ _ (list hl hh).1 (list hl hh).2
  | fnb f cs vs hl hh=>exact .fnb f _ _ (list hl hh).1 (list hl hh).2
  | ptr b o l hl=>exact Jw h ho (.ptr b o l hl) (.inl ⟨o,rfl⟩) fun b' hb'=>.ptr b' o l (by rw [(Wk hb').1];exact hl)
  | nilp=>exact .nilp
  | sl b off len cap l c hl hc cZ=>exact Jw h ho (.sl b off len cap l c hl hc cZ) (.inr (.inl ⟨off,len,cap,rfl⟩)) fun b' hb'=>.sl b' off len cap l c (by rw [(Wk hb').1];exact hl) hc cZ
  | nils=>exact .nils
  | sla b sz off len cap l c hl hc cZ=>exact Jw h ho (.sla b sz off len cap l c hl hc cZ) (.inr (.inr (.inl ⟨sz,off,len,cap,rfl⟩))) fun b' hb'=>.sla b' sz off len cap l c (by rw [(Wk hb').1];exact hl) hc cZ
  | slan b sz off cap=>exact Jw h ho (.slan b sz off cap) (.inr (.inr (.inl ⟨sz,off,0,cap,rfl⟩))) fun b' hb'=>.slan b' sz off cap
  | epa b sz i fo l hl=>exact Jw h ho (.epa b sz i fo l hl) (.inr (.inr (.inr ⟨sz,i,fo,rfl⟩))) fun b' hb'=>.epa b' sz i fo l (by rw [(Wk hb').1];exact hl)
  | nilf=>exact .nilf
  | yld j l hl=>
   simp only;split
   .rename_i j' hj';exact .yld j' l (by rw [(Wk hj').2];exact hl)
   .exact .undef _
  | slv b sz off len l c hl cZ=>
   simp only;split
   .rename_i j' hj';exact .slv j' sz off len l c (by rw [(Wk hj').1];exact hl) cZ
   .exact .undef _
  | slve b sz off blk base c=>
   simp only;split
   .exact .slve _ sz off blk base c
   .exact .undef _
  | slvn b sz off=>
   simp only;split
   .exact .slvn _ sz off
   .exact .undef _
  | ifc t a v hv=>exact .ifc t _ _ (ih _ _ hv)
  | nili=>exact .nili
  | mapr b l hl=>
   simp only;split
   .rename_i j' hj';exact .mapr j' l (by rw [(Wk hj').1];exact hl)
   .exact .undef _
  | ifbt=>exact .ifbt
  | ifbf t v=>exact .ifbf t v
  | dat len get blk base sz cap val dF hsz hv hh=>refine .dat len get blk base sz cap val dF hsz (fun i j hi hj=>(hv i j hi hj).mono (Kb h N)) (fun i j hi hj=> ?_);obtain ⟨cs,el,fz,e1,e2⟩:=hh i j hi hj;exact ⟨cs,el,fz,Jz h N e1,e2⟩
  | datn get=>exact .datn get
  | datz get a c=>exact .datz get a c
  | nnl len get a c hd=>exact .nnl len get a c ((Xs 1 _ _ rfl hd).mono (BC.le_trans (Kb h N) (H9 _)))
  | dptr cs blk base val hv hh=>refine .dptr cs blk base val (fun j hj=>(hv j hj).mono (Kb h N)) (fun j hj=> ?_);obtain ⟨cs',el,fz,e1,e2⟩:=hh j hj;exact ⟨cs',el,fz,Jz h N e1,e2⟩
theorem T.get_map {f:BA->BA} (hf:f .undef =.undef): ∀(t:T BA) (i:Nat),T.get .undef (T.map f t) i=f (T.get .undef t i)
 | .leaf,i=>hf.symm
 | .node v l r,0=>rfl
 | .node v l r,i+1=>by
  show T.get .undef (.node (f v) (T.map f l) (T.map f r)) (i+1)=_;rw [T.get_succ,T.get_succ];split
  .exact T.get_map hf l _
  .exact T.get_map hf r _
theorem Ll {f:BA->BA} (env:T BA): ∀(L:List Nat) (t:Nat),T.get .undef (FE f env L) t=if t∈L then f (T.get .undef env t) else .undef
 | [],t=>by simp [FE]
 | x::L,t=>by
  unfold FE;rw [T.get_set,Ll env L t];by_cases h:t=x
  .subst h;simp
  .simp [h]
theorem Ok {mem:BG} {next:Nat} {w:World} {ρ:BC} (h:BE ρ mem next w) {N:BY} (ho:CX mem N.frz=true) {env:T BA} {n:Nat} {tmps:Array Value} (he:Yt ρ env n tmps): ∀(L:Option (List Nat)),Yt (B9 ρ mem N w) (E1 (BT P mem N 6) env L) n tmps
 | none=>by
  refine ⟨he.size,fun i=> ?_,fun i hi=> ?_⟩
  .show Zp _ (T.get .undef (T.map (BT P mem N 6) env) i) _;rw [T.get_map rfl];exact Jx h ho 6 _ _ (he.get i)
  .show T.get .undef (T.map (BT P mem N 6) env) i=_;rw [T.get_map rfl,he.out i hi];rfl
 | some L=>by
  refine ⟨he.size,fun i=> ?_,fun i hi=> ?_⟩
  .show Zp _ (T.get .undef (FE (BT P mem N 6) env L) i) _;rw [Ll];split
   .exact Jx h ho 6 _ _ (he.get i)
   .exact .undef _
  .show T.get .undef (FE (BT P mem N 6) env L) i=_;rw [Ll,he.out i hi];split <;> rfl
theorem PC {mem:BG} {N:BY}: ∀(l:List Nat) (i j:Nat),Zf (CZ P mem N l i).1 j=if i<=j then (l[j - i]?).bind fun b=>(Zf mem b).map (HM P mem N) else none
 | [],i,j=>by simp [CZ,Zf]
 | b::l,i,j=>by
  unfold CZ;have ih:=PC (mem:=mem) (N:=N) l (i+1);have tail:i<j->(b::l)[j - i]? =l[j - (i+1)]? :=fun h=>by rw [show j - i=(j - (i+1))+1 by omega];rfl
  cases hm:Zf mem b with
  | none=>
   show Zf (CZ P mem N l (i+1)).1 j=_;rw [ih];rcases A2 i j with h | h | h
   .rw [Aw (by omega),Aw (by omega),tail h]
   .subst h;rw [At (by omega),Aw (by omega)];simp [hm]
   .rw [At (by omega),At (by omega)]
  | some blk=>
   show Zf (Ym (CZ P mem N l (i+1)).1 i (some (HM P mem N blk))) j=_;rw [Xu,ih];rcases A2 i j with h | h | h
   .rw [At (by omega),Aw (by omega),Aw (by omega),tail h]
   .subst h;rw [Aw rfl,Aw (by omega)];simp [hm]
   .rw [At (by omega),At (by omega),At (by omega)]
theorem Lm {mem:BG} {N:BY}: ∀(l:List Nat) (i:Nat),(CZ P mem N l i).2=true-> ∀b∈l,∀blk,Zf mem b=some blk->K4 blk=true
 | [],i,_,b,hb,_,_=>by cases hb
 | x::l,i,h,b,hb,blk,hm=>by
  unfold CZ at h;cases hx:Zf mem x with
  | none=>
   rw [hx] at h;rcases AZ.1 hb with rfl | hb
   .rw [hx] at hm;cases hm
   .exact Lm l (i+1) h b hb blk hm
  | some blk'=>
   rw [hx] at h;have h:(K4 blk'&&(CZ P mem N l (i+1)).2)=true:=h;simp only [Ad] at h;rcases AZ.1 hb with rfl | hb
   .rw [hx] at hm;obtain rfl:=Ab hm;exact h.1
   .exact Lm l (i+1) h.2 b hb blk hm
theorem Kh {f:BA->BA} {lps:BL}: ∀(l:List Nat) (i:Nat) (sl:List (Option (List Nat))) (j:Nat) (L:Bw),B6 (FU f lps l i sl) j=some L->i<=j/\ ∃b L0 x,l[j - i]? =some b/\B6 lps b=some L0/\L=⟨L0.st,L0.pend,L0.n,E1 f L0.env x,L0.params,L0.assign,L0.body⟩
 | [],i,sl,j,L,h=>by cases h
 | b::l,i,sl,j,L,h=>by
  unfold FU at h;split at h
  .obtain ⟨h1,b',L0,x,h2,h3,h4⟩:=Kh l (i+1) _ j L h
   grind
  .rename_i st pend n env params assign body hb;rw [show B6 (DE (FU f lps l (i+1) sl.tail) i (some ⟨st,pend,n,E1 f env (sl.headD none),params,assign,body⟩)) j=if j=i then some ⟨st,pend,n,E1 f env (sl.headD none),params,assign,body⟩ else B6 (FU f lps l (i+1) sl.tail) j from T.get_set none _ i _ j] at h;by_cases hj:j=i
   .subst hj;rw [Aw rfl] at h;obtain rfl:=Ab h;exact ⟨Ai _,b,_,_,by simp,hb,rfl⟩
   .rw [At hj] at h;obtain ⟨h1,b',L0,x,h2,h3,h4⟩:=Kh l (i+1) _ j L h
    grind
theorem Sr {mem:BG} {w:World} {ρ:BC} {N:BY} {x x' y:Item} (h:HS N.keep x=some x') (hx:C5 ρ x y):C5 (B9 ρ mem N w) x' y:=by
 cases hx with
 | inR j l e=>simp only [HS,Ag] at h;obtain ⟨j',hj,rfl⟩:=h;exact .inR j' l (by rw [(Wk hj).2];exact e)
 | endR j l e=>simp only [HS,Ag] at h;obtain ⟨j',hj,rfl⟩:=h;exact .endR j' l (by rw [(Wk hj).2];exact e)
 | same x hp=>
  have:HS N.keep x=some x:=by
   unfold HS;split
   .cases hp
   .cases hp
   grind
  rw [this] at h;obtain rfl:=Ab h;exact .same _ hp
theorem OS {mem:BG} {w:World} {ρ:BC} {N:BY}: ∀{l l' m:List Item},Qv N.keep l=some l'->Bx ρ l m->Bx (B9 ρ mem N w) l' m
 | [],l',m,h,ht=>by cases ht;obtain rfl:=Ab h;exact .nil
 | x::l,l',m,h,ht=>by
  cases ht with
  | cons hx ht=>
   unfold Qv at h;split at h
   .rename_i y k hy hk;obtain rfl:=Ab h;exact .cons (Sr hy hx) (OS hk ht)
   .cases h
theorem Ol {mem:BG} {next:Nat} {w:World} {ρ:BC} (h:BE ρ mem next w) {N:BY} (ho:CX mem N.frz=true) {cx:BK} {ro:Option BQ} {todo todo':List Item} {rnd rnd':Option Nat} {env:T BA} {b:Frame} {a:Act} {k:List Item} {ms:List Nat} (ht:Qv N.keep todo=some todo') (hr:Hs N.keep rnd=some rnd')
  (hf:DA ρ cx ro todo rnd env b a k ms) (L:Option (List Nat)):DA (B9 ρ mem N w) cx ro todo' rnd' (E1 (BT P mem N 6) env L) b a k ms/\(rnd'=none->rnd=none):=by
 refine ⟨⟨Ok h ho hf.env L,hf.defers,OS ht hf.todo,hf.ro,?_⟩,fun e=> ?_⟩
 .have hrn:=hf.rnd;cases rnd with
  | none=>obtain rfl:=Ab hr;exact hrn
  | some j=>simp only [Hs,Ag] at hr;obtain ⟨j',hj,rfl⟩:=hr;obtain ⟨h0,l,h1,h2⟩:=hrn;exact ⟨h0,l,by rw [(Wk hj).2];exact h1,h2⟩
 .cases rnd with
  | none=>rfl
  | some j=>simp_all [Hs]
theorem PL {mem:BG} {next:Nat} {w:World} {ρ:BC} (h:BE ρ mem next w) {N:BY} (ho:CX mem N.frz=true): ∀{cs cs':List BS} {sl:List (Option (List Nat))} {css:List Frame} {mss:List Nat},HY (BT P mem N 6) N.keep cs sl=some cs'->Cz P ρ cs css mss->Cz P (B9 ρ mem N w) cs' css mss/\(cs'≠ []->cs≠ [])
 | [],cs',sl,css,mss,hc,hr=>by cases hr;obtain rfl:=Ab hc;exact ⟨.nil,id⟩
 | af::cs,cs',sl,css,mss,hc,hr=>by
  cases hr with
  | cons hf hl ht=>
   unfold HY at hc;split at hc
   .rename_i todo' rnd' cs'' h1 h2 h3;obtain rfl:=Ab hc;obtain ⟨i1,i2⟩:=PL h ho h3 ht;obtain ⟨f1,f2⟩:=Ol (P:=P) h ho h1 h2 hf (sl.headD none);exact ⟨.cons f1 (fun hne=>⟨(hl (i2 hne)).1,fun e=>(hl (i2 hne)).2 (f2 e)⟩) i1,fun _=>by simp⟩
   .cases hc
def Ew (ρ ρ':BC) (L L':List BA):Prop:=L'.length=L.length/\ ∀(j:Nat) (h1:j<L.length) (h2:j<L'.length) (v:Value),Zp ρ L[j] v->Zp ρ' L'[j] v
theorem KI {mem:BG} {next:Nat} {w:World} {ρ:BC} (h:BE ρ mem next w) {N:BY} (ho:CX mem N.frz=true): ∀(rw1:BX),HJ rw1=true-> ∀k,Ew ρ (B9 ρ mem N w) (rw1.get k) ((C3 (BT P mem N 6) rw1).get k)
 | .flat g,hf,k=>by refine ⟨rfl,fun j h1 h2 v hv=> ?_⟩;have dY: ∀i,(g i).all (pf 6)=true:=Wq hf;exact ((Xs 6 _ _ (Av.1 (dY k) _ (AE h1)) hv).mono (Kb h N)).mono (H9 _)
 | .one r cs b,hf,k=>by
  have ih:=KI h ho (N:=N) b hf k;have hc:Ew ρ (B9 ρ mem N w) cs (cs.map (BT P mem N 6)):=⟨by simp,fun j h1 h2 v hv=>by simpa using Jx h ho 6 _ _ hv⟩
  simp only [C3,BX.get];cases Nat.beq k r with
  | true=>exact hc
  | false=>exact ih
 | .alt c a b,hf,k=>by
  simp only [HJ,Ad] at hf;have iha:=KI h ho (N:=N) a hf.1 k;have ihb:=KI h ho (N:=N) b hf.2 k;simp only [C3,BX.get];cases c k with
  | true=>exact iha
  | false=>exact ihb
theorem Ro {mem:BG} {next:Nat} {w:World} {ρ:BC} (h:BE ρ mem next w) {N:BY} (ho:CX mem N.frz=true) (hd:DS N.keep N.frz=true) (hfl:(CZ P mem N N.keep 0).2=true):BE (B9 ρ mem N w) (CZ P mem N N.keep 0).1 N.keep.length w:=by
 obtain ⟨hnd,hdj⟩:=L2 hd;have get: ∀j,Zf (CZ P mem N N.keep 0).1 j=(N.keep[j]?).bind fun b=>(Zf mem b).map (HM P mem N):=fun j=>by
  grind [PC]
 have blk: ∀{b' l},(B9 ρ mem N w) b'=some l-> ∃b,N.keep[b']? =some b/\ρ b=some l:=fun {b' l} e=>by
  have e:(N.keep[b']?).bind (fun b=>ρ b)=some l:=e
  grind
 have live: ∀{b' b},N.keep[b']? =some b->(Zf (CZ P mem N N.keep 0).1 b').isSome =true->(Zf mem b).isSome =true:=fun {b' b} e hs=>by
  grind
 refine ⟨fun b' l e=> ?_,fun b' b'' l l' e e' hbl hs hs'=> ?_,fun b' l ab e hm=> ?_,fun k o e=> ?_,fun b' l e hs=> ?_,fun b' l e=> ?_,fun b' hb=> ?_,fun j l e=> ?_,h.ldom.2.mono fun k o e=>Jz h N e⟩
 .grind
 .obtain ⟨b,e1,e2⟩:=blk e;obtain ⟨c,e3,e4⟩:=blk e';have:=h.inj b c l l' e2 e4 hbl (live e1 hs) (live e3 hs');subst this;exact (List.getElem?_inj (AJ.1 e1).1 hnd).1 (e1.trans e3.symm)
 .obtain ⟨b,e1,e2⟩:=blk e;rw [get,e1] at hm;simp only [Option.bind_some,Ag] at hm;obtain ⟨ab0,hm0,rfl⟩:=hm;cases h.blk b l ab0 e2 hm0 with
  | obj o r ty hab hn hh=>
   subst hab;refine .obj o (r.map (BT P mem N 6)) ty rfl (by rw [hn];simp) ?_;cases o with
   | mi ml=>obtain ⟨rfl,k⟩:=hh;exact ⟨rfl,k⟩
   | mb ml=>obtain ⟨rfl,k⟩:=hh;exact ⟨rfl,k⟩
   | it s pos=>obtain ⟨rfl,k⟩:=hh;exact ⟨rfl,k⟩
   | bld=>obtain ⟨buf,v,p,rfl,k1,k2,k3⟩:=hh;exact ⟨_,v,p,rfl,k1,Jx h ho 6 _ _ k2,k3⟩
  | plain hpl=>
  obtain ⟨hty,hn,ht,har,cs,el,g1,g2,g3⟩:=hpl;obtain ⟨cells,ty,arr⟩:=ab0;cases arr with
  | none=>
   refine .plain ⟨hty,by simpa [HM] using hn,ht,(fun A hA=>by cases hA),cs,el,g1,g2,fun i hi=> ?_⟩
   grind [HM,Jx]
  | some A=>
   obtain ⟨a1,a2,a3⟩:=har A rfl;simp only at a1;have hfb:K4 ⟨cells,ty,some A⟩=true:=Lm N.keep 0 hfl b (List.mem_of_getElem? e1) _ hm0;have eX:=KI (P:=P) h ho (N:=N) A.rw hfb;have hl': ∀i,i<A.n->((C3 (BT P mem N 6) A.rw).get i).length =A.sz:=fun i hi=>by rw [(eX i).1];exact a3 i hi
   have k1:=Zc A.n a3;have k2:=Zc A.n hl';refine .plain ⟨hty,by show l.n=(rows A.n _).length;grind,ht,(fun B hB=>by obtain rfl:=Ab hB;exact ⟨rfl,a2,hl'⟩),cs,el,g1,g2,fun i hi=> ?_⟩;have hi':i<A.n*A.sz:=by rw [<-k2];exact hi
   have hj:i %A.sz<A.sz:=Bd _ a2;have hq:i / A.sz<A.n:=AV (by grind);have e:i / A.sz*A.sz+i %A.sz=i:=by rw [Bc];exact A7 i A.sz
   have hic:i<cells.length:=by grind
   have r1:=Xm A.n a3 (i / A.sz) (i %A.sz) hq hj;have r2:=Xm A.n hl' (i / A.sz) (i %A.sz) hq hj;rw [e] at r1 r2;have hi2:i<(rows A.n (C3 (BT P mem N 6) A.rw).get).length :=hi;have j1:i %A.sz<(A.rw.get (i / A.sz)).length :=by rw [show A.rw.get=A.get from rfl,a3 _ hq];exact hj
   have j2:i %A.sz<((C3 (BT P mem N 6) A.rw).get (i / A.sz)).length :=by grind
   obtain ⟨v,q1,q2⟩:=g3 i hic;have s1:cells[i]=(A.rw.get (i / A.sz))[i %A.sz]:=by
    have:cells[i]? =some (A.rw.get (i / A.sz))[i %A.sz]:=by rw [a1,r1,show A.get=A.rw.get from rfl,Ak j1]
    grind
   have s2:(rows A.n (C3 (BT P mem N 6) A.rw).get)[i]'hi2=((C3 (BT P mem N 6) A.rw).get (i / A.sz))[i %A.sz]:=by
    grind
   refine ⟨v,q1,?_⟩;show Zp _ ((rows A.n (C3 (BT P mem N 6) A.rw).get)[i]'hi2) v;rw [s2];refine (eX _).2 _ j1 j2 v ?_
   grind
 .have e: @ite _ (Fz ρ mem N k) (Classical.propDecidable _) (w.heap[k]?) (ρ.fz k)=some o:=e;by_cases hf:Fz ρ mem N k
  .grind
  .rw [At hf] at e;exact h.old k o e
 .obtain ⟨b,e1,e2⟩:=blk e;have hs0:=live e1 hs;have hnf: ¬Fz ρ mem N l.blk:=fun ⟨c,l',c1,c2,c3,c4⟩=>by
   have:=h.inj c b l' l c2 e2 c4 c3 hs0
   grind
  show @ite _ (Fz ρ mem N l.blk) (Classical.propDecidable _) (w.heap[l.blk]?) (ρ.fz l.blk)=none;rw [At hnf];exact h.sep b l e2 hs0
 .obtain ⟨b,_,e2⟩:=blk e;exact h.real b l e2
 .grind
 .have e:(N.keep[j]?).bind (fun b=>ρ.lp b)=some l:=e;have:=h.ldom.1
  grind
theorem IK {H:CK} {mem:BG} {next:Nat} {w0 w:World} {ρ:BC} (h:BE ρ mem next w) {N:BY} (he:Ev (Un H) ρ 0 .leaf 0 mem next w0 w) (mem':BG) (next':Nat):Ev (Un H) (B9 ρ mem N w) 0 .leaf 0 mem' next' w0 w:=
 ⟨⟨fun b l e=>(by cases e),fun k o e=>Jz h N (he.ext.2.1 k o e),fun j l e=>(by cases e)⟩,fun b hb=>absurd hb (Ax _),AG _,fun b hb=>absurd hb (Ax _),he.frame,fun b l _ e=>by
   have e:(N.keep[b]?).bind (fun b=>ρ b)=some l:=e;rw [Bk] at e;obtain ⟨c,_,e2⟩:=e;exact he.fresh c l (AG _) e2,he.size,he.os,he.tape,he.output,fun k hk=>by
   have hnf: ¬Fz ρ mem N k:=fun ⟨b,l,_,e2,_,e4⟩=>by
    rcases he.fresh b l (AG _) e2 with h1 | ⟨b0,l0,e0,_⟩
    .omega
    .cases e0
   show @ite _ (Fz ρ mem N k) (Classical.propDecidable _) (w.heap[k]?) (ρ.fz k)=_;rw [At hnf];exact he.still k hk⟩
def Qg (P:Program) (C C':BJ):Prop:=
 ∀(H:CK) (w0:World) (ρ:BC) (b:Frame) (a:Act) (k:List Item) (css:List Frame) (w:World) (ma mb:List Nat),Fc P w0.heap.size C ρ b a k css w ma mb->Ev (Un H) ρ 0 .leaf 0 C.st.mem C.st.next w0 w-> ∀cs0:List Frame,
  ∃ρ' b' a' k' css' w' ma' mb',Steps P (lone (b.atR a (Xv C.ro k)) (css++cs0) w) (lone (b'.atR a' (Xv C'.ro k')) (css'++cs0) w')/\Fc P w0.heap.size C' ρ' b' a' k' css' w' ma' mb'/\Ev (Un H) ρ' 0 .leaf 0 C'.st.mem C'.st.next w0 w'/\FQ b' css'=FQ b css/\w.heap.size<=w'.heap.size
theorem Qg.refl (C:BJ):Qg P C C:=fun H w0 ρ b a k css w ma mb hs he cs0=>⟨ρ,b,a,k,css,w,ma,mb,Steps.refl _ _,hs,he,rfl,Ai _⟩
theorem Qg.trans {A B C:BJ} (h:Qg P A B) (k:Qg P B C):Qg P A C:=by intro H w0 ρ b a t css w ma mb hs he cs0;obtain ⟨ρ1,b1,a1,t1,css1,w1,ma1,mb1,s1,r1,e1,q1,z1⟩:=h H w0 ρ b a t css w ma mb hs he cs0;obtain ⟨ρ2,b2,a2,t2,css2,w2,ma2,mb2,s2,r2,e2,q2,z2⟩:=k H w0 ρ1 b1 a1 t1 css1 w1 ma1 mb1 r1 e1 cs0;exact ⟨ρ2,b2,a2,t2,css2,w2,ma2,mb2,s1.trans s2,r2,e2,q2.trans q1,AI z1 z2⟩
theorem Cd.goes {C C':BJ} (h:Cd P 0 C C'):Qg P C C':=fun H w0 ρ b a k css w ma mb hs he cs0=>h .leaf 0 (Un H) w0 ρ b a k css w ma mb hs he cs0
def H7 (C:BJ):Bool:=Nat.beq C.cx.floor 0&&C.cs.all fun af=>Nat.beq af.cx.floor 0
theorem O6 {C:BJ} (h:H7 C=true):Fl 0 C:=by unfold H7 at h;simp only [Ad] at h;exact ⟨Af h.1,fun af haf=>Af (Av.1 h.2 af haf),AG _⟩
theorem OM {f:BA->BA} {keep:List Nat} {fl:Nat}: ∀{cs cs':List BS} {sl:List (Option (List Nat))},HY f keep cs sl=some cs'->(∀af∈cs,af.cx.floor=fl)-> ∀af∈cs',af.cx.floor=fl
 | [],cs',sl,h,_,af,haf=>by obtain rfl:=Ab h;cases haf
 | a0::cs,cs',sl,h,hcs,af,haf=>by
  unfold HY at h;split at h
  .rename_i t1 r1 c1 g1 g2 g3;obtain rfl:=Ab h;rcases AZ.1 haf with rfl | haf
   .grind
   .exact OM g3 (fun x hx=>hcs x (AR _ hx)) af haf
  .cases h
theorem Nj {N:BY} {C C':BJ} (h:Hy P N C=some C') (ho:C'.st.ob=true):C.st.ob=true/\Qg P C C'/\(Fl 0 C->Fl 0 C'):=by
 obtain ⟨cx,ro,todo,rnd,rs,⟨env,mem,next,orc,ob⟩,cs,lps⟩:=C;simp only [Hy] at h;split at h
 .rename_i todo' rnd' cs' h1 h2 h3;obtain ⟨hd,h⟩:=Zj h;obtain rfl:=Ab h;simp only [Ad] at ho;obtain ⟨hkm,ho2,ho3⟩:=ho;refine ⟨ho3,fun H w0 ρ b a k css w ma mb hs he cs0=> ?_,fun hfl=>⟨hfl.cx,fun af haf=> ?_,AG _⟩⟩
  .have cY:=hs.rel;simp only at cY he;obtain ⟨f1,f2⟩:=Ol (P:=P) cY ho2 h1 h2 hs.top (N.slots.headD none);obtain ⟨c1,c2⟩:=PL (P:=P) cY ho2 h3 hs.rest.cs;refine ⟨B9 ρ mem N w,b,a,k,css,w,ma,mb,Steps.refl _ _,⟨f1,fun hne=>⟨(hs.lv (c2 hne)).1,fun e=>(hs.lv (c2 hne)).2 (f2 e)⟩,⟨c1,hs.rest.nodup,fun r hr=> ?_,fun j L hL=> ?_,fun j j' L L' l hL hL' e e'=> ?_⟩,?_⟩,IK cY he _ _,rfl,Ai _⟩
   .obtain ⟨q1,⟨q2,q3,q4⟩,q5⟩:=hs.rest.marks r hr;refine ⟨q1,⟨q2,?_,fun b' l e=> ?_⟩,q5⟩
    .show @ite _ (Fz ρ mem N r) (Classical.propDecidable _) (w.heap[r]?) (ρ.fz r)=none;rw [At fun ⟨c,l,_,e2,_,e4⟩=>q4 c l e2 e4];exact q3
    .have e:(N.keep[b']?).bind (fun b=>ρ b)=some l:=e
     grind
   .obtain ⟨_,c,L0,x,e1,e2,rfl⟩:=Kh N.keep 0 _ j L hL;rw [Nat.sub_zero] at e1;obtain ⟨l,q1,q2,⟨q3,q4,q5⟩,tm,fn',d,q6,q7⟩:=hs.rest.loops c L0 e2;refine ⟨l,?_,q2,⟨q3,?_,fun b' l' e=> ?_⟩,tm,fn',d,q6,Ok (P:=P) cY ho2 q7 x⟩
    .show (N.keep[j]?).bind (fun b=>ρ.lp b)=some l
     grind
    .show @ite _ (Fz ρ mem N l) (Classical.propDecidable _) (w.heap[l]?) (ρ.fz l)=none;rw [At fun ⟨c,l,_,e2,_,e4⟩=>q5 c l e2 e4];exact q4
    .have e:(N.keep[b']?).bind (fun b=>ρ b)=some l':=e
     grind
   .obtain ⟨_,c,L0,x,e1,e2,rfl⟩:=Kh N.keep 0 _ j L hL;obtain ⟨_,c',L0',x',e1',e2',rfl⟩:=Kh N.keep 0 _ j' L' hL';rw [Nat.sub_zero] at e1 e1';have e:(N.keep[j]?).bind (fun b=>ρ.lp b)=some l:=e;have e':(N.keep[j']?).bind (fun b=>ρ.lp b)=some l:=e';rw [e1] at e;rw [e1'] at e';have:=hs.rest.inj c c' L0 L0' l e2 e2' e e';subst this;exact (List.getElem?_inj (AJ.1 e1).1 (L2 hd).1).1 (e1.trans e1'.symm)
   .exact Ro cY ho2 hd hkm
  .exact OM h3 hfl.cs af haf
 .cases h
theorem L7 {S:BB} {Rc:BH} (hN:Qy P) (hmx:P.follows .mixedOrders =true) (hS:Zk P S) (hCI:C6 Rc) (hC:DW P Rc) {fl:Nat}: ∀(n:Nat) (C C':BJ),Fl fl C->Hw P S Rc n C=some C'->Fl fl C'/\Yw fl C.st C'.st/\(C'.st.ob=true->Cd P fl C C')
 | 0,C,C',hfl,h=>by
  obtain rfl:=Ab h
  grind [Yw.refl,Cd.refl]
 | n+1,C,C',hfl,h=>by
  have h:(match HZ P S Rc C with
   | some C'=>Hw P S Rc n C'
   | none=>none)=some C':=h
  split at h
  .rename_i C1 h1;have s1:=PP hN hmx hS hCI hC hfl h1;obtain ⟨f1,f4,f5⟩:=L7 hN hmx hS hCI hC n C1 C' s1.fls h;exact ⟨f1,s1.inv.trans f4,fun ho=>(s1.leads (f4.ob ho)).trans (f5 ho)⟩
  .cases h
theorem HU {S:BB} (hN:Qy P) (hmx:P.follows .mixedOrders =true) (hS:Zk P S) {n m d:Nat} {N:BY} {C C':BJ} (h:(Hw P S (E4 P S m d) n C).bind (Hy P N)=some C') (ho:C'.st.ob=true) (hfl:H7 C=true):Qg P C C'/\C.st.ob=true:=by rw [Bk] at h;obtain ⟨C1,h1,h2⟩:=h;obtain ⟨hCI,hC⟩:=MM hN hmx hS m d;obtain ⟨f1,f2,f3⟩:=L7 hN hmx hS hCI hC n C C1 (O6 hfl) h1;obtain ⟨g1,g2,_⟩:=Nj h2 ho;exact ⟨(f3 g1).goes.trans g2,f2.ob g1⟩
def Yx (P:Program) (f:FuncId) (args:List BA) (sym:Bool) (orc:List Bool):BJ:=
 match P.funcs[f]? with
 | some fn=>⟨⟨Nat.max fn.ntmps args.length,0,sym⟩,none,[.code (fn.body.getD .ret)],none,fn.results.toList,⟨Cf args 0 .leaf,.leaf,0,orc,true⟩,[],.leaf⟩
 | none=>⟨⟨0,0,sym⟩,none,[],none,[],⟨.leaf,.leaf,0,[],true⟩,[],.leaf⟩
theorem goes_call {f:FuncId} {args:List BA} {sym:Bool} {orc:List Bool} {C':BJ} {vs:List BA} {H:CK} (hf:(P.funcs[f]?).any (fun fn=>fn.body.isSome)=true) (h:Qg P (Yx P f args sym orc) C') (hfin:Qd C'=true) (hob:(Wg P C'.st (Yx P f args sym orc).rs)=some vs)
  {vals:Array Value} {w:World} (dB:Xq (Zp (Un H)) args vals.toList) (hH: ∀k o,H k=some o->w.heap[k]? =some o) (hG:Glob H):
  Calls P f vals w fun e w'=> ∃ρ u,e=.returned u/\QP H w ρ (Uz vs) u w':=by
 cases hfn:P.funcs[f]? with
 | none=>grind
 | some fn=>
  rw [hfn] at hf;have hf:fn.body.isSome=true:=hf;obtain ⟨body,hb⟩:=Bi.1 hf;have hstart:Yx P f args sym orc=⟨⟨Nat.max fn.ntmps args.length,0,sym⟩,none,[.code body],none,fn.results.toList,⟨Cf args 0 .leaf,.leaf,0,orc,true⟩,[],.leaf⟩:=by unfold Yx;grind
  rw [hstart] at h hob;simp only at hob;intro cs;obtain ⟨ρ',b',a',k',css',w',ma',mb',s1,r1,v1,q1,_⟩:=h H w (Un H) ⟨f, #[],[],[],.run,.normal,none⟩ {tmps:=vals++Array.replicate (fn.ntmps - vals.size) undef,defers:=[]} [.code body] [] w [] []
   ⟨⟨L5 dB fn.ntmps,rfl,.cons (.same _ rfl) .nil,trivial,rfl⟩,fun h=>absurd rfl h,No _ _ _,PK hH hG⟩ (Ev.refl _ _ _ _ _ (PK hH hG).dom) cs
  obtain ⟨e1,e2,e3,e4⟩:=OA hfin;have hcs:=r1.rest.cs;rw [e3] at hcs;cases hcs;obtain ⟨w2,s2,henv',dR,eI,_,_⟩:=L3 r1 e1 e2 e4 rfl v1 cs;obtain ⟨u,hu,hres⟩:=Jd (fn:=fn) henv' dR hob;have q:(b'.fn,b'.kind,b'.roundOf)=(f,CallKind.normal,none):=q1;simp only [Aa] at q;have hen:Frame.enter P f vals .normal =Frame.atR ⟨f, #[],[],[],.run,.normal,none⟩ {tmps:=vals++Array.replicate (fn.ntmps - vals.size) undef,defers:=[]} (Xv none [.code body]):=by
   grind [Frame.enter,Frame.atR,Xv]
  refine ⟨.returned u,w2,{b'.atR {a' with defers:=[]} k' with mode:=.returning},⟨ρ',u,rfl,GT hu dR eI⟩,?_,q.1,rfl,rfl,q.2.1,fn,by show P.funcs[b'.fn]? =_;grind,hres⟩;rw [hen];exact s1.trans s2
end
def BV :List BD->Nat->BG
 | [],_=>.leaf
 | b::l,i=>Ym (BV l (i+1)) i (some b)
def BJ.withO :BJ->List Bool->BJ
 | ⟨cx,ro,todo,rnd,rs,⟨env,mem,next,_,_⟩,cs,lps⟩,o=>⟨cx,ro,todo,rnd,rs,⟨env,mem,next,o,true⟩,cs,lps⟩
def BJ.withB :BJ->Bool->BJ
 | ⟨cx,ro,todo,rnd,rs,⟨env,mem,next,_,_⟩,cs,lps⟩,b=>⟨cx,ro,todo,rnd,rs,⟨env,mem,next,[],b⟩,cs,lps⟩
inductive Vu (σ:Type) where
 | stuck
 | ret (vs:List BA)
 | to (s:σ)
def B5 (P:Program) (rs:List ResultVar) (C:BJ) (vs:List BA):Prop:= ∃C',Qg P C C'/\Qd C'=true/\Wg P C'.st rs=some vs
def Uu (P:Program) (rs:List ResultVar) {σ:Type} (cfg:σ->BJ) (C:BJ):Vu σ->Prop
 | .stuck =>True
 | .ret vs=>B5 P rs C vs
 | .to s=>Qg P C (cfg s)
section
variable {P:Program} {rs:List ResultVar} {σ:Type} {cfg:σ->BJ} {C:BJ}
theorem Oc {c:Bool} {a b:Vu σ} (ha:c=true->Uu P rs cfg C a) (hb:c=false->Uu P rs cfg C b):Uu P rs cfg C (bif c then a else b):=by grind
theorem UM {c:Bool} {a:Vu σ} (ha:c=true->Uu P rs cfg C a):Uu P rs cfg C (bif c then a else .stuck):=Oc ha fun _=>trivial
theorem UN {vs:List BA} (C':BJ) (h:Qg P C C') (hf:Qd C'=true) (hr:Wg P C'.st rs=some vs):Uu P rs cfg C (.ret vs):=⟨C',h,hf,hr⟩
end
def Wx {σ:Type} (step:σ->Vu σ):Nat->Vu σ->Vu σ
 | 0,o=>o
 | n+1,.to s=>Wx step n (step s)
 | _+1,o=>o
theorem Yo {P:Program} {rs:List ResultVar} {σ:Type} {cfg:σ->BJ} {step:σ->Vu σ} (dW: ∀s,Uu P rs cfg (cfg s) (step s)) {C:BJ}: ∀(n:Nat) (o:Vu σ),Uu P rs cfg C o->Uu P rs cfg C (Wx step n o)
 | 0,o,h=>h
 | n+1,.stuck,h=>h
 | n+1,.ret vs,h=>h
 | n+1,.to s,h=>Yo dW n (step s) (match step s,dW s with
  | .stuck,_=>trivial
  | .ret vs,⟨C',g,hf,hr⟩=>⟨C',Qg.trans h g,hf,hr⟩
  | .to s',g=>Qg.trans h g)
theorem Yh {σ:Type} (step:σ->Vu σ) (n:Nat) (vs:List BA):Wx step n (.ret vs)=.ret vs:=by cases n <;> rfl
theorem Zs {σ:Type} (step:σ->Vu σ) (n:Nat) (s:σ):Wx step (n+1) (.to s)=Wx step n (step s):=rfl
theorem HL {a b:Bool} (ha:a=true) (hb:b=true):(a&&b)=true:=by grind
theorem M9 {a b:Bool} (h:a=b):(a == b)=true:=by grind
def BB.with (S:BB) (f:FuncId) (F:List BA->Option (BA×Bool)):BB:=fun g=>bif Nat.beq g f then some (.val F) else S g
theorem PO {P:Program} {f:FuncId} {args:List BA} {sym:Bool} {orc:List Bool}:(Yx P f args sym orc).rs =Zy P f:=by
 grind [Yx,Zy]
theorem WT {P:Program} {S:BB} (hS:Zk P S) {f:FuncId} {F:List BA->Option (BA×Bool)} (hf:(P.funcs[f]?).any (fun fn=>fn.body.isSome)=true)
  (hF: ∀args v,F args=some (v,true)-> ∃vs,Uz vs=v/\B5 P (Zy P f) (Yx P f args true []) vs/\ ∃d,pf d v=true):Zk P (S.with f F):=by
 intro g G hg;unfold BB.with at hg;cases hgf:Nat.beq g f with
 | false=>rw [hgf] at hg;exact hS g G hg
 | true=>
  rw [hgf] at hg;obtain rfl:Cs.val F=G:=Ab hg;obtain rfl:g=f:=Af hgf;refine ⟨?_,fun args v hv H vals w dB hH hG=> ?_⟩
  .grind
  .obtain ⟨vs,rfl,⟨C',g1,g2,g3⟩,d,hp⟩:=hF args v hv;exact (goes_call hf g1 g2 (by rw [PO];exact g3) dB hH hG).mono fun e w' ⟨ρ,u,he,ho⟩=>⟨ρ.fz,u,ho.le,ho.old,ho.same,he,Xs d _ u hp ho.val,ho.below⟩
theorem UU (x:Int):(x != x)=false:=by simp
theorem UD (x:Int):(x == x)=true:=by simp
theorem WB (x:Int):(!(x != x))=true:=by simp
theorem WA (x:Int):(!(x == x))=false:=by simp
theorem WX (n:Int):IntKind.i64.wrap n=(n+9223372036854775808) %18446744073709551616 - 9223372036854775808:=by rw [IntKind.wrap_i64]
theorem Mh {n:Int} (h: -9223372036854775808<=n) (h':n<=9223372036854775807):IntKind.i64.wrap n=n:=by simp only [WX];omega
theorem Px (x y:Int):C9 x y=min x y:=by unfold C9;grind
theorem Pw (x y:Int):C8 x y=max x y:=by unfold C8;grind
theorem Zd {α:Type} {c:Bool} {a b:α} (h:c=true):(bif c then a else b)=a:=by rw [h];rfl
inductive Bz :BA->BA->Prop
 | refl (v:BA):Bz v v
 | undef (v:BA):Bz v .undef
 | nils (b sz off:Nat) (cap:Cj):Bz .nils (.sla b sz off 0 cap)
 | sl (b sz q len:Nat) (cap:Cj):Bz (.sl b (q*sz) len cap) (.sla b sz q len cap)
 | nild (g:Nat->List BA):Bz .nils (.dat 0 g)
 | dat (n:Nat) (g g':Nat->List BA) (h: ∀i,i<n->g i=g' i):Bz (.dat n g) (.dat n g')
 | dptr (cs cs':List BA) (hl:cs.length=cs'.length) (h: ∀(ρ:BC) (i:Nat) (h1:i<cs.length) (h2:i<cs'.length) (v:Value),Zp ρ cs[i] v->Zp ρ cs'[i] v):Bz (.dptr cs) (.dptr cs')
theorem Bz.sound {ρ:BC} {a a':BA} {v:Value} (h:Bz a a') (hv:Zp ρ a v):Zp ρ a' v:=by
 cases h with
 | refl=>exact hv
 | undef=>exact .undef _
 | nils b sz off cap=>cases hv;exact .slan b sz off cap
 | sl b sz q len cap=>cases hv with | sl _ _ _ _ l c h hc cZ=>exact .sla b sz q len cap l c h hc cZ
 | nild g=>cases hv;exact .datn _
 | dptr cs cs' hl h=>cases hv with
  | dptr _ blk base val q1 q2=>exact .dptr cs' blk base val (fun j hj=>h _ j (by omega) hj _ (q1 j (by omega))) fun j hj=>q2 j (by omega)
 | dat n g g' hg=>
  cases hv with
  | datn=>exact .datn _
  | datz=>exact .datz _ _ _
  | dat _ _ blk base sz cap val dF hsz hv hh=>
   refine .dat n g' blk base sz cap val dF (fun i hi=>by grind) (fun i j hi hj=> ?_) hh
   grind
theorem Bz.of_undef {a:BA} (h:Bz .undef a):a=.undef :=by cases h <;> rfl
inductive CA :List BA->List BA->Prop
 | nil:CA [] []
 | cons {a b:BA} {l m:List BA} (h:Bz a b) (t:CA l m):CA (a::l) (b::m)
theorem CA.refl : ∀l:List BA,CA l l
 | []=>.nil
 | a::l=>.cons (.refl a) (CA.refl l)
theorem CA.len {l m:List BA} (h:CA l m):l.length=m.length:=by
 induction h with
 | nil=>rfl
 | cons _ _ ih=>simp [ih]
theorem CA.get {l m:List BA} (h:CA l m): ∀(i:Nat) (h1:i<l.length) (h2:i<m.length),Bz l[i] m[i]:=by
 induction h with
 | nil=>grind
 | cons h _ ih=>
  grind
inductive EM :Option BD->Option BD->Prop
 | refl (b:Option BD):EM b b
 | drop (b:Option BD):EM b none
 | rowed (cells:List BA) (ty:TypeId) (a:Option CL) (sz n:Nat) (g:Nat->List BA) (ho:(⟨cells,ty,a⟩:BD).isObj =false) (hc:cells=rows n g) (h1:1<=sz) (hl: ∀i,i<n->(g i).length =sz):EM (some ⟨cells,ty,a⟩) (some ⟨rows n g,ty,some ⟨sz,n,g⟩⟩)
 | rws (ty:TypeId) (sz n:Nat) (a a':BX) (h: ∀k,k<n->CA (a.get k) (a'.get k)):EM (some ⟨rows n a.get,ty,some ⟨sz,n,a⟩⟩) (some ⟨rows n a'.get,ty,some ⟨sz,n,a'⟩⟩)
theorem EM.sound {ρ:BC} {w:World} {a a':BD} {l:BR} (h:EM (some a) (some a')) (hb:Yf ρ w a l):Yf ρ w a' l:=by
 cases h with
 | refl=>exact hb
 | rowed cells ty a sz n g ho hc h1 hl=>subst hc;have hb:=hb.at ho;refine .plain ⟨hb.typ,hb.n,hb.tot,fun A hA=> ?_,hb.cells⟩;obtain rfl:=Ab hA;exact ⟨rfl,h1,hl⟩
 | rws ty sz n a a' h=>
  have hb:=hb.rows rfl;obtain ⟨_,h1,hl⟩:=hb.arr _ rfl;have h1:1<=sz:=h1;have hl: ∀k,k<n->(a.get k).length =sz:=hl;have hl': ∀k,k<n->(a'.get k).length =sz:=fun k hk=>by rw [<-(h k hk).len];exact hl k hk
  have k1:=Zc n hl;have k2:=Zc n hl';obtain ⟨cs,el,g1,g2,g3⟩:=hb.cells;refine .plain ⟨hb.typ,by rw [hb.n];show (rows n a.get).length =(rows n a'.get).length;rw [k1,k2],hb.tot,fun A hA=> ?_,cs,el,g1,g2,fun i hi=> ?_⟩
  .obtain rfl:=Ab hA;exact ⟨rfl,h1,hl'⟩
  .have hi2:i<(rows n a'.get).length :=hi;have hi':i<n*sz:=by rw [<-k2];exact hi
   have hj:i %sz<sz:=Bd _ h1;have hq:i / sz<n:=AV (by rw [Bc];exact hi');have e:i / sz*sz+i %sz=i:=by rw [Bc];exact A7 i sz
   have hic:i<(rows n a.get).length :=by rw [k1];exact hi'
   have r1:=Xm n hl (i / sz) (i %sz) hq hj;have r2:=Xm n hl' (i / sz) (i %sz) hq hj;rw [e] at r1 r2;have j1:i %sz<(a.get (i / sz)).length :=by rw [hl _ hq];exact hj
   have j2:i %sz<(a'.get (i / sz)).length :=by rw [hl' _ hq];exact hj
   obtain ⟨v,q1,q2⟩:=g3 i hic;have q2:Zp ρ ((rows n a.get)[i]'hic) v:=q2;refine ⟨v,q1,?_⟩;show Zp ρ ((rows n a'.get)[i]'hi2) v;rw [Ak hic,Ak j1] at r1;rw [Ak hi2,Ak j2] at r2;rw [Ab r1] at q2;rw [Ab r2];exact ((h _ hq).get _ j1 j2).sound q2
theorem Np {g h:Nat->List BA}: ∀(n:Nat),(∀i,i<n->g i=h i)->rows n g=rows n h
 | 0,_=>rfl
 | n+1,e=>by rw [KJ,KJ,Np n fun i hi=>e i (by omega),e n (by omega)]
def Cr (asz sz off len n:Nat) (get:Nat->List BA):BA:=bif Nat.beq asz sz&&Nat.ble (off+len) n then .dat len (fun k=>get (off+k)) else .undef
theorem XK (sz n:Nat) (g:Nat->List BA):Cr sz sz 0 n n g=.dat n g:=by
 unfold Cr;rw [show (Nat.beq sz sz&&Nat.ble (0+n) n)=true by simp_all,Ao]
 grind
def Uj (g:Nat->List BA):Bool:=pd (∀i,(g i).all (pf 6)=true)
theorem Ty {p:BA->Bool} {l:List BA} (h:l.all p=true) (n:Nat):(l.take n).all p=true:=
 by grind
theorem Tx {p:BA->Bool} {l:List BA} (h:l.all p=true) (n:Nat):(l.drop n).all p=true:=
 by grind
theorem VW {g:Nat->List BA} {off len sz:Nat} {new:List BA} (h:Uj g=true) (hn:new.all (pf 6)=true):Uj (Zi g off len sz new)=true:=pd_true fun i=>by
 unfold Zi;cases Nat.ble len i with
 | true=>grind
 | false=>exact Wq h _
theorem VZ {g:Nat->List BA} {r fo:Nat} {cs:List BA} (h:Uj g=true) (hn:cs.all (pf 6)=true):Uj (Vr g r fo cs)=true:=pd_true fun i=>by
 unfold Vr;cases Nat.beq i r with
 | true=>rw [Ao,List.all_append,List.all_append,Ty (Wq h r),hn,Tx (Wq h r)];rfl
 | false=>exact Wq h _
theorem SJ {P:Program} {S:BB} (hS:Zk P S) {f:FuncId} {F:List BA->Option (BA×Bool)} (hf:(P.funcs[f]?).any (fun fn=>fn.body.isSome)=true)
  (hF: ∀args v,F args=some (v,true)-> ∃vs,(∀(ρ:BC) (u:Value),Zp ρ (Uz vs) u->Zp ρ v u)/\B5 P (Zy P f) (Yx P f args true []) vs/\ ∃d,pf d (Uz vs)=true):Zk P (S.with f F):=by
 intro g G hg;unfold BB.with at hg;cases hgf:Nat.beq g f with
 | false=>rw [hgf] at hg;exact hS g G hg
 | true=>
  rw [hgf] at hg;obtain rfl:Cs.val F=G:=Ab hg;obtain rfl:g=f:=Af hgf;refine ⟨?_,fun args v hv H vals w dB hH hG=> ?_⟩
  .grind
  .obtain ⟨vs,hw,⟨C',g1,g2,g3⟩,d,hp⟩:=hF args v hv;exact (goes_call hf g1 g2 (by rw [PO];exact g3) dB hH hG).mono fun e w' ⟨ρ,u,he,ho⟩=>⟨ρ.fz,u,ho.le,ho.old,ho.same,he,hw _ _ (Xs d _ u hp ho.val),ho.below⟩
theorem RW :Uj (fun _=>[])=true:=pd_true fun _=>rfl
theorem Sb (s t:Nat):Uj (fun k=>(([]:List BA).drop (k*s)).take t)=true:=pd_true fun i=>by simp
theorem OC {g:Nat->List BA} {o:Nat} (h:Uj g=true):Uj (fun k=>g (o+k))=true:=pd_true fun i=>Wq h (o+i)
theorem VX {g h:Nat->List BA} {len:Nat} (p:Uj g=true) (q:Uj h=true):Uj (Ys g len h)=true:=pd_true fun i=>by
 unfold Ys;cases Nat.ble len i with
 | true=>exact Wq q _
 | false=>exact Wq p _
open Go.Sort Go.RowKit
variable {P:Program} {ρ:BC}
def q4 (f:Nat->Nat->Int):Nat->List BA:=fun k=>[.int .i64 (f k 0),.int .i64 (f k 1),.int .i64 (f k 2),.int .i64 (f k 3)]
theorem TT (a:Nat):(Nat.beq a a == true)=true:=by simp_all
inductive VP where
 | keep
 | drop
  | grow (b sz:Nat)
  | list (n:Nat) (g:Nat->List BA)
  | len (n:Nat)
  | frz (n n':Nat) (a g:Nat->List BA)
def Wj (n:Nat) (a g:Nat->List BA):Bool:=pd (∀i,i<n->a i=g i)
def QE (cells:List BA) (sz n:Nat) (g:Nat->List BA):Bool:=pd (cells=rows n g/\1<=sz/\ ∀i,i<n->(g i).length =sz)
def IJ (n:Nat) (a g:Nat->List BA):Bool:=pd (∀i,i<n->CA (a i) (g i))
def FX (a b:Nat):Bool:=pd (a=b)
theorem Zr {a b:Nat} (h:a=b):FX a b=true:=pd_true h
def Hv (v:BA) (n:Nat) (a:Nat->List BA):Bool:=pd (v=.dat n a)
theorem UG (sz n:Nat) (g:Nat->List BA):Hv (Cr sz sz 0 n n g) n g=true:=pd_true (XK sz n g)
theorem V0 (n:Nat) (g:Nat->List BA):Hv (.dat n g) n g=true:=pd_true rfl
def EX :VP->BA->Bool->BA×Bool
 | .keep,v,ob=>(v,ob)
 | .drop,_,ob=>(.undef,ob)
 | .grow b sz,v,ob=>match v with
  | .nils =>(.sla b sz 0 0 (.un sz),ob)
  | .sl b o len cap=>(.sla b sz 0 len cap,Nat.beq o 0&&ob)
  | v=>(v,ob)
 | .list n' g,v,ob=>match v with
  | .nils =>(.dat 0 g,ob)
  | .dat n a=>(.dat n' g,FX n n'&&(Wj n a g&&ob))
  | v=>(v,ob)
 | .len n',v,ob=>match v with
  | .sla b sz off n cap=>(.sla b sz off n' cap,FX n n'&&ob)
  | v=>(v,ob)
 | .frz n n' a g,v,ob=>(.dat n' g,Hv v n a&&(FX n n'&&(Wj n a g&&ob)))
theorem Oe {p:VP} {v:BA} {ob:Bool} (h:(EX p v ob).2=true):Bz v (EX p v ob).1/\ob=true:=by
 cases p with
 | keep=>exact ⟨.refl _,h⟩
 | drop=>exact ⟨.undef _,h⟩
 | grow b sz=>
  cases v with
  | nils=>exact ⟨.nils _ _ _ _,h⟩
  | sl b' o len cap=>simp only [EX,Ad] at h;have e:=Af h.1;subst e;have:=Bz.sl b' sz 0 len cap;rw [Nat.zero_mul] at this;exact ⟨this,h.2⟩
  | _=>exact ⟨.refl _,h⟩
 | list n' g=>
  cases v with
  | nils=>exact ⟨.nild _,h⟩
  | dat n a=>simp only [EX,Ad] at h;obtain rfl:=Wq h.1;exact ⟨.dat _ _ _ (Wq h.2.1),h.2.2⟩
  | _=>exact ⟨.refl _,h⟩
 | len n'=>
  cases v with
  | sla b sz off n cap=>simp only [EX,Ad] at h;obtain rfl:=Wq h.1;exact ⟨.refl _,h.2⟩
  | _=>exact ⟨.refl _,h⟩
 | frz n n' a g=>simp only [EX,Ad] at h;obtain rfl:=Wq h.1;obtain rfl:=Wq h.2.1;exact ⟨.dat _ _ _ (Wq h.2.2.1),h.2.2.2⟩
def HK :List VP->List BA->Bool->List BA×Bool
 | _,[],ob=>([],ob)
 | [],l,ob=>(l,ob)
 | p::ps,v::l,ob=>match HK ps l ob with
  | (l',ob)=>match EX p v ob with
   | (v',ob)=>(v'::l',ob)
theorem La : ∀{ps:List VP} {l:List BA} {ob:Bool},(HK ps l ob).2=true->CA l (HK ps l ob).1/\ob=true
 | [],[],_,h=>⟨.nil,h⟩
 | _::_,[],_,h=>⟨.nil,h⟩
 | [],a::l,_,h=>⟨CA.refl _,h⟩
 | p::ps,v::l,ob,h=>by simp only [HK] at h ⊢;obtain ⟨h1,h2⟩:=Oe h;obtain ⟨h3,h4⟩:=La h2;exact ⟨.cons h1 h3,h4⟩
inductive BP where
 | keep
 | drop
 | cells (ps:List VP)
 | rowed (sz n:Nat) (g:Nat->List BA)
 | rws (a:BX)
  | rowo (sz n:Nat) (a:BX)
def Fp (cells:List BA) (sz n:Nat) (a:BX):Bool:=pd (CA cells (rows n a.get)/\1<=sz/\ ∀i,i<n->(a.get i).length =sz)
def MT :List BA->List BA->TypeId->Option BD
 | .obj o::_,_::r,ty=>some ⟨.obj o::r,ty,none⟩
 | .obj _::_,[],_=>none
 | _,cs,ty=>some ⟨cs,ty,none⟩
def MS (cells:List BA):List BA->TypeId->Option BD
 | .dat n g::r,ty=>some ⟨.dat n g::r,ty,none⟩
 | cs,ty=>MT cells cs ty
def Cv :BP->Option BD->Bool->Option BD×Bool
 | .keep,o,ob=>(o,ob)
 | .drop,_,ob=>(none,ob)
 | .cells ps,o,ob=>match o with
  | some ⟨cells,ty,none⟩=>match HK ps cells ob with
   | (cs,ob)=>(MS cells cs ty,ob)
  | o=>(o,ob)
 | .rowed sz n g,o,ob=>match o with
  | some ⟨cells,ty,none⟩=>(bif (⟨cells,ty,none⟩:BD).isObj then none else some ⟨rows n g,ty,some ⟨sz,n,.flat g⟩⟩,QE cells sz n g&&ob)
  | some ⟨_,ty,some ⟨sz',n',a⟩⟩=>(some ⟨rows n g,ty,some ⟨sz',n,.flat g⟩⟩,FX n' n&&(Wj n' a.get g&&ob))
  | o=>(o,ob)
 | .rws a',o,ob=>match o with
  | some ⟨_,ty,some ⟨sz,n,a⟩⟩=>(some ⟨rows n a'.get,ty,some ⟨sz,n,a'⟩⟩,IJ n a.get a'.get&&ob)
  | o=>(o,ob)
 | .rowo sz n a',o,ob=>match o with
  | some ⟨cells,ty,none⟩=>(bif (⟨cells,ty,none⟩:BD).isObj then none else some ⟨rows n a'.get,ty,some ⟨sz,n,a'⟩⟩,Fp cells sz n a'&&ob)
  | o=>(o,ob)
theorem CA.sound {ρ:BC} {l m:List BA} (h:CA l m) (i:Nat) (h1:i<l.length) (h2:i<m.length) {v:Value} (hv:Zp ρ l[i] v):Zp ρ m[i] v:=(h.get i h1 h2).sound hv
theorem WC (cells:List BA) (ty:TypeId) (A:CL):(⟨cells,ty,some A⟩:BD).isObj =false:=by
 unfold BD.isObj;split
 .rename_i e;cases e
 .rfl
theorem Sf {p:BP} {o:Option BD} {ob:Bool} {x':BD} (h:(Cv p o ob).2=true) (hx:(Cv p o ob).1=some x'):ob=true/\ ∃x,o=some x/\ ∀(ρ:BC) (w:World) (l:BR),Yf ρ w x l->Yf ρ w x' l:=by
 cases p with
 | keep=>exact ⟨h,x',hx,fun _ _ _ q=>q⟩
 | drop=>cases hx
 | cells ps=>
  rcases o with _ | ⟨cells,ty,_ | A⟩
  .cases hx
  .simp only [Cv] at h hx;obtain ⟨h1,h2⟩:=La h;refine ⟨h2,_,rfl,fun ρ w l hb=> ?_⟩;generalize (HK ps cells ob).1=cs' at hx h1;cases hb with
   | obj o r ty' e1 e2 e3=>
    simp only [BD.mk.injEq] at e1;obtain ⟨rfl,rfl,_⟩:=e1;cases h1 with
    | cons ha hr=>
    rename_i c0 r';have hx:MT (.obj o::r) (c0::r') ty=some x':=by
     unfold MS at hx;split at hx
     .rename_i e;rw [A9] at e;obtain ⟨rfl,_⟩:=e;cases ha
     .exact hx
    obtain rfl:=Ab hx;refine .obj o r' ty rfl (by rw [e2,CA.len hr]) ?_;cases o with
    | mi ml=>obtain ⟨rfl,k⟩:=e3;cases hr;exact ⟨rfl,k⟩
    | mb ml=>obtain ⟨rfl,k⟩:=e3;cases hr;exact ⟨rfl,k⟩
    | it s pos=>obtain ⟨rfl,k⟩:=e3;cases hr;exact ⟨rfl,k⟩
    | bld=>
     obtain ⟨buf,v,p,rfl,k1,k2,k3⟩:=e3;cases hr with
     | cons hb0 hr0=>
     cases hr0;exact ⟨_,v,p,rfl,k1,hb0.sound k2,k3⟩
   | plain hb=>
   have hno:=hb.noObj;have hx:some (⟨cs',ty,none⟩:BD)=some x':=by
    unfold MS at hx;split at hx
    .exact hx
    .unfold MT at hx;split at hx
     .cases hno
     .cases hno
     .exact hx
   obtain rfl:=Ab hx;obtain ⟨cs,el,g1,g2,g3⟩:=hb.cells;refine .plain ⟨hb.typ,by rw [hb.n];exact h1.len,hb.tot,(fun A hA=>by cases hA),cs,el,g1,g2,fun i hi=> ?_⟩;have hi0:i<cells.length:=by rw [h1.len];exact hi
   obtain ⟨v,q1,q2⟩:=g3 i hi0;exact ⟨v,q1,h1.sound i hi0 hi q2⟩
  .exact ⟨h,_,rfl,fun ρ w l hb=>by obtain rfl:=Ab hx;exact hb⟩
 | rowed sz n g=>
  rcases o with _ | ⟨cells,ty,_ | ⟨sz',n',a⟩⟩
  .cases hx
  .simp only [Cv,Ad] at h hx;obtain ⟨hno,hx⟩:=FB hx;obtain rfl:=Ab hx;obtain ⟨h1,h2,h3⟩:=Wq h.1;exact ⟨h.2,_,rfl,fun ρ w l hb=>(EM.rowed cells ty none sz n g hno h1 h2 h3).sound hb⟩
  .simp only [Cv,Ad] at h hx;obtain rfl:=Ab hx;obtain rfl:=Wq h.1;have h1:=Wq h.2.1;refine ⟨h.2.2,_,rfl,fun ρ w l hb=> ?_⟩;obtain ⟨q1,q2,q3⟩:=hb.arr _ rfl;exact (EM.rowed cells ty _ sz' n' g (WC _ _ _) (q1.trans (Np _ h1)) q2 fun i hi=>by rw [<-h1 i hi];exact q3 i hi).sound hb
 | rws a'=>
  rcases o with _ | ⟨cells,ty,_ | ⟨sz',n',a⟩⟩
  .cases hx
  .exact ⟨h,_,rfl,fun ρ w l hb=>by obtain rfl:=Ab hx;exact hb⟩
  .simp only [Cv,Ad] at h hx;obtain rfl:=Ab hx;refine ⟨h.2,_,rfl,fun ρ w l hb=> ?_⟩;obtain ⟨q1,_,_⟩:=hb.arr _ rfl;have q1:cells=rows n' a.get:=q1;subst q1;exact (EM.rws ty sz' n' a a' (Wq h.1)).sound hb
 | rowo sz n a'=>
  rcases o with _ | ⟨cells,ty,_ | A⟩
  .cases hx
  .simp only [Cv,Ad] at h hx;obtain ⟨hno,hx⟩:=FB hx;obtain rfl:=Ab hx;obtain ⟨h1,h2,h3⟩:=Wq h.1;refine ⟨h.2,_,rfl,fun ρ w l hb=> ?_⟩;have hb:=hb.at hno;obtain ⟨cs,el,g1,g2,g3⟩:=hb.cells;refine .plain ⟨hb.typ,by rw [hb.n];exact h1.len,hb.tot,fun A hA=>by obtain rfl:=Ab hA;exact ⟨rfl,h2,h3⟩,cs,el,g1,g2,fun i hi=> ?_⟩;have hi0:i<cells.length:=by rw [h1.len];exact hi
   obtain ⟨v,q1,q2⟩:=g3 i hi0;exact ⟨v,q1,h1.sound i hi0 hi q2⟩
  .exact ⟨h,_,rfl,fun ρ w l hb=>by obtain rfl:=Ab hx;exact hb⟩
def HW :List (Nat×VP)->T BA->Bool->T BA×Bool
 | [],env,ob=>(env,ob)
 | (t,p)::l,env,ob=>match HW l env ob with
  | (e,ob)=>match EX p (T.get .undef e t) ob with
   | (v,ob)=>(T.set .undef e t v,ob)
def DY (e e':T BA):Prop:= ∀t,(∀(ρ:BC) (v:Value),Zp ρ (T.get .undef e t) v->Zp ρ (T.get .undef e' t) v)/\(T.get .undef e t=.undef ->T.get .undef e' t=.undef)
theorem DY.refl (e:T BA):DY e e:=fun _=>⟨fun _ _ h=>h,fun h=>h⟩
theorem LF : ∀{l:List (Nat×VP)} {env:T BA} {ob:Bool},(HW l env ob).2=true->DY env (HW l env ob).1/\ob=true
 | [],_,_,h=>⟨DY.refl _,h⟩
 | (t,p)::l,env,ob,h=>by
  simp only [HW] at h ⊢;obtain ⟨h1,h2⟩:=Oe h;obtain ⟨h3,h4⟩:=LF h2;refine ⟨fun s=> ?_,h4⟩;rw [T.get_set];by_cases e:s=t
  .subst e;rw [Aw rfl];exact ⟨fun ρ v hv=>h1.sound ((h3 s).1 ρ v hv),fun hu=>by have e:=(h3 s).2 hu;rw [e] at h1 ⊢;exact h1.of_undef⟩
  .rw [At e];exact h3 s
def FY :List BP->Nat->BG->Bool->BG×Bool
 | [],_,m,ob=>(m,ob)
 | p::ps,i,m,ob=>match FY ps (i+1) m ob with
  | (m',ob)=>match Cv p (Zf m i) ob with
   | (x,ob)=>(Ym m' i x,ob)
theorem UO {p:BP} {o:Option BD} {ob:Bool} (h:(Cv p o ob).2=true):ob=true:=by
 cases p with
 | keep=>exact h
 | drop=>exact h
 | cells ps=>
  rcases o with _ | ⟨cells,ty,_ | A⟩
  .exact h
  .exact (La h).2
  .exact h
 | rowed sz n g=>
  rcases o with _ | ⟨cells,ty,_ | A⟩;all_goals simp_all [Cv]
 | rws a=>
  rcases o with _ | ⟨cells,ty,_ | A⟩;all_goals simp_all [Cv]
 | rowo sz n a=>
  rcases o with _ | ⟨cells,ty,_ | A⟩;all_goals simp_all [Cv]
theorem Nf : ∀{ps:List BP} {i:Nat} {m:BG} {ob:Bool},(FY ps i m ob).2=true->ob=true/\ ∀b x',Zf (FY ps i m ob).1 b=some x'-> ∃x,Zf m b=some x/\ ∀(ρ:BC) (w:World) (l:BR),Yf ρ w x l->Yf ρ w x' l
 | [],_,_,_,h=>⟨h,fun b x' hb=>⟨x',hb,fun _ _ _ q=>q⟩⟩
 | p::ps,i,m,ob,h=>by
  simp only [FY] at h ⊢;have hob:(FY ps (i+1) m ob).2=true:=UO h;obtain ⟨h1,h2⟩:=Nf hob;refine ⟨h1,fun b x' hb=> ?_⟩;rw [Xu] at hb;by_cases e:b=i
  .subst e;rw [Aw rfl] at hb;exact (Sf h hb).2
  .rw [At e] at hb;exact h2 b x' hb
def HX :List (List (Nat×VP))->List BS->Bool->List BS×Bool
 | _,[],ob=>([],ob)
 | [],l,ob=>(l,ob)
 | p::ps,⟨cx,ro,todo,rnd,rs,env⟩::l,ob=>match HX ps l ob with
  | (l',ob)=>match HW p env ob with
   | (e,ob)=>(⟨cx,ro,todo,rnd,rs,e⟩::l',ob)
def HE (a a':BS):Prop:=a.cx=a'.cx/\a.ro=a'.ro/\a.todo=a'.todo/\a.rnd=a'.rnd/\a.rs=a'.rs/\DY a.env a'.env
theorem HE.refl (a:BS):HE a a:=⟨rfl,rfl,rfl,rfl,rfl,DY.refl _⟩
theorem Xq.refl' : ∀l:List BS,Xq HE l l
 | []=>.nil
 | a::l=>.cons (HE.refl a) (Xq.refl' l)
theorem Od : ∀{ps:List (List (Nat×VP))} {l:List BS} {ob:Bool},(HX ps l ob).2=true->Xq HE l (HX ps l ob).1/\ob=true
 | [],[],_,h=>⟨.nil,h⟩
 | _::_,[],_,h=>⟨.nil,h⟩
 | [],a::l,_,h=>⟨Xq.refl' _,h⟩
 | p::ps,⟨cx,ro,todo,rnd,rs,env⟩::l,ob,h=>by simp only [HX] at h ⊢;obtain ⟨h1,h2⟩:=LF h;obtain ⟨h3,h4⟩:=Od h2;exact ⟨.cons ⟨rfl,rfl,rfl,rfl,rfl,h1⟩ h3,h4⟩
structure DX where
 slots:List (Nat×VP):=[]
 blks:List BP:=[]
 cs:List (List (Nat×VP)):=[]
def HV (L:DX):BJ->BJ
 | ⟨cx,ro,todo,rnd,rs,⟨env,mem,next,orc,ob⟩,cs,lps⟩=>match HX L.cs cs ob with
  | (cs',ob)=>match FY L.blks 0 mem ob with
   | (mem',ob)=>match HW L.slots env ob with
    | (env',ob)=>⟨cx,ro,todo,rnd,rs,⟨env',mem',next,orc,ob⟩,cs',lps⟩
def Hn :List (TypeId×Nat×(Nat->List BA))->Nat->BG->BG
 | [],_,m=>m
 | (ty,sz,g)::l,i,m=>Ym (Hn l (i+1) m) i (some ⟨[],ty,some ⟨sz,0,.flat g⟩⟩)
def KQ (gs:List (TypeId×Nat×(Nat->List BA))):BJ->BJ
 | ⟨cx,ro,todo,rnd,rs,⟨env,mem,next,orc,ob⟩,cs,lps⟩=>⟨cx,ro,todo,rnd,rs,⟨env,Hn gs next mem,next+gs.length,orc,ob⟩,cs,lps⟩
theorem Lj : ∀(gs:List (TypeId×Nat×(Nat->List BA))) (i:Nat) (m:BG) (b:Nat),(b<i->Zf (Hn gs i m) b=Zf m b)/\(i+gs.length<=b->Zf (Hn gs i m) b=Zf m b)
 | [],i,m,b=>⟨fun _=>rfl,fun _=>rfl⟩
 | (ty,sz,g)::l,i,m,b=>by obtain ⟨h1,h2⟩:=Lj l (i+1) m b;simp only [Hn,Xu,Aq];exact ⟨fun h=>by rw [At (by omega)];exact h1 (by omega),fun h=>by rw [At (by omega)];exact h2 (by omega)⟩
theorem Cz.less {P:Program} {ρ:BC} {cs:List BS} {css:List Frame} {mss:List Nat} (h:Cz P ρ cs css mss): ∀{cs':List BS},Xq HE cs cs'->Cz P ρ cs' css mss:=by
 induction h with
 | nil=>intro cs' h;cases h;exact .nil
 | @cons af b a k ms cs css mss hf hl t ih=>
  intro cs' h;cases h with
  | @cons _ af' _ cs'' h1 h2=>
   obtain ⟨e1,e2,e3,e4,e5,e6⟩:=h1;have hne:cs''≠ []->cs≠ []:=fun hn he=>by subst he;cases h2;exact hn rfl
   rw [show Xv af.ro k=Xv af'.ro k by rw [e2]];exact .cons ⟨by rw [<-e1];exact ⟨hf.env.size,fun t=>(e6 t).1 _ _ (hf.env.get t),fun t ht=>(e6 t).2 (hf.env.out t ht)⟩,hf.defers,by rw [<-e3];exact hf.todo,by rw [<-e2];exact hf.ro,by rw [<-e4];exact hf.rnd⟩
    (fun hn=>by grind) (ih h2)
theorem Lk {P:Program} {cx:BK} {ro:Option BQ} {todo:List Item} {rnd:Option Nat} {rs:List ResultVar} {env env':T BA} {mem mem':BG} {k k':Nat} {o o':List Bool} {b0 b0':Bool} {cs cs':List BS} {lps:BL}
  (hE:DY env env') (hC:Xq HE cs cs') (hM: ∀b x',b<k->Zf mem' b=some x'-> ∃x,Zf mem b=some x/\ ∀(ρ:BC) (w:World) (l:BR),Yf ρ w x l->Yf ρ w x' l) (hk:k<=k') (hbd:(∀b,k<=b->Zf mem b=none)-> ∀b,k'<=b->Zf mem' b=none):
  Qg P ⟨cx,ro,todo,rnd,rs,⟨env,mem,k,o,b0⟩,cs,lps⟩ ⟨cx,ro,todo,rnd,rs,⟨env',mem',k',o',b0'⟩,cs',lps⟩:=
 fun H w0 ρ b a t css w ma mb hs he cs0=>by
  have hr:=hs.rel;simp only at hr he;have hne:cs'≠ []->cs≠ []:=fun hn e=>by subst e;cases hC;exact hn rfl
  refine ⟨ρ,b,a,t,css,w,ma,mb,Steps.refl _ _,⟨⟨?_,hs.top.defers,hs.top.todo,hs.top.ro,hs.top.rnd⟩,fun hn=>hs.lv (hne hn),⟨hs.rest.cs.less hC,hs.rest.nodup,hs.rest.marks,hs.rest.loops,hs.rest.inj⟩,?_⟩,?_,rfl,Ai _⟩
  .exact ⟨hs.top.env.size,fun t=>(hE t).1 _ _ (hs.top.env.get t),fun t ht=>(hE t).2 (hs.top.env.out t ht)⟩
  .have lift: ∀c l,ρ c=some l->(Zf mem' c).isSome =true->(Zf mem c).isSome =true:=fun c l hc h=>by obtain ⟨x,hx⟩:=Bi.1 h;obtain ⟨y,hy,_⟩:=hM c x (hr.dom c l hc) hx;rw [hy];rfl
   refine ⟨fun c l hc=>AF (hr.dom c l hc) hk,fun c c' l l' hc hc' hl h1 h2=>hr.inj c c' l l' hc hc' hl (lift c l hc h1) (lift c' l' hc' h2),fun c l ab hc h1=> ?_,hr.old,fun c l hc h1=>hr.sep c l hc (lift c l hc h1),hr.real,hbd hr.bd,fun j l hj=>AF (hr.ldom.1 j l hj) hk,hr.ldom.2⟩;obtain ⟨y,hy,h2⟩:=hM c ab (hr.dom c l hc) h1;exact h2 _ _ _ (hr.blk c l y hc hy)
  .exact ⟨he.ext,fun _ hb=>absurd hb (Ax _),AG _,fun _ hb=>absurd hb (Ax _),he.frame,he.fresh,he.size,he.os,he.tape,he.output,he.still⟩
theorem Rb {P:Program} {L:DX} {C:BJ} (ho:(HV L C).st.ob =true):C.st.ob=true/\Qg P C (HV L C):=by
 obtain ⟨cx,ro,todo,rnd,rs,⟨env,mem,next,orc,ob⟩,cs,lps⟩:=C;simp only [HV] at ho ⊢;obtain ⟨h1,h2⟩:=LF ho;obtain ⟨h3,h4⟩:=Nf h2;obtain ⟨h5,h6⟩:=Od h3;refine ⟨h6,Lk h1 h5 (fun b x' _ hb=>h4 b x' hb) (Ai _) fun hbd b hb=> ?_⟩;cases hq:Zf (FY L.blks 0 mem (HX L.cs cs ob).2).1 b with
 | none=>rfl
 | some x'=>
  grind
theorem Sd {P:Program} (gs:List (TypeId×Nat×(Nat->List BA))) (C:BJ):Qg P C (KQ gs C)/\(KQ gs C).st.ob =C.st.ob:=by
 obtain ⟨cx,ro,todo,rnd,rs,⟨env,mem,next,orc,ob⟩,cs,lps⟩:=C;exact ⟨Lk (DY.refl _) (Xq.refl' _) (fun b x' hb h=>⟨x',by grind [Lj],fun _ _ _ q=>q⟩) (Nat.le_add_right _ _) fun hbd b hb=>by
  rw [(Lj gs next mem b).2 hb];grind,rfl⟩
theorem RZ {P:Program} {C C':BJ} {orc:List Bool} {ob:Bool} (g:Qg P (C.withO orc) (C'.withB ob)):Qg P C C':=by
 obtain ⟨cx,ro,todo,rnd,rs,⟨env,mem,next,o,b⟩,cs,lps⟩:=C;obtain ⟨cx',ro',todo',rnd',rs',⟨env',mem',next',o',b'⟩,cs',lps'⟩:=C';exact fun H w0 ρ b a k css w ma mb hs he cs0=>by obtain ⟨ρ',b',a',k',css',w',ma',mb',h1,h2,h3,h4⟩:=g H w0 ρ b a k css w ma mb ⟨hs.top,hs.lv,hs.rest,hs.rel⟩ he cs0;exact ⟨ρ',b',a',k',css',w',ma',mb',h1,⟨h2.top,h2.lv,h2.rest,h2.rel⟩,h3,h4⟩
theorem VH {P:Program} {S:BB} (hN:Qy P) (hmx:P.follows .mixedOrders =true) (hS:Zk P S) {n m d:Nat} {C C':BJ} (gs:List (TypeId×Nat×(Nat->List BA))) (N:BY) (L:DX) (orc:List Bool) (ob:Bool)
  (h:(((Hw P S (E4 P S m d) n (C.withO orc)).map (KQ gs)).bind (Hy P N)).map (HV L)=some (C'.withB ob)) (ho:ob=true) (hfl:H7 C=true):Qg P C C':=by
 rw [Ag] at h;obtain ⟨C2,h1,h2⟩:=h;rw [Bk] at h1;obtain ⟨C1,h3,h4⟩:=h1;rw [Ag] at h3;obtain ⟨C0,h5,rfl⟩:=h3;have hfo:H7 (C.withO orc)=true:=by obtain ⟨cx,ro,todo,rnd,rs,⟨env,mem,next,o,b⟩,cs,lps⟩:=C;exact hfl
 obtain ⟨hCI,hC⟩:=MM hN hmx hS m d;obtain ⟨f1,f2,f3⟩:=L7 hN hmx hS hCI hC n (C.withO orc) C0 (O6 hfo) h5;have hob:(HV L C2).st.ob =true:=by rw [h2];obtain ⟨cx,ro,todo,rnd,rs,⟨env,mem,next,o,b⟩,cs,lps⟩:=C';exact ho
 obtain ⟨l1,l2⟩:=Rb (P:=P) hob;obtain ⟨g1,g2,_⟩:=Nj h4 l1;obtain ⟨q1,q2⟩:=Sd (P:=P) gs C0;rw [q2] at g1;have:=(((f3 g1).goes.trans q1).trans g2).trans l2;rw [h2] at this;exact RZ this
theorem Xy (n:Nat) (g:Nat->List BA):Wj n g g=true:=pd_true fun _ _=>rfl
theorem WO (a g:Nat->List BA):Wj 0 a g=true:=pd_true fun _ h=>absurd h (Ax _)
theorem Mq {a b:Nat} (h: ¬a<=b):Nat.ble a b=false:=AS.2 fun e=>h (Ae e)
theorem Mr {a b:Nat} (h:a<=b):Nat.ble a b=true:=by simp_all
theorem WM {n N sz:Nat} {G H H':Nat->List BA} {cells:List BA} (m:Nat) (h:Wj n G H=true) (hN:N=n+m) (h0: ∀i,i<n->H' i=H i) (h1: ∀i,i<m->(cells.drop (i*sz)).take sz=H' (n+i)):Wj N (Zi G 0 n sz cells) H'=true:=pd_true fun i hi=>by
 unfold Zi;by_cases e:n<=i
 .grind [Mr]
 .rw [Mq e,Aj,Az,Wq h i (by omega),h0 i (by omega)]
theorem Lh {α:Type} {sz:Nat}: ∀(l:List (List α)) (i:Nat),(∀x∈l,x.length=sz)->i<l.length->(l.flatten.drop (i*sz)).take sz=l.getD i []
 | [],i,_,h=>absurd h (Ax _)
 | x::l,0,hl,_=>by
  grind
 | x::l,i+1,hl,h=>by have hx:=hl x (by simp);rw [List.flatten_cons,List.getD_cons_succ,<-Lh l i (fun y hy=>hl y (by simp [hy])) (by simpa using h)];rw [List.drop_append,hx,show (i+1)*sz - sz=i*sz by rw [AA,Bq];omega,AL (by rw [hx,AA,Bq];omega),AU]
theorem Vz {m N:Nat} {G H H':Nat->List BA} (h':Wj m H H'=true) (hN:N=0+m):Wj N (Ys G 0 H) H'=true:=pd_true fun i hi=>Wq h' i (by omega)
theorem Xi {n:Nat} {G H:Nat->List BA} (h:Wj n G H=true):Wj n (fun k=>G (0+k)) H=true:=by grind
theorem U6 {cells:List BA} {sz n:Nat} {g:Nat->List BA} (h:cells=rows n g) (h1:Nat.ble 1 sz=true) (h2: ∀i,(g i).length =sz):QE cells sz n g=true:=pd_true ⟨h,Ae h1,fun i _=>h2 i⟩
class Ww (α:Type) where
 w:Nat
 d:α
 cells:α->List BA
 of:List BA->α
 len: ∀a,(cells a).length =w
 pos:1<=w
 flat: ∀a,(cells a).all (pf 6)=true
 sc: ∀a,(cells a).all B1=true
 back: ∀a,of (cells a)=a
def BZ :BA->Int
 | .int _ n=>n
 | _=>0
def XU :BA->Bool
 | .bool b=>b
 | _=>false
instance : Ww Int where
 w:=1
 d:=0
 cells x:=[.int .i64 x]
 of l:=BZ (l.getD 0 .undef)
 len _:=rfl
 pos:=Ai 1
 flat _:=rfl
 sc _:=rfl
 back _:=rfl
instance : Ww Bool where
 w:=1
 d:=false
 cells x:=[.bool x]
 of l:=XU (l.getD 0 .undef)
 len _:=rfl
 pos:=Ai 1
 flat _:=rfl
 sc _:=rfl
 back _:=rfl
structure R2 where
 (a b:Int)
 deriving DecidableEq
structure R3 where
 (a b c:Int)
 deriving DecidableEq
structure R4 where
 (a b c d:Int)
 deriving DecidableEq
structure R6 where
 (a b c d e f:Int)
 deriving DecidableEq
instance : Ww R2 where
 w:=2
 d:=⟨0,0⟩
 cells x:=[.int .i64 x.a,.int .i64 x.b]
 of l:=⟨BZ (l.getD 0 .undef),BZ (l.getD 1 .undef)⟩
 len _:=rfl
 pos:=by decide
 flat _:=rfl
 sc _:=rfl
 back _:=rfl
instance : Ww R3 where
 w:=3
 d:=⟨0,0,0⟩
 cells x:=[.int .i64 x.a,.int .i64 x.b,.int .i64 x.c]
 of l:=⟨BZ (l.getD 0 .undef),BZ (l.getD 1 .undef),BZ (l.getD 2 .undef)⟩
 len _:=rfl
 pos:=by decide
 flat _:=rfl
 sc _:=rfl
 back _:=rfl
instance : Ww R4 where
 w:=4
 d:=⟨0,0,0,0⟩
 cells x:=[.int .i64 x.a,.int .i64 x.b,.int .i64 x.c,.int .i64 x.d]
 of l:=⟨BZ (l.getD 0 .undef),BZ (l.getD 1 .undef),BZ (l.getD 2 .undef),BZ (l.getD 3 .undef)⟩
 len _:=rfl
 pos:=by decide
 flat _:=rfl
 sc _:=rfl
 back _:=rfl
instance : Ww R6 where
 w:=6
 d:=⟨0,0,0,0,0,0⟩
 cells x:=[.int .i64 x.a,.int .i64 x.b,.int .i64 x.c,.int .i64 x.d,.int .i64 x.e,.int .i64 x.f]
 of l:=⟨BZ (l.getD 0 .undef),BZ (l.getD 1 .undef),BZ (l.getD 2 .undef),BZ (l.getD 3 .undef),BZ (l.getD 4 .undef),BZ (l.getD 5 .undef)⟩
 len _:=rfl
 pos:=by decide
 flat _:=rfl
 sc _:=rfl
 back _:=rfl
section
variable {α:Type} [Ww α]
def rd (L:List α) (k:Nat):α:=L.getD k Ww.d
def Zx (L:List α):Nat->List BA:=fun k=>Ww.cells (rd L k)
def lst (α:Type) [Ww α] (n:Nat) (g:Nat->List BA):List α:=(List.range n).map fun k=>Ww.of (g k)
def CJ (α:Type) [Ww α] (n:Nat) (g:Nat->List BA):Bool:=pd (∀i,i<n->g i=Ww.cells (Ww.of (g i):α))
theorem Je {L:List α} {k:Nat} (h:k<L.length):rd L k=L[k]:=by grind [rd]
theorem Q0 {L M:List α} {k:Nat} (h:k<L.length):rd (L++M) k=rd L k:=by
 grind [rd]
theorem RA {L M:List α} {k:Nat} (h:L.length<=k):rd (L++M) k=rd M (k - L.length):=by
 grind [rd]
theorem LH (L:List α):lst α L.length (Zx L)=L:=by
 apply List.ext_getElem;all_goals grind [lst,Zx,Ww.back,Je]
def B4 (L:List α):List α:=lst α L.length (Zx L)
theorem PV (L:List α):B4 L=L:=LH L
theorem Rf (n:Nat) (g:Nat->List BA):(lst α n g).length =n:=by simp [lst]
theorem J2 (L:List α) (n:Nat):CJ α n (Zx L)=true:=pd_true fun i _=>by simp only [Zx];rw [Ww.back]
theorem PB (L:List α) (off n:Nat):CJ α n (fun k=>Zx L (off+k))=true:=pd_true fun i _=>by simp only [Zx];rw [Ww.back]
theorem Ob (g:Nat->List BA):CJ α 0 g=true:=pd_true fun i h=>absurd h (Ax _)
theorem UI (g:Nat->List BA) (h0:g 0=Ww.cells (Ww.of (g 0):α)):CJ α 1 g=true:=pd_true fun i h=>by
 grind
theorem UJ (g:Nat->List BA) (h0:g 0=Ww.cells (Ww.of (g 0):α)) (h1:g 1=Ww.cells (Ww.of (g 1):α)):CJ α 2 g=true:=pd_true fun i h=>by
 grind
theorem UK {n:Nat} {g:Nat->List BA} (h:CJ α n g=true): ∀i,i<n->g i=Zx (lst α n g) i:=fun i hi=>by
 rw [Wq h i hi]
 grind [Zx,Je,lst]
theorem Jq (L:List α):Uj (Zx L)=true:=pd_true fun _=>Ww.flat _
theorem RS {sz:Nat} (L:List α) (n:Nat) (h:sz=Ww.w α):Ce sz n (Zx L)=true:=Um fun _ _=>⟨by rw [h];exact Ww.len _,Ww.sc _⟩
theorem RR {sz:Nat} (L:List α) (off n:Nat) (h:sz=Ww.w α):Ce sz n (fun k=>Zx L (off+k))=true:=Um fun _ _=>⟨by rw [h];exact Ww.len _,Ww.sc _⟩
theorem SZ {sz N off m:Nat} {G:Nat->List BA} (h:Ce sz N G=true) (hb:decide (off+m<=N)=true):Ce sz m (fun k=>G (off+k))=true:=Um fun i hi=>by have hb:=AB hb;exact Qq h (off+i) (by omega)
theorem VT {sz n N m:Nat} {G:Nat->List BA} {cells:List BA} (h:Ce sz n G=true) (hN:N=n+m) (hc:cells.length=m*sz) (hs:cells.all B1=true):Ce sz N (Zi G 0 n sz cells)=true:=Um fun i hi=>by
 unfold Zi;by_cases e:n<=i
 .rw [Mr e,Ao];have:(i - n)*sz+sz<=m*sz:=by
   have:=Au sz (show i - n+1<=m by omega)
   grind
  grind
 .rw [Mq e,Aj,Az];exact Qq h i (by omega)
theorem Vp {L M:List α} {n N sz:Nat} {G:Nat->List BA} {cells:List BA} (h:Wj n G (Zx L)=true) (hn:n=L.length) (hN:N=n+M.length) (hsz:sz=Ww.w α) (hc:cells=(M.map Ww.cells).flatten):Wj N (Zi G 0 n sz cells) (Zx (L++M))=true:=by
 grind [WM,Zx,Lh,Ww.len,Je]
theorem Ft {L:List α} {r k:Nat} {y:α} (hk:k<L.length):rd (L.set r y) k=if k=r then y else rd L k:=by
 grind [Je]
theorem Oo {L:List α} {n r fo:Nat} {G:Nat->List BA} {cs:List BA} {y:α} (h:Wj n G (Zx L)=true) (hn:n=L.length) (hy:Ww.cells y=(Ww.cells (rd L r)).take fo++cs++(Ww.cells (rd L r)).drop (fo+cs.length)):Wj n (Vr G r fo cs) (Zx (L.set r y))=true:=by
 subst hn;refine pd_true fun i hi=> ?_;unfold Vr;simp only [Zx];rw [Ft hi];cases e:Nat.beq i r with
 | true=>have:=Af e;subst this;rw [Ao,Aw rfl,Wq h i hi,hy];rfl
 | false=>
  have:i≠r:=fun q=>by simp_all
  rw [Aj,At this,Wq h i hi];rfl
theorem VE {n:Nat} {cs:List BA} {y:α} {G:Nat->List BA} (hG:G=fun _=>cs) (hy:Ww.cells y=cs):Wj n G (Zx (List.replicate n y))=true:=pd_true fun i hi=>by
 grind [Zx,Je]
theorem Wt {L M:List α} {n m N:Nat} {G H:Nat->List BA} (h:Wj n G (Zx L)=true) (hn:n=L.length) (h':Wj m H (Zx M)=true) (hN:N=n+m):Wj N (Ys G n H) (Zx (L++M))=true:=by
 subst hn;refine pd_true fun i hi=> ?_;unfold Ys;by_cases e:L.length<=i
 .rw [Mr e,Ao,Wq h' _ (by omega)];grind [Zx,RA]
 .rw [Mq e,Aj,Wq h i (by omega)];grind [Zx,Q0]
theorem V6 {sz:Nat} (L:List α) (n:Nat) (h:sz=Ww.w α):E0 n (Zx L) sz=true:=Um fun _ _=>by rw [h];exact Ww.len _
theorem Ra {sz n:Nat} {L:List α} {off:Nat} (h:sz=Ww.w α):E0 n (fun k=>Zx L (off+k)) sz=true:=Um fun _ _=>by rw [h];exact Ww.len _
def Yg (L:List α) (off n:Nat):List α:=(List.range n).map fun k=>rd L (off+k)
theorem Za (L:List α) (off n:Nat):(Yg L off n).length =n:=by simp [Yg]
theorem LM {L:List α} {off n k:Nat} (h:k<n):rd (Yg L off n) k=rd L (off+k):=by
 grind [Je,Yg]
theorem Oj {L:List α} {off n:Nat} (h:off+n<=L.length):Yg L off n=(L.drop off).take n:=by
 apply List.ext_getElem;all_goals grind [Yg,Je]
theorem Rv {L:List α} {N off n:Nat} {G:Nat->List BA} (h:Wj N G (Zx L)=true) (hb:decide (off+n<=N)=true):Wj n (fun k=>G (off+k)) (Zx (Yg L off n))=true:=pd_true fun i hi=>by have hb:=AB hb;simp only [Zx];rw [LM hi,Wq h _ (by omega)];rfl
theorem Wv {L:List α} {off n:Nat}:Wj n (fun k=>Zx L (off+k)) (Zx (Yg L off n))=true:=pd_true fun i hi=>by simp only [Zx];rw [LM hi]
theorem V9 (L:List α) (off n:Nat):lst α n (fun k=>Zx L (off+k))=Yg L off n:=by
 grind [lst,Yg,Zx,Ww.back]
def DT (L:List α) (off n:Nat) (M:List α):List α:=(List.range L.length).map fun k=>bif Nat.ble off k&&Nat.ble (k+1) (off+n) then rd M (k - off) else rd L k
theorem Lu (L:List α) (off n:Nat) (M:List α):(DT L off n M).length =L.length:=by simp [DT]
theorem Tm {L M:List α} {off n k:Nat} (h:k<L.length):rd (DT L off n M) k=bif Nat.ble off k&&Nat.ble (k+1) (off+n) then rd M (k - off) else rd L k:=by
 grind [Je,DT]
theorem VC {L M:List α} {N off n m:Nat} {G H:Nat->List BA} (h:Wj N G (Zx L)=true) (hN:N=L.length) (h':Wj m H (Zx M)=true) (hm:n<=m):Wj N (Wm G off n H) (Zx (DT L off n M))=true:=by
 subst hN;refine pd_true fun i hi=> ?_;unfold Wm;simp only [Zx];rw [Tm hi];cases e:(Nat.ble off i&&Nat.ble (i+1) (off+n)) with
 | true=>simp only [Ad] at e;have e1:=Ae e.1;have e2:=Ae e.2;rw [Ao,Ao,Wq h' _ (by omega)];rfl
 | false=>rw [Aj,Aj,Wq h i hi];rfl
theorem WN (z g:Nat->List BA) (n:Nat):Wj n (Wm z 0 (Nat.min n n) g) g=true:=pd_true fun i hi=>by unfold Wm;rw [show Nat.min n n=n from Nat.min_self n,Az,AC (AG i),AC hi];rfl
theorem VY {g h:Nat->List BA} {off n:Nat} (p:Uj g=true) (q:Uj h=true):Uj (Wm g off n h)=true:=pd_true fun i=>by
 unfold Wm;cases (Nat.ble off i&&Nat.ble (i+1) (off+n)) with
 | true=>exact Wq q _
 | false=>exact Wq p _
end
theorem O4 : ∀{az bs:List BA} (i:Nat) {t u:T BA},Xq Bz az bs->DY t u->DY (Cf az i t) (Cf bs i u)
 | _,_,i,t,u,.nil,h=>h
 | _,_,i,t,u,.cons (a:=a) (b:=b) h1 h2,h=>by
  refine O4 (i+1) h2 fun s=> ?_;rw [T.get_set,T.get_set];by_cases e:s=i
  .rw [Aw e,Aw e];exact ⟨fun ρ v hv=>h1.sound hv,fun q=>by subst q;exact h1.of_undef⟩
  .rw [At e,At e];exact h s
theorem Ow {P:Program} {f:FuncId} {az bs:List BA} {vs:List BA} (h:Xq Bz az bs) (k:B5 P (Zy P f) (Yx P f bs true []) vs):B5 P (Zy P f) (Yx P f az true []) vs:=by
 obtain ⟨C',g,h2,h3⟩:=k;refine ⟨C',Qg.trans ?_ g,h2,h3⟩;unfold Yx;cases P.funcs[f]? with
 | none=>exact Qg.refl _
 | some fn=>simp only;rw [h.length];exact Lk (O4 0 h (DY.refl _)) .nil (fun b x' hb=>absurd hb (Ax _)) (Ai _) fun hbd b hb=>hbd b hb
theorem SL {P:Program} {S:BB} (hS:Zk P S) {f:FuncId} {F:List BA->Option (BA×Bool)} (hf:(P.funcs[f]?).any (fun fn=>fn.body.isSome)=true)
  (hF: ∀args v,F args=some (v,true)-> ∃bs vs,Xq Bz args bs/\Uz vs=v/\B5 P (Zy P f) (Yx P f bs true []) vs/\ ∃d,pf d v=true):Zk P (S.with f F):=
 WT hS hf fun args v h=>by obtain ⟨bs,vs,h1,h2,h3,d,h4⟩:=hF args v h;exact ⟨vs,h2,Ow h1 h3,d,h4⟩
def D1 (α:Type) [Ww α]:BA->Option (List α×(Nat->List BA)×Nat)
 | .nils =>some ([],fun _=>[],0)
 | .dat n g=>some (lst α n g,g,n)
 | _=>none
theorem asL_le {α:Type} [Ww α] {v:BA} {L:List α} {g:Nat->List BA} {n:Nat} (h:D1 α v=some (L,g,n)) (ho:CJ α n g=true):Bz v (.dat L.length (Zx L)):=by
 unfold D1 at h;split at h
 .simp only [Ac,Aa] at h;obtain ⟨rfl,_,_⟩:=h;exact .nild _
 .simp only [Ac,Aa] at h;obtain ⟨rfl,rfl,rfl⟩:=h;rw [Rf];exact .dat _ _ _ (UK ho)
 .cases h
open Go.ChangeShapes Go.WideShapes Go.Deep
section
variable {P:Program}
def JQ (P:Program) (rec:TypeId->Option (List IntKind)):List Field->Nat->Option (List IntKind)
 | [],_=>some []
 | f::r,o=>bif Nat.beq f.offset o then match rec f.type with
   | some ks=>bif Nat.beq (P.cellsOf f.type) ks.length then (JQ P rec r (o+ks.length)).map (ks++ ·) else none
   | none=>none
  else none
def Hp (P:Program):Nat->TypeId->Option (List IntKind)
 | 0,_=>none
 | d+1,t=>match P.underlying t with
  | some (.int k)=>some [k]
  | some (.struct fs)=>match JQ P (Hp P d) fs.toList 0 with
   | some ks=>bif Nat.beq (P.cellsOf t) ks.length then some ks else none
   | none=>none
  | _=>none
def Dh (ks:List IntKind) (cs:List Value):Prop:= ∃ns:List Int,ns.length=ks.length/\cs=List.zipWith Value.int ks ns/\ ∀p∈List.zip ks ns,p.1.has p.2
theorem Dh.append {a b:List IntKind} {x y:List Value} (h:Dh a x) (k:Dh b y):Dh (a++b) (x++y):=by
 obtain ⟨ns,h1,rfl,h3⟩:=h;obtain ⟨ms,k1,rfl,k3⟩:=k;refine ⟨ns++ms,by simp [h1,k1],?_,fun p hp=> ?_⟩;all_goals grind
theorem Dh.length {ks:List IntKind} {cs:List Value} (h:Dh ks cs):cs.length=ks.length:=by obtain ⟨ns,h1,rfl,_⟩:=h;simp [h1]
variable {HH:Type} {enc:TypeId×Value->HH} {w:World} {base:Nat} {spare:Nat->Bool} {held:Bool}
theorem OQ {rec:TypeId->Option (List IntKind)} (hr: ∀t ks,rec t=some ks-> ∀fuel cs x,DataW.trod enc P w base spare held fuel t cs=some x->Dh ks cs) (cs:List Value):
  ∀(l:List Field) (o:Nat) (ks:List IntKind),JQ P rec l o=some ks->o+ks.length<=cs.length->(∀f∈l,∃fuel x,DataW.trod enc P w base spare held fuel f.type ((cs.drop f.offset).take (P.cellsOf f.type))=some x)->Dh ks ((cs.drop o).take ks.length)
 | [],o,ks,h,_,_=>by obtain rfl:=Ab h;exact ⟨[],rfl,by simp,by simp⟩
 | f::r,o,ks,h,hl,hf=>by
  unfold JQ at h;obtain ⟨ho,h⟩:=Zj h;obtain rfl:=Af ho;split at h
  .rename_i ks1 h1;obtain ⟨hc,h⟩:=Zj h;have hc:=Af hc;simp only [Ag] at h;obtain ⟨ks2,h2,rfl⟩:=h;obtain ⟨fuel,x,hx⟩:=hf f (by simp);have i1:=hr _ _ h1 _ _ _ hx;rw [hc] at i1;rw [Al] at hl;have i2:=OQ hr cs r _ ks2 h2 (by omega) fun g hg=>hf g (by simp [hg]);have:(cs.drop f.offset).take (ks1++ks2).length =(cs.drop f.offset).take ks1.length++(cs.drop (f.offset+ks1.length)).take ks2.length:=by rw [Al,List.take_add,List.drop_drop]
   rw [this];exact i1.append i2
  .cases h
theorem OF : ∀(d:Nat) (t:TypeId) (ks:List IntKind),Hp P d t=some ks-> ∀(fuel:Nat) (cs:List Value) (x:DataW HH×List MemPlace),DataW.trod enc P w base spare held fuel t cs=some x->Dh ks cs
 | 0,_,_,h=>by cases h
 | d +1,t,ks,h=>by
  intro fuel cs x hx;unfold Hp at h;split at h
  .rename_i k hk;obtain rfl:=Ab h;obtain ⟨m,rfl,_,hw⟩:=DataW.trod_int hk hx;refine ⟨[m],rfl,rfl,fun p hp=> ?_⟩;simp_all [Lit.wf,IntKind.has]
  .rename_i fs hs;split at h
   .rename_i ks1 h1;obtain ⟨hc,h⟩:=Zj h;obtain rfl:=Ab h;have hc:=Af hc;obtain ⟨xs,n,_,_,hl,cZ,hf⟩:=DataW.trod_struct hs hx;have hl:cs.length=ks1.length:=hl.trans hc;have:=OQ (fun t ks ht fuel cs x hx=>OF d t ks ht fuel cs x hx) cs fs.toList 0 ks1 h1 (by omega) fun f hf'=>by
     obtain ⟨j,hj,rfl⟩:=Bb hf';have hj2:j<fs.size:=(by grind);have:=hf j fs[j] (by simp [hj2])
     grind
    grind
   .cases h
  .cases h
def rowOf (ks:List IntKind) (c:Nat->Int):List BA:=List.zipWith BA.int ks ((List.range ks.length).map c)
theorem WI (ks:List IntKind) (c:Nat->Int) (j:Nat) (h:j<(rowOf ks c).length): ∃hk:j<ks.length,(rowOf ks c)[j]=.int ks[j] (c j):=by
 grind [rowOf]
theorem UA {e:TypeId} {ks:List IntKind} (hk:Hp P 30 e=some ks) {blk off len cap m fl:Nat} {D:Nat->DataW HH} {Pl:Nat->List MemPlace} (hl:len<=cap) (hlm:len<=m)
  (hi: ∀i,i<m-> ∃cs',w.cells? base ((⟨blk,off,none⟩:Addr).add (i*P.cellsOf e)) (P.cellsOf e)=some cs'/\DataW.trod enc P w base spare held fl e cs'=some (D i,Pl i)):
  ∃c:Nat->Nat->Int,Zp (Un fun k=>w.heap[k]?) (.dat len (fun i=>rowOf ks (c i))) (.slice (some ⟨blk,off,none⟩) len cap)/\ ∀i,i<len-> ∀(j:Nat) (k:IntKind),ks[j]? =some k->k.has (c i j):=by
 have key: ∀i,i<len-> ∃ns:List Int,ns.length=ks.length/\(∀j,j<ks.length-> ∃k,ks[j]? =some k/\w.cell? ⟨blk,off+(i*ks.length+j),none⟩=some (.int k (ns.getD j 0))/\k.has (ns.getD j 0)):=by
  intro i hil;obtain ⟨cs',hc',ht'⟩:=hi i (by omega);have I:=OF 30 e ks hk _ _ _ ht';obtain ⟨_,cZ,eD⟩:=World.cells?_some hc';have hce:P.cellsOf e=ks.length:=by rw [<-cZ];exact I.length
  obtain ⟨ns,n1,n2,n3⟩:=I;refine ⟨ns,n1,fun j hj=> ?_⟩;have hj2:j<ns.length:=by omega
  refine ⟨ks[j],by simp [hj],?_,?_⟩
  .grind [Yj]
  .have:(ks[j],ns[j])∈List.zip ks ns:=by
    rw [List.mem_iff_getElem]
    grind
   grind
 let c:Nat->Nat->Int:=fun i j=>if hil:i<len then ((key i hil).choose).getD j 0 else 0
 have hcs: ∀i,i<len-> ∀j,j<ks.length-> ∃k,ks[j]? =some k/\w.cell? ⟨blk,off+(i*ks.length+j),none⟩=some (.int k (c i j))/\k.has (c i j):=by
  grind
 refine ⟨c,.dat len _ blk off ks.length cap (fun i j=>.int (ks.getD j .i64) (c i j)) hl (fun i _=>by simp [rowOf]) (fun i j hil hj=> ?_) (fun i j hil hj=> ?_),fun i hil j k hkj=> ?_⟩
 .obtain ⟨hk2,e2⟩:=WI ks (c i) j hj;rw [e2];have:ks.getD j .i64 =ks[j]:=by simp [hk2]
  rw [this];exact .int _ _
 .obtain ⟨k,e1,e2,_⟩:=hcs i hil j hj;have:ks.getD j .i64 =k:=by simp [e1]
  rw [this];unfold World.cell? at e2;split at e2
  .rename_i cl el fz hb2;simp only [Option.isSome_none,Bool.false_eq_true,if_false] at e2;exact ⟨cl,el,fz,hb2,e2⟩
  .cases e2
 grind
theorem open_dat {t e:TypeId} {ks:List IntKind} {v:Value} {d:DataW HH} {p:List MemPlace} (ht:P.underlying t=some (.slice e)) (hk:Hp P 30 e=some ks) {b0:Nat} (hv:Value.okWide P w .any b0 t v) (h:DataW.Trod enc P w base spare held t v d p):
  ∃(n:Nat) (c:Nat->Nat->Int),Zp (Un fun k=>w.heap[k]?) (.dat n (fun i=>rowOf ks (c i))) v/\(∀i,i<n-> ∀(j:Nat) (k:IntKind),ks[j]? =some k->k.has (c i j))/\n<=maxLen:=by
 obtain ⟨fuel,h⟩:=h;have hvc:v.cells.toList=[v]:=by
  unfold Value.okWide at hv;rw [ht] at hv;unfold Cell.okWide at hv;rw [ht] at hv;cases v <;> first | rfl | (simp [Cell.ok,ht] at hv)
 rcases open_slice ht h with ⟨h0,_⟩ | ⟨a,len,cap,m,fl,D,Pl,hcs,hb,hl,dF,hm,_,hi⟩
 .rw [hvc] at h0;obtain rfl:v=.slice none 0 0:=by grind
  exact ⟨0,fun _ _=>0,.datn _,fun i hi=>absurd hi (Ax _),AG _⟩
 .rw [hvc] at hcs;obtain rfl:v=.slice (some a) len cap:=by grind
  have hspot:a.spot=none:=by unfold Value.okWide at hv;rw [ht] at hv;unfold Cell.okWide at hv;rw [ht] at hv;simp only [Cell.ok,ht] at hv;exact hv.2.2.2.1
  obtain ⟨blk,off,spot⟩:=a;simp only at hspot;subst hspot;have hlm:len<=m:=by grind
  obtain ⟨c,h1,h2⟩:=UA hk hl hlm hi;exact ⟨len,c,h1,h2,by omega⟩
end
end Go.Am
namespace Go.Proofs
open Go.Shelf Go.RowKit Go.Lib
variable {P:Program} {ρ:Ren}
theorem Tt {e:TypeId} (hc:P.cellsOf e=1) (count o n:Nat) (hn:o+n<=count):liesAt P P.depth e count o e n=true:=by have hd:P.depth=(2*(P.types.size+Made.depth)+1)+1:=rfl;rw [hd];simp only [liesAt,Bool.or_eq_true];left;rw [hd];simp [rowAt,hc,sameLayout];omega
theorem RB (w:World) (pt it ty e:TypeId) (hp:P.underlying pt=some (.pointer e)) (hc:P.cellsOf e=1) (g o cells:Nat) (hsh:w.shape? g=some (e,cells)) (l:List UInt8) (h0:l≠ []) (hn:o+l.length<=cells) (h63:l.length<=9223372036854775807)
  (eD: ∀j x,l[j]? =some x->w.cell? ((⟨g,o,none⟩:Addr).add j)=some (.int .u8 x.toNat)):
  (Builtin.unsafeString_ #[pt,it] ty #[.pointer (some ⟨g,o,none⟩),.int .i64 l.length]).run P w=.ok (.string ⟨l.toArray⟩) (w.freeze ⟨g,o,none⟩ l.length):=by
 have hl:l.length≠0:=by simpa using h0
 have hlb:=run_loadBytes (P:=P) w l ⟨g,o,none⟩ .empty eD;have hlies:=Tt (P:=P) hc (cells / P.cellsOf e) o l.length (by rw [hc];simpa using hn);have h63': ¬(9223372036854775807:Int)<(l.length:Int):=by omega
 have hmax:IntKind.i64.max=9223372036854775807:=rfl;obtain ⟨e1,e2,e3,hdef⟩: ∃e1 e2 e3,Builtin.unsafeString_ #[pt,it] ty #[.pointer (some ⟨g,o,none⟩),.int .i64 l.length]=
   (do
    let n<-asInt (.int .i64 l.length)
    if n<0 then runtimePanic e1
    if n>IntKind.i64.max then unsupported e2
    if n=0 then pure (.string .empty)
    else if<-variablesAt ⟨g,o,none⟩ (<-elemOf pt) n.toNat then do
     let s<-loadBytes ⟨g,o,none⟩ .empty n.toNat
     freeze ⟨g,o,none⟩ n.toNat
     pure (.string s)
    else unsupported e3):=⟨_,_,_,rfl⟩
 rw [hdef];have hneg: ¬(l.length:Int)<0:=by omega
 simp [asInt,asIntOf,hmax,h63',hneg,hl,variablesAt,hsh,elemOf,run_underlying hp,hlies,hlb]
theorem WP (w:World) (g o n k:Nat) (h:g≠k):(w.freeze ⟨g,o,none⟩ n).heap[k]? =w.heap[k]? :=by
 unfold World.freeze;split
 .rfl
 .simp only [Array.getElem?_modify];rw [if_neg h]
theorem Q3 (w:World) (p:Addr) (n:Nat):(w.freeze p n).heap.size =w.heap.size/\(w.freeze p n).os =w.os/\(w.freeze p n).tape =w.tape/\(w.freeze p n).output =w.output:=by unfold World.freeze;split <;> simp
set_option maxHeartbeats 4000000 in
set_option maxRecDepth 100000 in
theorem QT (L:Lays.n169 P ρ) (X:Builder.Extra P ρ) (b:Nat) (p:Value) (w:World) (hbk:w.heap[b]? =some (.cells #[p,Value.slice none 0 0] (ρ.t 72) (0,0))):
  Calls P (ρ.f 169) #[.pointer (some ⟨b,0,none⟩)] w fun e w'=>e=.returned (.string ⟨#[]⟩)/\w'=w.drew:=by
 have c1:w.drew.cell? ⟨b,1,none⟩=some (Value.slice none 0 0):=by have:w.drew.heap[b]? =some (.cells #[p,Value.slice none 0 0] (ρ.t 72) (0,0)):=hbk;rw [Lib.cell_of_heap this];rfl
 have hUS: ∀(W:World) (q:Option Addr),(Builtin.unsafeString_ #[(ρ.t 127),(ρ.t 3)] (ρ.t 9) #[.pointer q,.int .i64 0]).run P W=.ok (.string .empty) W:=fun W q=>Lib.run_unsafeString_none W _ _ _ q;have hSD:(Builtin.unsafeSliceData_ #[(ρ.t 37)] (ρ.t 127) #[.slice none 0 0]).run P w.drew=.ok (.pointer none) w.drew:=rfl;have mixed:=L.mixed;have t72:=L.t72;have a72:=L.a72;have z72:=L.z72;have v72:=L.v72;have u72:=run_underlying L.t72;have t70:=L.t70;have a70:=L.a70;have z70:=L.z70;have v70:=L.v70;have u70:=run_underlying L.t70;have t37:=L.t37;have a37:=L.a37;have z37:=L.z37;have v37:=L.v37;have u37:=run_underlying L.t37;have t127:=L.t127;have a127:=L.a127;have z127:=L.z127;have v127:=L.v127;have u127:=run_underlying L.t127;have t3:=L.t3;have a3:=L.a3;have z3:=L.z3;have v3:=L.v3;have u3:=run_underlying L.t3;have t9:=L.t9;have a9:=L.a9;have z9:=L.z9;have v9:=L.v9;have u9:=run_underlying L.t9;have t5:=X.t5;have a5:=X.a5;have z5:=X.z5;have v5:=X.v5;have u5:=run_underlying X.t5
 go_enter L.f169,Body.n169_ntmps ρ
 go_wp2
 go_region_o
 all_goals (go_wp2;go_ret;exact ⟨rfl,rfl⟩)
set_option maxHeartbeats 4000000 in
set_option maxRecDepth 100000 in
theorem Q1 (L:Lays.n169 P ρ) (X:Builder.Extra P ρ) (b:Nat) (p:Value) (w:World) (g o cap:Nat) (hc0:cap≠0) (hbk:w.heap[b]? =some (.cells #[p,Value.slice (some ⟨g,o,none⟩) 0 cap] (ρ.t 72) (0,0))):
  Calls P (ρ.f 169) #[.pointer (some ⟨b,0,none⟩)] w fun e w'=>e=.returned (.string ⟨#[]⟩)/\w'=w.drew:=by
 have c1:w.drew.cell? ⟨b,1,none⟩=some (Value.slice (some ⟨g,o,none⟩) 0 cap):=by have:w.drew.heap[b]? =some (.cells #[p,Value.slice (some ⟨g,o,none⟩) 0 cap] (ρ.t 72) (0,0)):=hbk;rw [Lib.cell_of_heap this];rfl
 have hUS: ∀(W:World) (q:Option Addr),(Builtin.unsafeString_ #[(ρ.t 127),(ρ.t 3)] (ρ.t 9) #[.pointer q,.int .i64 0]).run P W=.ok (.string .empty) W:=fun W q=>Lib.run_unsafeString_none W _ _ _ q;have hSD:(Builtin.unsafeSliceData_ #[(ρ.t 37)] (ρ.t 127) #[.slice (some ⟨g,o,none⟩) 0 cap]).run P w.drew=.ok (.pointer (some ⟨g,o,none⟩)) w.drew:=Lib.run_unsafeSliceData_row _ _ _ _ _ _ hc0;clear hc0;have mixed:=L.mixed;have t72:=L.t72;have a72:=L.a72;have z72:=L.z72;have v72:=L.v72;have u72:=run_underlying L.t72;have t70:=L.t70;have a70:=L.a70;have z70:=L.z70;have v70:=L.v70;have u70:=run_underlying L.t70;have t37:=L.t37;have a37:=L.a37;have z37:=L.z37;have v37:=L.v37;have u37:=run_underlying L.t37;have t127:=L.t127;have a127:=L.a127;have z127:=L.z127;have v127:=L.v127;have u127:=run_underlying L.t127;have t3:=L.t3;have a3:=L.a3;have z3:=L.z3;have v3:=L.v3;have u3:=run_underlying L.t3;have t9:=L.t9;have a9:=L.a9;have z9:=L.z9;have v9:=L.v9;have u9:=run_underlying L.t9;have t5:=X.t5;have a5:=X.a5;have z5:=X.z5;have v5:=X.v5;have u5:=run_underlying X.t5
 go_enter L.f169,Body.n169_ntmps ρ
 go_wp2
 go_region_o
 all_goals (go_wp2;go_ret;exact ⟨rfl,rfl⟩)
set_option maxHeartbeats 4000000 in
set_option maxRecDepth 100000 in
theorem RG (L:Lays.n169 P ρ) (X:Builder.Extra P ρ) (b:Nat) (p:Value) (w:World) (g o:Nat) (cur:Array Value) (hbk:w.heap[b]? =some (.cells #[p,Value.slice (some ⟨g,o,none⟩) 0 0] (ρ.t 72) (0,0))) (hg:w.heap[g]? =some (.cells cur (ρ.t 5) (0,0))):
  Calls P (ρ.f 169) #[.pointer (some ⟨b,0,none⟩)] w fun e w'=>e=.returned (.string ⟨#[]⟩)/\w'=w.drew.alloc (.view ⟨g,o,none⟩ (ρ.t 5)):=by
 have c1:w.drew.cell? ⟨b,1,none⟩=some (Value.slice (some ⟨g,o,none⟩) 0 0):=by have:w.drew.heap[b]? =some (.cells #[p,Value.slice (some ⟨g,o,none⟩) 0 0] (ρ.t 72) (0,0)):=hbk;rw [Lib.cell_of_heap this];rfl
 have hUS: ∀(W:World) (q:Option Addr),(Builtin.unsafeString_ #[(ρ.t 127),(ρ.t 3)] (ρ.t 9) #[.pointer q,.int .i64 0]).run P W=.ok (.string .empty) W:=fun W q=>Lib.run_unsafeString_none W _ _ _ q;have hlt:b<w.heap.size:=(Array.getElem?_eq_some_iff.1 hbk).1;have hSD:(Builtin.unsafeSliceData_ #[(ρ.t 37)] (ρ.t 127) #[.slice (some ⟨g,o,none⟩) 0 0]).run P w.drew=.ok (.pointer (some ⟨w.drew.heap.size,0,none⟩)) (w.drew.alloc (.view ⟨g,o,none⟩ (ρ.t 5))):=
  Lib.run_unsafeSliceData_zero w.drew _ _ (ρ.t 5) L.t127 ⟨g,o,none⟩ 0 ((ρ.t 5),cur.size) (by have hg':w.drew.heap[g]? =some (.cells cur (ρ.t 5) (0,0)):=hg;simp [World.shape?,hg'])
 have c2:(w.drew.alloc (.view ⟨g,o,none⟩ (ρ.t 5))).cell? ⟨b,1,none⟩=some (.slice (some ⟨g,o,none⟩) 0 0):=by have:(w.drew.alloc (.view ⟨g,o,none⟩ (ρ.t 5))).heap[b]? =_:=(Lib.alloc_old w.drew _ b hlt).trans hbk;rw [Lib.cell_of_heap this];rfl
 have c3:(w.alloc (.view ⟨g,o,none⟩ (ρ.t 5))).drew.cell? ⟨b,1,none⟩=some (.slice (some ⟨g,o,none⟩) 0 0):=c2;have c0:w.cell? ⟨b,1,none⟩=some (.slice (some ⟨g,o,none⟩) 0 0):=c1;have mixed:=L.mixed;have t72:=L.t72;have a72:=L.a72;have z72:=L.z72;have v72:=L.v72;have u72:=run_underlying L.t72;have t70:=L.t70;have a70:=L.a70;have z70:=L.z70;have v70:=L.v70;have u70:=run_underlying L.t70;have t37:=L.t37;have a37:=L.a37;have z37:=L.z37;have v37:=L.v37;have u37:=run_underlying L.t37;have t127:=L.t127;have a127:=L.a127;have z127:=L.z127;have v127:=L.v127;have u127:=run_underlying L.t127;have t3:=L.t3;have a3:=L.a3;have z3:=L.z3;have v3:=L.v3;have u3:=run_underlying L.t3;have t9:=L.t9;have a9:=L.a9;have z9:=L.z9;have v9:=L.v9;have u9:=run_underlying L.t9;have t5:=X.t5;have a5:=X.a5;have z5:=X.z5;have v5:=X.v5;have u5:=run_underlying X.t5
 go_enter L.f169,Body.n169_ntmps ρ
 go_wp2
 go_region_o
 all_goals (go_wp2;go_ret;exact ⟨rfl,rfl⟩)
set_option maxHeartbeats 4000000 in
set_option maxRecDepth 100000 in
theorem Q2 (L:Lays.n169 P ρ) (X:Builder.Extra P ρ) (b:Nat) (p:Value) (w:World) (g o cap:Nat) (cur:Array Value) (l:List UInt8) (h0:l≠ []) (dF:l.length<=cap) (h63:l.length<=9223372036854775807) (hbk:w.heap[b]? =some (.cells #[p,Value.slice (some ⟨g,o,none⟩) l.length cap] (ρ.t 72) (0,0))) (hg:w.heap[g]? =some (.cells cur (ρ.t 5) (0,0))) (hn:o+l.length<=cur.size) (hc: ∀j x,l[j]? =some x->cur[o+j]? =some (.int .u8 x.toNat)):
  Calls P (ρ.f 169) #[.pointer (some ⟨b,0,none⟩)] w fun e w'=>e=.returned (.string ⟨l.toArray⟩)/\w'=w.drew.freeze ⟨g,o,none⟩ l.length:=by
 have c1:w.drew.cell? ⟨b,1,none⟩=some (Value.slice (some ⟨g,o,none⟩) l.length cap):=by have:w.drew.heap[b]? =some (.cells #[p,Value.slice (some ⟨g,o,none⟩) l.length cap] (ρ.t 72) (0,0)):=hbk;rw [Lib.cell_of_heap this];rfl
 have hl0:l.length≠0:=by simpa using h0
 have hSD:(Builtin.unsafeSliceData_ #[(ρ.t 37)] (ρ.t 127) #[.slice (some ⟨g,o,none⟩) l.length cap]).run P w.drew=.ok (.pointer (some ⟨g,o,none⟩)) w.drew:=
  Lib.run_unsafeSliceData_row _ _ _ _ _ _ (by omega)
 have hUS:(Builtin.unsafeString_ #[(ρ.t 127),(ρ.t 3)] (ρ.t 9) #[.pointer (some ⟨g,o,none⟩),.int .i64 l.length]).run P w.drew=.ok (.string ⟨l.toArray⟩) (w.drew.freeze ⟨g,o,none⟩ l.length):=by
  have hg':w.drew.heap[g]? =some (.cells cur (ρ.t 5) (0,0)):=hg;refine RB w.drew (ρ.t 127) (ρ.t 3) (ρ.t 9) (ρ.t 5) L.t127 X.cellsByte g o cur.size (by simp [World.shape?,hg']) l h0 hn h63 ?_;intro j x hx;have:=hc j x hx;have e:(⟨g,o,none⟩:Addr).add j=⟨g,o+j,none⟩:=by
   unfold Addr.add;by_cases hj:j=0
   .subst hj;simp
   .simp [hj]
  rw [e];simp [World.cell?,hg',this]
 clear hn hc hg dF;have mixed:=L.mixed;have t72:=L.t72;have a72:=L.a72;have z72:=L.z72;have v72:=L.v72;have u72:=run_underlying L.t72;have t70:=L.t70;have a70:=L.a70;have z70:=L.z70;have v70:=L.v70;have u70:=run_underlying L.t70;have t37:=L.t37;have a37:=L.a37;have z37:=L.z37;have v37:=L.v37;have u37:=run_underlying L.t37;have t127:=L.t127;have a127:=L.a127;have z127:=L.z127;have v127:=L.v127;have u127:=run_underlying L.t127;have t3:=L.t3;have a3:=L.a3;have z3:=L.z3;have v3:=L.v3;have u3:=run_underlying L.t3;have t9:=L.t9;have a9:=L.a9;have z9:=L.z9;have v9:=L.v9;have u9:=run_underlying L.t9;have t5:=X.t5;have a5:=X.a5;have z5:=X.z5;have v5:=X.v5;have u5:=run_underlying X.t5
 go_enter L.f169,Body.n169_ntmps ρ
 go_wp2
 go_region_o
 all_goals (go_wp2;go_ret;exact ⟨rfl,rfl⟩)
set_option maxHeartbeats 1000000 in
theorem VF (L:Lays.n146 P ρ) (hi9:(P.info? (ρ.t 9)).map (fun i=>(i.zero,i.size,i.bytes))=some (some (.string ByteArray.empty),1,16)) (s:ByteArray) (b:UInt8) (w:World) (hs:s.size<4294967281):
  Calls P (ρ.f 146) #[.string s,.string ⟨#[b]⟩] w fun e w'=>
   e=.returned (.slice (some ⟨w.heap.size,0,none⟩) (Lib.countB s ⟨#[b]⟩+1) (Lib.countB s ⟨#[b]⟩+1))/\w'=w.alloc (.cells ((Lib.splitB ⟨#[b]⟩ 0 (Lib.countB s ⟨#[b]⟩) s).map Value.string).toArray (ρ.t 9)):=by
 have h1:1<=(⟨#[b]⟩:ByteArray).size :=Nat.le_refl 1;have hle:=Lib.countB_le ⟨#[b]⟩ h1 s.size s (Nat.le_refl _);have cZ:=Lib.splitB_all ⟨#[b]⟩ h1 0 _ s rfl;have c:=Any.strings_genSplit_core {L with} hi9 s ⟨#[b]⟩ 0 (-1) (Lib.countB s ⟨#[b]⟩+1) w hs h1 (Nat.zero_le _)
  (fun x c hx=>(Any.strings_Index_one {L with} x b _).mono fun e w' ⟨he,hw⟩=>⟨by rw [he];show _=Ending.returned (Value.int .i64 (Lib.index x.data.toList [b]));rw [Lib.index_one],hw⟩)
  ((Any.strings_Count_one {L with} s b w).mono fun e w' ⟨he,hw⟩=>⟨by rw [he];show _=Ending.returned (Value.int .i64 ((Lib.count s.data.toList [b]:Nat):Int));rw [Lib.count_one];rfl,hw⟩) (by decide) (by decide) (by rw [if_pos (by decide)];omega)
 rw [Nat.add_sub_cancel,cZ] at c;have e2:Lib.cellsOf (Lib.splitB ⟨#[b]⟩ 0 (Lib.countB s ⟨#[b]⟩) s) (Lib.countB s ⟨#[b]⟩+1)=((Lib.splitB ⟨#[b]⟩ 0 (Lib.countB s ⟨#[b]⟩) s).map Value.string).toArray :=by rw [<-cZ];exact Lib.cellsOf_full _
 rw [e2] at c;have t3:=L.t3;have t9:=L.t9;have t31:=L.t31;have a3:=L.a3;have a9:=L.a9;have a31:=L.a31;have z3:=L.z3;have v3:=L.v3;have z9:=L.z9;have v9:=L.v9;have z31:=L.z31;have v31:=L.v31;have e221: ∀args w,(callFunc (ρ.f 221) args).run P w=.ok (.enter (ρ.f 221) args) w:=enters_of L.f221 (by kernel_rfl) rfl
 go_enter L.f146,Body.n146_ntmps ρ
 go_wp2_with (go_at_fn (ρ.f 221);refine c.mono ?_;rintro e w' ⟨rfl,hw⟩;rw [hw])
 go_ret
 exact ⟨rfl,rfl⟩
end Go.Proofs
end
