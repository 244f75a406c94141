/- A part of a proof: several texts in one. -/
import Derived.Test.YtpddoeiakpbkbaaGreatLm1
import Derived.Sort.Grow
import Derived.Deep.Slices
import Derived.Deep.Fields
import Derived.ChangeSame
import Derived.OpenShut
import Derived.Test.YtpddoeiakpbkbaaGreatProg
import Derived.Sort.AssemblyPlain
import Derived.Lib.BitFns
import Derived.Shelf.GgSortFunc.InsertionK
set_option maxRecDepth 1000000
set_option maxHeartbeats 8000000
set_option linter.unusedVariables false
set_option linter.unusedSimpArgs false
noncomputable section
namespace Go.Am
open IntKind (wrap)
structure y0e where
 keep:List Nat
 frz:List Nat
 slots:List (Option (List Nat))
 lslots:List (Option (List Nat)):=[]
def y7i (b:Nat):List Nat→Nat→Option Nat
 | [],_=>none
 | x::l,i=>bif Nat.beq x b then some i else y7i b l (i+1)
def hasN (b:Nat):List Nat→Bool
 | []=>false
 | x::l=>bif Nat.beq x b then true else hasN b l
def Xh (cells:List AVal) (off sz:Nat):Nat→List AVal:=fun k=>(cells.drop (off+k*sz)).take sz
def frzV (P:Program) (blk:ABlk):AVal→AVal
 | .ptr _ o=>.dptr (blk.cells.drop o)
 | .sl _ off len _=>match P.info? blk.ty with
  | some i=>bif Nat.ble (off+len*i.size) blk.cells.length then .dat len (Xh blk.cells off i.size) else .undef
  | none=>.undef
 | .sla _ sz off len _=>match blk.arr with
  | some A=>bif Nat.beq A.sz sz&&Nat.ble (off+len) A.n then .dat len (fun k=>A.get (off+k)) else .undef
  | none=>.undef
 | _=>.undef
def renB (P:Program) (mem:Mem) (N:y0e) (b:Nat) (v:AVal) (f:Nat→AVal):AVal:=
 match y7i b N.keep 0 with
 | some b'=>f b'
 | none=>bif hasN b N.frz then match Yi mem b with
   | some blk=>frzV P blk v
   | none=>.undef
  else .undef
def ren (P:Program) (mem:Mem) (N:y0e):Nat→AVal→AVal
 | 0,_=>.undef
 | d+1,v=>match v with
  | .ptr b o=>renB P mem N b (.ptr b o) fun b'=>.ptr b' o
  | .sl b off len cap=>renB P mem N b (.sl b off len cap) fun b'=>.sl b' off len cap
  | .sla b sz off len cap=>renB P mem N b (.sla b sz off len cap) fun b'=>.sla b' sz off len cap
  | .epa b sz i fo=>renB P mem N b (.epa b sz i fo) fun b'=>.epa b' sz i fo
  | .yld j=>match y7i j N.keep 0 with
   | some j'=>.yld j'
   | none=>.undef
  | .slv b sz off len=>match y7i b N.keep 0 with
   | some b'=>.slv b' sz off len
   | none=>.undef
  | .agg cs=>.agg (cs.map (ren P mem N d))
  | .tup cs=>.tup (cs.map (ren P mem N d))
  | .fn f cs=>.fn f (cs.map (ren P mem N d))
  | .fnb f cs=>.fnb f (cs.map (ren P mem N d))
  | .ifc t v=>.ifc t (ren P mem N d v)
  | v=>v
def T.map (f:AVal→AVal) (t:T AVal):T AVal:=
 T.rec (motive:=fun _=>T AVal) .leaf (fun v _ _ l r=>.node (f v) l r) t
def y7f (f:AVal→AVal) (env:T AVal):List Nat→T AVal
 | []=>.leaf
 | t::l=>T.set .undef (y7f f env l) t (f (T.get .undef env t))
def u9r (f:AVal→AVal) (env:T AVal):Option (List Nat)→T AVal
 | none=>T.map f env
 | some l=>y7f f env l
def z8q (f:AVal→AVal):Rws→Rws
 | .flat g=>.flat g
 | .one r cs b=>.one r (cs.map f) (z8q f b)
 | .alt c a b=>.alt c (z8q f a) (z8q f b)
def x0p (P:Program) (mem:Mem) (N:y0e):ABlk→ABlk
 | ⟨cells,ty,none⟩=>⟨cells.map (ren P mem N 6),ty,none⟩
 | ⟨_,ty,some A⟩=>⟨Ym A.n (z8q (ren P mem N 6) A.rw).get,ty,some ⟨A.sz,A.n,z8q (ren P mem N 6) A.rw⟩⟩
def x1k :Rws→Bool
 | .flat g=>pd (∀i,(g i).all (pf 6)=true)
 | .one _ _ b=>x1k b
 | .alt _ a b=>x1k a&&x1k b
def u5c (blk:ABlk):Bool:=match blk.arr with
 | none=>true
 | some A=>x1k A.rw
def z9e (P:Program) (mem:Mem) (N:y0e):List Nat→Nat→Mem×Bool
 | [],_=>(.leaf,true)
 | b::l,i=>match z9e P mem N l (i+1) with
  | (m,o)=>match Yi mem b with
   | none=>(m,o)
   | some blk=>(Wv m i (some (x0p P mem N blk)),u5c blk&&o)
def z9i (mem:Mem):List Nat→Bool
 | []=>true
 | b::l=>match Yi mem b with
  | none=>z9i mem l
  | some blk=>(match blk.arr with
   | none=>blk.cells.all (pf 6)
   | some A=>pd (∀i,(A.get i).all (pf 6)=true))&&z9i mem l
def w1z (f:AVal→AVal) (lps:Loops):List Nat→Nat→List (Option (List Nat))→Loops
 | [],_,_=>.leaf
 | b::l,i,sl=>match y4u lps b with
  | none=>w1z f lps l (i+1) sl.tail
  | some ⟨st,pend,n,env,params,assign,body⟩=>v2h (w1z f lps l (i+1) sl.tail) i (some ⟨st,pend,n,u9r f env (sl.headD none),params,assign,body⟩)
def y0w (keep:List Nat):Item→Option Item
 | .inRangeFunc j=>(y7i j keep 0).map .inRangeFunc
 | .endRangeFunc j=>(y7i j keep 0).map .endRangeFunc
 | x=>bif z0x x then some x else none
def z5y (keep:List Nat):List Item→Option (List Item)
 | []=>some []
 | x::l=>match y0w keep x,z5y keep l with
  | some y,some m=>some (y::m)
  | _,_=>none
def x5q (keep:List Nat):Option Nat→Option (Option Nat)
 | none=>some none
 | some j=>(y7i j keep 0).map some
def w9j (f:AVal→AVal) (keep:List Nat):List AFr→List (Option (List Nat))→Option (List AFr)
 | [],_=>some []
 | ⟨cx,ro,todo,rnd,rs,env⟩::cs,sl=>match z5y keep todo,x5q keep rnd,w9j f keep cs sl.tail with
  | some todo',some rnd',some cs'=>some (⟨cx,ro,todo',rnd',rs,u9r f env (sl.headD none)⟩::cs')
  | _,_,_=>none
def disj :List Nat→List Nat→Bool
 | [],_=>true
 | b::l,frz=> !hasN b frz&&(!hasN b l&&disj l frz)
def u3m (P:Program) (N:y0e):Cfg→Option Cfg
 | ⟨cx,ro,todo,rnd,rs,⟨env,mem,next,orc,ob⟩,cs,lps⟩=>
  match z5y N.keep todo,x5q N.keep rnd,w9j (ren P mem N 6) N.keep cs N.slots.tail with
  | some todo',some rnd',some cs'=>
   bif disj N.keep N.frz then
    match z9e P mem N N.keep 0 with
    | (mem',o)=>some ⟨cx,ro,todo',rnd',rs,⟨u9r (ren P mem N 6) env (N.slots.headD none),mem',N.keep.length,[],o&&(z9i mem N.frz&&ob)⟩,cs',w1z (ren P mem N 6) lps N.keep 0 N.lslots⟩
   else none
  | _,_,_=>none
def atP :Code→List Nat→List Item→Code×List Item
 | c,[],k=>(c,k)
 | .seq a b,0::p,k=>atP a p (.code b::k)
 | .seq _ b,_::p,k=>atP b p k
 | .block id c,_::p,k=>atP c p (.inBlock id::k)
 | .loop c,_::p,k=>atP c p (.inLoop c::k)
 | .scope c,_::p,k=>atP c p (.inScope c::k)
 | .cond _ a _,0::p,k=>atP a p k
 | .cond _ _ b,_::p,k=>atP b p k
 | .rangeFunc _ _ a b,0::p,_=>atP a p [.beginRound,.code b]
 | .rangeFunc _ _ _ b,_::p,_=>atP b p []
 | c,_::_,k=>(c,k)
def Zb (P:Program) (f:FuncId) (p:List Nat) (j:Nat):List Item:=match atP (j1v P f) p [] with
 | (c,k)=>(.code c::k).drop j
def Wt (P:Program) (f:FuncId) (p:List Nat):Code:=(atP (j1v P f) p []).1
def Vm (P:Program) (f:FuncId) (p:List Nat) (i:Nat):Option RegOps:=match Wt P f p with
 | .region _ ops _=>some (ops,i,ops.toList.drop i)
 | _=>none
def u4q (P:Program) (S:Specs) (Rc:Runner) (n:Nat):Cfg→Option Cfg:=
 Nat.rec (motive:=fun _=>Cfg→Option Cfg) (fun C=>some C) (fun _ R C=>match w7u P S Rc C with
  | some C'=>R C'
  | none=>none) n
section
variable {P:Program}
theorem Jv {p:Prop} (h:pd p=true):p:= @Aw p (Classical.propDecidable p) h
theorem Xy {p:Prop} (h:p):pd p=true:= @An p (Classical.propDecidable p) h
theorem x1j {b:Nat}: ∀{l:List Nat} {i j:Nat},y7i b l i=some j→i≤j∧l[j - i]? =some b
 | [],i,j,h=>by cases h
 | x::l,i,j,h=>by
  unfold y7i at h;rcases Jp h with ⟨hx,h⟩ | ⟨_,h⟩
  ·simp_all
  ·obtain ⟨h1,h2⟩:=x1j h
   grind
theorem y5a {b:Nat}: ∀{l:List Nat},hasN b l=true↔b∈l
 | []=>by simp [hasN]
 | x::l=>by
  unfold hasN;cases hx:Nat.beq x b with
  | true=>simp [Ai hx]
  | false=>
   have:x≠b:=fun e=>by rw [e,Nat.beq_refl] at hx;cases hx
   rw [Aa,y5a,AI];exact ⟨.inr,fun h=>h.resolve_left fun e=>this e.symm⟩
theorem y7s : ∀{l frz:List Nat},disj l frz=true→l.Nodup∧ ∀b∈l,b ∉ frz
 | [],_,_=>⟨List.nodup_nil,fun b hb=>by cases hb⟩
 | x::l,frz,h=>by
  unfold disj at h;simp only [Ae,Be] at h;obtain ⟨h1,h2,h3⟩:=h;obtain ⟨i1,i2⟩:=y7s h3;have n1:x ∉ frz:=fun hm=>by rw [y5a.2 hm] at h1;cases h1
  have n2:x ∉ l:=fun hm=>by rw [y5a.2 hm] at h2;cases h2
  exact ⟨List.nodup_cons.2 ⟨n2,i1⟩,fun b hb=>by
   rcases AI.1 hb with rfl | hb
   ·exact n1
   ·exact i2 b hb⟩
def Fz (ρ:Rho) (mem:Mem) (N:y0e) (k:Nat):Prop:= ∃b l,b∈N.frz∧ρ b=some l∧(Yi mem b).isSome =true∧l.blk=k
def y6f (ρ:Rho) (mem:Mem) (N:y0e) (w:World):Rho:=
 ⟨fun b'=>(N.keep[b']?).bind fun b=>ρ b,fun k=> @ite _ (Fz ρ mem N k) (Classical.propDecidable _) (w.heap[k]?) (ρ.fz k),fun j'=>(N.keep[j']?).bind fun j=>ρ.lp j⟩
theorem z5w {ρ:Rho} {mem:Mem} {next:Nat} {w:World} (h:Rel ρ mem next w) (N:y0e) {k:Nat} {o:Obj} (e:ρ.fz k=some o):(y6f ρ mem N w).fz k=some o:=by
 show @ite _ (Fz ρ mem N k) (Classical.propDecidable _) (w.heap[k]?) (ρ.fz k)=some o;by_cases hf:Fz ρ mem N k
 ·obtain ⟨b,l,_,hb,hm,rfl⟩:=hf;have:=h.sep b l hb hm
  grind
 grind
theorem w0d {ρ:Rho} {mem:Mem} {w:World} {N:y0e} {b:Nat} {l:Loc} (hb:b∈N.frz) (hl:ρ b=some l) (hm:(Yi mem b).isSome =true):(y6f ρ mem N w).fz l.blk=w.heap[l.blk]? :=
 AL ⟨b,l,hb,hl,hm,rfl⟩
theorem z4v {ρ:Rho} {mem:Mem} {next:Nat} {w:World} (h:Rel ρ mem next w) (N:y0e):ρ.bare.le (y6f ρ mem N w).bare :=⟨fun _ _ e=>(by cases e),fun _ _ e=>z5w h N e,fun _ _ e=>(by cases e)⟩
theorem Ke {ρ:Rho} {mem:Mem} {w:World} {N:y0e} {b b':Nat} (h:y7i b N.keep 0=some b'):(y6f ρ mem N w) b'=ρ b∧(y6f ρ mem N w).lp b'=ρ.lp b:=by
 obtain ⟨_,h2⟩:=x1j h;rw [Nat.sub_zero] at h2;constructor
 ·show (N.keep[b']?).bind _=_;rw [h2];rfl
 ·show (N.keep[b']?).bind _=_;rw [h2];rfl
theorem y1j {mem:Mem}: ∀{frz:List Nat},z9i mem frz=true→ ∀b∈frz,∀blk,Yi mem b=some blk→(match blk.arr with | none=>blk.cells.all (pf 6)=true | some A=> ∀i,(A.get i).all (pf 6)=true)
 | [],_,b,hb,_,_=>by cases hb
 | x::l,h,b,hb,blk,hm=>by
  unfold z9i at h;rcases AI.1 hb with rfl | hb
  ·rw [hm] at h;simp only [Ae] at h;cases hA:blk.arr with
   | none=>have:=h.1;rw [hA] at this;exact this
   | some A=>have:=h.1;rw [hA] at this;exact Jv this
  ·cases hx:Yi mem x with
   | none=>rw [hx] at h;exact y1j h b hb blk hm
   | some blk'=>rw [hx] at h;simp only [Ae] at h;exact y1j h.2 b hb blk hm
theorem y7l {mem:Mem} {next:Nat} {w:World} {ρ:Rho} (h:Rel ρ mem next w) {N:y0e} (ho:z9i mem N.frz=true) {b:Nat} (hb:b∈N.frz) {blk:ABlk} (hm:Yi mem b=some blk) {l:Loc} (hl:ρ b=some l):
  ∃val:Nat→Value,∀(i:Nat) (hi:i<blk.cells.length),Yx (y6f ρ mem N w).bare blk.cells[i] (val i)∧x7w (y6f ρ mem N w).fz l.blk (l.base+i) (val i):=by
 obtain ⟨hn,ht,har,cs,el,h1,h2,h3⟩:=h.blk b l blk hl hm;refine ⟨fun i=>(cs[l.base+i]?).getD undef,fun i hi=> ?_⟩;obtain ⟨v,e1,e2⟩:=h3 i hi;have hpf:pf 6 blk.cells[i]=true:=by
  have:=y1j ho b hb blk hm;cases hA:blk.arr with
  | none=>grind
  | some A=>
   rw [hA] at this;obtain ⟨q1,_,_⟩:=har A hA;have hmem:blk.cells[i]∈Ym A.n A.get:=by grind
   grind [Ym]
 dsimp only;rw [e1];refine ⟨(Js 6 _ _ hpf e2).mono (z4v h N),cs,el,(0,0),?_,e1⟩
 grind [w0d]
theorem v0p {mem:Mem} {next:Nat} {w:World} {ρ:Rho} (h:Rel ρ mem next w) {N:y0e} (ho:z9i mem N.frz=true) {b:Nat} (hb:b∈N.frz) {blk:ABlk} (hm:Yi mem b=some blk) {v:AVal} {u:Value} (hv:Yx ρ v u)
  (hvb:(∃o,v=.ptr b o)∨(∃off len cap,v=.sl b off len cap)∨(∃sz off len cap,v=.sla b sz off len cap)∨ ∃sz i fo,v=.epa b sz i fo):Yx (y6f ρ mem N w) (frzV P blk v) u:=by
 rcases hvb with ⟨o,rfl⟩ | ⟨off,len,cap,rfl⟩ | ⟨sz,off,len,cap,rfl⟩ | ⟨sz,i,fo,rfl⟩
 ·cases hv with
  | ptr _ _ l hl=>
   obtain ⟨val,eD⟩:=y7l h ho hb hm hl;refine .dptr _ _ _ (fun j=>val (o+j)) (fun j hj=> ?_) (fun j hj=> ?_);all_goals grind
 ·simp only [frzV];split
  ·rename_i i hi;cases hc:Nat.ble (off+len*i.size) blk.cells.length with
   | false=>exact .undef _
   | true=>
    rw [Ab];have hle:=Ak hc;cases hv with
    | sl _ _ _ _ l c hl _ dK=>
     obtain ⟨val,eD⟩:=y7l h ho hb hm hl;have hin: ∀k,k<len→k*i.size+i.size≤len*i.size:=fun k hk=>by
      have:=AA i.size (show k+1≤len from hk)
      grind
     refine .dat len _ l.blk (l.base+off) i.size c (fun k j=>val (off+(k*i.size+j))) dK (fun k hk=> ?_) (fun k j hk hj=> ?_) (fun k j hk hj=> ?_);all_goals grind [Xh]
  ·exact .undef _
 ·simp only [frzV];split
  ·rename_i A hA;cases hc:(Nat.beq A.sz sz&&Nat.ble (off+len) A.n) with
   | false=>exact .undef _
   | true=>
    rw [Ab];simp only [Ae] at hc;obtain rfl:=Ai hc.1;have hle:=Ak hc.2;cases hv with
    | slan=>exact .datn _
    | sla _ _ _ _ _ l c hl _ dK=>
     obtain ⟨val,eD⟩:=y7l h ho hb hm hl;obtain ⟨q1,q2,q3⟩:=(h.blk b l blk hl hm).arr A hA;have fE:=Yb A.n q3;have hrow: ∀k j,k<len→j<A.sz→ ∃hi:(off+k)*A.sz+j<blk.cells.length,blk.cells[(off+k)*A.sz+j]? =(A.get (off+k))[j]? :=fun k j hk hj=>by
      grind [Vu]
     refine .dat len _ l.blk (l.base+off*A.sz) A.sz c (fun k j=>val ((off+k)*A.sz+j)) dK (fun k hk=>q3 _ (by omega)) (fun k j hk hj=> ?_) (fun k j hk hj=> ?_);all_goals grind
  ·exact .undef _
 ·exact .undef _
theorem z2l {mem:Mem} {next:Nat} {w:World} {ρ:Rho} (h:Rel ρ mem next w) {N:y0e} (ho:z9i mem N.frz=true) {b:Nat} {v:AVal} {u:Value} {f:Nat→AVal} (hv:Yx ρ v u)
  (hvb:(∃o,v=.ptr b o)∨(∃off len cap,v=.sl b off len cap)∨(∃sz off len cap,v=.sla b sz off len cap)∨ ∃sz i fo,v=.epa b sz i fo)
  (hf: ∀b',y7i b N.keep 0=some b'→Yx (y6f ρ mem N w) (f b') u):Yx (y6f ρ mem N w) (renB P mem N b v f) u:=by
 unfold renB;split
 ·grind
 ·cases hc:hasN b N.frz with
  | false=>exact .undef _
  | true=>
   rw [Ab];split
   ·grind [v0p,y5a]
   ·exact .undef _
theorem z4z {mem:Mem} {next:Nat} {w:World} {ρ:Rho} (h:Rel ρ mem next w) {N:y0e} (ho:z9i mem N.frz=true): ∀(d:Nat) (v:AVal) (u:Value),Yx ρ v u→Yx (y6f ρ mem N w) (ren P mem N d v) u
 | 0,_,_,_=>.undef _
 | d+1,v,u,hv=>by
  have ih:=fun v u=>z4z h ho (N:=N) d v u;have list: ∀{cs:List AVal} {vs:Array Value},cs.length=vs.size→(∀(i:Nat) (h1:i<cs.length) (h2:i<vs.size),Yx ρ cs[i] vs[i])→
    (cs.map (ren P mem N d)).length =vs.size∧ ∀(i:Nat) (h1:i<(cs.map (ren P mem N d)).length) (h2:i<vs.size),Yx (y6f ρ mem N w) (cs.map (ren P mem N d))[i] vs[i]:=fun hl hh=>
   ⟨by simpa using hl,fun i h1 h2=>by simpa using ih _ _ (hh i (by simpa using h1) h2)⟩
  unfold ren;cases hv with
  | undef=>exact .undef _
  | bool b=>exact .bool b
  | int k n=>exact .int k n
  | str s=>exact .str s
  | agg cs vs hl hh=>exact .agg _ _ (list hl hh).1 (list hl hh).2
  | tup cs vs hl hh=>exact .tup _ _ (list hl hh).1 (list hl hh).2
  | fn f cs vs hl hh=>exact .fn f _ _ (list hl hh).1 (list hl hh).2
  | fnb f cs vs hl hh=>exact .fnb f _ _ (list hl hh).1 (list hl hh).2
  | ptr b o l hl=>exact z2l h ho (.ptr b o l hl) (.inl ⟨o,rfl⟩) fun b' hb'=>.ptr b' o l (by rw [(Ke hb').1];exact hl)
  | nilp=>exact .nilp
  | sl b off len cap l c hl hc dK=>exact z2l h ho (.sl b off len cap l c hl hc dK) (.inr (.inl ⟨off,len,cap,rfl⟩)) fun b' hb'=>.sl b' off len cap l c (by rw [(Ke hb').1];exact hl) hc dK
  | nils=>exact .nils
  | sla b sz off len cap l c hl hc dK=>exact z2l h ho (.sla b sz off len cap l c hl hc dK) (.inr (.inr (.inl ⟨sz,off,len,cap,rfl⟩))) fun b' hb'=>.sla b' sz off len cap l c (by rw [(Ke hb').1];exact hl) hc dK
  | slan b sz off cap=>exact z2l h ho (.slan b sz off cap) (.inr (.inr (.inl ⟨sz,off,0,cap,rfl⟩))) fun b' hb'=>.slan b' sz off cap
  | epa b sz i fo l hl=>exact z2l h ho (.epa b sz i fo l hl) (.inr (.inr (.inr ⟨sz,i,fo,rfl⟩))) fun b' hb'=>.epa b' sz i fo l (by rw [(Ke hb').1];exact hl)
  | nilf=>exact .nilf
  | yld j l hl=>
   simp only;split
   ·rename_i j' hj';exact .yld j' l (by rw [(Ke hj').2];exact hl)
   ·exact .undef _
  | slv b sz off len l c hl dK=>
   simp only;split
   ·rename_i j' hj';exact .slv j' sz off len l c (by rw [(Ke hj').1];exact hl) dK
   ·exact .undef _
  | slve b sz off blk base c=>
   simp only;split
   ·exact .slve _ sz off blk base c
   ·exact .undef _
  | slvn b sz off=>
   simp only;split
   ·exact .slvn _ sz off
   ·exact .undef _
  | ifc t a v hv=>exact .ifc t _ _ (ih _ _ hv)
  | nili=>exact .nili
  | dat len get blk base sz cap val dR hsz hv hh=>refine .dat len get blk base sz cap val dR hsz (fun i j hi hj=>(hv i j hi hj).mono (z4v h N)) (fun i j hi hj=> ?_);obtain ⟨cs,el,fz,e1,e2⟩:=hh i j hi hj;exact ⟨cs,el,fz,z5w h N e1,e2⟩
  | datn get=>exact .datn get
  | datz get a c=>exact .datz get a c
  | nnl len get a c hd=>exact .nnl len get a c ((Js 1 _ _ rfl hd).mono (Rho.le_trans (z4v h N) (y7z _)))
  | dptr cs blk base val hv hh=>refine .dptr cs blk base val (fun j hj=>(hv j hj).mono (z4v h N)) (fun j hj=> ?_);obtain ⟨cs',el,fz,e1,e2⟩:=hh j hj;exact ⟨cs',el,fz,z5w h N e1,e2⟩
theorem T.get_map {f:AVal→AVal} (hf:f .undef =.undef): ∀(t:T AVal) (i:Nat),T.get .undef (T.map f t) i=f (T.get .undef t i)
 | .leaf,i=>hf.symm
 | .node v l r,0=>rfl
 | .node v l r,i+1=>by
  show T.get .undef (.node (f v) (T.map f l) (T.map f r)) (i+1)=_;rw [T.get_succ,T.get_succ];split
  ·exact T.get_map hf l _
  ·exact T.get_map hf r _
theorem y1f {f:AVal→AVal} (env:T AVal): ∀(L:List Nat) (t:Nat),T.get .undef (y7f f env L) t=if t∈L then f (T.get .undef env t) else .undef
 | [],t=>by simp [y7f]
 | x::L,t=>by
  unfold y7f;rw [T.get_set,y1f env L t];by_cases h:t=x
  ·subst h;simp
  ·simp [h]
theorem w5l {mem:Mem} {next:Nat} {w:World} {ρ:Rho} (h:Rel ρ mem next w) {N:y0e} (ho:z9i mem N.frz=true) {env:T AVal} {n:Nat} {tmps:Array Value} (he:Wa ρ env n tmps): ∀(L:Option (List Nat)),Wa (y6f ρ mem N w) (u9r (ren P mem N 6) env L) n tmps
 | none=>by
  refine ⟨he.size,fun i=> ?_,fun i hi=> ?_⟩
  ·show Yx _ (T.get .undef (T.map (ren P mem N 6) env) i) _;rw [T.get_map rfl];exact z4z h ho 6 _ _ (he.get i)
  ·show T.get .undef (T.map (ren P mem N 6) env) i=_;rw [T.get_map rfl,he.out i hi];rfl
 | some L=>by
  refine ⟨he.size,fun i=> ?_,fun i hi=> ?_⟩
  ·show Yx _ (T.get .undef (y7f (ren P mem N 6) env L) i) _;rw [y1f];split
   ·exact z4z h ho 6 _ _ (he.get i)
   ·exact .undef _
  ·show T.get .undef (y7f (ren P mem N 6) env L) i=_;rw [y1f,he.out i hi];split <;> rfl
theorem x6n {mem:Mem} {N:y0e}: ∀(l:List Nat) (i j:Nat),Yi (z9e P mem N l i).1 j=if i≤j then (l[j - i]?).bind fun b=>(Yi mem b).map (x0p P mem N) else none
 | [],i,j=>by simp [z9e,Yi]
 | b::l,i,j=>by
  unfold z9e;have ih:=x6n (mem:=mem) (N:=N) l (i+1);have tail:i<j→(b::l)[j - i]? =l[j - (i+1)]? :=fun h=>by rw [show j - i=(j - (i+1))+1 by omega];rfl
  cases hm:Yi mem b with
  | none=>
   show Yi (z9e P mem N l (i+1)).1 j=_;rw [ih];rcases Bf i j with h | h | h
   ·rw [AL (by omega),AL (by omega),tail h]
   ·subst h;rw [AF (by omega),AL (by omega)];simp [hm]
   ·rw [AF (by omega),AF (by omega)]
  | some blk=>
   show Yi (Wv (z9e P mem N l (i+1)).1 i (some (x0p P mem N blk))) j=_;rw [Vn,ih];rcases Bf i j with h | h | h
   ·rw [AF (by omega),AL (by omega),AL (by omega),tail h]
   ·subst h;rw [AL rfl,AL (by omega)];simp [hm]
   ·rw [AF (by omega),AF (by omega),AF (by omega)]
theorem y1e {mem:Mem} {N:y0e}: ∀(l:List Nat) (i:Nat),(z9e P mem N l i).2=true→ ∀b∈l,∀blk,Yi mem b=some blk→u5c blk=true
 | [],i,_,b,hb,_,_=>by cases hb
 | x::l,i,h,b,hb,blk,hm=>by
  unfold z9e at h;cases hx:Yi mem x with
  | none=>
   rw [hx] at h;rcases AI.1 hb with rfl | hb
   ·rw [hx] at hm;cases hm
   ·exact y1e l (i+1) h b hb blk hm
  | some blk'=>
   rw [hx] at h;have h:(u5c blk'&&(z9e P mem N l (i+1)).2)=true:=h;simp only [Ae] at h;rcases AI.1 hb with rfl | hb
   ·rw [hx] at hm;obtain rfl:=Ag hm;exact h.1
   ·exact y1e l (i+1) h.2 b hb blk hm
theorem z5g {f:AVal→AVal} {lps:Loops}: ∀(l:List Nat) (i:Nat) (sl:List (Option (List Nat))) (j:Nat) (L:ALoop),y4u (w1z f lps l i sl) j=some L→i≤j∧ ∃b L0 x,l[j - i]? =some b∧y4u lps b=some L0∧L=⟨L0.st,L0.pend,L0.n,u9r f L0.env x,L0.params,L0.assign,L0.body⟩
 | [],i,sl,j,L,h=>by cases h
 | b::l,i,sl,j,L,h=>by
  unfold w1z at h;split at h
  ·obtain ⟨h1,b',L0,x,h2,h3,h4⟩:=z5g l (i+1) _ j L h
   grind
  ·rename_i st pend n env params assign body hb;rw [show y4u (v2h (w1z f lps l (i+1) sl.tail) i (some ⟨st,pend,n,u9r f env (sl.headD none),params,assign,body⟩)) j=if j=i then some ⟨st,pend,n,u9r f env (sl.headD none),params,assign,body⟩ else y4u (w1z f lps l (i+1) sl.tail) j from T.get_set none _ i _ j] at h;by_cases hj:j=i
   ·subst hj;rw [AL rfl] at h;obtain rfl:=Ag h;exact ⟨Aq _,b,_,_,by simp,hb,rfl⟩
   ·rw [AF hj] at h;obtain ⟨h1,b',L0,x,h2,h3,h4⟩:=z5g l (i+1) _ j L h
    grind
theorem w0n {mem:Mem} {w:World} {ρ:Rho} {N:y0e} {x x' y:Item} (h:y0w N.keep x=some x') (hx:w7f ρ x y):w7f (y6f ρ mem N w) x' y:=by
 cases hx with
 | inR j l e=>simp only [y0w,Al] at h;obtain ⟨j',hj,rfl⟩:=h;exact .inR j' l (by rw [(Ke hj).2];exact e)
 | endR j l e=>simp only [y0w,Al] at h;obtain ⟨j',hj,rfl⟩:=h;exact .endR j' l (by rw [(Ke hj).2];exact e)
 | same x hp=>
  have:y0w N.keep x=some x:=by
   unfold y0w;split
   ·cases hp
   ·cases hp
   grind
  rw [this] at h;obtain rfl:=Ag h;exact .same _ hp
theorem y2h {mem:Mem} {w:World} {ρ:Rho} {N:y0e}: ∀{l l' m:List Item},z5y N.keep l=some l'→y8p ρ l m→y8p (y6f ρ mem N w) l' m
 | [],l',m,h,ht=>by cases ht;obtain rfl:=Ag h;exact .nil
 | x::l,l',m,h,ht=>by
  cases ht with
  | cons hx ht=>
   unfold z5y at h;split at h
   ·rename_i y k hy hk;obtain rfl:=Ag h;exact .cons (w0n hy hx) (y2h hk ht)
   ·cases h
theorem w5k {mem:Mem} {next:Nat} {w:World} {ρ:Rho} (h:Rel ρ mem next w) {N:y0e} (ho:z9i mem N.frz=true) {cx:Ctx} {ro:Option RegOps} {todo todo':List Item} {rnd rnd':Option Nat} {env:T AVal} {b:Frame} {a:Act} {k:List Item} {ms:List Nat} (ht:z5y N.keep todo=some todo') (hr:x5q N.keep rnd=some rnd')
  (hf:v2j ρ cx ro todo rnd env b a k ms) (L:Option (List Nat)):v2j (y6f ρ mem N w) cx ro todo' rnd' (u9r (ren P mem N 6) env L) b a k ms∧(rnd'=none→rnd=none):=by
 refine ⟨⟨w5l h ho hf.env L,hf.defers,y2h ht hf.todo,hf.ro,?_⟩,fun e=> ?_⟩
 ·have hrn:=hf.rnd;cases rnd with
  | none=>obtain rfl:=Ag hr;exact hrn
  | some j=>simp only [x5q,Al] at hr;obtain ⟨j',hj,rfl⟩:=hr;obtain ⟨h0,l,h1,h2⟩:=hrn;exact ⟨h0,l,by rw [(Ke hj).2];exact h1,h2⟩
 ·cases rnd with
  | none=>rfl
  | some j=>simp_all [x5q]
theorem x5r {mem:Mem} {next:Nat} {w:World} {ρ:Rho} (h:Rel ρ mem next w) {N:y0e} (ho:z9i mem N.frz=true): ∀{cs cs':List AFr} {sl:List (Option (List Nat))} {css:List Frame} {mss:List Nat},w9j (ren P mem N 6) N.keep cs sl=some cs'→v2k P ρ cs css mss→v2k P (y6f ρ mem N w) cs' css mss∧(cs'≠ []→cs≠ [])
 | [],cs',sl,css,mss,hc,hr=>by cases hr;obtain rfl:=Ag hc;exact ⟨.nil,id⟩
 | af::cs,cs',sl,css,mss,hc,hr=>by
  cases hr with
  | cons hf hl ht=>
   unfold w9j at hc;split at hc
   ·rename_i todo' rnd' cs'' h1 h2 h3;obtain rfl:=Ag hc;obtain ⟨i1,i2⟩:=x5r h ho h3 ht;obtain ⟨f1,f2⟩:=w5k (P:=P) h ho h1 h2 hf (sl.headD none);exact ⟨.cons f1 (fun hne=>⟨(hl (i2 hne)).1,fun e=>(hl (i2 hne)).2 (f2 e)⟩) i1,fun _=>by simp⟩
   ·cases hc
def RowTo (ρ ρ':Rho) (L L':List AVal):Prop:=L'.length=L.length∧ ∀(j:Nat) (h1:j<L.length) (h2:j<L'.length) (v:Value),Yx ρ L[j] v→Yx ρ' L'[j] v
theorem z8p {mem:Mem} {next:Nat} {w:World} {ρ:Rho} (h:Rel ρ mem next w) {N:y0e} (ho:z9i mem N.frz=true): ∀(rw1:Rws),x1k rw1=true→ ∀k,RowTo ρ (y6f ρ mem N w) (rw1.get k) ((z8q (ren P mem N 6) rw1).get k)
 | .flat g,hf,k=>by refine ⟨rfl,fun j h1 h2 v hv=> ?_⟩;have eR: ∀i,(g i).all (pf 6)=true:=Jv hf;exact ((Js 6 _ _ (At.1 (eR k) _ (A1 h1)) hv).mono (z4v h N)).mono (y7z _)
 | .one r cs b,hf,k=>by
  have ih:=z8p h ho (N:=N) b hf k;have hc:RowTo ρ (y6f ρ mem N w) cs (cs.map (ren P mem N 6)):=⟨by simp,fun j h1 h2 v hv=>by simpa using z4z h ho 6 _ _ hv⟩
  simp only [z8q,Rws.get];cases Nat.beq k r with
  | true=>exact hc
  | false=>exact ih
 | .alt c a b,hf,k=>by
  simp only [x1k,Ae] at hf;have iha:=z8p h ho (N:=N) a hf.1 k;have ihb:=z8p h ho (N:=N) b hf.2 k;simp only [z8q,Rws.get];cases c k with
  | true=>exact iha
  | false=>exact ihb
theorem w9i {mem:Mem} {next:Nat} {w:World} {ρ:Rho} (h:Rel ρ mem next w) {N:y0e} (ho:z9i mem N.frz=true) (hd:disj N.keep N.frz=true) (hfl:(z9e P mem N N.keep 0).2=true):Rel (y6f ρ mem N w) (z9e P mem N N.keep 0).1 N.keep.length w:=by
 obtain ⟨hnd,hdj⟩:=y7s hd;have get: ∀j,Yi (z9e P mem N N.keep 0).1 j=(N.keep[j]?).bind fun b=>(Yi mem b).map (x0p P mem N):=fun j=>by
  grind [x6n]
 have blk: ∀{b' l},(y6f ρ mem N w) b'=some l→ ∃b,N.keep[b']? =some b∧ρ b=some l:=fun {b' l} e=>by
  have e:(N.keep[b']?).bind (fun b=>ρ b)=some l:=e
  grind
 have live: ∀{b' b},N.keep[b']? =some b→(Yi (z9e P mem N N.keep 0).1 b').isSome =true→(Yi mem b).isSome =true:=fun {b' b} e hs=>by
  grind
 refine ⟨fun b' l e=> ?_,fun b' b'' l l' e e' hbl hs hs'=> ?_,fun b' l ab e hm=> ?_,fun k o e=> ?_,fun b' l e hs=> ?_,fun b' l e=> ?_,fun b' hb=> ?_,fun j l e=> ?_⟩
 ·grind
 ·obtain ⟨b,e1,e2⟩:=blk e;obtain ⟨c,e3,e4⟩:=blk e';have:=h.inj b c l l' e2 e4 hbl (live e1 hs) (live e3 hs');subst this;exact (List.getElem?_inj (A9.1 e1).1 hnd).1 (e1.trans e3.symm)
 ·obtain ⟨b,e1,e2⟩:=blk e;rw [get,e1] at hm;simp only [Option.bind_some,Al] at hm;obtain ⟨ab0,hm0,rfl⟩:=hm;obtain ⟨hn,ht,har,cs,el,g1,g2,g3⟩:=h.blk b l ab0 e2 hm0;obtain ⟨cells,ty,arr⟩:=ab0;cases arr with
  | none=>
   refine ⟨by simpa [x0p] using hn,ht,(fun A hA=>by cases hA),cs,el,g1,g2,fun i hi=> ?_⟩
   grind [x0p,z4z]
  | some A=>
   obtain ⟨a1,a2,a3⟩:=har A rfl;simp only at a1;have hfb:u5c ⟨cells,ty,some A⟩=true:=y1e N.keep 0 hfl b (List.mem_of_getElem? e1) _ hm0;have hrow:=z8p (P:=P) h ho (N:=N) A.rw hfb;have hl': ∀i,i<A.n→((z8q (ren P mem N 6) A.rw).get i).length =A.sz:=fun i hi=>by rw [(hrow i).1];exact a3 i hi
   have k1:=Yb A.n a3;have k2:=Yb A.n hl';refine ⟨by show l.n=(Ym A.n _).length;grind,ht,(fun B hB=>by obtain rfl:=Ag hB;exact ⟨rfl,a2,hl'⟩),cs,el,g1,g2,fun i hi=> ?_⟩;have hi':i<A.n*A.sz:=by rw [←k2];exact hi
   have hj:i %A.sz<A.sz:=Bn _ a2;have hq:i / A.sz<A.n:=A5 (by grind);have e:i / A.sz*A.sz+i %A.sz=i:=by rw [Bu];exact Bo i A.sz
   have hic:i<cells.length:=by grind
   have r1:=Vu A.n a3 (i / A.sz) (i %A.sz) hq hj;have r2:=Vu A.n hl' (i / A.sz) (i %A.sz) hq hj;rw [e] at r1 r2;have hi2:i<(Ym A.n (z8q (ren P mem N 6) A.rw).get).length :=hi;have j1:i %A.sz<(A.rw.get (i / A.sz)).length :=by rw [show A.rw.get=A.get from rfl,a3 _ hq];exact hj
   have j2:i %A.sz<((z8q (ren P mem N 6) A.rw).get (i / A.sz)).length :=by grind
   obtain ⟨v,q1,q2⟩:=g3 i hic;have s1:cells[i]=(A.rw.get (i / A.sz))[i %A.sz]:=by
    have:cells[i]? =some (A.rw.get (i / A.sz))[i %A.sz]:=by rw [a1,r1,show A.get=A.rw.get from rfl,Au j1]
    grind
   have s2:(Ym A.n (z8q (ren P mem N 6) A.rw).get)[i]'hi2=((z8q (ren P mem N 6) A.rw).get (i / A.sz))[i %A.sz]:=by
    grind
   refine ⟨v,q1,?_⟩;show Yx _ ((Ym A.n (z8q (ren P mem N 6) A.rw).get)[i]'hi2) v;rw [s2];refine (hrow _).2 _ j1 j2 v ?_
   grind
 ·have e: @ite _ (Fz ρ mem N k) (Classical.propDecidable _) (w.heap[k]?) (ρ.fz k)=some o:=e;by_cases hf:Fz ρ mem N k
  ·grind
  ·rw [AF hf] at e;exact h.old k o e
 ·obtain ⟨b,e1,e2⟩:=blk e;have hs0:=live e1 hs;have hnf: ¬Fz ρ mem N l.blk:=fun ⟨c,l',c1,c2,c3,c4⟩=>by
   have:=h.inj c b l' l c2 e2 c4 c3 hs0
   grind
  show @ite _ (Fz ρ mem N l.blk) (Classical.propDecidable _) (w.heap[l.blk]?) (ρ.fz l.blk)=none;rw [AF hnf];exact h.sep b l e2 hs0
 ·obtain ⟨b,_,e2⟩:=blk e;exact h.real b l e2
 ·grind
 ·have e:(N.keep[j]?).bind (fun b=>ρ.lp b)=some l:=e
  grind
theorem renEv {H:Old} {mem:Mem} {next:Nat} {w0 w:World} {ρ:Rho} (h:Rel ρ mem next w) {N:y0e} (he:Ev (z2c H) ρ 0 .leaf 0 mem next w0 w) (mem':Mem) (next':Nat):Ev (z2c H) (y6f ρ mem N w) 0 .leaf 0 mem' next' w0 w:=
 ⟨⟨fun b l e=>(by cases e),fun k o e=>z5w h N (he.ext.2.1 k o e),fun j l e=>(by cases e)⟩,fun b hb=>absurd hb (AG _),AC _,fun b hb=>absurd hb (AG _),he.frame,fun b l _ e=>by
   have e:(N.keep[b]?).bind (fun b=>ρ b)=some l:=e;rw [BJ] at e;obtain ⟨c,_,e2⟩:=e;exact he.fresh c l (AC _) e2,he.size,he.os,he.tape,he.output,fun k hk=>by
   have hnf: ¬Fz ρ mem N k:=fun ⟨b,l,_,e2,_,e4⟩=>by
    rcases he.fresh b l (AC _) e2 with h1 | ⟨b0,l0,e0,_⟩
    ·omega
    ·cases e0
   show @ite _ (Fz ρ mem N k) (Classical.propDecidable _) (w.heap[k]?) (ρ.fz k)=_;rw [AF hnf];exact he.still k hk⟩
def y1z (P:Program) (C C':Cfg):Prop:=
 ∀(H:Old) (w0:World) (ρ:Rho) (b:Frame) (a:Act) (k:List Item) (css:List Frame) (w:World) (ma mb:List Nat),t0b P w0.heap.size C ρ b a k css w ma mb→Ev (z2c H) ρ 0 .leaf 0 C.st.mem C.st.next w0 w→ ∀cs0:List Frame,
  ∃ρ' b' a' k' css' w' ma' mb',Steps P (lone (b.atR a (Wf C.ro k)) (css++cs0) w) (lone (b'.atR a' (Wf C'.ro k')) (css'++cs0) w')∧t0b P w0.heap.size C' ρ' b' a' k' css' w' ma' mb'∧Ev (z2c H) ρ' 0 .leaf 0 C'.st.mem C'.st.next w0 w'∧w3p b' css'=w3p b css∧w.heap.size≤w'.heap.size
theorem y1z.refl (C:Cfg):y1z P C C:=fun H w0 ρ b a k css w ma mb hs he cs0=>⟨ρ,b,a,k,css,w,ma,mb,Steps.refl _ _,hs,he,rfl,Aq _⟩
theorem y1z.trans {A B C:Cfg} (h:y1z P A B) (k:y1z P B C):y1z P A C:=by intro H w0 ρ b a t css w ma mb hs he cs0;obtain ⟨ρ1,b1,a1,t1,css1,w1,ma1,mb1,s1,r1,e1,q1,z1⟩:=h H w0 ρ b a t css w ma mb hs he cs0;obtain ⟨ρ2,b2,a2,t2,css2,w2,ma2,mb2,s2,r2,e2,q2,z2⟩:=k H w0 ρ1 b1 a1 t1 css1 w1 ma1 mb1 r1 e1 cs0;exact ⟨ρ2,b2,a2,t2,css2,w2,ma2,mb2,s1.trans s2,r2,e2,q2.trans q1,Av z1 z2⟩
theorem y1y.goes {C C':Cfg} (h:y1y P 0 C C'):y1z P C C':=fun H w0 ρ b a k css w ma mb hs he cs0=>h .leaf 0 (z2c H) w0 ρ b a k css w ma mb hs he cs0
def fl0 (C:Cfg):Bool:=Nat.beq C.cx.floor 0&&C.cs.all fun af=>Nat.beq af.cx.floor 0
theorem u5d {C:Cfg} (h:fl0 C=true):Fl 0 C:=by unfold fl0 at h;simp only [Ae] at h;exact ⟨Ai h.1,fun af haf=>Ai (At.1 h.2 af haf),AC _⟩
theorem y6j {f:AVal→AVal} {keep:List Nat} {fl:Nat}: ∀{cs cs':List AFr} {sl:List (Option (List Nat))},w9j f keep cs sl=some cs'→(∀af∈cs,af.cx.floor=fl)→ ∀af∈cs',af.cx.floor=fl
 | [],cs',sl,h,_,af,haf=>by obtain rfl:=Ag h;cases haf
 | a0::cs,cs',sl,h,hcs,af,haf=>by
  unfold w9j at h;split at h
  ·rename_i t1 r1 c1 g1 g2 g3;obtain rfl:=Ag h;rcases AI.1 haf with rfl | haf
   ·grind
   ·exact y6j g3 (fun x hx=>hcs x (List.mem_cons_of_mem _ hx)) af haf
  ·cases h
theorem w9p {N:y0e} {C C':Cfg} (h:u3m P N C=some C') (ho:C'.st.ob=true):C.st.ob=true∧y1z P C C'∧(Fl 0 C→Fl 0 C'):=by
 obtain ⟨cx,ro,todo,rnd,rs,⟨env,mem,next,orc,ob⟩,cs,lps⟩:=C;simp only [u3m] at h;split at h
 ·rename_i todo' rnd' cs' h1 h2 h3;obtain ⟨hd,h⟩:=Yw h;obtain rfl:=Ag h;simp only [Ae] at ho;obtain ⟨hkm,ho2,ho3⟩:=ho;refine ⟨ho3,fun H w0 ρ b a k css w ma mb hs he cs0=> ?_,fun hfl=>⟨hfl.cx,fun af haf=> ?_,AC _⟩⟩
  ·have dJ:=hs.rel;simp only at dJ he;obtain ⟨f1,f2⟩:=w5k (P:=P) dJ ho2 h1 h2 hs.top (N.slots.headD none);obtain ⟨c1,c2⟩:=x5r (P:=P) dJ ho2 h3 hs.rest.cs;refine ⟨y6f ρ mem N w,b,a,k,css,w,ma,mb,Steps.refl _ _,⟨f1,fun hne=>⟨(hs.lv (c2 hne)).1,fun e=>(hs.lv (c2 hne)).2 (f2 e)⟩,⟨c1,hs.rest.nodup,fun r hr=> ?_,fun j L hL=> ?_,fun j j' L L' l hL hL' e e'=> ?_⟩,?_⟩,renEv dJ he _ _,rfl,Aq _⟩
   ·obtain ⟨q1,⟨q2,q3,q4⟩,q5⟩:=hs.rest.marks r hr;refine ⟨q1,⟨q2,?_,fun b' l e=> ?_⟩,q5⟩
    ·show @ite _ (Fz ρ mem N r) (Classical.propDecidable _) (w.heap[r]?) (ρ.fz r)=none;rw [AF fun ⟨c,l,_,e2,_,e4⟩=>q4 c l e2 e4];exact q3
    ·have e:(N.keep[b']?).bind (fun b=>ρ b)=some l:=e
     grind
   ·obtain ⟨_,c,L0,x,e1,e2,rfl⟩:=z5g N.keep 0 _ j L hL;rw [Nat.sub_zero] at e1;obtain ⟨l,q1,q2,⟨q3,q4,q5⟩,tm,fn',d,q6,q7⟩:=hs.rest.loops c L0 e2;refine ⟨l,?_,q2,⟨q3,?_,fun b' l' e=> ?_⟩,tm,fn',d,q6,w5l (P:=P) dJ ho2 q7 x⟩
    ·show (N.keep[j]?).bind (fun b=>ρ.lp b)=some l
     grind
    ·show @ite _ (Fz ρ mem N l) (Classical.propDecidable _) (w.heap[l]?) (ρ.fz l)=none;rw [AF fun ⟨c,l,_,e2,_,e4⟩=>q5 c l e2 e4];exact q4
    ·have e:(N.keep[b']?).bind (fun b=>ρ b)=some l':=e
     grind
   ·obtain ⟨_,c,L0,x,e1,e2,rfl⟩:=z5g N.keep 0 _ j L hL;obtain ⟨_,c',L0',x',e1',e2',rfl⟩:=z5g N.keep 0 _ j' L' hL';rw [Nat.sub_zero] at e1 e1';have e:(N.keep[j]?).bind (fun b=>ρ.lp b)=some l:=e;have e':(N.keep[j']?).bind (fun b=>ρ.lp b)=some l:=e';rw [e1] at e;rw [e1'] at e';have:=hs.rest.inj c c' L0 L0' l e2 e2' e e';subst this;exact (List.getElem?_inj (A9.1 e1).1 (y7s hd).1).1 (e1.trans e1'.symm)
   ·exact w9i dJ ho2 hd hkm
  ·exact y6j h3 hfl.cs af haf
 ·cases h
theorem x6p {S:Specs} {Rc:Runner} (hN:y0a P) (hmx:P.follows .mixedOrders =true) (hS:Zu P S) (hCI:w7d Rc) (hC:ROk P Rc) {fl:Nat}: ∀(n:Nat) (C C':Cfg),Fl fl C→u4q P S Rc n C=some C'→Fl fl C'∧Xi fl C.st C'.st∧(C'.st.ob=true→y1y P fl C C')
 | 0,C,C',hfl,h=>by
  obtain rfl:=Ag h
  grind [Xi.refl,y1y.refl]
 | n+1,C,C',hfl,h=>by
  have h:(match w7u P S Rc C with
   | some C'=>u4q P S Rc n C'
   | none=>none)=some C':=h
  split at h
  ·rename_i C1 h1;have s1:=x5c hN hmx hS hCI hC hfl h1;obtain ⟨f1,f4,f5⟩:=x6p hN hmx hS hCI hC n C1 C' s1.fls h;exact ⟨f1,s1.inv.trans f4,fun ho=>(s1.leads (f4.ob ho)).trans (f5 ho)⟩
  ·cases h
def Zg (P:Program) (f:FuncId) (args:List AVal) (sym:Bool) (orc:List Bool):Cfg:=
 match P.funcs[f]? with
 | some fn=>⟨⟨Nat.max fn.ntmps args.length,0,sym⟩,none,[.code (fn.body.getD .ret)],none,fn.results.toList,⟨z7p args 0 .leaf,.leaf,0,orc,true⟩,[],.leaf⟩
 | none=>⟨⟨0,0,sym⟩,none,[],none,[],⟨.leaf,.leaf,0,[],true⟩,[],.leaf⟩
theorem goes_call {f:FuncId} {args:List AVal} {sym:Bool} {orc:List Bool} {C':Cfg} {vs:List AVal} {H:Old} (hf:(P.funcs[f]?).any (fun fn=>fn.body.isSome)=true) (h:y1z P (Zg P f args sym orc) C') (fR:z4f C'=true) (hob:(Ja P C'.st (Zg P f args sym orc).rs)=some vs)
  {vals:Array Value} {w:World} (dN:Vk (Yx (z2c H)) args vals.toList) (hH: ∀k o,H k=some o→w.heap[k]? =some o):
  Calls P f vals w fun e w'=> ∃ρ u,e=.returned u∧Out H w ρ (Ku vs) u w':=by
 cases hfn:P.funcs[f]? with
 | none=>grind
 | some fn=>
  rw [hfn] at hf;have hf:fn.body.isSome=true:=hf;obtain ⟨body,hb⟩:=BG.1 hf;have hstart:Zg P f args sym orc=⟨⟨Nat.max fn.ntmps args.length,0,sym⟩,none,[.code body],none,fn.results.toList,⟨z7p args 0 .leaf,.leaf,0,orc,true⟩,[],.leaf⟩:=by unfold Zg;grind
  rw [hstart] at h hob;simp only at hob;intro cs;obtain ⟨ρ',b',a',k',css',w',ma',mb',s1,r1,v1,q1,_⟩:=h H w (z2c H) ⟨f, #[],[],[],.run,.normal,none⟩ {tmps:=vals++Array.replicate (fn.ntmps - vals.size) undef,defers:=[]} [.code body] [] w [] []
   ⟨⟨z9o dN fn.ntmps,rfl,.cons (.same _ rfl) .nil,trivial,rfl⟩,fun h=>absurd rfl h,y0u _ _ _,x5s hH⟩ (Ev.refl _ _ _ _ _ (x5s hH).dom) cs
  obtain ⟨e1,e2,e3,e4⟩:=z7l fR;have hcs:=r1.rest.cs;rw [e3] at hcs;cases hcs;obtain ⟨w2,s2,fP,dW,eT,_,_⟩:=z9p r1 e1 e2 e4 rfl v1 cs;obtain ⟨u,hu,eY⟩:=z0j (fn:=fn) fP dW hob;have q:(b'.fn,b'.kind,b'.roundOf)=(f,CallKind.normal,none):=q1;simp only [Ac] at q;have hen:Frame.enter P f vals .normal =Frame.atR ⟨f, #[],[],[],.run,.normal,none⟩ {tmps:=vals++Array.replicate (fn.ntmps - vals.size) undef,defers:=[]} (Wf none [.code body]):=by
   grind [Frame.enter,Frame.atR,Wf]
  refine ⟨.returned u,w2,{b'.atR {a' with defers:=[]} k' with mode:=.returning},⟨ρ',u,rfl,out_of hu dW eT⟩,?_,q.1,rfl,rfl,q.2.1,fn,by show P.funcs[b'.fn]? =_;grind,eY⟩;rw [hen];exact s1.trans s2
def y5t (P:Program) (f:FuncId) (args:List AVal) (ty:TypeId) (sz n:Nat) (get:Nat→List AVal):Cfg:=
 match P.funcs[f]? with
 | some fn=>⟨⟨Nat.max fn.ntmps args.length,0,true⟩,none,[.code (fn.body.getD .ret)],none,fn.results.toList,⟨z7p args 0 .leaf,u0b ty sz n get,1,[],true⟩,[],.leaf⟩
 | none=>⟨⟨0,0,true⟩,none,[],none,[],⟨.leaf,.leaf,0,[],true⟩,[],.leaf⟩
theorem u4x {f:FuncId} {args:List AVal} {ty:TypeId} {sz n:Nat} {get:Nat→List AVal} {C':Cfg} {b n':Nat} {g:Nat→List AVal} {ty':TypeId} {H:Old} {l:Option Loc} (hf:(P.funcs[f]?).any (fun fn=>fn.body.isSome)=true) (h:y1z P (y5t P f args ty sz n get) C') (fR:z4f C'=true)
  (eY:(Ja P C'.st (y5t P f args ty sz n get).rs)=some [.sla b sz 0 n' (.un sz)]) (hmb:Yi C'.st.mem b=some ⟨Ym n' g,ty',some ⟨sz,n',.flat g⟩⟩)
  {vals:Array Value} {w:World} (dN:Vk (Yx (v2f H l)) args vals.toList) (dJ:Rel (v2f H l) (u0b ty sz n get) 1 w):
  Calls P f vals w fun e w'=> ∃ρ' u m' nx b ty',e=.returned u∧Yx ρ' (.sla b sz 0 n' (.un sz)) u∧Yi m' b=some ⟨Ym n' g,ty',some ⟨sz,n',.flat g⟩⟩∧Rel ρ' m' nx w'∧
   (∀k o,H k=some o→ρ'.fz k=some o)∧w.heap.size≤w'.heap.size∧w'.os=w.os∧w'.tape=w.tape∧w'.output=w.output:=by
 cases hfn:P.funcs[f]? with
 | none=>grind
 | some fn=>
  rw [hfn] at hf;have hf:fn.body.isSome=true:=hf;obtain ⟨body,hb⟩:=BG.1 hf;have hstart:y5t P f args ty sz n get=⟨⟨Nat.max fn.ntmps args.length,0,true⟩,none,[.code body],none,fn.results.toList,⟨z7p args 0 .leaf,u0b ty sz n get,1,[],true⟩,[],.leaf⟩:=by unfold y5t;grind
  rw [hstart] at h eY;simp only at eY;intro cs
  let w0:World:={w with heap:= #[]}
  have hev0:Ev (z2c H) (v2f H l) 0 .leaf 0 (u0b ty sz n get) 1 w0 w:=
   ⟨⟨fun _ _ e=>(by cases e),fun _ _ e=>e,fun _ _ e=>(by cases e)⟩,fun b hb=>absurd hb (AG _),AC _,fun b hb=>absurd hb (AG _),fun k o e=>(by
     grind),fun _ _ _ _=>.inl (AC _),AC _,rfl,rfl,rfl,fun k hk=>absurd hk (AG _)⟩
  obtain ⟨ρ',b',a',k',css',w',ma',mb',s1,r1,v1,q1,z1⟩:=h H w0 (v2f H l) ⟨f, #[],[],[],.run,.normal,none⟩ {tmps:=vals++Array.replicate (fn.ntmps - vals.size) undef,defers:=[]} [.code body] [] w [] []
   ⟨⟨z9o dN fn.ntmps,rfl,.cons (.same _ rfl) .nil,trivial,rfl⟩,fun h=>absurd rfl h,y0u _ _ _,dJ⟩ hev0 cs
  obtain ⟨e1,e2,e3,e4⟩:=z7l fR;have hcs:=r1.rest.cs;rw [e3] at hcs;cases hcs;obtain ⟨w2,s2,fP,dW,eT,_,z2⟩:=z9p r1 e1 e2 e4 rfl v1 cs;obtain ⟨u,hu,hresu⟩:=z0j (fn:=fn) fP dW eY;have q:(b'.fn,b'.kind,b'.roundOf)=(f,CallKind.normal,none):=q1;simp only [Ac] at q;have hen:Frame.enter P f vals .normal =Frame.atR ⟨f, #[],[],[],.run,.normal,none⟩ {tmps:=vals++Array.replicate (fn.ntmps - vals.size) undef,defers:=[]} (Wf none [.code body]):=by
   grind [Frame.enter,Frame.atR,Wf]
  refine ⟨.returned u,w2,{b'.atR {a' with defers:=[]} k' with mode:=.returning},⟨ρ',u,C'.st.mem,C'.st.next,b,ty',rfl,hu,hmb,dW,fun k o e=>eT.ext.2.1 k o e,Av z1 z2,eT.os,eT.tape,eT.output⟩,?_,q.1,rfl,rfl,q.2.1,fn,by show P.funcs[b'.fn]? =_;grind,hresu⟩;rw [hen];exact s1.trans s2
end
def Vj :List ABlk→Nat→Mem
 | [],_=>.leaf
 | b::l,i=>Wv (Vj l (i+1)) i (some b)
def x1i (c:Nat→Int):Nat→List AVal:=fun i=>[.int .i64 (c i)]
def Cfg.withO :Cfg→List Bool→Cfg
 | ⟨cx,ro,todo,rnd,rs,⟨env,mem,next,_,_⟩,cs,lps⟩,o=>⟨cx,ro,todo,rnd,rs,⟨env,mem,next,o,true⟩,cs,lps⟩
def Cfg.withB :Cfg→Bool→Cfg
 | ⟨cx,ro,todo,rnd,rs,⟨env,mem,next,_,_⟩,cs,lps⟩,b=>⟨cx,ro,todo,rnd,rs,⟨env,mem,next,[],b⟩,cs,lps⟩
inductive Xw (σ:Type) where
 | stuck
 | ret (vs:List AVal)
 | to (s:σ)
def Jy (P:Program) (rs:List ResultVar) (C:Cfg) (vs:List AVal):Prop:= ∃C',y1z P C C'∧z4f C'=true∧Ja P C'.st rs=some vs
def Yt (P:Program) (rs:List ResultVar) {σ:Type} (cfg:σ→Cfg) (C:Cfg):Xw σ→Prop
 | .stuck =>True
 | .ret vs=>Jy P rs C vs
 | .to s=>y1z P C (cfg s)
section
variable {P:Program} {rs:List ResultVar} {σ:Type} {cfg:σ→Cfg} {C:Cfg}
theorem w6g {c:Bool} {a b:Xw σ} (ha:c=true→Yt P rs cfg C a) (hb:c=false→Yt P rs cfg C b):Yt P rs cfg C (bif c then a else b):=by grind
theorem u4o {c:Bool} {a:Xw σ} (ha:c=true→Yt P rs cfg C a):Yt P rs cfg C (bif c then a else .stuck):=w6g ha fun _=>trivial
theorem Kf {vs:List AVal} (C':Cfg) (h:y1z P C C') (hf:z4f C'=true) (hr:Ja P C'.st rs=some vs):Yt P rs cfg C (.ret vs):=⟨C',h,hf,hr⟩
end
def Zr {σ:Type} (step:σ→Xw σ):Nat→Xw σ→Xw σ
 | 0,o=>o
 | n+1,.to s=>Zr step n (step s)
 | _+1,o=>o
theorem Zd {P:Program} {rs:List ResultVar} {σ:Type} {cfg:σ→Cfg} {step:σ→Xw σ} (eK: ∀s,Yt P rs cfg (cfg s) (step s)) {C:Cfg}: ∀(n:Nat) (o:Xw σ),Yt P rs cfg C o→Yt P rs cfg C (Zr step n o)
 | 0,o,h=>h
 | n+1,.stuck,h=>h
 | n+1,.ret vs,h=>h
 | n+1,.to s,h=>Zd eK n (step s) (match step s,eK s with
  | .stuck,_=>trivial
  | .ret vs,⟨C',g,hf,hr⟩=>⟨C',y1z.trans h g,hf,hr⟩
  | .to s',g=>y1z.trans h g)
theorem Zp {σ:Type} (step:σ→Xw σ) (n:Nat) (vs:List AVal):Zr step n (.ret vs)=.ret vs:=by cases n <;> rfl
theorem Zw {σ:Type} (step:σ→Xw σ) (n:Nat) (s:σ):Zr step (n+1) (.to s)=Zr step n (step s):=rfl
theorem y6r {a b:Bool} (ha:a=true) (hb:b=true):(a&&b)=true:=by grind
theorem v5x {a b:Bool} (h:a=b):(a == b)=true:=by grind
def Specs.with (S:Specs) (f:FuncId) (F:List AVal→Option (AVal×Bool)):Specs:=fun g=>bif Nat.beq g f then some (.val F) else S g
def Specs.withG (S:Specs) (f:FuncId) (ty:TypeId) (F:Nat→(Nat→List AVal)→List AVal→Option (Nat×(Nat→List AVal)×Bool)):Specs:=fun g=>bif Nat.beq g f then some (.gro ty F) else S g
theorem v3a {P:Program} {f:FuncId} {args:List AVal} {ty:TypeId} {sz n:Nat} {get:Nat→List AVal}:(y5t P f args ty sz n get).rs =Zy P f:=by
 grind [y5t,Zy]
theorem with_gro {P:Program} {S:Specs} (hS:Zu P S) {f:FuncId} {ty:TypeId} {F:Nat→(Nat→List AVal)→List AVal→Option (Nat×(Nat→List AVal)×Bool)} (hf:(P.funcs[f]?).any (fun fn=>fn.body.isSome)=true)
  (hF: ∀sz n get r n' g,F n get r=some (n',g,true)→plR sz n get=true→plR sz n' g=true→1≤sz→ ∃C' b ty',y1z P (y5t P f (.sla 0 sz 0 n (.un sz)::r) ty sz n get) C'∧z4f C'=true∧Ja P C'.st (Zy P f)=some [.sla b sz 0 n' (.un sz)]∧Yi C'.st.mem b=some ⟨Ym n' g,ty',some ⟨sz,n',.flat g⟩⟩):Zu P (S.withG f ty F):=by
 intro g G hg;unfold Specs.withG at hg;cases hgf:Nat.beq g f with
 | false=>rw [hgf] at hg;exact hS g G hg
 | true=>
  rw [hgf] at hg;obtain rfl:Spec.gro ty F=G:=Ag hg;obtain rfl:g=f:=Ai hgf;refine ⟨?_,fun sz n get r n' g' hv hp hp' hsz H l vals w dN dJ _=> ?_⟩;all_goals grind [u4x,v3a]
theorem x5d {P:Program} {f:FuncId} {args:List AVal} {sym:Bool} {orc:List Bool}:(Zg P f args sym orc).rs =Zy P f:=by
 grind [Zg,Zy]
theorem v2l {P:Program} {S:Specs} (hS:Zu P S) {f:FuncId} {F:List AVal→Option (AVal×Bool)} (hf:(P.funcs[f]?).any (fun fn=>fn.body.isSome)=true)
  (hF: ∀args v,F args=some (v,true)→ ∃vs,Ku vs=v∧Jy P (Zy P f) (Zg P f args true []) vs∧ ∃d,pf d v=true):Zu P (S.with f F):=by
 intro g G hg;unfold Specs.with at hg;cases hgf:Nat.beq g f with
 | false=>rw [hgf] at hg;exact hS g G hg
 | true=>
  rw [hgf] at hg;obtain rfl:Spec.val F=G:=Ag hg;obtain rfl:g=f:=Ai hgf;refine ⟨?_,fun args v hv H vals w dN hH=> ?_⟩
  ·grind
  ·obtain ⟨vs,rfl,⟨C',g1,g2,g3⟩,d,hp⟩:=hF args v hv;exact (goes_call hf g1 g2 (by rw [x5d];exact g3) dN hH).mono fun e w' ⟨ρ,u,he,ho⟩=>⟨ρ.fz,u,ho.le,ho.old,ho.same,he,Js d _ u hp ho.val,ho.below⟩
def cOf (get:Nat→List AVal) (i:Nat):Int:=match get i with
 | .int _ n::_=>n
 | _=>0
def isI (get:Nat→List AVal):Bool:=pd (get=x1i (cOf get))
theorem w6k {get:Nat→List AVal} (h:isI get=true): ∃c,get=x1i c:=⟨_,Jv h⟩
theorem u3q (x:Int):(x != x)=false:=by simp
theorem u5q (x:Int):(x == x)=true:=by simp
theorem v6c (x:Int):(!(x != x))=true:=by simp
theorem v6f (x:Int):(!(x == x))=false:=by simp
theorem w64 (n:Int):IntKind.i64.wrap n=(n+9223372036854775808) %18446744073709551616 - 9223372036854775808:=by rw [IntKind.wrap_i64]
theorem w_in {n:Int} (h: -9223372036854775808≤n) (h':n≤9223372036854775807):IntKind.i64.wrap n=n:=by simp only [w64];omega
theorem x3y (x y:Int):z0r x y=min x y:=by unfold z0r;grind
theorem x3z (x y:Int):z0s x y=max x y:=by unfold z0s;grind
inductive VLe :AVal→AVal→Prop
 | refl (v:AVal):VLe v v
 | undef (v:AVal):VLe v .undef
 | nils (b sz off:Nat) (cap:v2c):VLe .nils (.sla b sz off 0 cap)
 | sl (b sz q len:Nat) (cap:v2c):VLe (.sl b (q*sz) len cap) (.sla b sz q len cap)
 | nild (g:Nat→List AVal):VLe .nils (.dat 0 g)
 | dat (n:Nat) (g g':Nat→List AVal) (h: ∀i,i<n→g i=g' i):VLe (.dat n g) (.dat n g')
 | dptr (cs cs':List AVal) (hl:cs.length=cs'.length) (h: ∀(ρ:Rho) (i:Nat) (h1:i<cs.length) (h2:i<cs'.length) (v:Value),Yx ρ cs[i] v→Yx ρ cs'[i] v):VLe (.dptr cs) (.dptr cs')
theorem VLe.sound {ρ:Rho} {a a':AVal} {v:Value} (h:VLe a a') (hv:Yx ρ a v):Yx ρ a' v:=by
 cases h with
 | refl=>exact hv
 | undef=>exact .undef _
 | nils b sz off cap=>cases hv;exact .slan b sz off cap
 | sl b sz q len cap=>cases hv with | sl _ _ _ _ l c h hc dK=>exact .sla b sz q len cap l c h hc dK
 | nild g=>cases hv;exact .datn _
 | dptr cs cs' hl h=>cases hv with
  | dptr _ blk base val q1 q2=>exact .dptr cs' blk base val (fun j hj=>h _ j (by omega) hj _ (q1 j (by omega))) fun j hj=>q2 j (by omega)
 | dat n g g' hg=>
  cases hv with
  | datn=>exact .datn _
  | datz=>exact .datz _ _ _
  | dat _ _ blk base sz cap val dR hsz hv hh=>
   refine .dat n g' blk base sz cap val dR (fun i hi=>by grind) (fun i j hi hj=> ?_) hh
   grind
theorem VLe.of_undef {a:AVal} (h:VLe .undef a):a=.undef :=by cases h <;> rfl
inductive RLe :List AVal→List AVal→Prop
 | nil:RLe [] []
 | cons {a b:AVal} {l m:List AVal} (h:VLe a b) (t:RLe l m):RLe (a::l) (b::m)
theorem RLe.refl : ∀l:List AVal,RLe l l
 | []=>.nil
 | a::l=>.cons (.refl a) (RLe.refl l)
theorem RLe.len {l m:List AVal} (h:RLe l m):l.length=m.length:=by
 induction h with
 | nil=>rfl
 | cons _ _ ih=>simp [ih]
theorem RLe.get {l m:List AVal} (h:RLe l m): ∀(i:Nat) (h1:i<l.length) (h2:i<m.length),VLe l[i] m[i]:=by
 induction h with
 | nil=>grind
 | cons h _ ih=>
  grind
inductive BLe :Option ABlk→Option ABlk→Prop
 | refl (b:Option ABlk):BLe b b
 | drop (b:Option ABlk):BLe b none
 | rowed (cells:List AVal) (ty:TypeId) (a:Option Arr) (sz n:Nat) (g:Nat→List AVal) (hc:cells=Ym n g) (h1:1≤sz) (hl: ∀i,i<n→(g i).length =sz):BLe (some ⟨cells,ty,a⟩) (some ⟨Ym n g,ty,some ⟨sz,n,g⟩⟩)
 | rws (ty:TypeId) (sz n:Nat) (a a':Rws) (h: ∀k,k<n→RLe (a.get k) (a'.get k)):BLe (some ⟨Ym n a.get,ty,some ⟨sz,n,a⟩⟩) (some ⟨Ym n a'.get,ty,some ⟨sz,n,a'⟩⟩)
theorem BLe.sound {ρ:Rho} {w:World} {a a':ABlk} {l:Loc} (h:BLe (some a) (some a')) (hb:Jz ρ w a l):Jz ρ w a' l:=by
 cases h with
 | refl=>exact hb
 | rowed cells ty a sz n g hc h1 hl=>subst hc;refine ⟨hb.n,hb.tot,fun A hA=> ?_,hb.cells⟩;obtain rfl:=Ag hA;exact ⟨rfl,h1,hl⟩
 | rws ty sz n a a' h=>
  obtain ⟨_,h1,hl⟩:=hb.arr _ rfl;have h1:1≤sz:=h1;have hl: ∀k,k<n→(a.get k).length =sz:=hl;have hl': ∀k,k<n→(a'.get k).length =sz:=fun k hk=>by rw [←(h k hk).len];exact hl k hk
  have k1:=Yb n hl;have k2:=Yb n hl';obtain ⟨cs,el,g1,g2,g3⟩:=hb.cells;refine ⟨by rw [hb.n];show (Ym n a.get).length =(Ym n a'.get).length;rw [k1,k2],hb.tot,fun A hA=> ?_,cs,el,g1,g2,fun i hi=> ?_⟩
  ·obtain rfl:=Ag hA;exact ⟨rfl,h1,hl'⟩
  ·have hi2:i<(Ym n a'.get).length :=hi;have hi':i<n*sz:=by rw [←k2];exact hi
   have hj:i %sz<sz:=Bn _ h1;have hq:i / sz<n:=A5 (by rw [Bu];exact hi');have e:i / sz*sz+i %sz=i:=by rw [Bu];exact Bo i sz
   have hic:i<(Ym n a.get).length :=by rw [k1];exact hi'
   have r1:=Vu n hl (i / sz) (i %sz) hq hj;have r2:=Vu n hl' (i / sz) (i %sz) hq hj;rw [e] at r1 r2;have j1:i %sz<(a.get (i / sz)).length :=by rw [hl _ hq];exact hj
   have j2:i %sz<(a'.get (i / sz)).length :=by rw [hl' _ hq];exact hj
   obtain ⟨v,q1,q2⟩:=g3 i hic;have q2:Yx ρ ((Ym n a.get)[i]'hic) v:=q2;refine ⟨v,q1,?_⟩;show Yx ρ ((Ym n a'.get)[i]'hi2) v;rw [Au hic,Au j1] at r1;rw [Au hi2,Au j2] at r2;rw [Ag r1] at q2;rw [Ag r2];exact ((h _ hq).get _ j1 j2).sound q2
theorem y0n {g h:Nat→List AVal}: ∀(n:Nat),(∀i,i<n→g i=h i)→Ym n g=Ym n h
 | 0,_=>rfl
 | n+1,e=>by rw [z8i,z8i,y0n n fun i hi=>e i (by omega),e n (by omega)]
def z6k (l:List Int):Nat→Int:=fun k=>l.getD k 0
def z6e (asz sz off len n:Nat) (get:Nat→List AVal):AVal:=bif Nat.beq asz sz&&Nat.ble (off+len) n then .dat len (fun k=>get (off+k)) else .undef
theorem j6y (sz n:Nat) (g:Nat→List AVal):z6e sz sz 0 n n g=.dat n g:=by
 unfold z6e;rw [show (Nat.beq sz sz&&Nat.ble (0+n) n)=true by simp_all,Ab]
 grind
def z1a (g:Nat→List AVal):Bool:=pd (∀i,(g i).all (pf 6)=true)
theorem u6c {p:AVal→Bool} {l:List AVal} (h:l.all p=true) (n:Nat):(l.take n).all p=true:=
 by grind
theorem u6d {p:AVal→Bool} {l:List AVal} (h:l.all p=true) (n:Nat):(l.drop n).all p=true:=
 by grind
theorem v7w {g:Nat→List AVal} {off len sz:Nat} {new:List AVal} (h:z1a g=true) (hn:new.all (pf 6)=true):z1a (Zo g off len sz new)=true:=Xy fun i=>by
 unfold Zo;cases Nat.ble len i with
 | true=>grind
 | false=>exact Jv h _
theorem v7t {g:Nat→List AVal} {r fo:Nat} {cs:List AVal} (h:z1a g=true) (hn:cs.all (pf 6)=true):z1a (Xt g r fo cs)=true:=Xy fun i=>by
 unfold Xt;cases Nat.beq i r with
 | true=>rw [Ab,List.all_append,List.all_append,u6c (Jv h r),hn,u6d (Jv h r)];rfl
 | false=>exact Jv h _
theorem w7i {P:Program} {S:Specs} (hS:Zu P S) {f:FuncId} {F:List AVal→Option (AVal×Bool)} (hf:(P.funcs[f]?).any (fun fn=>fn.body.isSome)=true)
  (hF: ∀args v,F args=some (v,true)→ ∃vs,(∀(ρ:Rho) (u:Value),Yx ρ (Ku vs) u→Yx ρ v u)∧Jy P (Zy P f) (Zg P f args true []) vs∧ ∃d,pf d (Ku vs)=true):Zu P (S.with f F):=by
 intro g G hg;unfold Specs.with at hg;cases hgf:Nat.beq g f with
 | false=>rw [hgf] at hg;exact hS g G hg
 | true=>
  rw [hgf] at hg;obtain rfl:Spec.val F=G:=Ag hg;obtain rfl:g=f:=Ai hgf;refine ⟨?_,fun args v hv H vals w dN hH=> ?_⟩
  ·grind
  ·obtain ⟨vs,hw,⟨C',g1,g2,g3⟩,d,hp⟩:=hF args v hv;exact (goes_call hf g1 g2 (by rw [x5d];exact g3) dN hH).mono fun e w' ⟨ρ,u,he,ho⟩=>⟨ρ.fz,u,ho.le,ho.old,ho.same,he,hw _ _ (Js d _ u hp ho.val),ho.below⟩
theorem v0s :z1a (fun _=>[])=true:=Xy fun _=>rfl
theorem w2q (s t:Nat):z1a (fun k=>(([]:List AVal).drop (k*s)).take t)=true:=Xy fun i=>by simp
theorem y7n {g:Nat→List AVal} {o:Nat} (h:z1a g=true):z1a (fun k=>g (o+k))=true:=Xy fun i=>Jv h (o+i)
theorem v7v {g h:Nat→List AVal} {len:Nat} (p:z1a g=true) (q:z1a h=true):z1a (Qz g len h)=true:=Xy fun i=>by
 unfold Qz;cases Nat.ble len i with
 | true=>exact Jv q _
 | false=>exact Jv p _
def x7c (sz n:Nat) (g:Nat→List AVal):Bool:=pd (∀i,i<n→(g i).length =sz∧(g i).all y1g=true)
open Go.Sort Go.RowKit
variable {P:Program} {ρ:Rho}
theorem Rel.rewritten {mem:Mem} {next:Nat} {w w':World} (h:Rel ρ mem next w) {b:Nat} {l:Loc} {ab:ABlk} (hb:ρ b=some l) (hm:Yi mem b=some ab) {cs:List AVal}
  (dK:cs.length=ab.cells.length) (dY: ∀k,k<w.heap.size→k≠l.blk→w'.heap[k]? =w.heap[k]?) (hsize:w.heap.size≤w'.heap.size)
  (hnew: ∃cur el,w'.heap[l.blk]? =some (.cells cur el (0,0))∧l.base+l.tot≤cur.size∧ ∀(i:Nat) (hi:i<cs.length),∃v,cur[l.base+i]? =some v∧Yx ρ cs[i] v):
  Rel ρ (Wv mem b (some ⟨cs,ab.ty,none⟩)) next w':=by
 have hbk:=h.blk b l ab hb hm;refine ⟨h.dom,fun c c' m m' e e' he hs hs'=> ?_,fun c m ac e hc=> ?_,fun k o e=> ?_,fun c m e hs=>h.sep c m e (by
  grind [Zv]),fun c m e=>AX (h.real c m e) hsize,fun c hc=>by have:=h.dom b l hb;rw [Zv _ _ (by omega)];exact h.bd c hc,h.ldom⟩
 ·refine h.inj c c' m m' e e' he ?_ ?_;all_goals grind [Zv]
 ·by_cases hcb:c=b
  ·subst hcb;rw [Yk] at hc;obtain rfl:=Ag hc;rw [hb] at e;obtain rfl:=Ag e;exact ⟨by rw [dK];exact hbk.n,hbk.tot,(fun A e=>by cases e),hnew⟩
  ·rw [Zv _ _ hcb] at hc;refine (h.blk c m ac e hc).world (Rho.le_refl _) (dY m.blk (h.real c m e) fun heq=>hcb ?_);exact h.inj c b m l e hb heq (by rw [hc];rfl) (by rw [hm];rfl)
 ·have hk:=h.old k o e;rw [dY k ?_ ?_]
  ·exact hk
  ·grind
  ·intro heq;have:=h.sep b l hb (by rw [hm];rfl)
   grind
def Yu (n:Nat) (c:Nat→Int):List Int:=(List.range n).map c
def fRow (srt:List Int→List Int) (args:List AVal) (mem:Mem):Option (AVal×Nat×ABlk×Bool):=match args with
 | [.sla b sz off n cap]=>match Yi mem b with
  | some ⟨_,ty,some A⟩=>some (.tup [],b,⟨Ym A.n (x1i (z6k (srt (Yu n (cOf A.get))))),ty,some ⟨1,A.n,x1i (z6k (srt (Yu n (cOf A.get))))⟩⟩,
    Nat.beq sz 1&&(Nat.beq A.sz 1&&(Nat.beq off 0&&(decide (n=A.n)&&(isI A.get&&decide (n<4611686018427387904))))))
  | _=>none
 | _=>none
theorem z0h (n:Nat) (c:Nat→Int) (i:Nat) (h:i<n):(Ym n (x1i c))[i]? =some (.int .i64 (c i)):=by
 have:=Vu (get:=x1i c) (sz:=1) n (fun _ _=>rfl) i 0 h Nat.one_pos
 simpa [x1i] using this
theorem Jg (n:Nat) (c:Nat→Int):(Ym n (x1i c)).length =n:=by rw [Yb (sz:=1) n fun _ _=>rfl,Nat.mul_one]
theorem z6d (w:World) (n blk off:Nat) (d:Array Int) (os:Array Obj) (k:Nat) (hk:k<w.heap.size):
  (grow (putRow (Value.int .i64) (Go.Sort.ahead w n) blk off d) os).heap[k]? =if k=blk then (w.heap[k]?).map (onCells (putCells (Value.int .i64) off d)) else w.heap[k]? :=by
 show (((Go.Sort.ahead w n).heap.modify blk (onCells (putCells (Value.int .i64) off d)))++os)[k]? =_;rw [Array.getElem?_append_left (by simp_all),Array.getElem?_modify];show (if blk=k then _ else _)=_;by_cases h:k=blk
 ·simp_all
 ·rw [AF (fun e=>h e.symm),AF h];rfl
theorem Ev.rewritten {mem:Mem} {next floor:Nat} {w w':World} (h:Rel ρ mem next w) {b:Nat} (o:Option ABlk) (hb: ∀l,ρ b=some l→floor≤b) (hnone:ρ b=none→ ∀cs ty,Yi mem b≠some ⟨cs,ty,none⟩)
  (dY: ∀k,k<w.heap.size→(∀l,ρ b=some l→k≠l.blk)→w'.heap[k]? =w.heap[k]?) (hsize:w.heap.size≤w'.heap.size) (h1:w'.os=w.os) (h2:w'.tape=w.tape) (h3:w'.output=w.output):
  Ev ρ ρ floor mem next (Wv mem b o) next w w' where
 ext:=Rho.le_refl _
 new _ _:=rfl
 nxt:=Aq _
 unborn k _ e cs ty hm:=by
  grind [Zv]
 frame k o hk hfr:=by
  grind
 fresh k m hk e:=by have:=h.dom k m e;omega
 size:=hsize
 os:=h1
 tape:=h2
 output:=h3
 still _ _:=rfl
theorem Rel.unbornSet {mem:Mem} {next:Nat} {w:World} (h:Rel ρ mem next w) {b:Nat} (hb:ρ b=none) (hlt:b<next) (o:Option ABlk):Rel ρ (Wv mem b o) next w:=by
 have ne: ∀c l,ρ c=some l→c≠b:=fun c l e he=>by grind
 refine ⟨h.dom,fun c c' m m' e e' he hs hs'=> ?_,fun c m ac e hc=> ?_,h.old,fun c m e hs=> ?_,h.real,fun c hc=> ?_,h.ldom⟩
 ·rw [Zv _ _ (ne _ _ e)] at hs;rw [Zv _ _ (ne _ _ e')] at hs';exact h.inj c c' m m' e e' he hs hs'
 ·rw [Zv _ _ (ne _ _ e)] at hc;exact h.blk c m ac e hc
 ·rw [Zv _ _ (ne _ _ e)] at hs;exact h.sep c m e hs
 ·rw [Zv _ _ (by omega)];exact h.bd c hc
theorem j9d {f:FuncId} {srt:List Int→List Int} (hsl: ∀zs,(srt zs).length =zs.length)
  (hC: ∀(blk off cap:Nat) (zs:List Int) (w:World),Holds (Value.int .i64) w blk off zs.toArray→blk<w.heap.size→zs.length<4611686018427387904→
   Calls P f #[.slice (some ⟨blk,off,none⟩) zs.length cap] w fun e w'=>e=.returned (.tuple #[])∧ ∃n os,w'=grow (putRow (Value.int .i64) (Go.Sort.ahead w n) blk off (srt zs).toArray) os)
  (hN: ∀(p:Option Addr) (cap:Nat) (w:World),Calls P f #[.slice p 0 cap] w fun e w'=>e=.returned (.tuple #[])∧w'=w):x7y P f (fRow srt):=by
 intro args mem v b blk h fN ρ next floor vals w hfl dN dJ
 unfold fRow at h;split at h
 ·rename_i b0 sz off n cap;split at h
  ·rename_i cells ty A hm;obtain ⟨asz,an,get⟩:=A;simp only [Ad,Ac,Ae] at h;obtain ⟨rfl,rfl,rfl,h1,h2,h3,h4,h5,h6⟩:=h;have g1:=Ai h1;have g2:=Ai h2;have g3:=Ai h3;have g4:n=an:=Aw h4;have h6:n<4611686018427387904:=Aw h6;subst g1;subst g2;subst g3;subst g4;obtain ⟨c,hcg⟩:=w6k h5;have e0:cOf (x1i c)=c:=rfl;simp only [hcg,e0];obtain ⟨u,hu,hvals⟩: ∃u,Yx ρ (.sla b0 1 0 n cap) u∧vals= #[u]:=by
    obtain ⟨vl⟩:=vals;cases dN with
    | cons h1 h2=>cases h2;grind
   subst hvals;have hlt:b0<next:=by
    rcases A4 b0 next with h | h
    ·exact h
    ·have:=dJ.bd b0 h;grind
   generalize hL:srt (Yu n c)=L;have hLl:L.length=n:=by grind [Yu]
   have hnn:ρ b0=none→ ∀cs ty',Yi mem b0≠some ⟨cs,ty',none⟩:=fun _ cs ty' e=>by grind
   cases hu with
   | sla _ _ _ _ _ l cc e hc dK=>
    have hbk:=dJ.blk b0 l _ e hm;obtain ⟨har,_,_⟩:=hbk.arr _ rfl;simp only [hcg] at har;subst har;obtain ⟨cur,el,hh,hsz,dP⟩:=hbk.cells;simp only [Jg] at dP;have eP: ∀i,i<n→cur[l.base+i]? =some (.int .i64 (c i)):=fun i hi=>by obtain ⟨v,e1,e2⟩:=dP i hi;rw [show (Ym n (x1i c))[i]'(by grind)=.int .i64 (c i) from Ag (by rw [←Au,z0h n c i hi])] at e2;cases e2;exact e1
    have eW:=dJ.real b0 l e;have hzs:(Yu n c).length =n:=(by grind);have hH:Holds (Value.int .i64) w l.blk (l.base+0*1) (Yu n c).toArray :=fun j hj=>by
     grind [World.cell?,Yu,World.frozen?]
    have dV:=hC l.blk (l.base+0*1) cc (Yu n c) w hH eW (by omega);rw [hzs,hL] at dV;refine dV.mono fun e' w' ⟨he,q,os,hw'⟩=>⟨_,he,?_,?_,?_⟩
    ·exact .tup [] #[] rfl fun i h1 h2=>absurd h1 (AG _)
    ·subst hw';refine Rel.setArr ?_ ⟨1,n,x1i (z6k L)⟩ rfl (Aq 1) fun _ _=>rfl;refine Rel.rewritten dJ e hm (by simp only [Jg]) (fun k hk hne=> ?_) ?_ ?_
     ·grind [z6d]
     ·simp_all
     ·refine ⟨putCells (Value.int .i64) (l.base+0*1) L.toArray cur,el,?_,?_,fun i hi=> ?_⟩
      ·rw [z6d _ _ _ _ _ _ _ eW,AL rfl,hh];rfl
      ·grind [putCells]
      ·rw [Jg] at hi;refine ⟨.int .i64 (z6k L i),?_,?_⟩
       ·grind [putCells,z6k]
       ·rw [show (Ym n (x1i (z6k L)))[i]'(by grind)=.int .i64 (z6k L i) from Ag (by rw [←Au,z0h n _ i hi])];exact .int _ _
    ·subst hw';refine Ev.rewritten dJ _ (fun l' _=>hfl) hnn (fun k hk hne=> ?_) ?_ rfl rfl rfl
     ·grind [z6d]
     simp_all
   | slan=>
    refine (hN none 0 w).mono fun e' w' ⟨he,hw'⟩=>⟨_,he,?_,?_,?_⟩
    ·exact .tup [] #[] rfl fun i h1 h2=>absurd h1 (AG _)
    ·subst hw';refine Rel.setArr ?_ ⟨1,0,x1i (z6k L)⟩ rfl (Aq 1) fun _ _=>rfl;cases e:ρ b0 with
     | none=>exact Rel.unbornSet dJ e hlt _
     | some l=>have hbk:=dJ.blk b0 l _ e hm;obtain ⟨har,_,_⟩:=hbk.arr _ rfl;simp only [hcg] at har;subst har;obtain ⟨cur,el,hh,hsz,dP⟩:=hbk.cells;exact Rel.rewritten dJ e hm rfl (fun _ _ _=>rfl) (Aq _) ⟨cur,el,hh,hsz,fun i hi=>absurd hi (AG _)⟩
    grind [Ev.rewritten]
  ·cases h
 ·cases h
def fCut (srt:List Int→List Int) (res:List Int→Nat) (args:List AVal) (mem:Mem):Option (AVal×Nat×ABlk×Bool):=match args with
 | [.sla b sz off n cap]=>match Yi mem b with
  | some ⟨_,ty,some A⟩=>some (.sla b 1 0 (res (Yu n (cOf A.get))) cap,b,⟨Ym A.n (x1i (z6k (srt (Yu n (cOf A.get))))),ty,some ⟨1,A.n,x1i (z6k (srt (Yu n (cOf A.get))))⟩⟩,
    Nat.beq sz 1&&(Nat.beq A.sz 1&&(Nat.beq off 0&&(decide (n=A.n)&&(isI A.get&&decide (n<4611686018427387904))))))
  | _=>none
 | _=>none
theorem j9e {f:FuncId} {srt:List Int→List Int} {res:List Int→Nat} (hsl: ∀zs,(srt zs).length =zs.length) (eY: ∀zs,res zs≤zs.length)
  (hC: ∀(blk off cap:Nat) (zs:List Int) (w:World),Holds (Value.int .i64) w blk off zs.toArray→blk<w.heap.size→zs.length<4611686018427387904→zs.length≤cap→
   Calls P f #[.slice (some ⟨blk,off,none⟩) zs.length cap] w fun e w'=>e=.returned (.slice (some ⟨blk,off,none⟩) (res zs) cap)∧ ∃n os,w'=grow (putRow (Value.int .i64) (Go.Sort.ahead w n) blk off (srt zs).toArray) os)
  (hN: ∀(p:Option Addr) (cap:Nat) (w:World),Calls P f #[.slice p 0 cap] w fun e w'=>e=.returned (.slice p 0 cap)∧w'=w):x7y P f (fCut srt res):=by
 intro args mem v b blk h fN ρ next floor vals w hfl dN dJ
 unfold fCut at h;split at h
 ·rename_i b0 sz off n cap;split at h
  ·rename_i cells ty A hm;obtain ⟨asz,an,get⟩:=A;simp only [Ad,Ac,Ae] at h;obtain ⟨rfl,rfl,rfl,h1,h2,h3,h4,h5,h6⟩:=h;have g1:=Ai h1;have g2:=Ai h2;have g3:=Ai h3;have g4:n=an:=Aw h4;have h6:n<4611686018427387904:=Aw h6;subst g1;subst g2;subst g3;subst g4;obtain ⟨c,hcg⟩:=w6k h5;have e0:cOf (x1i c)=c:=rfl;simp only [hcg,e0];obtain ⟨u,hu,hvals⟩: ∃u,Yx ρ (.sla b0 1 0 n cap) u∧vals= #[u]:=by
    obtain ⟨vl⟩:=vals;cases dN with
    | cons h1 h2=>cases h2;grind
   subst hvals;have hlt:b0<next:=by
    rcases A4 b0 next with h | h
    ·exact h
    ·have:=dJ.bd b0 h;grind
   generalize hL:srt (Yu n c)=L;have hLl:L.length=n:=by grind [Yu]
   have hnn:ρ b0=none→ ∀cs ty',Yi mem b0≠some ⟨cs,ty',none⟩:=fun _ cs ty' e=>by grind
   cases hu with
   | sla _ _ _ _ _ l cc e hc dK=>
    have hbk:=dJ.blk b0 l _ e hm;obtain ⟨har,_,_⟩:=hbk.arr _ rfl;simp only [hcg] at har;subst har;obtain ⟨cur,el,hh,hsz,dP⟩:=hbk.cells;simp only [Jg] at dP;have eP: ∀i,i<n→cur[l.base+i]? =some (.int .i64 (c i)):=fun i hi=>by obtain ⟨v,e1,e2⟩:=dP i hi;rw [show (Ym n (x1i c))[i]'(by grind)=.int .i64 (c i) from Ag (by rw [←Au,z0h n c i hi])] at e2;cases e2;exact e1
    have eW:=dJ.real b0 l e;have hzs:(Yu n c).length =n:=(by grind);have hH:Holds (Value.int .i64) w l.blk (l.base+0*1) (Yu n c).toArray :=fun j hj=>by
     grind [World.cell?,Yu,World.frozen?]
    have dV:=hC l.blk (l.base+0*1) cc (Yu n c) w hH eW (by omega) (by omega);rw [hzs,hL] at dV;refine dV.mono fun e' w' ⟨he,q,os,hw'⟩=>⟨_,he,?_,?_,?_⟩
    ·exact .sla _ _ _ _ _ l cc e hc (Av (eY _) (by omega))
    ·subst hw';refine Rel.setArr ?_ ⟨1,n,x1i (z6k L)⟩ rfl (Aq 1) fun _ _=>rfl;refine Rel.rewritten dJ e hm (by simp only [Jg]) (fun k hk hne=> ?_) ?_ ?_
     ·grind [z6d]
     ·simp_all
     ·refine ⟨putCells (Value.int .i64) (l.base+0*1) L.toArray cur,el,?_,?_,fun i hi=> ?_⟩
      ·rw [z6d _ _ _ _ _ _ _ eW,AL rfl,hh];rfl
      ·grind [putCells]
      ·rw [Jg] at hi;refine ⟨.int .i64 (z6k L i),?_,?_⟩
       ·grind [putCells,z6k]
       ·rw [show (Ym n (x1i (z6k L)))[i]'(by grind)=.int .i64 (z6k L i) from Ag (by rw [←Au,z0h n _ i hi])];exact .int _ _
    ·subst hw';refine Ev.rewritten dJ _ (fun l' _=>hfl) hnn (fun k hk hne=> ?_) ?_ rfl rfl rfl
     ·grind [z6d]
     simp_all
   | slan=>
    refine (hN none 0 w).mono fun e' w' ⟨he,hw'⟩=>⟨_,he,?_,?_,?_⟩
    ·rw [show res (Yu 0 c)=0 from Nat.le_zero.1 (eY _)];exact .slan _ _ _ _
    ·subst hw';refine Rel.setArr ?_ ⟨1,0,x1i (z6k L)⟩ rfl (Aq 1) fun _ _=>rfl;cases e:ρ b0 with
     | none=>exact Rel.unbornSet dJ e hlt _
     | some l=>have hbk:=dJ.blk b0 l _ e hm;obtain ⟨har,_,_⟩:=hbk.arr _ rfl;simp only [hcg] at har;subst har;obtain ⟨cur,el,hh,hsz,dP⟩:=hbk.cells;exact Rel.rewritten dJ e hm rfl (fun _ _ _=>rfl) (Aq _) ⟨cur,el,hh,hsz,fun i hi=>absurd hi (AG _)⟩
    grind [Ev.rewritten]
  ·cases h
 ·cases h
def q4 (f:Nat→Nat→Int):Nat→List AVal:=fun k=>[.int .i64 (f k 0),.int .i64 (f k 1),.int .i64 (f k 2),.int .i64 (f k 3)]
theorem x6f (a:Nat):(Nat.beq a a == true)=true:=by simp_all
inductive VP where
 | keep
 | drop
  | grow (b sz:Nat)
  | list (n:Nat) (g:Nat→List AVal)
  | len (n:Nat)
  | frz (n n':Nat) (a g:Nat→List AVal)
def Kp (n:Nat) (a g:Nat→List AVal):Bool:=pd (∀i,i<n→a i=g i)
def v4r (cells:List AVal) (sz n:Nat) (g:Nat→List AVal):Bool:=pd (cells=Ym n g∧1≤sz∧ ∀i,i<n→(g i).length =sz)
def rlesR (n:Nat) (a g:Nat→List AVal):Bool:=pd (∀i,i<n→RLe (a i) (g i))
def x3t (a b:Nat):Bool:=pd (a=b)
theorem Uy {a b:Nat} (h:a=b):x3t a b=true:=Xy h
def v7p (v:AVal) (n:Nat) (a:Nat→List AVal):Bool:=pd (v=.dat n a)
theorem u4z (sz n:Nat) (g:Nat→List AVal):v7p (z6e sz sz 0 n n g) n g=true:=Xy (j6y sz n g)
theorem v7o (n:Nat) (g:Nat→List AVal):v7p (.dat n g) n g=true:=Xy rfl
def x6k :VP→AVal→Bool→AVal×Bool
 | .keep,v,ob=>(v,ob)
 | .drop,_,ob=>(.undef,ob)
 | .grow b sz,v,ob=>match v with
  | .nils =>(.sla b sz 0 0 (.un sz),ob)
  | .sl b o len cap=>(.sla b sz 0 len cap,Nat.beq o 0&&ob)
  | v=>(v,ob)
 | .list n' g,v,ob=>match v with
  | .nils =>(.dat 0 g,ob)
  | .dat n a=>(.dat n' g,x3t n n'&&(Kp n a g&&ob))
  | v=>(v,ob)
 | .len n',v,ob=>match v with
  | .sla b sz off n cap=>(.sla b sz off n' cap,x3t n n'&&ob)
  | v=>(v,ob)
 | .frz n n' a g,v,ob=>(.dat n' g,v7p v n a&&(x3t n n'&&(Kp n a g&&ob)))
theorem w6e {p:VP} {v:AVal} {ob:Bool} (h:(x6k p v ob).2=true):VLe v (x6k p v ob).1∧ob=true:=by
 cases p with
 | keep=>exact ⟨.refl _,h⟩
 | drop=>exact ⟨.undef _,h⟩
 | grow b sz=>
  cases v with
  | nils=>exact ⟨.nils _ _ _ _,h⟩
  | sl b' o len cap=>simp only [x6k,Ae] at h;have e:=Ai h.1;subst e;have:=VLe.sl b' sz 0 len cap;rw [Nat.zero_mul] at this;exact ⟨this,h.2⟩
  | _=>exact ⟨.refl _,h⟩
 | list n' g=>
  cases v with
  | nils=>exact ⟨.nild _,h⟩
  | dat n a=>simp only [x6k,Ae] at h;obtain rfl:=Jv h.1;exact ⟨.dat _ _ _ (Jv h.2.1),h.2.2⟩
  | _=>exact ⟨.refl _,h⟩
 | len n'=>
  cases v with
  | sla b sz off n cap=>simp only [x6k,Ae] at h;obtain rfl:=Jv h.1;exact ⟨.refl _,h.2⟩
  | _=>exact ⟨.refl _,h⟩
 | frz n n' a g=>simp only [x6k,Ae] at h;obtain rfl:=Jv h.1;obtain rfl:=Jv h.2.1;exact ⟨.dat _ _ _ (Jv h.2.2.1),h.2.2.2⟩
def x6j :List VP→List AVal→Bool→List AVal×Bool
 | _,[],ob=>([],ob)
 | [],l,ob=>(l,ob)
 | p::ps,v::l,ob=>match x6j ps l ob with
  | (l',ob)=>match x6k p v ob with
   | (v',ob)=>(v'::l',ob)
theorem y7b : ∀{ps:List VP} {l:List AVal} {ob:Bool},(x6j ps l ob).2=true→RLe l (x6j ps l ob).1∧ob=true
 | [],[],_,h=>⟨.nil,h⟩
 | _::_,[],_,h=>⟨.nil,h⟩
 | [],a::l,_,h=>⟨RLe.refl _,h⟩
 | p::ps,v::l,ob,h=>by simp only [x6j] at h ⊢;obtain ⟨h1,h2⟩:=w6e h;obtain ⟨h3,h4⟩:=y7b h2;exact ⟨.cons h1 h3,h4⟩
inductive BP where
 | keep
 | drop
 | cells (ps:List VP)
 | rowed (sz n:Nat) (g:Nat→List AVal)
 | rws (a:Rws)
def y8v :BP→Option ABlk→Bool→Option ABlk×Bool
 | .keep,o,ob=>(o,ob)
 | .drop,_,ob=>(none,ob)
 | .cells ps,o,ob=>match o with
  | some ⟨cells,ty,none⟩=>match x6j ps cells ob with
   | (cs,ob)=>(some ⟨cs,ty,none⟩,ob)
  | o=>(o,ob)
 | .rowed sz n g,o,ob=>match o with
  | some ⟨cells,ty,none⟩=>(some ⟨Ym n g,ty,some ⟨sz,n,.flat g⟩⟩,v4r cells sz n g&&ob)
  | some ⟨_,ty,some ⟨sz',n',a⟩⟩=>(some ⟨Ym n g,ty,some ⟨sz',n,.flat g⟩⟩,x3t n' n&&(Kp n' a.get g&&ob))
  | o=>(o,ob)
 | .rws a',o,ob=>match o with
  | some ⟨_,ty,some ⟨sz,n,a⟩⟩=>(some ⟨Ym n a'.get,ty,some ⟨sz,n,a'⟩⟩,rlesR n a.get a'.get&&ob)
  | o=>(o,ob)
theorem RLe.sound {ρ:Rho} {l m:List AVal} (h:RLe l m) (i:Nat) (h1:i<l.length) (h2:i<m.length) {v:Value} (hv:Yx ρ l[i] v):Yx ρ m[i] v:=(h.get i h1 h2).sound hv
theorem w1s {p:BP} {o:Option ABlk} {ob:Bool} {x':ABlk} (h:(y8v p o ob).2=true) (hx:(y8v p o ob).1=some x'):ob=true∧ ∃x,o=some x∧ ∀(ρ:Rho) (w:World) (l:Loc),Jz ρ w x l→Jz ρ w x' l:=by
 cases p with
 | keep=>exact ⟨h,x',hx,fun _ _ _ q=>q⟩
 | drop=>cases hx
 | cells ps=>
  rcases o with _ | ⟨cells,ty,_ | A⟩
  ·cases hx
  ·simp only [y8v] at h hx;obtain ⟨h1,h2⟩:=y7b h;obtain rfl:=Ag hx;refine ⟨h2,_,rfl,fun ρ w l hb=> ?_⟩;obtain ⟨cs,el,g1,g2,g3⟩:=hb.cells;refine ⟨by rw [hb.n];exact h1.len,hb.tot,(fun A hA=>by cases hA),cs,el,g1,g2,fun i hi=> ?_⟩;have hi0:i<cells.length:=by rw [h1.len];exact hi
   obtain ⟨v,q1,q2⟩:=g3 i hi0;exact ⟨v,q1,h1.sound i hi0 hi q2⟩
  ·exact ⟨h,_,rfl,fun ρ w l hb=>by obtain rfl:=Ag hx;exact hb⟩
 | rowed sz n g=>
  rcases o with _ | ⟨cells,ty,_ | ⟨sz',n',a⟩⟩
  ·cases hx
  ·simp only [y8v,Ae] at h hx;obtain rfl:=Ag hx;obtain ⟨h1,h2,h3⟩:=Jv h.1;exact ⟨h.2,_,rfl,fun ρ w l hb=>(BLe.rowed cells ty none sz n g h1 h2 h3).sound hb⟩
  ·simp only [y8v,Ae] at h hx;obtain rfl:=Ag hx;obtain rfl:=Jv h.1;have h1:=Jv h.2.1;refine ⟨h.2.2,_,rfl,fun ρ w l hb=> ?_⟩;obtain ⟨q1,q2,q3⟩:=hb.arr _ rfl;exact (BLe.rowed cells ty _ sz' n' g (q1.trans (y0n _ h1)) q2 fun i hi=>by rw [←h1 i hi];exact q3 i hi).sound hb
 | rws a'=>
  rcases o with _ | ⟨cells,ty,_ | ⟨sz',n',a⟩⟩
  ·cases hx
  ·exact ⟨h,_,rfl,fun ρ w l hb=>by obtain rfl:=Ag hx;exact hb⟩
  ·simp only [y8v,Ae] at h hx;obtain rfl:=Ag hx;refine ⟨h.2,_,rfl,fun ρ w l hb=> ?_⟩;obtain ⟨q1,_,_⟩:=hb.arr _ rfl;have q1:cells=Ym n' a.get:=q1;subst q1;exact (BLe.rws ty sz' n' a a' (Jv h.1)).sound hb
def v0c :List (Nat×VP)→T AVal→Bool→T AVal×Bool
 | [],env,ob=>(env,ob)
 | (t,p)::l,env,ob=>match v0c l env ob with
  | (e,ob)=>match x6k p (T.get .undef e t) ob with
   | (v,ob)=>(T.set .undef e t v,ob)
def ELe (e e':T AVal):Prop:= ∀t,(∀(ρ:Rho) (v:Value),Yx ρ (T.get .undef e t) v→Yx ρ (T.get .undef e' t) v)∧(T.get .undef e t=.undef →T.get .undef e' t=.undef)
theorem ELe.refl (e:T AVal):ELe e e:=fun _=>⟨fun _ _ h=>h,fun h=>h⟩
theorem x3s : ∀{l:List (Nat×VP)} {env:T AVal} {ob:Bool},(v0c l env ob).2=true→ELe env (v0c l env ob).1∧ob=true
 | [],_,_,h=>⟨ELe.refl _,h⟩
 | (t,p)::l,env,ob,h=>by
  simp only [v0c] at h ⊢;obtain ⟨h1,h2⟩:=w6e h;obtain ⟨h3,h4⟩:=x3s h2;refine ⟨fun s=> ?_,h4⟩;rw [T.get_set];by_cases e:s=t
  ·subst e;rw [AL rfl];exact ⟨fun ρ v hv=>h1.sound ((h3 s).1 ρ v hv),fun hu=>by have e:=(h3 s).2 hu;rw [e] at h1 ⊢;exact h1.of_undef⟩
  ·rw [AF e];exact h3 s
def w1r :List BP→Nat→Mem→Bool→Mem×Bool
 | [],_,m,ob=>(m,ob)
 | p::ps,i,m,ob=>match w1r ps (i+1) m ob with
  | (m',ob)=>match y8v p (Yi m i) ob with
   | (x,ob)=>(Wv m' i x,ob)
theorem u4n {p:BP} {o:Option ABlk} {ob:Bool} (h:(y8v p o ob).2=true):ob=true:=by
 cases p with
 | keep=>exact h
 | drop=>exact h
 | cells ps=>
  rcases o with _ | ⟨cells,ty,_ | A⟩
  ·exact h
  ·exact (y7b h).2
  ·exact h
 | rowed sz n g=>
  rcases o with _ | ⟨cells,ty,_ | A⟩;all_goals simp_all [y8v]
 | rws a=>
  rcases o with _ | ⟨cells,ty,_ | A⟩;all_goals simp_all [y8v]
theorem x1d : ∀{ps:List BP} {i:Nat} {m:Mem} {ob:Bool},(w1r ps i m ob).2=true→ob=true∧ ∀b x',Yi (w1r ps i m ob).1 b=some x'→ ∃x,Yi m b=some x∧ ∀(ρ:Rho) (w:World) (l:Loc),Jz ρ w x l→Jz ρ w x' l
 | [],_,_,_,h=>⟨h,fun b x' hb=>⟨x',hb,fun _ _ _ q=>q⟩⟩
 | p::ps,i,m,ob,h=>by
  simp only [w1r] at h ⊢;have hob:(w1r ps (i+1) m ob).2=true:=u4n h;obtain ⟨h1,h2⟩:=x1d hob;refine ⟨h1,fun b x' hb=> ?_⟩;rw [Vn] at hb;by_cases e:b=i
  ·subst e;rw [AL rfl] at hb;exact (w1s h hb).2
  ·rw [AF e] at hb;exact h2 b x' hb
def v0b :List (List (Nat×VP))→List AFr→Bool→List AFr×Bool
 | _,[],ob=>([],ob)
 | [],l,ob=>(l,ob)
 | p::ps,⟨cx,ro,todo,rnd,rs,env⟩::l,ob=>match v0b ps l ob with
  | (l',ob)=>match v0c p env ob with
   | (e,ob)=>(⟨cx,ro,todo,rnd,rs,e⟩::l',ob)
def FLe (a a':AFr):Prop:=a.cx=a'.cx∧a.ro=a'.ro∧a.todo=a'.todo∧a.rnd=a'.rnd∧a.rs=a'.rs∧ELe a.env a'.env
theorem FLe.refl (a:AFr):FLe a a:=⟨rfl,rfl,rfl,rfl,rfl,ELe.refl _⟩
theorem Vk.refl' : ∀l:List AFr,Vk FLe l l
 | []=>.nil
 | a::l=>.cons (FLe.refl a) (Vk.refl' l)
theorem w6f : ∀{ps:List (List (Nat×VP))} {l:List AFr} {ob:Bool},(v0b ps l ob).2=true→Vk FLe l (v0b ps l ob).1∧ob=true
 | [],[],_,h=>⟨.nil,h⟩
 | _::_,[],_,h=>⟨.nil,h⟩
 | [],a::l,_,h=>⟨Vk.refl' _,h⟩
 | p::ps,⟨cx,ro,todo,rnd,rs,env⟩::l,ob,h=>by simp only [v0b] at h ⊢;obtain ⟨h1,h2⟩:=x3s h;obtain ⟨h3,h4⟩:=w6f h2;exact ⟨.cons ⟨rfl,rfl,rfl,rfl,rfl,h1⟩ h3,h4⟩
structure Less where
 slots:List (Nat×VP):=[]
 blks:List BP:=[]
 cs:List (List (Nat×VP)):=[]
def v0e (L:Less):Cfg→Cfg
 | ⟨cx,ro,todo,rnd,rs,⟨env,mem,next,orc,ob⟩,cs,lps⟩=>match v0b L.cs cs ob with
  | (cs',ob)=>match w1r L.blks 0 mem ob with
   | (mem',ob)=>match v0c L.slots env ob with
    | (env',ob)=>⟨cx,ro,todo,rnd,rs,⟨env',mem',next,orc,ob⟩,cs',lps⟩
def x6u :List (TypeId×Nat×(Nat→List AVal))→Nat→Mem→Mem
 | [],_,m=>m
 | (ty,sz,g)::l,i,m=>Wv (x6u l (i+1) m) i (some ⟨[],ty,some ⟨sz,0,.flat g⟩⟩)
def w6n (gs:List (TypeId×Nat×(Nat→List AVal))):Cfg→Cfg
 | ⟨cx,ro,todo,rnd,rs,⟨env,mem,next,orc,ob⟩,cs,lps⟩=>⟨cx,ro,todo,rnd,rs,⟨env,x6u gs next mem,next+gs.length,orc,ob⟩,cs,lps⟩
theorem y1i : ∀(gs:List (TypeId×Nat×(Nat→List AVal))) (i:Nat) (m:Mem) (b:Nat),(b<i→Yi (x6u gs i m) b=Yi m b)∧(i+gs.length≤b→Yi (x6u gs i m) b=Yi m b)
 | [],i,m,b=>⟨fun _=>rfl,fun _=>rfl⟩
 | (ty,sz,g)::l,i,m,b=>by obtain ⟨h1,h2⟩:=y1i l (i+1) m b;simp only [x6u,Vn,Bb];exact ⟨fun h=>by rw [AF (by omega)];exact h1 (by omega),fun h=>by rw [AF (by omega)];exact h2 (by omega)⟩
theorem v2k.less {P:Program} {ρ:Rho} {cs:List AFr} {css:List Frame} {mss:List Nat} (h:v2k P ρ cs css mss): ∀{cs':List AFr},Vk FLe cs cs'→v2k P ρ cs' css mss:=by
 induction h with
 | nil=>intro cs' h;cases h;exact .nil
 | @cons af b a k ms cs css mss hf hl t ih=>
  intro cs' h;cases h with
  | @cons _ af' _ cs'' h1 h2=>
   obtain ⟨e1,e2,e3,e4,e5,e6⟩:=h1;have hne:cs''≠ []→cs≠ []:=fun hn he=>by subst he;cases h2;exact hn rfl
   rw [show Wf af.ro k=Wf af'.ro k by rw [e2]];exact .cons ⟨by rw [←e1];exact ⟨hf.env.size,fun t=>(e6 t).1 _ _ (hf.env.get t),fun t ht=>(e6 t).2 (hf.env.out t ht)⟩,hf.defers,by rw [←e3];exact hf.todo,by rw [←e2];exact hf.ro,by rw [←e4];exact hf.rnd⟩
    (fun hn=>by grind) (ih h2)
theorem y1h {P:Program} {cx:Ctx} {ro:Option RegOps} {todo:List Item} {rnd:Option Nat} {rs:List ResultVar} {env env':T AVal} {mem mem':Mem} {k k':Nat} {o o':List Bool} {b0 b0':Bool} {cs cs':List AFr} {lps:Loops}
  (hE:ELe env env') (hC:Vk FLe cs cs') (hM: ∀b x',b<k→Yi mem' b=some x'→ ∃x,Yi mem b=some x∧ ∀(ρ:Rho) (w:World) (l:Loc),Jz ρ w x l→Jz ρ w x' l) (hk:k≤k') (hbd:(∀b,k≤b→Yi mem b=none)→ ∀b,k'≤b→Yi mem' b=none):
  y1z P ⟨cx,ro,todo,rnd,rs,⟨env,mem,k,o,b0⟩,cs,lps⟩ ⟨cx,ro,todo,rnd,rs,⟨env',mem',k',o',b0'⟩,cs',lps⟩:=
 fun H w0 ρ b a t css w ma mb hs he cs0=>by
  have hr:=hs.rel;simp only at hr he;have hne:cs'≠ []→cs≠ []:=fun hn e=>by subst e;cases hC;exact hn rfl
  refine ⟨ρ,b,a,t,css,w,ma,mb,Steps.refl _ _,⟨⟨?_,hs.top.defers,hs.top.todo,hs.top.ro,hs.top.rnd⟩,fun hn=>hs.lv (hne hn),⟨hs.rest.cs.less hC,hs.rest.nodup,hs.rest.marks,hs.rest.loops,hs.rest.inj⟩,?_⟩,?_,rfl,Aq _⟩
  ·exact ⟨hs.top.env.size,fun t=>(hE t).1 _ _ (hs.top.env.get t),fun t ht=>(hE t).2 (hs.top.env.out t ht)⟩
  ·have lift: ∀c l,ρ c=some l→(Yi mem' c).isSome =true→(Yi mem c).isSome =true:=fun c l hc h=>by obtain ⟨x,hx⟩:=BG.1 h;obtain ⟨y,hy,_⟩:=hM c x (hr.dom c l hc) hx;rw [hy];rfl
   refine ⟨fun c l hc=>AX (hr.dom c l hc) hk,fun c c' l l' hc hc' hl h1 h2=>hr.inj c c' l l' hc hc' hl (lift c l hc h1) (lift c' l' hc' h2),fun c l ab hc h1=> ?_,hr.old,fun c l hc h1=>hr.sep c l hc (lift c l hc h1),hr.real,hbd hr.bd,fun j l hj=>AX (hr.ldom j l hj) hk⟩;obtain ⟨y,hy,h2⟩:=hM c ab (hr.dom c l hc) h1;exact h2 _ _ _ (hr.blk c l y hc hy)
  ·exact ⟨he.ext,fun _ hb=>absurd hb (AG _),AC _,fun _ hb=>absurd hb (AG _),he.frame,he.fresh,he.size,he.os,he.tape,he.output,he.still⟩
theorem v0d {P:Program} {L:Less} {C:Cfg} (ho:(v0e L C).st.ob =true):C.st.ob=true∧y1z P C (v0e L C):=by
 obtain ⟨cx,ro,todo,rnd,rs,⟨env,mem,next,orc,ob⟩,cs,lps⟩:=C;simp only [v0e] at ho ⊢;obtain ⟨h1,h2⟩:=x3s ho;obtain ⟨h3,h4⟩:=x1d h2;obtain ⟨h5,h6⟩:=w6f h3;refine ⟨h6,y1h h1 h5 (fun b x' _ hb=>h4 b x' hb) (Aq _) fun hbd b hb=> ?_⟩;cases hq:Yi (w1r L.blks 0 mem (v0b L.cs cs ob).2).1 b with
 | none=>rfl
 | some x'=>
  grind
theorem w2k {P:Program} (gs:List (TypeId×Nat×(Nat→List AVal))) (C:Cfg):y1z P C (w6n gs C)∧(w6n gs C).st.ob =C.st.ob:=by
 obtain ⟨cx,ro,todo,rnd,rs,⟨env,mem,next,orc,ob⟩,cs,lps⟩:=C;exact ⟨y1h (ELe.refl _) (Vk.refl' _) (fun b x' hb h=>⟨x',by grind [y1i],fun _ _ _ q=>q⟩) (Nat.le_add_right _ _) fun hbd b hb=>by
  rw [(y1i gs next mem b).2 hb];grind,rfl⟩
theorem v0n {P:Program} {C C':Cfg} {orc:List Bool} {ob:Bool} (g:y1z P (C.withO orc) (C'.withB ob)):y1z P C C':=by
 obtain ⟨cx,ro,todo,rnd,rs,⟨env,mem,next,o,b⟩,cs,lps⟩:=C;obtain ⟨cx',ro',todo',rnd',rs',⟨env',mem',next',o',b'⟩,cs',lps'⟩:=C';exact fun H w0 ρ b a k css w ma mb hs he cs0=>by obtain ⟨ρ',b',a',k',css',w',ma',mb',h1,h2,h3,h4⟩:=g H w0 ρ b a k css w ma mb ⟨hs.top,hs.lv,hs.rest,hs.rel⟩ he cs0;exact ⟨ρ',b',a',k',css',w',ma',mb',h1,⟨h2.top,h2.lv,h2.rest,h2.rel⟩,h3,h4⟩
theorem u0m {P:Program} {S:Specs} (hN:y0a P) (hmx:P.follows .mixedOrders =true) (hS:Zu P S) {n m d:Nat} {C C':Cfg} (gs:List (TypeId×Nat×(Nat→List AVal))) (N:y0e) (L:Less) (orc:List Bool) (ob:Bool)
  (h:(((u4q P S (j4e P S m d) n (C.withO orc)).map (w6n gs)).bind (u3m P N)).map (v0e L)=some (C'.withB ob)) (ho:ob=true) (hfl:fl0 C=true):y1z P C C':=by
 rw [Al] at h;obtain ⟨C2,h1,h2⟩:=h;rw [BJ] at h1;obtain ⟨C1,h3,h4⟩:=h1;rw [Al] at h3;obtain ⟨C0,h5,rfl⟩:=h3;have hfo:fl0 (C.withO orc)=true:=by obtain ⟨cx,ro,todo,rnd,rs,⟨env,mem,next,o,b⟩,cs,lps⟩:=C;exact hfl
 obtain ⟨hCI,hC⟩:=v4j hN hmx hS m d;obtain ⟨f1,f2,f3⟩:=x6p hN hmx hS hCI hC n (C.withO orc) C0 (u5d hfo) h5;have hob:(v0e L C2).st.ob =true:=by rw [h2];obtain ⟨cx,ro,todo,rnd,rs,⟨env,mem,next,o,b⟩,cs,lps⟩:=C';exact ho
 obtain ⟨l1,l2⟩:=v0d (P:=P) hob;obtain ⟨g1,g2,_⟩:=w9p h4 l1;obtain ⟨q1,q2⟩:=w2k (P:=P) gs C0;rw [q2] at g1;have:=(((f3 g1).goes.trans q1).trans g2).trans l2;rw [h2] at this;exact v0n this
theorem x2s (n:Nat) (g:Nat→List AVal):Kp n g g=true:=Xy fun _ _=>rfl
theorem v4c (a g:Nat→List AVal):Kp 0 a g=true:=Xy fun _ h=>absurd h (AG _)
theorem u5y {a b:Nat} (h: ¬a≤b):Nat.ble a b=false:=A2.2 fun e=>h (Ak e)
theorem u5x {a b:Nat} (h:a≤b):Nat.ble a b=true:=by simp_all
theorem v4g {n N sz:Nat} {G H H':Nat→List AVal} {cells:List AVal} (m:Nat) (h:Kp n G H=true) (hN:N=n+m) (h0: ∀i,i<n→H' i=H i) (h1: ∀i,i<m→(cells.drop (i*sz)).take sz=H' (n+i)):Kp N (Zo G 0 n sz cells) H'=true:=Xy fun i hi=>by
 unfold Zo;by_cases e:n≤i
 ·grind [u5x]
 ·rw [u5y e,Aa,Af,Jv h i (by omega),h0 i (by omega)]
theorem y1m {α:Type} {sz:Nat}: ∀(l:List (List α)) (i:Nat),(∀x∈l,x.length=sz)→i<l.length→(l.flatten.drop (i*sz)).take sz=l.getD i []
 | [],i,_,h=>absurd h (AG _)
 | x::l,0,hl,_=>by
  grind
 | x::l,i+1,hl,h=>by have hx:=hl x (by simp);rw [List.flatten_cons,List.getD_cons_succ,←y1m l i (fun y hy=>hl y (by simp [hy])) (by simpa using h)];rw [List.drop_append,hx,show (i+1)*sz - sz=i*sz by rw [AS,BM];omega,Ar (by rw [hx,AS,BM];omega),A8]
theorem v4f {m N:Nat} {G H H':Nat→List AVal} (h':Kp m H H'=true) (hN:N=0+m):Kp N (Qz G 0 H) H'=true:=Xy fun i hi=>Jv h' i (by omega)
theorem x9i {n:Nat} {G H:Nat→List AVal} (h:Kp n G H=true):Kp n (fun k=>G (0+k)) H=true:=by grind
theorem u1y {cells:List AVal} {sz n:Nat} {g:Nat→List AVal} (h:cells=Ym n g) (h1:Nat.ble 1 sz=true) (h2: ∀i,(g i).length =sz):v4r cells sz n g=true:=Xy ⟨h,Ak h1,fun i _=>h2 i⟩
def z6q :List (Nat×ABlk)→Mem
 | []=>.leaf
 | (i,b)::l=>Wv (z6q l) i (some b)
def y2m :List (Nat×ALoop)→Loops
 | []=>.leaf
 | (i,b)::l=>v2h (y2m l) i (some b)
class Xq (α:Type) where
 w:Nat
 d:α
 cells:α→List AVal
 of:List AVal→α
 len: ∀a,(cells a).length =w
 pos:1≤w
 flat: ∀a,(cells a).all (pf 6)=true
 sc: ∀a,(cells a).all y1g=true
 back: ∀a,of (cells a)=a
def iOf :AVal→Int
 | .int _ n=>n
 | _=>0
def oOf :AVal→Bool
 | .bool b=>b
 | _=>false
instance : Xq Int where
 w:=1
 d:=0
 cells x:=[.int .i64 x]
 of l:=iOf (l.getD 0 .undef)
 len _:=rfl
 pos:=Aq 1
 flat _:=rfl
 sc _:=rfl
 back _:=rfl
instance : Xq Bool where
 w:=1
 d:=false
 cells x:=[.bool x]
 of l:=oOf (l.getD 0 .undef)
 len _:=rfl
 pos:=Aq 1
 flat _:=rfl
 sc _:=rfl
 back _:=rfl
structure R2 where
 (a b:Int)
 deriving DecidableEq
structure R3 where
 (a b c:Int)
 deriving DecidableEq
structure R4 where
 (a b c d:Int)
 deriving DecidableEq
structure R6 where
 (a b c d e f:Int)
 deriving DecidableEq
instance : Xq R2 where
 w:=2
 d:=⟨0,0⟩
 cells x:=[.int .i64 x.a,.int .i64 x.b]
 of l:=⟨iOf (l.getD 0 .undef),iOf (l.getD 1 .undef)⟩
 len _:=rfl
 pos:=by decide
 flat _:=rfl
 sc _:=rfl
 back _:=rfl
instance : Xq R3 where
 w:=3
 d:=⟨0,0,0⟩
 cells x:=[.int .i64 x.a,.int .i64 x.b,.int .i64 x.c]
 of l:=⟨iOf (l.getD 0 .undef),iOf (l.getD 1 .undef),iOf (l.getD 2 .undef)⟩
 len _:=rfl
 pos:=by decide
 flat _:=rfl
 sc _:=rfl
 back _:=rfl
instance : Xq R4 where
 w:=4
 d:=⟨0,0,0,0⟩
 cells x:=[.int .i64 x.a,.int .i64 x.b,.int .i64 x.c,.int .i64 x.d]
 of l:=⟨iOf (l.getD 0 .undef),iOf (l.getD 1 .undef),iOf (l.getD 2 .undef),iOf (l.getD 3 .undef)⟩
 len _:=rfl
 pos:=by decide
 flat _:=rfl
 sc _:=rfl
 back _:=rfl
instance : Xq R6 where
 w:=6
 d:=⟨0,0,0,0,0,0⟩
 cells x:=[.int .i64 x.a,.int .i64 x.b,.int .i64 x.c,.int .i64 x.d,.int .i64 x.e,.int .i64 x.f]
 of l:=⟨iOf (l.getD 0 .undef),iOf (l.getD 1 .undef),iOf (l.getD 2 .undef),iOf (l.getD 3 .undef),iOf (l.getD 4 .undef),iOf (l.getD 5 .undef)⟩
 len _:=rfl
 pos:=by decide
 flat _:=rfl
 sc _:=rfl
 back _:=rfl
section
variable {α:Type} [Xq α]
def rd (L:List α) (k:Nat):α:=L.getD k Xq.d
def Zz (L:List α):Nat→List AVal:=fun k=>Xq.cells (rd L k)
def lst (α:Type) [Xq α] (n:Nat) (g:Nat→List AVal):List α:=(List.range n).map fun k=>Xq.of (g k)
def isT (α:Type) [Xq α] (n:Nat) (g:Nat→List AVal):Bool:=pd (∀i,i<n→g i=Xq.cells (Xq.of (g i):α))
theorem Yo {L:List α} {k:Nat} (h:k<L.length):rd L k=L[k]:=by grind [rd]
theorem y8s {L M:List α} {k:Nat} (h:k<L.length):rd (L++M) k=rd L k:=by
 grind [rd]
theorem y6k {L M:List α} {k:Nat} (h:L.length≤k):rd (L++M) k=rd M (k - L.length):=by
 grind [rd]
theorem Zq (L:List α):lst α L.length (Zz L)=L:=by
 apply BH;all_goals grind [lst,Zz,Xq.back,Yo]
def cvT (L:List α):List α:=lst α L.length (Zz L)
theorem Zc (L:List α):cvT L=L:=Zq L
theorem x1c (n:Nat) (g:Nat→List AVal):(lst α n g).length =n:=by simp [lst]
theorem u4l (L:List α) {off n:Nat} (h:off+n≤L.length):lst α n (fun k=>Zz L (off+k))=(L.drop off).take n:=by
 apply BH;all_goals grind [lst,Zz,Xq.back,Yo]
theorem y4w (L:List α) (n:Nat):isT α n (Zz L)=true:=Xy fun i _=>by simp only [Zz];rw [Xq.back]
theorem x6q (L:List α) (off n:Nat):isT α n (fun k=>Zz L (off+k))=true:=Xy fun i _=>by simp only [Zz];rw [Xq.back]
theorem w6i (g:Nat→List AVal):isT α 0 g=true:=Xy fun i h=>absurd h (AG _)
theorem u4s (g:Nat→List AVal) (h0:g 0=Xq.cells (Xq.of (g 0):α)):isT α 1 g=true:=Xy fun i h=>by
 grind
theorem u4r (g:Nat→List AVal) (h0:g 0=Xq.cells (Xq.of (g 0):α)) (h1:g 1=Xq.cells (Xq.of (g 1):α)):isT α 2 g=true:=Xy fun i h=>by
 grind
theorem w6j {n:Nat} {g:Nat→List AVal} (h:isT α n g=true): ∀i,i<n→g i=Zz (lst α n g) i:=fun i hi=>by
 rw [Jv h i hi]
 grind [Zz,Yo,lst]
theorem Xe (L:List α):z1a (Zz L)=true:=Xy fun _=>Xq.flat _
theorem v1d {sz:Nat} (L:List α) (n:Nat) (h:sz=Xq.w α):x7c sz n (Zz L)=true:=Xy fun _ _=>⟨by rw [h];exact Xq.len _,Xq.sc _⟩
theorem v1e {sz:Nat} (L:List α) (off n:Nat) (h:sz=Xq.w α):x7c sz n (fun k=>Zz L (off+k))=true:=Xy fun _ _=>⟨by rw [h];exact Xq.len _,Xq.sc _⟩
theorem w3c {sz N off m:Nat} {G:Nat→List AVal} (h:x7c sz N G=true) (hb:decide (off+m≤N)=true):x7c sz m (fun k=>G (off+k))=true:=Xy fun i hi=>by have hb:=Aw hb;exact Jv h (off+i) (by omega)
theorem v8s {sz n N m:Nat} {G:Nat→List AVal} {cells:List AVal} (h:x7c sz n G=true) (hN:N=n+m) (hc:cells.length=m*sz) (hs:cells.all y1g=true):x7c sz N (Zo G 0 n sz cells)=true:=Xy fun i hi=>by
 unfold Zo;by_cases e:n≤i
 ·rw [u5x e,Ab];have:(i - n)*sz+sz≤m*sz:=by
   have:=AA sz (show i - n+1≤m by omega)
   grind
  grind
 ·rw [u5y e,Aa,Af];exact Jv h i (by omega)
theorem w4y {L M:List α} {n N sz:Nat} {G:Nat→List AVal} {cells:List AVal} (h:Kp n G (Zz L)=true) (hn:n=L.length) (hN:N=n+M.length) (hsz:sz=Xq.w α) (hc:cells=(M.map Xq.cells).flatten):Kp N (Zo G 0 n sz cells) (Zz (L++M))=true:=by
 grind [v4g,Zz,y1m,Xq.len,Yo]
theorem u9s {L:List α} {r k:Nat} {y:α} (hk:k<L.length):rd (L.set r y) k=if k=r then y else rd L k:=by
 grind [Yo]
theorem w4x {L:List α} {n r fo:Nat} {G:Nat→List AVal} {cs:List AVal} {y:α} (h:Kp n G (Zz L)=true) (hn:n=L.length) (hy:Xq.cells y=(Xq.cells (rd L r)).take fo++cs++(Xq.cells (rd L r)).drop (fo+cs.length)):Kp n (Xt G r fo cs) (Zz (L.set r y))=true:=by
 subst hn;refine Xy fun i hi=> ?_;unfold Xt;simp only [Zz];rw [u9s hi];cases e:Nat.beq i r with
 | true=>have:=Ai e;subst this;rw [Ab,AL rfl,Jv h i hi,hy];rfl
 | false=>
  have:i≠r:=fun q=>by simp_all
  rw [Aa,AF this,Jv h i hi];rfl
theorem u1m {n:Nat} {cs:List AVal} {y:α} {G:Nat→List AVal} (hG:G=fun _=>cs) (hy:Xq.cells y=cs):Kp n G (Zz (List.replicate n y))=true:=Xy fun i hi=>by
 grind [Zz,Yo]
theorem v4e {L M:List α} {n m N:Nat} {G H:Nat→List AVal} (h:Kp n G (Zz L)=true) (hn:n=L.length) (h':Kp m H (Zz M)=true) (hN:N=n+m):Kp N (Qz G n H) (Zz (L++M))=true:=by
 subst hn;refine Xy fun i hi=> ?_;unfold Qz;by_cases e:L.length≤i
 ·rw [u5x e,Ab,Jv h' _ (by omega)];grind [Zz,y6k]
 ·rw [u5y e,Aa,Jv h i (by omega)];grind [Zz,y8s]
def lenR (n:Nat) (g:Nat→List AVal) (sz:Nat):Bool:=pd (∀i,i<n→(g i).length =sz)
theorem v7a {sz:Nat} (L:List α) (n:Nat) (h:sz=Xq.w α):lenR n (Zz L) sz=true:=Xy fun _ _=>by rw [h];exact Xq.len _
theorem v0f {sz n:Nat} {L:List α} {off:Nat} (h:sz=Xq.w α):lenR n (fun k=>Zz L (off+k)) sz=true:=Xy fun _ _=>by rw [h];exact Xq.len _
def Km (L:List α) (off n:Nat):List α:=(List.range n).map fun k=>rd L (off+k)
theorem y2i (L:List α) (off n:Nat):(Km L off n).length =n:=by simp [Km]
theorem x3c {L:List α} {off n k:Nat} (h:k<n):rd (Km L off n) k=rd L (off+k):=by
 grind [Yo,Km]
theorem w8n {L:List α} {N off n:Nat} {G:Nat→List AVal} (h:Kp N G (Zz L)=true) (hb:decide (off+n≤N)=true):Kp n (fun k=>G (off+k)) (Zz (Km L off n))=true:=Xy fun i hi=>by have hb:=Aw hb;simp only [Zz];rw [x3c hi,Jv h _ (by omega)];rfl
theorem w8m {L:List α} {off n:Nat}:Kp n (fun k=>Zz L (off+k)) (Zz (Km L off n))=true:=Xy fun i hi=>by simp only [Zz];rw [x3c hi]
theorem Uu (L:List α):lst α L.length (fun k=>Zz L (0+k))=L:=by
 grind [Zq]
theorem v6z (L:List α) (off n:Nat):lst α n (fun k=>Zz L (off+k))=Km L off n:=by
 grind [lst,Km,Zz,Xq.back]
theorem u4t (L:List Int):isI (Zz L)=true:=Xy rfl
theorem Jj (L:List Int):Yu L.length (cOf (Zz L))=L:=Zq L
def v8x (L:List α) (off n:Nat) (M:List α):List α:=(List.range L.length).map fun k=>bif Nat.ble off k&&Nat.ble (k+1) (off+n) then rd M (k - off) else rd L k
theorem z3q (L:List α) (off n:Nat) (M:List α):(v8x L off n M).length =L.length:=by simp [v8x]
theorem v5i {L M:List α} {off n k:Nat} (h:k<L.length):rd (v8x L off n M) k=bif Nat.ble off k&&Nat.ble (k+1) (off+n) then rd M (k - off) else rd L k:=by
 grind [Yo,v8x]
theorem u1o {L M:List α} {N off n m:Nat} {G H:Nat→List AVal} (h:Kp N G (Zz L)=true) (hN:N=L.length) (h':Kp m H (Zz M)=true) (hm:n≤m):Kp N (Uj G off n H) (Zz (v8x L off n M))=true:=by
 subst hN;refine Xy fun i hi=> ?_;unfold Uj;simp only [Zz];rw [v5i hi];cases e:(Nat.ble off i&&Nat.ble (i+1) (off+n)) with
 | true=>simp only [Ae] at e;have e1:=Ak e.1;have e2:=Ak e.2;rw [Ab,Ab,Jv h' _ (by omega)];rfl
 | false=>rw [Aa,Aa,Jv h i hi];rfl
theorem v4d (z g:Nat→List AVal) (n:Nat):Kp n (Uj z 0 (Nat.min n n) g) g=true:=Xy fun i hi=>by unfold Uj;rw [show Nat.min n n=n from Nat.min_self n,Af,AW (AC i),AW hi];rfl
theorem v7u {g h:Nat→List AVal} {off n:Nat} (p:z1a g=true) (q:z1a h=true):z1a (Uj g off n h)=true:=Xy fun i=>by
 unfold Uj;cases (Nat.ble off i&&Nat.ble (i+1) (off+n)) with
 | true=>exact Jv q _
 | false=>exact Jv p _
end
theorem Xa {P:Program} {rs:List ResultVar} {σ:Type} {cfg:σ→Cfg} {C C':Cfg} (g:y1z P C C'): ∀{o:Xw σ},Yt P rs cfg C' o→Yt P rs cfg C o
 | .stuck,_=>trivial
 | .ret _,⟨D,h,h2,h3⟩=>⟨D,g.trans h,h2,h3⟩
 | .to _,h=>g.trans h
theorem w6v : ∀{az bs:List AVal} (i:Nat) {t u:T AVal},Vk VLe az bs→ELe t u→ELe (z7p az i t) (z7p bs i u)
 | _,_,i,t,u,.nil,h=>h
 | _,_,i,t,u,.cons (a:=a) (b:=b) h1 h2,h=>by
  refine w6v (i+1) h2 fun s=> ?_;rw [T.get_set,T.get_set];by_cases e:s=i
  ·rw [AL e,AL e];exact ⟨fun ρ v hv=>h1.sound hv,fun q=>by subst q;exact h1.of_undef⟩
  ·rw [AF e,AF e];exact h s
theorem x6z {P:Program} {f:FuncId} {az bs:List AVal} {vs:List AVal} (h:Vk VLe az bs) (k:Jy P (Zy P f) (Zg P f bs true []) vs):Jy P (Zy P f) (Zg P f az true []) vs:=by
 obtain ⟨C',g,h2,h3⟩:=k;refine ⟨C',y1z.trans ?_ g,h2,h3⟩;unfold Zg;cases P.funcs[f]? with
 | none=>exact y1z.refl _
 | some fn=>simp only;rw [h.length];exact y1h (w6v 0 h (ELe.refl _)) .nil (fun b x' hb=>absurd hb (AG _)) (Aq _) fun hbd b hb=>hbd b hb
theorem w7h {P:Program} {S:Specs} (hS:Zu P S) {f:FuncId} {F:List AVal→Option (AVal×Bool)} (hf:(P.funcs[f]?).any (fun fn=>fn.body.isSome)=true)
  (hF: ∀args v,F args=some (v,true)→ ∃bs vs,Vk VLe args bs∧Ku vs=v∧Jy P (Zy P f) (Zg P f bs true []) vs∧ ∃d,pf d v=true):Zu P (S.with f F):=
 v2l hS hf fun args v h=>by obtain ⟨bs,vs,h1,h2,h3,d,h4⟩:=hF args v h;exact ⟨vs,h2,x6z h1 h3,d,h4⟩
def asL (α:Type) [Xq α]:AVal→Option (List α×(Nat→List AVal)×Nat)
 | .nils =>some ([],fun _=>[],0)
 | .dat n g=>some (lst α n g,g,n)
 | _=>none
theorem Yh {α:Type} [Xq α] {v:AVal} {L:List α} {g:Nat→List AVal} {n:Nat} (h:asL α v=some (L,g,n)) (ho:isT α n g=true):VLe v (.dat L.length (Zz L)):=by
 unfold asL at h;split at h
 ·simp only [Ad,Ac] at h;obtain ⟨rfl,_,_⟩:=h;exact .nild _
 ·simp only [Ad,Ac] at h;obtain ⟨rfl,rfl,rfl⟩:=h;rw [x1c];exact .dat _ _ _ (w6j ho)
 ·cases h
open Go.ChangeShapes Go.WideShapes Go.Deep
section
variable {P:Program}
def x3u (P:Program) (rec:TypeId→Option (List IntKind)):List Field→Nat→Option (List IntKind)
 | [],_=>some []
 | f::r,o=>bif Nat.beq f.offset o then match rec f.type with
   | some ks=>bif Nat.beq (P.cellsOf f.type) ks.length then (x3u P rec r (o+ks.length)).map (ks++ ·) else none
   | none=>none
  else none
def y7d (P:Program):Nat→TypeId→Option (List IntKind)
 | 0,_=>none
 | d+1,t=>match P.underlying t with
  | some (.int k)=>some [k]
  | some (.struct fs)=>match x3u P (y7d P d) fs.toList 0 with
   | some ks=>bif Nat.beq (P.cellsOf t) ks.length then some ks else none
   | none=>none
  | _=>none
def u6j (ks:List IntKind) (cs:List Value):Prop:= ∃ns:List Int,ns.length=ks.length∧cs=List.zipWith Value.int ks ns∧ ∀p∈List.zip ks ns,p.1.has p.2
theorem u6j.append {a b:List IntKind} {x y:List Value} (h:u6j a x) (k:u6j b y):u6j (a++b) (x++y):=by
 obtain ⟨ns,h1,rfl,h3⟩:=h;obtain ⟨ms,k1,rfl,k3⟩:=k;refine ⟨ns++ms,by simp [h1,k1],?_,fun p hp=> ?_⟩;all_goals grind
theorem u6j.length {ks:List IntKind} {cs:List Value} (h:u6j ks cs):cs.length=ks.length:=by obtain ⟨ns,h1,rfl,_⟩:=h;simp [h1]
variable {HH:Type} {enc:TypeId×Value→HH} {w:World} {base:Nat} {spare:Nat→Bool} {held:Bool}
theorem y2n {rec:TypeId→Option (List IntKind)} (hr: ∀t ks,rec t=some ks→ ∀fuel cs x,DataW.trod enc P w base spare held fuel t cs=some x→u6j ks cs) (cs:List Value):
  ∀(l:List Field) (o:Nat) (ks:List IntKind),x3u P rec l o=some ks→o+ks.length≤cs.length→(∀f∈l,∃fuel x,DataW.trod enc P w base spare held fuel f.type ((cs.drop f.offset).take (P.cellsOf f.type))=some x)→u6j ks ((cs.drop o).take ks.length)
 | [],o,ks,h,_,_=>by obtain rfl:=Ag h;exact ⟨[],rfl,by simp,by simp⟩
 | f::r,o,ks,h,hl,hf=>by
  unfold x3u at h;obtain ⟨ho,h⟩:=Yw h;obtain rfl:=Ai ho;split at h
  ·rename_i ks1 h1;obtain ⟨hc,h⟩:=Yw h;have hc:=Ai hc;simp only [Al] at h;obtain ⟨ks2,h2,rfl⟩:=h;obtain ⟨fuel,x,hx⟩:=hf f (by simp);have i1:=hr _ _ h1 _ _ _ hx;rw [hc] at i1;rw [AH] at hl;have i2:=y2n hr cs r _ ks2 h2 (by omega) fun g hg=>hf g (by simp [hg]);have:(cs.drop f.offset).take (ks1++ks2).length =(cs.drop f.offset).take ks1.length++(cs.drop (f.offset+ks1.length)).take ks2.length:=by rw [AH,List.take_add,List.drop_drop]
   rw [this];exact i1.append i2
  ·cases h
theorem z3n : ∀(d:Nat) (t:TypeId) (ks:List IntKind),y7d P d t=some ks→ ∀(fuel:Nat) (cs:List Value) (x:DataW HH×List MemPlace),DataW.trod enc P w base spare held fuel t cs=some x→u6j ks cs
 | 0,_,_,h=>by cases h
 | d +1,t,ks,h=>by
  intro fuel cs x hx;unfold y7d at h;split at h
  ·rename_i k hk;obtain rfl:=Ag h;obtain ⟨m,rfl,_,hw⟩:=DataW.trod_int hk hx;refine ⟨[m],rfl,rfl,fun p hp=> ?_⟩;simp_all [Lit.wf,IntKind.has]
  ·rename_i fs hs;split at h
   ·rename_i ks1 h1;obtain ⟨hc,h⟩:=Yw h;obtain rfl:=Ag h;have hc:=Ai hc;obtain ⟨xs,n,_,_,hl,dK,hf⟩:=DataW.trod_struct hs hx;have hl:cs.length=ks1.length:=hl.trans hc;have:=y2n (fun t ks ht fuel cs x hx=>z3n d t ks ht fuel cs x hx) cs fs.toList 0 ks1 h1 (by omega) fun f hf'=>by
     obtain ⟨j,hj,rfl⟩:=AN hf';have hj2:j<fs.size:=(by grind);have:=hf j fs[j] (by simp [hj2])
     grind
    grind
   ·cases h
  ·cases h
def x2x (ks:List IntKind) (c:Nat→Int):List AVal:=List.zipWith AVal.int ks ((List.range ks.length).map c)
theorem v4s (ks:List IntKind) (c:Nat→Int) (j:Nat) (h:j<(x2x ks c).length): ∃hk:j<ks.length,(x2x ks c)[j]=.int ks[j] (c j):=by
 grind [x2x]
theorem u5t {e:TypeId} {ks:List IntKind} (hk:y7d P 30 e=some ks) {blk off len cap m fl:Nat} {D:Nat→DataW HH} {Pl:Nat→List MemPlace} (hl:len≤cap) (hlm:len≤m)
  (hi: ∀i,i<m→ ∃cs',w.cells? base ((⟨blk,off,none⟩:Addr).add (i*P.cellsOf e)) (P.cellsOf e)=some cs'∧DataW.trod enc P w base spare held fl e cs'=some (D i,Pl i)):
  ∃c:Nat→Nat→Int,Yx (z2c fun k=>w.heap[k]?) (.dat len (fun i=>x2x ks (c i))) (.slice (some ⟨blk,off,none⟩) len cap)∧ ∀i,i<len→ ∀(j:Nat) (k:IntKind),ks[j]? =some k→k.has (c i j):=by
 have key: ∀i,i<len→ ∃ns:List Int,ns.length=ks.length∧(∀j,j<ks.length→ ∃k,ks[j]? =some k∧w.cell? ⟨blk,off+(i*ks.length+j),none⟩=some (.int k (ns.getD j 0))∧k.has (ns.getD j 0)):=by
  intro i hil;obtain ⟨cs',hc',ht'⟩:=hi i (by omega);have I:=z3n 30 e ks hk _ _ _ ht';obtain ⟨_,dK,eP⟩:=World.cells?_some hc';have hce:P.cellsOf e=ks.length:=by rw [←dK];exact I.length
  obtain ⟨ns,n1,n2,n3⟩:=I;refine ⟨ns,n1,fun j hj=> ?_⟩;have hj2:j<ns.length:=by omega
  refine ⟨ks[j],by simp [hj],?_,?_⟩
  ·grind [Xf]
  ·have:(ks[j],ns[j])∈List.zip ks ns:=by
    rw [List.mem_iff_getElem]
    grind
   grind
 let c:Nat→Nat→Int:=fun i j=>if hil:i<len then ((key i hil).choose).getD j 0 else 0
 have hcs: ∀i,i<len→ ∀j,j<ks.length→ ∃k,ks[j]? =some k∧w.cell? ⟨blk,off+(i*ks.length+j),none⟩=some (.int k (c i j))∧k.has (c i j):=by
  grind
 refine ⟨c,.dat len _ blk off ks.length cap (fun i j=>.int (ks.getD j .i64) (c i j)) hl (fun i _=>by simp [x2x]) (fun i j hil hj=> ?_) (fun i j hil hj=> ?_),fun i hil j k hkj=> ?_⟩
 ·obtain ⟨hk2,e2⟩:=v4s ks (c i) j hj;rw [e2];have:ks.getD j .i64 =ks[j]:=by simp [hk2]
  rw [this];exact .int _ _
 ·obtain ⟨k,e1,e2,_⟩:=hcs i hil j hj;have:ks.getD j .i64 =k:=by simp [e1]
  rw [this];unfold World.cell? at e2;split at e2
  ·rename_i cl el fz hb2;simp only [Option.isSome_none,Bool.false_eq_true,if_false] at e2;exact ⟨cl,el,fz,hb2,e2⟩
  ·cases e2
 grind
end
open Go.Proofs.Tryz
open Go.Proofs
def namedB (P:Program):Bool:=P.funcs.toList.all fun fn=>fn.body.isNone|| !(fn.name == "runtime.NumGoroutine")
theorem u3r {P:Program} (h:namedB P=true):y0a P:=by
 intro f fn hf hb;have hm:fn∈P.funcs.toList:=by rw [Array.mem_toList_iff];exact Array.mem_of_getElem? hf
 have:=At.mp h fn hm;cases hbb:fn.body with
 | none=>rw [hbb] at hb;cases hb
 | some b=>simpa [hbb] using this
theorem named :y0a prog:=u3r (by kernel_rfl)
theorem mixed :prog.follows .mixedOrders =true:=by kernel_rfl
end Go.Am
namespace Go.Am
open IntKind (wrap)
open Go.Proofs.Tryz
open Go.Proofs
instance {α :Type} [Xq α]:Xq (List α) where
 w:=1
 d:=[]
 cells l:=[.dat l.length (Zz l)]
 of cs:=match cs.getD 0 .undef with
  | .dat n g=>lst α n g
  | _=>[]
 len _:=rfl
 pos:=Aq 1
 flat _:=rfl
 sc _:=rfl
 back l:=Zq l
theorem x9j {α:Type} [Xq α] {L:List α} {n off sz:Nat} {cells:List AVal} (hn:n=L.length) (hsz:sz=Xq.w α) (hc:(cells.drop off).take (n*sz)=(L.map Xq.cells).flatten):Kp n (Xh cells off sz) (Zz L)=true:=Xy fun i hi=>by
 have e:((((cells.drop off).take (n*sz)).drop (i*sz)).take sz)=(cells.drop (off+i*sz)).take sz:=by rw [List.drop_take,List.take_take,List.drop_drop,Nat.min_eq_left];have:=AA sz (show i+1≤n by omega);rw [AS,BM] at this;omega
 have h:=y1m (sz:=sz) (L.map Xq.cells) i (fun x hx=>by obtain ⟨y,_,rfl⟩:=AP.1 hx;rw [Xq.len,hsz]) (by simpa using by omega);unfold Xh;rw [←e,hc,h];simp only [Zz];rw [Yo (show i<L.length by omega),List.getD_eq_getElem?_getD,List.getElem?_map,Au (show i<L.length by omega)];rfl
theorem u1n {G H:Nat→List AVal} (h:G 0=H 0):Kp 1 G H=true:=Xy fun i hi=>by
 obtain rfl:i=0:=by omega
 exact h
theorem v0r {L:List AVal} (s t:Nat) (h:L.all (pf 6)=true):z1a (fun k=>(L.drop (k*s)).take t)=true:=Xy fun i=>
 At.2 fun v hv=>At.1 h v (List.mem_of_mem_drop (List.mem_of_mem_take hv))
structure OB where
 b:Bool
 h:b=true
def nn :OB:=⟨true,rfl⟩
def pp (q r:OB):OB:=⟨q.b&&r.b,y6r q.h r.h⟩
def tt {c v:Bool} (k:c=v) (r:OB):OB:=⟨(c == v)&&r.b,y6r (v5x k) r.h⟩
def ww {c:Bool} (k:c=true) (r:OB):OB:=⟨c&&r.b,y6r k r.h⟩
def fl {α:Type} [Xq α] (L:List α) (r:OB):OB:=⟨z1a (Zz L)&&r.b,y6r (Xe L) r.h⟩
theorem v1l {a b:Int} (k:(a == b)=false):((a != b) == true)=true:=by unfold bne;rw [k];rfl
theorem u5z {a b:Int} (k:(a != b)=true):((a == b) == false)=true:=by
 unfold bne at k;cases h:(a == b) with
 | true=>rw [h] at k;cases k
 | false=>rfl
theorem v9i {a b:Int} (k:(a != b)=false):((a == b) == true)=true:=by
 unfold bne at k;cases h:(a == b) with
 | true=>rfl
 | false=>rw [h] at k;cases k
def yt {c:Bool} (k:c=true) (r:OB):OB:=⟨c&&r.b,y6r k r.h⟩
def xw {c:Bool} (k:c=true):OB:=⟨c,k⟩
def xI (α:Type) [Xq α] (n:Nat) (g:Nat→List AVal) (h:isT α n g=true:=by first | with_reducible exact y4w _ _ | exact y4w _ _ | exact w6i _ | exact x6q _ _ _ | assumption | exact u4s _ rfl | exact u4r _ rfl rfl):OB:=⟨isT α n g,h⟩
def xr {α:Type} [Xq α] (L:List α):OB:=⟨isT α L.length (Zz L),y4w L _⟩
def xL (a b:Nat) (h:x3t a b=true:=by first | exact Uy rfl | exact Uy (by simp only [AH,Bb,List.length_nil,List.length_set,z3q,y2i,List.length_replicate] <;> omega) | assumption):OB:=⟨x3t a b,h⟩
def xS (n:Nat) (G H:Nat→List AVal) (h:Kp n G H=true:=by
  repeat' (first | exact x2s _ _ | assumption | exact v4c _ _ | exact u1n rfl | exact w8m | exact x9j rfl rfl rfl | rfl | (refine w4y ?_ ?_ rfl rfl rfl) | (refine w4x ?_ ?_ rfl) | exact v4d _ _ _ | (refine u1o ?_ ?_ ?_ (Nat.min_le_left _ _)) | exact w8n (by repeat' (first | exact x2s _ _ | (refine w4y ?_ ?_ rfl rfl rfl) | (refine w4x ?_ ?_ rfl) | (simp only [AH,Bb,List.length_nil,List.length_set,z3q];done) | omega)) (by assumption) | (refine v4e ?_ ?_ ?_ rfl) | exact v4f (x2s _ _) rfl | apply x9i | exact u1m rfl rfl | exact Af _ | (simp only [AH,Bb,List.length_nil,List.length_set,z3q,y2i,List.length_replicate] <;> omega))):OB:=⟨Kp n G H,h⟩
def xF (G:Nat→List AVal) (h:z1a G=true:=by
  repeat' (first | with_reducible exact Xe _ | apply v7w | apply v7t | apply v7v | apply v7u | exact Xe _ | exact v0s | exact w2q _ _ | exact v0r _ _ rfl | apply y7n | rfl | assumption)):OB:=⟨z1a G,h⟩
def xZ (v:AVal) (n:Nat) (g:Nat→List AVal) (h:v7p v n g=true:=by first | exact u4z _ _ _ | exact v7o _ _):OB:=⟨v7p v n g,h⟩
def xG (c:Bool) (h:c=true:=by
  repeat' (first | with_reducible (first | assumption | exact Nat.beq_refl _ | exact x6f _ | exact u3q _ | exact v6c _ | exact u5q _ | exact v6f _ | apply y6r | apply v5x) | rfl | exact u4t _ | exact v1d _ _ rfl | exact v1e _ _ _ rfl | exact v7a _ _ rfl | exact v0f rfl | exact u1y rfl rfl (fun _=>rfl) | (refine w3c ?_ (by assumption)) | (refine v8s ?_ rfl rfl rfl) | exact y4w _ _ | exact w6i _ | exact x6q _ _ _ | exact Xe _ | apply y7n | apply y6r | apply v5x)):OB:=⟨c,h⟩
def kpB (n:Nat) (l:List BP):List BP:=Nat.rec l (fun _ r=>.keep ::r) n
abbrev tn (n:Int):Nat:=Int.toNat n
abbrev ii (n:Int):AVal:=.int .i64 n
abbrev wr (n:Int):Int:=wrap .i64 n
def trs (n:Nat) (l:List Bool):List Bool:=Nat.rec l (fun _ r=>true::r) n
theorem sl {S:Specs} (hS:Zu prog S) (n:Nat) (gs:List (TypeId×Nat×(Nat→List AVal))) (N:y0e) (L:Less) (orc:List Bool) (ob:OB) {C C':Cfg}
  (h:(((u4q prog S (j4e prog S 100000 4) n (C.withO orc)).map (w6n gs)).bind (u3m prog N)).map (v0e L)=some (C'.withB ob.b):=by kernel_rfl) (hfl:fl0 C=true:=by rfl):y1z prog C C':=
 u0m named mixed hS gs N L orc ob.b h ob.h hfl
def rC (n f:Nat) (p:List Nat) (j r:Nat) (env:List (Nat×AVal)):Cfg:=⟨⟨n,0,true⟩,none,Zb prog f p j,none,Zy prog r,⟨Yg env,Vj [] 0,0,[],true⟩,[],.leaf⟩
theorem lr {σ:Type} {cfg:σ→Cfg} {C:Cfg} {rs:List ResultVar} {vs:List AVal} (n f:Nat) (p:List Nat) (j r:Nat) (env:List (Nat×AVal)) (h:y1z prog C (rC n f p j r env)) (hf:z4f (rC n f p j r env)=true:=by rfl)
  (hr:Ja prog (rC n f p j r env).st rs=some vs:=by kernel_rfl):Yt prog rs cfg C (.ret vs):=Kf _ h hf hr
theorem lb {rs:List ResultVar} {σ:Type} {cfg:σ→Cfg} {C:Cfg} {c:Bool} {a b:Xw σ} (ha:c=true→Yt prog rs cfg C a) (hb:c=false→Yt prog rs cfg C b):Yt prog rs cfg C (bif c then a else b):=w6g ha hb
theorem lo {rs:List ResultVar} {σ:Type} {cfg:σ→Cfg} {C:Cfg} {c:Bool} {a:Xw σ} (ha:c=true→Yt prog rs cfg C a):Yt prog rs cfg C (bif c then a else .stuck):=u4o ha
inductive rsortS where
 | h0 (v3:List Int) (v4:Int)
 | h1 (v3:List Int) (v4:Int) (v5:Int)
abbrev Jr (v3:List Int) (v5:Int) (l0:List Int) (v4:Int):=((v8x (v3++[0]) (0+(tn (wr (v5+1)))) (Nat.min ((v3.length+1) - (tn v5)) ((v3.length+1) - (tn (wr (v5+1))))) (Km (v3++[0]) (0+(tn v5)) ((v3.length+1) - (tn v5)))).set (0+(tn v5)) (rd l0 (tn v4)))
abbrev Qm (v3:List Int):=(Zo (Zz v3) 0 v3.length 1 [(ii 0)])
abbrev y4d (v3:List Int) (v5:Int):=(Nat.min ((v3.length+1) - (tn v5)) ((v3.length+1) - (tn (wr (v5+1)))))
def v4n (l0:List Int):rsortS→Cfg
 | .h0 v3 v4=>⟨⟨63,0,true⟩,none,(Zb prog 124 [1,1,0,1,0,0] 0),none,(Zy prog 9),⟨Yg [(0,(.dat l0.length (Zz l0))),(3,(.sla 0 1 0 v3.length (.un 1))),(4,(ii v4))],Vj [⟨Ym v3.length (Zz v3),3,some ⟨1,v3.length,(Zz v3)⟩⟩] 0,1,[],true⟩,[],.leaf⟩
 | .h1 v3 v4 v5=>⟨⟨63,0,true⟩,none,(Zb prog 124 [1,1,0,1,0,0,1,0,0,1,0,0,0] 0),none,(Zy prog 9),⟨Yg [(0,(.dat l0.length (Zz l0))),(3,(.sla 0 1 0 v3.length (.un 1))),(4,(ii v4)),(5,(ii v5))],Vj [⟨Ym v3.length (Zz v3),3,some ⟨1,v3.length,(Zz v3)⟩⟩] 0,1,[],true⟩,[],.leaf⟩
def x2v :List (Option (List Nat)):=[some [0,3,4]]
def x2w :List (Option (List Nat)):=[]
def v4l :List (Option (List Nat)):=[some [0,3,4,5]]
def v4m :List (Option (List Nat)):=[]
def Ux (l0:List Int):rsortS→Xw rsortS
 | .h0 v3 v4=>(bif (decide (v4<(l0.length:Int))) then (.to (.h1 v3 v4 (v3.length:Int))) else (.ret [(.dat v3.length (Zz v3))]))
 | .h1 v3 v4 v5=>(bif (decide (v5>0)) then (bif ((decide (0≤(wrap .i64 (v5 - 1))∧(wrap .i64 (v5 - 1))<(v3.length:Int)))&&true) then (bif (decide ((0+(Int.toNat (wrap .i64 (v5 - 1))))<v3.length)) then (bif ((decide (0≤v4∧v4<(l0.length:Int)))&&true) then (bif (decide ((rd v3 (0+(Int.toNat (wrap .i64 (v5 - 1)))))>(rd l0 v4.toNat))) then (.to (.h1 v3 v4 (wrap .i64 (v5 - 1)))) else (bif ((rd v3 (0+(Int.toNat (wrap .i64 (v5 - 1))))) == (rd l0 v4.toNat)) then (.to (.h0 v3 (wrap .i64 (v4+1)))) else (bif (Nat.beq 1 1&&((decide (0+v3.length=v3.length))&&decide ((v3.length+1+1)*(8+1)≤room))) then (bif (true&&((decide (0≤(wrap .i64 (v5+1))))&&(decide ((v3.length+1)≤(v3.length+1))&&decide ((Int.toNat (wrap .i64 (v5+1)))≤(v3.length+1))))) then (bif (true&&((decide (0≤v5))&&(decide ((v3.length+1)≤(v3.length+1))&&decide (v5.toNat≤(v3.length+1))))) then (bif (decide ((0+v5.toNat)+((v3.length+1) - v5.toNat)≤(v3.length+1))) then (bif (decide ((0+(Int.toNat (wrap .i64 (v5+1))))+((v3.length+1) - (Int.toNat (wrap .i64 (v5+1))))≤(v3.length+1))) then (bif ((decide (0≤v5∧v5<(((v3.length+1):Nat):Int)))&&true) then (bif (decide ((0+v5.toNat)<(v3.length+1))) then (.to (.h0 ((v8x (v3++[0]) (0+(Int.toNat (wrap .i64 (v5+1)))) (Nat.min ((v3.length+1) - v5.toNat) ((v3.length+1) - (Int.toNat (wrap .i64 (v5+1))))) (Km (v3++[0]) (0+v5.toNat) ((v3.length+1) - v5.toNat))).set (0+v5.toNat) (rd l0 v4.toNat)) (wrap .i64 (v4+1)))) else .stuck) else .stuck) else .stuck) else .stuck) else .stuck) else .stuck) else .stuck))) else .stuck) else .stuck) else .stuck) else (bif (Nat.beq 1 1&&((decide (0+v3.length=v3.length))&&decide ((v3.length+1+1)*(8+1)≤room))) then (bif (true&&((decide (0≤(wrap .i64 (v5+1))))&&(decide ((v3.length+1)≤(v3.length+1))&&decide ((Int.toNat (wrap .i64 (v5+1)))≤(v3.length+1))))) then (bif (true&&((decide (0≤v5))&&(decide ((v3.length+1)≤(v3.length+1))&&decide (v5.toNat≤(v3.length+1))))) then (bif (decide ((0+v5.toNat)+((v3.length+1) - v5.toNat)≤(v3.length+1))) then (bif (decide ((0+(Int.toNat (wrap .i64 (v5+1))))+((v3.length+1) - (Int.toNat (wrap .i64 (v5+1))))≤(v3.length+1))) then (bif ((decide (0≤v4∧v4<(l0.length:Int)))&&true) then (bif ((decide (0≤v5∧v5<(((v3.length+1):Nat):Int)))&&true) then (bif (decide ((0+v5.toNat)<(v3.length+1))) then (.to (.h0 ((v8x (v3++[0]) (0+(Int.toNat (wrap .i64 (v5+1)))) (Nat.min ((v3.length+1) - v5.toNat) ((v3.length+1) - (Int.toNat (wrap .i64 (v5+1))))) (Km (v3++[0]) (0+v5.toNat) ((v3.length+1) - v5.toNat))).set (0+v5.toNat) (rd l0 v4.toNat)) (wrap .i64 (v4+1)))) else .stuck) else .stuck) else .stuck) else .stuck) else .stuck) else .stuck) else .stuck) else .stuck))
def z5v (l0:List Int):Xw rsortS:=(.to (.h0 ([]:List Int) 0))
theorem x5j (l0:List Int): ∀s,Yt prog (Zy prog 124) (v4n l0) (v4n l0 s) (Ux l0 s)
 | .h0 v3 v4=>(lb (fun k0=>(sl Zm 21 [] ⟨[0],[],v4l,v4m⟩ ⟨[],[],[]⟩ [true] (pp (fl v3 nn) (tt k0 nn)))) (fun k0=>(lr 63 3 [1,1,1,1,0] 1 9 [(2,(.dat v3.length (Zz v3)))] (sl Zm 15 [] ⟨[],[0],[some [2]],[]⟩ ⟨[(2,.frz v3.length v3.length (Zz v3) (Zz v3))],[],[]⟩ [false] (pp (xZ (z6e 1 1 0 v3.length v3.length (Zz v3)) v3.length (Zz v3)) (pp (xL v3.length v3.length) (pp (xS v3.length (Zz v3) (Zz v3)) (pp (fl v3 nn) (tt k0 nn)))))))))
 | .h1 v3 v4 v5=>(lb (fun k0=>(lo fun aJ=>(lo fun bC=>(lo fun cK=>(lb (fun k1=>(sl Zm 13 [] ⟨[0],[],v4l,v4m⟩ ⟨[],[],[]⟩ (trs 11 []) (pp (fl v3 nn) (tt k1 (ww cK (ww bC (ww aJ (tt k0 nn)))))))) (fun k1=>(lb (fun k2=>(sl Zm 16 [] ⟨[0],[],x2v,x2w⟩ ⟨[],[],[]⟩ (trs 10 (bl 12 4094)) (pp (fl v3 nn) (tt k2 (ww cK (ww bC (ww aJ (tt k0 (tt k1 (ww cK (ww bC (ww aJ (tt k0 nn))))))))))))) (fun k2=>(lo fun o0=>(lo fun o1=>(lo fun o2=>(lo fun o3=>(lo fun o4=>(lo fun o5=>(lo fun o6=>(sl Zm 36 [] ⟨[2],[],x2v,x2w⟩ ⟨[(3,.len (Jr v3 v5 l0 v4).length)],[.rowed 1 (Jr v3 v5 l0 v4).length (Zz (Jr v3 v5 l0 v4))],[]⟩ (trs 10 (bl 12 2046)) (pp (xL (v3.length+1) (Jr v3 v5 l0 v4).length) (pp (xL (v3.length+1) (Jr v3 v5 l0 v4).length) (pp (xS (v3.length+1) (Xt (Uj (Qm v3) (0+(tn (wr (v5+1)))) (y4d v3 v5) (fun k=>(Qm v3) ((0+(tn v5))+k))) (0+(tn v5)) 0 [(ii (rd l0 (tn v4)))]) (Zz (Jr v3 v5 l0 v4))) (pp (pp (xF (Xt (Uj (Qm v3) (0+(tn (wr (v5+1)))) (y4d v3 v5) (fun k=>(Qm v3) ((0+(tn v5))+k))) (0+(tn v5)) 0 [(ii (rd l0 (tn v4)))])) nn) (ww o6 (ww o5 (ww cK (pp (pp (xG (Nat.beq 1 1)) (pp (xG (Nat.beq 1 1)) (pp (xw o4) (pp (xG (Nat.beq 1 1)) (pp (xG (Nat.beq 1 1)) (pp (xG (decide ((0+(tn v5))+((v3.length+1) - (tn v5))≤(v3.length+1)))) (xG (x7c 1 ((v3.length+1) - (tn v5)) (fun k=>(Qm v3) ((0+(tn v5))+k)))))))))) (ww o2 (ww o1 (ww o0 (tt k2 (ww cK (ww bC (ww aJ (tt k0 (tt k1 (ww cK (ww bC (ww aJ (tt k0 nn))))))))))))))))))))))))))))))))))))) (fun k0=>(lo fun o0=>(lo fun o1=>(lo fun o2=>(lo fun o3=>(lo fun o4=>(lo fun o5=>(lo fun o6=>(lo fun o7=>(sl Zm 36 [] ⟨[2],[],x2v,x2w⟩ ⟨[(3,.len (Jr v3 v5 l0 v4).length)],[.rowed 1 (Jr v3 v5 l0 v4).length (Zz (Jr v3 v5 l0 v4))],[]⟩ (bl 22 0) (pp (xL (v3.length+1) (Jr v3 v5 l0 v4).length) (pp (xL (v3.length+1) (Jr v3 v5 l0 v4).length) (pp (xS (v3.length+1) (Xt (Uj (Qm v3) (0+(tn (wr (v5+1)))) (y4d v3 v5) (fun k=>(Qm v3) ((0+(tn v5))+k))) (0+(tn v5)) 0 [(ii (rd l0 (tn v4)))]) (Zz (Jr v3 v5 l0 v4))) (pp (pp (xF (Xt (Uj (Qm v3) (0+(tn (wr (v5+1)))) (y4d v3 v5) (fun k=>(Qm v3) ((0+(tn v5))+k))) (0+(tn v5)) 0 [(ii (rd l0 (tn v4)))])) nn) (ww o7 (ww o6 (ww o5 (pp (pp (xG (Nat.beq 1 1)) (pp (xG (Nat.beq 1 1)) (pp (xw o4) (pp (xG (Nat.beq 1 1)) (pp (xG (Nat.beq 1 1)) (pp (xG (decide ((0+(tn v5))+((v3.length+1) - (tn v5))≤(v3.length+1)))) (xG (x7c 1 ((v3.length+1) - (tn v5)) (fun k=>(Qm v3) ((0+(tn v5))+k)))))))))) (ww o2 (ww o1 (ww o0 (tt k0 (tt k0 nn))))))))))))))))))))))))
theorem x2u (l0:List Int):Yt prog (Zy prog 124) (v4n l0) (Zg prog 124 [(.dat l0.length (Zz l0))] true []) (z5v l0):=(sl Zm 15 [(3,1,Zz ([]:List Int))] ⟨[0],[],x2v,x2w⟩ ⟨[(3,.grow 0 1)],[],[]⟩ [] (pp (fl ([]:List Int) nn) nn))
theorem w8t (l0:List Int) (n:Nat) (vs:List AVal) (h:Zr (Ux l0) n (z5v l0)=.ret vs):Jy prog (Zy prog 124) (Zg prog 124 [(.dat l0.length (Zz l0))] true []) vs:=by have:=Zd (x5j l0) n _ (x2u l0);rwa [h] at this
inductive rcanS where
 | h0 (v5:List R2) (v6:Int)
def j5i (l0:List Int) (l1:List Bool):rcanS→Cfg
 | .h0 v5 v6=>⟨⟨61,0,true⟩,none,(Zb prog 131 [1,1,0,1,0,0] 0),none,(Zy prog 6),⟨Yg [(0,(.dat l0.length (Zz l0))),(1,(.dat l1.length (Zz l1))),(5,(.sla 0 2 0 v5.length (.un 2))),(6,(ii v6))],Vj [⟨Ym v5.length (Zz v5),176,some ⟨2,v5.length,(Zz v5)⟩⟩] 0,1,[],true⟩,[],.leaf⟩
def x5w :List (Option (List Nat)):=[some [0,1,5,6]]
def x5x :List (Option (List Nat)):=[]
def z0l (l0:List Int) (l1:List Bool):rcanS→Xw rcanS
 | .h0 v5 v6=>(bif (decide ((wrap .i64 (v6+1))<(l0.length:Int))) then (bif ((decide (0≤v6∧v6<(l1.length:Int)))&&true) then (bif (!(rd l1 v6.toNat)) then (.to (.h0 v5 (wrap .i64 (v6+1)))) else (bif (decide ((v5.length:Int)>0)) then (bif ((decide (0≤(wrap .i64 ((v5.length:Int) - 1))∧(wrap .i64 ((v5.length:Int) - 1))<(v5.length:Int)))&&true) then (bif (decide ((0+(Int.toNat (wrap .i64 ((v5.length:Int) - 1))))<v5.length)) then (bif ((decide (0≤v6∧v6<(l0.length:Int)))&&true) then (bif ((rd v5 (0+(Int.toNat (wrap .i64 ((v5.length:Int) - 1))))).b == (rd l0 v6.toNat)) then (bif ((decide (0≤(wrap .i64 (v6+1))∧(wrap .i64 (v6+1))<(l0.length:Int)))&&true) then (.to (.h0 (v5.set (0+(Int.toNat (wrap .i64 ((v5.length:Int) - 1)))) (R2.mk (rd v5 (0+(Int.toNat (wrap .i64 ((v5.length:Int) - 1))))).a (rd l0 (Int.toNat (wrap .i64 (v6+1)))))) (wrap .i64 (v6+1)))) else .stuck) else (bif ((decide (0≤(wrap .i64 (v6+1))∧(wrap .i64 (v6+1))<(l0.length:Int)))&&true) then (bif (Nat.beq 2 2&&((decide (0+v5.length=v5.length))&&decide ((v5.length+1+1)*(16+1)≤room))) then (.to (.h0 (v5++[(R2.mk (rd l0 v6.toNat) (rd l0 (Int.toNat (wrap .i64 (v6+1)))))]) (wrap .i64 (v6+1)))) else .stuck) else .stuck)) else .stuck) else .stuck) else .stuck) else (bif ((decide (0≤v6∧v6<(l0.length:Int)))&&true) then (bif ((decide (0≤(wrap .i64 (v6+1))∧(wrap .i64 (v6+1))<(l0.length:Int)))&&true) then (bif (Nat.beq 2 2&&((decide (0+v5.length=v5.length))&&decide ((v5.length+1+1)*(16+1)≤room))) then (.to (.h0 (v5++[(R2.mk (rd l0 v6.toNat) (rd l0 (Int.toNat (wrap .i64 (v6+1)))))]) (wrap .i64 (v6+1)))) else .stuck) else .stuck) else .stuck))) else .stuck) else (.ret [(.dat v5.length (Zz v5))]))
def z8t (l0:List Int) (l1:List Bool):Xw rcanS:=(.to (.h0 ([]:List R2) 0))
theorem w0t (l0:List Int) (l1:List Bool): ∀s,Yt prog (Zy prog 131) (j5i l0 l1) (j5i l0 l1 s) (z0l l0 l1 s)
 | .h0 v5 v6=>(lb (fun k0=>(lo fun aJ=>(lb (fun k1=>(sl Zm 30 [] ⟨[0],[],x5w,x5x⟩ ⟨[],[],[]⟩ (bl 2 3) (pp (fl v5 nn) (tt k1 (ww aJ (tt k0 nn)))))) (fun k1=>(lb (fun k2=>(lo fun cC=>(lo fun cL=>(lo fun dC=>(lb (fun k3=>(lo fun o0=>(sl Zm 53 [] ⟨[0],[],x5w,x5x⟩ ⟨[(5,.len (v5.set (0+(tn (wr ((v5.length:Int) - 1)))) (R2.mk (rd v5 (0+(tn (wr ((v5.length:Int) - 1))))).a (rd l0 (tn (wr (v6+1)))))).length)],[.rowed 2 (v5.set (0+(tn (wr ((v5.length:Int) - 1)))) (R2.mk (rd v5 (0+(tn (wr ((v5.length:Int) - 1))))).a (rd l0 (tn (wr (v6+1)))))).length (Zz (v5.set (0+(tn (wr ((v5.length:Int) - 1)))) (R2.mk (rd v5 (0+(tn (wr ((v5.length:Int) - 1))))).a (rd l0 (tn (wr (v6+1)))))))],[]⟩ (bl 14 16381) (pp (xL v5.length (v5.set (0+(tn (wr ((v5.length:Int) - 1)))) (R2.mk (rd v5 (0+(tn (wr ((v5.length:Int) - 1))))).a (rd l0 (tn (wr (v6+1)))))).length) (pp (xL v5.length (v5.set (0+(tn (wr ((v5.length:Int) - 1)))) (R2.mk (rd v5 (0+(tn (wr ((v5.length:Int) - 1))))).a (rd l0 (tn (wr (v6+1)))))).length) (pp (xS v5.length (Xt (Zz v5) (0+(tn (wr ((v5.length:Int) - 1)))) 1 [(ii (rd l0 (tn (wr (v6+1)))))]) (Zz (v5.set (0+(tn (wr ((v5.length:Int) - 1)))) (R2.mk (rd v5 (0+(tn (wr ((v5.length:Int) - 1))))).a (rd l0 (tn (wr (v6+1)))))))) (pp (pp (xF (Xt (Zz v5) (0+(tn (wr ((v5.length:Int) - 1)))) 1 [(ii (rd l0 (tn (wr (v6+1)))))])) nn) (ww cL (ww cC (ww o0 (tt k3 (ww dC (ww cL (ww cC (tt k2 (tt k1 (ww aJ (tt k0 nn)))))))))))))))))) (fun k3=>(lo fun o0=>(lo fun o1=>(sl Zm 41 [] ⟨[2],[],x5w,x5x⟩ ⟨[(5,.len (v5++[(R2.mk (rd l0 (tn v6)) (rd l0 (tn (wr (v6+1)))))]).length)],[.rowed 2 (v5++[(R2.mk (rd l0 (tn v6)) (rd l0 (tn (wr (v6+1)))))]).length (Zz (v5++[(R2.mk (rd l0 (tn v6)) (rd l0 (tn (wr (v6+1)))))]))],[]⟩ (bl 14 8189) (pp (xL (v5.length+1) (v5++[(R2.mk (rd l0 (tn v6)) (rd l0 (tn (wr (v6+1)))))]).length) (pp (xL (v5.length+1) (v5++[(R2.mk (rd l0 (tn v6)) (rd l0 (tn (wr (v6+1)))))]).length) (pp (xS (v5.length+1) (Zo (Zz v5) 0 v5.length 2 [(ii (rd l0 (tn v6))),(ii (rd l0 (tn (wr (v6+1)))))]) (Zz (v5++[(R2.mk (rd l0 (tn v6)) (rd l0 (tn (wr (v6+1)))))]))) (pp (pp (xF (Zo (Zz v5) 0 v5.length 2 [(ii (rd l0 (tn v6))),(ii (rd l0 (tn (wr (v6+1)))))])) nn) (ww o1 (ww o0 (ww dC (tt k3 (ww dC (ww cL (ww cC (tt k2 (tt k1 (ww aJ (tt k0 nn)))))))))))))))))))))))) (fun k2=>(lo fun o0=>(lo fun o1=>(lo fun o2=>(sl Zm 41 [] ⟨[2],[],x5w,x5x⟩ ⟨[(5,.len (v5++[(R2.mk (rd l0 (tn v6)) (rd l0 (tn (wr (v6+1)))))]).length)],[.rowed 2 (v5++[(R2.mk (rd l0 (tn v6)) (rd l0 (tn (wr (v6+1)))))]).length (Zz (v5++[(R2.mk (rd l0 (tn v6)) (rd l0 (tn (wr (v6+1)))))]))],[]⟩ (bl 14 1) (pp (xL (v5.length+1) (v5++[(R2.mk (rd l0 (tn v6)) (rd l0 (tn (wr (v6+1)))))]).length) (pp (xL (v5.length+1) (v5++[(R2.mk (rd l0 (tn v6)) (rd l0 (tn (wr (v6+1)))))]).length) (pp (xS (v5.length+1) (Zo (Zz v5) 0 v5.length 2 [(ii (rd l0 (tn v6))),(ii (rd l0 (tn (wr (v6+1)))))]) (Zz (v5++[(R2.mk (rd l0 (tn v6)) (rd l0 (tn (wr (v6+1)))))]))) (pp (pp (xF (Zo (Zz v5) 0 v5.length 2 [(ii (rd l0 (tn v6))),(ii (rd l0 (tn (wr (v6+1)))))])) nn) (ww o2 (ww o1 (ww o0 (tt k2 (tt k1 (ww aJ (tt k0 nn))))))))))))))))))))) (fun k0=>(lr 61 3 [1,1,1,1,0] 1 6 [(4,(.dat v5.length (Zz v5)))] (sl Zm 16 [] ⟨[],[0],[some [4]],[]⟩ ⟨[(4,.frz v5.length v5.length (Zz v5) (Zz v5))],[],[]⟩ [false] (pp (xZ (z6e 2 2 0 v5.length v5.length (Zz v5)) v5.length (Zz v5)) (pp (xL v5.length v5.length) (pp (xS v5.length (Zz v5) (Zz v5)) (pp (fl v5 nn) (tt k0 nn)))))))))
theorem x5v (l0:List Int) (l1:List Bool):Yt prog (Zy prog 131) (j5i l0 l1) (Zg prog 131 [(.dat l0.length (Zz l0)),(.dat l1.length (Zz l1))] true []) (z8t l0 l1):=(sl Zm 15 [(176,2,Zz ([]:List R2))] ⟨[0],[],x5w,x5x⟩ ⟨[(5,.grow 0 2)],[],[]⟩ [] (pp (fl ([]:List R2) nn) nn))
theorem v5p (l0:List Int) (l1:List Bool) (n:Nat) (vs:List AVal) (h:Zr (z0l l0 l1) n (z8t l0 l1)=.ret vs):Jy prog (Zy prog 131) (Zg prog 131 [(.dat l0.length (Zz l0)),(.dat l1.length (Zz l1))] true []) vs:=by have:=Zd (w0t l0 l1) n _ (x5v l0 l1);rwa [h] at this
inductive rsmS where
 | h0 (v5:Int)
def rsmC (l0:List R2) (l1:List R2):rsmS→Cfg
 | .h0 v5=>⟨⟨26,0,true⟩,none,(Zb prog 132 [1,1,0,1,0,0] 0),none,(Zy prog 6),⟨Yg [(0,(.dat l0.length (Zz l0))),(1,(.dat l1.length (Zz l1))),(5,(ii v5))],Vj [] 0,0,[],true⟩,[],.leaf⟩
def rsmN0 :List (Option (List Nat)):=[some [0,1,5]]
def rsmM0 :List (Option (List Nat)):=[]
def z7b (l0:List R2) (l1:List R2):rsmS→Xw rsmS
 | .h0 v5=>(bif (decide (v5<(l0.length:Int))) then (bif ((decide (0≤v5∧v5<(l0.length:Int)))&&true) then (bif ((decide (0≤v5∧v5<(l1.length:Int)))&&true) then (bif (!(((rd l0 v5.toNat).a == (rd l1 v5.toNat).a)&&(((rd l0 v5.toNat).b == (rd l1 v5.toNat).b)&&true))) then (.ret [(.bool false)]) else (.to (.h0 (wrap .i64 (v5+1))))) else .stuck) else .stuck) else (.ret [(.bool true)]))
def z8g (l0:List R2) (l1:List R2):Xw rsmS:=(bif ((l0.length:Int) != (l1.length:Int)) then (.ret [(.bool false)]) else (.to (.h0 0)))
theorem w8u (l0:List R2) (l1:List R2): ∀s,Yt prog (Zy prog 132) (rsmC l0 l1) (rsmC l0 l1 s) (z7b l0 l1 s)
 | .h0 v5=>(lb (fun k0=>(lo fun aJ=>(lo fun bC=>(lb (fun k1=>(lr 26 132 [1,1,0,1,0,0,1,0,0,1,0,0] 1 6 [(4,(.bool false))] (sl Zm 19 [] ⟨[],[],[some [4]],[]⟩ ⟨[],[],[]⟩ (bl 2 3) (tt k1 (ww bC (ww aJ (tt k0 nn))))))) (fun k1=>(sl Zm 23 [] ⟨[],[],rsmN0,rsmM0⟩ ⟨[],[],[]⟩ (bl 2 1) (tt k1 (ww bC (ww aJ (tt k0 nn)))))))))) (fun k0=>(lr 26 3 [1,1,1,1,0] 1 6 [(4,(.bool true))] (sl Zm 14 [] ⟨[],[],[some [4]],[]⟩ ⟨[],[],[]⟩ [false] (tt k0 nn)))))
theorem x9r (l0:List R2) (l1:List R2):Yt prog (Zy prog 132) (rsmC l0 l1) (Zg prog 132 [(.dat l0.length (Zz l0)),(.dat l1.length (Zz l1))] true []) (z8g l0 l1):=(lb (fun k0=>(lr 26 132 [1,0,1,0,0] 1 6 [(4,(.bool false))] (sl Zm 18 [] ⟨[],[],[some [4]],[]⟩ ⟨[],[],[]⟩ [true] (tt k0 nn)))) (fun k0=>(sl Zm 22 [] ⟨[],[],rsmN0,rsmM0⟩ ⟨[],[],[]⟩ [false] (tt k0 nn))))
theorem u1v (l0:List R2) (l1:List R2) (n:Nat) (vs:List AVal) (h:Zr (z7b l0 l1) n (z8g l0 l1)=.ret vs):Jy prog (Zy prog 132) (Zg prog 132 [(.dat l0.length (Zz l0)),(.dat l1.length (Zz l1))] true []) vs:=by have:=Zd (w8u l0 l1) n _ (x9r l0 l1);rwa [h] at this
inductive rhasS where
 | h0 (v7:Int)
def j4x (l0:List R4) (x1:Int) (x2:Int):rhasS→Cfg
 | .h0 v7=>⟨⟨48,0,true⟩,none,(Zb prog 130 [1,0,1,0,0] 0),none,(Zy prog 3),⟨Yg [(0,(.dat l0.length (Zz l0))),(1,(ii x1)),(2,(ii x2)),(7,(ii v7))],Vj [] 0,0,[],true⟩,[],.leaf⟩
def x5m :List (Option (List Nat)):=[some [0,1,2,7]]
def x5n :List (Option (List Nat)):=[]
def z5x (l0:List R4) (x1:Int) (x2:Int):rhasS→Xw rhasS
 | .h0 v7=>(bif (decide (v7<(l0.length:Int))) then (bif ((decide (0≤v7∧v7<(l0.length:Int)))&&true) then (bif (decide ((rd l0 v7.toNat).a ≤x1)) then (bif (decide (x1<(rd l0 v7.toNat).c)) then (bif (decide ((rd l0 v7.toNat).b ≤x2)) then (bif (decide (x2<(rd l0 v7.toNat).d)) then (.ret [(.bool true)]) else (.to (.h0 (wrap .i64 (v7+1))))) else (.to (.h0 (wrap .i64 (v7+1))))) else (.to (.h0 (wrap .i64 (v7+1))))) else (.to (.h0 (wrap .i64 (v7+1))))) else .stuck) else (.ret [(.bool false)]))
def z8m (l0:List R4) (x1:Int) (x2:Int):Xw rhasS:=(.to (.h0 0))
theorem w0e (l0:List R4) (x1:Int) (x2:Int): ∀s,Yt prog (Zy prog 130) (j4x l0 x1 x2) (j4x l0 x1 x2 s) (z5x l0 x1 x2 s)
 | .h0 v7=>(lb (fun k0=>(lo fun aJ=>(lb (fun k1=>(lb (fun k2=>(lb (fun k3=>(lb (fun k4=>(lr 48 130 [1,0,1,0,0,1,0,0,1,0,0] 1 3 [(6,(.bool true))] (sl Zm 54 [] ⟨[],[],[some [6]],[]⟩ ⟨[],[],[]⟩ (trs 23 []) (tt k4 (ww aJ (tt k3 (ww aJ (tt k2 (ww aJ (tt k1 (ww aJ (tt k0 nn)))))))))))) (fun k4=>(sl Zm 58 [] ⟨[],[],x5m,x5n⟩ ⟨[],[],[]⟩ (trs 22 [false]) (tt k4 (ww aJ (tt k3 (ww aJ (tt k2 (ww aJ (tt k1 (ww aJ (tt k0 nn))))))))))))) (fun k3=>(sl Zm 58 [] ⟨[],[],x5m,x5n⟩ ⟨[],[],[]⟩ (trs 15 (bl 8 0)) (tt k3 (ww aJ (tt k2 (ww aJ (tt k1 (ww aJ (tt k0 nn))))))))))) (fun k2=>(sl Zm 58 [] ⟨[],[],x5m,x5n⟩ ⟨[],[],[]⟩ (trs 8 (bl 15 0)) (tt k2 (ww aJ (tt k1 (ww aJ (tt k0 nn))))))))) (fun k1=>(sl Zm 58 [] ⟨[],[],x5m,x5n⟩ ⟨[],[],[]⟩ (bl 23 1) (tt k1 (ww aJ (tt k0 nn)))))))) (fun k0=>(lr 48 3 [1,1,1,1,0] 1 3 [(6,(.bool false))] (sl Zm 14 [] ⟨[],[],[some [6]],[]⟩ ⟨[],[],[]⟩ [false] (tt k0 nn)))))
theorem x5l (l0:List R4) (x1:Int) (x2:Int):Yt prog (Zy prog 130) (j4x l0 x1 x2) (Zg prog 130 [(.dat l0.length (Zz l0)),(.int .i64 x1),(.int .i64 x2)] true []) (z8m l0 x1 x2):=(sl Zm 11 [] ⟨[],[],x5m,x5n⟩ ⟨[],[],[]⟩ [] nn)
theorem v4y (l0:List R4) (x1:Int) (x2:Int) (n:Nat) (vs:List AVal) (h:Zr (z5x l0 x1 x2) n (z8m l0 x1 x2)=.ret vs):Jy prog (Zy prog 130) (Zg prog 130 [(.dat l0.length (Zz l0)),(.int .i64 x1),(.int .i64 x2)] true []) vs:=by have:=Zd (w0e l0 x1 x2) n _ (x5l l0 x1 x2);rwa [h] at this
inductive rsrS where
 | h0 (v5:Int)
def rsrC (l0:List R4) (l1:List R4):rsrS→Cfg
 | .h0 v5=>⟨⟨26,0,true⟩,none,(Zb prog 109 [1,1,0,1,0,0] 0),none,(Zy prog 6),⟨Yg [(0,(.dat l0.length (Zz l0))),(1,(.dat l1.length (Zz l1))),(5,(ii v5))],Vj [] 0,0,[],true⟩,[],.leaf⟩
def rsrN0 :List (Option (List Nat)):=[some [0,1,5]]
def rsrM0 :List (Option (List Nat)):=[]
def z6z (l0:List R4) (l1:List R4):rsrS→Xw rsrS
 | .h0 v5=>(bif (decide (v5<(l0.length:Int))) then (bif ((decide (0≤v5∧v5<(l0.length:Int)))&&true) then (bif ((decide (0≤v5∧v5<(l1.length:Int)))&&true) then (bif (!(((rd l0 v5.toNat).a == (rd l1 v5.toNat).a)&&(((rd l0 v5.toNat).b == (rd l1 v5.toNat).b)&&(((rd l0 v5.toNat).c == (rd l1 v5.toNat).c)&&(((rd l0 v5.toNat).d == (rd l1 v5.toNat).d)&&true))))) then (.ret [(.bool false)]) else (.to (.h0 (wrap .i64 (v5+1))))) else .stuck) else .stuck) else (.ret [(.bool true)]))
def z8f (l0:List R4) (l1:List R4):Xw rsrS:=(bif ((l0.length:Int) != (l1.length:Int)) then (.ret [(.bool false)]) else (.to (.h0 0)))
theorem w8r (l0:List R4) (l1:List R4): ∀s,Yt prog (Zy prog 109) (rsrC l0 l1) (rsrC l0 l1 s) (z6z l0 l1 s)
 | .h0 v5=>(lb (fun k0=>(lo fun aJ=>(lo fun bC=>(lb (fun k1=>(lr 26 109 [1,1,0,1,0,0,1,0,0,1,0,0] 1 6 [(4,(.bool false))] (sl Zm 19 [] ⟨[],[],[some [4]],[]⟩ ⟨[],[],[]⟩ (bl 2 3) (tt k1 (ww bC (ww aJ (tt k0 nn))))))) (fun k1=>(sl Zm 23 [] ⟨[],[],rsrN0,rsrM0⟩ ⟨[],[],[]⟩ (bl 2 1) (tt k1 (ww bC (ww aJ (tt k0 nn)))))))))) (fun k0=>(lr 26 3 [1,1,1,1,0] 1 6 [(4,(.bool true))] (sl Zm 14 [] ⟨[],[],[some [4]],[]⟩ ⟨[],[],[]⟩ [false] (tt k0 nn)))))
theorem x9p (l0:List R4) (l1:List R4):Yt prog (Zy prog 109) (rsrC l0 l1) (Zg prog 109 [(.dat l0.length (Zz l0)),(.dat l1.length (Zz l1))] true []) (z8f l0 l1):=(lb (fun k0=>(lr 26 109 [1,0,1,0,0] 1 6 [(4,(.bool false))] (sl Zm 18 [] ⟨[],[],[some [4]],[]⟩ ⟨[],[],[]⟩ [true] (tt k0 nn)))) (fun k0=>(sl Zm 22 [] ⟨[],[],rsrN0,rsrM0⟩ ⟨[],[],[]⟩ [false] (tt k0 nn))))
theorem u1s (l0:List R4) (l1:List R4) (n:Nat) (vs:List AVal) (h:Zr (z6z l0 l1) n (z8f l0 l1)=.ret vs):Jy prog (Zy prog 109) (Zg prog 109 [(.dat l0.length (Zz l0)),(.dat l1.length (Zz l1))] true []) vs:=by have:=Zd (w8r l0 l1) n _ (x9p l0 l1);rwa [h] at this
inductive rsbS where
 | h0 (v5:Int)
def rsbC (l0:List R6) (l1:List R6):rsbS→Cfg
 | .h0 v5=>⟨⟨26,0,true⟩,none,(Zb prog 22 [1,1,0,1,0,0] 0),none,(Zy prog 6),⟨Yg [(0,(.dat l0.length (Zz l0))),(1,(.dat l1.length (Zz l1))),(5,(ii v5))],Vj [] 0,0,[],true⟩,[],.leaf⟩
def rsbN0 :List (Option (List Nat)):=[some [0,1,5]]
def rsbM0 :List (Option (List Nat)):=[]
def z7c (l0:List R6) (l1:List R6):rsbS→Xw rsbS
 | .h0 v5=>(bif (decide (v5<(l0.length:Int))) then (bif ((decide (0≤v5∧v5<(l0.length:Int)))&&true) then (bif ((decide (0≤v5∧v5<(l1.length:Int)))&&true) then (bif (!((((rd l0 v5.toNat).a == (rd l1 v5.toNat).a)&&(((rd l0 v5.toNat).b == (rd l1 v5.toNat).b)&&(((rd l0 v5.toNat).c == (rd l1 v5.toNat).c)&&true)))&&((((rd l0 v5.toNat).d == (rd l1 v5.toNat).d)&&(((rd l0 v5.toNat).e == (rd l1 v5.toNat).e)&&(((rd l0 v5.toNat).f == (rd l1 v5.toNat).f)&&true)))&&true))) then (.ret [(.bool false)]) else (.to (.h0 (wrap .i64 (v5+1))))) else .stuck) else .stuck) else (.ret [(.bool true)]))
def z8h (l0:List R6) (l1:List R6):Xw rsbS:=(bif ((l0.length:Int) != (l1.length:Int)) then (.ret [(.bool false)]) else (.to (.h0 0)))
theorem w8v (l0:List R6) (l1:List R6): ∀s,Yt prog (Zy prog 22) (rsbC l0 l1) (rsbC l0 l1 s) (z7c l0 l1 s)
 | .h0 v5=>(lb (fun k0=>(lo fun aJ=>(lo fun bC=>(lb (fun k1=>(lr 26 22 [1,1,0,1,0,0,1,0,0,1,0,0] 1 6 [(4,(.bool false))] (sl Zm 19 [] ⟨[],[],[some [4]],[]⟩ ⟨[],[],[]⟩ (bl 2 3) (tt k1 (ww bC (ww aJ (tt k0 nn))))))) (fun k1=>(sl Zm 23 [] ⟨[],[],rsbN0,rsbM0⟩ ⟨[],[],[]⟩ (bl 2 1) (tt k1 (ww bC (ww aJ (tt k0 nn)))))))))) (fun k0=>(lr 26 3 [1,1,1,1,0] 1 6 [(4,(.bool true))] (sl Zm 14 [] ⟨[],[],[some [4]],[]⟩ ⟨[],[],[]⟩ [false] (tt k0 nn)))))
theorem x9s (l0:List R6) (l1:List R6):Yt prog (Zy prog 22) (rsbC l0 l1) (Zg prog 22 [(.dat l0.length (Zz l0)),(.dat l1.length (Zz l1))] true []) (z8h l0 l1):=(lb (fun k0=>(lr 26 22 [1,0,1,0,0] 1 6 [(4,(.bool false))] (sl Zm 18 [] ⟨[],[],[some [4]],[]⟩ ⟨[],[],[]⟩ [true] (tt k0 nn)))) (fun k0=>(sl Zm 22 [] ⟨[],[],rsbN0,rsbM0⟩ ⟨[],[],[]⟩ [false] (tt k0 nn))))
theorem u1w (l0:List R6) (l1:List R6) (n:Nat) (vs:List AVal) (h:Zr (z7c l0 l1) n (z8h l0 l1)=.ret vs):Jy prog (Zy prog 22) (Zg prog 22 [(.dat l0.length (Zz l0)),(.dat l1.length (Zz l1))] true []) vs:=by have:=Zd (w8v l0 l1) n _ (x9s l0 l1);rwa [h] at this
inductive ratS where
 | h0 (v5:List R4) (v6:Int)
def ratC (l0:List R6) (x1:Int):ratS→Cfg
 | .h0 v5 v6=>⟨⟨60,0,true⟩,none,(Zb prog 108 [1,1,0,1,0,0] 0),none,(Zy prog 6),⟨Yg [(0,(.dat l0.length (Zz l0))),(1,(ii x1)),(5,(.sla 0 4 0 v5.length (.un 4))),(6,(ii v6))],Vj [⟨Ym v5.length (Zz v5),116,some ⟨4,v5.length,(Zz v5)⟩⟩] 0,1,[],true⟩,[],.leaf⟩
def u3c :List (Option (List Nat)):=[some [0,1,5,6]]
def u3d :List (Option (List Nat)):=[]
def z7e (l0:List R6) (x1:Int):ratS→Xw ratS
 | .h0 v5 v6=>(bif (decide (v6<(l0.length:Int))) then (bif ((decide (0≤v6∧v6<(l0.length:Int)))&&true) then (bif (decide ((rd l0 v6.toNat).c ≤x1)) then (bif (decide (x1<(rd l0 v6.toNat).f)) then (bif (Nat.beq 4 4&&((decide (0+v5.length=v5.length))&&decide ((v5.length+1+1)*(32+1)≤room))) then (.to (.h0 (v5++[(R4.mk (rd l0 v6.toNat).a (rd l0 v6.toNat).b (rd l0 v6.toNat).d (rd l0 v6.toNat).e)]) (wrap .i64 (v6+1)))) else .stuck) else (.to (.h0 v5 (wrap .i64 (v6+1))))) else (.to (.h0 v5 (wrap .i64 (v6+1))))) else .stuck) else (.ret [(.dat v5.length (Zz v5))]))
def y4o (l0:List R6) (x1:Int):Xw ratS:=(.to (.h0 ([]:List R4) 0))
theorem w9m (l0:List R6) (x1:Int): ∀s,Yt prog (Zy prog 108) (ratC l0 x1) (ratC l0 x1 s) (z7e l0 x1 s)
 | .h0 v5 v6=>(lb (fun k0=>(lo fun aJ=>(lb (fun k1=>(lb (fun k2=>(lo fun o0=>(sl Zm 42 [] ⟨[2],[],u3c,u3d⟩ ⟨[(5,.len (v5++[(R4.mk (rd l0 (tn v6)).a (rd l0 (tn v6)).b (rd l0 (tn v6)).d (rd l0 (tn v6)).e)]).length)],[.rowed 4 (v5++[(R4.mk (rd l0 (tn v6)).a (rd l0 (tn v6)).b (rd l0 (tn v6)).d (rd l0 (tn v6)).e)]).length (Zz (v5++[(R4.mk (rd l0 (tn v6)).a (rd l0 (tn v6)).b (rd l0 (tn v6)).d (rd l0 (tn v6)).e)]))],[]⟩ (trs 10 []) (pp (xL (v5.length+1) (v5++[(R4.mk (rd l0 (tn v6)).a (rd l0 (tn v6)).b (rd l0 (tn v6)).d (rd l0 (tn v6)).e)]).length) (pp (xL (v5.length+1) (v5++[(R4.mk (rd l0 (tn v6)).a (rd l0 (tn v6)).b (rd l0 (tn v6)).d (rd l0 (tn v6)).e)]).length) (pp (xS (v5.length+1) (Zo (Zz v5) 0 v5.length 4 [(ii (rd l0 (tn v6)).a),(ii (rd l0 (tn v6)).b),(ii (rd l0 (tn v6)).d),(ii (rd l0 (tn v6)).e)]) (Zz (v5++[(R4.mk (rd l0 (tn v6)).a (rd l0 (tn v6)).b (rd l0 (tn v6)).d (rd l0 (tn v6)).e)]))) (pp (pp (xF (Zo (Zz v5) 0 v5.length 4 [(ii (rd l0 (tn v6)).a),(ii (rd l0 (tn v6)).b),(ii (rd l0 (tn v6)).d),(ii (rd l0 (tn v6)).e)])) nn) (ww o0 (ww aJ (ww aJ (ww aJ (ww aJ (tt k2 (ww aJ (tt k1 (ww aJ (tt k0 nn))))))))))))))))) (fun k2=>(sl Zm 42 [] ⟨[0],[],u3c,u3d⟩ ⟨[],[],[]⟩ (trs 9 [false]) (pp (fl v5 nn) (tt k2 (ww aJ (tt k1 (ww aJ (tt k0 nn)))))))))) (fun k1=>(sl Zm 42 [] ⟨[0],[],u3c,u3d⟩ ⟨[],[],[]⟩ (bl 10 1) (pp (fl v5 nn) (tt k1 (ww aJ (tt k0 nn))))))))) (fun k0=>(lr 60 3 [1,1,1,1,0] 1 6 [(4,(.dat v5.length (Zz v5)))] (sl Zm 15 [] ⟨[],[0],[some [4]],[]⟩ ⟨[(4,.frz v5.length v5.length (Zz v5) (Zz v5))],[],[]⟩ [false] (pp (xZ (z6e 4 4 0 v5.length v5.length (Zz v5)) v5.length (Zz v5)) (pp (xL v5.length v5.length) (pp (xS v5.length (Zz v5) (Zz v5)) (pp (fl v5 nn) (tt k0 nn)))))))))
theorem w0u (l0:List R6) (x1:Int):Yt prog (Zy prog 108) (ratC l0 x1) (Zg prog 108 [(.dat l0.length (Zz l0)),(.int .i64 x1)] true []) (y4o l0 x1):=(sl Zm 15 [(116,4,Zz ([]:List R4))] ⟨[0],[],u3c,u3d⟩ ⟨[(5,.grow 0 4)],[],[]⟩ [] (pp (fl ([]:List R4) nn) nn))
theorem u3b (l0:List R6) (x1:Int) (n:Nat) (vs:List AVal) (h:Zr (z7e l0 x1) n (y4o l0 x1)=.ret vs):Jy prog (Zy prog 108) (Zg prog 108 [(.dat l0.length (Zz l0)),(.int .i64 x1)] true []) vs:=by have:=Zd (w9m l0 x1) n _ (w0u l0 x1);rwa [h] at this
inductive eqaS where
 | h0 (v13:Int)
def eqaC (l0:List R2) (l1:List R2):eqaS→Cfg
 | .h0 v13=>⟨⟨26,0,true⟩,none,(Zb prog 159 [1,1,0,1,0,0] 0),none,(Zy prog 6),⟨Yg [(0,(.dat l0.length (Zz l0))),(1,(.dat l1.length (Zz l1))),(12,(ii (l0.length:Int))),(13,(ii v13))],Vj [] 0,0,[],true⟩,[],.leaf⟩
def eqaN0 :List (Option (List Nat)):=[some [0,1,12,13]]
def eqaM0 :List (Option (List Nat)):=[]
def z7o (l0:List R2) (l1:List R2):eqaS→Xw eqaS
 | .h0 v13=>(bif (decide (v13<(l0.length:Int))) then (bif ((decide (0≤v13∧v13<(l0.length:Int)))&&true) then (bif ((decide (0≤v13∧v13<(l1.length:Int)))&&true) then (bif (!(((rd l0 v13.toNat).a == (rd l1 v13.toNat).a)&&(((rd l0 v13.toNat).b == (rd l1 v13.toNat).b)&&true))) then (.ret [(.bool false)]) else (.to (.h0 (wrap .i64 (v13+1))))) else .stuck) else .stuck) else (.ret [(.bool true)]))
def z9m (l0:List R2) (l1:List R2):Xw eqaS:=(bif ((l0.length:Int) != (l1.length:Int)) then (.ret [(.bool false)]) else (.to (.h0 0)))
theorem v1a (l0:List R2) (l1:List R2): ∀s,Yt prog (Zy prog 159) (eqaC l0 l1) (eqaC l0 l1 s) (z7o l0 l1 s)
 | .h0 v13=>(lb (fun k0=>(lo fun aJ=>(lo fun bC=>(lb (fun k1=>(lr 26 159 [1,1,0,1,0,0,1,1,0,0,1,1,0,0] 1 6 [(4,(.bool false))] (sl Zm 21 [] ⟨[],[],[some [4]],[]⟩ ⟨[],[],[]⟩ (bl 2 3) (tt k1 (ww bC (ww aJ (tt k0 nn))))))) (fun k1=>(sl Zm 24 [] ⟨[],[],eqaN0,eqaM0⟩ ⟨[],[],[]⟩ (bl 2 1) (tt k1 (ww bC (ww aJ (tt k0 nn)))))))))) (fun k0=>(lr 26 3 [1,1,1,1,0] 1 6 [(4,(.bool true))] (sl Zm 11 [] ⟨[],[],[some [4]],[]⟩ ⟨[],[],[]⟩ [false] (tt k0 nn)))))
theorem w2y (l0:List R2) (l1:List R2):Yt prog (Zy prog 159) (eqaC l0 l1) (Zg prog 159 [(.dat l0.length (Zz l0)),(.dat l1.length (Zz l1))] true []) (z9m l0 l1):=(lb (fun k0=>(lr 26 159 [1,0,1,0,0] 1 6 [(4,(.bool false))] (sl Zm 18 [] ⟨[],[],[some [4]],[]⟩ ⟨[],[],[]⟩ [true] (tt k0 nn)))) (fun k0=>(sl Zm 24 [] ⟨[],[],eqaN0,eqaM0⟩ ⟨[],[],[]⟩ [false] (tt k0 nn))))
theorem u5p (l0:List R2) (l1:List R2) (n:Nat) (vs:List AVal) (h:Zr (z7o l0 l1) n (z9m l0 l1)=.ret vs):Jy prog (Zy prog 159) (Zg prog 159 [(.dat l0.length (Zz l0)),(.dat l1.length (Zz l1))] true []) vs:=by have:=Zd (v1a l0 l1) n _ (w2y l0 l1);rwa [h] at this
inductive eqbS where
 | h0 (v13:Int)
def eqbC (l0:List R4) (l1:List R4):eqbS→Cfg
 | .h0 v13=>⟨⟨26,0,true⟩,none,(Zb prog 163 [1,1,0,1,0,0] 0),none,(Zy prog 6),⟨Yg [(0,(.dat l0.length (Zz l0))),(1,(.dat l1.length (Zz l1))),(12,(ii (l0.length:Int))),(13,(ii v13))],Vj [] 0,0,[],true⟩,[],.leaf⟩
def eqbN0 :List (Option (List Nat)):=[some [0,1,12,13]]
def eqbM0 :List (Option (List Nat)):=[]
def z7n (l0:List R4) (l1:List R4):eqbS→Xw eqbS
 | .h0 v13=>(bif (decide (v13<(l0.length:Int))) then (bif ((decide (0≤v13∧v13<(l0.length:Int)))&&true) then (bif ((decide (0≤v13∧v13<(l1.length:Int)))&&true) then (bif (!(((rd l0 v13.toNat).a == (rd l1 v13.toNat).a)&&(((rd l0 v13.toNat).b == (rd l1 v13.toNat).b)&&(((rd l0 v13.toNat).c == (rd l1 v13.toNat).c)&&(((rd l0 v13.toNat).d == (rd l1 v13.toNat).d)&&true))))) then (.ret [(.bool false)]) else (.to (.h0 (wrap .i64 (v13+1))))) else .stuck) else .stuck) else (.ret [(.bool true)]))
def z9l (l0:List R4) (l1:List R4):Xw eqbS:=(bif ((l0.length:Int) != (l1.length:Int)) then (.ret [(.bool false)]) else (.to (.h0 0)))
theorem v0z (l0:List R4) (l1:List R4): ∀s,Yt prog (Zy prog 163) (eqbC l0 l1) (eqbC l0 l1 s) (z7n l0 l1 s)
 | .h0 v13=>(lb (fun k0=>(lo fun aJ=>(lo fun bC=>(lb (fun k1=>(lr 26 163 [1,1,0,1,0,0,1,1,0,0,1,1,0,0] 1 6 [(4,(.bool false))] (sl Zm 21 [] ⟨[],[],[some [4]],[]⟩ ⟨[],[],[]⟩ (bl 2 3) (tt k1 (ww bC (ww aJ (tt k0 nn))))))) (fun k1=>(sl Zm 24 [] ⟨[],[],eqbN0,eqbM0⟩ ⟨[],[],[]⟩ (bl 2 1) (tt k1 (ww bC (ww aJ (tt k0 nn)))))))))) (fun k0=>(lr 26 3 [1,1,1,1,0] 1 6 [(4,(.bool true))] (sl Zm 11 [] ⟨[],[],[some [4]],[]⟩ ⟨[],[],[]⟩ [false] (tt k0 nn)))))
theorem w2x (l0:List R4) (l1:List R4):Yt prog (Zy prog 163) (eqbC l0 l1) (Zg prog 163 [(.dat l0.length (Zz l0)),(.dat l1.length (Zz l1))] true []) (z9l l0 l1):=(lb (fun k0=>(lr 26 163 [1,0,1,0,0] 1 6 [(4,(.bool false))] (sl Zm 18 [] ⟨[],[],[some [4]],[]⟩ ⟨[],[],[]⟩ [true] (tt k0 nn)))) (fun k0=>(sl Zm 24 [] ⟨[],[],eqbN0,eqbM0⟩ ⟨[],[],[]⟩ [false] (tt k0 nn))))
theorem u5o (l0:List R4) (l1:List R4) (n:Nat) (vs:List AVal) (h:Zr (z7n l0 l1) n (z9l l0 l1)=.ret vs):Jy prog (Zy prog 163) (Zg prog 163 [(.dat l0.length (Zz l0)),(.dat l1.length (Zz l1))] true []) vs:=by have:=Zd (v0z l0 l1) n _ (w2x l0 l1);rwa [h] at this
inductive eqcS where
 | h0 (v13:Int)
def eqcC (l0:List R6) (l1:List R6):eqcS→Cfg
 | .h0 v13=>⟨⟨26,0,true⟩,none,(Zb prog 94 [1,1,0,1,0,0] 0),none,(Zy prog 6),⟨Yg [(0,(.dat l0.length (Zz l0))),(1,(.dat l1.length (Zz l1))),(12,(ii (l0.length:Int))),(13,(ii v13))],Vj [] 0,0,[],true⟩,[],.leaf⟩
def eqcN0 :List (Option (List Nat)):=[some [0,1,12,13]]
def eqcM0 :List (Option (List Nat)):=[]
def z7m (l0:List R6) (l1:List R6):eqcS→Xw eqcS
 | .h0 v13=>(bif (decide (v13<(l0.length:Int))) then (bif ((decide (0≤v13∧v13<(l0.length:Int)))&&true) then (bif ((decide (0≤v13∧v13<(l1.length:Int)))&&true) then (bif (!((((rd l0 v13.toNat).a == (rd l1 v13.toNat).a)&&(((rd l0 v13.toNat).b == (rd l1 v13.toNat).b)&&(((rd l0 v13.toNat).c == (rd l1 v13.toNat).c)&&true)))&&((((rd l0 v13.toNat).d == (rd l1 v13.toNat).d)&&(((rd l0 v13.toNat).e == (rd l1 v13.toNat).e)&&(((rd l0 v13.toNat).f == (rd l1 v13.toNat).f)&&true)))&&true))) then (.ret [(.bool false)]) else (.to (.h0 (wrap .i64 (v13+1))))) else .stuck) else .stuck) else (.ret [(.bool true)]))
def z9k (l0:List R6) (l1:List R6):Xw eqcS:=(bif ((l0.length:Int) != (l1.length:Int)) then (.ret [(.bool false)]) else (.to (.h0 0)))
theorem v0y (l0:List R6) (l1:List R6): ∀s,Yt prog (Zy prog 94) (eqcC l0 l1) (eqcC l0 l1 s) (z7m l0 l1 s)
 | .h0 v13=>(lb (fun k0=>(lo fun aJ=>(lo fun bC=>(lb (fun k1=>(lr 26 94 [1,1,0,1,0,0,1,1,0,0,1,1,0,0] 1 6 [(4,(.bool false))] (sl Zm 21 [] ⟨[],[],[some [4]],[]⟩ ⟨[],[],[]⟩ (bl 2 3) (tt k1 (ww bC (ww aJ (tt k0 nn))))))) (fun k1=>(sl Zm 24 [] ⟨[],[],eqcN0,eqcM0⟩ ⟨[],[],[]⟩ (bl 2 1) (tt k1 (ww bC (ww aJ (tt k0 nn)))))))))) (fun k0=>(lr 26 3 [1,1,1,1,0] 1 6 [(4,(.bool true))] (sl Zm 11 [] ⟨[],[],[some [4]],[]⟩ ⟨[],[],[]⟩ [false] (tt k0 nn)))))
theorem w2w (l0:List R6) (l1:List R6):Yt prog (Zy prog 94) (eqcC l0 l1) (Zg prog 94 [(.dat l0.length (Zz l0)),(.dat l1.length (Zz l1))] true []) (z9k l0 l1):=(lb (fun k0=>(lr 26 94 [1,0,1,0,0] 1 6 [(4,(.bool false))] (sl Zm 18 [] ⟨[],[],[some [4]],[]⟩ ⟨[],[],[]⟩ [true] (tt k0 nn)))) (fun k0=>(sl Zm 24 [] ⟨[],[],eqcN0,eqcM0⟩ ⟨[],[],[]⟩ [false] (tt k0 nn))))
theorem u5n (l0:List R6) (l1:List R6) (n:Nat) (vs:List AVal) (h:Zr (z7m l0 l1) n (z9k l0 l1)=.ret vs):Jy prog (Zy prog 94) (Zg prog 94 [(.dat l0.length (Zz l0)),(.dat l1.length (Zz l1))] true []) vs:=by have:=Zd (v0y l0 l1) n _ (w2w l0 l1);rwa [h] at this
inductive holS where
def holC (x0:Int) (x1:Bool) (x2:Bool):holS→Cfg
 :=nofun
def w2i (x0:Int) (x1:Bool) (x2:Bool):holS→Xw holS
 :=nofun
def y4y (x0:Int) (x1:Bool) (x2:Bool):Xw holS:=(bif (x0 == 1) then (bif x1 then (.ret [(.bool x2)]) else (.ret [(.bool false)])) else (bif (x0 == 2) then (bif x1 then (.ret [(.bool true)]) else (.ret [(.bool x2)])) else (bif x1 then (.ret [(.bool (!x2))]) else (.ret [(.bool false)]))))
theorem v0m (x0:Int) (x1:Bool) (x2:Bool): ∀s,Yt prog (Zy prog 129) (holC x0 x1 x2) (holC x0 x1 x2 s) (w2i x0 x1 x2 s)
 :=nofun
theorem w2j (x0:Int) (x1:Bool) (x2:Bool):Yt prog (Zy prog 129) (holC x0 x1 x2) (Zg prog 129 [(.int .i64 x0),(.bool x1),(.bool x2)] true []) (y4y x0 x1 x2):=(lb (fun k0=>(lb (fun k1=>(lr 24 129 [1,0,1,0,0] 1 3 [(6,(.bool x2))] (sl Zm 19 [] ⟨[],[],[some [6]],[]⟩ ⟨[],[],[]⟩ [true,true] (tt k1 (tt k0 nn))))) (fun k1=>(lr 24 129 [1,0,1,0,0] 1 3 [(6,(.bool false))] (sl Zm 19 [] ⟨[],[],[some [6]],[]⟩ ⟨[],[],[]⟩ [true,false] (tt k1 (tt k0 nn))))))) (fun k0=>(lb (fun k1=>(lb (fun k2=>(lr 24 129 [1,1,0,1,0,0] 1 3 [(6,(.bool true))] (sl Zm 27 [] ⟨[],[],[some [6]],[]⟩ ⟨[],[],[]⟩ [false,true,true] (tt k2 (tt k1 (tt k0 nn)))))) (fun k2=>(lr 24 129 [1,1,0,1,0,0] 1 3 [(6,(.bool x2))] (sl Zm 27 [] ⟨[],[],[some [6]],[]⟩ ⟨[],[],[]⟩ [false,true,false] (tt k2 (tt k1 (tt k0 nn)))))))) (fun k1=>(lb (fun k2=>(lr 24 3 [1,1,1,1,0] 1 3 [(6,(.bool (!x2)))] (sl Zm 29 [] ⟨[],[],[some [6]],[]⟩ ⟨[],[],[]⟩ [false,false,true,true] (tt k2 (tt k1 (tt k0 nn)))))) (fun k2=>(lr 24 3 [1,1,1,1,0] 1 3 [(6,(.bool false))] (sl Zm 29 [] ⟨[],[],[some [6]],[]⟩ ⟨[],[],[]⟩ [false,false,false,false] (tt k2 (tt k1 (tt k0 nn)))))))))))
theorem u4w (x0:Int) (x1:Bool) (x2:Bool) (n:Nat) (vs:List AVal) (h:Zr (w2i x0 x1 x2) n (y4y x0 x1 x2)=.ret vs):Jy prog (Zy prog 129) (Zg prog 129 [(.int .i64 x0),(.bool x1),(.bool x2)] true []) vs:=by have:=Zd (v0m x0 x1 x2) n _ (w2j x0 x1 x2);rwa [h] at this
inductive fstS where
def fstC (x0:Bool) (x1:Bool):fstS→Cfg
 :=nofun
def w2l (x0:Bool) (x1:Bool):fstS→Xw fstS
 :=nofun
def x4a (x0:Bool) (x1:Bool):Xw fstS:=(.ret [(.bool x0)])
theorem v0o (x0:Bool) (x1:Bool): ∀s,Yt prog (Zy prog 180) (fstC x0 x1) (fstC x0 x1 s) (w2l x0 x1 s)
 :=nofun
theorem w2m (x0:Bool) (x1:Bool):Yt prog (Zy prog 180) (fstC x0 x1) (Zg prog 180 [(.bool x0),(.bool x1)] true []) (x4a x0 x1):=(lr 6 3 [1,1,1,1,0] 1 6 [(4,(.bool x0))] (sl Zm 9 [] ⟨[],[],[some [4]],[]⟩ ⟨[],[],[]⟩ [] nn))
theorem u4y (x0:Bool) (x1:Bool) (n:Nat) (vs:List AVal) (h:Zr (w2l x0 x1) n (x4a x0 x1)=.ret vs):Jy prog (Zy prog 180) (Zg prog 180 [(.bool x0),(.bool x1)] true []) vs:=by have:=Zd (v0o x0 x1) n _ (w2m x0 x1);rwa [h] at this
theorem Yz {a b:Int} (h:a<b):decide (a<b)=true:=An h
theorem Yf {a b:Int} (h: ¬a<b):decide (a<b)=false:=AB h
theorem Xs {a b:Int} (h:a≤b):decide (a≤b)=true:=An h
theorem w3b {a b:Int} (h: ¬a≤b):decide (a≤b)=false:=AB h
theorem Xv {a b:Int} (h:a>b):decide (a>b)=true:=An h
theorem Wk {a b:Int} (h: ¬a>b):decide (a>b)=false:=AB h
theorem dge_t {a b:Int} (h:a≥b):decide (a≥b)=true:=An h
theorem dge_f {a b:Int} (h: ¬a≥b):decide (a≥b)=false:=AB h
theorem Yv {a b:Nat} (h:a<b):decide (a<b)=true:=An h
theorem Yc {a b:Nat} (h:a≤b):decide (a≤b)=true:=An h
theorem Yj {a b:Nat} (h:a=b):decide (a=b)=true:=An h
theorem Zt {a b:Int} (h:0≤a∧a<b):decide (0≤a∧a<b)=true:=An h
theorem Zf {a:Nat} (h:a≤1099511627776):decide (a≤room)=true:=An h
theorem Zk {n:Int} (h: -9223372036854775808≤n∧n≤9223372036854775807):wrap .i64 n=n:=w_in h.1 h.2
theorem z7u :((0:Nat):Int)=0:=rfl
theorem Zx (i:Nat):(i:Int)+1=((i+1:Nat):Int):=rfl
theorem Yy (i:Nat):((i+1:Nat):Int) - 1=(i:Int):=by omega
theorem z1e {a b:Int} (h:a≠b):(a != b)=true:=by simp [h]
theorem z1f {a b:Int} (h:a=b):(a != b)=false:=by simp [h]
theorem Yd (n:Nat):Nat.beq n n=true:=Nat.beq_refl n
theorem Zj (n:Nat):Int.toNat (n:Int)=n:=Int.toNat_natCast n
theorem Yp (b:Bool):b=true∨b=false:=by cases b <;> simp
theorem Yq {α:Type} [Xq α] {L:List α} {i:Nat} (h:i<L.length):L.drop i=rd L i::L.drop (i+1):=by rw [Yo h];exact Bs h
theorem z0f {P:Program} {S:Specs} (hS:Zu P S) {f:FuncId} {F:List AVal→Option (AVal×Bool)} (hf:(P.funcs[f]?).any (fun fn=>fn.body.isSome)=true)
  (hF: ∀args v,F args=some (v,true)→ ∃bs vs,Vk VLe args bs∧Ku vs=v∧Jy P (Zy P f) (Zg P f bs true []) vs∧ ∃d,pf d v=true):Zu P (S.with f F):=w7h hS hf hF
def w0w (out:List Int) (x:Int):Nat→Nat
 | 0=>0
 | k+1=>bif decide (rd out k>x) then w0w out x k else k+1
def x1h (out:List Int) (x:Int):List Int:=
 match w0w out x out.length with
 | 0=>x::out
 | k+1=>bif rd out k == x then out else out.take (k+1)++x::out.drop (k+1)
def z3b (l:List Int):List Int:=l.foldl x1h []
def Qd (l:List Int):Bool:=decide (l.length≤1000000)
theorem y7g (out:List Int) (x:Int):(x1h out x).length ≤out.length+1:=by
 grind [x1h]
theorem x6r (out:List Int) (x:Int) (k:Nat) (hk:k≤out.length):
  (v8x (out++[0]) (k+1) (Nat.min (out.length+1 - k) (out.length+1 - (k+1))) (Km (out++[0]) k (out.length+1 - k))).set k x=out.take k++x::out.drop k:=by
 have hm:Nat.min (out.length+1 - k) (out.length+1 - (k+1))=out.length - k:=by
  grind
 rw [hm];apply BH
 ·simp [z3q];omega
 ·intro i h1 h2;have hi:i<out.length+1:=by grind
  rw [←Yo h1,←Yo h2]
  grind [u9s,Yo,v5i,u5y,u5x,x3c]
theorem w4z (l:List Int) (out:List Int) (i:Nat) (hi:i<l.length) (hl:l.length≤1000000) (ho:out.length≤i): ∀(k N:Nat),k≤out.length→
  (w0w out (rd l i) out.length=w0w out (rd l i) k)→ ∃m,∀N,Zr (Ux l) (N+m) (.to (.h1 out (i:Int) (k:Int)))=Zr (Ux l) N (.to (.h0 (x1h out (rd l i)) ((i+1:Nat):Int)))
 | 0,N,hk,hp=>by
  refine ⟨1,fun N=> ?_⟩;have hins:x1h out (rd l i)=(v8x (out++[0]) (0+1) (Nat.min (out.length+1 - 0) (out.length+1 - (0+1))) (Km (out++[0]) 0 (out.length+1 - 0))).set 0 (rd l i):=by rw [x6r out _ 0 (AC _)];unfold x1h;rw [hp];rfl
  rw [hins,Zw];simp (disch:=omega) only [Ux,Zf,Ao,Wk,Yz,Xs,Yv,Yc,Yj,Zt,Zk,Zx,Yd,Zj,Af,Ah,Aj,Ab,Aa]
 | k +1,N,hk,hp=>by
  rcases Yp (decide (rd out k>rd l i)) with h | h
  ·have hp':w0w out (rd l i) out.length=w0w out (rd l i) k:=by grind [w0w]
   obtain ⟨m,hm⟩:=w4z l out i hi hl ho k N (by omega) hp';refine ⟨m+1,fun N=> ?_⟩;rw [←hm N,←Ay,Zw];simp (disch:=omega) only [Ux,Yy,h,Zf,Ao,Xv,Yz,Xs,Yv,Yc,Yj,Zt,Zk,Zx,Yd,Zj,Af,Ah,Aj,Ab,Aa]
  ·have hpk:w0w out (rd l i) out.length=k+1:=by rw [hp];unfold w0w;rw [h];rfl
   refine ⟨1,fun N=> ?_⟩;rw [Zw];rcases Yp (rd out k == rd l i) with q | q
   ·have hins:x1h out (rd l i)=out:=(by grind [x1h]);rw [hins];simp (disch:=omega) only [Ux,Yy,h,q,Zf,Ao,Xv,Yz,Xs,Yv,Yc,Yj,Zt,Zk,Zx,Yd,Zj,Af,Ah,Aj,Ab,Aa]
   ·have hins:x1h out (rd l i)=(v8x (out++[0]) (k+1+1) (Nat.min (out.length+1 - (k+1)) (out.length+1 - (k+1+1))) (Km (out++[0]) (k+1) (out.length+1 - (k+1)))).set (k+1) (rd l i):=by
     rw [x6r out _ (k+1) hk]
     grind [x1h]
    rw [hins];simp (disch:=omega) only [Ux,Yy,h,q,Zf,Ao,Xv,Yz,Xs,Yv,Yc,Yj,Zt,Zk,Zx,Yd,Zj,Af,Ah,Aj,Ab,Aa]
theorem w5a (l:List Int) (hl:l.length≤1000000): ∀(k i:Nat) (out:List Int),i+k=l.length→out.length≤i→ ∃m,Zr (Ux l) m (.to (.h0 out (i:Int)))=.ret [.dat ((l.drop i).foldl x1h out).length (Zz ((l.drop i).foldl x1h out))]
 | 0,i,out,h,ho=>by refine ⟨1,?_⟩;rw [Zw];simp (disch:=omega) only [Ux,Yf,Aa];rw [Ar (by omega)];rfl
 | k+1,i,out,h,ho=>by
  obtain ⟨m1,h1⟩:=w4z l out i (by omega) hl ho out.length 0 (Aq _) rfl;obtain ⟨m2,h2⟩:=w5a l hl k (i+1) (x1h out (rd l i)) (by omega) (Av (y7g _ _) (by omega));refine ⟨m2+m1+1,?_⟩
  grind [Zw,Ux,Yq]
theorem v4k (l:List Int) (h:Qd l=true): ∃N,Zr (Ux l) N (z5v l)=.ret [.dat (z3b l).length (Zz (z3b l))]:=by
 have:=w5a l (Aw h) l.length 0 [] (by omega) (Aq _)
 simpa [z5v,z3b] using this
theorem Zh (n:Nat):Int.toNat ((n:Int) - 1)=n - 1:=by omega
theorem u3g (x y:R2):((x.a == y.a)&&(x.b == y.b))=decide (x=y):=by
 obtain ⟨a,b⟩:=x;obtain ⟨c,d⟩:=y
 grind
theorem u3f (x y:R4):((x.a == y.a)&&((x.b == y.b)&&((x.c == y.c)&&(x.d == y.d))))=decide (x=y):=by
 obtain ⟨a,b,c,d⟩:=x;obtain ⟨e,f,g,h⟩:=y
 grind
theorem u3e (x y:R6):(((x.a == y.a)&&((x.b == y.b)&&(x.c == y.c)))&&((x.d == y.d)&&((x.e == y.e)&&(x.f == y.f))))=decide (x=y):=by
 obtain ⟨a,b,c,d,e,f⟩:=x;obtain ⟨a',b',c',d',e',f'⟩:=y
 grind
def Qi (l m:List R2):Bool:=decide (l=m)
def Ur (l m:List R4):Bool:=decide (l=m)
def Jf (l m:List R6):Bool:=decide (l=m)
def Vs (l m:List R2):Bool:=decide (l.length≤1000000)
def We (l m:List R4):Bool:=decide (l.length≤1000000)
def Vw (l m:List R6):Bool:=decide (l.length≤1000000)
theorem z6f {α:Type} [DecidableEq α] (x y:α) (l m:List α):decide (x::l=y::m)=(decide (x=y)&&decide (l=m)):=by grind
theorem u8q (l m:List R2) (hl:l.length≤1000000) (hm:l.length=m.length): ∀(k i:Nat),i+k=l.length→ ∃N,Zr (z7b l m) N (.to (.h0 (i:Int)))=.ret [.bool (decide (l.drop i=m.drop i))]
 | 0,i,h=>by refine ⟨1,?_⟩;rw [Zw,Ar (show l.length≤i by omega),Ar (show m.length≤i by omega)];simp (disch:=omega) only [z7b,Wk,Xv,Yz,Yf,Xs,Yv,Yc,Yj,Zt,Zk,Zf,z1e,z1f,Ao,Zx,Yy,Zh,Yd,Zj,Af,Ah,Aj,Ab,Aa,Az,AE,Zp]
 | k+1,i,h=>by
  obtain ⟨N,hN⟩:=u8q l m hl hm k (i+1) (by omega);refine ⟨N+1,?_⟩;rw [Zw,Yq (show i<l.length by omega),Yq (show i<m.length by omega),z6f];rcases Yp (decide (rd l i=rd m i)) with q | q
  ·simp (disch:=omega) only [z7b,u3g,q,Wk,Xv,Yz,Yf,Xs,Yv,Yc,Yj,Zt,Zk,Zf,z1e,z1f,Ao,Zx,Yy,Zh,Yd,Zj,Af,Ah,Aj,Ab,Aa,Az,AE,Zp];exact hN
  ·simp (disch:=omega) only [z7b,u3g,q,Wk,Xv,Yz,Yf,Xs,Yv,Yc,Yj,Zt,Zk,Zf,z1e,z1f,Ao,Zx,Yy,Zh,Yd,Zj,Af,Ah,Aj,Ab,Aa,Az,AE,Zp,Bc]
theorem j4h (l m:List R2) (h:Vs l m=true): ∃N,Zr (z7b l m) N (z8g l m)=.ret [.bool (Qi l m)]:=by
 have hl:l.length≤1000000:=Aw h;by_cases hm:l.length=m.length
 ·obtain ⟨N,hN⟩:=u8q l m hl hm l.length 0 (Af _);refine ⟨N,?_⟩;unfold z8g;rw [z1f (show (l.length:Int)=(m.length:Nat) by omega)];exact hN
 ·refine ⟨0,?_⟩;unfold z8g;rw [z1e (show (l.length:Int)≠(m.length:Nat) by omega)];have:Qi l m=false:=AB fun e=>hm (by rw [e]);rw [this];rfl
theorem u8o (l m:List R4) (hl:l.length≤1000000) (hm:l.length=m.length): ∀(k i:Nat),i+k=l.length→ ∃N,Zr (z6z l m) N (.to (.h0 (i:Int)))=.ret [.bool (decide (l.drop i=m.drop i))]
 | 0,i,h=>by refine ⟨1,?_⟩;rw [Zw,Ar (show l.length≤i by omega),Ar (show m.length≤i by omega)];simp (disch:=omega) only [z6z,Wk,Xv,Yz,Yf,Xs,Yv,Yc,Yj,Zt,Zk,Zf,z1e,z1f,Ao,Zx,Yy,Zh,Yd,Zj,Af,Ah,Aj,Ab,Aa,Az,AE,Zp]
 | k+1,i,h=>by
  obtain ⟨N,hN⟩:=u8o l m hl hm k (i+1) (by omega);refine ⟨N+1,?_⟩;rw [Zw,Yq (show i<l.length by omega),Yq (show i<m.length by omega),z6f];rcases Yp (decide (rd l i=rd m i)) with q | q
  ·simp (disch:=omega) only [z6z,u3f,q,Wk,Xv,Yz,Yf,Xs,Yv,Yc,Yj,Zt,Zk,Zf,z1e,z1f,Ao,Zx,Yy,Zh,Yd,Zj,Af,Ah,Aj,Ab,Aa,Az,AE,Zp];exact hN
  ·simp (disch:=omega) only [z6z,u3f,q,Wk,Xv,Yz,Yf,Xs,Yv,Yc,Yj,Zt,Zk,Zf,z1e,z1f,Ao,Zx,Yy,Zh,Yd,Zj,Af,Ah,Aj,Ab,Aa,Az,AE,Zp,Bc]
theorem j4f (l m:List R4) (h:We l m=true): ∃N,Zr (z6z l m) N (z8f l m)=.ret [.bool (Ur l m)]:=by
 have hl:l.length≤1000000:=Aw h;by_cases hm:l.length=m.length
 ·obtain ⟨N,hN⟩:=u8o l m hl hm l.length 0 (Af _);refine ⟨N,?_⟩;unfold z8f;rw [z1f (show (l.length:Int)=(m.length:Nat) by omega)];exact hN
 ·refine ⟨0,?_⟩;unfold z8f;rw [z1e (show (l.length:Int)≠(m.length:Nat) by omega)];have:Ur l m=false:=AB fun e=>hm (by rw [e]);rw [this];rfl
theorem u8r (l m:List R6) (hl:l.length≤1000000) (hm:l.length=m.length): ∀(k i:Nat),i+k=l.length→ ∃N,Zr (z7c l m) N (.to (.h0 (i:Int)))=.ret [.bool (decide (l.drop i=m.drop i))]
 | 0,i,h=>by refine ⟨1,?_⟩;rw [Zw,Ar (show l.length≤i by omega),Ar (show m.length≤i by omega)];simp (disch:=omega) only [z7c,Wk,Xv,Yz,Yf,Xs,Yv,Yc,Yj,Zt,Zk,Zf,z1e,z1f,Ao,Zx,Yy,Zh,Yd,Zj,Af,Ah,Aj,Ab,Aa,Az,AE,Zp]
 | k+1,i,h=>by
  obtain ⟨N,hN⟩:=u8r l m hl hm k (i+1) (by omega);refine ⟨N+1,?_⟩;rw [Zw,Yq (show i<l.length by omega),Yq (show i<m.length by omega),z6f];rcases Yp (decide (rd l i=rd m i)) with q | q
  ·simp (disch:=omega) only [z7c,u3e,q,Wk,Xv,Yz,Yf,Xs,Yv,Yc,Yj,Zt,Zk,Zf,z1e,z1f,Ao,Zx,Yy,Zh,Yd,Zj,Af,Ah,Aj,Ab,Aa,Az,AE,Zp];exact hN
  ·simp (disch:=omega) only [z7c,u3e,q,Wk,Xv,Yz,Yf,Xs,Yv,Yc,Yj,Zt,Zk,Zf,z1e,z1f,Ao,Zx,Yy,Zh,Yd,Zj,Af,Ah,Aj,Ab,Aa,Az,AE,Zp,Bc]
theorem j4i (l m:List R6) (h:Vw l m=true): ∃N,Zr (z7c l m) N (z8h l m)=.ret [.bool (Jf l m)]:=by
 have hl:l.length≤1000000:=Aw h;by_cases hm:l.length=m.length
 ·obtain ⟨N,hN⟩:=u8r l m hl hm l.length 0 (Af _);refine ⟨N,?_⟩;unfold z8h;rw [z1f (show (l.length:Int)=(m.length:Nat) by omega)];exact hN
 ·refine ⟨0,?_⟩;unfold z8h;rw [z1e (show (l.length:Int)≠(m.length:Nat) by omega)];have:Jf l m=false:=AB fun e=>hm (by rw [e]);rw [this];rfl
theorem j1s (l m:List R2) (hl:l.length≤1000000) (hm:l.length=m.length): ∀(k i:Nat),i+k=l.length→ ∃N,Zr (z7o l m) N (.to (.h0 (i:Int)))=.ret [.bool (decide (l.drop i=m.drop i))]
 | 0,i,h=>by refine ⟨1,?_⟩;rw [Zw,Ar (show l.length≤i by omega),Ar (show m.length≤i by omega)];simp (disch:=omega) only [z7o,Wk,Xv,Yz,Yf,Xs,Yv,Yc,Yj,Zt,Zk,Zf,z1e,z1f,Ao,Zx,Yy,Zh,Yd,Zj,Af,Ah,Aj,Ab,Aa,Az,AE,Zp]
 | k+1,i,h=>by
  obtain ⟨N,hN⟩:=j1s l m hl hm k (i+1) (by omega);refine ⟨N+1,?_⟩;rw [Zw,Yq (show i<l.length by omega),Yq (show i<m.length by omega),z6f];rcases Yp (decide (rd l i=rd m i)) with q | q
  ·simp (disch:=omega) only [z7o,u3g,q,Wk,Xv,Yz,Yf,Xs,Yv,Yc,Yj,Zt,Zk,Zf,z1e,z1f,Ao,Zx,Yy,Zh,Yd,Zj,Af,Ah,Aj,Ab,Aa,Az,AE,Zp];exact hN
  ·simp (disch:=omega) only [z7o,u3g,q,Wk,Xv,Yz,Yf,Xs,Yv,Yc,Yj,Zt,Zk,Zf,z1e,z1f,Ao,Zx,Yy,Zh,Yd,Zj,Af,Ah,Aj,Ab,Aa,Az,AE,Zp,Bc]
theorem j9a (l m:List R2) (h:Vs l m=true): ∃N,Zr (z7o l m) N (z9m l m)=.ret [.bool (Qi l m)]:=by
 have hl:l.length≤1000000:=Aw h;by_cases hm:l.length=m.length
 ·obtain ⟨N,hN⟩:=j1s l m hl hm l.length 0 (Af _);refine ⟨N,?_⟩;unfold z9m;rw [z1f (show (l.length:Int)=(m.length:Nat) by omega)];exact hN
 ·refine ⟨0,?_⟩;unfold z9m;rw [z1e (show (l.length:Int)≠(m.length:Nat) by omega)];have:Qi l m=false:=AB fun e=>hm (by rw [e]);rw [this];rfl
theorem j1r (l m:List R4) (hl:l.length≤1000000) (hm:l.length=m.length): ∀(k i:Nat),i+k=l.length→ ∃N,Zr (z7n l m) N (.to (.h0 (i:Int)))=.ret [.bool (decide (l.drop i=m.drop i))]
 | 0,i,h=>by refine ⟨1,?_⟩;rw [Zw,Ar (show l.length≤i by omega),Ar (show m.length≤i by omega)];simp (disch:=omega) only [z7n,Wk,Xv,Yz,Yf,Xs,Yv,Yc,Yj,Zt,Zk,Zf,z1e,z1f,Ao,Zx,Yy,Zh,Yd,Zj,Af,Ah,Aj,Ab,Aa,Az,AE,Zp]
 | k+1,i,h=>by
  obtain ⟨N,hN⟩:=j1r l m hl hm k (i+1) (by omega);refine ⟨N+1,?_⟩;rw [Zw,Yq (show i<l.length by omega),Yq (show i<m.length by omega),z6f];rcases Yp (decide (rd l i=rd m i)) with q | q
  ·simp (disch:=omega) only [z7n,u3f,q,Wk,Xv,Yz,Yf,Xs,Yv,Yc,Yj,Zt,Zk,Zf,z1e,z1f,Ao,Zx,Yy,Zh,Yd,Zj,Af,Ah,Aj,Ab,Aa,Az,AE,Zp];exact hN
  ·simp (disch:=omega) only [z7n,u3f,q,Wk,Xv,Yz,Yf,Xs,Yv,Yc,Yj,Zt,Zk,Zf,z1e,z1f,Ao,Zx,Yy,Zh,Yd,Zj,Af,Ah,Aj,Ab,Aa,Az,AE,Zp,Bc]
theorem j8z (l m:List R4) (h:We l m=true): ∃N,Zr (z7n l m) N (z9l l m)=.ret [.bool (Ur l m)]:=by
 have hl:l.length≤1000000:=Aw h;by_cases hm:l.length=m.length
 ·obtain ⟨N,hN⟩:=j1r l m hl hm l.length 0 (Af _);refine ⟨N,?_⟩;unfold z9l;rw [z1f (show (l.length:Int)=(m.length:Nat) by omega)];exact hN
 ·refine ⟨0,?_⟩;unfold z9l;rw [z1e (show (l.length:Int)≠(m.length:Nat) by omega)];have:Ur l m=false:=AB fun e=>hm (by rw [e]);rw [this];rfl
theorem j1q (l m:List R6) (hl:l.length≤1000000) (hm:l.length=m.length): ∀(k i:Nat),i+k=l.length→ ∃N,Zr (z7m l m) N (.to (.h0 (i:Int)))=.ret [.bool (decide (l.drop i=m.drop i))]
 | 0,i,h=>by refine ⟨1,?_⟩;rw [Zw,Ar (show l.length≤i by omega),Ar (show m.length≤i by omega)];simp (disch:=omega) only [z7m,Wk,Xv,Yz,Yf,Xs,Yv,Yc,Yj,Zt,Zk,Zf,z1e,z1f,Ao,Zx,Yy,Zh,Yd,Zj,Af,Ah,Aj,Ab,Aa,Az,AE,Zp]
 | k+1,i,h=>by
  obtain ⟨N,hN⟩:=j1q l m hl hm k (i+1) (by omega);refine ⟨N+1,?_⟩;rw [Zw,Yq (show i<l.length by omega),Yq (show i<m.length by omega),z6f];rcases Yp (decide (rd l i=rd m i)) with q | q
  ·simp (disch:=omega) only [z7m,u3e,q,Wk,Xv,Yz,Yf,Xs,Yv,Yc,Yj,Zt,Zk,Zf,z1e,z1f,Ao,Zx,Yy,Zh,Yd,Zj,Af,Ah,Aj,Ab,Aa,Az,AE,Zp];exact hN
  ·simp (disch:=omega) only [z7m,u3e,q,Wk,Xv,Yz,Yf,Xs,Yv,Yc,Yj,Zt,Zk,Zf,z1e,z1f,Ao,Zx,Yy,Zh,Yd,Zj,Af,Ah,Aj,Ab,Aa,Az,AE,Zp,Bc]
theorem j8y (l m:List R6) (h:Vw l m=true): ∃N,Zr (z7m l m) N (z9k l m)=.ret [.bool (Jf l m)]:=by
 have hl:l.length≤1000000:=Aw h;by_cases hm:l.length=m.length
 ·obtain ⟨N,hN⟩:=j1q l m hl hm l.length 0 (Af _);refine ⟨N,?_⟩;unfold z9k;rw [z1f (show (l.length:Int)=(m.length:Nat) by omega)];exact hN
 ·refine ⟨0,?_⟩;unfold z9k;rw [z1e (show (l.length:Int)≠(m.length:Nat) by omega)];have:Jf l m=false:=AB fun e=>hm (by rw [e]);rw [this];rfl
def in4 (x y:Int) (r:R4):Bool:=decide (r.a≤x)&&(decide (x<r.c)&&(decide (r.b≤y)&&decide (y<r.d)))
def z4h (l:List R4) (x y:Int):Bool:=l.any (in4 x y)
def z0t (l:List R4) (x y:Int):Bool:=decide (l.length≤1000000)
theorem v4x (l:List R4) (x y:Int) (hl:l.length≤1000000): ∀(k i:Nat),i+k=l.length→ ∃N,Zr (z5x l x y) N (.to (.h0 (i:Int)))=.ret [.bool ((l.drop i).any (in4 x y))]
 | 0,i,h=>by refine ⟨1,?_⟩;rw [Zw,Ar (show l.length≤i by omega)];simp (disch:=omega) only [z5x,Wk,Xv,Yz,Yf,Xs,Yv,Yc,Yj,Zt,Zk,Zf,z1e,z1f,Ao,Zx,Yy,Zh,Yd,Zj,Af,Ah,Aj,Ab,Aa,Az,AE,Zp];rfl
 | k+1,i,h=>by
  obtain ⟨N,hN⟩:=v4x l x y hl k (i+1) (by omega);refine ⟨N+1,?_⟩;rw [Zw,Yq (show i<l.length by omega),BK];unfold in4 at hN ⊢;rcases Yp (decide ((rd l i).a ≤x)) with q1 | q1 <;> rcases Yp (decide (x<(rd l i).c)) with q2 | q2 <;> rcases Yp (decide ((rd l i).b ≤y)) with q3 | q3 <;> rcases Yp (decide (y<(rd l i).d)) with q4 | q4 <;>
   simp (disch:=omega) only [z5x,q1,q2,q3,q4,Wk,Xv,Yz,Yf,Xs,Yv,Yc,Yj,Zt,Zk,Zf,z1e,z1f,Ao,Zx,Yy,Zh,Yd,Zj,Af,Ah,Aj,Ab,Aa,Az,AE,Zp,Bc,Bool.and_false,Bool.false_or,Bool.true_or] <;> exact hN
theorem u2h (l:List R4) (x y:Int) (h:z0t l x y=true): ∃N,Zr (z5x l x y) N (z8m l x y)=.ret [.bool (z4h l x y)]:=by
 have:=v4x l x y (Aw h) l.length 0 (Af _)
 simpa [z8m,z4h] using this
def on6 (z:Int) (b:R6):Bool:=decide (b.c≤z)&&decide (z<b.f)
def j7a (b:R6):R4:=⟨b.a,b.b,b.d,b.e⟩
def atV (l:List R6) (z:Int):List R4:=(l.filter (on6 z)).map j7a
def z6i (l:List R6) (z:Int):Bool:=decide (l.length≤1000000)
theorem v5q (l:List R6) (z:Int) (hl:l.length≤1000000): ∀(k i:Nat) (out:List R4),i+k=l.length→out.length≤i→ ∃N,Zr (z7e l z) N (.to (.h0 out (i:Int)))=.ret [.dat (out++atV (l.drop i) z).length (Zz (out++atV (l.drop i) z))]
 | 0,i,out,h,ho=>by refine ⟨1,?_⟩;rw [Zw,Ar (show l.length≤i by omega)];simp (disch:=omega) only [z7e,Wk,Xv,Yz,Yf,Xs,Yv,Yc,Yj,Zt,Zk,Zf,z1e,z1f,Ao,Zx,Yy,Zh,Yd,Zj,Af,Ah,Aj,Ab,Aa,Az,AE,Zp,atV,List.filter_nil,Bx,AD]
 | k+1,i,out,h,ho=>by
  rw [Yq (show i<l.length by omega)];have e:atV (rd l i::l.drop (i+1)) z=(bif on6 z (rd l i) then [j7a (rd l i)] else [])++atV (l.drop (i+1)) z:=by
   grind [atV]
  rw [e,←AJ];rcases Yp (decide ((rd l i).c ≤z)) with q1 | q1 <;> rcases Yp (decide (z<(rd l i).f)) with q2 | q2
  ·obtain ⟨N,hN⟩:=v5q l z hl k (i+1) (out++[j7a (rd l i)]) (by omega) (by simp;omega);refine ⟨N+1,?_⟩;rw [Zw];simp (disch:=omega) only [z7e,q1,q2,on6,Wk,Xv,Yz,Yf,Xs,Yv,Yc,Yj,Zt,Zk,Zf,z1e,z1f,Ao,Zx,Yy,Zh,Yd,Zj,Af,Ah,Aj,Ab,Aa,Az,AE,Zp];exact hN
  all_goals
   obtain ⟨N,hN⟩:=v5q l z hl k (i+1) out (by omega) (by omega);refine ⟨N+1,?_⟩;rw [Zw];simp (disch:=omega) only [z7e,q1,q2,on6,Wk,Xv,Yz,Yf,Xs,Yv,Yc,Yj,Zt,Zk,Zf,z1e,z1f,Ao,Zx,Yy,Zh,Yd,Zj,Af,Ah,Aj,Ab,Aa,Az,AE,Zp,Bc,Bool.and_false,AD];exact hN
theorem j5k (l:List R6) (z:Int) (h:z6i l z=true): ∃N,Zr (z7e l z) N (y4o l z)=.ret [.dat (atV l z).length (Zz (atV l z))]:=by
 have:=v5q l z (Aw h) l.length 0 [] (Af _) (Aq _)
 simpa [y4o] using this
def v2i (cuts:List Int) (ins:List Bool):Nat→Nat→List R2→List R2
 | 0,_,out=>out
 | k+1,i,out=>v2i cuts ins k (i+1) (bif rd ins i then (bif decide (0<out.length)&&((rd out (out.length - 1)).b == rd cuts i) then out.set (out.length - 1) ⟨(rd out (out.length - 1)).a,rd cuts (i+1)⟩ else out++[⟨rd cuts i,rd cuts (i+1)⟩]) else out)
def y2t (cuts:List Int) (ins:List Bool):List R2:=v2i cuts ins (cuts.length - 1) 0 []
def z9u (cuts:List Int) (ins:List Bool):Bool:=decide (cuts.length≤1000000∧cuts.length≤ins.length+1)
theorem x3d (cuts:List Int) (ins:List Bool) (hl:cuts.length≤1000000) (hi:cuts.length≤ins.length+1): ∀(k i:Nat) (out:List R2),k=cuts.length - 1 - i→i≤cuts.length→out.length≤i→ ∃N,Zr (z0l cuts ins) N (.to (.h0 out (i:Int)))=.ret [.dat (v2i cuts ins k i out).length (Zz (v2i cuts ins k i out))]
 | 0,i,out,h,hi2,ho=>by refine ⟨1,?_⟩;rw [Zw];simp (disch:=omega) only [z0l,Wk,Xv,Yz,Yf,Xs,Yv,Yc,Yj,Zt,Zk,Zf,z1e,z1f,Ao,Zx,Yy,Zh,Yd,Zj,Af,Ah,Aj,Ab,Aa,Az,AE,Zp,v2i]
 | k+1,i,out,h,hi2,ho=>by
  unfold v2i;rcases Yp (rd ins i) with q | q
  ·rcases Yp (decide (0<out.length)&&((rd out (out.length - 1)).b == rd cuts i)) with q2 | q2
   ·obtain ⟨N,hN⟩:=x3d cuts ins hl hi k (i+1) (out.set (out.length - 1) ⟨(rd out (out.length - 1)).a,rd cuts (i+1)⟩) (by omega) (by omega) (by simp;omega);refine ⟨N+1,?_⟩;rw [Zw,q,q2];simp only [Ae,As] at q2;simp (disch:=omega) only [z0l,q,q2.2,Wk,Xv,Yz,Yf,Xs,Yv,Yc,Yj,Zt,Zk,Zf,z1e,z1f,Ao,Zx,Yy,Zh,Yd,Zj,Af,Ah,Aj,Ab,Aa,Az,AE,Zp];exact hN
   ·obtain ⟨N,hN⟩:=x3d cuts ins hl hi k (i+1) (out++[⟨rd cuts i,rd cuts (i+1)⟩]) (by omega) (by omega) (by simp;omega);refine ⟨N+1,?_⟩;rw [Zw,q,q2];by_cases h0:0<out.length
    ·rw [An h0,Aj] at q2;simp (disch:=omega) only [z0l,q,q2,Wk,Xv,Yz,Yf,Xs,Yv,Yc,Yj,Zt,Zk,Zf,z1e,z1f,Ao,Zx,Yy,Zh,Yd,Zj,Af,Ah,Aj,Ab,Aa,Az,AE,Zp];exact hN
    ·simp (disch:=omega) only [z0l,q,Wk,Xv,Yz,Yf,Xs,Yv,Yc,Yj,Zt,Zk,Zf,z1e,z1f,Ao,Zx,Yy,Zh,Yd,Zj,Af,Ah,Aj,Ab,Aa,Az,AE,Zp];exact hN
  ·obtain ⟨N,hN⟩:=x3d cuts ins hl hi k (i+1) out (by omega) (by omega) (by omega);refine ⟨N+1,?_⟩;rw [Zw,q];simp (disch:=omega) only [z0l,q,Wk,Xv,Yz,Yf,Xs,Yv,Yc,Yj,Zt,Zk,Zf,z1e,z1f,Ao,Zx,Yy,Zh,Yd,Zj,Af,Ah,Aj,Ab,Aa,Az,AE,Zp];exact hN
theorem u3a (cuts:List Int) (ins:List Bool) (h:z9u cuts ins=true): ∃N,Zr (z0l cuts ins) N (z8t cuts ins)=.ret [.dat (y2t cuts ins).length (Zz (y2t cuts ins))]:=by
 obtain ⟨h1,h2⟩:=Aw h;have:=x3d cuts ins h1 h2 (cuts.length - 1) 0 [] (by omega) (AC _) (Aq _)
 simpa [z8t,y2t] using this
abbrev v6h :Nat:=124
abbrev j0s :Nat:=131
abbrev j0i :Nat:=132
abbrev j0r :Nat:=129
abbrev nHas4 :Nat:=130
abbrev j0h :Nat:=109
abbrev nXs :Nat:=127
abbrev nYs :Nat:=128
abbrev j0q :Nat:=89
abbrev j0g :Nat:=22
abbrev nAt :Nat:=108
abbrev nCuts :Nat:=107
abbrev j0p :Nat:=77
abbrev v6m :Nat:=59
abbrev nEq2 :Nat:=159
abbrev nEq4 :Nat:=163
abbrev nEq6 :Nat:=94
abbrev j0e :Nat:=193
abbrev w5x :Nat:=194
abbrev nSort :Nat:=111
abbrev w5z :Nat:=113
abbrev nFst :Nat:=180
abbrev x6g :Nat:=156
abbrev w5v :Nat:=83
abbrev v6l :Nat:=117
abbrev w5t :Nat:=116
abbrev w5r :Nat:=92
abbrev x6h :Nat:=52
-- not there: gambrel/gambrellaw28.valid
abbrev w5q :Nat:=160
abbrev nSpU1 :Nat:=164
abbrev nSpE1 :Nat:=133
abbrev nSpD1 :Nat:=123
abbrev nSpU :Nat:=149
abbrev nSpE :Nat:=90
abbrev nSpD :Nat:=85
abbrev w5u :Nat:=157
abbrev nRgU :Nat:=110
abbrev nRgE :Nat:=51
abbrev nRgD :Nat:=48
abbrev nSlU :Nat:=78
abbrev nSlE :Nat:=39
abbrev nSlD :Nat:=33
abbrev j0f :Nat:=63
-- not there: gambrel/detail.Distance
abbrev nMCut :Nat:=146
abbrev v6n :Nat:=100
abbrev j0m :Nat:=65
abbrev nMOf :Nat:=32
-- not there: gambrel/mesh.Solid
abbrev v6o :Nat:=69
abbrev j0o :Nat:=36
abbrev j0l :Nat:=70
-- not there: gambrel/mesh.Volume
abbrev j0n :Nat:=101
-- not there: gambrel/gambrellaw19.alive
abbrev nMv1 :Nat:=137
abbrev nMv2 :Nat:=138
abbrev nMv3 :Nat:=139
abbrev nMv4 :Nat:=140
abbrev nMv5 :Nat:=141
abbrev nMv6 :Nat:=142
abbrev nMv7 :Nat:=143
abbrev nMv8 :Nat:=144
abbrev nMv9 :Nat:=145
def y2p (k:Int) (a b:Bool):Bool:=bif k == 1 then a&&b else bif k == 2 then a||b else a&& !b
def w6o (a b:Bool):Bool:=a
theorem j6v (k:Int) (a b:Bool): ∃N,Zr (w2i k a b) N (y4y k a b)=.ret [.bool (y2p k a b)]:=by
 refine ⟨0,?_⟩;unfold y4y y2p;cases a <;> cases b <;> rcases Yp (k == 1) with q | q <;> rcases Yp (k == 2) with q2 | q2 <;> rw [q] <;> (try rw [q2]) <;> rfl
theorem j6x (a b:Bool): ∃N,Zr (w2l a b) N (x4a a b)=.ret [.bool (w6o a b)]:=⟨0,rfl⟩
def fSrt :List AVal→Option (AVal×Bool)
 | [a0]=>match asL Int a0 with
  | some (L0,g0,n0)=>some (.dat (z3b L0).length (Zz (z3b L0)),isT Int n0 g0&&(Qd L0))
  | _=>none
 | _=>none
theorem j7l {S:Specs} (hS:Zu prog S):Zu prog (S.with v6h fSrt):=by
 refine z0f hS (by kernel_rfl) fun args v h=> ?_;unfold fSrt at h;split at h
 ·rename_i a0;split at h
  ·rename_i L0 g0 n0 e0;simp only [Ad,Ac,Ae] at h;obtain ⟨rfl,ho0,hw⟩:=h;obtain ⟨N,hN⟩:=v4k L0 hw;exact ⟨_,_,(.cons (Yh e0 ho0) .nil),rfl,w8t L0 N _ hN,3,rfl⟩
  ·cases h
 ·cases h
def fCan :List AVal→Option (AVal×Bool)
 | [a0,a1]=>match asL Int a0,asL Bool a1 with
  | some (L0,g0,n0),some (L1,g1,n1)=>some (.dat (y2t L0 L1).length (Zz (y2t L0 L1)),isT Int n0 g0&&(isT Bool n1 g1&&(z9u L0 L1)))
  | _,_=>none
 | _=>none
theorem j8u {S:Specs} (hS:Zu prog S):Zu prog (S.with j0s fCan):=by
 refine z0f hS (by kernel_rfl) fun args v h=> ?_;unfold fCan at h;split at h
 ·rename_i a0 a1;split at h
  ·rename_i L0 g0 n0 L1 g1 n1 e0 e1;simp only [Ad,Ac,Ae] at h;obtain ⟨rfl,ho0,ho1,hw⟩:=h;obtain ⟨N,hN⟩:=u3a L0 L1 hw;exact ⟨_,_,(.cons (Yh e0 ho0) (.cons (Yh e1 ho1) .nil)),rfl,v5p L0 L1 N _ hN,3,rfl⟩
  ·cases h
 ·cases h
def x1o :List AVal→Option (AVal×Bool)
 | [a0,a1]=>match asL R2 a0,asL R2 a1 with
  | some (L0,g0,n0),some (L1,g1,n1)=>some (.bool (Qi L0 L1),isT R2 n0 g0&&(isT R2 n1 g1&&(Vs L0 L1)))
  | _,_=>none
 | _=>none
theorem v8e {S:Specs} (hS:Zu prog S):Zu prog (S.with j0i x1o):=by
 refine z0f hS (by kernel_rfl) fun args v h=> ?_;unfold x1o at h;split at h
 ·rename_i a0 a1;split at h
  ·rename_i L0 g0 n0 L1 g1 n1 e0 e1;simp only [Ad,Ac,Ae] at h;obtain ⟨rfl,ho0,ho1,hw⟩:=h;obtain ⟨N,hN⟩:=j4h L0 L1 hw;exact ⟨_,_,(.cons (Yh e0 ho0) (.cons (Yh e1 ho1) .nil)),rfl,u1v L0 L1 N _ hN,3,rfl⟩
  ·cases h
 ·cases h
def x1n :List AVal→Option (AVal×Bool)
 | [a0,a1]=>match asL R4 a0,asL R4 a1 with
  | some (L0,g0,n0),some (L1,g1,n1)=>some (.bool (Ur L0 L1),isT R4 n0 g0&&(isT R4 n1 g1&&(We L0 L1)))
  | _,_=>none
 | _=>none
theorem v8d {S:Specs} (hS:Zu prog S):Zu prog (S.with j0h x1n):=by
 refine z0f hS (by kernel_rfl) fun args v h=> ?_;unfold x1n at h;split at h
 ·rename_i a0 a1;split at h
  ·rename_i L0 g0 n0 L1 g1 n1 e0 e1;simp only [Ad,Ac,Ae] at h;obtain ⟨rfl,ho0,ho1,hw⟩:=h;obtain ⟨N,hN⟩:=j4f L0 L1 hw;exact ⟨_,_,(.cons (Yh e0 ho0) (.cons (Yh e1 ho1) .nil)),rfl,u1s L0 L1 N _ hN,3,rfl⟩
  ·cases h
 ·cases h
def x1m :List AVal→Option (AVal×Bool)
 | [a0,a1]=>match asL R6 a0,asL R6 a1 with
  | some (L0,g0,n0),some (L1,g1,n1)=>some (.bool (Jf L0 L1),isT R6 n0 g0&&(isT R6 n1 g1&&(Vw L0 L1)))
  | _,_=>none
 | _=>none
theorem v8c {S:Specs} (hS:Zu prog S):Zu prog (S.with j0g x1m):=by
 refine z0f hS (by kernel_rfl) fun args v h=> ?_;unfold x1m at h;split at h
 ·rename_i a0 a1;split at h
  ·rename_i L0 g0 n0 L1 g1 n1 e0 e1;simp only [Ad,Ac,Ae] at h;obtain ⟨rfl,ho0,ho1,hw⟩:=h;obtain ⟨N,hN⟩:=j4i L0 L1 hw;exact ⟨_,_,(.cons (Yh e0 ho0) (.cons (Yh e1 ho1) .nil)),rfl,u1w L0 L1 N _ hN,3,rfl⟩
  ·cases h
 ·cases h
def j8n :List AVal→Option (AVal×Bool)
 | [a0,.int .i64 x1,.int .i64 x2]=>match asL R4 a0 with
  | some (L0,g0,n0)=>some (.bool (z4h L0 x1 x2),isT R4 n0 g0&&(z0t L0 x1 x2))
  | _=>none
 | _=>none
theorem u5i {S:Specs} (hS:Zu prog S):Zu prog (S.with nHas4 j8n):=by
 refine z0f hS (by kernel_rfl) fun args v h=> ?_;unfold j8n at h;split at h
 ·rename_i a0 x1 x2;split at h
  ·rename_i L0 g0 n0 e0;simp only [Ad,Ac,Ae] at h;obtain ⟨rfl,ho0,hw⟩:=h;obtain ⟨N,hN⟩:=u2h L0 x1 x2 hw;exact ⟨_,_,(.cons (Yh e0 ho0) (.cons (.refl _) (.cons (.refl _) .nil))),rfl,v4y L0 x1 x2 N _ hN,3,rfl⟩
  ·cases h
 ·cases h
def fAt :List AVal→Option (AVal×Bool)
 | [a0,.int .i64 x1]=>match asL R6 a0 with
  | some (L0,g0,n0)=>some (.dat (atV L0 x1).length (Zz (atV L0 x1)),isT R6 n0 g0&&(z6i L0 x1))
  | _=>none
 | _=>none
theorem fAt_ok {S:Specs} (hS:Zu prog S):Zu prog (S.with nAt fAt):=by
 refine z0f hS (by kernel_rfl) fun args v h=> ?_;unfold fAt at h;split at h
 ·rename_i a0 x1;split at h
  ·rename_i L0 g0 n0 e0;simp only [Ad,Ac,Ae] at h;obtain ⟨rfl,ho0,hw⟩:=h;obtain ⟨N,hN⟩:=j5k L0 x1 hw;exact ⟨_,_,(.cons (Yh e0 ho0) (.cons (.refl _) .nil)),rfl,u3b L0 x1 N _ hN,3,rfl⟩
  ·cases h
 ·cases h
def v8i :List AVal→Option (AVal×Bool)
 | [.int .i64 x0,.bool b1,.bool b2]=>some (.bool (y2p x0 b1 b2),true)
 | _=>none
theorem v8h {S:Specs} (hS:Zu prog S):Zu prog (S.with j0r v8i):=by
 refine z0f hS (by kernel_rfl) fun args v h=> ?_;unfold v8i at h;split at h
 ·rename_i x0 b1 b2;simp only [Ad,Ac,Bk] at h;subst h;obtain ⟨N,hN⟩:=j6v x0 b1 b2;exact ⟨_,_,(.cons (.refl _) (.cons (.refl _) (.cons (.refl _) .nil))),rfl,u4w x0 b1 b2 N _ hN,3,rfl⟩
 ·cases h
def fFst :List AVal→Option (AVal×Bool)
 | [.bool b0,.bool b1]=>some (.bool (w6o b0 b1),true)
 | _=>none
theorem j8o {S:Specs} (hS:Zu prog S):Zu prog (S.with nFst fFst):=by
 refine z0f hS (by kernel_rfl) fun args v h=> ?_;unfold fFst at h;split at h
 ·rename_i b0 b1;simp only [Ad,Ac,Bk] at h;subst h;obtain ⟨N,hN⟩:=j6x b0 b1;exact ⟨_,_,(.cons (.refl _) (.cons (.refl _) .nil)),rfl,u4y b0 b1 N _ hN,3,rfl⟩
 ·cases h
theorem v0x {S:Specs} (hS:Zu prog S):Zu prog (S.with nEq2 x1o):=by
 refine z0f hS (by kernel_rfl) fun args v h=> ?_;unfold x1o at h;split at h
 ·rename_i a0 a1;split at h
  ·rename_i L0 g0 n0 L1 g1 n1 e0 e1;simp only [Ad,Ac,Ae] at h;obtain ⟨rfl,ho0,ho1,hw⟩:=h;obtain ⟨N,hN⟩:=j9a L0 L1 hw;exact ⟨_,_,(.cons (Yh e0 ho0) (.cons (Yh e1 ho1) .nil)),rfl,u5p L0 L1 N _ hN,3,rfl⟩
  ·cases h
 ·cases h
theorem v0w {S:Specs} (hS:Zu prog S):Zu prog (S.with nEq4 x1n):=by
 refine z0f hS (by kernel_rfl) fun args v h=> ?_;unfold x1n at h;split at h
 ·rename_i a0 a1;split at h
  ·rename_i L0 g0 n0 L1 g1 n1 e0 e1;simp only [Ad,Ac,Ae] at h;obtain ⟨rfl,ho0,ho1,hw⟩:=h;obtain ⟨N,hN⟩:=j8z L0 L1 hw;exact ⟨_,_,(.cons (Yh e0 ho0) (.cons (Yh e1 ho1) .nil)),rfl,u5o L0 L1 N _ hN,3,rfl⟩
  ·cases h
 ·cases h
theorem v0v {S:Specs} (hS:Zu prog S):Zu prog (S.with nEq6 x1m):=by
 refine z0f hS (by kernel_rfl) fun args v h=> ?_;unfold x1m at h;split at h
 ·rename_i a0 a1;split at h
  ·rename_i L0 g0 n0 L1 g1 n1 e0 e1;simp only [Ad,Ac,Ae] at h;obtain ⟨rfl,ho0,ho1,hw⟩:=h;obtain ⟨N,hN⟩:=j8y L0 L1 hw;exact ⟨_,_,(.cons (Yh e0 ho0) (.cons (Yh e1 ho1) .nil)),rfl,u5n L0 L1 N _ hN,3,rfl⟩
  ·cases h
 ·cases h
def T1 :Specs:=((((((((((((noSpecs.with v6h fSrt).with j0s fCan).with j0i x1o).with j0h x1n).with j0g x1m).with nHas4 j8n).with nAt fAt).with j0r v8i).with nFst fFst).with nEq2 x1o).with nEq4 x1n).with nEq6 x1m)
theorem z3y :Zu prog T1:=v0v (v0w (v0x (j8o (v8h (fAt_ok (u5i (v8c (v8d (v8e (j8u (j7l Zm)))))))))))
inductive rxsS where
 | h0 (v5:List Int) (v6:Int)
 | h1 (v5:List Int) (v7:Int)
def rxsC (l0:List R4) (l1:List R4):rxsS→Cfg
 | .h0 v5 v6=>⟨⟨48,0,true⟩,none,(Zb prog 127 [1,1,0,1,0,0] 0),none,(Zy prog 6),⟨Yg [(0,(.dat l0.length (Zz l0))),(1,(.dat l1.length (Zz l1))),(5,(.sla 0 1 0 v5.length (.un 1))),(6,(ii v6))],Vj [⟨Ym v5.length (Zz v5),3,some ⟨1,v5.length,(Zz v5)⟩⟩] 0,1,[],true⟩,[],.leaf⟩
 | .h1 v5 v7=>⟨⟨48,0,true⟩,none,(Zb prog 127 [1,1,1,0,1,0,0] 0),none,(Zy prog 6),⟨Yg [(1,(.dat l1.length (Zz l1))),(5,(.sla 0 1 0 v5.length (.un 1))),(7,(ii v7))],Vj [⟨Ym v5.length (Zz v5),3,some ⟨1,v5.length,(Zz v5)⟩⟩] 0,1,[],true⟩,[],.leaf⟩
def rxsN0 :List (Option (List Nat)):=[some [0,1,5,6]]
def rxsM0 :List (Option (List Nat)):=[]
def rxsN1 :List (Option (List Nat)):=[some [1,5,7]]
def rxsM1 :List (Option (List Nat)):=[]
def z3e (l0:List R4) (l1:List R4):rxsS→Xw rxsS
 | .h0 v5 v6=>(bif (decide (v6<(l0.length:Int))) then (bif ((decide (0≤v6∧v6<(l0.length:Int)))&&true) then (bif (Nat.beq 1 1&&((decide (0+v5.length=v5.length))&&decide ((v5.length+2+1)*(8+1)≤room))) then (.to (.h0 (v5++[(rd l0 v6.toNat).a,(rd l0 v6.toNat).c]) (wrap .i64 (v6+1)))) else .stuck) else .stuck) else (.to (.h1 v5 0)))
 | .h1 v5 v7=>(bif (decide (v7<(l1.length:Int))) then (bif ((decide (0≤v7∧v7<(l1.length:Int)))&&true) then (bif (Nat.beq 1 1&&((decide (0+v5.length=v5.length))&&decide ((v5.length+2+1)*(8+1)≤room))) then (.to (.h1 (v5++[(rd l1 v7.toNat).a,(rd l1 v7.toNat).c]) (wrap .i64 (v7+1)))) else .stuck) else .stuck) else (bif (Qd (cvT v5)) then (.ret [(.dat (z3b (cvT v5)).length (Zz (z3b (cvT v5))))]) else .stuck))
def y4a (l0:List R4) (l1:List R4):Xw rxsS:=(.to (.h0 ([]:List Int) 0))
theorem w8p (l0:List R4) (l1:List R4): ∀s,Yt prog (Zy prog 127) (rxsC l0 l1) (rxsC l0 l1 s) (z3e l0 l1 s)
 | .h0 v5 v6=>(lb (fun k0=>(lo fun o0=>(lo fun o1=>(sl z3y 20 [] ⟨[2],[],rxsN0,rxsM0⟩ ⟨[(5,.len (v5++[(rd l0 (tn v6)).a,(rd l0 (tn v6)).c]).length)],[.rowed 1 (v5++[(rd l0 (tn v6)).a,(rd l0 (tn v6)).c]).length (Zz (v5++[(rd l0 (tn v6)).a,(rd l0 (tn v6)).c]))],[]⟩ [true] (pp (xL (v5.length+2) (v5++[(rd l0 (tn v6)).a,(rd l0 (tn v6)).c]).length) (pp (xL (v5.length+2) (v5++[(rd l0 (tn v6)).a,(rd l0 (tn v6)).c]).length) (pp (xS (v5.length+2) (Zo (Zz v5) 0 v5.length 1 [(ii (rd l0 (tn v6)).a),(ii (rd l0 (tn v6)).c)]) (Zz (v5++[(rd l0 (tn v6)).a,(rd l0 (tn v6)).c]))) (pp (pp (xF (Zo (Zz v5) 0 v5.length 1 [(ii (rd l0 (tn v6)).a),(ii (rd l0 (tn v6)).c)])) nn) (ww o1 (ww o0 (ww o0 (tt k0 nn)))))))))))) (fun k0=>(sl z3y 17 [] ⟨[0],[],rxsN1,rxsM1⟩ ⟨[],[],[]⟩ [false] (pp (fl v5 nn) (tt k0 nn)))))
 | .h1 v5 v7=>(lb (fun k0=>(lo fun o0=>(lo fun o1=>(sl z3y 20 [] ⟨[2],[],rxsN1,rxsM1⟩ ⟨[(5,.len (v5++[(rd l1 (tn v7)).a,(rd l1 (tn v7)).c]).length)],[.rowed 1 (v5++[(rd l1 (tn v7)).a,(rd l1 (tn v7)).c]).length (Zz (v5++[(rd l1 (tn v7)).a,(rd l1 (tn v7)).c]))],[]⟩ [true] (pp (xL (v5.length+2) (v5++[(rd l1 (tn v7)).a,(rd l1 (tn v7)).c]).length) (pp (xL (v5.length+2) (v5++[(rd l1 (tn v7)).a,(rd l1 (tn v7)).c]).length) (pp (xS (v5.length+2) (Zo (Zz v5) 0 v5.length 1 [(ii (rd l1 (tn v7)).a),(ii (rd l1 (tn v7)).c)]) (Zz (v5++[(rd l1 (tn v7)).a,(rd l1 (tn v7)).c]))) (pp (pp (xF (Zo (Zz v5) 0 v5.length 1 [(ii (rd l1 (tn v7)).a),(ii (rd l1 (tn v7)).c)])) nn) (ww o1 (ww o0 (ww o0 (tt k0 nn)))))))))))) (fun k0=>(Xa (sl z3y (C':=⟨⟨48,0,true⟩,(Vm prog 127 [1,1,1,1,0] 1),(Zb prog 127 [1,1,1,1,0] 1),none,(Zy prog 6),⟨Yg [(46,(.dat v5.length (Zz v5)))],Vj [] 0,0,[],true⟩,[],.leaf⟩) 13 [] ⟨[],[0],[some [46]],[]⟩ ⟨[(46,.frz v5.length v5.length (Zz v5) (Zz v5))],[],[]⟩ [false] (pp (xZ (z6e 1 1 0 v5.length v5.length (Zz v5)) v5.length (Zz v5)) (pp (xL v5.length v5.length) (pp (xS v5.length (Zz v5) (Zz v5)) (pp (fl v5 nn) (tt k0 nn)))))) (lo fun o0=>(lr 48 3 [1,1,1,1,0] 1 6 [(4,(.dat (z3b (cvT v5)).length (Zz (z3b (cvT v5)))))] (sl z3y 3 [] ⟨[],[],[some [4]],[]⟩ ⟨[],[],[]⟩ [] (pp (pp (xr v5) (xw o0)) nn)))))))
theorem x9l (l0:List R4) (l1:List R4):Yt prog (Zy prog 127) (rxsC l0 l1) (Zg prog 127 [(.dat l0.length (Zz l0)),(.dat l1.length (Zz l1))] true []) (y4a l0 l1):=(sl z3y 15 [(3,1,Zz ([]:List Int))] ⟨[0],[],rxsN0,rxsM0⟩ ⟨[(5,.grow 0 1)],[],[]⟩ [] (pp (fl ([]:List Int) nn) nn))
theorem u1q (l0:List R4) (l1:List R4) (n:Nat) (vs:List AVal) (h:Zr (z3e l0 l1) n (y4a l0 l1)=.ret vs):Jy prog (Zy prog 127) (Zg prog 127 [(.dat l0.length (Zz l0)),(.dat l1.length (Zz l1))] true []) vs:=by have:=Zd (w8p l0 l1) n _ (x9l l0 l1);rwa [h] at this
inductive rysS where
 | h0 (v5:List Int) (v6:Int)
 | h1 (v5:List Int) (v7:Int)
def rysC (l0:List R4) (l1:List R4):rysS→Cfg
 | .h0 v5 v6=>⟨⟨48,0,true⟩,none,(Zb prog 128 [1,1,0,1,0,0] 0),none,(Zy prog 6),⟨Yg [(0,(.dat l0.length (Zz l0))),(1,(.dat l1.length (Zz l1))),(5,(.sla 0 1 0 v5.length (.un 1))),(6,(ii v6))],Vj [⟨Ym v5.length (Zz v5),3,some ⟨1,v5.length,(Zz v5)⟩⟩] 0,1,[],true⟩,[],.leaf⟩
 | .h1 v5 v7=>⟨⟨48,0,true⟩,none,(Zb prog 128 [1,1,1,0,1,0,0] 0),none,(Zy prog 6),⟨Yg [(1,(.dat l1.length (Zz l1))),(5,(.sla 0 1 0 v5.length (.un 1))),(7,(ii v7))],Vj [⟨Ym v5.length (Zz v5),3,some ⟨1,v5.length,(Zz v5)⟩⟩] 0,1,[],true⟩,[],.leaf⟩
def rysN0 :List (Option (List Nat)):=[some [0,1,5,6]]
def rysM0 :List (Option (List Nat)):=[]
def rysN1 :List (Option (List Nat)):=[some [1,5,7]]
def rysM1 :List (Option (List Nat)):=[]
def z3d (l0:List R4) (l1:List R4):rysS→Xw rysS
 | .h0 v5 v6=>(bif (decide (v6<(l0.length:Int))) then (bif ((decide (0≤v6∧v6<(l0.length:Int)))&&true) then (bif (Nat.beq 1 1&&((decide (0+v5.length=v5.length))&&decide ((v5.length+2+1)*(8+1)≤room))) then (.to (.h0 (v5++[(rd l0 v6.toNat).b,(rd l0 v6.toNat).d]) (wrap .i64 (v6+1)))) else .stuck) else .stuck) else (.to (.h1 v5 0)))
 | .h1 v5 v7=>(bif (decide (v7<(l1.length:Int))) then (bif ((decide (0≤v7∧v7<(l1.length:Int)))&&true) then (bif (Nat.beq 1 1&&((decide (0+v5.length=v5.length))&&decide ((v5.length+2+1)*(8+1)≤room))) then (.to (.h1 (v5++[(rd l1 v7.toNat).b,(rd l1 v7.toNat).d]) (wrap .i64 (v7+1)))) else .stuck) else .stuck) else (bif (Qd (cvT v5)) then (.ret [(.dat (z3b (cvT v5)).length (Zz (z3b (cvT v5))))]) else .stuck))
def y3z (l0:List R4) (l1:List R4):Xw rysS:=(.to (.h0 ([]:List Int) 0))
theorem w8o (l0:List R4) (l1:List R4): ∀s,Yt prog (Zy prog 128) (rysC l0 l1) (rysC l0 l1 s) (z3d l0 l1 s)
 | .h0 v5 v6=>(lb (fun k0=>(lo fun o0=>(lo fun o1=>(sl z3y 20 [] ⟨[2],[],rysN0,rysM0⟩ ⟨[(5,.len (v5++[(rd l0 (tn v6)).b,(rd l0 (tn v6)).d]).length)],[.rowed 1 (v5++[(rd l0 (tn v6)).b,(rd l0 (tn v6)).d]).length (Zz (v5++[(rd l0 (tn v6)).b,(rd l0 (tn v6)).d]))],[]⟩ [true] (pp (xL (v5.length+2) (v5++[(rd l0 (tn v6)).b,(rd l0 (tn v6)).d]).length) (pp (xL (v5.length+2) (v5++[(rd l0 (tn v6)).b,(rd l0 (tn v6)).d]).length) (pp (xS (v5.length+2) (Zo (Zz v5) 0 v5.length 1 [(ii (rd l0 (tn v6)).b),(ii (rd l0 (tn v6)).d)]) (Zz (v5++[(rd l0 (tn v6)).b,(rd l0 (tn v6)).d]))) (pp (pp (xF (Zo (Zz v5) 0 v5.length 1 [(ii (rd l0 (tn v6)).b),(ii (rd l0 (tn v6)).d)])) nn) (ww o1 (ww o0 (ww o0 (tt k0 nn)))))))))))) (fun k0=>(sl z3y 17 [] ⟨[0],[],rysN1,rysM1⟩ ⟨[],[],[]⟩ [false] (pp (fl v5 nn) (tt k0 nn)))))
 | .h1 v5 v7=>(lb (fun k0=>(lo fun o0=>(lo fun o1=>(sl z3y 20 [] ⟨[2],[],rysN1,rysM1⟩ ⟨[(5,.len (v5++[(rd l1 (tn v7)).b,(rd l1 (tn v7)).d]).length)],[.rowed 1 (v5++[(rd l1 (tn v7)).b,(rd l1 (tn v7)).d]).length (Zz (v5++[(rd l1 (tn v7)).b,(rd l1 (tn v7)).d]))],[]⟩ [true] (pp (xL (v5.length+2) (v5++[(rd l1 (tn v7)).b,(rd l1 (tn v7)).d]).length) (pp (xL (v5.length+2) (v5++[(rd l1 (tn v7)).b,(rd l1 (tn v7)).d]).length) (pp (xS (v5.length+2) (Zo (Zz v5) 0 v5.length 1 [(ii (rd l1 (tn v7)).b),(ii (rd l1 (tn v7)).d)]) (Zz (v5++[(rd l1 (tn v7)).b,(rd l1 (tn v7)).d]))) (pp (pp (xF (Zo (Zz v5) 0 v5.length 1 [(ii (rd l1 (tn v7)).b),(ii (rd l1 (tn v7)).d)])) nn) (ww o1 (ww o0 (ww o0 (tt k0 nn)))))))))))) (fun k0=>(Xa (sl z3y (C':=⟨⟨48,0,true⟩,(Vm prog 128 [1,1,1,1,0] 1),(Zb prog 128 [1,1,1,1,0] 1),none,(Zy prog 6),⟨Yg [(46,(.dat v5.length (Zz v5)))],Vj [] 0,0,[],true⟩,[],.leaf⟩) 13 [] ⟨[],[0],[some [46]],[]⟩ ⟨[(46,.frz v5.length v5.length (Zz v5) (Zz v5))],[],[]⟩ [false] (pp (xZ (z6e 1 1 0 v5.length v5.length (Zz v5)) v5.length (Zz v5)) (pp (xL v5.length v5.length) (pp (xS v5.length (Zz v5) (Zz v5)) (pp (fl v5 nn) (tt k0 nn)))))) (lo fun o0=>(lr 48 3 [1,1,1,1,0] 1 6 [(4,(.dat (z3b (cvT v5)).length (Zz (z3b (cvT v5)))))] (sl z3y 3 [] ⟨[],[],[some [4]],[]⟩ ⟨[],[],[]⟩ [] (pp (pp (xr v5) (xw o0)) nn)))))))
theorem x9k (l0:List R4) (l1:List R4):Yt prog (Zy prog 128) (rysC l0 l1) (Zg prog 128 [(.dat l0.length (Zz l0)),(.dat l1.length (Zz l1))] true []) (y3z l0 l1):=(sl z3y 15 [(3,1,Zz ([]:List Int))] ⟨[0],[],rysN0,rysM0⟩ ⟨[(5,.grow 0 1)],[],[]⟩ [] (pp (fl ([]:List Int) nn) nn))
theorem u1p (l0:List R4) (l1:List R4) (n:Nat) (vs:List AVal) (h:Zr (z3d l0 l1) n (y3z l0 l1)=.ret vs):Jy prog (Zy prog 128) (Zg prog 128 [(.dat l0.length (Zz l0)),(.dat l1.length (Zz l1))] true []) vs:=by have:=Zd (w8o l0 l1) n _ (x9k l0 l1);rwa [h] at this
inductive rcutS where
 | h0 (v5:List Int) (v6:Int)
 | h1 (v5:List Int) (v7:Int)
def j5f (l0:List R6) (l1:List R6):rcutS→Cfg
 | .h0 v5 v6=>⟨⟨52,0,true⟩,none,(Zb prog 107 [1,1,0,1,0,0] 0),none,(Zy prog 6),⟨Yg [(0,(.dat l0.length (Zz l0))),(1,(.dat l1.length (Zz l1))),(5,(.sla 0 1 0 v5.length (.un 1))),(6,(ii v6))],Vj [⟨Ym v5.length (Zz v5),3,some ⟨1,v5.length,(Zz v5)⟩⟩] 0,1,[],true⟩,[],.leaf⟩
 | .h1 v5 v7=>⟨⟨52,0,true⟩,none,(Zb prog 107 [1,1,1,0,1,0,0] 0),none,(Zy prog 6),⟨Yg [(1,(.dat l1.length (Zz l1))),(5,(.sla 0 1 0 v5.length (.un 1))),(7,(ii v7))],Vj [⟨Ym v5.length (Zz v5),3,some ⟨1,v5.length,(Zz v5)⟩⟩] 0,1,[],true⟩,[],.leaf⟩
def u9u :List (Option (List Nat)):=[some [0,1,5,6]]
def u9w :List (Option (List Nat)):=[]
def u9t :List (Option (List Nat)):=[some [1,5,7]]
def u9v :List (Option (List Nat)):=[]
def z0k (l0:List R6) (l1:List R6):rcutS→Xw rcutS
 | .h0 v5 v6=>(bif (decide (v6<(l0.length:Int))) then (bif ((decide (0≤v6∧v6<(l0.length:Int)))&&true) then (bif (Nat.beq 1 1&&((decide (0+v5.length=v5.length))&&decide ((v5.length+2+1)*(8+1)≤room))) then (.to (.h0 (v5++[(rd l0 v6.toNat).c,(rd l0 v6.toNat).f]) (wrap .i64 (v6+1)))) else .stuck) else .stuck) else (.to (.h1 v5 0)))
 | .h1 v5 v7=>(bif (decide (v7<(l1.length:Int))) then (bif ((decide (0≤v7∧v7<(l1.length:Int)))&&true) then (bif (Nat.beq 1 1&&((decide (0+v5.length=v5.length))&&decide ((v5.length+2+1)*(8+1)≤room))) then (.to (.h1 (v5++[(rd l1 v7.toNat).c,(rd l1 v7.toNat).f]) (wrap .i64 (v7+1)))) else .stuck) else .stuck) else (bif (Qd (cvT v5)) then (.ret [(.dat (z3b (cvT v5)).length (Zz (z3b (cvT v5))))]) else .stuck))
def z8r (l0:List R6) (l1:List R6):Xw rcutS:=(.to (.h0 ([]:List Int) 0))
theorem w0p (l0:List R6) (l1:List R6): ∀s,Yt prog (Zy prog 107) (j5f l0 l1) (j5f l0 l1 s) (z0k l0 l1 s)
 | .h0 v5 v6=>(lb (fun k0=>(lo fun o0=>(lo fun o1=>(sl z3y 20 [] ⟨[2],[],u9u,u9w⟩ ⟨[(5,.len (v5++[(rd l0 (tn v6)).c,(rd l0 (tn v6)).f]).length)],[.rowed 1 (v5++[(rd l0 (tn v6)).c,(rd l0 (tn v6)).f]).length (Zz (v5++[(rd l0 (tn v6)).c,(rd l0 (tn v6)).f]))],[]⟩ [true] (pp (xL (v5.length+2) (v5++[(rd l0 (tn v6)).c,(rd l0 (tn v6)).f]).length) (pp (xL (v5.length+2) (v5++[(rd l0 (tn v6)).c,(rd l0 (tn v6)).f]).length) (pp (xS (v5.length+2) (Zo (Zz v5) 0 v5.length 1 [(ii (rd l0 (tn v6)).c),(ii (rd l0 (tn v6)).f)]) (Zz (v5++[(rd l0 (tn v6)).c,(rd l0 (tn v6)).f]))) (pp (pp (xF (Zo (Zz v5) 0 v5.length 1 [(ii (rd l0 (tn v6)).c),(ii (rd l0 (tn v6)).f)])) nn) (ww o1 (ww o0 (ww o0 (tt k0 nn)))))))))))) (fun k0=>(sl z3y 17 [] ⟨[0],[],u9t,u9v⟩ ⟨[],[],[]⟩ [false] (pp (fl v5 nn) (tt k0 nn)))))
 | .h1 v5 v7=>(lb (fun k0=>(lo fun o0=>(lo fun o1=>(sl z3y 20 [] ⟨[2],[],u9t,u9v⟩ ⟨[(5,.len (v5++[(rd l1 (tn v7)).c,(rd l1 (tn v7)).f]).length)],[.rowed 1 (v5++[(rd l1 (tn v7)).c,(rd l1 (tn v7)).f]).length (Zz (v5++[(rd l1 (tn v7)).c,(rd l1 (tn v7)).f]))],[]⟩ [true] (pp (xL (v5.length+2) (v5++[(rd l1 (tn v7)).c,(rd l1 (tn v7)).f]).length) (pp (xL (v5.length+2) (v5++[(rd l1 (tn v7)).c,(rd l1 (tn v7)).f]).length) (pp (xS (v5.length+2) (Zo (Zz v5) 0 v5.length 1 [(ii (rd l1 (tn v7)).c),(ii (rd l1 (tn v7)).f)]) (Zz (v5++[(rd l1 (tn v7)).c,(rd l1 (tn v7)).f]))) (pp (pp (xF (Zo (Zz v5) 0 v5.length 1 [(ii (rd l1 (tn v7)).c),(ii (rd l1 (tn v7)).f)])) nn) (ww o1 (ww o0 (ww o0 (tt k0 nn)))))))))))) (fun k0=>(Xa (sl z3y (C':=⟨⟨52,0,true⟩,(Vm prog 107 [1,1,1,1,0] 1),(Zb prog 107 [1,1,1,1,0] 1),none,(Zy prog 6),⟨Yg [(50,(.dat v5.length (Zz v5)))],Vj [] 0,0,[],true⟩,[],.leaf⟩) 13 [] ⟨[],[0],[some [50]],[]⟩ ⟨[(50,.frz v5.length v5.length (Zz v5) (Zz v5))],[],[]⟩ [false] (pp (xZ (z6e 1 1 0 v5.length v5.length (Zz v5)) v5.length (Zz v5)) (pp (xL v5.length v5.length) (pp (xS v5.length (Zz v5) (Zz v5)) (pp (fl v5 nn) (tt k0 nn)))))) (lo fun o0=>(lr 52 3 [1,1,1,1,0] 1 6 [(4,(.dat (z3b (cvT v5)).length (Zz (z3b (cvT v5)))))] (sl z3y 3 [] ⟨[],[],[some [4]],[]⟩ ⟨[],[],[]⟩ [] (pp (pp (xr v5) (xw o0)) nn)))))))
theorem x5t (l0:List R6) (l1:List R6):Yt prog (Zy prog 107) (j5f l0 l1) (Zg prog 107 [(.dat l0.length (Zz l0)),(.dat l1.length (Zz l1))] true []) (z8r l0 l1):=(sl z3y 15 [(3,1,Zz ([]:List Int))] ⟨[0],[],u9u,u9w⟩ ⟨[(5,.grow 0 1)],[],[]⟩ [] (pp (fl ([]:List Int) nn) nn))
theorem v5l (l0:List R6) (l1:List R6) (n:Nat) (vs:List AVal) (h:Zr (z0k l0 l1) n (z8r l0 l1)=.ret vs):Jy prog (Zy prog 107) (Zg prog 107 [(.dat l0.length (Zz l0)),(.dat l1.length (Zz l1))] true []) vs:=by have:=Zd (w0p l0 l1) n _ (x5t l0 l1);rwa [h] at this
def z2z (l:List R4):List Int:=l.flatMap fun r=>[r.a,r.c]
def z1g (l:List R4):List Int:=l.flatMap fun r=>[r.b,r.d]
def z2y (l:List R6):List Int:=l.flatMap fun r=>[r.c,r.f]
def xsV (l m:List R4):List Int:=z3b (z2z l++z2z m)
def y3i (l m:List R4):Bool:=decide (l.length≤10000∧m.length≤10000)
theorem z4l (l:List R4):(z2z l).length =2*l.length:=by
 induction l with
 | nil=>rfl
 | cons r l ih=>grind [z2z]
theorem y9e (l:List R4) (i:Nat) (h:i<l.length):z2z (l.drop i)=z2z [rd l i]++z2z (l.drop (i+1)):=by rw [Yq h];rfl
theorem u8m (l m:List R4) (hl:l.length≤10000) (hm:m.length≤10000): ∀(k i:Nat) (out:List Int),i+k=m.length→out.length=2*l.length+2*i→ ∃N,Zr (z3e l m) N (.to (.h1 out (i:Int)))=.ret [.dat (z3b (out++z2z (m.drop i))).length (Zz (z3b (out++z2z (m.drop i))))]
 | 0,i,out,h,ho=>by refine ⟨1,?_⟩;have hw:Qd out=true:=An (by omega);rw [Zw,Ar (show m.length≤i by omega),show z2z []=[] from rfl,AD];simp (disch:=omega) only [z3e,Wk,Xv,Yz,Yf,Xs,Yv,Yc,Yj,Zt,Zk,Zf,z1e,z1f,Ao,Zx,Yy,Zh,Yd,Zj,Af,Ah,Aj,Ab,Aa,Az,AE,Zp,Zc,Zq,Uu,Xe,hw]
 | k+1,i,out,h,ho=>by obtain ⟨N,hN⟩:=u8m l m hl hm k (i+1) (out++z2z [rd m i]) (by omega) (by grind [z4l]);refine ⟨N+1,?_⟩;rw [y9e m i (by omega),←AJ,Zw];simp (disch:=omega) only [z3e,Wk,Xv,Yz,Yf,Xs,Yv,Yc,Yj,Zt,Zk,Zf,z1e,z1f,Ao,Zx,Yy,Zh,Yd,Zj,Af,Ah,Aj,Ab,Aa,Az,AE,Zp,Zc,Zq,Uu,Xe];exact hN
theorem u8n (l m:List R4) (hl:l.length≤10000) (hm:m.length≤10000): ∀(k i:Nat) (out:List Int),i+k=l.length→out.length=2*i→ ∃N,Zr (z3e l m) N (.to (.h0 out (i:Int)))=.ret [.dat (z3b (out++z2z (l.drop i)++z2z m)).length (Zz (z3b (out++z2z (l.drop i)++z2z m)))]
 | 0,i,out,h,ho=>by obtain ⟨N,hN⟩:=u8m l m hl hm m.length 0 out (Af _) (by omega);refine ⟨N+1,?_⟩;rw [Zw,Ar (show l.length≤i by omega),show z2z []=[] from rfl,AD];simp (disch:=omega) only [z3e,Wk,Xv,Yz,Yf,Xs,Yv,Yc,Yj,Zt,Zk,Zf,z1e,z1f,Ao,Zx,Yy,Zh,Yd,Zj,Af,Ah,Aj,Ab,Aa,Az,AE,Zp,Zc,Zq,Uu,Xe];exact hN
 | k+1,i,out,h,ho=>by obtain ⟨N,hN⟩:=u8n l m hl hm k (i+1) (out++z2z [rd l i]) (by omega) (by grind [z4l]);refine ⟨N+1,?_⟩;rw [y9e l i (by omega),←AJ,Zw];simp (disch:=omega) only [z3e,Wk,Xv,Yz,Yf,Xs,Yv,Yc,Yj,Zt,Zk,Zf,z1e,z1f,Ao,Zx,Yy,Zh,Yd,Zj,Af,Ah,Aj,Ab,Aa,Az,AE,Zp,Zc,Zq,Uu,Xe];exact hN
theorem j4c (l m:List R4) (h:y3i l m=true): ∃N,Zr (z3e l m) N (y4a l m)=.ret [.dat (xsV l m).length (Zz (xsV l m))]:=by
 obtain ⟨h1,h2⟩:=Aw h;have:=u8n l m h1 h2 l.length 0 [] (Af _) rfl
 simpa [y4a,xsV] using this
def ysV (l m:List R4):List Int:=z3b (z1g l++z1g m)
def y3h (l m:List R4):Bool:=decide (l.length≤10000∧m.length≤10000)
theorem z4k (l:List R4):(z1g l).length =2*l.length:=by
 induction l with
 | nil=>rfl
 | cons r l ih=>grind [z1g]
theorem y9d (l:List R4) (i:Nat) (h:i<l.length):z1g (l.drop i)=z1g [rd l i]++z1g (l.drop (i+1)):=by rw [Yq h];rfl
theorem u8k (l m:List R4) (hl:l.length≤10000) (hm:m.length≤10000): ∀(k i:Nat) (out:List Int),i+k=m.length→out.length=2*l.length+2*i→ ∃N,Zr (z3d l m) N (.to (.h1 out (i:Int)))=.ret [.dat (z3b (out++z1g (m.drop i))).length (Zz (z3b (out++z1g (m.drop i))))]
 | 0,i,out,h,ho=>by refine ⟨1,?_⟩;have hw:Qd out=true:=An (by omega);rw [Zw,Ar (show m.length≤i by omega),show z1g []=[] from rfl,AD];simp (disch:=omega) only [z3d,Wk,Xv,Yz,Yf,Xs,Yv,Yc,Yj,Zt,Zk,Zf,z1e,z1f,Ao,Zx,Yy,Zh,Yd,Zj,Af,Ah,Aj,Ab,Aa,Az,AE,Zp,Zc,Zq,Uu,Xe,hw]
 | k+1,i,out,h,ho=>by obtain ⟨N,hN⟩:=u8k l m hl hm k (i+1) (out++z1g [rd m i]) (by omega) (by grind [z4k]);refine ⟨N+1,?_⟩;rw [y9d m i (by omega),←AJ,Zw];simp (disch:=omega) only [z3d,Wk,Xv,Yz,Yf,Xs,Yv,Yc,Yj,Zt,Zk,Zf,z1e,z1f,Ao,Zx,Yy,Zh,Yd,Zj,Af,Ah,Aj,Ab,Aa,Az,AE,Zp,Zc,Zq,Uu,Xe];exact hN
theorem u8l (l m:List R4) (hl:l.length≤10000) (hm:m.length≤10000): ∀(k i:Nat) (out:List Int),i+k=l.length→out.length=2*i→ ∃N,Zr (z3d l m) N (.to (.h0 out (i:Int)))=.ret [.dat (z3b (out++z1g (l.drop i)++z1g m)).length (Zz (z3b (out++z1g (l.drop i)++z1g m)))]
 | 0,i,out,h,ho=>by obtain ⟨N,hN⟩:=u8k l m hl hm m.length 0 out (Af _) (by omega);refine ⟨N+1,?_⟩;rw [Zw,Ar (show l.length≤i by omega),show z1g []=[] from rfl,AD];simp (disch:=omega) only [z3d,Wk,Xv,Yz,Yf,Xs,Yv,Yc,Yj,Zt,Zk,Zf,z1e,z1f,Ao,Zx,Yy,Zh,Yd,Zj,Af,Ah,Aj,Ab,Aa,Az,AE,Zp,Zc,Zq,Uu,Xe];exact hN
 | k+1,i,out,h,ho=>by obtain ⟨N,hN⟩:=u8l l m hl hm k (i+1) (out++z1g [rd l i]) (by omega) (by grind [z4k]);refine ⟨N+1,?_⟩;rw [y9d l i (by omega),←AJ,Zw];simp (disch:=omega) only [z3d,Wk,Xv,Yz,Yf,Xs,Yv,Yc,Yj,Zt,Zk,Zf,z1e,z1f,Ao,Zx,Yy,Zh,Yd,Zj,Af,Ah,Aj,Ab,Aa,Az,AE,Zp,Zc,Zq,Uu,Xe];exact hN
theorem j4b (l m:List R4) (h:y3h l m=true): ∃N,Zr (z3d l m) N (y3z l m)=.ret [.dat (ysV l m).length (Zz (ysV l m))]:=by
 obtain ⟨h1,h2⟩:=Aw h;have:=u8l l m h1 h2 l.length 0 [] (Af _) rfl
 simpa [y3z,ysV] using this
def Vq (l m:List R6):List Int:=z3b (z2y l++z2y m)
def z9s (l m:List R6):Bool:=decide (l.length≤40000∧m.length≤40000)
theorem z4j (l:List R6):(z2y l).length =2*l.length:=by
 induction l with
 | nil=>rfl
 | cons r l ih=>grind [z2y]
theorem y9a (l:List R6) (i:Nat) (h:i<l.length):z2y (l.drop i)=z2y [rd l i]++z2y (l.drop (i+1)):=by rw [Yq h];rfl
theorem v5j (l m:List R6) (hl:l.length≤40000) (hm:m.length≤40000): ∀(k i:Nat) (out:List Int),i+k=m.length→out.length=2*l.length+2*i→ ∃N,Zr (z0k l m) N (.to (.h1 out (i:Int)))=.ret [.dat (z3b (out++z2y (m.drop i))).length (Zz (z3b (out++z2y (m.drop i))))]
 | 0,i,out,h,ho=>by refine ⟨1,?_⟩;have hw:Qd out=true:=An (by omega);rw [Zw,Ar (show m.length≤i by omega),show z2y []=[] from rfl,AD];simp (disch:=omega) only [z0k,Wk,Xv,Yz,Yf,Xs,Yv,Yc,Yj,Zt,Zk,Zf,z1e,z1f,Ao,Zx,Yy,Zh,Yd,Zj,Af,Ah,Aj,Ab,Aa,Az,AE,Zp,Zc,Zq,Uu,Xe,hw]
 | k+1,i,out,h,ho=>by obtain ⟨N,hN⟩:=v5j l m hl hm k (i+1) (out++z2y [rd m i]) (by omega) (by grind [z4j]);refine ⟨N+1,?_⟩;rw [y9a m i (by omega),←AJ,Zw];simp (disch:=omega) only [z0k,Wk,Xv,Yz,Yf,Xs,Yv,Yc,Yj,Zt,Zk,Zf,z1e,z1f,Ao,Zx,Yy,Zh,Yd,Zj,Af,Ah,Aj,Ab,Aa,Az,AE,Zp,Zc,Zq,Uu,Xe];exact hN
theorem v5k (l m:List R6) (hl:l.length≤40000) (hm:m.length≤40000): ∀(k i:Nat) (out:List Int),i+k=l.length→out.length=2*i→ ∃N,Zr (z0k l m) N (.to (.h0 out (i:Int)))=.ret [.dat (z3b (out++z2y (l.drop i)++z2y m)).length (Zz (z3b (out++z2y (l.drop i)++z2y m)))]
 | 0,i,out,h,ho=>by obtain ⟨N,hN⟩:=v5j l m hl hm m.length 0 out (Af _) (by omega);refine ⟨N+1,?_⟩;rw [Zw,Ar (show l.length≤i by omega),show z2y []=[] from rfl,AD];simp (disch:=omega) only [z0k,Wk,Xv,Yz,Yf,Xs,Yv,Yc,Yj,Zt,Zk,Zf,z1e,z1f,Ao,Zx,Yy,Zh,Yd,Zj,Af,Ah,Aj,Ab,Aa,Az,AE,Zp,Zc,Zq,Uu,Xe];exact hN
 | k+1,i,out,h,ho=>by obtain ⟨N,hN⟩:=v5k l m hl hm k (i+1) (out++z2y [rd l i]) (by omega) (by grind [z4j]);refine ⟨N+1,?_⟩;rw [y9a l i (by omega),←AJ,Zw];simp (disch:=omega) only [z0k,Wk,Xv,Yz,Yf,Xs,Yv,Yc,Yj,Zt,Zk,Zf,z1e,z1f,Ao,Zx,Yy,Zh,Yd,Zj,Af,Ah,Aj,Ab,Aa,Az,AE,Zp,Zc,Zq,Uu,Xe];exact hN
theorem u2x (l m:List R6) (h:z9s l m=true): ∃N,Zr (z0k l m) N (z8r l m)=.ret [.dat (Vq l m).length (Zz (Vq l m))]:=by
 obtain ⟨h1,h2⟩:=Aw h;have:=v5k l m h1 h2 l.length 0 [] (Af _) rfl
 simpa [z8r,Vq] using this
def fXs :List AVal→Option (AVal×Bool)
 | [a0,a1]=>match asL R4 a0,asL R4 a1 with
  | some (L0,g0,n0),some (L1,g1,n1)=>some (.dat (xsV L0 L1).length (Zz (xsV L0 L1)),isT R4 n0 g0&&(isT R4 n1 g1&&(y3i L0 L1)))
  | _,_=>none
 | _=>none
theorem fXs_ok {S:Specs} (hS:Zu prog S):Zu prog (S.with nXs fXs):=by
 refine z0f hS (by kernel_rfl) fun args v h=> ?_;unfold fXs at h;split at h
 ·rename_i a0 a1;split at h
  ·rename_i L0 g0 n0 L1 g1 n1 e0 e1;simp only [Ad,Ac,Ae] at h;obtain ⟨rfl,ho0,ho1,hw⟩:=h;obtain ⟨N,hN⟩:=j4c L0 L1 hw;exact ⟨_,_,(.cons (Yh e0 ho0) (.cons (Yh e1 ho1) .nil)),rfl,u1q L0 L1 N _ hN,3,rfl⟩
  ·cases h
 ·cases h
def fYs :List AVal→Option (AVal×Bool)
 | [a0,a1]=>match asL R4 a0,asL R4 a1 with
  | some (L0,g0,n0),some (L1,g1,n1)=>some (.dat (ysV L0 L1).length (Zz (ysV L0 L1)),isT R4 n0 g0&&(isT R4 n1 g1&&(y3h L0 L1)))
  | _,_=>none
 | _=>none
theorem fYs_ok {S:Specs} (hS:Zu prog S):Zu prog (S.with nYs fYs):=by
 refine z0f hS (by kernel_rfl) fun args v h=> ?_;unfold fYs at h;split at h
 ·rename_i a0 a1;split at h
  ·rename_i L0 g0 n0 L1 g1 n1 e0 e1;simp only [Ad,Ac,Ae] at h;obtain ⟨rfl,ho0,ho1,hw⟩:=h;obtain ⟨N,hN⟩:=j4b L0 L1 hw;exact ⟨_,_,(.cons (Yh e0 ho0) (.cons (Yh e1 ho1) .nil)),rfl,u1p L0 L1 N _ hN,3,rfl⟩
  ·cases h
 ·cases h
def j8s :List AVal→Option (AVal×Bool)
 | [a0,a1]=>match asL R6 a0,asL R6 a1 with
  | some (L0,g0,n0),some (L1,g1,n1)=>some (.dat (Vq L0 L1).length (Zz (Vq L0 L1)),isT R6 n0 g0&&(isT R6 n1 g1&&(z9s L0 L1)))
  | _,_=>none
 | _=>none
theorem u5j {S:Specs} (hS:Zu prog S):Zu prog (S.with nCuts j8s):=by
 refine z0f hS (by kernel_rfl) fun args v h=> ?_;unfold j8s at h;split at h
 ·rename_i a0 a1;split at h
  ·rename_i L0 g0 n0 L1 g1 n1 e0 e1;simp only [Ad,Ac,Ae] at h;obtain ⟨rfl,ho0,ho1,hw⟩:=h;obtain ⟨N,hN⟩:=u2x L0 L1 hw;exact ⟨_,_,(.cons (Yh e0 ho0) (.cons (Yh e1 ho1) .nil)),rfl,v5l L0 L1 N _ hN,3,rfl⟩
  ·cases h
 ·cases h
def T2 :Specs:=((T1.with nXs fXs).with nYs fYs).with nCuts j8s
theorem y1w :Zu prog T2:=u5j (fYs_ok (fXs_ok z3y))
inductive rjoS where
 | h0 (v9:List R4) (v10:List R2) (v11:Int) (v12:Int)
 | h1 (v9:List R4) (v10:List R2) (v11:Int) (v12:Int) (v13:List Bool) (v14:Int)
 | h2 (v9:List R4) (v10:List R2) (v11:Int) (v12:Int) (v15:List R2) (v17:Int)
 | h3 (v9:List R4) (v10:List R2) (v11:Int) (v12:Int) (v16:Int)
abbrev y2g (x0:Int) (l1:List R4) (l2:List R4) (v12:Int) (v14:Int):=(y2p x0 (z4h (cvT l1) (rd (xsV (cvT l1) (cvT l2)) (tn v12)) (rd (ysV (cvT l1) (cvT l2)) (tn v14))) (z4h (cvT l2) (rd (xsV (cvT l1) (cvT l2)) (tn v12)) (rd (ysV (cvT l1) (cvT l2)) (tn v14))))
abbrev x0k (v9:List R4) (v16:Int) (l1:List R4) (l2:List R4) (v12:Int):=(v9.set (0+(tn v16)) (R4.mk (rd v9 (0+(tn v16))).a (rd v9 (0+(tn v16))).b (rd (xsV (cvT l1) (cvT l2)) (tn (wr (v12+1)))) (rd v9 (0+(tn v16))).d))
abbrev x0j (v9:List R4) (l1:List R4) (l2:List R4) (v12:Int) (v15:List R2) (v17:Int):=(v9++[(R4.mk (rd (xsV (cvT l1) (cvT l2)) (tn v12)) (rd v15 (tn v17)).a (rd (xsV (cvT l1) (cvT l2)) (tn (wr (v12+1)))) (rd v15 (tn v17)).b)])
abbrev z0e (l1:List R4) (l2:List R4):=(ysV (cvT l1) (cvT l2))
def w5e (l1:List R4) (l2:List R4):AVal:=(.dat (xsV (cvT l1) (cvT l2)).length (Zz (xsV (cvT l1) (cvT l2))))
def w5d (l1:List R4) (l2:List R4):AVal:=(.dat (z0e l1 l2).length (Zz (z0e l1 l2)))
def rjoC (x0:Int) (l1:List R4) (l2:List R4):rjoS→Cfg
 | .h0 v9 v10 v11 v12=>⟨⟨121,0,true⟩,none,(Zb prog 89 [1,1,1,1,1,0,1,0,0] 0),none,(Zy prog 3),⟨Yg [(0,(ii x0)),(1,(.dat l1.length (Zz l1))),(2,(.dat l2.length (Zz l2))),(7,(w5e l1 l2)),(8,(w5d l1 l2)),(9,(.sla 0 4 0 v9.length (.un 4))),(10,(.dat v10.length (Zz v10))),(11,(ii v11)),(12,(ii v12))],Vj [⟨Ym v9.length (Zz v9),116,some ⟨4,v9.length,(Zz v9)⟩⟩] 0,1,[],true⟩,[],.leaf⟩
 | .h1 v9 v10 v11 v12 v13 v14=>⟨⟨121,0,true⟩,none,(Zb prog 89 [1,1,1,1,1,0,1,0,0,1,0,0,1,0,1,0,0] 0),none,(Zy prog 3),⟨Yg [(0,(ii x0)),(1,(.dat l1.length (Zz l1))),(2,(.dat l2.length (Zz l2))),(7,(w5e l1 l2)),(8,(w5d l1 l2)),(9,(.sla 1 4 0 v9.length (.un 4))),(10,(.dat v10.length (Zz v10))),(11,(ii v11)),(12,(ii v12)),(13,(.sla 0 1 0 v13.length (.un 1))),(14,(ii v14))],Vj [⟨Ym v13.length (Zz v13),4,some ⟨1,v13.length,(Zz v13)⟩⟩,⟨Ym v9.length (Zz v9),116,some ⟨4,v9.length,(Zz v9)⟩⟩] 0,2,[],true⟩,[],.leaf⟩
 | .h2 v9 v10 v11 v12 v15 v17=>⟨⟨121,0,true⟩,none,(Zb prog 89 [1,1,1,1,1,0,1,0,0,1,0,0,1,1,1,1,1,1,0,0] 0),none,(Zy prog 3),⟨Yg [(0,(ii x0)),(1,(.dat l1.length (Zz l1))),(2,(.dat l2.length (Zz l2))),(7,(w5e l1 l2)),(8,(w5d l1 l2)),(9,(.sla 0 4 0 v9.length (.un 4))),(10,(.dat v10.length (Zz v10))),(11,(ii v11)),(12,(ii v12)),(15,(.dat v15.length (Zz v15))),(17,(ii v17))],Vj [⟨Ym v9.length (Zz v9),116,some ⟨4,v9.length,(Zz v9)⟩⟩] 0,1,[],true⟩,[],.leaf⟩
 | .h3 v9 v10 v11 v12 v16=>⟨⟨121,0,true⟩,none,(Zb prog 89 [1,1,1,1,1,0,1,0,0,1,0,0,1,1,1,0,1,0,0,1,0,0] 0),none,(Zy prog 3),⟨Yg [(0,(ii x0)),(1,(.dat l1.length (Zz l1))),(2,(.dat l2.length (Zz l2))),(7,(w5e l1 l2)),(8,(w5d l1 l2)),(9,(.sla 0 4 0 v9.length (.un 4))),(10,(.dat v10.length (Zz v10))),(11,(ii v11)),(12,(ii v12)),(16,(ii v16))],Vj [⟨Ym v9.length (Zz v9),116,some ⟨4,v9.length,(Zz v9)⟩⟩] 0,1,[],true⟩,[],.leaf⟩
def j4s :List (Option (List Nat)):=[some [0,1,2,7,8,9,10,11,12]]
def j4u :List (Option (List Nat)):=[]
def rjoN1 :List (Option (List Nat)):=[some [0,1,2,7,8,9,10,11,12,13,14]]
def rjoM1 :List (Option (List Nat)):=[]
def j4r :List (Option (List Nat)):=[some [0,1,2,7,8,9,10,11,12,15,17]]
def j4t :List (Option (List Nat)):=[]
def rjoN3 :List (Option (List Nat)):=[some [0,1,2,7,8,9,10,11,12,16]]
def rjoM3 :List (Option (List Nat)):=[]
def Ve (x0:Int) (l1:List R4) (l2:List R4):rjoS→Xw rjoS
 | .h0 v9 v10 v11 v12=>(bif (decide ((wrap .i64 (v12+1))<(((xsV (cvT l1) (cvT l2)).length :Nat):Int))) then (.to (.h1 v9 v10 v11 v12 ([]:List Bool) 0)) else (.ret [(.dat v9.length (Zz v9))]))
 | .h1 v9 v10 v11 v12 v13 v14=>(bif (decide (v14<(((ysV (cvT l1) (cvT l2)).length :Nat):Int))) then (bif (z0t (cvT l1) (rd (xsV (cvT l1) (cvT l2)) v12.toNat) (rd (ysV (cvT l1) (cvT l2)) v14.toNat)) then (bif ((decide (0≤v12∧v12<(((xsV (cvT l1) (cvT l2)).length :Nat):Int)))&&true) then (bif ((decide (0≤v14∧v14<(((ysV (cvT l1) (cvT l2)).length :Nat):Int)))&&true) then (bif (z0t (cvT l2) (rd (xsV (cvT l1) (cvT l2)) v12.toNat) (rd (ysV (cvT l1) (cvT l2)) v14.toNat)) then (bif (Nat.beq 1 1&&((decide (0+v13.length=v13.length))&&decide ((v13.length+1+1)*(1+1)≤room))) then (.to (.h1 v9 v10 v11 v12 (v13++[(y2p x0 (z4h (cvT l1) (rd (xsV (cvT l1) (cvT l2)) v12.toNat) (rd (ysV (cvT l1) (cvT l2)) v14.toNat)) (z4h (cvT l2) (rd (xsV (cvT l1) (cvT l2)) v12.toNat) (rd (ysV (cvT l1) (cvT l2)) v14.toNat)))]) (wrap .i64 (v14+1)))) else .stuck) else .stuck) else .stuck) else .stuck) else .stuck) else (bif (z9u (cvT (ysV (cvT l1) (cvT l2))) (cvT v13)) then (bif (decide (v12>0)) then (bif (Vs (cvT (y2t (cvT (ysV (cvT l1) (cvT l2))) (cvT v13))) (cvT v10)) then (bif (Qi (cvT (y2t (cvT (ysV (cvT l1) (cvT l2))) (cvT v13))) (cvT v10)) then (.to (.h3 v9 v10 v11 v12 v11)) else (.to (.h2 v9 (y2t (cvT (ysV (cvT l1) (cvT l2))) (cvT v13)) (v9.length:Int) v12 (y2t (cvT (ysV (cvT l1) (cvT l2))) (cvT v13)) 0))) else .stuck) else (.to (.h2 v9 (y2t (cvT (ysV (cvT l1) (cvT l2))) (cvT v13)) (v9.length:Int) v12 (y2t (cvT (ysV (cvT l1) (cvT l2))) (cvT v13)) 0))) else .stuck))
 | .h2 v9 v10 v11 v12 v15 v17=>(bif (decide (v17<(v15.length:Int))) then (bif ((decide (0≤v12∧v12<(((xsV (cvT l1) (cvT l2)).length :Nat):Int)))&&true) then (bif ((decide (0≤(wrap .i64 (v12+1))∧(wrap .i64 (v12+1))<(((xsV (cvT l1) (cvT l2)).length :Nat):Int)))&&true) then (bif ((decide (0≤v17∧v17<(v15.length:Int)))&&true) then (bif (Nat.beq 4 4&&((decide (0+v9.length=v9.length))&&decide ((v9.length+1+1)*(32+1)≤room))) then (.to (.h2 (v9++[(R4.mk (rd (xsV (cvT l1) (cvT l2)) v12.toNat) (rd v15 v17.toNat).a (rd (xsV (cvT l1) (cvT l2)) (Int.toNat (wrap .i64 (v12+1)))) (rd v15 v17.toNat).b)]) v10 v11 v12 v15 (wrap .i64 (v17+1)))) else .stuck) else .stuck) else .stuck) else .stuck) else (.to (.h0 v9 v10 v11 (wrap .i64 (v12+1)))))
 | .h3 v9 v10 v11 v12 v16=>(bif (decide (v16<(v9.length:Int))) then (bif ((decide (0≤(wrap .i64 (v12+1))∧(wrap .i64 (v12+1))<(((xsV (cvT l1) (cvT l2)).length :Nat):Int)))&&true) then (bif ((decide (0≤v16∧v16<(v9.length:Int)))&&true) then (bif (decide ((0+v16.toNat)<v9.length)) then (.to (.h3 (v9.set (0+v16.toNat) (R4.mk (rd v9 (0+v16.toNat)).a (rd v9 (0+v16.toNat)).b (rd (xsV (cvT l1) (cvT l2)) (Int.toNat (wrap .i64 (v12+1)))) (rd v9 (0+v16.toNat)).d)) v10 v11 v12 (wrap .i64 (v16+1)))) else .stuck) else .stuck) else .stuck) else (.to (.h0 v9 v10 v11 (wrap .i64 (v12+1)))))
def y4j (x0:Int) (l1:List R4) (l2:List R4):Xw rjoS:=(bif (y3i (cvT l1) (cvT l2)) then (bif (y3h (cvT l1) (cvT l2)) then (.to (.h0 ([]:List R4) ([]:List R2) 0 0)) else .stuck) else .stuck)
theorem w9a (x0:Int) (l1:List R4) (l2:List R4): ∀s,Yt prog (Zy prog 89) (rjoC x0 l1 l2) (rjoC x0 l1 l2 s) (Ve x0 l1 l2 s)
 | .h0 v9 v10 v11 v12=>(lb (fun k0=>(sl y1w 24 [(4,1,Zz ([]:List Bool))] ⟨[1,0],[],rjoN1,rjoM1⟩ ⟨[(13,.grow 0 1)],[],[]⟩ [true] (pp (fl ([]:List Bool) (fl v9 nn)) (tt k0 nn)))) (fun k0=>(lr 121 3 [1,1,1,1,0] 1 3 [(6,(.dat v9.length (Zz v9)))] (sl y1w 16 [] ⟨[],[0],[some [6]],[]⟩ ⟨[(6,.frz v9.length v9.length (Zz v9) (Zz v9))],[],[]⟩ [false] (pp (xZ (z6e 4 4 0 v9.length v9.length (Zz v9)) v9.length (Zz v9)) (pp (xL v9.length v9.length) (pp (xS v9.length (Zz v9) (Zz v9)) (pp (fl v9 nn) (tt k0 nn)))))))))
 | .h1 v9 v10 v11 v12 v13 v14=>(lb (fun k0=>(lo fun o0=>(lo fun o1=>(lo fun o2=>(lo fun o3=>(lo fun o4=>(sl y1w 20 [] ⟨[3,1],[],rjoN1,rjoM1⟩ ⟨[(13,.len (v13++[(y2g x0 l1 l2 v12 v14)]).length)],[.rowed 1 (v13++[(y2g x0 l1 l2 v12 v14)]).length (Zz (v13++[(y2g x0 l1 l2 v12 v14)])),.keep],[]⟩ [true] (pp (xL (v13.length+1) (v13++[(y2g x0 l1 l2 v12 v14)]).length) (pp (xL (v13.length+1) (v13++[(y2g x0 l1 l2 v12 v14)]).length) (pp (xS (v13.length+1) (Zo (Zz v13) 0 v13.length 1 [(.bool (y2g x0 l1 l2 v12 v14))]) (Zz (v13++[(y2g x0 l1 l2 v12 v14)]))) (pp (pp (xF (Zo (Zz v13) 0 v13.length 1 [(.bool (y2g x0 l1 l2 v12 v14))])) (fl v9 nn)) (ww o4 (pp (pp (xr l2) (xw o3)) (ww o2 (ww o1 (pp (pp (xr l1) (xw o0)) (ww o2 (ww o1 (tt k0 nn))))))))))))))))))) (fun k0=>(Xa (sl y1w (C':=⟨⟨121,0,true⟩,(Vm prog 89 [1,1,1,1,1,0,1,0,0,1,0,0,1,1,0] 2),(Zb prog 89 [1,1,1,1,1,0,1,0,0,1,0,0,1,1,0] 1),none,(Zy prog 3),⟨Yg [(0,(ii x0)),(1,(.dat l1.length (Zz l1))),(2,(.dat l2.length (Zz l2))),(7,(.dat (xsV (cvT l1) (cvT l2)).length (Zz (xsV (cvT l1) (cvT l2))))),(8,(.dat (z0e l1 l2).length (Zz (z0e l1 l2)))),(9,(.sla 0 4 0 v9.length (.un 4))),(10,(.dat v10.length (Zz v10))),(11,(ii v11)),(12,(ii v12)),(62,(.dat (z0e l1 l2).length (Zz (z0e l1 l2)))),(63,(.dat v13.length (Zz v13)))],Vj [⟨Ym v9.length (Zz v9),116,some ⟨4,v9.length,(Zz v9)⟩⟩] 0,1,[],true⟩,[],.leaf⟩) 14 [] ⟨[1],[0],[some [0,1,2,7,8,9,10,11,12,62,63]],[]⟩ ⟨[(63,.frz v13.length v13.length (Zz v13) (Zz v13))],[],[]⟩ [false] (pp (xZ (z6e 1 1 0 v13.length v13.length (Zz v13)) v13.length (Zz v13)) (pp (xL v13.length v13.length) (pp (xS v13.length (Zz v13) (Zz v13)) (pp (fl v9 nn) (pp (fl v13 nn) (tt k0 nn))))))) (lo fun aJ=>(lb (fun k1=>(lo fun bX=>(lb (fun k2=>(sl y1w 23 [] ⟨[0],[],rjoN3,rjoM3⟩ ⟨[],[],[]⟩ (trs 4 []) (pp (fl v9 nn) (tt k2 (pp (pp (xI R2 (y2t (cvT (z0e l1 l2)) (cvT v13)).length (Zz (y2t (cvT (z0e l1 l2)) (cvT v13)))) (pp (xr v10) (xw bX))) (tt k1 (pp (pp (xI Int (z0e l1 l2).length (Zz (z0e l1 l2))) (pp (xr v13) (xw aJ))) nn))))))) (fun k2=>(sl y1w 30 [] ⟨[0],[],j4r,j4t⟩ ⟨[],[],[]⟩ (trs 3 [false]) (pp (fl v9 nn) (tt k2 (pp (pp (xI R2 (y2t (cvT (z0e l1 l2)) (cvT v13)).length (Zz (y2t (cvT (z0e l1 l2)) (cvT v13)))) (pp (xr v10) (xw bX))) (tt k1 (pp (pp (xI Int (z0e l1 l2).length (Zz (z0e l1 l2))) (pp (xr v13) (xw aJ))) nn)))))))))) (fun k1=>(sl y1w 30 [] ⟨[0],[],j4r,j4t⟩ ⟨[],[],[]⟩ (bl 4 0) (pp (fl v9 nn) (tt k1 (pp (pp (xI Int (z0e l1 l2).length (Zz (z0e l1 l2))) (pp (xr v13) (xw aJ))) nn))))))))))
 | .h2 v9 v10 v11 v12 v15 v17=>(lb (fun k0=>(lo fun o0=>(lo fun o1=>(lo fun o2=>(lo fun o3=>(sl y1w 20 [] ⟨[2],[],j4r,j4t⟩ ⟨[(9,.len (x0j v9 l1 l2 v12 v15 v17).length)],[.rowed 4 (x0j v9 l1 l2 v12 v15 v17).length (Zz (x0j v9 l1 l2 v12 v15 v17))],[]⟩ [true] (pp (xL (v9.length+1) (x0j v9 l1 l2 v12 v15 v17).length) (pp (xL (v9.length+1) (x0j v9 l1 l2 v12 v15 v17).length) (pp (xS (v9.length+1) (Zo (Zz v9) 0 v9.length 4 [(ii (rd (xsV (cvT l1) (cvT l2)) (tn v12))),(ii (rd v15 (tn v17)).a),(ii (rd (xsV (cvT l1) (cvT l2)) (tn (wr (v12+1))))),(ii (rd v15 (tn v17)).b)]) (Zz (x0j v9 l1 l2 v12 v15 v17))) (pp (pp (xF (Zo (Zz v9) 0 v9.length 4 [(ii (rd (xsV (cvT l1) (cvT l2)) (tn v12))),(ii (rd v15 (tn v17)).a),(ii (rd (xsV (cvT l1) (cvT l2)) (tn (wr (v12+1))))),(ii (rd v15 (tn v17)).b)])) nn) (ww o3 (ww o2 (ww o1 (ww o2 (ww o0 (tt k0 nn)))))))))))))))) (fun k0=>(sl y1w 17 [] ⟨[0],[],j4s,j4u⟩ ⟨[],[],[]⟩ [false] (pp (fl v9 nn) (tt k0 nn)))))
 | .h3 v9 v10 v11 v12 v16=>(lb (fun k0=>(lo fun o0=>(lo fun o1=>(lo fun o2=>(sl y1w 31 [] ⟨[0],[],rjoN3,rjoM3⟩ ⟨[(9,.len (x0k v9 v16 l1 l2 v12).length)],[.rowed 4 (x0k v9 v16 l1 l2 v12).length (Zz (x0k v9 v16 l1 l2 v12))],[]⟩ [true] (pp (xL v9.length (x0k v9 v16 l1 l2 v12).length) (pp (xL v9.length (x0k v9 v16 l1 l2 v12).length) (pp (xS v9.length (Xt (Zz v9) (0+(tn v16)) 2 [(ii (rd (xsV (cvT l1) (cvT l2)) (tn (wr (v12+1)))))]) (Zz (x0k v9 v16 l1 l2 v12))) (pp (pp (xF (Xt (Zz v9) (0+(tn v16)) 2 [(ii (rd (xsV (cvT l1) (cvT l2)) (tn (wr (v12+1)))))])) nn) (ww o2 (ww o1 (ww o0 (tt k0 nn))))))))))))) (fun k0=>(sl y1w 17 [] ⟨[0],[],j4s,j4u⟩ ⟨[],[],[]⟩ [false] (pp (fl v9 nn) (tt k0 nn)))))
theorem x9y (x0:Int) (l1:List R4) (l2:List R4):Yt prog (Zy prog 89) (rjoC x0 l1 l2) (Zg prog 89 [(.int .i64 x0),(.dat l1.length (Zz l1)),(.dat l2.length (Zz l2))] true []) (y4j x0 l1 l2):=(lo fun o0=>(lo fun o1=>(sl y1w 34 [(116,4,Zz ([]:List R4))] ⟨[0],[],j4s,j4u⟩ ⟨[(9,.grow 0 4),(10,.list 0 (Zz ([]:List R2)))],[],[]⟩ [] (pp (fl ([]:List R4) nn) (pp (pp (xr l1) (pp (xr l2) (xw o1))) (pp (pp (xr l1) (pp (xr l2) (xw o0))) nn))))))
theorem u2d (x0:Int) (l1:List R4) (l2:List R4) (n:Nat) (vs:List AVal) (h:Zr (Ve x0 l1 l2) n (y4j x0 l1 l2)=.ret vs):Jy prog (Zy prog 89) (Zg prog 89 [(.int .i64 x0),(.dat l1.length (Zz l1)),(.dat l2.length (Zz l2))] true []) vs:=by have:=Zd (w9a x0 l1 l2) n _ (x9y x0 l1 l2);rwa [h] at this
theorem z2q : ∀(l out:List Int),(l.foldl x1h out).length ≤out.length+l.length
 | [],out=>Aq _
 | x::l,out=>Av (z2q l (x1h out x)) (by have:=y7g out x;simp;omega)
theorem z6w (l:List Int):(z3b l).length ≤l.length:=by
 grind [z2q,z3b]
theorem y7v (cuts:List Int) (ins:List Bool): ∀(k i:Nat) (out:List R2),(v2i cuts ins k i out).length ≤out.length+k
 | 0,_,out=>Aq _
 | k+1,i,out=>by
  unfold v2i;refine Av (y7v cuts ins k (i+1) _) ?_;cases rd ins i
  ·simp only [Aa];omega
  ·simp only [Ab];cases (decide (0<out.length)&&((rd out (out.length - 1)).b == rd cuts i)) <;> simp <;> omega
theorem w3o (cuts:List Int) (ins:List Bool):(y2t cuts ins).length ≤cuts.length:=by
 grind [y7v,y2t]
section
variable (kind:Int) (l m:List R4)
def u0f (x:Int) (y:Int):Bool:=y2p kind (z4h l x y) (z4h m x y)
def y9y (x:Int):List R2:=y2t (ysV l m) ((ysV l m).map (u0f kind l m x))
def u0d (out:List R4) (first:Nat) (x:Int):List R4:=out.take first++(out.drop first).map fun r=>⟨r.a,r.b,x,r.d⟩
def j5m (x x':Int) (s:List R2):List R4:=s.map fun p=>⟨x,p.a,x',p.b⟩
def jF :Nat→Nat→List R4→List R2→Nat→List R4
 | 0,_,out,_,_=>out
 | k+1,i,out,last,first=>
  bif decide (0<i)&&Qi (y9y kind l m (rd (xsV l m) i)) last then jF k (i+1) (u0d out first (rd (xsV l m) (i+1))) last first
  else jF k (i+1) (out++j5m (rd (xsV l m) i) (rd (xsV l m) (i+1)) (y9y kind l m (rd (xsV l m) i))) (y9y kind l m (rd (xsV l m) i)) out.length
def joV :List R4:=jF kind l m ((xsV l m).length - 1) 0 [] [] 0
end
def z1t (_:Int) (l m:List R4):Bool:=decide (l.length≤10000∧m.length≤10000)
theorem Qy (l m:List R4):(xsV l m).length ≤2*l.length+2*m.length:=by
 refine Av (z6w _) ?_
 grind [z4l]
theorem y9b (l m:List R4):(ysV l m).length ≤2*l.length+2*m.length:=by
 refine Av (z6w _) ?_
 grind [z4k]
section
variable (kind:Int) (l m:List R4) (hl:l.length≤10000) (hm:m.length≤10000)
include hl hm
theorem u9g (out:List R4) (last:List R2) (first:Int) (i:Nat) (hi:i+1<(xsV l m).length): ∀(k j:Nat) (acc:List Bool),j+k=(ysV l m).length →acc.length=j→
  ∃n,∀N,Zr (Ve kind l m) (N+n) (.to (.h1 out last first (i:Int) acc (j:Int)))=Zr (Ve kind l m) N (.to (.h1 out last first (i:Int) (acc++((ysV l m).drop j).map (u0f kind l m (rd (xsV l m) i))) ((ysV l m).length :Int)))
 | 0,j,acc,h,ha=>by
  refine ⟨0,fun N=> ?_⟩
  grind
 | k+1,j,acc,h,ha=>by
  have hx:=Qy l m;have hy:=y9b l m;obtain ⟨n,hn⟩:=u9g out last first i hi k (j+1) (acc++[u0f kind l m (rd (xsV l m) i) (rd (ysV l m) j)]) (by omega) (by simp [ha])
  refine ⟨n+1,fun N=> ?_⟩;have w1: ∀x y,z0t l x y=true:=fun x y=>An (by omega);have w2: ∀x y,z0t m x y=true:=fun x y=>An (by omega);rw [Yq (show j<(ysV l m).length by omega),AU,←Ay,Zw];simp (disch:=omega) only [Ve,Zc,Zq,w1,w2,Yz,Zt,Yc,Yj,Zf,Zk,Zx,Yd,Zj,Af,Ao,Ah,Aj,Ab];have:=hn N;rw [AJ] at this;exact this
theorem u9f (last:List R2) (first:Int) (i:Nat) (hi:i+1<(xsV l m).length) (s:List R2) (hs:s.length≤1000000): ∀(k j:Nat) (out:List R4),j+k=s.length→out.length≤10000000000+j→
  ∃n,∀N,Zr (Ve kind l m) (N+n) (.to (.h2 out last first (i:Int) s (j:Int)))=Zr (Ve kind l m) N (.to (.h0 (out++j5m (rd (xsV l m) i) (rd (xsV l m) (i+1)) (s.drop j)) last first ((i+1:Nat):Int)))
 | 0,j,out,h,ho=>by
  have hx:=Qy l m;refine ⟨1,fun N=> ?_⟩
  grind [Zw,Ve,Zk,j5m]
 | k+1,j,out,h,ho=>by
  have hx:=Qy l m;obtain ⟨n,hn⟩:=u9f last first i hi s hs k (j+1) (out++j5m (rd (xsV l m) i) (rd (xsV l m) (i+1)) [rd s j]) (by omega) (by simp [j5m];omega)
  refine ⟨n+1,fun N=> ?_⟩;have:=hn N;rw [Yq (show j<s.length by omega),←Ay,Zw];simp (disch:=omega) only [Ve,Zc,Zq,Yz,Zt,Yc,Yj,Zf,Zk,Zx,Yd,Zj,Af,Ao,Ah,Aj,Ab];rw [AJ] at this;exact this
theorem u5l (out:List R4) (j:Nat) (x:Int) (h:j<out.length):u0d (out.set j ⟨(rd out j).a,(rd out j).b,x,(rd out j).d⟩) (j+1) x=u0d out j x:=by
 have _uhl:=hl;have _uhm:=hm;unfold u0d;rw [Yq h,AU];have e1:(out.set j ⟨(rd out j).a,(rd out j).b,x,(rd out j).d⟩).take (j+1)=out.take j++[⟨(rd out j).a,(rd out j).b,x,(rd out j).d⟩]:=by
  apply BH;all_goals grind
 have e2:(out.set j ⟨(rd out j).a,(rd out j).b,x,(rd out j).d⟩).drop (j+1)=out.drop (j+1):=by rw [List.drop_set];grind
 grind
theorem u9e (last:List R2) (first:Int) (i:Nat) (hi:i+1<(xsV l m).length): ∀(k j:Nat) (out:List R4),j+k=out.length→out.length≤10000000000→
  ∃n,∀N,Zr (Ve kind l m) (N+n) (.to (.h3 out last first (i:Int) (j:Int)))=Zr (Ve kind l m) N (.to (.h0 (u0d out j (rd (xsV l m) (i+1))) last first ((i+1:Nat):Int)))
 | 0,j,out,h,ho=>by
  have hx:=Qy l m;refine ⟨1,fun N=> ?_⟩;have e:u0d out j (rd (xsV l m) (i+1))=out:=by
   grind [u0d]
  grind [Zw,Ve,Zk]
 | k+1,j,out,h,ho=>by
  have hx:=Qy l m;obtain ⟨n,hn⟩:=u9e last first i hi k (j+1) (out.set j ⟨(rd out j).a,(rd out j).b,rd (xsV l m) (i+1),(rd out j).d⟩) (by simp;omega) (by grind)
  refine ⟨n+1,fun N=> ?_⟩;have:=hn N;rw [u5l l m hl hm out j _ (by omega)] at this;rw [←Ay,Zw];simp (disch:=omega) only [Ve,Zc,Zq,Yz,Zt,Yv,Yc,Yj,Zf,Zk,Zx,Yd,Zj,Af,Ao,Ah,Aj,Ab];exact this
theorem v4w : ∀(k i:Nat) (out:List R4) (last:List R2) (first:Nat),k=(xsV l m).length - 1 - i→i≤(xsV l m).length →out.length≤i*40000→last.length≤40000→first≤out.length→
  ∃n,Zr (Ve kind l m) n (.to (.h0 out last (first:Int) (i:Int)))=.ret [.dat (jF kind l m k i out last first).length (Zz (jF kind l m k i out last first))]
 | 0,i,out,last,first,h,hi,ho,hla,hf=>by
  have hx:=Qy l m;refine ⟨1,?_⟩
  grind [Zw,Ve,Zc,Zk,Zp,jF]
 | k+1,i,out,last,first,h,hi,ho,hla,hf=>by
  have hx:=Qy l m;have hy:=y9b l m;have hi1:i+1<(xsV l m).length :=by omega
  have hsl:(y9y kind l m (rd (xsV l m) i)).length ≤40000:=Av (w3o _ _) (by omega);have hbig:i*40000≤40000*40000:=AA _ (by omega);obtain ⟨n1,h1⟩:=u9g kind l m hl hm out last first i hi1 (ysV l m).length 0 [] (Af _) rfl
  simp only [AT,A8,z7u] at h1;have w3:z9u (ysV l m) ((ysV l m).map (u0f kind l m (rd (xsV l m) i)))=true:=An ⟨by omega,by grind⟩;have w4:Vs (y2t (ysV l m) ((ysV l m).map (u0f kind l m (rd (xsV l m) i)))) last=true:=An (Av hsl (by omega));have hy2:((ysV l m).length :Int)=(((ysV l m).length :Nat):Int):=rfl;unfold jF;rcases Yp (decide (0<i)&&Qi (y9y kind l m (rd (xsV l m) i)) last) with q | q
  ·obtain ⟨n3,h3⟩:=u9e kind l m hl hm last first i hi1 (out.length - first) first out (by omega) (by omega)
   obtain ⟨n0,h0⟩:=v4w k (i+1) (u0d out first (rd (xsV l m) (i+1))) last first (by omega) (by omega) (by simp [u0d];omega) hla (by simp [u0d];omega)
   refine ⟨n0+n3+1+n1+1,?_⟩;rw [q,Ab,Zw];simp only [Ae,As] at q;have q2:Qi (y2t (ysV l m) ((ysV l m).map (u0f kind l m (rd (xsV l m) i)))) last=true:=q.2;simp (disch:=omega) only [Ve,Zc,Zq,Yz,Zk,Zx,Ab];simp_all [Zw,Ve,Zc]
  ·obtain ⟨n2,h2⟩:=u9f kind l m hl hm (y9y kind l m (rd (xsV l m) i)) (out.length:Int) i hi1 (y9y kind l m (rd (xsV l m) i)) (by omega) (y9y kind l m (rd (xsV l m) i)).length 0 out (Af _) (by omega);obtain ⟨n0,h0⟩:=v4w k (i+1) (out++j5m (rd (xsV l m) i) (rd (xsV l m) (i+1)) (y9y kind l m (rd (xsV l m) i))) (y9y kind l m (rd (xsV l m) i)) out.length (by omega) (by omega) (by simp [j5m];omega) hsl (by simp);refine ⟨n0+n2+1+n1+1,?_⟩;rw [q,Aa,Zw];simp (disch:=omega) only [Ve,Zc,Zq,Yz,Zk,Zx,Ab];have h1':=h1 (n0+n2+1);rw [h1',Zw];have h2':=h2 n0;simp only [AT,z7u] at h2';by_cases hi0:0<i
   ·rw [An hi0,Aj] at q;have q2:Qi (y2t (ysV l m) ((ysV l m).map (u0f kind l m (rd (xsV l m) i)))) last=false:=q;simp (disch:=omega) only [Ve,Zc,Zq,Yf,Xv,q2,w3,w4,Ab,Aa];rw [←h0];exact h2'
   ·simp (disch:=omega) only [Ve,Zc,Zq,Yf,Wk,w3,w4,Ab,Aa];rw [←h0];exact h2'
end
theorem j4q (kind:Int) (l m:List R4) (h:z1t kind l m=true): ∃N,Zr (Ve kind l m) N (y4j kind l m)=.ret [.dat (joV kind l m).length (Zz (joV kind l m))]:=by obtain ⟨hl,hm⟩:=Aw h;obtain ⟨N,hN⟩:=v4w kind l m hl hm ((xsV l m).length - 1) 0 [] [] 0 rfl (AC _) (AC _) (AC _) (Aq _);refine ⟨N,?_⟩;have w1:y3i l m=true:=An ⟨hl,hm⟩;have w2:y3h l m=true:=An ⟨hl,hm⟩;simp only [y4j,Zc,Zq,w1,w2,Ab];exact hN
theorem w6t {P:Program} {S:Specs} (hS:Zu P S) {f:FuncId} {F:List AVal→Option (AVal×Bool)} (hf:(P.funcs[f]?).any (fun fn=>fn.body.isSome)=true)
  (hF: ∀args v,F args=some (v,true)→ ∃bs vs,Vk VLe args bs∧(∀(ρ:Rho) (u:Value),Yx ρ (Ku vs) u→Yx ρ v u)∧Jy P (Zy P f) (Zg P f bs true []) vs∧ ∃d,pf d (Ku vs)=true):Zu P (S.with f F):=
 w7i hS hf fun args v h=>by obtain ⟨bs,vs,h1,h2,h3,d,h4⟩:=hF args v h;exact ⟨vs,h2,x6z h1 h3,d,h4⟩
theorem z6m {cs cs':List AVal} (h:RLe cs cs') (ρ:Rho) (u:Value) (hv:Yx ρ (.tup cs) u):Yx ρ (.tup cs') u:=by
 cases hv with
 | tup _ vs hl hh=>exact .tup cs' vs (by rw [←h.len];exact hl) fun i h1 h2=>h.sound i (by rw [h.len];exact h1) h1 (hh i (by rw [h.len];exact h1) h2)
theorem z7h (α:Type) [Xq α]:VLe .nils (.dat ([]:List α).length (Zz ([]:List α))):=.nild _
def fJo :List AVal→Option (AVal×Bool)
 | [.int .i64 x0,a1,a2]=>match asL R4 a1,asL R4 a2 with
  | some (L1,g1,n1),some (L2,g2,n2)=>some (.dat (joV x0 L1 L2).length (Zz (joV x0 L1 L2)),isT R4 n1 g1&&(isT R4 n2 g2&&(z1t x0 L1 L2)))
  | _,_=>none
 | _=>none
theorem fJo_ok {S:Specs} (hS:Zu prog S):Zu prog (S.with j0q fJo):=by
 refine z0f hS (by kernel_rfl) fun args v h=> ?_;unfold fJo at h;split at h
 ·rename_i x0 a1 a2;split at h
  ·rename_i L1 g1 n1 L2 g2 n2 e1 e2;simp only [Ad,Ac,Ae] at h;obtain ⟨rfl,ho1,ho2,hw⟩:=h;obtain ⟨N,hN⟩:=j4q x0 L1 L2 hw;exact ⟨_,_,(.cons (.refl _) (.cons (Yh e1 ho1) (.cons (Yh e2 ho2) .nil))),rfl,u2d x0 L1 L2 N _ hN,3,rfl⟩
  ·cases h
 ·cases h
def T3 :Specs:=T2.with j0q fJo
theorem y1v :Zu prog T3:=fJo_ok y1w
open Go.Sort
def bnd3 (r:R3):Bool:=decide (-1000000000≤r.a∧r.a≤1000000000)
def y3c (l:List R3):Bool:=l.all bnd3
abbrev E3 :={r:R3 // bnd3 r=true}
instance : Inhabited E3:=⟨⟨⟨0,0,0⟩,rfl⟩⟩
def cf3 (x y:E3):Int:=x.1.a - y.1.a
def lt3 (x y:E3):Bool:=decide (cf3 x y<0)
theorem swo3 :SWO lt3 where
 irrefl x:=by unfold lt3 cf3;simp
 trans x y z h1 h2:=by unfold lt3 cf3 at*;simp at*;omega
 ntrans x y z h1 h2:=by unfold lt3 cf3 at*;simp at*;omega
def x4w :(l:List R3)→y3c l=true→List E3
 | [],_=>[]
 | r::l,h=>⟨r,by simp [y3c] at h;exact h.1⟩::x4w l (by simp [y3c] at h ⊢;exact h.2)
theorem y5j : ∀(l:List R3) (h:y3c l=true),(x4w l h).map Subtype.val=l
 | [],_=>rfl
 | r::l,h=>by rw [x4w,AU,y5j l]
theorem Qk (l:List R3) (h:y3c l=true):(x4w l h).length =l.length:=by
 have:=AQ List.length (y5j l h)
 simpa using this
def z2b (l:List R3):List R3:=if h:y3c l=true then (pdq lt3 (x4w l h).toArray 0 l.length (Lib.bitLen l.length) true true).toList.map Subtype.val else l
theorem Qe (l:List R3) (h:y3c l=true):(z2b l).Perm l∧ ∀i j,i<j→j<(z2b l).length →(rd (z2b l) i).a ≤(rd (z2b l) j).a :=by
 have hp:=pdq_sorts lt3 swo3 (x4w l h).toArray 0 l.length (Lib.bitLen l.length) true true (AC _) (by simp [Qk]) (Or.inl rfl);obtain ⟨⟨h1,h2,h3⟩,h4⟩:=hp;have e:z2b l=(pdq lt3 (x4w l h).toArray 0 l.length (Lib.bitLen l.length) true true).toList.map Subtype.val:=by unfold z2b;rw [dif_pos h]
 generalize pdq lt3 (x4w l h).toArray 0 l.length (Lib.bitLen l.length) true true=d at*;have hs:d.size=l.length:=by rw [h1];simp [Qk]
 constructor
 ·rw [e];have x1:(d.extract 0 l.length).toList =d.toList:=by rw [←hs];simp
  have x2:((x4w l h).toArray.extract 0 l.length).toList =x4w l h:=by rw [show l.length=(x4w l h).toArray.size by simp [Qk]];simp
  rw [x1,x2] at h3;have:=h3.map Subtype.val;rw [y5j] at this;exact this
 ·intro i j hij hj;rw [e] at hj ⊢;have hj':j<d.size:=by simpa using hj
  have:=h4 i j (AC _) hij (by omega);rw [getElem!_pos d i (by omega),getElem!_pos d j hj'] at this;rw [Yo (by simp;omega),Yo hj];simp only [List.getElem_map,Array.getElem_toList];unfold lt3 cf3 at this;have:=of_decide_eq_false this;omega
open Go.RowKit Go.Shelf
variable {P:Program} {ρ:Rho}
def valOf :AVal→Value
 | .int k n=>.int k n
 | .bool b=>.bool b
 | _=>.tuple #[]
def w2c :AVal→Bool
 | .int _ _=>true
 | .bool _=>true
 | _=>false
theorem v2n {a:AVal} (h:w2c a=true):Yx ρ a (valOf a):=by
 cases a <;> first
  | exact .int _ _
  | exact .bool _
  | (simp [w2c] at h;done)
theorem v5f {a:AVal} {v:Value} (h:w2c a=true) (hv:Yx ρ a v):v=valOf a:=by
 cases hv <;> first
  | rfl
  | (simp [w2c] at h;done)
class j1y (α:Type) extends Xq α where
 num: ∀a:α,(cells a).all w2c=true
instance : j1y R2 where num _:=rfl
instance : j1y R3 where num _:=rfl
instance : j1y R4 where num _:=rfl
instance : j1y R6 where num _:=rfl
instance {α :Type} [Xq α]:Inhabited α:=⟨Xq.d⟩
section
variable {α:Type} [j1y α]
def v1b (a:α):List Value:=(Xq.cells a).map valOf
theorem w3a (a:α):(v1b a).length =Xq.w α:=by rw [v1b,Bi,Xq.len]
theorem w6s (L:List α) (t:Nat) (h:t<L.length*Xq.w α):(flatK v1b (Xq.w α) L.toArray)[t]? =(Xq.cells (rd L (t / Xq.w α)))[t %Xq.w α]?.map valOf:=by
 have hw:=Xq.pos (α:=α);have hq:t / Xq.w α<L.length:=A5 (by grind);have hj:t %Xq.w α<Xq.w α:=Bn _ hw
 grind [flatK,v1b,Yo,Xq.len]
theorem v4q (L:List α) (N t:Nat) (h:t<N*Xq.w α):(Ym N (Zz L))[t]? =(Xq.cells (rd L (t / Xq.w α)))[t %Xq.w α]? :=by have hw:=Xq.pos (α:=α);have:=Vu (get:=Zz L) (sz:=Xq.w α) N (fun _ _=>Xq.len _) (t / Xq.w α) (t %Xq.w α) (A5 (by grind)) (Bn _ hw);rw [show t / Xq.w α*Xq.w α+t %Xq.w α=t by rw [Bu];exact Bo t _] at this;exact this
theorem z8j (L:List α) (N:Nat):(Ym N (Zz L)).length =N*Xq.w α:=Yb N fun _ _=>Xq.len _
theorem y7j (w:World) (n blk off:Nat) (d:Array Value) (os:Array Obj) (k:Nat) (hk:k<w.heap.size):
  (grow (putRow id (Go.Sort.ahead w n) blk off d) os).heap[k]? =if k=blk then (w.heap[k]?).map (onCells (putCells id off d)) else w.heap[k]? :=by
 show (((Go.Sort.ahead w n).heap.modify blk (onCells (putCells id off d)))++os)[k]? =_;rw [Array.getElem?_append_left (by simp_all),Array.getElem?_modify];show (if blk=k then _ else _)=_;by_cases h:k=blk
 ·simp_all
 ·rw [AF (fun e=>h e.symm),AF h];rfl
def w6u (α:Type) [Xq α] (srt:List α→List α) (bnd:List α→Bool) (g:FuncId) (args:List AVal) (mem:Mem):Option (AVal×Nat×ABlk×Bool):=match args with
 | [.sla b sz off n cap,.fn f []]=>bif Nat.beq f g then match Yi mem b with
  | some ⟨_,ty,some A⟩=>some (.tup [],b,⟨Ym A.n (Zz (srt (lst α n A.get))),ty,some ⟨Xq.w α,A.n,Zz (srt (lst α n A.get))⟩⟩,
    Nat.beq sz (Xq.w α)&&(Nat.beq A.sz (Xq.w α)&&(Nat.beq off 0&&((decide (n=A.n)&&(isT α n A.get&&decide (n<4611686018427387904)))&&bnd (lst α n A.get)))))
  | _=>none
  else none
 | _=>none
theorem v8m {f g:FuncId} {srt:List α→List α} {bnd:List α→Bool} (hsl: ∀L,(srt L).length =L.length)
  (hC: ∀(blk off cap:Nat) (L:List α) (w:World),bnd L=true→HoldsK v1b (Xq.w α) w blk off L.toArray→blk<w.heap.size→L.length<4611686018427387904→
   Calls P f #[.slice (some ⟨blk,off,none⟩) L.length cap,.func (.func g) #[] #[]] w fun e w'=>e=.returned (.tuple #[])∧ ∃n os,w'=sortWorldK v1b (Xq.w α) w blk off n (srt L).toArray os)
  (hN: ∀(p:Option Addr) (cap:Nat) (fv:Value) (w:World),Calls P f #[.slice p 0 cap,fv] w fun e w'=>e=.returned (.tuple #[])∧w'=w):x7y P f (w6u α srt bnd g):=by
 intro args mem v b blk h fN ρ next floor vals w hfl dN dJ
 have hw0:=Xq.pos (α:=α);unfold w6u at h;split at h
 ·rename_i b0 sz off n cap f0;obtain ⟨hfg,h'⟩:=z0m h;clear h;obtain rfl:=Ai hfg;have h:=h';clear h';split at h
  ·rename_i cells ty A hm;obtain ⟨asz,an,get⟩:=A;simp only [Ad,Ac,Ae] at h;obtain ⟨rfl,rfl,rfl,h1,h2,h3,⟨h4,h5,h6⟩,h7⟩:=h;have g1:=Ai h1;have g2:=Ai h2;have g3:=Ai h3;have g4:n=an:=Aw h4;have h6:n<4611686018427387904:=Aw h6;have g2:asz=Xq.w α:=g2;subst g1;subst g2;subst g3;subst g4;have h7:bnd (lst α n get.get)=true:=h7;have dS:=w6j h5;have dS: ∀i,i<n→get.get i=Zz (lst α n get.get) i:=dS;have hrows:Ym n get.get=Ym n (Zz (lst α n get.get)):=y0n n dS;obtain ⟨u,hu,hvals⟩: ∃u,Yx ρ (.sla b0 (Xq.w α) 0 n cap) u∧vals= #[u,.func (.func f0) #[] #[]]:=by
    obtain ⟨vl⟩:=vals;cases dN with
    | cons q1 q2=>cases q2 with
     | cons q3 q4=>
      cases q4;cases q3 with
      | fn _ _ cvs hl _=>
       grind
   subst hvals;have hlt:b0<next:=by
    rcases A4 b0 next with q | q
    ·exact q
    ·have:=dJ.bd b0 q;grind
   show Calls P f _ w _;have hAget:(Arr.get ⟨Xq.w α,n,get⟩)=get.get:=rfl;rw [hAget] at*;generalize hI:lst α n get.get=I at*;have hIl:I.length=n:=by rw [←hI];exact x1c _ _
   generalize hL:srt I=L;have hLl:L.length=n:=by grind
   have hnn:ρ b0=none→ ∀cs ty',Yi mem b0≠some ⟨cs,ty',none⟩:=fun _ cs ty' e=>by grind
   cases hu with
   | sla _ _ _ _ _ l cc e hc dK=>
    have hbk:=dJ.blk b0 l _ e hm;obtain ⟨har,_,_⟩:=hbk.arr _ rfl;have har:cells=Ym n get.get:=har;rw [hrows] at har;subst har;obtain ⟨cur,el,hh,hsz,dP⟩:=hbk.cells;simp only [z8j] at dP;have htot:=hbk.tot;have hln:=hbk.n;simp only [z8j] at hln;have eP: ∀t,t<n*Xq.w α→cur[l.base+t]? =(Xq.cells (rd I (t / Xq.w α)))[t %Xq.w α]?.map valOf:=fun t ht=>by
     obtain ⟨v,e1,e2⟩:=dP t ht;have hj:t %Xq.w α<Xq.w α:=Bn _ hw0;have hl2:t %Xq.w α<(Xq.cells (rd I (t / Xq.w α))).length :=by rw [Xq.len];exact hj
     have e3:=v4q I n t ht
     grind [v5f,j1y.num]
    have eW:=dJ.real b0 l e;have hH:HoldsK v1b (Xq.w α) w l.blk (l.base+0*Xq.w α) I.toArray:=fun j hj=>by
     have hj:j<n*Xq.w α:=(by simp_all);have hs:j<(flatK v1b (Xq.w α) I.toArray).size :=(by grind);have e1:=w6s I j (by grind)
     grind [World.cell?,World.frozen?]
    have dV:=hC l.blk (l.base+0*Xq.w α) cc I w h7 hH eW (by omega);rw [hIl,hL] at dV;refine dV.mono fun e' w' ⟨he,q,os,hw'⟩=>⟨_,he,?_,?_,?_⟩
    ·exact .tup [] #[] rfl fun i h1 h2=>absurd h1 (AG _)
    ·subst hw';refine Rel.setArr ?_ ⟨Xq.w α,n,.flat (Zz L)⟩ rfl hw0 fun _ _=>Xq.len _;refine Rel.rewritten dJ e hm (by simp only [z8j]) (fun k hk hne=> ?_) ?_ ?_
     ·exact (y7j _ _ _ _ _ _ _ hk).trans (AF hne)
     ·show _≤(((Go.Sort.ahead w q).heap.modify _ _)++os).size;simp_all
     ·refine ⟨putCells id (l.base+0*Xq.w α) (flatK v1b (Xq.w α) L.toArray) cur,el,?_,?_,fun i hi=> ?_⟩
      ·refine (y7j _ _ _ _ _ _ _ eW).trans ?_;rw [AL rfl,hh];rfl
      ·grind [putCells]
      ·rw [z8j] at hi;have hj:i %Xq.w α<Xq.w α:=Bn _ hw0;have hl2:i %Xq.w α<(Xq.cells (rd L (i / Xq.w α))).length :=by rw [Xq.len];exact hj
       have hl3:i %Xq.w α<(Xq.cells (rd I (i / Xq.w α))).length :=(by grind);have e1:=w6s L i (by grind);rw [Au hl2,Option.map_some] at e1;have hs:i<(flatK v1b (Xq.w α) L.toArray).size :=(by grind);rw [Br hs] at e1;have e3:=v4q L n i hi;rw [Au (by grind),Au hl2] at e3;refine ⟨valOf (Xq.cells (rd L (i / Xq.w α)))[i %Xq.w α],?_,?_⟩
       ·simp_all [putCells]
       grind [v2n,j1y.num]
    ·subst hw';refine Ev.rewritten dJ _ (fun l' _=>hfl) hnn (fun k hk hne=> ?_) ?_ rfl rfl rfl
     ·exact (y7j _ _ _ _ _ _ _ hk).trans (AF (hne l e))
     ·show _≤(((Go.Sort.ahead w q).heap.modify _ _)++os).size;simp_all
   | slan=>
    have hI0:I=[]:=List.eq_nil_of_length_eq_zero hIl;have hL0:L=[]:=List.eq_nil_of_length_eq_zero hLl;refine (hN none 0 _ w).mono fun e' w' ⟨he,hw'⟩=>⟨_,he,?_,?_,?_⟩
    ·exact .tup [] #[] rfl fun i h1 h2=>absurd h1 (AG _)
    ·subst hw';refine dJ.reblk hm fun l hρ hbk=> ?_;obtain ⟨har,fF,_⟩:=hbk.arr _ rfl;have har:cells=Ym 0 get.get:=har;subst har;exact ⟨hbk.n,hbk.tot,fun B hB=>by obtain rfl:=Ag hB;exact ⟨rfl,hw0,fun i hi=>absurd hi (AG _)⟩,hbk.cells⟩
    grind [Ev.rewritten]
  ·cases h
 ·cases h
end
def Specs.withE (S:Specs) (f:FuncId) (F:List AVal→Mem→Option (AVal×Nat×ABlk×Bool)):Specs:=fun g=>bif Nat.beq g f then some (.eff F) else S g
theorem x2a {P:Program} {S:Specs} (hS:Zu P S) {f:FuncId} {F:List AVal→Mem→Option (AVal×Nat×ABlk×Bool)} (hf:(P.funcs[f]?).any (fun fn=>fn.body.isSome)=true) (hF:x7y P f F):Zu P (S.withE f F):=by
 intro g G hg;unfold Specs.withE at hg;cases hgf:Nat.beq g f with
 | false=>rw [hgf] at hg;exact hS g G hg
 | true=>
  rw [hgf] at hg;obtain rfl:Spec.eff F=G:=Ag hg;obtain rfl:g=f:=Ai hgf;refine ⟨?_,hF⟩
  grind
end Go.Am
end
