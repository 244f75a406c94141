/- A part of a proof: several texts in one. -/
import Derived.Test.YtpddoeiakpbkbaaGreatLj1
import Derived.Sort.Grow
import Derived.Deep.Slices
import Derived.Deep.Fields
import Derived.ChangeSame
import Derived.OpenShut
import Derived.Test.YtpddoeiakpbkbaaGreatProg
import Derived.Sort.AssemblyPlain
import Derived.Lib.BitFns
import Derived.Shelf.GgSortFunc.InsertionK
set_option maxRecDepth 1000000
set_option maxHeartbeats 8000000
set_option linter.unusedVariables false
set_option linter.unusedSimpArgs false
noncomputable section
namespace Go.Am
open IntKind (wrap)
structure z9r where
 keep:List Nat
 frz:List Nat
 slots:List (Option (List Nat))
 lslots:List (Option (List Nat)):=[]
def y6p (b:Nat):List Nat→Nat→Option Nat
 | [],_=>none
 | x::l,i=>bif Nat.beq x b then some i else y6p b l (i+1)
def hasN (b:Nat):List Nat→Bool
 | []=>false
 | x::l=>bif Nat.beq x b then true else hasN b l
def Xf (cells:List AVal) (off sz:Nat):Nat→List AVal:=fun k=>(cells.drop (off+k*sz)).take sz
def frzV (P:Program) (blk:ABlk):AVal→AVal
 | .ptr _ o=>.dptr (blk.cells.drop o)
 | .sl _ off len _=>match P.info? blk.ty with
  | some i=>bif Nat.ble (off+len*i.size) blk.cells.length then .dat len (Xf blk.cells off i.size) else .undef
  | none=>.undef
 | .sla _ sz off len _=>match blk.arr with
  | some A=>bif Nat.beq A.sz sz&&Nat.ble (off+len) A.n then .dat len (fun k=>A.get (off+k)) else .undef
  | none=>.undef
 | _=>.undef
def renB (P:Program) (mem:Mem) (N:z9r) (b:Nat) (v:AVal) (f:Nat→AVal):AVal:=
 match y6p b N.keep 0 with
 | some b'=>f b'
 | none=>bif hasN b N.frz then match Yh mem b with
   | some blk=>frzV P blk v
   | none=>.undef
  else .undef
def ren (P:Program) (mem:Mem) (N:z9r):Nat→AVal→AVal
 | 0,_=>.undef
 | d+1,v=>match v with
  | .ptr b o=>renB P mem N b (.ptr b o) fun b'=>.ptr b' o
  | .sl b off len cap=>renB P mem N b (.sl b off len cap) fun b'=>.sl b' off len cap
  | .sla b sz off len cap=>renB P mem N b (.sla b sz off len cap) fun b'=>.sla b' sz off len cap
  | .epa b sz i fo=>renB P mem N b (.epa b sz i fo) fun b'=>.epa b' sz i fo
  | .yld j=>match y6p j N.keep 0 with
   | some j'=>.yld j'
   | none=>.undef
  | .slv b sz off len=>match y6p b N.keep 0 with
   | some b'=>.slv b' sz off len
   | none=>.undef
  | .agg cs=>.agg (cs.map (ren P mem N d))
  | .tup cs=>.tup (cs.map (ren P mem N d))
  | .fn f cs=>.fn f (cs.map (ren P mem N d))
  | .fnb f cs=>.fnb f (cs.map (ren P mem N d))
  | .ifc t v=>.ifc t (ren P mem N d v)
  | v=>v
def T.map (f:AVal→AVal) (t:T AVal):T AVal:=
 T.rec (motive:=fun _=>T AVal) .leaf (fun v _ _ l r=>.node (f v) l r) t
def y6m (f:AVal→AVal) (env:T AVal):List Nat→T AVal
 | []=>.leaf
 | t::l=>T.set .undef (y6m f env l) t (f (T.get .undef env t))
def u8e (f:AVal→AVal) (env:T AVal):Option (List Nat)→T AVal
 | none=>T.map f env
 | some l=>y6m f env l
def z8d (f:AVal→AVal):Rws→Rws
 | .flat g=>.flat g
 | .one r cs b=>.one r (cs.map f) (z8d f b)
 | .alt c a b=>.alt c (z8d f a) (z8d f b)
def y9u (P:Program) (mem:Mem) (N:z9r):ABlk→ABlk
 | ⟨cells,ty,none⟩=>⟨cells.map (ren P mem N 6),ty,none⟩
 | ⟨_,ty,some A⟩=>⟨Ym A.n (z8d (ren P mem N 6) A.rw).get,ty,some ⟨A.sz,A.n,z8d (ren P mem N 6) A.rw⟩⟩
def x0o :Rws→Bool
 | .flat g=>pd (∀i,(g i).all (pf 6)=true)
 | .one _ _ b=>x0o b
 | .alt _ a b=>x0o a&&x0o b
def u3p (blk:ABlk):Bool:=match blk.arr with
 | none=>true
 | some A=>x0o A.rw
def z8r (P:Program) (mem:Mem) (N:z9r):List Nat→Nat→Mem×Bool
 | [],_=>(.leaf,true)
 | b::l,i=>match z8r P mem N l (i+1) with
  | (m,o)=>match Yh mem b with
   | none=>(m,o)
   | some blk=>(Xs m i (some (y9u P mem N blk)),u3p blk&&o)
def z8v (mem:Mem):List Nat→Bool
 | []=>true
 | b::l=>match Yh mem b with
  | none=>z8v mem l
  | some blk=>(match blk.arr with
   | none=>blk.cells.all (pf 6)
   | some A=>pd (∀i,(A.get i).all (pf 6)=true))&&z8v mem l
def w0t (f:AVal→AVal) (lps:Loops):List Nat→Nat→List (Option (List Nat))→Loops
 | [],_,_=>.leaf
 | b::l,i,sl=>match y4b lps b with
  | none=>w0t f lps l (i+1) sl.tail
  | some ⟨st,pend,n,env,params,assign,body⟩=>v0v (w0t f lps l (i+1) sl.tail) i (some ⟨st,pend,n,u8e f env (sl.headD none),params,assign,body⟩)
def y0h (keep:List Nat):Item→Option Item
 | .inRangeFunc j=>(y6p j keep 0).map .inRangeFunc
 | .endRangeFunc j=>(y6p j keep 0).map .endRangeFunc
 | x=>bif z0t x then some x else none
def z5k (keep:List Nat):List Item→Option (List Item)
 | []=>some []
 | x::l=>match y0h keep x,z5k keep l with
  | some y,some m=>some (y::m)
  | _,_=>none
def x4q (keep:List Nat):Option Nat→Option (Option Nat)
 | none=>some none
 | some j=>(y6p j keep 0).map some
def w7y (f:AVal→AVal) (keep:List Nat):List AFr→List (Option (List Nat))→Option (List AFr)
 | [],_=>some []
 | ⟨cx,ro,todo,rnd,rs,env⟩::cs,sl=>match z5k keep todo,x4q keep rnd,w7y f keep cs sl.tail with
  | some todo',some rnd',some cs'=>some (⟨cx,ro,todo',rnd',rs,u8e f env (sl.headD none)⟩::cs')
  | _,_,_=>none
def disj :List Nat→List Nat→Bool
 | [],_=>true
 | b::l,frz=> !hasN b frz&&(!hasN b l&&disj l frz)
def u2e (P:Program) (N:z9r):Cfg→Option Cfg
 | ⟨cx,ro,todo,rnd,rs,⟨env,mem,next,orc,ob⟩,cs,lps⟩=>
  match z5k N.keep todo,x4q N.keep rnd,w7y (ren P mem N 6) N.keep cs N.slots.tail with
  | some todo',some rnd',some cs'=>
   bif disj N.keep N.frz then
    match z8r P mem N N.keep 0 with
    | (mem',o)=>some ⟨cx,ro,todo',rnd',rs,⟨u8e (ren P mem N 6) env (N.slots.headD none),mem',N.keep.length,[],o&&(z8v mem N.frz&&ob)⟩,cs',w0t (ren P mem N 6) lps N.keep 0 N.lslots⟩
   else none
  | _,_,_=>none
def atP :Code→List Nat→List Item→Code×List Item
 | c,[],k=>(c,k)
 | .seq a b,0::p,k=>atP a p (.code b::k)
 | .seq _ b,_::p,k=>atP b p k
 | .block id c,_::p,k=>atP c p (.inBlock id::k)
 | .loop c,_::p,k=>atP c p (.inLoop c::k)
 | .scope c,_::p,k=>atP c p (.inScope c::k)
 | .cond _ a _,0::p,k=>atP a p k
 | .cond _ _ b,_::p,k=>atP b p k
 | .rangeFunc _ _ a b,0::p,_=>atP a p [.beginRound,.code b]
 | .rangeFunc _ _ _ b,_::p,_=>atP b p []
 | c,_::_,k=>(c,k)
def Zb (P:Program) (f:FuncId) (p:List Nat) (j:Nat):List Item:=match atP (j0a P f) p [] with
 | (c,k)=>(.code c::k).drop j
def Wo (P:Program) (f:FuncId) (p:List Nat):Code:=(atP (j0a P f) p []).1
def Vj (P:Program) (f:FuncId) (p:List Nat) (i:Nat):Option RegOps:=match Wo P f p with
 | .region _ ops _=>some (ops,i,ops.toList.drop i)
 | _=>none
def u3d (P:Program) (S:Specs) (Rc:Runner) (n:Nat):Cfg→Option Cfg:=
 Nat.rec (motive:=fun _=>Cfg→Option Cfg) (fun C=>some C) (fun _ R C=>match w6j P S Rc C with
  | some C'=>R C'
  | none=>none) n
section
variable {P:Program}
theorem Jz {p:Prop} (h:pd p=true):p:= @Aw p (Classical.propDecidable p) h
theorem Xz {p:Prop} (h:p):pd p=true:= @An p (Classical.propDecidable p) h
theorem x0n {b:Nat}: ∀{l:List Nat} {i j:Nat},y6p b l i=some j→i≤j∧l[j - i]? =some b
 | [],i,j,h=>by cases h
 | x::l,i,j,h=>by
  unfold y6p at h;rcases Ju h with ⟨hx,h⟩ | ⟨_,h⟩
  ·simp_all
  ·obtain ⟨h1,h2⟩:=x0n h
   grind
theorem y4g {b:Nat}: ∀{l:List Nat},hasN b l=true↔b∈l
 | []=>by simp [hasN]
 | x::l=>by
  unfold hasN;cases hx:Nat.beq x b with
  | true=>simp [Ai hx]
  | false=>
   have:x≠b:=fun e=>by rw [e,Nat.beq_refl] at hx;cases hx
   rw [Ac,y4g,AG];exact ⟨.inr,fun h=>h.resolve_left fun e=>this e.symm⟩
theorem y6y : ∀{l frz:List Nat},disj l frz=true→l.Nodup∧ ∀b∈l,b ∉ frz
 | [],_,_=>⟨List.nodup_nil,fun b hb=>by cases hb⟩
 | x::l,frz,h=>by
  unfold disj at h;simp only [Ad,Bg] at h;obtain ⟨h1,h2,h3⟩:=h;obtain ⟨i1,i2⟩:=y6y h3;have n1:x ∉ frz:=fun hm=>by rw [y4g.2 hm] at h1;cases h1
  have n2:x ∉ l:=fun hm=>by rw [y4g.2 hm] at h2;cases h2
  exact ⟨List.nodup_cons.2 ⟨n2,i1⟩,fun b hb=>by
   rcases AG.1 hb with rfl | hb
   ·exact n1
   ·exact i2 b hb⟩
def Fz (ρ:Rho) (mem:Mem) (N:z9r) (k:Nat):Prop:= ∃b l,b∈N.frz∧ρ b=some l∧(Yh mem b).isSome =true∧l.blk=k
def y5n (ρ:Rho) (mem:Mem) (N:z9r) (w:World):Rho:=
 ⟨fun b'=>(N.keep[b']?).bind fun b=>ρ b,fun k=> @ite _ (Fz ρ mem N k) (Classical.propDecidable _) (w.heap[k]?) (ρ.fz k),fun j'=>(N.keep[j']?).bind fun j=>ρ.lp j⟩
theorem z5i {ρ:Rho} {mem:Mem} {next:Nat} {w:World} (h:Rel ρ mem next w) (N:z9r) {k:Nat} {o:Obj} (e:ρ.fz k=some o):(y5n ρ mem N w).fz k=some o:=by
 show @ite _ (Fz ρ mem N k) (Classical.propDecidable _) (w.heap[k]?) (ρ.fz k)=some o;by_cases hf:Fz ρ mem N k
 ·obtain ⟨b,l,_,hb,hm,rfl⟩:=hf;have:=h.sep b l hb hm
  grind
 grind
theorem x8y {ρ:Rho} {mem:Mem} {w:World} {N:z9r} {b:Nat} {l:Loc} (hb:b∈N.frz) (hl:ρ b=some l) (hm:(Yh mem b).isSome =true):(y5n ρ mem N w).fz l.blk=w.heap[l.blk]? :=
 AI ⟨b,l,hb,hl,hm,rfl⟩
theorem z4p {ρ:Rho} {mem:Mem} {next:Nat} {w:World} (h:Rel ρ mem next w) (N:z9r):ρ.bare.le (y5n ρ mem N w).bare :=⟨fun _ _ e=>(by cases e),fun _ _ e=>z5i h N e,fun _ _ e=>(by cases e)⟩
theorem Kk {ρ:Rho} {mem:Mem} {w:World} {N:z9r} {b b':Nat} (h:y6p b N.keep 0=some b'):(y5n ρ mem N w) b'=ρ b∧(y5n ρ mem N w).lp b'=ρ.lp b:=by
 obtain ⟨_,h2⟩:=x0n h;rw [Nat.sub_zero] at h2;constructor
 ·show (N.keep[b']?).bind _=_;rw [h2];rfl
 ·show (N.keep[b']?).bind _=_;rw [h2];rfl
theorem y0u {mem:Mem}: ∀{frz:List Nat},z8v mem frz=true→ ∀b∈frz,∀blk,Yh mem b=some blk→(match blk.arr with | none=>blk.cells.all (pf 6)=true | some A=> ∀i,(A.get i).all (pf 6)=true)
 | [],_,b,hb,_,_=>by cases hb
 | x::l,h,b,hb,blk,hm=>by
  unfold z8v at h;rcases AG.1 hb with rfl | hb
  ·rw [hm] at h;simp only [Ad] at h;cases hA:blk.arr with
   | none=>have:=h.1;rw [hA] at this;exact this
   | some A=>have:=h.1;rw [hA] at this;exact Jz this
  ·cases hx:Yh mem x with
   | none=>rw [hx] at h;exact y0u h b hb blk hm
   | some blk'=>rw [hx] at h;simp only [Ad] at h;exact y0u h.2 b hb blk hm
theorem y6t {mem:Mem} {next:Nat} {w:World} {ρ:Rho} (h:Rel ρ mem next w) {N:z9r} (ho:z8v mem N.frz=true) {b:Nat} (hb:b∈N.frz) {blk:ABlk} (hm:Yh mem b=some blk) {l:Loc} (hl:ρ b=some l):
  ∃val:Nat→Value,∀(i:Nat) (hi:i<blk.cells.length),VRel (y5n ρ mem N w).bare blk.cells[i] (val i)∧x6v (y5n ρ mem N w).fz l.blk (l.base+i) (val i):=by
 obtain ⟨hn,ht,har,cs,el,h1,h2,h3⟩:=h.blk b l blk hl hm;refine ⟨fun i=>(cs[l.base+i]?).getD undef,fun i hi=> ?_⟩;obtain ⟨v,e1,e2⟩:=h3 i hi;have hpf:pf 6 blk.cells[i]=true:=by
  have:=y0u ho b hb blk hm;cases hA:blk.arr with
  | none=>grind
  | some A=>
   rw [hA] at this;obtain ⟨q1,_,_⟩:=har A hA;have hmem:blk.cells[i]∈Ym A.n A.get:=by grind
   grind [Ym]
 dsimp only;rw [e1];refine ⟨(Ji 6 _ _ hpf e2).mono (z4p h N),cs,el,(0,0),?_,e1⟩
 grind [x8y]
theorem w9e {mem:Mem} {next:Nat} {w:World} {ρ:Rho} (h:Rel ρ mem next w) {N:z9r} (ho:z8v mem N.frz=true) {b:Nat} (hb:b∈N.frz) {blk:ABlk} (hm:Yh mem b=some blk) {v:AVal} {u:Value} (hv:VRel ρ v u)
  (hvb:(∃o,v=.ptr b o)∨(∃off len cap,v=.sl b off len cap)∨(∃sz off len cap,v=.sla b sz off len cap)∨ ∃sz i fo,v=.epa b sz i fo):VRel (y5n ρ mem N w) (frzV P blk v) u:=by
 rcases hvb with ⟨o,rfl⟩ | ⟨off,len,cap,rfl⟩ | ⟨sz,off,len,cap,rfl⟩ | ⟨sz,i,fo,rfl⟩
 ·cases hv with
  | ptr _ _ l hl=>
   obtain ⟨val,eL⟩:=y6t h ho hb hm hl;refine .dptr _ _ _ (fun j=>val (o+j)) (fun j hj=> ?_) (fun j hj=> ?_);all_goals grind
 ·simp only [frzV];split
  ·rename_i i hi;cases hc:Nat.ble (off+len*i.size) blk.cells.length with
   | false=>exact .undef _
   | true=>
    rw [Ae];have hle:=Aj hc;cases hv with
    | sl _ _ _ _ l c hl _ dU=>
     obtain ⟨val,eL⟩:=y6t h ho hb hm hl;have hin: ∀k,k<len→k*i.size+i.size≤len*i.size:=fun k hk=>by
      have:=Az i.size (show k+1≤len from hk)
      grind
     refine .dat len _ l.blk (l.base+off) i.size c (fun k j=>val (off+(k*i.size+j))) dU (fun k hk=> ?_) (fun k j hk hj=> ?_) (fun k j hk hj=> ?_);all_goals grind [Xf]
  ·exact .undef _
 ·simp only [frzV];split
  ·rename_i A hA;cases hc:(Nat.beq A.sz sz&&Nat.ble (off+len) A.n) with
   | false=>exact .undef _
   | true=>
    rw [Ae];simp only [Ad] at hc;obtain rfl:=Ai hc.1;have hle:=Aj hc.2;cases hv with
    | slan=>exact .datn _
    | sla _ _ _ _ _ l c hl _ dU=>
     obtain ⟨val,eL⟩:=y6t h ho hb hm hl;obtain ⟨q1,q2,q3⟩:=(h.blk b l blk hl hm).arr A hA;have fN:=Yp A.n q3;have gB: ∀k j,k<len→j<A.sz→ ∃hi:(off+k)*A.sz+j<blk.cells.length,blk.cells[(off+k)*A.sz+j]? =(A.get (off+k))[j]? :=fun k j hk hj=>by
      grind [Ws]
     refine .dat len _ l.blk (l.base+off*A.sz) A.sz c (fun k j=>val ((off+k)*A.sz+j)) dU (fun k hk=>q3 _ (by omega)) (fun k j hk hj=> ?_) (fun k j hk hj=> ?_);all_goals grind
  ·exact .undef _
 ·exact .undef _
theorem z2l {mem:Mem} {next:Nat} {w:World} {ρ:Rho} (h:Rel ρ mem next w) {N:z9r} (ho:z8v mem N.frz=true) {b:Nat} {v:AVal} {u:Value} {f:Nat→AVal} (hv:VRel ρ v u)
  (hvb:(∃o,v=.ptr b o)∨(∃off len cap,v=.sl b off len cap)∨(∃sz off len cap,v=.sla b sz off len cap)∨ ∃sz i fo,v=.epa b sz i fo)
  (hf: ∀b',y6p b N.keep 0=some b'→VRel (y5n ρ mem N w) (f b') u):VRel (y5n ρ mem N w) (renB P mem N b v f) u:=by
 unfold renB;split
 ·grind
 ·cases hc:hasN b N.frz with
  | false=>exact .undef _
  | true=>
   rw [Ae];split
   ·grind [w9e,y4g]
   ·exact .undef _
theorem z4s {mem:Mem} {next:Nat} {w:World} {ρ:Rho} (h:Rel ρ mem next w) {N:z9r} (ho:z8v mem N.frz=true): ∀(d:Nat) (v:AVal) (u:Value),VRel ρ v u→VRel (y5n ρ mem N w) (ren P mem N d v) u
 | 0,_,_,_=>.undef _
 | d+1,v,u,hv=>by
  have ih:=fun v u=>z4s h ho (N:=N) d v u;have list: ∀{cs:List AVal} {vs:Array Value},cs.length=vs.size→(∀(i:Nat) (h1:i<cs.length) (h2:i<vs.size),VRel ρ cs[i] vs[i])→
    (cs.map (ren P mem N d)).length =vs.size∧ ∀(i:Nat) (h1:i<(cs.map (ren P mem N d)).length) (h2:i<vs.size),VRel (y5n ρ mem N w) (cs.map (ren P mem N d))[i] vs[i]:=fun hl hh=>
   ⟨by simpa using hl,fun i h1 h2=>by simpa using ih _ _ (hh i (by simpa using h1) h2)⟩
  unfold ren;cases hv with
  | undef=>exact .undef _
  | bool b=>exact .bool b
  | int k n=>exact .int k n
  | str s=>exact .str s
  | agg cs vs hl hh=>exact .agg _ _ (list hl hh).1 (list hl hh).2
  | tup cs vs hl hh=>exact .tup _ _ (list hl hh).1 (list hl hh).2
  | fn f cs vs hl hh=>exact .fn f _ _ (list hl hh).1 (list hl hh).2
  | fnb f cs vs hl hh=>exact .fnb f _ _ (list hl hh).1 (list hl hh).2
  | ptr b o l hl=>exact z2l h ho (.ptr b o l hl) (.inl ⟨o,rfl⟩) fun b' hb'=>.ptr b' o l (by rw [(Kk hb').1];exact hl)
  | nilp=>exact .nilp
  | sl b off len cap l c hl hc dU=>exact z2l h ho (.sl b off len cap l c hl hc dU) (.inr (.inl ⟨off,len,cap,rfl⟩)) fun b' hb'=>.sl b' off len cap l c (by rw [(Kk hb').1];exact hl) hc dU
  | nils=>exact .nils
  | sla b sz off len cap l c hl hc dU=>exact z2l h ho (.sla b sz off len cap l c hl hc dU) (.inr (.inr (.inl ⟨sz,off,len,cap,rfl⟩))) fun b' hb'=>.sla b' sz off len cap l c (by rw [(Kk hb').1];exact hl) hc dU
  | slan b sz off cap=>exact z2l h ho (.slan b sz off cap) (.inr (.inr (.inl ⟨sz,off,0,cap,rfl⟩))) fun b' hb'=>.slan b' sz off cap
  | epa b sz i fo l hl=>exact z2l h ho (.epa b sz i fo l hl) (.inr (.inr (.inr ⟨sz,i,fo,rfl⟩))) fun b' hb'=>.epa b' sz i fo l (by rw [(Kk hb').1];exact hl)
  | nilf=>exact .nilf
  | yld j l hl=>
   simp only;split
   ·rename_i j' hj';exact .yld j' l (by rw [(Kk hj').2];exact hl)
   ·exact .undef _
  | slv b sz off len l c hl dU=>
   simp only;split
   ·rename_i j' hj';exact .slv j' sz off len l c (by rw [(Kk hj').1];exact hl) dU
   ·exact .undef _
  | slve b sz off blk base c=>
   simp only;split
   ·exact .slve _ sz off blk base c
   ·exact .undef _
  | slvn b sz off=>
   simp only;split
   ·exact .slvn _ sz off
   ·exact .undef _
  | ifc t a v hv=>exact .ifc t _ _ (ih _ _ hv)
  | nili=>exact .nili
  | dat len get blk base sz cap val eA hsz hv hh=>refine .dat len get blk base sz cap val eA hsz (fun i j hi hj=>(hv i j hi hj).mono (z4p h N)) (fun i j hi hj=> ?_);obtain ⟨cs,el,fz,e1,e2⟩:=hh i j hi hj;exact ⟨cs,el,fz,z5i h N e1,e2⟩
  | datn get=>exact .datn get
  | datz get a c=>exact .datz get a c
  | nnl len get a c hd=>exact .nnl len get a c ((Ji 1 _ _ rfl hd).mono (Rho.le_trans (z4p h N) (y7e _)))
  | dptr cs blk base val hv hh=>refine .dptr cs blk base val (fun j hj=>(hv j hj).mono (z4p h N)) (fun j hj=> ?_);obtain ⟨cs',el,fz,e1,e2⟩:=hh j hj;exact ⟨cs',el,fz,z5i h N e1,e2⟩
theorem T.get_map {f:AVal→AVal} (hf:f .undef =.undef): ∀(t:T AVal) (i:Nat),T.get .undef (T.map f t) i=f (T.get .undef t i)
 | .leaf,i=>hf.symm
 | .node v l r,0=>rfl
 | .node v l r,i+1=>by
  show T.get .undef (.node (f v) (T.map f l) (T.map f r)) (i+1)=_;rw [T.get_succ,T.get_succ];split
  ·exact T.get_map hf l _
  ·exact T.get_map hf r _
theorem y0p {f:AVal→AVal} (env:T AVal): ∀(L:List Nat) (t:Nat),T.get .undef (y6m f env L) t=if t∈L then f (T.get .undef env t) else .undef
 | [],t=>by simp [y6m]
 | x::L,t=>by
  unfold y6m;rw [T.get_set,y0p env L t];by_cases h:t=x
  ·subst h;simp
  ·simp [h]
theorem w4e {mem:Mem} {next:Nat} {w:World} {ρ:Rho} (h:Rel ρ mem next w) {N:z9r} (ho:z8v mem N.frz=true) {env:T AVal} {n:Nat} {tmps:Array Value} (he:Wj ρ env n tmps): ∀(L:Option (List Nat)),Wj (y5n ρ mem N w) (u8e (ren P mem N 6) env L) n tmps
 | none=>by
  refine ⟨he.size,fun i=> ?_,fun i hi=> ?_⟩
  ·show VRel _ (T.get .undef (T.map (ren P mem N 6) env) i) _;rw [T.get_map rfl];exact z4s h ho 6 _ _ (he.get i)
  ·show T.get .undef (T.map (ren P mem N 6) env) i=_;rw [T.get_map rfl,he.out i hi];rfl
 | some L=>by
  refine ⟨he.size,fun i=> ?_,fun i hi=> ?_⟩
  ·show VRel _ (T.get .undef (y6m (ren P mem N 6) env L) i) _;rw [y0p];split
   ·exact z4s h ho 6 _ _ (he.get i)
   ·exact .undef _
  ·show T.get .undef (y6m (ren P mem N 6) env L) i=_;rw [y0p,he.out i hi];split <;> rfl
theorem x5m {mem:Mem} {N:z9r}: ∀(l:List Nat) (i j:Nat),Yh (z8r P mem N l i).1 j=if i≤j then (l[j - i]?).bind fun b=>(Yh mem b).map (y9u P mem N) else none
 | [],i,j=>by simp [z8r,Yh]
 | b::l,i,j=>by
  unfold z8r;have ih:=x5m (mem:=mem) (N:=N) l (i+1);have tail:i<j→(b::l)[j - i]? =l[j - (i+1)]? :=fun h=>by rw [show j - i=(j - (i+1))+1 by omega];rfl
  cases hm:Yh mem b with
  | none=>
   show Yh (z8r P mem N l (i+1)).1 j=_;rw [ih];rcases Bh i j with h | h | h
   ·rw [AI (by omega),AI (by omega),tail h]
   ·subst h;rw [AD (by omega),AI (by omega)];simp [hm]
   ·rw [AD (by omega),AD (by omega)]
  | some blk=>
   show Yh (Xs (z8r P mem N l (i+1)).1 i (some (y9u P mem N blk))) j=_;rw [Vk,ih];rcases Bh i j with h | h | h
   ·rw [AD (by omega),AI (by omega),AI (by omega),tail h]
   ·subst h;rw [AI rfl,AI (by omega)];simp [hm]
   ·rw [AD (by omega),AD (by omega),AD (by omega)]
theorem y0o {mem:Mem} {N:z9r}: ∀(l:List Nat) (i:Nat),(z8r P mem N l i).2=true→ ∀b∈l,∀blk,Yh mem b=some blk→u3p blk=true
 | [],i,_,b,hb,_,_=>by cases hb
 | x::l,i,h,b,hb,blk,hm=>by
  unfold z8r at h;cases hx:Yh mem x with
  | none=>
   rw [hx] at h;rcases AG.1 hb with rfl | hb
   ·rw [hx] at hm;cases hm
   ·exact y0o l (i+1) h b hb blk hm
  | some blk'=>
   rw [hx] at h;have h:(u3p blk'&&(z8r P mem N l (i+1)).2)=true:=h;simp only [Ad] at h;rcases AG.1 hb with rfl | hb
   ·rw [hx] at hm;obtain rfl:=Ag hm;exact h.1
   ·exact y0o l (i+1) h.2 b hb blk hm
theorem z4w {f:AVal→AVal} {lps:Loops}: ∀(l:List Nat) (i:Nat) (sl:List (Option (List Nat))) (j:Nat) (L:ALoop),y4b (w0t f lps l i sl) j=some L→i≤j∧ ∃b L0 x,l[j - i]? =some b∧y4b lps b=some L0∧L=⟨L0.st,L0.pend,L0.n,u8e f L0.env x,L0.params,L0.assign,L0.body⟩
 | [],i,sl,j,L,h=>by cases h
 | b::l,i,sl,j,L,h=>by
  unfold w0t at h;split at h
  ·obtain ⟨h1,b',L0,x,h2,h3,h4⟩:=z4w l (i+1) _ j L h
   grind
  ·rename_i st pend n env params assign body hb;rw [show y4b (v0v (w0t f lps l (i+1) sl.tail) i (some ⟨st,pend,n,u8e f env (sl.headD none),params,assign,body⟩)) j=if j=i then some ⟨st,pend,n,u8e f env (sl.headD none),params,assign,body⟩ else y4b (w0t f lps l (i+1) sl.tail) j from T.get_set none _ i _ j] at h;by_cases hj:j=i
   ·subst hj;rw [AI rfl] at h;obtain rfl:=Ag h;exact ⟨Aq _,b,_,_,by simp,hb,rfl⟩
   ·rw [AD hj] at h;obtain ⟨h1,b',L0,x,h2,h3,h4⟩:=z4w l (i+1) _ j L h
    grind
theorem x9i {mem:Mem} {w:World} {ρ:Rho} {N:z9r} {x x' y:Item} (h:y0h N.keep x=some x') (hx:w5u ρ x y):w5u (y5n ρ mem N w) x' y:=by
 cases hx with
 | inR j l e=>simp only [y0h,Al] at h;obtain ⟨j',hj,rfl⟩:=h;exact .inR j' l (by rw [(Kk hj).2];exact e)
 | endR j l e=>simp only [y0h,Al] at h;obtain ⟨j',hj,rfl⟩:=h;exact .endR j' l (by rw [(Kk hj).2];exact e)
 | same x hp=>
  have:y0h N.keep x=some x:=by
   unfold y0h;split
   ·cases hp
   ·cases hp
   grind
  rw [this] at h;obtain rfl:=Ag h;exact .same _ hp
theorem y1q {mem:Mem} {w:World} {ρ:Rho} {N:z9r}: ∀{l l' m:List Item},z5k N.keep l=some l'→y7t ρ l m→y7t (y5n ρ mem N w) l' m
 | [],l',m,h,ht=>by cases ht;obtain rfl:=Ag h;exact .nil
 | x::l,l',m,h,ht=>by
  cases ht with
  | cons hx ht=>
   unfold z5k at h;split at h
   ·rename_i y k hy hk;obtain rfl:=Ag h;exact .cons (x9i hy hx) (y1q hk ht)
   ·cases h
theorem w4d {mem:Mem} {next:Nat} {w:World} {ρ:Rho} (h:Rel ρ mem next w) {N:z9r} (ho:z8v mem N.frz=true) {cx:Ctx} {ro:Option RegOps} {todo todo':List Item} {rnd rnd':Option Nat} {env:T AVal} {b:Frame} {a:Act} {k:List Item} {ms:List Nat} (ht:z5k N.keep todo=some todo') (hr:x4q N.keep rnd=some rnd')
  (hf:v0x ρ cx ro todo rnd env b a k ms) (L:Option (List Nat)):v0x (y5n ρ mem N w) cx ro todo' rnd' (u8e (ren P mem N 6) env L) b a k ms∧(rnd'=none→rnd=none):=by
 refine ⟨⟨w4e h ho hf.env L,hf.defers,y1q ht hf.todo,hf.ro,?_⟩,fun e=> ?_⟩
 ·have hrn:=hf.rnd;cases rnd with
  | none=>obtain rfl:=Ag hr;exact hrn
  | some j=>simp only [x4q,Al] at hr;obtain ⟨j',hj,rfl⟩:=hr;obtain ⟨h0,l,h1,h2⟩:=hrn;exact ⟨h0,l,by rw [(Kk hj).2];exact h1,h2⟩
 ·cases rnd with
  | none=>rfl
  | some j=>simp_all [x4q]
theorem x4r {mem:Mem} {next:Nat} {w:World} {ρ:Rho} (h:Rel ρ mem next w) {N:z9r} (ho:z8v mem N.frz=true): ∀{cs cs':List AFr} {sl:List (Option (List Nat))} {css:List Frame} {mss:List Nat},w7y (ren P mem N 6) N.keep cs sl=some cs'→v0y P ρ cs css mss→v0y P (y5n ρ mem N w) cs' css mss∧(cs'≠ []→cs≠ [])
 | [],cs',sl,css,mss,hc,hr=>by cases hr;obtain rfl:=Ag hc;exact ⟨.nil,id⟩
 | af::cs,cs',sl,css,mss,hc,hr=>by
  cases hr with
  | cons hf hl ht=>
   unfold w7y at hc;split at hc
   ·rename_i todo' rnd' cs'' h1 h2 h3;obtain rfl:=Ag hc;obtain ⟨i1,i2⟩:=x4r h ho h3 ht;obtain ⟨f1,f2⟩:=w4d (P:=P) h ho h1 h2 hf (sl.headD none);exact ⟨.cons f1 (fun hne=>⟨(hl (i2 hne)).1,fun e=>(hl (i2 hne)).2 (f2 e)⟩) i1,fun _=>by simp⟩
   ·cases hc
def RowTo (ρ ρ':Rho) (L L':List AVal):Prop:=L'.length=L.length∧ ∀(j:Nat) (h1:j<L.length) (h2:j<L'.length) (v:Value),VRel ρ L[j] v→VRel ρ' L'[j] v
theorem z8c {mem:Mem} {next:Nat} {w:World} {ρ:Rho} (h:Rel ρ mem next w) {N:z9r} (ho:z8v mem N.frz=true): ∀(rw1:Rws),x0o rw1=true→ ∀k,RowTo ρ (y5n ρ mem N w) (rw1.get k) ((z8d (ren P mem N 6) rw1).get k)
 | .flat g,hf,k=>by refine ⟨rfl,fun j h1 h2 v hv=> ?_⟩;have fB: ∀i,(g i).all (pf 6)=true:=Jz hf;exact ((Ji 6 _ _ (At.1 (fB k) _ (A0 h1)) hv).mono (z4p h N)).mono (y7e _)
 | .one r cs b,hf,k=>by
  have ih:=z8c h ho (N:=N) b hf k;have hc:RowTo ρ (y5n ρ mem N w) cs (cs.map (ren P mem N 6)):=⟨by simp,fun j h1 h2 v hv=>by simpa using z4s h ho 6 _ _ hv⟩
  simp only [z8d,Rws.get];cases Nat.beq k r with
  | true=>exact hc
  | false=>exact ih
 | .alt c a b,hf,k=>by
  simp only [x0o,Ad] at hf;have iha:=z8c h ho (N:=N) a hf.1 k;have ihb:=z8c h ho (N:=N) b hf.2 k;simp only [z8d,Rws.get];cases c k with
  | true=>exact iha
  | false=>exact ihb
theorem w7x {mem:Mem} {next:Nat} {w:World} {ρ:Rho} (h:Rel ρ mem next w) {N:z9r} (ho:z8v mem N.frz=true) (hd:disj N.keep N.frz=true) (hfl:(z8r P mem N N.keep 0).2=true):Rel (y5n ρ mem N w) (z8r P mem N N.keep 0).1 N.keep.length w:=by
 obtain ⟨hnd,hdj⟩:=y6y hd;have get: ∀j,Yh (z8r P mem N N.keep 0).1 j=(N.keep[j]?).bind fun b=>(Yh mem b).map (y9u P mem N):=fun j=>by
  grind [x5m]
 have blk: ∀{b' l},(y5n ρ mem N w) b'=some l→ ∃b,N.keep[b']? =some b∧ρ b=some l:=fun {b' l} e=>by
  have e:(N.keep[b']?).bind (fun b=>ρ b)=some l:=e
  grind
 have live: ∀{b' b},N.keep[b']? =some b→(Yh (z8r P mem N N.keep 0).1 b').isSome =true→(Yh mem b).isSome =true:=fun {b' b} e hs=>by
  grind
 refine ⟨fun b' l e=> ?_,fun b' b'' l l' e e' hbl hs hs'=> ?_,fun b' l ab e hm=> ?_,fun k o e=> ?_,fun b' l e hs=> ?_,fun b' l e=> ?_,fun b' hb=> ?_,fun j l e=> ?_⟩
 ·grind
 ·obtain ⟨b,e1,e2⟩:=blk e;obtain ⟨c,e3,e4⟩:=blk e';have:=h.inj b c l l' e2 e4 hbl (live e1 hs) (live e3 hs');subst this;exact (List.getElem?_inj (Ba.1 e1).1 hnd).1 (e1.trans e3.symm)
 ·obtain ⟨b,e1,e2⟩:=blk e;rw [get,e1] at hm;simp only [Option.bind_some,Al] at hm;obtain ⟨ab0,hm0,rfl⟩:=hm;obtain ⟨hn,ht,har,cs,el,g1,g2,g3⟩:=h.blk b l ab0 e2 hm0;obtain ⟨cells,ty,arr⟩:=ab0;cases arr with
  | none=>
   refine ⟨by simpa [y9u] using hn,ht,(fun A hA=>by cases hA),cs,el,g1,g2,fun i hi=> ?_⟩
   grind [y9u,z4s]
  | some A=>
   obtain ⟨a1,a2,a3⟩:=har A rfl;simp only at a1;have hfb:u3p ⟨cells,ty,some A⟩=true:=y0o N.keep 0 hfl b (List.mem_of_getElem? e1) _ hm0;have gB:=z8c (P:=P) h ho (N:=N) A.rw hfb;have hl': ∀i,i<A.n→((z8d (ren P mem N 6) A.rw).get i).length =A.sz:=fun i hi=>by rw [(gB i).1];exact a3 i hi
   have k1:=Yp A.n a3;have k2:=Yp A.n hl';refine ⟨by show l.n=(Ym A.n _).length;grind,ht,(fun B hB=>by obtain rfl:=Ag hB;exact ⟨rfl,a2,hl'⟩),cs,el,g1,g2,fun i hi=> ?_⟩;have hi':i<A.n*A.sz:=by rw [←k2];exact hi
   have hj:i %A.sz<A.sz:=Bj _ a2;have hq:i / A.sz<A.n:=A5 (by grind);have e:i / A.sz*A.sz+i %A.sz=i:=by rw [Bs];exact Bk i A.sz
   have hic:i<cells.length:=by grind
   have r1:=Ws A.n a3 (i / A.sz) (i %A.sz) hq hj;have r2:=Ws A.n hl' (i / A.sz) (i %A.sz) hq hj;rw [e] at r1 r2;have hi2:i<(Ym A.n (z8d (ren P mem N 6) A.rw).get).length :=hi;have j1:i %A.sz<(A.rw.get (i / A.sz)).length :=by rw [show A.rw.get=A.get from rfl,a3 _ hq];exact hj
   have j2:i %A.sz<((z8d (ren P mem N 6) A.rw).get (i / A.sz)).length :=by grind
   obtain ⟨v,q1,q2⟩:=g3 i hic;have s1:cells[i]=(A.rw.get (i / A.sz))[i %A.sz]:=by
    have:cells[i]? =some (A.rw.get (i / A.sz))[i %A.sz]:=by rw [a1,r1,show A.get=A.rw.get from rfl,Au j1]
    grind
   have s2:(Ym A.n (z8d (ren P mem N 6) A.rw).get)[i]'hi2=((z8d (ren P mem N 6) A.rw).get (i / A.sz))[i %A.sz]:=by
    grind
   refine ⟨v,q1,?_⟩;show VRel _ ((Ym A.n (z8d (ren P mem N 6) A.rw).get)[i]'hi2) v;rw [s2];refine (gB _).2 _ j1 j2 v ?_
   grind
 ·have e: @ite _ (Fz ρ mem N k) (Classical.propDecidable _) (w.heap[k]?) (ρ.fz k)=some o:=e;by_cases hf:Fz ρ mem N k
  ·grind
  ·rw [AD hf] at e;exact h.old k o e
 ·obtain ⟨b,e1,e2⟩:=blk e;have hs0:=live e1 hs;have hnf: ¬Fz ρ mem N l.blk:=fun ⟨c,l',c1,c2,c3,c4⟩=>by
   have:=h.inj c b l' l c2 e2 c4 c3 hs0
   grind
  show @ite _ (Fz ρ mem N l.blk) (Classical.propDecidable _) (w.heap[l.blk]?) (ρ.fz l.blk)=none;rw [AD hnf];exact h.sep b l e2 hs0
 ·obtain ⟨b,_,e2⟩:=blk e;exact h.real b l e2
 ·grind
 ·have e:(N.keep[j]?).bind (fun b=>ρ.lp b)=some l:=e
  grind
theorem renEv {H:Old} {mem:Mem} {next:Nat} {w0 w:World} {ρ:Rho} (h:Rel ρ mem next w) {N:z9r} (he:Ev (rhoOf H) ρ 0 .leaf 0 mem next w0 w) (mem':Mem) (next':Nat):Ev (rhoOf H) (y5n ρ mem N w) 0 .leaf 0 mem' next' w0 w:=
 ⟨⟨fun b l e=>(by cases e),fun k o e=>z5i h N (he.ext.2.1 k o e),fun j l e=>(by cases e)⟩,fun b hb=>absurd hb (AH _),AB _,fun b hb=>absurd hb (AH _),he.frame,fun b l _ e=>by
   have e:(N.keep[b]?).bind (fun b=>ρ b)=some l:=e;rw [BH] at e;obtain ⟨c,_,e2⟩:=e;exact he.fresh c l (AB _) e2,he.size,he.os,he.tape,he.output,fun k hk=>by
   have hnf: ¬Fz ρ mem N k:=fun ⟨b,l,_,e2,_,e4⟩=>by
    rcases he.fresh b l (AB _) e2 with h1 | ⟨b0,l0,e0,_⟩
    ·omega
    ·cases e0
   show @ite _ (Fz ρ mem N k) (Classical.propDecidable _) (w.heap[k]?) (ρ.fz k)=_;rw [AD hnf];exact he.still k hk⟩
def y1j (P:Program) (C C':Cfg):Prop:=
 ∀(H:Old) (w0:World) (ρ:Rho) (b:Frame) (a:Act) (k:List Item) (css:List Frame) (w:World) (ma mb:List Nat),j7x P w0.heap.size C ρ b a k css w ma mb→Ev (rhoOf H) ρ 0 .leaf 0 C.st.mem C.st.next w0 w→ ∀cs0:List Frame,
  ∃ρ' b' a' k' css' w' ma' mb',Steps P (lone (b.atR a (Wg C.ro k)) (css++cs0) w) (lone (b'.atR a' (Wg C'.ro k')) (css'++cs0) w')∧j7x P w0.heap.size C' ρ' b' a' k' css' w' ma' mb'∧Ev (rhoOf H) ρ' 0 .leaf 0 C'.st.mem C'.st.next w0 w'∧w2i b' css'=w2i b css∧w.heap.size≤w'.heap.size
theorem y1j.refl (C:Cfg):y1j P C C:=fun H w0 ρ b a k css w ma mb hs he cs0=>⟨ρ,b,a,k,css,w,ma,mb,Steps.refl _ _,hs,he,rfl,Aq _⟩
theorem y1j.trans {A B C:Cfg} (h:y1j P A B) (k:y1j P B C):y1j P A C:=by intro H w0 ρ b a t css w ma mb hs he cs0;obtain ⟨ρ1,b1,a1,t1,css1,w1,ma1,mb1,s1,r1,e1,q1,z1⟩:=h H w0 ρ b a t css w ma mb hs he cs0;obtain ⟨ρ2,b2,a2,t2,css2,w2,ma2,mb2,s2,r2,e2,q2,z2⟩:=k H w0 ρ1 b1 a1 t1 css1 w1 ma1 mb1 r1 e1 cs0;exact ⟨ρ2,b2,a2,t2,css2,w2,ma2,mb2,s1.trans s2,r2,e2,q2.trans q1,AE z1 z2⟩
theorem y1i.goes {C C':Cfg} (h:y1i P 0 C C'):y1j P C C':=fun H w0 ρ b a k css w ma mb hs he cs0=>h .leaf 0 (rhoOf H) w0 ρ b a k css w ma mb hs he cs0
def fl0 (C:Cfg):Bool:=Nat.beq C.cx.floor 0&&C.cs.all fun af=>Nat.beq af.cx.floor 0
theorem u3q {C:Cfg} (h:fl0 C=true):Fl 0 C:=by unfold fl0 at h;simp only [Ad] at h;exact ⟨Ai h.1,fun af haf=>Ai (At.1 h.2 af haf),AB _⟩
theorem y5r {f:AVal→AVal} {keep:List Nat} {fl:Nat}: ∀{cs cs':List AFr} {sl:List (Option (List Nat))},w7y f keep cs sl=some cs'→(∀af∈cs,af.cx.floor=fl)→ ∀af∈cs',af.cx.floor=fl
 | [],cs',sl,h,_,af,haf=>by obtain rfl:=Ag h;cases haf
 | a0::cs,cs',sl,h,hcs,af,haf=>by
  unfold w7y at h;split at h
  ·rename_i t1 r1 c1 g1 g2 g3;obtain rfl:=Ag h;rcases AG.1 haf with rfl | haf
   ·grind
   ·exact y5r g3 (fun x hx=>hcs x (List.mem_cons_of_mem _ hx)) af haf
  ·cases h
theorem w8i {N:z9r} {C C':Cfg} (h:u2e P N C=some C') (ho:C'.st.ob=true):C.st.ob=true∧y1j P C C'∧(Fl 0 C→Fl 0 C'):=by
 obtain ⟨cx,ro,todo,rnd,rs,⟨env,mem,next,orc,ob⟩,cs,lps⟩:=C;simp only [u2e] at h;split at h
 ·rename_i todo' rnd' cs' h1 h2 h3;obtain ⟨hd,h⟩:=Yz h;obtain rfl:=Ag h;simp only [Ad] at ho;obtain ⟨hkm,ho2,ho3⟩:=ho;refine ⟨ho3,fun H w0 ρ b a k css w ma mb hs he cs0=> ?_,fun hfl=>⟨hfl.cx,fun af haf=> ?_,AB _⟩⟩
  ·have dT:=hs.rel;simp only at dT he;obtain ⟨f1,f2⟩:=w4d (P:=P) dT ho2 h1 h2 hs.top (N.slots.headD none);obtain ⟨c1,c2⟩:=x4r (P:=P) dT ho2 h3 hs.rest.cs;refine ⟨y5n ρ mem N w,b,a,k,css,w,ma,mb,Steps.refl _ _,⟨f1,fun hne=>⟨(hs.lv (c2 hne)).1,fun e=>(hs.lv (c2 hne)).2 (f2 e)⟩,⟨c1,hs.rest.nodup,fun r hr=> ?_,fun j L hL=> ?_,fun j j' L L' l hL hL' e e'=> ?_⟩,?_⟩,renEv dT he _ _,rfl,Aq _⟩
   ·obtain ⟨q1,⟨q2,q3,q4⟩,q5⟩:=hs.rest.marks r hr;refine ⟨q1,⟨q2,?_,fun b' l e=> ?_⟩,q5⟩
    ·show @ite _ (Fz ρ mem N r) (Classical.propDecidable _) (w.heap[r]?) (ρ.fz r)=none;rw [AD fun ⟨c,l,_,e2,_,e4⟩=>q4 c l e2 e4];exact q3
    ·have e:(N.keep[b']?).bind (fun b=>ρ b)=some l:=e
     grind
   ·obtain ⟨_,c,L0,x,e1,e2,rfl⟩:=z4w N.keep 0 _ j L hL;rw [Nat.sub_zero] at e1;obtain ⟨l,q1,q2,⟨q3,q4,q5⟩,tm,fn',d,q6,q7⟩:=hs.rest.loops c L0 e2;refine ⟨l,?_,q2,⟨q3,?_,fun b' l' e=> ?_⟩,tm,fn',d,q6,w4e (P:=P) dT ho2 q7 x⟩
    ·show (N.keep[j]?).bind (fun b=>ρ.lp b)=some l
     grind
    ·show @ite _ (Fz ρ mem N l) (Classical.propDecidable _) (w.heap[l]?) (ρ.fz l)=none;rw [AD fun ⟨c,l,_,e2,_,e4⟩=>q5 c l e2 e4];exact q4
    ·have e:(N.keep[b']?).bind (fun b=>ρ b)=some l':=e
     grind
   ·obtain ⟨_,c,L0,x,e1,e2,rfl⟩:=z4w N.keep 0 _ j L hL;obtain ⟨_,c',L0',x',e1',e2',rfl⟩:=z4w N.keep 0 _ j' L' hL';rw [Nat.sub_zero] at e1 e1';have e:(N.keep[j]?).bind (fun b=>ρ.lp b)=some l:=e;have e':(N.keep[j']?).bind (fun b=>ρ.lp b)=some l:=e';rw [e1] at e;rw [e1'] at e';have:=hs.rest.inj c c' L0 L0' l e2 e2' e e';subst this;exact (List.getElem?_inj (Ba.1 e1).1 (y6y hd).1).1 (e1.trans e1'.symm)
   ·exact w7x dT ho2 hd hkm
  ·exact y5r h3 hfl.cs af haf
 ·cases h
theorem x5o {S:Specs} {Rc:Runner} (hN:z9n P) (hmx:P.follows .mixedOrders =true) (hS:Zu P S) (hCI:w5t Rc) (hC:ROk P Rc) {fl:Nat}: ∀(n:Nat) (C C':Cfg),Fl fl C→u3d P S Rc n C=some C'→Fl fl C'∧Xb fl C.st C'.st∧(C'.st.ob=true→y1i P fl C C')
 | 0,C,C',hfl,h=>by
  obtain rfl:=Ag h
  grind [Xb.refl,y1i.refl]
 | n+1,C,C',hfl,h=>by
  have h:(match w6j P S Rc C with
   | some C'=>u3d P S Rc n C'
   | none=>none)=some C':=h
  split at h
  ·rename_i C1 h1;have s1:=x4d hN hmx hS hCI hC hfl h1;obtain ⟨f1,f4,f5⟩:=x5o hN hmx hS hCI hC n C1 C' s1.fls h;exact ⟨f1,s1.inv.trans f4,fun ho=>(s1.leads (f4.ob ho)).trans (f5 ho)⟩
  ·cases h
def Za (P:Program) (f:FuncId) (args:List AVal) (sym:Bool) (orc:List Bool):Cfg:=
 match P.funcs[f]? with
 | some fn=>⟨⟨Nat.max fn.ntmps args.length,0,sym⟩,none,[.code (fn.body.getD .ret)],none,fn.results.toList,⟨z7b args 0 .leaf,.leaf,0,orc,true⟩,[],.leaf⟩
 | none=>⟨⟨0,0,sym⟩,none,[],none,[],⟨.leaf,.leaf,0,[],true⟩,[],.leaf⟩
theorem goes_call {f:FuncId} {args:List AVal} {sym:Bool} {orc:List Bool} {C':Cfg} {vs:List AVal} {H:Old} (hf:(P.funcs[f]?).any (fun fn=>fn.body.isSome)=true) (h:y1j P (Za P f args sym orc) C') (gA:z4c C'=true) (hob:(Jq P C'.st (Za P f args sym orc).rs)=some vs)
  {vals:Array Value} {w:World} (dW:Vz (VRel (rhoOf H)) args vals.toList) (hH: ∀k o,H k=some o→w.heap[k]? =some o):
  Calls P f vals w fun e w'=> ∃ρ u,e=.returned u∧Out H w ρ (z0c vs) u w':=by
 cases hfn:P.funcs[f]? with
 | none=>grind
 | some fn=>
  rw [hfn] at hf;have hf:fn.body.isSome=true:=hf;obtain ⟨body,hb⟩:=BE.1 hf;have hstart:Za P f args sym orc=⟨⟨Nat.max fn.ntmps args.length,0,sym⟩,none,[.code body],none,fn.results.toList,⟨z7b args 0 .leaf,.leaf,0,orc,true⟩,[],.leaf⟩:=by unfold Za;grind
  rw [hstart] at h hob;simp only at hob;intro cs;obtain ⟨ρ',b',a',k',css',w',ma',mb',s1,r1,v1,q1,_⟩:=h H w (rhoOf H) ⟨f, #[],[],[],.run,.normal,none⟩ {tmps:=vals++Array.replicate (fn.ntmps - vals.size) undef,defers:=[]} [.code body] [] w [] []
   ⟨⟨z9b dW fn.ntmps,rfl,.cons (.same _ rfl) .nil,trivial,rfl⟩,fun h=>absurd rfl h,y0f _ _ _,x4s hH⟩ (Ev.refl _ _ _ _ _ (x4s hH).dom) cs
  obtain ⟨e1,e2,e3,e4⟩:=z6x gA;have hcs:=r1.rest.cs;rw [e3] at hcs;cases hcs;obtain ⟨w2,s2,fY,eG,fC,_,_⟩:=z9c r1 e1 e2 e4 rfl v1 cs;obtain ⟨u,hu,fH⟩:=z0f (fn:=fn) fY eG hob;have q:(b'.fn,b'.kind,b'.roundOf)=(f,CallKind.normal,none):=q1;simp only [Aa] at q;have hen:Frame.enter P f vals .normal =Frame.atR ⟨f, #[],[],[],.run,.normal,none⟩ {tmps:=vals++Array.replicate (fn.ntmps - vals.size) undef,defers:=[]} (Wg none [.code body]):=by
   grind [Frame.enter,Frame.atR,Wg]
  refine ⟨.returned u,w2,{b'.atR {a' with defers:=[]} k' with mode:=.returning},⟨ρ',u,rfl,out_of hu eG fC⟩,?_,q.1,rfl,rfl,q.2.1,fn,by show P.funcs[b'.fn]? =_;grind,fH⟩;rw [hen];exact s1.trans s2
def y5b (P:Program) (f:FuncId) (args:List AVal) (ty:TypeId) (sz n:Nat) (get:Nat→List AVal):Cfg:=
 match P.funcs[f]? with
 | some fn=>⟨⟨Nat.max fn.ntmps args.length,0,true⟩,none,[.code (fn.body.getD .ret)],none,fn.results.toList,⟨z7b args 0 .leaf,v8o ty sz n get,1,[],true⟩,[],.leaf⟩
 | none=>⟨⟨0,0,true⟩,none,[],none,[],⟨.leaf,.leaf,0,[],true⟩,[],.leaf⟩
theorem u3k {f:FuncId} {args:List AVal} {ty:TypeId} {sz n:Nat} {get:Nat→List AVal} {C':Cfg} {b n':Nat} {g:Nat→List AVal} {ty':TypeId} {H:Old} {l:Option Loc} (hf:(P.funcs[f]?).any (fun fn=>fn.body.isSome)=true) (h:y1j P (y5b P f args ty sz n get) C') (gA:z4c C'=true)
  (fH:(Jq P C'.st (y5b P f args ty sz n get).rs)=some [.sla b sz 0 n' (.un sz)]) (hmb:Yh C'.st.mem b=some ⟨Ym n' g,ty',some ⟨sz,n',.flat g⟩⟩)
  {vals:Array Value} {w:World} (dW:Vz (VRel (v0u H l)) args vals.toList) (dT:Rel (v0u H l) (v8o ty sz n get) 1 w):
  Calls P f vals w fun e w'=> ∃ρ' u m' nx b ty',e=.returned u∧VRel ρ' (.sla b sz 0 n' (.un sz)) u∧Yh m' b=some ⟨Ym n' g,ty',some ⟨sz,n',.flat g⟩⟩∧Rel ρ' m' nx w'∧
   (∀k o,H k=some o→ρ'.fz k=some o)∧w.heap.size≤w'.heap.size∧w'.os=w.os∧w'.tape=w.tape∧w'.output=w.output:=by
 cases hfn:P.funcs[f]? with
 | none=>grind
 | some fn=>
  rw [hfn] at hf;have hf:fn.body.isSome=true:=hf;obtain ⟨body,hb⟩:=BE.1 hf;have hstart:y5b P f args ty sz n get=⟨⟨Nat.max fn.ntmps args.length,0,true⟩,none,[.code body],none,fn.results.toList,⟨z7b args 0 .leaf,v8o ty sz n get,1,[],true⟩,[],.leaf⟩:=by unfold y5b;grind
  rw [hstart] at h fH;simp only at fH;intro cs
  let w0:World:={w with heap:= #[]}
  have hev0:Ev (rhoOf H) (v0u H l) 0 .leaf 0 (v8o ty sz n get) 1 w0 w:=
   ⟨⟨fun _ _ e=>(by cases e),fun _ _ e=>e,fun _ _ e=>(by cases e)⟩,fun b hb=>absurd hb (AH _),AB _,fun b hb=>absurd hb (AH _),fun k o e=>(by
     grind),fun _ _ _ _=>.inl (AB _),AB _,rfl,rfl,rfl,fun k hk=>absurd hk (AH _)⟩
  obtain ⟨ρ',b',a',k',css',w',ma',mb',s1,r1,v1,q1,z1⟩:=h H w0 (v0u H l) ⟨f, #[],[],[],.run,.normal,none⟩ {tmps:=vals++Array.replicate (fn.ntmps - vals.size) undef,defers:=[]} [.code body] [] w [] []
   ⟨⟨z9b dW fn.ntmps,rfl,.cons (.same _ rfl) .nil,trivial,rfl⟩,fun h=>absurd rfl h,y0f _ _ _,dT⟩ hev0 cs
  obtain ⟨e1,e2,e3,e4⟩:=z6x gA;have hcs:=r1.rest.cs;rw [e3] at hcs;cases hcs;obtain ⟨w2,s2,fY,eG,fC,_,z2⟩:=z9c r1 e1 e2 e4 rfl v1 cs;obtain ⟨u,hu,hresu⟩:=z0f (fn:=fn) fY eG fH;have q:(b'.fn,b'.kind,b'.roundOf)=(f,CallKind.normal,none):=q1;simp only [Aa] at q;have hen:Frame.enter P f vals .normal =Frame.atR ⟨f, #[],[],[],.run,.normal,none⟩ {tmps:=vals++Array.replicate (fn.ntmps - vals.size) undef,defers:=[]} (Wg none [.code body]):=by
   grind [Frame.enter,Frame.atR,Wg]
  refine ⟨.returned u,w2,{b'.atR {a' with defers:=[]} k' with mode:=.returning},⟨ρ',u,C'.st.mem,C'.st.next,b,ty',rfl,hu,hmb,eG,fun k o e=>fC.ext.2.1 k o e,AE z1 z2,fC.os,fC.tape,fC.output⟩,?_,q.1,rfl,rfl,q.2.1,fn,by show P.funcs[b'.fn]? =_;grind,hresu⟩;rw [hen];exact s1.trans s2
end
def Wt :List ABlk→Nat→Mem
 | [],_=>.leaf
 | b::l,i=>Xs (Wt l (i+1)) i (some b)
def x0m (c:Nat→Int):Nat→List AVal:=fun i=>[.int .i64 (c i)]
def Cfg.withO :Cfg→List Bool→Cfg
 | ⟨cx,ro,todo,rnd,rs,⟨env,mem,next,_,_⟩,cs,lps⟩,o=>⟨cx,ro,todo,rnd,rs,⟨env,mem,next,o,true⟩,cs,lps⟩
def Cfg.withB :Cfg→Bool→Cfg
 | ⟨cx,ro,todo,rnd,rs,⟨env,mem,next,_,_⟩,cs,lps⟩,b=>⟨cx,ro,todo,rnd,rs,⟨env,mem,next,[],b⟩,cs,lps⟩
inductive Xw (σ:Type) where
 | stuck
 | ret (vs:List AVal)
 | to (s:σ)
def Ur (P:Program) (rs:List ResultVar) (C:Cfg) (vs:List AVal):Prop:= ∃C',y1j P C C'∧z4c C'=true∧Jq P C'.st rs=some vs
def Xu (P:Program) (rs:List ResultVar) {σ:Type} (cfg:σ→Cfg) (C:Cfg):Xw σ→Prop
 | .stuck =>True
 | .ret vs=>Ur P rs C vs
 | .to s=>y1j P C (cfg s)
section
variable {P:Program} {rs:List ResultVar} {σ:Type} {cfg:σ→Cfg} {C:Cfg}
theorem w4x {c:Bool} {a b:Xw σ} (ha:c=true→Xu P rs cfg C a) (hb:c=false→Xu P rs cfg C b):Xu P rs cfg C (bif c then a else b):=by grind
theorem u3b {c:Bool} {a:Xw σ} (ha:c=true→Xu P rs cfg C a):Xu P rs cfg C (bif c then a else .stuck):=w4x ha fun _=>trivial
theorem Vi {vs:List AVal} (C':Cfg) (h:y1j P C C') (hf:z4c C'=true) (hr:Jq P C'.st rs=some vs):Xu P rs cfg C (.ret vs):=⟨C',h,hf,hr⟩
end
def Yx {σ:Type} (step:σ→Xw σ):Nat→Xw σ→Xw σ
 | 0,o=>o
 | n+1,.to s=>Yx step n (step s)
 | _+1,o=>o
theorem Zc {P:Program} {rs:List ResultVar} {σ:Type} {cfg:σ→Cfg} {step:σ→Xw σ} (eW: ∀s,Xu P rs cfg (cfg s) (step s)) {C:Cfg}: ∀(n:Nat) (o:Xw σ),Xu P rs cfg C o→Xu P rs cfg C (Yx step n o)
 | 0,o,h=>h
 | n+1,.stuck,h=>h
 | n+1,.ret vs,h=>h
 | n+1,.to s,h=>Zc eW n (step s) (match step s,eW s with
  | .stuck,_=>trivial
  | .ret vs,⟨C',g,hf,hr⟩=>⟨C',y1j.trans h g,hf,hr⟩
  | .to s',g=>y1j.trans h g)
theorem Zp {σ:Type} (step:σ→Xw σ) (n:Nat) (vs:List AVal):Yx step n (.ret vs)=.ret vs:=by cases n <;> rfl
theorem Zw {σ:Type} (step:σ→Xw σ) (n:Nat) (s:σ):Yx step (n+1) (.to s)=Yx step n (step s):=rfl
theorem y5y {a b:Bool} (ha:a=true) (hb:b=true):(a&&b)=true:=by grind
theorem v4n {a b:Bool} (h:a=b):(a == b)=true:=by grind
def Specs.with (S:Specs) (f:FuncId) (F:List AVal→Option (AVal×Bool)):Specs:=fun g=>bif Nat.beq g f then some (.val F) else S g
def Specs.withG (S:Specs) (f:FuncId) (ty:TypeId) (F:Nat→(Nat→List AVal)→List AVal→Option (Nat×(Nat→List AVal)×Bool)):Specs:=fun g=>bif Nat.beq g f then some (.gro ty F) else S g
theorem v1q {P:Program} {f:FuncId} {args:List AVal} {ty:TypeId} {sz n:Nat} {get:Nat→List AVal}:(y5b P f args ty sz n get).rs =Zy P f:=by
 grind [y5b,Zy]
theorem with_gro {P:Program} {S:Specs} (hS:Zu P S) {f:FuncId} {ty:TypeId} {F:Nat→(Nat→List AVal)→List AVal→Option (Nat×(Nat→List AVal)×Bool)} (hf:(P.funcs[f]?).any (fun fn=>fn.body.isSome)=true)
  (hF: ∀sz n get r n' g,F n get r=some (n',g,true)→plR sz n get=true→plR sz n' g=true→1≤sz→ ∃C' b ty',y1j P (y5b P f (.sla 0 sz 0 n (.un sz)::r) ty sz n get) C'∧z4c C'=true∧Jq P C'.st (Zy P f)=some [.sla b sz 0 n' (.un sz)]∧Yh C'.st.mem b=some ⟨Ym n' g,ty',some ⟨sz,n',.flat g⟩⟩):Zu P (S.withG f ty F):=by
 intro g G hg;unfold Specs.withG at hg;cases hgf:Nat.beq g f with
 | false=>rw [hgf] at hg;exact hS g G hg
 | true=>
  rw [hgf] at hg;obtain rfl:Spec.gro ty F=G:=Ag hg;obtain rfl:g=f:=Ai hgf;refine ⟨?_,fun sz n get r n' g' hv hp hp' hsz H l vals w dW dT _=> ?_⟩;all_goals grind [u3k,v1q]
theorem x4e {P:Program} {f:FuncId} {args:List AVal} {sym:Bool} {orc:List Bool}:(Za P f args sym orc).rs =Zy P f:=by
 grind [Za,Zy]
theorem v0z {P:Program} {S:Specs} (hS:Zu P S) {f:FuncId} {F:List AVal→Option (AVal×Bool)} (hf:(P.funcs[f]?).any (fun fn=>fn.body.isSome)=true)
  (hF: ∀args v,F args=some (v,true)→ ∃vs,z0c vs=v∧Ur P (Zy P f) (Za P f args true []) vs∧ ∃d,pf d v=true):Zu P (S.with f F):=by
 intro g G hg;unfold Specs.with at hg;cases hgf:Nat.beq g f with
 | false=>rw [hgf] at hg;exact hS g G hg
 | true=>
  rw [hgf] at hg;obtain rfl:Spec.val F=G:=Ag hg;obtain rfl:g=f:=Ai hgf;refine ⟨?_,fun args v hv H vals w dW hH=> ?_⟩
  ·grind
  ·obtain ⟨vs,rfl,⟨C',g1,g2,g3⟩,d,hp⟩:=hF args v hv;exact (goes_call hf g1 g2 (by rw [x4e];exact g3) dW hH).mono fun e w' ⟨ρ,u,he,ho⟩=>⟨ρ.fz,u,ho.le,ho.old,ho.same,he,Ji d _ u hp ho.val,ho.below⟩
def cOf (get:Nat→List AVal) (i:Nat):Int:=match get i with
 | .int _ n::_=>n
 | _=>0
def isI (get:Nat→List AVal):Bool:=pd (get=x0m (cOf get))
theorem w5b {get:Nat→List AVal} (h:isI get=true): ∃c,get=x0m c:=⟨_,Jz h⟩
theorem u2i (x:Int):(x != x)=false:=by simp
theorem u4e (x:Int):(x == x)=true:=by simp
theorem v4s (x:Int):(!(x != x))=true:=by simp
theorem v4v (x:Int):(!(x == x))=false:=by simp
theorem w64 (n:Int):IntKind.i64.wrap n=(n+9223372036854775808) %18446744073709551616 - 9223372036854775808:=by rw [IntKind.wrap_i64]
theorem w_in {n:Int} (h: -9223372036854775808≤n) (h':n≤9223372036854775807):IntKind.i64.wrap n=n:=by simp only [w64];omega
theorem x3a (x y:Int):z0o x y=min x y:=by unfold z0o;grind
theorem y6q (x y:Int):Qh x y=max x y:=by unfold Qh;grind
inductive VLe :AVal→AVal→Prop
 | refl (v:AVal):VLe v v
 | undef (v:AVal):VLe v .undef
 | nils (b sz off:Nat) (cap:v0r):VLe .nils (.sla b sz off 0 cap)
 | sl (b sz q len:Nat) (cap:v0r):VLe (.sl b (q*sz) len cap) (.sla b sz q len cap)
 | nild (g:Nat→List AVal):VLe .nils (.dat 0 g)
 | dat (n:Nat) (g g':Nat→List AVal) (h: ∀i,i<n→g i=g' i):VLe (.dat n g) (.dat n g')
 | dptr (cs cs':List AVal) (hl:cs.length=cs'.length) (h: ∀(ρ:Rho) (i:Nat) (h1:i<cs.length) (h2:i<cs'.length) (v:Value),VRel ρ cs[i] v→VRel ρ cs'[i] v):VLe (.dptr cs) (.dptr cs')
theorem VLe.sound {ρ:Rho} {a a':AVal} {v:Value} (h:VLe a a') (hv:VRel ρ a v):VRel ρ a' v:=by
 cases h with
 | refl=>exact hv
 | undef=>exact .undef _
 | nils b sz off cap=>cases hv;exact .slan b sz off cap
 | sl b sz q len cap=>cases hv with | sl _ _ _ _ l c h hc dU=>exact .sla b sz q len cap l c h hc dU
 | nild g=>cases hv;exact .datn _
 | dptr cs cs' hl h=>cases hv with
  | dptr _ blk base val q1 q2=>exact .dptr cs' blk base val (fun j hj=>h _ j (by omega) hj _ (q1 j (by omega))) fun j hj=>q2 j (by omega)
 | dat n g g' hg=>
  cases hv with
  | datn=>exact .datn _
  | datz=>exact .datz _ _ _
  | dat _ _ blk base sz cap val eA hsz hv hh=>
   refine .dat n g' blk base sz cap val eA (fun i hi=>by grind) (fun i j hi hj=> ?_) hh
   grind
theorem VLe.of_undef {a:AVal} (h:VLe .undef a):a=.undef :=by cases h <;> rfl
inductive RLe :List AVal→List AVal→Prop
 | nil:RLe [] []
 | cons {a b:AVal} {l m:List AVal} (h:VLe a b) (t:RLe l m):RLe (a::l) (b::m)
theorem RLe.refl : ∀l:List AVal,RLe l l
 | []=>.nil
 | a::l=>.cons (.refl a) (RLe.refl l)
theorem RLe.len {l m:List AVal} (h:RLe l m):l.length=m.length:=by
 induction h with
 | nil=>rfl
 | cons _ _ ih=>simp [ih]
theorem RLe.get {l m:List AVal} (h:RLe l m): ∀(i:Nat) (h1:i<l.length) (h2:i<m.length),VLe l[i] m[i]:=by
 induction h with
 | nil=>grind
 | cons h _ ih=>
  grind
inductive BLe :Option ABlk→Option ABlk→Prop
 | refl (b:Option ABlk):BLe b b
 | drop (b:Option ABlk):BLe b none
 | rowed (cells:List AVal) (ty:TypeId) (a:Option Arr) (sz n:Nat) (g:Nat→List AVal) (hc:cells=Ym n g) (h1:1≤sz) (hl: ∀i,i<n→(g i).length =sz):BLe (some ⟨cells,ty,a⟩) (some ⟨Ym n g,ty,some ⟨sz,n,g⟩⟩)
 | rws (ty:TypeId) (sz n:Nat) (a a':Rws) (h: ∀k,k<n→RLe (a.get k) (a'.get k)):BLe (some ⟨Ym n a.get,ty,some ⟨sz,n,a⟩⟩) (some ⟨Ym n a'.get,ty,some ⟨sz,n,a'⟩⟩)
theorem BLe.sound {ρ:Rho} {w:World} {a a':ABlk} {l:Loc} (h:BLe (some a) (some a')) (hb:Uo ρ w a l):Uo ρ w a' l:=by
 cases h with
 | refl=>exact hb
 | rowed cells ty a sz n g hc h1 hl=>subst hc;refine ⟨hb.n,hb.tot,fun A hA=> ?_,hb.cells⟩;obtain rfl:=Ag hA;exact ⟨rfl,h1,hl⟩
 | rws ty sz n a a' h=>
  obtain ⟨_,h1,hl⟩:=hb.arr _ rfl;have h1:1≤sz:=h1;have hl: ∀k,k<n→(a.get k).length =sz:=hl;have hl': ∀k,k<n→(a'.get k).length =sz:=fun k hk=>by rw [←(h k hk).len];exact hl k hk
  have k1:=Yp n hl;have k2:=Yp n hl';obtain ⟨cs,el,g1,g2,g3⟩:=hb.cells;refine ⟨by rw [hb.n];show (Ym n a.get).length =(Ym n a'.get).length;rw [k1,k2],hb.tot,fun A hA=> ?_,cs,el,g1,g2,fun i hi=> ?_⟩
  ·obtain rfl:=Ag hA;exact ⟨rfl,h1,hl'⟩
  ·have hi2:i<(Ym n a'.get).length :=hi;have hi':i<n*sz:=by rw [←k2];exact hi
   have hj:i %sz<sz:=Bj _ h1;have hq:i / sz<n:=A5 (by rw [Bs];exact hi');have e:i / sz*sz+i %sz=i:=by rw [Bs];exact Bk i sz
   have hic:i<(Ym n a.get).length :=by rw [k1];exact hi'
   have r1:=Ws n hl (i / sz) (i %sz) hq hj;have r2:=Ws n hl' (i / sz) (i %sz) hq hj;rw [e] at r1 r2;have j1:i %sz<(a.get (i / sz)).length :=by rw [hl _ hq];exact hj
   have j2:i %sz<(a'.get (i / sz)).length :=by rw [hl' _ hq];exact hj
   obtain ⟨v,q1,q2⟩:=g3 i hic;have q2:VRel ρ ((Ym n a.get)[i]'hic) v:=q2;refine ⟨v,q1,?_⟩;show VRel ρ ((Ym n a'.get)[i]'hi2) v;rw [Au hic,Au j1] at r1;rw [Au hi2,Au j2] at r2;rw [Ag r1] at q2;rw [Ag r2];exact ((h _ hq).get _ j1 j2).sound q2
theorem y0a {g h:Nat→List AVal}: ∀(n:Nat),(∀i,i<n→g i=h i)→Ym n g=Ym n h
 | 0,_=>rfl
 | n+1,e=>by rw [z7v,z7v,y0a n fun i hi=>e i (by omega),e n (by omega)]
def z5v (l:List Int):Nat→Int:=fun k=>l.getD k 0
def z7j (asz sz off len n:Nat) (get:Nat→List AVal):AVal:=bif Nat.beq asz sz&&Nat.ble (off+len) n then .dat len (fun k=>get (off+k)) else .undef
theorem j4y (sz n:Nat) (g:Nat→List AVal):z7j sz sz 0 n n g=.dat n g:=by
 unfold z7j;rw [show (Nat.beq sz sz&&Nat.ble (0+n) n)=true by simp_all,Ae]
 grind
def z0v (g:Nat→List AVal):Bool:=pd (∀i,(g i).all (pf 6)=true)
theorem u4s {p:AVal→Bool} {l:List AVal} (h:l.all p=true) (n:Nat):(l.take n).all p=true:=
 by grind
theorem u4t {p:AVal→Bool} {l:List AVal} (h:l.all p=true) (n:Nat):(l.drop n).all p=true:=
 by grind
theorem v6h {g:Nat→List AVal} {off len sz:Nat} {new:List AVal} (h:z0v g=true) (hn:new.all (pf 6)=true):z0v (Yy g off len sz new)=true:=Xz fun i=>by
 unfold Yy;cases Nat.ble len i with
 | true=>grind
 | false=>exact Jz h _
theorem v6e {g:Nat→List AVal} {r fo:Nat} {cs:List AVal} (h:z0v g=true) (hn:cs.all (pf 6)=true):z0v (Xh g r fo cs)=true:=Xz fun i=>by
 unfold Xh;cases Nat.beq i r with
 | true=>rw [Ae,List.all_append,List.all_append,u4s (Jz h r),hn,u4t (Jz h r)];rfl
 | false=>exact Jz h _
theorem w5x {P:Program} {S:Specs} (hS:Zu P S) {f:FuncId} {F:List AVal→Option (AVal×Bool)} (hf:(P.funcs[f]?).any (fun fn=>fn.body.isSome)=true)
  (hF: ∀args v,F args=some (v,true)→ ∃vs,(∀(ρ:Rho) (u:Value),VRel ρ (z0c vs) u→VRel ρ v u)∧Ur P (Zy P f) (Za P f args true []) vs∧ ∃d,pf d (z0c vs)=true):Zu P (S.with f F):=by
 intro g G hg;unfold Specs.with at hg;cases hgf:Nat.beq g f with
 | false=>rw [hgf] at hg;exact hS g G hg
 | true=>
  rw [hgf] at hg;obtain rfl:Spec.val F=G:=Ag hg;obtain rfl:g=f:=Ai hgf;refine ⟨?_,fun args v hv H vals w dW hH=> ?_⟩
  ·grind
  ·obtain ⟨vs,hw,⟨C',g1,g2,g3⟩,d,hp⟩:=hF args v hv;exact (goes_call hf g1 g2 (by rw [x4e];exact g3) dW hH).mono fun e w' ⟨ρ,u,he,ho⟩=>⟨ρ.fz,u,ho.le,ho.old,ho.same,he,hw _ _ (Ji d _ u hp ho.val),ho.below⟩
theorem w9h :z0v (fun _=>[])=true:=Xz fun _=>rfl
theorem w1k (s t:Nat):z0v (fun k=>(([]:List AVal).drop (k*s)).take t)=true:=Xz fun i=>by simp
theorem y6u {g:Nat→List AVal} {o:Nat} (h:z0v g=true):z0v (fun k=>g (o+k))=true:=Xz fun i=>Jz h (o+i)
theorem v6g {g h:Nat→List AVal} {len:Nat} (p:z0v g=true) (q:z0v h=true):z0v (Kf g len h)=true:=Xz fun i=>by
 unfold Kf;cases Nat.ble len i with
 | true=>exact Jz q _
 | false=>exact Jz p _
def x6a (sz n:Nat) (g:Nat→List AVal):Bool:=pd (∀i,i<n→(g i).length =sz∧(g i).all y0q=true)
open Go.Sort Go.RowKit
variable {P:Program} {ρ:Rho}
theorem Rel.rewritten {mem:Mem} {next:Nat} {w w':World} (h:Rel ρ mem next w) {b:Nat} {l:Loc} {ab:ABlk} (hb:ρ b=some l) (hm:Yh mem b=some ab) {cs:List AVal}
  (dU:cs.length=ab.cells.length) (eI: ∀k,k<w.heap.size→k≠l.blk→w'.heap[k]? =w.heap[k]?) (hsize:w.heap.size≤w'.heap.size)
  (hnew: ∃cur el,w'.heap[l.blk]? =some (.cells cur el (0,0))∧l.base+l.tot≤cur.size∧ ∀(i:Nat) (hi:i<cs.length),∃v,cur[l.base+i]? =some v∧VRel ρ cs[i] v):
  Rel ρ (Xs mem b (some ⟨cs,ab.ty,none⟩)) next w':=by
 have hbk:=h.blk b l ab hb hm;refine ⟨h.dom,fun c c' m m' e e' he hs hs'=> ?_,fun c m ac e hc=> ?_,fun k o e=> ?_,fun c m e hs=>h.sep c m e (by
  grind [Zv]),fun c m e=>AX (h.real c m e) hsize,fun c hc=>by have:=h.dom b l hb;rw [Zv _ _ (by omega)];exact h.bd c hc,h.ldom⟩
 ·refine h.inj c c' m m' e e' he ?_ ?_;all_goals grind [Zv]
 ·by_cases hcb:c=b
  ·subst hcb;rw [Yv] at hc;obtain rfl:=Ag hc;rw [hb] at e;obtain rfl:=Ag e;exact ⟨by rw [dU];exact hbk.n,hbk.tot,(fun A e=>by cases e),hnew⟩
  ·rw [Zv _ _ hcb] at hc;refine (h.blk c m ac e hc).world (Rho.le_refl _) (eI m.blk (h.real c m e) fun heq=>hcb ?_);exact h.inj c b m l e hb heq (by rw [hc];rfl) (by rw [hm];rfl)
 ·have hk:=h.old k o e;rw [eI k ?_ ?_]
  ·exact hk
  ·grind
  ·intro heq;have:=h.sep b l hb (by rw [hm];rfl)
   grind
def Yd (n:Nat) (c:Nat→Int):List Int:=(List.range n).map c
def fRow (srt:List Int→List Int) (args:List AVal) (mem:Mem):Option (AVal×Nat×ABlk×Bool):=match args with
 | [.sla b sz off n cap]=>match Yh mem b with
  | some ⟨_,ty,some A⟩=>some (.tup [],b,⟨Ym A.n (x0m (z5v (srt (Yd n (cOf A.get))))),ty,some ⟨1,A.n,x0m (z5v (srt (Yd n (cOf A.get))))⟩⟩,
    Nat.beq sz 1&&(Nat.beq A.sz 1&&(Nat.beq off 0&&(decide (n=A.n)&&(isI A.get&&decide (n<4611686018427387904))))))
  | _=>none
 | _=>none
theorem z0e (n:Nat) (c:Nat→Int) (i:Nat) (h:i<n):(Ym n (x0m c))[i]? =some (.int .i64 (c i)):=by
 have:=Ws (get:=x0m c) (sz:=1) n (fun _ _=>rfl) i 0 h Nat.one_pos
 simpa [x0m] using this
theorem Jk (n:Nat) (c:Nat→Int):(Ym n (x0m c)).length =n:=by rw [Yp (sz:=1) n fun _ _=>rfl,Nat.mul_one]
theorem z5p (w:World) (n blk off:Nat) (d:Array Int) (os:Array Obj) (k:Nat) (hk:k<w.heap.size):
  (grow (putRow (Value.int .i64) (Go.Sort.ahead w n) blk off d) os).heap[k]? =if k=blk then (w.heap[k]?).map (onCells (putCells (Value.int .i64) off d)) else w.heap[k]? :=by
 show (((Go.Sort.ahead w n).heap.modify blk (onCells (putCells (Value.int .i64) off d)))++os)[k]? =_;rw [Array.getElem?_append_left (by simp_all),Array.getElem?_modify];show (if blk=k then _ else _)=_;by_cases h:k=blk
 ·simp_all
 ·rw [AD (fun e=>h e.symm),AD h];rfl
theorem Ev.rewritten {mem:Mem} {next floor:Nat} {w w':World} (h:Rel ρ mem next w) {b:Nat} (o:Option ABlk) (hb: ∀l,ρ b=some l→floor≤b) (hnone:ρ b=none→ ∀cs ty,Yh mem b≠some ⟨cs,ty,none⟩)
  (eI: ∀k,k<w.heap.size→(∀l,ρ b=some l→k≠l.blk)→w'.heap[k]? =w.heap[k]?) (hsize:w.heap.size≤w'.heap.size) (h1:w'.os=w.os) (h2:w'.tape=w.tape) (h3:w'.output=w.output):
  Ev ρ ρ floor mem next (Xs mem b o) next w w' where
 ext:=Rho.le_refl _
 new _ _:=rfl
 nxt:=Aq _
 unborn k _ e cs ty hm:=by
  grind [Zv]
 frame k o hk hfr:=by
  grind
 fresh k m hk e:=by have:=h.dom k m e;omega
 size:=hsize
 os:=h1
 tape:=h2
 output:=h3
 still _ _:=rfl
theorem Rel.unbornSet {mem:Mem} {next:Nat} {w:World} (h:Rel ρ mem next w) {b:Nat} (hb:ρ b=none) (hlt:b<next) (o:Option ABlk):Rel ρ (Xs mem b o) next w:=by
 have ne: ∀c l,ρ c=some l→c≠b:=fun c l e he=>by grind
 refine ⟨h.dom,fun c c' m m' e e' he hs hs'=> ?_,fun c m ac e hc=> ?_,h.old,fun c m e hs=> ?_,h.real,fun c hc=> ?_,h.ldom⟩
 ·rw [Zv _ _ (ne _ _ e)] at hs;rw [Zv _ _ (ne _ _ e')] at hs';exact h.inj c c' m m' e e' he hs hs'
 ·rw [Zv _ _ (ne _ _ e)] at hc;exact h.blk c m ac e hc
 ·rw [Zv _ _ (ne _ _ e)] at hs;exact h.sep c m e hs
 ·rw [Zv _ _ (by omega)];exact h.bd c hc
theorem j7a {f:FuncId} {srt:List Int→List Int} (hsl: ∀zs,(srt zs).length =zs.length)
  (hC: ∀(blk off cap:Nat) (zs:List Int) (w:World),Holds (Value.int .i64) w blk off zs.toArray→blk<w.heap.size→zs.length<4611686018427387904→
   Calls P f #[.slice (some ⟨blk,off,none⟩) zs.length cap] w fun e w'=>e=.returned (.tuple #[])∧ ∃n os,w'=grow (putRow (Value.int .i64) (Go.Sort.ahead w n) blk off (srt zs).toArray) os)
  (hN: ∀(p:Option Addr) (cap:Nat) (w:World),Calls P f #[.slice p 0 cap] w fun e w'=>e=.returned (.tuple #[])∧w'=w):x6x P f (fRow srt):=by
 intro args mem v b blk h fW ρ next floor vals w hfl dW dT
 unfold fRow at h;split at h
 ·rename_i b0 sz off n cap;split at h
  ·rename_i cells ty A hm;obtain ⟨asz,an,get⟩:=A;simp only [Ab,Aa,Ad] at h;obtain ⟨rfl,rfl,rfl,h1,h2,h3,h4,h5,h6⟩:=h;have g1:=Ai h1;have g2:=Ai h2;have g3:=Ai h3;have g4:n=an:=Aw h4;have h6:n<4611686018427387904:=Aw h6;subst g1;subst g2;subst g3;subst g4;obtain ⟨c,hcg⟩:=w5b h5;have e0:cOf (x0m c)=c:=rfl;simp only [hcg,e0];obtain ⟨u,hu,hvals⟩: ∃u,VRel ρ (.sla b0 1 0 n cap) u∧vals= #[u]:=by
    obtain ⟨vl⟩:=vals;cases dW with
    | cons h1 h2=>cases h2;grind
   subst hvals;have hlt:b0<next:=by
    rcases A4 b0 next with h | h
    ·exact h
    ·have:=dT.bd b0 h;grind
   generalize hL:srt (Yd n c)=L;have hLl:L.length=n:=by grind [Yd]
   have hnn:ρ b0=none→ ∀cs ty',Yh mem b0≠some ⟨cs,ty',none⟩:=fun _ cs ty' e=>by grind
   cases hu with
   | sla _ _ _ _ _ l cc e hc dU=>
    have hbk:=dT.blk b0 l _ e hm;obtain ⟨har,_,_⟩:=hbk.arr _ rfl;simp only [hcg] at har;subst har;obtain ⟨cur,el,hh,hsz,dY⟩:=hbk.cells;simp only [Jk] at dY;have eZ: ∀i,i<n→cur[l.base+i]? =some (.int .i64 (c i)):=fun i hi=>by obtain ⟨v,e1,e2⟩:=dY i hi;rw [show (Ym n (x0m c))[i]'(by grind)=.int .i64 (c i) from Ag (by rw [←Au,z0e n c i hi])] at e2;cases e2;exact e1
    have fF:=dT.real b0 l e;have hzs:(Yd n c).length =n:=(by grind);have hH:Holds (Value.int .i64) w l.blk (l.base+0*1) (Yd n c).toArray :=fun j hj=>by
     grind [World.cell?,Yd,World.frozen?]
    have eF:=hC l.blk (l.base+0*1) cc (Yd n c) w hH fF (by omega);rw [hzs,hL] at eF;refine eF.mono fun e' w' ⟨he,q,os,hw'⟩=>⟨_,he,?_,?_,?_⟩
    ·exact .tup [] #[] rfl fun i h1 h2=>absurd h1 (AH _)
    ·subst hw';refine Rel.setArr ?_ ⟨1,n,x0m (z5v L)⟩ rfl (Aq 1) fun _ _=>rfl;refine Rel.rewritten dT e hm (by simp only [Jk]) (fun k hk hne=> ?_) ?_ ?_
     ·grind [z5p]
     ·simp_all
     ·refine ⟨putCells (Value.int .i64) (l.base+0*1) L.toArray cur,el,?_,?_,fun i hi=> ?_⟩
      ·rw [z5p _ _ _ _ _ _ _ fF,AI rfl,hh];rfl
      ·grind [putCells]
      ·rw [Jk] at hi;refine ⟨.int .i64 (z5v L i),?_,?_⟩
       ·grind [putCells,z5v]
       ·rw [show (Ym n (x0m (z5v L)))[i]'(by grind)=.int .i64 (z5v L i) from Ag (by rw [←Au,z0e n _ i hi])];exact .int _ _
    ·subst hw';refine Ev.rewritten dT _ (fun l' _=>hfl) hnn (fun k hk hne=> ?_) ?_ rfl rfl rfl
     ·grind [z5p]
     simp_all
   | slan=>
    refine (hN none 0 w).mono fun e' w' ⟨he,hw'⟩=>⟨_,he,?_,?_,?_⟩
    ·exact .tup [] #[] rfl fun i h1 h2=>absurd h1 (AH _)
    ·subst hw';refine Rel.setArr ?_ ⟨1,0,x0m (z5v L)⟩ rfl (Aq 1) fun _ _=>rfl;cases e:ρ b0 with
     | none=>exact Rel.unbornSet dT e hlt _
     | some l=>have hbk:=dT.blk b0 l _ e hm;obtain ⟨har,_,_⟩:=hbk.arr _ rfl;simp only [hcg] at har;subst har;obtain ⟨cur,el,hh,hsz,dY⟩:=hbk.cells;exact Rel.rewritten dT e hm rfl (fun _ _ _=>rfl) (Aq _) ⟨cur,el,hh,hsz,fun i hi=>absurd hi (AH _)⟩
    grind [Ev.rewritten]
  ·cases h
 ·cases h
def fCut (srt:List Int→List Int) (res:List Int→Nat) (args:List AVal) (mem:Mem):Option (AVal×Nat×ABlk×Bool):=match args with
 | [.sla b sz off n cap]=>match Yh mem b with
  | some ⟨_,ty,some A⟩=>some (.sla b 1 0 (res (Yd n (cOf A.get))) cap,b,⟨Ym A.n (x0m (z5v (srt (Yd n (cOf A.get))))),ty,some ⟨1,A.n,x0m (z5v (srt (Yd n (cOf A.get))))⟩⟩,
    Nat.beq sz 1&&(Nat.beq A.sz 1&&(Nat.beq off 0&&(decide (n=A.n)&&(isI A.get&&decide (n<4611686018427387904))))))
  | _=>none
 | _=>none
theorem j7b {f:FuncId} {srt:List Int→List Int} {res:List Int→Nat} (hsl: ∀zs,(srt zs).length =zs.length) (fH: ∀zs,res zs≤zs.length)
  (hC: ∀(blk off cap:Nat) (zs:List Int) (w:World),Holds (Value.int .i64) w blk off zs.toArray→blk<w.heap.size→zs.length<4611686018427387904→zs.length≤cap→
   Calls P f #[.slice (some ⟨blk,off,none⟩) zs.length cap] w fun e w'=>e=.returned (.slice (some ⟨blk,off,none⟩) (res zs) cap)∧ ∃n os,w'=grow (putRow (Value.int .i64) (Go.Sort.ahead w n) blk off (srt zs).toArray) os)
  (hN: ∀(p:Option Addr) (cap:Nat) (w:World),Calls P f #[.slice p 0 cap] w fun e w'=>e=.returned (.slice p 0 cap)∧w'=w):x6x P f (fCut srt res):=by
 intro args mem v b blk h fW ρ next floor vals w hfl dW dT
 unfold fCut at h;split at h
 ·rename_i b0 sz off n cap;split at h
  ·rename_i cells ty A hm;obtain ⟨asz,an,get⟩:=A;simp only [Ab,Aa,Ad] at h;obtain ⟨rfl,rfl,rfl,h1,h2,h3,h4,h5,h6⟩:=h;have g1:=Ai h1;have g2:=Ai h2;have g3:=Ai h3;have g4:n=an:=Aw h4;have h6:n<4611686018427387904:=Aw h6;subst g1;subst g2;subst g3;subst g4;obtain ⟨c,hcg⟩:=w5b h5;have e0:cOf (x0m c)=c:=rfl;simp only [hcg,e0];obtain ⟨u,hu,hvals⟩: ∃u,VRel ρ (.sla b0 1 0 n cap) u∧vals= #[u]:=by
    obtain ⟨vl⟩:=vals;cases dW with
    | cons h1 h2=>cases h2;grind
   subst hvals;have hlt:b0<next:=by
    rcases A4 b0 next with h | h
    ·exact h
    ·have:=dT.bd b0 h;grind
   generalize hL:srt (Yd n c)=L;have hLl:L.length=n:=by grind [Yd]
   have hnn:ρ b0=none→ ∀cs ty',Yh mem b0≠some ⟨cs,ty',none⟩:=fun _ cs ty' e=>by grind
   cases hu with
   | sla _ _ _ _ _ l cc e hc dU=>
    have hbk:=dT.blk b0 l _ e hm;obtain ⟨har,_,_⟩:=hbk.arr _ rfl;simp only [hcg] at har;subst har;obtain ⟨cur,el,hh,hsz,dY⟩:=hbk.cells;simp only [Jk] at dY;have eZ: ∀i,i<n→cur[l.base+i]? =some (.int .i64 (c i)):=fun i hi=>by obtain ⟨v,e1,e2⟩:=dY i hi;rw [show (Ym n (x0m c))[i]'(by grind)=.int .i64 (c i) from Ag (by rw [←Au,z0e n c i hi])] at e2;cases e2;exact e1
    have fF:=dT.real b0 l e;have hzs:(Yd n c).length =n:=(by grind);have hH:Holds (Value.int .i64) w l.blk (l.base+0*1) (Yd n c).toArray :=fun j hj=>by
     grind [World.cell?,Yd,World.frozen?]
    have eF:=hC l.blk (l.base+0*1) cc (Yd n c) w hH fF (by omega) (by omega);rw [hzs,hL] at eF;refine eF.mono fun e' w' ⟨he,q,os,hw'⟩=>⟨_,he,?_,?_,?_⟩
    ·exact .sla _ _ _ _ _ l cc e hc (AE (fH _) (by omega))
    ·subst hw';refine Rel.setArr ?_ ⟨1,n,x0m (z5v L)⟩ rfl (Aq 1) fun _ _=>rfl;refine Rel.rewritten dT e hm (by simp only [Jk]) (fun k hk hne=> ?_) ?_ ?_
     ·grind [z5p]
     ·simp_all
     ·refine ⟨putCells (Value.int .i64) (l.base+0*1) L.toArray cur,el,?_,?_,fun i hi=> ?_⟩
      ·rw [z5p _ _ _ _ _ _ _ fF,AI rfl,hh];rfl
      ·grind [putCells]
      ·rw [Jk] at hi;refine ⟨.int .i64 (z5v L i),?_,?_⟩
       ·grind [putCells,z5v]
       ·rw [show (Ym n (x0m (z5v L)))[i]'(by grind)=.int .i64 (z5v L i) from Ag (by rw [←Au,z0e n _ i hi])];exact .int _ _
    ·subst hw';refine Ev.rewritten dT _ (fun l' _=>hfl) hnn (fun k hk hne=> ?_) ?_ rfl rfl rfl
     ·grind [z5p]
     simp_all
   | slan=>
    refine (hN none 0 w).mono fun e' w' ⟨he,hw'⟩=>⟨_,he,?_,?_,?_⟩
    ·rw [show res (Yd 0 c)=0 from Nat.le_zero.1 (fH _)];exact .slan _ _ _ _
    ·subst hw';refine Rel.setArr ?_ ⟨1,0,x0m (z5v L)⟩ rfl (Aq 1) fun _ _=>rfl;cases e:ρ b0 with
     | none=>exact Rel.unbornSet dT e hlt _
     | some l=>have hbk:=dT.blk b0 l _ e hm;obtain ⟨har,_,_⟩:=hbk.arr _ rfl;simp only [hcg] at har;subst har;obtain ⟨cur,el,hh,hsz,dY⟩:=hbk.cells;exact Rel.rewritten dT e hm rfl (fun _ _ _=>rfl) (Aq _) ⟨cur,el,hh,hsz,fun i hi=>absurd hi (AH _)⟩
    grind [Ev.rewritten]
  ·cases h
 ·cases h
def q4 (f:Nat→Nat→Int):Nat→List AVal:=fun k=>[.int .i64 (f k 0),.int .i64 (f k 1),.int .i64 (f k 2),.int .i64 (f k 3)]
theorem x5e (a:Nat):(Nat.beq a a == true)=true:=by simp_all
inductive VP where
 | keep
 | drop
  | grow (b sz:Nat)
  | list (n:Nat) (g:Nat→List AVal)
  | len (n:Nat)
  | frz (n n':Nat) (a g:Nat→List AVal)
def Kv (n:Nat) (a g:Nat→List AVal):Bool:=pd (∀i,i<n→a i=g i)
def v3i (cells:List AVal) (sz n:Nat) (g:Nat→List AVal):Bool:=pd (cells=Ym n g∧1≤sz∧ ∀i,i<n→(g i).length =sz)
def rlesR (n:Nat) (a g:Nat→List AVal):Bool:=pd (∀i,i<n→RLe (a i) (g i))
def x2t (a b:Nat):Bool:=pd (a=b)
theorem Un {a b:Nat} (h:a=b):x2t a b=true:=Xz h
def v6a (v:AVal) (n:Nat) (a:Nat→List AVal):Bool:=pd (v=.dat n a)
theorem u3m (sz n:Nat) (g:Nat→List AVal):v6a (z7j sz sz 0 n n g) n g=true:=Xz (j4y sz n g)
theorem v5z (n:Nat) (g:Nat→List AVal):v6a (.dat n g) n g=true:=Xz rfl
def x5j :VP→AVal→Bool→AVal×Bool
 | .keep,v,ob=>(v,ob)
 | .drop,_,ob=>(.undef,ob)
 | .grow b sz,v,ob=>match v with
  | .nils =>(.sla b sz 0 0 (.un sz),ob)
  | .sl b o len cap=>(.sla b sz 0 len cap,Nat.beq o 0&&ob)
  | v=>(v,ob)
 | .list n' g,v,ob=>match v with
  | .nils =>(.dat 0 g,ob)
  | .dat n a=>(.dat n' g,x2t n n'&&(Kv n a g&&ob))
  | v=>(v,ob)
 | .len n',v,ob=>match v with
  | .sla b sz off n cap=>(.sla b sz off n' cap,x2t n n'&&ob)
  | v=>(v,ob)
 | .frz n n' a g,v,ob=>(.dat n' g,v6a v n a&&(x2t n n'&&(Kv n a g&&ob)))
theorem w4v {p:VP} {v:AVal} {ob:Bool} (h:(x5j p v ob).2=true):VLe v (x5j p v ob).1∧ob=true:=by
 cases p with
 | keep=>exact ⟨.refl _,h⟩
 | drop=>exact ⟨.undef _,h⟩
 | grow b sz=>
  cases v with
  | nils=>exact ⟨.nils _ _ _ _,h⟩
  | sl b' o len cap=>simp only [x5j,Ad] at h;have e:=Ai h.1;subst e;have:=VLe.sl b' sz 0 len cap;rw [Nat.zero_mul] at this;exact ⟨this,h.2⟩
  | _=>exact ⟨.refl _,h⟩
 | list n' g=>
  cases v with
  | nils=>exact ⟨.nild _,h⟩
  | dat n a=>simp only [x5j,Ad] at h;obtain rfl:=Jz h.1;exact ⟨.dat _ _ _ (Jz h.2.1),h.2.2⟩
  | _=>exact ⟨.refl _,h⟩
 | len n'=>
  cases v with
  | sla b sz off n cap=>simp only [x5j,Ad] at h;obtain rfl:=Jz h.1;exact ⟨.refl _,h.2⟩
  | _=>exact ⟨.refl _,h⟩
 | frz n n' a g=>simp only [x5j,Ad] at h;obtain rfl:=Jz h.1;obtain rfl:=Jz h.2.1;exact ⟨.dat _ _ _ (Jz h.2.2.1),h.2.2.2⟩
def x5i :List VP→List AVal→Bool→List AVal×Bool
 | _,[],ob=>([],ob)
 | [],l,ob=>(l,ob)
 | p::ps,v::l,ob=>match x5i ps l ob with
  | (l',ob)=>match x5j p v ob with
   | (v',ob)=>(v'::l',ob)
theorem y6i : ∀{ps:List VP} {l:List AVal} {ob:Bool},(x5i ps l ob).2=true→RLe l (x5i ps l ob).1∧ob=true
 | [],[],_,h=>⟨.nil,h⟩
 | _::_,[],_,h=>⟨.nil,h⟩
 | [],a::l,_,h=>⟨RLe.refl _,h⟩
 | p::ps,v::l,ob,h=>by simp only [x5i] at h ⊢;obtain ⟨h1,h2⟩:=w4v h;obtain ⟨h3,h4⟩:=y6i h2;exact ⟨.cons h1 h3,h4⟩
inductive BP where
 | keep
 | drop
 | cells (ps:List VP)
 | rowed (sz n:Nat) (g:Nat→List AVal)
 | rws (a:Rws)
def y7z :BP→Option ABlk→Bool→Option ABlk×Bool
 | .keep,o,ob=>(o,ob)
 | .drop,_,ob=>(none,ob)
 | .cells ps,o,ob=>match o with
  | some ⟨cells,ty,none⟩=>match x5i ps cells ob with
   | (cs,ob)=>(some ⟨cs,ty,none⟩,ob)
  | o=>(o,ob)
 | .rowed sz n g,o,ob=>match o with
  | some ⟨cells,ty,none⟩=>(some ⟨Ym n g,ty,some ⟨sz,n,.flat g⟩⟩,v3i cells sz n g&&ob)
  | some ⟨_,ty,some ⟨sz',n',a⟩⟩=>(some ⟨Ym n g,ty,some ⟨sz',n,.flat g⟩⟩,x2t n' n&&(Kv n' a.get g&&ob))
  | o=>(o,ob)
 | .rws a',o,ob=>match o with
  | some ⟨_,ty,some ⟨sz,n,a⟩⟩=>(some ⟨Ym n a'.get,ty,some ⟨sz,n,a'⟩⟩,rlesR n a.get a'.get&&ob)
  | o=>(o,ob)
theorem RLe.sound {ρ:Rho} {l m:List AVal} (h:RLe l m) (i:Nat) (h1:i<l.length) (h2:i<m.length) {v:Value} (hv:VRel ρ l[i] v):VRel ρ m[i] v:=(h.get i h1 h2).sound hv
theorem w0o {p:BP} {o:Option ABlk} {ob:Bool} {x':ABlk} (h:(y7z p o ob).2=true) (hx:(y7z p o ob).1=some x'):ob=true∧ ∃x,o=some x∧ ∀(ρ:Rho) (w:World) (l:Loc),Uo ρ w x l→Uo ρ w x' l:=by
 cases p with
 | keep=>exact ⟨h,x',hx,fun _ _ _ q=>q⟩
 | drop=>cases hx
 | cells ps=>
  rcases o with _ | ⟨cells,ty,_ | A⟩
  ·cases hx
  ·simp only [y7z] at h hx;obtain ⟨h1,h2⟩:=y6i h;obtain rfl:=Ag hx;refine ⟨h2,_,rfl,fun ρ w l hb=> ?_⟩;obtain ⟨cs,el,g1,g2,g3⟩:=hb.cells;refine ⟨by rw [hb.n];exact h1.len,hb.tot,(fun A hA=>by cases hA),cs,el,g1,g2,fun i hi=> ?_⟩;have hi0:i<cells.length:=by rw [h1.len];exact hi
   obtain ⟨v,q1,q2⟩:=g3 i hi0;exact ⟨v,q1,h1.sound i hi0 hi q2⟩
  ·exact ⟨h,_,rfl,fun ρ w l hb=>by obtain rfl:=Ag hx;exact hb⟩
 | rowed sz n g=>
  rcases o with _ | ⟨cells,ty,_ | ⟨sz',n',a⟩⟩
  ·cases hx
  ·simp only [y7z,Ad] at h hx;obtain rfl:=Ag hx;obtain ⟨h1,h2,h3⟩:=Jz h.1;exact ⟨h.2,_,rfl,fun ρ w l hb=>(BLe.rowed cells ty none sz n g h1 h2 h3).sound hb⟩
  ·simp only [y7z,Ad] at h hx;obtain rfl:=Ag hx;obtain rfl:=Jz h.1;have h1:=Jz h.2.1;refine ⟨h.2.2,_,rfl,fun ρ w l hb=> ?_⟩;obtain ⟨q1,q2,q3⟩:=hb.arr _ rfl;exact (BLe.rowed cells ty _ sz' n' g (q1.trans (y0a _ h1)) q2 fun i hi=>by rw [←h1 i hi];exact q3 i hi).sound hb
 | rws a'=>
  rcases o with _ | ⟨cells,ty,_ | ⟨sz',n',a⟩⟩
  ·cases hx
  ·exact ⟨h,_,rfl,fun ρ w l hb=>by obtain rfl:=Ag hx;exact hb⟩
  ·simp only [y7z,Ad] at h hx;obtain rfl:=Ag hx;refine ⟨h.2,_,rfl,fun ρ w l hb=> ?_⟩;obtain ⟨q1,_,_⟩:=hb.arr _ rfl;have q1:cells=Ym n' a.get:=q1;subst q1;exact (BLe.rws ty sz' n' a a' (Jz h.1)).sound hb
def w8s :List (Nat×VP)→T AVal→Bool→T AVal×Bool
 | [],env,ob=>(env,ob)
 | (t,p)::l,env,ob=>match w8s l env ob with
  | (e,ob)=>match x5j p (T.get .undef e t) ob with
   | (v,ob)=>(T.set .undef e t v,ob)
def ELe (e e':T AVal):Prop:= ∀t,(∀(ρ:Rho) (v:Value),VRel ρ (T.get .undef e t) v→VRel ρ (T.get .undef e' t) v)∧(T.get .undef e t=.undef →T.get .undef e' t=.undef)
theorem ELe.refl (e:T AVal):ELe e e:=fun _=>⟨fun _ _ h=>h,fun h=>h⟩
theorem x2s : ∀{l:List (Nat×VP)} {env:T AVal} {ob:Bool},(w8s l env ob).2=true→ELe env (w8s l env ob).1∧ob=true
 | [],_,_,h=>⟨ELe.refl _,h⟩
 | (t,p)::l,env,ob,h=>by
  simp only [w8s] at h ⊢;obtain ⟨h1,h2⟩:=w4v h;obtain ⟨h3,h4⟩:=x2s h2;refine ⟨fun s=> ?_,h4⟩;rw [T.get_set];by_cases e:s=t
  ·subst e;rw [AI rfl];exact ⟨fun ρ v hv=>h1.sound ((h3 s).1 ρ v hv),fun hu=>by have e:=(h3 s).2 hu;rw [e] at h1 ⊢;exact h1.of_undef⟩
  ·rw [AD e];exact h3 s
def w0n :List BP→Nat→Mem→Bool→Mem×Bool
 | [],_,m,ob=>(m,ob)
 | p::ps,i,m,ob=>match w0n ps (i+1) m ob with
  | (m',ob)=>match y7z p (Yh m i) ob with
   | (x,ob)=>(Xs m' i x,ob)
theorem u3a {p:BP} {o:Option ABlk} {ob:Bool} (h:(y7z p o ob).2=true):ob=true:=by
 cases p with
 | keep=>exact h
 | drop=>exact h
 | cells ps=>
  rcases o with _ | ⟨cells,ty,_ | A⟩
  ·exact h
  ·exact (y6i h).2
  ·exact h
 | rowed sz n g=>
  rcases o with _ | ⟨cells,ty,_ | A⟩;all_goals simp_all [y7z]
 | rws a=>
  rcases o with _ | ⟨cells,ty,_ | A⟩;all_goals simp_all [y7z]
theorem x0h : ∀{ps:List BP} {i:Nat} {m:Mem} {ob:Bool},(w0n ps i m ob).2=true→ob=true∧ ∀b x',Yh (w0n ps i m ob).1 b=some x'→ ∃x,Yh m b=some x∧ ∀(ρ:Rho) (w:World) (l:Loc),Uo ρ w x l→Uo ρ w x' l
 | [],_,_,_,h=>⟨h,fun b x' hb=>⟨x',hb,fun _ _ _ q=>q⟩⟩
 | p::ps,i,m,ob,h=>by
  simp only [w0n] at h ⊢;have hob:(w0n ps (i+1) m ob).2=true:=u3a h;obtain ⟨h1,h2⟩:=x0h hob;refine ⟨h1,fun b x' hb=> ?_⟩;rw [Vk] at hb;by_cases e:b=i
  ·subst e;rw [AI rfl] at hb;exact (w0o h hb).2
  ·rw [AD e] at hb;exact h2 b x' hb
def w8r :List (List (Nat×VP))→List AFr→Bool→List AFr×Bool
 | _,[],ob=>([],ob)
 | [],l,ob=>(l,ob)
 | p::ps,⟨cx,ro,todo,rnd,rs,env⟩::l,ob=>match w8r ps l ob with
  | (l',ob)=>match w8s p env ob with
   | (e,ob)=>(⟨cx,ro,todo,rnd,rs,e⟩::l',ob)
def FLe (a a':AFr):Prop:=a.cx=a'.cx∧a.ro=a'.ro∧a.todo=a'.todo∧a.rnd=a'.rnd∧a.rs=a'.rs∧ELe a.env a'.env
theorem FLe.refl (a:AFr):FLe a a:=⟨rfl,rfl,rfl,rfl,rfl,ELe.refl _⟩
theorem Vz.refl' : ∀l:List AFr,Vz FLe l l
 | []=>.nil
 | a::l=>.cons (FLe.refl a) (Vz.refl' l)
theorem w4w : ∀{ps:List (List (Nat×VP))} {l:List AFr} {ob:Bool},(w8r ps l ob).2=true→Vz FLe l (w8r ps l ob).1∧ob=true
 | [],[],_,h=>⟨.nil,h⟩
 | _::_,[],_,h=>⟨.nil,h⟩
 | [],a::l,_,h=>⟨Vz.refl' _,h⟩
 | p::ps,⟨cx,ro,todo,rnd,rs,env⟩::l,ob,h=>by simp only [w8r] at h ⊢;obtain ⟨h1,h2⟩:=x2s h;obtain ⟨h3,h4⟩:=w4w h2;exact ⟨.cons ⟨rfl,rfl,rfl,rfl,rfl,h1⟩ h3,h4⟩
structure Less where
 slots:List (Nat×VP):=[]
 blks:List BP:=[]
 cs:List (List (Nat×VP)):=[]
def w8u (L:Less):Cfg→Cfg
 | ⟨cx,ro,todo,rnd,rs,⟨env,mem,next,orc,ob⟩,cs,lps⟩=>match w8r L.cs cs ob with
  | (cs',ob)=>match w0n L.blks 0 mem ob with
   | (mem',ob)=>match w8s L.slots env ob with
    | (env',ob)=>⟨cx,ro,todo,rnd,rs,⟨env',mem',next,orc,ob⟩,cs',lps⟩
def x5t :List (TypeId×Nat×(Nat→List AVal))→Nat→Mem→Mem
 | [],_,m=>m
 | (ty,sz,g)::l,i,m=>Xs (x5t l (i+1) m) i (some ⟨[],ty,some ⟨sz,0,.flat g⟩⟩)
def w5e (gs:List (TypeId×Nat×(Nat→List AVal))):Cfg→Cfg
 | ⟨cx,ro,todo,rnd,rs,⟨env,mem,next,orc,ob⟩,cs,lps⟩=>⟨cx,ro,todo,rnd,rs,⟨env,x5t gs next mem,next+gs.length,orc,ob⟩,cs,lps⟩
theorem y0t : ∀(gs:List (TypeId×Nat×(Nat→List AVal))) (i:Nat) (m:Mem) (b:Nat),(b<i→Yh (x5t gs i m) b=Yh m b)∧(i+gs.length≤b→Yh (x5t gs i m) b=Yh m b)
 | [],i,m,b=>⟨fun _=>rfl,fun _=>rfl⟩
 | (ty,sz,g)::l,i,m,b=>by obtain ⟨h1,h2⟩:=y0t l (i+1) m b;simp only [x5t,Vk,Bn];exact ⟨fun h=>by rw [AD (by omega)];exact h1 (by omega),fun h=>by rw [AD (by omega)];exact h2 (by omega)⟩
theorem v0y.less {P:Program} {ρ:Rho} {cs:List AFr} {css:List Frame} {mss:List Nat} (h:v0y P ρ cs css mss): ∀{cs':List AFr},Vz FLe cs cs'→v0y P ρ cs' css mss:=by
 induction h with
 | nil=>intro cs' h;cases h;exact .nil
 | @cons af b a k ms cs css mss hf hl t ih=>
  intro cs' h;cases h with
  | @cons _ af' _ cs'' h1 h2=>
   obtain ⟨e1,e2,e3,e4,e5,e6⟩:=h1;have hne:cs''≠ []→cs≠ []:=fun hn he=>by subst he;cases h2;exact hn rfl
   rw [show Wg af.ro k=Wg af'.ro k by rw [e2]];exact .cons ⟨by rw [←e1];exact ⟨hf.env.size,fun t=>(e6 t).1 _ _ (hf.env.get t),fun t ht=>(e6 t).2 (hf.env.out t ht)⟩,hf.defers,by rw [←e3];exact hf.todo,by rw [←e2];exact hf.ro,by rw [←e4];exact hf.rnd⟩
    (fun hn=>by grind) (ih h2)
theorem y0s {P:Program} {cx:Ctx} {ro:Option RegOps} {todo:List Item} {rnd:Option Nat} {rs:List ResultVar} {env env':T AVal} {mem mem':Mem} {k k':Nat} {o o':List Bool} {b0 b0':Bool} {cs cs':List AFr} {lps:Loops}
  (hE:ELe env env') (hC:Vz FLe cs cs') (hM: ∀b x',b<k→Yh mem' b=some x'→ ∃x,Yh mem b=some x∧ ∀(ρ:Rho) (w:World) (l:Loc),Uo ρ w x l→Uo ρ w x' l) (hk:k≤k') (hbd:(∀b,k≤b→Yh mem b=none)→ ∀b,k'≤b→Yh mem' b=none):
  y1j P ⟨cx,ro,todo,rnd,rs,⟨env,mem,k,o,b0⟩,cs,lps⟩ ⟨cx,ro,todo,rnd,rs,⟨env',mem',k',o',b0'⟩,cs',lps⟩:=
 fun H w0 ρ b a t css w ma mb hs he cs0=>by
  have hr:=hs.rel;simp only at hr he;have hne:cs'≠ []→cs≠ []:=fun hn e=>by subst e;cases hC;exact hn rfl
  refine ⟨ρ,b,a,t,css,w,ma,mb,Steps.refl _ _,⟨⟨?_,hs.top.defers,hs.top.todo,hs.top.ro,hs.top.rnd⟩,fun hn=>hs.lv (hne hn),⟨hs.rest.cs.less hC,hs.rest.nodup,hs.rest.marks,hs.rest.loops,hs.rest.inj⟩,?_⟩,?_,rfl,Aq _⟩
  ·exact ⟨hs.top.env.size,fun t=>(hE t).1 _ _ (hs.top.env.get t),fun t ht=>(hE t).2 (hs.top.env.out t ht)⟩
  ·have lift: ∀c l,ρ c=some l→(Yh mem' c).isSome =true→(Yh mem c).isSome =true:=fun c l hc h=>by obtain ⟨x,hx⟩:=BE.1 h;obtain ⟨y,hy,_⟩:=hM c x (hr.dom c l hc) hx;rw [hy];rfl
   refine ⟨fun c l hc=>AX (hr.dom c l hc) hk,fun c c' l l' hc hc' hl h1 h2=>hr.inj c c' l l' hc hc' hl (lift c l hc h1) (lift c' l' hc' h2),fun c l ab hc h1=> ?_,hr.old,fun c l hc h1=>hr.sep c l hc (lift c l hc h1),hr.real,hbd hr.bd,fun j l hj=>AX (hr.ldom j l hj) hk⟩;obtain ⟨y,hy,h2⟩:=hM c ab (hr.dom c l hc) h1;exact h2 _ _ _ (hr.blk c l y hc hy)
  ·exact ⟨he.ext,fun _ hb=>absurd hb (AH _),AB _,fun _ hb=>absurd hb (AH _),he.frame,he.fresh,he.size,he.os,he.tape,he.output,he.still⟩
theorem w8t {P:Program} {L:Less} {C:Cfg} (ho:(w8u L C).st.ob =true):C.st.ob=true∧y1j P C (w8u L C):=by
 obtain ⟨cx,ro,todo,rnd,rs,⟨env,mem,next,orc,ob⟩,cs,lps⟩:=C;simp only [w8u] at ho ⊢;obtain ⟨h1,h2⟩:=x2s ho;obtain ⟨h3,h4⟩:=x0h h2;obtain ⟨h5,h6⟩:=w4w h3;refine ⟨h6,y0s h1 h5 (fun b x' _ hb=>h4 b x' hb) (Aq _) fun hbd b hb=> ?_⟩;cases hq:Yh (w0n L.blks 0 mem (w8r L.cs cs ob).2).1 b with
 | none=>rfl
 | some x'=>
  grind
theorem w1e {P:Program} (gs:List (TypeId×Nat×(Nat→List AVal))) (C:Cfg):y1j P C (w5e gs C)∧(w5e gs C).st.ob =C.st.ob:=by
 obtain ⟨cx,ro,todo,rnd,rs,⟨env,mem,next,orc,ob⟩,cs,lps⟩:=C;exact ⟨y0s (ELe.refl _) (Vz.refl' _) (fun b x' hb h=>⟨x',by grind [y0t],fun _ _ _ q=>q⟩) (Nat.le_add_right _ _) fun hbd b hb=>by
  rw [(y0t gs next mem b).2 hb];grind,rfl⟩
theorem w9c {P:Program} {C C':Cfg} {orc:List Bool} {ob:Bool} (g:y1j P (C.withO orc) (C'.withB ob)):y1j P C C':=by
 obtain ⟨cx,ro,todo,rnd,rs,⟨env,mem,next,o,b⟩,cs,lps⟩:=C;obtain ⟨cx',ro',todo',rnd',rs',⟨env',mem',next',o',b'⟩,cs',lps'⟩:=C';exact fun H w0 ρ b a k css w ma mb hs he cs0=>by obtain ⟨ρ',b',a',k',css',w',ma',mb',h1,h2,h3,h4⟩:=g H w0 ρ b a k css w ma mb ⟨hs.top,hs.lv,hs.rest,hs.rel⟩ he cs0;exact ⟨ρ',b',a',k',css',w',ma',mb',h1,⟨h2.top,h2.lv,h2.rest,h2.rel⟩,h3,h4⟩
theorem v9a {P:Program} {S:Specs} (hN:z9n P) (hmx:P.follows .mixedOrders =true) (hS:Zu P S) {n m d:Nat} {C C':Cfg} (gs:List (TypeId×Nat×(Nat→List AVal))) (N:z9r) (L:Less) (orc:List Bool) (ob:Bool)
  (h:(((u3d P S (j2j P S m d) n (C.withO orc)).map (w5e gs)).bind (u2e P N)).map (w8u L)=some (C'.withB ob)) (ho:ob=true) (hfl:fl0 C=true):y1j P C C':=by
 rw [Al] at h;obtain ⟨C2,h1,h2⟩:=h;rw [BH] at h1;obtain ⟨C1,h3,h4⟩:=h1;rw [Al] at h3;obtain ⟨C0,h5,rfl⟩:=h3;have hfo:fl0 (C.withO orc)=true:=by obtain ⟨cx,ro,todo,rnd,rs,⟨env,mem,next,o,b⟩,cs,lps⟩:=C;exact hfl
 obtain ⟨hCI,hC⟩:=v3a hN hmx hS m d;obtain ⟨f1,f2,f3⟩:=x5o hN hmx hS hCI hC n (C.withO orc) C0 (u3q hfo) h5;have hob:(w8u L C2).st.ob =true:=by rw [h2];obtain ⟨cx,ro,todo,rnd,rs,⟨env,mem,next,o,b⟩,cs,lps⟩:=C';exact ho
 obtain ⟨l1,l2⟩:=w8t (P:=P) hob;obtain ⟨g1,g2,_⟩:=w8i h4 l1;obtain ⟨q1,q2⟩:=w1e (P:=P) gs C0;rw [q2] at g1;have:=(((f3 g1).goes.trans q1).trans g2).trans l2;rw [h2] at this;exact w9c this
theorem x1t (n:Nat) (g:Nat→List AVal):Kv n g g=true:=Xz fun _ _=>rfl
theorem v2t (a g:Nat→List AVal):Kv 0 a g=true:=Xz fun _ h=>absurd h (AH _)
theorem u4o {a b:Nat} (h: ¬a≤b):Nat.ble a b=false:=A1.2 fun e=>h (Aj e)
theorem u4n {a b:Nat} (h:a≤b):Nat.ble a b=true:=by simp_all
theorem v2x {n N sz:Nat} {G H H':Nat→List AVal} {cells:List AVal} (m:Nat) (h:Kv n G H=true) (hN:N=n+m) (h0: ∀i,i<n→H' i=H i) (h1: ∀i,i<m→(cells.drop (i*sz)).take sz=H' (n+i)):Kv N (Yy G 0 n sz cells) H'=true:=Xz fun i hi=>by
 unfold Yy;by_cases e:n≤i
 ·grind [u4n]
 ·rw [u4o e,Ac,Af,Jz h i (by omega),h0 i (by omega)]
theorem y0x {α:Type} {sz:Nat}: ∀(l:List (List α)) (i:Nat),(∀x∈l,x.length=sz)→i<l.length→(l.flatten.drop (i*sz)).take sz=l.getD i []
 | [],i,_,h=>absurd h (AH _)
 | x::l,0,hl,_=>by
  grind
 | x::l,i+1,hl,h=>by have hx:=hl x (by simp);rw [List.flatten_cons,List.getD_cons_succ,←y0x l i (fun y hy=>hl y (by simp [hy])) (by simpa using h)];rw [List.drop_append,hx,show (i+1)*sz - sz=i*sz by rw [AS,BL];omega,As (by rw [hx,AS,BL];omega),A8]
theorem v2w {m N:Nat} {G H H':Nat→List AVal} (h':Kv m H H'=true) (hN:N=0+m):Kv N (Kf G 0 H) H'=true:=Xz fun i hi=>Jz h' i (by omega)
theorem x8d {n:Nat} {G H:Nat→List AVal} (h:Kv n G H=true):Kv n (fun k=>G (0+k)) H=true:=by grind
theorem u0p {cells:List AVal} {sz n:Nat} {g:Nat→List AVal} (h:cells=Ym n g) (h1:Nat.ble 1 sz=true) (h2: ∀i,(g i).length =sz):v3i cells sz n g=true:=Xz ⟨h,Aj h1,fun i _=>h2 i⟩
def z7i :List (Nat×ABlk)→Mem
 | []=>.leaf
 | (i,b)::l=>Xs (z7i l) i (some b)
def y4a :List (Nat×ALoop)→Loops
 | []=>.leaf
 | (i,b)::l=>v0v (y4a l) i (some b)
class Xk (α:Type) where
 w:Nat
 d:α
 cells:α→List AVal
 of:List AVal→α
 len: ∀a,(cells a).length =w
 pos:1≤w
 flat: ∀a,(cells a).all (pf 6)=true
 sc: ∀a,(cells a).all y0q=true
 back: ∀a,of (cells a)=a
def iOf :AVal→Int
 | .int _ n=>n
 | _=>0
def oOf :AVal→Bool
 | .bool b=>b
 | _=>false
instance : Xk Int where
 w:=1
 d:=0
 cells x:=[.int .i64 x]
 of l:=iOf (l.getD 0 .undef)
 len _:=rfl
 pos:=Aq 1
 flat _:=rfl
 sc _:=rfl
 back _:=rfl
instance : Xk Bool where
 w:=1
 d:=false
 cells x:=[.bool x]
 of l:=oOf (l.getD 0 .undef)
 len _:=rfl
 pos:=Aq 1
 flat _:=rfl
 sc _:=rfl
 back _:=rfl
structure R2 where
 (a b:Int)
 deriving DecidableEq
structure R3 where
 (a b c:Int)
 deriving DecidableEq
structure R4 where
 (a b c d:Int)
 deriving DecidableEq
structure R6 where
 (a b c d e f:Int)
 deriving DecidableEq
instance : Xk R2 where
 w:=2
 d:=⟨0,0⟩
 cells x:=[.int .i64 x.a,.int .i64 x.b]
 of l:=⟨iOf (l.getD 0 .undef),iOf (l.getD 1 .undef)⟩
 len _:=rfl
 pos:=by decide
 flat _:=rfl
 sc _:=rfl
 back _:=rfl
instance : Xk R3 where
 w:=3
 d:=⟨0,0,0⟩
 cells x:=[.int .i64 x.a,.int .i64 x.b,.int .i64 x.c]
 of l:=⟨iOf (l.getD 0 .undef),iOf (l.getD 1 .undef),iOf (l.getD 2 .undef)⟩
 len _:=rfl
 pos:=by decide
 flat _:=rfl
 sc _:=rfl
 back _:=rfl
instance : Xk R4 where
 w:=4
 d:=⟨0,0,0,0⟩
 cells x:=[.int .i64 x.a,.int .i64 x.b,.int .i64 x.c,.int .i64 x.d]
 of l:=⟨iOf (l.getD 0 .undef),iOf (l.getD 1 .undef),iOf (l.getD 2 .undef),iOf (l.getD 3 .undef)⟩
 len _:=rfl
 pos:=by decide
 flat _:=rfl
 sc _:=rfl
 back _:=rfl
instance : Xk R6 where
 w:=6
 d:=⟨0,0,0,0,0,0⟩
 cells x:=[.int .i64 x.a,.int .i64 x.b,.int .i64 x.c,.int .i64 x.d,.int .i64 x.e,.int .i64 x.f]
 of l:=⟨iOf (l.getD 0 .undef),iOf (l.getD 1 .undef),iOf (l.getD 2 .undef),iOf (l.getD 3 .undef),iOf (l.getD 4 .undef),iOf (l.getD 5 .undef)⟩
 len _:=rfl
 pos:=by decide
 flat _:=rfl
 sc _:=rfl
 back _:=rfl
section
variable {α:Type} [Xk α]
def rd (L:List α) (k:Nat):α:=L.getD k Xk.d
def Zz (L:List α):Nat→List AVal:=fun k=>Xk.cells (rd L k)
def lst (α:Type) [Xk α] (n:Nat) (g:Nat→List AVal):List α:=(List.range n).map fun k=>Xk.of (g k)
def isT (α:Type) [Xk α] (n:Nat) (g:Nat→List AVal):Bool:=pd (∀i,i<n→g i=Xk.cells (Xk.of (g i):α))
theorem Yo {L:List α} {k:Nat} (h:k<L.length):rd L k=L[k]:=by grind [rd]
theorem y7w {L M:List α} {k:Nat} (h:k<L.length):rd (L++M) k=rd L k:=by
 grind [rd]
theorem y5s {L M:List α} {k:Nat} (h:L.length≤k):rd (L++M) k=rd M (k - L.length):=by
 grind [rd]
theorem Zq (L:List α):lst α L.length (Zz L)=L:=by
 apply BF;all_goals grind [lst,Zz,Xk.back,Yo]
def cvT (L:List α):List α:=lst α L.length (Zz L)
theorem Zd (L:List α):cvT L=L:=Zq L
theorem x0g (n:Nat) (g:Nat→List AVal):(lst α n g).length =n:=by simp [lst]
theorem u2y (L:List α) {off n:Nat} (h:off+n≤L.length):lst α n (fun k=>Zz L (off+k))=(L.drop off).take n:=by
 apply BF;all_goals grind [lst,Zz,Xk.back,Yo]
theorem y4c (L:List α) (n:Nat):isT α n (Zz L)=true:=Xz fun i _=>by simp only [Zz];rw [Xk.back]
theorem x5p (L:List α) (off n:Nat):isT α n (fun k=>Zz L (off+k))=true:=Xz fun i _=>by simp only [Zz];rw [Xk.back]
theorem w4z (g:Nat→List AVal):isT α 0 g=true:=Xz fun i h=>absurd h (AH _)
theorem u3f (g:Nat→List AVal) (h0:g 0=Xk.cells (Xk.of (g 0):α)):isT α 1 g=true:=Xz fun i h=>by
 grind
theorem u3e (g:Nat→List AVal) (h0:g 0=Xk.cells (Xk.of (g 0):α)) (h1:g 1=Xk.cells (Xk.of (g 1):α)):isT α 2 g=true:=Xz fun i h=>by
 grind
theorem w5a {n:Nat} {g:Nat→List AVal} (h:isT α n g=true): ∀i,i<n→g i=Zz (lst α n g) i:=fun i hi=>by
 rw [Jz h i hi]
 grind [Zz,Yo,lst]
theorem Xm (L:List α):z0v (Zz L)=true:=Xz fun _=>Xk.flat _
theorem w9u {sz:Nat} (L:List α) (n:Nat) (h:sz=Xk.w α):x6a sz n (Zz L)=true:=Xz fun _ _=>⟨by rw [h];exact Xk.len _,Xk.sc _⟩
theorem w9v {sz:Nat} (L:List α) (off n:Nat) (h:sz=Xk.w α):x6a sz n (fun k=>Zz L (off+k))=true:=Xz fun _ _=>⟨by rw [h];exact Xk.len _,Xk.sc _⟩
theorem w1x {sz N off m:Nat} {G:Nat→List AVal} (h:x6a sz N G=true) (hb:decide (off+m≤N)=true):x6a sz m (fun k=>G (off+k))=true:=Xz fun i hi=>by have hb:=Aw hb;exact Jz h (off+i) (by omega)
theorem v7e {sz n N m:Nat} {G:Nat→List AVal} {cells:List AVal} (h:x6a sz n G=true) (hN:N=n+m) (hc:cells.length=m*sz) (hs:cells.all y0q=true):x6a sz N (Yy G 0 n sz cells)=true:=Xz fun i hi=>by
 unfold Yy;by_cases e:n≤i
 ·rw [u4n e,Ae];have:(i - n)*sz+sz≤m*sz:=by
   have:=Az sz (show i - n+1≤m by omega)
   grind
  grind
 ·rw [u4o e,Ac,Af];exact Jz h i (by omega)
theorem w3r {L M:List α} {n N sz:Nat} {G:Nat→List AVal} {cells:List AVal} (h:Kv n G (Zz L)=true) (hn:n=L.length) (hN:N=n+M.length) (hsz:sz=Xk.w α) (hc:cells=(M.map Xk.cells).flatten):Kv N (Yy G 0 n sz cells) (Zz (L++M))=true:=by
 grind [v2x,Zz,y0x,Xk.len,Yo]
theorem u8f {L:List α} {r k:Nat} {y:α} (hk:k<L.length):rd (L.set r y) k=if k=r then y else rd L k:=by
 grind [Yo]
theorem w3q {L:List α} {n r fo:Nat} {G:Nat→List AVal} {cs:List AVal} {y:α} (h:Kv n G (Zz L)=true) (hn:n=L.length) (hy:Xk.cells y=(Xk.cells (rd L r)).take fo++cs++(Xk.cells (rd L r)).drop (fo+cs.length)):Kv n (Xh G r fo cs) (Zz (L.set r y))=true:=by
 subst hn;refine Xz fun i hi=> ?_;unfold Xh;simp only [Zz];rw [u8f hi];cases e:Nat.beq i r with
 | true=>have:=Ai e;subst this;rw [Ae,AI rfl,Jz h i hi,hy];rfl
 | false=>
  have:i≠r:=fun q=>by simp_all
  rw [Ac,AD this,Jz h i hi];rfl
theorem u0e {n:Nat} {cs:List AVal} {y:α} {G:Nat→List AVal} (hG:G=fun _=>cs) (hy:Xk.cells y=cs):Kv n G (Zz (List.replicate n y))=true:=Xz fun i hi=>by
 grind [Zz,Yo]
theorem v2v {L M:List α} {n m N:Nat} {G H:Nat→List AVal} (h:Kv n G (Zz L)=true) (hn:n=L.length) (h':Kv m H (Zz M)=true) (hN:N=n+m):Kv N (Kf G n H) (Zz (L++M))=true:=by
 subst hn;refine Xz fun i hi=> ?_;unfold Kf;by_cases e:L.length≤i
 ·rw [u4n e,Ae,Jz h' _ (by omega)];grind [Zz,y5s]
 ·rw [u4o e,Ac,Jz h i (by omega)];grind [Zz,y7w]
def lenR (n:Nat) (g:Nat→List AVal) (sz:Nat):Bool:=pd (∀i,i<n→(g i).length =sz)
theorem v5m {sz:Nat} (L:List α) (n:Nat) (h:sz=Xk.w α):lenR n (Zz L) sz=true:=Xz fun _ _=>by rw [h];exact Xk.len _
theorem w8v {sz n:Nat} {L:List α} {off:Nat} (h:sz=Xk.w α):lenR n (fun k=>Zz L (off+k)) sz=true:=Xz fun _ _=>by rw [h];exact Xk.len _
def Ku (L:List α) (off n:Nat):List α:=(List.range n).map fun k=>rd L (off+k)
theorem y1r (L:List α) (off n:Nat):(Ku L off n).length =n:=by simp [Ku]
theorem x2f {L:List α} {off n k:Nat} (h:k<n):rd (Ku L off n) k=rd L (off+k):=by
 grind [Yo,Ku]
theorem w7c {L:List α} {N off n:Nat} {G:Nat→List AVal} (h:Kv N G (Zz L)=true) (hb:decide (off+n≤N)=true):Kv n (fun k=>G (off+k)) (Zz (Ku L off n))=true:=Xz fun i hi=>by have hb:=Aw hb;simp only [Zz];rw [x2f hi,Jz h _ (by omega)];rfl
theorem w7b {L:List α} {off n:Nat}:Kv n (fun k=>Zz L (off+k)) (Zz (Ku L off n))=true:=Xz fun i hi=>by simp only [Zz];rw [x2f hi]
theorem Vs (L:List α):lst α L.length (fun k=>Zz L (0+k))=L:=by
 grind [Zq]
theorem v5l (L:List α) (off n:Nat):lst α n (fun k=>Zz L (off+k))=Ku L off n:=by
 grind [lst,Ku,Zz,Xk.back]
theorem u3g (L:List Int):isI (Zz L)=true:=Xz rfl
theorem Jo (L:List Int):Yd L.length (cOf (Zz L))=L:=Zq L
def v7j (L:List α) (off n:Nat) (M:List α):List α:=(List.range L.length).map fun k=>bif Nat.ble off k&&Nat.ble (k+1) (off+n) then rd M (k - off) else rd L k
theorem z3n (L:List α) (off n:Nat) (M:List α):(v7j L off n M).length =L.length:=by simp [v7j]
theorem v3y {L M:List α} {off n k:Nat} (h:k<L.length):rd (v7j L off n M) k=bif Nat.ble off k&&Nat.ble (k+1) (off+n) then rd M (k - off) else rd L k:=by
 grind [Yo,v7j]
theorem u0g {L M:List α} {N off n m:Nat} {G H:Nat→List AVal} (h:Kv N G (Zz L)=true) (hN:N=L.length) (h':Kv m H (Zz M)=true) (hm:n≤m):Kv N (Uz G off n H) (Zz (v7j L off n M))=true:=by
 subst hN;refine Xz fun i hi=> ?_;unfold Uz;simp only [Zz];rw [v3y hi];cases e:(Nat.ble off i&&Nat.ble (i+1) (off+n)) with
 | true=>simp only [Ad] at e;have e1:=Aj e.1;have e2:=Aj e.2;rw [Ae,Ae,Jz h' _ (by omega)];rfl
 | false=>rw [Ac,Ac,Jz h i hi];rfl
theorem v2u (z g:Nat→List AVal) (n:Nat):Kv n (Uz z 0 (Nat.min n n) g) g=true:=Xz fun i hi=>by unfold Uz;rw [show Nat.min n n=n from Nat.min_self n,Af,AW (AB i),AW hi];rfl
theorem v6f {g h:Nat→List AVal} {off n:Nat} (p:z0v g=true) (q:z0v h=true):z0v (Uz g off n h)=true:=Xz fun i=>by
 unfold Uz;cases (Nat.ble off i&&Nat.ble (i+1) (off+n)) with
 | true=>exact Jz q _
 | false=>exact Jz p _
end
theorem Xd {P:Program} {rs:List ResultVar} {σ:Type} {cfg:σ→Cfg} {C C':Cfg} (g:y1j P C C'): ∀{o:Xw σ},Xu P rs cfg C' o→Xu P rs cfg C o
 | .stuck,_=>trivial
 | .ret _,⟨D,h,h2,h3⟩=>⟨D,g.trans h,h2,h3⟩
 | .to _,h=>g.trans h
theorem w5l : ∀{az bs:List AVal} (i:Nat) {t u:T AVal},Vz VLe az bs→ELe t u→ELe (z7b az i t) (z7b bs i u)
 | _,_,i,t,u,.nil,h=>h
 | _,_,i,t,u,.cons (a:=a) (b:=b) h1 h2,h=>by
  refine w5l (i+1) h2 fun s=> ?_;rw [T.get_set,T.get_set];by_cases e:s=i
  ·rw [AI e,AI e];exact ⟨fun ρ v hv=>h1.sound hv,fun q=>by subst q;exact h1.of_undef⟩
  ·rw [AD e,AD e];exact h s
theorem x5x {P:Program} {f:FuncId} {az bs:List AVal} {vs:List AVal} (h:Vz VLe az bs) (k:Ur P (Zy P f) (Za P f bs true []) vs):Ur P (Zy P f) (Za P f az true []) vs:=by
 obtain ⟨C',g,h2,h3⟩:=k;refine ⟨C',y1j.trans ?_ g,h2,h3⟩;unfold Za;cases P.funcs[f]? with
 | none=>exact y1j.refl _
 | some fn=>simp only;rw [h.length];exact y0s (w5l 0 h (ELe.refl _)) .nil (fun b x' hb=>absurd hb (AH _)) (Aq _) fun hbd b hb=>hbd b hb
theorem w5w {P:Program} {S:Specs} (hS:Zu P S) {f:FuncId} {F:List AVal→Option (AVal×Bool)} (hf:(P.funcs[f]?).any (fun fn=>fn.body.isSome)=true)
  (hF: ∀args v,F args=some (v,true)→ ∃bs vs,Vz VLe args bs∧z0c vs=v∧Ur P (Zy P f) (Za P f bs true []) vs∧ ∃d,pf d v=true):Zu P (S.with f F):=
 v0z hS hf fun args v h=>by obtain ⟨bs,vs,h1,h2,h3,d,h4⟩:=hF args v h;exact ⟨vs,h2,x5x h1 h3,d,h4⟩
def asL (α:Type) [Xk α]:AVal→Option (List α×(Nat→List AVal)×Nat)
 | .nils =>some ([],fun _=>[],0)
 | .dat n g=>some (lst α n g,g,n)
 | _=>none
theorem Yi {α:Type} [Xk α] {v:AVal} {L:List α} {g:Nat→List AVal} {n:Nat} (h:asL α v=some (L,g,n)) (ho:isT α n g=true):VLe v (.dat L.length (Zz L)):=by
 unfold asL at h;split at h
 ·simp only [Ab,Aa] at h;obtain ⟨rfl,_,_⟩:=h;exact .nild _
 ·simp only [Ab,Aa] at h;obtain ⟨rfl,rfl,rfl⟩:=h;rw [x0g];exact .dat _ _ _ (w5a ho)
 ·cases h
open Go.ChangeShapes Go.WideShapes Go.Deep
section
variable {P:Program}
def x2u (P:Program) (rec:TypeId→Option (List IntKind)):List Field→Nat→Option (List IntKind)
 | [],_=>some []
 | f::r,o=>bif Nat.beq f.offset o then match rec f.type with
   | some ks=>bif Nat.beq (P.cellsOf f.type) ks.length then (x2u P rec r (o+ks.length)).map (ks++ ·) else none
   | none=>none
  else none
def y6k (P:Program):Nat→TypeId→Option (List IntKind)
 | 0,_=>none
 | d+1,t=>match P.underlying t with
  | some (.int k)=>some [k]
  | some (.struct fs)=>match x2u P (y6k P d) fs.toList 0 with
   | some ks=>bif Nat.beq (P.cellsOf t) ks.length then some ks else none
   | none=>none
  | _=>none
def u4z (ks:List IntKind) (cs:List Value):Prop:= ∃ns:List Int,ns.length=ks.length∧cs=List.zipWith Value.int ks ns∧ ∀p∈List.zip ks ns,p.1.has p.2
theorem u4z.append {a b:List IntKind} {x y:List Value} (h:u4z a x) (k:u4z b y):u4z (a++b) (x++y):=by
 obtain ⟨ns,h1,rfl,h3⟩:=h;obtain ⟨ms,k1,rfl,k3⟩:=k;refine ⟨ns++ms,by simp [h1,k1],?_,fun p hp=> ?_⟩;all_goals grind
theorem u4z.length {ks:List IntKind} {cs:List Value} (h:u4z ks cs):cs.length=ks.length:=by obtain ⟨ns,h1,rfl,_⟩:=h;simp [h1]
variable {HH:Type} {enc:TypeId×Value→HH} {w:World} {base:Nat} {spare:Nat→Bool} {held:Bool}
theorem y1t {rec:TypeId→Option (List IntKind)} (hr: ∀t ks,rec t=some ks→ ∀fuel cs x,DataW.trod enc P w base spare held fuel t cs=some x→u4z ks cs) (cs:List Value):
  ∀(l:List Field) (o:Nat) (ks:List IntKind),x2u P rec l o=some ks→o+ks.length≤cs.length→(∀f∈l,∃fuel x,DataW.trod enc P w base spare held fuel f.type ((cs.drop f.offset).take (P.cellsOf f.type))=some x)→u4z ks ((cs.drop o).take ks.length)
 | [],o,ks,h,_,_=>by obtain rfl:=Ag h;exact ⟨[],rfl,by simp,by simp⟩
 | f::r,o,ks,h,hl,hf=>by
  unfold x2u at h;obtain ⟨ho,h⟩:=Yz h;obtain rfl:=Ai ho;split at h
  ·rename_i ks1 h1;obtain ⟨hc,h⟩:=Yz h;have hc:=Ai hc;simp only [Al] at h;obtain ⟨ks2,h2,rfl⟩:=h;obtain ⟨fuel,x,hx⟩:=hf f (by simp);have i1:=hr _ _ h1 _ _ _ hx;rw [hc] at i1;rw [AQ] at hl;have i2:=y1t hr cs r _ ks2 h2 (by omega) fun g hg=>hf g (by simp [hg]);have:(cs.drop f.offset).take (ks1++ks2).length =(cs.drop f.offset).take ks1.length++(cs.drop (f.offset+ks1.length)).take ks2.length:=by rw [AQ,List.take_add,List.drop_drop]
   rw [this];exact i1.append i2
  ·cases h
theorem z3k : ∀(d:Nat) (t:TypeId) (ks:List IntKind),y6k P d t=some ks→ ∀(fuel:Nat) (cs:List Value) (x:DataW HH×List MemPlace),DataW.trod enc P w base spare held fuel t cs=some x→u4z ks cs
 | 0,_,_,h=>by cases h
 | d +1,t,ks,h=>by
  intro fuel cs x hx;unfold y6k at h;split at h
  ·rename_i k hk;obtain rfl:=Ag h;obtain ⟨m,rfl,_,hw⟩:=DataW.trod_int hk hx;refine ⟨[m],rfl,rfl,fun p hp=> ?_⟩;simp_all [Lit.wf,IntKind.has]
  ·rename_i fs hs;split at h
   ·rename_i ks1 h1;obtain ⟨hc,h⟩:=Yz h;obtain rfl:=Ag h;have hc:=Ai hc;obtain ⟨xs,n,_,_,hl,dU,hf⟩:=DataW.trod_struct hs hx;have hl:cs.length=ks1.length:=hl.trans hc;have:=y1t (fun t ks ht fuel cs x hx=>z3k d t ks ht fuel cs x hx) cs fs.toList 0 ks1 h1 (by omega) fun f hf'=>by
     obtain ⟨j,hj,rfl⟩:=AK hf';have hj2:j<fs.size:=(by grind);have:=hf j fs[j] (by simp [hj2])
     grind
    grind
   ·cases h
  ·cases h
def x1y (ks:List IntKind) (c:Nat→Int):List AVal:=List.zipWith AVal.int ks ((List.range ks.length).map c)
theorem v3j (ks:List IntKind) (c:Nat→Int) (j:Nat) (h:j<(x1y ks c).length): ∃hk:j<ks.length,(x1y ks c)[j]=.int ks[j] (c j):=by
 grind [x1y]
theorem u4i {e:TypeId} {ks:List IntKind} (hk:y6k P 30 e=some ks) {blk off len cap m fl:Nat} {D:Nat→DataW HH} {Pl:Nat→List MemPlace} (hl:len≤cap) (hlm:len≤m)
  (hi: ∀i,i<m→ ∃cs',w.cells? base ((⟨blk,off,none⟩:Addr).add (i*P.cellsOf e)) (P.cellsOf e)=some cs'∧DataW.trod enc P w base spare held fl e cs'=some (D i,Pl i)):
  ∃c:Nat→Nat→Int,VRel (rhoOf fun k=>w.heap[k]?) (.dat len (fun i=>x1y ks (c i))) (.slice (some ⟨blk,off,none⟩) len cap)∧ ∀i,i<len→ ∀(j:Nat) (k:IntKind),ks[j]? =some k→k.has (c i j):=by
 have key: ∀i,i<len→ ∃ns:List Int,ns.length=ks.length∧(∀j,j<ks.length→ ∃k,ks[j]? =some k∧w.cell? ⟨blk,off+(i*ks.length+j),none⟩=some (.int k (ns.getD j 0))∧k.has (ns.getD j 0)):=by
  intro i hil;obtain ⟨cs',hc',ht'⟩:=hi i (by omega);have I:=z3k 30 e ks hk _ _ _ ht';obtain ⟨_,dU,eZ⟩:=World.cells?_some hc';have hce:P.cellsOf e=ks.length:=by rw [←dU];exact I.length
  obtain ⟨ns,n1,n2,n3⟩:=I;refine ⟨ns,n1,fun j hj=> ?_⟩;have hj2:j<ns.length:=by omega
  refine ⟨ks[j],by simp [hj],?_,?_⟩
  ·grind [Xg]
  ·have:(ks[j],ns[j])∈List.zip ks ns:=by
    rw [List.mem_iff_getElem]
    grind
   grind
 let c:Nat→Nat→Int:=fun i j=>if hil:i<len then ((key i hil).choose).getD j 0 else 0
 have hcs: ∀i,i<len→ ∀j,j<ks.length→ ∃k,ks[j]? =some k∧w.cell? ⟨blk,off+(i*ks.length+j),none⟩=some (.int k (c i j))∧k.has (c i j):=by
  grind
 refine ⟨c,.dat len _ blk off ks.length cap (fun i j=>.int (ks.getD j .i64) (c i j)) hl (fun i _=>by simp [x1y]) (fun i j hil hj=> ?_) (fun i j hil hj=> ?_),fun i hil j k hkj=> ?_⟩
 ·obtain ⟨hk2,e2⟩:=v3j ks (c i) j hj;rw [e2];have:ks.getD j .i64 =ks[j]:=by simp [hk2]
  rw [this];exact .int _ _
 ·obtain ⟨k,e1,e2,_⟩:=hcs i hil j hj;have:ks.getD j .i64 =k:=by simp [e1]
  rw [this];unfold World.cell? at e2;split at e2
  ·rename_i cl el fz hb2;simp only [Option.isSome_none,Bool.false_eq_true,if_false] at e2;exact ⟨cl,el,fz,hb2,e2⟩
  ·cases e2
 grind
end
open Go.Proofs.Tryz
open Go.Proofs
def namedB (P:Program):Bool:=P.funcs.toList.all fun fn=>fn.body.isNone|| !(fn.name == "runtime.NumGoroutine")
theorem u2j {P:Program} (h:namedB P=true):z9n P:=by
 intro f fn hf hb;have hm:fn∈P.funcs.toList:=by rw [Array.mem_toList_iff];exact Array.mem_of_getElem? hf
 have:=At.mp h fn hm;cases hbb:fn.body with
 | none=>rw [hbb] at hb;cases hb
 | some b=>simpa [hbb] using this
theorem named :z9n prog:=u2j (by kernel_rfl)
theorem mixed :prog.follows .mixedOrders =true:=by kernel_rfl
end Go.Am
namespace Go.Am
open IntKind (wrap)
open Go.Proofs.Tryz
open Go.Proofs
instance {α :Type} [Xk α]:Xk (List α) where
 w:=1
 d:=[]
 cells l:=[.dat l.length (Zz l)]
 of cs:=match cs.getD 0 .undef with
  | .dat n g=>lst α n g
  | _=>[]
 len _:=rfl
 pos:=Aq 1
 flat _:=rfl
 sc _:=rfl
 back l:=Zq l
theorem x8e {α:Type} [Xk α] {L:List α} {n off sz:Nat} {cells:List AVal} (hn:n=L.length) (hsz:sz=Xk.w α) (hc:(cells.drop off).take (n*sz)=(L.map Xk.cells).flatten):Kv n (Xf cells off sz) (Zz L)=true:=Xz fun i hi=>by
 have e:((((cells.drop off).take (n*sz)).drop (i*sz)).take sz)=(cells.drop (off+i*sz)).take sz:=by rw [List.drop_take,List.take_take,List.drop_drop,Nat.min_eq_left];have:=Az sz (show i+1≤n by omega);rw [AS,BL] at this;omega
 have h:=y0x (sz:=sz) (L.map Xk.cells) i (fun x hx=>by obtain ⟨y,_,rfl⟩:=AO.1 hx;rw [Xk.len,hsz]) (by simpa using by omega);unfold Xf;rw [←e,hc,h];simp only [Zz];rw [Yo (show i<L.length by omega),List.getD_eq_getElem?_getD,List.getElem?_map,Au (show i<L.length by omega)];rfl
theorem u0f {G H:Nat→List AVal} (h:G 0=H 0):Kv 1 G H=true:=Xz fun i hi=>by
 obtain rfl:i=0:=by omega
 exact h
theorem w9g {L:List AVal} (s t:Nat) (h:L.all (pf 6)=true):z0v (fun k=>(L.drop (k*s)).take t)=true:=Xz fun i=>
 At.2 fun v hv=>At.1 h v (List.mem_of_mem_drop (List.mem_of_mem_take hv))
structure OB where
 b:Bool
 h:b=true
def nn :OB:=⟨true,rfl⟩
def pp (q r:OB):OB:=⟨q.b&&r.b,y5y q.h r.h⟩
def tt {c v:Bool} (k:c=v) (r:OB):OB:=⟨(c == v)&&r.b,y5y (v4n k) r.h⟩
def ww {c:Bool} (k:c=true) (r:OB):OB:=⟨c&&r.b,y5y k r.h⟩
def fl {α:Type} [Xk α] (L:List α) (r:OB):OB:=⟨z0v (Zz L)&&r.b,y5y (Xm L) r.h⟩
theorem v0b {a b:Int} (k:(a == b)=false):((a != b) == true)=true:=by unfold bne;rw [k];rfl
theorem u4p {a b:Int} (k:(a != b)=true):((a == b) == false)=true:=by
 unfold bne at k;cases h:(a == b) with
 | true=>rw [h] at k;cases k
 | false=>rfl
theorem beq_f {a b:Int} (k:(a != b)=false):((a == b) == true)=true:=by
 unfold bne at k;cases h:(a == b) with
 | true=>rfl
 | false=>rw [h] at k;cases k
def yt {c:Bool} (k:c=true) (r:OB):OB:=⟨c&&r.b,y5y k r.h⟩
def xw {c:Bool} (k:c=true):OB:=⟨c,k⟩
def xI (α:Type) [Xk α] (n:Nat) (g:Nat→List AVal) (h:isT α n g=true:=by first | with_reducible exact y4c _ _ | exact y4c _ _ | exact w4z _ | exact x5p _ _ _ | assumption | exact u3f _ rfl | exact u3e _ rfl rfl):OB:=⟨isT α n g,h⟩
def xr {α:Type} [Xk α] (L:List α):OB:=⟨isT α L.length (Zz L),y4c L _⟩
def xL (a b:Nat) (h:x2t a b=true:=by first | exact Un rfl | exact Un (by simp only [AQ,Bn,List.length_nil,List.length_set,z3n,y1r,List.length_replicate] <;> omega) | assumption):OB:=⟨x2t a b,h⟩
def xS (n:Nat) (G H:Nat→List AVal) (h:Kv n G H=true:=by
  repeat' (first | exact x1t _ _ | assumption | exact v2t _ _ | exact u0f rfl | exact w7b | exact x8e rfl rfl rfl | rfl | (refine w3r ?_ ?_ rfl rfl rfl) | (refine w3q ?_ ?_ rfl) | exact v2u _ _ _ | (refine u0g ?_ ?_ ?_ (Nat.min_le_left _ _)) | exact w7c (by repeat' (first | exact x1t _ _ | (refine w3r ?_ ?_ rfl rfl rfl) | (refine w3q ?_ ?_ rfl) | (simp only [AQ,Bn,List.length_nil,List.length_set,z3n];done) | omega)) (by assumption) | (refine v2v ?_ ?_ ?_ rfl) | exact v2w (x1t _ _) rfl | apply x8d | exact u0e rfl rfl | exact Af _ | (simp only [AQ,Bn,List.length_nil,List.length_set,z3n,y1r,List.length_replicate] <;> omega))):OB:=⟨Kv n G H,h⟩
def xF (G:Nat→List AVal) (h:z0v G=true:=by
  repeat' (first | with_reducible exact Xm _ | apply v6h | apply v6e | apply v6g | apply v6f | exact Xm _ | exact w9h | exact w1k _ _ | exact w9g _ _ rfl | apply y6u | rfl | assumption)):OB:=⟨z0v G,h⟩
def xZ (v:AVal) (n:Nat) (g:Nat→List AVal) (h:v6a v n g=true:=by first | exact u3m _ _ _ | exact v5z _ _):OB:=⟨v6a v n g,h⟩
def xG (c:Bool) (h:c=true:=by
  repeat' (first | with_reducible (first | assumption | exact Nat.beq_refl _ | exact x5e _ | exact u2i _ | exact v4s _ | exact u4e _ | exact v4v _ | apply y5y | apply v4n) | rfl | exact u3g _ | exact w9u _ _ rfl | exact w9v _ _ _ rfl | exact v5m _ _ rfl | exact w8v rfl | exact u0p rfl rfl (fun _=>rfl) | (refine w1x ?_ (by assumption)) | (refine v7e ?_ rfl rfl rfl) | exact y4c _ _ | exact w4z _ | exact x5p _ _ _ | exact Xm _ | apply y6u | apply y5y | apply v4n)):OB:=⟨c,h⟩
def kpB (n:Nat) (l:List BP):List BP:=Nat.rec l (fun _ r=>.keep ::r) n
abbrev tn (n:Int):Nat:=Int.toNat n
abbrev ii (n:Int):AVal:=.int .i64 n
abbrev wr (n:Int):Int:=wrap .i64 n
def trs (n:Nat) (l:List Bool):List Bool:=Nat.rec l (fun _ r=>true::r) n
theorem sl {S:Specs} (hS:Zu prog S) (n:Nat) (gs:List (TypeId×Nat×(Nat→List AVal))) (N:z9r) (L:Less) (orc:List Bool) (ob:OB) {C C':Cfg}
  (h:(((u3d prog S (j2j prog S 100000 4) n (C.withO orc)).map (w5e gs)).bind (u2e prog N)).map (w8u L)=some (C'.withB ob.b):=by kernel_rfl) (hfl:fl0 C=true:=by rfl):y1j prog C C':=
 v9a named mixed hS gs N L orc ob.b h ob.h hfl
def rC (n f:Nat) (p:List Nat) (j r:Nat) (env:List (Nat×AVal)):Cfg:=⟨⟨n,0,true⟩,none,Zb prog f p j,none,Zy prog r,⟨Yg env,Wt [] 0,0,[],true⟩,[],.leaf⟩
theorem lr {σ:Type} {cfg:σ→Cfg} {C:Cfg} {rs:List ResultVar} {vs:List AVal} (n f:Nat) (p:List Nat) (j r:Nat) (env:List (Nat×AVal)) (h:y1j prog C (rC n f p j r env)) (hf:z4c (rC n f p j r env)=true:=by rfl)
  (hr:Jq prog (rC n f p j r env).st rs=some vs:=by kernel_rfl):Xu prog rs cfg C (.ret vs):=Vi _ h hf hr
theorem lb {rs:List ResultVar} {σ:Type} {cfg:σ→Cfg} {C:Cfg} {c:Bool} {a b:Xw σ} (ha:c=true→Xu prog rs cfg C a) (hb:c=false→Xu prog rs cfg C b):Xu prog rs cfg C (bif c then a else b):=w4x ha hb
theorem lo {rs:List ResultVar} {σ:Type} {cfg:σ→Cfg} {C:Cfg} {c:Bool} {a:Xw σ} (ha:c=true→Xu prog rs cfg C a):Xu prog rs cfg C (bif c then a else .stuck):=u3b ha
inductive rsortS where
 | h0 (v3:List Int) (v4:Int)
 | h1 (v3:List Int) (v4:Int) (v5:Int)
abbrev Jf (v3:List Int) (v5:Int) (l0:List Int) (v4:Int):=((v7j (v3++[0]) (0+(tn (wr (v5+1)))) (Nat.min ((v3.length+1) - (tn v5)) ((v3.length+1) - (tn (wr (v5+1))))) (Ku (v3++[0]) (0+(tn v5)) ((v3.length+1) - (tn v5)))).set (0+(tn v5)) (rd l0 (tn v4)))
abbrev Qx (v3:List Int):=(Yy (Zz v3) 0 v3.length 1 [(ii 0)])
abbrev y3j (v3:List Int) (v5:Int):=(Nat.min ((v3.length+1) - (tn v5)) ((v3.length+1) - (tn (wr (v5+1)))))
def v3e (l0:List Int):rsortS→Cfg
 | .h0 v3 v4=>⟨⟨63,0,true⟩,none,(Zb prog 124 [1,1,0,1,0,0] 0),none,(Zy prog 9),⟨Yg [(0,(.dat l0.length (Zz l0))),(3,(.sla 0 1 0 v3.length (.un 1))),(4,(ii v4))],Wt [⟨Ym v3.length (Zz v3),3,some ⟨1,v3.length,(Zz v3)⟩⟩] 0,1,[],true⟩,[],.leaf⟩
 | .h1 v3 v4 v5=>⟨⟨63,0,true⟩,none,(Zb prog 124 [1,1,0,1,0,0,1,0,0,1,0,0,0] 0),none,(Zy prog 9),⟨Yg [(0,(.dat l0.length (Zz l0))),(3,(.sla 0 1 0 v3.length (.un 1))),(4,(ii v4)),(5,(ii v5))],Wt [⟨Ym v3.length (Zz v3),3,some ⟨1,v3.length,(Zz v3)⟩⟩] 0,1,[],true⟩,[],.leaf⟩
def x1w :List (Option (List Nat)):=[some [0,3,4]]
def x1x :List (Option (List Nat)):=[]
def v3c :List (Option (List Nat)):=[some [0,3,4,5]]
def v3d :List (Option (List Nat)):=[]
def Vo (l0:List Int):rsortS→Xw rsortS
 | .h0 v3 v4=>(bif (decide (v4<(l0.length:Int))) then (.to (.h1 v3 v4 (v3.length:Int))) else (.ret [(.dat v3.length (Zz v3))]))
 | .h1 v3 v4 v5=>(bif (decide (v5>0)) then (bif ((decide (0≤(wrap .i64 (v5 - 1))∧(wrap .i64 (v5 - 1))<(v3.length:Int)))&&true) then (bif (decide ((0+(Int.toNat (wrap .i64 (v5 - 1))))<v3.length)) then (bif ((decide (0≤v4∧v4<(l0.length:Int)))&&true) then (bif (decide ((rd v3 (0+(Int.toNat (wrap .i64 (v5 - 1)))))>(rd l0 v4.toNat))) then (.to (.h1 v3 v4 (wrap .i64 (v5 - 1)))) else (bif ((rd v3 (0+(Int.toNat (wrap .i64 (v5 - 1))))) == (rd l0 v4.toNat)) then (.to (.h0 v3 (wrap .i64 (v4+1)))) else (bif (Nat.beq 1 1&&((decide (0+v3.length=v3.length))&&decide ((v3.length+1+1)*(8+1)≤Kj))) then (bif (true&&((decide (0≤(wrap .i64 (v5+1))))&&(decide ((v3.length+1)≤(v3.length+1))&&decide ((Int.toNat (wrap .i64 (v5+1)))≤(v3.length+1))))) then (bif (true&&((decide (0≤v5))&&(decide ((v3.length+1)≤(v3.length+1))&&decide (v5.toNat≤(v3.length+1))))) then (bif (decide ((0+v5.toNat)+((v3.length+1) - v5.toNat)≤(v3.length+1))) then (bif (decide ((0+(Int.toNat (wrap .i64 (v5+1))))+((v3.length+1) - (Int.toNat (wrap .i64 (v5+1))))≤(v3.length+1))) then (bif ((decide (0≤v5∧v5<(((v3.length+1):Nat):Int)))&&true) then (bif (decide ((0+v5.toNat)<(v3.length+1))) then (.to (.h0 ((v7j (v3++[0]) (0+(Int.toNat (wrap .i64 (v5+1)))) (Nat.min ((v3.length+1) - v5.toNat) ((v3.length+1) - (Int.toNat (wrap .i64 (v5+1))))) (Ku (v3++[0]) (0+v5.toNat) ((v3.length+1) - v5.toNat))).set (0+v5.toNat) (rd l0 v4.toNat)) (wrap .i64 (v4+1)))) else .stuck) else .stuck) else .stuck) else .stuck) else .stuck) else .stuck) else .stuck))) else .stuck) else .stuck) else .stuck) else (bif (Nat.beq 1 1&&((decide (0+v3.length=v3.length))&&decide ((v3.length+1+1)*(8+1)≤Kj))) then (bif (true&&((decide (0≤(wrap .i64 (v5+1))))&&(decide ((v3.length+1)≤(v3.length+1))&&decide ((Int.toNat (wrap .i64 (v5+1)))≤(v3.length+1))))) then (bif (true&&((decide (0≤v5))&&(decide ((v3.length+1)≤(v3.length+1))&&decide (v5.toNat≤(v3.length+1))))) then (bif (decide ((0+v5.toNat)+((v3.length+1) - v5.toNat)≤(v3.length+1))) then (bif (decide ((0+(Int.toNat (wrap .i64 (v5+1))))+((v3.length+1) - (Int.toNat (wrap .i64 (v5+1))))≤(v3.length+1))) then (bif ((decide (0≤v4∧v4<(l0.length:Int)))&&true) then (bif ((decide (0≤v5∧v5<(((v3.length+1):Nat):Int)))&&true) then (bif (decide ((0+v5.toNat)<(v3.length+1))) then (.to (.h0 ((v7j (v3++[0]) (0+(Int.toNat (wrap .i64 (v5+1)))) (Nat.min ((v3.length+1) - v5.toNat) ((v3.length+1) - (Int.toNat (wrap .i64 (v5+1))))) (Ku (v3++[0]) (0+v5.toNat) ((v3.length+1) - v5.toNat))).set (0+v5.toNat) (rd l0 v4.toNat)) (wrap .i64 (v4+1)))) else .stuck) else .stuck) else .stuck) else .stuck) else .stuck) else .stuck) else .stuck) else .stuck))
def z5h (l0:List Int):Xw rsortS:=(.to (.h0 ([]:List Int) 0))
theorem x4j (l0:List Int): ∀s,Xu prog (Zy prog 124) (v3e l0) (v3e l0 s) (Vo l0 s)
 | .h0 v3 v4=>(lb (fun k0=>(sl Zm 21 [] ⟨[0],[],v3c,v3d⟩ ⟨[],[],[]⟩ [true] (pp (fl v3 nn) (tt k0 nn)))) (fun k0=>(lr 63 3 [1,1,1,1,0] 1 9 [(2,(.dat v3.length (Zz v3)))] (sl Zm 15 [] ⟨[],[0],[some [2]],[]⟩ ⟨[(2,.frz v3.length v3.length (Zz v3) (Zz v3))],[],[]⟩ [false] (pp (xZ (z7j 1 1 0 v3.length v3.length (Zz v3)) v3.length (Zz v3)) (pp (xL v3.length v3.length) (pp (xS v3.length (Zz v3) (Zz v3)) (pp (fl v3 nn) (tt k0 nn)))))))))
 | .h1 v3 v4 v5=>(lb (fun k0=>(lo fun aE=>(lo fun bE=>(lo fun dA=>(lb (fun k1=>(sl Zm 13 [] ⟨[0],[],v3c,v3d⟩ ⟨[],[],[]⟩ (trs 11 []) (pp (fl v3 nn) (tt k1 (ww dA (ww bE (ww aE (tt k0 nn)))))))) (fun k1=>(lb (fun k2=>(sl Zm 16 [] ⟨[0],[],x1w,x1x⟩ ⟨[],[],[]⟩ (trs 10 (bl 12 4094)) (pp (fl v3 nn) (tt k2 (ww dA (ww bE (ww aE (tt k0 (tt k1 (ww dA (ww bE (ww aE (tt k0 nn))))))))))))) (fun k2=>(lo fun o0=>(lo fun o1=>(lo fun o2=>(lo fun o3=>(lo fun o4=>(lo fun o5=>(lo fun o6=>(sl Zm 36 [] ⟨[2],[],x1w,x1x⟩ ⟨[(3,.len (Jf v3 v5 l0 v4).length)],[.rowed 1 (Jf v3 v5 l0 v4).length (Zz (Jf v3 v5 l0 v4))],[]⟩ (trs 10 (bl 12 2046)) (pp (xL (v3.length+1) (Jf v3 v5 l0 v4).length) (pp (xL (v3.length+1) (Jf v3 v5 l0 v4).length) (pp (xS (v3.length+1) (Xh (Uz (Qx v3) (0+(tn (wr (v5+1)))) (y3j v3 v5) (fun k=>(Qx v3) ((0+(tn v5))+k))) (0+(tn v5)) 0 [(ii (rd l0 (tn v4)))]) (Zz (Jf v3 v5 l0 v4))) (pp (pp (xF (Xh (Uz (Qx v3) (0+(tn (wr (v5+1)))) (y3j v3 v5) (fun k=>(Qx v3) ((0+(tn v5))+k))) (0+(tn v5)) 0 [(ii (rd l0 (tn v4)))])) nn) (ww o6 (ww o5 (ww dA (pp (pp (xG (Nat.beq 1 1)) (pp (xG (Nat.beq 1 1)) (pp (xw o4) (pp (xG (Nat.beq 1 1)) (pp (xG (Nat.beq 1 1)) (pp (xG (decide ((0+(tn v5))+((v3.length+1) - (tn v5))≤(v3.length+1)))) (xG (x6a 1 ((v3.length+1) - (tn v5)) (fun k=>(Qx v3) ((0+(tn v5))+k)))))))))) (ww o2 (ww o1 (ww o0 (tt k2 (ww dA (ww bE (ww aE (tt k0 (tt k1 (ww dA (ww bE (ww aE (tt k0 nn))))))))))))))))))))))))))))))))))))) (fun k0=>(lo fun o0=>(lo fun o1=>(lo fun o2=>(lo fun o3=>(lo fun o4=>(lo fun o5=>(lo fun o6=>(lo fun o7=>(sl Zm 36 [] ⟨[2],[],x1w,x1x⟩ ⟨[(3,.len (Jf v3 v5 l0 v4).length)],[.rowed 1 (Jf v3 v5 l0 v4).length (Zz (Jf v3 v5 l0 v4))],[]⟩ (bl 22 0) (pp (xL (v3.length+1) (Jf v3 v5 l0 v4).length) (pp (xL (v3.length+1) (Jf v3 v5 l0 v4).length) (pp (xS (v3.length+1) (Xh (Uz (Qx v3) (0+(tn (wr (v5+1)))) (y3j v3 v5) (fun k=>(Qx v3) ((0+(tn v5))+k))) (0+(tn v5)) 0 [(ii (rd l0 (tn v4)))]) (Zz (Jf v3 v5 l0 v4))) (pp (pp (xF (Xh (Uz (Qx v3) (0+(tn (wr (v5+1)))) (y3j v3 v5) (fun k=>(Qx v3) ((0+(tn v5))+k))) (0+(tn v5)) 0 [(ii (rd l0 (tn v4)))])) nn) (ww o7 (ww o6 (ww o5 (pp (pp (xG (Nat.beq 1 1)) (pp (xG (Nat.beq 1 1)) (pp (xw o4) (pp (xG (Nat.beq 1 1)) (pp (xG (Nat.beq 1 1)) (pp (xG (decide ((0+(tn v5))+((v3.length+1) - (tn v5))≤(v3.length+1)))) (xG (x6a 1 ((v3.length+1) - (tn v5)) (fun k=>(Qx v3) ((0+(tn v5))+k)))))))))) (ww o2 (ww o1 (ww o0 (tt k0 (tt k0 nn))))))))))))))))))))))))
theorem x1v (l0:List Int):Xu prog (Zy prog 124) (v3e l0) (Za prog 124 [(.dat l0.length (Zz l0))] true []) (z5h l0):=(sl Zm 15 [(3,1,Zz ([]:List Int))] ⟨[0],[],x1w,x1x⟩ ⟨[(3,.grow 0 1)],[],[]⟩ [] (pp (fl ([]:List Int) nn) nn))
theorem w7i (l0:List Int) (n:Nat) (vs:List AVal) (h:Yx (Vo l0) n (z5h l0)=.ret vs):Ur prog (Zy prog 124) (Za prog 124 [(.dat l0.length (Zz l0))] true []) vs:=by have:=Zc (x4j l0) n _ (x1v l0);rwa [h] at this
inductive rcanS where
 | h0 (v5:List R2) (v6:Int)
def j3p (l0:List Int) (l1:List Bool):rcanS→Cfg
 | .h0 v5 v6=>⟨⟨61,0,true⟩,none,(Zb prog 131 [1,1,0,1,0,0] 0),none,(Zy prog 6),⟨Yg [(0,(.dat l0.length (Zz l0))),(1,(.dat l1.length (Zz l1))),(5,(.sla 0 2 0 v5.length (.un 2))),(6,(ii v6))],Wt [⟨Ym v5.length (Zz v5),176,some ⟨2,v5.length,(Zz v5)⟩⟩] 0,1,[],true⟩,[],.leaf⟩
def x4w :List (Option (List Nat)):=[some [0,1,5,6]]
def x4x :List (Option (List Nat)):=[]
def z0h (l0:List Int) (l1:List Bool):rcanS→Xw rcanS
 | .h0 v5 v6=>(bif (decide ((wrap .i64 (v6+1))<(l0.length:Int))) then (bif ((decide (0≤v6∧v6<(l1.length:Int)))&&true) then (bif (!(rd l1 v6.toNat)) then (.to (.h0 v5 (wrap .i64 (v6+1)))) else (bif (decide ((v5.length:Int)>0)) then (bif ((decide (0≤(wrap .i64 ((v5.length:Int) - 1))∧(wrap .i64 ((v5.length:Int) - 1))<(v5.length:Int)))&&true) then (bif (decide ((0+(Int.toNat (wrap .i64 ((v5.length:Int) - 1))))<v5.length)) then (bif ((decide (0≤v6∧v6<(l0.length:Int)))&&true) then (bif ((rd v5 (0+(Int.toNat (wrap .i64 ((v5.length:Int) - 1))))).b == (rd l0 v6.toNat)) then (bif ((decide (0≤(wrap .i64 (v6+1))∧(wrap .i64 (v6+1))<(l0.length:Int)))&&true) then (.to (.h0 (v5.set (0+(Int.toNat (wrap .i64 ((v5.length:Int) - 1)))) (R2.mk (rd v5 (0+(Int.toNat (wrap .i64 ((v5.length:Int) - 1))))).a (rd l0 (Int.toNat (wrap .i64 (v6+1)))))) (wrap .i64 (v6+1)))) else .stuck) else (bif ((decide (0≤(wrap .i64 (v6+1))∧(wrap .i64 (v6+1))<(l0.length:Int)))&&true) then (bif (Nat.beq 2 2&&((decide (0+v5.length=v5.length))&&decide ((v5.length+1+1)*(16+1)≤Kj))) then (.to (.h0 (v5++[(R2.mk (rd l0 v6.toNat) (rd l0 (Int.toNat (wrap .i64 (v6+1)))))]) (wrap .i64 (v6+1)))) else .stuck) else .stuck)) else .stuck) else .stuck) else .stuck) else (bif ((decide (0≤v6∧v6<(l0.length:Int)))&&true) then (bif ((decide (0≤(wrap .i64 (v6+1))∧(wrap .i64 (v6+1))<(l0.length:Int)))&&true) then (bif (Nat.beq 2 2&&((decide (0+v5.length=v5.length))&&decide ((v5.length+1+1)*(16+1)≤Kj))) then (.to (.h0 (v5++[(R2.mk (rd l0 v6.toNat) (rd l0 (Int.toNat (wrap .i64 (v6+1)))))]) (wrap .i64 (v6+1)))) else .stuck) else .stuck) else .stuck))) else .stuck) else (.ret [(.dat v5.length (Zz v5))]))
def z8h (l0:List Int) (l1:List Bool):Xw rcanS:=(.to (.h0 ([]:List R2) 0))
theorem x9p (l0:List Int) (l1:List Bool): ∀s,Xu prog (Zy prog 131) (j3p l0 l1) (j3p l0 l1 s) (z0h l0 l1 s)
 | .h0 v5 v6=>(lb (fun k0=>(lo fun aE=>(lb (fun k1=>(sl Zm 30 [] ⟨[0],[],x4w,x4x⟩ ⟨[],[],[]⟩ (bl 2 3) (pp (fl v5 nn) (tt k1 (ww aE (tt k0 nn)))))) (fun k1=>(lb (fun k2=>(lo fun bZ=>(lo fun cN=>(lo fun dI=>(lb (fun k3=>(lo fun o0=>(sl Zm 53 [] ⟨[0],[],x4w,x4x⟩ ⟨[(5,.len (v5.set (0+(tn (wr ((v5.length:Int) - 1)))) (R2.mk (rd v5 (0+(tn (wr ((v5.length:Int) - 1))))).a (rd l0 (tn (wr (v6+1)))))).length)],[.rowed 2 (v5.set (0+(tn (wr ((v5.length:Int) - 1)))) (R2.mk (rd v5 (0+(tn (wr ((v5.length:Int) - 1))))).a (rd l0 (tn (wr (v6+1)))))).length (Zz (v5.set (0+(tn (wr ((v5.length:Int) - 1)))) (R2.mk (rd v5 (0+(tn (wr ((v5.length:Int) - 1))))).a (rd l0 (tn (wr (v6+1)))))))],[]⟩ (bl 14 16381) (pp (xL v5.length (v5.set (0+(tn (wr ((v5.length:Int) - 1)))) (R2.mk (rd v5 (0+(tn (wr ((v5.length:Int) - 1))))).a (rd l0 (tn (wr (v6+1)))))).length) (pp (xL v5.length (v5.set (0+(tn (wr ((v5.length:Int) - 1)))) (R2.mk (rd v5 (0+(tn (wr ((v5.length:Int) - 1))))).a (rd l0 (tn (wr (v6+1)))))).length) (pp (xS v5.length (Xh (Zz v5) (0+(tn (wr ((v5.length:Int) - 1)))) 1 [(ii (rd l0 (tn (wr (v6+1)))))]) (Zz (v5.set (0+(tn (wr ((v5.length:Int) - 1)))) (R2.mk (rd v5 (0+(tn (wr ((v5.length:Int) - 1))))).a (rd l0 (tn (wr (v6+1)))))))) (pp (pp (xF (Xh (Zz v5) (0+(tn (wr ((v5.length:Int) - 1)))) 1 [(ii (rd l0 (tn (wr (v6+1)))))])) nn) (ww cN (ww bZ (ww o0 (tt k3 (ww dI (ww cN (ww bZ (tt k2 (tt k1 (ww aE (tt k0 nn)))))))))))))))))) (fun k3=>(lo fun o0=>(lo fun o1=>(sl Zm 41 [] ⟨[2],[],x4w,x4x⟩ ⟨[(5,.len (v5++[(R2.mk (rd l0 (tn v6)) (rd l0 (tn (wr (v6+1)))))]).length)],[.rowed 2 (v5++[(R2.mk (rd l0 (tn v6)) (rd l0 (tn (wr (v6+1)))))]).length (Zz (v5++[(R2.mk (rd l0 (tn v6)) (rd l0 (tn (wr (v6+1)))))]))],[]⟩ (bl 14 8189) (pp (xL (v5.length+1) (v5++[(R2.mk (rd l0 (tn v6)) (rd l0 (tn (wr (v6+1)))))]).length) (pp (xL (v5.length+1) (v5++[(R2.mk (rd l0 (tn v6)) (rd l0 (tn (wr (v6+1)))))]).length) (pp (xS (v5.length+1) (Yy (Zz v5) 0 v5.length 2 [(ii (rd l0 (tn v6))),(ii (rd l0 (tn (wr (v6+1)))))]) (Zz (v5++[(R2.mk (rd l0 (tn v6)) (rd l0 (tn (wr (v6+1)))))]))) (pp (pp (xF (Yy (Zz v5) 0 v5.length 2 [(ii (rd l0 (tn v6))),(ii (rd l0 (tn (wr (v6+1)))))])) nn) (ww o1 (ww o0 (ww dI (tt k3 (ww dI (ww cN (ww bZ (tt k2 (tt k1 (ww aE (tt k0 nn)))))))))))))))))))))))) (fun k2=>(lo fun o0=>(lo fun o1=>(lo fun o2=>(sl Zm 41 [] ⟨[2],[],x4w,x4x⟩ ⟨[(5,.len (v5++[(R2.mk (rd l0 (tn v6)) (rd l0 (tn (wr (v6+1)))))]).length)],[.rowed 2 (v5++[(R2.mk (rd l0 (tn v6)) (rd l0 (tn (wr (v6+1)))))]).length (Zz (v5++[(R2.mk (rd l0 (tn v6)) (rd l0 (tn (wr (v6+1)))))]))],[]⟩ (bl 14 1) (pp (xL (v5.length+1) (v5++[(R2.mk (rd l0 (tn v6)) (rd l0 (tn (wr (v6+1)))))]).length) (pp (xL (v5.length+1) (v5++[(R2.mk (rd l0 (tn v6)) (rd l0 (tn (wr (v6+1)))))]).length) (pp (xS (v5.length+1) (Yy (Zz v5) 0 v5.length 2 [(ii (rd l0 (tn v6))),(ii (rd l0 (tn (wr (v6+1)))))]) (Zz (v5++[(R2.mk (rd l0 (tn v6)) (rd l0 (tn (wr (v6+1)))))]))) (pp (pp (xF (Yy (Zz v5) 0 v5.length 2 [(ii (rd l0 (tn v6))),(ii (rd l0 (tn (wr (v6+1)))))])) nn) (ww o2 (ww o1 (ww o0 (tt k2 (tt k1 (ww aE (tt k0 nn))))))))))))))))))))) (fun k0=>(lr 61 3 [1,1,1,1,0] 1 6 [(4,(.dat v5.length (Zz v5)))] (sl Zm 16 [] ⟨[],[0],[some [4]],[]⟩ ⟨[(4,.frz v5.length v5.length (Zz v5) (Zz v5))],[],[]⟩ [false] (pp (xZ (z7j 2 2 0 v5.length v5.length (Zz v5)) v5.length (Zz v5)) (pp (xL v5.length v5.length) (pp (xS v5.length (Zz v5) (Zz v5)) (pp (fl v5 nn) (tt k0 nn)))))))))
theorem x4v (l0:List Int) (l1:List Bool):Xu prog (Zy prog 131) (j3p l0 l1) (Za prog 131 [(.dat l0.length (Zz l0)),(.dat l1.length (Zz l1))] true []) (z8h l0 l1):=(sl Zm 15 [(176,2,Zz ([]:List R2))] ⟨[0],[],x4w,x4x⟩ ⟨[(5,.grow 0 2)],[],[]⟩ [] (pp (fl ([]:List R2) nn) nn))
theorem v4g (l0:List Int) (l1:List Bool) (n:Nat) (vs:List AVal) (h:Yx (z0h l0 l1) n (z8h l0 l1)=.ret vs):Ur prog (Zy prog 131) (Za prog 131 [(.dat l0.length (Zz l0)),(.dat l1.length (Zz l1))] true []) vs:=by have:=Zc (x9p l0 l1) n _ (x4v l0 l1);rwa [h] at this
inductive rsmS where
 | h0 (v5:Int)
def rsmC (l0:List R2) (l1:List R2):rsmS→Cfg
 | .h0 v5=>⟨⟨26,0,true⟩,none,(Zb prog 132 [1,1,0,1,0,0] 0),none,(Zy prog 6),⟨Yg [(0,(.dat l0.length (Zz l0))),(1,(.dat l1.length (Zz l1))),(5,(ii v5))],Wt [] 0,0,[],true⟩,[],.leaf⟩
def rsmN0 :List (Option (List Nat)):=[some [0,1,5]]
def rsmM0 :List (Option (List Nat)):=[]
def z6n (l0:List R2) (l1:List R2):rsmS→Xw rsmS
 | .h0 v5=>(bif (decide (v5<(l0.length:Int))) then (bif ((decide (0≤v5∧v5<(l0.length:Int)))&&true) then (bif ((decide (0≤v5∧v5<(l1.length:Int)))&&true) then (bif (!(((rd l0 v5.toNat).a == (rd l1 v5.toNat).a)&&(((rd l0 v5.toNat).b == (rd l1 v5.toNat).b)&&true))) then (.ret [(.bool false)]) else (.to (.h0 (wrap .i64 (v5+1))))) else .stuck) else .stuck) else (.ret [(.bool true)]))
def z7t (l0:List R2) (l1:List R2):Xw rsmS:=(bif ((l0.length:Int) != (l1.length:Int)) then (.ret [(.bool false)]) else (.to (.h0 0)))
theorem w7j (l0:List R2) (l1:List R2): ∀s,Xu prog (Zy prog 132) (rsmC l0 l1) (rsmC l0 l1 s) (z6n l0 l1 s)
 | .h0 v5=>(lb (fun k0=>(lo fun aE=>(lo fun bE=>(lb (fun k1=>(lr 26 132 [1,1,0,1,0,0,1,0,0,1,0,0] 1 6 [(4,(.bool false))] (sl Zm 19 [] ⟨[],[],[some [4]],[]⟩ ⟨[],[],[]⟩ (bl 2 3) (tt k1 (ww bE (ww aE (tt k0 nn))))))) (fun k1=>(sl Zm 23 [] ⟨[],[],rsmN0,rsmM0⟩ ⟨[],[],[]⟩ (bl 2 1) (tt k1 (ww bE (ww aE (tt k0 nn)))))))))) (fun k0=>(lr 26 3 [1,1,1,1,0] 1 6 [(4,(.bool true))] (sl Zm 14 [] ⟨[],[],[some [4]],[]⟩ ⟨[],[],[]⟩ [false] (tt k0 nn)))))
theorem x8m (l0:List R2) (l1:List R2):Xu prog (Zy prog 132) (rsmC l0 l1) (Za prog 132 [(.dat l0.length (Zz l0)),(.dat l1.length (Zz l1))] true []) (z7t l0 l1):=(lb (fun k0=>(lr 26 132 [1,0,1,0,0] 1 6 [(4,(.bool false))] (sl Zm 18 [] ⟨[],[],[some [4]],[]⟩ ⟨[],[],[]⟩ [true] (tt k0 nn)))) (fun k0=>(sl Zm 22 [] ⟨[],[],rsmN0,rsmM0⟩ ⟨[],[],[]⟩ [false] (tt k0 nn))))
theorem u0m (l0:List R2) (l1:List R2) (n:Nat) (vs:List AVal) (h:Yx (z6n l0 l1) n (z7t l0 l1)=.ret vs):Ur prog (Zy prog 132) (Za prog 132 [(.dat l0.length (Zz l0)),(.dat l1.length (Zz l1))] true []) vs:=by have:=Zc (w7j l0 l1) n _ (x8m l0 l1);rwa [h] at this
inductive rhasS where
 | h0 (v7:Int)
def j3d (l0:List R4) (x1:Int) (x2:Int):rhasS→Cfg
 | .h0 v7=>⟨⟨48,0,true⟩,none,(Zb prog 130 [1,0,1,0,0] 0),none,(Zy prog 3),⟨Yg [(0,(.dat l0.length (Zz l0))),(1,(ii x1)),(2,(ii x2)),(7,(ii v7))],Wt [] 0,0,[],true⟩,[],.leaf⟩
def x4m :List (Option (List Nat)):=[some [0,1,2,7]]
def x4n :List (Option (List Nat)):=[]
def z5j (l0:List R4) (x1:Int) (x2:Int):rhasS→Xw rhasS
 | .h0 v7=>(bif (decide (v7<(l0.length:Int))) then (bif ((decide (0≤v7∧v7<(l0.length:Int)))&&true) then (bif (decide ((rd l0 v7.toNat).a ≤x1)) then (bif (decide (x1<(rd l0 v7.toNat).c)) then (bif (decide ((rd l0 v7.toNat).b ≤x2)) then (bif (decide (x2<(rd l0 v7.toNat).d)) then (.ret [(.bool true)]) else (.to (.h0 (wrap .i64 (v7+1))))) else (.to (.h0 (wrap .i64 (v7+1))))) else (.to (.h0 (wrap .i64 (v7+1))))) else (.to (.h0 (wrap .i64 (v7+1))))) else .stuck) else (.ret [(.bool false)]))
def z7z (l0:List R4) (x1:Int) (x2:Int):Xw rhasS:=(.to (.h0 0))
theorem x8z (l0:List R4) (x1:Int) (x2:Int): ∀s,Xu prog (Zy prog 130) (j3d l0 x1 x2) (j3d l0 x1 x2 s) (z5j l0 x1 x2 s)
 | .h0 v7=>(lb (fun k0=>(lo fun aE=>(lb (fun k1=>(lb (fun k2=>(lb (fun k3=>(lb (fun k4=>(lr 48 130 [1,0,1,0,0,1,0,0,1,0,0] 1 3 [(6,(.bool true))] (sl Zm 54 [] ⟨[],[],[some [6]],[]⟩ ⟨[],[],[]⟩ (trs 23 []) (tt k4 (ww aE (tt k3 (ww aE (tt k2 (ww aE (tt k1 (ww aE (tt k0 nn)))))))))))) (fun k4=>(sl Zm 58 [] ⟨[],[],x4m,x4n⟩ ⟨[],[],[]⟩ (trs 22 [false]) (tt k4 (ww aE (tt k3 (ww aE (tt k2 (ww aE (tt k1 (ww aE (tt k0 nn))))))))))))) (fun k3=>(sl Zm 58 [] ⟨[],[],x4m,x4n⟩ ⟨[],[],[]⟩ (trs 15 (bl 8 0)) (tt k3 (ww aE (tt k2 (ww aE (tt k1 (ww aE (tt k0 nn))))))))))) (fun k2=>(sl Zm 58 [] ⟨[],[],x4m,x4n⟩ ⟨[],[],[]⟩ (trs 8 (bl 15 0)) (tt k2 (ww aE (tt k1 (ww aE (tt k0 nn))))))))) (fun k1=>(sl Zm 58 [] ⟨[],[],x4m,x4n⟩ ⟨[],[],[]⟩ (bl 23 1) (tt k1 (ww aE (tt k0 nn)))))))) (fun k0=>(lr 48 3 [1,1,1,1,0] 1 3 [(6,(.bool false))] (sl Zm 14 [] ⟨[],[],[some [6]],[]⟩ ⟨[],[],[]⟩ [false] (tt k0 nn)))))
theorem x4l (l0:List R4) (x1:Int) (x2:Int):Xu prog (Zy prog 130) (j3d l0 x1 x2) (Za prog 130 [(.dat l0.length (Zz l0)),(.int .i64 x1),(.int .i64 x2)] true []) (z7z l0 x1 x2):=(sl Zm 11 [] ⟨[],[],x4m,x4n⟩ ⟨[],[],[]⟩ [] nn)
theorem v3p (l0:List R4) (x1:Int) (x2:Int) (n:Nat) (vs:List AVal) (h:Yx (z5j l0 x1 x2) n (z7z l0 x1 x2)=.ret vs):Ur prog (Zy prog 130) (Za prog 130 [(.dat l0.length (Zz l0)),(.int .i64 x1),(.int .i64 x2)] true []) vs:=by have:=Zc (x8z l0 x1 x2) n _ (x4l l0 x1 x2);rwa [h] at this
inductive rsrS where
 | h0 (v5:Int)
def rsrC (l0:List R4) (l1:List R4):rsrS→Cfg
 | .h0 v5=>⟨⟨26,0,true⟩,none,(Zb prog 109 [1,1,0,1,0,0] 0),none,(Zy prog 6),⟨Yg [(0,(.dat l0.length (Zz l0))),(1,(.dat l1.length (Zz l1))),(5,(ii v5))],Wt [] 0,0,[],true⟩,[],.leaf⟩
def rsrN0 :List (Option (List Nat)):=[some [0,1,5]]
def rsrM0 :List (Option (List Nat)):=[]
def z6l (l0:List R4) (l1:List R4):rsrS→Xw rsrS
 | .h0 v5=>(bif (decide (v5<(l0.length:Int))) then (bif ((decide (0≤v5∧v5<(l0.length:Int)))&&true) then (bif ((decide (0≤v5∧v5<(l1.length:Int)))&&true) then (bif (!(((rd l0 v5.toNat).a == (rd l1 v5.toNat).a)&&(((rd l0 v5.toNat).b == (rd l1 v5.toNat).b)&&(((rd l0 v5.toNat).c == (rd l1 v5.toNat).c)&&(((rd l0 v5.toNat).d == (rd l1 v5.toNat).d)&&true))))) then (.ret [(.bool false)]) else (.to (.h0 (wrap .i64 (v5+1))))) else .stuck) else .stuck) else (.ret [(.bool true)]))
def z7r (l0:List R4) (l1:List R4):Xw rsrS:=(bif ((l0.length:Int) != (l1.length:Int)) then (.ret [(.bool false)]) else (.to (.h0 0)))
theorem w7g (l0:List R4) (l1:List R4): ∀s,Xu prog (Zy prog 109) (rsrC l0 l1) (rsrC l0 l1 s) (z6l l0 l1 s)
 | .h0 v5=>(lb (fun k0=>(lo fun aE=>(lo fun bE=>(lb (fun k1=>(lr 26 109 [1,1,0,1,0,0,1,0,0,1,0,0] 1 6 [(4,(.bool false))] (sl Zm 19 [] ⟨[],[],[some [4]],[]⟩ ⟨[],[],[]⟩ (bl 2 3) (tt k1 (ww bE (ww aE (tt k0 nn))))))) (fun k1=>(sl Zm 23 [] ⟨[],[],rsrN0,rsrM0⟩ ⟨[],[],[]⟩ (bl 2 1) (tt k1 (ww bE (ww aE (tt k0 nn)))))))))) (fun k0=>(lr 26 3 [1,1,1,1,0] 1 6 [(4,(.bool true))] (sl Zm 14 [] ⟨[],[],[some [4]],[]⟩ ⟨[],[],[]⟩ [false] (tt k0 nn)))))
theorem x8k (l0:List R4) (l1:List R4):Xu prog (Zy prog 109) (rsrC l0 l1) (Za prog 109 [(.dat l0.length (Zz l0)),(.dat l1.length (Zz l1))] true []) (z7r l0 l1):=(lb (fun k0=>(lr 26 109 [1,0,1,0,0] 1 6 [(4,(.bool false))] (sl Zm 18 [] ⟨[],[],[some [4]],[]⟩ ⟨[],[],[]⟩ [true] (tt k0 nn)))) (fun k0=>(sl Zm 22 [] ⟨[],[],rsrN0,rsrM0⟩ ⟨[],[],[]⟩ [false] (tt k0 nn))))
theorem u0k (l0:List R4) (l1:List R4) (n:Nat) (vs:List AVal) (h:Yx (z6l l0 l1) n (z7r l0 l1)=.ret vs):Ur prog (Zy prog 109) (Za prog 109 [(.dat l0.length (Zz l0)),(.dat l1.length (Zz l1))] true []) vs:=by have:=Zc (w7g l0 l1) n _ (x8k l0 l1);rwa [h] at this
inductive rsbS where
 | h0 (v5:Int)
def rsbC (l0:List R6) (l1:List R6):rsbS→Cfg
 | .h0 v5=>⟨⟨26,0,true⟩,none,(Zb prog 22 [1,1,0,1,0,0] 0),none,(Zy prog 6),⟨Yg [(0,(.dat l0.length (Zz l0))),(1,(.dat l1.length (Zz l1))),(5,(ii v5))],Wt [] 0,0,[],true⟩,[],.leaf⟩
def rsbN0 :List (Option (List Nat)):=[some [0,1,5]]
def rsbM0 :List (Option (List Nat)):=[]
def z6o (l0:List R6) (l1:List R6):rsbS→Xw rsbS
 | .h0 v5=>(bif (decide (v5<(l0.length:Int))) then (bif ((decide (0≤v5∧v5<(l0.length:Int)))&&true) then (bif ((decide (0≤v5∧v5<(l1.length:Int)))&&true) then (bif (!((((rd l0 v5.toNat).a == (rd l1 v5.toNat).a)&&(((rd l0 v5.toNat).b == (rd l1 v5.toNat).b)&&(((rd l0 v5.toNat).c == (rd l1 v5.toNat).c)&&true)))&&((((rd l0 v5.toNat).d == (rd l1 v5.toNat).d)&&(((rd l0 v5.toNat).e == (rd l1 v5.toNat).e)&&(((rd l0 v5.toNat).f == (rd l1 v5.toNat).f)&&true)))&&true))) then (.ret [(.bool false)]) else (.to (.h0 (wrap .i64 (v5+1))))) else .stuck) else .stuck) else (.ret [(.bool true)]))
def z7u (l0:List R6) (l1:List R6):Xw rsbS:=(bif ((l0.length:Int) != (l1.length:Int)) then (.ret [(.bool false)]) else (.to (.h0 0)))
theorem w7k (l0:List R6) (l1:List R6): ∀s,Xu prog (Zy prog 22) (rsbC l0 l1) (rsbC l0 l1 s) (z6o l0 l1 s)
 | .h0 v5=>(lb (fun k0=>(lo fun aE=>(lo fun bE=>(lb (fun k1=>(lr 26 22 [1,1,0,1,0,0,1,0,0,1,0,0] 1 6 [(4,(.bool false))] (sl Zm 19 [] ⟨[],[],[some [4]],[]⟩ ⟨[],[],[]⟩ (bl 2 3) (tt k1 (ww bE (ww aE (tt k0 nn))))))) (fun k1=>(sl Zm 23 [] ⟨[],[],rsbN0,rsbM0⟩ ⟨[],[],[]⟩ (bl 2 1) (tt k1 (ww bE (ww aE (tt k0 nn)))))))))) (fun k0=>(lr 26 3 [1,1,1,1,0] 1 6 [(4,(.bool true))] (sl Zm 14 [] ⟨[],[],[some [4]],[]⟩ ⟨[],[],[]⟩ [false] (tt k0 nn)))))
theorem x8n (l0:List R6) (l1:List R6):Xu prog (Zy prog 22) (rsbC l0 l1) (Za prog 22 [(.dat l0.length (Zz l0)),(.dat l1.length (Zz l1))] true []) (z7u l0 l1):=(lb (fun k0=>(lr 26 22 [1,0,1,0,0] 1 6 [(4,(.bool false))] (sl Zm 18 [] ⟨[],[],[some [4]],[]⟩ ⟨[],[],[]⟩ [true] (tt k0 nn)))) (fun k0=>(sl Zm 22 [] ⟨[],[],rsbN0,rsbM0⟩ ⟨[],[],[]⟩ [false] (tt k0 nn))))
theorem u0n (l0:List R6) (l1:List R6) (n:Nat) (vs:List AVal) (h:Yx (z6o l0 l1) n (z7u l0 l1)=.ret vs):Ur prog (Zy prog 22) (Za prog 22 [(.dat l0.length (Zz l0)),(.dat l1.length (Zz l1))] true []) vs:=by have:=Zc (w7k l0 l1) n _ (x8n l0 l1);rwa [h] at this
inductive ratS where
 | h0 (v5:List R4) (v6:Int)
def ratC (l0:List R6) (x1:Int):ratS→Cfg
 | .h0 v5 v6=>⟨⟨60,0,true⟩,none,(Zb prog 108 [1,1,0,1,0,0] 0),none,(Zy prog 6),⟨Yg [(0,(.dat l0.length (Zz l0))),(1,(ii x1)),(5,(.sla 0 4 0 v5.length (.un 4))),(6,(ii v6))],Wt [⟨Ym v5.length (Zz v5),116,some ⟨4,v5.length,(Zz v5)⟩⟩] 0,1,[],true⟩,[],.leaf⟩
def u1u :List (Option (List Nat)):=[some [0,1,5,6]]
def u1v :List (Option (List Nat)):=[]
def z6s (l0:List R6) (x1:Int):ratS→Xw ratS
 | .h0 v5 v6=>(bif (decide (v6<(l0.length:Int))) then (bif ((decide (0≤v6∧v6<(l0.length:Int)))&&true) then (bif (decide ((rd l0 v6.toNat).c ≤x1)) then (bif (decide (x1<(rd l0 v6.toNat).f)) then (bif (Nat.beq 4 4&&((decide (0+v5.length=v5.length))&&decide ((v5.length+1+1)*(32+1)≤Kj))) then (.to (.h0 (v5++[(R4.mk (rd l0 v6.toNat).a (rd l0 v6.toNat).b (rd l0 v6.toNat).d (rd l0 v6.toNat).e)]) (wrap .i64 (v6+1)))) else .stuck) else (.to (.h0 v5 (wrap .i64 (v6+1))))) else (.to (.h0 v5 (wrap .i64 (v6+1))))) else .stuck) else (.ret [(.dat v5.length (Zz v5))]))
def y3u (l0:List R6) (x1:Int):Xw ratS:=(.to (.h0 ([]:List R4) 0))
theorem w8d (l0:List R6) (x1:Int): ∀s,Xu prog (Zy prog 108) (ratC l0 x1) (ratC l0 x1 s) (z6s l0 x1 s)
 | .h0 v5 v6=>(lb (fun k0=>(lo fun aE=>(lb (fun k1=>(lb (fun k2=>(lo fun o0=>(sl Zm 42 [] ⟨[2],[],u1u,u1v⟩ ⟨[(5,.len (v5++[(R4.mk (rd l0 (tn v6)).a (rd l0 (tn v6)).b (rd l0 (tn v6)).d (rd l0 (tn v6)).e)]).length)],[.rowed 4 (v5++[(R4.mk (rd l0 (tn v6)).a (rd l0 (tn v6)).b (rd l0 (tn v6)).d (rd l0 (tn v6)).e)]).length (Zz (v5++[(R4.mk (rd l0 (tn v6)).a (rd l0 (tn v6)).b (rd l0 (tn v6)).d (rd l0 (tn v6)).e)]))],[]⟩ (trs 10 []) (pp (xL (v5.length+1) (v5++[(R4.mk (rd l0 (tn v6)).a (rd l0 (tn v6)).b (rd l0 (tn v6)).d (rd l0 (tn v6)).e)]).length) (pp (xL (v5.length+1) (v5++[(R4.mk (rd l0 (tn v6)).a (rd l0 (tn v6)).b (rd l0 (tn v6)).d (rd l0 (tn v6)).e)]).length) (pp (xS (v5.length+1) (Yy (Zz v5) 0 v5.length 4 [(ii (rd l0 (tn v6)).a),(ii (rd l0 (tn v6)).b),(ii (rd l0 (tn v6)).d),(ii (rd l0 (tn v6)).e)]) (Zz (v5++[(R4.mk (rd l0 (tn v6)).a (rd l0 (tn v6)).b (rd l0 (tn v6)).d (rd l0 (tn v6)).e)]))) (pp (pp (xF (Yy (Zz v5) 0 v5.length 4 [(ii (rd l0 (tn v6)).a),(ii (rd l0 (tn v6)).b),(ii (rd l0 (tn v6)).d),(ii (rd l0 (tn v6)).e)])) nn) (ww o0 (ww aE (ww aE (ww aE (ww aE (tt k2 (ww aE (tt k1 (ww aE (tt k0 nn))))))))))))))))) (fun k2=>(sl Zm 42 [] ⟨[0],[],u1u,u1v⟩ ⟨[],[],[]⟩ (trs 9 [false]) (pp (fl v5 nn) (tt k2 (ww aE (tt k1 (ww aE (tt k0 nn)))))))))) (fun k1=>(sl Zm 42 [] ⟨[0],[],u1u,u1v⟩ ⟨[],[],[]⟩ (bl 10 1) (pp (fl v5 nn) (tt k1 (ww aE (tt k0 nn))))))))) (fun k0=>(lr 60 3 [1,1,1,1,0] 1 6 [(4,(.dat v5.length (Zz v5)))] (sl Zm 15 [] ⟨[],[0],[some [4]],[]⟩ ⟨[(4,.frz v5.length v5.length (Zz v5) (Zz v5))],[],[]⟩ [false] (pp (xZ (z7j 4 4 0 v5.length v5.length (Zz v5)) v5.length (Zz v5)) (pp (xL v5.length v5.length) (pp (xS v5.length (Zz v5) (Zz v5)) (pp (fl v5 nn) (tt k0 nn)))))))))
theorem x9q (l0:List R6) (x1:Int):Xu prog (Zy prog 108) (ratC l0 x1) (Za prog 108 [(.dat l0.length (Zz l0)),(.int .i64 x1)] true []) (y3u l0 x1):=(sl Zm 15 [(116,4,Zz ([]:List R4))] ⟨[0],[],u1u,u1v⟩ ⟨[(5,.grow 0 4)],[],[]⟩ [] (pp (fl ([]:List R4) nn) nn))
theorem u1t (l0:List R6) (x1:Int) (n:Nat) (vs:List AVal) (h:Yx (z6s l0 x1) n (y3u l0 x1)=.ret vs):Ur prog (Zy prog 108) (Za prog 108 [(.dat l0.length (Zz l0)),(.int .i64 x1)] true []) vs:=by have:=Zc (w8d l0 x1) n _ (x9q l0 x1);rwa [h] at this
inductive eqaS where
 | h0 (v13:Int)
def eqaC (l0:List R2) (l1:List R2):eqaS→Cfg
 | .h0 v13=>⟨⟨26,0,true⟩,none,(Zb prog 159 [1,1,0,1,0,0] 0),none,(Zy prog 6),⟨Yg [(0,(.dat l0.length (Zz l0))),(1,(.dat l1.length (Zz l1))),(12,(ii (l0.length:Int))),(13,(ii v13))],Wt [] 0,0,[],true⟩,[],.leaf⟩
def eqaN0 :List (Option (List Nat)):=[some [0,1,12,13]]
def eqaM0 :List (Option (List Nat)):=[]
def z7a (l0:List R2) (l1:List R2):eqaS→Xw eqaS
 | .h0 v13=>(bif (decide (v13<(l0.length:Int))) then (bif ((decide (0≤v13∧v13<(l0.length:Int)))&&true) then (bif ((decide (0≤v13∧v13<(l1.length:Int)))&&true) then (bif (!(((rd l0 v13.toNat).a == (rd l1 v13.toNat).a)&&(((rd l0 v13.toNat).b == (rd l1 v13.toNat).b)&&true))) then (.ret [(.bool false)]) else (.to (.h0 (wrap .i64 (v13+1))))) else .stuck) else .stuck) else (.ret [(.bool true)]))
def z8z (l0:List R2) (l1:List R2):Xw eqaS:=(bif ((l0.length:Int) != (l1.length:Int)) then (.ret [(.bool false)]) else (.to (.h0 0)))
theorem w9p (l0:List R2) (l1:List R2): ∀s,Xu prog (Zy prog 159) (eqaC l0 l1) (eqaC l0 l1 s) (z7a l0 l1 s)
 | .h0 v13=>(lb (fun k0=>(lo fun aE=>(lo fun bE=>(lb (fun k1=>(lr 26 159 [1,1,0,1,0,0,1,1,0,0,1,1,0,0] 1 6 [(4,(.bool false))] (sl Zm 21 [] ⟨[],[],[some [4]],[]⟩ ⟨[],[],[]⟩ (bl 2 3) (tt k1 (ww bE (ww aE (tt k0 nn))))))) (fun k1=>(sl Zm 24 [] ⟨[],[],eqaN0,eqaM0⟩ ⟨[],[],[]⟩ (bl 2 1) (tt k1 (ww bE (ww aE (tt k0 nn)))))))))) (fun k0=>(lr 26 3 [1,1,1,1,0] 1 6 [(4,(.bool true))] (sl Zm 11 [] ⟨[],[],[some [4]],[]⟩ ⟨[],[],[]⟩ [false] (tt k0 nn)))))
theorem w1s (l0:List R2) (l1:List R2):Xu prog (Zy prog 159) (eqaC l0 l1) (Za prog 159 [(.dat l0.length (Zz l0)),(.dat l1.length (Zz l1))] true []) (z8z l0 l1):=(lb (fun k0=>(lr 26 159 [1,0,1,0,0] 1 6 [(4,(.bool false))] (sl Zm 18 [] ⟨[],[],[some [4]],[]⟩ ⟨[],[],[]⟩ [true] (tt k0 nn)))) (fun k0=>(sl Zm 24 [] ⟨[],[],eqaN0,eqaM0⟩ ⟨[],[],[]⟩ [false] (tt k0 nn))))
theorem u4d (l0:List R2) (l1:List R2) (n:Nat) (vs:List AVal) (h:Yx (z7a l0 l1) n (z8z l0 l1)=.ret vs):Ur prog (Zy prog 159) (Za prog 159 [(.dat l0.length (Zz l0)),(.dat l1.length (Zz l1))] true []) vs:=by have:=Zc (w9p l0 l1) n _ (w1s l0 l1);rwa [h] at this
inductive eqbS where
 | h0 (v13:Int)
def eqbC (l0:List R4) (l1:List R4):eqbS→Cfg
 | .h0 v13=>⟨⟨26,0,true⟩,none,(Zb prog 163 [1,1,0,1,0,0] 0),none,(Zy prog 6),⟨Yg [(0,(.dat l0.length (Zz l0))),(1,(.dat l1.length (Zz l1))),(12,(ii (l0.length:Int))),(13,(ii v13))],Wt [] 0,0,[],true⟩,[],.leaf⟩
def eqbN0 :List (Option (List Nat)):=[some [0,1,12,13]]
def eqbM0 :List (Option (List Nat)):=[]
def z6z (l0:List R4) (l1:List R4):eqbS→Xw eqbS
 | .h0 v13=>(bif (decide (v13<(l0.length:Int))) then (bif ((decide (0≤v13∧v13<(l0.length:Int)))&&true) then (bif ((decide (0≤v13∧v13<(l1.length:Int)))&&true) then (bif (!(((rd l0 v13.toNat).a == (rd l1 v13.toNat).a)&&(((rd l0 v13.toNat).b == (rd l1 v13.toNat).b)&&(((rd l0 v13.toNat).c == (rd l1 v13.toNat).c)&&(((rd l0 v13.toNat).d == (rd l1 v13.toNat).d)&&true))))) then (.ret [(.bool false)]) else (.to (.h0 (wrap .i64 (v13+1))))) else .stuck) else .stuck) else (.ret [(.bool true)]))
def z8y (l0:List R4) (l1:List R4):Xw eqbS:=(bif ((l0.length:Int) != (l1.length:Int)) then (.ret [(.bool false)]) else (.to (.h0 0)))
theorem w9o (l0:List R4) (l1:List R4): ∀s,Xu prog (Zy prog 163) (eqbC l0 l1) (eqbC l0 l1 s) (z6z l0 l1 s)
 | .h0 v13=>(lb (fun k0=>(lo fun aE=>(lo fun bE=>(lb (fun k1=>(lr 26 163 [1,1,0,1,0,0,1,1,0,0,1,1,0,0] 1 6 [(4,(.bool false))] (sl Zm 21 [] ⟨[],[],[some [4]],[]⟩ ⟨[],[],[]⟩ (bl 2 3) (tt k1 (ww bE (ww aE (tt k0 nn))))))) (fun k1=>(sl Zm 24 [] ⟨[],[],eqbN0,eqbM0⟩ ⟨[],[],[]⟩ (bl 2 1) (tt k1 (ww bE (ww aE (tt k0 nn)))))))))) (fun k0=>(lr 26 3 [1,1,1,1,0] 1 6 [(4,(.bool true))] (sl Zm 11 [] ⟨[],[],[some [4]],[]⟩ ⟨[],[],[]⟩ [false] (tt k0 nn)))))
theorem w1r (l0:List R4) (l1:List R4):Xu prog (Zy prog 163) (eqbC l0 l1) (Za prog 163 [(.dat l0.length (Zz l0)),(.dat l1.length (Zz l1))] true []) (z8y l0 l1):=(lb (fun k0=>(lr 26 163 [1,0,1,0,0] 1 6 [(4,(.bool false))] (sl Zm 18 [] ⟨[],[],[some [4]],[]⟩ ⟨[],[],[]⟩ [true] (tt k0 nn)))) (fun k0=>(sl Zm 24 [] ⟨[],[],eqbN0,eqbM0⟩ ⟨[],[],[]⟩ [false] (tt k0 nn))))
theorem u4c (l0:List R4) (l1:List R4) (n:Nat) (vs:List AVal) (h:Yx (z6z l0 l1) n (z8y l0 l1)=.ret vs):Ur prog (Zy prog 163) (Za prog 163 [(.dat l0.length (Zz l0)),(.dat l1.length (Zz l1))] true []) vs:=by have:=Zc (w9o l0 l1) n _ (w1r l0 l1);rwa [h] at this
inductive eqcS where
 | h0 (v13:Int)
def eqcC (l0:List R6) (l1:List R6):eqcS→Cfg
 | .h0 v13=>⟨⟨26,0,true⟩,none,(Zb prog 94 [1,1,0,1,0,0] 0),none,(Zy prog 6),⟨Yg [(0,(.dat l0.length (Zz l0))),(1,(.dat l1.length (Zz l1))),(12,(ii (l0.length:Int))),(13,(ii v13))],Wt [] 0,0,[],true⟩,[],.leaf⟩
def eqcN0 :List (Option (List Nat)):=[some [0,1,12,13]]
def eqcM0 :List (Option (List Nat)):=[]
def z6y (l0:List R6) (l1:List R6):eqcS→Xw eqcS
 | .h0 v13=>(bif (decide (v13<(l0.length:Int))) then (bif ((decide (0≤v13∧v13<(l0.length:Int)))&&true) then (bif ((decide (0≤v13∧v13<(l1.length:Int)))&&true) then (bif (!((((rd l0 v13.toNat).a == (rd l1 v13.toNat).a)&&(((rd l0 v13.toNat).b == (rd l1 v13.toNat).b)&&(((rd l0 v13.toNat).c == (rd l1 v13.toNat).c)&&true)))&&((((rd l0 v13.toNat).d == (rd l1 v13.toNat).d)&&(((rd l0 v13.toNat).e == (rd l1 v13.toNat).e)&&(((rd l0 v13.toNat).f == (rd l1 v13.toNat).f)&&true)))&&true))) then (.ret [(.bool false)]) else (.to (.h0 (wrap .i64 (v13+1))))) else .stuck) else .stuck) else (.ret [(.bool true)]))
def z8x (l0:List R6) (l1:List R6):Xw eqcS:=(bif ((l0.length:Int) != (l1.length:Int)) then (.ret [(.bool false)]) else (.to (.h0 0)))
theorem w9n (l0:List R6) (l1:List R6): ∀s,Xu prog (Zy prog 94) (eqcC l0 l1) (eqcC l0 l1 s) (z6y l0 l1 s)
 | .h0 v13=>(lb (fun k0=>(lo fun aE=>(lo fun bE=>(lb (fun k1=>(lr 26 94 [1,1,0,1,0,0,1,1,0,0,1,1,0,0] 1 6 [(4,(.bool false))] (sl Zm 21 [] ⟨[],[],[some [4]],[]⟩ ⟨[],[],[]⟩ (bl 2 3) (tt k1 (ww bE (ww aE (tt k0 nn))))))) (fun k1=>(sl Zm 24 [] ⟨[],[],eqcN0,eqcM0⟩ ⟨[],[],[]⟩ (bl 2 1) (tt k1 (ww bE (ww aE (tt k0 nn)))))))))) (fun k0=>(lr 26 3 [1,1,1,1,0] 1 6 [(4,(.bool true))] (sl Zm 11 [] ⟨[],[],[some [4]],[]⟩ ⟨[],[],[]⟩ [false] (tt k0 nn)))))
theorem w1q (l0:List R6) (l1:List R6):Xu prog (Zy prog 94) (eqcC l0 l1) (Za prog 94 [(.dat l0.length (Zz l0)),(.dat l1.length (Zz l1))] true []) (z8x l0 l1):=(lb (fun k0=>(lr 26 94 [1,0,1,0,0] 1 6 [(4,(.bool false))] (sl Zm 18 [] ⟨[],[],[some [4]],[]⟩ ⟨[],[],[]⟩ [true] (tt k0 nn)))) (fun k0=>(sl Zm 24 [] ⟨[],[],eqcN0,eqcM0⟩ ⟨[],[],[]⟩ [false] (tt k0 nn))))
theorem u4b (l0:List R6) (l1:List R6) (n:Nat) (vs:List AVal) (h:Yx (z6y l0 l1) n (z8x l0 l1)=.ret vs):Ur prog (Zy prog 94) (Za prog 94 [(.dat l0.length (Zz l0)),(.dat l1.length (Zz l1))] true []) vs:=by have:=Zc (w9n l0 l1) n _ (w1q l0 l1);rwa [h] at this
inductive holS where
def holC (x0:Int) (x1:Bool) (x2:Bool):holS→Cfg
 :=nofun
def w1c (x0:Int) (x1:Bool) (x2:Bool):holS→Xw holS
 :=nofun
def y4e (x0:Int) (x1:Bool) (x2:Bool):Xw holS:=(bif (x0 == 1) then (bif x1 then (.ret [(.bool x2)]) else (.ret [(.bool false)])) else (bif (x0 == 2) then (bif x1 then (.ret [(.bool true)]) else (.ret [(.bool x2)])) else (bif x1 then (.ret [(.bool (!x2))]) else (.ret [(.bool false)]))))
theorem w9b (x0:Int) (x1:Bool) (x2:Bool): ∀s,Xu prog (Zy prog 129) (holC x0 x1 x2) (holC x0 x1 x2 s) (w1c x0 x1 x2 s)
 :=nofun
theorem w1d (x0:Int) (x1:Bool) (x2:Bool):Xu prog (Zy prog 129) (holC x0 x1 x2) (Za prog 129 [(.int .i64 x0),(.bool x1),(.bool x2)] true []) (y4e x0 x1 x2):=(lb (fun k0=>(lb (fun k1=>(lr 24 129 [1,0,1,0,0] 1 3 [(6,(.bool x2))] (sl Zm 19 [] ⟨[],[],[some [6]],[]⟩ ⟨[],[],[]⟩ [true,true] (tt k1 (tt k0 nn))))) (fun k1=>(lr 24 129 [1,0,1,0,0] 1 3 [(6,(.bool false))] (sl Zm 19 [] ⟨[],[],[some [6]],[]⟩ ⟨[],[],[]⟩ [true,false] (tt k1 (tt k0 nn))))))) (fun k0=>(lb (fun k1=>(lb (fun k2=>(lr 24 129 [1,1,0,1,0,0] 1 3 [(6,(.bool true))] (sl Zm 27 [] ⟨[],[],[some [6]],[]⟩ ⟨[],[],[]⟩ [false,true,true] (tt k2 (tt k1 (tt k0 nn)))))) (fun k2=>(lr 24 129 [1,1,0,1,0,0] 1 3 [(6,(.bool x2))] (sl Zm 27 [] ⟨[],[],[some [6]],[]⟩ ⟨[],[],[]⟩ [false,true,false] (tt k2 (tt k1 (tt k0 nn)))))))) (fun k1=>(lb (fun k2=>(lr 24 3 [1,1,1,1,0] 1 3 [(6,(.bool (!x2)))] (sl Zm 29 [] ⟨[],[],[some [6]],[]⟩ ⟨[],[],[]⟩ [false,false,true,true] (tt k2 (tt k1 (tt k0 nn)))))) (fun k2=>(lr 24 3 [1,1,1,1,0] 1 3 [(6,(.bool false))] (sl Zm 29 [] ⟨[],[],[some [6]],[]⟩ ⟨[],[],[]⟩ [false,false,false,false] (tt k2 (tt k1 (tt k0 nn)))))))))))
theorem u3j (x0:Int) (x1:Bool) (x2:Bool) (n:Nat) (vs:List AVal) (h:Yx (w1c x0 x1 x2) n (y4e x0 x1 x2)=.ret vs):Ur prog (Zy prog 129) (Za prog 129 [(.int .i64 x0),(.bool x1),(.bool x2)] true []) vs:=by have:=Zc (w9b x0 x1 x2) n _ (w1d x0 x1 x2);rwa [h] at this
inductive fstS where
def fstC (x0:Bool) (x1:Bool):fstS→Cfg
 :=nofun
def w1f (x0:Bool) (x1:Bool):fstS→Xw fstS
 :=nofun
def x3b (x0:Bool) (x1:Bool):Xw fstS:=(.ret [(.bool x0)])
theorem w9d (x0:Bool) (x1:Bool): ∀s,Xu prog (Zy prog 180) (fstC x0 x1) (fstC x0 x1 s) (w1f x0 x1 s)
 :=nofun
theorem w1g (x0:Bool) (x1:Bool):Xu prog (Zy prog 180) (fstC x0 x1) (Za prog 180 [(.bool x0),(.bool x1)] true []) (x3b x0 x1):=(lr 6 3 [1,1,1,1,0] 1 6 [(4,(.bool x0))] (sl Zm 9 [] ⟨[],[],[some [4]],[]⟩ ⟨[],[],[]⟩ [] nn))
theorem u3l (x0:Bool) (x1:Bool) (n:Nat) (vs:List AVal) (h:Yx (w1f x0 x1) n (x3b x0 x1)=.ret vs):Ur prog (Zy prog 180) (Za prog 180 [(.bool x0),(.bool x1)] true []) vs:=by have:=Zc (w9d x0 x1) n _ (w1g x0 x1);rwa [h] at this
theorem Zs {a b:Int} (h:a<b):decide (a<b)=true:=An h
theorem Yf {a b:Int} (h: ¬a<b):decide (a<b)=false:=Ay h
theorem Xo {a b:Int} (h:a≤b):decide (a≤b)=true:=An h
theorem w9t {a b:Int} (h: ¬a≤b):decide (a≤b)=false:=Ay h
theorem Xy {a b:Int} (h:a>b):decide (a>b)=true:=An h
theorem Xt {a b:Int} (h: ¬a>b):decide (a>b)=false:=Ay h
theorem dge_t {a b:Int} (h:a≥b):decide (a≥b)=true:=An h
theorem Yw {a b:Nat} (h:a<b):decide (a<b)=true:=An h
theorem Yb {a b:Nat} (h:a≤b):decide (a≤b)=true:=An h
theorem Yu {a b:Nat} (h:a=b):decide (a=b)=true:=An h
theorem Zt {a b:Int} (h:0≤a∧a<b):decide (0≤a∧a<b)=true:=An h
theorem Zf {a:Nat} (h:a≤1099511627776):decide (a≤Kj)=true:=An h
theorem Zk {n:Int} (h: -9223372036854775808≤n∧n≤9223372036854775807):wrap .i64 n=n:=w_in h.1 h.2
theorem z7e :((0:Nat):Int)=0:=rfl
theorem Zx (i:Nat):(i:Int)+1=((i+1:Nat):Int):=rfl
theorem Zn (i:Nat):((i+1:Nat):Int) - 1=(i:Int):=by omega
theorem z0z {a b:Int} (h:a≠b):(a != b)=true:=by simp [h]
theorem z1a {a b:Int} (h:a=b):(a != b)=false:=by simp [h]
theorem Yc (n:Nat):Nat.beq n n=true:=Nat.beq_refl n
theorem Zj (n:Nat):Int.toNat (n:Int)=n:=Int.toNat_natCast n
theorem Yk (b:Bool):b=true∨b=false:=by cases b <;> simp
theorem Yq {α:Type} [Xk α] {L:List α} {i:Nat} (h:i<L.length):L.drop i=rd L i::L.drop (i+1):=by rw [Yo h];exact Bq h
theorem Qi {P:Program} {S:Specs} (hS:Zu P S) {f:FuncId} {F:List AVal→Option (AVal×Bool)} (hf:(P.funcs[f]?).any (fun fn=>fn.body.isSome)=true)
  (hF: ∀args v,F args=some (v,true)→ ∃bs vs,Vz VLe args bs∧z0c vs=v∧Ur P (Zy P f) (Za P f bs true []) vs∧ ∃d,pf d v=true):Zu P (S.with f F):=w5w hS hf hF
def x9s (out:List Int) (x:Int):Nat→Nat
 | 0=>0
 | k+1=>bif decide (rd out k>x) then x9s out x k else k+1
def x0l (out:List Int) (x:Int):List Int:=
 match x9s out x out.length with
 | 0=>x::out
 | k+1=>bif rd out k == x then out else out.take (k+1)++x::out.drop (k+1)
def z3b (l:List Int):List Int:=l.foldl x0l []
def Qk (l:List Int):Bool:=decide (l.length≤1000000)
theorem y6n (out:List Int) (x:Int):(x0l out x).length ≤out.length+1:=by
 grind [x0l]
theorem x5q (out:List Int) (x:Int) (k:Nat) (hk:k≤out.length):
  (v7j (out++[0]) (k+1) (Nat.min (out.length+1 - k) (out.length+1 - (k+1))) (Ku (out++[0]) k (out.length+1 - k))).set k x=out.take k++x::out.drop k:=by
 have hm:Nat.min (out.length+1 - k) (out.length+1 - (k+1))=out.length - k:=by
  grind
 rw [hm];apply BF
 ·simp [z3n];omega
 ·intro i h1 h2;have hi:i<out.length+1:=by grind
  rw [←Yo h1,←Yo h2]
  grind [u8f,Yo,v3y,u4o,u4n,x2f]
theorem w3s (l:List Int) (out:List Int) (i:Nat) (hi:i<l.length) (hl:l.length≤1000000) (ho:out.length≤i): ∀(k N:Nat),k≤out.length→
  (x9s out (rd l i) out.length=x9s out (rd l i) k)→ ∃m,∀N,Yx (Vo l) (N+m) (.to (.h1 out (i:Int) (k:Int)))=Yx (Vo l) N (.to (.h0 (x0l out (rd l i)) ((i+1:Nat):Int)))
 | 0,N,hk,hp=>by
  refine ⟨1,fun N=> ?_⟩;have hins:x0l out (rd l i)=(v7j (out++[0]) (0+1) (Nat.min (out.length+1 - 0) (out.length+1 - (0+1))) (Ku (out++[0]) 0 (out.length+1 - 0))).set 0 (rd l i):=by rw [x5q out _ 0 (AB _)];unfold x0l;rw [hp];rfl
  rw [hins,Zw];simp (disch:=omega) only [Vo,Zf,Ao,Xt,Zs,Xo,Yw,Yb,Yu,Zt,Zk,Zx,Yc,Zj,Af,Ah,Ak,Ae,Ac]
 | k +1,N,hk,hp=>by
  rcases Yk (decide (rd out k>rd l i)) with h | h
  ·have hp':x9s out (rd l i) out.length=x9s out (rd l i) k:=by grind [x9s]
   obtain ⟨m,hm⟩:=w3s l out i hi hl ho k N (by omega) hp';refine ⟨m+1,fun N=> ?_⟩;rw [←hm N,←AC,Zw];simp (disch:=omega) only [Vo,Zn,h,Zf,Ao,Xy,Zs,Xo,Yw,Yb,Yu,Zt,Zk,Zx,Yc,Zj,Af,Ah,Ak,Ae,Ac]
  ·have hpk:x9s out (rd l i) out.length=k+1:=by rw [hp];unfold x9s;rw [h];rfl
   refine ⟨1,fun N=> ?_⟩;rw [Zw];rcases Yk (rd out k == rd l i) with q | q
   ·have hins:x0l out (rd l i)=out:=(by grind [x0l]);rw [hins];simp (disch:=omega) only [Vo,Zn,h,q,Zf,Ao,Xy,Zs,Xo,Yw,Yb,Yu,Zt,Zk,Zx,Yc,Zj,Af,Ah,Ak,Ae,Ac]
   ·have hins:x0l out (rd l i)=(v7j (out++[0]) (k+1+1) (Nat.min (out.length+1 - (k+1)) (out.length+1 - (k+1+1))) (Ku (out++[0]) (k+1) (out.length+1 - (k+1)))).set (k+1) (rd l i):=by
     rw [x5q out _ (k+1) hk]
     grind [x0l]
    rw [hins];simp (disch:=omega) only [Vo,Zn,h,q,Zf,Ao,Xy,Zs,Xo,Yw,Yb,Yu,Zt,Zk,Zx,Yc,Zj,Af,Ah,Ak,Ae,Ac]
theorem w3t (l:List Int) (hl:l.length≤1000000): ∀(k i:Nat) (out:List Int),i+k=l.length→out.length≤i→ ∃m,Yx (Vo l) m (.to (.h0 out (i:Int)))=.ret [.dat ((l.drop i).foldl x0l out).length (Zz ((l.drop i).foldl x0l out))]
 | 0,i,out,h,ho=>by refine ⟨1,?_⟩;rw [Zw];simp (disch:=omega) only [Vo,Yf,Ac];rw [As (by omega)];rfl
 | k+1,i,out,h,ho=>by
  obtain ⟨m1,h1⟩:=w3s l out i (by omega) hl ho out.length 0 (Aq _) rfl;obtain ⟨m2,h2⟩:=w3t l hl k (i+1) (x0l out (rd l i)) (by omega) (AE (y6n _ _) (by omega));refine ⟨m2+m1+1,?_⟩
  grind [Zw,Vo,Yq]
theorem v3b (l:List Int) (h:Qk l=true): ∃N,Yx (Vo l) N (z5h l)=.ret [.dat (z3b l).length (Zz (z3b l))]:=by
 have:=w3t l (Aw h) l.length 0 [] (by omega) (Aq _)
 simpa [z5h,z3b] using this
theorem Zh (n:Nat):Int.toNat ((n:Int) - 1)=n - 1:=by omega
theorem u1y (x y:R2):((x.a == y.a)&&(x.b == y.b))=decide (x=y):=by
 obtain ⟨a,b⟩:=x;obtain ⟨c,d⟩:=y
 grind
theorem u1x (x y:R4):((x.a == y.a)&&((x.b == y.b)&&((x.c == y.c)&&(x.d == y.d))))=decide (x=y):=by
 obtain ⟨a,b,c,d⟩:=x;obtain ⟨e,f,g,h⟩:=y
 grind
theorem u1w (x y:R6):(((x.a == y.a)&&((x.b == y.b)&&(x.c == y.c)))&&((x.d == y.d)&&((x.e == y.e)&&(x.f == y.f))))=decide (x=y):=by
 obtain ⟨a,b,c,d,e,f⟩:=x;obtain ⟨a',b',c',d',e',f'⟩:=y
 grind
def Qm (l m:List R2):Bool:=decide (l=m)
def Uf (l m:List R4):Bool:=decide (l=m)
def Ke (l m:List R6):Bool:=decide (l=m)
def Ve (l m:List R2):Bool:=decide (l.length≤1000000)
def Wm (l m:List R4):Bool:=decide (l.length≤1000000)
def Vd (l m:List R6):Bool:=decide (l.length≤1000000)
theorem z5q {α:Type} [DecidableEq α] (x y:α) (l m:List α):decide (x::l=y::m)=(decide (x=y)&&decide (l=m)):=by grind
theorem u7e (l m:List R2) (hl:l.length≤1000000) (hm:l.length=m.length): ∀(k i:Nat),i+k=l.length→ ∃N,Yx (z6n l m) N (.to (.h0 (i:Int)))=.ret [.bool (decide (l.drop i=m.drop i))]
 | 0,i,h=>by refine ⟨1,?_⟩;rw [Zw,As (show l.length≤i by omega),As (show m.length≤i by omega)];simp (disch:=omega) only [z6n,Xt,Xy,Zs,Yf,Xo,Yw,Yb,Yu,Zt,Zk,Zf,z0z,z1a,Ao,Zx,Zn,Zh,Yc,Zj,Af,Ah,Ak,Ae,Ac,Av,AA,Zp]
 | k+1,i,h=>by
  obtain ⟨N,hN⟩:=u7e l m hl hm k (i+1) (by omega);refine ⟨N+1,?_⟩;rw [Zw,Yq (show i<l.length by omega),Yq (show i<m.length by omega),z5q];rcases Yk (decide (rd l i=rd m i)) with q | q
  ·simp (disch:=omega) only [z6n,u1y,q,Xt,Xy,Zs,Yf,Xo,Yw,Yb,Yu,Zt,Zk,Zf,z0z,z1a,Ao,Zx,Zn,Zh,Yc,Zj,Af,Ah,Ak,Ae,Ac,Av,AA,Zp];exact hN
  ·simp (disch:=omega) only [z6n,u1y,q,Xt,Xy,Zs,Yf,Xo,Yw,Yb,Yu,Zt,Zk,Zf,z0z,z1a,Ao,Zx,Zn,Zh,Yc,Zj,Af,Ah,Ak,Ae,Ac,Av,AA,Zp,Be]
theorem j2m (l m:List R2) (h:Ve l m=true): ∃N,Yx (z6n l m) N (z7t l m)=.ret [.bool (Qm l m)]:=by
 have hl:l.length≤1000000:=Aw h;by_cases hm:l.length=m.length
 ·obtain ⟨N,hN⟩:=u7e l m hl hm l.length 0 (Af _);refine ⟨N,?_⟩;unfold z7t;rw [z1a (show (l.length:Int)=(m.length:Nat) by omega)];exact hN
 ·refine ⟨0,?_⟩;unfold z7t;rw [z0z (show (l.length:Int)≠(m.length:Nat) by omega)];have:Qm l m=false:=Ay fun e=>hm (by rw [e]);rw [this];rfl
theorem u7c (l m:List R4) (hl:l.length≤1000000) (hm:l.length=m.length): ∀(k i:Nat),i+k=l.length→ ∃N,Yx (z6l l m) N (.to (.h0 (i:Int)))=.ret [.bool (decide (l.drop i=m.drop i))]
 | 0,i,h=>by refine ⟨1,?_⟩;rw [Zw,As (show l.length≤i by omega),As (show m.length≤i by omega)];simp (disch:=omega) only [z6l,Xt,Xy,Zs,Yf,Xo,Yw,Yb,Yu,Zt,Zk,Zf,z0z,z1a,Ao,Zx,Zn,Zh,Yc,Zj,Af,Ah,Ak,Ae,Ac,Av,AA,Zp]
 | k+1,i,h=>by
  obtain ⟨N,hN⟩:=u7c l m hl hm k (i+1) (by omega);refine ⟨N+1,?_⟩;rw [Zw,Yq (show i<l.length by omega),Yq (show i<m.length by omega),z5q];rcases Yk (decide (rd l i=rd m i)) with q | q
  ·simp (disch:=omega) only [z6l,u1x,q,Xt,Xy,Zs,Yf,Xo,Yw,Yb,Yu,Zt,Zk,Zf,z0z,z1a,Ao,Zx,Zn,Zh,Yc,Zj,Af,Ah,Ak,Ae,Ac,Av,AA,Zp];exact hN
  ·simp (disch:=omega) only [z6l,u1x,q,Xt,Xy,Zs,Yf,Xo,Yw,Yb,Yu,Zt,Zk,Zf,z0z,z1a,Ao,Zx,Zn,Zh,Yc,Zj,Af,Ah,Ak,Ae,Ac,Av,AA,Zp,Be]
theorem j2k (l m:List R4) (h:Wm l m=true): ∃N,Yx (z6l l m) N (z7r l m)=.ret [.bool (Uf l m)]:=by
 have hl:l.length≤1000000:=Aw h;by_cases hm:l.length=m.length
 ·obtain ⟨N,hN⟩:=u7c l m hl hm l.length 0 (Af _);refine ⟨N,?_⟩;unfold z7r;rw [z1a (show (l.length:Int)=(m.length:Nat) by omega)];exact hN
 ·refine ⟨0,?_⟩;unfold z7r;rw [z0z (show (l.length:Int)≠(m.length:Nat) by omega)];have:Uf l m=false:=Ay fun e=>hm (by rw [e]);rw [this];rfl
theorem u7f (l m:List R6) (hl:l.length≤1000000) (hm:l.length=m.length): ∀(k i:Nat),i+k=l.length→ ∃N,Yx (z6o l m) N (.to (.h0 (i:Int)))=.ret [.bool (decide (l.drop i=m.drop i))]
 | 0,i,h=>by refine ⟨1,?_⟩;rw [Zw,As (show l.length≤i by omega),As (show m.length≤i by omega)];simp (disch:=omega) only [z6o,Xt,Xy,Zs,Yf,Xo,Yw,Yb,Yu,Zt,Zk,Zf,z0z,z1a,Ao,Zx,Zn,Zh,Yc,Zj,Af,Ah,Ak,Ae,Ac,Av,AA,Zp]
 | k+1,i,h=>by
  obtain ⟨N,hN⟩:=u7f l m hl hm k (i+1) (by omega);refine ⟨N+1,?_⟩;rw [Zw,Yq (show i<l.length by omega),Yq (show i<m.length by omega),z5q];rcases Yk (decide (rd l i=rd m i)) with q | q
  ·simp (disch:=omega) only [z6o,u1w,q,Xt,Xy,Zs,Yf,Xo,Yw,Yb,Yu,Zt,Zk,Zf,z0z,z1a,Ao,Zx,Zn,Zh,Yc,Zj,Af,Ah,Ak,Ae,Ac,Av,AA,Zp];exact hN
  ·simp (disch:=omega) only [z6o,u1w,q,Xt,Xy,Zs,Yf,Xo,Yw,Yb,Yu,Zt,Zk,Zf,z0z,z1a,Ao,Zx,Zn,Zh,Yc,Zj,Af,Ah,Ak,Ae,Ac,Av,AA,Zp,Be]
theorem j2n (l m:List R6) (h:Vd l m=true): ∃N,Yx (z6o l m) N (z7u l m)=.ret [.bool (Ke l m)]:=by
 have hl:l.length≤1000000:=Aw h;by_cases hm:l.length=m.length
 ·obtain ⟨N,hN⟩:=u7f l m hl hm l.length 0 (Af _);refine ⟨N,?_⟩;unfold z7u;rw [z1a (show (l.length:Int)=(m.length:Nat) by omega)];exact hN
 ·refine ⟨0,?_⟩;unfold z7u;rw [z0z (show (l.length:Int)≠(m.length:Nat) by omega)];have:Ke l m=false:=Ay fun e=>hm (by rw [e]);rw [this];rfl
theorem u9t (l m:List R2) (hl:l.length≤1000000) (hm:l.length=m.length): ∀(k i:Nat),i+k=l.length→ ∃N,Yx (z7a l m) N (.to (.h0 (i:Int)))=.ret [.bool (decide (l.drop i=m.drop i))]
 | 0,i,h=>by refine ⟨1,?_⟩;rw [Zw,As (show l.length≤i by omega),As (show m.length≤i by omega)];simp (disch:=omega) only [z7a,Xt,Xy,Zs,Yf,Xo,Yw,Yb,Yu,Zt,Zk,Zf,z0z,z1a,Ao,Zx,Zn,Zh,Yc,Zj,Af,Ah,Ak,Ae,Ac,Av,AA,Zp]
 | k+1,i,h=>by
  obtain ⟨N,hN⟩:=u9t l m hl hm k (i+1) (by omega);refine ⟨N+1,?_⟩;rw [Zw,Yq (show i<l.length by omega),Yq (show i<m.length by omega),z5q];rcases Yk (decide (rd l i=rd m i)) with q | q
  ·simp (disch:=omega) only [z7a,u1y,q,Xt,Xy,Zs,Yf,Xo,Yw,Yb,Yu,Zt,Zk,Zf,z0z,z1a,Ao,Zx,Zn,Zh,Yc,Zj,Af,Ah,Ak,Ae,Ac,Av,AA,Zp];exact hN
  ·simp (disch:=omega) only [z7a,u1y,q,Xt,Xy,Zs,Yf,Xo,Yw,Yb,Yu,Zt,Zk,Zf,z0z,z1a,Ao,Zx,Zn,Zh,Yc,Zj,Af,Ah,Ak,Ae,Ac,Av,AA,Zp,Be]
theorem j6x (l m:List R2) (h:Ve l m=true): ∃N,Yx (z7a l m) N (z8z l m)=.ret [.bool (Qm l m)]:=by
 have hl:l.length≤1000000:=Aw h;by_cases hm:l.length=m.length
 ·obtain ⟨N,hN⟩:=u9t l m hl hm l.length 0 (Af _);refine ⟨N,?_⟩;unfold z8z;rw [z1a (show (l.length:Int)=(m.length:Nat) by omega)];exact hN
 ·refine ⟨0,?_⟩;unfold z8z;rw [z0z (show (l.length:Int)≠(m.length:Nat) by omega)];have:Qm l m=false:=Ay fun e=>hm (by rw [e]);rw [this];rfl
theorem u9s (l m:List R4) (hl:l.length≤1000000) (hm:l.length=m.length): ∀(k i:Nat),i+k=l.length→ ∃N,Yx (z6z l m) N (.to (.h0 (i:Int)))=.ret [.bool (decide (l.drop i=m.drop i))]
 | 0,i,h=>by refine ⟨1,?_⟩;rw [Zw,As (show l.length≤i by omega),As (show m.length≤i by omega)];simp (disch:=omega) only [z6z,Xt,Xy,Zs,Yf,Xo,Yw,Yb,Yu,Zt,Zk,Zf,z0z,z1a,Ao,Zx,Zn,Zh,Yc,Zj,Af,Ah,Ak,Ae,Ac,Av,AA,Zp]
 | k+1,i,h=>by
  obtain ⟨N,hN⟩:=u9s l m hl hm k (i+1) (by omega);refine ⟨N+1,?_⟩;rw [Zw,Yq (show i<l.length by omega),Yq (show i<m.length by omega),z5q];rcases Yk (decide (rd l i=rd m i)) with q | q
  ·simp (disch:=omega) only [z6z,u1x,q,Xt,Xy,Zs,Yf,Xo,Yw,Yb,Yu,Zt,Zk,Zf,z0z,z1a,Ao,Zx,Zn,Zh,Yc,Zj,Af,Ah,Ak,Ae,Ac,Av,AA,Zp];exact hN
  ·simp (disch:=omega) only [z6z,u1x,q,Xt,Xy,Zs,Yf,Xo,Yw,Yb,Yu,Zt,Zk,Zf,z0z,z1a,Ao,Zx,Zn,Zh,Yc,Zj,Af,Ah,Ak,Ae,Ac,Av,AA,Zp,Be]
theorem j6w (l m:List R4) (h:Wm l m=true): ∃N,Yx (z6z l m) N (z8y l m)=.ret [.bool (Uf l m)]:=by
 have hl:l.length≤1000000:=Aw h;by_cases hm:l.length=m.length
 ·obtain ⟨N,hN⟩:=u9s l m hl hm l.length 0 (Af _);refine ⟨N,?_⟩;unfold z8y;rw [z1a (show (l.length:Int)=(m.length:Nat) by omega)];exact hN
 ·refine ⟨0,?_⟩;unfold z8y;rw [z0z (show (l.length:Int)≠(m.length:Nat) by omega)];have:Uf l m=false:=Ay fun e=>hm (by rw [e]);rw [this];rfl
theorem u9r (l m:List R6) (hl:l.length≤1000000) (hm:l.length=m.length): ∀(k i:Nat),i+k=l.length→ ∃N,Yx (z6y l m) N (.to (.h0 (i:Int)))=.ret [.bool (decide (l.drop i=m.drop i))]
 | 0,i,h=>by refine ⟨1,?_⟩;rw [Zw,As (show l.length≤i by omega),As (show m.length≤i by omega)];simp (disch:=omega) only [z6y,Xt,Xy,Zs,Yf,Xo,Yw,Yb,Yu,Zt,Zk,Zf,z0z,z1a,Ao,Zx,Zn,Zh,Yc,Zj,Af,Ah,Ak,Ae,Ac,Av,AA,Zp]
 | k+1,i,h=>by
  obtain ⟨N,hN⟩:=u9r l m hl hm k (i+1) (by omega);refine ⟨N+1,?_⟩;rw [Zw,Yq (show i<l.length by omega),Yq (show i<m.length by omega),z5q];rcases Yk (decide (rd l i=rd m i)) with q | q
  ·simp (disch:=omega) only [z6y,u1w,q,Xt,Xy,Zs,Yf,Xo,Yw,Yb,Yu,Zt,Zk,Zf,z0z,z1a,Ao,Zx,Zn,Zh,Yc,Zj,Af,Ah,Ak,Ae,Ac,Av,AA,Zp];exact hN
  ·simp (disch:=omega) only [z6y,u1w,q,Xt,Xy,Zs,Yf,Xo,Yw,Yb,Yu,Zt,Zk,Zf,z0z,z1a,Ao,Zx,Zn,Zh,Yc,Zj,Af,Ah,Ak,Ae,Ac,Av,AA,Zp,Be]
theorem j6v (l m:List R6) (h:Vd l m=true): ∃N,Yx (z6y l m) N (z8x l m)=.ret [.bool (Ke l m)]:=by
 have hl:l.length≤1000000:=Aw h;by_cases hm:l.length=m.length
 ·obtain ⟨N,hN⟩:=u9r l m hl hm l.length 0 (Af _);refine ⟨N,?_⟩;unfold z8x;rw [z1a (show (l.length:Int)=(m.length:Nat) by omega)];exact hN
 ·refine ⟨0,?_⟩;unfold z8x;rw [z0z (show (l.length:Int)≠(m.length:Nat) by omega)];have:Ke l m=false:=Ay fun e=>hm (by rw [e]);rw [this];rfl
def in4 (x y:Int) (r:R4):Bool:=decide (r.a≤x)&&(decide (x<r.c)&&(decide (r.b≤y)&&decide (y<r.d)))
def z4d (l:List R4) (x y:Int):Bool:=l.any (in4 x y)
def z0p (l:List R4) (x y:Int):Bool:=decide (l.length≤1000000)
theorem v3o (l:List R4) (x y:Int) (hl:l.length≤1000000): ∀(k i:Nat),i+k=l.length→ ∃N,Yx (z5j l x y) N (.to (.h0 (i:Int)))=.ret [.bool ((l.drop i).any (in4 x y))]
 | 0,i,h=>by refine ⟨1,?_⟩;rw [Zw,As (show l.length≤i by omega)];simp (disch:=omega) only [z5j,Xt,Xy,Zs,Yf,Xo,Yw,Yb,Yu,Zt,Zk,Zf,z0z,z1a,Ao,Zx,Zn,Zh,Yc,Zj,Af,Ah,Ak,Ae,Ac,Av,AA,Zp];rfl
 | k+1,i,h=>by
  obtain ⟨N,hN⟩:=v3o l x y hl k (i+1) (by omega);refine ⟨N+1,?_⟩;rw [Zw,Yq (show i<l.length by omega),BI];unfold in4 at hN ⊢;rcases Yk (decide ((rd l i).a ≤x)) with q1 | q1 <;> rcases Yk (decide (x<(rd l i).c)) with q2 | q2 <;> rcases Yk (decide ((rd l i).b ≤y)) with q3 | q3 <;> rcases Yk (decide (y<(rd l i).d)) with q4 | q4 <;>
   simp (disch:=omega) only [z5j,q1,q2,q3,q4,Xt,Xy,Zs,Yf,Xo,Yw,Yb,Yu,Zt,Zk,Zf,z0z,z1a,Ao,Zx,Zn,Zh,Yc,Zj,Af,Ah,Ak,Ae,Ac,Av,AA,Zp,Be,Bool.and_false,Bool.false_or,Bool.true_or] <;> exact hN
theorem u0z (l:List R4) (x y:Int) (h:z0p l x y=true): ∃N,Yx (z5j l x y) N (z7z l x y)=.ret [.bool (z4d l x y)]:=by
 have:=v3o l x y (Aw h) l.length 0 (Af _)
 simpa [z7z,z4d] using this
def on6 (z:Int) (b:R6):Bool:=decide (b.c≤z)&&decide (z<b.f)
def j5a (b:R6):R4:=⟨b.a,b.b,b.d,b.e⟩
def atV (l:List R6) (z:Int):List R4:=(l.filter (on6 z)).map j5a
def z5s (l:List R6) (z:Int):Bool:=decide (l.length≤1000000)
theorem v4h (l:List R6) (z:Int) (hl:l.length≤1000000): ∀(k i:Nat) (out:List R4),i+k=l.length→out.length≤i→ ∃N,Yx (z6s l z) N (.to (.h0 out (i:Int)))=.ret [.dat (out++atV (l.drop i) z).length (Zz (out++atV (l.drop i) z))]
 | 0,i,out,h,ho=>by refine ⟨1,?_⟩;rw [Zw,As (show l.length≤i by omega)];simp (disch:=omega) only [z6s,Xt,Xy,Zs,Yf,Xo,Yw,Yb,Yu,Zt,Zk,Zf,z0z,z1a,Ao,Zx,Zn,Zh,Yc,Zj,Af,Ah,Ak,Ae,Ac,Av,AA,Zp,atV,List.filter_nil,By,AF]
 | k+1,i,out,h,ho=>by
  rw [Yq (show i<l.length by omega)];have e:atV (rd l i::l.drop (i+1)) z=(bif on6 z (rd l i) then [j5a (rd l i)] else [])++atV (l.drop (i+1)) z:=by
   grind [atV]
  rw [e,←AN];rcases Yk (decide ((rd l i).c ≤z)) with q1 | q1 <;> rcases Yk (decide (z<(rd l i).f)) with q2 | q2
  ·obtain ⟨N,hN⟩:=v4h l z hl k (i+1) (out++[j5a (rd l i)]) (by omega) (by simp;omega);refine ⟨N+1,?_⟩;rw [Zw];simp (disch:=omega) only [z6s,q1,q2,on6,Xt,Xy,Zs,Yf,Xo,Yw,Yb,Yu,Zt,Zk,Zf,z0z,z1a,Ao,Zx,Zn,Zh,Yc,Zj,Af,Ah,Ak,Ae,Ac,Av,AA,Zp];exact hN
  all_goals
   obtain ⟨N,hN⟩:=v4h l z hl k (i+1) out (by omega) (by omega);refine ⟨N+1,?_⟩;rw [Zw];simp (disch:=omega) only [z6s,q1,q2,on6,Xt,Xy,Zs,Yf,Xo,Yw,Yb,Yu,Zt,Zk,Zf,z0z,z1a,Ao,Zx,Zn,Zh,Yc,Zj,Af,Ah,Ak,Ae,Ac,Av,AA,Zp,Be,Bool.and_false,AF];exact hN
theorem j3r (l:List R6) (z:Int) (h:z5s l z=true): ∃N,Yx (z6s l z) N (y3u l z)=.ret [.dat (atV l z).length (Zz (atV l z))]:=by
 have:=v4h l z (Aw h) l.length 0 [] (Af _) (Aq _)
 simpa [y3u] using this
def v0w (cuts:List Int) (ins:List Bool):Nat→Nat→List R2→List R2
 | 0,_,out=>out
 | k+1,i,out=>v0w cuts ins k (i+1) (bif rd ins i then (bif decide (0<out.length)&&((rd out (out.length - 1)).b == rd cuts i) then out.set (out.length - 1) ⟨(rd out (out.length - 1)).a,rd cuts (i+1)⟩ else out++[⟨rd cuts i,rd cuts (i+1)⟩]) else out)
def y1z (cuts:List Int) (ins:List Bool):List R2:=v0w cuts ins (cuts.length - 1) 0 []
def z9i (cuts:List Int) (ins:List Bool):Bool:=decide (cuts.length≤1000000∧cuts.length≤ins.length+1)
theorem x2g (cuts:List Int) (ins:List Bool) (hl:cuts.length≤1000000) (hi:cuts.length≤ins.length+1): ∀(k i:Nat) (out:List R2),k=cuts.length - 1 - i→i≤cuts.length→out.length≤i→ ∃N,Yx (z0h cuts ins) N (.to (.h0 out (i:Int)))=.ret [.dat (v0w cuts ins k i out).length (Zz (v0w cuts ins k i out))]
 | 0,i,out,h,hi2,ho=>by refine ⟨1,?_⟩;rw [Zw];simp (disch:=omega) only [z0h,Xt,Xy,Zs,Yf,Xo,Yw,Yb,Yu,Zt,Zk,Zf,z0z,z1a,Ao,Zx,Zn,Zh,Yc,Zj,Af,Ah,Ak,Ae,Ac,Av,AA,Zp,v0w]
 | k+1,i,out,h,hi2,ho=>by
  unfold v0w;rcases Yk (rd ins i) with q | q
  ·rcases Yk (decide (0<out.length)&&((rd out (out.length - 1)).b == rd cuts i)) with q2 | q2
   ·obtain ⟨N,hN⟩:=x2g cuts ins hl hi k (i+1) (out.set (out.length - 1) ⟨(rd out (out.length - 1)).a,rd cuts (i+1)⟩) (by omega) (by omega) (by simp;omega);refine ⟨N+1,?_⟩;rw [Zw,q,q2];simp only [Ad,Ar] at q2;simp (disch:=omega) only [z0h,q,q2.2,Xt,Xy,Zs,Yf,Xo,Yw,Yb,Yu,Zt,Zk,Zf,z0z,z1a,Ao,Zx,Zn,Zh,Yc,Zj,Af,Ah,Ak,Ae,Ac,Av,AA,Zp];exact hN
   ·obtain ⟨N,hN⟩:=x2g cuts ins hl hi k (i+1) (out++[⟨rd cuts i,rd cuts (i+1)⟩]) (by omega) (by omega) (by simp;omega);refine ⟨N+1,?_⟩;rw [Zw,q,q2];by_cases h0:0<out.length
    ·rw [An h0,Ak] at q2;simp (disch:=omega) only [z0h,q,q2,Xt,Xy,Zs,Yf,Xo,Yw,Yb,Yu,Zt,Zk,Zf,z0z,z1a,Ao,Zx,Zn,Zh,Yc,Zj,Af,Ah,Ak,Ae,Ac,Av,AA,Zp];exact hN
    ·simp (disch:=omega) only [z0h,q,Xt,Xy,Zs,Yf,Xo,Yw,Yb,Yu,Zt,Zk,Zf,z0z,z1a,Ao,Zx,Zn,Zh,Yc,Zj,Af,Ah,Ak,Ae,Ac,Av,AA,Zp];exact hN
  ·obtain ⟨N,hN⟩:=x2g cuts ins hl hi k (i+1) out (by omega) (by omega) (by omega);refine ⟨N+1,?_⟩;rw [Zw,q];simp (disch:=omega) only [z0h,q,Xt,Xy,Zs,Yf,Xo,Yw,Yb,Yu,Zt,Zk,Zf,z0z,z1a,Ao,Zx,Zn,Zh,Yc,Zj,Af,Ah,Ak,Ae,Ac,Av,AA,Zp];exact hN
theorem u1s (cuts:List Int) (ins:List Bool) (h:z9i cuts ins=true): ∃N,Yx (z0h cuts ins) N (z8h cuts ins)=.ret [.dat (y1z cuts ins).length (Zz (y1z cuts ins))]:=by
 obtain ⟨h1,h2⟩:=Aw h;have:=x2g cuts ins h1 h2 (cuts.length - 1) 0 [] (by omega) (AB _) (Aq _)
 simpa [z8h,y1z] using this
abbrev v4y :Nat:=124
abbrev u9d :Nat:=131
abbrev u8u :Nat:=132
abbrev u9b :Nat:=129
abbrev nHas4 :Nat:=130
abbrev u8t :Nat:=109
abbrev nXs :Nat:=127
abbrev nYs :Nat:=128
abbrev u9a :Nat:=89
abbrev u8s :Nat:=22
abbrev nAt :Nat:=108
abbrev nCuts :Nat:=107
abbrev u8z :Nat:=77
abbrev v5e :Nat:=59
abbrev nEq2 :Nat:=159
abbrev nEq4 :Nat:=163
abbrev nEq6 :Nat:=94
abbrev u8q :Nat:=193
abbrev w4q :Nat:=194
abbrev nSort :Nat:=111
abbrev w4s :Nat:=113
abbrev nFst :Nat:=180
abbrev x5f :Nat:=156
abbrev w4o :Nat:=83
abbrev v5d :Nat:=117
abbrev w4m :Nat:=116
abbrev w4k :Nat:=92
abbrev x5g :Nat:=52
-- not there: gambrel/gambrellaw28.valid
abbrev w4j :Nat:=160
abbrev nSpU1 :Nat:=164
abbrev nSpE1 :Nat:=133
abbrev nSpD1 :Nat:=123
abbrev nSpU :Nat:=149
abbrev nSpE :Nat:=90
abbrev nSpD :Nat:=85
abbrev w4n :Nat:=157
abbrev nRgU :Nat:=110
abbrev nRgE :Nat:=51
abbrev nRgD :Nat:=48
abbrev nSlU :Nat:=78
abbrev nSlE :Nat:=39
abbrev nSlD :Nat:=33
abbrev u8r :Nat:=63
-- not there: gambrel/detail.Distance
abbrev v5g :Nat:=69
abbrev u8y :Nat:=36
abbrev u8w :Nat:=70
-- not there: gambrel/mesh.Volume
abbrev u8x :Nat:=101
-- not there: gambrel/gambrellaw19.alive
def y1v (k:Int) (a b:Bool):Bool:=bif k == 1 then a&&b else bif k == 2 then a||b else a&& !b
def w5f (a b:Bool):Bool:=a
theorem j4v (k:Int) (a b:Bool): ∃N,Yx (w1c k a b) N (y4e k a b)=.ret [.bool (y1v k a b)]:=by
 refine ⟨0,?_⟩;unfold y4e y1v;cases a <;> cases b <;> rcases Yk (k == 1) with q | q <;> rcases Yk (k == 2) with q2 | q2 <;> rw [q] <;> (try rw [q2]) <;> rfl
theorem j4x (a b:Bool): ∃N,Yx (w1f a b) N (x3b a b)=.ret [.bool (w5f a b)]:=⟨0,rfl⟩
def fSrt :List AVal→Option (AVal×Bool)
 | [a0]=>match asL Int a0 with
  | some (L0,g0,n0)=>some (.dat (z3b L0).length (Zz (z3b L0)),isT Int n0 g0&&(Qk L0))
  | _=>none
 | _=>none
theorem j5m {S:Specs} (hS:Zu prog S):Zu prog (S.with v4y fSrt):=by
 refine Qi hS (by kernel_rfl) fun args v h=> ?_;unfold fSrt at h;split at h
 ·rename_i a0;split at h
  ·rename_i L0 g0 n0 e0;simp only [Ab,Aa,Ad] at h;obtain ⟨rfl,ho0,hw⟩:=h;obtain ⟨N,hN⟩:=v3b L0 hw;exact ⟨_,_,(.cons (Yi e0 ho0) .nil),rfl,w7i L0 N _ hN,3,rfl⟩
  ·cases h
 ·cases h
def fCan :List AVal→Option (AVal×Bool)
 | [a0,a1]=>match asL Int a0,asL Bool a1 with
  | some (L0,g0,n0),some (L1,g1,n1)=>some (.dat (y1z L0 L1).length (Zz (y1z L0 L1)),isT Int n0 g0&&(isT Bool n1 g1&&(z9i L0 L1)))
  | _,_=>none
 | _=>none
theorem j6r {S:Specs} (hS:Zu prog S):Zu prog (S.with u9d fCan):=by
 refine Qi hS (by kernel_rfl) fun args v h=> ?_;unfold fCan at h;split at h
 ·rename_i a0 a1;split at h
  ·rename_i L0 g0 n0 L1 g1 n1 e0 e1;simp only [Ab,Aa,Ad] at h;obtain ⟨rfl,ho0,ho1,hw⟩:=h;obtain ⟨N,hN⟩:=u1s L0 L1 hw;exact ⟨_,_,(.cons (Yi e0 ho0) (.cons (Yi e1 ho1) .nil)),rfl,v4g L0 L1 N _ hN,3,rfl⟩
  ·cases h
 ·cases h
def x0r :List AVal→Option (AVal×Bool)
 | [a0,a1]=>match asL R2 a0,asL R2 a1 with
  | some (L0,g0,n0),some (L1,g1,n1)=>some (.bool (Qm L0 L1),isT R2 n0 g0&&(isT R2 n1 g1&&(Ve L0 L1)))
  | _,_=>none
 | _=>none
theorem v6o {S:Specs} (hS:Zu prog S):Zu prog (S.with u8u x0r):=by
 refine Qi hS (by kernel_rfl) fun args v h=> ?_;unfold x0r at h;split at h
 ·rename_i a0 a1;split at h
  ·rename_i L0 g0 n0 L1 g1 n1 e0 e1;simp only [Ab,Aa,Ad] at h;obtain ⟨rfl,ho0,ho1,hw⟩:=h;obtain ⟨N,hN⟩:=j2m L0 L1 hw;exact ⟨_,_,(.cons (Yi e0 ho0) (.cons (Yi e1 ho1) .nil)),rfl,u0m L0 L1 N _ hN,3,rfl⟩
  ·cases h
 ·cases h
def x0q :List AVal→Option (AVal×Bool)
 | [a0,a1]=>match asL R4 a0,asL R4 a1 with
  | some (L0,g0,n0),some (L1,g1,n1)=>some (.bool (Uf L0 L1),isT R4 n0 g0&&(isT R4 n1 g1&&(Wm L0 L1)))
  | _,_=>none
 | _=>none
theorem v6n {S:Specs} (hS:Zu prog S):Zu prog (S.with u8t x0q):=by
 refine Qi hS (by kernel_rfl) fun args v h=> ?_;unfold x0q at h;split at h
 ·rename_i a0 a1;split at h
  ·rename_i L0 g0 n0 L1 g1 n1 e0 e1;simp only [Ab,Aa,Ad] at h;obtain ⟨rfl,ho0,ho1,hw⟩:=h;obtain ⟨N,hN⟩:=j2k L0 L1 hw;exact ⟨_,_,(.cons (Yi e0 ho0) (.cons (Yi e1 ho1) .nil)),rfl,u0k L0 L1 N _ hN,3,rfl⟩
  ·cases h
 ·cases h
def x0p :List AVal→Option (AVal×Bool)
 | [a0,a1]=>match asL R6 a0,asL R6 a1 with
  | some (L0,g0,n0),some (L1,g1,n1)=>some (.bool (Ke L0 L1),isT R6 n0 g0&&(isT R6 n1 g1&&(Vd L0 L1)))
  | _,_=>none
 | _=>none
theorem v6m {S:Specs} (hS:Zu prog S):Zu prog (S.with u8s x0p):=by
 refine Qi hS (by kernel_rfl) fun args v h=> ?_;unfold x0p at h;split at h
 ·rename_i a0 a1;split at h
  ·rename_i L0 g0 n0 L1 g1 n1 e0 e1;simp only [Ab,Aa,Ad] at h;obtain ⟨rfl,ho0,ho1,hw⟩:=h;obtain ⟨N,hN⟩:=j2n L0 L1 hw;exact ⟨_,_,(.cons (Yi e0 ho0) (.cons (Yi e1 ho1) .nil)),rfl,u0n L0 L1 N _ hN,3,rfl⟩
  ·cases h
 ·cases h
def j6j :List AVal→Option (AVal×Bool)
 | [a0,.int .i64 x1,.int .i64 x2]=>match asL R4 a0 with
  | some (L0,g0,n0)=>some (.bool (z4d L0 x1 x2),isT R4 n0 g0&&(z0p L0 x1 x2))
  | _=>none
 | _=>none
theorem u3x {S:Specs} (hS:Zu prog S):Zu prog (S.with nHas4 j6j):=by
 refine Qi hS (by kernel_rfl) fun args v h=> ?_;unfold j6j at h;split at h
 ·rename_i a0 x1 x2;split at h
  ·rename_i L0 g0 n0 e0;simp only [Ab,Aa,Ad] at h;obtain ⟨rfl,ho0,hw⟩:=h;obtain ⟨N,hN⟩:=u0z L0 x1 x2 hw;exact ⟨_,_,(.cons (Yi e0 ho0) (.cons (.refl _) (.cons (.refl _) .nil))),rfl,v3p L0 x1 x2 N _ hN,3,rfl⟩
  ·cases h
 ·cases h
def fAt :List AVal→Option (AVal×Bool)
 | [a0,.int .i64 x1]=>match asL R6 a0 with
  | some (L0,g0,n0)=>some (.dat (atV L0 x1).length (Zz (atV L0 x1)),isT R6 n0 g0&&(z5s L0 x1))
  | _=>none
 | _=>none
theorem fAt_ok {S:Specs} (hS:Zu prog S):Zu prog (S.with nAt fAt):=by
 refine Qi hS (by kernel_rfl) fun args v h=> ?_;unfold fAt at h;split at h
 ·rename_i a0 x1;split at h
  ·rename_i L0 g0 n0 e0;simp only [Ab,Aa,Ad] at h;obtain ⟨rfl,ho0,hw⟩:=h;obtain ⟨N,hN⟩:=j3r L0 x1 hw;exact ⟨_,_,(.cons (Yi e0 ho0) (.cons (.refl _) .nil)),rfl,u1t L0 x1 N _ hN,3,rfl⟩
  ·cases h
 ·cases h
def v6v :List AVal→Option (AVal×Bool)
 | [.int .i64 x0,.bool b1,.bool b2]=>some (.bool (y1v x0 b1 b2),true)
 | _=>none
theorem v6u {S:Specs} (hS:Zu prog S):Zu prog (S.with u9b v6v):=by
 refine Qi hS (by kernel_rfl) fun args v h=> ?_;unfold v6v at h;split at h
 ·rename_i x0 b1 b2;simp only [Ab,Aa,Bd] at h;subst h;obtain ⟨N,hN⟩:=j4v x0 b1 b2;exact ⟨_,_,(.cons (.refl _) (.cons (.refl _) (.cons (.refl _) .nil))),rfl,u3j x0 b1 b2 N _ hN,3,rfl⟩
 ·cases h
def fFst :List AVal→Option (AVal×Bool)
 | [.bool b0,.bool b1]=>some (.bool (w5f b0 b1),true)
 | _=>none
theorem j6k {S:Specs} (hS:Zu prog S):Zu prog (S.with nFst fFst):=by
 refine Qi hS (by kernel_rfl) fun args v h=> ?_;unfold fFst at h;split at h
 ·rename_i b0 b1;simp only [Ab,Aa,Bd] at h;subst h;obtain ⟨N,hN⟩:=j4x b0 b1;exact ⟨_,_,(.cons (.refl _) (.cons (.refl _) .nil)),rfl,u3l b0 b1 N _ hN,3,rfl⟩
 ·cases h
theorem w9m {S:Specs} (hS:Zu prog S):Zu prog (S.with nEq2 x0r):=by
 refine Qi hS (by kernel_rfl) fun args v h=> ?_;unfold x0r at h;split at h
 ·rename_i a0 a1;split at h
  ·rename_i L0 g0 n0 L1 g1 n1 e0 e1;simp only [Ab,Aa,Ad] at h;obtain ⟨rfl,ho0,ho1,hw⟩:=h;obtain ⟨N,hN⟩:=j6x L0 L1 hw;exact ⟨_,_,(.cons (Yi e0 ho0) (.cons (Yi e1 ho1) .nil)),rfl,u4d L0 L1 N _ hN,3,rfl⟩
  ·cases h
 ·cases h
theorem w9l {S:Specs} (hS:Zu prog S):Zu prog (S.with nEq4 x0q):=by
 refine Qi hS (by kernel_rfl) fun args v h=> ?_;unfold x0q at h;split at h
 ·rename_i a0 a1;split at h
  ·rename_i L0 g0 n0 L1 g1 n1 e0 e1;simp only [Ab,Aa,Ad] at h;obtain ⟨rfl,ho0,ho1,hw⟩:=h;obtain ⟨N,hN⟩:=j6w L0 L1 hw;exact ⟨_,_,(.cons (Yi e0 ho0) (.cons (Yi e1 ho1) .nil)),rfl,u4c L0 L1 N _ hN,3,rfl⟩
  ·cases h
 ·cases h
theorem w9k {S:Specs} (hS:Zu prog S):Zu prog (S.with nEq6 x0p):=by
 refine Qi hS (by kernel_rfl) fun args v h=> ?_;unfold x0p at h;split at h
 ·rename_i a0 a1;split at h
  ·rename_i L0 g0 n0 L1 g1 n1 e0 e1;simp only [Ab,Aa,Ad] at h;obtain ⟨rfl,ho0,ho1,hw⟩:=h;obtain ⟨N,hN⟩:=j6v L0 L1 hw;exact ⟨_,_,(.cons (Yi e0 ho0) (.cons (Yi e1 ho1) .nil)),rfl,u4b L0 L1 N _ hN,3,rfl⟩
  ·cases h
 ·cases h
def T1 :Specs:=((((((((((((noSpecs.with v4y fSrt).with u9d fCan).with u8u x0r).with u8t x0q).with u8s x0p).with nHas4 j6j).with nAt fAt).with u9b v6v).with nFst fFst).with nEq2 x0r).with nEq4 x0q).with nEq6 x0p)
theorem z3v :Zu prog T1:=w9k (w9l (w9m (j6k (v6u (fAt_ok (u3x (v6m (v6n (v6o (j6r (j5m Zm)))))))))))
inductive rxsS where
 | h0 (v5:List Int) (v6:Int)
 | h1 (v5:List Int) (v7:Int)
def rxsC (l0:List R4) (l1:List R4):rxsS→Cfg
 | .h0 v5 v6=>⟨⟨48,0,true⟩,none,(Zb prog 127 [1,1,0,1,0,0] 0),none,(Zy prog 6),⟨Yg [(0,(.dat l0.length (Zz l0))),(1,(.dat l1.length (Zz l1))),(5,(.sla 0 1 0 v5.length (.un 1))),(6,(ii v6))],Wt [⟨Ym v5.length (Zz v5),3,some ⟨1,v5.length,(Zz v5)⟩⟩] 0,1,[],true⟩,[],.leaf⟩
 | .h1 v5 v7=>⟨⟨48,0,true⟩,none,(Zb prog 127 [1,1,1,0,1,0,0] 0),none,(Zy prog 6),⟨Yg [(1,(.dat l1.length (Zz l1))),(5,(.sla 0 1 0 v5.length (.un 1))),(7,(ii v7))],Wt [⟨Ym v5.length (Zz v5),3,some ⟨1,v5.length,(Zz v5)⟩⟩] 0,1,[],true⟩,[],.leaf⟩
def rxsN0 :List (Option (List Nat)):=[some [0,1,5,6]]
def rxsM0 :List (Option (List Nat)):=[]
def rxsN1 :List (Option (List Nat)):=[some [1,5,7]]
def rxsM1 :List (Option (List Nat)):=[]
def z3e (l0:List R4) (l1:List R4):rxsS→Xw rxsS
 | .h0 v5 v6=>(bif (decide (v6<(l0.length:Int))) then (bif ((decide (0≤v6∧v6<(l0.length:Int)))&&true) then (bif (Nat.beq 1 1&&((decide (0+v5.length=v5.length))&&decide ((v5.length+2+1)*(8+1)≤Kj))) then (.to (.h0 (v5++[(rd l0 v6.toNat).a,(rd l0 v6.toNat).c]) (wrap .i64 (v6+1)))) else .stuck) else .stuck) else (.to (.h1 v5 0)))
 | .h1 v5 v7=>(bif (decide (v7<(l1.length:Int))) then (bif ((decide (0≤v7∧v7<(l1.length:Int)))&&true) then (bif (Nat.beq 1 1&&((decide (0+v5.length=v5.length))&&decide ((v5.length+2+1)*(8+1)≤Kj))) then (.to (.h1 (v5++[(rd l1 v7.toNat).a,(rd l1 v7.toNat).c]) (wrap .i64 (v7+1)))) else .stuck) else .stuck) else (bif (Qk (cvT v5)) then (.ret [(.dat (z3b (cvT v5)).length (Zz (z3b (cvT v5))))]) else .stuck))
def y3g (l0:List R4) (l1:List R4):Xw rxsS:=(.to (.h0 ([]:List Int) 0))
theorem w7e (l0:List R4) (l1:List R4): ∀s,Xu prog (Zy prog 127) (rxsC l0 l1) (rxsC l0 l1 s) (z3e l0 l1 s)
 | .h0 v5 v6=>(lb (fun k0=>(lo fun o0=>(lo fun o1=>(sl z3v 20 [] ⟨[2],[],rxsN0,rxsM0⟩ ⟨[(5,.len (v5++[(rd l0 (tn v6)).a,(rd l0 (tn v6)).c]).length)],[.rowed 1 (v5++[(rd l0 (tn v6)).a,(rd l0 (tn v6)).c]).length (Zz (v5++[(rd l0 (tn v6)).a,(rd l0 (tn v6)).c]))],[]⟩ [true] (pp (xL (v5.length+2) (v5++[(rd l0 (tn v6)).a,(rd l0 (tn v6)).c]).length) (pp (xL (v5.length+2) (v5++[(rd l0 (tn v6)).a,(rd l0 (tn v6)).c]).length) (pp (xS (v5.length+2) (Yy (Zz v5) 0 v5.length 1 [(ii (rd l0 (tn v6)).a),(ii (rd l0 (tn v6)).c)]) (Zz (v5++[(rd l0 (tn v6)).a,(rd l0 (tn v6)).c]))) (pp (pp (xF (Yy (Zz v5) 0 v5.length 1 [(ii (rd l0 (tn v6)).a),(ii (rd l0 (tn v6)).c)])) nn) (ww o1 (ww o0 (ww o0 (tt k0 nn)))))))))))) (fun k0=>(sl z3v 17 [] ⟨[0],[],rxsN1,rxsM1⟩ ⟨[],[],[]⟩ [false] (pp (fl v5 nn) (tt k0 nn)))))
 | .h1 v5 v7=>(lb (fun k0=>(lo fun o0=>(lo fun o1=>(sl z3v 20 [] ⟨[2],[],rxsN1,rxsM1⟩ ⟨[(5,.len (v5++[(rd l1 (tn v7)).a,(rd l1 (tn v7)).c]).length)],[.rowed 1 (v5++[(rd l1 (tn v7)).a,(rd l1 (tn v7)).c]).length (Zz (v5++[(rd l1 (tn v7)).a,(rd l1 (tn v7)).c]))],[]⟩ [true] (pp (xL (v5.length+2) (v5++[(rd l1 (tn v7)).a,(rd l1 (tn v7)).c]).length) (pp (xL (v5.length+2) (v5++[(rd l1 (tn v7)).a,(rd l1 (tn v7)).c]).length) (pp (xS (v5.length+2) (Yy (Zz v5) 0 v5.length 1 [(ii (rd l1 (tn v7)).a),(ii (rd l1 (tn v7)).c)]) (Zz (v5++[(rd l1 (tn v7)).a,(rd l1 (tn v7)).c]))) (pp (pp (xF (Yy (Zz v5) 0 v5.length 1 [(ii (rd l1 (tn v7)).a),(ii (rd l1 (tn v7)).c)])) nn) (ww o1 (ww o0 (ww o0 (tt k0 nn)))))))))))) (fun k0=>(Xd (sl z3v (C':=⟨⟨48,0,true⟩,(Vj prog 127 [1,1,1,1,0] 1),(Zb prog 127 [1,1,1,1,0] 1),none,(Zy prog 6),⟨Yg [(46,(.dat v5.length (Zz v5)))],Wt [] 0,0,[],true⟩,[],.leaf⟩) 13 [] ⟨[],[0],[some [46]],[]⟩ ⟨[(46,.frz v5.length v5.length (Zz v5) (Zz v5))],[],[]⟩ [false] (pp (xZ (z7j 1 1 0 v5.length v5.length (Zz v5)) v5.length (Zz v5)) (pp (xL v5.length v5.length) (pp (xS v5.length (Zz v5) (Zz v5)) (pp (fl v5 nn) (tt k0 nn)))))) (lo fun o0=>(lr 48 3 [1,1,1,1,0] 1 6 [(4,(.dat (z3b (cvT v5)).length (Zz (z3b (cvT v5)))))] (sl z3v 3 [] ⟨[],[],[some [4]],[]⟩ ⟨[],[],[]⟩ [] (pp (pp (xr v5) (xw o0)) nn)))))))
theorem x8g (l0:List R4) (l1:List R4):Xu prog (Zy prog 127) (rxsC l0 l1) (Za prog 127 [(.dat l0.length (Zz l0)),(.dat l1.length (Zz l1))] true []) (y3g l0 l1):=(sl z3v 15 [(3,1,Zz ([]:List Int))] ⟨[0],[],rxsN0,rxsM0⟩ ⟨[(5,.grow 0 1)],[],[]⟩ [] (pp (fl ([]:List Int) nn) nn))
theorem u0i (l0:List R4) (l1:List R4) (n:Nat) (vs:List AVal) (h:Yx (z3e l0 l1) n (y3g l0 l1)=.ret vs):Ur prog (Zy prog 127) (Za prog 127 [(.dat l0.length (Zz l0)),(.dat l1.length (Zz l1))] true []) vs:=by have:=Zc (w7e l0 l1) n _ (x8g l0 l1);rwa [h] at this
inductive rysS where
 | h0 (v5:List Int) (v6:Int)
 | h1 (v5:List Int) (v7:Int)
def rysC (l0:List R4) (l1:List R4):rysS→Cfg
 | .h0 v5 v6=>⟨⟨48,0,true⟩,none,(Zb prog 128 [1,1,0,1,0,0] 0),none,(Zy prog 6),⟨Yg [(0,(.dat l0.length (Zz l0))),(1,(.dat l1.length (Zz l1))),(5,(.sla 0 1 0 v5.length (.un 1))),(6,(ii v6))],Wt [⟨Ym v5.length (Zz v5),3,some ⟨1,v5.length,(Zz v5)⟩⟩] 0,1,[],true⟩,[],.leaf⟩
 | .h1 v5 v7=>⟨⟨48,0,true⟩,none,(Zb prog 128 [1,1,1,0,1,0,0] 0),none,(Zy prog 6),⟨Yg [(1,(.dat l1.length (Zz l1))),(5,(.sla 0 1 0 v5.length (.un 1))),(7,(ii v7))],Wt [⟨Ym v5.length (Zz v5),3,some ⟨1,v5.length,(Zz v5)⟩⟩] 0,1,[],true⟩,[],.leaf⟩
def rysN0 :List (Option (List Nat)):=[some [0,1,5,6]]
def rysM0 :List (Option (List Nat)):=[]
def rysN1 :List (Option (List Nat)):=[some [1,5,7]]
def rysM1 :List (Option (List Nat)):=[]
def z3d (l0:List R4) (l1:List R4):rysS→Xw rysS
 | .h0 v5 v6=>(bif (decide (v6<(l0.length:Int))) then (bif ((decide (0≤v6∧v6<(l0.length:Int)))&&true) then (bif (Nat.beq 1 1&&((decide (0+v5.length=v5.length))&&decide ((v5.length+2+1)*(8+1)≤Kj))) then (.to (.h0 (v5++[(rd l0 v6.toNat).b,(rd l0 v6.toNat).d]) (wrap .i64 (v6+1)))) else .stuck) else .stuck) else (.to (.h1 v5 0)))
 | .h1 v5 v7=>(bif (decide (v7<(l1.length:Int))) then (bif ((decide (0≤v7∧v7<(l1.length:Int)))&&true) then (bif (Nat.beq 1 1&&((decide (0+v5.length=v5.length))&&decide ((v5.length+2+1)*(8+1)≤Kj))) then (.to (.h1 (v5++[(rd l1 v7.toNat).b,(rd l1 v7.toNat).d]) (wrap .i64 (v7+1)))) else .stuck) else .stuck) else (bif (Qk (cvT v5)) then (.ret [(.dat (z3b (cvT v5)).length (Zz (z3b (cvT v5))))]) else .stuck))
def y3f (l0:List R4) (l1:List R4):Xw rysS:=(.to (.h0 ([]:List Int) 0))
theorem w7d (l0:List R4) (l1:List R4): ∀s,Xu prog (Zy prog 128) (rysC l0 l1) (rysC l0 l1 s) (z3d l0 l1 s)
 | .h0 v5 v6=>(lb (fun k0=>(lo fun o0=>(lo fun o1=>(sl z3v 20 [] ⟨[2],[],rysN0,rysM0⟩ ⟨[(5,.len (v5++[(rd l0 (tn v6)).b,(rd l0 (tn v6)).d]).length)],[.rowed 1 (v5++[(rd l0 (tn v6)).b,(rd l0 (tn v6)).d]).length (Zz (v5++[(rd l0 (tn v6)).b,(rd l0 (tn v6)).d]))],[]⟩ [true] (pp (xL (v5.length+2) (v5++[(rd l0 (tn v6)).b,(rd l0 (tn v6)).d]).length) (pp (xL (v5.length+2) (v5++[(rd l0 (tn v6)).b,(rd l0 (tn v6)).d]).length) (pp (xS (v5.length+2) (Yy (Zz v5) 0 v5.length 1 [(ii (rd l0 (tn v6)).b),(ii (rd l0 (tn v6)).d)]) (Zz (v5++[(rd l0 (tn v6)).b,(rd l0 (tn v6)).d]))) (pp (pp (xF (Yy (Zz v5) 0 v5.length 1 [(ii (rd l0 (tn v6)).b),(ii (rd l0 (tn v6)).d)])) nn) (ww o1 (ww o0 (ww o0 (tt k0 nn)))))))))))) (fun k0=>(sl z3v 17 [] ⟨[0],[],rysN1,rysM1⟩ ⟨[],[],[]⟩ [false] (pp (fl v5 nn) (tt k0 nn)))))
 | .h1 v5 v7=>(lb (fun k0=>(lo fun o0=>(lo fun o1=>(sl z3v 20 [] ⟨[2],[],rysN1,rysM1⟩ ⟨[(5,.len (v5++[(rd l1 (tn v7)).b,(rd l1 (tn v7)).d]).length)],[.rowed 1 (v5++[(rd l1 (tn v7)).b,(rd l1 (tn v7)).d]).length (Zz (v5++[(rd l1 (tn v7)).b,(rd l1 (tn v7)).d]))],[]⟩ [true] (pp (xL (v5.length+2) (v5++[(rd l1 (tn v7)).b,(rd l1 (tn v7)).d]).length) (pp (xL (v5.length+2) (v5++[(rd l1 (tn v7)).b,(rd l1 (tn v7)).d]).length) (pp (xS (v5.length+2) (Yy (Zz v5) 0 v5.length 1 [(ii (rd l1 (tn v7)).b),(ii (rd l1 (tn v7)).d)]) (Zz (v5++[(rd l1 (tn v7)).b,(rd l1 (tn v7)).d]))) (pp (pp (xF (Yy (Zz v5) 0 v5.length 1 [(ii (rd l1 (tn v7)).b),(ii (rd l1 (tn v7)).d)])) nn) (ww o1 (ww o0 (ww o0 (tt k0 nn)))))))))))) (fun k0=>(Xd (sl z3v (C':=⟨⟨48,0,true⟩,(Vj prog 128 [1,1,1,1,0] 1),(Zb prog 128 [1,1,1,1,0] 1),none,(Zy prog 6),⟨Yg [(46,(.dat v5.length (Zz v5)))],Wt [] 0,0,[],true⟩,[],.leaf⟩) 13 [] ⟨[],[0],[some [46]],[]⟩ ⟨[(46,.frz v5.length v5.length (Zz v5) (Zz v5))],[],[]⟩ [false] (pp (xZ (z7j 1 1 0 v5.length v5.length (Zz v5)) v5.length (Zz v5)) (pp (xL v5.length v5.length) (pp (xS v5.length (Zz v5) (Zz v5)) (pp (fl v5 nn) (tt k0 nn)))))) (lo fun o0=>(lr 48 3 [1,1,1,1,0] 1 6 [(4,(.dat (z3b (cvT v5)).length (Zz (z3b (cvT v5)))))] (sl z3v 3 [] ⟨[],[],[some [4]],[]⟩ ⟨[],[],[]⟩ [] (pp (pp (xr v5) (xw o0)) nn)))))))
theorem x8f (l0:List R4) (l1:List R4):Xu prog (Zy prog 128) (rysC l0 l1) (Za prog 128 [(.dat l0.length (Zz l0)),(.dat l1.length (Zz l1))] true []) (y3f l0 l1):=(sl z3v 15 [(3,1,Zz ([]:List Int))] ⟨[0],[],rysN0,rysM0⟩ ⟨[(5,.grow 0 1)],[],[]⟩ [] (pp (fl ([]:List Int) nn) nn))
theorem u0h (l0:List R4) (l1:List R4) (n:Nat) (vs:List AVal) (h:Yx (z3d l0 l1) n (y3f l0 l1)=.ret vs):Ur prog (Zy prog 128) (Za prog 128 [(.dat l0.length (Zz l0)),(.dat l1.length (Zz l1))] true []) vs:=by have:=Zc (w7d l0 l1) n _ (x8f l0 l1);rwa [h] at this
inductive rcutS where
 | h0 (v5:List Int) (v6:Int)
 | h1 (v5:List Int) (v7:Int)
def j3m (l0:List R6) (l1:List R6):rcutS→Cfg
 | .h0 v5 v6=>⟨⟨52,0,true⟩,none,(Zb prog 107 [1,1,0,1,0,0] 0),none,(Zy prog 6),⟨Yg [(0,(.dat l0.length (Zz l0))),(1,(.dat l1.length (Zz l1))),(5,(.sla 0 1 0 v5.length (.un 1))),(6,(ii v6))],Wt [⟨Ym v5.length (Zz v5),3,some ⟨1,v5.length,(Zz v5)⟩⟩] 0,1,[],true⟩,[],.leaf⟩
 | .h1 v5 v7=>⟨⟨52,0,true⟩,none,(Zb prog 107 [1,1,1,0,1,0,0] 0),none,(Zy prog 6),⟨Yg [(1,(.dat l1.length (Zz l1))),(5,(.sla 0 1 0 v5.length (.un 1))),(7,(ii v7))],Wt [⟨Ym v5.length (Zz v5),3,some ⟨1,v5.length,(Zz v5)⟩⟩] 0,1,[],true⟩,[],.leaf⟩
def u8h :List (Option (List Nat)):=[some [0,1,5,6]]
def u8j :List (Option (List Nat)):=[]
def u8g :List (Option (List Nat)):=[some [1,5,7]]
def u8i :List (Option (List Nat)):=[]
def z0g (l0:List R6) (l1:List R6):rcutS→Xw rcutS
 | .h0 v5 v6=>(bif (decide (v6<(l0.length:Int))) then (bif ((decide (0≤v6∧v6<(l0.length:Int)))&&true) then (bif (Nat.beq 1 1&&((decide (0+v5.length=v5.length))&&decide ((v5.length+2+1)*(8+1)≤Kj))) then (.to (.h0 (v5++[(rd l0 v6.toNat).c,(rd l0 v6.toNat).f]) (wrap .i64 (v6+1)))) else .stuck) else .stuck) else (.to (.h1 v5 0)))
 | .h1 v5 v7=>(bif (decide (v7<(l1.length:Int))) then (bif ((decide (0≤v7∧v7<(l1.length:Int)))&&true) then (bif (Nat.beq 1 1&&((decide (0+v5.length=v5.length))&&decide ((v5.length+2+1)*(8+1)≤Kj))) then (.to (.h1 (v5++[(rd l1 v7.toNat).c,(rd l1 v7.toNat).f]) (wrap .i64 (v7+1)))) else .stuck) else .stuck) else (bif (Qk (cvT v5)) then (.ret [(.dat (z3b (cvT v5)).length (Zz (z3b (cvT v5))))]) else .stuck))
def z8f (l0:List R6) (l1:List R6):Xw rcutS:=(.to (.h0 ([]:List Int) 0))
theorem x9l (l0:List R6) (l1:List R6): ∀s,Xu prog (Zy prog 107) (j3m l0 l1) (j3m l0 l1 s) (z0g l0 l1 s)
 | .h0 v5 v6=>(lb (fun k0=>(lo fun o0=>(lo fun o1=>(sl z3v 20 [] ⟨[2],[],u8h,u8j⟩ ⟨[(5,.len (v5++[(rd l0 (tn v6)).c,(rd l0 (tn v6)).f]).length)],[.rowed 1 (v5++[(rd l0 (tn v6)).c,(rd l0 (tn v6)).f]).length (Zz (v5++[(rd l0 (tn v6)).c,(rd l0 (tn v6)).f]))],[]⟩ [true] (pp (xL (v5.length+2) (v5++[(rd l0 (tn v6)).c,(rd l0 (tn v6)).f]).length) (pp (xL (v5.length+2) (v5++[(rd l0 (tn v6)).c,(rd l0 (tn v6)).f]).length) (pp (xS (v5.length+2) (Yy (Zz v5) 0 v5.length 1 [(ii (rd l0 (tn v6)).c),(ii (rd l0 (tn v6)).f)]) (Zz (v5++[(rd l0 (tn v6)).c,(rd l0 (tn v6)).f]))) (pp (pp (xF (Yy (Zz v5) 0 v5.length 1 [(ii (rd l0 (tn v6)).c),(ii (rd l0 (tn v6)).f)])) nn) (ww o1 (ww o0 (ww o0 (tt k0 nn)))))))))))) (fun k0=>(sl z3v 17 [] ⟨[0],[],u8g,u8i⟩ ⟨[],[],[]⟩ [false] (pp (fl v5 nn) (tt k0 nn)))))
 | .h1 v5 v7=>(lb (fun k0=>(lo fun o0=>(lo fun o1=>(sl z3v 20 [] ⟨[2],[],u8g,u8i⟩ ⟨[(5,.len (v5++[(rd l1 (tn v7)).c,(rd l1 (tn v7)).f]).length)],[.rowed 1 (v5++[(rd l1 (tn v7)).c,(rd l1 (tn v7)).f]).length (Zz (v5++[(rd l1 (tn v7)).c,(rd l1 (tn v7)).f]))],[]⟩ [true] (pp (xL (v5.length+2) (v5++[(rd l1 (tn v7)).c,(rd l1 (tn v7)).f]).length) (pp (xL (v5.length+2) (v5++[(rd l1 (tn v7)).c,(rd l1 (tn v7)).f]).length) (pp (xS (v5.length+2) (Yy (Zz v5) 0 v5.length 1 [(ii (rd l1 (tn v7)).c),(ii (rd l1 (tn v7)).f)]) (Zz (v5++[(rd l1 (tn v7)).c,(rd l1 (tn v7)).f]))) (pp (pp (xF (Yy (Zz v5) 0 v5.length 1 [(ii (rd l1 (tn v7)).c),(ii (rd l1 (tn v7)).f)])) nn) (ww o1 (ww o0 (ww o0 (tt k0 nn)))))))))))) (fun k0=>(Xd (sl z3v (C':=⟨⟨52,0,true⟩,(Vj prog 107 [1,1,1,1,0] 1),(Zb prog 107 [1,1,1,1,0] 1),none,(Zy prog 6),⟨Yg [(50,(.dat v5.length (Zz v5)))],Wt [] 0,0,[],true⟩,[],.leaf⟩) 13 [] ⟨[],[0],[some [50]],[]⟩ ⟨[(50,.frz v5.length v5.length (Zz v5) (Zz v5))],[],[]⟩ [false] (pp (xZ (z7j 1 1 0 v5.length v5.length (Zz v5)) v5.length (Zz v5)) (pp (xL v5.length v5.length) (pp (xS v5.length (Zz v5) (Zz v5)) (pp (fl v5 nn) (tt k0 nn)))))) (lo fun o0=>(lr 52 3 [1,1,1,1,0] 1 6 [(4,(.dat (z3b (cvT v5)).length (Zz (z3b (cvT v5)))))] (sl z3v 3 [] ⟨[],[],[some [4]],[]⟩ ⟨[],[],[]⟩ [] (pp (pp (xr v5) (xw o0)) nn)))))))
theorem x4t (l0:List R6) (l1:List R6):Xu prog (Zy prog 107) (j3m l0 l1) (Za prog 107 [(.dat l0.length (Zz l0)),(.dat l1.length (Zz l1))] true []) (z8f l0 l1):=(sl z3v 15 [(3,1,Zz ([]:List Int))] ⟨[0],[],u8h,u8j⟩ ⟨[(5,.grow 0 1)],[],[]⟩ [] (pp (fl ([]:List Int) nn) nn))
theorem v4c (l0:List R6) (l1:List R6) (n:Nat) (vs:List AVal) (h:Yx (z0g l0 l1) n (z8f l0 l1)=.ret vs):Ur prog (Zy prog 107) (Za prog 107 [(.dat l0.length (Zz l0)),(.dat l1.length (Zz l1))] true []) vs:=by have:=Zc (x9l l0 l1) n _ (x4t l0 l1);rwa [h] at this
def z2z (l:List R4):List Int:=l.flatMap fun r=>[r.a,r.c]
def z1d (l:List R4):List Int:=l.flatMap fun r=>[r.b,r.d]
def z2y (l:List R6):List Int:=l.flatMap fun r=>[r.c,r.f]
def xsV (l m:List R4):List Int:=z3b (z2z l++z2z m)
def y2p (l m:List R4):Bool:=decide (l.length≤10000∧m.length≤10000)
theorem z4h (l:List R4):(z2z l).length =2*l.length:=by
 induction l with
 | nil=>rfl
 | cons r l ih=>grind [z2z]
theorem y8j (l:List R4) (i:Nat) (h:i<l.length):z2z (l.drop i)=z2z [rd l i]++z2z (l.drop (i+1)):=by rw [Yq h];rfl
theorem u7a (l m:List R4) (hl:l.length≤10000) (hm:m.length≤10000): ∀(k i:Nat) (out:List Int),i+k=m.length→out.length=2*l.length+2*i→ ∃N,Yx (z3e l m) N (.to (.h1 out (i:Int)))=.ret [.dat (z3b (out++z2z (m.drop i))).length (Zz (z3b (out++z2z (m.drop i))))]
 | 0,i,out,h,ho=>by refine ⟨1,?_⟩;have hw:Qk out=true:=An (by omega);rw [Zw,As (show m.length≤i by omega),show z2z []=[] from rfl,AF];simp (disch:=omega) only [z3e,Xt,Xy,Zs,Yf,Xo,Yw,Yb,Yu,Zt,Zk,Zf,z0z,z1a,Ao,Zx,Zn,Zh,Yc,Zj,Af,Ah,Ak,Ae,Ac,Av,AA,Zp,Zd,Zq,Vs,Xm,hw]
 | k+1,i,out,h,ho=>by obtain ⟨N,hN⟩:=u7a l m hl hm k (i+1) (out++z2z [rd m i]) (by omega) (by grind [z4h]);refine ⟨N+1,?_⟩;rw [y8j m i (by omega),←AN,Zw];simp (disch:=omega) only [z3e,Xt,Xy,Zs,Yf,Xo,Yw,Yb,Yu,Zt,Zk,Zf,z0z,z1a,Ao,Zx,Zn,Zh,Yc,Zj,Af,Ah,Ak,Ae,Ac,Av,AA,Zp,Zd,Zq,Vs,Xm];exact hN
theorem u7b (l m:List R4) (hl:l.length≤10000) (hm:m.length≤10000): ∀(k i:Nat) (out:List Int),i+k=l.length→out.length=2*i→ ∃N,Yx (z3e l m) N (.to (.h0 out (i:Int)))=.ret [.dat (z3b (out++z2z (l.drop i)++z2z m)).length (Zz (z3b (out++z2z (l.drop i)++z2z m)))]
 | 0,i,out,h,ho=>by obtain ⟨N,hN⟩:=u7a l m hl hm m.length 0 out (Af _) (by omega);refine ⟨N+1,?_⟩;rw [Zw,As (show l.length≤i by omega),show z2z []=[] from rfl,AF];simp (disch:=omega) only [z3e,Xt,Xy,Zs,Yf,Xo,Yw,Yb,Yu,Zt,Zk,Zf,z0z,z1a,Ao,Zx,Zn,Zh,Yc,Zj,Af,Ah,Ak,Ae,Ac,Av,AA,Zp,Zd,Zq,Vs,Xm];exact hN
 | k+1,i,out,h,ho=>by obtain ⟨N,hN⟩:=u7b l m hl hm k (i+1) (out++z2z [rd l i]) (by omega) (by grind [z4h]);refine ⟨N+1,?_⟩;rw [y8j l i (by omega),←AN,Zw];simp (disch:=omega) only [z3e,Xt,Xy,Zs,Yf,Xo,Yw,Yb,Yu,Zt,Zk,Zf,z0z,z1a,Ao,Zx,Zn,Zh,Yc,Zj,Af,Ah,Ak,Ae,Ac,Av,AA,Zp,Zd,Zq,Vs,Xm];exact hN
theorem j2h (l m:List R4) (h:y2p l m=true): ∃N,Yx (z3e l m) N (y3g l m)=.ret [.dat (xsV l m).length (Zz (xsV l m))]:=by
 obtain ⟨h1,h2⟩:=Aw h;have:=u7b l m h1 h2 l.length 0 [] (Af _) rfl
 simpa [y3g,xsV] using this
def ysV (l m:List R4):List Int:=z3b (z1d l++z1d m)
def y2o (l m:List R4):Bool:=decide (l.length≤10000∧m.length≤10000)
theorem z4g (l:List R4):(z1d l).length =2*l.length:=by
 induction l with
 | nil=>rfl
 | cons r l ih=>grind [z1d]
theorem y8i (l:List R4) (i:Nat) (h:i<l.length):z1d (l.drop i)=z1d [rd l i]++z1d (l.drop (i+1)):=by rw [Yq h];rfl
theorem u6y (l m:List R4) (hl:l.length≤10000) (hm:m.length≤10000): ∀(k i:Nat) (out:List Int),i+k=m.length→out.length=2*l.length+2*i→ ∃N,Yx (z3d l m) N (.to (.h1 out (i:Int)))=.ret [.dat (z3b (out++z1d (m.drop i))).length (Zz (z3b (out++z1d (m.drop i))))]
 | 0,i,out,h,ho=>by refine ⟨1,?_⟩;have hw:Qk out=true:=An (by omega);rw [Zw,As (show m.length≤i by omega),show z1d []=[] from rfl,AF];simp (disch:=omega) only [z3d,Xt,Xy,Zs,Yf,Xo,Yw,Yb,Yu,Zt,Zk,Zf,z0z,z1a,Ao,Zx,Zn,Zh,Yc,Zj,Af,Ah,Ak,Ae,Ac,Av,AA,Zp,Zd,Zq,Vs,Xm,hw]
 | k+1,i,out,h,ho=>by obtain ⟨N,hN⟩:=u6y l m hl hm k (i+1) (out++z1d [rd m i]) (by omega) (by grind [z4g]);refine ⟨N+1,?_⟩;rw [y8i m i (by omega),←AN,Zw];simp (disch:=omega) only [z3d,Xt,Xy,Zs,Yf,Xo,Yw,Yb,Yu,Zt,Zk,Zf,z0z,z1a,Ao,Zx,Zn,Zh,Yc,Zj,Af,Ah,Ak,Ae,Ac,Av,AA,Zp,Zd,Zq,Vs,Xm];exact hN
theorem u6z (l m:List R4) (hl:l.length≤10000) (hm:m.length≤10000): ∀(k i:Nat) (out:List Int),i+k=l.length→out.length=2*i→ ∃N,Yx (z3d l m) N (.to (.h0 out (i:Int)))=.ret [.dat (z3b (out++z1d (l.drop i)++z1d m)).length (Zz (z3b (out++z1d (l.drop i)++z1d m)))]
 | 0,i,out,h,ho=>by obtain ⟨N,hN⟩:=u6y l m hl hm m.length 0 out (Af _) (by omega);refine ⟨N+1,?_⟩;rw [Zw,As (show l.length≤i by omega),show z1d []=[] from rfl,AF];simp (disch:=omega) only [z3d,Xt,Xy,Zs,Yf,Xo,Yw,Yb,Yu,Zt,Zk,Zf,z0z,z1a,Ao,Zx,Zn,Zh,Yc,Zj,Af,Ah,Ak,Ae,Ac,Av,AA,Zp,Zd,Zq,Vs,Xm];exact hN
 | k+1,i,out,h,ho=>by obtain ⟨N,hN⟩:=u6z l m hl hm k (i+1) (out++z1d [rd l i]) (by omega) (by grind [z4g]);refine ⟨N+1,?_⟩;rw [y8i l i (by omega),←AN,Zw];simp (disch:=omega) only [z3d,Xt,Xy,Zs,Yf,Xo,Yw,Yb,Yu,Zt,Zk,Zf,z0z,z1a,Ao,Zx,Zn,Zh,Yc,Zj,Af,Ah,Ak,Ae,Ac,Av,AA,Zp,Zd,Zq,Vs,Xm];exact hN
theorem j2g (l m:List R4) (h:y2o l m=true): ∃N,Yx (z3d l m) N (y3f l m)=.ret [.dat (ysV l m).length (Zz (ysV l m))]:=by
 obtain ⟨h1,h2⟩:=Aw h;have:=u6z l m h1 h2 l.length 0 [] (Af _) rfl
 simpa [y3f,ysV] using this
def Vy (l m:List R6):List Int:=z3b (z2y l++z2y m)
def z9f (l m:List R6):Bool:=decide (l.length≤40000∧m.length≤40000)
theorem z4f (l:List R6):(z2y l).length =2*l.length:=by
 induction l with
 | nil=>rfl
 | cons r l ih=>grind [z2y]
theorem y8f (l:List R6) (i:Nat) (h:i<l.length):z2y (l.drop i)=z2y [rd l i]++z2y (l.drop (i+1)):=by rw [Yq h];rfl
theorem v4a (l m:List R6) (hl:l.length≤40000) (hm:m.length≤40000): ∀(k i:Nat) (out:List Int),i+k=m.length→out.length=2*l.length+2*i→ ∃N,Yx (z0g l m) N (.to (.h1 out (i:Int)))=.ret [.dat (z3b (out++z2y (m.drop i))).length (Zz (z3b (out++z2y (m.drop i))))]
 | 0,i,out,h,ho=>by refine ⟨1,?_⟩;have hw:Qk out=true:=An (by omega);rw [Zw,As (show m.length≤i by omega),show z2y []=[] from rfl,AF];simp (disch:=omega) only [z0g,Xt,Xy,Zs,Yf,Xo,Yw,Yb,Yu,Zt,Zk,Zf,z0z,z1a,Ao,Zx,Zn,Zh,Yc,Zj,Af,Ah,Ak,Ae,Ac,Av,AA,Zp,Zd,Zq,Vs,Xm,hw]
 | k+1,i,out,h,ho=>by obtain ⟨N,hN⟩:=v4a l m hl hm k (i+1) (out++z2y [rd m i]) (by omega) (by grind [z4f]);refine ⟨N+1,?_⟩;rw [y8f m i (by omega),←AN,Zw];simp (disch:=omega) only [z0g,Xt,Xy,Zs,Yf,Xo,Yw,Yb,Yu,Zt,Zk,Zf,z0z,z1a,Ao,Zx,Zn,Zh,Yc,Zj,Af,Ah,Ak,Ae,Ac,Av,AA,Zp,Zd,Zq,Vs,Xm];exact hN
theorem v4b (l m:List R6) (hl:l.length≤40000) (hm:m.length≤40000): ∀(k i:Nat) (out:List Int),i+k=l.length→out.length=2*i→ ∃N,Yx (z0g l m) N (.to (.h0 out (i:Int)))=.ret [.dat (z3b (out++z2y (l.drop i)++z2y m)).length (Zz (z3b (out++z2y (l.drop i)++z2y m)))]
 | 0,i,out,h,ho=>by obtain ⟨N,hN⟩:=v4a l m hl hm m.length 0 out (Af _) (by omega);refine ⟨N+1,?_⟩;rw [Zw,As (show l.length≤i by omega),show z2y []=[] from rfl,AF];simp (disch:=omega) only [z0g,Xt,Xy,Zs,Yf,Xo,Yw,Yb,Yu,Zt,Zk,Zf,z0z,z1a,Ao,Zx,Zn,Zh,Yc,Zj,Af,Ah,Ak,Ae,Ac,Av,AA,Zp,Zd,Zq,Vs,Xm];exact hN
 | k+1,i,out,h,ho=>by obtain ⟨N,hN⟩:=v4b l m hl hm k (i+1) (out++z2y [rd l i]) (by omega) (by grind [z4f]);refine ⟨N+1,?_⟩;rw [y8f l i (by omega),←AN,Zw];simp (disch:=omega) only [z0g,Xt,Xy,Zs,Yf,Xo,Yw,Yb,Yu,Zt,Zk,Zf,z0z,z1a,Ao,Zx,Zn,Zh,Yc,Zj,Af,Ah,Ak,Ae,Ac,Av,AA,Zp,Zd,Zq,Vs,Xm];exact hN
theorem u1p (l m:List R6) (h:z9f l m=true): ∃N,Yx (z0g l m) N (z8f l m)=.ret [.dat (Vy l m).length (Zz (Vy l m))]:=by
 obtain ⟨h1,h2⟩:=Aw h;have:=v4b l m h1 h2 l.length 0 [] (Af _) rfl
 simpa [z8f,Vy] using this
def fXs :List AVal→Option (AVal×Bool)
 | [a0,a1]=>match asL R4 a0,asL R4 a1 with
  | some (L0,g0,n0),some (L1,g1,n1)=>some (.dat (xsV L0 L1).length (Zz (xsV L0 L1)),isT R4 n0 g0&&(isT R4 n1 g1&&(y2p L0 L1)))
  | _,_=>none
 | _=>none
theorem fXs_ok {S:Specs} (hS:Zu prog S):Zu prog (S.with nXs fXs):=by
 refine Qi hS (by kernel_rfl) fun args v h=> ?_;unfold fXs at h;split at h
 ·rename_i a0 a1;split at h
  ·rename_i L0 g0 n0 L1 g1 n1 e0 e1;simp only [Ab,Aa,Ad] at h;obtain ⟨rfl,ho0,ho1,hw⟩:=h;obtain ⟨N,hN⟩:=j2h L0 L1 hw;exact ⟨_,_,(.cons (Yi e0 ho0) (.cons (Yi e1 ho1) .nil)),rfl,u0i L0 L1 N _ hN,3,rfl⟩
  ·cases h
 ·cases h
def fYs :List AVal→Option (AVal×Bool)
 | [a0,a1]=>match asL R4 a0,asL R4 a1 with
  | some (L0,g0,n0),some (L1,g1,n1)=>some (.dat (ysV L0 L1).length (Zz (ysV L0 L1)),isT R4 n0 g0&&(isT R4 n1 g1&&(y2o L0 L1)))
  | _,_=>none
 | _=>none
theorem fYs_ok {S:Specs} (hS:Zu prog S):Zu prog (S.with nYs fYs):=by
 refine Qi hS (by kernel_rfl) fun args v h=> ?_;unfold fYs at h;split at h
 ·rename_i a0 a1;split at h
  ·rename_i L0 g0 n0 L1 g1 n1 e0 e1;simp only [Ab,Aa,Ad] at h;obtain ⟨rfl,ho0,ho1,hw⟩:=h;obtain ⟨N,hN⟩:=j2g L0 L1 hw;exact ⟨_,_,(.cons (Yi e0 ho0) (.cons (Yi e1 ho1) .nil)),rfl,u0h L0 L1 N _ hN,3,rfl⟩
  ·cases h
 ·cases h
def j6p :List AVal→Option (AVal×Bool)
 | [a0,a1]=>match asL R6 a0,asL R6 a1 with
  | some (L0,g0,n0),some (L1,g1,n1)=>some (.dat (Vy L0 L1).length (Zz (Vy L0 L1)),isT R6 n0 g0&&(isT R6 n1 g1&&(z9f L0 L1)))
  | _,_=>none
 | _=>none
theorem u3y {S:Specs} (hS:Zu prog S):Zu prog (S.with nCuts j6p):=by
 refine Qi hS (by kernel_rfl) fun args v h=> ?_;unfold j6p at h;split at h
 ·rename_i a0 a1;split at h
  ·rename_i L0 g0 n0 L1 g1 n1 e0 e1;simp only [Ab,Aa,Ad] at h;obtain ⟨rfl,ho0,ho1,hw⟩:=h;obtain ⟨N,hN⟩:=u1p L0 L1 hw;exact ⟨_,_,(.cons (Yi e0 ho0) (.cons (Yi e1 ho1) .nil)),rfl,v4c L0 L1 N _ hN,3,rfl⟩
  ·cases h
 ·cases h
def T2 :Specs:=((T1.with nXs fXs).with nYs fYs).with nCuts j6p
theorem y1h :Zu prog T2:=u3y (fYs_ok (fXs_ok z3v))
inductive rjoS where
 | h0 (v9:List R4) (v10:List R2) (v11:Int) (v12:Int)
 | h1 (v9:List R4) (v10:List R2) (v11:Int) (v12:Int) (v13:List Bool) (v14:Int)
 | h2 (v9:List R4) (v10:List R2) (v11:Int) (v12:Int) (v15:List R2) (v17:Int)
 | h3 (v9:List R4) (v10:List R2) (v11:Int) (v12:Int) (v16:Int)
abbrev y1p (x0:Int) (l1:List R4) (l2:List R4) (v12:Int) (v14:Int):=(y1v x0 (z4d (cvT l1) (rd (xsV (cvT l1) (cvT l2)) (tn v12)) (rd (ysV (cvT l1) (cvT l2)) (tn v14))) (z4d (cvT l2) (rd (xsV (cvT l1) (cvT l2)) (tn v12)) (rd (ysV (cvT l1) (cvT l2)) (tn v14))))
abbrev y9p (v9:List R4) (v16:Int) (l1:List R4) (l2:List R4) (v12:Int):=(v9.set (0+(tn v16)) (R4.mk (rd v9 (0+(tn v16))).a (rd v9 (0+(tn v16))).b (rd (xsV (cvT l1) (cvT l2)) (tn (wr (v12+1)))) (rd v9 (0+(tn v16))).d))
abbrev y9o (v9:List R4) (l1:List R4) (l2:List R4) (v12:Int) (v15:List R2) (v17:Int):=(v9++[(R4.mk (rd (xsV (cvT l1) (cvT l2)) (tn v12)) (rd v15 (tn v17)).a (rd (xsV (cvT l1) (cvT l2)) (tn (wr (v12+1)))) (rd v15 (tn v17)).b)])
abbrev z0b (l1:List R4) (l2:List R4):=(ysV (cvT l1) (cvT l2))
def w3y (l1:List R4) (l2:List R4):AVal:=(.dat (xsV (cvT l1) (cvT l2)).length (Zz (xsV (cvT l1) (cvT l2))))
def w3x (l1:List R4) (l2:List R4):AVal:=(.dat (z0b l1 l2).length (Zz (z0b l1 l2)))
def rjoC (x0:Int) (l1:List R4) (l2:List R4):rjoS→Cfg
 | .h0 v9 v10 v11 v12=>⟨⟨121,0,true⟩,none,(Zb prog 89 [1,1,1,1,1,0,1,0,0] 0),none,(Zy prog 3),⟨Yg [(0,(ii x0)),(1,(.dat l1.length (Zz l1))),(2,(.dat l2.length (Zz l2))),(7,(w3y l1 l2)),(8,(w3x l1 l2)),(9,(.sla 0 4 0 v9.length (.un 4))),(10,(.dat v10.length (Zz v10))),(11,(ii v11)),(12,(ii v12))],Wt [⟨Ym v9.length (Zz v9),116,some ⟨4,v9.length,(Zz v9)⟩⟩] 0,1,[],true⟩,[],.leaf⟩
 | .h1 v9 v10 v11 v12 v13 v14=>⟨⟨121,0,true⟩,none,(Zb prog 89 [1,1,1,1,1,0,1,0,0,1,0,0,1,0,1,0,0] 0),none,(Zy prog 3),⟨Yg [(0,(ii x0)),(1,(.dat l1.length (Zz l1))),(2,(.dat l2.length (Zz l2))),(7,(w3y l1 l2)),(8,(w3x l1 l2)),(9,(.sla 1 4 0 v9.length (.un 4))),(10,(.dat v10.length (Zz v10))),(11,(ii v11)),(12,(ii v12)),(13,(.sla 0 1 0 v13.length (.un 1))),(14,(ii v14))],Wt [⟨Ym v13.length (Zz v13),4,some ⟨1,v13.length,(Zz v13)⟩⟩,⟨Ym v9.length (Zz v9),116,some ⟨4,v9.length,(Zz v9)⟩⟩] 0,2,[],true⟩,[],.leaf⟩
 | .h2 v9 v10 v11 v12 v15 v17=>⟨⟨121,0,true⟩,none,(Zb prog 89 [1,1,1,1,1,0,1,0,0,1,0,0,1,1,1,1,1,1,0,0] 0),none,(Zy prog 3),⟨Yg [(0,(ii x0)),(1,(.dat l1.length (Zz l1))),(2,(.dat l2.length (Zz l2))),(7,(w3y l1 l2)),(8,(w3x l1 l2)),(9,(.sla 0 4 0 v9.length (.un 4))),(10,(.dat v10.length (Zz v10))),(11,(ii v11)),(12,(ii v12)),(15,(.dat v15.length (Zz v15))),(17,(ii v17))],Wt [⟨Ym v9.length (Zz v9),116,some ⟨4,v9.length,(Zz v9)⟩⟩] 0,1,[],true⟩,[],.leaf⟩
 | .h3 v9 v10 v11 v12 v16=>⟨⟨121,0,true⟩,none,(Zb prog 89 [1,1,1,1,1,0,1,0,0,1,0,0,1,1,1,0,1,0,0,1,0,0] 0),none,(Zy prog 3),⟨Yg [(0,(ii x0)),(1,(.dat l1.length (Zz l1))),(2,(.dat l2.length (Zz l2))),(7,(w3y l1 l2)),(8,(w3x l1 l2)),(9,(.sla 0 4 0 v9.length (.un 4))),(10,(.dat v10.length (Zz v10))),(11,(ii v11)),(12,(ii v12)),(16,(ii v16))],Wt [⟨Ym v9.length (Zz v9),116,some ⟨4,v9.length,(Zz v9)⟩⟩] 0,1,[],true⟩,[],.leaf⟩
def j2x :List (Option (List Nat)):=[some [0,1,2,7,8,9,10,11,12]]
def j2z :List (Option (List Nat)):=[]
def rjoN1 :List (Option (List Nat)):=[some [0,1,2,7,8,9,10,11,12,13,14]]
def rjoM1 :List (Option (List Nat)):=[]
def j2w :List (Option (List Nat)):=[some [0,1,2,7,8,9,10,11,12,15,17]]
def j2y :List (Option (List Nat)):=[]
def rjoN3 :List (Option (List Nat)):=[some [0,1,2,7,8,9,10,11,12,16]]
def rjoM3 :List (Option (List Nat)):=[]
def Vu (x0:Int) (l1:List R4) (l2:List R4):rjoS→Xw rjoS
 | .h0 v9 v10 v11 v12=>(bif (decide ((wrap .i64 (v12+1))<(((xsV (cvT l1) (cvT l2)).length :Nat):Int))) then (.to (.h1 v9 v10 v11 v12 ([]:List Bool) 0)) else (.ret [(.dat v9.length (Zz v9))]))
 | .h1 v9 v10 v11 v12 v13 v14=>(bif (decide (v14<(((ysV (cvT l1) (cvT l2)).length :Nat):Int))) then (bif (z0p (cvT l1) (rd (xsV (cvT l1) (cvT l2)) v12.toNat) (rd (ysV (cvT l1) (cvT l2)) v14.toNat)) then (bif ((decide (0≤v12∧v12<(((xsV (cvT l1) (cvT l2)).length :Nat):Int)))&&true) then (bif ((decide (0≤v14∧v14<(((ysV (cvT l1) (cvT l2)).length :Nat):Int)))&&true) then (bif (z0p (cvT l2) (rd (xsV (cvT l1) (cvT l2)) v12.toNat) (rd (ysV (cvT l1) (cvT l2)) v14.toNat)) then (bif (Nat.beq 1 1&&((decide (0+v13.length=v13.length))&&decide ((v13.length+1+1)*(1+1)≤Kj))) then (.to (.h1 v9 v10 v11 v12 (v13++[(y1v x0 (z4d (cvT l1) (rd (xsV (cvT l1) (cvT l2)) v12.toNat) (rd (ysV (cvT l1) (cvT l2)) v14.toNat)) (z4d (cvT l2) (rd (xsV (cvT l1) (cvT l2)) v12.toNat) (rd (ysV (cvT l1) (cvT l2)) v14.toNat)))]) (wrap .i64 (v14+1)))) else .stuck) else .stuck) else .stuck) else .stuck) else .stuck) else (bif (z9i (cvT (ysV (cvT l1) (cvT l2))) (cvT v13)) then (bif (decide (v12>0)) then (bif (Ve (cvT (y1z (cvT (ysV (cvT l1) (cvT l2))) (cvT v13))) (cvT v10)) then (bif (Qm (cvT (y1z (cvT (ysV (cvT l1) (cvT l2))) (cvT v13))) (cvT v10)) then (.to (.h3 v9 v10 v11 v12 v11)) else (.to (.h2 v9 (y1z (cvT (ysV (cvT l1) (cvT l2))) (cvT v13)) (v9.length:Int) v12 (y1z (cvT (ysV (cvT l1) (cvT l2))) (cvT v13)) 0))) else .stuck) else (.to (.h2 v9 (y1z (cvT (ysV (cvT l1) (cvT l2))) (cvT v13)) (v9.length:Int) v12 (y1z (cvT (ysV (cvT l1) (cvT l2))) (cvT v13)) 0))) else .stuck))
 | .h2 v9 v10 v11 v12 v15 v17=>(bif (decide (v17<(v15.length:Int))) then (bif ((decide (0≤v12∧v12<(((xsV (cvT l1) (cvT l2)).length :Nat):Int)))&&true) then (bif ((decide (0≤(wrap .i64 (v12+1))∧(wrap .i64 (v12+1))<(((xsV (cvT l1) (cvT l2)).length :Nat):Int)))&&true) then (bif ((decide (0≤v17∧v17<(v15.length:Int)))&&true) then (bif (Nat.beq 4 4&&((decide (0+v9.length=v9.length))&&decide ((v9.length+1+1)*(32+1)≤Kj))) then (.to (.h2 (v9++[(R4.mk (rd (xsV (cvT l1) (cvT l2)) v12.toNat) (rd v15 v17.toNat).a (rd (xsV (cvT l1) (cvT l2)) (Int.toNat (wrap .i64 (v12+1)))) (rd v15 v17.toNat).b)]) v10 v11 v12 v15 (wrap .i64 (v17+1)))) else .stuck) else .stuck) else .stuck) else .stuck) else (.to (.h0 v9 v10 v11 (wrap .i64 (v12+1)))))
 | .h3 v9 v10 v11 v12 v16=>(bif (decide (v16<(v9.length:Int))) then (bif ((decide (0≤(wrap .i64 (v12+1))∧(wrap .i64 (v12+1))<(((xsV (cvT l1) (cvT l2)).length :Nat):Int)))&&true) then (bif ((decide (0≤v16∧v16<(v9.length:Int)))&&true) then (bif (decide ((0+v16.toNat)<v9.length)) then (.to (.h3 (v9.set (0+v16.toNat) (R4.mk (rd v9 (0+v16.toNat)).a (rd v9 (0+v16.toNat)).b (rd (xsV (cvT l1) (cvT l2)) (Int.toNat (wrap .i64 (v12+1)))) (rd v9 (0+v16.toNat)).d)) v10 v11 v12 (wrap .i64 (v16+1)))) else .stuck) else .stuck) else .stuck) else (.to (.h0 v9 v10 v11 (wrap .i64 (v12+1)))))
def y3p (x0:Int) (l1:List R4) (l2:List R4):Xw rjoS:=(bif (y2p (cvT l1) (cvT l2)) then (bif (y2o (cvT l1) (cvT l2)) then (.to (.h0 ([]:List R4) ([]:List R2) 0 0)) else .stuck) else .stuck)
theorem w7p (x0:Int) (l1:List R4) (l2:List R4): ∀s,Xu prog (Zy prog 89) (rjoC x0 l1 l2) (rjoC x0 l1 l2 s) (Vu x0 l1 l2 s)
 | .h0 v9 v10 v11 v12=>(lb (fun k0=>(sl y1h 24 [(4,1,Zz ([]:List Bool))] ⟨[1,0],[],rjoN1,rjoM1⟩ ⟨[(13,.grow 0 1)],[],[]⟩ [true] (pp (fl ([]:List Bool) (fl v9 nn)) (tt k0 nn)))) (fun k0=>(lr 121 3 [1,1,1,1,0] 1 3 [(6,(.dat v9.length (Zz v9)))] (sl y1h 16 [] ⟨[],[0],[some [6]],[]⟩ ⟨[(6,.frz v9.length v9.length (Zz v9) (Zz v9))],[],[]⟩ [false] (pp (xZ (z7j 4 4 0 v9.length v9.length (Zz v9)) v9.length (Zz v9)) (pp (xL v9.length v9.length) (pp (xS v9.length (Zz v9) (Zz v9)) (pp (fl v9 nn) (tt k0 nn)))))))))
 | .h1 v9 v10 v11 v12 v13 v14=>(lb (fun k0=>(lo fun o0=>(lo fun o1=>(lo fun o2=>(lo fun o3=>(lo fun o4=>(sl y1h 20 [] ⟨[3,1],[],rjoN1,rjoM1⟩ ⟨[(13,.len (v13++[(y1p x0 l1 l2 v12 v14)]).length)],[.rowed 1 (v13++[(y1p x0 l1 l2 v12 v14)]).length (Zz (v13++[(y1p x0 l1 l2 v12 v14)])),.keep],[]⟩ [true] (pp (xL (v13.length+1) (v13++[(y1p x0 l1 l2 v12 v14)]).length) (pp (xL (v13.length+1) (v13++[(y1p x0 l1 l2 v12 v14)]).length) (pp (xS (v13.length+1) (Yy (Zz v13) 0 v13.length 1 [(.bool (y1p x0 l1 l2 v12 v14))]) (Zz (v13++[(y1p x0 l1 l2 v12 v14)]))) (pp (pp (xF (Yy (Zz v13) 0 v13.length 1 [(.bool (y1p x0 l1 l2 v12 v14))])) (fl v9 nn)) (ww o4 (pp (pp (xr l2) (xw o3)) (ww o2 (ww o1 (pp (pp (xr l1) (xw o0)) (ww o2 (ww o1 (tt k0 nn))))))))))))))))))) (fun k0=>(Xd (sl y1h (C':=⟨⟨121,0,true⟩,(Vj prog 89 [1,1,1,1,1,0,1,0,0,1,0,0,1,1,0] 2),(Zb prog 89 [1,1,1,1,1,0,1,0,0,1,0,0,1,1,0] 1),none,(Zy prog 3),⟨Yg [(0,(ii x0)),(1,(.dat l1.length (Zz l1))),(2,(.dat l2.length (Zz l2))),(7,(.dat (xsV (cvT l1) (cvT l2)).length (Zz (xsV (cvT l1) (cvT l2))))),(8,(.dat (z0b l1 l2).length (Zz (z0b l1 l2)))),(9,(.sla 0 4 0 v9.length (.un 4))),(10,(.dat v10.length (Zz v10))),(11,(ii v11)),(12,(ii v12)),(62,(.dat (z0b l1 l2).length (Zz (z0b l1 l2)))),(63,(.dat v13.length (Zz v13)))],Wt [⟨Ym v9.length (Zz v9),116,some ⟨4,v9.length,(Zz v9)⟩⟩] 0,1,[],true⟩,[],.leaf⟩) 14 [] ⟨[1],[0],[some [0,1,2,7,8,9,10,11,12,62,63]],[]⟩ ⟨[(63,.frz v13.length v13.length (Zz v13) (Zz v13))],[],[]⟩ [false] (pp (xZ (z7j 1 1 0 v13.length v13.length (Zz v13)) v13.length (Zz v13)) (pp (xL v13.length v13.length) (pp (xS v13.length (Zz v13) (Zz v13)) (pp (fl v9 nn) (pp (fl v13 nn) (tt k0 nn))))))) (lo fun aE=>(lb (fun k1=>(lo fun bU=>(lb (fun k2=>(sl y1h 23 [] ⟨[0],[],rjoN3,rjoM3⟩ ⟨[],[],[]⟩ (trs 4 []) (pp (fl v9 nn) (tt k2 (pp (pp (xI R2 (y1z (cvT (z0b l1 l2)) (cvT v13)).length (Zz (y1z (cvT (z0b l1 l2)) (cvT v13)))) (pp (xr v10) (xw bU))) (tt k1 (pp (pp (xI Int (z0b l1 l2).length (Zz (z0b l1 l2))) (pp (xr v13) (xw aE))) nn))))))) (fun k2=>(sl y1h 30 [] ⟨[0],[],j2w,j2y⟩ ⟨[],[],[]⟩ (trs 3 [false]) (pp (fl v9 nn) (tt k2 (pp (pp (xI R2 (y1z (cvT (z0b l1 l2)) (cvT v13)).length (Zz (y1z (cvT (z0b l1 l2)) (cvT v13)))) (pp (xr v10) (xw bU))) (tt k1 (pp (pp (xI Int (z0b l1 l2).length (Zz (z0b l1 l2))) (pp (xr v13) (xw aE))) nn)))))))))) (fun k1=>(sl y1h 30 [] ⟨[0],[],j2w,j2y⟩ ⟨[],[],[]⟩ (bl 4 0) (pp (fl v9 nn) (tt k1 (pp (pp (xI Int (z0b l1 l2).length (Zz (z0b l1 l2))) (pp (xr v13) (xw aE))) nn))))))))))
 | .h2 v9 v10 v11 v12 v15 v17=>(lb (fun k0=>(lo fun o0=>(lo fun o1=>(lo fun o2=>(lo fun o3=>(sl y1h 20 [] ⟨[2],[],j2w,j2y⟩ ⟨[(9,.len (y9o v9 l1 l2 v12 v15 v17).length)],[.rowed 4 (y9o v9 l1 l2 v12 v15 v17).length (Zz (y9o v9 l1 l2 v12 v15 v17))],[]⟩ [true] (pp (xL (v9.length+1) (y9o v9 l1 l2 v12 v15 v17).length) (pp (xL (v9.length+1) (y9o v9 l1 l2 v12 v15 v17).length) (pp (xS (v9.length+1) (Yy (Zz v9) 0 v9.length 4 [(ii (rd (xsV (cvT l1) (cvT l2)) (tn v12))),(ii (rd v15 (tn v17)).a),(ii (rd (xsV (cvT l1) (cvT l2)) (tn (wr (v12+1))))),(ii (rd v15 (tn v17)).b)]) (Zz (y9o v9 l1 l2 v12 v15 v17))) (pp (pp (xF (Yy (Zz v9) 0 v9.length 4 [(ii (rd (xsV (cvT l1) (cvT l2)) (tn v12))),(ii (rd v15 (tn v17)).a),(ii (rd (xsV (cvT l1) (cvT l2)) (tn (wr (v12+1))))),(ii (rd v15 (tn v17)).b)])) nn) (ww o3 (ww o2 (ww o1 (ww o2 (ww o0 (tt k0 nn)))))))))))))))) (fun k0=>(sl y1h 17 [] ⟨[0],[],j2x,j2z⟩ ⟨[],[],[]⟩ [false] (pp (fl v9 nn) (tt k0 nn)))))
 | .h3 v9 v10 v11 v12 v16=>(lb (fun k0=>(lo fun o0=>(lo fun o1=>(lo fun o2=>(sl y1h 31 [] ⟨[0],[],rjoN3,rjoM3⟩ ⟨[(9,.len (y9p v9 v16 l1 l2 v12).length)],[.rowed 4 (y9p v9 v16 l1 l2 v12).length (Zz (y9p v9 v16 l1 l2 v12))],[]⟩ [true] (pp (xL v9.length (y9p v9 v16 l1 l2 v12).length) (pp (xL v9.length (y9p v9 v16 l1 l2 v12).length) (pp (xS v9.length (Xh (Zz v9) (0+(tn v16)) 2 [(ii (rd (xsV (cvT l1) (cvT l2)) (tn (wr (v12+1)))))]) (Zz (y9p v9 v16 l1 l2 v12))) (pp (pp (xF (Xh (Zz v9) (0+(tn v16)) 2 [(ii (rd (xsV (cvT l1) (cvT l2)) (tn (wr (v12+1)))))])) nn) (ww o2 (ww o1 (ww o0 (tt k0 nn))))))))))))) (fun k0=>(sl y1h 17 [] ⟨[0],[],j2x,j2z⟩ ⟨[],[],[]⟩ [false] (pp (fl v9 nn) (tt k0 nn)))))
theorem x8t (x0:Int) (l1:List R4) (l2:List R4):Xu prog (Zy prog 89) (rjoC x0 l1 l2) (Za prog 89 [(.int .i64 x0),(.dat l1.length (Zz l1)),(.dat l2.length (Zz l2))] true []) (y3p x0 l1 l2):=(lo fun o0=>(lo fun o1=>(sl y1h 34 [(116,4,Zz ([]:List R4))] ⟨[0],[],j2x,j2z⟩ ⟨[(9,.grow 0 4),(10,.list 0 (Zz ([]:List R2)))],[],[]⟩ [] (pp (fl ([]:List R4) nn) (pp (pp (xr l1) (pp (xr l2) (xw o1))) (pp (pp (xr l1) (pp (xr l2) (xw o0))) nn))))))
theorem u0u (x0:Int) (l1:List R4) (l2:List R4) (n:Nat) (vs:List AVal) (h:Yx (Vu x0 l1 l2) n (y3p x0 l1 l2)=.ret vs):Ur prog (Zy prog 89) (Za prog 89 [(.int .i64 x0),(.dat l1.length (Zz l1)),(.dat l2.length (Zz l2))] true []) vs:=by have:=Zc (w7p x0 l1 l2) n _ (x8t x0 l1 l2);rwa [h] at this
theorem z2q : ∀(l out:List Int),(l.foldl x0l out).length ≤out.length+l.length
 | [],out=>Aq _
 | x::l,out=>AE (z2q l (x0l out x)) (by have:=y6n out x;simp;omega)
theorem z6i (l:List Int):(z3b l).length ≤l.length:=by
 grind [z2q,z3b]
theorem y7a (cuts:List Int) (ins:List Bool): ∀(k i:Nat) (out:List R2),(v0w cuts ins k i out).length ≤out.length+k
 | 0,_,out=>Aq _
 | k+1,i,out=>by
  unfold v0w;refine AE (y7a cuts ins k (i+1) _) ?_;cases rd ins i
  ·simp only [Ac];omega
  ·simp only [Ae];cases (decide (0<out.length)&&((rd out (out.length - 1)).b == rd cuts i)) <;> simp <;> omega
theorem w2h (cuts:List Int) (ins:List Bool):(y1z cuts ins).length ≤cuts.length:=by
 grind [y7a,y1z]
section
variable (kind:Int) (l m:List R4)
def v8s (x:Int) (y:Int):Bool:=y1v kind (z4d l x y) (z4d m x y)
def y9d (x:Int):List R2:=y1z (ysV l m) ((ysV l m).map (v8s kind l m x))
def v8r (out:List R4) (first:Nat) (x:Int):List R4:=out.take first++(out.drop first).map fun r=>⟨r.a,r.b,x,r.d⟩
def j3t (x x':Int) (s:List R2):List R4:=s.map fun p=>⟨x,p.a,x',p.b⟩
def jF :Nat→Nat→List R4→List R2→Nat→List R4
 | 0,_,out,_,_=>out
 | k+1,i,out,last,first=>
  bif decide (0<i)&&Qm (y9d kind l m (rd (xsV l m) i)) last then jF k (i+1) (v8r out first (rd (xsV l m) (i+1))) last first
  else jF k (i+1) (out++j3t (rd (xsV l m) i) (rd (xsV l m) (i+1)) (y9d kind l m (rd (xsV l m) i))) (y9d kind l m (rd (xsV l m) i)) out.length
def joV :List R4:=jF kind l m ((xsV l m).length - 1) 0 [] [] 0
end
def z1r (_:Int) (l m:List R4):Bool:=decide (l.length≤10000∧m.length≤10000)
theorem Kh (l m:List R4):(xsV l m).length ≤2*l.length+2*m.length:=by
 refine AE (z6i _) ?_
 grind [z4h]
theorem y8g (l m:List R4):(ysV l m).length ≤2*l.length+2*m.length:=by
 refine AE (z6i _) ?_
 grind [z4g]
section
variable (kind:Int) (l m:List R4) (hl:l.length≤10000) (hm:m.length≤10000)
include hl hm
theorem u7t (out:List R4) (last:List R2) (first:Int) (i:Nat) (hi:i+1<(xsV l m).length): ∀(k j:Nat) (acc:List Bool),j+k=(ysV l m).length →acc.length=j→
  ∃n,∀N,Yx (Vu kind l m) (N+n) (.to (.h1 out last first (i:Int) acc (j:Int)))=Yx (Vu kind l m) N (.to (.h1 out last first (i:Int) (acc++((ysV l m).drop j).map (v8s kind l m (rd (xsV l m) i))) ((ysV l m).length :Int)))
 | 0,j,acc,h,ha=>by
  refine ⟨0,fun N=> ?_⟩
  grind
 | k+1,j,acc,h,ha=>by
  have hx:=Kh l m;have hy:=y8g l m;obtain ⟨n,hn⟩:=u7t out last first i hi k (j+1) (acc++[v8s kind l m (rd (xsV l m) i) (rd (ysV l m) j)]) (by omega) (by simp [ha])
  refine ⟨n+1,fun N=> ?_⟩;have w1: ∀x y,z0p l x y=true:=fun x y=>An (by omega);have w2: ∀x y,z0p m x y=true:=fun x y=>An (by omega);rw [Yq (show j<(ysV l m).length by omega),AU,←AC,Zw];simp (disch:=omega) only [Vu,Zd,Zq,w1,w2,Zs,Zt,Yb,Yu,Zf,Zk,Zx,Yc,Zj,Af,Ao,Ah,Ak,Ae];have:=hn N;rw [AN] at this;exact this
theorem u7s (last:List R2) (first:Int) (i:Nat) (hi:i+1<(xsV l m).length) (s:List R2) (hs:s.length≤1000000): ∀(k j:Nat) (out:List R4),j+k=s.length→out.length≤10000000000+j→
  ∃n,∀N,Yx (Vu kind l m) (N+n) (.to (.h2 out last first (i:Int) s (j:Int)))=Yx (Vu kind l m) N (.to (.h0 (out++j3t (rd (xsV l m) i) (rd (xsV l m) (i+1)) (s.drop j)) last first ((i+1:Nat):Int)))
 | 0,j,out,h,ho=>by
  have hx:=Kh l m;refine ⟨1,fun N=> ?_⟩
  grind [Zw,Vu,Zk,j3t]
 | k+1,j,out,h,ho=>by
  have hx:=Kh l m;obtain ⟨n,hn⟩:=u7s last first i hi s hs k (j+1) (out++j3t (rd (xsV l m) i) (rd (xsV l m) (i+1)) [rd s j]) (by omega) (by simp [j3t];omega)
  refine ⟨n+1,fun N=> ?_⟩;have:=hn N;rw [Yq (show j<s.length by omega),←AC,Zw];simp (disch:=omega) only [Vu,Zd,Zq,Zs,Zt,Yb,Yu,Zf,Zk,Zx,Yc,Zj,Af,Ao,Ah,Ak,Ae];rw [AN] at this;exact this
theorem u4a (out:List R4) (j:Nat) (x:Int) (h:j<out.length):v8r (out.set j ⟨(rd out j).a,(rd out j).b,x,(rd out j).d⟩) (j+1) x=v8r out j x:=by
 have _uhl:=hl;have _uhm:=hm;unfold v8r;rw [Yq h,AU];have e1:(out.set j ⟨(rd out j).a,(rd out j).b,x,(rd out j).d⟩).take (j+1)=out.take j++[⟨(rd out j).a,(rd out j).b,x,(rd out j).d⟩]:=by
  apply BF;all_goals grind
 have e2:(out.set j ⟨(rd out j).a,(rd out j).b,x,(rd out j).d⟩).drop (j+1)=out.drop (j+1):=by rw [List.drop_set];grind
 grind
theorem u7r (last:List R2) (first:Int) (i:Nat) (hi:i+1<(xsV l m).length): ∀(k j:Nat) (out:List R4),j+k=out.length→out.length≤10000000000→
  ∃n,∀N,Yx (Vu kind l m) (N+n) (.to (.h3 out last first (i:Int) (j:Int)))=Yx (Vu kind l m) N (.to (.h0 (v8r out j (rd (xsV l m) (i+1))) last first ((i+1:Nat):Int)))
 | 0,j,out,h,ho=>by
  have hx:=Kh l m;refine ⟨1,fun N=> ?_⟩;have e:v8r out j (rd (xsV l m) (i+1))=out:=by
   grind [v8r]
  grind [Zw,Vu,Zk]
 | k+1,j,out,h,ho=>by
  have hx:=Kh l m;obtain ⟨n,hn⟩:=u7r last first i hi k (j+1) (out.set j ⟨(rd out j).a,(rd out j).b,rd (xsV l m) (i+1),(rd out j).d⟩) (by simp;omega) (by grind)
  refine ⟨n+1,fun N=> ?_⟩;have:=hn N;rw [u4a l m hl hm out j _ (by omega)] at this;rw [←AC,Zw];simp (disch:=omega) only [Vu,Zd,Zq,Zs,Zt,Yw,Yb,Yu,Zf,Zk,Zx,Yc,Zj,Af,Ao,Ah,Ak,Ae];exact this
theorem v3n : ∀(k i:Nat) (out:List R4) (last:List R2) (first:Nat),k=(xsV l m).length - 1 - i→i≤(xsV l m).length →out.length≤i*40000→last.length≤40000→first≤out.length→
  ∃n,Yx (Vu kind l m) n (.to (.h0 out last (first:Int) (i:Int)))=.ret [.dat (jF kind l m k i out last first).length (Zz (jF kind l m k i out last first))]
 | 0,i,out,last,first,h,hi,ho,hla,hf=>by
  have hx:=Kh l m;refine ⟨1,?_⟩
  grind [Zw,Vu,Zd,Zk,Zp,jF]
 | k+1,i,out,last,first,h,hi,ho,hla,hf=>by
  have hx:=Kh l m;have hy:=y8g l m;have hi1:i+1<(xsV l m).length :=by omega
  have hsl:(y9d kind l m (rd (xsV l m) i)).length ≤40000:=AE (w2h _ _) (by omega);have hbig:i*40000≤40000*40000:=Az _ (by omega);obtain ⟨n1,h1⟩:=u7t kind l m hl hm out last first i hi1 (ysV l m).length 0 [] (Af _) rfl
  simp only [AT,A8,z7e] at h1;have w3:z9i (ysV l m) ((ysV l m).map (v8s kind l m (rd (xsV l m) i)))=true:=An ⟨by omega,by grind⟩;have w4:Ve (y1z (ysV l m) ((ysV l m).map (v8s kind l m (rd (xsV l m) i)))) last=true:=An (AE hsl (by omega));have hy2:((ysV l m).length :Int)=(((ysV l m).length :Nat):Int):=rfl;unfold jF;rcases Yk (decide (0<i)&&Qm (y9d kind l m (rd (xsV l m) i)) last) with q | q
  ·obtain ⟨n3,h3⟩:=u7r kind l m hl hm last first i hi1 (out.length - first) first out (by omega) (by omega)
   obtain ⟨n0,h0⟩:=v3n k (i+1) (v8r out first (rd (xsV l m) (i+1))) last first (by omega) (by omega) (by simp [v8r];omega) hla (by simp [v8r];omega)
   refine ⟨n0+n3+1+n1+1,?_⟩;rw [q,Ae,Zw];simp only [Ad,Ar] at q;have q2:Qm (y1z (ysV l m) ((ysV l m).map (v8s kind l m (rd (xsV l m) i)))) last=true:=q.2;simp (disch:=omega) only [Vu,Zd,Zq,Zs,Zk,Zx,Ae];simp_all [Zw,Vu,Zd]
  ·obtain ⟨n2,h2⟩:=u7s kind l m hl hm (y9d kind l m (rd (xsV l m) i)) (out.length:Int) i hi1 (y9d kind l m (rd (xsV l m) i)) (by omega) (y9d kind l m (rd (xsV l m) i)).length 0 out (Af _) (by omega);obtain ⟨n0,h0⟩:=v3n k (i+1) (out++j3t (rd (xsV l m) i) (rd (xsV l m) (i+1)) (y9d kind l m (rd (xsV l m) i))) (y9d kind l m (rd (xsV l m) i)) out.length (by omega) (by omega) (by simp [j3t];omega) hsl (by simp);refine ⟨n0+n2+1+n1+1,?_⟩;rw [q,Ac,Zw];simp (disch:=omega) only [Vu,Zd,Zq,Zs,Zk,Zx,Ae];have h1':=h1 (n0+n2+1);rw [h1',Zw];have h2':=h2 n0;simp only [AT,z7e] at h2';by_cases hi0:0<i
   ·rw [An hi0,Ak] at q;have q2:Qm (y1z (ysV l m) ((ysV l m).map (v8s kind l m (rd (xsV l m) i)))) last=false:=q;simp (disch:=omega) only [Vu,Zd,Zq,Yf,Xy,q2,w3,w4,Ae,Ac];rw [←h0];exact h2'
   ·simp (disch:=omega) only [Vu,Zd,Zq,Yf,Xt,w3,w4,Ae,Ac];rw [←h0];exact h2'
end
theorem j2v (kind:Int) (l m:List R4) (h:z1r kind l m=true): ∃N,Yx (Vu kind l m) N (y3p kind l m)=.ret [.dat (joV kind l m).length (Zz (joV kind l m))]:=by obtain ⟨hl,hm⟩:=Aw h;obtain ⟨N,hN⟩:=v3n kind l m hl hm ((xsV l m).length - 1) 0 [] [] 0 rfl (AB _) (AB _) (AB _) (Aq _);refine ⟨N,?_⟩;have w1:y2p l m=true:=An ⟨hl,hm⟩;have w2:y2o l m=true:=An ⟨hl,hm⟩;simp only [y3p,Zd,Zq,w1,w2,Ae];exact hN
theorem v6j {P:Program} {S:Specs} (hS:Zu P S) {f:FuncId} {F:List AVal→Option (AVal×Bool)} (hf:(P.funcs[f]?).any (fun fn=>fn.body.isSome)=true)
  (hF: ∀args v,F args=some (v,true)→ ∃bs vs,Vz VLe args bs∧(∀(ρ:Rho) (u:Value),VRel ρ (z0c vs) u→VRel ρ v u)∧Ur P (Zy P f) (Za P f bs true []) vs∧ ∃d,pf d (z0c vs)=true):Zu P (S.with f F):=
 w5x hS hf fun args v h=>by obtain ⟨bs,vs,h1,h2,h3,d,h4⟩:=hF args v h;exact ⟨vs,h2,x5x h1 h3,d,h4⟩
theorem y4w {cs cs':List AVal} (h:RLe cs cs') (ρ:Rho) (u:Value) (hv:VRel ρ (.tup cs) u):VRel ρ (.tup cs') u:=by
 cases hv with
 | tup _ vs hl hh=>exact .tup cs' vs (by rw [←h.len];exact hl) fun i h1 h2=>h.sound i (by rw [h.len];exact h1) h1 (hh i (by rw [h.len];exact h1) h2)
theorem z6u (α:Type) [Xk α]:VLe .nils (.dat ([]:List α).length (Zz ([]:List α))):=.nild _
def fJo :List AVal→Option (AVal×Bool)
 | [.int .i64 x0,a1,a2]=>match asL R4 a1,asL R4 a2 with
  | some (L1,g1,n1),some (L2,g2,n2)=>some (.dat (joV x0 L1 L2).length (Zz (joV x0 L1 L2)),isT R4 n1 g1&&(isT R4 n2 g2&&(z1r x0 L1 L2)))
  | _,_=>none
 | _=>none
theorem fJo_ok {S:Specs} (hS:Zu prog S):Zu prog (S.with u9a fJo):=by
 refine Qi hS (by kernel_rfl) fun args v h=> ?_;unfold fJo at h;split at h
 ·rename_i x0 a1 a2;split at h
  ·rename_i L1 g1 n1 L2 g2 n2 e1 e2;simp only [Ab,Aa,Ad] at h;obtain ⟨rfl,ho1,ho2,hw⟩:=h;obtain ⟨N,hN⟩:=j2v x0 L1 L2 hw;exact ⟨_,_,(.cons (.refl _) (.cons (Yi e1 ho1) (.cons (Yi e2 ho2) .nil))),rfl,u0u x0 L1 L2 N _ hN,3,rfl⟩
  ·cases h
 ·cases h
def T3 :Specs:=T2.with u9a fJo
theorem y1g :Zu prog T3:=fJo_ok y1h
open Go.Sort
def bnd3 (r:R3):Bool:=decide (-1000000000≤r.a∧r.a≤1000000000)
def y2j (l:List R3):Bool:=l.all bnd3
abbrev E3 :={r:R3 // bnd3 r=true}
instance : Inhabited E3:=⟨⟨⟨0,0,0⟩,rfl⟩⟩
def cf3 (x y:E3):Int:=x.1.a - y.1.a
def lt3 (x y:E3):Bool:=decide (cf3 x y<0)
theorem swo3 :SWO lt3 where
 irrefl x:=by unfold lt3 cf3;simp
 trans x y z h1 h2:=by unfold lt3 cf3 at*;simp at*;omega
 ntrans x y z h1 h2:=by unfold lt3 cf3 at*;simp at*;omega
def x3x :(l:List R3)→y2j l=true→List E3
 | [],_=>[]
 | r::l,h=>⟨r,by simp [y2j] at h;exact h.1⟩::x3x l (by simp [y2j] at h ⊢;exact h.2)
theorem y4q : ∀(l:List R3) (h:y2j l=true),(x3x l h).map Subtype.val=l
 | [],_=>rfl
 | r::l,h=>by rw [x3x,AU,y4q l]
theorem Ks (l:List R3) (h:y2j l=true):(x3x l h).length =l.length:=by
 have:=AP List.length (y4q l h)
 simpa using this
def z1y (l:List R3):List R3:=if h:y2j l=true then (pdq lt3 (x3x l h).toArray 0 l.length (Lib.bitLen l.length) true true).toList.map Subtype.val else l
theorem Qq (l:List R3) (h:y2j l=true):(z1y l).Perm l∧ ∀i j,i<j→j<(z1y l).length →(rd (z1y l) i).a ≤(rd (z1y l) j).a :=by
 have hp:=pdq_sorts lt3 swo3 (x3x l h).toArray 0 l.length (Lib.bitLen l.length) true true (AB _) (by simp [Ks]) (Or.inl rfl);obtain ⟨⟨h1,h2,h3⟩,h4⟩:=hp;have e:z1y l=(pdq lt3 (x3x l h).toArray 0 l.length (Lib.bitLen l.length) true true).toList.map Subtype.val:=by unfold z1y;rw [dif_pos h]
 generalize pdq lt3 (x3x l h).toArray 0 l.length (Lib.bitLen l.length) true true=d at*;have hs:d.size=l.length:=by rw [h1];simp [Ks]
 constructor
 ·rw [e];have x1:(d.extract 0 l.length).toList =d.toList:=by rw [←hs];simp
  have x2:((x3x l h).toArray.extract 0 l.length).toList =x3x l h:=by rw [show l.length=(x3x l h).toArray.size by simp [Ks]];simp
  rw [x1,x2] at h3;have:=h3.map Subtype.val;rw [y4q] at this;exact this
 ·intro i j hij hj;rw [e] at hj ⊢;have hj':j<d.size:=by simpa using hj
  have:=h4 i j (AB _) hij (by omega);rw [getElem!_pos d i (by omega),getElem!_pos d j hj'] at this;rw [Yo (by simp;omega),Yo hj];simp only [List.getElem_map,Array.getElem_toList];unfold lt3 cf3 at this;have:=of_decide_eq_false this;omega
open Go.RowKit Go.Shelf
variable {P:Program} {ρ:Rho}
def valOf :AVal→Value
 | .int k n=>.int k n
 | .bool b=>.bool b
 | _=>.tuple #[]
def w0w :AVal→Bool
 | .int _ _=>true
 | .bool _=>true
 | _=>false
theorem v1c {a:AVal} (h:w0w a=true):VRel ρ a (valOf a):=by
 cases a <;> first
  | exact .int _ _
  | exact .bool _
  | (simp [w0w] at h;done)
theorem v3v {a:AVal} {v:Value} (h:w0w a=true) (hv:VRel ρ a v):v=valOf a:=by
 cases hv <;> first
  | rfl
  | (simp [w0w] at h;done)
class j0d (α:Type) extends Xk α where
 num: ∀a:α,(cells a).all w0w=true
instance : j0d R2 where num _:=rfl
instance : j0d R3 where num _:=rfl
instance : j0d R4 where num _:=rfl
instance : j0d R6 where num _:=rfl
instance {α :Type} [Xk α]:Inhabited α:=⟨Xk.d⟩
section
variable {α:Type} [j0d α]
def w9q (a:α):List Value:=(Xk.cells a).map valOf
theorem w1u (a:α):(w9q a).length =Xk.w α:=by rw [w9q,BK,Xk.len]
theorem w5j (L:List α) (t:Nat) (h:t<L.length*Xk.w α):(flatK w9q (Xk.w α) L.toArray)[t]? =(Xk.cells (rd L (t / Xk.w α)))[t %Xk.w α]?.map valOf:=by
 have hw:=Xk.pos (α:=α);have hq:t / Xk.w α<L.length:=A5 (by grind);have hj:t %Xk.w α<Xk.w α:=Bj _ hw
 grind [flatK,w9q,Yo,Xk.len]
theorem v3h (L:List α) (N t:Nat) (h:t<N*Xk.w α):(Ym N (Zz L))[t]? =(Xk.cells (rd L (t / Xk.w α)))[t %Xk.w α]? :=by have hw:=Xk.pos (α:=α);have:=Ws (get:=Zz L) (sz:=Xk.w α) N (fun _ _=>Xk.len _) (t / Xk.w α) (t %Xk.w α) (A5 (by grind)) (Bj _ hw);rw [show t / Xk.w α*Xk.w α+t %Xk.w α=t by rw [Bs];exact Bk t _] at this;exact this
theorem z7w (L:List α) (N:Nat):(Ym N (Zz L)).length =N*Xk.w α:=Yp N fun _ _=>Xk.len _
theorem y6r (w:World) (n blk off:Nat) (d:Array Value) (os:Array Obj) (k:Nat) (hk:k<w.heap.size):
  (grow (putRow id (Go.Sort.ahead w n) blk off d) os).heap[k]? =if k=blk then (w.heap[k]?).map (onCells (putCells id off d)) else w.heap[k]? :=by
 show (((Go.Sort.ahead w n).heap.modify blk (onCells (putCells id off d)))++os)[k]? =_;rw [Array.getElem?_append_left (by simp_all),Array.getElem?_modify];show (if blk=k then _ else _)=_;by_cases h:k=blk
 ·simp_all
 ·rw [AD (fun e=>h e.symm),AD h];rfl
def w5k (α:Type) [Xk α] (srt:List α→List α) (bnd:List α→Bool) (g:FuncId) (args:List AVal) (mem:Mem):Option (AVal×Nat×ABlk×Bool):=match args with
 | [.sla b sz off n cap,.fn f []]=>bif Nat.beq f g then match Yh mem b with
  | some ⟨_,ty,some A⟩=>some (.tup [],b,⟨Ym A.n (Zz (srt (lst α n A.get))),ty,some ⟨Xk.w α,A.n,Zz (srt (lst α n A.get))⟩⟩,
    Nat.beq sz (Xk.w α)&&(Nat.beq A.sz (Xk.w α)&&(Nat.beq off 0&&((decide (n=A.n)&&(isT α n A.get&&decide (n<4611686018427387904)))&&bnd (lst α n A.get)))))
  | _=>none
  else none
 | _=>none
theorem v6z {f g:FuncId} {srt:List α→List α} {bnd:List α→Bool} (hsl: ∀L,(srt L).length =L.length)
  (hC: ∀(blk off cap:Nat) (L:List α) (w:World),bnd L=true→HoldsK w9q (Xk.w α) w blk off L.toArray→blk<w.heap.size→L.length<4611686018427387904→
   Calls P f #[.slice (some ⟨blk,off,none⟩) L.length cap,.func (.func g) #[] #[]] w fun e w'=>e=.returned (.tuple #[])∧ ∃n os,w'=sortWorldK w9q (Xk.w α) w blk off n (srt L).toArray os)
  (hN: ∀(p:Option Addr) (cap:Nat) (fv:Value) (w:World),Calls P f #[.slice p 0 cap,fv] w fun e w'=>e=.returned (.tuple #[])∧w'=w):x6x P f (w5k α srt bnd g):=by
 intro args mem v b blk h fW ρ next floor vals w hfl dW dT
 have hw0:=Xk.pos (α:=α);unfold w5k at h;split at h
 ·rename_i b0 sz off n cap f0;obtain ⟨hfg,h'⟩:=z0i h;clear h;obtain rfl:=Ai hfg;have h:=h';clear h';split at h
  ·rename_i cells ty A hm;obtain ⟨asz,an,get⟩:=A;simp only [Ab,Aa,Ad] at h;obtain ⟨rfl,rfl,rfl,h1,h2,h3,⟨h4,h5,h6⟩,h7⟩:=h;have g1:=Ai h1;have g2:=Ai h2;have g3:=Ai h3;have g4:n=an:=Aw h4;have h6:n<4611686018427387904:=Aw h6;have g2:asz=Xk.w α:=g2;subst g1;subst g2;subst g3;subst g4;have h7:bnd (lst α n get.get)=true:=h7;have eB:=w5a h5;have eB: ∀i,i<n→get.get i=Zz (lst α n get.get) i:=eB;have hrows:Ym n get.get=Ym n (Zz (lst α n get.get)):=y0a n eB;obtain ⟨u,hu,hvals⟩: ∃u,VRel ρ (.sla b0 (Xk.w α) 0 n cap) u∧vals= #[u,.func (.func f0) #[] #[]]:=by
    obtain ⟨vl⟩:=vals;cases dW with
    | cons q1 q2=>cases q2 with
     | cons q3 q4=>
      cases q4;cases q3 with
      | fn _ _ cvs hl _=>
       grind
   subst hvals;have hlt:b0<next:=by
    rcases A4 b0 next with q | q
    ·exact q
    ·have:=dT.bd b0 q;grind
   show Calls P f _ w _;have hAget:(Arr.get ⟨Xk.w α,n,get⟩)=get.get:=rfl;rw [hAget] at*;generalize hI:lst α n get.get=I at*;have hIl:I.length=n:=by rw [←hI];exact x0g _ _
   generalize hL:srt I=L;have hLl:L.length=n:=by grind
   have hnn:ρ b0=none→ ∀cs ty',Yh mem b0≠some ⟨cs,ty',none⟩:=fun _ cs ty' e=>by grind
   cases hu with
   | sla _ _ _ _ _ l cc e hc dU=>
    have hbk:=dT.blk b0 l _ e hm;obtain ⟨har,_,_⟩:=hbk.arr _ rfl;have har:cells=Ym n get.get:=har;rw [hrows] at har;subst har;obtain ⟨cur,el,hh,hsz,dY⟩:=hbk.cells;simp only [z7w] at dY;have htot:=hbk.tot;have hln:=hbk.n;simp only [z7w] at hln;have eZ: ∀t,t<n*Xk.w α→cur[l.base+t]? =(Xk.cells (rd I (t / Xk.w α)))[t %Xk.w α]?.map valOf:=fun t ht=>by
     obtain ⟨v,e1,e2⟩:=dY t ht;have hj:t %Xk.w α<Xk.w α:=Bj _ hw0;have hl2:t %Xk.w α<(Xk.cells (rd I (t / Xk.w α))).length :=by rw [Xk.len];exact hj
     have e3:=v3h I n t ht
     grind [v3v,j0d.num]
    have fF:=dT.real b0 l e;have hH:HoldsK w9q (Xk.w α) w l.blk (l.base+0*Xk.w α) I.toArray:=fun j hj=>by
     have hj:j<n*Xk.w α:=(by simp_all);have hs:j<(flatK w9q (Xk.w α) I.toArray).size :=(by grind);have e1:=w5j I j (by grind)
     grind [World.cell?,World.frozen?]
    have eF:=hC l.blk (l.base+0*Xk.w α) cc I w h7 hH fF (by omega);rw [hIl,hL] at eF;refine eF.mono fun e' w' ⟨he,q,os,hw'⟩=>⟨_,he,?_,?_,?_⟩
    ·exact .tup [] #[] rfl fun i h1 h2=>absurd h1 (AH _)
    ·subst hw';refine Rel.setArr ?_ ⟨Xk.w α,n,.flat (Zz L)⟩ rfl hw0 fun _ _=>Xk.len _;refine Rel.rewritten dT e hm (by simp only [z7w]) (fun k hk hne=> ?_) ?_ ?_
     ·exact (y6r _ _ _ _ _ _ _ hk).trans (AD hne)
     ·show _≤(((Go.Sort.ahead w q).heap.modify _ _)++os).size;simp_all
     ·refine ⟨putCells id (l.base+0*Xk.w α) (flatK w9q (Xk.w α) L.toArray) cur,el,?_,?_,fun i hi=> ?_⟩
      ·refine (y6r _ _ _ _ _ _ _ fF).trans ?_;rw [AI rfl,hh];rfl
      ·grind [putCells]
      ·rw [z7w] at hi;have hj:i %Xk.w α<Xk.w α:=Bj _ hw0;have hl2:i %Xk.w α<(Xk.cells (rd L (i / Xk.w α))).length :=by rw [Xk.len];exact hj
       have hl3:i %Xk.w α<(Xk.cells (rd I (i / Xk.w α))).length :=(by grind);have e1:=w5j L i (by grind);rw [Au hl2,Option.map_some] at e1;have hs:i<(flatK w9q (Xk.w α) L.toArray).size :=(by grind);rw [Bp hs] at e1;have e3:=v3h L n i hi;rw [Au (by grind),Au hl2] at e3;refine ⟨valOf (Xk.cells (rd L (i / Xk.w α)))[i %Xk.w α],?_,?_⟩
       ·simp_all [putCells]
       grind [v1c,j0d.num]
    ·subst hw';refine Ev.rewritten dT _ (fun l' _=>hfl) hnn (fun k hk hne=> ?_) ?_ rfl rfl rfl
     ·exact (y6r _ _ _ _ _ _ _ hk).trans (AD (hne l e))
     ·show _≤(((Go.Sort.ahead w q).heap.modify _ _)++os).size;simp_all
   | slan=>
    have hI0:I=[]:=List.eq_nil_of_length_eq_zero hIl;have hL0:L=[]:=List.eq_nil_of_length_eq_zero hLl;refine (hN none 0 _ w).mono fun e' w' ⟨he,hw'⟩=>⟨_,he,?_,?_,?_⟩
    ·exact .tup [] #[] rfl fun i h1 h2=>absurd h1 (AH _)
    ·subst hw';refine dT.reblk hm fun l hρ hbk=> ?_;obtain ⟨har,fO,_⟩:=hbk.arr _ rfl;have har:cells=Ym 0 get.get:=har;subst har;exact ⟨hbk.n,hbk.tot,fun B hB=>by obtain rfl:=Ag hB;exact ⟨rfl,hw0,fun i hi=>absurd hi (AH _)⟩,hbk.cells⟩
    grind [Ev.rewritten]
  ·cases h
 ·cases h
end
def Specs.withE (S:Specs) (f:FuncId) (F:List AVal→Mem→Option (AVal×Nat×ABlk×Bool)):Specs:=fun g=>bif Nat.beq g f then some (.eff F) else S g
theorem x1d {P:Program} {S:Specs} (hS:Zu P S) {f:FuncId} {F:List AVal→Mem→Option (AVal×Nat×ABlk×Bool)} (hf:(P.funcs[f]?).any (fun fn=>fn.body.isSome)=true) (hF:x6x P f F):Zu P (S.withE f F):=by
 intro g G hg;unfold Specs.withE at hg;cases hgf:Nat.beq g f with
 | false=>rw [hgf] at hg;exact hS g G hg
 | true=>
  rw [hgf] at hg;obtain rfl:Spec.eff F=G:=Ag hg;obtain rfl:g=f:=Ai hgf;refine ⟨?_,hF⟩
  grind
end Go.Am
end
