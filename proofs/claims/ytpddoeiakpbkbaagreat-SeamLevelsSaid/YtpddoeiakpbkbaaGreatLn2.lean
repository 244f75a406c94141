/- A part of a proof: several texts in one. -/
import Derived.Test.YtpddoeiakpbkbaaGreatLn1
import Derived.Sort.Grow
import Derived.Deep.Slices
import Derived.Deep.Fields
import Derived.ChangeSame
import Derived.OpenShut
import Derived.Test.YtpddoeiakpbkbaaGreatProg
import Derived.Sort.AssemblyPlain
import Derived.Lib.BitFns
import Derived.Shelf.GgSortFunc.InsertionK
import Derived.Shelf.Sort.Plain
import Derived.Ground.Names2Prog
import Derived.Shelf.Slices.CompactI
import Derived.Shelf.Slices.SearchI
import Derived.Shelf.Slices.Cells
import Derived.Shelf.Slices.In.SortNone
import Derived.Shelf.SlSortCmp.WholeK
import Derived.Ground.SlsfProg
set_option maxRecDepth 1000000
set_option maxHeartbeats 8000000
set_option linter.unusedVariables false
set_option linter.unusedSimpArgs false
noncomputable section
namespace Go.Am
open IntKind (wrap)
structure z9a where
 keep:List Nat
 frz:List Nat
 slots:List (Option (List Nat))
 lslots:List (Option (List Nat)):=[]
def y5p (b:Nat):List Nat→Nat→Option Nat
 | [],_=>none
 | x::l,i=>bif Nat.beq x b then some i else y5p b l (i+1)
def hasN (b:Nat):List Nat→Bool
 | []=>false
 | x::l=>bif Nat.beq x b then true else hasN b l
def z5m (cells:List AVal) (off sz:Nat):Nat→List AVal:=fun k=>(cells.drop (off+k*sz)).take sz
def frzV (P:Program) (blk:ABlk):AVal→AVal
 | .ptr _ o=>.dptr (blk.cells.drop o)
 | .sl _ off len _=>match P.info? blk.ty with
  | some i=>bif Nat.ble (off+len*i.size) blk.cells.length then .dat len (z5m blk.cells off i.size) else .undef
  | none=>.undef
 | .sla _ sz off len _=>match blk.arr with
  | some A=>bif Nat.beq A.sz sz&&Nat.ble (off+len) A.n then .dat len (fun k=>A.get (off+k)) else .undef
  | none=>.undef
 | _=>.undef
def renB (P:Program) (mem:Mem) (N:z9a) (b:Nat) (v:AVal) (f:Nat→AVal):AVal:=
 match y5p b N.keep 0 with
 | some b'=>f b'
 | none=>bif hasN b N.frz then match Yf mem b with
   | some blk=>frzV P blk v
   | none=>.undef
  else .undef
def ren (P:Program) (mem:Mem) (N:z9a):Nat→AVal→AVal
 | 0,_=>.undef
 | d+1,v=>match v with
  | .ptr b o=>renB P mem N b (.ptr b o) fun b'=>.ptr b' o
  | .sl b off len cap=>renB P mem N b (.sl b off len cap) fun b'=>.sl b' off len cap
  | .sla b sz off len cap=>renB P mem N b (.sla b sz off len cap) fun b'=>.sla b' sz off len cap
  | .epa b sz i fo=>renB P mem N b (.epa b sz i fo) fun b'=>.epa b' sz i fo
  | .yld j=>match y5p j N.keep 0 with
   | some j'=>.yld j'
   | none=>.undef
  | .slv b sz off len=>match y5p b N.keep 0 with
   | some b'=>.slv b' sz off len
   | none=>.undef
  | .agg cs=>.agg (cs.map (ren P mem N d))
  | .tup cs=>.tup (cs.map (ren P mem N d))
  | .fn f cs=>.fn f (cs.map (ren P mem N d))
  | .fnb f cs=>.fnb f (cs.map (ren P mem N d))
  | .ifc t v=>.ifc t (ren P mem N d v)
  | v=>v
def T.map (f:AVal→AVal) (t:T AVal):T AVal:=
 T.rec (motive:=fun _=>T AVal) .leaf (fun v _ _ l r=>.node (f v) l r) t
def y5m (f:AVal→AVal) (env:T AVal):List Nat→T AVal
 | []=>.leaf
 | t::l=>T.set .undef (y5m f env l) t (f (T.get .undef env t))
def u6i (f:AVal→AVal) (env:T AVal):Option (List Nat)→T AVal
 | none=>T.map f env
 | some l=>y5m f env l
def z7u (f:AVal→AVal):Rws→Rws
 | .flat g=>.flat g
 | .one r cs b=>.one r (cs.map f) (z7u f b)
 | .alt c a b=>.alt c (z7u f a) (z7u f b)
def y8s (P:Program) (mem:Mem) (N:z9a):ABlk→ABlk
 | ⟨cells,ty,none⟩=>⟨cells.map (ren P mem N 6),ty,none⟩
 | ⟨_,ty,some A⟩=>⟨Yk A.n (z7u (ren P mem N 6) A.rw).get,ty,some ⟨A.sz,A.n,z7u (ren P mem N 6) A.rw⟩⟩
def y9n :Rws→Bool
 | .flat g=>pd (∀i,(g i).all (pf 6)=true)
 | .one _ _ b=>y9n b
 | .alt _ a b=>y9n a&&y9n b
def u1u (blk:ABlk):Bool:=match blk.arr with
 | none=>true
 | some A=>y9n A.rw
def z8e (P:Program) (mem:Mem) (N:z9a):List Nat→Nat→Mem×Bool
 | [],_=>(.leaf,true)
 | b::l,i=>match z8e P mem N l (i+1) with
  | (m,o)=>match Yf mem b with
   | none=>(m,o)
   | some blk=>(Wz m i (some (y8s P mem N blk)),u1u blk&&o)
def z8g (mem:Mem):List Nat→Bool
 | []=>true
 | b::l=>match Yf mem b with
  | none=>z8g mem l
  | some blk=>(match blk.arr with
   | none=>blk.cells.all (pf 6)
   | some A=>pd (∀i,(A.get i).all (pf 6)=true))&&z8g mem l
def x9s (f:AVal→AVal) (lps:Loops):List Nat→Nat→List (Option (List Nat))→Loops
 | [],_,_=>.leaf
 | b::l,i,sl=>match y3h lps b with
  | none=>x9s f lps l (i+1) sl.tail
  | some ⟨st,pend,n,env,params,assign,body⟩=>v0e (x9s f lps l (i+1) sl.tail) i (some ⟨st,pend,n,u6i f env (sl.headD none),params,assign,body⟩)
def z9o (keep:List Nat):Item→Option Item
 | .inRangeFunc j=>(y5p j keep 0).map .inRangeFunc
 | .endRangeFunc j=>(y5p j keep 0).map .endRangeFunc
 | x=>bif z0o x then some x else none
def z5b (keep:List Nat):List Item→Option (List Item)
 | []=>some []
 | x::l=>match z9o keep x,z5b keep l with
  | some y,some m=>some (y::m)
  | _,_=>none
def x3t (keep:List Nat):Option Nat→Option (Option Nat)
 | none=>some none
 | some j=>(y5p j keep 0).map some
def w7o (f:AVal→AVal) (keep:List Nat):List AFr→List (Option (List Nat))→Option (List AFr)
 | [],_=>some []
 | ⟨cx,ro,todo,rnd,rs,env⟩::cs,sl=>match z5b keep todo,x3t keep rnd,w7o f keep cs sl.tail with
  | some todo',some rnd',some cs'=>some (⟨cx,ro,todo',rnd',rs,u6i f env (sl.headD none)⟩::cs')
  | _,_,_=>none
def disj :List Nat→List Nat→Bool
 | [],_=>true
 | b::l,frz=> !hasN b frz&&(!hasN b l&&disj l frz)
def u0q (P:Program) (N:z9a):Cfg→Option Cfg
 | ⟨cx,ro,todo,rnd,rs,⟨env,mem,next,orc,ob⟩,cs,lps⟩=>
  match z5b N.keep todo,x3t N.keep rnd,w7o (ren P mem N 6) N.keep cs N.slots.tail with
  | some todo',some rnd',some cs'=>
   bif disj N.keep N.frz then
    match z8e P mem N N.keep 0 with
    | (mem',o)=>some ⟨cx,ro,todo',rnd',rs,⟨u6i (ren P mem N 6) env (N.slots.headD none),mem',N.keep.length,[],o&&(z8g mem N.frz&&ob)⟩,cs',x9s (ren P mem N 6) lps N.keep 0 N.lslots⟩
   else none
  | _,_,_=>none
def atP :Code→List Nat→List Item→Code×List Item
 | c,[],k=>(c,k)
 | .seq a b,0::p,k=>atP a p (.code b::k)
 | .seq _ b,_::p,k=>atP b p k
 | .block id c,_::p,k=>atP c p (.inBlock id::k)
 | .loop c,_::p,k=>atP c p (.inLoop c::k)
 | .scope c,_::p,k=>atP c p (.inScope c::k)
 | .cond _ a _,0::p,k=>atP a p k
 | .cond _ _ b,_::p,k=>atP b p k
 | .rangeFunc _ _ a b,0::p,_=>atP a p [.beginRound,.code b]
 | .rangeFunc _ _ _ b,_::p,_=>atP b p []
 | c,_::_,k=>(c,k)
def Zc (P:Program) (f:FuncId) (p:List Nat) (j:Nat):List Item:=match atP (u8h P f) p [] with
 | (c,k)=>(.code c::k).drop j
def Wc (P:Program) (f:FuncId) (p:List Nat):Code:=(atP (u8h P f) p []).1
def Vk (P:Program) (f:FuncId) (p:List Nat) (i:Nat):Option RegOps:=match Wc P f p with
 | .region _ ops _=>some (ops,i,ops.toList.drop i)
 | _=>none
def u1i (P:Program) (S:Specs) (Rc:Runner) (n:Nat):Cfg→Option Cfg:=
 Nat.rec (motive:=fun _=>Cfg→Option Cfg) (fun C=>some C) (fun _ R C=>match w5s P S Rc C with
  | some C'=>R C'
  | none=>none) n
section
variable {P:Program}
theorem Ut {p:Prop} (h:pd p=true):p:= @Av p (Classical.propDecidable p) h
theorem Yi {p:Prop} (h:p):pd p=true:= @Al p (Classical.propDecidable p) h
theorem y9m {b:Nat}: ∀{l:List Nat} {i j:Nat},y5p b l i=some j→i≤j∧l[j - i]? =some b
 | [],i,j,h=>by cases h
 | x::l,i,j,h=>by
  unfold y5p at h;rcases Jv h with ⟨hx,h⟩ | ⟨_,h⟩
  ·simp_all
  ·obtain ⟨h1,h2⟩:=y9m h
   grind
theorem y3m {b:Nat}: ∀{l:List Nat},hasN b l=true↔b∈l
 | []=>by simp [hasN]
 | x::l=>by
  unfold hasN;cases hx:Nat.beq x b with
  | true=>simp [Aj hx]
  | false=>
   have:x≠b:=fun e=>by rw [e,Nat.beq_refl] at hx;cases hx
   rw [Aa,y3m,AM];exact ⟨.inr,fun h=>h.resolve_left fun e=>this e.symm⟩
theorem y6a : ∀{l frz:List Nat},disj l frz=true→l.Nodup∧ ∀b∈l,b ∉ frz
 | [],_,_=>⟨List.nodup_nil,fun b hb=>by cases hb⟩
 | x::l,frz,h=>by
  unfold disj at h;simp only [Ac,Bf] at h;obtain ⟨h1,h2,h3⟩:=h;obtain ⟨i1,i2⟩:=y6a h3;have n1:x ∉ frz:=fun hm=>by rw [y3m.2 hm] at h1;cases h1
  have n2:x ∉ l:=fun hm=>by rw [y3m.2 hm] at h2;cases h2
  exact ⟨List.nodup_cons.2 ⟨n2,i1⟩,fun b hb=>by
   rcases AM.1 hb with rfl | hb
   ·exact n1
   ·exact i2 b hb⟩
def Fz (ρ:Rho) (mem:Mem) (N:z9a) (k:Nat):Prop:= ∃b l,b∈N.frz∧ρ b=some l∧(Yf mem b).isSome =true∧l.blk=k
def y4m (ρ:Rho) (mem:Mem) (N:z9a) (w:World):Rho:=
 ⟨fun b'=>(N.keep[b']?).bind fun b=>ρ b,fun k=> @ite _ (Fz ρ mem N k) (Classical.propDecidable _) (w.heap[k]?) (ρ.fz k),fun j'=>(N.keep[j']?).bind fun j=>ρ.lp j⟩
theorem z4y {ρ:Rho} {mem:Mem} {next:Nat} {w:World} (h:Rel ρ mem next w) (N:z9a) {k:Nat} {o:Obj} (e:ρ.fz k=some o):(y4m ρ mem N w).fz k=some o:=by
 show @ite _ (Fz ρ mem N k) (Classical.propDecidable _) (w.heap[k]?) (ρ.fz k)=some o;by_cases hf:Fz ρ mem N k
 ·obtain ⟨b,l,_,hb,hm,rfl⟩:=hf;have:=h.sep b l hb hm
  grind
 grind
theorem x8e {ρ:Rho} {mem:Mem} {w:World} {N:z9a} {b:Nat} {l:Loc} (hb:b∈N.frz) (hl:ρ b=some l) (hm:(Yf mem b).isSome =true):(y4m ρ mem N w).fz l.blk=w.heap[l.blk]? :=
 AK ⟨b,l,hb,hl,hm,rfl⟩
theorem z4b {ρ:Rho} {mem:Mem} {next:Nat} {w:World} (h:Rel ρ mem next w) (N:z9a):ρ.bare.le (y4m ρ mem N w).bare :=⟨fun _ _ e=>(by cases e),fun _ _ e=>z4y h N e,fun _ _ e=>(by cases e)⟩
theorem Kq {ρ:Rho} {mem:Mem} {w:World} {N:z9a} {b b':Nat} (h:y5p b N.keep 0=some b'):(y4m ρ mem N w) b'=ρ b∧(y4m ρ mem N w).lp b'=ρ.lp b:=by
 obtain ⟨_,h2⟩:=y9m h;rw [Nat.sub_zero] at h2;constructor
 ·show (N.keep[b']?).bind _=_;rw [h2];rfl
 ·show (N.keep[b']?).bind _=_;rw [h2];rfl
theorem z9x {mem:Mem}: ∀{frz:List Nat},z8g mem frz=true→ ∀b∈frz,∀blk,Yf mem b=some blk→(match blk.arr with | none=>blk.cells.all (pf 6)=true | some A=> ∀i,(A.get i).all (pf 6)=true)
 | [],_,b,hb,_,_=>by cases hb
 | x::l,h,b,hb,blk,hm=>by
  unfold z8g at h;rcases AM.1 hb with rfl | hb
  ·rw [hm] at h;simp only [Ac] at h;cases hA:blk.arr with
   | none=>have:=h.1;rw [hA] at this;exact this
   | some A=>have:=h.1;rw [hA] at this;exact Ut this
  ·cases hx:Yf mem x with
   | none=>rw [hx] at h;exact z9x h b hb blk hm
   | some blk'=>rw [hx] at h;simp only [Ac] at h;exact z9x h.2 b hb blk hm
theorem y5s {mem:Mem} {next:Nat} {w:World} {ρ:Rho} (h:Rel ρ mem next w) {N:z9a} (ho:z8g mem N.frz=true) {b:Nat} (hb:b∈N.frz) {blk:ABlk} (hm:Yf mem b=some blk) {l:Loc} (hl:ρ b=some l):
  ∃val:Nat→Value,∀(i:Nat) (hi:i<blk.cells.length),Zt (y4m ρ mem N w).bare blk.cells[i] (val i)∧x5y (y4m ρ mem N w).fz l.blk (l.base+i) (val i):=by
 obtain ⟨hn,ht,har,cs,el,h1,h2,h3⟩:=h.blk b l blk hl hm;refine ⟨fun i=>(cs[l.base+i]?).getD undef,fun i hi=> ?_⟩;obtain ⟨v,e1,e2⟩:=h3 i hi;have hpf:pf 6 blk.cells[i]=true:=by
  have:=z9x ho b hb blk hm;cases hA:blk.arr with
  | none=>grind
  | some A=>
   rw [hA] at this;obtain ⟨q1,_,_⟩:=har A hA;have hmem:blk.cells[i]∈Yk A.n A.get:=by grind
   grind [Yk]
 dsimp only;rw [e1];refine ⟨(Jq 6 _ _ hpf e2).mono (z4b h N),cs,el,(0,0),?_,e1⟩
 grind [x8e]
theorem w8o {mem:Mem} {next:Nat} {w:World} {ρ:Rho} (h:Rel ρ mem next w) {N:z9a} (ho:z8g mem N.frz=true) {b:Nat} (hb:b∈N.frz) {blk:ABlk} (hm:Yf mem b=some blk) {v:AVal} {u:Value} (hv:Zt ρ v u)
  (hvb:(∃o,v=.ptr b o)∨(∃off len cap,v=.sl b off len cap)∨(∃sz off len cap,v=.sla b sz off len cap)∨ ∃sz i fo,v=.epa b sz i fo):Zt (y4m ρ mem N w) (frzV P blk v) u:=by
 rcases hvb with ⟨o,rfl⟩ | ⟨off,len,cap,rfl⟩ | ⟨sz,off,len,cap,rfl⟩ | ⟨sz,i,fo,rfl⟩
 ·cases hv with
  | ptr _ _ l hl=>
   obtain ⟨val,dY⟩:=y5s h ho hb hm hl;refine .dptr _ _ _ (fun j=>val (o+j)) (fun j hj=> ?_) (fun j hj=> ?_);all_goals grind
 ·simp only [frzV];split
  ·rename_i i hi;cases hc:Nat.ble (off+len*i.size) blk.cells.length with
   | false=>exact .undef _
   | true=>
    rw [Ab];have hle:=Ak hc;cases hv with
    | sl _ _ _ _ l c hl _ dG=>
     obtain ⟨val,dY⟩:=y5s h ho hb hm hl;have hin: ∀k,k<len→k*i.size+i.size≤len*i.size:=fun k hk=>by
      have:=AC i.size (show k+1≤len from hk)
      grind
     refine .dat len _ l.blk (l.base+off) i.size c (fun k j=>val (off+(k*i.size+j))) dG (fun k hk=> ?_) (fun k j hk hj=> ?_) (fun k j hk hj=> ?_);all_goals grind [z5m]
  ·exact .undef _
 ·simp only [frzV];split
  ·rename_i A hA;cases hc:(Nat.beq A.sz sz&&Nat.ble (off+len) A.n) with
   | false=>exact .undef _
   | true=>
    rw [Ab];simp only [Ac] at hc;obtain rfl:=Aj hc.1;have hle:=Ak hc.2;cases hv with
    | slan=>exact .datn _
    | sla _ _ _ _ _ l c hl _ dG=>
     obtain ⟨val,dY⟩:=y5s h ho hb hm hl;obtain ⟨q1,q2,q3⟩:=(h.blk b l blk hl hm).arr A hA;have eX:=Ym A.n q3;have hrow: ∀k j,k<len→j<A.sz→ ∃hi:(off+k)*A.sz+j<blk.cells.length,blk.cells[(off+k)*A.sz+j]? =(A.get (off+k))[j]? :=fun k j hk hj=>by
      grind [Wi]
     refine .dat len _ l.blk (l.base+off*A.sz) A.sz c (fun k j=>val ((off+k)*A.sz+j)) dG (fun k hk=>q3 _ (by omega)) (fun k j hk hj=> ?_) (fun k j hk hj=> ?_);all_goals grind
  ·exact .undef _
 ·exact .undef _
theorem z1s {mem:Mem} {next:Nat} {w:World} {ρ:Rho} (h:Rel ρ mem next w) {N:z9a} (ho:z8g mem N.frz=true) {b:Nat} {v:AVal} {u:Value} {f:Nat→AVal} (hv:Zt ρ v u)
  (hvb:(∃o,v=.ptr b o)∨(∃off len cap,v=.sl b off len cap)∨(∃sz off len cap,v=.sla b sz off len cap)∨ ∃sz i fo,v=.epa b sz i fo)
  (hf: ∀b',y5p b N.keep 0=some b'→Zt (y4m ρ mem N w) (f b') u):Zt (y4m ρ mem N w) (renB P mem N b v f) u:=by
 unfold renB;split
 ·grind
 ·cases hc:hasN b N.frz with
  | false=>exact .undef _
  | true=>
   rw [Ab];split
   ·grind [w8o,y3m]
   ·exact .undef _
theorem z4f {mem:Mem} {next:Nat} {w:World} {ρ:Rho} (h:Rel ρ mem next w) {N:z9a} (ho:z8g mem N.frz=true): ∀(d:Nat) (v:AVal) (u:Value),Zt ρ v u→Zt (y4m ρ mem N w) (ren P mem N d v) u
 | 0,_,_,_=>.undef _
 | d+1,v,u,hv=>by
  have ih:=fun v u=>z4f h ho (N:=N) d v u;have list: ∀{cs:List AVal} {vs:Array Value},cs.length=vs.size→(∀(i:Nat) (h1:i<cs.length) (h2:i<vs.size),Zt ρ cs[i] vs[i])→
    (cs.map (ren P mem N d)).length =vs.size∧ ∀(i:Nat) (h1:i<(cs.map (ren P mem N d)).length) (h2:i<vs.size),Zt (y4m ρ mem N w) (cs.map (ren P mem N d))[i] vs[i]:=fun hl hh=>
   ⟨by simpa using hl,fun i h1 h2=>by simpa using ih _ _ (hh i (by simpa using h1) h2)⟩
  unfold ren;cases hv with
  | undef=>exact .undef _
  | bool b=>exact .bool b
  | int k n=>exact .int k n
  | str s=>exact .str s
  | agg cs vs hl hh=>exact .agg _ _ (list hl hh).1 (list hl hh).2
  | tup cs vs hl hh=>exact .tup _ _ (list hl hh).1 (list hl hh).2
  | fn f cs vs hl hh=>exact .fn f _ _ (list hl hh).1 (list hl hh).2
  | fnb f cs vs hl hh=>exact .fnb f _ _ (list hl hh).1 (list hl hh).2
  | ptr b o l hl=>exact z1s h ho (.ptr b o l hl) (.inl ⟨o,rfl⟩) fun b' hb'=>.ptr b' o l (by rw [(Kq hb').1];exact hl)
  | nilp=>exact .nilp
  | sl b off len cap l c hl hc dG=>exact z1s h ho (.sl b off len cap l c hl hc dG) (.inr (.inl ⟨off,len,cap,rfl⟩)) fun b' hb'=>.sl b' off len cap l c (by rw [(Kq hb').1];exact hl) hc dG
  | nils=>exact .nils
  | sla b sz off len cap l c hl hc dG=>exact z1s h ho (.sla b sz off len cap l c hl hc dG) (.inr (.inr (.inl ⟨sz,off,len,cap,rfl⟩))) fun b' hb'=>.sla b' sz off len cap l c (by rw [(Kq hb').1];exact hl) hc dG
  | slan b sz off cap=>exact z1s h ho (.slan b sz off cap) (.inr (.inr (.inl ⟨sz,off,0,cap,rfl⟩))) fun b' hb'=>.slan b' sz off cap
  | epa b sz i fo l hl=>exact z1s h ho (.epa b sz i fo l hl) (.inr (.inr (.inr ⟨sz,i,fo,rfl⟩))) fun b' hb'=>.epa b' sz i fo l (by rw [(Kq hb').1];exact hl)
  | nilf=>exact .nilf
  | yld j l hl=>
   simp only;split
   ·rename_i j' hj';exact .yld j' l (by rw [(Kq hj').2];exact hl)
   ·exact .undef _
  | slv b sz off len l c hl dG=>
   simp only;split
   ·rename_i j' hj';exact .slv j' sz off len l c (by rw [(Kq hj').1];exact hl) dG
   ·exact .undef _
  | slve b sz off blk base c=>
   simp only;split
   ·exact .slve _ sz off blk base c
   ·exact .undef _
  | slvn b sz off=>
   simp only;split
   ·exact .slvn _ sz off
   ·exact .undef _
  | ifc t a v hv=>exact .ifc t _ _ (ih _ _ hv)
  | nili=>exact .nili
  | dat len get blk base sz cap val dM hsz hv hh=>refine .dat len get blk base sz cap val dM hsz (fun i j hi hj=>(hv i j hi hj).mono (z4b h N)) (fun i j hi hj=> ?_);obtain ⟨cs,el,fz,e1,e2⟩:=hh i j hi hj;exact ⟨cs,el,fz,z4y h N e1,e2⟩
  | datn get=>exact .datn get
  | datz get a c=>exact .datz get a c
  | nnl len get a c hd=>exact .nnl len get a c ((Jq 1 _ _ rfl hd).mono (Rho.le_trans (z4b h N) (y6j _)))
  | dptr cs blk base val hv hh=>refine .dptr cs blk base val (fun j hj=>(hv j hj).mono (z4b h N)) (fun j hj=> ?_);obtain ⟨cs',el,fz,e1,e2⟩:=hh j hj;exact ⟨cs',el,fz,z4y h N e1,e2⟩
theorem T.get_map {f:AVal→AVal} (hf:f .undef =.undef): ∀(t:T AVal) (i:Nat),T.get .undef (T.map f t) i=f (T.get .undef t i)
 | .leaf,i=>hf.symm
 | .node v l r,0=>rfl
 | .node v l r,i+1=>by
  show T.get .undef (.node (f v) (T.map f l) (T.map f r)) (i+1)=_;rw [T.get_succ,T.get_succ];split
  ·exact T.get_map hf l _
  ·exact T.get_map hf r _
theorem z9t {f:AVal→AVal} (env:T AVal): ∀(L:List Nat) (t:Nat),T.get .undef (y5m f env L) t=if t∈L then f (T.get .undef env t) else .undef
 | [],t=>by simp [y5m]
 | x::L,t=>by
  unfold y5m;rw [T.get_set,z9t env L t];by_cases h:t=x
  ·subst h;simp
  ·simp [h]
theorem w3m {mem:Mem} {next:Nat} {w:World} {ρ:Rho} (h:Rel ρ mem next w) {N:z9a} (ho:z8g mem N.frz=true) {env:T AVal} {n:Nat} {tmps:Array Value} (he:Wu ρ env n tmps): ∀(L:Option (List Nat)),Wu (y4m ρ mem N w) (u6i (ren P mem N 6) env L) n tmps
 | none=>by
  refine ⟨he.size,fun i=> ?_,fun i hi=> ?_⟩
  ·show Zt _ (T.get .undef (T.map (ren P mem N 6) env) i) _;rw [T.get_map rfl];exact z4f h ho 6 _ _ (he.get i)
  ·show T.get .undef (T.map (ren P mem N 6) env) i=_;rw [T.get_map rfl,he.out i hi];rfl
 | some L=>by
  refine ⟨he.size,fun i=> ?_,fun i hi=> ?_⟩
  ·show Zt _ (T.get .undef (y5m (ren P mem N 6) env L) i) _;rw [z9t];split
   ·exact z4f h ho 6 _ _ (he.get i)
   ·exact .undef _
  ·show T.get .undef (y5m (ren P mem N 6) env L) i=_;rw [z9t,he.out i hi];split <;> rfl
theorem x4q {mem:Mem} {N:z9a}: ∀(l:List Nat) (i j:Nat),Yf (z8e P mem N l i).1 j=if i≤j then (l[j - i]?).bind fun b=>(Yf mem b).map (y8s P mem N) else none
 | [],i,j=>by simp [z8e,Yf]
 | b::l,i,j=>by
  unfold z8e;have ih:=x4q (mem:=mem) (N:=N) l (i+1);have tail:i<j→(b::l)[j - i]? =l[j - (i+1)]? :=fun h=>by rw [show j - i=(j - (i+1))+1 by omega];rfl
  cases hm:Yf mem b with
  | none=>
   show Yf (z8e P mem N l (i+1)).1 j=_;rw [ih];rcases Bm i j with h | h | h
   ·rw [AK (by omega),AK (by omega),tail h]
   ·subst h;rw [AF (by omega),AK (by omega)];simp [hm]
   ·rw [AF (by omega),AF (by omega)]
  | some blk=>
   show Yf (Wz (z8e P mem N l (i+1)).1 i (some (y8s P mem N blk))) j=_;rw [Vm,ih];rcases Bm i j with h | h | h
   ·rw [AF (by omega),AK (by omega),AK (by omega),tail h]
   ·subst h;rw [AK rfl,AK (by omega)];simp [hm]
   ·rw [AF (by omega),AF (by omega),AF (by omega)]
theorem z9s {mem:Mem} {N:z9a}: ∀(l:List Nat) (i:Nat),(z8e P mem N l i).2=true→ ∀b∈l,∀blk,Yf mem b=some blk→u1u blk=true
 | [],i,_,b,hb,_,_=>by cases hb
 | x::l,i,h,b,hb,blk,hm=>by
  unfold z8e at h;cases hx:Yf mem x with
  | none=>
   rw [hx] at h;rcases AM.1 hb with rfl | hb
   ·rw [hx] at hm;cases hm
   ·exact z9s l (i+1) h b hb blk hm
  | some blk'=>
   rw [hx] at h;have h:(u1u blk'&&(z8e P mem N l (i+1)).2)=true:=h;simp only [Ac] at h;rcases AM.1 hb with rfl | hb
   ·rw [hx] at hm;obtain rfl:=Ag hm;exact h.1
   ·exact z9s l (i+1) h.2 b hb blk hm
theorem z4j {f:AVal→AVal} {lps:Loops}: ∀(l:List Nat) (i:Nat) (sl:List (Option (List Nat))) (j:Nat) (L:ALoop),y3h (x9s f lps l i sl) j=some L→i≤j∧ ∃b L0 x,l[j - i]? =some b∧y3h lps b=some L0∧L=⟨L0.st,L0.pend,L0.n,u6i f L0.env x,L0.params,L0.assign,L0.body⟩
 | [],i,sl,j,L,h=>by cases h
 | b::l,i,sl,j,L,h=>by
  unfold x9s at h;split at h
  ·obtain ⟨h1,b',L0,x,h2,h3,h4⟩:=z4j l (i+1) _ j L h
   grind
  ·rename_i st pend n env params assign body hb;rw [show y3h (v0e (x9s f lps l (i+1) sl.tail) i (some ⟨st,pend,n,u6i f env (sl.headD none),params,assign,body⟩)) j=if j=i then some ⟨st,pend,n,u6i f env (sl.headD none),params,assign,body⟩ else y3h (x9s f lps l (i+1) sl.tail) j from T.get_set none _ i _ j] at h;by_cases hj:j=i
   ·subst hj;rw [AK rfl] at h;obtain rfl:=Ag h;exact ⟨Aq _,b,_,_,by simp,hb,rfl⟩
   ·rw [AF hj] at h;obtain ⟨h1,b',L0,x,h2,h3,h4⟩:=z4j l (i+1) _ j L h
    grind
theorem x8n {mem:Mem} {w:World} {ρ:Rho} {N:z9a} {x x' y:Item} (h:z9o N.keep x=some x') (hx:w5g ρ x y):w5g (y4m ρ mem N w) x' y:=by
 cases hx with
 | inR j l e=>simp only [z9o,An] at h;obtain ⟨j',hj,rfl⟩:=h;exact .inR j' l (by rw [(Kq hj).2];exact e)
 | endR j l e=>simp only [z9o,An] at h;obtain ⟨j',hj,rfl⟩:=h;exact .endR j' l (by rw [(Kq hj).2];exact e)
 | same x hp=>
  have:z9o N.keep x=some x:=by
   unfold z9o;split
   ·cases hp
   ·cases hp
   grind
  rw [this] at h;obtain rfl:=Ag h;exact .same _ hp
theorem y0u {mem:Mem} {w:World} {ρ:Rho} {N:z9a}: ∀{l l' m:List Item},z5b N.keep l=some l'→y6z ρ l m→y6z (y4m ρ mem N w) l' m
 | [],l',m,h,ht=>by cases ht;obtain rfl:=Ag h;exact .nil
 | x::l,l',m,h,ht=>by
  cases ht with
  | cons hx ht=>
   unfold z5b at h;split at h
   ·rename_i y k hy hk;obtain rfl:=Ag h;exact .cons (x8n hy hx) (y0u hk ht)
   ·cases h
theorem w3l {mem:Mem} {next:Nat} {w:World} {ρ:Rho} (h:Rel ρ mem next w) {N:z9a} (ho:z8g mem N.frz=true) {cx:Ctx} {ro:Option RegOps} {todo todo':List Item} {rnd rnd':Option Nat} {env:T AVal} {b:Frame} {a:Act} {k:List Item} {ms:List Nat} (ht:z5b N.keep todo=some todo') (hr:x3t N.keep rnd=some rnd')
  (hf:v0h ρ cx ro todo rnd env b a k ms) (L:Option (List Nat)):v0h (y4m ρ mem N w) cx ro todo' rnd' (u6i (ren P mem N 6) env L) b a k ms∧(rnd'=none→rnd=none):=by
 refine ⟨⟨w3m h ho hf.env L,hf.defers,y0u ht hf.todo,hf.ro,?_⟩,fun e=> ?_⟩
 ·have hrn:=hf.rnd;cases rnd with
  | none=>obtain rfl:=Ag hr;exact hrn
  | some j=>simp only [x3t,An] at hr;obtain ⟨j',hj,rfl⟩:=hr;obtain ⟨h0,l,h1,h2⟩:=hrn;exact ⟨h0,l,by rw [(Kq hj).2];exact h1,h2⟩
 ·cases rnd with
  | none=>rfl
  | some j=>simp_all [x3t]
theorem x3u {mem:Mem} {next:Nat} {w:World} {ρ:Rho} (h:Rel ρ mem next w) {N:z9a} (ho:z8g mem N.frz=true): ∀{cs cs':List AFr} {sl:List (Option (List Nat))} {css:List Frame} {mss:List Nat},w7o (ren P mem N 6) N.keep cs sl=some cs'→v0i P ρ cs css mss→v0i P (y4m ρ mem N w) cs' css mss∧(cs'≠ []→cs≠ [])
 | [],cs',sl,css,mss,hc,hr=>by cases hr;obtain rfl:=Ag hc;exact ⟨.nil,id⟩
 | af::cs,cs',sl,css,mss,hc,hr=>by
  cases hr with
  | cons hf hl ht=>
   unfold w7o at hc;split at hc
   ·rename_i todo' rnd' cs'' h1 h2 h3;obtain rfl:=Ag hc;obtain ⟨i1,i2⟩:=x3u h ho h3 ht;obtain ⟨f1,f2⟩:=w3l (P:=P) h ho h1 h2 hf (sl.headD none);exact ⟨.cons f1 (fun hne=>⟨(hl (i2 hne)).1,fun e=>(hl (i2 hne)).2 (f2 e)⟩) i1,fun _=>by simp⟩
   ·cases hc
def RowTo (ρ ρ':Rho) (L L':List AVal):Prop:=L'.length=L.length∧ ∀(j:Nat) (h1:j<L.length) (h2:j<L'.length) (v:Value),Zt ρ L[j] v→Zt ρ' L'[j] v
theorem z7t {mem:Mem} {next:Nat} {w:World} {ρ:Rho} (h:Rel ρ mem next w) {N:z9a} (ho:z8g mem N.frz=true): ∀(rw1:Rws),y9n rw1=true→ ∀k,RowTo ρ (y4m ρ mem N w) (rw1.get k) ((z7u (ren P mem N 6) rw1).get k)
 | .flat g,hf,k=>by refine ⟨rfl,fun j h1 h2 v hv=> ?_⟩;have eK: ∀i,(g i).all (pf 6)=true:=Ut hf;exact ((Jq 6 _ _ (Ar.1 (eK k) _ (AY h1)) hv).mono (z4b h N)).mono (y6j _)
 | .one r cs b,hf,k=>by
  have ih:=z7t h ho (N:=N) b hf k;have hc:RowTo ρ (y4m ρ mem N w) cs (cs.map (ren P mem N 6)):=⟨by simp,fun j h1 h2 v hv=>by simpa using z4f h ho 6 _ _ hv⟩
  simp only [z7u,Rws.get];cases Nat.beq k r with
  | true=>exact hc
  | false=>exact ih
 | .alt c a b,hf,k=>by
  simp only [y9n,Ac] at hf;have iha:=z7t h ho (N:=N) a hf.1 k;have ihb:=z7t h ho (N:=N) b hf.2 k;simp only [z7u,Rws.get];cases c k with
  | true=>exact iha
  | false=>exact ihb
theorem w7n {mem:Mem} {next:Nat} {w:World} {ρ:Rho} (h:Rel ρ mem next w) {N:z9a} (ho:z8g mem N.frz=true) (hd:disj N.keep N.frz=true) (hfl:(z8e P mem N N.keep 0).2=true):Rel (y4m ρ mem N w) (z8e P mem N N.keep 0).1 N.keep.length w:=by
 obtain ⟨hnd,hdj⟩:=y6a hd;have get: ∀j,Yf (z8e P mem N N.keep 0).1 j=(N.keep[j]?).bind fun b=>(Yf mem b).map (y8s P mem N):=fun j=>by
  grind [x4q]
 have blk: ∀{b' l},(y4m ρ mem N w) b'=some l→ ∃b,N.keep[b']? =some b∧ρ b=some l:=fun {b' l} e=>by
  have e:(N.keep[b']?).bind (fun b=>ρ b)=some l:=e
  grind
 have live: ∀{b' b},N.keep[b']? =some b→(Yf (z8e P mem N N.keep 0).1 b').isSome =true→(Yf mem b).isSome =true:=fun {b' b} e hs=>by
  grind
 refine ⟨fun b' l e=> ?_,fun b' b'' l l' e e' hbl hs hs'=> ?_,fun b' l ab e hm=> ?_,fun k o e=> ?_,fun b' l e hs=> ?_,fun b' l e=> ?_,fun b' hb=> ?_,fun j l e=> ?_⟩
 ·grind
 ·obtain ⟨b,e1,e2⟩:=blk e;obtain ⟨c,e3,e4⟩:=blk e';have:=h.inj b c l l' e2 e4 hbl (live e1 hs) (live e3 hs');subst this;exact (List.getElem?_inj (Bd.1 e1).1 hnd).1 (e1.trans e3.symm)
 ·obtain ⟨b,e1,e2⟩:=blk e;rw [get,e1] at hm;simp only [Option.bind_some,An] at hm;obtain ⟨ab0,hm0,rfl⟩:=hm;obtain ⟨hn,ht,har,cs,el,g1,g2,g3⟩:=h.blk b l ab0 e2 hm0;obtain ⟨cells,ty,arr⟩:=ab0;cases arr with
  | none=>
   refine ⟨by simpa [y8s] using hn,ht,(fun A hA=>by cases hA),cs,el,g1,g2,fun i hi=> ?_⟩
   grind [y8s,z4f]
  | some A=>
   obtain ⟨a1,a2,a3⟩:=har A rfl;simp only at a1;have hfb:u1u ⟨cells,ty,some A⟩=true:=z9s N.keep 0 hfl b (List.mem_of_getElem? e1) _ hm0;have hrow:=z7t (P:=P) h ho (N:=N) A.rw hfb;have hl': ∀i,i<A.n→((z7u (ren P mem N 6) A.rw).get i).length =A.sz:=fun i hi=>by rw [(hrow i).1];exact a3 i hi
   have k1:=Ym A.n a3;have k2:=Ym A.n hl';refine ⟨by show l.n=(Yk A.n _).length;grind,ht,(fun B hB=>by obtain rfl:=Ag hB;exact ⟨rfl,a2,hl'⟩),cs,el,g1,g2,fun i hi=> ?_⟩;have hi':i<A.n*A.sz:=by rw [←k2];exact hi
   have hj:i %A.sz<A.sz:=Bk _ a2;have hq:i / A.sz<A.n:=A9 (by grind);have e:i / A.sz*A.sz+i %A.sz=i:=by rw [Bv];exact Bn i A.sz
   have hic:i<cells.length:=by grind
   have r1:=Wi A.n a3 (i / A.sz) (i %A.sz) hq hj;have r2:=Wi A.n hl' (i / A.sz) (i %A.sz) hq hj;rw [e] at r1 r2;have hi2:i<(Yk A.n (z7u (ren P mem N 6) A.rw).get).length :=hi;have j1:i %A.sz<(A.rw.get (i / A.sz)).length :=by rw [show A.rw.get=A.get from rfl,a3 _ hq];exact hj
   have j2:i %A.sz<((z7u (ren P mem N 6) A.rw).get (i / A.sz)).length :=by grind
   obtain ⟨v,q1,q2⟩:=g3 i hic;have s1:cells[i]=(A.rw.get (i / A.sz))[i %A.sz]:=by
    have:cells[i]? =some (A.rw.get (i / A.sz))[i %A.sz]:=by rw [a1,r1,show A.get=A.rw.get from rfl,Au j1]
    grind
   have s2:(Yk A.n (z7u (ren P mem N 6) A.rw).get)[i]'hi2=((z7u (ren P mem N 6) A.rw).get (i / A.sz))[i %A.sz]:=by
    grind
   refine ⟨v,q1,?_⟩;show Zt _ ((Yk A.n (z7u (ren P mem N 6) A.rw).get)[i]'hi2) v;rw [s2];refine (hrow _).2 _ j1 j2 v ?_
   grind
 ·have e: @ite _ (Fz ρ mem N k) (Classical.propDecidable _) (w.heap[k]?) (ρ.fz k)=some o:=e;by_cases hf:Fz ρ mem N k
  ·grind
  ·rw [AF hf] at e;exact h.old k o e
 ·obtain ⟨b,e1,e2⟩:=blk e;have hs0:=live e1 hs;have hnf: ¬Fz ρ mem N l.blk:=fun ⟨c,l',c1,c2,c3,c4⟩=>by
   have:=h.inj c b l' l c2 e2 c4 c3 hs0
   grind
  show @ite _ (Fz ρ mem N l.blk) (Classical.propDecidable _) (w.heap[l.blk]?) (ρ.fz l.blk)=none;rw [AF hnf];exact h.sep b l e2 hs0
 ·obtain ⟨b,_,e2⟩:=blk e;exact h.real b l e2
 ·grind
 ·have e:(N.keep[j]?).bind (fun b=>ρ.lp b)=some l:=e
  grind
theorem renEv {H:Old} {mem:Mem} {next:Nat} {w0 w:World} {ρ:Rho} (h:Rel ρ mem next w) {N:z9a} (he:Ev (z1k H) ρ 0 .leaf 0 mem next w0 w) (mem':Mem) (next':Nat):Ev (z1k H) (y4m ρ mem N w) 0 .leaf 0 mem' next' w0 w:=
 ⟨⟨fun b l e=>(by cases e),fun k o e=>z4y h N (he.ext.2.1 k o e),fun j l e=>(by cases e)⟩,fun b hb=>absurd hb (AJ _),AA _,fun b hb=>absurd hb (AJ _),he.frame,fun b l _ e=>by
   have e:(N.keep[b]?).bind (fun b=>ρ b)=some l:=e;rw [Option.bind_eq_some_iff] at e;obtain ⟨c,_,e2⟩:=e;exact he.fresh c l (AA _) e2,he.size,he.os,he.tape,he.output,fun k hk=>by
   have hnf: ¬Fz ρ mem N k:=fun ⟨b,l,_,e2,_,e4⟩=>by
    rcases he.fresh b l (AA _) e2 with h1 | ⟨b0,l0,e0,_⟩
    ·omega
    ·cases e0
   show @ite _ (Fz ρ mem N k) (Classical.propDecidable _) (w.heap[k]?) (ρ.fz k)=_;rw [AF hnf];exact he.still k hk⟩
def y1r (P:Program) (C C':Cfg):Prop:=
 ∀(H:Old) (w0:World) (ρ:Rho) (b:Frame) (a:Act) (k:List Item) (css:List Frame) (w:World) (ma mb:List Nat),j6s P w0.heap.size C ρ b a k css w ma mb→Ev (z1k H) ρ 0 .leaf 0 C.st.mem C.st.next w0 w→ ∀cs0:List Frame,
  ∃ρ' b' a' k' css' w' ma' mb',Steps P (lone (b.atR a (Wf C.ro k)) (css++cs0) w) (lone (b'.atR a' (Wf C'.ro k')) (css'++cs0) w')∧j6s P w0.heap.size C' ρ' b' a' k' css' w' ma' mb'∧Ev (z1k H) ρ' 0 .leaf 0 C'.st.mem C'.st.next w0 w'∧w1m b' css'=w1m b css∧w.heap.size≤w'.heap.size
theorem y1r.refl (C:Cfg):y1r P C C:=fun H w0 ρ b a k css w ma mb hs he cs0=>⟨ρ,b,a,k,css,w,ma,mb,Steps.refl _ _,hs,he,rfl,Aq _⟩
theorem y1r.trans {A B C:Cfg} (h:y1r P A B) (k:y1r P B C):y1r P A C:=by intro H w0 ρ b a t css w ma mb hs he cs0;obtain ⟨ρ1,b1,a1,t1,css1,w1,ma1,mb1,s1,r1,e1,q1,z1⟩:=h H w0 ρ b a t css w ma mb hs he cs0;obtain ⟨ρ2,b2,a2,t2,css2,w2,ma2,mb2,s2,r2,e2,q2,z2⟩:=k H w0 ρ1 b1 a1 t1 css1 w1 ma1 mb1 r1 e1 cs0;exact ⟨ρ2,b2,a2,t2,css2,w2,ma2,mb2,s1.trans s2,r2,e2,q2.trans q1,AE z1 z2⟩
theorem y0m.goes {C C':Cfg} (h:y0m P 0 C C'):y1r P C C':=fun H w0 ρ b a k css w ma mb hs he cs0=>h .leaf 0 (z1k H) w0 ρ b a k css w ma mb hs he cs0
def fl0 (C:Cfg):Bool:=Nat.beq C.cx.floor 0&&C.cs.all fun af=>Nat.beq af.cx.floor 0
theorem u1v {C:Cfg} (h:fl0 C=true):Fl 0 C:=by unfold fl0 at h;simp only [Ac] at h;exact ⟨Aj h.1,fun af haf=>Aj (Ar.1 h.2 af haf),AA _⟩
theorem y4r {f:AVal→AVal} {keep:List Nat} {fl:Nat}: ∀{cs cs':List AFr} {sl:List (Option (List Nat))},w7o f keep cs sl=some cs'→(∀af∈cs,af.cx.floor=fl)→ ∀af∈cs',af.cx.floor=fl
 | [],cs',sl,h,_,af,haf=>by obtain rfl:=Ag h;cases haf
 | a0::cs,cs',sl,h,hcs,af,haf=>by
  unfold w7o at h;split at h
  ·rename_i t1 r1 c1 g1 g2 g3;obtain rfl:=Ag h;rcases AM.1 haf with rfl | haf
   ·grind
   ·exact y4r g3 (fun x hx=>hcs x (List.mem_cons_of_mem _ hx)) af haf
  ·cases h
theorem w7w {N:z9a} {C C':Cfg} (h:u0q P N C=some C') (ho:C'.st.ob=true):C.st.ob=true∧y1r P C C'∧(Fl 0 C→Fl 0 C'):=by
 obtain ⟨cx,ro,todo,rnd,rs,⟨env,mem,next,orc,ob⟩,cs,lps⟩:=C;simp only [u0q] at h;split at h
 ·rename_i todo' rnd' cs' h1 h2 h3;obtain ⟨hd,h⟩:=Yz h;obtain rfl:=Ag h;simp only [Ac] at ho;obtain ⟨hkm,ho2,ho3⟩:=ho;refine ⟨ho3,fun H w0 ρ b a k css w ma mb hs he cs0=> ?_,fun hfl=>⟨hfl.cx,fun af haf=> ?_,AA _⟩⟩
  ·have dF:=hs.rel;simp only at dF he;obtain ⟨f1,f2⟩:=w3l (P:=P) dF ho2 h1 h2 hs.top (N.slots.headD none);obtain ⟨c1,c2⟩:=x3u (P:=P) dF ho2 h3 hs.rest.cs;refine ⟨y4m ρ mem N w,b,a,k,css,w,ma,mb,Steps.refl _ _,⟨f1,fun hne=>⟨(hs.lv (c2 hne)).1,fun e=>(hs.lv (c2 hne)).2 (f2 e)⟩,⟨c1,hs.rest.nodup,fun r hr=> ?_,fun j L hL=> ?_,fun j j' L L' l hL hL' e e'=> ?_⟩,?_⟩,renEv dF he _ _,rfl,Aq _⟩
   ·obtain ⟨q1,⟨q2,q3,q4⟩,q5⟩:=hs.rest.marks r hr;refine ⟨q1,⟨q2,?_,fun b' l e=> ?_⟩,q5⟩
    ·show @ite _ (Fz ρ mem N r) (Classical.propDecidable _) (w.heap[r]?) (ρ.fz r)=none;rw [AF fun ⟨c,l,_,e2,_,e4⟩=>q4 c l e2 e4];exact q3
    ·have e:(N.keep[b']?).bind (fun b=>ρ b)=some l:=e
     grind
   ·obtain ⟨_,c,L0,x,e1,e2,rfl⟩:=z4j N.keep 0 _ j L hL;rw [Nat.sub_zero] at e1;obtain ⟨l,q1,q2,⟨q3,q4,q5⟩,tm,fn',d,q6,q7⟩:=hs.rest.loops c L0 e2;refine ⟨l,?_,q2,⟨q3,?_,fun b' l' e=> ?_⟩,tm,fn',d,q6,w3m (P:=P) dF ho2 q7 x⟩
    ·show (N.keep[j]?).bind (fun b=>ρ.lp b)=some l
     grind
    ·show @ite _ (Fz ρ mem N l) (Classical.propDecidable _) (w.heap[l]?) (ρ.fz l)=none;rw [AF fun ⟨c,l,_,e2,_,e4⟩=>q5 c l e2 e4];exact q4
    ·have e:(N.keep[b']?).bind (fun b=>ρ b)=some l':=e
     grind
   ·obtain ⟨_,c,L0,x,e1,e2,rfl⟩:=z4j N.keep 0 _ j L hL;obtain ⟨_,c',L0',x',e1',e2',rfl⟩:=z4j N.keep 0 _ j' L' hL';rw [Nat.sub_zero] at e1 e1';have e:(N.keep[j]?).bind (fun b=>ρ.lp b)=some l:=e;have e':(N.keep[j']?).bind (fun b=>ρ.lp b)=some l:=e';rw [e1] at e;rw [e1'] at e';have:=hs.rest.inj c c' L0 L0' l e2 e2' e e';subst this;exact (List.getElem?_inj (Bd.1 e1).1 (y6a hd).1).1 (e1.trans e1'.symm)
   ·exact w7n dF ho2 hd hkm
  ·exact y4r h3 hfl.cs af haf
 ·cases h
theorem x4s {S:Specs} {Rc:Runner} (hN:z8w P) (hmx:P.follows .mixedOrders =true) (hS:Zv P S) (hCI:w5f Rc) (hC:ROk P Rc) {fl:Nat}: ∀(n:Nat) (C C':Cfg),Fl fl C→u1i P S Rc n C=some C'→Fl fl C'∧Xc fl C.st C'.st∧(C'.st.ob=true→y0m P fl C C')
 | 0,C,C',hfl,h=>by
  obtain rfl:=Ag h
  grind [Xc.refl,y0m.refl]
 | n+1,C,C',hfl,h=>by
  have h:(match w5s P S Rc C with
   | some C'=>u1i P S Rc n C'
   | none=>none)=some C':=h
  split at h
  ·rename_i C1 h1;have s1:=x3c hN hmx hS hCI hC hfl h1;obtain ⟨f1,f4,f5⟩:=x4s hN hmx hS hCI hC n C1 C' s1.fls h;exact ⟨f1,s1.inv.trans f4,fun ho=>(s1.leads (f4.ob ho)).trans (f5 ho)⟩
  ·cases h
def Zg (P:Program) (f:FuncId) (args:List AVal) (sym:Bool) (orc:List Bool):Cfg:=
 match P.funcs[f]? with
 | some fn=>⟨⟨Nat.max fn.ntmps args.length,0,sym⟩,none,[.code (fn.body.getD .ret)],none,fn.results.toList,⟨z9y args 0 .leaf,.leaf,0,orc,true⟩,[],.leaf⟩
 | none=>⟨⟨0,0,sym⟩,none,[],none,[],⟨.leaf,.leaf,0,[],true⟩,[],.leaf⟩
theorem goes_call {f:FuncId} {args:List AVal} {sym:Bool} {orc:List Bool} {C':Cfg} {vs:List AVal} {H:Old} (hf:(P.funcs[f]?).any (fun fn=>fn.body.isSome)=true) (h:y1r P (Zg P f args sym orc) C') (hfin:z5t C'=true) (hob:(Kg P C'.st (Zg P f args sym orc).rs)=some vs)
  {vals:Array Value} {w:World} (dI:Vz (Zt (z1k H)) args vals.toList) (hH: ∀k o,H k=some o→w.heap[k]? =some o):
  Calls P f vals w fun e w'=> ∃ρ u,e=.returned u∧Out H w ρ (Un vs) u w':=by
 cases hfn:P.funcs[f]? with
 | none=>grind
 | some fn=>
  rw [hfn] at hf;have hf:fn.body.isSome=true:=hf;obtain ⟨body,hb⟩:=Option.isSome_iff_exists.1 hf;have hstart:Zg P f args sym orc=⟨⟨Nat.max fn.ntmps args.length,0,sym⟩,none,[.code body],none,fn.results.toList,⟨z9y args 0 .leaf,.leaf,0,orc,true⟩,[],.leaf⟩:=by unfold Zg;grind
  rw [hstart] at h hob;simp only at hob;intro cs;obtain ⟨ρ',b',a',k',css',w',ma',mb',s1,r1,v1,q1,_⟩:=h H w (z1k H) ⟨f, #[],[],[],.run,.normal,none⟩ {tmps:=vals++Array.replicate (fn.ntmps - vals.size) undef,defers:=[]} [.code body] [] w [] []
   ⟨⟨y5v dI fn.ntmps,rfl,.cons (.same _ rfl) .nil,trivial,rfl⟩,fun h=>absurd rfl h,y8r _ _ _,x3v hH⟩ (Ev.refl _ _ _ _ _ (x3v hH).dom) cs
  obtain ⟨e1,e2,e3,e4⟩:=y5u hfin;have hcs:=r1.rest.cs;rw [e3] at hcs;cases hcs;obtain ⟨w2,s2,henv',dX,fC,_,_⟩:=y5y r1 e1 e2 e4 rfl v1 cs;obtain ⟨u,hu,fG⟩:=z2o (fn:=fn) henv' dX hob;have q:(b'.fn,b'.kind,b'.roundOf)=(f,CallKind.normal,none):=q1;simp only [Ad] at q;have hen:Frame.enter P f vals .normal =Frame.atR ⟨f, #[],[],[],.run,.normal,none⟩ {tmps:=vals++Array.replicate (fn.ntmps - vals.size) undef,defers:=[]} (Wf none [.code body]):=by
   grind [Frame.enter,Frame.atR,Wf]
  refine ⟨.returned u,w2,{b'.atR {a' with defers:=[]} k' with mode:=.returning},⟨ρ',u,rfl,out_of hu dX fC⟩,?_,q.1,rfl,rfl,q.2.1,fn,by show P.funcs[b'.fn]? =_;grind,fG⟩;rw [hen];exact s1.trans s2
end
def Wn :List ABlk→Nat→Mem
 | [],_=>.leaf
 | b::l,i=>Wz (Wn l (i+1)) i (some b)
def y9l (c:Nat→Int):Nat→List AVal:=fun i=>[.int .i64 (c i)]
def Cfg.withO :Cfg→List Bool→Cfg
 | ⟨cx,ro,todo,rnd,rs,⟨env,mem,next,_,_⟩,cs,lps⟩,o=>⟨cx,ro,todo,rnd,rs,⟨env,mem,next,o,true⟩,cs,lps⟩
def Cfg.withB :Cfg→Bool→Cfg
 | ⟨cx,ro,todo,rnd,rs,⟨env,mem,next,_,_⟩,cs,lps⟩,b=>⟨cx,ro,todo,rnd,rs,⟨env,mem,next,[],b⟩,cs,lps⟩
inductive Xx (σ:Type) where
 | stuck
 | ret (vs:List AVal)
 | to (s:σ)
def Uz (P:Program) (rs:List ResultVar) (C:Cfg) (vs:List AVal):Prop:= ∃C',y1r P C C'∧z5t C'=true∧Kg P C'.st rs=some vs
def Xy (P:Program) (rs:List ResultVar) {σ:Type} (cfg:σ→Cfg) (C:Cfg):Xx σ→Prop
 | .stuck =>True
 | .ret vs=>Uz P rs C vs
 | .to s=>y1r P C (cfg s)
section
variable {P:Program} {rs:List ResultVar} {σ:Type} {cfg:σ→Cfg} {C:Cfg}
theorem w4l {c:Bool} {a b:Xx σ} (ha:c=true→Xy P rs cfg C a) (hb:c=false→Xy P rs cfg C b):Xy P rs cfg C (bif c then a else b):=by grind
theorem u1g {c:Bool} {a:Xx σ} (ha:c=true→Xy P rs cfg C a):Xy P rs cfg C (bif c then a else .stuck):=w4l ha fun _=>trivial
theorem Kp {vs:List AVal} (C':Cfg) (h:y1r P C C') (hf:z5t C'=true) (hr:Kg P C'.st rs=some vs):Xy P rs cfg C (.ret vs):=⟨C',h,hf,hr⟩
end
def Zr {σ:Type} (step:σ→Xx σ):Nat→Xx σ→Xx σ
 | 0,o=>o
 | n+1,.to s=>Zr step n (step s)
 | _+1,o=>o
theorem Zd {P:Program} {rs:List ResultVar} {σ:Type} {cfg:σ→Cfg} {step:σ→Xx σ} (eD: ∀s,Xy P rs cfg (cfg s) (step s)) {C:Cfg}: ∀(n:Nat) (o:Xx σ),Xy P rs cfg C o→Xy P rs cfg C (Zr step n o)
 | 0,o,h=>h
 | n+1,.stuck,h=>h
 | n+1,.ret vs,h=>h
 | n+1,.to s,h=>Zd eD n (step s) (match step s,eD s with
  | .stuck,_=>trivial
  | .ret vs,⟨C',g,hf,hr⟩=>⟨C',y1r.trans h g,hf,hr⟩
  | .to s',g=>y1r.trans h g)
theorem Zq {σ:Type} (step:σ→Xx σ) (n:Nat) (vs:List AVal):Zr step n (.ret vs)=.ret vs:=by cases n <;> rfl
theorem Zw {σ:Type} (step:σ→Xx σ) (n:Nat) (s:σ):Zr step (n+1) (.to s)=Zr step n (step s):=rfl
theorem y4y {a b:Bool} (ha:a=true) (hb:b=true):(a&&b)=true:=by grind
theorem v3s {a b:Bool} (h:a=b):(a == b)=true:=by grind
def Specs.with (S:Specs) (f:FuncId) (F:List AVal→Option (AVal×Bool)):Specs:=fun g=>bif Nat.beq g f then some (.val F) else S g
theorem y3z {P:Program} {f:FuncId} {args:List AVal} {sym:Bool} {orc:List Bool}:(Zg P f args sym orc).rs =Zy P f:=by
 grind [Zg,Zy]
theorem v0k {P:Program} {S:Specs} (hS:Zv P S) {f:FuncId} {F:List AVal→Option (AVal×Bool)} (hf:(P.funcs[f]?).any (fun fn=>fn.body.isSome)=true)
  (hF: ∀args v,F args=some (v,true)→ ∃vs,Un vs=v∧Uz P (Zy P f) (Zg P f args true []) vs∧ ∃d,pf d v=true):Zv P (S.with f F):=by
 intro g G hg;unfold Specs.with at hg;cases hgf:Nat.beq g f with
 | false=>rw [hgf] at hg;exact hS g G hg
 | true=>
  rw [hgf] at hg;obtain rfl:Spec.val F=G:=Ag hg;obtain rfl:g=f:=Aj hgf;refine ⟨?_,fun args v hv H vals w dI hH=> ?_⟩
  ·grind
  ·obtain ⟨vs,rfl,⟨C',g1,g2,g3⟩,d,hp⟩:=hF args v hv;exact (goes_call hf g1 g2 (by rw [y3z];exact g3) dI hH).mono fun e w' ⟨ρ,u,he,ho⟩=>⟨ρ.fz,u,ho.le,ho.old,ho.same,he,Jq d _ u hp ho.val,ho.below⟩
def cOf (get:Nat→List AVal) (i:Nat):Int:=match get i with
 | .int _ n::_=>n
 | _=>0
def isI (get:Nat→List AVal):Bool:=pd (get=y9l (cOf get))
theorem w4p {get:Nat→List AVal} (h:isI get=true): ∃c,get=y9l c:=⟨_,Ut h⟩
theorem u0u (x:Int):(x != x)=false:=by simp
theorem u2e (x:Int):(x == x)=true:=by simp
theorem v3x (x:Int):(!(x != x))=true:=by simp
theorem v4a (x:Int):(!(x == x))=false:=by simp
theorem w64 (n:Int):IntKind.i64.wrap n=(n+9223372036854775808) %18446744073709551616 - 9223372036854775808:=by rw [IntKind.wrap_i64]
theorem w_in {n:Int} (h: -9223372036854775808≤n) (h':n≤9223372036854775807):IntKind.i64.wrap n=n:=by simp only [w64];omega
theorem x1t (x y:Int):Kx x y=min x y:=by unfold Kx;grind
theorem x1u (x y:Int):Kw x y=max x y:=by unfold Kw;grind
inductive VLe :AVal→AVal→Prop
 | refl (v:AVal):VLe v v
 | undef (v:AVal):VLe v .undef
 | nils (b sz off:Nat) (cap:v0c):VLe .nils (.sla b sz off 0 cap)
 | sl (b sz q len:Nat) (cap:v0c):VLe (.sl b (q*sz) len cap) (.sla b sz q len cap)
 | nild (g:Nat→List AVal):VLe .nils (.dat 0 g)
 | dat (n:Nat) (g g':Nat→List AVal) (h: ∀i,i<n→g i=g' i):VLe (.dat n g) (.dat n g')
 | dptr (cs cs':List AVal) (hl:cs.length=cs'.length) (h: ∀(ρ:Rho) (i:Nat) (h1:i<cs.length) (h2:i<cs'.length) (v:Value),Zt ρ cs[i] v→Zt ρ cs'[i] v):VLe (.dptr cs) (.dptr cs')
theorem VLe.sound {ρ:Rho} {a a':AVal} {v:Value} (h:VLe a a') (hv:Zt ρ a v):Zt ρ a' v:=by
 cases h with
 | refl=>exact hv
 | undef=>exact .undef _
 | nils b sz off cap=>cases hv;exact .slan b sz off cap
 | sl b sz q len cap=>cases hv with | sl _ _ _ _ l c h hc dG=>exact .sla b sz q len cap l c h hc dG
 | nild g=>cases hv;exact .datn _
 | dptr cs cs' hl h=>cases hv with
  | dptr _ blk base val q1 q2=>exact .dptr cs' blk base val (fun j hj=>h _ j (by omega) hj _ (q1 j (by omega))) fun j hj=>q2 j (by omega)
 | dat n g g' hg=>
  cases hv with
  | datn=>exact .datn _
  | datz=>exact .datz _ _ _
  | dat _ _ blk base sz cap val dM hsz hv hh=>
   refine .dat n g' blk base sz cap val dM (fun i hi=>by grind) (fun i j hi hj=> ?_) hh
   grind
theorem VLe.of_undef {a:AVal} (h:VLe .undef a):a=.undef :=by cases h <;> rfl
inductive RLe :List AVal→List AVal→Prop
 | nil:RLe [] []
 | cons {a b:AVal} {l m:List AVal} (h:VLe a b) (t:RLe l m):RLe (a::l) (b::m)
theorem RLe.refl : ∀l:List AVal,RLe l l
 | []=>.nil
 | a::l=>.cons (.refl a) (RLe.refl l)
theorem RLe.len {l m:List AVal} (h:RLe l m):l.length=m.length:=by
 induction h with
 | nil=>rfl
 | cons _ _ ih=>simp [ih]
theorem RLe.get {l m:List AVal} (h:RLe l m): ∀(i:Nat) (h1:i<l.length) (h2:i<m.length),VLe l[i] m[i]:=by
 induction h with
 | nil=>grind
 | cons h _ ih=>
  grind
inductive BLe :Option ABlk→Option ABlk→Prop
 | refl (b:Option ABlk):BLe b b
 | drop (b:Option ABlk):BLe b none
 | rowed (cells:List AVal) (ty:TypeId) (a:Option Arr) (sz n:Nat) (g:Nat→List AVal) (hc:cells=Yk n g) (h1:1≤sz) (hl: ∀i,i<n→(g i).length =sz):BLe (some ⟨cells,ty,a⟩) (some ⟨Yk n g,ty,some ⟨sz,n,g⟩⟩)
 | rws (ty:TypeId) (sz n:Nat) (a a':Rws) (h: ∀k,k<n→RLe (a.get k) (a'.get k)):BLe (some ⟨Yk n a.get,ty,some ⟨sz,n,a⟩⟩) (some ⟨Yk n a'.get,ty,some ⟨sz,n,a'⟩⟩)
theorem BLe.sound {ρ:Rho} {w:World} {a a':ABlk} {l:Loc} (h:BLe (some a) (some a')) (hb:Us ρ w a l):Us ρ w a' l:=by
 cases h with
 | refl=>exact hb
 | rowed cells ty a sz n g hc h1 hl=>subst hc;refine ⟨hb.n,hb.tot,fun A hA=> ?_,hb.cells⟩;obtain rfl:=Ag hA;exact ⟨rfl,h1,hl⟩
 | rws ty sz n a a' h=>
  obtain ⟨_,h1,hl⟩:=hb.arr _ rfl;have h1:1≤sz:=h1;have hl: ∀k,k<n→(a.get k).length =sz:=hl;have hl': ∀k,k<n→(a'.get k).length =sz:=fun k hk=>by rw [←(h k hk).len];exact hl k hk
  have k1:=Ym n hl;have k2:=Ym n hl';obtain ⟨cs,el,g1,g2,g3⟩:=hb.cells;refine ⟨by rw [hb.n];show (Yk n a.get).length =(Yk n a'.get).length;rw [k1,k2],hb.tot,fun A hA=> ?_,cs,el,g1,g2,fun i hi=> ?_⟩
  ·obtain rfl:=Ag hA;exact ⟨rfl,h1,hl'⟩
  ·have hi2:i<(Yk n a'.get).length :=hi;have hi':i<n*sz:=by rw [←k2];exact hi
   have hj:i %sz<sz:=Bk _ h1;have hq:i / sz<n:=A9 (by rw [Bv];exact hi');have e:i / sz*sz+i %sz=i:=by rw [Bv];exact Bn i sz
   have hic:i<(Yk n a.get).length :=by rw [k1];exact hi'
   have r1:=Wi n hl (i / sz) (i %sz) hq hj;have r2:=Wi n hl' (i / sz) (i %sz) hq hj;rw [e] at r1 r2;have j1:i %sz<(a.get (i / sz)).length :=by rw [hl _ hq];exact hj
   have j2:i %sz<(a'.get (i / sz)).length :=by rw [hl' _ hq];exact hj
   obtain ⟨v,q1,q2⟩:=g3 i hic;have q2:Zt ρ ((Yk n a.get)[i]'hic) v:=q2;refine ⟨v,q1,?_⟩;show Zt ρ ((Yk n a'.get)[i]'hi2) v;rw [Au hic,Au j1] at r1;rw [Au hi2,Au j2] at r2;rw [Ag r1] at q2;rw [Ag r2];exact ((h _ hq).get _ j1 j2).sound q2
theorem z9i {g h:Nat→List AVal}: ∀(n:Nat),(∀i,i<n→g i=h i)→Yk n g=Yk n h
 | 0,_=>rfl
 | n+1,e=>by rw [z7l,z7l,z9i n fun i hi=>e i (by omega),e n (by omega)]
def z5l (l:List Int):Nat→Int:=fun k=>l.getD k 0
def z1o (asz sz off len n:Nat) (get:Nat→List AVal):AVal:=bif Nat.beq asz sz&&Nat.ble (off+len) n then .dat len (fun k=>get (off+k)) else .undef
theorem w0i (sz n:Nat) (g:Nat→List AVal):z1o sz sz 0 n n g=.dat n g:=by
 unfold z1o;rw [show (Nat.beq sz sz&&Nat.ble (0+n) n)=true by simp_all,Ab]
 grind
def z0q (g:Nat→List AVal):Bool:=pd (∀i,(g i).all (pf 6)=true)
theorem u2t {p:AVal→Bool} {l:List AVal} (h:l.all p=true) (n:Nat):(l.take n).all p=true:=
 by grind
theorem u2u {p:AVal→Bool} {l:List AVal} (h:l.all p=true) (n:Nat):(l.drop n).all p=true:=
 by grind
theorem v5g {g:Nat→List AVal} {off len sz:Nat} {new:List AVal} (h:z0q g=true) (hn:new.all (pf 6)=true):z0q (Zh g off len sz new)=true:=Yi fun i=>by
 unfold Zh;cases Nat.ble len i with
 | true=>grind
 | false=>exact Ut h _
theorem v5d {g:Nat→List AVal} {r fo:Nat} {cs:List AVal} (h:z0q g=true) (hn:cs.all (pf 6)=true):z0q (Yt g r fo cs)=true:=Yi fun i=>by
 unfold Yt;cases Nat.beq i r with
 | true=>rw [Ab,List.all_append,List.all_append,u2t (Ut h r),hn,u2u (Ut h r)];rfl
 | false=>exact Ut h _
theorem w5i {P:Program} {S:Specs} (hS:Zv P S) {f:FuncId} {F:List AVal→Option (AVal×Bool)} (hf:(P.funcs[f]?).any (fun fn=>fn.body.isSome)=true)
  (hF: ∀args v,F args=some (v,true)→ ∃vs,(∀(ρ:Rho) (u:Value),Zt ρ (Un vs) u→Zt ρ v u)∧Uz P (Zy P f) (Zg P f args true []) vs∧ ∃d,pf d (Un vs)=true):Zv P (S.with f F):=by
 intro g G hg;unfold Specs.with at hg;cases hgf:Nat.beq g f with
 | false=>rw [hgf] at hg;exact hS g G hg
 | true=>
  rw [hgf] at hg;obtain rfl:Spec.val F=G:=Ag hg;obtain rfl:g=f:=Aj hgf;refine ⟨?_,fun args v hv H vals w dI hH=> ?_⟩
  ·grind
  ·obtain ⟨vs,hw,⟨C',g1,g2,g3⟩,d,hp⟩:=hF args v hv;exact (goes_call hf g1 g2 (by rw [y3z];exact g3) dI hH).mono fun e w' ⟨ρ,u,he,ho⟩=>⟨ρ.fz,u,ho.le,ho.old,ho.same,he,hw _ _ (Jq d _ u hp ho.val),ho.below⟩
theorem w8s :z0q (fun _=>[])=true:=Yi fun _=>rfl
theorem w0p (s t:Nat):z0q (fun k=>(([]:List AVal).drop (k*s)).take t)=true:=Yi fun i=>by simp
theorem y5t {g:Nat→List AVal} {o:Nat} (h:z0q g=true):z0q (fun k=>g (o+k))=true:=Yi fun i=>Ut h (o+i)
theorem v5f {g h:Nat→List AVal} {len:Nat} (p:z0q g=true) (q:z0q h=true):z0q (Vp g len h)=true:=Yi fun i=>by
 unfold Vp;cases Nat.ble len i with
 | true=>exact Ut q _
 | false=>exact Ut p _
def y6b (sz n:Nat) (g:Nat→List AVal):Bool:=pd (∀i,i<n→(g i).length =sz∧(g i).all z9u=true)
open Go.Sort Go.RowKit
variable {P:Program} {ρ:Rho}
theorem Rel.rewritten {mem:Mem} {next:Nat} {w w':World} (h:Rel ρ mem next w) {b:Nat} {l:Loc} {ab:ABlk} (hb:ρ b=some l) (hm:Yf mem b=some ab) {cs:List AVal}
  (dG:cs.length=ab.cells.length) (dS: ∀k,k<w.heap.size→k≠l.blk→w'.heap[k]? =w.heap[k]?) (hsize:w.heap.size≤w'.heap.size)
  (hnew: ∃cur el,w'.heap[l.blk]? =some (.cells cur el (0,0))∧l.base+l.tot≤cur.size∧ ∀(i:Nat) (hi:i<cs.length),∃v,cur[l.base+i]? =some v∧Zt ρ cs[i] v):
  Rel ρ (Wz mem b (some ⟨cs,ab.ty,none⟩)) next w':=by
 have hbk:=h.blk b l ab hb hm;refine ⟨h.dom,fun c c' m m' e e' he hs hs'=> ?_,fun c m ac e hc=> ?_,fun k o e=> ?_,fun c m e hs=>h.sep c m e (by
  grind [Zu]),fun c m e=>AW (h.real c m e) hsize,fun c hc=>by have:=h.dom b l hb;rw [Zu _ _ (by omega)];exact h.bd c hc,h.ldom⟩
 ·refine h.inj c c' m m' e e' he ?_ ?_;all_goals grind [Zu]
 ·by_cases hcb:c=b
  ·subst hcb;rw [Yw] at hc;obtain rfl:=Ag hc;rw [hb] at e;obtain rfl:=Ag e;exact ⟨by rw [dG];exact hbk.n,hbk.tot,(fun A e=>by cases e),hnew⟩
  ·rw [Zu _ _ hcb] at hc;refine (h.blk c m ac e hc).world (Rho.le_refl _) (dS m.blk (h.real c m e) fun heq=>hcb ?_);exact h.inj c b m l e hb heq (by rw [hc];rfl) (by rw [hm];rfl)
 ·have hk:=h.old k o e;rw [dS k ?_ ?_]
  ·exact hk
  ·grind
  ·intro heq;have:=h.sep b l hb (by rw [hm];rfl)
   grind
def Ye (n:Nat) (c:Nat→Int):List Int:=(List.range n).map c
def fRow (srt:List Int→List Int) (args:List AVal) (mem:Mem):Option (AVal×Nat×ABlk×Bool):=match args with
 | [.sla b sz off n cap]=>match Yf mem b with
  | some ⟨_,ty,some A⟩=>some (.tup [],b,⟨Yk A.n (y9l (z5l (srt (Ye n (cOf A.get))))),ty,some ⟨1,A.n,y9l (z5l (srt (Ye n (cOf A.get))))⟩⟩,
    Nat.beq sz 1&&(Nat.beq A.sz 1&&(Nat.beq off 0&&(decide (n=A.n)&&(isI A.get&&decide (n<4611686018427387904))))))
  | _=>none
 | _=>none
theorem Qs (n:Nat) (c:Nat→Int) (i:Nat) (h:i<n):(Yk n (y9l c))[i]? =some (.int .i64 (c i)):=by
 have:=Wi (get:=y9l c) (sz:=1) n (fun _ _=>rfl) i 0 h Nat.one_pos
 simpa [y9l] using this
theorem Jk (n:Nat) (c:Nat→Int):(Yk n (y9l c)).length =n:=by rw [Ym (sz:=1) n fun _ _=>rfl,Nat.mul_one]
theorem z5g (w:World) (n blk off:Nat) (d:Array Int) (os:Array Obj) (k:Nat) (hk:k<w.heap.size):
  (grow (putRow (Value.int .i64) (Go.Sort.ahead w n) blk off d) os).heap[k]? =if k=blk then (w.heap[k]?).map (onCells (putCells (Value.int .i64) off d)) else w.heap[k]? :=by
 show (((Go.Sort.ahead w n).heap.modify blk (onCells (putCells (Value.int .i64) off d)))++os)[k]? =_;rw [Array.getElem?_append_left (by simp_all),Array.getElem?_modify];show (if blk=k then _ else _)=_;by_cases h:k=blk
 ·simp_all
 ·rw [AF (fun e=>h e.symm),AF h];rfl
theorem Ev.rewritten {mem:Mem} {next floor:Nat} {w w':World} (h:Rel ρ mem next w) {b:Nat} (o:Option ABlk) (hb: ∀l,ρ b=some l→floor≤b) (hnone:ρ b=none→ ∀cs ty,Yf mem b≠some ⟨cs,ty,none⟩)
  (dS: ∀k,k<w.heap.size→(∀l,ρ b=some l→k≠l.blk)→w'.heap[k]? =w.heap[k]?) (hsize:w.heap.size≤w'.heap.size) (h1:w'.os=w.os) (h2:w'.tape=w.tape) (h3:w'.output=w.output):
  Ev ρ ρ floor mem next (Wz mem b o) next w w' where
 ext:=Rho.le_refl _
 new _ _:=rfl
 nxt:=Aq _
 unborn k _ e cs ty hm:=by
  grind [Zu]
 frame k o hk hfr:=by
  grind
 fresh k m hk e:=by have:=h.dom k m e;omega
 size:=hsize
 os:=h1
 tape:=h2
 output:=h3
 still _ _:=rfl
theorem Rel.unbornSet {mem:Mem} {next:Nat} {w:World} (h:Rel ρ mem next w) {b:Nat} (hb:ρ b=none) (hlt:b<next) (o:Option ABlk):Rel ρ (Wz mem b o) next w:=by
 have ne: ∀c l,ρ c=some l→c≠b:=fun c l e he=>by grind
 refine ⟨h.dom,fun c c' m m' e e' he hs hs'=> ?_,fun c m ac e hc=> ?_,h.old,fun c m e hs=> ?_,h.real,fun c hc=> ?_,h.ldom⟩
 ·rw [Zu _ _ (ne _ _ e)] at hs;rw [Zu _ _ (ne _ _ e')] at hs';exact h.inj c c' m m' e e' he hs hs'
 ·rw [Zu _ _ (ne _ _ e)] at hc;exact h.blk c m ac e hc
 ·rw [Zu _ _ (ne _ _ e)] at hs;exact h.sep c m e hs
 ·rw [Zu _ _ (by omega)];exact h.bd c hc
theorem j5u {f:FuncId} {srt:List Int→List Int} (hsl: ∀zs,(srt zs).length =zs.length)
  (hC: ∀(blk off cap:Nat) (zs:List Int) (w:World),Holds (Value.int .i64) w blk off zs.toArray→blk<w.heap.size→zs.length<4611686018427387904→
   Calls P f #[.slice (some ⟨blk,off,none⟩) zs.length cap] w fun e w'=>e=.returned (.tuple #[])∧ ∃n os,w'=grow (putRow (Value.int .i64) (Go.Sort.ahead w n) blk off (srt zs).toArray) os)
  (hN: ∀(p:Option Addr) (cap:Nat) (w:World),Calls P f #[.slice p 0 cap] w fun e w'=>e=.returned (.tuple #[])∧w'=w):x6a P f (fRow srt):=by
 intro args mem v b blk h fJ ρ next floor vals w hfl dI dF
 unfold fRow at h;split at h
 ·rename_i b0 sz off n cap;split at h
  ·rename_i cells ty A hm;obtain ⟨asz,an,get⟩:=A;simp only [Ae,Ad,Ac] at h;obtain ⟨rfl,rfl,rfl,h1,h2,h3,h4,h5,h6⟩:=h;have g1:=Aj h1;have g2:=Aj h2;have g3:=Aj h3;have g4:n=an:=Av h4;have h6:n<4611686018427387904:=Av h6;subst g1;subst g2;subst g3;subst g4;obtain ⟨c,hcg⟩:=w4p h5;have e0:cOf (y9l c)=c:=rfl;simp only [hcg,e0];obtain ⟨u,hu,hvals⟩: ∃u,Zt ρ (.sla b0 1 0 n cap) u∧vals= #[u]:=by
    obtain ⟨vl⟩:=vals;cases dI with
    | cons h1 h2=>cases h2;grind
   subst hvals;have hlt:b0<next:=by
    rcases A6 b0 next with h | h
    ·exact h
    ·have:=dF.bd b0 h;grind
   generalize hL:srt (Ye n c)=L;have hLl:L.length=n:=by grind [Ye]
   have hnn:ρ b0=none→ ∀cs ty',Yf mem b0≠some ⟨cs,ty',none⟩:=fun _ cs ty' e=>by grind
   cases hu with
   | sla _ _ _ _ _ l cc e hc dG=>
    have hbk:=dF.blk b0 l _ e hm;obtain ⟨har,_,_⟩:=hbk.arr _ rfl;simp only [hcg] at har;subst har;obtain ⟨cur,el,hh,hsz,dK⟩:=hbk.cells;simp only [Jk] at dK;have eH: ∀i,i<n→cur[l.base+i]? =some (.int .i64 (c i)):=fun i hi=>by obtain ⟨v,e1,e2⟩:=dK i hi;rw [show (Yk n (y9l c))[i]'(by grind)=.int .i64 (c i) from Ag (by rw [←Au,Qs n c i hi])] at e2;cases e2;exact e1
    have eN:=dF.real b0 l e;have hzs:(Ye n c).length =n:=(by grind);have hH:Holds (Value.int .i64) w l.blk (l.base+0*1) (Ye n c).toArray :=fun j hj=>by
     grind [World.cell?,Ye,World.frozen?]
    have dQ:=hC l.blk (l.base+0*1) cc (Ye n c) w hH eN (by omega);rw [hzs,hL] at dQ;refine dQ.mono fun e' w' ⟨he,q,os,hw'⟩=>⟨_,he,?_,?_,?_⟩
    ·exact .tup [] #[] rfl fun i h1 h2=>absurd h1 (AJ _)
    ·subst hw';refine Rel.setArr ?_ ⟨1,n,y9l (z5l L)⟩ rfl (Aq 1) fun _ _=>rfl;refine Rel.rewritten dF e hm (by simp only [Jk]) (fun k hk hne=> ?_) ?_ ?_
     ·grind [z5g]
     ·simp_all
     ·refine ⟨putCells (Value.int .i64) (l.base+0*1) L.toArray cur,el,?_,?_,fun i hi=> ?_⟩
      ·rw [z5g _ _ _ _ _ _ _ eN,AK rfl,hh];rfl
      ·grind [putCells]
      ·rw [Jk] at hi;refine ⟨.int .i64 (z5l L i),?_,?_⟩
       ·grind [putCells,z5l]
       ·rw [show (Yk n (y9l (z5l L)))[i]'(by grind)=.int .i64 (z5l L i) from Ag (by rw [←Au,Qs n _ i hi])];exact .int _ _
    ·subst hw';refine Ev.rewritten dF _ (fun l' _=>hfl) hnn (fun k hk hne=> ?_) ?_ rfl rfl rfl
     ·grind [z5g]
     simp_all
   | slan=>
    refine (hN none 0 w).mono fun e' w' ⟨he,hw'⟩=>⟨_,he,?_,?_,?_⟩
    ·exact .tup [] #[] rfl fun i h1 h2=>absurd h1 (AJ _)
    ·subst hw';refine Rel.setArr ?_ ⟨1,0,y9l (z5l L)⟩ rfl (Aq 1) fun _ _=>rfl;cases e:ρ b0 with
     | none=>exact Rel.unbornSet dF e hlt _
     | some l=>have hbk:=dF.blk b0 l _ e hm;obtain ⟨har,_,_⟩:=hbk.arr _ rfl;simp only [hcg] at har;subst har;obtain ⟨cur,el,hh,hsz,dK⟩:=hbk.cells;exact Rel.rewritten dF e hm rfl (fun _ _ _=>rfl) (Aq _) ⟨cur,el,hh,hsz,fun i hi=>absurd hi (AJ _)⟩
    grind [Ev.rewritten]
  ·cases h
 ·cases h
def fCut (srt:List Int→List Int) (res:List Int→Nat) (args:List AVal) (mem:Mem):Option (AVal×Nat×ABlk×Bool):=match args with
 | [.sla b sz off n cap]=>match Yf mem b with
  | some ⟨_,ty,some A⟩=>some (.sla b 1 0 (res (Ye n (cOf A.get))) cap,b,⟨Yk A.n (y9l (z5l (srt (Ye n (cOf A.get))))),ty,some ⟨1,A.n,y9l (z5l (srt (Ye n (cOf A.get))))⟩⟩,
    Nat.beq sz 1&&(Nat.beq A.sz 1&&(Nat.beq off 0&&(decide (n=A.n)&&(isI A.get&&decide (n<4611686018427387904))))))
  | _=>none
 | _=>none
theorem j5v {f:FuncId} {srt:List Int→List Int} {res:List Int→Nat} (hsl: ∀zs,(srt zs).length =zs.length) (fG: ∀zs,res zs≤zs.length)
  (hC: ∀(blk off cap:Nat) (zs:List Int) (w:World),Holds (Value.int .i64) w blk off zs.toArray→blk<w.heap.size→zs.length<4611686018427387904→zs.length≤cap→
   Calls P f #[.slice (some ⟨blk,off,none⟩) zs.length cap] w fun e w'=>e=.returned (.slice (some ⟨blk,off,none⟩) (res zs) cap)∧ ∃n os,w'=grow (putRow (Value.int .i64) (Go.Sort.ahead w n) blk off (srt zs).toArray) os)
  (hN: ∀(p:Option Addr) (cap:Nat) (w:World),Calls P f #[.slice p 0 cap] w fun e w'=>e=.returned (.slice p 0 cap)∧w'=w):x6a P f (fCut srt res):=by
 intro args mem v b blk h fJ ρ next floor vals w hfl dI dF
 unfold fCut at h;split at h
 ·rename_i b0 sz off n cap;split at h
  ·rename_i cells ty A hm;obtain ⟨asz,an,get⟩:=A;simp only [Ae,Ad,Ac] at h;obtain ⟨rfl,rfl,rfl,h1,h2,h3,h4,h5,h6⟩:=h;have g1:=Aj h1;have g2:=Aj h2;have g3:=Aj h3;have g4:n=an:=Av h4;have h6:n<4611686018427387904:=Av h6;subst g1;subst g2;subst g3;subst g4;obtain ⟨c,hcg⟩:=w4p h5;have e0:cOf (y9l c)=c:=rfl;simp only [hcg,e0];obtain ⟨u,hu,hvals⟩: ∃u,Zt ρ (.sla b0 1 0 n cap) u∧vals= #[u]:=by
    obtain ⟨vl⟩:=vals;cases dI with
    | cons h1 h2=>cases h2;grind
   subst hvals;have hlt:b0<next:=by
    rcases A6 b0 next with h | h
    ·exact h
    ·have:=dF.bd b0 h;grind
   generalize hL:srt (Ye n c)=L;have hLl:L.length=n:=by grind [Ye]
   have hnn:ρ b0=none→ ∀cs ty',Yf mem b0≠some ⟨cs,ty',none⟩:=fun _ cs ty' e=>by grind
   cases hu with
   | sla _ _ _ _ _ l cc e hc dG=>
    have hbk:=dF.blk b0 l _ e hm;obtain ⟨har,_,_⟩:=hbk.arr _ rfl;simp only [hcg] at har;subst har;obtain ⟨cur,el,hh,hsz,dK⟩:=hbk.cells;simp only [Jk] at dK;have eH: ∀i,i<n→cur[l.base+i]? =some (.int .i64 (c i)):=fun i hi=>by obtain ⟨v,e1,e2⟩:=dK i hi;rw [show (Yk n (y9l c))[i]'(by grind)=.int .i64 (c i) from Ag (by rw [←Au,Qs n c i hi])] at e2;cases e2;exact e1
    have eN:=dF.real b0 l e;have hzs:(Ye n c).length =n:=(by grind);have hH:Holds (Value.int .i64) w l.blk (l.base+0*1) (Ye n c).toArray :=fun j hj=>by
     grind [World.cell?,Ye,World.frozen?]
    have dQ:=hC l.blk (l.base+0*1) cc (Ye n c) w hH eN (by omega) (by omega);rw [hzs,hL] at dQ;refine dQ.mono fun e' w' ⟨he,q,os,hw'⟩=>⟨_,he,?_,?_,?_⟩
    ·exact .sla _ _ _ _ _ l cc e hc (AE (fG _) (by omega))
    ·subst hw';refine Rel.setArr ?_ ⟨1,n,y9l (z5l L)⟩ rfl (Aq 1) fun _ _=>rfl;refine Rel.rewritten dF e hm (by simp only [Jk]) (fun k hk hne=> ?_) ?_ ?_
     ·grind [z5g]
     ·simp_all
     ·refine ⟨putCells (Value.int .i64) (l.base+0*1) L.toArray cur,el,?_,?_,fun i hi=> ?_⟩
      ·rw [z5g _ _ _ _ _ _ _ eN,AK rfl,hh];rfl
      ·grind [putCells]
      ·rw [Jk] at hi;refine ⟨.int .i64 (z5l L i),?_,?_⟩
       ·grind [putCells,z5l]
       ·rw [show (Yk n (y9l (z5l L)))[i]'(by grind)=.int .i64 (z5l L i) from Ag (by rw [←Au,Qs n _ i hi])];exact .int _ _
    ·subst hw';refine Ev.rewritten dF _ (fun l' _=>hfl) hnn (fun k hk hne=> ?_) ?_ rfl rfl rfl
     ·grind [z5g]
     simp_all
   | slan=>
    refine (hN none 0 w).mono fun e' w' ⟨he,hw'⟩=>⟨_,he,?_,?_,?_⟩
    ·rw [show res (Ye 0 c)=0 from Nat.le_zero.1 (fG _)];exact .slan _ _ _ _
    ·subst hw';refine Rel.setArr ?_ ⟨1,0,y9l (z5l L)⟩ rfl (Aq 1) fun _ _=>rfl;cases e:ρ b0 with
     | none=>exact Rel.unbornSet dF e hlt _
     | some l=>have hbk:=dF.blk b0 l _ e hm;obtain ⟨har,_,_⟩:=hbk.arr _ rfl;simp only [hcg] at har;subst har;obtain ⟨cur,el,hh,hsz,dK⟩:=hbk.cells;exact Rel.rewritten dF e hm rfl (fun _ _ _=>rfl) (Aq _) ⟨cur,el,hh,hsz,fun i hi=>absurd hi (AJ _)⟩
    grind [Ev.rewritten]
  ·cases h
 ·cases h
def q4 (f:Nat→Nat→Int):Nat→List AVal:=fun k=>[.int .i64 (f k 0),.int .i64 (f k 1),.int .i64 (f k 2),.int .i64 (f k 3)]
theorem x4h (a:Nat):(Nat.beq a a == true)=true:=by simp_all
inductive VP where
 | keep
 | drop
  | grow (b sz:Nat)
  | list (n:Nat) (g:Nat→List AVal)
  | len (n:Nat)
  | frz (n n':Nat) (a g:Nat→List AVal)
def Je (n:Nat) (a g:Nat→List AVal):Bool:=pd (∀i,i<n→a i=g i)
def v2i (cells:List AVal) (sz n:Nat) (g:Nat→List AVal):Bool:=pd (cells=Yk n g∧1≤sz∧ ∀i,i<n→(g i).length =sz)
def rlesR (n:Nat) (a g:Nat→List AVal):Bool:=pd (∀i,i<n→RLe (a i) (g i))
def x1n (a b:Nat):Bool:=pd (a=b)
theorem Vt {a b:Nat} (h:a=b):x1n a b=true:=Yi h
def v4z (v:AVal) (n:Nat) (a:Nat→List AVal):Bool:=pd (v=.dat n a)
theorem u1q (sz n:Nat) (g:Nat→List AVal):v4z (z1o sz sz 0 n n g) n g=true:=Yi (w0i sz n g)
theorem v4y (n:Nat) (g:Nat→List AVal):v4z (.dat n g) n g=true:=Yi rfl
def x4n :VP→AVal→Bool→AVal×Bool
 | .keep,v,ob=>(v,ob)
 | .drop,_,ob=>(.undef,ob)
 | .grow b sz,v,ob=>match v with
  | .nils =>(.sla b sz 0 0 (.un sz),ob)
  | .sl b o len cap=>(.sla b sz 0 len cap,Nat.beq o 0&&ob)
  | v=>(v,ob)
 | .list n' g,v,ob=>match v with
  | .nils =>(.dat 0 g,ob)
  | .dat n a=>(.dat n' g,x1n n n'&&(Je n a g&&ob))
  | v=>(v,ob)
 | .len n',v,ob=>match v with
  | .sla b sz off n cap=>(.sla b sz off n' cap,x1n n n'&&ob)
  | v=>(v,ob)
 | .frz n n' a g,v,ob=>(.dat n' g,v4z v n a&&(x1n n n'&&(Je n a g&&ob)))
theorem w4j {p:VP} {v:AVal} {ob:Bool} (h:(x4n p v ob).2=true):VLe v (x4n p v ob).1∧ob=true:=by
 cases p with
 | keep=>exact ⟨.refl _,h⟩
 | drop=>exact ⟨.undef _,h⟩
 | grow b sz=>
  cases v with
  | nils=>exact ⟨.nils _ _ _ _,h⟩
  | sl b' o len cap=>simp only [x4n,Ac] at h;have e:=Aj h.1;subst e;have:=VLe.sl b' sz 0 len cap;rw [Nat.zero_mul] at this;exact ⟨this,h.2⟩
  | _=>exact ⟨.refl _,h⟩
 | list n' g=>
  cases v with
  | nils=>exact ⟨.nild _,h⟩
  | dat n a=>simp only [x4n,Ac] at h;obtain rfl:=Ut h.1;exact ⟨.dat _ _ _ (Ut h.2.1),h.2.2⟩
  | _=>exact ⟨.refl _,h⟩
 | len n'=>
  cases v with
  | sla b sz off n cap=>simp only [x4n,Ac] at h;obtain rfl:=Ut h.1;exact ⟨.refl _,h.2⟩
  | _=>exact ⟨.refl _,h⟩
 | frz n n' a g=>simp only [x4n,Ac] at h;obtain rfl:=Ut h.1;obtain rfl:=Ut h.2.1;exact ⟨.dat _ _ _ (Ut h.2.2.1),h.2.2.2⟩
def x4m :List VP→List AVal→Bool→List AVal×Bool
 | _,[],ob=>([],ob)
 | [],l,ob=>(l,ob)
 | p::ps,v::l,ob=>match x4m ps l ob with
  | (l',ob)=>match x4n p v ob with
   | (v',ob)=>(v'::l',ob)
theorem y5i : ∀{ps:List VP} {l:List AVal} {ob:Bool},(x4m ps l ob).2=true→RLe l (x4m ps l ob).1∧ob=true
 | [],[],_,h=>⟨.nil,h⟩
 | _::_,[],_,h=>⟨.nil,h⟩
 | [],a::l,_,h=>⟨RLe.refl _,h⟩
 | p::ps,v::l,ob,h=>by simp only [x4m] at h ⊢;obtain ⟨h1,h2⟩:=w4j h;obtain ⟨h3,h4⟩:=y5i h2;exact ⟨.cons h1 h3,h4⟩
inductive BP where
 | keep
 | drop
 | cells (ps:List VP)
 | rowed (sz n:Nat) (g:Nat→List AVal)
 | rws (a:Rws)
def y7e :BP→Option ABlk→Bool→Option ABlk×Bool
 | .keep,o,ob=>(o,ob)
 | .drop,_,ob=>(none,ob)
 | .cells ps,o,ob=>match o with
  | some ⟨cells,ty,none⟩=>match x4m ps cells ob with
   | (cs,ob)=>(some ⟨cs,ty,none⟩,ob)
  | o=>(o,ob)
 | .rowed sz n g,o,ob=>match o with
  | some ⟨cells,ty,none⟩=>(some ⟨Yk n g,ty,some ⟨sz,n,.flat g⟩⟩,v2i cells sz n g&&ob)
  | some ⟨_,ty,some ⟨sz',n',a⟩⟩=>(some ⟨Yk n g,ty,some ⟨sz',n,.flat g⟩⟩,x1n n' n&&(Je n' a.get g&&ob))
  | o=>(o,ob)
 | .rws a',o,ob=>match o with
  | some ⟨_,ty,some ⟨sz,n,a⟩⟩=>(some ⟨Yk n a'.get,ty,some ⟨sz,n,a'⟩⟩,rlesR n a.get a'.get&&ob)
  | o=>(o,ob)
theorem RLe.sound {ρ:Rho} {l m:List AVal} (h:RLe l m) (i:Nat) (h1:i<l.length) (h2:i<m.length) {v:Value} (hv:Zt ρ l[i] v):Zt ρ m[i] v:=(h.get i h1 h2).sound hv
theorem x9o {p:BP} {o:Option ABlk} {ob:Bool} {x':ABlk} (h:(y7e p o ob).2=true) (hx:(y7e p o ob).1=some x'):ob=true∧ ∃x,o=some x∧ ∀(ρ:Rho) (w:World) (l:Loc),Us ρ w x l→Us ρ w x' l:=by
 cases p with
 | keep=>exact ⟨h,x',hx,fun _ _ _ q=>q⟩
 | drop=>cases hx
 | cells ps=>
  rcases o with _ | ⟨cells,ty,_ | A⟩
  ·cases hx
  ·simp only [y7e] at h hx;obtain ⟨h1,h2⟩:=y5i h;obtain rfl:=Ag hx;refine ⟨h2,_,rfl,fun ρ w l hb=> ?_⟩;obtain ⟨cs,el,g1,g2,g3⟩:=hb.cells;refine ⟨by rw [hb.n];exact h1.len,hb.tot,(fun A hA=>by cases hA),cs,el,g1,g2,fun i hi=> ?_⟩;have hi0:i<cells.length:=by rw [h1.len];exact hi
   obtain ⟨v,q1,q2⟩:=g3 i hi0;exact ⟨v,q1,h1.sound i hi0 hi q2⟩
  ·exact ⟨h,_,rfl,fun ρ w l hb=>by obtain rfl:=Ag hx;exact hb⟩
 | rowed sz n g=>
  rcases o with _ | ⟨cells,ty,_ | ⟨sz',n',a⟩⟩
  ·cases hx
  ·simp only [y7e,Ac] at h hx;obtain rfl:=Ag hx;obtain ⟨h1,h2,h3⟩:=Ut h.1;exact ⟨h.2,_,rfl,fun ρ w l hb=>(BLe.rowed cells ty none sz n g h1 h2 h3).sound hb⟩
  ·simp only [y7e,Ac] at h hx;obtain rfl:=Ag hx;obtain rfl:=Ut h.1;have h1:=Ut h.2.1;refine ⟨h.2.2,_,rfl,fun ρ w l hb=> ?_⟩;obtain ⟨q1,q2,q3⟩:=hb.arr _ rfl;exact (BLe.rowed cells ty _ sz' n' g (q1.trans (z9i _ h1)) q2 fun i hi=>by rw [←h1 i hi];exact q3 i hi).sound hb
 | rws a'=>
  rcases o with _ | ⟨cells,ty,_ | ⟨sz',n',a⟩⟩
  ·cases hx
  ·exact ⟨h,_,rfl,fun ρ w l hb=>by obtain rfl:=Ag hx;exact hb⟩
  ·simp only [y7e,Ac] at h hx;obtain rfl:=Ag hx;refine ⟨h.2,_,rfl,fun ρ w l hb=> ?_⟩;obtain ⟨q1,_,_⟩:=hb.arr _ rfl;have q1:cells=Yk n' a.get:=q1;subst q1;exact (BLe.rws ty sz' n' a a' (Ut h.1)).sound hb
def w8c :List (Nat×VP)→T AVal→Bool→T AVal×Bool
 | [],env,ob=>(env,ob)
 | (t,p)::l,env,ob=>match w8c l env ob with
  | (e,ob)=>match x4n p (T.get .undef e t) ob with
   | (v,ob)=>(T.set .undef e t v,ob)
def ELe (e e':T AVal):Prop:= ∀t,(∀(ρ:Rho) (v:Value),Zt ρ (T.get .undef e t) v→Zt ρ (T.get .undef e' t) v)∧(T.get .undef e t=.undef →T.get .undef e' t=.undef)
theorem ELe.refl (e:T AVal):ELe e e:=fun _=>⟨fun _ _ h=>h,fun h=>h⟩
theorem x1m : ∀{l:List (Nat×VP)} {env:T AVal} {ob:Bool},(w8c l env ob).2=true→ELe env (w8c l env ob).1∧ob=true
 | [],_,_,h=>⟨ELe.refl _,h⟩
 | (t,p)::l,env,ob,h=>by
  simp only [w8c] at h ⊢;obtain ⟨h1,h2⟩:=w4j h;obtain ⟨h3,h4⟩:=x1m h2;refine ⟨fun s=> ?_,h4⟩;rw [T.get_set];by_cases e:s=t
  ·subst e;rw [AK rfl];exact ⟨fun ρ v hv=>h1.sound ((h3 s).1 ρ v hv),fun hu=>by have e:=(h3 s).2 hu;rw [e] at h1 ⊢;exact h1.of_undef⟩
  ·rw [AF e];exact h3 s
def x9n :List BP→Nat→Mem→Bool→Mem×Bool
 | [],_,m,ob=>(m,ob)
 | p::ps,i,m,ob=>match x9n ps (i+1) m ob with
  | (m',ob)=>match y7e p (Yf m i) ob with
   | (x,ob)=>(Wz m' i x,ob)
theorem u1f {p:BP} {o:Option ABlk} {ob:Bool} (h:(y7e p o ob).2=true):ob=true:=by
 cases p with
 | keep=>exact h
 | drop=>exact h
 | cells ps=>
  rcases o with _ | ⟨cells,ty,_ | A⟩
  ·exact h
  ·exact (y5i h).2
  ·exact h
 | rowed sz n g=>
  rcases o with _ | ⟨cells,ty,_ | A⟩;all_goals simp_all [y7e]
 | rws a=>
  rcases o with _ | ⟨cells,ty,_ | A⟩;all_goals simp_all [y7e]
theorem y9f : ∀{ps:List BP} {i:Nat} {m:Mem} {ob:Bool},(x9n ps i m ob).2=true→ob=true∧ ∀b x',Yf (x9n ps i m ob).1 b=some x'→ ∃x,Yf m b=some x∧ ∀(ρ:Rho) (w:World) (l:Loc),Us ρ w x l→Us ρ w x' l
 | [],_,_,_,h=>⟨h,fun b x' hb=>⟨x',hb,fun _ _ _ q=>q⟩⟩
 | p::ps,i,m,ob,h=>by
  simp only [x9n] at h ⊢;have hob:(x9n ps (i+1) m ob).2=true:=u1f h;obtain ⟨h1,h2⟩:=y9f hob;refine ⟨h1,fun b x' hb=> ?_⟩;rw [Vm] at hb;by_cases e:b=i
  ·subst e;rw [AK rfl] at hb;exact (x9o h hb).2
  ·rw [AF e] at hb;exact h2 b x' hb
def w8b :List (List (Nat×VP))→List AFr→Bool→List AFr×Bool
 | _,[],ob=>([],ob)
 | [],l,ob=>(l,ob)
 | p::ps,⟨cx,ro,todo,rnd,rs,env⟩::l,ob=>match w8b ps l ob with
  | (l',ob)=>match w8c p env ob with
   | (e,ob)=>(⟨cx,ro,todo,rnd,rs,e⟩::l',ob)
def FLe (a a':AFr):Prop:=a.cx=a'.cx∧a.ro=a'.ro∧a.todo=a'.todo∧a.rnd=a'.rnd∧a.rs=a'.rs∧ELe a.env a'.env
theorem FLe.refl (a:AFr):FLe a a:=⟨rfl,rfl,rfl,rfl,rfl,ELe.refl _⟩
theorem Vz.refl' : ∀l:List AFr,Vz FLe l l
 | []=>.nil
 | a::l=>.cons (FLe.refl a) (Vz.refl' l)
theorem w4k : ∀{ps:List (List (Nat×VP))} {l:List AFr} {ob:Bool},(w8b ps l ob).2=true→Vz FLe l (w8b ps l ob).1∧ob=true
 | [],[],_,h=>⟨.nil,h⟩
 | _::_,[],_,h=>⟨.nil,h⟩
 | [],a::l,_,h=>⟨Vz.refl' _,h⟩
 | p::ps,⟨cx,ro,todo,rnd,rs,env⟩::l,ob,h=>by simp only [w8b] at h ⊢;obtain ⟨h1,h2⟩:=x1m h;obtain ⟨h3,h4⟩:=w4k h2;exact ⟨.cons ⟨rfl,rfl,rfl,rfl,rfl,h1⟩ h3,h4⟩
structure Less where
 slots:List (Nat×VP):=[]
 blks:List BP:=[]
 cs:List (List (Nat×VP)):=[]
def w8e (L:Less):Cfg→Cfg
 | ⟨cx,ro,todo,rnd,rs,⟨env,mem,next,orc,ob⟩,cs,lps⟩=>match w8b L.cs cs ob with
  | (cs',ob)=>match x9n L.blks 0 mem ob with
   | (mem',ob)=>match w8c L.slots env ob with
    | (env',ob)=>⟨cx,ro,todo,rnd,rs,⟨env',mem',next,orc,ob⟩,cs',lps⟩
def x4y :List (TypeId×Nat×(Nat→List AVal))→Nat→Mem→Mem
 | [],_,m=>m
 | (ty,sz,g)::l,i,m=>Wz (x4y l (i+1) m) i (some ⟨[],ty,some ⟨sz,0,.flat g⟩⟩)
def w4s (gs:List (TypeId×Nat×(Nat→List AVal))):Cfg→Cfg
 | ⟨cx,ro,todo,rnd,rs,⟨env,mem,next,orc,ob⟩,cs,lps⟩=>⟨cx,ro,todo,rnd,rs,⟨env,x4y gs next mem,next+gs.length,orc,ob⟩,cs,lps⟩
theorem z9w : ∀(gs:List (TypeId×Nat×(Nat→List AVal))) (i:Nat) (m:Mem) (b:Nat),(b<i→Yf (x4y gs i m) b=Yf m b)∧(i+gs.length≤b→Yf (x4y gs i m) b=Yf m b)
 | [],i,m,b=>⟨fun _=>rfl,fun _=>rfl⟩
 | (ty,sz,g)::l,i,m,b=>by obtain ⟨h1,h2⟩:=z9w l (i+1) m b;simp only [x4y,Vm,BI];exact ⟨fun h=>by rw [AF (by omega)];exact h1 (by omega),fun h=>by rw [AF (by omega)];exact h2 (by omega)⟩
theorem v0i.less {P:Program} {ρ:Rho} {cs:List AFr} {css:List Frame} {mss:List Nat} (h:v0i P ρ cs css mss): ∀{cs':List AFr},Vz FLe cs cs'→v0i P ρ cs' css mss:=by
 induction h with
 | nil=>intro cs' h;cases h;exact .nil
 | @cons af b a k ms cs css mss hf hl t ih=>
  intro cs' h;cases h with
  | @cons _ af' _ cs'' h1 h2=>
   obtain ⟨e1,e2,e3,e4,e5,e6⟩:=h1;have hne:cs''≠ []→cs≠ []:=fun hn he=>by subst he;cases h2;exact hn rfl
   rw [show Wf af.ro k=Wf af'.ro k by rw [e2]];exact .cons ⟨by rw [←e1];exact ⟨hf.env.size,fun t=>(e6 t).1 _ _ (hf.env.get t),fun t ht=>(e6 t).2 (hf.env.out t ht)⟩,hf.defers,by rw [←e3];exact hf.todo,by rw [←e2];exact hf.ro,by rw [←e4];exact hf.rnd⟩
    (fun hn=>by grind) (ih h2)
theorem z9v {P:Program} {cx:Ctx} {ro:Option RegOps} {todo:List Item} {rnd:Option Nat} {rs:List ResultVar} {env env':T AVal} {mem mem':Mem} {k k':Nat} {o o':List Bool} {b0 b0':Bool} {cs cs':List AFr} {lps:Loops}
  (hE:ELe env env') (hC:Vz FLe cs cs') (hM: ∀b x',b<k→Yf mem' b=some x'→ ∃x,Yf mem b=some x∧ ∀(ρ:Rho) (w:World) (l:Loc),Us ρ w x l→Us ρ w x' l) (hk:k≤k') (hbd:(∀b,k≤b→Yf mem b=none)→ ∀b,k'≤b→Yf mem' b=none):
  y1r P ⟨cx,ro,todo,rnd,rs,⟨env,mem,k,o,b0⟩,cs,lps⟩ ⟨cx,ro,todo,rnd,rs,⟨env',mem',k',o',b0'⟩,cs',lps⟩:=
 fun H w0 ρ b a t css w ma mb hs he cs0=>by
  have hr:=hs.rel;simp only at hr he;have hne:cs'≠ []→cs≠ []:=fun hn e=>by subst e;cases hC;exact hn rfl
  refine ⟨ρ,b,a,t,css,w,ma,mb,Steps.refl _ _,⟨⟨?_,hs.top.defers,hs.top.todo,hs.top.ro,hs.top.rnd⟩,fun hn=>hs.lv (hne hn),⟨hs.rest.cs.less hC,hs.rest.nodup,hs.rest.marks,hs.rest.loops,hs.rest.inj⟩,?_⟩,?_,rfl,Aq _⟩
  ·exact ⟨hs.top.env.size,fun t=>(hE t).1 _ _ (hs.top.env.get t),fun t ht=>(hE t).2 (hs.top.env.out t ht)⟩
  ·have lift: ∀c l,ρ c=some l→(Yf mem' c).isSome =true→(Yf mem c).isSome =true:=fun c l hc h=>by obtain ⟨x,hx⟩:=Option.isSome_iff_exists.1 h;obtain ⟨y,hy,_⟩:=hM c x (hr.dom c l hc) hx;rw [hy];rfl
   refine ⟨fun c l hc=>AW (hr.dom c l hc) hk,fun c c' l l' hc hc' hl h1 h2=>hr.inj c c' l l' hc hc' hl (lift c l hc h1) (lift c' l' hc' h2),fun c l ab hc h1=> ?_,hr.old,fun c l hc h1=>hr.sep c l hc (lift c l hc h1),hr.real,hbd hr.bd,fun j l hj=>AW (hr.ldom j l hj) hk⟩;obtain ⟨y,hy,h2⟩:=hM c ab (hr.dom c l hc) h1;exact h2 _ _ _ (hr.blk c l y hc hy)
  ·exact ⟨he.ext,fun _ hb=>absurd hb (AJ _),AA _,fun _ hb=>absurd hb (AJ _),he.frame,he.fresh,he.size,he.os,he.tape,he.output,he.still⟩
theorem w8d {P:Program} {L:Less} {C:Cfg} (ho:(w8e L C).st.ob =true):C.st.ob=true∧y1r P C (w8e L C):=by
 obtain ⟨cx,ro,todo,rnd,rs,⟨env,mem,next,orc,ob⟩,cs,lps⟩:=C;simp only [w8e] at ho ⊢;obtain ⟨h1,h2⟩:=x1m ho;obtain ⟨h3,h4⟩:=y9f h2;obtain ⟨h5,h6⟩:=w4k h3;refine ⟨h6,z9v h1 h5 (fun b x' _ hb=>h4 b x' hb) (Aq _) fun hbd b hb=> ?_⟩;cases hq:Yf (x9n L.blks 0 mem (w8b L.cs cs ob).2).1 b with
 | none=>rfl
 | some x'=>
  grind
theorem w0f {P:Program} (gs:List (TypeId×Nat×(Nat→List AVal))) (C:Cfg):y1r P C (w4s gs C)∧(w4s gs C).st.ob =C.st.ob:=by
 obtain ⟨cx,ro,todo,rnd,rs,⟨env,mem,next,orc,ob⟩,cs,lps⟩:=C;exact ⟨z9v (ELe.refl _) (Vz.refl' _) (fun b x' hb h=>⟨x',by grind [z9w],fun _ _ _ q=>q⟩) (Nat.le_add_right _ _) fun hbd b hb=>by
  rw [(z9w gs next mem b).2 hb];grind,rfl⟩
theorem w8m {P:Program} {C C':Cfg} {orc:List Bool} {ob:Bool} (g:y1r P (C.withO orc) (C'.withB ob)):y1r P C C':=by
 obtain ⟨cx,ro,todo,rnd,rs,⟨env,mem,next,o,b⟩,cs,lps⟩:=C;obtain ⟨cx',ro',todo',rnd',rs',⟨env',mem',next',o',b'⟩,cs',lps'⟩:=C';exact fun H w0 ρ b a k css w ma mb hs he cs0=>by obtain ⟨ρ',b',a',k',css',w',ma',mb',h1,h2,h3,h4⟩:=g H w0 ρ b a k css w ma mb ⟨hs.top,hs.lv,hs.rest,hs.rel⟩ he cs0;exact ⟨ρ',b',a',k',css',w',ma',mb',h1,⟨h2.top,h2.lv,h2.rest,h2.rel⟩,h3,h4⟩
theorem v7h {P:Program} {S:Specs} (hN:z8w P) (hmx:P.follows .mixedOrders =true) (hS:Zv P S) {n m d:Nat} {C C':Cfg} (gs:List (TypeId×Nat×(Nat→List AVal))) (N:z9a) (L:Less) (orc:List Bool) (ob:Bool)
  (h:(((u1i P S (j0n P S m d) n (C.withO orc)).map (w4s gs)).bind (u0q P N)).map (w8e L)=some (C'.withB ob)) (ho:ob=true) (hfl:fl0 C=true):y1r P C C':=by
 rw [An] at h;obtain ⟨C2,h1,h2⟩:=h;rw [Option.bind_eq_some_iff] at h1;obtain ⟨C1,h3,h4⟩:=h1;rw [An] at h3;obtain ⟨C0,h5,rfl⟩:=h3;have hfo:fl0 (C.withO orc)=true:=by obtain ⟨cx,ro,todo,rnd,rs,⟨env,mem,next,o,b⟩,cs,lps⟩:=C;exact hfl
 obtain ⟨hCI,hC⟩:=v2a hN hmx hS m d;obtain ⟨f1,f2,f3⟩:=x4s hN hmx hS hCI hC n (C.withO orc) C0 (u1v hfo) h5;have hob:(w8e L C2).st.ob =true:=by rw [h2];obtain ⟨cx,ro,todo,rnd,rs,⟨env,mem,next,o,b⟩,cs,lps⟩:=C';exact ho
 obtain ⟨l1,l2⟩:=w8d (P:=P) hob;obtain ⟨g1,g2,_⟩:=w7w h4 l1;obtain ⟨q1,q2⟩:=w0f (P:=P) gs C0;rw [q2] at g1;have:=(((f3 g1).goes.trans q1).trans g2).trans l2;rw [h2] at this;exact w8m this
theorem y2f (n:Nat) (g:Nat→List AVal):Je n g g=true:=Yi fun _ _=>rfl
theorem v1t (a g:Nat→List AVal):Je 0 a g=true:=Yi fun _ h=>absurd h (AJ _)
theorem u2q {a b:Nat} (h: ¬a≤b):Nat.ble a b=false:=AZ.2 fun e=>h (Ak e)
theorem u2p {a b:Nat} (h:a≤b):Nat.ble a b=true:=by simp_all
theorem v1x {n N sz:Nat} {G H H':Nat→List AVal} {cells:List AVal} (m:Nat) (h:Je n G H=true) (hN:N=n+m) (h0: ∀i,i<n→H' i=H i) (h1: ∀i,i<m→(cells.drop (i*sz)).take sz=H' (n+i)):Je N (Zh G 0 n sz cells) H'=true:=Yi fun i hi=>by
 unfold Zh;by_cases e:n≤i
 ·grind [u2p]
 ·rw [u2q e,Aa,Af,Ut h i (by omega),h0 i (by omega)]
theorem y0c {α:Type} {sz:Nat}: ∀(l:List (List α)) (i:Nat),(∀x∈l,x.length=sz)→i<l.length→(l.flatten.drop (i*sz)).take sz=l.getD i []
 | [],i,_,h=>absurd h (AJ _)
 | x::l,0,hl,_=>by
  grind
 | x::l,i+1,hl,h=>by have hx:=hl x (by simp);rw [List.flatten_cons,List.getD_cons_succ,←y0c l i (fun y hy=>hl y (by simp [hy])) (by simpa using h)];rw [List.drop_append,hx,show (i+1)*sz - sz=i*sz by rw [AQ,BO];omega,As (by rw [hx,AQ,BO];omega),A8]
theorem v1w {m N:Nat} {G H H':Nat→List AVal} (h':Je m H H'=true) (hN:N=0+m):Je N (Vp G 0 H) H'=true:=Yi fun i hi=>Ut h' i (by omega)
theorem x7c {n:Nat} {G H:Nat→List AVal} (h:Je n G H=true):Je n (fun k=>G (0+k)) H=true:=by grind
theorem v8w {cells:List AVal} {sz n:Nat} {g:Nat→List AVal} (h:cells=Yk n g) (h1:Nat.ble 1 sz=true) (h2: ∀i,(g i).length =sz):v2i cells sz n g=true:=Yi ⟨h,Ak h1,fun i _=>h2 i⟩
def z6q :List (Nat×ABlk)→Mem
 | []=>.leaf
 | (i,b)::l=>Wz (z6q l) i (some b)
def y1k :List (Nat×ALoop)→Loops
 | []=>.leaf
 | (i,b)::l=>v0e (y1k l) i (some b)
class Xk (α:Type) where
 w:Nat
 d:α
 cells:α→List AVal
 of:List AVal→α
 len: ∀a,(cells a).length =w
 pos:1≤w
 flat: ∀a,(cells a).all (pf 6)=true
 sc: ∀a,(cells a).all z9u=true
 back: ∀a,of (cells a)=a
def iOf :AVal→Int
 | .int _ n=>n
 | _=>0
def oOf :AVal→Bool
 | .bool b=>b
 | _=>false
instance : Xk Int where
 w:=1
 d:=0
 cells x:=[.int .i64 x]
 of l:=iOf (l.getD 0 .undef)
 len _:=rfl
 pos:=Aq 1
 flat _:=rfl
 sc _:=rfl
 back _:=rfl
instance : Xk Bool where
 w:=1
 d:=false
 cells x:=[.bool x]
 of l:=oOf (l.getD 0 .undef)
 len _:=rfl
 pos:=Aq 1
 flat _:=rfl
 sc _:=rfl
 back _:=rfl
structure R2 where
 (a b:Int)
 deriving DecidableEq
structure R3 where
 (a b c:Int)
 deriving DecidableEq
structure R4 where
 (a b c d:Int)
 deriving DecidableEq
structure R6 where
 (a b c d e f:Int)
 deriving DecidableEq
instance : Xk R2 where
 w:=2
 d:=⟨0,0⟩
 cells x:=[.int .i64 x.a,.int .i64 x.b]
 of l:=⟨iOf (l.getD 0 .undef),iOf (l.getD 1 .undef)⟩
 len _:=rfl
 pos:=by decide
 flat _:=rfl
 sc _:=rfl
 back _:=rfl
instance : Xk R3 where
 w:=3
 d:=⟨0,0,0⟩
 cells x:=[.int .i64 x.a,.int .i64 x.b,.int .i64 x.c]
 of l:=⟨iOf (l.getD 0 .undef),iOf (l.getD 1 .undef),iOf (l.getD 2 .undef)⟩
 len _:=rfl
 pos:=by decide
 flat _:=rfl
 sc _:=rfl
 back _:=rfl
instance : Xk R4 where
 w:=4
 d:=⟨0,0,0,0⟩
 cells x:=[.int .i64 x.a,.int .i64 x.b,.int .i64 x.c,.int .i64 x.d]
 of l:=⟨iOf (l.getD 0 .undef),iOf (l.getD 1 .undef),iOf (l.getD 2 .undef),iOf (l.getD 3 .undef)⟩
 len _:=rfl
 pos:=by decide
 flat _:=rfl
 sc _:=rfl
 back _:=rfl
instance : Xk R6 where
 w:=6
 d:=⟨0,0,0,0,0,0⟩
 cells x:=[.int .i64 x.a,.int .i64 x.b,.int .i64 x.c,.int .i64 x.d,.int .i64 x.e,.int .i64 x.f]
 of l:=⟨iOf (l.getD 0 .undef),iOf (l.getD 1 .undef),iOf (l.getD 2 .undef),iOf (l.getD 3 .undef),iOf (l.getD 4 .undef),iOf (l.getD 5 .undef)⟩
 len _:=rfl
 pos:=by decide
 flat _:=rfl
 sc _:=rfl
 back _:=rfl
section
variable {α:Type} [Xk α]
def rd (L:List α) (k:Nat):α:=L.getD k Xk.d
def Zz (L:List α):Nat→List AVal:=fun k=>Xk.cells (rd L k)
def lst (α:Type) [Xk α] (n:Nat) (g:Nat→List AVal):List α:=(List.range n).map fun k=>Xk.of (g k)
def isT (α:Type) [Xk α] (n:Nat) (g:Nat→List AVal):Bool:=pd (∀i,i<n→g i=Xk.cells (Xk.of (g i):α))
theorem Xz {L:List α} {k:Nat} (h:k<L.length):rd L k=L[k]:=by grind [rd]
theorem y7c {L M:List α} {k:Nat} (h:k<L.length):rd (L++M) k=rd L k:=by
 grind [rd]
theorem y4s {L M:List α} {k:Nat} (h:L.length≤k):rd (L++M) k=rd M (k - L.length):=by
 grind [rd]
theorem Zp (L:List α):lst α L.length (Zz L)=L:=by
 apply BJ;all_goals grind [lst,Zz,Xk.back,Xz]
def cvT (L:List α):List α:=lst α L.length (Zz L)
theorem Zb (L:List α):cvT L=L:=Zp L
theorem y9e (n:Nat) (g:Nat→List AVal):(lst α n g).length =n:=by simp [lst]
theorem u1d (L:List α) {off n:Nat} (h:off+n≤L.length):lst α n (fun k=>Zz L (off+k))=(L.drop off).take n:=by
 apply BJ;all_goals grind [lst,Zz,Xk.back,Xz]
theorem y3i (L:List α) (n:Nat):isT α n (Zz L)=true:=Yi fun i _=>by simp only [Zz];rw [Xk.back]
theorem x4t (L:List α) (off n:Nat):isT α n (fun k=>Zz L (off+k))=true:=Yi fun i _=>by simp only [Zz];rw [Xk.back]
theorem w4n (g:Nat→List AVal):isT α 0 g=true:=Yi fun i h=>absurd h (AJ _)
theorem u1k (g:Nat→List AVal) (h0:g 0=Xk.cells (Xk.of (g 0):α)):isT α 1 g=true:=Yi fun i h=>by
 grind
theorem u1j (g:Nat→List AVal) (h0:g 0=Xk.cells (Xk.of (g 0):α)) (h1:g 1=Xk.cells (Xk.of (g 1):α)):isT α 2 g=true:=Yi fun i h=>by
 grind
theorem w4o {n:Nat} {g:Nat→List AVal} (h:isT α n g=true): ∀i,i<n→g i=Zz (lst α n g) i:=fun i hi=>by
 rw [Ut h i hi]
 grind [Zz,Xz,lst]
theorem Xa (L:List α):z0q (Zz L)=true:=Yi fun _=>Xk.flat _
theorem w9b {sz:Nat} (L:List α) (n:Nat) (h:sz=Xk.w α):y6b sz n (Zz L)=true:=Yi fun _ _=>⟨by rw [h];exact Xk.len _,Xk.sc _⟩
theorem w9c {sz:Nat} (L:List α) (off n:Nat) (h:sz=Xk.w α):y6b sz n (fun k=>Zz L (off+k))=true:=Yi fun _ _=>⟨by rw [h];exact Xk.len _,Xk.sc _⟩
theorem w0z {sz N off m:Nat} {G:Nat→List AVal} (h:y6b sz N G=true) (hb:decide (off+m≤N)=true):y6b sz m (fun k=>G (off+k))=true:=Yi fun i hi=>by have hb:=Av hb;exact Ut h (off+i) (by omega)
theorem v5w {sz n N m:Nat} {G:Nat→List AVal} {cells:List AVal} (h:y6b sz n G=true) (hN:N=n+m) (hc:cells.length=m*sz) (hs:cells.all z9u=true):y6b sz N (Zh G 0 n sz cells)=true:=Yi fun i hi=>by
 unfold Zh;by_cases e:n≤i
 ·rw [u2p e,Ab];have:(i - n)*sz+sz≤m*sz:=by
   have:=AC sz (show i - n+1≤m by omega)
   grind
  grind
 ·rw [u2q e,Aa,Af];exact Ut h i (by omega)
theorem w2v {L M:List α} {n N sz:Nat} {G:Nat→List AVal} {cells:List AVal} (h:Je n G (Zz L)=true) (hn:n=L.length) (hN:N=n+M.length) (hsz:sz=Xk.w α) (hc:cells=(M.map Xk.cells).flatten):Je N (Zh G 0 n sz cells) (Zz (L++M))=true:=by
 grind [v1x,Zz,y0c,Xk.len,Xz]
theorem w3n {L:List α} {r k:Nat} {y:α} (hk:k<L.length):rd (L.set r y) k=if k=r then y else rd L k:=by
 grind [Xz]
theorem x0r {L:List α} {n r fo:Nat} {G:Nat→List AVal} {cs:List AVal} {y:α} (h:Je n G (Zz L)=true) (hn:n=L.length) (hy:Xk.cells y=(Xk.cells (rd L r)).take fo++cs++(Xk.cells (rd L r)).drop (fo+cs.length)):Je n (Yt G r fo cs) (Zz (L.set r y))=true:=by
 subst hn;refine Yi fun i hi=> ?_;unfold Yt;simp only [Zz];rw [w3n hi];cases e:Nat.beq i r with
 | true=>have:=Aj e;subst this;rw [Ab,AK rfl,Ut h i hi,hy];rfl
 | false=>
  have:i≠r:=fun q=>by simp_all
  rw [Aa,AF this,Ut h i hi];rfl
theorem v8k {n:Nat} {cs:List AVal} {y:α} {G:Nat→List AVal} (hG:G=fun _=>cs) (hy:Xk.cells y=cs):Je n G (Zz (List.replicate n y))=true:=Yi fun i hi=>by
 grind [Zz,Xz]
theorem v1v {L M:List α} {n m N:Nat} {G H:Nat→List AVal} (h:Je n G (Zz L)=true) (hn:n=L.length) (h':Je m H (Zz M)=true) (hN:N=n+m):Je N (Vp G n H) (Zz (L++M))=true:=by
 subst hn;refine Yi fun i hi=> ?_;unfold Vp;by_cases e:L.length≤i
 ·rw [u2p e,Ab,Ut h' _ (by omega)];grind [Zz,y4s]
 ·rw [u2q e,Aa,Ut h i (by omega)];grind [Zz,y7c]
def lenR (n:Nat) (g:Nat→List AVal) (sz:Nat):Bool:=pd (∀i,i<n→(g i).length =sz)
theorem v4m {sz:Nat} (L:List α) (n:Nat) (h:sz=Xk.w α):lenR n (Zz L) sz=true:=Yi fun _ _=>by rw [h];exact Xk.len _
theorem w8f {sz n:Nat} {L:List α} {off:Nat} (h:sz=Xk.w α):lenR n (fun k=>Zz L (off+k)) sz=true:=Yi fun _ _=>by rw [h];exact Xk.len _
def Ky (L:List α) (off n:Nat):List α:=(List.range n).map fun k=>rd L (off+k)
theorem y0v (L:List α) (off n:Nat):(Ky L off n).length =n:=by simp [Ky]
theorem x1b {L:List α} {off n k:Nat} (h:k<n):rd (Ky L off n) k=rd L (off+k):=by
 grind [Xz,Ky]
theorem w6k {L:List α} {N off n:Nat} {G:Nat→List AVal} (h:Je N G (Zz L)=true) (hb:decide (off+n≤N)=true):Je n (fun k=>G (off+k)) (Zz (Ky L off n))=true:=Yi fun i hi=>by have hb:=Av hb;simp only [Zz];rw [x1b hi,Ut h _ (by omega)];rfl
theorem w6j {L:List α} {off n:Nat}:Je n (fun k=>Zz L (off+k)) (Zz (Ky L off n))=true:=Yi fun i hi=>by simp only [Zz];rw [x1b hi]
theorem Uj (L:List α):lst α L.length (fun k=>Zz L (0+k))=L:=by
 grind [Zp]
theorem v4l (L:List α) (off n:Nat):lst α n (fun k=>Zz L (off+k))=Ky L off n:=by
 grind [lst,Ky,Zz,Xk.back]
theorem u1l (L:List Int):isI (Zz L)=true:=Yi rfl
theorem Ks (L:List Int):Ye L.length (cOf (Zz L))=L:=Zp L
def v5z (L:List α) (off n:Nat) (M:List α):List α:=(List.range L.length).map fun k=>bif Nat.ble off k&&Nat.ble (k+1) (off+n) then rd M (k - off) else rd L k
theorem z2y (L:List α) (off n:Nat) (M:List α):(v5z L off n M).length =L.length:=by simp [v5z]
theorem v3d {L M:List α} {off n k:Nat} (h:k<L.length):rd (v5z L off n M) k=bif Nat.ble off k&&Nat.ble (k+1) (off+n) then rd M (k - off) else rd L k:=by
 grind [Xz,v5z]
theorem v8m {L M:List α} {N off n m:Nat} {G H:Nat→List AVal} (h:Je N G (Zz L)=true) (hN:N=L.length) (h':Je m H (Zz M)=true) (hm:n≤m):Je N (Vg G off n H) (Zz (v5z L off n M))=true:=by
 subst hN;refine Yi fun i hi=> ?_;unfold Vg;simp only [Zz];rw [v3d hi];cases e:(Nat.ble off i&&Nat.ble (i+1) (off+n)) with
 | true=>simp only [Ac] at e;have e1:=Ak e.1;have e2:=Ak e.2;rw [Ab,Ab,Ut h' _ (by omega)];rfl
 | false=>rw [Aa,Aa,Ut h i hi];rfl
theorem v1u (z g:Nat→List AVal) (n:Nat):Je n (Vg z 0 (Nat.min n n) g) g=true:=Yi fun i hi=>by unfold Vg;rw [show Nat.min n n=n from Nat.min_self n,Af,AV (AA i),AV hi];rfl
theorem v5e {g h:Nat→List AVal} {off n:Nat} (p:z0q g=true) (q:z0q h=true):z0q (Vg g off n h)=true:=Yi fun i=>by
 unfold Vg;cases (Nat.ble off i&&Nat.ble (i+1) (off+n)) with
 | true=>exact Ut q _
 | false=>exact Ut p _
end
theorem Wy {P:Program} {rs:List ResultVar} {σ:Type} {cfg:σ→Cfg} {C C':Cfg} (g:y1r P C C'): ∀{o:Xx σ},Xy P rs cfg C' o→Xy P rs cfg C o
 | .stuck,_=>trivial
 | .ret _,⟨D,h,h2,h3⟩=>⟨D,g.trans h,h2,h3⟩
 | .to _,h=>g.trans h
theorem w4z : ∀{az bs:List AVal} (i:Nat) {t u:T AVal},Vz VLe az bs→ELe t u→ELe (z9y az i t) (z9y bs i u)
 | _,_,i,t,u,.nil,h=>h
 | _,_,i,t,u,.cons (a:=a) (b:=b) h1 h2,h=>by
  refine w4z (i+1) h2 fun s=> ?_;rw [T.get_set,T.get_set];by_cases e:s=i
  ·rw [AK e,AK e];exact ⟨fun ρ v hv=>h1.sound hv,fun q=>by subst q;exact h1.of_undef⟩
  ·rw [AF e,AF e];exact h s
theorem x5e {P:Program} {f:FuncId} {az bs:List AVal} {vs:List AVal} (h:Vz VLe az bs) (k:Uz P (Zy P f) (Zg P f bs true []) vs):Uz P (Zy P f) (Zg P f az true []) vs:=by
 obtain ⟨C',g,h2,h3⟩:=k;refine ⟨C',y1r.trans ?_ g,h2,h3⟩;unfold Zg;cases P.funcs[f]? with
 | none=>exact y1r.refl _
 | some fn=>simp only;rw [h.length];exact z9v (w4z 0 h (ELe.refl _)) .nil (fun b x' hb=>absurd hb (AJ _)) (Aq _) fun hbd b hb=>hbd b hb
theorem w5h {P:Program} {S:Specs} (hS:Zv P S) {f:FuncId} {F:List AVal→Option (AVal×Bool)} (hf:(P.funcs[f]?).any (fun fn=>fn.body.isSome)=true)
  (hF: ∀args v,F args=some (v,true)→ ∃bs vs,Vz VLe args bs∧Un vs=v∧Uz P (Zy P f) (Zg P f bs true []) vs∧ ∃d,pf d v=true):Zv P (S.with f F):=
 v0k hS hf fun args v h=>by obtain ⟨bs,vs,h1,h2,h3,d,h4⟩:=hF args v h;exact ⟨vs,h2,x5e h1 h3,d,h4⟩
def asL (α:Type) [Xk α]:AVal→Option (List α×(Nat→List AVal)×Nat)
 | .nils =>some ([],fun _=>[],0)
 | .dat n g=>some (lst α n g,g,n)
 | _=>none
theorem Yc {α:Type} [Xk α] {v:AVal} {L:List α} {g:Nat→List AVal} {n:Nat} (h:asL α v=some (L,g,n)) (ho:isT α n g=true):VLe v (.dat L.length (Zz L)):=by
 unfold asL at h;split at h
 ·simp only [Ae,Ad] at h;obtain ⟨rfl,_,_⟩:=h;exact .nild _
 ·simp only [Ae,Ad] at h;obtain ⟨rfl,rfl,rfl⟩:=h;rw [y9e];exact .dat _ _ _ (w4o ho)
 ·cases h
open Go.ChangeShapes Go.WideShapes Go.Deep
section
variable {P:Program}
def x1p (P:Program) (rec:TypeId→Option (List IntKind)):List Field→Nat→Option (List IntKind)
 | [],_=>some []
 | f::r,o=>bif Nat.beq f.offset o then match rec f.type with
   | some ks=>bif Nat.beq (P.cellsOf f.type) ks.length then (x1p P rec r (o+ks.length)).map (ks++ ·) else none
   | none=>none
  else none
def y5k (P:Program):Nat→TypeId→Option (List IntKind)
 | 0,_=>none
 | d+1,t=>match P.underlying t with
  | some (.int k)=>some [k]
  | some (.struct fs)=>match x1p P (y5k P d) fs.toList 0 with
   | some ks=>bif Nat.beq (P.cellsOf t) ks.length then some ks else none
   | none=>none
  | _=>none
def u2y (ks:List IntKind) (cs:List Value):Prop:= ∃ns:List Int,ns.length=ks.length∧cs=List.zipWith Value.int ks ns∧ ∀p∈List.zip ks ns,p.1.has p.2
theorem u2y.append {a b:List IntKind} {x y:List Value} (h:u2y a x) (k:u2y b y):u2y (a++b) (x++y):=by
 obtain ⟨ns,h1,rfl,h3⟩:=h;obtain ⟨ms,k1,rfl,k3⟩:=k;refine ⟨ns++ms,by simp [h1,k1],?_,fun p hp=> ?_⟩;all_goals grind
theorem u2y.length {ks:List IntKind} {cs:List Value} (h:u2y ks cs):cs.length=ks.length:=by obtain ⟨ns,h1,rfl,_⟩:=h;simp [h1]
variable {HH:Type} {enc:TypeId×Value→HH} {w:World} {base:Nat} {spare:Nat→Bool} {held:Bool}
theorem y0w {rec:TypeId→Option (List IntKind)} (hr: ∀t ks,rec t=some ks→ ∀fuel cs x,DataW.trod enc P w base spare held fuel t cs=some x→u2y ks cs) (cs:List Value):
  ∀(l:List Field) (o:Nat) (ks:List IntKind),x1p P rec l o=some ks→o+ks.length≤cs.length→(∀f∈l,∃fuel x,DataW.trod enc P w base spare held fuel f.type ((cs.drop f.offset).take (P.cellsOf f.type))=some x)→u2y ks ((cs.drop o).take ks.length)
 | [],o,ks,h,_,_=>by obtain rfl:=Ag h;exact ⟨[],rfl,by simp,by simp⟩
 | f::r,o,ks,h,hl,hf=>by
  unfold x1p at h;obtain ⟨ho,h⟩:=Yz h;obtain rfl:=Aj ho;split at h
  ·rename_i ks1 h1;obtain ⟨hc,h⟩:=Yz h;have hc:=Aj hc;simp only [An] at h;obtain ⟨ks2,h2,rfl⟩:=h;obtain ⟨fuel,x,hx⟩:=hf f (by simp);have i1:=hr _ _ h1 _ _ _ hx;rw [hc] at i1;rw [AO] at hl;have i2:=y0w hr cs r _ ks2 h2 (by omega) fun g hg=>hf g (by simp [hg]);have:(cs.drop f.offset).take (ks1++ks2).length =(cs.drop f.offset).take ks1.length++(cs.drop (f.offset+ks1.length)).take ks2.length:=by rw [AO,List.take_add,List.drop_drop]
   rw [this];exact i1.append i2
  ·cases h
theorem z2u : ∀(d:Nat) (t:TypeId) (ks:List IntKind),y5k P d t=some ks→ ∀(fuel:Nat) (cs:List Value) (x:DataW HH×List MemPlace),DataW.trod enc P w base spare held fuel t cs=some x→u2y ks cs
 | 0,_,_,h=>by cases h
 | d +1,t,ks,h=>by
  intro fuel cs x hx;unfold y5k at h;split at h
  ·rename_i k hk;obtain rfl:=Ag h;obtain ⟨m,rfl,_,hw⟩:=DataW.trod_int hk hx;refine ⟨[m],rfl,rfl,fun p hp=> ?_⟩;simp_all [Lit.wf,IntKind.has]
  ·rename_i fs hs;split at h
   ·rename_i ks1 h1;obtain ⟨hc,h⟩:=Yz h;obtain rfl:=Ag h;have hc:=Aj hc;obtain ⟨xs,n,_,_,hl,dG,hf⟩:=DataW.trod_struct hs hx;have hl:cs.length=ks1.length:=hl.trans hc;have:=y0w (fun t ks ht fuel cs x hx=>z2u d t ks ht fuel cs x hx) cs fs.toList 0 ks1 h1 (by omega) fun f hf'=>by
     obtain ⟨j,hj,rfl⟩:=AR hf';have hj2:j<fs.size:=(by grind);have:=hf j fs[j] (by simp [hj2])
     grind
    grind
   ·cases h
  ·cases h
def x0w (ks:List IntKind) (c:Nat→Int):List AVal:=List.zipWith AVal.int ks ((List.range ks.length).map c)
theorem v2j (ks:List IntKind) (c:Nat→Int) (j:Nat) (h:j<(x0w ks c).length): ∃hk:j<ks.length,(x0w ks c)[j]=.int ks[j] (c j):=by
 grind [x0w]
theorem u2i {e:TypeId} {ks:List IntKind} (hk:y5k P 30 e=some ks) {blk off len cap m fl:Nat} {D:Nat→DataW HH} {Pl:Nat→List MemPlace} (hl:len≤cap) (hlm:len≤m)
  (hi: ∀i,i<m→ ∃cs',w.cells? base ((⟨blk,off,none⟩:Addr).add (i*P.cellsOf e)) (P.cellsOf e)=some cs'∧DataW.trod enc P w base spare held fl e cs'=some (D i,Pl i)):
  ∃c:Nat→Nat→Int,Zt (z1k fun k=>w.heap[k]?) (.dat len (fun i=>x0w ks (c i))) (.slice (some ⟨blk,off,none⟩) len cap)∧ ∀i,i<len→ ∀(j:Nat) (k:IntKind),ks[j]? =some k→k.has (c i j):=by
 have key: ∀i,i<len→ ∃ns:List Int,ns.length=ks.length∧(∀j,j<ks.length→ ∃k,ks[j]? =some k∧w.cell? ⟨blk,off+(i*ks.length+j),none⟩=some (.int k (ns.getD j 0))∧k.has (ns.getD j 0)):=by
  intro i hil;obtain ⟨cs',hc',ht'⟩:=hi i (by omega);have I:=z2u 30 e ks hk _ _ _ ht';obtain ⟨_,dG,eH⟩:=World.cells?_some hc';have hce:P.cellsOf e=ks.length:=by rw [←dG];exact I.length
  obtain ⟨ns,n1,n2,n3⟩:=I;refine ⟨ns,n1,fun j hj=> ?_⟩;have hj2:j<ns.length:=by omega
  refine ⟨ks[j],by simp [hj],?_,?_⟩
  ·grind [Xb]
  ·have:(ks[j],ns[j])∈List.zip ks ns:=by
    rw [BH]
    grind
   grind
 let c:Nat→Nat→Int:=fun i j=>if hil:i<len then ((key i hil).choose).getD j 0 else 0
 have hcs: ∀i,i<len→ ∀j,j<ks.length→ ∃k,ks[j]? =some k∧w.cell? ⟨blk,off+(i*ks.length+j),none⟩=some (.int k (c i j))∧k.has (c i j):=by
  grind
 refine ⟨c,.dat len _ blk off ks.length cap (fun i j=>.int (ks.getD j .i64) (c i j)) hl (fun i _=>by simp [x0w]) (fun i j hil hj=> ?_) (fun i j hil hj=> ?_),fun i hil j k hkj=> ?_⟩
 ·obtain ⟨hk2,e2⟩:=v2j ks (c i) j hj;rw [e2];have:ks.getD j .i64 =ks[j]:=by simp [hk2]
  rw [this];exact .int _ _
 ·obtain ⟨k,e1,e2,_⟩:=hcs i hil j hj;have:ks.getD j .i64 =k:=by simp [e1]
  rw [this];unfold World.cell? at e2;split at e2
  ·rename_i cl el fz hb2;simp only [Option.isSome_none,Bool.false_eq_true,if_false] at e2;exact ⟨cl,el,fz,hb2,e2⟩
  ·cases e2
 grind
end
open Go.Proofs.Tryz
open Go.Proofs
def namedB (P:Program):Bool:=P.funcs.toList.all fun fn=>fn.body.isNone|| !(fn.name == "runtime.NumGoroutine")
theorem u0v {P:Program} (h:namedB P=true):z8w P:=by
 intro f fn hf hb;have hm:fn∈P.funcs.toList:=by rw [Array.mem_toList_iff];exact Array.mem_of_getElem? hf
 have:=Ar.mp h fn hm;cases hbb:fn.body with
 | none=>rw [hbb] at hb;cases hb
 | some b=>simpa [hbb] using this
theorem named :z8w prog:=u0v (by kernel_rfl)
theorem mixed :prog.follows .mixedOrders =true:=by kernel_rfl
end Go.Am
namespace Go.Am
open IntKind (wrap)
open Go.Proofs.Tryz
open Go.Proofs
instance {α :Type} [Xk α]:Xk (List α) where
 w:=1
 d:=[]
 cells l:=[.dat l.length (Zz l)]
 of cs:=match cs.getD 0 .undef with
  | .dat n g=>lst α n g
  | _=>[]
 len _:=rfl
 pos:=Aq 1
 flat _:=rfl
 sc _:=rfl
 back l:=Zp l
theorem x7d {α:Type} [Xk α] {L:List α} {n off sz:Nat} {cells:List AVal} (hn:n=L.length) (hsz:sz=Xk.w α) (hc:(cells.drop off).take (n*sz)=(L.map Xk.cells).flatten):Je n (z5m cells off sz) (Zz L)=true:=Yi fun i hi=>by
 have e:((((cells.drop off).take (n*sz)).drop (i*sz)).take sz)=(cells.drop (off+i*sz)).take sz:=by rw [List.drop_take,List.take_take,List.drop_drop,Nat.min_eq_left];have:=AC sz (show i+1≤n by omega);rw [AQ,BO] at this;omega
 have h:=y0c (sz:=sz) (L.map Xk.cells) i (fun x hx=>by obtain ⟨y,_,rfl⟩:=AP.1 hx;rw [Xk.len,hsz]) (by simpa using by omega);unfold z5m;rw [←e,hc,h];simp only [Zz];rw [Xz (show i<L.length by omega),List.getD_eq_getElem?_getD,List.getElem?_map,Au (show i<L.length by omega)];rfl
theorem v8l {G H:Nat→List AVal} (h:G 0=H 0):Je 1 G H=true:=Yi fun i hi=>by
 obtain rfl:i=0:=by omega
 exact h
theorem w8r {L:List AVal} (s t:Nat) (h:L.all (pf 6)=true):z0q (fun k=>(L.drop (k*s)).take t)=true:=Yi fun i=>
 Ar.2 fun v hv=>Ar.1 h v (List.mem_of_mem_drop (List.mem_of_mem_take hv))
structure OB where
 b:Bool
 h:b=true
def nn :OB:=⟨true,rfl⟩
def pp (q r:OB):OB:=⟨q.b&&r.b,y4y q.h r.h⟩
def tt {c v:Bool} (k:c=v) (r:OB):OB:=⟨(c == v)&&r.b,y4y (v3s k) r.h⟩
def ww {c:Bool} (k:c=true) (r:OB):OB:=⟨c&&r.b,y4y k r.h⟩
def fl {α:Type} [Xk α] (L:List α) (r:OB):OB:=⟨z0q (Zz L)&&r.b,y4y (Xa L) r.h⟩
theorem bne_f {a b:Int} (k:(a == b)=false):((a != b) == true)=true:=by unfold bne;rw [k];rfl
def yt {c:Bool} (k:c=true) (r:OB):OB:=⟨c&&r.b,y4y k r.h⟩
def xw {c:Bool} (k:c=true):OB:=⟨c,k⟩
def xI (α:Type) [Xk α] (n:Nat) (g:Nat→List AVal) (h:isT α n g=true:=by first | with_reducible exact y3i _ _ | exact y3i _ _ | exact w4n _ | exact x4t _ _ _ | assumption | exact u1k _ rfl | exact u1j _ rfl rfl):OB:=⟨isT α n g,h⟩
def xr {α:Type} [Xk α] (L:List α):OB:=⟨isT α L.length (Zz L),y3i L _⟩
def xL (a b:Nat) (h:x1n a b=true:=by first | exact Vt rfl | exact Vt (by simp only [AO,BI,Bx,BF,z2y,y0v,List.length_replicate] <;> omega) | assumption):OB:=⟨x1n a b,h⟩
def xS (n:Nat) (G H:Nat→List AVal) (h:Je n G H=true:=by
  repeat' (first | exact y2f _ _ | assumption | exact v1t _ _ | exact v8l rfl | exact w6j | exact x7d rfl rfl rfl | rfl | (refine w2v ?_ ?_ rfl rfl rfl) | (refine x0r ?_ ?_ rfl) | exact v1u _ _ _ | (refine v8m ?_ ?_ ?_ (Nat.min_le_left _ _)) | exact w6k (by repeat' (first | exact y2f _ _ | (refine w2v ?_ ?_ rfl rfl rfl) | (refine x0r ?_ ?_ rfl) | (simp only [AO,BI,Bx,BF,z2y];done) | omega)) (by assumption) | (refine v1v ?_ ?_ ?_ rfl) | exact v1w (y2f _ _) rfl | apply x7c | exact v8k rfl rfl | exact Af _ | (simp only [AO,BI,Bx,BF,z2y,y0v,List.length_replicate] <;> omega))):OB:=⟨Je n G H,h⟩
def xF (G:Nat→List AVal) (h:z0q G=true:=by
  repeat' (first | with_reducible exact Xa _ | apply v5g | apply v5d | apply v5f | apply v5e | exact Xa _ | exact w8s | exact w0p _ _ | exact w8r _ _ rfl | apply y5t | rfl | assumption)):OB:=⟨z0q G,h⟩
def xZ (v:AVal) (n:Nat) (g:Nat→List AVal) (h:v4z v n g=true:=by first | exact u1q _ _ _ | exact v4y _ _):OB:=⟨v4z v n g,h⟩
def xG (c:Bool) (h:c=true:=by
  repeat' (first | with_reducible (first | assumption | exact Nat.beq_refl _ | exact x4h _ | exact u0u _ | exact v3x _ | exact u2e _ | exact v4a _ | apply y4y | apply v3s) | rfl | exact u1l _ | exact w9b _ _ rfl | exact w9c _ _ _ rfl | exact v4m _ _ rfl | exact w8f rfl | exact v8w rfl rfl (fun _=>rfl) | (refine w0z ?_ (by assumption)) | (refine v5w ?_ rfl rfl rfl) | exact y3i _ _ | exact w4n _ | exact x4t _ _ _ | exact Xa _ | apply y5t | apply y4y | apply v3s)):OB:=⟨c,h⟩
def kpB (n:Nat) (l:List BP):List BP:=Nat.rec l (fun _ r=>.keep ::r) n
abbrev tn (n:Int):Nat:=Int.toNat n
abbrev ii (n:Int):AVal:=.int .i64 n
abbrev wr (n:Int):Int:=wrap .i64 n
def trs (n:Nat) (l:List Bool):List Bool:=Nat.rec l (fun _ r=>true::r) n
theorem sl {S:Specs} (hS:Zv prog S) (n:Nat) (gs:List (TypeId×Nat×(Nat→List AVal))) (N:z9a) (L:Less) (orc:List Bool) (ob:OB) {C C':Cfg}
  (h:(((u1i prog S (j0n prog S 100000 4) n (C.withO orc)).map (w4s gs)).bind (u0q prog N)).map (w8e L)=some (C'.withB ob.b):=by kernel_rfl) (hfl:fl0 C=true:=by rfl):y1r prog C C':=
 v7h named mixed hS gs N L orc ob.b h ob.h hfl
def rC (n f:Nat) (p:List Nat) (j r:Nat) (env:List (Nat×AVal)):Cfg:=⟨⟨n,0,true⟩,none,Zc prog f p j,none,Zy prog r,⟨Yj env,Wn [] 0,0,[],true⟩,[],.leaf⟩
theorem lr {σ:Type} {cfg:σ→Cfg} {C:Cfg} {rs:List ResultVar} {vs:List AVal} (n f:Nat) (p:List Nat) (j r:Nat) (env:List (Nat×AVal)) (h:y1r prog C (rC n f p j r env)) (hf:z5t (rC n f p j r env)=true:=by rfl)
  (hr:Kg prog (rC n f p j r env).st rs=some vs:=by kernel_rfl):Xy prog rs cfg C (.ret vs):=Kp _ h hf hr
theorem lb {rs:List ResultVar} {σ:Type} {cfg:σ→Cfg} {C:Cfg} {c:Bool} {a b:Xx σ} (ha:c=true→Xy prog rs cfg C a) (hb:c=false→Xy prog rs cfg C b):Xy prog rs cfg C (bif c then a else b):=w4l ha hb
theorem lo {rs:List ResultVar} {σ:Type} {cfg:σ→Cfg} {C:Cfg} {c:Bool} {a:Xx σ} (ha:c=true→Xy prog rs cfg C a):Xy prog rs cfg C (bif c then a else .stuck):=u1g ha
inductive rsortS where
 | h0 (v3:List Int) (v4:Int)
 | h1 (v3:List Int) (v4:Int) (v5:Int)
abbrev Jc (v3:List Int) (v5:Int) (l0:List Int) (v4:Int):=((v5z (v3++[0]) (0+(tn (wr (v5+1)))) (Nat.min ((v3.length+1) - (tn v5)) ((v3.length+1) - (tn (wr (v5+1))))) (Ky (v3++[0]) (0+(tn v5)) ((v3.length+1) - (tn v5)))).set (0+(tn v5)) (rd l0 (tn v4)))
abbrev Qu (v3:List Int):=(Zh (Zz v3) 0 v3.length 1 [(ii 0)])
abbrev y2k (v3:List Int) (v5:Int):=(Nat.min ((v3.length+1) - (tn v5)) ((v3.length+1) - (tn (wr (v5+1)))))
def v2e (l0:List Int):rsortS→Cfg
 | .h0 v3 v4=>⟨⟨63,0,true⟩,none,(Zc prog 124 [1,1,0,1,0,0] 0),none,(Zy prog 9),⟨Yj [(0,(.dat l0.length (Zz l0))),(3,(.sla 0 1 0 v3.length (.un 1))),(4,(ii v4))],Wn [⟨Yk v3.length (Zz v3),3,some ⟨1,v3.length,(Zz v3)⟩⟩] 0,1,[],true⟩,[],.leaf⟩
 | .h1 v3 v4 v5=>⟨⟨63,0,true⟩,none,(Zc prog 124 [1,1,0,1,0,0,1,0,0,1,0,0,0] 0),none,(Zy prog 9),⟨Yj [(0,(.dat l0.length (Zz l0))),(3,(.sla 0 1 0 v3.length (.un 1))),(4,(ii v4)),(5,(ii v5))],Wn [⟨Yk v3.length (Zz v3),3,some ⟨1,v3.length,(Zz v3)⟩⟩] 0,1,[],true⟩,[],.leaf⟩
def x0u :List (Option (List Nat)):=[some [0,3,4]]
def x0v :List (Option (List Nat)):=[]
def v2c :List (Option (List Nat)):=[some [0,3,4,5]]
def v2d :List (Option (List Nat)):=[]
def Ux (l0:List Int):rsortS→Xx rsortS
 | .h0 v3 v4=>(bif (decide (v4<(l0.length:Int))) then (.to (.h1 v3 v4 (v3.length:Int))) else (.ret [(.dat v3.length (Zz v3))]))
 | .h1 v3 v4 v5=>(bif (decide (v5>0)) then (bif ((decide (0≤(wrap .i64 (v5 - 1))∧(wrap .i64 (v5 - 1))<(v3.length:Int)))&&true) then (bif (decide ((0+(Int.toNat (wrap .i64 (v5 - 1))))<v3.length)) then (bif ((decide (0≤v4∧v4<(l0.length:Int)))&&true) then (bif (decide ((rd v3 (0+(Int.toNat (wrap .i64 (v5 - 1)))))>(rd l0 v4.toNat))) then (.to (.h1 v3 v4 (wrap .i64 (v5 - 1)))) else (bif ((rd v3 (0+(Int.toNat (wrap .i64 (v5 - 1))))) == (rd l0 v4.toNat)) then (.to (.h0 v3 (wrap .i64 (v4+1)))) else (bif (Nat.beq 1 1&&((decide (0+v3.length=v3.length))&&decide ((v3.length+1+1)*(8+1)≤room))) then (bif (true&&((decide (0≤(wrap .i64 (v5+1))))&&(decide ((v3.length+1)≤(v3.length+1))&&decide ((Int.toNat (wrap .i64 (v5+1)))≤(v3.length+1))))) then (bif (true&&((decide (0≤v5))&&(decide ((v3.length+1)≤(v3.length+1))&&decide (v5.toNat≤(v3.length+1))))) then (bif (decide ((0+v5.toNat)+((v3.length+1) - v5.toNat)≤(v3.length+1))) then (bif (decide ((0+(Int.toNat (wrap .i64 (v5+1))))+((v3.length+1) - (Int.toNat (wrap .i64 (v5+1))))≤(v3.length+1))) then (bif ((decide (0≤v5∧v5<(((v3.length+1):Nat):Int)))&&true) then (bif (decide ((0+v5.toNat)<(v3.length+1))) then (.to (.h0 ((v5z (v3++[0]) (0+(Int.toNat (wrap .i64 (v5+1)))) (Nat.min ((v3.length+1) - v5.toNat) ((v3.length+1) - (Int.toNat (wrap .i64 (v5+1))))) (Ky (v3++[0]) (0+v5.toNat) ((v3.length+1) - v5.toNat))).set (0+v5.toNat) (rd l0 v4.toNat)) (wrap .i64 (v4+1)))) else .stuck) else .stuck) else .stuck) else .stuck) else .stuck) else .stuck) else .stuck))) else .stuck) else .stuck) else .stuck) else (bif (Nat.beq 1 1&&((decide (0+v3.length=v3.length))&&decide ((v3.length+1+1)*(8+1)≤room))) then (bif (true&&((decide (0≤(wrap .i64 (v5+1))))&&(decide ((v3.length+1)≤(v3.length+1))&&decide ((Int.toNat (wrap .i64 (v5+1)))≤(v3.length+1))))) then (bif (true&&((decide (0≤v5))&&(decide ((v3.length+1)≤(v3.length+1))&&decide (v5.toNat≤(v3.length+1))))) then (bif (decide ((0+v5.toNat)+((v3.length+1) - v5.toNat)≤(v3.length+1))) then (bif (decide ((0+(Int.toNat (wrap .i64 (v5+1))))+((v3.length+1) - (Int.toNat (wrap .i64 (v5+1))))≤(v3.length+1))) then (bif ((decide (0≤v4∧v4<(l0.length:Int)))&&true) then (bif ((decide (0≤v5∧v5<(((v3.length+1):Nat):Int)))&&true) then (bif (decide ((0+v5.toNat)<(v3.length+1))) then (.to (.h0 ((v5z (v3++[0]) (0+(Int.toNat (wrap .i64 (v5+1)))) (Nat.min ((v3.length+1) - v5.toNat) ((v3.length+1) - (Int.toNat (wrap .i64 (v5+1))))) (Ky (v3++[0]) (0+v5.toNat) ((v3.length+1) - v5.toNat))).set (0+v5.toNat) (rd l0 v4.toNat)) (wrap .i64 (v4+1)))) else .stuck) else .stuck) else .stuck) else .stuck) else .stuck) else .stuck) else .stuck) else .stuck))
def z4w (l0:List Int):Xx rsortS:=(.to (.h0 ([]:List Int) 0))
theorem x3i (l0:List Int): ∀s,Xy prog (Zy prog 124) (v2e l0) (v2e l0 s) (Ux l0 s)
 | .h0 v3 v4=>(lb (fun k0=>(sl Za 21 [] ⟨[0],[],v2c,v2d⟩ ⟨[],[],[]⟩ [true] (pp (fl v3 nn) (tt k0 nn)))) (fun k0=>(lr 63 3 [1,1,1,1,0] 1 9 [(2,(.dat v3.length (Zz v3)))] (sl Za 15 [] ⟨[],[0],[some [2]],[]⟩ ⟨[(2,.frz v3.length v3.length (Zz v3) (Zz v3))],[],[]⟩ [false] (pp (xZ (z1o 1 1 0 v3.length v3.length (Zz v3)) v3.length (Zz v3)) (pp (xL v3.length v3.length) (pp (xS v3.length (Zz v3) (Zz v3)) (pp (fl v3 nn) (tt k0 nn)))))))))
 | .h1 v3 v4 v5=>(lb (fun k0=>(lo fun aI=>(lo fun bD=>(lo fun cD=>(lb (fun k1=>(sl Za 13 [] ⟨[0],[],v2c,v2d⟩ ⟨[],[],[]⟩ (trs 11 []) (pp (fl v3 nn) (tt k1 (ww cD (ww bD (ww aI (tt k0 nn)))))))) (fun k1=>(lb (fun k2=>(sl Za 16 [] ⟨[0],[],x0u,x0v⟩ ⟨[],[],[]⟩ (trs 10 (bl 12 4094)) (pp (fl v3 nn) (tt k2 (ww cD (ww bD (ww aI (tt k0 (tt k1 (ww cD (ww bD (ww aI (tt k0 nn))))))))))))) (fun k2=>(lo fun o0=>(lo fun o1=>(lo fun o2=>(lo fun o3=>(lo fun o4=>(lo fun o5=>(lo fun o6=>(sl Za 36 [] ⟨[2],[],x0u,x0v⟩ ⟨[(3,.len (Jc v3 v5 l0 v4).length)],[.rowed 1 (Jc v3 v5 l0 v4).length (Zz (Jc v3 v5 l0 v4))],[]⟩ (trs 10 (bl 12 2046)) (pp (xL (v3.length+1) (Jc v3 v5 l0 v4).length) (pp (xL (v3.length+1) (Jc v3 v5 l0 v4).length) (pp (xS (v3.length+1) (Yt (Vg (Qu v3) (0+(tn (wr (v5+1)))) (y2k v3 v5) (fun k=>(Qu v3) ((0+(tn v5))+k))) (0+(tn v5)) 0 [(ii (rd l0 (tn v4)))]) (Zz (Jc v3 v5 l0 v4))) (pp (pp (xF (Yt (Vg (Qu v3) (0+(tn (wr (v5+1)))) (y2k v3 v5) (fun k=>(Qu v3) ((0+(tn v5))+k))) (0+(tn v5)) 0 [(ii (rd l0 (tn v4)))])) nn) (ww o6 (ww o5 (ww cD (pp (pp (xG (Nat.beq 1 1)) (pp (xG (Nat.beq 1 1)) (pp (xw o4) (pp (xG (Nat.beq 1 1)) (pp (xG (Nat.beq 1 1)) (pp (xG (decide ((0+(tn v5))+((v3.length+1) - (tn v5))≤(v3.length+1)))) (xG (y6b 1 ((v3.length+1) - (tn v5)) (fun k=>(Qu v3) ((0+(tn v5))+k)))))))))) (ww o2 (ww o1 (ww o0 (tt k2 (ww cD (ww bD (ww aI (tt k0 (tt k1 (ww cD (ww bD (ww aI (tt k0 nn))))))))))))))))))))))))))))))))))))) (fun k0=>(lo fun o0=>(lo fun o1=>(lo fun o2=>(lo fun o3=>(lo fun o4=>(lo fun o5=>(lo fun o6=>(lo fun o7=>(sl Za 36 [] ⟨[2],[],x0u,x0v⟩ ⟨[(3,.len (Jc v3 v5 l0 v4).length)],[.rowed 1 (Jc v3 v5 l0 v4).length (Zz (Jc v3 v5 l0 v4))],[]⟩ (bl 22 0) (pp (xL (v3.length+1) (Jc v3 v5 l0 v4).length) (pp (xL (v3.length+1) (Jc v3 v5 l0 v4).length) (pp (xS (v3.length+1) (Yt (Vg (Qu v3) (0+(tn (wr (v5+1)))) (y2k v3 v5) (fun k=>(Qu v3) ((0+(tn v5))+k))) (0+(tn v5)) 0 [(ii (rd l0 (tn v4)))]) (Zz (Jc v3 v5 l0 v4))) (pp (pp (xF (Yt (Vg (Qu v3) (0+(tn (wr (v5+1)))) (y2k v3 v5) (fun k=>(Qu v3) ((0+(tn v5))+k))) (0+(tn v5)) 0 [(ii (rd l0 (tn v4)))])) nn) (ww o7 (ww o6 (ww o5 (pp (pp (xG (Nat.beq 1 1)) (pp (xG (Nat.beq 1 1)) (pp (xw o4) (pp (xG (Nat.beq 1 1)) (pp (xG (Nat.beq 1 1)) (pp (xG (decide ((0+(tn v5))+((v3.length+1) - (tn v5))≤(v3.length+1)))) (xG (y6b 1 ((v3.length+1) - (tn v5)) (fun k=>(Qu v3) ((0+(tn v5))+k)))))))))) (ww o2 (ww o1 (ww o0 (tt k0 (tt k0 nn))))))))))))))))))))))))
theorem x0t (l0:List Int):Xy prog (Zy prog 124) (v2e l0) (Zg prog 124 [(.dat l0.length (Zz l0))] true []) (z4w l0):=(sl Za 15 [(3,1,Zz ([]:List Int))] ⟨[0],[],x0u,x0v⟩ ⟨[(3,.grow 0 1)],[],[]⟩ [] (pp (fl ([]:List Int) nn) nn))
theorem w6q (l0:List Int) (n:Nat) (vs:List AVal) (h:Zr (Ux l0) n (z4w l0)=.ret vs):Uz prog (Zy prog 124) (Zg prog 124 [(.dat l0.length (Zz l0))] true []) vs:=by have:=Zd (x3i l0) n _ (x0t l0);rwa [h] at this
inductive rcanS where
 | h0 (v5:List R2) (v6:Int)
def j2g (l0:List Int) (l1:List Bool):rcanS→Cfg
 | .h0 v5 v6=>⟨⟨61,0,true⟩,none,(Zc prog 131 [1,1,0,1,0,0] 0),none,(Zy prog 6),⟨Yj [(0,(.dat l0.length (Zz l0))),(1,(.dat l1.length (Zz l1))),(5,(.sla 0 2 0 v5.length (.un 2))),(6,(ii v6))],Wn [⟨Yk v5.length (Zz v5),176,some ⟨2,v5.length,(Zz v5)⟩⟩] 0,1,[],true⟩,[],.leaf⟩
def x3z :List (Option (List Nat)):=[some [0,1,5,6]]
def x4a :List (Option (List Nat)):=[]
def z0b (l0:List Int) (l1:List Bool):rcanS→Xx rcanS
 | .h0 v5 v6=>(bif (decide ((wrap .i64 (v6+1))<(l0.length:Int))) then (bif ((decide (0≤v6∧v6<(l1.length:Int)))&&true) then (bif (!(rd l1 v6.toNat)) then (.to (.h0 v5 (wrap .i64 (v6+1)))) else (bif (decide ((v5.length:Int)>0)) then (bif ((decide (0≤(wrap .i64 ((v5.length:Int) - 1))∧(wrap .i64 ((v5.length:Int) - 1))<(v5.length:Int)))&&true) then (bif (decide ((0+(Int.toNat (wrap .i64 ((v5.length:Int) - 1))))<v5.length)) then (bif ((decide (0≤v6∧v6<(l0.length:Int)))&&true) then (bif ((rd v5 (0+(Int.toNat (wrap .i64 ((v5.length:Int) - 1))))).b == (rd l0 v6.toNat)) then (bif ((decide (0≤(wrap .i64 (v6+1))∧(wrap .i64 (v6+1))<(l0.length:Int)))&&true) then (.to (.h0 (v5.set (0+(Int.toNat (wrap .i64 ((v5.length:Int) - 1)))) (R2.mk (rd v5 (0+(Int.toNat (wrap .i64 ((v5.length:Int) - 1))))).a (rd l0 (Int.toNat (wrap .i64 (v6+1)))))) (wrap .i64 (v6+1)))) else .stuck) else (bif ((decide (0≤(wrap .i64 (v6+1))∧(wrap .i64 (v6+1))<(l0.length:Int)))&&true) then (bif (Nat.beq 2 2&&((decide (0+v5.length=v5.length))&&decide ((v5.length+1+1)*(16+1)≤room))) then (.to (.h0 (v5++[(R2.mk (rd l0 v6.toNat) (rd l0 (Int.toNat (wrap .i64 (v6+1)))))]) (wrap .i64 (v6+1)))) else .stuck) else .stuck)) else .stuck) else .stuck) else .stuck) else (bif ((decide (0≤v6∧v6<(l0.length:Int)))&&true) then (bif ((decide (0≤(wrap .i64 (v6+1))∧(wrap .i64 (v6+1))<(l0.length:Int)))&&true) then (bif (Nat.beq 2 2&&((decide (0+v5.length=v5.length))&&decide ((v5.length+1+1)*(16+1)≤room))) then (.to (.h0 (v5++[(R2.mk (rd l0 v6.toNat) (rd l0 (Int.toNat (wrap .i64 (v6+1)))))]) (wrap .i64 (v6+1)))) else .stuck) else .stuck) else .stuck))) else .stuck) else (.ret [(.dat v5.length (Zz v5))]))
def z7x (l0:List Int) (l1:List Bool):Xx rcanS:=(.to (.h0 ([]:List R2) 0))
theorem x8t (l0:List Int) (l1:List Bool): ∀s,Xy prog (Zy prog 131) (j2g l0 l1) (j2g l0 l1 s) (z0b l0 l1 s)
 | .h0 v5 v6=>(lb (fun k0=>(lo fun aI=>(lb (fun k1=>(sl Za 30 [] ⟨[0],[],x3z,x4a⟩ ⟨[],[],[]⟩ (bl 2 3) (pp (fl v5 nn) (tt k1 (ww aI (tt k0 nn)))))) (fun k1=>(lb (fun k2=>(lo fun cE=>(lo fun dB=>(lo fun dC=>(lb (fun k3=>(lo fun o0=>(sl Za 53 [] ⟨[0],[],x3z,x4a⟩ ⟨[(5,.len (v5.set (0+(tn (wr ((v5.length:Int) - 1)))) (R2.mk (rd v5 (0+(tn (wr ((v5.length:Int) - 1))))).a (rd l0 (tn (wr (v6+1)))))).length)],[.rowed 2 (v5.set (0+(tn (wr ((v5.length:Int) - 1)))) (R2.mk (rd v5 (0+(tn (wr ((v5.length:Int) - 1))))).a (rd l0 (tn (wr (v6+1)))))).length (Zz (v5.set (0+(tn (wr ((v5.length:Int) - 1)))) (R2.mk (rd v5 (0+(tn (wr ((v5.length:Int) - 1))))).a (rd l0 (tn (wr (v6+1)))))))],[]⟩ (bl 14 16381) (pp (xL v5.length (v5.set (0+(tn (wr ((v5.length:Int) - 1)))) (R2.mk (rd v5 (0+(tn (wr ((v5.length:Int) - 1))))).a (rd l0 (tn (wr (v6+1)))))).length) (pp (xL v5.length (v5.set (0+(tn (wr ((v5.length:Int) - 1)))) (R2.mk (rd v5 (0+(tn (wr ((v5.length:Int) - 1))))).a (rd l0 (tn (wr (v6+1)))))).length) (pp (xS v5.length (Yt (Zz v5) (0+(tn (wr ((v5.length:Int) - 1)))) 1 [(ii (rd l0 (tn (wr (v6+1)))))]) (Zz (v5.set (0+(tn (wr ((v5.length:Int) - 1)))) (R2.mk (rd v5 (0+(tn (wr ((v5.length:Int) - 1))))).a (rd l0 (tn (wr (v6+1)))))))) (pp (pp (xF (Yt (Zz v5) (0+(tn (wr ((v5.length:Int) - 1)))) 1 [(ii (rd l0 (tn (wr (v6+1)))))])) nn) (ww dB (ww cE (ww o0 (tt k3 (ww dC (ww dB (ww cE (tt k2 (tt k1 (ww aI (tt k0 nn)))))))))))))))))) (fun k3=>(lo fun o0=>(lo fun o1=>(sl Za 41 [] ⟨[2],[],x3z,x4a⟩ ⟨[(5,.len (v5++[(R2.mk (rd l0 (tn v6)) (rd l0 (tn (wr (v6+1)))))]).length)],[.rowed 2 (v5++[(R2.mk (rd l0 (tn v6)) (rd l0 (tn (wr (v6+1)))))]).length (Zz (v5++[(R2.mk (rd l0 (tn v6)) (rd l0 (tn (wr (v6+1)))))]))],[]⟩ (bl 14 8189) (pp (xL (v5.length+1) (v5++[(R2.mk (rd l0 (tn v6)) (rd l0 (tn (wr (v6+1)))))]).length) (pp (xL (v5.length+1) (v5++[(R2.mk (rd l0 (tn v6)) (rd l0 (tn (wr (v6+1)))))]).length) (pp (xS (v5.length+1) (Zh (Zz v5) 0 v5.length 2 [(ii (rd l0 (tn v6))),(ii (rd l0 (tn (wr (v6+1)))))]) (Zz (v5++[(R2.mk (rd l0 (tn v6)) (rd l0 (tn (wr (v6+1)))))]))) (pp (pp (xF (Zh (Zz v5) 0 v5.length 2 [(ii (rd l0 (tn v6))),(ii (rd l0 (tn (wr (v6+1)))))])) nn) (ww o1 (ww o0 (ww dC (tt k3 (ww dC (ww dB (ww cE (tt k2 (tt k1 (ww aI (tt k0 nn)))))))))))))))))))))))) (fun k2=>(lo fun o0=>(lo fun o1=>(lo fun o2=>(sl Za 41 [] ⟨[2],[],x3z,x4a⟩ ⟨[(5,.len (v5++[(R2.mk (rd l0 (tn v6)) (rd l0 (tn (wr (v6+1)))))]).length)],[.rowed 2 (v5++[(R2.mk (rd l0 (tn v6)) (rd l0 (tn (wr (v6+1)))))]).length (Zz (v5++[(R2.mk (rd l0 (tn v6)) (rd l0 (tn (wr (v6+1)))))]))],[]⟩ (bl 14 1) (pp (xL (v5.length+1) (v5++[(R2.mk (rd l0 (tn v6)) (rd l0 (tn (wr (v6+1)))))]).length) (pp (xL (v5.length+1) (v5++[(R2.mk (rd l0 (tn v6)) (rd l0 (tn (wr (v6+1)))))]).length) (pp (xS (v5.length+1) (Zh (Zz v5) 0 v5.length 2 [(ii (rd l0 (tn v6))),(ii (rd l0 (tn (wr (v6+1)))))]) (Zz (v5++[(R2.mk (rd l0 (tn v6)) (rd l0 (tn (wr (v6+1)))))]))) (pp (pp (xF (Zh (Zz v5) 0 v5.length 2 [(ii (rd l0 (tn v6))),(ii (rd l0 (tn (wr (v6+1)))))])) nn) (ww o2 (ww o1 (ww o0 (tt k2 (tt k1 (ww aI (tt k0 nn))))))))))))))))))))) (fun k0=>(lr 61 3 [1,1,1,1,0] 1 6 [(4,(.dat v5.length (Zz v5)))] (sl Za 16 [] ⟨[],[0],[some [4]],[]⟩ ⟨[(4,.frz v5.length v5.length (Zz v5) (Zz v5))],[],[]⟩ [false] (pp (xZ (z1o 2 2 0 v5.length v5.length (Zz v5)) v5.length (Zz v5)) (pp (xL v5.length v5.length) (pp (xS v5.length (Zz v5) (Zz v5)) (pp (fl v5 nn) (tt k0 nn)))))))))
theorem x3y (l0:List Int) (l1:List Bool):Xy prog (Zy prog 131) (j2g l0 l1) (Zg prog 131 [(.dat l0.length (Zz l0)),(.dat l1.length (Zz l1))] true []) (z7x l0 l1):=(sl Za 15 [(176,2,Zz ([]:List R2))] ⟨[0],[],x3z,x4a⟩ ⟨[(5,.grow 0 2)],[],[]⟩ [] (pp (fl ([]:List R2) nn) nn))
theorem v3k (l0:List Int) (l1:List Bool) (n:Nat) (vs:List AVal) (h:Zr (z0b l0 l1) n (z7x l0 l1)=.ret vs):Uz prog (Zy prog 131) (Zg prog 131 [(.dat l0.length (Zz l0)),(.dat l1.length (Zz l1))] true []) vs:=by have:=Zd (x8t l0 l1) n _ (x3y l0 l1);rwa [h] at this
inductive rsmS where
 | h0 (v5:Int)
def rsmC (l0:List R2) (l1:List R2):rsmS→Cfg
 | .h0 v5=>⟨⟨26,0,true⟩,none,(Zc prog 132 [1,1,0,1,0,0] 0),none,(Zy prog 6),⟨Yj [(0,(.dat l0.length (Zz l0))),(1,(.dat l1.length (Zz l1))),(5,(ii v5))],Wn [] 0,0,[],true⟩,[],.leaf⟩
def rsmN0 :List (Option (List Nat)):=[some [0,1,5]]
def rsmM0 :List (Option (List Nat)):=[]
def z6i (l0:List R2) (l1:List R2):rsmS→Xx rsmS
 | .h0 v5=>(bif (decide (v5<(l0.length:Int))) then (bif ((decide (0≤v5∧v5<(l0.length:Int)))&&true) then (bif ((decide (0≤v5∧v5<(l1.length:Int)))&&true) then (bif (!(((rd l0 v5.toNat).a == (rd l1 v5.toNat).a)&&(((rd l0 v5.toNat).b == (rd l1 v5.toNat).b)&&true))) then (.ret [(.bool false)]) else (.to (.h0 (wrap .i64 (v5+1))))) else .stuck) else .stuck) else (.ret [(.bool true)]))
def z7j (l0:List R2) (l1:List R2):Xx rsmS:=(bif ((l0.length:Int) != (l1.length:Int)) then (.ret [(.bool false)]) else (.to (.h0 0)))
theorem w6r (l0:List R2) (l1:List R2): ∀s,Xy prog (Zy prog 132) (rsmC l0 l1) (rsmC l0 l1 s) (z6i l0 l1 s)
 | .h0 v5=>(lb (fun k0=>(lo fun aI=>(lo fun bD=>(lb (fun k1=>(lr 26 132 [1,1,0,1,0,0,1,0,0,1,0,0] 1 6 [(4,(.bool false))] (sl Za 19 [] ⟨[],[],[some [4]],[]⟩ ⟨[],[],[]⟩ (bl 2 3) (tt k1 (ww bD (ww aI (tt k0 nn))))))) (fun k1=>(sl Za 23 [] ⟨[],[],rsmN0,rsmM0⟩ ⟨[],[],[]⟩ (bl 2 1) (tt k1 (ww bD (ww aI (tt k0 nn)))))))))) (fun k0=>(lr 26 3 [1,1,1,1,0] 1 6 [(4,(.bool true))] (sl Za 14 [] ⟨[],[],[some [4]],[]⟩ ⟨[],[],[]⟩ [false] (tt k0 nn)))))
theorem x7k (l0:List R2) (l1:List R2):Xy prog (Zy prog 132) (rsmC l0 l1) (Zg prog 132 [(.dat l0.length (Zz l0)),(.dat l1.length (Zz l1))] true []) (z7j l0 l1):=(lb (fun k0=>(lr 26 132 [1,0,1,0,0] 1 6 [(4,(.bool false))] (sl Za 18 [] ⟨[],[],[some [4]],[]⟩ ⟨[],[],[]⟩ [true] (tt k0 nn)))) (fun k0=>(sl Za 22 [] ⟨[],[],rsmN0,rsmM0⟩ ⟨[],[],[]⟩ [false] (tt k0 nn))))
theorem v8s (l0:List R2) (l1:List R2) (n:Nat) (vs:List AVal) (h:Zr (z6i l0 l1) n (z7j l0 l1)=.ret vs):Uz prog (Zy prog 132) (Zg prog 132 [(.dat l0.length (Zz l0)),(.dat l1.length (Zz l1))] true []) vs:=by have:=Zd (w6r l0 l1) n _ (x7k l0 l1);rwa [h] at this
inductive rhasS where
 | h0 (v7:Int)
def j1u (l0:List R4) (x1:Int) (x2:Int):rhasS→Cfg
 | .h0 v7=>⟨⟨48,0,true⟩,none,(Zc prog 130 [1,0,1,0,0] 0),none,(Zy prog 3),⟨Yj [(0,(.dat l0.length (Zz l0))),(1,(ii x1)),(2,(ii x2)),(7,(ii v7))],Wn [] 0,0,[],true⟩,[],.leaf⟩
def x3q :List (Option (List Nat)):=[some [0,1,2,7]]
def x3r :List (Option (List Nat)):=[]
def z4z (l0:List R4) (x1:Int) (x2:Int):rhasS→Xx rhasS
 | .h0 v7=>(bif (decide (v7<(l0.length:Int))) then (bif ((decide (0≤v7∧v7<(l0.length:Int)))&&true) then (bif (decide ((rd l0 v7.toNat).a ≤x1)) then (bif (decide (x1<(rd l0 v7.toNat).c)) then (bif (decide ((rd l0 v7.toNat).b ≤x2)) then (bif (decide (x2<(rd l0 v7.toNat).d)) then (.ret [(.bool true)]) else (.to (.h0 (wrap .i64 (v7+1))))) else (.to (.h0 (wrap .i64 (v7+1))))) else (.to (.h0 (wrap .i64 (v7+1))))) else (.to (.h0 (wrap .i64 (v7+1))))) else .stuck) else (.ret [(.bool false)]))
def z7q (l0:List R4) (x1:Int) (x2:Int):Xx rhasS:=(.to (.h0 0))
theorem x8f (l0:List R4) (x1:Int) (x2:Int): ∀s,Xy prog (Zy prog 130) (j1u l0 x1 x2) (j1u l0 x1 x2 s) (z4z l0 x1 x2 s)
 | .h0 v7=>(lb (fun k0=>(lo fun aI=>(lb (fun k1=>(lb (fun k2=>(lb (fun k3=>(lb (fun k4=>(lr 48 130 [1,0,1,0,0,1,0,0,1,0,0] 1 3 [(6,(.bool true))] (sl Za 54 [] ⟨[],[],[some [6]],[]⟩ ⟨[],[],[]⟩ (trs 23 []) (tt k4 (ww aI (tt k3 (ww aI (tt k2 (ww aI (tt k1 (ww aI (tt k0 nn)))))))))))) (fun k4=>(sl Za 58 [] ⟨[],[],x3q,x3r⟩ ⟨[],[],[]⟩ (trs 22 [false]) (tt k4 (ww aI (tt k3 (ww aI (tt k2 (ww aI (tt k1 (ww aI (tt k0 nn))))))))))))) (fun k3=>(sl Za 58 [] ⟨[],[],x3q,x3r⟩ ⟨[],[],[]⟩ (trs 15 (bl 8 0)) (tt k3 (ww aI (tt k2 (ww aI (tt k1 (ww aI (tt k0 nn))))))))))) (fun k2=>(sl Za 58 [] ⟨[],[],x3q,x3r⟩ ⟨[],[],[]⟩ (trs 8 (bl 15 0)) (tt k2 (ww aI (tt k1 (ww aI (tt k0 nn))))))))) (fun k1=>(sl Za 58 [] ⟨[],[],x3q,x3r⟩ ⟨[],[],[]⟩ (bl 23 1) (tt k1 (ww aI (tt k0 nn)))))))) (fun k0=>(lr 48 3 [1,1,1,1,0] 1 3 [(6,(.bool false))] (sl Za 14 [] ⟨[],[],[some [6]],[]⟩ ⟨[],[],[]⟩ [false] (tt k0 nn)))))
theorem x3p (l0:List R4) (x1:Int) (x2:Int):Xy prog (Zy prog 130) (j1u l0 x1 x2) (Zg prog 130 [(.dat l0.length (Zz l0)),(.int .i64 x1),(.int .i64 x2)] true []) (z7q l0 x1 x2):=(sl Za 11 [] ⟨[],[],x3q,x3r⟩ ⟨[],[],[]⟩ [] nn)
theorem v2r (l0:List R4) (x1:Int) (x2:Int) (n:Nat) (vs:List AVal) (h:Zr (z4z l0 x1 x2) n (z7q l0 x1 x2)=.ret vs):Uz prog (Zy prog 130) (Zg prog 130 [(.dat l0.length (Zz l0)),(.int .i64 x1),(.int .i64 x2)] true []) vs:=by have:=Zd (x8f l0 x1 x2) n _ (x3p l0 x1 x2);rwa [h] at this
inductive rsrS where
 | h0 (v5:Int)
def rsrC (l0:List R4) (l1:List R4):rsrS→Cfg
 | .h0 v5=>⟨⟨26,0,true⟩,none,(Zc prog 109 [1,1,0,1,0,0] 0),none,(Zy prog 6),⟨Yj [(0,(.dat l0.length (Zz l0))),(1,(.dat l1.length (Zz l1))),(5,(ii v5))],Wn [] 0,0,[],true⟩,[],.leaf⟩
def rsrN0 :List (Option (List Nat)):=[some [0,1,5]]
def rsrM0 :List (Option (List Nat)):=[]
def z6g (l0:List R4) (l1:List R4):rsrS→Xx rsrS
 | .h0 v5=>(bif (decide (v5<(l0.length:Int))) then (bif ((decide (0≤v5∧v5<(l0.length:Int)))&&true) then (bif ((decide (0≤v5∧v5<(l1.length:Int)))&&true) then (bif (!(((rd l0 v5.toNat).a == (rd l1 v5.toNat).a)&&(((rd l0 v5.toNat).b == (rd l1 v5.toNat).b)&&(((rd l0 v5.toNat).c == (rd l1 v5.toNat).c)&&(((rd l0 v5.toNat).d == (rd l1 v5.toNat).d)&&true))))) then (.ret [(.bool false)]) else (.to (.h0 (wrap .i64 (v5+1))))) else .stuck) else .stuck) else (.ret [(.bool true)]))
def z7i (l0:List R4) (l1:List R4):Xx rsrS:=(bif ((l0.length:Int) != (l1.length:Int)) then (.ret [(.bool false)]) else (.to (.h0 0)))
theorem w6o (l0:List R4) (l1:List R4): ∀s,Xy prog (Zy prog 109) (rsrC l0 l1) (rsrC l0 l1 s) (z6g l0 l1 s)
 | .h0 v5=>(lb (fun k0=>(lo fun aI=>(lo fun bD=>(lb (fun k1=>(lr 26 109 [1,1,0,1,0,0,1,0,0,1,0,0] 1 6 [(4,(.bool false))] (sl Za 19 [] ⟨[],[],[some [4]],[]⟩ ⟨[],[],[]⟩ (bl 2 3) (tt k1 (ww bD (ww aI (tt k0 nn))))))) (fun k1=>(sl Za 23 [] ⟨[],[],rsrN0,rsrM0⟩ ⟨[],[],[]⟩ (bl 2 1) (tt k1 (ww bD (ww aI (tt k0 nn)))))))))) (fun k0=>(lr 26 3 [1,1,1,1,0] 1 6 [(4,(.bool true))] (sl Za 14 [] ⟨[],[],[some [4]],[]⟩ ⟨[],[],[]⟩ [false] (tt k0 nn)))))
theorem x7i (l0:List R4) (l1:List R4):Xy prog (Zy prog 109) (rsrC l0 l1) (Zg prog 109 [(.dat l0.length (Zz l0)),(.dat l1.length (Zz l1))] true []) (z7i l0 l1):=(lb (fun k0=>(lr 26 109 [1,0,1,0,0] 1 6 [(4,(.bool false))] (sl Za 18 [] ⟨[],[],[some [4]],[]⟩ ⟨[],[],[]⟩ [true] (tt k0 nn)))) (fun k0=>(sl Za 22 [] ⟨[],[],rsrN0,rsrM0⟩ ⟨[],[],[]⟩ [false] (tt k0 nn))))
theorem v8q (l0:List R4) (l1:List R4) (n:Nat) (vs:List AVal) (h:Zr (z6g l0 l1) n (z7i l0 l1)=.ret vs):Uz prog (Zy prog 109) (Zg prog 109 [(.dat l0.length (Zz l0)),(.dat l1.length (Zz l1))] true []) vs:=by have:=Zd (w6o l0 l1) n _ (x7i l0 l1);rwa [h] at this
inductive rsbS where
 | h0 (v5:Int)
def rsbC (l0:List R6) (l1:List R6):rsbS→Cfg
 | .h0 v5=>⟨⟨26,0,true⟩,none,(Zc prog 22 [1,1,0,1,0,0] 0),none,(Zy prog 6),⟨Yj [(0,(.dat l0.length (Zz l0))),(1,(.dat l1.length (Zz l1))),(5,(ii v5))],Wn [] 0,0,[],true⟩,[],.leaf⟩
def rsbN0 :List (Option (List Nat)):=[some [0,1,5]]
def rsbM0 :List (Option (List Nat)):=[]
def z6j (l0:List R6) (l1:List R6):rsbS→Xx rsbS
 | .h0 v5=>(bif (decide (v5<(l0.length:Int))) then (bif ((decide (0≤v5∧v5<(l0.length:Int)))&&true) then (bif ((decide (0≤v5∧v5<(l1.length:Int)))&&true) then (bif (!((((rd l0 v5.toNat).a == (rd l1 v5.toNat).a)&&(((rd l0 v5.toNat).b == (rd l1 v5.toNat).b)&&(((rd l0 v5.toNat).c == (rd l1 v5.toNat).c)&&true)))&&((((rd l0 v5.toNat).d == (rd l1 v5.toNat).d)&&(((rd l0 v5.toNat).e == (rd l1 v5.toNat).e)&&(((rd l0 v5.toNat).f == (rd l1 v5.toNat).f)&&true)))&&true))) then (.ret [(.bool false)]) else (.to (.h0 (wrap .i64 (v5+1))))) else .stuck) else .stuck) else (.ret [(.bool true)]))
def z7k (l0:List R6) (l1:List R6):Xx rsbS:=(bif ((l0.length:Int) != (l1.length:Int)) then (.ret [(.bool false)]) else (.to (.h0 0)))
theorem w6s (l0:List R6) (l1:List R6): ∀s,Xy prog (Zy prog 22) (rsbC l0 l1) (rsbC l0 l1 s) (z6j l0 l1 s)
 | .h0 v5=>(lb (fun k0=>(lo fun aI=>(lo fun bD=>(lb (fun k1=>(lr 26 22 [1,1,0,1,0,0,1,0,0,1,0,0] 1 6 [(4,(.bool false))] (sl Za 19 [] ⟨[],[],[some [4]],[]⟩ ⟨[],[],[]⟩ (bl 2 3) (tt k1 (ww bD (ww aI (tt k0 nn))))))) (fun k1=>(sl Za 23 [] ⟨[],[],rsbN0,rsbM0⟩ ⟨[],[],[]⟩ (bl 2 1) (tt k1 (ww bD (ww aI (tt k0 nn)))))))))) (fun k0=>(lr 26 3 [1,1,1,1,0] 1 6 [(4,(.bool true))] (sl Za 14 [] ⟨[],[],[some [4]],[]⟩ ⟨[],[],[]⟩ [false] (tt k0 nn)))))
theorem x7l (l0:List R6) (l1:List R6):Xy prog (Zy prog 22) (rsbC l0 l1) (Zg prog 22 [(.dat l0.length (Zz l0)),(.dat l1.length (Zz l1))] true []) (z7k l0 l1):=(lb (fun k0=>(lr 26 22 [1,0,1,0,0] 1 6 [(4,(.bool false))] (sl Za 18 [] ⟨[],[],[some [4]],[]⟩ ⟨[],[],[]⟩ [true] (tt k0 nn)))) (fun k0=>(sl Za 22 [] ⟨[],[],rsbN0,rsbM0⟩ ⟨[],[],[]⟩ [false] (tt k0 nn))))
theorem v8t (l0:List R6) (l1:List R6) (n:Nat) (vs:List AVal) (h:Zr (z6j l0 l1) n (z7k l0 l1)=.ret vs):Uz prog (Zy prog 22) (Zg prog 22 [(.dat l0.length (Zz l0)),(.dat l1.length (Zz l1))] true []) vs:=by have:=Zd (w6s l0 l1) n _ (x7l l0 l1);rwa [h] at this
inductive ratS where
 | h0 (v5:List R4) (v6:Int)
def ratC (l0:List R6) (x1:Int):ratS→Cfg
 | .h0 v5 v6=>⟨⟨60,0,true⟩,none,(Zc prog 108 [1,1,0,1,0,0] 0),none,(Zy prog 6),⟨Yj [(0,(.dat l0.length (Zz l0))),(1,(ii x1)),(5,(.sla 0 4 0 v5.length (.un 4))),(6,(ii v6))],Wn [⟨Yk v5.length (Zz v5),116,some ⟨4,v5.length,(Zz v5)⟩⟩] 0,1,[],true⟩,[],.leaf⟩
def u0h :List (Option (List Nat)):=[some [0,1,5,6]]
def u0i :List (Option (List Nat)):=[]
def z6o (l0:List R6) (x1:Int):ratS→Xx ratS
 | .h0 v5 v6=>(bif (decide (v6<(l0.length:Int))) then (bif ((decide (0≤v6∧v6<(l0.length:Int)))&&true) then (bif (decide ((rd l0 v6.toNat).c ≤x1)) then (bif (decide (x1<(rd l0 v6.toNat).f)) then (bif (Nat.beq 4 4&&((decide (0+v5.length=v5.length))&&decide ((v5.length+1+1)*(32+1)≤room))) then (.to (.h0 (v5++[(R4.mk (rd l0 v6.toNat).a (rd l0 v6.toNat).b (rd l0 v6.toNat).d (rd l0 v6.toNat).e)]) (wrap .i64 (v6+1)))) else .stuck) else (.to (.h0 v5 (wrap .i64 (v6+1))))) else (.to (.h0 v5 (wrap .i64 (v6+1))))) else .stuck) else (.ret [(.dat v5.length (Zz v5))]))
def y3d (l0:List R6) (x1:Int):Xx ratS:=(.to (.h0 ([]:List R4) 0))
theorem w7r (l0:List R6) (x1:Int): ∀s,Xy prog (Zy prog 108) (ratC l0 x1) (ratC l0 x1 s) (z6o l0 x1 s)
 | .h0 v5 v6=>(lb (fun k0=>(lo fun aI=>(lb (fun k1=>(lb (fun k2=>(lo fun o0=>(sl Za 42 [] ⟨[2],[],u0h,u0i⟩ ⟨[(5,.len (v5++[(R4.mk (rd l0 (tn v6)).a (rd l0 (tn v6)).b (rd l0 (tn v6)).d (rd l0 (tn v6)).e)]).length)],[.rowed 4 (v5++[(R4.mk (rd l0 (tn v6)).a (rd l0 (tn v6)).b (rd l0 (tn v6)).d (rd l0 (tn v6)).e)]).length (Zz (v5++[(R4.mk (rd l0 (tn v6)).a (rd l0 (tn v6)).b (rd l0 (tn v6)).d (rd l0 (tn v6)).e)]))],[]⟩ (trs 10 []) (pp (xL (v5.length+1) (v5++[(R4.mk (rd l0 (tn v6)).a (rd l0 (tn v6)).b (rd l0 (tn v6)).d (rd l0 (tn v6)).e)]).length) (pp (xL (v5.length+1) (v5++[(R4.mk (rd l0 (tn v6)).a (rd l0 (tn v6)).b (rd l0 (tn v6)).d (rd l0 (tn v6)).e)]).length) (pp (xS (v5.length+1) (Zh (Zz v5) 0 v5.length 4 [(ii (rd l0 (tn v6)).a),(ii (rd l0 (tn v6)).b),(ii (rd l0 (tn v6)).d),(ii (rd l0 (tn v6)).e)]) (Zz (v5++[(R4.mk (rd l0 (tn v6)).a (rd l0 (tn v6)).b (rd l0 (tn v6)).d (rd l0 (tn v6)).e)]))) (pp (pp (xF (Zh (Zz v5) 0 v5.length 4 [(ii (rd l0 (tn v6)).a),(ii (rd l0 (tn v6)).b),(ii (rd l0 (tn v6)).d),(ii (rd l0 (tn v6)).e)])) nn) (ww o0 (ww aI (ww aI (ww aI (ww aI (tt k2 (ww aI (tt k1 (ww aI (tt k0 nn))))))))))))))))) (fun k2=>(sl Za 42 [] ⟨[0],[],u0h,u0i⟩ ⟨[],[],[]⟩ (trs 9 [false]) (pp (fl v5 nn) (tt k2 (ww aI (tt k1 (ww aI (tt k0 nn)))))))))) (fun k1=>(sl Za 42 [] ⟨[0],[],u0h,u0i⟩ ⟨[],[],[]⟩ (bl 10 1) (pp (fl v5 nn) (tt k1 (ww aI (tt k0 nn))))))))) (fun k0=>(lr 60 3 [1,1,1,1,0] 1 6 [(4,(.dat v5.length (Zz v5)))] (sl Za 15 [] ⟨[],[0],[some [4]],[]⟩ ⟨[(4,.frz v5.length v5.length (Zz v5) (Zz v5))],[],[]⟩ [false] (pp (xZ (z1o 4 4 0 v5.length v5.length (Zz v5)) v5.length (Zz v5)) (pp (xL v5.length v5.length) (pp (xS v5.length (Zz v5) (Zz v5)) (pp (fl v5 nn) (tt k0 nn)))))))))
theorem x8u (l0:List R6) (x1:Int):Xy prog (Zy prog 108) (ratC l0 x1) (Zg prog 108 [(.dat l0.length (Zz l0)),(.int .i64 x1)] true []) (y3d l0 x1):=(sl Za 15 [(116,4,Zz ([]:List R4))] ⟨[0],[],u0h,u0i⟩ ⟨[(5,.grow 0 4)],[],[]⟩ [] (pp (fl ([]:List R4) nn) nn))
theorem u0g (l0:List R6) (x1:Int) (n:Nat) (vs:List AVal) (h:Zr (z6o l0 x1) n (y3d l0 x1)=.ret vs):Uz prog (Zy prog 108) (Zg prog 108 [(.dat l0.length (Zz l0)),(.int .i64 x1)] true []) vs:=by have:=Zd (w7r l0 x1) n _ (x8u l0 x1);rwa [h] at this
inductive eqaS where
 | h0 (v13:Int)
def eqaC (l0:List R2) (l1:List R2):eqaS→Cfg
 | .h0 v13=>⟨⟨26,0,true⟩,none,(Zc prog 159 [1,1,0,1,0,0] 0),none,(Zy prog 6),⟨Yj [(0,(.dat l0.length (Zz l0))),(1,(.dat l1.length (Zz l1))),(12,(ii (l0.length:Int))),(13,(ii v13))],Wn [] 0,0,[],true⟩,[],.leaf⟩
def eqaN0 :List (Option (List Nat)):=[some [0,1,12,13]]
def eqaM0 :List (Option (List Nat)):=[]
def z6v (l0:List R2) (l1:List R2):eqaS→Xx eqaS
 | .h0 v13=>(bif (decide (v13<(l0.length:Int))) then (bif ((decide (0≤v13∧v13<(l0.length:Int)))&&true) then (bif ((decide (0≤v13∧v13<(l1.length:Int)))&&true) then (bif (!(((rd l0 v13.toNat).a == (rd l1 v13.toNat).a)&&(((rd l0 v13.toNat).b == (rd l1 v13.toNat).b)&&true))) then (.ret [(.bool false)]) else (.to (.h0 (wrap .i64 (v13+1))))) else .stuck) else .stuck) else (.ret [(.bool true)]))
def z8j (l0:List R2) (l1:List R2):Xx eqaS:=(bif ((l0.length:Int) != (l1.length:Int)) then (.ret [(.bool false)]) else (.to (.h0 0)))
theorem w8y (l0:List R2) (l1:List R2): ∀s,Xy prog (Zy prog 159) (eqaC l0 l1) (eqaC l0 l1 s) (z6v l0 l1 s)
 | .h0 v13=>(lb (fun k0=>(lo fun aI=>(lo fun bD=>(lb (fun k1=>(lr 26 159 [1,1,0,1,0,0,1,1,0,0,1,1,0,0] 1 6 [(4,(.bool false))] (sl Za 21 [] ⟨[],[],[some [4]],[]⟩ ⟨[],[],[]⟩ (bl 2 3) (tt k1 (ww bD (ww aI (tt k0 nn))))))) (fun k1=>(sl Za 24 [] ⟨[],[],eqaN0,eqaM0⟩ ⟨[],[],[]⟩ (bl 2 1) (tt k1 (ww bD (ww aI (tt k0 nn)))))))))) (fun k0=>(lr 26 3 [1,1,1,1,0] 1 6 [(4,(.bool true))] (sl Za 11 [] ⟨[],[],[some [4]],[]⟩ ⟨[],[],[]⟩ [false] (tt k0 nn)))))
theorem w0t (l0:List R2) (l1:List R2):Xy prog (Zy prog 159) (eqaC l0 l1) (Zg prog 159 [(.dat l0.length (Zz l0)),(.dat l1.length (Zz l1))] true []) (z8j l0 l1):=(lb (fun k0=>(lr 26 159 [1,0,1,0,0] 1 6 [(4,(.bool false))] (sl Za 18 [] ⟨[],[],[some [4]],[]⟩ ⟨[],[],[]⟩ [true] (tt k0 nn)))) (fun k0=>(sl Za 24 [] ⟨[],[],eqaN0,eqaM0⟩ ⟨[],[],[]⟩ [false] (tt k0 nn))))
theorem u2d (l0:List R2) (l1:List R2) (n:Nat) (vs:List AVal) (h:Zr (z6v l0 l1) n (z8j l0 l1)=.ret vs):Uz prog (Zy prog 159) (Zg prog 159 [(.dat l0.length (Zz l0)),(.dat l1.length (Zz l1))] true []) vs:=by have:=Zd (w8y l0 l1) n _ (w0t l0 l1);rwa [h] at this
inductive eqbS where
 | h0 (v13:Int)
def eqbC (l0:List R4) (l1:List R4):eqbS→Cfg
 | .h0 v13=>⟨⟨26,0,true⟩,none,(Zc prog 163 [1,1,0,1,0,0] 0),none,(Zy prog 6),⟨Yj [(0,(.dat l0.length (Zz l0))),(1,(.dat l1.length (Zz l1))),(12,(ii (l0.length:Int))),(13,(ii v13))],Wn [] 0,0,[],true⟩,[],.leaf⟩
def eqbN0 :List (Option (List Nat)):=[some [0,1,12,13]]
def eqbM0 :List (Option (List Nat)):=[]
def z6u (l0:List R4) (l1:List R4):eqbS→Xx eqbS
 | .h0 v13=>(bif (decide (v13<(l0.length:Int))) then (bif ((decide (0≤v13∧v13<(l0.length:Int)))&&true) then (bif ((decide (0≤v13∧v13<(l1.length:Int)))&&true) then (bif (!(((rd l0 v13.toNat).a == (rd l1 v13.toNat).a)&&(((rd l0 v13.toNat).b == (rd l1 v13.toNat).b)&&(((rd l0 v13.toNat).c == (rd l1 v13.toNat).c)&&(((rd l0 v13.toNat).d == (rd l1 v13.toNat).d)&&true))))) then (.ret [(.bool false)]) else (.to (.h0 (wrap .i64 (v13+1))))) else .stuck) else .stuck) else (.ret [(.bool true)]))
def z8i (l0:List R4) (l1:List R4):Xx eqbS:=(bif ((l0.length:Int) != (l1.length:Int)) then (.ret [(.bool false)]) else (.to (.h0 0)))
theorem w8x (l0:List R4) (l1:List R4): ∀s,Xy prog (Zy prog 163) (eqbC l0 l1) (eqbC l0 l1 s) (z6u l0 l1 s)
 | .h0 v13=>(lb (fun k0=>(lo fun aI=>(lo fun bD=>(lb (fun k1=>(lr 26 163 [1,1,0,1,0,0,1,1,0,0,1,1,0,0] 1 6 [(4,(.bool false))] (sl Za 21 [] ⟨[],[],[some [4]],[]⟩ ⟨[],[],[]⟩ (bl 2 3) (tt k1 (ww bD (ww aI (tt k0 nn))))))) (fun k1=>(sl Za 24 [] ⟨[],[],eqbN0,eqbM0⟩ ⟨[],[],[]⟩ (bl 2 1) (tt k1 (ww bD (ww aI (tt k0 nn)))))))))) (fun k0=>(lr 26 3 [1,1,1,1,0] 1 6 [(4,(.bool true))] (sl Za 11 [] ⟨[],[],[some [4]],[]⟩ ⟨[],[],[]⟩ [false] (tt k0 nn)))))
theorem w0s (l0:List R4) (l1:List R4):Xy prog (Zy prog 163) (eqbC l0 l1) (Zg prog 163 [(.dat l0.length (Zz l0)),(.dat l1.length (Zz l1))] true []) (z8i l0 l1):=(lb (fun k0=>(lr 26 163 [1,0,1,0,0] 1 6 [(4,(.bool false))] (sl Za 18 [] ⟨[],[],[some [4]],[]⟩ ⟨[],[],[]⟩ [true] (tt k0 nn)))) (fun k0=>(sl Za 24 [] ⟨[],[],eqbN0,eqbM0⟩ ⟨[],[],[]⟩ [false] (tt k0 nn))))
theorem u2c (l0:List R4) (l1:List R4) (n:Nat) (vs:List AVal) (h:Zr (z6u l0 l1) n (z8i l0 l1)=.ret vs):Uz prog (Zy prog 163) (Zg prog 163 [(.dat l0.length (Zz l0)),(.dat l1.length (Zz l1))] true []) vs:=by have:=Zd (w8x l0 l1) n _ (w0s l0 l1);rwa [h] at this
inductive eqcS where
 | h0 (v13:Int)
def eqcC (l0:List R6) (l1:List R6):eqcS→Cfg
 | .h0 v13=>⟨⟨26,0,true⟩,none,(Zc prog 94 [1,1,0,1,0,0] 0),none,(Zy prog 6),⟨Yj [(0,(.dat l0.length (Zz l0))),(1,(.dat l1.length (Zz l1))),(12,(ii (l0.length:Int))),(13,(ii v13))],Wn [] 0,0,[],true⟩,[],.leaf⟩
def eqcN0 :List (Option (List Nat)):=[some [0,1,12,13]]
def eqcM0 :List (Option (List Nat)):=[]
def z6t (l0:List R6) (l1:List R6):eqcS→Xx eqcS
 | .h0 v13=>(bif (decide (v13<(l0.length:Int))) then (bif ((decide (0≤v13∧v13<(l0.length:Int)))&&true) then (bif ((decide (0≤v13∧v13<(l1.length:Int)))&&true) then (bif (!((((rd l0 v13.toNat).a == (rd l1 v13.toNat).a)&&(((rd l0 v13.toNat).b == (rd l1 v13.toNat).b)&&(((rd l0 v13.toNat).c == (rd l1 v13.toNat).c)&&true)))&&((((rd l0 v13.toNat).d == (rd l1 v13.toNat).d)&&(((rd l0 v13.toNat).e == (rd l1 v13.toNat).e)&&(((rd l0 v13.toNat).f == (rd l1 v13.toNat).f)&&true)))&&true))) then (.ret [(.bool false)]) else (.to (.h0 (wrap .i64 (v13+1))))) else .stuck) else .stuck) else (.ret [(.bool true)]))
def z8h (l0:List R6) (l1:List R6):Xx eqcS:=(bif ((l0.length:Int) != (l1.length:Int)) then (.ret [(.bool false)]) else (.to (.h0 0)))
theorem w8w (l0:List R6) (l1:List R6): ∀s,Xy prog (Zy prog 94) (eqcC l0 l1) (eqcC l0 l1 s) (z6t l0 l1 s)
 | .h0 v13=>(lb (fun k0=>(lo fun aI=>(lo fun bD=>(lb (fun k1=>(lr 26 94 [1,1,0,1,0,0,1,1,0,0,1,1,0,0] 1 6 [(4,(.bool false))] (sl Za 21 [] ⟨[],[],[some [4]],[]⟩ ⟨[],[],[]⟩ (bl 2 3) (tt k1 (ww bD (ww aI (tt k0 nn))))))) (fun k1=>(sl Za 24 [] ⟨[],[],eqcN0,eqcM0⟩ ⟨[],[],[]⟩ (bl 2 1) (tt k1 (ww bD (ww aI (tt k0 nn)))))))))) (fun k0=>(lr 26 3 [1,1,1,1,0] 1 6 [(4,(.bool true))] (sl Za 11 [] ⟨[],[],[some [4]],[]⟩ ⟨[],[],[]⟩ [false] (tt k0 nn)))))
theorem w0r (l0:List R6) (l1:List R6):Xy prog (Zy prog 94) (eqcC l0 l1) (Zg prog 94 [(.dat l0.length (Zz l0)),(.dat l1.length (Zz l1))] true []) (z8h l0 l1):=(lb (fun k0=>(lr 26 94 [1,0,1,0,0] 1 6 [(4,(.bool false))] (sl Za 18 [] ⟨[],[],[some [4]],[]⟩ ⟨[],[],[]⟩ [true] (tt k0 nn)))) (fun k0=>(sl Za 24 [] ⟨[],[],eqcN0,eqcM0⟩ ⟨[],[],[]⟩ [false] (tt k0 nn))))
theorem u2b (l0:List R6) (l1:List R6) (n:Nat) (vs:List AVal) (h:Zr (z6t l0 l1) n (z8h l0 l1)=.ret vs):Uz prog (Zy prog 94) (Zg prog 94 [(.dat l0.length (Zz l0)),(.dat l1.length (Zz l1))] true []) vs:=by have:=Zd (w8w l0 l1) n _ (w0r l0 l1);rwa [h] at this
inductive holS where
def holC (x0:Int) (x1:Bool) (x2:Bool):holS→Cfg
 :=nofun
def w0c (x0:Int) (x1:Bool) (x2:Bool):holS→Xx holS
 :=nofun
def y3k (x0:Int) (x1:Bool) (x2:Bool):Xx holS:=(bif (x0 == 1) then (bif x1 then (.ret [(.bool x2)]) else (.ret [(.bool false)])) else (bif (x0 == 2) then (bif x1 then (.ret [(.bool true)]) else (.ret [(.bool x2)])) else (bif x1 then (.ret [(.bool (!x2))]) else (.ret [(.bool false)]))))
theorem w8l (x0:Int) (x1:Bool) (x2:Bool): ∀s,Xy prog (Zy prog 129) (holC x0 x1 x2) (holC x0 x1 x2 s) (w0c x0 x1 x2 s)
 :=nofun
theorem w0d (x0:Int) (x1:Bool) (x2:Bool):Xy prog (Zy prog 129) (holC x0 x1 x2) (Zg prog 129 [(.int .i64 x0),(.bool x1),(.bool x2)] true []) (y3k x0 x1 x2):=(lb (fun k0=>(lb (fun k1=>(lr 24 129 [1,0,1,0,0] 1 3 [(6,(.bool x2))] (sl Za 19 [] ⟨[],[],[some [6]],[]⟩ ⟨[],[],[]⟩ [true,true] (tt k1 (tt k0 nn))))) (fun k1=>(lr 24 129 [1,0,1,0,0] 1 3 [(6,(.bool false))] (sl Za 19 [] ⟨[],[],[some [6]],[]⟩ ⟨[],[],[]⟩ [true,false] (tt k1 (tt k0 nn))))))) (fun k0=>(lb (fun k1=>(lb (fun k2=>(lr 24 129 [1,1,0,1,0,0] 1 3 [(6,(.bool true))] (sl Za 27 [] ⟨[],[],[some [6]],[]⟩ ⟨[],[],[]⟩ [false,true,true] (tt k2 (tt k1 (tt k0 nn)))))) (fun k2=>(lr 24 129 [1,1,0,1,0,0] 1 3 [(6,(.bool x2))] (sl Za 27 [] ⟨[],[],[some [6]],[]⟩ ⟨[],[],[]⟩ [false,true,false] (tt k2 (tt k1 (tt k0 nn)))))))) (fun k1=>(lb (fun k2=>(lr 24 3 [1,1,1,1,0] 1 3 [(6,(.bool (!x2)))] (sl Za 29 [] ⟨[],[],[some [6]],[]⟩ ⟨[],[],[]⟩ [false,false,true,true] (tt k2 (tt k1 (tt k0 nn)))))) (fun k2=>(lr 24 3 [1,1,1,1,0] 1 3 [(6,(.bool false))] (sl Za 29 [] ⟨[],[],[some [6]],[]⟩ ⟨[],[],[]⟩ [false,false,false,false] (tt k2 (tt k1 (tt k0 nn)))))))))))
theorem u1o (x0:Int) (x1:Bool) (x2:Bool) (n:Nat) (vs:List AVal) (h:Zr (w0c x0 x1 x2) n (y3k x0 x1 x2)=.ret vs):Uz prog (Zy prog 129) (Zg prog 129 [(.int .i64 x0),(.bool x1),(.bool x2)] true []) vs:=by have:=Zd (w8l x0 x1 x2) n _ (w0d x0 x1 x2);rwa [h] at this
inductive fstS where
def fstC (x0:Bool) (x1:Bool):fstS→Cfg
 :=nofun
def w0g (x0:Bool) (x1:Bool):fstS→Xx fstS
 :=nofun
def x1v (x0:Bool) (x1:Bool):Xx fstS:=(.ret [(.bool x0)])
theorem w8n (x0:Bool) (x1:Bool): ∀s,Xy prog (Zy prog 180) (fstC x0 x1) (fstC x0 x1 s) (w0g x0 x1 s)
 :=nofun
theorem w0h (x0:Bool) (x1:Bool):Xy prog (Zy prog 180) (fstC x0 x1) (Zg prog 180 [(.bool x0),(.bool x1)] true []) (x1v x0 x1):=(lr 6 3 [1,1,1,1,0] 1 6 [(4,(.bool x0))] (sl Za 9 [] ⟨[],[],[some [4]],[]⟩ ⟨[],[],[]⟩ [] nn))
theorem u1p (x0:Bool) (x1:Bool) (n:Nat) (vs:List AVal) (h:Zr (w0g x0 x1) n (x1v x0 x1)=.ret vs):Uz prog (Zy prog 180) (Zg prog 180 [(.bool x0),(.bool x1)] true []) vs:=by have:=Zd (w8n x0 x1) n _ (w0h x0 x1);rwa [h] at this
theorem Zs {a b:Int} (h:a<b):decide (a<b)=true:=Al h
theorem Yb {a b:Int} (h: ¬a<b):decide (a<b)=false:=Az h
theorem Xo {a b:Int} (h:a≤b):decide (a≤b)=true:=Al h
theorem w0y {a b:Int} (h: ¬a≤b):decide (a≤b)=false:=Az h
theorem Yn {a b:Int} (h:a>b):decide (a>b)=true:=Al h
theorem Xi {a b:Int} (h: ¬a>b):decide (a>b)=false:=Az h
theorem dge_t {a b:Int} (h:a≥b):decide (a≥b)=true:=Al h
theorem Yv {a b:Nat} (h:a<b):decide (a<b)=true:=Al h
theorem Ya {a b:Nat} (h:a≤b):decide (a≤b)=true:=Al h
theorem Yu {a b:Nat} (h:a=b):decide (a=b)=true:=Al h
theorem Zn {a b:Int} (h:0≤a∧a<b):decide (0≤a∧a<b)=true:=Al h
theorem Ze {a:Nat} (h:a≤1099511627776):decide (a≤room)=true:=Al h
theorem Zj {n:Int} (h: -9223372036854775808≤n∧n≤9223372036854775807):wrap .i64 n=n:=w_in h.1 h.2
theorem z2b :((0:Nat):Int)=0:=rfl
theorem Zx (i:Nat):(i:Int)+1=((i+1:Nat):Int):=rfl
theorem Zo (i:Nat):((i+1:Nat):Int) - 1=(i:Int):=by omega
theorem z0t {a b:Int} (h:a≠b):(a != b)=true:=by simp [h]
theorem z0u {a b:Int} (h:a=b):(a != b)=false:=by simp [h]
theorem Yp (n:Nat):Nat.beq n n=true:=Nat.beq_refl n
theorem Zk (n:Nat):Int.toNat (n:Int)=n:=Int.toNat_natCast n
theorem Yy (b:Bool):b=true∨b=false:=by cases b <;> simp
theorem Yg {α:Type} [Xk α] {L:List α} {i:Nat} (h:i<L.length):L.drop i=rd L i::L.drop (i+1):=by rw [Xz h];exact Bs h
theorem Qe {P:Program} {S:Specs} (hS:Zv P S) {f:FuncId} {F:List AVal→Option (AVal×Bool)} (hf:(P.funcs[f]?).any (fun fn=>fn.body.isSome)=true)
  (hF: ∀args v,F args=some (v,true)→ ∃bs vs,Vz VLe args bs∧Un vs=v∧Uz P (Zy P f) (Zg P f bs true []) vs∧ ∃d,pf d v=true):Zv P (S.with f F):=w5h hS hf hF
def x8z (out:List Int) (x:Int):Nat→Nat
 | 0=>0
 | k+1=>bif decide (rd out k>x) then x8z out x k else k+1
def y9k (out:List Int) (x:Int):List Int:=
 match x8z out x out.length with
 | 0=>x::out
 | k+1=>bif rd out k == x then out else out.take (k+1)++x::out.drop (k+1)
def z0y (l:List Int):List Int:=l.foldl y9k []
def Jp (l:List Int):Bool:=decide (l.length≤1000000)
theorem y5o (out:List Int) (x:Int):(y9k out x).length ≤out.length+1:=by
 grind [y9k]
theorem x4u (out:List Int) (x:Int) (k:Nat) (hk:k≤out.length):
  (v5z (out++[0]) (k+1) (Nat.min (out.length+1 - k) (out.length+1 - (k+1))) (Ky (out++[0]) k (out.length+1 - k))).set k x=out.take k++x::out.drop k:=by
 have hm:Nat.min (out.length+1 - k) (out.length+1 - (k+1))=out.length - k:=by
  grind
 rw [hm];apply BJ
 ·simp [z2y];omega
 ·intro i h1 h2;have hi:i<out.length+1:=by grind
  rw [←Xz h1,←Xz h2]
  grind [w3n,Xz,v3d,u2q,u2p,x1b]
theorem w2w (l:List Int) (out:List Int) (i:Nat) (hi:i<l.length) (hl:l.length≤1000000) (ho:out.length≤i): ∀(k N:Nat),k≤out.length→
  (x8z out (rd l i) out.length=x8z out (rd l i) k)→ ∃m,∀N,Zr (Ux l) (N+m) (.to (.h1 out (i:Int) (k:Int)))=Zr (Ux l) N (.to (.h0 (y9k out (rd l i)) ((i+1:Nat):Int)))
 | 0,N,hk,hp=>by
  refine ⟨1,fun N=> ?_⟩;have hins:y9k out (rd l i)=(v5z (out++[0]) (0+1) (Nat.min (out.length+1 - 0) (out.length+1 - (0+1))) (Ky (out++[0]) 0 (out.length+1 - 0))).set 0 (rd l i):=by rw [x4u out _ 0 (AA _)];unfold y9k;rw [hp];rfl
  rw [hins,Zw];simp (disch:=omega) only [Ux,Ze,Ao,Xi,Zs,Xo,Yv,Ya,Yu,Zn,Zj,Zx,Yp,Zk,Af,Ah,Ai,Ab,Aa]
 | k +1,N,hk,hp=>by
  rcases Yy (decide (rd out k>rd l i)) with h | h
  ·have hp':x8z out (rd l i) out.length=x8z out (rd l i) k:=by grind [x8z]
   obtain ⟨m,hm⟩:=w2w l out i hi hl ho k N (by omega) hp';refine ⟨m+1,fun N=> ?_⟩;rw [←hm N,←AG,Zw];simp (disch:=omega) only [Ux,Zo,h,Ze,Ao,Yn,Zs,Xo,Yv,Ya,Yu,Zn,Zj,Zx,Yp,Zk,Af,Ah,Ai,Ab,Aa]
  ·have hpk:x8z out (rd l i) out.length=k+1:=by rw [hp];unfold x8z;rw [h];rfl
   refine ⟨1,fun N=> ?_⟩;rw [Zw];rcases Yy (rd out k == rd l i) with q | q
   ·have hins:y9k out (rd l i)=out:=(by grind [y9k]);rw [hins];simp (disch:=omega) only [Ux,Zo,h,q,Ze,Ao,Yn,Zs,Xo,Yv,Ya,Yu,Zn,Zj,Zx,Yp,Zk,Af,Ah,Ai,Ab,Aa]
   ·have hins:y9k out (rd l i)=(v5z (out++[0]) (k+1+1) (Nat.min (out.length+1 - (k+1)) (out.length+1 - (k+1+1))) (Ky (out++[0]) (k+1) (out.length+1 - (k+1)))).set (k+1) (rd l i):=by
     rw [x4u out _ (k+1) hk]
     grind [y9k]
    rw [hins];simp (disch:=omega) only [Ux,Zo,h,q,Ze,Ao,Yn,Zs,Xo,Yv,Ya,Yu,Zn,Zj,Zx,Yp,Zk,Af,Ah,Ai,Ab,Aa]
theorem w2x (l:List Int) (hl:l.length≤1000000): ∀(k i:Nat) (out:List Int),i+k=l.length→out.length≤i→ ∃m,Zr (Ux l) m (.to (.h0 out (i:Int)))=.ret [.dat ((l.drop i).foldl y9k out).length (Zz ((l.drop i).foldl y9k out))]
 | 0,i,out,h,ho=>by refine ⟨1,?_⟩;rw [Zw];simp (disch:=omega) only [Ux,Yb,Aa];rw [As (by omega)];rfl
 | k+1,i,out,h,ho=>by
  obtain ⟨m1,h1⟩:=w2w l out i (by omega) hl ho out.length 0 (Aq _) rfl;obtain ⟨m2,h2⟩:=w2x l hl k (i+1) (y9k out (rd l i)) (by omega) (AE (y5o _ _) (by omega));refine ⟨m2+m1+1,?_⟩
  grind [Zw,Ux,Yg]
theorem v2b (l:List Int) (h:Jp l=true): ∃N,Zr (Ux l) N (z4w l)=.ret [.dat (z0y l).length (Zz (z0y l))]:=by
 have:=w2x l (Av h) l.length 0 [] (by omega) (Aq _)
 simpa [z4w,z0y] using this
theorem Zf (n:Nat):Int.toNat ((n:Int) - 1)=n - 1:=by omega
theorem u0l (x y:R2):((x.a == y.a)&&(x.b == y.b))=decide (x=y):=by
 obtain ⟨a,b⟩:=x;obtain ⟨c,d⟩:=y
 grind
theorem u0k (x y:R4):((x.a == y.a)&&((x.b == y.b)&&((x.c == y.c)&&(x.d == y.d))))=decide (x=y):=by
 obtain ⟨a,b,c,d⟩:=x;obtain ⟨e,f,g,h⟩:=y
 grind
theorem u0j (x y:R6):(((x.a == y.a)&&((x.b == y.b)&&(x.c == y.c)))&&((x.d == y.d)&&((x.e == y.e)&&(x.f == y.f))))=decide (x=y):=by
 obtain ⟨a,b,c,d,e,f⟩:=x;obtain ⟨a',b',c',d',e',f'⟩:=y
 grind
def Kf (l m:List R2):Bool:=decide (l=m)
def Vw (l m:List R4):Bool:=decide (l=m)
def Ke (l m:List R6):Bool:=decide (l=m)
def Vo (l m:List R2):Bool:=decide (l.length≤1000000)
def Xs (l m:List R4):Bool:=decide (l.length≤1000000)
def Vn (l m:List R6):Bool:=decide (l.length≤1000000)
theorem z5h {α:Type} [DecidableEq α] (x y:α) (l m:List α):decide (x::l=y::m)=(decide (x=y)&&decide (l=m)):=by grind
theorem u4x (l m:List R2) (hl:l.length≤1000000) (hm:l.length=m.length): ∀(k i:Nat),i+k=l.length→ ∃N,Zr (z6i l m) N (.to (.h0 (i:Int)))=.ret [.bool (decide (l.drop i=m.drop i))]
 | 0,i,h=>by refine ⟨1,?_⟩;rw [Zw,As (show l.length≤i by omega),As (show m.length≤i by omega)];simp (disch:=omega) only [z6i,Xi,Yn,Zs,Yb,Xo,Yv,Ya,Yu,Zn,Zj,Ze,z0t,z0u,Ao,Zx,Zo,Zf,Yp,Zk,Af,Ah,Ai,Ab,Aa,Aw,Ay,Zq]
 | k+1,i,h=>by
  obtain ⟨N,hN⟩:=u4x l m hl hm k (i+1) (by omega);refine ⟨N+1,?_⟩;rw [Zw,Yg (show i<l.length by omega),Yg (show i<m.length by omega),z5h];rcases Yy (decide (rd l i=rd m i)) with q | q
  ·simp (disch:=omega) only [z6i,u0l,q,Xi,Yn,Zs,Yb,Xo,Yv,Ya,Yu,Zn,Zj,Ze,z0t,z0u,Ao,Zx,Zo,Zf,Yp,Zk,Af,Ah,Ai,Ab,Aa,Aw,Ay,Zq];exact hN
  ·simp (disch:=omega) only [z6i,u0l,q,Xi,Yn,Zs,Yb,Xo,Yv,Ya,Yu,Zn,Zj,Ze,z0t,z0u,Ao,Zx,Zo,Zf,Yp,Zk,Af,Ah,Ai,Ab,Aa,Aw,Ay,Zq,Bc]
theorem j0q (l m:List R2) (h:Vo l m=true): ∃N,Zr (z6i l m) N (z7j l m)=.ret [.bool (Kf l m)]:=by
 have hl:l.length≤1000000:=Av h;by_cases hm:l.length=m.length
 ·obtain ⟨N,hN⟩:=u4x l m hl hm l.length 0 (Af _);refine ⟨N,?_⟩;unfold z7j;rw [z0u (show (l.length:Int)=(m.length:Nat) by omega)];exact hN
 ·refine ⟨0,?_⟩;unfold z7j;rw [z0t (show (l.length:Int)≠(m.length:Nat) by omega)];have:Kf l m=false:=Az fun e=>hm (by rw [e]);rw [this];rfl
theorem u4v (l m:List R4) (hl:l.length≤1000000) (hm:l.length=m.length): ∀(k i:Nat),i+k=l.length→ ∃N,Zr (z6g l m) N (.to (.h0 (i:Int)))=.ret [.bool (decide (l.drop i=m.drop i))]
 | 0,i,h=>by refine ⟨1,?_⟩;rw [Zw,As (show l.length≤i by omega),As (show m.length≤i by omega)];simp (disch:=omega) only [z6g,Xi,Yn,Zs,Yb,Xo,Yv,Ya,Yu,Zn,Zj,Ze,z0t,z0u,Ao,Zx,Zo,Zf,Yp,Zk,Af,Ah,Ai,Ab,Aa,Aw,Ay,Zq]
 | k+1,i,h=>by
  obtain ⟨N,hN⟩:=u4v l m hl hm k (i+1) (by omega);refine ⟨N+1,?_⟩;rw [Zw,Yg (show i<l.length by omega),Yg (show i<m.length by omega),z5h];rcases Yy (decide (rd l i=rd m i)) with q | q
  ·simp (disch:=omega) only [z6g,u0k,q,Xi,Yn,Zs,Yb,Xo,Yv,Ya,Yu,Zn,Zj,Ze,z0t,z0u,Ao,Zx,Zo,Zf,Yp,Zk,Af,Ah,Ai,Ab,Aa,Aw,Ay,Zq];exact hN
  ·simp (disch:=omega) only [z6g,u0k,q,Xi,Yn,Zs,Yb,Xo,Yv,Ya,Yu,Zn,Zj,Ze,z0t,z0u,Ao,Zx,Zo,Zf,Yp,Zk,Af,Ah,Ai,Ab,Aa,Aw,Ay,Zq,Bc]
theorem j0o (l m:List R4) (h:Xs l m=true): ∃N,Zr (z6g l m) N (z7i l m)=.ret [.bool (Vw l m)]:=by
 have hl:l.length≤1000000:=Av h;by_cases hm:l.length=m.length
 ·obtain ⟨N,hN⟩:=u4v l m hl hm l.length 0 (Af _);refine ⟨N,?_⟩;unfold z7i;rw [z0u (show (l.length:Int)=(m.length:Nat) by omega)];exact hN
 ·refine ⟨0,?_⟩;unfold z7i;rw [z0t (show (l.length:Int)≠(m.length:Nat) by omega)];have:Vw l m=false:=Az fun e=>hm (by rw [e]);rw [this];rfl
theorem u4y (l m:List R6) (hl:l.length≤1000000) (hm:l.length=m.length): ∀(k i:Nat),i+k=l.length→ ∃N,Zr (z6j l m) N (.to (.h0 (i:Int)))=.ret [.bool (decide (l.drop i=m.drop i))]
 | 0,i,h=>by refine ⟨1,?_⟩;rw [Zw,As (show l.length≤i by omega),As (show m.length≤i by omega)];simp (disch:=omega) only [z6j,Xi,Yn,Zs,Yb,Xo,Yv,Ya,Yu,Zn,Zj,Ze,z0t,z0u,Ao,Zx,Zo,Zf,Yp,Zk,Af,Ah,Ai,Ab,Aa,Aw,Ay,Zq]
 | k+1,i,h=>by
  obtain ⟨N,hN⟩:=u4y l m hl hm k (i+1) (by omega);refine ⟨N+1,?_⟩;rw [Zw,Yg (show i<l.length by omega),Yg (show i<m.length by omega),z5h];rcases Yy (decide (rd l i=rd m i)) with q | q
  ·simp (disch:=omega) only [z6j,u0j,q,Xi,Yn,Zs,Yb,Xo,Yv,Ya,Yu,Zn,Zj,Ze,z0t,z0u,Ao,Zx,Zo,Zf,Yp,Zk,Af,Ah,Ai,Ab,Aa,Aw,Ay,Zq];exact hN
  ·simp (disch:=omega) only [z6j,u0j,q,Xi,Yn,Zs,Yb,Xo,Yv,Ya,Yu,Zn,Zj,Ze,z0t,z0u,Ao,Zx,Zo,Zf,Yp,Zk,Af,Ah,Ai,Ab,Aa,Aw,Ay,Zq,Bc]
theorem j0r (l m:List R6) (h:Vn l m=true): ∃N,Zr (z6j l m) N (z7k l m)=.ret [.bool (Ke l m)]:=by
 have hl:l.length≤1000000:=Av h;by_cases hm:l.length=m.length
 ·obtain ⟨N,hN⟩:=u4y l m hl hm l.length 0 (Af _);refine ⟨N,?_⟩;unfold z7k;rw [z0u (show (l.length:Int)=(m.length:Nat) by omega)];exact hN
 ·refine ⟨0,?_⟩;unfold z7k;rw [z0t (show (l.length:Int)≠(m.length:Nat) by omega)];have:Ke l m=false:=Az fun e=>hm (by rw [e]);rw [this];rfl
theorem u7z (l m:List R2) (hl:l.length≤1000000) (hm:l.length=m.length): ∀(k i:Nat),i+k=l.length→ ∃N,Zr (z6v l m) N (.to (.h0 (i:Int)))=.ret [.bool (decide (l.drop i=m.drop i))]
 | 0,i,h=>by refine ⟨1,?_⟩;rw [Zw,As (show l.length≤i by omega),As (show m.length≤i by omega)];simp (disch:=omega) only [z6v,Xi,Yn,Zs,Yb,Xo,Yv,Ya,Yu,Zn,Zj,Ze,z0t,z0u,Ao,Zx,Zo,Zf,Yp,Zk,Af,Ah,Ai,Ab,Aa,Aw,Ay,Zq]
 | k+1,i,h=>by
  obtain ⟨N,hN⟩:=u7z l m hl hm k (i+1) (by omega);refine ⟨N+1,?_⟩;rw [Zw,Yg (show i<l.length by omega),Yg (show i<m.length by omega),z5h];rcases Yy (decide (rd l i=rd m i)) with q | q
  ·simp (disch:=omega) only [z6v,u0l,q,Xi,Yn,Zs,Yb,Xo,Yv,Ya,Yu,Zn,Zj,Ze,z0t,z0u,Ao,Zx,Zo,Zf,Yp,Zk,Af,Ah,Ai,Ab,Aa,Aw,Ay,Zq];exact hN
  ·simp (disch:=omega) only [z6v,u0l,q,Xi,Yn,Zs,Yb,Xo,Yv,Ya,Yu,Zn,Zj,Ze,z0t,z0u,Ao,Zx,Zo,Zf,Yp,Zk,Af,Ah,Ai,Ab,Aa,Aw,Ay,Zq,Bc]
theorem j5q (l m:List R2) (h:Vo l m=true): ∃N,Zr (z6v l m) N (z8j l m)=.ret [.bool (Kf l m)]:=by
 have hl:l.length≤1000000:=Av h;by_cases hm:l.length=m.length
 ·obtain ⟨N,hN⟩:=u7z l m hl hm l.length 0 (Af _);refine ⟨N,?_⟩;unfold z8j;rw [z0u (show (l.length:Int)=(m.length:Nat) by omega)];exact hN
 ·refine ⟨0,?_⟩;unfold z8j;rw [z0t (show (l.length:Int)≠(m.length:Nat) by omega)];have:Kf l m=false:=Az fun e=>hm (by rw [e]);rw [this];rfl
theorem u7y (l m:List R4) (hl:l.length≤1000000) (hm:l.length=m.length): ∀(k i:Nat),i+k=l.length→ ∃N,Zr (z6u l m) N (.to (.h0 (i:Int)))=.ret [.bool (decide (l.drop i=m.drop i))]
 | 0,i,h=>by refine ⟨1,?_⟩;rw [Zw,As (show l.length≤i by omega),As (show m.length≤i by omega)];simp (disch:=omega) only [z6u,Xi,Yn,Zs,Yb,Xo,Yv,Ya,Yu,Zn,Zj,Ze,z0t,z0u,Ao,Zx,Zo,Zf,Yp,Zk,Af,Ah,Ai,Ab,Aa,Aw,Ay,Zq]
 | k+1,i,h=>by
  obtain ⟨N,hN⟩:=u7y l m hl hm k (i+1) (by omega);refine ⟨N+1,?_⟩;rw [Zw,Yg (show i<l.length by omega),Yg (show i<m.length by omega),z5h];rcases Yy (decide (rd l i=rd m i)) with q | q
  ·simp (disch:=omega) only [z6u,u0k,q,Xi,Yn,Zs,Yb,Xo,Yv,Ya,Yu,Zn,Zj,Ze,z0t,z0u,Ao,Zx,Zo,Zf,Yp,Zk,Af,Ah,Ai,Ab,Aa,Aw,Ay,Zq];exact hN
  ·simp (disch:=omega) only [z6u,u0k,q,Xi,Yn,Zs,Yb,Xo,Yv,Ya,Yu,Zn,Zj,Ze,z0t,z0u,Ao,Zx,Zo,Zf,Yp,Zk,Af,Ah,Ai,Ab,Aa,Aw,Ay,Zq,Bc]
theorem j5p (l m:List R4) (h:Xs l m=true): ∃N,Zr (z6u l m) N (z8i l m)=.ret [.bool (Vw l m)]:=by
 have hl:l.length≤1000000:=Av h;by_cases hm:l.length=m.length
 ·obtain ⟨N,hN⟩:=u7y l m hl hm l.length 0 (Af _);refine ⟨N,?_⟩;unfold z8i;rw [z0u (show (l.length:Int)=(m.length:Nat) by omega)];exact hN
 ·refine ⟨0,?_⟩;unfold z8i;rw [z0t (show (l.length:Int)≠(m.length:Nat) by omega)];have:Vw l m=false:=Az fun e=>hm (by rw [e]);rw [this];rfl
theorem u7x (l m:List R6) (hl:l.length≤1000000) (hm:l.length=m.length): ∀(k i:Nat),i+k=l.length→ ∃N,Zr (z6t l m) N (.to (.h0 (i:Int)))=.ret [.bool (decide (l.drop i=m.drop i))]
 | 0,i,h=>by refine ⟨1,?_⟩;rw [Zw,As (show l.length≤i by omega),As (show m.length≤i by omega)];simp (disch:=omega) only [z6t,Xi,Yn,Zs,Yb,Xo,Yv,Ya,Yu,Zn,Zj,Ze,z0t,z0u,Ao,Zx,Zo,Zf,Yp,Zk,Af,Ah,Ai,Ab,Aa,Aw,Ay,Zq]
 | k+1,i,h=>by
  obtain ⟨N,hN⟩:=u7x l m hl hm k (i+1) (by omega);refine ⟨N+1,?_⟩;rw [Zw,Yg (show i<l.length by omega),Yg (show i<m.length by omega),z5h];rcases Yy (decide (rd l i=rd m i)) with q | q
  ·simp (disch:=omega) only [z6t,u0j,q,Xi,Yn,Zs,Yb,Xo,Yv,Ya,Yu,Zn,Zj,Ze,z0t,z0u,Ao,Zx,Zo,Zf,Yp,Zk,Af,Ah,Ai,Ab,Aa,Aw,Ay,Zq];exact hN
  ·simp (disch:=omega) only [z6t,u0j,q,Xi,Yn,Zs,Yb,Xo,Yv,Ya,Yu,Zn,Zj,Ze,z0t,z0u,Ao,Zx,Zo,Zf,Yp,Zk,Af,Ah,Ai,Ab,Aa,Aw,Ay,Zq,Bc]
theorem j5o (l m:List R6) (h:Vn l m=true): ∃N,Zr (z6t l m) N (z8h l m)=.ret [.bool (Ke l m)]:=by
 have hl:l.length≤1000000:=Av h;by_cases hm:l.length=m.length
 ·obtain ⟨N,hN⟩:=u7x l m hl hm l.length 0 (Af _);refine ⟨N,?_⟩;unfold z8h;rw [z0u (show (l.length:Int)=(m.length:Nat) by omega)];exact hN
 ·refine ⟨0,?_⟩;unfold z8h;rw [z0t (show (l.length:Int)≠(m.length:Nat) by omega)];have:Ke l m=false:=Az fun e=>hm (by rw [e]);rw [this];rfl
def in4 (x y:Int) (r:R4):Bool:=decide (r.a≤x)&&(decide (x<r.c)&&(decide (r.b≤y)&&decide (y<r.d)))
def z0v (l:List R4) (x y:Int):Bool:=l.any (in4 x y)
def z0k (l:List R4) (x y:Int):Bool:=decide (l.length≤1000000)
theorem v2q (l:List R4) (x y:Int) (hl:l.length≤1000000): ∀(k i:Nat),i+k=l.length→ ∃N,Zr (z4z l x y) N (.to (.h0 (i:Int)))=.ret [.bool ((l.drop i).any (in4 x y))]
 | 0,i,h=>by refine ⟨1,?_⟩;rw [Zw,As (show l.length≤i by omega)];simp (disch:=omega) only [z4z,Xi,Yn,Zs,Yb,Xo,Yv,Ya,Yu,Zn,Zj,Ze,z0t,z0u,Ao,Zx,Zo,Zf,Yp,Zk,Af,Ah,Ai,Ab,Aa,Aw,Ay,Zq];rfl
 | k+1,i,h=>by
  obtain ⟨N,hN⟩:=v2q l x y hl k (i+1) (by omega);refine ⟨N+1,?_⟩;rw [Zw,Yg (show i<l.length by omega),BK];unfold in4 at hN ⊢;rcases Yy (decide ((rd l i).a ≤x)) with q1 | q1 <;> rcases Yy (decide (x<(rd l i).c)) with q2 | q2 <;> rcases Yy (decide ((rd l i).b ≤y)) with q3 | q3 <;> rcases Yy (decide (y<(rd l i).d)) with q4 | q4 <;>
   simp (disch:=omega) only [z4z,q1,q2,q3,q4,Xi,Yn,Zs,Yb,Xo,Yv,Ya,Yu,Zn,Zj,Ze,z0t,z0u,Ao,Zx,Zo,Zf,Yp,Zk,Af,Ah,Ai,Ab,Aa,Aw,Ay,Zq,Bc,Bool.and_false,BL,Bool.true_or] <;> exact hN
theorem v9p (l:List R4) (x y:Int) (h:z0k l x y=true): ∃N,Zr (z4z l x y) N (z7q l x y)=.ret [.bool (z0v l x y)]:=by
 have:=v2q l x y (Av h) l.length 0 (Af _)
 simpa [z7q,z0v] using this
def on6 (z:Int) (b:R6):Bool:=decide (b.c≤z)&&decide (z<b.f)
def j3n (b:R6):R4:=⟨b.a,b.b,b.d,b.e⟩
def atV (l:List R6) (z:Int):List R4:=(l.filter (on6 z)).map j3n
def z5j (l:List R6) (z:Int):Bool:=decide (l.length≤1000000)
theorem v3l (l:List R6) (z:Int) (hl:l.length≤1000000): ∀(k i:Nat) (out:List R4),i+k=l.length→out.length≤i→ ∃N,Zr (z6o l z) N (.to (.h0 out (i:Int)))=.ret [.dat (out++atV (l.drop i) z).length (Zz (out++atV (l.drop i) z))]
 | 0,i,out,h,ho=>by refine ⟨1,?_⟩;rw [Zw,As (show l.length≤i by omega)];simp (disch:=omega) only [z6o,Xi,Yn,Zs,Yb,Xo,Yv,Ya,Yu,Zn,Zj,Ze,z0t,z0u,Ao,Zx,Zo,Zf,Yp,Zk,Af,Ah,Ai,Ab,Aa,Aw,Ay,Zq,atV,List.filter_nil,By,AB]
 | k+1,i,out,h,ho=>by
  rw [Yg (show i<l.length by omega)];have e:atV (rd l i::l.drop (i+1)) z=(bif on6 z (rd l i) then [j3n (rd l i)] else [])++atV (l.drop (i+1)) z:=by
   grind [atV]
  rw [e,←AI];rcases Yy (decide ((rd l i).c ≤z)) with q1 | q1 <;> rcases Yy (decide (z<(rd l i).f)) with q2 | q2
  ·obtain ⟨N,hN⟩:=v3l l z hl k (i+1) (out++[j3n (rd l i)]) (by omega) (by simp;omega);refine ⟨N+1,?_⟩;rw [Zw];simp (disch:=omega) only [z6o,q1,q2,on6,Xi,Yn,Zs,Yb,Xo,Yv,Ya,Yu,Zn,Zj,Ze,z0t,z0u,Ao,Zx,Zo,Zf,Yp,Zk,Af,Ah,Ai,Ab,Aa,Aw,Ay,Zq];exact hN
  all_goals
   obtain ⟨N,hN⟩:=v3l l z hl k (i+1) out (by omega) (by omega);refine ⟨N+1,?_⟩;rw [Zw];simp (disch:=omega) only [z6o,q1,q2,on6,Xi,Yn,Zs,Yb,Xo,Yv,Ya,Yu,Zn,Zj,Ze,z0t,z0u,Ao,Zx,Zo,Zf,Yp,Zk,Af,Ah,Ai,Ab,Aa,Aw,Ay,Zq,Bc,Bool.and_false,AB];exact hN
theorem j2i (l:List R6) (z:Int) (h:z5j l z=true): ∃N,Zr (z6o l z) N (y3d l z)=.ret [.dat (atV l z).length (Zz (atV l z))]:=by
 have:=v3l l z (Av h) l.length 0 [] (Af _) (Aq _)
 simpa [y3d] using this
def v0f (cuts:List Int) (ins:List Bool):Nat→Nat→List R2→List R2
 | 0,_,out=>out
 | k+1,i,out=>v0f cuts ins k (i+1) (bif rd ins i then (bif decide (0<out.length)&&((rd out (out.length - 1)).b == rd cuts i) then out.set (out.length - 1) ⟨(rd out (out.length - 1)).a,rd cuts (i+1)⟩ else out++[⟨rd cuts i,rd cuts (i+1)⟩]) else out)
def y0d (cuts:List Int) (ins:List Bool):List R2:=v0f cuts ins (cuts.length - 1) 0 []
def z8s (cuts:List Int) (ins:List Bool):Bool:=decide (cuts.length≤1000000∧cuts.length≤ins.length+1)
theorem x1c (cuts:List Int) (ins:List Bool) (hl:cuts.length≤1000000) (hi:cuts.length≤ins.length+1): ∀(k i:Nat) (out:List R2),k=cuts.length - 1 - i→i≤cuts.length→out.length≤i→ ∃N,Zr (z0b cuts ins) N (.to (.h0 out (i:Int)))=.ret [.dat (v0f cuts ins k i out).length (Zz (v0f cuts ins k i out))]
 | 0,i,out,h,hi2,ho=>by refine ⟨1,?_⟩;rw [Zw];simp (disch:=omega) only [z0b,Xi,Yn,Zs,Yb,Xo,Yv,Ya,Yu,Zn,Zj,Ze,z0t,z0u,Ao,Zx,Zo,Zf,Yp,Zk,Af,Ah,Ai,Ab,Aa,Aw,Ay,Zq,v0f]
 | k+1,i,out,h,hi2,ho=>by
  unfold v0f;rcases Yy (rd ins i) with q | q
  ·rcases Yy (decide (0<out.length)&&((rd out (out.length - 1)).b == rd cuts i)) with q2 | q2
   ·obtain ⟨N,hN⟩:=x1c cuts ins hl hi k (i+1) (out.set (out.length - 1) ⟨(rd out (out.length - 1)).a,rd cuts (i+1)⟩) (by omega) (by omega) (by simp;omega);refine ⟨N+1,?_⟩;rw [Zw,q,q2];simp only [Ac,At] at q2;simp (disch:=omega) only [z0b,q,q2.2,Xi,Yn,Zs,Yb,Xo,Yv,Ya,Yu,Zn,Zj,Ze,z0t,z0u,Ao,Zx,Zo,Zf,Yp,Zk,Af,Ah,Ai,Ab,Aa,Aw,Ay,Zq];exact hN
   ·obtain ⟨N,hN⟩:=x1c cuts ins hl hi k (i+1) (out++[⟨rd cuts i,rd cuts (i+1)⟩]) (by omega) (by omega) (by simp;omega);refine ⟨N+1,?_⟩;rw [Zw,q,q2];by_cases h0:0<out.length
    ·rw [Al h0,Ai] at q2;simp (disch:=omega) only [z0b,q,q2,Xi,Yn,Zs,Yb,Xo,Yv,Ya,Yu,Zn,Zj,Ze,z0t,z0u,Ao,Zx,Zo,Zf,Yp,Zk,Af,Ah,Ai,Ab,Aa,Aw,Ay,Zq];exact hN
    ·simp (disch:=omega) only [z0b,q,Xi,Yn,Zs,Yb,Xo,Yv,Ya,Yu,Zn,Zj,Ze,z0t,z0u,Ao,Zx,Zo,Zf,Yp,Zk,Af,Ah,Ai,Ab,Aa,Aw,Ay,Zq];exact hN
  ·obtain ⟨N,hN⟩:=x1c cuts ins hl hi k (i+1) out (by omega) (by omega) (by omega);refine ⟨N+1,?_⟩;rw [Zw,q];simp (disch:=omega) only [z0b,q,Xi,Yn,Zs,Yb,Xo,Yv,Ya,Yu,Zn,Zj,Ze,z0t,z0u,Ao,Zx,Zo,Zf,Yp,Zk,Af,Ah,Ai,Ab,Aa,Aw,Ay,Zq];exact hN
theorem u0f (cuts:List Int) (ins:List Bool) (h:z8s cuts ins=true): ∃N,Zr (z0b cuts ins) N (z7x cuts ins)=.ret [.dat (y0d cuts ins).length (Zz (y0d cuts ins))]:=by
 obtain ⟨h1,h2⟩:=Av h;have:=x1c cuts ins h1 h2 (cuts.length - 1) 0 [] (by omega) (AA _) (Aq _)
 simpa [z7x,y0d] using this
abbrev v4c :Nat:=124
abbrev u7i :Nat:=131
abbrev u6z :Nat:=132
abbrev u7g :Nat:=129
abbrev nHas4 :Nat:=130
abbrev u6y :Nat:=109
abbrev nXs :Nat:=127
abbrev nYs :Nat:=128
abbrev u7f :Nat:=89
abbrev u6x :Nat:=22
abbrev nAt :Nat:=108
abbrev nCuts :Nat:=107
abbrev u7e :Nat:=77
abbrev v4f :Nat:=59
abbrev nEq2 :Nat:=159
abbrev nEq4 :Nat:=163
abbrev nEq6 :Nat:=94
abbrev u6w :Nat:=193
abbrev w4d :Nat:=194
abbrev nSort :Nat:=111
abbrev w4f :Nat:=113
abbrev nFst :Nat:=180
abbrev x4i :Nat:=156
abbrev w3z :Nat:=83
abbrev v4e :Nat:=117
abbrev w3x :Nat:=116
abbrev w3v :Nat:=92
abbrev x4j :Nat:=52
-- not there: gambrel/gambrellaw28.valid
abbrev w3u :Nat:=160
abbrev nSpU1 :Nat:=164
abbrev nSpE1 :Nat:=133
abbrev nSpD1 :Nat:=123
abbrev nSpU :Nat:=149
abbrev nSpE :Nat:=90
abbrev nSpD :Nat:=85
abbrev w3y :Nat:=157
abbrev nRgU :Nat:=110
abbrev nRgE :Nat:=51
abbrev nRgD :Nat:=48
abbrev nSlU :Nat:=78
abbrev nSlE :Nat:=39
abbrev nSlD :Nat:=33
abbrev v4d :Nat:=74
abbrev v4h :Nat:=38
-- not there: gambrel/detail.Level
abbrev nDown :Nat:=72
-- not there: gambrel/gambrelref39.Distance
abbrev w4c :Nat:=106
def y0y (k:Int) (a b:Bool):Bool:=bif k == 1 then a&&b else bif k == 2 then a||b else a&& !b
def w4t (a b:Bool):Bool:=a
theorem j3j (k:Int) (a b:Bool): ∃N,Zr (w0c k a b) N (y3k k a b)=.ret [.bool (y0y k a b)]:=by
 refine ⟨0,?_⟩;unfold y3k y0y;cases a <;> cases b <;> rcases Yy (k == 1) with q | q <;> rcases Yy (k == 2) with q2 | q2 <;> rw [q] <;> (try rw [q2]) <;> rfl
theorem j3k (a b:Bool): ∃N,Zr (w0g a b) N (x1v a b)=.ret [.bool (w4t a b)]:=⟨0,rfl⟩
def fSrt :List AVal→Option (AVal×Bool)
 | [a0]=>match asL Int a0 with
  | some (L0,g0,n0)=>some (.dat (z0y L0).length (Zz (z0y L0)),isT Int n0 g0&&(Jp L0))
  | _=>none
 | _=>none
theorem j3u {S:Specs} (hS:Zv prog S):Zv prog (S.with v4c fSrt):=by
 refine Qe hS (by kernel_rfl) fun args v h=> ?_;unfold fSrt at h;split at h
 ·rename_i a0;split at h
  ·rename_i L0 g0 n0 e0;simp only [Ae,Ad,Ac] at h;obtain ⟨rfl,ho0,hw⟩:=h;obtain ⟨N,hN⟩:=v2b L0 hw;exact ⟨_,_,(.cons (Yc e0 ho0) .nil),rfl,w6q L0 N _ hN,3,rfl⟩
  ·cases h
 ·cases h
def fCan :List AVal→Option (AVal×Bool)
 | [a0,a1]=>match asL Int a0,asL Bool a1 with
  | some (L0,g0,n0),some (L1,g1,n1)=>some (.dat (y0d L0 L1).length (Zz (y0d L0 L1)),isT Int n0 g0&&(isT Bool n1 g1&&(z8s L0 L1)))
  | _,_=>none
 | _=>none
theorem j5l {S:Specs} (hS:Zv prog S):Zv prog (S.with u7i fCan):=by
 refine Qe hS (by kernel_rfl) fun args v h=> ?_;unfold fCan at h;split at h
 ·rename_i a0 a1;split at h
  ·rename_i L0 g0 n0 L1 g1 n1 e0 e1;simp only [Ae,Ad,Ac] at h;obtain ⟨rfl,ho0,ho1,hw⟩:=h;obtain ⟨N,hN⟩:=u0f L0 L1 hw;exact ⟨_,_,(.cons (Yc e0 ho0) (.cons (Yc e1 ho1) .nil)),rfl,v3k L0 L1 N _ hN,3,rfl⟩
  ·cases h
 ·cases h
def y9q :List AVal→Option (AVal×Bool)
 | [a0,a1]=>match asL R2 a0,asL R2 a1 with
  | some (L0,g0,n0),some (L1,g1,n1)=>some (.bool (Kf L0 L1),isT R2 n0 g0&&(isT R2 n1 g1&&(Vo L0 L1)))
  | _,_=>none
 | _=>none
theorem v5l {S:Specs} (hS:Zv prog S):Zv prog (S.with u6z y9q):=by
 refine Qe hS (by kernel_rfl) fun args v h=> ?_;unfold y9q at h;split at h
 ·rename_i a0 a1;split at h
  ·rename_i L0 g0 n0 L1 g1 n1 e0 e1;simp only [Ae,Ad,Ac] at h;obtain ⟨rfl,ho0,ho1,hw⟩:=h;obtain ⟨N,hN⟩:=j0q L0 L1 hw;exact ⟨_,_,(.cons (Yc e0 ho0) (.cons (Yc e1 ho1) .nil)),rfl,v8s L0 L1 N _ hN,3,rfl⟩
  ·cases h
 ·cases h
def y9p :List AVal→Option (AVal×Bool)
 | [a0,a1]=>match asL R4 a0,asL R4 a1 with
  | some (L0,g0,n0),some (L1,g1,n1)=>some (.bool (Vw L0 L1),isT R4 n0 g0&&(isT R4 n1 g1&&(Xs L0 L1)))
  | _,_=>none
 | _=>none
theorem v5k {S:Specs} (hS:Zv prog S):Zv prog (S.with u6y y9p):=by
 refine Qe hS (by kernel_rfl) fun args v h=> ?_;unfold y9p at h;split at h
 ·rename_i a0 a1;split at h
  ·rename_i L0 g0 n0 L1 g1 n1 e0 e1;simp only [Ae,Ad,Ac] at h;obtain ⟨rfl,ho0,ho1,hw⟩:=h;obtain ⟨N,hN⟩:=j0o L0 L1 hw;exact ⟨_,_,(.cons (Yc e0 ho0) (.cons (Yc e1 ho1) .nil)),rfl,v8q L0 L1 N _ hN,3,rfl⟩
  ·cases h
 ·cases h
def y9o :List AVal→Option (AVal×Bool)
 | [a0,a1]=>match asL R6 a0,asL R6 a1 with
  | some (L0,g0,n0),some (L1,g1,n1)=>some (.bool (Ke L0 L1),isT R6 n0 g0&&(isT R6 n1 g1&&(Vn L0 L1)))
  | _,_=>none
 | _=>none
theorem v5j {S:Specs} (hS:Zv prog S):Zv prog (S.with u6x y9o):=by
 refine Qe hS (by kernel_rfl) fun args v h=> ?_;unfold y9o at h;split at h
 ·rename_i a0 a1;split at h
  ·rename_i L0 g0 n0 L1 g1 n1 e0 e1;simp only [Ae,Ad,Ac] at h;obtain ⟨rfl,ho0,ho1,hw⟩:=h;obtain ⟨N,hN⟩:=j0r L0 L1 hw;exact ⟨_,_,(.cons (Yc e0 ho0) (.cons (Yc e1 ho1) .nil)),rfl,v8t L0 L1 N _ hN,3,rfl⟩
  ·cases h
 ·cases h
def j5c :List AVal→Option (AVal×Bool)
 | [a0,.int .i64 x1,.int .i64 x2]=>match asL R4 a0 with
  | some (L0,g0,n0)=>some (.bool (z0v L0 x1 x2),isT R4 n0 g0&&(z0k L0 x1 x2))
  | _=>none
 | _=>none
theorem u1x {S:Specs} (hS:Zv prog S):Zv prog (S.with nHas4 j5c):=by
 refine Qe hS (by kernel_rfl) fun args v h=> ?_;unfold j5c at h;split at h
 ·rename_i a0 x1 x2;split at h
  ·rename_i L0 g0 n0 e0;simp only [Ae,Ad,Ac] at h;obtain ⟨rfl,ho0,hw⟩:=h;obtain ⟨N,hN⟩:=v9p L0 x1 x2 hw;exact ⟨_,_,(.cons (Yc e0 ho0) (.cons (.refl _) (.cons (.refl _) .nil))),rfl,v2r L0 x1 x2 N _ hN,3,rfl⟩
  ·cases h
 ·cases h
def fAt :List AVal→Option (AVal×Bool)
 | [a0,.int .i64 x1]=>match asL R6 a0 with
  | some (L0,g0,n0)=>some (.dat (atV L0 x1).length (Zz (atV L0 x1)),isT R6 n0 g0&&(z5j L0 x1))
  | _=>none
 | _=>none
theorem fAt_ok {S:Specs} (hS:Zv prog S):Zv prog (S.with nAt fAt):=by
 refine Qe hS (by kernel_rfl) fun args v h=> ?_;unfold fAt at h;split at h
 ·rename_i a0 x1;split at h
  ·rename_i L0 g0 n0 e0;simp only [Ae,Ad,Ac] at h;obtain ⟨rfl,ho0,hw⟩:=h;obtain ⟨N,hN⟩:=j2i L0 x1 hw;exact ⟨_,_,(.cons (Yc e0 ho0) (.cons (.refl _) .nil)),rfl,u0g L0 x1 N _ hN,3,rfl⟩
  ·cases h
 ·cases h
def v5o :List AVal→Option (AVal×Bool)
 | [.int .i64 x0,.bool b1,.bool b2]=>some (.bool (y0y x0 b1 b2),true)
 | _=>none
theorem v5n {S:Specs} (hS:Zv prog S):Zv prog (S.with u7g v5o):=by
 refine Qe hS (by kernel_rfl) fun args v h=> ?_;unfold v5o at h;split at h
 ·rename_i x0 b1 b2;simp only [Ae,Ad,Bl] at h;subst h;obtain ⟨N,hN⟩:=j3j x0 b1 b2;exact ⟨_,_,(.cons (.refl _) (.cons (.refl _) (.cons (.refl _) .nil))),rfl,u1o x0 b1 b2 N _ hN,3,rfl⟩
 ·cases h
def fFst :List AVal→Option (AVal×Bool)
 | [.bool b0,.bool b1]=>some (.bool (w4t b0 b1),true)
 | _=>none
theorem j5d {S:Specs} (hS:Zv prog S):Zv prog (S.with nFst fFst):=by
 refine Qe hS (by kernel_rfl) fun args v h=> ?_;unfold fFst at h;split at h
 ·rename_i b0 b1;simp only [Ae,Ad,Bl] at h;subst h;obtain ⟨N,hN⟩:=j3k b0 b1;exact ⟨_,_,(.cons (.refl _) (.cons (.refl _) .nil)),rfl,u1p b0 b1 N _ hN,3,rfl⟩
 ·cases h
theorem w8v {S:Specs} (hS:Zv prog S):Zv prog (S.with nEq2 y9q):=by
 refine Qe hS (by kernel_rfl) fun args v h=> ?_;unfold y9q at h;split at h
 ·rename_i a0 a1;split at h
  ·rename_i L0 g0 n0 L1 g1 n1 e0 e1;simp only [Ae,Ad,Ac] at h;obtain ⟨rfl,ho0,ho1,hw⟩:=h;obtain ⟨N,hN⟩:=j5q L0 L1 hw;exact ⟨_,_,(.cons (Yc e0 ho0) (.cons (Yc e1 ho1) .nil)),rfl,u2d L0 L1 N _ hN,3,rfl⟩
  ·cases h
 ·cases h
theorem w8u {S:Specs} (hS:Zv prog S):Zv prog (S.with nEq4 y9p):=by
 refine Qe hS (by kernel_rfl) fun args v h=> ?_;unfold y9p at h;split at h
 ·rename_i a0 a1;split at h
  ·rename_i L0 g0 n0 L1 g1 n1 e0 e1;simp only [Ae,Ad,Ac] at h;obtain ⟨rfl,ho0,ho1,hw⟩:=h;obtain ⟨N,hN⟩:=j5p L0 L1 hw;exact ⟨_,_,(.cons (Yc e0 ho0) (.cons (Yc e1 ho1) .nil)),rfl,u2c L0 L1 N _ hN,3,rfl⟩
  ·cases h
 ·cases h
theorem w8t {S:Specs} (hS:Zv prog S):Zv prog (S.with nEq6 y9o):=by
 refine Qe hS (by kernel_rfl) fun args v h=> ?_;unfold y9o at h;split at h
 ·rename_i a0 a1;split at h
  ·rename_i L0 g0 n0 L1 g1 n1 e0 e1;simp only [Ae,Ad,Ac] at h;obtain ⟨rfl,ho0,ho1,hw⟩:=h;obtain ⟨N,hN⟩:=j5o L0 L1 hw;exact ⟨_,_,(.cons (Yc e0 ho0) (.cons (Yc e1 ho1) .nil)),rfl,u2b L0 L1 N _ hN,3,rfl⟩
  ·cases h
 ·cases h
def T1 :Specs:=((((((((((((noSpecs.with v4c fSrt).with u7i fCan).with u6z y9q).with u6y y9p).with u6x y9o).with nHas4 j5c).with nAt fAt).with u7g v5o).with nFst fFst).with nEq2 y9q).with nEq4 y9p).with nEq6 y9o)
theorem z3f :Zv prog T1:=w8t (w8u (w8v (j5d (v5n (fAt_ok (u1x (v5j (v5k (v5l (j5l (j3u Za)))))))))))
inductive rxsS where
 | h0 (v5:List Int) (v6:Int)
 | h1 (v5:List Int) (v7:Int)
def rxsC (l0:List R4) (l1:List R4):rxsS→Cfg
 | .h0 v5 v6=>⟨⟨48,0,true⟩,none,(Zc prog 127 [1,1,0,1,0,0] 0),none,(Zy prog 6),⟨Yj [(0,(.dat l0.length (Zz l0))),(1,(.dat l1.length (Zz l1))),(5,(.sla 0 1 0 v5.length (.un 1))),(6,(ii v6))],Wn [⟨Yk v5.length (Zz v5),3,some ⟨1,v5.length,(Zz v5)⟩⟩] 0,1,[],true⟩,[],.leaf⟩
 | .h1 v5 v7=>⟨⟨48,0,true⟩,none,(Zc prog 127 [1,1,1,0,1,0,0] 0),none,(Zy prog 6),⟨Yj [(1,(.dat l1.length (Zz l1))),(5,(.sla 0 1 0 v5.length (.un 1))),(7,(ii v7))],Wn [⟨Yk v5.length (Zz v5),3,some ⟨1,v5.length,(Zz v5)⟩⟩] 0,1,[],true⟩,[],.leaf⟩
def rxsN0 :List (Option (List Nat)):=[some [0,1,5,6]]
def rxsM0 :List (Option (List Nat)):=[]
def rxsN1 :List (Option (List Nat)):=[some [1,5,7]]
def rxsM1 :List (Option (List Nat)):=[]
def z2l (l0:List R4) (l1:List R4):rxsS→Xx rxsS
 | .h0 v5 v6=>(bif (decide (v6<(l0.length:Int))) then (bif ((decide (0≤v6∧v6<(l0.length:Int)))&&true) then (bif (Nat.beq 1 1&&((decide (0+v5.length=v5.length))&&decide ((v5.length+2+1)*(8+1)≤room))) then (.to (.h0 (v5++[(rd l0 v6.toNat).a,(rd l0 v6.toNat).c]) (wrap .i64 (v6+1)))) else .stuck) else .stuck) else (.to (.h1 v5 0)))
 | .h1 v5 v7=>(bif (decide (v7<(l1.length:Int))) then (bif ((decide (0≤v7∧v7<(l1.length:Int)))&&true) then (bif (Nat.beq 1 1&&((decide (0+v5.length=v5.length))&&decide ((v5.length+2+1)*(8+1)≤room))) then (.to (.h1 (v5++[(rd l1 v7.toNat).a,(rd l1 v7.toNat).c]) (wrap .i64 (v7+1)))) else .stuck) else .stuck) else (bif (Jp (cvT v5)) then (.ret [(.dat (z0y (cvT v5)).length (Zz (z0y (cvT v5))))]) else .stuck))
def y2h (l0:List R4) (l1:List R4):Xx rxsS:=(.to (.h0 ([]:List Int) 0))
theorem w6m (l0:List R4) (l1:List R4): ∀s,Xy prog (Zy prog 127) (rxsC l0 l1) (rxsC l0 l1 s) (z2l l0 l1 s)
 | .h0 v5 v6=>(lb (fun k0=>(lo fun o0=>(lo fun o1=>(sl z3f 20 [] ⟨[2],[],rxsN0,rxsM0⟩ ⟨[(5,.len (v5++[(rd l0 (tn v6)).a,(rd l0 (tn v6)).c]).length)],[.rowed 1 (v5++[(rd l0 (tn v6)).a,(rd l0 (tn v6)).c]).length (Zz (v5++[(rd l0 (tn v6)).a,(rd l0 (tn v6)).c]))],[]⟩ [true] (pp (xL (v5.length+2) (v5++[(rd l0 (tn v6)).a,(rd l0 (tn v6)).c]).length) (pp (xL (v5.length+2) (v5++[(rd l0 (tn v6)).a,(rd l0 (tn v6)).c]).length) (pp (xS (v5.length+2) (Zh (Zz v5) 0 v5.length 1 [(ii (rd l0 (tn v6)).a),(ii (rd l0 (tn v6)).c)]) (Zz (v5++[(rd l0 (tn v6)).a,(rd l0 (tn v6)).c]))) (pp (pp (xF (Zh (Zz v5) 0 v5.length 1 [(ii (rd l0 (tn v6)).a),(ii (rd l0 (tn v6)).c)])) nn) (ww o1 (ww o0 (ww o0 (tt k0 nn)))))))))))) (fun k0=>(sl z3f 17 [] ⟨[0],[],rxsN1,rxsM1⟩ ⟨[],[],[]⟩ [false] (pp (fl v5 nn) (tt k0 nn)))))
 | .h1 v5 v7=>(lb (fun k0=>(lo fun o0=>(lo fun o1=>(sl z3f 20 [] ⟨[2],[],rxsN1,rxsM1⟩ ⟨[(5,.len (v5++[(rd l1 (tn v7)).a,(rd l1 (tn v7)).c]).length)],[.rowed 1 (v5++[(rd l1 (tn v7)).a,(rd l1 (tn v7)).c]).length (Zz (v5++[(rd l1 (tn v7)).a,(rd l1 (tn v7)).c]))],[]⟩ [true] (pp (xL (v5.length+2) (v5++[(rd l1 (tn v7)).a,(rd l1 (tn v7)).c]).length) (pp (xL (v5.length+2) (v5++[(rd l1 (tn v7)).a,(rd l1 (tn v7)).c]).length) (pp (xS (v5.length+2) (Zh (Zz v5) 0 v5.length 1 [(ii (rd l1 (tn v7)).a),(ii (rd l1 (tn v7)).c)]) (Zz (v5++[(rd l1 (tn v7)).a,(rd l1 (tn v7)).c]))) (pp (pp (xF (Zh (Zz v5) 0 v5.length 1 [(ii (rd l1 (tn v7)).a),(ii (rd l1 (tn v7)).c)])) nn) (ww o1 (ww o0 (ww o0 (tt k0 nn)))))))))))) (fun k0=>(Wy (sl z3f (C':=⟨⟨48,0,true⟩,(Vk prog 127 [1,1,1,1,0] 1),(Zc prog 127 [1,1,1,1,0] 1),none,(Zy prog 6),⟨Yj [(46,(.dat v5.length (Zz v5)))],Wn [] 0,0,[],true⟩,[],.leaf⟩) 13 [] ⟨[],[0],[some [46]],[]⟩ ⟨[(46,.frz v5.length v5.length (Zz v5) (Zz v5))],[],[]⟩ [false] (pp (xZ (z1o 1 1 0 v5.length v5.length (Zz v5)) v5.length (Zz v5)) (pp (xL v5.length v5.length) (pp (xS v5.length (Zz v5) (Zz v5)) (pp (fl v5 nn) (tt k0 nn)))))) (lo fun o0=>(lr 48 3 [1,1,1,1,0] 1 6 [(4,(.dat (z0y (cvT v5)).length (Zz (z0y (cvT v5)))))] (sl z3f 3 [] ⟨[],[],[some [4]],[]⟩ ⟨[],[],[]⟩ [] (pp (pp (xr v5) (xw o0)) nn)))))))
theorem x7f (l0:List R4) (l1:List R4):Xy prog (Zy prog 127) (rxsC l0 l1) (Zg prog 127 [(.dat l0.length (Zz l0)),(.dat l1.length (Zz l1))] true []) (y2h l0 l1):=(sl z3f 15 [(3,1,Zz ([]:List Int))] ⟨[0],[],rxsN0,rxsM0⟩ ⟨[(5,.grow 0 1)],[],[]⟩ [] (pp (fl ([]:List Int) nn) nn))
theorem v8o (l0:List R4) (l1:List R4) (n:Nat) (vs:List AVal) (h:Zr (z2l l0 l1) n (y2h l0 l1)=.ret vs):Uz prog (Zy prog 127) (Zg prog 127 [(.dat l0.length (Zz l0)),(.dat l1.length (Zz l1))] true []) vs:=by have:=Zd (w6m l0 l1) n _ (x7f l0 l1);rwa [h] at this
inductive rysS where
 | h0 (v5:List Int) (v6:Int)
 | h1 (v5:List Int) (v7:Int)
def rysC (l0:List R4) (l1:List R4):rysS→Cfg
 | .h0 v5 v6=>⟨⟨48,0,true⟩,none,(Zc prog 128 [1,1,0,1,0,0] 0),none,(Zy prog 6),⟨Yj [(0,(.dat l0.length (Zz l0))),(1,(.dat l1.length (Zz l1))),(5,(.sla 0 1 0 v5.length (.un 1))),(6,(ii v6))],Wn [⟨Yk v5.length (Zz v5),3,some ⟨1,v5.length,(Zz v5)⟩⟩] 0,1,[],true⟩,[],.leaf⟩
 | .h1 v5 v7=>⟨⟨48,0,true⟩,none,(Zc prog 128 [1,1,1,0,1,0,0] 0),none,(Zy prog 6),⟨Yj [(1,(.dat l1.length (Zz l1))),(5,(.sla 0 1 0 v5.length (.un 1))),(7,(ii v7))],Wn [⟨Yk v5.length (Zz v5),3,some ⟨1,v5.length,(Zz v5)⟩⟩] 0,1,[],true⟩,[],.leaf⟩
def rysN0 :List (Option (List Nat)):=[some [0,1,5,6]]
def rysM0 :List (Option (List Nat)):=[]
def rysN1 :List (Option (List Nat)):=[some [1,5,7]]
def rysM1 :List (Option (List Nat)):=[]
def z2k (l0:List R4) (l1:List R4):rysS→Xx rysS
 | .h0 v5 v6=>(bif (decide (v6<(l0.length:Int))) then (bif ((decide (0≤v6∧v6<(l0.length:Int)))&&true) then (bif (Nat.beq 1 1&&((decide (0+v5.length=v5.length))&&decide ((v5.length+2+1)*(8+1)≤room))) then (.to (.h0 (v5++[(rd l0 v6.toNat).b,(rd l0 v6.toNat).d]) (wrap .i64 (v6+1)))) else .stuck) else .stuck) else (.to (.h1 v5 0)))
 | .h1 v5 v7=>(bif (decide (v7<(l1.length:Int))) then (bif ((decide (0≤v7∧v7<(l1.length:Int)))&&true) then (bif (Nat.beq 1 1&&((decide (0+v5.length=v5.length))&&decide ((v5.length+2+1)*(8+1)≤room))) then (.to (.h1 (v5++[(rd l1 v7.toNat).b,(rd l1 v7.toNat).d]) (wrap .i64 (v7+1)))) else .stuck) else .stuck) else (bif (Jp (cvT v5)) then (.ret [(.dat (z0y (cvT v5)).length (Zz (z0y (cvT v5))))]) else .stuck))
def y2g (l0:List R4) (l1:List R4):Xx rysS:=(.to (.h0 ([]:List Int) 0))
theorem w6l (l0:List R4) (l1:List R4): ∀s,Xy prog (Zy prog 128) (rysC l0 l1) (rysC l0 l1 s) (z2k l0 l1 s)
 | .h0 v5 v6=>(lb (fun k0=>(lo fun o0=>(lo fun o1=>(sl z3f 20 [] ⟨[2],[],rysN0,rysM0⟩ ⟨[(5,.len (v5++[(rd l0 (tn v6)).b,(rd l0 (tn v6)).d]).length)],[.rowed 1 (v5++[(rd l0 (tn v6)).b,(rd l0 (tn v6)).d]).length (Zz (v5++[(rd l0 (tn v6)).b,(rd l0 (tn v6)).d]))],[]⟩ [true] (pp (xL (v5.length+2) (v5++[(rd l0 (tn v6)).b,(rd l0 (tn v6)).d]).length) (pp (xL (v5.length+2) (v5++[(rd l0 (tn v6)).b,(rd l0 (tn v6)).d]).length) (pp (xS (v5.length+2) (Zh (Zz v5) 0 v5.length 1 [(ii (rd l0 (tn v6)).b),(ii (rd l0 (tn v6)).d)]) (Zz (v5++[(rd l0 (tn v6)).b,(rd l0 (tn v6)).d]))) (pp (pp (xF (Zh (Zz v5) 0 v5.length 1 [(ii (rd l0 (tn v6)).b),(ii (rd l0 (tn v6)).d)])) nn) (ww o1 (ww o0 (ww o0 (tt k0 nn)))))))))))) (fun k0=>(sl z3f 17 [] ⟨[0],[],rysN1,rysM1⟩ ⟨[],[],[]⟩ [false] (pp (fl v5 nn) (tt k0 nn)))))
 | .h1 v5 v7=>(lb (fun k0=>(lo fun o0=>(lo fun o1=>(sl z3f 20 [] ⟨[2],[],rysN1,rysM1⟩ ⟨[(5,.len (v5++[(rd l1 (tn v7)).b,(rd l1 (tn v7)).d]).length)],[.rowed 1 (v5++[(rd l1 (tn v7)).b,(rd l1 (tn v7)).d]).length (Zz (v5++[(rd l1 (tn v7)).b,(rd l1 (tn v7)).d]))],[]⟩ [true] (pp (xL (v5.length+2) (v5++[(rd l1 (tn v7)).b,(rd l1 (tn v7)).d]).length) (pp (xL (v5.length+2) (v5++[(rd l1 (tn v7)).b,(rd l1 (tn v7)).d]).length) (pp (xS (v5.length+2) (Zh (Zz v5) 0 v5.length 1 [(ii (rd l1 (tn v7)).b),(ii (rd l1 (tn v7)).d)]) (Zz (v5++[(rd l1 (tn v7)).b,(rd l1 (tn v7)).d]))) (pp (pp (xF (Zh (Zz v5) 0 v5.length 1 [(ii (rd l1 (tn v7)).b),(ii (rd l1 (tn v7)).d)])) nn) (ww o1 (ww o0 (ww o0 (tt k0 nn)))))))))))) (fun k0=>(Wy (sl z3f (C':=⟨⟨48,0,true⟩,(Vk prog 128 [1,1,1,1,0] 1),(Zc prog 128 [1,1,1,1,0] 1),none,(Zy prog 6),⟨Yj [(46,(.dat v5.length (Zz v5)))],Wn [] 0,0,[],true⟩,[],.leaf⟩) 13 [] ⟨[],[0],[some [46]],[]⟩ ⟨[(46,.frz v5.length v5.length (Zz v5) (Zz v5))],[],[]⟩ [false] (pp (xZ (z1o 1 1 0 v5.length v5.length (Zz v5)) v5.length (Zz v5)) (pp (xL v5.length v5.length) (pp (xS v5.length (Zz v5) (Zz v5)) (pp (fl v5 nn) (tt k0 nn)))))) (lo fun o0=>(lr 48 3 [1,1,1,1,0] 1 6 [(4,(.dat (z0y (cvT v5)).length (Zz (z0y (cvT v5)))))] (sl z3f 3 [] ⟨[],[],[some [4]],[]⟩ ⟨[],[],[]⟩ [] (pp (pp (xr v5) (xw o0)) nn)))))))
theorem x7e (l0:List R4) (l1:List R4):Xy prog (Zy prog 128) (rysC l0 l1) (Zg prog 128 [(.dat l0.length (Zz l0)),(.dat l1.length (Zz l1))] true []) (y2g l0 l1):=(sl z3f 15 [(3,1,Zz ([]:List Int))] ⟨[0],[],rysN0,rysM0⟩ ⟨[(5,.grow 0 1)],[],[]⟩ [] (pp (fl ([]:List Int) nn) nn))
theorem v8n (l0:List R4) (l1:List R4) (n:Nat) (vs:List AVal) (h:Zr (z2k l0 l1) n (y2g l0 l1)=.ret vs):Uz prog (Zy prog 128) (Zg prog 128 [(.dat l0.length (Zz l0)),(.dat l1.length (Zz l1))] true []) vs:=by have:=Zd (w6l l0 l1) n _ (x7e l0 l1);rwa [h] at this
inductive rcutS where
 | h0 (v5:List Int) (v6:Int)
 | h1 (v5:List Int) (v7:Int)
def j2d (l0:List R6) (l1:List R6):rcutS→Cfg
 | .h0 v5 v6=>⟨⟨52,0,true⟩,none,(Zc prog 107 [1,1,0,1,0,0] 0),none,(Zy prog 6),⟨Yj [(0,(.dat l0.length (Zz l0))),(1,(.dat l1.length (Zz l1))),(5,(.sla 0 1 0 v5.length (.un 1))),(6,(ii v6))],Wn [⟨Yk v5.length (Zz v5),3,some ⟨1,v5.length,(Zz v5)⟩⟩] 0,1,[],true⟩,[],.leaf⟩
 | .h1 v5 v7=>⟨⟨52,0,true⟩,none,(Zc prog 107 [1,1,1,0,1,0,0] 0),none,(Zy prog 6),⟨Yj [(1,(.dat l1.length (Zz l1))),(5,(.sla 0 1 0 v5.length (.un 1))),(7,(ii v7))],Wn [⟨Yk v5.length (Zz v5),3,some ⟨1,v5.length,(Zz v5)⟩⟩] 0,1,[],true⟩,[],.leaf⟩
def u6k :List (Option (List Nat)):=[some [0,1,5,6]]
def u6m :List (Option (List Nat)):=[]
def u6j :List (Option (List Nat)):=[some [1,5,7]]
def u6l :List (Option (List Nat)):=[]
def z0a (l0:List R6) (l1:List R6):rcutS→Xx rcutS
 | .h0 v5 v6=>(bif (decide (v6<(l0.length:Int))) then (bif ((decide (0≤v6∧v6<(l0.length:Int)))&&true) then (bif (Nat.beq 1 1&&((decide (0+v5.length=v5.length))&&decide ((v5.length+2+1)*(8+1)≤room))) then (.to (.h0 (v5++[(rd l0 v6.toNat).c,(rd l0 v6.toNat).f]) (wrap .i64 (v6+1)))) else .stuck) else .stuck) else (.to (.h1 v5 0)))
 | .h1 v5 v7=>(bif (decide (v7<(l1.length:Int))) then (bif ((decide (0≤v7∧v7<(l1.length:Int)))&&true) then (bif (Nat.beq 1 1&&((decide (0+v5.length=v5.length))&&decide ((v5.length+2+1)*(8+1)≤room))) then (.to (.h1 (v5++[(rd l1 v7.toNat).c,(rd l1 v7.toNat).f]) (wrap .i64 (v7+1)))) else .stuck) else .stuck) else (bif (Jp (cvT v5)) then (.ret [(.dat (z0y (cvT v5)).length (Zz (z0y (cvT v5))))]) else .stuck))
def z7v (l0:List R6) (l1:List R6):Xx rcutS:=(.to (.h0 ([]:List Int) 0))
theorem x8p (l0:List R6) (l1:List R6): ∀s,Xy prog (Zy prog 107) (j2d l0 l1) (j2d l0 l1 s) (z0a l0 l1 s)
 | .h0 v5 v6=>(lb (fun k0=>(lo fun o0=>(lo fun o1=>(sl z3f 20 [] ⟨[2],[],u6k,u6m⟩ ⟨[(5,.len (v5++[(rd l0 (tn v6)).c,(rd l0 (tn v6)).f]).length)],[.rowed 1 (v5++[(rd l0 (tn v6)).c,(rd l0 (tn v6)).f]).length (Zz (v5++[(rd l0 (tn v6)).c,(rd l0 (tn v6)).f]))],[]⟩ [true] (pp (xL (v5.length+2) (v5++[(rd l0 (tn v6)).c,(rd l0 (tn v6)).f]).length) (pp (xL (v5.length+2) (v5++[(rd l0 (tn v6)).c,(rd l0 (tn v6)).f]).length) (pp (xS (v5.length+2) (Zh (Zz v5) 0 v5.length 1 [(ii (rd l0 (tn v6)).c),(ii (rd l0 (tn v6)).f)]) (Zz (v5++[(rd l0 (tn v6)).c,(rd l0 (tn v6)).f]))) (pp (pp (xF (Zh (Zz v5) 0 v5.length 1 [(ii (rd l0 (tn v6)).c),(ii (rd l0 (tn v6)).f)])) nn) (ww o1 (ww o0 (ww o0 (tt k0 nn)))))))))))) (fun k0=>(sl z3f 17 [] ⟨[0],[],u6j,u6l⟩ ⟨[],[],[]⟩ [false] (pp (fl v5 nn) (tt k0 nn)))))
 | .h1 v5 v7=>(lb (fun k0=>(lo fun o0=>(lo fun o1=>(sl z3f 20 [] ⟨[2],[],u6j,u6l⟩ ⟨[(5,.len (v5++[(rd l1 (tn v7)).c,(rd l1 (tn v7)).f]).length)],[.rowed 1 (v5++[(rd l1 (tn v7)).c,(rd l1 (tn v7)).f]).length (Zz (v5++[(rd l1 (tn v7)).c,(rd l1 (tn v7)).f]))],[]⟩ [true] (pp (xL (v5.length+2) (v5++[(rd l1 (tn v7)).c,(rd l1 (tn v7)).f]).length) (pp (xL (v5.length+2) (v5++[(rd l1 (tn v7)).c,(rd l1 (tn v7)).f]).length) (pp (xS (v5.length+2) (Zh (Zz v5) 0 v5.length 1 [(ii (rd l1 (tn v7)).c),(ii (rd l1 (tn v7)).f)]) (Zz (v5++[(rd l1 (tn v7)).c,(rd l1 (tn v7)).f]))) (pp (pp (xF (Zh (Zz v5) 0 v5.length 1 [(ii (rd l1 (tn v7)).c),(ii (rd l1 (tn v7)).f)])) nn) (ww o1 (ww o0 (ww o0 (tt k0 nn)))))))))))) (fun k0=>(Wy (sl z3f (C':=⟨⟨52,0,true⟩,(Vk prog 107 [1,1,1,1,0] 1),(Zc prog 107 [1,1,1,1,0] 1),none,(Zy prog 6),⟨Yj [(50,(.dat v5.length (Zz v5)))],Wn [] 0,0,[],true⟩,[],.leaf⟩) 13 [] ⟨[],[0],[some [50]],[]⟩ ⟨[(50,.frz v5.length v5.length (Zz v5) (Zz v5))],[],[]⟩ [false] (pp (xZ (z1o 1 1 0 v5.length v5.length (Zz v5)) v5.length (Zz v5)) (pp (xL v5.length v5.length) (pp (xS v5.length (Zz v5) (Zz v5)) (pp (fl v5 nn) (tt k0 nn)))))) (lo fun o0=>(lr 52 3 [1,1,1,1,0] 1 6 [(4,(.dat (z0y (cvT v5)).length (Zz (z0y (cvT v5)))))] (sl z3f 3 [] ⟨[],[],[some [4]],[]⟩ ⟨[],[],[]⟩ [] (pp (pp (xr v5) (xw o0)) nn)))))))
theorem x3w (l0:List R6) (l1:List R6):Xy prog (Zy prog 107) (j2d l0 l1) (Zg prog 107 [(.dat l0.length (Zz l0)),(.dat l1.length (Zz l1))] true []) (z7v l0 l1):=(sl z3f 15 [(3,1,Zz ([]:List Int))] ⟨[0],[],u6k,u6m⟩ ⟨[(5,.grow 0 1)],[],[]⟩ [] (pp (fl ([]:List Int) nn) nn))
theorem v3g (l0:List R6) (l1:List R6) (n:Nat) (vs:List AVal) (h:Zr (z0a l0 l1) n (z7v l0 l1)=.ret vs):Uz prog (Zy prog 107) (Zg prog 107 [(.dat l0.length (Zz l0)),(.dat l1.length (Zz l1))] true []) vs:=by have:=Zd (x8p l0 l1) n _ (x3w l0 l1);rwa [h] at this
def z2g (l:List R4):List Int:=l.flatMap fun r=>[r.a,r.c]
def Qk (l:List R4):List Int:=l.flatMap fun r=>[r.b,r.d]
def z2f (l:List R6):List Int:=l.flatMap fun r=>[r.c,r.f]
def xsV (l m:List R4):List Int:=z0y (z2g l++z2g m)
def y1t (l m:List R4):Bool:=decide (l.length≤10000∧m.length≤10000)
theorem z3p (l:List R4):(z2g l).length =2*l.length:=by
 induction l with
 | nil=>rfl
 | cons r l ih=>grind [z2g]
theorem y7m (l:List R4) (i:Nat) (h:i<l.length):z2g (l.drop i)=z2g [rd l i]++z2g (l.drop (i+1)):=by rw [Yg h];rfl
theorem u4t (l m:List R4) (hl:l.length≤10000) (hm:m.length≤10000): ∀(k i:Nat) (out:List Int),i+k=m.length→out.length=2*l.length+2*i→ ∃N,Zr (z2l l m) N (.to (.h1 out (i:Int)))=.ret [.dat (z0y (out++z2g (m.drop i))).length (Zz (z0y (out++z2g (m.drop i))))]
 | 0,i,out,h,ho=>by refine ⟨1,?_⟩;have hw:Jp out=true:=Al (by omega);rw [Zw,As (show m.length≤i by omega),show z2g []=[] from rfl,AB];simp (disch:=omega) only [z2l,Xi,Yn,Zs,Yb,Xo,Yv,Ya,Yu,Zn,Zj,Ze,z0t,z0u,Ao,Zx,Zo,Zf,Yp,Zk,Af,Ah,Ai,Ab,Aa,Aw,Ay,Zq,Zb,Zp,Uj,Xa,hw]
 | k+1,i,out,h,ho=>by obtain ⟨N,hN⟩:=u4t l m hl hm k (i+1) (out++z2g [rd m i]) (by omega) (by grind [z3p]);refine ⟨N+1,?_⟩;rw [y7m m i (by omega),←AI,Zw];simp (disch:=omega) only [z2l,Xi,Yn,Zs,Yb,Xo,Yv,Ya,Yu,Zn,Zj,Ze,z0t,z0u,Ao,Zx,Zo,Zf,Yp,Zk,Af,Ah,Ai,Ab,Aa,Aw,Ay,Zq,Zb,Zp,Uj,Xa];exact hN
theorem u4u (l m:List R4) (hl:l.length≤10000) (hm:m.length≤10000): ∀(k i:Nat) (out:List Int),i+k=l.length→out.length=2*i→ ∃N,Zr (z2l l m) N (.to (.h0 out (i:Int)))=.ret [.dat (z0y (out++z2g (l.drop i)++z2g m)).length (Zz (z0y (out++z2g (l.drop i)++z2g m)))]
 | 0,i,out,h,ho=>by obtain ⟨N,hN⟩:=u4t l m hl hm m.length 0 out (Af _) (by omega);refine ⟨N+1,?_⟩;rw [Zw,As (show l.length≤i by omega),show z2g []=[] from rfl,AB];simp (disch:=omega) only [z2l,Xi,Yn,Zs,Yb,Xo,Yv,Ya,Yu,Zn,Zj,Ze,z0t,z0u,Ao,Zx,Zo,Zf,Yp,Zk,Af,Ah,Ai,Ab,Aa,Aw,Ay,Zq,Zb,Zp,Uj,Xa];exact hN
 | k+1,i,out,h,ho=>by obtain ⟨N,hN⟩:=u4u l m hl hm k (i+1) (out++z2g [rd l i]) (by omega) (by grind [z3p]);refine ⟨N+1,?_⟩;rw [y7m l i (by omega),←AI,Zw];simp (disch:=omega) only [z2l,Xi,Yn,Zs,Yb,Xo,Yv,Ya,Yu,Zn,Zj,Ze,z0t,z0u,Ao,Zx,Zo,Zf,Yp,Zk,Af,Ah,Ai,Ab,Aa,Aw,Ay,Zq,Zb,Zp,Uj,Xa];exact hN
theorem j0l (l m:List R4) (h:y1t l m=true): ∃N,Zr (z2l l m) N (y2h l m)=.ret [.dat (xsV l m).length (Zz (xsV l m))]:=by
 obtain ⟨h1,h2⟩:=Av h;have:=u4u l m h1 h2 l.length 0 [] (Af _) rfl
 simpa [y2h,xsV] using this
def ysV (l m:List R4):List Int:=z0y (Qk l++Qk m)
def y1s (l m:List R4):Bool:=decide (l.length≤10000∧m.length≤10000)
theorem z3o (l:List R4):(Qk l).length =2*l.length:=by
 induction l with
 | nil=>rfl
 | cons r l ih=>grind [Qk]
theorem y7l (l:List R4) (i:Nat) (h:i<l.length):Qk (l.drop i)=Qk [rd l i]++Qk (l.drop (i+1)):=by rw [Yg h];rfl
theorem u4r (l m:List R4) (hl:l.length≤10000) (hm:m.length≤10000): ∀(k i:Nat) (out:List Int),i+k=m.length→out.length=2*l.length+2*i→ ∃N,Zr (z2k l m) N (.to (.h1 out (i:Int)))=.ret [.dat (z0y (out++Qk (m.drop i))).length (Zz (z0y (out++Qk (m.drop i))))]
 | 0,i,out,h,ho=>by refine ⟨1,?_⟩;have hw:Jp out=true:=Al (by omega);rw [Zw,As (show m.length≤i by omega),show Qk []=[] from rfl,AB];simp (disch:=omega) only [z2k,Xi,Yn,Zs,Yb,Xo,Yv,Ya,Yu,Zn,Zj,Ze,z0t,z0u,Ao,Zx,Zo,Zf,Yp,Zk,Af,Ah,Ai,Ab,Aa,Aw,Ay,Zq,Zb,Zp,Uj,Xa,hw]
 | k+1,i,out,h,ho=>by obtain ⟨N,hN⟩:=u4r l m hl hm k (i+1) (out++Qk [rd m i]) (by omega) (by grind [z3o]);refine ⟨N+1,?_⟩;rw [y7l m i (by omega),←AI,Zw];simp (disch:=omega) only [z2k,Xi,Yn,Zs,Yb,Xo,Yv,Ya,Yu,Zn,Zj,Ze,z0t,z0u,Ao,Zx,Zo,Zf,Yp,Zk,Af,Ah,Ai,Ab,Aa,Aw,Ay,Zq,Zb,Zp,Uj,Xa];exact hN
theorem u4s (l m:List R4) (hl:l.length≤10000) (hm:m.length≤10000): ∀(k i:Nat) (out:List Int),i+k=l.length→out.length=2*i→ ∃N,Zr (z2k l m) N (.to (.h0 out (i:Int)))=.ret [.dat (z0y (out++Qk (l.drop i)++Qk m)).length (Zz (z0y (out++Qk (l.drop i)++Qk m)))]
 | 0,i,out,h,ho=>by obtain ⟨N,hN⟩:=u4r l m hl hm m.length 0 out (Af _) (by omega);refine ⟨N+1,?_⟩;rw [Zw,As (show l.length≤i by omega),show Qk []=[] from rfl,AB];simp (disch:=omega) only [z2k,Xi,Yn,Zs,Yb,Xo,Yv,Ya,Yu,Zn,Zj,Ze,z0t,z0u,Ao,Zx,Zo,Zf,Yp,Zk,Af,Ah,Ai,Ab,Aa,Aw,Ay,Zq,Zb,Zp,Uj,Xa];exact hN
 | k+1,i,out,h,ho=>by obtain ⟨N,hN⟩:=u4s l m hl hm k (i+1) (out++Qk [rd l i]) (by omega) (by grind [z3o]);refine ⟨N+1,?_⟩;rw [y7l l i (by omega),←AI,Zw];simp (disch:=omega) only [z2k,Xi,Yn,Zs,Yb,Xo,Yv,Ya,Yu,Zn,Zj,Ze,z0t,z0u,Ao,Zx,Zo,Zf,Yp,Zk,Af,Ah,Ai,Ab,Aa,Aw,Ay,Zq,Zb,Zp,Uj,Xa];exact hN
theorem j0k (l m:List R4) (h:y1s l m=true): ∃N,Zr (z2k l m) N (y2g l m)=.ret [.dat (ysV l m).length (Zz (ysV l m))]:=by
 obtain ⟨h1,h2⟩:=Av h;have:=u4s l m h1 h2 l.length 0 [] (Af _) rfl
 simpa [y2g,ysV] using this
def Vy (l m:List R6):List Int:=z0y (z2f l++z2f m)
def z8n (l m:List R6):Bool:=decide (l.length≤40000∧m.length≤40000)
theorem z3n (l:List R6):(z2f l).length =2*l.length:=by
 induction l with
 | nil=>rfl
 | cons r l ih=>grind [z2f]
theorem y7j (l:List R6) (i:Nat) (h:i<l.length):z2f (l.drop i)=z2f [rd l i]++z2f (l.drop (i+1)):=by rw [Yg h];rfl
theorem v3e (l m:List R6) (hl:l.length≤40000) (hm:m.length≤40000): ∀(k i:Nat) (out:List Int),i+k=m.length→out.length=2*l.length+2*i→ ∃N,Zr (z0a l m) N (.to (.h1 out (i:Int)))=.ret [.dat (z0y (out++z2f (m.drop i))).length (Zz (z0y (out++z2f (m.drop i))))]
 | 0,i,out,h,ho=>by refine ⟨1,?_⟩;have hw:Jp out=true:=Al (by omega);rw [Zw,As (show m.length≤i by omega),show z2f []=[] from rfl,AB];simp (disch:=omega) only [z0a,Xi,Yn,Zs,Yb,Xo,Yv,Ya,Yu,Zn,Zj,Ze,z0t,z0u,Ao,Zx,Zo,Zf,Yp,Zk,Af,Ah,Ai,Ab,Aa,Aw,Ay,Zq,Zb,Zp,Uj,Xa,hw]
 | k+1,i,out,h,ho=>by obtain ⟨N,hN⟩:=v3e l m hl hm k (i+1) (out++z2f [rd m i]) (by omega) (by grind [z3n]);refine ⟨N+1,?_⟩;rw [y7j m i (by omega),←AI,Zw];simp (disch:=omega) only [z0a,Xi,Yn,Zs,Yb,Xo,Yv,Ya,Yu,Zn,Zj,Ze,z0t,z0u,Ao,Zx,Zo,Zf,Yp,Zk,Af,Ah,Ai,Ab,Aa,Aw,Ay,Zq,Zb,Zp,Uj,Xa];exact hN
theorem v3f (l m:List R6) (hl:l.length≤40000) (hm:m.length≤40000): ∀(k i:Nat) (out:List Int),i+k=l.length→out.length=2*i→ ∃N,Zr (z0a l m) N (.to (.h0 out (i:Int)))=.ret [.dat (z0y (out++z2f (l.drop i)++z2f m)).length (Zz (z0y (out++z2f (l.drop i)++z2f m)))]
 | 0,i,out,h,ho=>by obtain ⟨N,hN⟩:=v3e l m hl hm m.length 0 out (Af _) (by omega);refine ⟨N+1,?_⟩;rw [Zw,As (show l.length≤i by omega),show z2f []=[] from rfl,AB];simp (disch:=omega) only [z0a,Xi,Yn,Zs,Yb,Xo,Yv,Ya,Yu,Zn,Zj,Ze,z0t,z0u,Ao,Zx,Zo,Zf,Yp,Zk,Af,Ah,Ai,Ab,Aa,Aw,Ay,Zq,Zb,Zp,Uj,Xa];exact hN
 | k+1,i,out,h,ho=>by obtain ⟨N,hN⟩:=v3f l m hl hm k (i+1) (out++z2f [rd l i]) (by omega) (by grind [z3n]);refine ⟨N+1,?_⟩;rw [y7j l i (by omega),←AI,Zw];simp (disch:=omega) only [z0a,Xi,Yn,Zs,Yb,Xo,Yv,Ya,Yu,Zn,Zj,Ze,z0t,z0u,Ao,Zx,Zo,Zf,Yp,Zk,Af,Ah,Ai,Ab,Aa,Aw,Ay,Zq,Zb,Zp,Uj,Xa];exact hN
theorem u0c (l m:List R6) (h:z8n l m=true): ∃N,Zr (z0a l m) N (z7v l m)=.ret [.dat (Vy l m).length (Zz (Vy l m))]:=by
 obtain ⟨h1,h2⟩:=Av h;have:=v3f l m h1 h2 l.length 0 [] (Af _) rfl
 simpa [z7v,Vy] using this
def fXs :List AVal→Option (AVal×Bool)
 | [a0,a1]=>match asL R4 a0,asL R4 a1 with
  | some (L0,g0,n0),some (L1,g1,n1)=>some (.dat (xsV L0 L1).length (Zz (xsV L0 L1)),isT R4 n0 g0&&(isT R4 n1 g1&&(y1t L0 L1)))
  | _,_=>none
 | _=>none
theorem fXs_ok {S:Specs} (hS:Zv prog S):Zv prog (S.with nXs fXs):=by
 refine Qe hS (by kernel_rfl) fun args v h=> ?_;unfold fXs at h;split at h
 ·rename_i a0 a1;split at h
  ·rename_i L0 g0 n0 L1 g1 n1 e0 e1;simp only [Ae,Ad,Ac] at h;obtain ⟨rfl,ho0,ho1,hw⟩:=h;obtain ⟨N,hN⟩:=j0l L0 L1 hw;exact ⟨_,_,(.cons (Yc e0 ho0) (.cons (Yc e1 ho1) .nil)),rfl,v8o L0 L1 N _ hN,3,rfl⟩
  ·cases h
 ·cases h
def fYs :List AVal→Option (AVal×Bool)
 | [a0,a1]=>match asL R4 a0,asL R4 a1 with
  | some (L0,g0,n0),some (L1,g1,n1)=>some (.dat (ysV L0 L1).length (Zz (ysV L0 L1)),isT R4 n0 g0&&(isT R4 n1 g1&&(y1s L0 L1)))
  | _,_=>none
 | _=>none
theorem fYs_ok {S:Specs} (hS:Zv prog S):Zv prog (S.with nYs fYs):=by
 refine Qe hS (by kernel_rfl) fun args v h=> ?_;unfold fYs at h;split at h
 ·rename_i a0 a1;split at h
  ·rename_i L0 g0 n0 L1 g1 n1 e0 e1;simp only [Ae,Ad,Ac] at h;obtain ⟨rfl,ho0,ho1,hw⟩:=h;obtain ⟨N,hN⟩:=j0k L0 L1 hw;exact ⟨_,_,(.cons (Yc e0 ho0) (.cons (Yc e1 ho1) .nil)),rfl,v8n L0 L1 N _ hN,3,rfl⟩
  ·cases h
 ·cases h
def j5h :List AVal→Option (AVal×Bool)
 | [a0,a1]=>match asL R6 a0,asL R6 a1 with
  | some (L0,g0,n0),some (L1,g1,n1)=>some (.dat (Vy L0 L1).length (Zz (Vy L0 L1)),isT R6 n0 g0&&(isT R6 n1 g1&&(z8n L0 L1)))
  | _,_=>none
 | _=>none
theorem u1y {S:Specs} (hS:Zv prog S):Zv prog (S.with nCuts j5h):=by
 refine Qe hS (by kernel_rfl) fun args v h=> ?_;unfold j5h at h;split at h
 ·rename_i a0 a1;split at h
  ·rename_i L0 g0 n0 L1 g1 n1 e0 e1;simp only [Ae,Ad,Ac] at h;obtain ⟨rfl,ho0,ho1,hw⟩:=h;obtain ⟨N,hN⟩:=u0c L0 L1 hw;exact ⟨_,_,(.cons (Yc e0 ho0) (.cons (Yc e1 ho1) .nil)),rfl,v3g L0 L1 N _ hN,3,rfl⟩
  ·cases h
 ·cases h
def T2 :Specs:=((T1.with nXs fXs).with nYs fYs).with nCuts j5h
theorem y0l :Zv prog T2:=u1y (fYs_ok (fXs_ok z3f))
inductive rjoS where
 | h0 (v9:List R4) (v10:List R2) (v11:Int) (v12:Int)
 | h1 (v9:List R4) (v10:List R2) (v11:Int) (v12:Int) (v13:List Bool) (v14:Int)
 | h2 (v9:List R4) (v10:List R2) (v11:Int) (v12:Int) (v15:List R2) (v17:Int)
 | h3 (v9:List R4) (v10:List R2) (v11:Int) (v12:Int) (v16:Int)
abbrev y0t (x0:Int) (l1:List R4) (l2:List R4) (v12:Int) (v14:Int):=(y0y x0 (z0v (cvT l1) (rd (xsV (cvT l1) (cvT l2)) (tn v12)) (rd (ysV (cvT l1) (cvT l2)) (tn v14))) (z0v (cvT l2) (rd (xsV (cvT l1) (cvT l2)) (tn v12)) (rd (ysV (cvT l1) (cvT l2)) (tn v14))))
abbrev y8m (v9:List R4) (v16:Int) (l1:List R4) (l2:List R4) (v12:Int):=(v9.set (0+(tn v16)) (R4.mk (rd v9 (0+(tn v16))).a (rd v9 (0+(tn v16))).b (rd (xsV (cvT l1) (cvT l2)) (tn (wr (v12+1)))) (rd v9 (0+(tn v16))).d))
abbrev y8l (v9:List R4) (l1:List R4) (l2:List R4) (v12:Int) (v15:List R2) (v17:Int):=(v9++[(R4.mk (rd (xsV (cvT l1) (cvT l2)) (tn v12)) (rd v15 (tn v17)).a (rd (xsV (cvT l1) (cvT l2)) (tn (wr (v12+1)))) (rd v15 (tn v17)).b)])
abbrev Qo (l1:List R4) (l2:List R4):=(ysV (cvT l1) (cvT l2))
def w3f (l1:List R4) (l2:List R4):AVal:=(.dat (xsV (cvT l1) (cvT l2)).length (Zz (xsV (cvT l1) (cvT l2))))
def w3e (l1:List R4) (l2:List R4):AVal:=(.dat (Qo l1 l2).length (Zz (Qo l1 l2)))
def rjoC (x0:Int) (l1:List R4) (l2:List R4):rjoS→Cfg
 | .h0 v9 v10 v11 v12=>⟨⟨121,0,true⟩,none,(Zc prog 89 [1,1,1,1,1,0,1,0,0] 0),none,(Zy prog 3),⟨Yj [(0,(ii x0)),(1,(.dat l1.length (Zz l1))),(2,(.dat l2.length (Zz l2))),(7,(w3f l1 l2)),(8,(w3e l1 l2)),(9,(.sla 0 4 0 v9.length (.un 4))),(10,(.dat v10.length (Zz v10))),(11,(ii v11)),(12,(ii v12))],Wn [⟨Yk v9.length (Zz v9),116,some ⟨4,v9.length,(Zz v9)⟩⟩] 0,1,[],true⟩,[],.leaf⟩
 | .h1 v9 v10 v11 v12 v13 v14=>⟨⟨121,0,true⟩,none,(Zc prog 89 [1,1,1,1,1,0,1,0,0,1,0,0,1,0,1,0,0] 0),none,(Zy prog 3),⟨Yj [(0,(ii x0)),(1,(.dat l1.length (Zz l1))),(2,(.dat l2.length (Zz l2))),(7,(w3f l1 l2)),(8,(w3e l1 l2)),(9,(.sla 1 4 0 v9.length (.un 4))),(10,(.dat v10.length (Zz v10))),(11,(ii v11)),(12,(ii v12)),(13,(.sla 0 1 0 v13.length (.un 1))),(14,(ii v14))],Wn [⟨Yk v13.length (Zz v13),4,some ⟨1,v13.length,(Zz v13)⟩⟩,⟨Yk v9.length (Zz v9),116,some ⟨4,v9.length,(Zz v9)⟩⟩] 0,2,[],true⟩,[],.leaf⟩
 | .h2 v9 v10 v11 v12 v15 v17=>⟨⟨121,0,true⟩,none,(Zc prog 89 [1,1,1,1,1,0,1,0,0,1,0,0,1,1,1,1,1,1,0,0] 0),none,(Zy prog 3),⟨Yj [(0,(ii x0)),(1,(.dat l1.length (Zz l1))),(2,(.dat l2.length (Zz l2))),(7,(w3f l1 l2)),(8,(w3e l1 l2)),(9,(.sla 0 4 0 v9.length (.un 4))),(10,(.dat v10.length (Zz v10))),(11,(ii v11)),(12,(ii v12)),(15,(.dat v15.length (Zz v15))),(17,(ii v17))],Wn [⟨Yk v9.length (Zz v9),116,some ⟨4,v9.length,(Zz v9)⟩⟩] 0,1,[],true⟩,[],.leaf⟩
 | .h3 v9 v10 v11 v12 v16=>⟨⟨121,0,true⟩,none,(Zc prog 89 [1,1,1,1,1,0,1,0,0,1,0,0,1,1,1,0,1,0,0,1,0,0] 0),none,(Zy prog 3),⟨Yj [(0,(ii x0)),(1,(.dat l1.length (Zz l1))),(2,(.dat l2.length (Zz l2))),(7,(w3f l1 l2)),(8,(w3e l1 l2)),(9,(.sla 0 4 0 v9.length (.un 4))),(10,(.dat v10.length (Zz v10))),(11,(ii v11)),(12,(ii v12)),(16,(ii v16))],Wn [⟨Yk v9.length (Zz v9),116,some ⟨4,v9.length,(Zz v9)⟩⟩] 0,1,[],true⟩,[],.leaf⟩
def j1n :List (Option (List Nat)):=[some [0,1,2,7,8,9,10,11,12]]
def j1p :List (Option (List Nat)):=[]
def rjoN1 :List (Option (List Nat)):=[some [0,1,2,7,8,9,10,11,12,13,14]]
def rjoM1 :List (Option (List Nat)):=[]
def j1m :List (Option (List Nat)):=[some [0,1,2,7,8,9,10,11,12,15,17]]
def j1o :List (Option (List Nat)):=[]
def rjoN3 :List (Option (List Nat)):=[some [0,1,2,7,8,9,10,11,12,16]]
def rjoM3 :List (Option (List Nat)):=[]
def Vq (x0:Int) (l1:List R4) (l2:List R4):rjoS→Xx rjoS
 | .h0 v9 v10 v11 v12=>(bif (decide ((wrap .i64 (v12+1))<(((xsV (cvT l1) (cvT l2)).length :Nat):Int))) then (.to (.h1 v9 v10 v11 v12 ([]:List Bool) 0)) else (.ret [(.dat v9.length (Zz v9))]))
 | .h1 v9 v10 v11 v12 v13 v14=>(bif (decide (v14<(((ysV (cvT l1) (cvT l2)).length :Nat):Int))) then (bif (z0k (cvT l1) (rd (xsV (cvT l1) (cvT l2)) v12.toNat) (rd (ysV (cvT l1) (cvT l2)) v14.toNat)) then (bif ((decide (0≤v12∧v12<(((xsV (cvT l1) (cvT l2)).length :Nat):Int)))&&true) then (bif ((decide (0≤v14∧v14<(((ysV (cvT l1) (cvT l2)).length :Nat):Int)))&&true) then (bif (z0k (cvT l2) (rd (xsV (cvT l1) (cvT l2)) v12.toNat) (rd (ysV (cvT l1) (cvT l2)) v14.toNat)) then (bif (Nat.beq 1 1&&((decide (0+v13.length=v13.length))&&decide ((v13.length+1+1)*(1+1)≤room))) then (.to (.h1 v9 v10 v11 v12 (v13++[(y0y x0 (z0v (cvT l1) (rd (xsV (cvT l1) (cvT l2)) v12.toNat) (rd (ysV (cvT l1) (cvT l2)) v14.toNat)) (z0v (cvT l2) (rd (xsV (cvT l1) (cvT l2)) v12.toNat) (rd (ysV (cvT l1) (cvT l2)) v14.toNat)))]) (wrap .i64 (v14+1)))) else .stuck) else .stuck) else .stuck) else .stuck) else .stuck) else (bif (z8s (cvT (ysV (cvT l1) (cvT l2))) (cvT v13)) then (bif (decide (v12>0)) then (bif (Vo (cvT (y0d (cvT (ysV (cvT l1) (cvT l2))) (cvT v13))) (cvT v10)) then (bif (Kf (cvT (y0d (cvT (ysV (cvT l1) (cvT l2))) (cvT v13))) (cvT v10)) then (.to (.h3 v9 v10 v11 v12 v11)) else (.to (.h2 v9 (y0d (cvT (ysV (cvT l1) (cvT l2))) (cvT v13)) (v9.length:Int) v12 (y0d (cvT (ysV (cvT l1) (cvT l2))) (cvT v13)) 0))) else .stuck) else (.to (.h2 v9 (y0d (cvT (ysV (cvT l1) (cvT l2))) (cvT v13)) (v9.length:Int) v12 (y0d (cvT (ysV (cvT l1) (cvT l2))) (cvT v13)) 0))) else .stuck))
 | .h2 v9 v10 v11 v12 v15 v17=>(bif (decide (v17<(v15.length:Int))) then (bif ((decide (0≤v12∧v12<(((xsV (cvT l1) (cvT l2)).length :Nat):Int)))&&true) then (bif ((decide (0≤(wrap .i64 (v12+1))∧(wrap .i64 (v12+1))<(((xsV (cvT l1) (cvT l2)).length :Nat):Int)))&&true) then (bif ((decide (0≤v17∧v17<(v15.length:Int)))&&true) then (bif (Nat.beq 4 4&&((decide (0+v9.length=v9.length))&&decide ((v9.length+1+1)*(32+1)≤room))) then (.to (.h2 (v9++[(R4.mk (rd (xsV (cvT l1) (cvT l2)) v12.toNat) (rd v15 v17.toNat).a (rd (xsV (cvT l1) (cvT l2)) (Int.toNat (wrap .i64 (v12+1)))) (rd v15 v17.toNat).b)]) v10 v11 v12 v15 (wrap .i64 (v17+1)))) else .stuck) else .stuck) else .stuck) else .stuck) else (.to (.h0 v9 v10 v11 (wrap .i64 (v12+1)))))
 | .h3 v9 v10 v11 v12 v16=>(bif (decide (v16<(v9.length:Int))) then (bif ((decide (0≤(wrap .i64 (v12+1))∧(wrap .i64 (v12+1))<(((xsV (cvT l1) (cvT l2)).length :Nat):Int)))&&true) then (bif ((decide (0≤v16∧v16<(v9.length:Int)))&&true) then (bif (decide ((0+v16.toNat)<v9.length)) then (.to (.h3 (v9.set (0+v16.toNat) (R4.mk (rd v9 (0+v16.toNat)).a (rd v9 (0+v16.toNat)).b (rd (xsV (cvT l1) (cvT l2)) (Int.toNat (wrap .i64 (v12+1)))) (rd v9 (0+v16.toNat)).d)) v10 v11 v12 (wrap .i64 (v16+1)))) else .stuck) else .stuck) else .stuck) else (.to (.h0 v9 v10 v11 (wrap .i64 (v12+1)))))
def y2w (x0:Int) (l1:List R4) (l2:List R4):Xx rjoS:=(bif (y1t (cvT l1) (cvT l2)) then (bif (y1s (cvT l1) (cvT l2)) then (.to (.h0 ([]:List R4) ([]:List R2) 0 0)) else .stuck) else .stuck)
theorem w7d (x0:Int) (l1:List R4) (l2:List R4): ∀s,Xy prog (Zy prog 89) (rjoC x0 l1 l2) (rjoC x0 l1 l2 s) (Vq x0 l1 l2 s)
 | .h0 v9 v10 v11 v12=>(lb (fun k0=>(sl y0l 24 [(4,1,Zz ([]:List Bool))] ⟨[1,0],[],rjoN1,rjoM1⟩ ⟨[(13,.grow 0 1)],[],[]⟩ [true] (pp (fl ([]:List Bool) (fl v9 nn)) (tt k0 nn)))) (fun k0=>(lr 121 3 [1,1,1,1,0] 1 3 [(6,(.dat v9.length (Zz v9)))] (sl y0l 16 [] ⟨[],[0],[some [6]],[]⟩ ⟨[(6,.frz v9.length v9.length (Zz v9) (Zz v9))],[],[]⟩ [false] (pp (xZ (z1o 4 4 0 v9.length v9.length (Zz v9)) v9.length (Zz v9)) (pp (xL v9.length v9.length) (pp (xS v9.length (Zz v9) (Zz v9)) (pp (fl v9 nn) (tt k0 nn)))))))))
 | .h1 v9 v10 v11 v12 v13 v14=>(lb (fun k0=>(lo fun o0=>(lo fun o1=>(lo fun o2=>(lo fun o3=>(lo fun o4=>(sl y0l 20 [] ⟨[3,1],[],rjoN1,rjoM1⟩ ⟨[(13,.len (v13++[(y0t x0 l1 l2 v12 v14)]).length)],[.rowed 1 (v13++[(y0t x0 l1 l2 v12 v14)]).length (Zz (v13++[(y0t x0 l1 l2 v12 v14)])),.keep],[]⟩ [true] (pp (xL (v13.length+1) (v13++[(y0t x0 l1 l2 v12 v14)]).length) (pp (xL (v13.length+1) (v13++[(y0t x0 l1 l2 v12 v14)]).length) (pp (xS (v13.length+1) (Zh (Zz v13) 0 v13.length 1 [(.bool (y0t x0 l1 l2 v12 v14))]) (Zz (v13++[(y0t x0 l1 l2 v12 v14)]))) (pp (pp (xF (Zh (Zz v13) 0 v13.length 1 [(.bool (y0t x0 l1 l2 v12 v14))])) (fl v9 nn)) (ww o4 (pp (pp (xr l2) (xw o3)) (ww o2 (ww o1 (pp (pp (xr l1) (xw o0)) (ww o2 (ww o1 (tt k0 nn))))))))))))))))))) (fun k0=>(Wy (sl y0l (C':=⟨⟨121,0,true⟩,(Vk prog 89 [1,1,1,1,1,0,1,0,0,1,0,0,1,1,0] 2),(Zc prog 89 [1,1,1,1,1,0,1,0,0,1,0,0,1,1,0] 1),none,(Zy prog 3),⟨Yj [(0,(ii x0)),(1,(.dat l1.length (Zz l1))),(2,(.dat l2.length (Zz l2))),(7,(.dat (xsV (cvT l1) (cvT l2)).length (Zz (xsV (cvT l1) (cvT l2))))),(8,(.dat (Qo l1 l2).length (Zz (Qo l1 l2)))),(9,(.sla 0 4 0 v9.length (.un 4))),(10,(.dat v10.length (Zz v10))),(11,(ii v11)),(12,(ii v12)),(62,(.dat (Qo l1 l2).length (Zz (Qo l1 l2)))),(63,(.dat v13.length (Zz v13)))],Wn [⟨Yk v9.length (Zz v9),116,some ⟨4,v9.length,(Zz v9)⟩⟩] 0,1,[],true⟩,[],.leaf⟩) 14 [] ⟨[1],[0],[some [0,1,2,7,8,9,10,11,12,62,63]],[]⟩ ⟨[(63,.frz v13.length v13.length (Zz v13) (Zz v13))],[],[]⟩ [false] (pp (xZ (z1o 1 1 0 v13.length v13.length (Zz v13)) v13.length (Zz v13)) (pp (xL v13.length v13.length) (pp (xS v13.length (Zz v13) (Zz v13)) (pp (fl v9 nn) (pp (fl v13 nn) (tt k0 nn))))))) (lo fun aI=>(lb (fun k1=>(lo fun bS=>(lb (fun k2=>(sl y0l 23 [] ⟨[0],[],rjoN3,rjoM3⟩ ⟨[],[],[]⟩ (trs 4 []) (pp (fl v9 nn) (tt k2 (pp (pp (xI R2 (y0d (cvT (Qo l1 l2)) (cvT v13)).length (Zz (y0d (cvT (Qo l1 l2)) (cvT v13)))) (pp (xr v10) (xw bS))) (tt k1 (pp (pp (xI Int (Qo l1 l2).length (Zz (Qo l1 l2))) (pp (xr v13) (xw aI))) nn))))))) (fun k2=>(sl y0l 30 [] ⟨[0],[],j1m,j1o⟩ ⟨[],[],[]⟩ (trs 3 [false]) (pp (fl v9 nn) (tt k2 (pp (pp (xI R2 (y0d (cvT (Qo l1 l2)) (cvT v13)).length (Zz (y0d (cvT (Qo l1 l2)) (cvT v13)))) (pp (xr v10) (xw bS))) (tt k1 (pp (pp (xI Int (Qo l1 l2).length (Zz (Qo l1 l2))) (pp (xr v13) (xw aI))) nn)))))))))) (fun k1=>(sl y0l 30 [] ⟨[0],[],j1m,j1o⟩ ⟨[],[],[]⟩ (bl 4 0) (pp (fl v9 nn) (tt k1 (pp (pp (xI Int (Qo l1 l2).length (Zz (Qo l1 l2))) (pp (xr v13) (xw aI))) nn))))))))))
 | .h2 v9 v10 v11 v12 v15 v17=>(lb (fun k0=>(lo fun o0=>(lo fun o1=>(lo fun o2=>(lo fun o3=>(sl y0l 20 [] ⟨[2],[],j1m,j1o⟩ ⟨[(9,.len (y8l v9 l1 l2 v12 v15 v17).length)],[.rowed 4 (y8l v9 l1 l2 v12 v15 v17).length (Zz (y8l v9 l1 l2 v12 v15 v17))],[]⟩ [true] (pp (xL (v9.length+1) (y8l v9 l1 l2 v12 v15 v17).length) (pp (xL (v9.length+1) (y8l v9 l1 l2 v12 v15 v17).length) (pp (xS (v9.length+1) (Zh (Zz v9) 0 v9.length 4 [(ii (rd (xsV (cvT l1) (cvT l2)) (tn v12))),(ii (rd v15 (tn v17)).a),(ii (rd (xsV (cvT l1) (cvT l2)) (tn (wr (v12+1))))),(ii (rd v15 (tn v17)).b)]) (Zz (y8l v9 l1 l2 v12 v15 v17))) (pp (pp (xF (Zh (Zz v9) 0 v9.length 4 [(ii (rd (xsV (cvT l1) (cvT l2)) (tn v12))),(ii (rd v15 (tn v17)).a),(ii (rd (xsV (cvT l1) (cvT l2)) (tn (wr (v12+1))))),(ii (rd v15 (tn v17)).b)])) nn) (ww o3 (ww o2 (ww o1 (ww o2 (ww o0 (tt k0 nn)))))))))))))))) (fun k0=>(sl y0l 17 [] ⟨[0],[],j1n,j1p⟩ ⟨[],[],[]⟩ [false] (pp (fl v9 nn) (tt k0 nn)))))
 | .h3 v9 v10 v11 v12 v16=>(lb (fun k0=>(lo fun o0=>(lo fun o1=>(lo fun o2=>(sl y0l 31 [] ⟨[0],[],rjoN3,rjoM3⟩ ⟨[(9,.len (y8m v9 v16 l1 l2 v12).length)],[.rowed 4 (y8m v9 v16 l1 l2 v12).length (Zz (y8m v9 v16 l1 l2 v12))],[]⟩ [true] (pp (xL v9.length (y8m v9 v16 l1 l2 v12).length) (pp (xL v9.length (y8m v9 v16 l1 l2 v12).length) (pp (xS v9.length (Yt (Zz v9) (0+(tn v16)) 2 [(ii (rd (xsV (cvT l1) (cvT l2)) (tn (wr (v12+1)))))]) (Zz (y8m v9 v16 l1 l2 v12))) (pp (pp (xF (Yt (Zz v9) (0+(tn v16)) 2 [(ii (rd (xsV (cvT l1) (cvT l2)) (tn (wr (v12+1)))))])) nn) (ww o2 (ww o1 (ww o0 (tt k0 nn))))))))))))) (fun k0=>(sl y0l 17 [] ⟨[0],[],j1n,j1p⟩ ⟨[],[],[]⟩ [false] (pp (fl v9 nn) (tt k0 nn)))))
theorem x7x (x0:Int) (l1:List R4) (l2:List R4):Xy prog (Zy prog 89) (rjoC x0 l1 l2) (Zg prog 89 [(.int .i64 x0),(.dat l1.length (Zz l1)),(.dat l2.length (Zz l2))] true []) (y2w x0 l1 l2):=(lo fun o0=>(lo fun o1=>(sl y0l 34 [(116,4,Zz ([]:List R4))] ⟨[0],[],j1n,j1p⟩ ⟨[(9,.grow 0 4),(10,.list 0 (Zz ([]:List R2)))],[],[]⟩ [] (pp (fl ([]:List R4) nn) (pp (pp (xr l1) (pp (xr l2) (xw o1))) (pp (pp (xr l1) (pp (xr l2) (xw o0))) nn))))))
theorem v9k (x0:Int) (l1:List R4) (l2:List R4) (n:Nat) (vs:List AVal) (h:Zr (Vq x0 l1 l2) n (y2w x0 l1 l2)=.ret vs):Uz prog (Zy prog 89) (Zg prog 89 [(.int .i64 x0),(.dat l1.length (Zz l1)),(.dat l2.length (Zz l2))] true []) vs:=by have:=Zd (w7d x0 l1 l2) n _ (x7x x0 l1 l2);rwa [h] at this
theorem z1w : ∀(l out:List Int),(l.foldl y9k out).length ≤out.length+l.length
 | [],out=>Aq _
 | x::l,out=>AE (z1w l (y9k out x)) (by have:=y5o out x;simp;omega)
theorem z6c (l:List Int):(z0y l).length ≤l.length:=by
 grind [z1w,z0y]
theorem y6f (cuts:List Int) (ins:List Bool): ∀(k i:Nat) (out:List R2),(v0f cuts ins k i out).length ≤out.length+k
 | 0,_,out=>Aq _
 | k+1,i,out=>by
  unfold v0f;refine AE (y6f cuts ins k (i+1) _) ?_;cases rd ins i
  ·simp only [Aa];omega
  ·simp only [Ab];cases (decide (0<out.length)&&((rd out (out.length - 1)).b == rd cuts i)) <;> simp <;> omega
theorem y6e (cuts:List Int) (ins:List Bool):(y0d cuts ins).length ≤cuts.length:=by
 grind [y6f,y0d]
section
variable (kind:Int) (l m:List R4)
def w9g (x:Int) (y:Int):Bool:=y0y kind (z0v l x y) (z0v m x y)
def y1i (x:Int):List R2:=y0d (ysV l m) ((ysV l m).map (w9g kind l m x))
def v5p (out:List R4) (first:Nat) (x:Int):List R4:=out.take first++(out.drop first).map fun r=>⟨r.a,r.b,x,r.d⟩
def u6p (x x':Int) (s:List R2):List R4:=s.map fun p=>⟨x,p.a,x',p.b⟩
def jF :Nat→Nat→List R4→List R2→Nat→List R4
 | 0,_,out,_,_=>out
 | k+1,i,out,last,first=>
  bif decide (0<i)&&Kf (y1i kind l m (rd (xsV l m) i)) last then jF k (i+1) (v5p out first (rd (xsV l m) (i+1))) last first
  else jF k (i+1) (out++u6p (rd (xsV l m) i) (rd (xsV l m) (i+1)) (y1i kind l m (rd (xsV l m) i))) (y1i kind l m (rd (xsV l m) i)) out.length
def joV :List R4:=jF kind l m ((xsV l m).length - 1) 0 [] [] 0
end
def Qj (_:Int) (l m:List R4):Bool:=decide (l.length≤10000∧m.length≤10000)
theorem Jo (l m:List R4):(xsV l m).length ≤2*l.length+2*m.length:=by
 refine AE (z6c _) ?_
 grind [z3p]
theorem z9b (l m:List R4):(ysV l m).length ≤2*l.length+2*m.length:=by
 refine AE (z6c _) ?_
 grind [z3o]
section
variable (kind:Int) (l m:List R4) (hl:l.length≤10000) (hm:m.length≤10000)
include hl hm
theorem u5w (out:List R4) (last:List R2) (first:Int) (i:Nat) (hi:i+1<(xsV l m).length): ∀(k j:Nat) (acc:List Bool),j+k=(ysV l m).length →acc.length=j→
  ∃n,∀N,Zr (Vq kind l m) (N+n) (.to (.h1 out last first (i:Int) acc (j:Int)))=Zr (Vq kind l m) N (.to (.h1 out last first (i:Int) (acc++((ysV l m).drop j).map (w9g kind l m (rd (xsV l m) i))) ((ysV l m).length :Int)))
 | 0,j,acc,h,ha=>by
  refine ⟨0,fun N=> ?_⟩
  grind
 | k+1,j,acc,h,ha=>by
  have hx:=Jo l m;have hy:=z9b l m;obtain ⟨n,hn⟩:=u5w out last first i hi k (j+1) (acc++[w9g kind l m (rd (xsV l m) i) (rd (ysV l m) j)]) (by omega) (by simp [ha])
  refine ⟨n+1,fun N=> ?_⟩;have w1: ∀x y,z0k l x y=true:=fun x y=>Al (by omega);have w2: ∀x y,z0k m x y=true:=fun x y=>Al (by omega);rw [Yg (show j<(ysV l m).length by omega),A2,←AG,Zw];simp (disch:=omega) only [Vq,Zb,Zp,w1,w2,Zs,Zn,Ya,Yu,Ze,Zj,Zx,Yp,Zk,Af,Ao,Ah,Ai,Ab];have:=hn N;rw [AI] at this;exact this
theorem u5v (last:List R2) (first:Int) (i:Nat) (hi:i+1<(xsV l m).length) (s:List R2) (hs:s.length≤1000000): ∀(k j:Nat) (out:List R4),j+k=s.length→out.length≤10000000000+j→
  ∃n,∀N,Zr (Vq kind l m) (N+n) (.to (.h2 out last first (i:Int) s (j:Int)))=Zr (Vq kind l m) N (.to (.h0 (out++u6p (rd (xsV l m) i) (rd (xsV l m) (i+1)) (s.drop j)) last first ((i+1:Nat):Int)))
 | 0,j,out,h,ho=>by
  have hx:=Jo l m;refine ⟨1,fun N=> ?_⟩
  grind [Zw,Vq,Zj,u6p]
 | k+1,j,out,h,ho=>by
  have hx:=Jo l m;obtain ⟨n,hn⟩:=u5v last first i hi s hs k (j+1) (out++u6p (rd (xsV l m) i) (rd (xsV l m) (i+1)) [rd s j]) (by omega) (by simp [u6p];omega)
  refine ⟨n+1,fun N=> ?_⟩;have:=hn N;rw [Yg (show j<s.length by omega),←AG,Zw];simp (disch:=omega) only [Vq,Zb,Zp,Zs,Zn,Ya,Yu,Ze,Zj,Zx,Yp,Zk,Af,Ao,Ah,Ai,Ab];rw [AI] at this;exact this
theorem u2a (out:List R4) (j:Nat) (x:Int) (h:j<out.length):v5p (out.set j ⟨(rd out j).a,(rd out j).b,x,(rd out j).d⟩) (j+1) x=v5p out j x:=by
 have _uhl:=hl;have _uhm:=hm;unfold v5p;rw [Yg h,A2];have e1:(out.set j ⟨(rd out j).a,(rd out j).b,x,(rd out j).d⟩).take (j+1)=out.take j++[⟨(rd out j).a,(rd out j).b,x,(rd out j).d⟩]:=by
  apply BJ;all_goals grind
 have e2:(out.set j ⟨(rd out j).a,(rd out j).b,x,(rd out j).d⟩).drop (j+1)=out.drop (j+1):=by rw [List.drop_set];grind
 grind
theorem u5u (last:List R2) (first:Int) (i:Nat) (hi:i+1<(xsV l m).length): ∀(k j:Nat) (out:List R4),j+k=out.length→out.length≤10000000000→
  ∃n,∀N,Zr (Vq kind l m) (N+n) (.to (.h3 out last first (i:Int) (j:Int)))=Zr (Vq kind l m) N (.to (.h0 (v5p out j (rd (xsV l m) (i+1))) last first ((i+1:Nat):Int)))
 | 0,j,out,h,ho=>by
  have hx:=Jo l m;refine ⟨1,fun N=> ?_⟩;have e:v5p out j (rd (xsV l m) (i+1))=out:=by
   grind [v5p]
  grind [Zw,Vq,Zj]
 | k+1,j,out,h,ho=>by
  have hx:=Jo l m;obtain ⟨n,hn⟩:=u5u last first i hi k (j+1) (out.set j ⟨(rd out j).a,(rd out j).b,rd (xsV l m) (i+1),(rd out j).d⟩) (by simp;omega) (by grind)
  refine ⟨n+1,fun N=> ?_⟩;have:=hn N;rw [u2a l m hl hm out j _ (by omega)] at this;rw [←AG,Zw];simp (disch:=omega) only [Vq,Zb,Zp,Zs,Zn,Yv,Ya,Yu,Ze,Zj,Zx,Yp,Zk,Af,Ao,Ah,Ai,Ab];exact this
theorem v2p : ∀(k i:Nat) (out:List R4) (last:List R2) (first:Nat),k=(xsV l m).length - 1 - i→i≤(xsV l m).length →out.length≤i*40000→last.length≤40000→first≤out.length→
  ∃n,Zr (Vq kind l m) n (.to (.h0 out last (first:Int) (i:Int)))=.ret [.dat (jF kind l m k i out last first).length (Zz (jF kind l m k i out last first))]
 | 0,i,out,last,first,h,hi,ho,hla,hf=>by
  have hx:=Jo l m;refine ⟨1,?_⟩
  grind [Zw,Vq,Zb,Zj,Zq,jF]
 | k+1,i,out,last,first,h,hi,ho,hla,hf=>by
  have hx:=Jo l m;have hy:=z9b l m;have hi1:i+1<(xsV l m).length :=by omega
  have hsl:(y1i kind l m (rd (xsV l m) i)).length ≤40000:=AE (y6e _ _) (by omega);have hbig:i*40000≤40000*40000:=AC _ (by omega);obtain ⟨n1,h1⟩:=u5w kind l m hl hm out last first i hi1 (ysV l m).length 0 [] (Af _) rfl
  simp only [AT,A8,z2b] at h1;have w3:z8s (ysV l m) ((ysV l m).map (w9g kind l m (rd (xsV l m) i)))=true:=Al ⟨by omega,by grind⟩;have w4:Vo (y0d (ysV l m) ((ysV l m).map (w9g kind l m (rd (xsV l m) i)))) last=true:=Al (AE hsl (by omega));have hy2:((ysV l m).length :Int)=(((ysV l m).length :Nat):Int):=rfl;unfold jF;rcases Yy (decide (0<i)&&Kf (y1i kind l m (rd (xsV l m) i)) last) with q | q
  ·obtain ⟨n3,h3⟩:=u5u kind l m hl hm last first i hi1 (out.length - first) first out (by omega) (by omega)
   obtain ⟨n0,h0⟩:=v2p k (i+1) (v5p out first (rd (xsV l m) (i+1))) last first (by omega) (by omega) (by simp [v5p];omega) hla (by simp [v5p];omega)
   refine ⟨n0+n3+1+n1+1,?_⟩;rw [q,Ab,Zw];simp only [Ac,At] at q;have q2:Kf (y0d (ysV l m) ((ysV l m).map (w9g kind l m (rd (xsV l m) i)))) last=true:=q.2;simp (disch:=omega) only [Vq,Zb,Zp,Zs,Zj,Zx,Ab];simp_all [Zw,Vq,Zb]
  ·obtain ⟨n2,h2⟩:=u5v kind l m hl hm (y1i kind l m (rd (xsV l m) i)) (out.length:Int) i hi1 (y1i kind l m (rd (xsV l m) i)) (by omega) (y1i kind l m (rd (xsV l m) i)).length 0 out (Af _) (by omega);obtain ⟨n0,h0⟩:=v2p k (i+1) (out++u6p (rd (xsV l m) i) (rd (xsV l m) (i+1)) (y1i kind l m (rd (xsV l m) i))) (y1i kind l m (rd (xsV l m) i)) out.length (by omega) (by omega) (by simp [u6p];omega) hsl (by simp);refine ⟨n0+n2+1+n1+1,?_⟩;rw [q,Aa,Zw];simp (disch:=omega) only [Vq,Zb,Zp,Zs,Zj,Zx,Ab];have h1':=h1 (n0+n2+1);rw [h1',Zw];have h2':=h2 n0;simp only [AT,z2b] at h2';by_cases hi0:0<i
   ·rw [Al hi0,Ai] at q;have q2:Kf (y0d (ysV l m) ((ysV l m).map (w9g kind l m (rd (xsV l m) i)))) last=false:=q;simp (disch:=omega) only [Vq,Zb,Zp,Yb,Yn,q2,w3,w4,Ab,Aa];rw [←h0];exact h2'
   ·simp (disch:=omega) only [Vq,Zb,Zp,Yb,Xi,w3,w4,Ab,Aa];rw [←h0];exact h2'
end
theorem j1l (kind:Int) (l m:List R4) (h:Qj kind l m=true): ∃N,Zr (Vq kind l m) N (y2w kind l m)=.ret [.dat (joV kind l m).length (Zz (joV kind l m))]:=by obtain ⟨hl,hm⟩:=Av h;obtain ⟨N,hN⟩:=v2p kind l m hl hm ((xsV l m).length - 1) 0 [] [] 0 rfl (AA _) (AA _) (AA _) (Aq _);refine ⟨N,?_⟩;have w1:y1t l m=true:=Al ⟨hl,hm⟩;have w2:y1s l m=true:=Al ⟨hl,hm⟩;simp only [y2w,Zb,Zp,w1,w2,Ab];exact hN
theorem x6d {P:Program} {S:Specs} (hS:Zv P S) {f:FuncId} {F:List AVal→Option (AVal×Bool)} (hf:(P.funcs[f]?).any (fun fn=>fn.body.isSome)=true)
  (hF: ∀args v,F args=some (v,true)→ ∃bs vs,Vz VLe args bs∧(∀(ρ:Rho) (u:Value),Zt ρ (Un vs) u→Zt ρ v u)∧Uz P (Zy P f) (Zg P f bs true []) vs∧ ∃d,pf d (Un vs)=true):Zv P (S.with f F):=
 w5i hS hf fun args v h=>by obtain ⟨bs,vs,h1,h2,h3,d,h4⟩:=hF args v h;exact ⟨vs,h2,x5e h1 h3,d,h4⟩
theorem z3g {cs cs':List AVal} (h:RLe cs cs') (ρ:Rho) (u:Value) (hv:Zt ρ (.tup cs) u):Zt ρ (.tup cs') u:=by
 cases hv with
 | tup _ vs hl hh=>exact .tup cs' vs (by rw [←h.len];exact hl) fun i h1 h2=>h.sound i (by rw [h.len];exact h1) h1 (hh i (by rw [h.len];exact h1) h2)
theorem Qd (α:Type) [Xk α]:VLe .nils (.dat ([]:List α).length (Zz ([]:List α))):=.nild _
def fJo :List AVal→Option (AVal×Bool)
 | [.int .i64 x0,a1,a2]=>match asL R4 a1,asL R4 a2 with
  | some (L1,g1,n1),some (L2,g2,n2)=>some (.dat (joV x0 L1 L2).length (Zz (joV x0 L1 L2)),isT R4 n1 g1&&(isT R4 n2 g2&&(Qj x0 L1 L2)))
  | _,_=>none
 | _=>none
theorem fJo_ok {S:Specs} (hS:Zv prog S):Zv prog (S.with u7f fJo):=by
 refine Qe hS (by kernel_rfl) fun args v h=> ?_;unfold fJo at h;split at h
 ·rename_i x0 a1 a2;split at h
  ·rename_i L1 g1 n1 L2 g2 n2 e1 e2;simp only [Ae,Ad,Ac] at h;obtain ⟨rfl,ho1,ho2,hw⟩:=h;obtain ⟨N,hN⟩:=j1l x0 L1 L2 hw;exact ⟨_,_,(.cons (.refl _) (.cons (Yc e1 ho1) (.cons (Yc e2 ho2) .nil))),rfl,v9k x0 L1 L2 N _ hN,3,rfl⟩
  ·cases h
 ·cases h
def T3 :Specs:=T2.with u7f fJo
theorem y0k :Zv prog T3:=fJo_ok y0l
open Go.Sort
def bnd3 (r:R3):Bool:=decide (-1000000000≤r.a∧r.a≤1000000000)
def y1m (l:List R3):Bool:=l.all bnd3
abbrev E3 :={r:R3 // bnd3 r=true}
instance : Inhabited E3:=⟨⟨⟨0,0,0⟩,rfl⟩⟩
def cf3 (x y:E3):Int:=x.1.a - y.1.a
def lt3 (x y:E3):Bool:=decide (cf3 x y<0)
theorem swo3 :SWO lt3 where
 irrefl x:=by unfold lt3 cf3;simp
 trans x y z h1 h2:=by unfold lt3 cf3 at*;simp at*;omega
 ntrans x y z h1 h2:=by unfold lt3 cf3 at*;simp at*;omega
def x2v :(l:List R3)→y1m l=true→List E3
 | [],_=>[]
 | r::l,h=>⟨r,by simp [y1m] at h;exact h.1⟩::x2v l (by simp [y1m] at h ⊢;exact h.2)
theorem y3t : ∀(l:List R3) (h:y1m l=true),(x2v l h).map Subtype.val=l
 | [],_=>rfl
 | r::l,h=>by rw [x2v,A2,y3t l]
theorem Qx (l:List R3) (h:y1m l=true):(x2v l h).length =l.length:=by
 have:=AN List.length (y3t l h)
 simpa using this
def z1j (l:List R3):List R3:=if h:y1m l=true then (pdq lt3 (x2v l h).toArray 0 l.length (Lib.bitLen l.length) true true).toList.map Subtype.val else l
theorem Qq (l:List R3) (h:y1m l=true):(z1j l).Perm l∧ ∀i j,i<j→j<(z1j l).length →(rd (z1j l) i).a ≤(rd (z1j l) j).a :=by
 have hp:=pdq_sorts lt3 swo3 (x2v l h).toArray 0 l.length (Lib.bitLen l.length) true true (AA _) (by simp [Qx]) (Or.inl rfl);obtain ⟨⟨h1,h2,h3⟩,h4⟩:=hp;have e:z1j l=(pdq lt3 (x2v l h).toArray 0 l.length (Lib.bitLen l.length) true true).toList.map Subtype.val:=by unfold z1j;rw [dif_pos h]
 generalize pdq lt3 (x2v l h).toArray 0 l.length (Lib.bitLen l.length) true true=d at*;have hs:d.size=l.length:=by rw [h1];simp [Qx]
 constructor
 ·rw [e];have x1:(d.extract 0 l.length).toList =d.toList:=by rw [←hs];simp
  have x2:((x2v l h).toArray.extract 0 l.length).toList =x2v l h:=by rw [show l.length=(x2v l h).toArray.size by simp [Qx]];simp
  rw [x1,x2] at h3;have:=h3.map Subtype.val;rw [y3t] at this;exact this
 ·intro i j hij hj;rw [e] at hj ⊢;have hj':j<d.size:=by simpa using hj
  have:=h4 i j (AA _) hij (by omega);rw [getElem!_pos d i (by omega),getElem!_pos d j hj'] at this;rw [Xz (by simp;omega),Xz hj];simp only [List.getElem_map,Array.getElem_toList];unfold lt3 cf3 at this;have:=AX this;omega
open Go.RowKit Go.Shelf
variable {P:Program} {ρ:Rho}
def valOf :AVal→Value
 | .int k n=>.int k n
 | .bool b=>.bool b
 | _=>.tuple #[]
def x9w :AVal→Bool
 | .int _ _=>true
 | .bool _=>true
 | _=>false
theorem v0m {a:AVal} (h:x9w a=true):Zt ρ a (valOf a):=by
 cases a <;> first
  | exact .int _ _
  | exact .bool _
  | (simp [x9w] at h;done)
theorem v3b {a:AVal} {v:Value} (h:x9w a=true) (hv:Zt ρ a v):v=valOf a:=by
 cases hv <;> first
  | rfl
  | (simp [x9w] at h;done)
class u8k (α:Type) extends Xk α where
 num: ∀a:α,(cells a).all x9w=true
instance : u8k R2 where num _:=rfl
instance : u8k R3 where num _:=rfl
instance : u8k R4 where num _:=rfl
instance : u8k R6 where num _:=rfl
instance {α :Type} [Xk α]:Inhabited α:=⟨Xk.d⟩
section
variable {α:Type} [u8k α]
def w8z (a:α):List Value:=(Xk.cells a).map valOf
theorem w0v (a:α):(w8z a).length =Xk.w α:=by rw [w8z,Bg,Xk.len]
theorem w4x (L:List α) (t:Nat) (h:t<L.length*Xk.w α):(flatK w8z (Xk.w α) L.toArray)[t]? =(Xk.cells (rd L (t / Xk.w α)))[t %Xk.w α]?.map valOf:=by
 have hw:=Xk.pos (α:=α);have hq:t / Xk.w α<L.length:=A9 (by grind);have hj:t %Xk.w α<Xk.w α:=Bk _ hw
 grind [flatK,w8z,Xz,Xk.len]
theorem v2h (L:List α) (N t:Nat) (h:t<N*Xk.w α):(Yk N (Zz L))[t]? =(Xk.cells (rd L (t / Xk.w α)))[t %Xk.w α]? :=by have hw:=Xk.pos (α:=α);have:=Wi (get:=Zz L) (sz:=Xk.w α) N (fun _ _=>Xk.len _) (t / Xk.w α) (t %Xk.w α) (A9 (by grind)) (Bk _ hw);rw [show t / Xk.w α*Xk.w α+t %Xk.w α=t by rw [Bv];exact Bn t _] at this;exact this
theorem z7m (L:List α) (N:Nat):(Yk N (Zz L)).length =N*Xk.w α:=Ym N fun _ _=>Xk.len _
theorem y5q (w:World) (n blk off:Nat) (d:Array Value) (os:Array Obj) (k:Nat) (hk:k<w.heap.size):
  (grow (putRow id (Go.Sort.ahead w n) blk off d) os).heap[k]? =if k=blk then (w.heap[k]?).map (onCells (putCells id off d)) else w.heap[k]? :=by
 show (((Go.Sort.ahead w n).heap.modify blk (onCells (putCells id off d)))++os)[k]? =_;rw [Array.getElem?_append_left (by simp_all),Array.getElem?_modify];show (if blk=k then _ else _)=_;by_cases h:k=blk
 ·simp_all
 ·rw [AF (fun e=>h e.symm),AF h];rfl
def w4y (α:Type) [Xk α] (srt:List α→List α) (bnd:List α→Bool) (g:FuncId) (args:List AVal) (mem:Mem):Option (AVal×Nat×ABlk×Bool):=match args with
 | [.sla b sz off n cap,.fn f []]=>bif Nat.beq f g then match Yf mem b with
  | some ⟨_,ty,some A⟩=>some (.tup [],b,⟨Yk A.n (Zz (srt (lst α n A.get))),ty,some ⟨Xk.w α,A.n,Zz (srt (lst α n A.get))⟩⟩,
    Nat.beq sz (Xk.w α)&&(Nat.beq A.sz (Xk.w α)&&(Nat.beq off 0&&((decide (n=A.n)&&(isT α n A.get&&decide (n<4611686018427387904)))&&bnd (lst α n A.get)))))
  | _=>none
  else none
 | _=>none
theorem v5t {f g:FuncId} {srt:List α→List α} {bnd:List α→Bool} (hsl: ∀L,(srt L).length =L.length)
  (hC: ∀(blk off cap:Nat) (L:List α) (w:World),bnd L=true→HoldsK w8z (Xk.w α) w blk off L.toArray→blk<w.heap.size→L.length<4611686018427387904→
   Calls P f #[.slice (some ⟨blk,off,none⟩) L.length cap,.func (.func g) #[] #[]] w fun e w'=>e=.returned (.tuple #[])∧ ∃n os,w'=sortWorldK w8z (Xk.w α) w blk off n (srt L).toArray os)
  (hN: ∀(p:Option Addr) (cap:Nat) (fv:Value) (w:World),Calls P f #[.slice p 0 cap,fv] w fun e w'=>e=.returned (.tuple #[])∧w'=w):x6a P f (w4y α srt bnd g):=by
 intro args mem v b blk h fJ ρ next floor vals w hfl dI dF
 have hw0:=Xk.pos (α:=α);unfold w4y at h;split at h
 ·rename_i b0 sz off n cap f0;obtain ⟨hfg,h'⟩:=z0f h;clear h;obtain rfl:=Aj hfg;have h:=h';clear h';split at h
  ·rename_i cells ty A hm;obtain ⟨asz,an,get⟩:=A;simp only [Ae,Ad,Ac] at h;obtain ⟨rfl,rfl,rfl,h1,h2,h3,⟨h4,h5,h6⟩,h7⟩:=h;have g1:=Aj h1;have g2:=Aj h2;have g3:=Aj h3;have g4:n=an:=Av h4;have h6:n<4611686018427387904:=Av h6;have g2:asz=Xk.w α:=g2;subst g1;subst g2;subst g3;subst g4;have h7:bnd (lst α n get.get)=true:=h7;have dN:=w4o h5;have dN: ∀i,i<n→get.get i=Zz (lst α n get.get) i:=dN;have hrows:Yk n get.get=Yk n (Zz (lst α n get.get)):=z9i n dN;obtain ⟨u,hu,hvals⟩: ∃u,Zt ρ (.sla b0 (Xk.w α) 0 n cap) u∧vals= #[u,.func (.func f0) #[] #[]]:=by
    obtain ⟨vl⟩:=vals;cases dI with
    | cons q1 q2=>cases q2 with
     | cons q3 q4=>
      cases q4;cases q3 with
      | fn _ _ cvs hl _=>
       grind
   subst hvals;have hlt:b0<next:=by
    rcases A6 b0 next with q | q
    ·exact q
    ·have:=dF.bd b0 q;grind
   show Calls P f _ w _;have hAget:(Arr.get ⟨Xk.w α,n,get⟩)=get.get:=rfl;rw [hAget] at*;generalize hI:lst α n get.get=I at*;have hIl:I.length=n:=by rw [←hI];exact y9e _ _
   generalize hL:srt I=L;have hLl:L.length=n:=by grind
   have hnn:ρ b0=none→ ∀cs ty',Yf mem b0≠some ⟨cs,ty',none⟩:=fun _ cs ty' e=>by grind
   cases hu with
   | sla _ _ _ _ _ l cc e hc dG=>
    have hbk:=dF.blk b0 l _ e hm;obtain ⟨har,_,_⟩:=hbk.arr _ rfl;have har:cells=Yk n get.get:=har;rw [hrows] at har;subst har;obtain ⟨cur,el,hh,hsz,dK⟩:=hbk.cells;simp only [z7m] at dK;have htot:=hbk.tot;have hln:=hbk.n;simp only [z7m] at hln;have eH: ∀t,t<n*Xk.w α→cur[l.base+t]? =(Xk.cells (rd I (t / Xk.w α)))[t %Xk.w α]?.map valOf:=fun t ht=>by
     obtain ⟨v,e1,e2⟩:=dK t ht;have hj:t %Xk.w α<Xk.w α:=Bk _ hw0;have hl2:t %Xk.w α<(Xk.cells (rd I (t / Xk.w α))).length :=by rw [Xk.len];exact hj
     have e3:=v2h I n t ht
     grind [v3b,u8k.num]
    have eN:=dF.real b0 l e;have hH:HoldsK w8z (Xk.w α) w l.blk (l.base+0*Xk.w α) I.toArray:=fun j hj=>by
     have hj:j<n*Xk.w α:=(by simp_all);have hs:j<(flatK w8z (Xk.w α) I.toArray).size :=(by grind);have e1:=w4x I j (by grind)
     grind [World.cell?,World.frozen?]
    have dQ:=hC l.blk (l.base+0*Xk.w α) cc I w h7 hH eN (by omega);rw [hIl,hL] at dQ;refine dQ.mono fun e' w' ⟨he,q,os,hw'⟩=>⟨_,he,?_,?_,?_⟩
    ·exact .tup [] #[] rfl fun i h1 h2=>absurd h1 (AJ _)
    ·subst hw';refine Rel.setArr ?_ ⟨Xk.w α,n,.flat (Zz L)⟩ rfl hw0 fun _ _=>Xk.len _;refine Rel.rewritten dF e hm (by simp only [z7m]) (fun k hk hne=> ?_) ?_ ?_
     ·exact (y5q _ _ _ _ _ _ _ hk).trans (AF hne)
     ·show _≤(((Go.Sort.ahead w q).heap.modify _ _)++os).size;simp_all
     ·refine ⟨putCells id (l.base+0*Xk.w α) (flatK w8z (Xk.w α) L.toArray) cur,el,?_,?_,fun i hi=> ?_⟩
      ·refine (y5q _ _ _ _ _ _ _ eN).trans ?_;rw [AK rfl,hh];rfl
      ·grind [putCells]
      ·rw [z7m] at hi;have hj:i %Xk.w α<Xk.w α:=Bk _ hw0;have hl2:i %Xk.w α<(Xk.cells (rd L (i / Xk.w α))).length :=by rw [Xk.len];exact hj
       have hl3:i %Xk.w α<(Xk.cells (rd I (i / Xk.w α))).length :=(by grind);have e1:=w4x L i (by grind);rw [Au hl2,Option.map_some] at e1;have hs:i<(flatK w8z (Xk.w α) L.toArray).size :=(by grind);rw [Br hs] at e1;have e3:=v2h L n i hi;rw [Au (by grind),Au hl2] at e3;refine ⟨valOf (Xk.cells (rd L (i / Xk.w α)))[i %Xk.w α],?_,?_⟩
       ·simp_all [putCells]
       grind [v0m,u8k.num]
    ·subst hw';refine Ev.rewritten dF _ (fun l' _=>hfl) hnn (fun k hk hne=> ?_) ?_ rfl rfl rfl
     ·exact (y5q _ _ _ _ _ _ _ hk).trans (AF (hne l e))
     ·show _≤(((Go.Sort.ahead w q).heap.modify _ _)++os).size;simp_all
   | slan=>
    have hI0:I=[]:=BA hIl;have hL0:L=[]:=BA hLl;refine (hN none 0 _ w).mono fun e' w' ⟨he,hw'⟩=>⟨_,he,?_,?_,?_⟩
    ·exact .tup [] #[] rfl fun i h1 h2=>absurd h1 (AJ _)
    ·subst hw';refine dF.reblk hm fun l hρ hbk=> ?_;obtain ⟨har,eY,_⟩:=hbk.arr _ rfl;have har:cells=Yk 0 get.get:=har;subst har;exact ⟨hbk.n,hbk.tot,fun B hB=>by obtain rfl:=Ag hB;exact ⟨rfl,hw0,fun i hi=>absurd hi (AJ _)⟩,hbk.cells⟩
    grind [Ev.rewritten]
  ·cases h
 ·cases h
end
def Specs.withE (S:Specs) (f:FuncId) (F:List AVal→Mem→Option (AVal×Nat×ABlk×Bool)):Specs:=fun g=>bif Nat.beq g f then some (.eff F) else S g
theorem x0b {P:Program} {S:Specs} (hS:Zv P S) {f:FuncId} {F:List AVal→Mem→Option (AVal×Nat×ABlk×Bool)} (hf:(P.funcs[f]?).any (fun fn=>fn.body.isSome)=true) (hF:x6a P f F):Zv P (S.withE f F):=by
 intro g G hg;unfold Specs.withE at hg;cases hgf:Nat.beq g f with
 | false=>rw [hgf] at hg;exact hS g G hg
 | true=>
  rw [hgf] at hg;obtain rfl:Spec.eff F=G:=Ag hg;obtain rfl:g=f:=Aj hgf;refine ⟨?_,hF⟩
  grind
end Go.Am
namespace Go.Proofs
open Go.Proofs.Tryz
open Go.Shelf
def Tryz.lays189_ren :Go.Shelf.Ren:=⟨fun | 189=>111 | 125=>151 | 257=>150 | 128=>174 | 129=>175 | 294=>165 | 295=>166 | 296=>167 | 297=>168 | 298=>169 | 299=>170 | 216=>171 | 300=>172 | 301=>173 | 328=>185 | 329=>186 | 330=>187 | 331=>188 | 332=>189 | 215=>190 | 343=>196 | n=>n,fun | 28=>125 | 3=>3 | 46=>191 | 0=>0 | 51=>216 | 53=>218 | 4=>4 | 183=>208 | 182=>207 | 131=>213 | 5=>5 | 9=>9 | 218=>228 | 222=>232 | 228=>241 | 229=>119 | n=>n,fun | n=>n⟩
theorem Tryz.lays189 :Go.Proofs.Lays.n189 prog Tryz.lays189_ren:={
 mixed:=by kernel_rfl
 f125:=Tryz.func151.trans (congrArg some (by kernel_rfl))
 f128:=Tryz.func174.trans (congrArg some (by kernel_rfl))
 f129:=Tryz.func175.trans (congrArg some (by kernel_rfl))
 f189:=Tryz.func111.trans (congrArg some (by kernel_rfl))
 f215:=Tryz.func190.trans (congrArg some (by kernel_rfl))
 f216:=Tryz.func171.trans (congrArg some (by kernel_rfl))
 f257:=Tryz.func150.trans (congrArg some (by kernel_rfl))
 f294:=Tryz.func165.trans (congrArg some (by kernel_rfl))
 f295:=Tryz.func166.trans (congrArg some (by kernel_rfl))
 f296:=Tryz.func167.trans (congrArg some (by kernel_rfl))
 f297:=Tryz.func168.trans (congrArg some (by kernel_rfl))
 f298:=Tryz.func169.trans (congrArg some (by kernel_rfl))
 f299:=Tryz.func170.trans (congrArg some (by kernel_rfl))
 f300:=Tryz.func172.trans (congrArg some (by kernel_rfl))
 f301:=Tryz.func173.trans (congrArg some (by kernel_rfl))
 f328:=Tryz.func185.trans (congrArg some (by kernel_rfl))
 f329:=Tryz.func186.trans (congrArg some (by kernel_rfl))
 f330:=Tryz.func187.trans (congrArg some (by kernel_rfl))
 f331:=Tryz.func188.trans (congrArg some (by kernel_rfl))
 f332:=Tryz.func189.trans (congrArg some (by kernel_rfl))
 f343:=Tryz.func196.trans (congrArg some (by kernel_rfl))
 t0:=Tryz.underlying0
 a0:=Tryz.isAgg0
 z0:=Tryz.sizeOf0
 v0:=Tryz.zeroValue0
 t3:=Tryz.underlying3
 a3:=Tryz.isAgg3
 z3:=Tryz.sizeOf3
 v3:=Tryz.zeroValue3
 t4:=Tryz.underlying4
 a4:=Tryz.isAgg4
 z4:=Tryz.sizeOf4
 v4:=Tryz.zeroValue4
 t5:=Tryz.underlying5
 a5:=Tryz.isAgg5
 z5:=Tryz.sizeOf5
 v5:=Tryz.zeroValue5
 t9:=Tryz.underlying9
 a9:=Tryz.isAgg9
 z9:=Tryz.sizeOf9
 v9:=Tryz.zeroValue9
 t28:=Tryz.underlying125
 a28:=Tryz.isAgg125
 z28:=Tryz.sizeOf125
 v28:=Tryz.zeroValue125
 t46:=Tryz.underlying191
 a46:=Tryz.isAgg191
 z46:=Tryz.sizeOf191
 v46:=Tryz.zeroValue191
 t51:=Tryz.underlying216
 a51:=Tryz.isAgg216
 z51:=Tryz.sizeOf216
 v51:=Tryz.zeroValue216
 t53:=Tryz.underlying218
 a53:=Tryz.isAgg218
 z53:=Tryz.sizeOf218
 v53:=Tryz.zeroValue218
 t131:=Tryz.underlying213
 a131:=Tryz.isAgg213
 z131:=Tryz.sizeOf213
 v131:=Tryz.zeroValue213
 t182:=Tryz.underlying207
 a182:=Tryz.isAgg207
 z182:=Tryz.sizeOf207
 v182:=Tryz.zeroValue207
 t183:=Tryz.underlying208
 a183:=Tryz.isAgg208
 z183:=Tryz.sizeOf208
 v183:=Tryz.zeroValue208
 t218:=Tryz.underlying228
 a218:=Tryz.isAgg228
 z218:=Tryz.sizeOf228
 v218:=Tryz.zeroValue228
 t222:=Tryz.underlying232
 a222:=Tryz.isAgg232
 z222:=Tryz.sizeOf232
 v222:=Tryz.zeroValue232
 t228:=Tryz.underlying241
 a228:=Tryz.isAgg241
 z228:=Tryz.sizeOf241
 v228:=Tryz.zeroValue241
 t229:=Tryz.underlying119
 a229:=Tryz.isAgg119
 z229:=Tryz.sizeOf119
 v229:=Tryz.zeroValue119}
open Go.Sort Go.RowKit in
theorem Tryz.slices_Sort_int (blk off cap:Nat) (zs:List Int) (w:World) (hH:Holds (Value.int .i64) w blk off zs.toArray) (eN:blk<w.heap.size) (hsz:zs.length<4611686018427387904):
  Calls prog 111 #[.slice (some ⟨blk,off,none⟩) zs.length cap] w fun e w'=>
   e=.returned (.tuple #[])∧ ∃n os,w'=grow (putRow (Value.int .i64) (Sort.ahead w n) blk off (zs.mergeSort fun x y=>decide (x≤y)).toArray) os:=Any.slices_Sort_int Tryz.lays189 blk off cap zs w hH eN hsz
def Tryz.laysNm220_ren :Go.Shelf.Ren:=⟨fun | 20=>113 | n=>n,fun | 22=>125 | 3=>3 | 4=>4 | 0=>0 | n=>n,fun | n=>n⟩
theorem Tryz.laysNm220 :Go.Proofs.Lays2.n20 prog Tryz.laysNm220_ren:={
 mixed:=by kernel_rfl
 f20:=Tryz.func113.trans (congrArg some (by kernel_rfl))
 t0:=Tryz.underlying0
 a0:=Tryz.isAgg0
 z0:=Tryz.sizeOf0
 v0:=Tryz.zeroValue0
 t3:=Tryz.underlying3
 a3:=Tryz.isAgg3
 z3:=Tryz.sizeOf3
 v3:=Tryz.zeroValue3
 t4:=Tryz.underlying4
 a4:=Tryz.isAgg4
 z4:=Tryz.sizeOf4
 v4:=Tryz.zeroValue4
 t22:=Tryz.underlying125
 a22:=Tryz.isAgg125
 z22:=Tryz.sizeOf125
 v22:=Tryz.zeroValue125
 i3:=by kernel_rfl}
open Go.RowKit Go.Lib Go.Sort in
theorem Tryz.slices_Compact_int (blk off cap:Nat) (zs:List Int) (w:World) (hH:Holds (Value.int .i64) w blk off zs.toArray) (hsz:zs.length≤9223372036854775807) (dM:zs.length≤cap):
  Calls prog 113 #[.slice (some ⟨blk,off,none⟩) zs.length cap] w fun e w'=>e=.returned (.slice (some ⟨blk,off,none⟩) (Lib.compact zs).length cap)∧ ∃q,w'=putRow (Value.int .i64) (Sort.ahead w q) blk off (Lib.compact zs++List.replicate (zs.length - (Lib.compact zs).length) 0).toArray :=Any.slices_Compact_int Tryz.laysNm220 blk off cap zs w hH hsz dM
open Go.RowKit Go.Lib Go.Sort in
theorem Tryz.slices_Compact_int_empty (a:Option Addr) (cap:Nat) (w:World):
  Calls prog 113 #[.slice a 0 cap] w fun e w'=>e=.returned (.slice a 0 cap)∧w'=w:=Any.slices_Compact_int_empty Tryz.laysNm220 a cap w
open Go.RowKit Go.Sort in
theorem Tryz.slices_Sort_int_none (p:Option Addr) (cap:Nat) (w:World):
  Calls prog 111 #[.slice p 0 cap] w fun e w'=>e=.returned (.tuple #[])∧w'=w:=Any.slices_Sort_int_none Tryz.lays189 p cap w
def Tryz.sortEnd_ren :Go.Shelf.Ren:=⟨fun | 6=>193 | 15=>151 | 14=>197 | 28=>174 | 29=>175 | 20=>199 | 21=>200 | 22=>201 | 23=>202 | 24=>203 | 25=>204 | 26=>205 | 27=>206 | 46=>207 | 47=>186 | 48=>187 | 49=>208 | 50=>209 | 57=>210 | n=>n,fun | 22=>236 | 24=>227 | 25=>238 | 3=>3 | 39=>191 | 0=>0 | 53=>216 | 55=>218 | 4=>4 | 46=>208 | 45=>207 | 50=>213 | 5=>5 | 9=>9 | 66=>228 | 70=>232 | 76=>241 | 77=>119 | n=>n,fun | n=>n⟩
theorem Tryz.sortEnd :Go.Proofs.SlLaysF0.n6 prog Tryz.sortEnd_ren:={
 mixed:=by kernel_rfl
 f6:=⟨Tryz.f193.name,by decide,Tryz.func193.trans (congrArg some (by kernel_rfl))⟩
 f14:=⟨Tryz.f197.name,by decide,Tryz.func197.trans (congrArg some (by kernel_rfl))⟩
 f15:=Tryz.func151.trans (congrArg some (by kernel_rfl))
 f20:=⟨Tryz.f199.name,by decide,Tryz.func199.trans (congrArg some (by kernel_rfl))⟩
 f21:=⟨Tryz.f200.name,by decide,Tryz.func200.trans (congrArg some (by kernel_rfl))⟩
 f22:=⟨Tryz.f201.name,by decide,Tryz.func201.trans (congrArg some (by kernel_rfl))⟩
 f23:=⟨Tryz.f202.name,by decide,Tryz.func202.trans (congrArg some (by kernel_rfl))⟩
 f24:=⟨Tryz.f203.name,by decide,Tryz.func203.trans (congrArg some (by kernel_rfl))⟩
 f25:=⟨Tryz.f204.name,by decide,Tryz.func204.trans (congrArg some (by kernel_rfl))⟩
 f26:=⟨Tryz.f205.name,by decide,Tryz.func205.trans (congrArg some (by kernel_rfl))⟩
 f27:=⟨Tryz.f206.name,by decide,Tryz.func206.trans (congrArg some (by kernel_rfl))⟩
 f28:=Tryz.func174.trans (congrArg some (by kernel_rfl))
 f29:=Tryz.func175.trans (congrArg some (by kernel_rfl))
 f46:=⟨Tryz.f207.name,by decide,Tryz.func207.trans (congrArg some (by kernel_rfl))⟩
 f47:=Tryz.func186.trans (congrArg some (by kernel_rfl))
 f48:=Tryz.func187.trans (congrArg some (by kernel_rfl))
 f49:=⟨Tryz.f208.name,by decide,Tryz.func208.trans (congrArg some (by kernel_rfl))⟩
 f50:=⟨Tryz.f209.name,by decide,Tryz.func209.trans (congrArg some (by kernel_rfl))⟩
 f57:=⟨Tryz.f210.name,by decide,Tryz.func210.trans (congrArg some (by kernel_rfl))⟩
 t0:=Tryz.underlying0
 a0:=Tryz.isAgg0
 z0:=Tryz.sizeOf0
 v0:=Tryz.zeroValue0
 t3:=Tryz.underlying3
 a3:=Tryz.isAgg3
 z3:=Tryz.sizeOf3
 v3:=Tryz.zeroValue3
 t4:=Tryz.underlying4
 a4:=Tryz.isAgg4
 z4:=Tryz.sizeOf4
 v4:=Tryz.zeroValue4
 t5:=Tryz.underlying5
 a5:=Tryz.isAgg5
 z5:=Tryz.sizeOf5
 v5:=Tryz.zeroValue5
 t9:=Tryz.underlying9
 a9:=Tryz.isAgg9
 z9:=Tryz.sizeOf9
 v9:=Tryz.zeroValue9
 t22:=Tryz.underlying236
 a22:=Tryz.isAgg236
 z22:=Tryz.sizeOf236
 v22:=Tryz.zeroValue236
 t25:=Tryz.underlying238
 a25:=Tryz.isAgg238
 z25:=Tryz.sizeOf238
 v25:=Tryz.zeroValue238
 t39:=Tryz.underlying191
 a39:=Tryz.isAgg191
 z39:=Tryz.sizeOf191
 v39:=Tryz.zeroValue191
 t45:=Tryz.underlying207
 a45:=Tryz.isAgg207
 z45:=Tryz.sizeOf207
 v45:=Tryz.zeroValue207
 t46:=Tryz.underlying208
 a46:=Tryz.isAgg208
 z46:=Tryz.sizeOf208
 v46:=Tryz.zeroValue208
 t50:=Tryz.underlying213
 a50:=Tryz.isAgg213
 z50:=Tryz.sizeOf213
 v50:=Tryz.zeroValue213
 t53:=Tryz.underlying216
 a53:=Tryz.isAgg216
 z53:=Tryz.sizeOf216
 v53:=Tryz.zeroValue216
 t55:=Tryz.underlying218
 a55:=Tryz.isAgg218
 z55:=Tryz.sizeOf218
 v55:=Tryz.zeroValue218
 t66:=Tryz.underlying228
 a66:=Tryz.isAgg228
 z66:=Tryz.sizeOf228
 v66:=Tryz.zeroValue228
 t70:=Tryz.underlying232
 a70:=Tryz.isAgg232
 z70:=Tryz.sizeOf232
 v70:=Tryz.zeroValue232
 t76:=Tryz.underlying241
 a76:=Tryz.isAgg241
 z76:=Tryz.sizeOf241
 v76:=Tryz.zeroValue241
 t77:=Tryz.underlying119
 a77:=Tryz.isAgg119
 z77:=Tryz.sizeOf119
 v77:=Tryz.zeroValue119}
open Go.RowKit Go.Lib Go.Sort
theorem Tryz.cmpEnd (a b c a' b' c':Int) (h: -1000000000≤a∧a≤1000000000) (h': -1000000000≤a'∧a'≤1000000000) (W:World):
  Calls prog 194 #[.agg #[.int .i64 a,.int .i64 b,.int .i64 c],.agg #[.int .i64 a',.int .i64 b',.int .i64 c']] W fun e w'=>e=.returned (.int .i64 (a - a'))∧ ∃q os',w'=grow (W.drewN q) os':=by
 go_enter Tryz.func194,Tryz.ntmps194
 go_wp2
 go_ret
 exact ⟨rfl,0,_,by rw [alloc_eq_grow,alloc_eq_grow,grow_grow];rfl⟩
end Go.Proofs
end
